/- Walks on texts: RecoverLog by both. -/
import Derived.Test.YtfdhicojnbicgaaDoorTn
namespace Go.Proofs.YtfdhicojnbicgaaDoor
open Go.RowKit
set_option linter.unusedVariables false

def logV (d p : ByteArray) (n : Int) : Value := .agg #[.string d, .string p, .int .i64 n]

theorem three_set {w : World} {B : Nat} {a b c : Value} (x y z : Value) (h0 : w.cell? ⟨B, 0, none⟩ = some a) (h1 : w.cell? ⟨B, 1, none⟩ = some b) (h2 : w.cell? ⟨B, 2, none⟩ = some c) :
    (w.setCell ⟨B, 0, none⟩ x).cell? ⟨B, 0, none⟩ = some x ∧ ((w.setCell ⟨B, 0, none⟩ x).setCell ⟨B, 1, none⟩ y).cell? ⟨B, 0, none⟩ = some x ∧ ((w.setCell ⟨B, 0, none⟩ x).setCell ⟨B, 1, none⟩ y).cell? ⟨B, 1, none⟩ = some y ∧
    (((w.setCell ⟨B, 0, none⟩ x).setCell ⟨B, 1, none⟩ y).setCell ⟨B, 2, none⟩ z).cell? ⟨B, 0, none⟩ = some x ∧ (((w.setCell ⟨B, 0, none⟩ x).setCell ⟨B, 1, none⟩ y).setCell ⟨B, 2, none⟩ z).cell? ⟨B, 1, none⟩ = some y ∧ (((w.setCell ⟨B, 0, none⟩ x).setCell ⟨B, 1, none⟩ y).setCell ⟨B, 2, none⟩ z).cell? ⟨B, 2, none⟩ = some z := by
  obtain ⟨s0, s1, s2⟩ := two_set x y h0 h1
  have n02 : (⟨B, 0, none⟩ : Addr) ≠ ⟨B, 2, none⟩ := by simp
  have n12 : (⟨B, 1, none⟩ : Addr) ≠ ⟨B, 2, none⟩ := by simp
  have e2 : ((w.setCell ⟨B, 0, none⟩ x).setCell ⟨B, 1, none⟩ y).cell? ⟨B, 2, none⟩ = some c := by
    rw [World.cell?_setCell_other (h := n12), World.cell?_setCell_other (h := n02)]; exact h2
  exact ⟨s0, s1, s2, (World.cell?_setCell_other (h := n02.symm) ..).trans s1, (World.cell?_setCell_other (h := n12.symm) ..).trans s2, World.cell?_setCell_same' _ _ _ (by rw [e2]; rfl)⟩

theorem below_three {w w1 : World} {B : Nat} (h : Below B w w1) (x y z : Value) : Below B w (((w1.setCell ⟨B, 0, none⟩ x).setCell ⟨B, 1, none⟩ y).setCell ⟨B, 2, none⟩ z) :=
  Below.setCell (p := ⟨B, 2, none⟩) (below_two h x y) (Nat.le_refl _) _

theorem zero_ends (r : List (Tx.Rec × Nat)) : (Value.int .i64 0 :: (endsL r).map (Value.int .i64))[r.length]? = some (.int .i64 (Tx.total r : Nat)) := by
  cases h : r.length with
  | zero =>
    have : r = [] := List.eq_nil_of_length_eq_zero h
    subst this; rfl
  | succ n =>
    rw [List.getElem?_cons_succ, List.getElem?_map]
    unfold endsL
    rw [List.getElem?_map, h]
    simp only [Nat.lt_succ_self, List.getElem?_range, Option.map_some]
    rw [← h, List.take_length]

theorem big_end {s : ByteArray} : Tx.total (Tx.rd 60 (bs s)) ≤ s.size := by rw [← bs_len]; exact (Tx.rd_total 60 (bs s)).1

set_option maxRecDepth 100000 in
set_option maxHeartbeats 2000000 in
theorem recover_big (s : ByteArray) (w : World) (hs : 30000 < s.size) (hm : s.size ≤ 9223372036854775807) :
    Calls Tryd.prog 19 #[.string s] w fun e w' => e = .returned (.tuple #[logV ⟨#[]⟩ ⟨#[]⟩ 0, .int .i64 0, .bool false]) ∧ Below w.heap.size w w' := by
  unfold logV
  go_enter Tryd.func19, Tryd.ntmps19
  go_wp2
  refine bodyPost_ret (v := .tuple #[.agg #[.string ⟨#[]⟩, .string ⟨#[]⟩, .int .i64 0], .int .i64 0, .bool false]) (by simp [results, Tryd.results19, go_sem]) rfl ⟨rfl, ?_⟩
  (repeat (first | exact Below.refl _ _ | assumption | refine Below.setCell ?_ (by first | omega | (simp; done) | (simp; omega)) _ | refine Below.alloc ?_ (by first | omega | (simp; done) | (simp; omega)) _ | refine Below.drew ?_ | refine below_drewN ?_ _))

set_option maxRecDepth 100000 in
set_option maxHeartbeats 2000000 in
theorem sRecover_big (s : ByteArray) (w : World) (hs : 30000 < s.size) (hm : s.size ≤ 9223372036854775807) :
    Calls Tryd.prog 18 #[.string s] w fun e w' => e = .returned (.tuple #[logV ⟨#[]⟩ ⟨#[]⟩ 0, .int .i64 0, .bool false]) ∧ Below w.heap.size w w' := by
  unfold logV
  go_enter Tryd.func18, Tryd.ntmps18
  go_wp2
  refine bodyPost_ret (v := .tuple #[.agg #[.string ⟨#[]⟩, .string ⟨#[]⟩, .int .i64 0], .int .i64 0, .bool false]) (by simp [results, Tryd.results18, go_sem]) rfl ⟨rfl, ?_⟩
  (repeat (first | exact Below.refl _ _ | assumption | refine Below.setCell ?_ (by first | omega | (simp; done) | (simp; omega)) _ | refine Below.alloc ?_ (by first | omega | (simp; done) | (simp; omega)) _ | refine Below.drew ?_ | refine below_drewN ?_ _))

def recD (s : ByteArray) : ByteArray := s.extract 0 (Tx.total (Tx.rd 60 (bs s)))

set_option maxRecDepth 100000 in
set_option maxHeartbeats 4000000 in
theorem recover_any (s : ByteArray) (w : World) (hs : s.size ≤ 30000) (ht : Tab w) :
    Calls Tryd.prog 19 #[.string s] w fun e w' => e = .returned (.tuple #[logV (recD s) ⟨#[]⟩ ((Tx.rd 60 (bs s)).length : Nat), .int .i64 (Tx.total (Tx.rd 60 (bs s)) : Nat), .bool true]) ∧ Below w.heap.size w w' := by
  have HT := Lib.hid ht; clear ht
  have HR := Lib.hid (fun w ht => read_any s w (by omega) ht)
  have hend := big_end (s := s)
  have h60 := Tx.rd_len 60 (bs s)
  have HZE := Lib.hid (zero_ends (Tx.rd 60 (bs s)))
  unfold logV recD
  go_enter Tryd.func19, Tryd.ntmps19
  go_wp2_with fail
  refine (HR.out _ (HT.out.below (by (repeat (first | exact Below.refl _ _ | assumption | refine Below.setCell ?_ (by first | omega | (simp; done) | (simp; omega)) _ | refine Below.alloc ?_ (by first | omega | (simp; done) | (simp; omega)) _ | refine Below.drew ?_ | refine below_drewN ?_ _))))).mono ?_
  rintro e w1 ⟨a1, a2, c1, c2, rfl, htwo, hb1⟩
  have HO := Lib.hid (show w1.ownsRow 0 3 1 _ _ _ from own_mono htwo.2 (Nat.zero_le _))
  have HB1 := Lib.hid (show Below w.heap.size w w1 from Below.trans (by (repeat (first | exact Below.refl _ _ | assumption | refine Below.setCell ?_ (by first | omega | (simp; done) | (simp; omega)) _ | refine Below.alloc ?_ (by first | omega | (simp; done) | (simp; omega)) _ | refine Below.drew ?_ | refine below_drewN ?_ _))) (hb1.mono (by simp)))
  have hz1 : w.heap.size < w1.heap.size := by have := hb1.size; simp at this; omega
  have hc0 : w1.cell? ⟨w.heap.size, 0, none⟩ = some (.string ⟨#[]⟩) := (bcell hb1 (by simp)).trans (alloc_cell 0)
  have hc1 : w1.cell? ⟨w.heap.size, 1, none⟩ = some (.string ⟨#[]⟩) := (bcell hb1 (by simp)).trans (alloc_cell 1)
  have hc2 : w1.cell? ⟨w.heap.size, 2, none⟩ = some (.int .i64 0) := (bcell hb1 (by simp)).trans (alloc_cell 2)
  have hf : ∀ o, w1.frozen? ⟨w.heap.size, o, none⟩ = false := fun o => (hb1.frozen (p := ⟨w.heap.size, o, none⟩) (by simp)).trans (by simp [go_sem])
  clear hb1 htwo
  generalize hN : (Tx.rd 60 (bs s)).length = N at *
  generalize hE : Tx.total (Tx.rd 60 (bs s)) = E at *
  have HN := Lib.hid hN; have HE := Lib.hid hE; clear hN hE
  have E0 := Lib.hid (own_lit (w := w1) (e := 3) (size := 1) #[.int .i64 0] 1 (by omega) rfl)
  have HO1 := Lib.hid (own_below HO.out (w' := w1.alloc (.cells #[.int .i64 0] 3)) (Nat.le_refl _) ((Below.refl _ _).alloc (Nat.le_refl _) _))
  have hle : w1.heap.size ≤ (w1.alloc (.cells #[.int .i64 0] 3)).heap.size := by simp
  have hsm : 1 + N ≤ 1099511627776 := by omega
  go_wp2_with (at_builtin; refine wpList_appL slI rfl (.tmp 17) (.tmp 18) rfl rfl E0.out rfl HO1.out (by simp [Value.oneCell']) hsm hle ?_; intro v' w2 hown2 hg2 ht2; obtain ⟨a', c', rfl⟩ := own_slice hown2; obtain ⟨g, rfl, hgc, _, hgl⟩ := own_at hown2 (i := N) HZE.out; have hb2 : Below w1.heap.size w1 w2 := below_app ((Below.refl _ _).alloc (Nat.le_refl _) _) hle E0.out (Nat.le_refl _) hg2; have hd0 := (bcell hb2 hz1).trans hc0; have hd1 := (bcell hb2 hz1).trans hc1; have hd2 := (bcell hb2 hz1).trans hc2; have hf2 : ∀ o, w2.frozen? ⟨w.heap.size, o, none⟩ = false := fun o => (hb2.frozen (p := ⟨w.heap.size, o, none⟩) hz1).trans (hf o); have HB2 := Lib.hid (HB1.out.trans (hb2.mono HB1.out.size)); clear hown2 hg2 ht2 hb2 hc0 hc1 hc2 hf)
  obtain ⟨s0, s1, s2, s3, s4, s5⟩ := three_set (.string (s.extract 0 E)) (.string ⟨#[]⟩) (.int .i64 N) hd0 hd1 hd2
  refine bodyPost_ret (v := .tuple #[.agg #[.string (s.extract 0 E), .string ⟨#[]⟩, .int .i64 N], .int .i64 E, .bool true]) (by simp [results, Tryd.results19, go_sem, s3, s4, s5]) rfl ⟨by rw [HN.out, HE.out], below_three HB2.out _ _ _⟩

set_option maxRecDepth 100000 in
set_option maxHeartbeats 4000000 in
theorem sRecover_any (s : ByteArray) (w : World) (hs : s.size ≤ 30000) :
    Calls Tryd.prog 18 #[.string s] w fun e w' => e = .returned (.tuple #[logV (recD s) ⟨#[]⟩ ((Tx.rd 60 (bs s)).length : Nat), .int .i64 (Tx.total (Tx.rd 60 (bs s)) : Nat), .bool true]) ∧ Below w.heap.size w w' := by
  have HR := Lib.hid (fun w => l25Open_any s w (by omega))
  have hend := big_end (s := s)
  unfold logV recD
  go_enter Tryd.func18, Tryd.ntmps18
  go_wp2_with fail
  refine (HR.out _).mono ?_
  rintro e w1 ⟨a1, c1, rfl, hown, hb1⟩
  have HB1 := Lib.hid (show Below w.heap.size w w1 from Below.trans (by (repeat (first | exact Below.refl _ _ | assumption | refine Below.setCell ?_ (by first | omega | (simp; done) | (simp; omega)) _ | refine Below.alloc ?_ (by first | omega | (simp; done) | (simp; omega)) _ | refine Below.drew ?_ | refine below_drewN ?_ _))) (hb1.mono (by simp)))
  have hz1 : w.heap.size < w1.heap.size := by have := hb1.size; simp at this; omega
  have hc0 : w1.cell? ⟨w.heap.size, 0, none⟩ = some (.string ⟨#[]⟩) := (bcell hb1 (by simp)).trans (alloc_cell 0)
  have hc1 : w1.cell? ⟨w.heap.size, 1, none⟩ = some (.string ⟨#[]⟩) := (bcell hb1 (by simp)).trans (alloc_cell 1)
  have hc2 : w1.cell? ⟨w.heap.size, 2, none⟩ = some (.int .i64 0) := (bcell hb1 (by simp)).trans (alloc_cell 2)
  have hf : ∀ o, w1.frozen? ⟨w.heap.size, o, none⟩ = false := fun o => (hb1.frozen (p := ⟨w.heap.size, o, none⟩) (by simp)).trans (by simp [go_sem])
  clear hb1 hown
  generalize hN : (Tx.rd 60 (bs s)).length = N at *
  generalize hE : Tx.total (Tx.rd 60 (bs s)) = E at *
  have HN := Lib.hid hN; have HE := Lib.hid hE; clear hN hE
  go_wp2_with fail
  obtain ⟨s0, s1, s2, s3, s4, s5⟩ := three_set (.string (s.extract 0 E)) (.string ⟨#[]⟩) (.int .i64 N) hc0 hc1 hc2
  refine bodyPost_ret (v := .tuple #[.agg #[.string (s.extract 0 E), .string ⟨#[]⟩, .int .i64 N], .int .i64 E, .bool true]) (by simp [results, Tryd.results18, go_sem, s3, s4, s5]) rfl ⟨by rw [HN.out, HE.out], below_three HB1.out _ _ _⟩

end Go.Proofs.YtfdhicojnbicgaaDoor
