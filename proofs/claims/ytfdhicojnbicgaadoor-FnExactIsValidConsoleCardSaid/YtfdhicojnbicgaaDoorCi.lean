/- Walks: valid consoles, by both; the law FnExactIsValidConsole. -/
import Derived.Test.YtfdhicojnbicgaaDoorCs
import Derived.Test.YtfdhicojnbicgaaDoorWg
import Derived.Test.YtfdhicojnbicgaaDoorTs
import Derived.Test.YtfdhicojnbicgaaDoorTv
import Derived.Deep.RegionHeld3
namespace Go.Proofs.YtfdhicojnbicgaaDoor
open Go.RowKit
set_option linter.unusedVariables false

def conV (a : Option Addr) (l c : Nat) (d p : ByteArray) (n : Int) : Value := .agg #[.slice a l c, .string d, .string p, .int .i64 n]
structure L4 (w : World) (B : Nat) (x y z v : Value) : Prop where
  c0 : w.cell? ⟨B, 0, none⟩ = some x
  c1 : w.cell? ⟨B, 1, none⟩ = some y
  c2 : w.cell? ⟨B, 2, none⟩ = some z
  c3 : w.cell? ⟨B, 3, none⟩ = some v
  lt : B < w.heap.size
theorem L4.next {w w' : World} {B : Nat} {x y z v : Value} (h : L4 w B x y z v) (hb : Below w.heap.size w w') : L4 w' B x y z v := ⟨(bcell hb h.lt).trans h.c0, (bcell hb h.lt).trans h.c1, (bcell hb h.lt).trans h.c2, (bcell hb h.lt).trans h.c3, Nat.lt_of_lt_of_le h.lt hb.size⟩
theorem L4.mk' (w : World) (x y z v : Value) (t : TypeId) : L4 (w.alloc (.cells #[x, y, z, v] t)) w.heap.size x y z v := ⟨alloc_cell 0, alloc_cell 1, alloc_cell 2, alloc_cell 3, by simp⟩
theorem L4.drew {w : World} {B : Nat} {x y z v : Value} (h : L4 w B x y z v) : L4 w.drew B x y z v := ⟨h.1, h.2, h.3, h.4, h.5⟩

set_option maxHeartbeats 1000000 in
theorem isValidConsole_any (a : Option Addr) (c : Nat) (rs : List (Int × Int)) (d p : ByteArray) (n : Int) (w : World) (hbig : rs.length ≤ 9223372036854775807) (hd : d.size ≤ 1048576) (hp : p.size ≤ 1048576) (ht : Tab w) (h : RecsAt w a rs) :
    Calls Tryd.prog 39 #[conV a rs.length c d p n] w fun e w' => e = .returned (.bool (okRecs rs && Tx.okLog (logOf d p n))) ∧ Below w.heap.size w w' := by
  have HB0 := Lib.hid (below_new w (.cells #[.slice a rs.length c, .string d, .string p, .int .i64 n] 60))
  have HL0 := Lib.hid (L4.mk' w (.slice a rs.length c) (.string d) (.string p) (.int .i64 n) 60)
  have HR := Lib.hid (isValidRecords_any a c rs _ hbig (h.below (Nat.le_refl _) HB0.out))
  have HI := Lib.hid (fun w ht => isValidLog_any d p n w hd hp ht)
  have HT := Lib.hid (Tab.below ht HB0.out)
  clear h ht
  unfold conV logV at *
  cases hq : okRecs rs
  all_goals rw [hq] at HR
  all_goals clear hq
  case false =>
    go_enter Tryd.func39, Tryd.ntmps39
    go_wp2_with fail
    refine HR.out.mono ?_
    rintro e w1 ⟨rfl, hb⟩
    have HB1 := Lib.hid (HB0.out.trans (hb.mono HB0.out.size))
    clear hb
    go_wp2
    go_ret
    exact ⟨rfl, HB1.out⟩
  go_enter Tryd.func39, Tryd.ntmps39
  go_wp2_with fail
  refine HR.out.mono ?_
  rintro e w1 ⟨rfl, hb⟩
  have HB1 := Lib.hid (HB0.out.trans (hb.mono HB0.out.size))
  have HT1 := Lib.hid (HT.out.below hb)
  obtain ⟨c0, c1, c2, c3, _⟩ := HL0.out.next hb
  clear hb
  go_wp2_with fail
  refine (HI.out _ HT1.out).mono ?_
  rintro e w2 ⟨rfl, hb⟩
  have HB2 := Lib.hid (HB1.out.trans (hb.mono HB1.out.size))
  clear hb c0 c1 c2 c3
  go_wp2
  go_ret
  exact ⟨rfl, HB2.out⟩

set_option maxHeartbeats 1000000 in
theorem l26Good_any (a : Option Addr) (c : Nat) (rs : List (Int × Int)) (d p : ByteArray) (n : Int) (w : World) (hbig : rs.length ≤ 9223372036854775807) (hd : d.size ≤ 1048576) (hp : p.size ≤ 1048576) (h : RecsAt w a rs) :
    Calls Tryd.prog 61 #[conV a rs.length c d p n] w fun e w' => e = .returned (.bool (okRecs rs && Tx.okLog (logOf d p n))) ∧ Below w.heap.size w w' := by
  have HB0 := Lib.hid (below_new w (.cells #[.slice a rs.length c, .string d, .string p, .int .i64 n] 60))
  have HL0 := Lib.hid (L4.mk' w (.slice a rs.length c) (.string d) (.string p) (.int .i64 n) 60)
  have HR := Lib.hid (l2Records_any a c rs _ hbig (h.below (Nat.le_refl _) HB0.out))
  have HI := Lib.hid (fun w => l25Log_any d p n w hd hp)
  clear h
  unfold conV logV at *
  cases hq : okRecs rs
  all_goals rw [hq] at HR
  all_goals clear hq
  case false =>
    go_enter Tryd.func61, Tryd.ntmps61
    go_wp2_with fail
    refine HR.out.mono ?_
    rintro e w1 ⟨rfl, rfl⟩
    go_wp2
    go_ret
    exact ⟨rfl, HB0.out⟩
  go_enter Tryd.func61, Tryd.ntmps61
  go_wp2_with fail
  refine HR.out.mono ?_
  rintro e w1 ⟨rfl, rfl⟩
  obtain ⟨c0, c1, c2, c3, _⟩ := HL0.out
  go_wp2_with fail
  refine (HI.out _).mono ?_
  rintro e w2 ⟨rfl, hb⟩
  have HB2 := Lib.hid (HB0.out.trans (hb.mono HB0.out.size))
  clear hb c0 c1 c2 c3
  go_wp2
  go_ret
  exact ⟨rfl, HB2.out⟩

set_option maxHeartbeats 1000000 in
theorem sIsValidConsole_any (a : Option Addr) (c : Nat) (rs : List (Int × Int)) (d p : ByteArray) (n : Int) (w : World) (hbig : rs.length ≤ 9223372036854775807) (hd : d.size ≤ 1048576) (hp : p.size ≤ 1048576) (h : RecsAt w a rs) :
    Calls Tryd.prog 37 #[conV a rs.length c d p n] w fun e w' => e = .returned (.bool (okRecs rs && Tx.okLog (logOf d p n))) ∧ Below w.heap.size w w' := by
  have HB0 := Lib.hid (below_new w (.cells #[.slice a rs.length c, .string d, .string p, .int .i64 n] 60))
  have HR := Lib.hid (l26Good_any a c rs d p n _ hbig hd hp (h.below (Nat.le_refl _) HB0.out))
  clear h
  unfold conV at *
  go_enter Tryd.func37, Tryd.ntmps37
  go_wp2_with fail
  refine HR.out.mono ?_
  rintro e w1 ⟨rfl, hb⟩
  have HB1 := Lib.hid (HB0.out.trans (hb.mono HB0.out.size))
  clear hb
  go_wp2
  go_ret
  exact ⟨rfl, HB1.out⟩

set_option maxHeartbeats 1000000 in
theorem szConsole_yes (a : Option Addr) (c : Nat) (rs : List (Int × Int)) (d p : ByteArray) (n l : Int) (w : World) (h0 : 0 ≤ l) (h1 : l ≤ 1048576) (h : (rs.length : Int) + d.size + p.size ≤ l) :
    Calls Tryd.prog 36 #[conV a rs.length c d p n, .int .i64 l] w fun e w' => e = .returned (.int .i64 (l - rs.length - d.size - p.size)) ∧ Below w.heap.size w w' := by
  have HB0 := Lib.hid (below_new w (.cells #[.slice a rs.length c, .string d, .string p, .int .i64 n] 55))
  have HL0 := Lib.hid (L4.mk' w (.slice a rs.length c) (.string d) (.string p) (.int .i64 n) 55)
  have HR := Lib.hid (fun w => szRecordS_yes a c rs l w (by omega) h1 (by omega))
  have HI := Lib.hid (fun w => szLog_yes d p n (l - rs.length) w (by omega) (by omega) (by omega))
  have q1 : 0 ≤ l - (rs.length : Int) := by omega
  have q2 : 0 ≤ l - (rs.length : Int) - d.size - p.size := by omega
  unfold conV logV at *
  go_enter Tryd.func36, Tryd.ntmps36
  go_wp2_with fail
  refine (HR.out _).mono ?_
  rintro e w1 ⟨rfl, rfl⟩
  obtain ⟨c0, c1, c2, c3, _⟩ := HL0.out
  go_wp2_with fail
  refine (HI.out _).mono ?_
  rintro e w2 ⟨rfl, hb⟩
  have HB2 := Lib.hid (HB0.out.trans (hb.mono HB0.out.size))
  clear hb c0 c1 c2 c3
  go_wp2
  go_ret
  exact ⟨rfl, HB2.out⟩

set_option maxHeartbeats 1000000 in
theorem szConsole_no (a : Option Addr) (c : Nat) (rs : List (Int × Int)) (d p : ByteArray) (n l : Int) (w : World) (hl : rs.length ≤ 9223372036854775807) (hd : d.size ≤ 9223372036854775807) (hp : p.size ≤ 9223372036854775807) (h0 : 0 ≤ l) (h1 : l ≤ 1048576) (h : l < (rs.length : Int) + d.size + p.size) :
    Calls Tryd.prog 36 #[conV a rs.length c d p n, .int .i64 l] w fun e w' => e = .returned (.int .i64 (-1)) ∧ Below w.heap.size w w' := by
  have HB0 := Lib.hid (below_new w (.cells #[.slice a rs.length c, .string d, .string p, .int .i64 n] 55))
  have HL0 := Lib.hid (L4.mk' w (.slice a rs.length c) (.string d) (.string p) (.int .i64 n) 55)
  by_cases hr : (rs.length : Int) ≤ l
  case neg =>
    have HR := Lib.hid (fun w => szRecordS_no a c rs l w hl h0 h1 (by omega))
    unfold conV at *
    go_enter Tryd.func36, Tryd.ntmps36
    go_wp2_with fail
    refine (HR.out _).mono ?_
    rintro e w1 ⟨rfl, rfl⟩
    go_wp2
    go_ret
    exact ⟨rfl, HB0.out⟩
  have HR := Lib.hid (fun w => szRecordS_yes a c rs l w (by omega) h1 (by omega))
  have HI := Lib.hid (fun w => szLog_no d p n (l - rs.length) w hd hp (by omega) (by omega) (by omega))
  have q1 : 0 ≤ l - (rs.length : Int) := by omega
  unfold conV logV at *
  go_enter Tryd.func36, Tryd.ntmps36
  go_wp2_with fail
  refine (HR.out _).mono ?_
  rintro e w1 ⟨rfl, rfl⟩
  obtain ⟨c0, c1, c2, c3, _⟩ := HL0.out
  go_wp2_with fail
  refine (HI.out _).mono ?_
  rintro e w2 ⟨rfl, hb⟩
  have HB2 := Lib.hid (HB0.out.trans (hb.mono HB0.out.size))
  clear hb c0 c1 c2 c3
  go_wp2
  go_ret
  exact ⟨rfl, HB2.out⟩

/-- A fresh struct of four cells. -/
structure Z4 (w : World) (g : Nat) (x y z v : Value) : Prop where
  l4 : L4 w g x y z v
  fr : ∀ o, w.frozen? ⟨g, o, none⟩ = false
theorem Z4.next {w w' : World} {g : Nat} {x y z v : Value} (h : Z4 w g x y z v) (hb : Below w.heap.size w w') : Z4 w' g x y z v := ⟨h.1.next hb, fun o => ((stands hb).2 _ _ h.1.lt).trans (h.2 o)⟩
theorem Z4.mk' (w : World) (x y z v : Value) (t : TypeId) : Z4 (w.alloc (.cells #[x, y, z, v] t)) w.heap.size x y z v := ⟨L4.mk' _ _ _ _ _ _, fun o => by simp [go_sem]⟩

theorem frozen_set4 (w : World) (p q : Addr) (v : Value) : (w.setCell p v).frozen? q = w.frozen? q := by simp [go_sem]
theorem setc_grown (w : World) (g j : Nat) (u : Value) : w.grownBy (w.setCell ⟨g, j, none⟩ u) (some g) :=
  ⟨rfl, rfl, rfl, by simp [World.setCell], fun q _ hq => by
    have : ((w.setCell ⟨g, j, none⟩ u).heap[q]? = w.heap[q]?) := by
      have hb : Below (g + 1) w w := Below.refl _ _
      unfold World.setCell
      simp only
      rw [Array.getElem?_modify]
      rw [if_neg (fun e => hq (by rw [e]))]
    exact this⟩
theorem own_setc {w : World} {base : Nat} {e : TypeId} {size G n c : Nat} {xs : List Value} (h : w.ownsRow base e size (.slice (some ⟨G, 0, none⟩) n c) n xs) {g j : Nat} (u : Value) (hne : G ≠ g) : (w.setCell ⟨g, j, none⟩ u).ownsRow base e size (.slice (some ⟨G, 0, none⟩) n c) n xs :=
  own_other h (setc_grown w g j u) (fun k hk e => hne ((Option.some.inj hk).trans (Option.some.inj e).symm))
theorem Z4.far {w : World} {g : Nat} {x y z v : Value} (h : Z4 w g x y z v) {p : Addr} (s : Value) (hp : p.block ≠ g) : Z4 (w.setCell p s) g x y z v := by
  have e : ∀ i, (w.setCell p s).cell? ⟨g, i, none⟩ = w.cell? ⟨g, i, none⟩ := fun i => World.cell?_setCell_far w p _ s hp
  exact ⟨⟨(e _).trans h.1.c0, (e _).trans h.1.c1, (e _).trans h.1.c2, (e _).trans h.1.c3, by simp [World.setCell]; exact h.1.lt⟩, fun o => (frozen_set4 w p _ s).trans (h.2 o)⟩
theorem Z4.set0 {w : World} {g : Nat} {x y z v : Value} (h : Z4 w g x y z v) (u : Value) : Z4 (w.setCell ⟨g, 0, none⟩ u) g u y z v := by
  have ne : ∀ j, 0 ≠ j → (⟨g, 0, none⟩ : Addr) ≠ ⟨g, j, none⟩ := fun j hij q => hij (congrArg Addr.off q)
  exact ⟨⟨World.cell?_setCell_same' w ⟨g, 0, none⟩ u (by rw [h.1.c0]; rfl), (World.cell?_setCell_other (h := ne 1 (by decide)) ..).trans h.1.c1, (World.cell?_setCell_other (h := ne 2 (by decide)) ..).trans h.1.c2, (World.cell?_setCell_other (h := ne 3 (by decide)) ..).trans h.1.c3, by simp [World.setCell]; exact h.1.lt⟩, fun o => (frozen_set4 w _ _ u).trans (h.2 o)⟩

set_option maxRecDepth 100000 in
set_option maxHeartbeats 2000000 in
theorem toConsole_any (a : Option Addr) (c : Nat) (rs : List (Int × Int)) (d p : ByteArray) (n : Int) (w : World) (hl : rs.length ≤ 1048576) (h : RecsAt w a rs) :
    Calls Tryd.prog 38 #[conV a rs.length c d p n] w fun e w' => ∃ g, e = .returned (conV (some ⟨g, 0, none⟩) rs.length rs.length d p n) ∧ w'.ownsRow w.heap.size 111 2 (.slice (some ⟨g, 0, none⟩) rs.length rs.length) rs.length (flat encR rs) ∧ Below w.heap.size w w' := by
  have HB0 := Lib.hid (below_new w (.cells #[.slice a rs.length c, .string d, .string p, .int .i64 n] 55))
  have HB1 := Lib.hid (HB0.out.trans ((below_new _ (.cells #[.slice none 0 0, .string ⟨#[]⟩, .string ⟨#[]⟩, .int .i64 0] 60)).mono HB0.out.size))
  have HB2 := Lib.hid (HB1.out.trans ((below_new _ (.cells #[.slice none 0 0, .string ⟨#[]⟩, .string ⟨#[]⟩, .int .i64 0] 60)).mono HB1.out.size))
  have HL0 := Lib.hid (((L4.mk' w (.slice a rs.length c) (.string d) (.string p) (.int .i64 n) 55).next (below_new _ (.cells #[.slice none 0 0, .string ⟨#[]⟩, .string ⟨#[]⟩, .int .i64 0] 60))).next (below_new _ (.cells #[.slice none 0 0, .string ⟨#[]⟩, .string ⟨#[]⟩, .int .i64 0] 60)))
  have HZ1 := (Z4.mk' (w.alloc (.cells #[.slice a rs.length c, .string d, .string p, .int .i64 n] 55)) (.slice none 0 0) (.string ⟨#[]⟩) (.string ⟨#[]⟩) (.int .i64 0) 60).next (below_new _ (.cells #[.slice none 0 0, .string ⟨#[]⟩, .string ⟨#[]⟩, .int .i64 0] 60))
  have HZ2 := Z4.mk' ((w.alloc (.cells #[.slice a rs.length c, .string d, .string p, .int .i64 n] 55)).alloc (.cells #[.slice none 0 0, .string ⟨#[]⟩, .string ⟨#[]⟩, .int .i64 0] 60)) (.slice none 0 0) (.string ⟨#[]⟩) (.string ⟨#[]⟩) (.int .i64 0) 60
  have e1 : (w.alloc (.cells #[.slice a rs.length c, .string d, .string p, .int .i64 n] 55)).heap.size = w.heap.size + 1 := by simp
  have e2 : ((w.alloc (.cells #[.slice a rs.length c, .string d, .string p, .int .i64 n] 55)).alloc (.cells #[.slice none 0 0, .string ⟨#[]⟩, .string ⟨#[]⟩, .int .i64 0] 60)).heap.size = w.heap.size + 1 + 1 := by simp
  have e3 : (((w.alloc (.cells #[.slice a rs.length c, .string d, .string p, .int .i64 n] 55)).alloc (.cells #[.slice none 0 0, .string ⟨#[]⟩, .string ⟨#[]⟩, .int .i64 0] 60)).alloc (.cells #[.slice none 0 0, .string ⟨#[]⟩, .string ⟨#[]⟩, .int .i64 0] 60)).heap.size = w.heap.size + 1 + 1 + 1 := by simp
  rw [e1] at HZ1
  rw [e2] at HZ2
  have HZ1 := Lib.hid HZ1; have HZ2 := Lib.hid HZ2
  obtain ⟨G, hG, hR⟩ : ∃ G, G = w.heap.size + 1 + 1 + 1 ∧ Calls Tryd.prog 62 #[.slice a rs.length c] (((w.alloc (.cells #[.slice a rs.length c, .string d, .string p, .int .i64 n] 55)).alloc (.cells #[.slice none 0 0, .string ⟨#[]⟩, .string ⟨#[]⟩, .int .i64 0] 60)).alloc (.cells #[.slice none 0 0, .string ⟨#[]⟩, .string ⟨#[]⟩, .int .i64 0] 60)) fun e w' => e = .returned (.slice (some ⟨G, 0, none⟩) rs.length rs.length) ∧
      w'.ownsRow G 111 2 (.slice (some ⟨G, 0, none⟩) rs.length rs.length) rs.length (flat encR rs) ∧ Below (((w.alloc (.cells #[.slice a rs.length c, .string d, .string p, .int .i64 n] 55)).alloc (.cells #[.slice none 0 0, .string ⟨#[]⟩, .string ⟨#[]⟩, .int .i64 0] 60)).alloc (.cells #[.slice none 0 0, .string ⟨#[]⟩, .string ⟨#[]⟩, .int .i64 0] 60)).heap.size (((w.alloc (.cells #[.slice a rs.length c, .string d, .string p, .int .i64 n] 55)).alloc (.cells #[.slice none 0 0, .string ⟨#[]⟩, .string ⟨#[]⟩, .int .i64 0] 60)).alloc (.cells #[.slice none 0 0, .string ⟨#[]⟩, .string ⟨#[]⟩, .int .i64 0] 60)) w' :=
    ⟨_, rfl, by rw [← e3]; exact toRecordS_any a c rs _ hl (h.below (Nat.le_refl _) HB2.out)⟩
  have HR := Lib.hid hR
  have HG := Lib.hid hG
  have HI := Lib.hid (fun w => toLog_any d p n w)
  clear h e1 e2 e3 hR hG HB0 HB1
  unfold conV logV at *
  go_enter Tryd.func38, Tryd.ntmps38
  go_wp2_with fail
  refine HR.out.mono ?_
  rintro e w3 ⟨rfl, ho, hb⟩
  have HO := Lib.hid ho
  have HB3 := Lib.hid (HB2.out.trans (hb.mono HB2.out.size))
  have L3' := Lib.hid (HL0.out.next hb)
  have A3 := Lib.hid (HZ1.out.next hb)
  have B3 := Lib.hid (HZ2.out.next hb)
  clear ho hb HB2 HL0 HZ1 HZ2 HR
  obtain ⟨c0, c1, c2, c3, _⟩ := L3'.out
  have b0 := B3.out.l4.c0
  have f0 := B3.out.fr 0
  go_wp2_with fail
  have HO' := Lib.hid (own_setc HO.out (g := w.heap.size + 1 + 1) (j := 0) (.slice (some ⟨G, 0, none⟩) rs.length rs.length) (by have := HG.out; omega))
  have B3' := Lib.hid (B3.out.set0 (.slice (some ⟨G, 0, none⟩) rs.length rs.length))
  have A3' := Lib.hid (A3.out.far (p := ⟨w.heap.size + 1 + 1, 0, none⟩) (.slice (some ⟨G, 0, none⟩) rs.length rs.length) (by show w.heap.size + 1 + 1 ≠ w.heap.size + 1; omega))
  have HB3' := Lib.hid (HB3.out.setCell (p := ⟨w.heap.size + 1 + 1, 0, none⟩) (by show w.heap.size ≤ w.heap.size + 1 + 1; omega) (.slice (some ⟨G, 0, none⟩) rs.length rs.length))
  refine (HI.out _).mono ?_
  rintro e w4 ⟨rfl, hb⟩
  have HO4 := Lib.hid (own_below HO'.out (Nat.le_refl _) hb)
  have B4 := B3'.out.next hb
  have A4 := A3'.out.next hb
  have HB4 := Lib.hid (HB3'.out.trans (hb.mono HB3'.out.size))
  clear hb HO HO' B3 B3' A3 A3' HB3 HB3' c0 c1 c2 c3 b0 f0
  obtain ⟨⟨b0, b1, b2, b3, blt⟩, bf⟩ := B4
  obtain ⟨⟨a0, a1, a2, a3, alt⟩, af⟩ := A4
  have g1 : G ≠ w.heap.size + 1 := by have := HG.out; omega
  have g2 : G ≠ w.heap.size + 1 + 1 := by have := HG.out; omega
  have o0 := own_setc HO4.out (g := w.heap.size + 1 + 1) (j := 1) (.string d) g2
  have q0 := HB4.out.setCell (p := ⟨w.heap.size + 1 + 1, 1, none⟩) (by show w.heap.size ≤ w.heap.size + 1 + 1; omega) (.string d)
  have o1 := own_setc o0 (g := w.heap.size + 1 + 1) (j := 2) (.string p) g2
  have q1 := q0.setCell (p := ⟨w.heap.size + 1 + 1, 2, none⟩) (by show w.heap.size ≤ w.heap.size + 1 + 1; omega) (.string p)
  have o2 := own_setc o1 (g := w.heap.size + 1 + 1) (j := 3) (.int .i64 n) g2
  have q2 := q1.setCell (p := ⟨w.heap.size + 1 + 1, 3, none⟩) (by show w.heap.size ≤ w.heap.size + 1 + 1; omega) (.int .i64 n)
  have o3 := own_setc o2 (g := w.heap.size + 1) (j := 0) (.slice (some ⟨G, 0, none⟩) rs.length rs.length) g1
  have q3 := q2.setCell (p := ⟨w.heap.size + 1, 0, none⟩) (by show w.heap.size ≤ w.heap.size + 1; omega) (.slice (some ⟨G, 0, none⟩) rs.length rs.length)
  have o4 := own_setc o3 (g := w.heap.size + 1) (j := 1) (.string d) g1
  have q4 := q3.setCell (p := ⟨w.heap.size + 1, 1, none⟩) (by show w.heap.size ≤ w.heap.size + 1; omega) (.string d)
  have o5 := own_setc o4 (g := w.heap.size + 1) (j := 2) (.string p) g1
  have q5 := q4.setCell (p := ⟨w.heap.size + 1, 2, none⟩) (by show w.heap.size ≤ w.heap.size + 1; omega) (.string p)
  have o6 := own_setc o5 (g := w.heap.size + 1) (j := 3) (.int .i64 n) g1
  have q6 := q5.setCell (p := ⟨w.heap.size + 1, 3, none⟩) (by show w.heap.size ≤ w.heap.size + 1; omega) (.int .i64 n)
  have HOF := Lib.hid (own_mono o6 (base' := w.heap.size) (by have := HG.out; omega))
  have HQF := Lib.hid q6
  clear o0 q0 o1 q1 o2 q2 o3 q3 o4 q4 o5 q5 o6 q6 g1 g2
  go_wp2
  refine bodyPost_ret (v := .agg #[.slice (some ⟨G, 0, none⟩) rs.length rs.length, .string d, .string p, .int .i64 n]) (by simp [results, Tryd.results38, go_sem, a0, a1, a2, a3, b0, b1, b2, b3]) rfl ⟨G, rfl, ?_, ?_⟩
  · with_reducible exact HOF.out
  · with_reducible exact HQF.out

theorem contents {w w' : World} {a : Option Addr} {rs : List (Int × Int)} (h : RecsAt w a rs) (hb : Below w.heap.size w w') : RecsAt w' a rs := h.below (Nat.le_refl _) hb

/-- What is held in the last region of the law. -/
structure Kd2 (w0 : World) (B g : Nat) (x y z v x' : Value) (a ag : Option Addr) (rs : List (Int × Int)) (w : World) : Prop where
  arg : L4 w B x y z v
  box : L4 w g x' y z v
  bel : Below w0.heap.size w0 w
  ra : RecsAt w a rs
  rg : RecsAt w ag rs
theorem Kd2.next {w0 w w' : World} {B g : Nat} {x y z v x' : Value} {a ag : Option Addr} {rs : List (Int × Int)} (h : Kd2 w0 B g x y z v x' a ag rs w) (hb : Below w.heap.size w w') : Kd2 w0 B g x y z v x' a ag rs w' :=
  ⟨h.1.next hb, h.2.next hb, h.3.trans (hb.mono h.3.size), contents h.4 hb, contents h.5 hb⟩
theorem Kd2.drew {w0 w : World} {B g : Nat} {x y z v x' : Value} {a ag : Option Addr} {rs : List (Int × Int)} (h : Kd2 w0 B g x y z v x' a ag rs w) : Kd2 w0 B g x y z v x' a ag rs w.drew :=
  h.next ((Below.refl _ _).drew)
def Kc2 (w0 : World) (B g : Nat) (x y z v x' : Value) (a ag : Option Addr) (rs : List (Int × Int)) (w : World) : Prop :=
  w.cell? ⟨B, 0, none⟩ = some x ∧ w.cell? ⟨B, 1, none⟩ = some y ∧ w.cell? ⟨B, 2, none⟩ = some z ∧ w.cell? ⟨B, 3, none⟩ = some v ∧ w.cell? ⟨g, 0, none⟩ = some x' ∧ w.cell? ⟨g, 1, none⟩ = some y ∧ w.cell? ⟨g, 2, none⟩ = some z ∧ w.cell? ⟨g, 3, none⟩ = some v ∧ Kd2 w0 B g x y z v x' a ag rs w
theorem Kd2.all {w0 w : World} {B g : Nat} {x y z v x' : Value} {a ag : Option Addr} {rs : List (Int × Int)} (h : Kd2 w0 B g x y z v x' a ag rs w) : w.cell? ⟨B, 0, none⟩ = some x ∧ w.cell? ⟨B, 1, none⟩ = some y ∧ w.cell? ⟨B, 2, none⟩ = some z ∧ w.cell? ⟨B, 3, none⟩ = some v ∧ w.cell? ⟨g, 0, none⟩ = some x' ∧ w.cell? ⟨g, 1, none⟩ = some y ∧ w.cell? ⟨g, 2, none⟩ = some z ∧ w.cell? ⟨g, 3, none⟩ = some v ∧ Kd2 w0 B g x y z v x' a ag rs w :=
  ⟨h.1.c0, h.1.c1, h.1.c2, h.1.c3, h.2.c0, h.2.c1, h.2.c2, h.2.c3, h⟩

theorem eqConsole_same (a a' : Option Addr) (n n' : Nat) (rs : List (Int × Int)) (d p : ByteArray) (c : Int) (w : World) (b1 : rs.length ≤ 9223372036854775807) (h1 : RecsAt w a rs) (h2 : RecsAt w a' rs) :
    Calls Tryd.prog 40 #[conV a rs.length n d p c, conV a' rs.length n' d p c] w fun e w' => e = .returned (.bool true) ∧ Below w.heap.size w w' := by
  have h := eqConsole_any a n rs d p c a' n' rs d p c w b1 b1 h1 h2
  have e : eqC rs d p c rs d p c = true := by simp [eqC, eqL]
  rw [e] at h
  exact h

set_option maxRecDepth 100000 in
set_option maxHeartbeats 4000000 in
theorem lawIsValidConsole_any (a : Option Addr) (c : Nat) (rs : List (Int × Int)) (d p : ByteArray) (n : Int) (w : World) (ht : Tab w) (hl : rs.length ≤ 9223372036854775807) (hd : d.size ≤ 9223372036854775807) (hp : p.size ≤ 9223372036854775807) (h : RecsAt w a rs) :
    Calls Tryd.prog 10 #[conV a rs.length c d p n] w fun e w' => e = .returned (.bool true) ∧ Below w.heap.size w w' := by
  have HB0 := Lib.hid (below_new w (.cells #[.slice a rs.length c, .string d, .string p, .int .i64 n] 55))
  have HL0 := Lib.hid (L4.mk' w (.slice a rs.length c) (.string d) (.string p) (.int .i64 n) 55)
  have HR0 := Lib.hid (h.below (Nat.le_refl _) HB0.out)
  have HT := Lib.hid ht
  clear h ht
  by_cases hl1 : (rs.length : Int) + d.size + p.size ≤ 1048576
  case neg =>
    have HS := Lib.hid (fun w => szConsole_no a c rs d p n 1048576 w hl hd hp (by omega) (by omega) (by omega))
    unfold conV at *
    go_enter Tryd.func10, Tryd.ntmps10
    go_wp2_with fail
    refine (HS.out _).mono ?_
    rintro e w1 ⟨rfl, hb⟩
    have HB1 := Lib.hid (HB0.out.trans (hb.mono HB0.out.size))
    clear hb
    go_wp2
    go_ret
    exact ⟨rfl, HB1.out⟩
  have HS := Lib.hid (fun w => szConsole_yes a c rs d p n 1048576 w (by omega) (by omega) hl1)
  have hpos : 0 ≤ (1048576 : Int) - rs.length - d.size - p.size := by omega
  have HTC := Lib.hid (fun w h => toConsole_any a c rs d p n w (by omega) h)
  have HG := Lib.hid (fun a w h => sIsValidConsole_any a rs.length rs d p n w (by omega) (by omega) (by omega) h)
  have HI := Lib.hid (fun a w ht h => isValidConsole_any a rs.length rs d p n w (by omega) (by omega) (by omega) ht h)
  have HE := Lib.hid (fun a a' w h h' => eqConsole_same a a' rs.length rs.length rs d p n w (by omega) h h')
  generalize (okRecs rs && Tx.okLog (logOf d p n)) = ok at HG HI
  have hbb : (ok != ok) = false := by simp
  unfold conV at *
  go_enter Tryd.func10, Tryd.ntmps10
  go_wp2_with fail
  refine (HS.out _).mono ?_
  rintro e w1 ⟨rfl, hb⟩
  have HB1 := Lib.hid (HB0.out.trans (hb.mono HB0.out.size))
  have HL1 := Lib.hid (HL0.out.next hb)
  have HR1 := Lib.hid (contents HR0.out hb)
  clear hb
  obtain ⟨u0, u1, u2, u3, _⟩ := HL1.out
  go_wp2_with fail
  refine (HTC.out _ HR1.out).mono ?_
  rintro e w2 ⟨gw, rfl, ho, hb⟩
  have HB2 := Lib.hid (HB1.out.trans (hb.mono HB1.out.size))
  have HL2 := Lib.hid (HL1.out.next hb)
  have HR2 := Lib.hid (contents HR1.out hb)
  have HW2 := Lib.hid (ownRecs ho)
  clear hb ho u0 u1 u2 u3
  go_wp2_with fail
  refine (HG.out _ _ HW2.out).mono ?_
  rintro e w3 ⟨rfl, hb⟩
  have HB3 := Lib.hid (HB2.out.trans (hb.mono HB2.out.size))
  have HL3 := Lib.hid (HL2.out.next hb)
  have HR3 := Lib.hid (contents HR2.out hb)
  clear hb
  obtain ⟨u0, u1, u2, u3, _⟩ := HL3.out
  go_wp2_with fail
  refine (HTC.out _ HR3.out).mono ?_
  rintro e w4 ⟨gx, rfl, ho, hb⟩
  have HB4 := Lib.hid (HB3.out.trans (hb.mono HB3.out.size))
  have HL4 := Lib.hid (HL3.out.next hb)
  have HR4 := Lib.hid (contents HR3.out hb)
  have HX4 := Lib.hid (ownRecs ho)
  clear hb ho u0 u1 u2 u3
  have HA4 := Lib.hid (below_new w4 (.cells #[.slice (some ⟨gx, 0, none⟩) rs.length rs.length, .string d, .string p, .int .i64 n] 60))
  have HL5 := L4.mk' w4 (.slice (some ⟨gx, 0, none⟩) rs.length rs.length) (.string d) (.string p) (.int .i64 n) 60
  have S5 := Lib.hid (Kd2.mk (HL4.out.next HA4.out) HL5 (HB4.out.trans (HA4.out.mono HB4.out.size)) (contents HR4.out HA4.out) (contents HX4.out HA4.out))
  clear HL5 HB4 HL4 HR4 HX4 HA4
  go_wp2_with fail
  refine (HI.out _ _ (HT.out.below S5.out.bel) S5.out.rg).mono ?_
  rintro e w6 ⟨rfl, hb⟩
  have S6 := Lib.hid (S5.out.next hb); clear hb
  go_wp2_with fail
  obtain ⟨KK, k0, kall, knext, kra, krg, kbel⟩ : ∃ KK : World → Prop, KK w6.drew ∧ (∀ w', KK w' → w'.cell? ⟨w.heap.size, 0, none⟩ = some (.slice a rs.length c) ∧ w'.cell? ⟨w.heap.size, 1, none⟩ = some (.string d) ∧ w'.cell? ⟨w.heap.size, 2, none⟩ = some (.string p) ∧ w'.cell? ⟨w.heap.size, 3, none⟩ = some (.int .i64 n) ∧ w'.cell? ⟨w4.heap.size, 0, none⟩ = some (.slice (some ⟨gx, 0, none⟩) rs.length rs.length) ∧ w'.cell? ⟨w4.heap.size, 1, none⟩ = some (.string d) ∧ w'.cell? ⟨w4.heap.size, 2, none⟩ = some (.string p) ∧ w'.cell? ⟨w4.heap.size, 3, none⟩ = some (.int .i64 n) ∧ KK w') ∧ (∀ w' w'', KK w' → Below w'.heap.size w' w'' → KK w'') ∧ (∀ w', KK w' → RecsAt w' a rs) ∧ (∀ w', KK w' → RecsAt w' (some ⟨gx, 0, none⟩) rs) ∧ (∀ w', KK w' → Below w.heap.size w w') :=
    ⟨_, S6.out.drew, fun _ h => h.all, fun _ _ h hb => h.next hb, fun _ h => h.ra, fun _ h => h.rg, fun _ h => h.bel⟩
  clear S5 S6
  have k1 := kall _ k0
  have hkall := Lib.hid kall; have hknext := Lib.hid knext; have hkra := Lib.hid kra; have hkrg := Lib.hid krg; have hkbel := Lib.hid kbel
  clear kall knext kra krg kbel k0
  go_region_held3 (fun w' => w'.cell? ⟨w.heap.size, 0, none⟩ = some (.slice a rs.length c) ∧ w'.cell? ⟨w.heap.size, 1, none⟩ = some (.string d) ∧ w'.cell? ⟨w.heap.size, 2, none⟩ = some (.string p) ∧ w'.cell? ⟨w.heap.size, 3, none⟩ = some (.int .i64 n) ∧ w'.cell? ⟨w4.heap.size, 0, none⟩ = some (.slice (some ⟨gx, 0, none⟩) rs.length rs.length) ∧ w'.cell? ⟨w4.heap.size, 1, none⟩ = some (.string d) ∧ w'.cell? ⟨w4.heap.size, 2, none⟩ = some (.string p) ∧ w'.cell? ⟨w4.heap.size, 3, none⟩ = some (.int .i64 n) ∧ KK w') (go_keep)
    (first | ((try go_split_ands); go_at_call 38; refine (HTC.out _ (hkra.out _ (by assumption))).mono ?_; rintro e w' ⟨gy, rfl, ho, hb⟩; have HY := Lib.hid (ownRecs ho); have hk := hknext.out _ _ (by assumption) hb; have hS := hkall.out _ hk; clear ho hb) | ((try go_split_ands); go_at_call 40; refine (HE.out _ _ _ (hkrg.out _ (by assumption)) HY.out).mono ?_; rintro e w'' ⟨rfl, hb⟩; have hk := hknext.out _ _ (by assumption) hb; have hS := hkall.out _ hk; clear hb))
  have HF := Lib.hid (hkbel.out _ hk)
  clear hk hS
  go_wp2
  go_ret
  exact ⟨rfl, HF.out⟩

end Go.Proofs.YtfdhicojnbicgaaDoor
