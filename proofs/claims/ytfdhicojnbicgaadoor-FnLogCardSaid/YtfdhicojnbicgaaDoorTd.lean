/- Walks on texts: the program's record check, checksums, encodings. -/
import Derived.Test.YtfdhicojnbicgaaDoorTb
namespace Go.Proofs.YtfdhicojnbicgaaDoor
open Go.RowKit
set_option linter.unusedVariables false

theorem okRec_eq (c r : ByteArray) : Tx.okE (recE c r) = (inB (c.size : Int) 1 90 && (bs c).all Tx.prn && !(Lib.containsAny (bs c) [35, 62]) && decide ((r.size : Int) ≤ 200) && (bs r).all Tx.prn && !decide ((35 : UInt8) ∈ bs r)) := by
  rw [Bool.eq_iff_iff, Tx.containsAny_mem]
  simp only [Tx.okE, Tx.okCmd, Tx.okRep, recE, Bool.and_eq_true, decide_eq_true_eq, List.all_eq_true, bne_iff_ne, Bool.not_eq_true', decide_eq_false_iff_not, bs_len, inB_iff, List.any_eq_false]
  constructor
  · rintro ⟨⟨⟨h1, h2⟩, h3⟩, h4, h5⟩
    refine ⟨⟨⟨⟨⟨by omega, fun b hb => (h3 b hb).1.1⟩, fun b hb => ?_⟩, by omega⟩, fun b hb => (h5 b hb).1⟩, fun hm => (h5 _ hm).2 rfl⟩
    have := h3 b hb
    simp; exact ⟨this.1.2, this.2⟩
  · rintro ⟨⟨⟨⟨⟨h1, h2⟩, h3⟩, h4⟩, h5⟩, h6⟩
    refine ⟨⟨by omega, fun b hb => ?_⟩, by omega, fun b hb => ⟨h5 b hb, fun e => h6 (e ▸ hb)⟩⟩
    have := h3 b hb
    simp at this
    exact ⟨⟨h2 b hb, this.1⟩, this.2⟩

theorem bcell {W w1 : World} {B : Nat} (hb : Below B W w1) {b o : Nat} (h : b < B) : w1.cell? ⟨b, o, none⟩ = W.cell? ⟨b, o, none⟩ := hb.cell (p := ⟨b, o, none⟩) h
theorem alloc_cell {w : World} {cs : Array Value} {t : TypeId} (o : Nat) : (w.alloc (.cells cs t)).cell? ⟨w.heap.size, o, none⟩ = cs[o]? := by rw [World.cell?_alloc_at _ _ _ _ rfl]

set_option maxRecDepth 100000 in
set_option maxHeartbeats 1000000 in
theorem isValidRecord_any (c r : ByteArray) (w : World) (hc : c.size ≤ 4000000000) (hr : r.size ≤ 4000000000) :
    Calls Tryd.prog 45 #[recV c r] w fun e w' => e = .returned (.bool (Tx.okE (recE c r))) ∧ Below w.heap.size w w' := by
  have HE := Lib.hid (okRec_eq c r)
  have H0 := Lib.hid (fun w => in_any (c.size : Int) 1 90 w)
  have H1 := Lib.hid (fun w => isPrintable_any c w (by omega))
  have H3 := Lib.hid (fun w => isPrintable_any r w (by omega))
  have H4 := Lib.hid (fun w => Tryd.strings_Contains_one r 35 w)
  have e4 : decide (0 ≤ Lib.indexByte r.data.toList 35) = decide ((35 : UInt8) ∈ bs r) := Tx.indexByte_mem 35 (bs r)
  rw [e4] at H4
  have H2 : Hid ((bs c).all Tx.prn = true → ∀ w, Calls Tryd.prog 73 #[.string c, .string ⟨#[35, 62]⟩] w fun e w' => e = .returned (.bool (Lib.containsAny (bs c) [35, 62])) ∧ Below w.heap.size w w') := fun hall w =>
    Tryd.strings_ContainsAny_laid c ⟨#[35, 62]⟩ w (by omega) (by decide) (fun j b hj => by
      have := List.all_eq_true.1 hall b (List.mem_of_getElem? hj)
      simp [Tx.prn] at this; omega) (fun j b hj => by
      have hm := List.mem_of_getElem? hj
      have e : (ByteArray.mk #[35, 62]).data.toList = [35, 62] := rfl
      rw [e] at hm
      simp at hm
      rcases hm with rfl | rfl <;> decide)
  have HB : Hid (Below w.heap.size w (w.alloc (.cells #[.string c, .string r] 27))) := (Below.refl _ _).alloc (Nat.le_refl _) _
  clear e4
  unfold recV
  cases h0 : inB (c.size : Int) 1 90
  case' false =>
    rw [h0] at H0 HE
    by_cases h5 : (r.size : Int) ≤ 200
    all_goals
      go_enter Tryd.func45, Tryd.ntmps45
      go_wp2_with (go_at_call 51; refine (H0.out _).mono ?_; rintro e w' ⟨rfl, rfl⟩)
      go_ret
      exact ⟨ret_bool (by rw [HE.out]; rfl), HB.out⟩
  rw [h0] at H0 HE
  cases h1 : (bs c).all Tx.prn
  case' false =>
    rw [h1] at H1 HE
    go_enter Tryd.func45, Tryd.ntmps45
    go_wp2_with (first | (go_at_call 51; refine (H0.out _).mono ?_; rintro e w' ⟨rfl, rfl⟩) | (go_at_call 72; (with_reducible refine (H1.out _).mono ?_); rintro e w' ⟨rfl, rfl⟩))
    go_ret
    exact ⟨ret_bool (by rw [HE.out]; rfl), HB.out⟩
  rw [h1] at H1 HE
  have H2 := Lib.hid (H2.out h1)
  cases h2 : Lib.containsAny (bs c) [35, 62]
  all_goals rw [h2] at H2 HE
  all_goals clear h0 h1 h2
  case' true =>
    go_enter Tryd.func45, Tryd.ntmps45
    go_wp2_with (first | (go_at_call 51; refine (H0.out _).mono ?_; rintro e w' ⟨rfl, rfl⟩) | (go_at_call 72; (with_reducible refine (H1.out _).mono ?_); rintro e w' ⟨rfl, rfl⟩))
    refine (H2.out _).mono ?_
    rintro e w1 ⟨rfl, hb1⟩
    have HB1 := Lib.hid (HB.out.trans (hb1.mono HB.out.size))
    clear hb1
    go_wp2
    go_ret
    exact ⟨ret_bool (by rw [HE.out]; simp), HB1.out⟩
  by_cases h5 : (r.size : Int) ≤ 200
  case' neg =>
    rw [decide_eq_false h5] at HE
    go_enter Tryd.func45, Tryd.ntmps45
    go_wp2_with (first | (go_at_call 51; refine (H0.out _).mono ?_; rintro e w' ⟨rfl, rfl⟩) | (go_at_call 72; (with_reducible refine (H1.out _).mono ?_); rintro e w' ⟨rfl, rfl⟩))
    refine (H2.out _).mono ?_
    rintro e w1 ⟨rfl, hb1⟩
    have hcell : w1.cell? ⟨w.heap.size, 1, none⟩ = some (.string r) := (bcell hb1 (by simp)).trans (alloc_cell 1)
    have HB1 := Lib.hid (HB.out.trans (hb1.mono HB.out.size))
    clear hb1
    go_wp2
    go_ret
    exact ⟨ret_bool (by rw [HE.out]; simp), HB1.out⟩
  rw [decide_eq_true h5] at HE
  cases h6 : (bs r).all Tx.prn
  all_goals rw [h6] at H3 HE
  all_goals cases h7 : decide ((35 : UInt8) ∈ bs r)
  all_goals rw [h7] at H4 HE
  all_goals clear h6 h7
  all_goals
    go_enter Tryd.func45, Tryd.ntmps45
    go_wp2_with (first | (go_at_call 51; refine (H0.out _).mono ?_; rintro e w' ⟨rfl, rfl⟩) | (go_at_call 72; (with_reducible refine (H1.out _).mono ?_); rintro e w' ⟨rfl, rfl⟩))
    refine (H2.out _).mono ?_
    rintro e w1 ⟨rfl, hb1⟩
    have hcell : w1.cell? ⟨w.heap.size, 1, none⟩ = some (.string r) := (bcell hb1 (by simp)).trans (alloc_cell 1)
    have HB1 := Lib.hid (HB.out.trans (hb1.mono HB.out.size))
    clear hb1
    go_wp2_with (first | (go_at_call 72; (with_reducible refine (H3.out _).mono ?_); rintro e w' ⟨rfl, rfl⟩) | (go_at_call 74; (with_reducible refine (H4.out _).mono ?_); rintro e w' ⟨rfl, rfl⟩))
    go_ret
    exact ⟨ret_bool (by rw [HE.out]; simp), HB1.out⟩

set_option maxHeartbeats 400000 in
theorem toLogRecord_any (c r : ByteArray) (w : World) :
    Calls Tryd.prog 16 #[recV c r] w fun e w' => e = .returned (recV c r) ∧ Below w.heap.size w w' := by
  unfold recV
  go_enter Tryd.func16, Tryd.ntmps16
  go_wp2
  refine bodyPost_ret (v := .agg #[.string c, .string r]) (by simp [results, Tryd.results16, go_sem]) rfl ⟨rfl, ?_⟩
  (repeat (first | exact Below.refl _ _ | assumption | refine Below.setCell ?_ (by first | omega | (simp; done) | (simp; omega)) _ | refine Below.alloc ?_ (by first | omega | (simp; done) | (simp; omega)) _ | refine Below.drew ?_ | refine below_drewN ?_ _))


set_option maxHeartbeats 400000 in
theorem szLogRecord_yes (c r : ByteArray) (l : Int) (w : World) (h0 : 0 ≤ l) (h1 : l ≤ 1048576) (h : (c.size : Int) + r.size ≤ l) :
    Calls Tryd.prog 14 #[recV c r, .int .i64 l] w fun e w' => e = .returned (.int .i64 (l - c.size - r.size)) ∧ Below w.heap.size w w' := by
  unfold recV
  have HB : Hid (Below w.heap.size w (w.alloc (.cells #[.string c, .string r] 23))) := (Below.refl _ _).alloc (Nat.le_refl _) _
  go_enter Tryd.func14, Tryd.ntmps14
  go_wp2
  go_ret
  exact ⟨rfl, HB.out⟩

set_option maxHeartbeats 400000 in
theorem szLogRecord_no (c r : ByteArray) (l : Int) (w : World) (hc : c.size ≤ 9223372036854775807) (hr : r.size ≤ 9223372036854775807) (h0 : 0 ≤ l) (h1 : l ≤ 1048576) (h : l < (c.size : Int) + r.size) :
    Calls Tryd.prog 14 #[recV c r, .int .i64 l] w fun e w' => e = .returned (.int .i64 (-1)) ∧ Below w.heap.size w w' := by
  unfold recV
  have HB : Hid (Below w.heap.size w (w.alloc (.cells #[.string c, .string r] 23))) := (Below.refl _ _).alloc (Nat.le_refl _) _
  by_cases h2 : (c.size : Int) ≤ l
  all_goals
    go_enter Tryd.func14, Tryd.ntmps14
    go_wp2
    go_ret
    exact ⟨rfl, HB.out⟩

end Go.Proofs.YtfdhicojnbicgaaDoor
