/- Several texts in one: lemmas and walks of the functions that the law reaches. -/
import Derived.Test.YtbgmbanebmlghaaGreatDoorY3
import Derived.Test.YtbgmbanebmlghaaGreatDoorY6
import Derived.Test.YtbgmbanebmlghaaGreatDoorY16

namespace Go.Proofs.YtbgmbanebmlghaaGreatDoor
open Go.RowKit
set_option linter.unusedVariables false

def bs (s : ByteArray) : List UInt8 := s.data.toList
theorem bs_len (s : ByteArray) : (bs s).length = s.size := by unfold bs; rw [Array.length_toList]; rfl
theorem bs_take (s : ByteArray) (k : Nat) (h : k < s.size) : (bs s).take (k + 1) = (bs s).take k ++ [s[k]] := by
  rw [List.take_succ_eq_append_getElem (by rw [bs_len]; exact h)]; rfl
theorem bs_all (s : ByteArray) : (bs s).take s.size = bs s := by rw [← bs_len, List.take_length]
theorem bs_mk (l : List UInt8) : bs ⟨l.toArray⟩ = l := rfl
theorem bs_add (a b : ByteArray) : bs (a ++ b) = bs a ++ bs b := by unfold bs; rw [ByteArray.data_append]; simp
theorem bs_toList (s : ByteArray) : s.toList = bs s := ByteArray.toList_eq s

theorem all_no {s : ByteArray} {p : UInt8 → Bool} {k : Nat} (hk : k < s.size) (h : p s[k] = false) : (bs s).all p = false := by
  rw [List.all_eq_false]
  refine ⟨s[k], ?_, by simp [h]⟩
  have : (bs s)[k]'(by rw [bs_len]; exact hk) = s[k] := rfl
  rw [← this]; exact List.getElem_mem _
theorem all_yes {s : ByteArray} {p : UInt8 → Bool} {k : Nat} (hk : ¬ k < s.size) (hle : k ≤ s.size) (h : ((bs s).take k).all p = true) : (bs s).all p = true := by
  obtain rfl : k = s.size := by omega
  rwa [bs_all] at h
theorem all_next {s : ByteArray} {p : UInt8 → Bool} {k : Nat} (hk : k < s.size) (h : ((bs s).take k).all p = true) (h2 : p s[k] = true) : ((bs s).take (k + 1)).all p = true := by
  rw [bs_take s k hk, List.all_append, h]; simp [h2]

set_option maxHeartbeats 400000 in
theorem isPrintable_any (s : ByteArray) (w : World) (hs : s.size ≤ 9223372036854775807) :
    Calls Tryz.prog 97 #[.string s] w fun e w' => e = .returned (.bool ((bs s).all Tx.prn)) ∧ w = w' := by
  go_enter Tryz.func97, Tryz.ntmps97
  go_wp2
  go_loop [6] (fun i => ∃ k : Nat, k ≤ s.size ∧ i = .int .i64 k ∧ ((bs s).take k).all Tx.prn = true) (fun i => s.size - (intOf i).toNat)
  case atStart => exact ⟨0, by omega, rfl, by simp⟩
  case round =>
    obtain ⟨k, hk, rfl, hall⟩ := hrel
    have Hall := Lib.hid hall; clear hall
    by_cases h1 : k < s.size
    · by_cases h2 : s[k].toNat < 32
      · go_wp2
        go_ret
        exact ⟨ret_bool (by rw [all_no h1 (by simp [Tx.prn]; omega)]), rfl⟩
      · by_cases h3 : s[k].toNat ≤ 126
        · go_wp2
          go_round
          case rel => exact ⟨k + 1, by omega, by go_num, all_next h1 Hall.out (by simp [Tx.prn]; omega)⟩
          case measure => simp [intOf]; omega
        · go_wp2
          go_ret
          exact ⟨ret_bool (by rw [all_no h1 (by simp [Tx.prn]; omega)]), rfl⟩
    · go_wp2
      go_ret
      exact ⟨ret_bool (all_yes h1 hk Hall.out).symm, rfl⟩

theorem ret_str {a b : ByteArray} (h : a = b) : Ending.returned (.string a) = .returned (.string b) := by rw [h]

theorem ba_eq {a b : ByteArray} (h : bs a = bs b) : a = b := by
  ext1; apply Array.ext'; exact h

/-- A text that an operation has made, its bytes told. -/
theorem add_runs {P : Program} {a b : ByteArray} (ha : a.size ≤ 4000000000000000000) (hb : b.size ≤ 4000000000000000000) : ∀ w, (Op.stringOp .add a b).run P w = .ok (.string (a ++ b)) w := fun w => run_string_add_sum w a b (by omega)

theorem size_mk (l : List UInt8) : (ByteArray.mk l.toArray).size = l.length := by
  show l.toArray.size = _
  simp
theorem size_add (a b : ByteArray) : (a ++ b).size = a.size + b.size := ByteArray.size_append

/-- A text of a record, as a struct of two texts. -/
def recV (c r : ByteArray) : Value := .agg #[.string c, .string r]
def recE (c r : ByteArray) : Tx.Rec := (bs c, bs r)

end Go.Proofs.YtbgmbanebmlghaaGreatDoor

namespace Go.Proofs.YtbgmbanebmlghaaGreatDoor
open Go.RowKit
set_option linter.unusedVariables false

theorem okRec_eq (c r : ByteArray) : Tx.okE (recE c r) = (inB (c.size : Int) 1 90 && (bs c).all Tx.prn && !(Lib.containsAny (bs c) [35, 62]) && decide ((r.size : Int) ≤ 200) && (bs r).all Tx.prn && !decide ((35 : UInt8) ∈ bs r)) := by
  rw [Bool.eq_iff_iff, Tx.containsAny_mem]
  simp only [Tx.okE, Tx.okCmd, Tx.okRep, recE, Bool.and_eq_true, decide_eq_true_eq, List.all_eq_true, bne_iff_ne, Bool.not_eq_true', decide_eq_false_iff_not, bs_len, inB_iff, List.any_eq_false]
  constructor
  · rintro ⟨⟨⟨h1, h2⟩, h3⟩, h4, h5⟩
    refine ⟨⟨⟨⟨⟨by omega, fun b hb => (h3 b hb).1.1⟩, fun b hb => ?_⟩, by omega⟩, fun b hb => (h5 b hb).1⟩, fun hm => (h5 _ hm).2 rfl⟩
    have := h3 b hb
    simp; exact ⟨this.1.2, this.2⟩
  · rintro ⟨⟨⟨⟨⟨h1, h2⟩, h3⟩, h4⟩, h5⟩, h6⟩
    refine ⟨⟨by omega, fun b hb => ?_⟩, by omega, fun b hb => ⟨h5 b hb, fun e => h6 (e ▸ hb)⟩⟩
    have := h3 b hb
    simp at this
    exact ⟨⟨h2 b hb, this.1⟩, this.2⟩

theorem bcell {W w1 : World} {B : Nat} (hb : Below B W w1) {b o : Nat} (h : b < B) : w1.cell? ⟨b, o, none⟩ = W.cell? ⟨b, o, none⟩ := hb.cell (p := ⟨b, o, none⟩) h
theorem alloc_cell {w : World} {cs : Array Value} {t : TypeId} (o : Nat) : (w.alloc (.cells cs t)).cell? ⟨w.heap.size, o, none⟩ = cs[o]? := by rw [World.cell?_alloc_at _ _ _ _ rfl]

set_option maxRecDepth 100000 in
set_option maxHeartbeats 1000000 in
theorem isValidRecord_any (c r : ByteArray) (w : World) (hc : c.size ≤ 4000000000) (hr : r.size ≤ 4000000000) :
    Calls Tryz.prog 55 #[recV c r] w fun e w' => e = .returned (.bool (Tx.okE (recE c r))) ∧ Below w.heap.size w w' := by
  have HE := Lib.hid (okRec_eq c r)
  have H0 := Lib.hid (fun w => in_any (c.size : Int) 1 90 w)
  have H1 := Lib.hid (fun w => isPrintable_any c w (by omega))
  have H3 := Lib.hid (fun w => isPrintable_any r w (by omega))
  have H4 := Lib.hid (fun w => Tryz.strings_Contains_one r 35 w)
  have e4 : decide (0 ≤ Lib.indexByte r.data.toList 35) = decide ((35 : UInt8) ∈ bs r) := Tx.indexByte_mem 35 (bs r)
  rw [e4] at H4
  have H2 : Hid ((bs c).all Tx.prn = true → ∀ w, Calls Tryz.prog 98 #[.string c, .string ⟨#[35, 62]⟩] w fun e w' => e = .returned (.bool (Lib.containsAny (bs c) [35, 62])) ∧ Below w.heap.size w w') := fun hall w =>
    Tryz.strings_ContainsAny_laid c ⟨#[35, 62]⟩ w (by omega) (by decide) (fun j b hj => by
      have := List.all_eq_true.1 hall b (List.mem_of_getElem? hj)
      simp [Tx.prn] at this; omega) (fun j b hj => by
      have hm := List.mem_of_getElem? hj
      have e : (ByteArray.mk #[35, 62]).data.toList = [35, 62] := rfl
      rw [e] at hm
      simp at hm
      rcases hm with rfl | rfl <;> decide)
  have HB : Hid (Below w.heap.size w (w.alloc (.cells #[.string c, .string r] 68))) := (Below.refl _ _).alloc (Nat.le_refl _) _
  clear e4
  unfold recV
  cases h0 : inB (c.size : Int) 1 90
  case' false =>
    rw [h0] at H0 HE
    by_cases h5 : (r.size : Int) ≤ 200
    all_goals
      go_enter Tryz.func55, Tryz.ntmps55
      go_wp2_with (go_at_call 59; refine (H0.out _).mono ?_; rintro e w' ⟨rfl, rfl⟩)
      go_ret
      exact ⟨ret_bool (by rw [HE.out]; rfl), HB.out⟩
  rw [h0] at H0 HE
  cases h1 : (bs c).all Tx.prn
  case' false =>
    rw [h1] at H1 HE
    go_enter Tryz.func55, Tryz.ntmps55
    go_wp2_with (first | (go_at_call 59; refine (H0.out _).mono ?_; rintro e w' ⟨rfl, rfl⟩) | (go_at_call 97; (with_reducible refine (H1.out _).mono ?_); rintro e w' ⟨rfl, rfl⟩))
    go_ret
    exact ⟨ret_bool (by rw [HE.out]; rfl), HB.out⟩
  rw [h1] at H1 HE
  have H2 := Lib.hid (H2.out h1)
  cases h2 : Lib.containsAny (bs c) [35, 62]
  all_goals rw [h2] at H2 HE
  all_goals clear h0 h1 h2
  case' true =>
    go_enter Tryz.func55, Tryz.ntmps55
    go_wp2_with (first | (go_at_call 59; refine (H0.out _).mono ?_; rintro e w' ⟨rfl, rfl⟩) | (go_at_call 97; (with_reducible refine (H1.out _).mono ?_); rintro e w' ⟨rfl, rfl⟩))
    refine (H2.out _).mono ?_
    rintro e w1 ⟨rfl, hb1⟩
    have HB1 := Lib.hid (HB.out.trans (hb1.mono HB.out.size))
    clear hb1
    go_wp2
    go_ret
    exact ⟨ret_bool (by rw [HE.out]; simp), HB1.out⟩
  by_cases h5 : (r.size : Int) ≤ 200
  case' neg =>
    rw [decide_eq_false h5] at HE
    go_enter Tryz.func55, Tryz.ntmps55
    go_wp2_with (first | (go_at_call 59; refine (H0.out _).mono ?_; rintro e w' ⟨rfl, rfl⟩) | (go_at_call 97; (with_reducible refine (H1.out _).mono ?_); rintro e w' ⟨rfl, rfl⟩))
    refine (H2.out _).mono ?_
    rintro e w1 ⟨rfl, hb1⟩
    have hcell : w1.cell? ⟨w.heap.size, 1, none⟩ = some (.string r) := (bcell hb1 (by simp)).trans (alloc_cell 1)
    have HB1 := Lib.hid (HB.out.trans (hb1.mono HB.out.size))
    clear hb1
    go_wp2
    go_ret
    exact ⟨ret_bool (by rw [HE.out]; simp), HB1.out⟩
  rw [decide_eq_true h5] at HE
  cases h6 : (bs r).all Tx.prn
  all_goals rw [h6] at H3 HE
  all_goals cases h7 : decide ((35 : UInt8) ∈ bs r)
  all_goals rw [h7] at H4 HE
  all_goals clear h6 h7
  all_goals
    go_enter Tryz.func55, Tryz.ntmps55
    go_wp2_with (first | (go_at_call 59; refine (H0.out _).mono ?_; rintro e w' ⟨rfl, rfl⟩) | (go_at_call 97; (with_reducible refine (H1.out _).mono ?_); rintro e w' ⟨rfl, rfl⟩))
    refine (H2.out _).mono ?_
    rintro e w1 ⟨rfl, hb1⟩
    have hcell : w1.cell? ⟨w.heap.size, 1, none⟩ = some (.string r) := (bcell hb1 (by simp)).trans (alloc_cell 1)
    have HB1 := Lib.hid (HB.out.trans (hb1.mono HB.out.size))
    clear hb1
    go_wp2_with (first | (go_at_call 97; (with_reducible refine (H3.out _).mono ?_); rintro e w' ⟨rfl, rfl⟩) | (go_at_call 99; (with_reducible refine (H4.out _).mono ?_); rintro e w' ⟨rfl, rfl⟩))
    go_ret
    exact ⟨ret_bool (by rw [HE.out]; simp), HB1.out⟩

end Go.Proofs.YtbgmbanebmlghaaGreatDoor

