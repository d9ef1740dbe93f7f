/- Walks: lists that ascend by a comparison, of both packages. -/
import Derived.Test.YtpbiajicdgompaaNq
namespace Go.Proofs.Ytpbiajicdgompaa
open Go.RowKit Go.Sort
set_option linter.unusedVariables false

/-- Ascending, place by place. -/
def upB (lt : Int × Int → Int × Int → Bool) (l : List (Int × Int)) : Bool := (List.range (l.length - 1)).all fun i => !lt (l.getD (i + 1) (0, 0)) (l.getD i (0, 0))
theorem upB_no {lt : Int × Int → Int × Int → Bool} {l : List (Int × Int)} {i : Nat} (h : i + 1 < l.length) (hb : lt (l.getD (i + 1) (0, 0)) (l.getD i (0, 0)) = true) : upB lt l = false := by
  unfold upB
  rw [List.all_eq_false]
  exact ⟨i, List.mem_range.2 (by omega), by rw [hb]; simp⟩
theorem upB_yes {lt : Int × Int → Int × Int → Bool} {l : List (Int × Int)} (h : ∀ i, i + 1 < l.length → lt (l.getD (i + 1) (0, 0)) (l.getD i (0, 0)) = false) : upB lt l = true := by
  unfold upB
  rw [List.all_eq_true]
  intro i hi
  rw [h i (by have := List.mem_range.1 hi; omega)]; rfl
theorem upB_asc {lt : Int × Int → Int × Int → Bool} (S : Mg.SW lt) {l : List (Int × Int)} (h : upB lt l = true) : Mg.Asc lt l := by
  refine Mg.asc_of_side S l fun i hi => ?_
  unfold upB at h
  rw [List.all_eq_true] at h
  have := h i (List.mem_range.2 (by omega))
  rw [getD_get hi, getD_get (by omega)] at this
  simpa using this

set_option maxRecDepth 100000 in
set_option maxHeartbeats 4000000 in
theorem isSortedFunc_any {lt : Int × Int → Int × Int → Bool} {cv : Value} {g : Nat} (HCV : CmpIs (fun _ => True) g lt cv) (a : Option Addr) (n c : Nat) (rs : List (Int × Int)) (w : World) (hn : n ≤ 1000000) (h : Rd w a n c rs) :
    Calls Try.prog 145 #[.slice a n c, cv] w fun e w' => e = .returned (.bool (upB lt rs)) ∧ Below w.heap.size w w' := by
  obtain ⟨_, G, cp, rfl, hcall, hcmp⟩ := HCV
  have HCM := Lib.hid hcmp; have H := Lib.hid h
  clear hcmp h
  go_enter Try.func145, Try.ntmps145
  go_wp2
  go_loopw [5] (fun v wr => ∃ i : Int, v = .int .i64 i ∧ -1 ≤ i ∧ i < n ∧ Hid (∀ j : Nat, i ≤ j → j + 1 < n → lt (rs.getD (j + 1) (0, 0)) (rs.getD j (0, 0)) = false) ∧ Below w.heap.size w wr) (fun v _ => (intOf v).toNat)
  case atStart => exact ⟨(n : Int) - 1, by go_num, by omega, by omega, Lib.hid (fun j h1 h2 => by omega), Below.refl _ _⟩
  case round =>
    obtain ⟨i, rfl, hi0, hi1, HALL, hb⟩ := hrel
    have HB := Lib.hid hb
    clear hb
    by_cases hlt : 0 < i
    case neg =>
      have q1 : decide (0 < i) = false := decide_eq_false hlt
      have HE : Hid (upB lt rs = true) := upB_yes fun j hj => HALL.out j (by omega) (by rw [← H.out.len]; exact hj)
      go_wp2
      go_ret
      exact ⟨ret_bool HE.out.symm, HB.out⟩
    obtain ⟨k, rfl⟩ : ∃ k : Nat, i = (k : Int) + 1 := ⟨(i - 1).toNat, by omega⟩
    have q1 : decide (0 < (k : Int) + 1) = true := decide_eq_true (by omega)
    obtain ⟨b, o, rfl, d1, d2⟩ := (H.out.same HB.out).at (show k < n by omega)
    obtain ⟨b', o', e, c1, c2⟩ := (H.out.same HB.out).at (show k + 1 < n by omega)
    injection e with e
    injection e with e1 e2
    subst e1 e2
    obtain ⟨X, hX⟩ : ∃ X, rs.getD (k + 1) (0, 0) = X := ⟨_, rfl⟩
    obtain ⟨Y, hY⟩ : ∃ Y, rs.getD k (0, 0) = Y := ⟨_, rfl⟩
    rw [hX] at c1 c2
    rw [hY] at d1 d2
    have HX := Lib.hid hX; have HY := Lib.hid hY
    clear hX hY
    have HCK := Lib.hid (fun W => HCM.out X Y W trivial)
    have hcall := hcall (#[.agg #[.int .i64 X.1, .int .i64 X.2], .agg #[.int .i64 Y.1, .int .i64 Y.2]] ++ cp)
    obtain ⟨X1, X2⟩ := X
    obtain ⟨Y1, Y2⟩ := Y
    have t1 : ((k : Int) + 1).toNat = k + 1 := by omega
    have t0 : ((k : Int)).toNat = k := by omega
    have b0 : (0 : Int) ≤ (k : Int) := by omega
    have b1 : (k : Int) + 1 < (n : Int) := by omega
    have b2 : (k : Int) < (n : Int) := by omega
    have b3 : (0 : Int) ≤ (k : Int) + 1 := by omega
    have w1 : IntKind.i64.wrap (k : Int) = (k : Int) := IntWalk.i64_in _ (by omega)
    go_wp2_with fail
    go_still_tail 10, (by kernel_rfl)
    go_wp2_with fail
    refine (HCK.out _).mono ?_
    rintro e w5 ⟨⟨nn, rfl, hnn⟩, hbc⟩
    have HB5 := Lib.hid (HB.out.trans (((Below.refl _ _).drew.trans hbc).mono HB.out.size))
    clear hbc c1 c2 d1 d2 HCK
    cases hyx : lt (X1, X2) (Y1, Y2)
    · have hz : decide (nn < 0) = false := by rw [hnn]; exact hyx
      have HYX := Lib.hid hyx
      clear hnn hyx
      go_wp2
      go_roundw
      case rel => exact ⟨k, by go_num, by omega, by omega, Lib.hid (fun j h1 h2 => by
        rcases Nat.lt_or_ge k j with h | h
        · exact HALL.out j (by omega) h2
        · obtain rfl : j = k := by omega
          rw [HX.out, HY.out]; exact HYX.out), HB5.out⟩
      case measure => simp [intOf] <;> omega
    · have hz : decide (nn < 0) = true := by rw [hnn]; exact hyx
      have HE : Hid (upB lt rs = false) := upB_no (i := k) (by rw [H.out.len]; omega) (by rw [HX.out, HY.out]; exact hyx)
      clear hnn hyx
      go_wp2
      go_ret
      exact ⟨ret_bool HE.out.symm, HB5.out⟩

set_option maxRecDepth 100000 in
set_option maxHeartbeats 4000000 in
theorem l5Ascending_any (a : Option Addr) (n c : Nat) (rs : List (Int × Int)) (w : World) (hn : n ≤ 1000000) (h : Rd w a n c rs) :
    Calls Try.prog 91 #[.slice a n c] w fun e w' => e = .returned (.bool (upB ltR rs)) ∧ Below w.heap.size w w' := by
  have H := Lib.hid h
  clear h
  go_enter Try.func91, Try.ntmps91
  go_wp2
  go_loopw [3] (fun v wr => ∃ k : Nat, v = .int .i64 k ∧ k ≤ n ∧ Hid (∀ j : Nat, j < k → j + 1 < n → ltR (rs.getD (j + 1) (0, 0)) (rs.getD j (0, 0)) = false) ∧ Below w.heap.size w wr) (fun v _ => n - (intOf v).toNat)
  case atStart => exact ⟨0, rfl, by omega, Lib.hid (fun j h1 h2 => by omega), Below.refl _ _⟩
  case round =>
    obtain ⟨k, rfl, hk, HALL, hb⟩ := hrel
    have HB := Lib.hid hb
    clear hb
    by_cases hlt : k + 1 < n
    case neg =>
      have q1 : decide ((k : Int) + 1 < (n : Int)) = false := decide_eq_false (by omega)
      have HE : Hid (upB ltR rs = true) := upB_yes fun j hj => HALL.out j (by rw [H.out.len] at hj; omega) (by rw [← H.out.len]; exact hj)
      go_wp2
      go_ret
      exact ⟨ret_bool HE.out.symm, HB.out⟩
    have q1 : decide ((k : Int) + 1 < (n : Int)) = true := decide_eq_true (by omega)
    obtain ⟨b, o, rfl, d1, d2⟩ := (H.out.same HB.out).at (show k < n by omega)
    obtain ⟨b', o', e, c1, c2⟩ := (H.out.same HB.out).at (show k + 1 < n by omega)
    injection e with e
    injection e with e1 e2
    subst e1 e2
    obtain ⟨X, hX⟩ : ∃ X, rs.getD (k + 1) (0, 0) = X := ⟨_, rfl⟩
    obtain ⟨Y, hY⟩ : ∃ Y, rs.getD k (0, 0) = Y := ⟨_, rfl⟩
    rw [hX] at c1 c2
    rw [hY] at d1 d2
    have HX := Lib.hid hX; have HY := Lib.hid hY
    clear hX hY
    obtain ⟨X1, X2⟩ := X
    obtain ⟨Y1, Y2⟩ := Y
    have t1 : ((k : Int) + 1).toNat = k + 1 := by omega
    have hyx : ltR (X1, X2) (Y1, Y2) = decide (X1 < Y1) := rfl
    by_cases hxy : X1 < Y1
    · have hz : decide (X1 < Y1) = true := decide_eq_true hxy
      have HE : Hid (upB ltR rs = false) := upB_no (i := k) (by rw [H.out.len]; omega) (by rw [HX.out, HY.out, hyx]; exact hz)
      clear hxy hyx
      go_wp2_with fail
      go_quiet (fail)
      go_wp2
      go_ret
      exact ⟨ret_bool HE.out.symm, below_drewN HB.out _⟩
    · have hz : decide (X1 < Y1) = false := decide_eq_false hxy
      have HZ : Hid (ltR (X1, X2) (Y1, Y2) = false) := by show _ = _; rw [hyx]; exact hz
      clear hxy hyx
      go_wp2_with fail
      go_quiet (fail)
      go_wp2
      go_roundw
      case rel => exact ⟨k + 1, by go_num, by omega, Lib.hid (fun j h1 h2 => by
        rcases Nat.lt_or_ge j k with h | h
        · exact HALL.out j h h2
        · obtain rfl : j = k := by omega
          rw [HX.out, HY.out]; exact HZ.out), below_drewN HB.out _⟩
      case measure => simp [intOf] <;> omega

set_option maxHeartbeats 400000 in
theorem areAscending_any (a : Option Addr) (n c : Nat) (rs : List (Int × Int)) (w : World) (hn : n ≤ 9223372036854775807) (h : Rd w a n c rs) :
    Calls Try.prog 89 #[.slice a n c] w fun e w' => e = .returned (.bool (okRecs rs && upB ltR rs)) ∧ Below w.heap.size w w' := by
  have H := Lib.hid h
  obtain ⟨hr, rfl, _, _⟩ := h
  have HV := Lib.hid (isValidRecords_any a c rs w hn hr)
  clear hr
  cases hok : okRecs rs
  · rw [hok] at HV
    go_enter Try.func89, Try.ntmps89
    go_wp2_with fail
    refine HV.out.mono ?_
    rintro e w1 ⟨rfl, hb⟩
    have HB := Lib.hid hb; clear hb
    go_wp2
    go_ret
    exact ⟨rfl, HB.out⟩
  · rw [hok] at HV
    have hl := okRecs_le hok
    go_enter Try.func89, Try.ntmps89
    go_wp2_with fail
    refine HV.out.mono ?_
    rintro e w1 ⟨rfl, hb⟩
    have HB := Lib.hid hb; clear hb
    go_wp2_with fail
    refine (isSortedFunc_any (cmpV_is 0) a rs.length c rs w1 (by omega) (H.out.same HB.out)).mono ?_
    rintro e w2 ⟨rfl, hb⟩
    have HB2 := Lib.hid (HB.out.trans (hb.mono HB.out.size)); clear hb
    go_wp2
    go_ret
    exact ⟨rfl, HB2.out⟩

end Go.Proofs.Ytpbiajicdgompaa
