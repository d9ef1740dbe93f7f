/- Walks: fingerprints and ranks of the program alone. -/
import Derived.Test.YtkjmngdcfheojaaWd
import Derived.Test.YtkjmngdcfheojaaGb
namespace Go.Proofs.Ytkjmngdcfheojaa
open Go.RowKit
set_option linter.unusedVariables false

def fpD (p x : Int) : Int := (p - x) % 999983

def fpStep (p acc x : Int) : Int := acc * fpD p x % 999983

def fprint (zs : List Int) (p : Int) : Int := zs.foldl (fpStep p) 1

theorem fprint_bound (p : Int) (zs : List Int) : 0 ≤ fprint zs p ∧ fprint zs p ≤ 999982 := by
  have : ∀ (zs : List Int) (a : Int), 0 ≤ a ∧ a ≤ 999982 → 0 ≤ zs.foldl (fpStep p) a ∧ zs.foldl (fpStep p) a ≤ 999982 := by
    intro zs
    induction zs with
    | nil => intro a h; exact h
    | cons x r ih => intro a _; exact ih _ (by unfold fpStep; omega)
  exact this zs 1 (by omega)

theorem fprint_succ {zs : List Int} {k : Nat} (hk : k < zs.length) (p : Int) : fprint (zs.take (k + 1)) p = fprint (zs.take k) p * fpD p (zs.getD k 0) % 999983 := by
  unfold fprint
  rw [List.take_add_one, List.foldl_append]
  simp [fpStep, List.getD, List.getElem?_eq_getElem hk]

theorem mul_bound {a d : Int} (h0 : 0 ≤ a) (h1 : a ≤ 999982) (h2 : 0 ≤ d) (h3 : d ≤ 999982) : 0 ≤ a * d ∧ a * d ≤ 999964000324 := by
  constructor
  · exact Int.mul_nonneg h0 h2
  · have : a * d ≤ 999982 * 999982 := Int.mul_le_mul h1 h3 h2 (by omega)
    omega

theorem okList_key {zs : List Int} (h : okList zs = true) {k : Nat} (hk : k < zs.length) : -100000 ≤ zs.getD k 0 ∧ zs.getD k 0 ≤ 100000 := by
  unfold okList at h
  simp only [Bool.and_eq_true, List.all_eq_true] at h
  have := h.2 zs[k] (List.getElem_mem hk)
  simpa [okKey, inB, List.getD, hk] using this

theorem tmod_small {a : Int} (h : a < 0) (h' : -999983 < a) : a.tmod 999983 = a := by
  have e : a = -(-a) := by omega
  rw [e, Int.neg_tmod, Int.tmod_eq_emod_of_nonneg (by omega)]
  omega

theorem fpD_bound (p x : Int) : 0 ≤ fpD p x ∧ fpD p x ≤ 999982 := by unfold fpD; omega

set_option maxHeartbeats 400000 in
theorem fingerprint_any (a : Option Addr) (cap : Nat) (zs : List Int) (p : Int) (w : World) (hok : okList zs = true) (h0 : 0 ≤ p) (h1 : p ≤ 999982) (h : IntsAt w a zs) :
    Calls Try.prog 94 #[.slice a zs.length cap, .int .i64 p] w fun e w' => e = .returned (.int .i64 (fprint zs p)) ∧ w = w' := by
  have H := Lib.hid h; clear h
  have hbig := okList_len hok
  have HO := Lib.hid hok; clear hok
  go_enter Try.func94, Try.ntmps94
  go_wp2
  go_loop [5, 7, 8, 11] (fun o _ _ i => ∃ k : Nat, k ≤ zs.length ∧ i = .int .i64 k ∧ o = .int .i64 (fprint (zs.take k) p)) (fun _ _ _ i => zs.length - (intOf i).toNat)
  case atStart => exact ⟨0, by omega, rfl, rfl⟩
  case round =>
    obtain ⟨k, hk, rfl, rfl⟩ := hrel
    by_cases hlt : k < zs.length
    · obtain ⟨b, off, rfl, hcell⟩ := H.out.at hlt
      have hb := okList_key HO.out hlt
      have hs := fprint_succ hlt p
      have ha := fprint_bound p (zs.take k)
      generalize hx : zs.getD k 0 = x at hcell hb hs
      have HX := Lib.hid hx; clear hx
      have hd := fpD_bound p x
      have hm := mul_bound ha.1 ha.2 hd.1 hd.2
      have HS := Lib.hid hs; clear hs
      generalize hacc : fprint (zs.take k) p = acc at ha hm HS ⊢
      have HA := Lib.hid hacc; clear hacc
      by_cases hn : p - x < 0
      · have e1 : (p - x).tmod 999983 = p - x := tmod_small hn (by omega)
        have e2 : p - x + 999983 = fpD p x := by unfold fpD; omega
        go_wp2
        all_goals
          go_round
          case rel => exact ⟨k + 1, by omega, by go_num, by rw [HS.out]⟩
          case measure => simp [intOf]; omega
      · have e1 : (p - x) % 999983 = fpD p x := rfl
        go_wp2
        all_goals
          go_round
          case rel => exact ⟨k + 1, by omega, by go_num, by rw [HS.out]⟩
          case measure => simp [intOf]; omega
    · go_wp2
      go_ret
      exact ⟨ret_int (by rw [List.take_of_length_le (by omega)]), rfl⟩

def fpAns (zs : List Int) (p : Int) : Int × Bool := if okList zs && inB p 0 999982 then (fprint zs p, true) else (0, false)

set_option maxHeartbeats 400000 in
theorem implFingerprint_any (a : Option Addr) (cap : Nat) (zs : List Int) (p : Int) (w : World) (hbig : zs.length ≤ 9223372036854775807) (h : IntsAt w a zs) :
    Calls Try.prog 46 #[.slice a zs.length cap, .int .i64 p] w fun e w' => e = .returned (.tuple #[.int .i64 (fpAns zs p).1, .bool (fpAns zs p).2]) ∧ Below w.heap.size w w' := by
  have HL := Lib.hid (isValidList_any a cap zs w hbig h)
  have HN := Lib.hid (fun w1 => in_any p 0 999982 w1)
  cases h1 : okList zs
  · have HA : fpAns zs p = (0, false) := by simp [fpAns, h1]
    rw [HA]
    rw [h1] at HL
    clear h HA h1
    go_enter Try.func46, Try.ntmps46
    go_wp2_with ((go_at_call 84; refine HL.out.mono ?_; rintro e w' ⟨rfl, hb⟩))
    go_ret2
    exact ⟨rfl, hb⟩
  cases h2 : inB p 0 999982
  · have HA : fpAns zs p = (0, false) := by simp [fpAns, h1, h2]
    rw [HA]
    rw [h1] at HL
    rw [h2] at HN
    clear h HA h1 h2
    go_enter Try.func46, Try.ntmps46
    go_wp2_with (first | ((go_at_call 84; refine HL.out.mono ?_; rintro e w' ⟨rfl, hb⟩)) | (go_at_call 60; refine (HN.out _).mono ?_; rintro e w' ⟨rfl, rfl⟩))
    go_ret2
    exact ⟨rfl, hb⟩
  · have HA : fpAns zs p = (fprint zs p, true) := by simp [fpAns, h1, h2]
    rw [HA]
    have HP := Lib.hid (fun w1 (hb : Below w.heap.size w w1) => fingerprint_any a cap zs p w1 h1 (inB_iff.1 h2).1 (inB_iff.1 h2).2 (h.below (Nat.le_refl _) hb))
    rw [h1] at HL
    rw [h2] at HN
    clear h HA h1 h2
    go_enter Try.func46, Try.ntmps46
    go_wp2_with (first | ((go_at_call 84; refine HL.out.mono ?_; rintro e w' ⟨rfl, hb⟩)) | (go_at_call 60; refine (HN.out _).mono ?_; rintro e w' ⟨rfl, rfl⟩) | (go_at_call 94; refine (HP.out _ hb).mono ?_; rintro e w' ⟨rfl, rfl⟩))
    go_ret2
    exact ⟨rfl, hb⟩

theorem lessEq_length (zs : List Int) (x : Int) : (zs.filter (fun y => decide (y ≤ x))).length = (lessL zs x).length + (equalL zs x).length := by
  induction zs with
  | nil => rfl
  | cons y r ih =>
    rcases Int.lt_trichotomy y x with h | h | h
    · simp [lessL, equalL, List.filter_cons, h, Int.le_of_lt h, show ¬ y = x by omega] at ih ⊢; omega
    · simp [lessL, equalL, List.filter_cons, h] at ih ⊢; omega
    · simp [lessL, equalL, List.filter_cons, show ¬ y < x by omega, show ¬ y ≤ x by omega, show ¬ y = x by omega] at ih ⊢; omega

theorem filter_len_le (zs : List Int) (q : Int → Bool) : (zs.filter q).length ≤ zs.length := List.length_filter_le _ _

set_option maxHeartbeats 1000000 in
theorem implVerifyRank_any (a : Option Addr) (cap : Nat) (zs : List Int) (x r : Int) (w : World) (hbig : zs.length ≤ 9223372036854775807) (h : IntsAt w a zs) :
    Calls Try.prog 48 #[.slice a zs.length cap, .int .i64 x, .int .i64 r] w fun e w' => e = .returned (.tuple #[.bool (rankAns zs x r).1, .bool (rankAns zs x r).2]) ∧ Below w.heap.size w w' := by
  have HL := Lib.hid (isValidList_any a cap zs w hbig h)
  have HN := Lib.hid (fun w1 => in_any r 1 zs.length w1)
  cases h1 : okList zs
  · have HA : rankAns zs x r = (false, false) := by simp [rankAns, h1]
    rw [HA]
    rw [h1] at HL
    clear h HA h1
    go_enter Try.func48, Try.ntmps48
    go_wp2_with ((go_at_call 84; refine HL.out.mono ?_; rintro e w' ⟨rfl, hb⟩))
    go_ret2
    exact ⟨rfl, hb⟩
  cases h2 : inB r 1 zs.length
  · have HA : rankAns zs x r = (false, false) := by simp [rankAns, h1, h2]
    rw [HA]
    rw [h1] at HL
    rw [h2] at HN
    clear h HA h1 h2
    go_enter Try.func48, Try.ntmps48
    go_wp2_with (first | ((go_at_call 84; refine HL.out.mono ?_; rintro e w' ⟨rfl, hb⟩)) | (go_at_call 60; refine (HN.out _).mono ?_; rintro e w' ⟨rfl, rfl⟩))
    go_ret2
    exact ⟨rfl, hb⟩
  · have HA : rankAns zs x r = (decide (((lessL zs x).length : Int) < r) && decide (r ≤ (lessL zs x).length + (equalL zs x).length), true) := by simp [rankAns, h1, h2]
    rw [HA]
    have hl := okList_len h1
    rw [h1] at HL
    rw [h2] at HN
    have H := Lib.hid h
    clear h HA h1 h2
    go_enter Try.func48, Try.ntmps48
    go_wp2_with (first | (go_at_call 60; refine (HN.out _).mono ?_; rintro e w' ⟨rfl, rfl⟩) | ((go_at_call 84; refine HL.out.mono ?_; rintro e w' ⟨rfl, hb⟩); have HB := Lib.hid hb; clear hb) | fail)
    refine (split_any _ _ zs x _ (by omega) (H.out.below (Nat.le_refl _) HB.out)).mono ?_
    rintro e w2 ⟨v1, v2, v3, rfl, hS⟩
    obtain ⟨a1, c1, rfl⟩ := own_slice hS.o1
    obtain ⟨a2, c2, rfl⟩ := own_slice hS.o2
    have HB2 := Lib.hid (HB.out.trans (hS.below.mono HB.out.size))
    have m1 : (lessL zs x).length ≤ zs.length := filter_len_le _ _
    have m2 : (equalL zs x).length ≤ zs.length := filter_len_le _ _
    clear hS
    by_cases q : ((lessL zs x).length : Int) < r
    all_goals
      go_wp2
      go_ret2
      exact ⟨ret_bool2 (by simp [q]; try omega) rfl, HB2.out⟩

end Go.Proofs.Ytkjmngdcfheojaa
