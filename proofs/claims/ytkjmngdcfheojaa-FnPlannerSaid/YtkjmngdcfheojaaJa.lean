/- Contracts of the program alone: FirstDescent, ChooseMethod. -/
import Derived.Test.YtkjmngdcfheojaaKo
import Derived.Test.YtkjmngdcfheojaaWa
import Derived.Test.YtkjmngdcfheojaaWd
import Derived.Test.YtkjmngdcfheojaaKc
namespace Go.Proofs.Ytkjmngdcfheojaa
open Go.RowKit
set_option linter.unusedVariables false

theorem rfind_some {n : Nat} {q : Nat → Bool} {m : Nat} (hm : m < n) (h : q m = true) (hall : ∀ j, j < m → q j = false) : (List.range n).find? q = some m := by
  rw [List.find?_range_eq_some]
  refine ⟨h, by simpa using hm, fun j hj => by simp [hall j hj]⟩

theorem rfind_none {n : Nat} {q : Nat → Bool} (hall : ∀ j, j < n → q j = false) : (List.range n).find? q = none := by
  rw [List.find?_range_eq_none]
  intro j hj; simp [hall j hj]

def descAt (zs : List Int) (m : Nat) : Bool := decide (zs.getD (m + 1) 0 < zs.getD m 0)

def fdesc (zs : List Int) : Int := match (List.range (zs.length - 1)).find? (descAt zs) with | some m => m | none => -1

theorem fdesc_some {zs : List Int} {m : Nat} (hm : m + 1 < zs.length) (h : descAt zs m = true) (hall : ∀ j, j < m → descAt zs j = false) : fdesc zs = m := by
  unfold fdesc; rw [rfind_some (by omega) h hall]

theorem fdesc_none {zs : List Int} (hall : ∀ j, j + 1 < zs.length → descAt zs j = false) : fdesc zs = -1 := by
  unfold fdesc; rw [rfind_none (fun j hj => hall j (by omega))]

set_option maxRecDepth 100000 in
set_option maxHeartbeats 400000 in
theorem descent_any (a : Option Addr) (cap : Nat) (zs : List Int) (w : World) (hlen : zs.length ≤ 1048576) (h : IntsAt w a zs) :
    Calls Try.prog 104 #[.slice a zs.length cap] w fun e w' => e = .returned (.int .i64 (fdesc zs)) ∧ Below w.heap.size w w' := by
  have H := Lib.hid h; clear h
  go_enter Try.func104, Try.ntmps104
  go_wp2
  go_loopw [3] (fun i wr => ∃ m : Nat, m ≤ zs.length ∧ i = .int .i64 ((m : Int) + 1) ∧ (∀ j, j < m → descAt zs j = false) ∧ Below w.heap.size w wr) (fun i _ => zs.length + 1 - (intOf i).toNat)
  case atStart => exact ⟨0, by omega, rfl, by intro j h; omega, Below.refl _ _⟩
  case round =>
    obtain ⟨m, hm, rfl, hall, hb⟩ := hrel
    have Hall := Lib.hid hall; clear hall
    have HB := Lib.hid hb; clear hb
    by_cases h1 : m + 1 < zs.length
    · obtain ⟨b, off, rfl, hc1⟩ := (H.out.below (Nat.le_refl _) HB.out).at (show m < zs.length by omega)
      obtain ⟨b', off', e, hc2⟩ := (H.out.below (Nat.le_refl _) HB.out).at h1
      simp only [Option.some.injEq, Addr.mk.injEq, and_true] at e
      obtain ⟨rfl, rfl⟩ := e
      have HD : Hid (descAt zs m = decide (zs.getD (m + 1) 0 < zs.getD m 0)) := rfl
      generalize zs.getD m 0 = x at hc1 HD
      generalize zs.getD (m + 1) 0 = y at hc2 HD
      by_cases hyx : y < x
      · go_wp2_with fail
        go_quiet (fail)
        go_wp2
        go_ret
        exact ⟨ret_int (by rw [fdesc_some h1 (by rw [HD.out]; simpa using hyx) Hall.out]), below_drewN HB.out _⟩
      · have hd : decide (y < x) = false := by simpa using hyx
        go_wp2_with fail
        go_quiet (fail)
        go_wp2
        go_roundw
        case rel =>
          refine ⟨m + 1, by omega, by go_num, fun j hj => ?_, below_drewN HB.out _⟩
          rcases Nat.lt_succ_iff_lt_or_eq.1 hj with h | rfl
          · exact Hall.out j h
          · rw [HD.out]; exact hd
        case measure => simp [intOf]; omega
    · go_wp2
      go_ret
      exact ⟨ret_int (by rw [fdesc_none (fun j hj => Hall.out j (by omega))]), HB.out⟩

def fdAns (rs : List (Int × Int)) : Int × Bool := if okRecs rs then (if fdesc (keysL rs) = -1 then (-1, true) else (fdesc (keysL rs) + 1, true)) else (0, false)

theorem fdesc_range (zs : List Int) : fdesc zs = -1 ∨ 0 ≤ fdesc zs ∧ fdesc zs < zs.length := by
  unfold fdesc
  cases h : (List.range (zs.length - 1)).find? (descAt zs) with
  | none => left; rfl
  | some m =>
    right
    have := List.mem_of_find?_eq_some h
    simp at this
    simp; omega

set_option maxHeartbeats 400000 in
theorem implFirstDescent_any (a : Option Addr) (cap : Nat) (zs : List (Int × Int)) (w : World) (hbig : zs.length ≤ 9223372036854775807) (h : RecsAt w a zs) :
    Calls Try.prog 52 #[.slice a zs.length cap] w fun e w' => e = .returned (.tuple #[.int .i64 (fdAns zs).1, .bool (fdAns zs).2]) ∧ Below w.heap.size w w' := by
  have HL := Lib.hid (isValidRecords_any a cap zs w hbig h)
  cases h1 : okRecs zs
  · have HA : fdAns zs = (0, false) := by simp [fdAns, h1]
    rw [HA]
    rw [h1] at HL
    clear h HA h1
    go_enter Try.func52, Try.ntmps52
    go_wp2_with ((go_at_call 22; refine HL.out.mono ?_; rintro e w' ⟨rfl, hb⟩))
    go_ret2
    exact ⟨rfl, hb⟩
  · have hl := okRecs_len h1
    have HA : Hid (fdAns zs = (if fdesc (keysL zs) = -1 then (-1, true) else (fdesc (keysL zs) + 1, true))) := by show _ = _; simp [fdAns, h1]
    have HRR := Lib.hid (fdesc_range (keysL zs))
    have HKL := Lib.hid (keysL_len zs)
    rw [h1] at HL
    have H := Lib.hid h
    have hl2 : (keysL zs).length ≤ 64 := by rw [HKL.out]; exact hl
    clear h h1
    go_enter Try.func52, Try.ntmps52
    go_wp2_with fail
    refine HL.out.mono ?_
    rintro e w1 ⟨rfl, hb⟩
    have HB := Lib.hid hb; clear hb
    go_wp2_with fail
    refine (keysOf_any a cap zs _ (by omega) (H.out.below (Nat.le_refl _) HB.out)).mono ?_
    rintro e w2 ⟨a', c', rfl, ho2, hb2⟩
    have H2 := Lib.hid (ownInts ho2); clear ho2
    have HB2 := Lib.hid (HB.out.trans (hb2.mono HB.out.size)); clear hb2
    go_wp2_with fail
    refine (descent_any a' c' (keysL zs) _ (by omega) H2.out).mono ?_
    rintro e w3 ⟨rfl, hb3⟩
    have HB3 := Lib.hid (HB2.out.trans (hb3.mono HB2.out.size)); clear hb3
    rcases HRR.out with hR | hR
    · have HR := Lib.hid hR
      rw [hR]
      clear hR
      go_wp2
      go_ret2
      exact ⟨by rw [HA.out, if_pos HR.out]; rfl, HB3.out⟩
    · have hR1 := hR.1
      have hR2 := hR.2
      clear hR
      go_wp2
      go_ret2
      exact ⟨by rw [HA.out, if_neg (by omega)]; rfl, HB3.out⟩

def passN : Nat → Int → Int → Int
  | 0, _, _ => 0
  | f + 1, r, w => if 1 < r then 1 + passN f ((r + w - 1) / w) w else 0

def passes (r w : Int) : Int := passN r.toNat r w

theorem pass_lt {r w : Int} (hr : 1 < r) (hw : 2 ≤ w) : 1 ≤ (r + w - 1) / w ∧ (r + w - 1) / w ≤ r - 1 := by
  have h1 : 0 < (r - 1) * (w - 1) := Int.mul_pos (by omega) (by omega)
  have h2 : (r - 1) * (w - 1) = r * w - r - w + 1 := by rw [Int.sub_mul, Int.mul_sub]; omega
  constructor
  · apply Int.le_ediv_of_mul_le (by omega); omega
  · have : (r + w - 1) / w < r := Int.ediv_lt_of_lt_mul (by omega) (by omega)
    omega

theorem passN_fuel (w : Int) (hw : 2 ≤ w) : ∀ (f g : Nat) (r : Int), r.toNat ≤ f → r.toNat ≤ g → passN f r w = passN g r w := by
  intro f
  induction f with
  | zero =>
    intro g r h1 h2
    cases g with
    | zero => rfl
    | succ g => simp only [passN]; rw [if_neg (by omega)]
  | succ f ih =>
    intro g r h1 h2
    cases g with
    | zero => simp only [passN]; rw [if_neg (by omega)]
    | succ g =>
      simp only [passN]
      by_cases hr : 1 < r
      · rw [if_pos hr, if_pos hr]
        have := pass_lt hr hw
        rw [ih g _ (by omega) (by omega)]
      · rw [if_neg hr, if_neg hr]

theorem passes_step {r w : Int} (hw : 2 ≤ w) (hr : 1 < r) : passes r w = 1 + passes ((r + w - 1) / w) w := by
  unfold passes
  have e : r.toNat = (r.toNat - 1) + 1 := by omega
  rw [e]
  simp only [passN]
  rw [if_pos hr]
  have := pass_lt hr hw
  rw [passN_fuel w hw (r.toNat - 1) _ _ (by omega) (Nat.le_refl _)]

theorem passes_stop {r w : Int} (hr : ¬ 1 < r) : passes r w = 0 := by
  unfold passes
  cases h : r.toNat with
  | zero => rfl
  | succ n => simp only [passN]; rw [if_neg hr]

theorem passes_bound (w : Int) (hw : 2 ≤ w) : ∀ (f : Nat) (r : Int), r.toNat ≤ f → 0 ≤ passes r w ∧ (passes r w = 0 ∨ passes r w ≤ r - 1) := by
  intro f
  induction f with
  | zero => intro r h; rw [passes_stop (by omega)]; omega
  | succ f ih =>
    intro r h
    by_cases hr : 1 < r
    · rw [passes_step hw hr]
      have h1 := pass_lt hr hw
      have := ih ((r + w - 1) / w) (by omega)
      omega
    · rw [passes_stop hr]; omega

set_option maxHeartbeats 400000 in
theorem passCount_any (r v : Int) (w : World) (hr : r ≤ 100000) (hr0 : -100000 ≤ r) (hv : 2 ≤ v) (hv2 : v ≤ 100000) :
    Calls Try.prog 102 #[.int .i64 r, .int .i64 v] w fun e w' => e = .returned (.int .i64 (passes r v)) ∧ w = w' := by
  go_enter Try.func102, Try.ntmps102
  go_wp2
  go_loop [0, 5] (fun x n => ∃ a b : Int, x = .int .i64 a ∧ n = .int .i64 b ∧ 0 ≤ b ∧ (b = 0 ∨ a + b ≤ r) ∧ a ≤ r ∧ -100000 ≤ a ∧ (0 < b → 1 ≤ a) ∧ b + passes a v = passes r v) (fun x _ => (intOf x).toNat)
  case atStart => exact ⟨r, 0, rfl, rfl, by omega, by omega, by omega, by omega, by omega, by omega⟩
  case round =>
    obtain ⟨a, b, rfl, rfl, h1, h2, h3, h4, h5, h6⟩ := hrel
    have H6 := Lib.hid h6; clear h6
    by_cases ha : 1 < a
    · have hp := pass_lt ha hv
      have HS := Lib.hid (passes_step hv ha)
      go_wp2
      go_round
      case rel => exact ⟨(a + v - 1) / v, b + 1, rfl, rfl, by omega, by omega, by omega, by omega, by omega, by have := H6.out; rw [HS.out] at this; omega⟩
      case measure => simp [intOf]; omega
    · have HS := Lib.hid (passes_stop (w := v) ha)
      go_wp2
      go_ret
      exact ⟨ret_int (by have := H6.out; rw [HS.out] at this; omega), rfl⟩

set_option maxHeartbeats 400000 in
theorem blocks_any (c b : Int) (w : World) (hc : 0 ≤ c) (hc2 : c ≤ 100000) (hb : 1 ≤ b) (hb2 : b ≤ 100000) :
    Calls Try.prog 103 #[.int .i64 c, .int .i64 b] w fun e w' => e = .returned (.int .i64 ((c + b - 1) / b)) ∧ w = w' := by
  go_enter Try.func103, Try.ntmps103
  go_wp2
  go_ret
  exact ⟨rfl, rfl⟩

def okProf (c r v d g : Int) : Bool :=
  inB c 0 64 && if c = 0 then decide (r = 0) && decide (v = 0) && decide (d = 0) && decide (g = 0)
    else inB r 1 c && inB d 1 c && inB v 0 (c * (c - 1) / 2) && (decide (v = 0) == decide (r = 1)) && inB g d 200001

theorem tri_bound {c : Int} (h0 : 0 ≤ c) (h1 : c ≤ 64) : -64 ≤ c * (c - 1) ∧ c * (c - 1) ≤ 4032 := by
  by_cases h : c = 0
  · subst h; omega
  · have : c * (c - 1) ≤ 64 * 63 := Int.mul_le_mul h1 (by omega) (by omega) (by omega)
    have : 0 ≤ c * (c - 1) := Int.mul_nonneg h0 (by omega)
    omega

set_option maxHeartbeats 2000000 in
theorem isProfile_any (c r v d g : Int) (w : World) (h0 : inB c 0 64 = true) :
    Calls Try.prog 101 #[.agg #[.int .i64 c, .int .i64 r, .int .i64 v, .int .i64 d, .int .i64 g]] w fun e w' => e = .returned (.bool (okProf c r v d g)) ∧ Below w.heap.size w w' := by
  obtain ⟨hc0, hc1⟩ := inB_iff.1 h0
  by_cases hc : c = 0
  · subst hc
    have HE : Hid (okProf 0 r v d g = (decide (r = 0) && decide (v = 0) && decide (d = 0) && decide (g = 0))) := by show _ = _; simp [okProf, h0]
    go_enter Try.func101, Try.ntmps101
    go_wp2_with (go_at_call 60; refine (in_any _ _ _ _).mono ?_; rintro e w' ⟨rfl, rfl⟩)
    all_goals
      go_ret
      exact ⟨ret_bool (by rw [HE.out]; simp_all), by (repeat (first | exact Below.refl _ _ | assumption | refine Below.setCell ?_ (by first | omega | (simp; done) | (simp; omega)) _ | refine Below.alloc ?_ (by first | omega | (simp; done) | (simp; omega)) _ | refine Below.drew ?_ | refine below_drewN ?_ _))⟩
  have hcp : 0 < c := by omega
  have hce : (c == 0) = false := by simpa using hc
  have ht := tri_bound hc0 hc1
  have h01 : inB c 1 64 = true := inB_iff.2 ⟨by omega, by omega⟩
  have HE : Hid (okProf c r v d g = (inB r 1 c && inB d 1 c && inB v 0 (c * (c - 1) / 2) && (decide (v = 0) == decide (r = 1)) && inB g d 200001)) := by show _ = _; simp [okProf, h0, hc]
  have ht0 : 0 ≤ c * (c - 1) := Int.mul_nonneg hc0 (by omega)
  cases h1 : inB r 1 c
  · have H1 := Lib.hid h1
    go_enter Try.func101, Try.ntmps101
    go_wp2_with (go_at_call 60; refine (in_any _ _ _ _).mono ?_; rintro e w' ⟨rfl, rfl⟩)
    go_ret
    exact ⟨ret_bool (by rw [HE.out]; simp [H1.out]), by (repeat (first | exact Below.refl _ _ | assumption | refine Below.setCell ?_ (by first | omega | (simp; done) | (simp; omega)) _ | refine Below.alloc ?_ (by first | omega | (simp; done) | (simp; omega)) _ | refine Below.drew ?_ | refine below_drewN ?_ _))⟩
  cases h2 : inB d 1 c
  · have H1 := Lib.hid h2
    go_enter Try.func101, Try.ntmps101
    go_wp2_with (go_at_call 60; refine (in_any _ _ _ _).mono ?_; rintro e w' ⟨rfl, rfl⟩)
    go_ret
    exact ⟨ret_bool (by rw [HE.out]; simp [H1.out]), by (repeat (first | exact Below.refl _ _ | assumption | refine Below.setCell ?_ (by first | omega | (simp; done) | (simp; omega)) _ | refine Below.alloc ?_ (by first | omega | (simp; done) | (simp; omega)) _ | refine Below.drew ?_ | refine below_drewN ?_ _))⟩
  cases h3 : inB v 0 (c * (c - 1) / 2)
  · have H1 := Lib.hid h3
    go_enter Try.func101, Try.ntmps101
    go_wp2_with (go_at_call 60; refine (in_any _ _ _ _).mono ?_; rintro e w' ⟨rfl, rfl⟩)
    go_ret
    exact ⟨ret_bool (by rw [HE.out]; simp [H1.out]), by (repeat (first | exact Below.refl _ _ | assumption | refine Below.setCell ?_ (by first | omega | (simp; done) | (simp; omega)) _ | refine Below.alloc ?_ (by first | omega | (simp; done) | (simp; omega)) _ | refine Below.drew ?_ | refine below_drewN ?_ _))⟩
  cases h5 : (decide (v = 0) == decide (r = 1))
  · have H1 := Lib.hid h5; clear h5
    by_cases hv : v = 0
    · have hv' : (v == 0) = true := by simpa using hv
      have hr' : (r == 1) = false := by have := H1.out; simp [hv] at this; simpa using this
      have HV := Lib.hid hv; clear hv
      go_enter Try.func101, Try.ntmps101
      go_wp2_with (go_at_call 60; refine (in_any _ _ _ _).mono ?_; rintro e w' ⟨rfl, rfl⟩)
      go_ret
      exact ⟨ret_bool (by rw [HE.out]; simp [H1.out]), by (repeat (first | exact Below.refl _ _ | assumption | refine Below.setCell ?_ (by first | omega | (simp; done) | (simp; omega)) _ | refine Below.alloc ?_ (by first | omega | (simp; done) | (simp; omega)) _ | refine Below.drew ?_ | refine below_drewN ?_ _))⟩
    · have hv' : (v == 0) = false := by simpa using hv
      have hr' : (r == 1) = true := by have := H1.out; simp [hv] at this; simpa using this
      have HV := Lib.hid hv; clear hv
      go_enter Try.func101, Try.ntmps101
      go_wp2_with (go_at_call 60; refine (in_any _ _ _ _).mono ?_; rintro e w' ⟨rfl, rfl⟩)
      go_ret
      exact ⟨ret_bool (by rw [HE.out]; simp [H1.out]), by (repeat (first | exact Below.refl _ _ | assumption | refine Below.setCell ?_ (by first | omega | (simp; done) | (simp; omega)) _ | refine Below.alloc ?_ (by first | omega | (simp; done) | (simp; omega)) _ | refine Below.drew ?_ | refine below_drewN ?_ _))⟩
  have H5 := Lib.hid h5; clear h5
  have H1 := Lib.hid h1
  have H2 := Lib.hid h2
  have H3 := Lib.hid h3
  by_cases hv : v = 0
  · have hv' : (v == 0) = true := by simpa using hv
    have hr' : (r == 1) = true := by have := H5.out; simp [hv] at this; simpa using this
    have HV := Lib.hid hv; clear hv
    go_enter Try.func101, Try.ntmps101
    go_wp2_with (go_at_call 60; refine (in_any _ _ _ _).mono ?_; rintro e w' ⟨rfl, rfl⟩)
    go_ret
    exact ⟨ret_bool (by rw [HE.out]; simp [H1.out, H2.out, H3.out, H5.out]), by (repeat (first | exact Below.refl _ _ | assumption | refine Below.setCell ?_ (by first | omega | (simp; done) | (simp; omega)) _ | refine Below.alloc ?_ (by first | omega | (simp; done) | (simp; omega)) _ | refine Below.drew ?_ | refine below_drewN ?_ _))⟩
  · have hv' : (v == 0) = false := by simpa using hv
    have hr' : (r == 1) = false := by have := H5.out; simp [hv] at this; simpa using this
    have HV := Lib.hid hv; clear hv
    go_enter Try.func101, Try.ntmps101
    go_wp2_with (go_at_call 60; refine (in_any _ _ _ _).mono ?_; rintro e w' ⟨rfl, rfl⟩)
    go_ret
    exact ⟨ret_bool (by rw [HE.out]; simp [H1.out, H2.out, H3.out, H5.out]), by (repeat (first | exact Below.refl _ _ | assumption | refine Below.setCell ?_ (by first | omega | (simp; done) | (simp; omega)) _ | refine Below.alloc ?_ (by first | omega | (simp; done) | (simp; omega)) _ | refine Below.drew ?_ | refine below_drewN ?_ _))⟩

theorem same_flip {P : Program} {f : FuncId} {args : Array Value} {w : World} {r : Ending} (h : Calls P f args w fun e w' => e = r ∧ w = w') : Calls P f args w fun e w' => e = r ∧ w' = w :=
  h.mono fun _ _ ⟨a, b⟩ => ⟨a, b.symm⟩

def chooseAns (c r v d g m : Int) : Int × Int × Bool :=
  if okProf c r v d g && inB m 1 64 then
    if r ≤ 1 then (0, 0, true) else if v ≤ c then (1, v + c, true) else if g ≤ 2 * c then (2, c + g, true) else if c ≤ m then (3, c * passes r 2, true) else (4, 2 * c * (1 + passes ((c + m - 1) / m) 2), true)
  else (0, 0, false)

theorem okProf_range {c r v d g : Int} (h : okProf c r v d g = true) : 0 ≤ c ∧ c ≤ 64 ∧ 0 ≤ r ∧ r ≤ 64 ∧ 0 ≤ v ∧ v ≤ 2016 ∧ 0 ≤ g ∧ g ≤ 200001 ∧ 0 ≤ d ∧ (c = 0 → r = 0) := by
  unfold okProf at h
  rw [Bool.and_eq_true] at h
  obtain ⟨h0, h⟩ := h
  obtain ⟨hc0, hc1⟩ := inB_iff.1 h0
  have ht := tri_bound hc0 hc1
  by_cases hc : c = 0
  · rw [if_pos hc] at h
    simp at h
    omega
  · rw [if_neg hc] at h
    simp only [Bool.and_eq_true, inB_iff] at h
    omega

theorem ret_iib {a b c d : Int} {p q : Bool} (h : a = b) (k : c = d) (l : p = q) : Ending.returned (.tuple #[.int .i64 a, .int .i64 c, .bool p]) = .returned (.tuple #[.int .i64 b, .int .i64 d, .bool q]) := by rw [h, k, l]

theorem ret_ans {x : Int × Int × Bool} {a b : Int} {p : Bool} (h : x = (a, b, p)) : Ending.returned (.tuple #[.int .i64 a, .int .i64 b, .bool p]) = .returned (.tuple #[.int .i64 x.1, .int .i64 x.2.1, .bool x.2.2]) := by rw [h]

theorem mul_small {a b : Int} (h0 : 0 ≤ a) (h1 : a ≤ 128) (h2 : 0 ≤ b) (h3 : b ≤ 200) : 0 ≤ a * b ∧ a * b ≤ 25600 := by
  constructor
  · exact Int.mul_nonneg h0 h2
  · have : a * b ≤ 128 * 200 := Int.mul_le_mul h1 h3 h2 (by omega)
    omega

set_option maxRecDepth 100000 in
set_option maxHeartbeats 4000000 in
theorem implChooseMethod_any (c r v d g m : Int) (w : World) :
    Calls Try.prog 51 #[.agg #[.int .i64 c, .int .i64 r, .int .i64 v, .int .i64 d, .int .i64 g], .int .i64 m] w fun e w' => e = .returned (.tuple #[.int .i64 (chooseAns c r v d g m).1, .int .i64 (chooseAns c r v d g m).2.1, .bool (chooseAns c r v d g m).2.2]) ∧ Below w.heap.size w w' := by
  have HB0 : Hid (Below w.heap.size w (w.alloc (.cells #[.int .i64 c, .int .i64 r, .int .i64 v, .int .i64 d, .int .i64 g] 71))) := (Below.refl _ _).alloc (Nat.le_refl _) _
  have HC : Hid (∀ w2, Below (w.alloc (.cells #[.int .i64 c, .int .i64 r, .int .i64 v, .int .i64 d, .int .i64 g] 71)).heap.size (w.alloc (.cells #[.int .i64 c, .int .i64 r, .int .i64 v, .int .i64 d, .int .i64 g] 71)) w2 → ∀ j, j < 5 → w2.cell? ⟨w.heap.size, j, none⟩ = (#[Value.int .i64 c, .int .i64 r, .int .i64 v, .int .i64 d, .int .i64 g] : Array Value)[j]?) := by
    intro w2 hb j hj
    rw [hb.cell (p := ⟨w.heap.size, j, none⟩) (by simp), World.cell?_alloc_at _ _ _ _ rfl]
  cases hc0 : inB c 0 64
  · have HA : Hid (chooseAns c r v d g m = (0, 0, false)) := by show _ = _; simp [chooseAns, okProf, hc0]
    have HI := Lib.hid (hc0 ▸ in_any c 0 64 (w.alloc (.cells #[.int .i64 c, .int .i64 r, .int .i64 v, .int .i64 d, .int .i64 g] 71)))
    clear hc0
    go_enter Try.func51, Try.ntmps51
    go_wp2_with (go_at_call 60; refine HI.out.mono ?_; rintro e w' ⟨rfl, rfl⟩)
    go_ret3
    exact ⟨ret_ans HA.out, HB0.out⟩
  have HI := Lib.hid (hc0 ▸ in_any c 0 64 (w.alloc (.cells #[.int .i64 c, .int .i64 r, .int .i64 v, .int .i64 d, .int .i64 g] 71)))
  have HL := Lib.hid (isProfile_any c r v d g (w.alloc (.cells #[.int .i64 c, .int .i64 r, .int .i64 v, .int .i64 d, .int .i64 g] 71)) hc0)
  clear hc0
  cases h0 : okProf c r v d g
  · have HA : Hid (chooseAns c r v d g m = (0, 0, false)) := by show _ = _; simp [chooseAns, h0]
    rw [h0] at HL
    clear h0
    go_enter Try.func51, Try.ntmps51
    go_wp2_with fail
    refine HI.out.mono ?_
    rintro e w' ⟨rfl, rfl⟩
    go_wp2_with fail
    refine HL.out.mono ?_
    rintro e w2 ⟨rfl, hb⟩
    have HB := Lib.hid (HB0.out.trans (hb.mono HB0.out.size))
    clear hb
    go_wp2
    go_ret3
    exact ⟨ret_ans HA.out, HB.out⟩
  obtain ⟨q0, q1, q2, q3, q4, q5, q6, q7, q8, q9⟩ := okProf_range h0
  rw [h0] at HL
  cases hm : inB m 1 64
  · have HA : Hid (chooseAns c r v d g m = (0, 0, false)) := by show _ = _; simp [chooseAns, h0, hm]
    clear h0
    go_enter Try.func51, Try.ntmps51
    go_wp2_with fail
    refine HI.out.mono ?_
    rintro e w' ⟨rfl, rfl⟩
    go_wp2_with fail
    refine HL.out.mono ?_
    rintro e w2 ⟨rfl, hb⟩
    have HB := Lib.hid (HB0.out.trans (hb.mono HB0.out.size))
    clear hb
    go_wp2_with (go_at_call 60; refine (in_any _ _ _ _).mono ?_; rintro e w' ⟨rfl, rfl⟩)
    go_ret3
    exact ⟨ret_ans HA.out, HB.out⟩
  obtain ⟨m0, m1⟩ := inB_iff.1 hm
  have hq0 : 0 ≤ (c + m - 1) / m := Int.ediv_nonneg (by omega) (by omega)
  have hq1 : (c + m - 1) / m ≤ c + m - 1 := Int.ediv_le_self _ (by omega)
  have HG := Lib.hid (fun w1 => passCount_any ((c + m - 1) / m) 2 w1 (by omega) (by omega) (by omega) (by omega))
  have HP := Lib.hid (fun w1 => passCount_any r 2 w1 (by omega) (by omega) (by omega) (by omega))
  have HK := Lib.hid (fun w1 => blocks_any c m w1 (by omega) (by omega) (by omega) (by omega))
  have pb1 := passes_bound 2 (by omega) r.toNat r (Nat.le_refl _)
  have pb2 := passes_bound 2 (by omega) ((c + m - 1) / m).toNat ((c + m - 1) / m) (Nat.le_refl _)
  have u1 : 0 ≤ passes r 2 ∧ passes r 2 ≤ 64 := by omega
  have u2 : 0 ≤ passes ((c + m - 1) / m) 2 ∧ passes ((c + m - 1) / m) 2 ≤ 128 := by omega
  have u3 := mul_small q0 (by omega) u1.1 (by omega : passes r 2 ≤ 200)
  have u4 := mul_small (a := 2 * c) (by omega) (by omega) (by omega : 0 ≤ 1 + passes ((c + m - 1) / m) 2) (by omega)
  have HM := Lib.hid hm
  clear pb1 pb2
  have hA : chooseAns c r v d g m = if r ≤ 1 then (0, 0, true) else if v ≤ c then (1, v + c, true) else if g ≤ 2 * c then (2, c + g, true) else if c ≤ m then (3, c * passes r 2, true) else (4, 2 * c * (1 + passes ((c + m - 1) / m) 2), true) := by simp [chooseAns, h0, hm]
  clear h0
  by_cases t0 : r ≤ 1
  · have HA := Lib.hid (hA.trans (by rw [if_pos t0]))
    clear hA
    go_enter Try.func51, Try.ntmps51
    go_wp2_with fail
    refine HI.out.mono ?_
    rintro e w' ⟨rfl, rfl⟩
    go_wp2_with fail
    refine HL.out.mono ?_
    rintro e w2 ⟨rfl, hb⟩
    have HB := Lib.hid (HB0.out.trans (hb.mono HB0.out.size))
    have g0 : w2.cell? ⟨w.heap.size, 0, none⟩ = some (.int .i64 c) := HC.out w2 hb 0 (by omega)
    have g1 : w2.cell? ⟨w.heap.size, 1, none⟩ = some (.int .i64 r) := HC.out w2 hb 1 (by omega)
    have g2 : w2.cell? ⟨w.heap.size, 2, none⟩ = some (.int .i64 v) := HC.out w2 hb 2 (by omega)
    have g3 : w2.cell? ⟨w.heap.size, 3, none⟩ = some (.int .i64 d) := HC.out w2 hb 3 (by omega)
    have g4 : w2.cell? ⟨w.heap.size, 4, none⟩ = some (.int .i64 g) := HC.out w2 hb 4 (by omega)
    clear hb
    go_wp2_with (first | (go_at_call 60; refine (in_any _ _ _ _).mono ?_; rintro e w' ⟨rfl, rfl⟩))
    go_ret3
    exact ⟨ret_ans HA.out, HB.out⟩
  by_cases t1 : v ≤ c
  · have HA := Lib.hid (hA.trans (by rw [if_neg t0, if_pos t1]))
    clear hA
    go_enter Try.func51, Try.ntmps51
    go_wp2_with fail
    refine HI.out.mono ?_
    rintro e w' ⟨rfl, rfl⟩
    go_wp2_with fail
    refine HL.out.mono ?_
    rintro e w2 ⟨rfl, hb⟩
    have HB := Lib.hid (HB0.out.trans (hb.mono HB0.out.size))
    have g0 : w2.cell? ⟨w.heap.size, 0, none⟩ = some (.int .i64 c) := HC.out w2 hb 0 (by omega)
    have g1 : w2.cell? ⟨w.heap.size, 1, none⟩ = some (.int .i64 r) := HC.out w2 hb 1 (by omega)
    have g2 : w2.cell? ⟨w.heap.size, 2, none⟩ = some (.int .i64 v) := HC.out w2 hb 2 (by omega)
    have g3 : w2.cell? ⟨w.heap.size, 3, none⟩ = some (.int .i64 d) := HC.out w2 hb 3 (by omega)
    have g4 : w2.cell? ⟨w.heap.size, 4, none⟩ = some (.int .i64 g) := HC.out w2 hb 4 (by omega)
    clear hb
    go_wp2_with (first | (go_at_call 60; refine (in_any _ _ _ _).mono ?_; rintro e w' ⟨rfl, rfl⟩))
    go_quiet (fail)
    go_wp2
    go_ret3
    exact ⟨ret_ans HA.out, below_drewN HB.out _⟩
  by_cases t2 : g ≤ 2 * c
  · have HA := Lib.hid (hA.trans (by rw [if_neg t0, if_neg t1, if_pos t2]))
    clear hA
    go_enter Try.func51, Try.ntmps51
    go_wp2_with fail
    refine HI.out.mono ?_
    rintro e w' ⟨rfl, rfl⟩
    go_wp2_with fail
    refine HL.out.mono ?_
    rintro e w2 ⟨rfl, hb⟩
    have HB := Lib.hid (HB0.out.trans (hb.mono HB0.out.size))
    have g0 : w2.cell? ⟨w.heap.size, 0, none⟩ = some (.int .i64 c) := HC.out w2 hb 0 (by omega)
    have g1 : w2.cell? ⟨w.heap.size, 1, none⟩ = some (.int .i64 r) := HC.out w2 hb 1 (by omega)
    have g2 : w2.cell? ⟨w.heap.size, 2, none⟩ = some (.int .i64 v) := HC.out w2 hb 2 (by omega)
    have g3 : w2.cell? ⟨w.heap.size, 3, none⟩ = some (.int .i64 d) := HC.out w2 hb 3 (by omega)
    have g4 : w2.cell? ⟨w.heap.size, 4, none⟩ = some (.int .i64 g) := HC.out w2 hb 4 (by omega)
    clear hb
    go_wp2_with (first | (go_at_call 60; refine (in_any _ _ _ _).mono ?_; rintro e w' ⟨rfl, rfl⟩))
    go_quiet (fail)
    go_wp2
    go_ret3
    exact ⟨ret_ans HA.out, below_drewN HB.out _⟩
  by_cases t3 : c ≤ m
  · have HA := Lib.hid (hA.trans (by rw [if_neg t0, if_neg t1, if_neg t2, if_pos t3]))
    clear hA
    go_enter Try.func51, Try.ntmps51
    go_wp2_with fail
    refine HI.out.mono ?_
    rintro e w' ⟨rfl, rfl⟩
    go_wp2_with fail
    refine HL.out.mono ?_
    rintro e w2 ⟨rfl, hb⟩
    have HB := Lib.hid (HB0.out.trans (hb.mono HB0.out.size))
    have g0 : w2.cell? ⟨w.heap.size, 0, none⟩ = some (.int .i64 c) := HC.out w2 hb 0 (by omega)
    have g1 : w2.cell? ⟨w.heap.size, 1, none⟩ = some (.int .i64 r) := HC.out w2 hb 1 (by omega)
    have g2 : w2.cell? ⟨w.heap.size, 2, none⟩ = some (.int .i64 v) := HC.out w2 hb 2 (by omega)
    have g3 : w2.cell? ⟨w.heap.size, 3, none⟩ = some (.int .i64 d) := HC.out w2 hb 3 (by omega)
    have g4 : w2.cell? ⟨w.heap.size, 4, none⟩ = some (.int .i64 g) := HC.out w2 hb 4 (by omega)
    clear hb
    go_wp2_with (first | (go_at_call 60; refine (in_any _ _ _ _).mono ?_; rintro e w' ⟨rfl, rfl⟩))
    go_quiet ((go_at_call 102; exact Calls.quiet_of_same (same_flip (HP.out _))))
    go_wp2
    go_ret3
    exact ⟨ret_ans HA.out, below_drewN HB.out _⟩
  have HA := Lib.hid (hA.trans (by rw [if_neg t0, if_neg t1, if_neg t2, if_neg t3]))
  clear hA
  go_enter Try.func51, Try.ntmps51
  go_wp2_with fail
  refine HI.out.mono ?_
  rintro e w' ⟨rfl, rfl⟩
  go_wp2_with fail
  refine HL.out.mono ?_
  rintro e w2 ⟨rfl, hb⟩
  have HB := Lib.hid (HB0.out.trans (hb.mono HB0.out.size))
  have g0 : w2.cell? ⟨w.heap.size, 0, none⟩ = some (.int .i64 c) := HC.out w2 hb 0 (by omega)
  have g1 : w2.cell? ⟨w.heap.size, 1, none⟩ = some (.int .i64 r) := HC.out w2 hb 1 (by omega)
  have g2 : w2.cell? ⟨w.heap.size, 2, none⟩ = some (.int .i64 v) := HC.out w2 hb 2 (by omega)
  have g3 : w2.cell? ⟨w.heap.size, 3, none⟩ = some (.int .i64 d) := HC.out w2 hb 3 (by omega)
  have g4 : w2.cell? ⟨w.heap.size, 4, none⟩ = some (.int .i64 g) := HC.out w2 hb 4 (by omega)
  clear hb
  go_wp2_with (first | (go_at_call 60; refine (in_any _ _ _ _).mono ?_; rintro e w' ⟨rfl, rfl⟩))
  go_quiet ((first | (go_at_call 102; exact Calls.quiet_of_same (same_flip (HG.out _))) | (go_at_call 103; exact Calls.quiet_of_same (same_flip (HK.out _)))))
  go_wp2
  go_ret3
  exact ⟨ret_ans HA.out, below_drewN HB.out _⟩

end Go.Proofs.Ytkjmngdcfheojaa
