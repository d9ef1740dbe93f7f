/- Walks: pass counts; profiles; the choice of a method: FnExactChooseMethod. -/
import Derived.Test.YtjlebikidoedmaaWa
namespace Go.Proofs.Ytjlebikidoedmaa
open Go.RowKit
set_option linter.unusedVariables false

def passN : Nat → Int → Int → Int
  | 0, _, _ => 0
  | f + 1, r, w => if 1 < r then 1 + passN f ((r + w - 1) / w) w else 0
def passes (r w : Int) : Int := passN r.toNat r w

theorem pass_lt {r w : Int} (hr : 1 < r) (hw : 2 ≤ w) : 1 ≤ (r + w - 1) / w ∧ (r + w - 1) / w ≤ r - 1 := by
  have h1 : 0 < (r - 1) * (w - 1) := Int.mul_pos (by omega) (by omega)
  have h2 : (r - 1) * (w - 1) = r * w - r - w + 1 := by rw [Int.sub_mul, Int.mul_sub]; omega
  constructor
  · apply Int.le_ediv_of_mul_le (by omega); omega
  · have : (r + w - 1) / w < r := Int.ediv_lt_of_lt_mul (by omega) (by omega)
    omega

theorem passN_fuel (w : Int) (hw : 2 ≤ w) : ∀ (f g : Nat) (r : Int), r.toNat ≤ f → r.toNat ≤ g → passN f r w = passN g r w := by
  intro f
  induction f with
  | zero =>
    intro g r h1 h2
    cases g with
    | zero => rfl
    | succ g => simp only [passN]; rw [if_neg (by omega)]
  | succ f ih =>
    intro g r h1 h2
    cases g with
    | zero => simp only [passN]; rw [if_neg (by omega)]
    | succ g =>
      simp only [passN]
      by_cases hr : 1 < r
      · rw [if_pos hr, if_pos hr]
        have := pass_lt hr hw
        rw [ih g _ (by omega) (by omega)]
      · rw [if_neg hr, if_neg hr]

theorem passes_step {r w : Int} (hw : 2 ≤ w) (hr : 1 < r) : passes r w = 1 + passes ((r + w - 1) / w) w := by
  unfold passes
  have e : r.toNat = (r.toNat - 1) + 1 := by omega
  rw [e]
  simp only [passN]
  rw [if_pos hr]
  have := pass_lt hr hw
  rw [passN_fuel w hw (r.toNat - 1) _ _ (by omega) (Nat.le_refl _)]

theorem passes_stop {r w : Int} (hr : ¬ 1 < r) : passes r w = 0 := by
  unfold passes
  cases h : r.toNat with
  | zero => rfl
  | succ n => simp only [passN]; rw [if_neg hr]

theorem passes_bound (w : Int) (hw : 2 ≤ w) : ∀ (f : Nat) (r : Int), r.toNat ≤ f → 0 ≤ passes r w ∧ (passes r w = 0 ∨ passes r w ≤ r - 1) := by
  intro f
  induction f with
  | zero => intro r h; rw [passes_stop (by omega)]; omega
  | succ f ih =>
    intro r h
    by_cases hr : 1 < r
    · rw [passes_step hw hr]
      have h1 := pass_lt hr hw
      have := ih ((r + w - 1) / w) (by omega)
      omega
    · rw [passes_stop hr]; omega

set_option maxHeartbeats 400000 in
theorem passCount_any (r v : Int) (w : World) (hr : r ≤ 100000) (hr0 : -100000 ≤ r) (hv : 2 ≤ v) (hv2 : v ≤ 100000) :
    Calls Try.prog 46 #[.int .i64 r, .int .i64 v] w fun e w' => e = .returned (.int .i64 (passes r v)) ∧ w = w' := by
  go_enter Try.func46, Try.ntmps46
  go_wp2
  go_loop [0, 5] (fun x n => ∃ a b : Int, x = .int .i64 a ∧ n = .int .i64 b ∧ 0 ≤ b ∧ (b = 0 ∨ a + b ≤ r) ∧ a ≤ r ∧ -100000 ≤ a ∧ (0 < b → 1 ≤ a) ∧ b + passes a v = passes r v) (fun x _ => (intOf x).toNat)
  case atStart => exact ⟨r, 0, rfl, rfl, by omega, by omega, by omega, by omega, by omega, by omega⟩
  case round =>
    obtain ⟨a, b, rfl, rfl, h1, h2, h3, h4, h5, h6⟩ := hrel
    have H6 := Lib.hid h6; clear h6
    by_cases ha : 1 < a
    · have hp := pass_lt ha hv
      have HS := Lib.hid (passes_step hv ha)
      go_wp2
      go_round
      case rel => exact ⟨(a + v - 1) / v, b + 1, rfl, rfl, by omega, by omega, by omega, by omega, by omega, by have := H6.out; rw [HS.out] at this; omega⟩
      case measure => simp [intOf]; omega
    · have HS := Lib.hid (passes_stop (w := v) ha)
      go_wp2
      go_ret
      exact ⟨ret_int (by have := H6.out; rw [HS.out] at this; omega), rfl⟩

def passAns (r v : Int) : Int × Bool := if inB r 0 100000 && inB v 2 16 then (passes r v, true) else (0, false)

set_option maxHeartbeats 400000 in
theorem specPassCount_yes (r v : Int) (w : World) (h1 : inB r 0 100000 = true) (h2 : inB v 2 16 = true) :
    Calls Try.prog 44 #[.int .i64 r, .int .i64 v] w fun e w' => e = .returned (.tuple #[.int .i64 (passes r v), .bool true]) ∧ w = w' := by
  obtain ⟨hr0, hr1⟩ := inB_iff.1 h1
  obtain ⟨hv0, hv1⟩ := inB_iff.1 h2
  go_enter Try.func44, Try.ntmps44
  go_wp2_with (go_at_call 37; refine (l1In_any _ _ _ _).mono ?_; rintro e w' ⟨rfl, rfl⟩)
  go_loop [0, 6] (fun x n => ∃ a b : Int, x = .int .i64 a ∧ n = .int .i64 b ∧ 0 ≤ b ∧ (b = 0 ∨ a + b ≤ r) ∧ a ≤ r ∧ 0 ≤ a ∧ (0 < b → 1 ≤ a) ∧ b + passes a v = passes r v) (fun x _ => (intOf x).toNat)
  case atStart => exact ⟨r, 0, rfl, rfl, by omega, by omega, by omega, by omega, by omega, by omega⟩
  case round =>
    obtain ⟨a, b, rfl, rfl, h1, h2, h3, h4, h5, h6⟩ := hrel
    have H6 := Lib.hid h6; clear h6
    by_cases ha : 1 < a
    · have hp := pass_lt ha hv0
      have HS := Lib.hid (passes_step hv0 ha)
      go_wp2
      go_round
      case rel => exact ⟨(a + v - 1) / v, b + 1, rfl, rfl, by omega, by omega, by omega, by omega, by omega, by have := H6.out; rw [HS.out] at this; omega⟩
      case measure => simp [intOf]; omega
    · have HS := Lib.hid (passes_stop (w := v) ha)
      go_wp2
      go_ret2
      exact ⟨ret_int_bool (by have := H6.out; rw [HS.out] at this; omega) rfl, rfl⟩

set_option maxHeartbeats 400000 in
theorem blocks_any (c b : Int) (w : World) (hc : 0 ≤ c) (hc2 : c ≤ 100000) (hb : 1 ≤ b) (hb2 : b ≤ 100000) :
    Calls Try.prog 47 #[.int .i64 c, .int .i64 b] w fun e w' => e = .returned (.int .i64 ((c + b - 1) / b)) ∧ w = w' := by
  go_enter Try.func47, Try.ntmps47
  go_wp2
  go_ret
  exact ⟨rfl, rfl⟩

set_option maxHeartbeats 400000 in
theorem toProfile_any (c r v d g : Int) (w : World) :
    Calls Try.prog 17 #[.agg #[.int .i64 c, .int .i64 r, .int .i64 v, .int .i64 d, .int .i64 g]] w fun e w' => e = .returned (.agg #[.int .i64 c, .int .i64 r, .int .i64 v, .int .i64 d, .int .i64 g]) ∧ Below w.heap.size w w' := by
  go_enter Try.func17, Try.ntmps17
  go_wp2
  refine bodyPost_ret (v := .agg #[.int .i64 c, .int .i64 r, .int .i64 v, .int .i64 d, .int .i64 g]) (by simp [results, Try.results17, go_sem]) rfl ⟨rfl, ?_⟩
  (repeat (first | exact Below.refl _ _ | assumption | refine Below.setCell ?_ (by first | omega | (simp; done) | (simp; omega)) _ | refine Below.alloc ?_ (by first | omega | (simp; done) | (simp; omega)) _ | refine Below.drew ?_ | refine below_drewN ?_ _))

def okProf (c r v d g : Int) : Bool :=
  inB c 0 64 && if c = 0 then decide (r = 0) && decide (v = 0) && decide (d = 0) && decide (g = 0)
    else inB r 1 c && inB d 1 c && inB v 0 (c * (c - 1) / 2) && (decide (v = 0) == decide (r = 1)) && inB g d 200001

theorem tri_bound {c : Int} (h0 : 0 ≤ c) (h1 : c ≤ 64) : -64 ≤ c * (c - 1) ∧ c * (c - 1) ≤ 4032 := by
  by_cases h : c = 0
  · subst h; omega
  · have : c * (c - 1) ≤ 64 * 63 := Int.mul_le_mul h1 (by omega) (by omega) (by omega)
    have : 0 ≤ c * (c - 1) := Int.mul_nonneg h0 (by omega)
    omega

set_option maxHeartbeats 2000000 in
theorem l24Profile_any (c r v d g : Int) (w : World) :
    Calls Try.prog 43 #[.agg #[.int .i64 c, .int .i64 r, .int .i64 v, .int .i64 d, .int .i64 g]] w fun e w' => e = .returned (.bool (okProf c r v d g)) ∧ Below w.heap.size w w' := by
  cases h0 : inB c 0 64
  · have HE : Hid (okProf c r v d g = false) := by show _ = _; simp [okProf, h0]
    go_enter Try.func43, Try.ntmps43
    go_wp2_with (go_at_call 37; refine (l1In_any _ _ _ _).mono ?_; rintro e w' ⟨rfl, rfl⟩)
    go_ret
    exact ⟨ret_bool HE.out.symm, by (repeat (first | exact Below.refl _ _ | assumption | refine Below.setCell ?_ (by first | omega | (simp; done) | (simp; omega)) _ | refine Below.alloc ?_ (by first | omega | (simp; done) | (simp; omega)) _ | refine Below.drew ?_ | refine below_drewN ?_ _))⟩
  obtain ⟨hc0, hc1⟩ := inB_iff.1 h0
  by_cases hc : c = 0
  · subst hc
    have HE : Hid (okProf 0 r v d g = (decide (r = 0) && decide (v = 0) && decide (d = 0) && decide (g = 0))) := by show _ = _; simp [okProf, h0]
    go_enter Try.func43, Try.ntmps43
    go_wp2_with (go_at_call 37; refine (l1In_any _ _ _ _).mono ?_; rintro e w' ⟨rfl, rfl⟩)
    all_goals
      go_ret
      exact ⟨ret_bool (by rw [HE.out]; simp_all), by (repeat (first | exact Below.refl _ _ | assumption | refine Below.setCell ?_ (by first | omega | (simp; done) | (simp; omega)) _ | refine Below.alloc ?_ (by first | omega | (simp; done) | (simp; omega)) _ | refine Below.drew ?_ | refine below_drewN ?_ _))⟩
  have hcp : 0 < c := by omega
  have hce : (c == 0) = false := by simpa using hc
  have ht := tri_bound hc0 hc1
  have h01 : inB c 1 64 = true := inB_iff.2 ⟨by omega, by omega⟩
  have HE : Hid (okProf c r v d g = (inB r 1 c && inB d 1 c && inB v 0 (c * (c - 1) / 2) && (decide (v = 0) == decide (r = 1)) && inB g d 200001)) := by show _ = _; simp [okProf, h0, hc]
  have ht0 : 0 ≤ c * (c - 1) := Int.mul_nonneg hc0 (by omega)
  cases h1 : inB r 1 c
  · have H1 := Lib.hid h1
    go_enter Try.func43, Try.ntmps43
    go_wp2_with (go_at_call 37; refine (l1In_any _ _ _ _).mono ?_; rintro e w' ⟨rfl, rfl⟩)
    go_ret
    exact ⟨ret_bool (by rw [HE.out]; simp [H1.out]), by (repeat (first | exact Below.refl _ _ | assumption | refine Below.setCell ?_ (by first | omega | (simp; done) | (simp; omega)) _ | refine Below.alloc ?_ (by first | omega | (simp; done) | (simp; omega)) _ | refine Below.drew ?_ | refine below_drewN ?_ _))⟩
  cases h2 : inB d 1 c
  · have H1 := Lib.hid h2
    go_enter Try.func43, Try.ntmps43
    go_wp2_with (go_at_call 37; refine (l1In_any _ _ _ _).mono ?_; rintro e w' ⟨rfl, rfl⟩)
    go_ret
    exact ⟨ret_bool (by rw [HE.out]; simp [H1.out]), by (repeat (first | exact Below.refl _ _ | assumption | refine Below.setCell ?_ (by first | omega | (simp; done) | (simp; omega)) _ | refine Below.alloc ?_ (by first | omega | (simp; done) | (simp; omega)) _ | refine Below.drew ?_ | refine below_drewN ?_ _))⟩
  cases h3 : inB v 0 (c * (c - 1) / 2)
  · have H1 := Lib.hid h3
    go_enter Try.func43, Try.ntmps43
    go_wp2_with (go_at_call 37; refine (l1In_any _ _ _ _).mono ?_; rintro e w' ⟨rfl, rfl⟩)
    go_ret
    exact ⟨ret_bool (by rw [HE.out]; simp [H1.out]), by (repeat (first | exact Below.refl _ _ | assumption | refine Below.setCell ?_ (by first | omega | (simp; done) | (simp; omega)) _ | refine Below.alloc ?_ (by first | omega | (simp; done) | (simp; omega)) _ | refine Below.drew ?_ | refine below_drewN ?_ _))⟩
  cases h5 : (decide (v = 0) == decide (r = 1))
  · have H1 := Lib.hid h5; clear h5
    by_cases hv : v = 0
    · have hv' : (v == 0) = true := by simpa using hv
      have hr' : (r == 1) = false := by have := H1.out; simp [hv] at this; simpa using this
      have HV := Lib.hid hv; clear hv
      go_enter Try.func43, Try.ntmps43
      go_wp2_with (go_at_call 37; refine (l1In_any _ _ _ _).mono ?_; rintro e w' ⟨rfl, rfl⟩)
      go_ret
      exact ⟨ret_bool (by rw [HE.out]; simp [H1.out]), by (repeat (first | exact Below.refl _ _ | assumption | refine Below.setCell ?_ (by first | omega | (simp; done) | (simp; omega)) _ | refine Below.alloc ?_ (by first | omega | (simp; done) | (simp; omega)) _ | refine Below.drew ?_ | refine below_drewN ?_ _))⟩
    · have hv' : (v == 0) = false := by simpa using hv
      have hr' : (r == 1) = true := by have := H1.out; simp [hv] at this; simpa using this
      have HV := Lib.hid hv; clear hv
      go_enter Try.func43, Try.ntmps43
      go_wp2_with (go_at_call 37; refine (l1In_any _ _ _ _).mono ?_; rintro e w' ⟨rfl, rfl⟩)
      go_ret
      exact ⟨ret_bool (by rw [HE.out]; simp [H1.out]), by (repeat (first | exact Below.refl _ _ | assumption | refine Below.setCell ?_ (by first | omega | (simp; done) | (simp; omega)) _ | refine Below.alloc ?_ (by first | omega | (simp; done) | (simp; omega)) _ | refine Below.drew ?_ | refine below_drewN ?_ _))⟩
  have H5 := Lib.hid h5; clear h5
  have H1 := Lib.hid h1
  have H2 := Lib.hid h2
  have H3 := Lib.hid h3
  by_cases hv : v = 0
  · have hv' : (v == 0) = true := by simpa using hv
    have hr' : (r == 1) = true := by have := H5.out; simp [hv] at this; simpa using this
    have HV := Lib.hid hv; clear hv
    go_enter Try.func43, Try.ntmps43
    go_wp2_with (go_at_call 37; refine (l1In_any _ _ _ _).mono ?_; rintro e w' ⟨rfl, rfl⟩)
    go_ret
    exact ⟨ret_bool (by rw [HE.out]; simp [H1.out, H2.out, H3.out, H5.out]), by (repeat (first | exact Below.refl _ _ | assumption | refine Below.setCell ?_ (by first | omega | (simp; done) | (simp; omega)) _ | refine Below.alloc ?_ (by first | omega | (simp; done) | (simp; omega)) _ | refine Below.drew ?_ | refine below_drewN ?_ _))⟩
  · have hv' : (v == 0) = false := by simpa using hv
    have hr' : (r == 1) = false := by have := H5.out; simp [hv] at this; simpa using this
    have HV := Lib.hid hv; clear hv
    go_enter Try.func43, Try.ntmps43
    go_wp2_with (go_at_call 37; refine (l1In_any _ _ _ _).mono ?_; rintro e w' ⟨rfl, rfl⟩)
    go_ret
    exact ⟨ret_bool (by rw [HE.out]; simp [H1.out, H2.out, H3.out, H5.out]), by (repeat (first | exact Below.refl _ _ | assumption | refine Below.setCell ?_ (by first | omega | (simp; done) | (simp; omega)) _ | refine Below.alloc ?_ (by first | omega | (simp; done) | (simp; omega)) _ | refine Below.drew ?_ | refine below_drewN ?_ _))⟩

set_option maxHeartbeats 2000000 in
theorem isProfile_any (c r v d g : Int) (w : World) (h0 : inB c 0 64 = true) :
    Calls Try.prog 45 #[.agg #[.int .i64 c, .int .i64 r, .int .i64 v, .int .i64 d, .int .i64 g]] w fun e w' => e = .returned (.bool (okProf c r v d g)) ∧ Below w.heap.size w w' := by
  obtain ⟨hc0, hc1⟩ := inB_iff.1 h0
  by_cases hc : c = 0
  · subst hc
    have HE : Hid (okProf 0 r v d g = (decide (r = 0) && decide (v = 0) && decide (d = 0) && decide (g = 0))) := by show _ = _; simp [okProf, h0]
    go_enter Try.func45, Try.ntmps45
    go_wp2_with (go_at_call 40; refine (in_any _ _ _ _).mono ?_; rintro e w' ⟨rfl, rfl⟩)
    all_goals
      go_ret
      exact ⟨ret_bool (by rw [HE.out]; simp_all), by (repeat (first | exact Below.refl _ _ | assumption | refine Below.setCell ?_ (by first | omega | (simp; done) | (simp; omega)) _ | refine Below.alloc ?_ (by first | omega | (simp; done) | (simp; omega)) _ | refine Below.drew ?_ | refine below_drewN ?_ _))⟩
  have hcp : 0 < c := by omega
  have hce : (c == 0) = false := by simpa using hc
  have ht := tri_bound hc0 hc1
  have h01 : inB c 1 64 = true := inB_iff.2 ⟨by omega, by omega⟩
  have HE : Hid (okProf c r v d g = (inB r 1 c && inB d 1 c && inB v 0 (c * (c - 1) / 2) && (decide (v = 0) == decide (r = 1)) && inB g d 200001)) := by show _ = _; simp [okProf, h0, hc]
  have ht0 : 0 ≤ c * (c - 1) := Int.mul_nonneg hc0 (by omega)
  cases h1 : inB r 1 c
  · have H1 := Lib.hid h1
    go_enter Try.func45, Try.ntmps45
    go_wp2_with (go_at_call 40; refine (in_any _ _ _ _).mono ?_; rintro e w' ⟨rfl, rfl⟩)
    go_ret
    exact ⟨ret_bool (by rw [HE.out]; simp [H1.out]), by (repeat (first | exact Below.refl _ _ | assumption | refine Below.setCell ?_ (by first | omega | (simp; done) | (simp; omega)) _ | refine Below.alloc ?_ (by first | omega | (simp; done) | (simp; omega)) _ | refine Below.drew ?_ | refine below_drewN ?_ _))⟩
  cases h2 : inB d 1 c
  · have H1 := Lib.hid h2
    go_enter Try.func45, Try.ntmps45
    go_wp2_with (go_at_call 40; refine (in_any _ _ _ _).mono ?_; rintro e w' ⟨rfl, rfl⟩)
    go_ret
    exact ⟨ret_bool (by rw [HE.out]; simp [H1.out]), by (repeat (first | exact Below.refl _ _ | assumption | refine Below.setCell ?_ (by first | omega | (simp; done) | (simp; omega)) _ | refine Below.alloc ?_ (by first | omega | (simp; done) | (simp; omega)) _ | refine Below.drew ?_ | refine below_drewN ?_ _))⟩
  cases h3 : inB v 0 (c * (c - 1) / 2)
  · have H1 := Lib.hid h3
    go_enter Try.func45, Try.ntmps45
    go_wp2_with (go_at_call 40; refine (in_any _ _ _ _).mono ?_; rintro e w' ⟨rfl, rfl⟩)
    go_ret
    exact ⟨ret_bool (by rw [HE.out]; simp [H1.out]), by (repeat (first | exact Below.refl _ _ | assumption | refine Below.setCell ?_ (by first | omega | (simp; done) | (simp; omega)) _ | refine Below.alloc ?_ (by first | omega | (simp; done) | (simp; omega)) _ | refine Below.drew ?_ | refine below_drewN ?_ _))⟩
  cases h5 : (decide (v = 0) == decide (r = 1))
  · have H1 := Lib.hid h5; clear h5
    by_cases hv : v = 0
    · have hv' : (v == 0) = true := by simpa using hv
      have hr' : (r == 1) = false := by have := H1.out; simp [hv] at this; simpa using this
      have HV := Lib.hid hv; clear hv
      go_enter Try.func45, Try.ntmps45
      go_wp2_with (go_at_call 40; refine (in_any _ _ _ _).mono ?_; rintro e w' ⟨rfl, rfl⟩)
      go_ret
      exact ⟨ret_bool (by rw [HE.out]; simp [H1.out]), by (repeat (first | exact Below.refl _ _ | assumption | refine Below.setCell ?_ (by first | omega | (simp; done) | (simp; omega)) _ | refine Below.alloc ?_ (by first | omega | (simp; done) | (simp; omega)) _ | refine Below.drew ?_ | refine below_drewN ?_ _))⟩
    · have hv' : (v == 0) = false := by simpa using hv
      have hr' : (r == 1) = true := by have := H1.out; simp [hv] at this; simpa using this
      have HV := Lib.hid hv; clear hv
      go_enter Try.func45, Try.ntmps45
      go_wp2_with (go_at_call 40; refine (in_any _ _ _ _).mono ?_; rintro e w' ⟨rfl, rfl⟩)
      go_ret
      exact ⟨ret_bool (by rw [HE.out]; simp [H1.out]), by (repeat (first | exact Below.refl _ _ | assumption | refine Below.setCell ?_ (by first | omega | (simp; done) | (simp; omega)) _ | refine Below.alloc ?_ (by first | omega | (simp; done) | (simp; omega)) _ | refine Below.drew ?_ | refine below_drewN ?_ _))⟩
  have H5 := Lib.hid h5; clear h5
  have H1 := Lib.hid h1
  have H2 := Lib.hid h2
  have H3 := Lib.hid h3
  by_cases hv : v = 0
  · have hv' : (v == 0) = true := by simpa using hv
    have hr' : (r == 1) = true := by have := H5.out; simp [hv] at this; simpa using this
    have HV := Lib.hid hv; clear hv
    go_enter Try.func45, Try.ntmps45
    go_wp2_with (go_at_call 40; refine (in_any _ _ _ _).mono ?_; rintro e w' ⟨rfl, rfl⟩)
    go_ret
    exact ⟨ret_bool (by rw [HE.out]; simp [H1.out, H2.out, H3.out, H5.out]), by (repeat (first | exact Below.refl _ _ | assumption | refine Below.setCell ?_ (by first | omega | (simp; done) | (simp; omega)) _ | refine Below.alloc ?_ (by first | omega | (simp; done) | (simp; omega)) _ | refine Below.drew ?_ | refine below_drewN ?_ _))⟩
  · have hv' : (v == 0) = false := by simpa using hv
    have hr' : (r == 1) = false := by have := H5.out; simp [hv] at this; simpa using this
    have HV := Lib.hid hv; clear hv
    go_enter Try.func45, Try.ntmps45
    go_wp2_with (go_at_call 40; refine (in_any _ _ _ _).mono ?_; rintro e w' ⟨rfl, rfl⟩)
    go_ret
    exact ⟨ret_bool (by rw [HE.out]; simp [H1.out, H2.out, H3.out, H5.out]), by (repeat (first | exact Below.refl _ _ | assumption | refine Below.setCell ?_ (by first | omega | (simp; done) | (simp; omega)) _ | refine Below.alloc ?_ (by first | omega | (simp; done) | (simp; omega)) _ | refine Below.drew ?_ | refine below_drewN ?_ _))⟩

end Go.Proofs.Ytjlebikidoedmaa
