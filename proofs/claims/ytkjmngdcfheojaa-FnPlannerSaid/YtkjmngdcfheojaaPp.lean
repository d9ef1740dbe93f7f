/- Plain law: the profile of a list of keys is fit for the planner. No program in sight. -/
import Derived.Test.YtkjmngdcfheojaaSp
namespace Go.Proofs.Ytkjmngdcfheojaa.Mg
set_option linter.unusedVariables false

theorem cntP_zero {p : Nat → Bool} : ∀ {n : Nat}, cntP p n = 0 ↔ ∀ j, j < n → p j = false
  | 0 => by simp [cntP]
  | n + 1 => by
    unfold cntP
    constructor
    · intro h j hj
      have h1 : cntP p n = 0 := by omega
      rcases Nat.lt_succ_iff_lt_or_eq.1 hj with h2 | rfl
      · exact cntP_zero.1 h1 j h2
      · cases hp : p j
        · rfl
        · rw [hp] at h; simp at h
    · intro h
      rw [cntP_zero.2 (fun j hj => h j (by omega)), h n (by omega)]; rfl
theorem inv_two (l : List Int) : 2 * inv l ≤ l.length * (l.length - 1) := by
  induction l with
  | nil => exact Nat.le_refl _
  | cons x t ih =>
    unfold inv
    have h1 : (t.countP fun y => decide (y < x)) ≤ t.length := List.countP_le_length
    rw [List.length_cons, Nat.add_sub_cancel]
    cases ht : t.length with
    | zero => rw [ht] at ih h1; omega
    | succ m =>
      rw [ht] at ih h1
      rw [Nat.add_sub_cancel] at ih
      have e : (m + 1 + 1) * (m + 1) = (m + 1) * m + 2 * (m + 1) := by rw [Nat.add_mul, Nat.mul_add]; omega
      omega
theorem inv_zero {l : List Int} : inv l = 0 ↔ Asc ltI l := by
  induction l with
  | nil => exact ⟨fun _ => asc_nil, fun _ => rfl⟩
  | cons x t ih =>
    unfold inv
    rw [asc_cons, ← ih]
    constructor
    · intro h
      have h1 : (t.countP fun y => decide (y < x)) = 0 := by omega
      rw [List.countP_eq_zero] at h1
      exact ⟨fun y hy => by have := h1 y hy; simpa [ltI] using this, by omega⟩
    · intro ⟨h1, h2⟩
      have : (t.countP fun y => decide (y < x)) = 0 := List.countP_eq_zero.2 (fun y hy => by have := h1 y hy; simpa [ltI] using this)
      omega
theorem dsc_zero {l : List Int} : cntP (dsc l) (l.length - 1) = 0 ↔ Asc ltI l := by
  rw [cntP_zero]
  constructor
  · intro h
    refine asc_of_side swI l (fun i hi => ?_)
    have := h i (by omega)
    unfold dsc at this
    rw [List.getD_eq_getElem?_getD, List.getD_eq_getElem?_getD, List.getElem?_eq_getElem hi, List.getElem?_eq_getElem (by omega)] at this
    simpa [ltI] using this
  · intro h j hj
    have := List.pairwise_iff_getElem.1 h j (j + 1) (by omega) (by omega) (by omega)
    unfold dsc
    rw [List.getD_eq_getElem?_getD, List.getD_eq_getElem?_getD, List.getElem?_eq_getElem (by omega : j + 1 < l.length), List.getElem?_eq_getElem (by omega : j < l.length)]
    simpa [ltI] using this
theorem inv_dsc (l : List Int) : inv l = 0 ↔ cntP (dsc l) (l.length - 1) = 0 := by rw [inv_zero, dsc_zero]
/-- As many other keys, so much range. -/
theorem oth_range {s : List Int} (h : Asc ltI s) : ∀ m, m < s.length → (cntP (oth s) m : Int) ≤ s.getD m 0 - s.getD 0 0
  | 0, _ => by simp [cntP]
  | m + 1, hm => by
    have ih := oth_range h m (by omega)
    have h1 := List.pairwise_iff_getElem.1 h m (m + 1) (by omega) hm (by omega)
    have e1 : s.getD m 0 = s[m] := by rw [List.getD_eq_getElem?_getD, List.getElem?_eq_getElem (by omega)]; rfl
    have e2 : s.getD (m + 1) 0 = s[m + 1] := by rw [List.getD_eq_getElem?_getD, List.getElem?_eq_getElem hm]; rfl
    simp [ltI] at h1
    unfold cntP
    have e3 : oth s m = decide (s[m + 1] ≠ s[m]) := by unfold oth; rw [e1, e2]
    rw [e2, e3]
    rw [e1] at ih
    by_cases q : s[m + 1] = s[m]
    · rw [decide_eq_false (by simpa using q)]
      simp only [Bool.false_eq_true, if_false, Nat.add_zero]
      omega
    · rw [decide_eq_true (by simpa using q)]
      simp only [if_true]
      omega
end Go.Proofs.Ytkjmngdcfheojaa.Mg
