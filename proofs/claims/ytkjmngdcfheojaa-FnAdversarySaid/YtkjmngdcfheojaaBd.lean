/- Plain law: what the best comparison leaves, against any other. No program in sight. -/
import Derived.Test.YtkjmngdcfheojaaBc
namespace Go.Proofs.Ytkjmngdcfheojaa
set_option linter.unusedVariables false
namespace Pm
theorem wst_two {n : Nat} (h1 : 1 ≤ n) (h5 : n ≤ 5) (fs : List (Int × Int)) {p : Nat × Nat} (h : p.1 < p.2) (h2 : p.2 < n) : ((cnt n fs : Nat) : Int) ≤ 2 * wst n fs p := by
  have := cnt_split h1 h5 fs (a := p.1) (b := p.2) ⟨by omega, by omega⟩ ⟨by omega, by omega⟩ (by omega)
  unfold wst
  omega
theorem best_is {n : Nat} (h2 : 2 ≤ n) (h5 : n ≤ 5) (fs : List (Int × Int)) : ∃ i j : Nat, i < j ∧ j < n ∧ best n fs = ((i : Int), (j : Int), wst n fs (i, j)) ∧ (∀ i j : Nat, i < j → j < n → (best n fs).2.2 ≤ wst n fs (i, j)) ∧ ((cnt n fs : Nat) : Int) ≤ 2 * (best n fs).2.2 := by
  have hb := best_both h2 h5 fs
  obtain ⟨g1, g2, g3⟩ := st_least (W := wst n fs) (prs n n (n + 1)) (0, 0, ((cnt n fs : Nat) : Int) + 1)
  rw [← hb] at g1 g2 g3
  have hall : ∀ i j : Nat, i < j → j < n → (best n fs).2.2 ≤ wst n fs (i, j) := fun i j hi hj => g2 (i, j) (prs_has hi hj)
  rcases g3 with g3 | ⟨p, hp, g3⟩
  · exfalso
    have h01 := hall 0 1 (by omega) (by omega)
    have h02 := wst_le (n := n) (by omega) h5 fs (p := (0, 1)) (by show 0 < 1; omega) (by show 1 < n; omega)
    rw [g3] at h01
    simp only at h01
    omega
  · obtain ⟨i, j⟩ := p
    obtain ⟨h1, h3⟩ := prs_all hp
    refine ⟨i, j, h1, h3, g3, hall, ?_⟩
    have := wst_two (n := n) (by omega) h5 fs (p := (i, j)) h1 h3
    rw [g3]
    exact this
theorem wst_sym (n : Nat) (fs : List (Int × Int)) (i j : Nat) : wst n fs (i, j) = wst n fs (j, i) := by
  unfold wst
  simp only
  omega
end Pm
end Go.Proofs.Ytkjmngdcfheojaa
