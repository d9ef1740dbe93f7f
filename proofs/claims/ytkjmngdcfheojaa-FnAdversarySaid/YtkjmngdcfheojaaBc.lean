/- Plain law: the best comparison, pair by pair, by the program's way and by the reference's. No program in sight. -/
import Derived.Test.YtkjmngdcfheojaaDa
namespace Go.Proofs.Ytkjmngdcfheojaa
set_option linter.unusedVariables false
namespace Pm

/-- The pairs ahead of (a, b), in order. -/
def prs (n a b : Nat) : List (Nat × Nat) := ((List.range a).flatMap fun i => (List.range' (i + 1) (n - (i + 1))).map fun j => (i, j)) ++ (List.range' (a + 1) (b - (a + 1))).map fun j => (a, j)
theorem prs_zero (n : Nat) : prs n 0 1 = [] := by simp [prs]
theorem prs_next {n a b : Nat} (h : a + 1 ≤ b) : prs n a (b + 1) = prs n a b ++ [(a, b)] := by
  unfold prs
  rw [List.append_assoc]
  congr 1
  rw [show b + 1 - (a + 1) = (b - (a + 1)) + 1 by omega, List.range'_concat, List.map_append]
  congr 1
  simp; omega
theorem prs_row {n a : Nat} (h : a < n) : prs n (a + 1) (a + 2) = prs n a n := by
  unfold prs
  rw [List.range_succ, List.flatMap_append]
  simp
theorem prs_mem {n a b i j : Nat} (h : (i, j) ∈ prs n a b) (ha : a ≤ n) (hb : a < n → b ≤ n) : i < j ∧ (a < n → j < n ∨ j < b) := by
  unfold prs at h
  rcases List.mem_append.1 h with h | h
  · obtain ⟨q, hq, h⟩ := List.mem_flatMap.1 h
    obtain ⟨r, hr, h⟩ := List.mem_map.1 h
    have := List.mem_range'_1.1 hr
    have := List.mem_range.1 hq
    injection h with h1 h2
    omega
  · obtain ⟨r, hr, h⟩ := List.mem_map.1 h
    have := List.mem_range'_1.1 hr
    injection h with h1 h2
    omega

abbrev BS := Int × Int × Int
/-- The program's step, the reference's step; W: what a pair leaves at worst. -/
def stI (W : Nat × Nat → Int) (s : BS) (p : Nat × Nat) : BS := if s.1 < 0 ∨ W p < s.2.2 then ((p.1 : Int), (p.2 : Int), W p) else s
def stS (W : Nat × Nat → Int) (s : BS) (p : Nat × Nat) : BS := if W p < s.2.2 then ((p.1 : Int), (p.2 : Int), W p) else s
theorem st_same {W : Nat × Nat → Int} : ∀ (l : List (Nat × Nat)) (s : BS), 0 ≤ s.1 → l.foldl (stI W) s = l.foldl (stS W) s
  | [], s, _ => rfl
  | p :: l, s, h => by
    have e : stI W s p = stS W s p := by
      unfold stI stS
      have h0 : ¬ s.1 < 0 := by omega
      simp [h0]
    have h2 : 0 ≤ (stS W s p).1 := by
      unfold stS
      split
      · exact Int.natCast_nonneg _
      · exact h
    rw [List.foldl_cons, List.foldl_cons, e]
    exact st_same l _ h2
theorem st_both {W : Nat × Nat → Int} {all : Int} {l : List (Nat × Nat)} (hne : l ≠ []) (hW : ∀ p ∈ l, W p ≤ all) : l.foldl (stI W) (-1, 0, 0) = l.foldl (stS W) (0, 0, all + 1) := by
  cases l with
  | nil => exact absurd rfl hne
  | cons p l =>
    have h1 := hW p (by simp)
    rw [List.foldl_cons, List.foldl_cons]
    have e1 : stI W (-1, 0, 0) p = ((p.1 : Int), (p.2 : Int), W p) := if_pos (.inl (by decide))
    have e2 : stS W (0, 0, all + 1) p = ((p.1 : Int), (p.2 : Int), W p) := if_pos (by show W p < all + 1; omega)
    rw [e1, e2]
    exact st_same l _ (Int.natCast_nonneg _)
/-- What stands behind all pairs: among them, and the least. -/
theorem st_least {W : Nat × Nat → Int} : ∀ (l : List (Nat × Nat)) (s : BS), (l.foldl (stS W) s).2.2 ≤ s.2.2 ∧ (∀ p ∈ l, (l.foldl (stS W) s).2.2 ≤ W p) ∧ (l.foldl (stS W) s = s ∨ ∃ p ∈ l, l.foldl (stS W) s = ((p.1 : Int), (p.2 : Int), W p))
  | [], s => ⟨Int.le_refl _, by simp, .inl rfl⟩
  | p :: l, s => by
    rw [List.foldl_cons]
    obtain ⟨h1, h2, h3⟩ := st_least (W := W) l (stS W s p)
    have hs : (stS W s p).2.2 ≤ s.2.2 ∧ (stS W s p).2.2 ≤ W p ∧ (stS W s p = s ∨ stS W s p = ((p.1 : Int), (p.2 : Int), W p)) := by
      unfold stS
      split
      · exact ⟨by simp; omega, by simp, .inr rfl⟩
      · exact ⟨Int.le_refl _, by omega, .inl rfl⟩
    refine ⟨by omega, fun q hq => ?_, ?_⟩
    · rcases List.mem_cons.1 hq with rfl | hq
      · omega
      · exact h2 q hq
    · rcases h3 with h3 | ⟨q, hq, h3⟩
      · rcases hs.2.2 with h4 | h4
        · exact .inl (h3.trans h4)
        · exact .inr ⟨p, by simp, h3.trans h4⟩
      · exact .inr ⟨q, by simp [hq], h3⟩

/-- What is left at worst behind a comparison. -/
def wst (n : Nat) (fs : List (Int × Int)) (p : Nat × Nat) : Int := max ((cnt n (fs ++ [((p.1 : Int), (p.2 : Int))]) : Nat) : Int) ((cnt n (fs ++ [((p.2 : Int), (p.1 : Int))]) : Nat) : Int)
def best (n : Nat) (fs : List (Int × Int)) : BS := (prs n n (n + 1)).foldl (stI (wst n fs)) (-1, 0, 0)
theorem wst_le {n : Nat} (h1 : 1 ≤ n) (h5 : n ≤ 5) (fs : List (Int × Int)) {p : Nat × Nat} (h : p.1 < p.2) (h2 : p.2 < n) : wst n fs p ≤ (cnt n fs : Nat) := by
  have := cnt_split h1 h5 fs (a := p.1) (b := p.2) ⟨by omega, by omega⟩ ⟨by omega, by omega⟩ (by omega)
  unfold wst
  omega
theorem wst_other {n : Nat} (h1 : 1 ≤ n) (h5 : n ≤ 5) (fs : List (Int × Int)) {p : Nat × Nat} (h : p.1 < p.2) (h2 : p.2 < n) : wst n fs p = max ((cnt n (fs ++ [((p.1 : Int), (p.2 : Int))]) : Nat) : Int) (((cnt n fs : Nat) : Int) - ((cnt n (fs ++ [((p.1 : Int), (p.2 : Int))]) : Nat) : Int)) := by
  have := cnt_split h1 h5 fs (a := p.1) (b := p.2) ⟨by omega, by omega⟩ ⟨by omega, by omega⟩ (by omega)
  unfold wst
  omega
theorem prs_all {n i j : Nat} (h : (i, j) ∈ prs n n (n + 1)) : i < j ∧ j < n := by
  unfold prs at h
  rcases List.mem_append.1 h with h | h
  · obtain ⟨q, hq, h⟩ := List.mem_flatMap.1 h
    obtain ⟨r, hr, h⟩ := List.mem_map.1 h
    have := List.mem_range'_1.1 hr
    have := List.mem_range.1 hq
    injection h with h1 h2
    omega
  · simp at h
theorem prs_has {n i j : Nat} (h : i < j) (hj : j < n) : (i, j) ∈ prs n n (n + 1) := by
  unfold prs
  refine List.mem_append.2 (.inl ?_)
  exact List.mem_flatMap.2 ⟨i, List.mem_range.2 (by omega), List.mem_map.2 ⟨j, List.mem_range'_1.2 (by omega), rfl⟩⟩
theorem best_both {n : Nat} (h2 : 2 ≤ n) (h5 : n ≤ 5) (fs : List (Int × Int)) : best n fs = (prs n n (n + 1)).foldl (stS (wst n fs)) (0, 0, (cnt n fs : Nat) + 1) := by
  refine st_both ?_ (fun p hp => ?_)
  · intro e
    have := prs_has (n := n) (i := 0) (j := 1) (by omega) (by omega)
    rw [e] at this
    cases this
  · have := prs_all (i := p.1) (j := p.2) hp
    exact wst_le (by omega) h5 fs this.1 this.2

end Pm
end Go.Proofs.Ytkjmngdcfheojaa
