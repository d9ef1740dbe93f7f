/- Plain law: merging and merge sort with the number of comparisons. No program in sight. -/
import Derived.Test.YtkckmjajjdpodaaMg
namespace Go.Proofs.Ytkckmjajjdpodaa.Mg
set_option linter.unusedVariables false
section
variable {α : Type} (lt : α → α → Bool)

/-- The comparisons of a merge. -/
def mcnt : List α → List α → Nat
  | [], _ => 0
  | _ :: _, [] => 0
  | x :: l, y :: r => 1 + if lt y x then mcnt (x :: l) r else mcnt l (y :: r)
termination_by l r => l.length + r.length
theorem mcnt_nil (r : List α) : mcnt lt [] r = 0 := by unfold mcnt; rfl
theorem nil_mcnt (l : List α) : mcnt lt l [] = 0 := by
  cases l with
  | nil => exact mcnt_nil lt []
  | cons x l => unfold mcnt; rfl
theorem mcnt_cons (x : α) (l : List α) (y : α) (r : List α) : mcnt lt (x :: l) (y :: r) = 1 + if lt y x then mcnt lt (x :: l) r else mcnt lt l (y :: r) := by
  conv => lhs; unfold mcnt
theorem mcnt_lt {x : α} {l : List α} {y : α} {r : List α} (h : lt y x = true) : mcnt lt (x :: l) (y :: r) = 1 + mcnt lt (x :: l) r := by rw [mcnt_cons, if_pos h]
theorem mcnt_ge {x : α} {l : List α} {y : α} {r : List α} (h : lt y x = false) : mcnt lt (x :: l) (y :: r) = 1 + mcnt lt l (y :: r) := by rw [mcnt_cons, if_neg (by rw [h]; simp)]
/-- Fewer comparisons than elements, unless there is none. -/
theorem mcnt_bound : ∀ (l r : List α), mcnt lt l r < l.length + r.length ∨ l.length + r.length = 0
  | [], r => by rw [mcnt_nil, List.length_nil]; omega
  | x :: l, [] => by rw [nil_mcnt]; simp
  | x :: l, y :: r => by
    left
    cases h : lt y x
    · rw [mcnt_ge lt h]
      have := mcnt_bound l (y :: r)
      simp at this ⊢; omega
    · rw [mcnt_lt lt h]
      have := mcnt_bound (x :: l) r
      simp at this ⊢; omega
termination_by l r => l.length + r.length
theorem mcnt_le (l r : List α) : mcnt lt l r ≤ l.length + r.length := by
  rcases mcnt_bound lt l r with h | h
  · omega
  · rw [List.eq_nil_of_length_eq_zero (by omega : l.length = 0), mcnt_nil]; omega

/-- Merge sort, and its comparisons. -/
def msF : Nat → List α → List α × Nat
  | 0, l => (l, 0)
  | f + 1, l => if l.length < 2 then (l, 0) else
    let a := msF f (l.take (l.length / 2))
    let b := msF f (l.drop (l.length / 2))
    (mrg lt a.1 b.1, a.2 + b.2 + mcnt lt a.1 b.1)
def ms (l : List α) : List α × Nat := msF lt l.length l
theorem msF_fuel : ∀ (f g : Nat) (l : List α), l.length ≤ f → l.length ≤ g → msF lt f l = msF lt g l
  | 0, 0, l, _, _ => rfl
  | 0, g + 1, l, h, _ => by
    unfold msF; rw [if_pos (by omega)]
  | f + 1, 0, l, _, h => by
    unfold msF; rw [if_pos (by omega)]
  | f + 1, g + 1, l, h1, h2 => by
    unfold msF
    split
    · rfl
    · rw [msF_fuel f g (l.take (l.length / 2)) (by simp; omega) (by simp; omega), msF_fuel f g (l.drop (l.length / 2)) (by simp; omega) (by simp; omega)]
theorem ms_small {l : List α} (h : l.length < 2) : ms lt l = (l, 0) := by
  unfold ms
  rw [msF_fuel lt _ (l.length + 1) l (Nat.le_refl _) (by omega), msF, if_pos h]
theorem ms_big {l : List α} (h : 2 ≤ l.length) : ms lt l = (mrg lt (ms lt (l.take (l.length / 2))).1 (ms lt (l.drop (l.length / 2))).1, (ms lt (l.take (l.length / 2))).2 + (ms lt (l.drop (l.length / 2))).2 + mcnt lt (ms lt (l.take (l.length / 2))).1 (ms lt (l.drop (l.length / 2))).1) := by
  unfold ms
  rw [msF_fuel lt _ (l.length + 1) l (Nat.le_refl _) (by omega), msF, if_neg (by omega)]
  rw [msF_fuel lt l.length (l.take (l.length / 2)).length (l.take (l.length / 2)) (by simp; omega) (Nat.le_refl _), msF_fuel lt l.length (l.drop (l.length / 2)).length (l.drop (l.length / 2)) (by simp) (Nat.le_refl _)]
variable {lt}
theorem ms_srt (S : SW lt) : ∀ (n : Nat) (l : List α), l.length ≤ n → (ms lt l).1 = srt lt l
  | 0, l, h => by
    rw [ms_small lt (by omega), List.eq_nil_of_length_eq_zero (by omega : l.length = 0)]; rfl
  | n + 1, l, h => by
    rcases Nat.lt_or_ge l.length 2 with h2 | h2
    · rw [ms_small lt h2]
      match l, h2 with
      | [], _ => rfl
      | [x], _ => exact (srt_one x).symm
    · rw [ms_big lt h2, ms_srt S n (l.take (l.length / 2)) (by simp; omega), ms_srt S n (l.drop (l.length / 2)) (by simp; omega), srt_mrg S, List.take_append_drop]
theorem ms_bound (S : SW lt) : ∀ (k : Nat) (l : List α), l.length ≤ 2 ^ k → (ms lt l).2 ≤ k * l.length
  | 0, l, h => by
    rw [ms_small lt (by simp at h; omega)]; simp
  | k + 1, l, h => by
    rcases Nat.lt_or_ge l.length 2 with h2 | h2
    · rw [ms_small lt h2]; simp
    · rw [ms_big lt h2]
      have hp : 2 ^ (k + 1) = 2 * 2 ^ k := by rw [Nat.pow_succ]; omega
      have h1 := ms_bound S k (l.take (l.length / 2)) (by simp; omega)
      have h3 := ms_bound S k (l.drop (l.length / 2)) (by simp; omega)
      have h4 := mcnt_le lt (ms lt (l.take (l.length / 2))).1 (ms lt (l.drop (l.length / 2))).1
      rw [ms_srt S _ _ (Nat.le_refl _), ms_srt S _ _ (Nat.le_refl _), srt_length, srt_length] at h4
      rw [List.length_take, Nat.min_eq_left (by omega)] at h1 h4
      rw [List.length_drop] at h3 h4
      have e1 : k * (l.length / 2) + k * (l.length - l.length / 2) = k * l.length := by rw [← Nat.mul_add]; congr 1; omega
      rw [ms_srt S _ _ (Nat.le_refl _), ms_srt S _ _ (Nat.le_refl _)]
      rw [Nat.add_mul, Nat.one_mul]
      show (ms lt (l.take (l.length / 2))).2 + (ms lt (l.drop (l.length / 2))).2 + mcnt lt _ _ ≤ _
      omega
end
end Go.Proofs.Ytkckmjajjdpodaa.Mg
