/- Several texts in one: lemmas and walks of the functions that the law reaches. -/
import Derived.Test.YtbgmbanebmlghaaGreatDoorY25
import Derived.Laws.IdiomStrings

namespace Go.Proofs.YtbgmbanebmlghaaGreatDoor.Tx
open Go.Proofs.YtbgmbanebmlghaaGreatDoor
set_option linter.unusedVariables false

theorem step_nil (k : Nat) : step k [] = none := by simp [step]
theorem rd_nil (n : Nat) : rd n [] = [] := by
  cases n with
  | zero => rfl
  | succ n => rw [rd, step_nil]

theorem rd_snoc (n : Nat) : ∀ (s : List UInt8) (e : Rec) (k : Nat), n ≤ 60 → total (rd n s) = s.length → (rd n s).length < n → okE e = true → k = 60 - n + (rd n s).length →
    rd n (s ++ (lineE k e ++ [10])) = rd n s ++ [(e, (lineE k e).length + 1)] := by
  induction n with
  | zero => intro s e k _ _ h; simp [rd] at h
  | succ n ih =>
    intro s e k hn ht hl ho hk
    cases hs : step (59 - n) s with
    | none =>
      have h0 : rd (n + 1) s = [] := by rw [rd, hs]
      rw [h0] at ht hl hk ⊢
      have hnil : s = [] := List.eq_nil_of_length_eq_zero (by simpa [total] using ht.symm)
      subst hnil
      have hk' : k = 59 - n := by simp at hk; omega
      have h1 : step (59 - n) ([] ++ (lineE k e ++ [10])) = some (e, (lineE k e).length + 1) := step_iff.2 ⟨by omega, ho, by rw [hk'], [], by simp [hk']⟩
      rw [rd, h1]
      simp only [List.nil_append]
      have hdr : (lineE k e ++ [10]).drop ((lineE k e).length + 1) = [] := by simp
      rw [hdr, rd_nil]
    | some x =>
      obtain ⟨f, l⟩ := x
      have h1 : rd (n + 1) s = (f, l) :: rd n (s.drop l) := by rw [rd, hs]
      obtain ⟨_, _, hl', t, ht'⟩ := step_iff.1 hs
      have hle : l ≤ s.length := by rw [ht', hl']; simp
      rw [h1] at ht hl hk ⊢
      rw [total_cons] at ht
      simp only [List.length_cons] at hl hk ht
      have h2 := ih (s.drop l) e k (by omega) (by rw [List.length_drop]; omega) (by omega) ho (by omega)
      rw [rd, step_app _ hs]
      simp only
      rw [List.drop_append_of_le_length hle, h2]
      rfl

/-- The log behind an append. -/
theorem app_law {d p : List UInt8} {n : Int} {k : Nat} {e : Rec} (h : okLog ⟨d, p, n⟩ = true) (ho : okE e = true) (hn : n = k) (hk : k < 60) :
    okLog ⟨d, p ++ (lineE k e ++ [10]), n + 1⟩ = true ∧ rd 60 (d ++ (p ++ (lineE k e ++ [10]))) = rd 60 (d ++ p) ++ [(e, (lineE k e).length + 1)] := by
  obtain ⟨h1, h2, h3, h4⟩ := okLog_parts h
  simp only at h1 h2 h3 h4
  have hl : (rd 60 (d ++ p)).length = k := by
    unfold recsOf at h3
    rw [List.length_map] at h3
    omega
  have hr : rd 60 (d ++ (p ++ (lineE k e ++ [10]))) = rd 60 (d ++ p) ++ [(e, (lineE k e).length + 1)] := by
    rw [← List.append_assoc]
    exact rd_snoc 60 (d ++ p) e k (Nat.le_refl _) (by unfold endOf at h1; rw [h1]; simp) (by omega) ho (by omega)
  refine ⟨?_, hr⟩
  rw [← okLogS_eq]
  unfold okLogS
  have hb := (rd_total 60 (d ++ (p ++ (lineE k e ++ [10])))).2
  unfold endOf recsOf at *
  rw [hr] at hb ⊢
  rw [total_append, total_cons, total_nil, h1] at hb ⊢
  simp only [Bool.and_eq_true, decide_eq_true_eq, List.length_append, List.length_map, List.length_cons, List.length_nil] at hb ⊢
  omega

end Go.Proofs.YtbgmbanebmlghaaGreatDoor.Tx

