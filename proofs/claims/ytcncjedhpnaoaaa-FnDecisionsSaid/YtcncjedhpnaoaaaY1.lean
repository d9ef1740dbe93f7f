/- Several texts in one: lemmas and walks of the functions that the law reaches. -/
import Derived.Test.YtcncjedhpnaoaaaY0
import Derived.Lib.SlicesCompact

namespace Go.Proofs.Ytcncjedhpnaoaaa.Mg
set_option linter.unusedVariables false
def sumL (l : List Int) : Int := l.foldl (· + ·) 0
end Go.Proofs.Ytcncjedhpnaoaaa.Mg

namespace Go.Proofs.Ytcncjedhpnaoaaa.Mg
set_option linter.unusedVariables false
theorem srtI_perm (l : List Int) : (srtI l).Perm l := srt_perm l
theorem srtI_asc (l : List Int) : Asc ltI (srtI l) := srt_asc swI l
theorem same_of_perm {l r : List Int} (h : l.Perm r) : srtI l = srtI r := asc_unique swI (fun a b h1 h2 => by simp [ltI] at h1 h2; omega) (((srtI_perm l).trans h).trans (srtI_perm r).symm) (srtI_asc l) (srtI_asc r)

/-- The distinct elements of an ascending list. -/
theorem compact_spec {s : List Int} (h : Asc ltI s) : ∀ m, m ≤ s.length → (Lib.compactUpTo s.toArray m).Pairwise (· < ·) ∧ ∀ x, x ∈ Lib.compactUpTo s.toArray m ↔ x ∈ s.take m
  | 0, _ => by simp [Lib.compactUpTo]
  | m + 1, hm => by
    obtain ⟨ih1, ih2⟩ := compact_spec h m (by omega)
    have hm' : m < s.length := by omega
    rw [Lib.compactUpTo_succ]
    have hle : ∀ x ∈ s.take m, x ≤ s[m] := fun x hx => by
      obtain ⟨i, hi, rfl⟩ := List.mem_take_iff_getElem.1 hx
      have := List.pairwise_iff_getElem.1 h i m (by omega) hm' (by omega)
      simpa [ltI] using this
    have ht : s.take (m + 1) = s.take m ++ [s[m]] := by rw [List.take_add_one, List.getElem?_eq_getElem hm']; rfl
    cases m with
    | zero =>
      simp [Lib.compactUpTo, Lib.keeps, ht, hm']
    | succ m =>
      have e : Lib.keeps s.toArray (m + 1) = decide (s[m + 1] ≠ s[m]) := by
        unfold Lib.keeps
        simp [hm', show m < s.length by omega]
      rw [e]
      by_cases q : s[m + 1] = s[m]
      · rw [decide_eq_false (by simpa using q)]
        simp only [Bool.false_eq_true, if_false, List.append_nil]
        refine ⟨ih1, fun x => ?_⟩
        rw [ih2, ht, List.mem_append]
        refine ⟨.inl, fun hx => hx.elim id (fun hx => ?_)⟩
        simp at hx
        rw [hx, q]
        exact List.mem_take_iff_getElem.2 ⟨m, by omega, rfl⟩
      · rw [decide_eq_true (by simpa using q)]
        simp only [if_true]
        have hlt : ∀ x ∈ s.take (m + 1), x < s[m + 1] := fun x hx => by
          obtain ⟨i, hi, rfl⟩ := List.mem_take_iff_getElem.1 hx
          have h1 : s[i] ≤ s[m] := by
            by_cases hi2 : i = m
            · subst hi2; exact Int.le_refl _
            · have := List.pairwise_iff_getElem.1 h i m (by omega) (by omega) (by omega)
              simpa [ltI] using this
          have h2 := List.pairwise_iff_getElem.1 h m (m + 1) (by omega) hm' (by omega)
          simp [ltI] at h2
          omega
        have e2 : s.toArray[m + 1]! = s[m + 1] := by simp [hm']
        refine ⟨?_, fun x => ?_⟩
        · rw [List.pairwise_append]
          refine ⟨ih1, by simp, fun x hx y hy => ?_⟩
          simp at hy
          rw [hy]
          have := hlt x ((ih2 x).1 hx)
          simpa [hm'] using this
        · rw [List.mem_append, ih2, ht, List.mem_append]
          simp [hm']
def dist (zs : List Int) : List Int := Lib.compact (srtI zs)
theorem dist_lt (zs : List Int) : (dist zs).Pairwise (· < ·) := (compact_spec (srtI_asc zs) _ (Nat.le_refl _)).1
theorem dist_mem (zs : List Int) (x : Int) : x ∈ dist zs ↔ x ∈ zs := by
  unfold dist Lib.compact
  rw [(compact_spec (srtI_asc zs) _ (Nat.le_refl _)).2, List.take_of_length_le (Nat.le_refl _)]
  exact srt_mem
theorem dist_nodup (zs : List Int) : (dist zs).Nodup := (dist_lt zs).imp (fun h => by omega)

/-- What the loop over the first occurrences keeps. -/
structure Firsts (p o : List Int) (c : List Int) : Prop where
  nd : o.Nodup
  mem : ∀ x, x ∈ o ↔ x ∈ p
  len : c.length = o.length
  pos : ∀ x ∈ c, 1 ≤ x
  sum : sumL c = p.length
theorem Firsts.nil : Firsts [] [] [] := ⟨List.nodup_nil, by simp, rfl, by simp, rfl⟩
theorem Firsts.same {p o c : List Int} (h : Firsts p o c) : srtI o = srtI (dist p) ∧ o.length = (dist p).length := by
  have hp : o.Perm (dist p) := (List.perm_ext_iff_of_nodup h.nd (dist_nodup p)).2 (fun x => by rw [h.mem, dist_mem])
  exact ⟨same_of_perm hp, hp.length_eq⟩
end Go.Proofs.Ytcncjedhpnaoaaa.Mg

