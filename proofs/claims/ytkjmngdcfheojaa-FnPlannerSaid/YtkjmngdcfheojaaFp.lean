/- Plain law: fingerprints of equal multisets; ranks; distinct elements. No program in sight. -/
import Derived.Test.YtkjmngdcfheojaaSp
namespace Go.Proofs.Ytkjmngdcfheojaa.Mg
set_option linter.unusedVariables false

theorem mulmod_comm (a b c : Int) : a * b % 999983 * c % 999983 = a * c % 999983 * b % 999983 := by
  rw [Int.mul_emod, Int.emod_emod_of_dvd _ (Int.dvd_refl _), ← Int.mul_emod, Int.mul_emod (a * c % 999983), Int.emod_emod_of_dvd _ (Int.dvd_refl _), ← Int.mul_emod, Int.mul_right_comm]
theorem fold_perm {f : Int → Int → Int} (hf : ∀ a x y, f (f a x) y = f (f a y) x) {l r : List Int} (h : l.Perm r) (a : Int) : l.foldl f a = r.foldl f a := by
  induction h generalizing a with
  | nil => rfl
  | cons x _ ih => exact ih _
  | swap x y l => simp only [List.foldl_cons]; rw [hf]
  | trans _ _ ih1 ih2 => rw [ih1, ih2]
theorem srtI_perm (l : List Int) : (srtI l).Perm l := srt_perm l
theorem srtI_asc (l : List Int) : Asc ltI (srtI l) := srt_asc swI l
theorem perm_of_same {l r : List Int} (h : srtI l = srtI r) : l.Perm r := (srtI_perm l).symm.trans (h ▸ srtI_perm r)
theorem same_of_perm {l r : List Int} (h : l.Perm r) : srtI l = srtI r := asc_unique swI (fun a b h1 h2 => by simp [ltI] at h1 h2; omega) (((srtI_perm l).trans h).trans (srtI_perm r).symm) (srtI_asc l) (srtI_asc r)

/-- In an ascending list the smaller ones stand first, then the equal ones. -/
theorem asc_count : ∀ {s : List Int} (h : Asc ltI s) (x : Int) (r : Nat) (hr : r < s.length), s.getD r 0 = x ↔ s.countP (fun y => decide (y < x)) ≤ r ∧ r < s.countP (fun y => decide (y < x)) + s.countP (fun y => decide (y = x))
  | [], _, x, r, hr => by simp at hr
  | y :: s, h, x, r, hr => by
    rw [asc_cons] at h
    have hy : ∀ z ∈ s, y ≤ z := fun z hz => by have := h.1 z hz; simpa [ltI] using this
    cases r with
    | zero =>
      simp only [List.getD_cons_zero, List.countP_cons]
      rcases Int.lt_trichotomy y x with h1 | h1 | h1
      · rw [decide_eq_true h1, decide_eq_false (by omega)]
        simp; omega
      · subst h1
        have : s.countP (fun z => decide (z < y)) = 0 := List.countP_eq_zero.2 (fun z hz => by have := hy z hz; simp; omega)
        rw [this]; simp
      · have e1 : s.countP (fun z => decide (z < x)) = 0 := List.countP_eq_zero.2 (fun z hz => by have := hy z hz; simp; omega)
        have e2 : s.countP (fun z => decide (z = x)) = 0 := List.countP_eq_zero.2 (fun z hz => by have := hy z hz; simp; omega)
        rw [e1, e2, decide_eq_false (by omega), decide_eq_false (by omega)]
        simp; omega
    | succ r =>
      have ih := asc_count h.2 x r (by simpa using hr)
      simp only [List.getD_cons_succ, List.countP_cons]
      rw [ih]
      rcases Int.lt_trichotomy y x with h1 | h1 | h1
      · rw [decide_eq_true h1, decide_eq_false (by omega)]
        simp; omega
      · subst h1
        have : s.countP (fun z => decide (z < y)) = 0 := List.countP_eq_zero.2 (fun z hz => by have := hy z hz; simp; omega)
        rw [this]; simp
      · have e1 : s.countP (fun z => decide (z < x)) = 0 := List.countP_eq_zero.2 (fun z hz => by have := hy z hz; simp; omega)
        have e2 : s.countP (fun z => decide (z = x)) = 0 := List.countP_eq_zero.2 (fun z hz => by have := hy z hz; simp; omega)
        rw [e1, e2, decide_eq_false (by omega), decide_eq_false (by omega)]
        simp
/-- The rank test. -/
theorem rank_test (zs : List Int) (x : Int) (r : Nat) (hr : r < zs.length) : (srtI zs).getD r 0 = x ↔ (zs.filter (fun y => decide (y < x))).length ≤ r ∧ r < (zs.filter (fun y => decide (y < x))).length + (zs.filter (fun y => decide (y = x))).length := by
  rw [asc_count (srtI_asc zs) x r (by rw [(srtI_perm zs).length_eq]; exact hr)]
  rw [(srtI_perm zs).countP_eq, (srtI_perm zs).countP_eq, List.countP_eq_length_filter, List.countP_eq_length_filter]

/-- The distinct elements of an ascending list. -/
theorem compact_spec {s : List Int} (h : Asc ltI s) : ∀ m, m ≤ s.length → (Lib.compactUpTo s.toArray m).Pairwise (· < ·) ∧ ∀ x, x ∈ Lib.compactUpTo s.toArray m ↔ x ∈ s.take m
  | 0, _ => by simp [Lib.compactUpTo]
  | m + 1, hm => by
    obtain ⟨ih1, ih2⟩ := compact_spec h m (by omega)
    have hm' : m < s.length := by omega
    rw [Lib.compactUpTo_succ]
    have hle : ∀ x ∈ s.take m, x ≤ s[m] := fun x hx => by
      obtain ⟨i, hi, rfl⟩ := List.mem_take_iff_getElem.1 hx
      have := List.pairwise_iff_getElem.1 h i m (by omega) hm' (by omega)
      simpa [ltI] using this
    have ht : s.take (m + 1) = s.take m ++ [s[m]] := by rw [List.take_add_one, List.getElem?_eq_getElem hm']; rfl
    cases m with
    | zero =>
      simp [Lib.compactUpTo, Lib.keeps, ht, hm']
    | succ m =>
      have e : Lib.keeps s.toArray (m + 1) = decide (s[m + 1] ≠ s[m]) := by
        unfold Lib.keeps
        simp [hm', show m < s.length by omega]
      rw [e]
      by_cases q : s[m + 1] = s[m]
      · rw [decide_eq_false (by simpa using q)]
        simp only [Bool.false_eq_true, if_false, List.append_nil]
        refine ⟨ih1, fun x => ?_⟩
        rw [ih2, ht, List.mem_append]
        refine ⟨.inl, fun hx => hx.elim id (fun hx => ?_)⟩
        simp at hx
        rw [hx, q]
        exact List.mem_take_iff_getElem.2 ⟨m, by omega, rfl⟩
      · rw [decide_eq_true (by simpa using q)]
        simp only [if_true]
        have hlt : ∀ x ∈ s.take (m + 1), x < s[m + 1] := fun x hx => by
          obtain ⟨i, hi, rfl⟩ := List.mem_take_iff_getElem.1 hx
          have h1 : s[i] ≤ s[m] := by
            by_cases hi2 : i = m
            · subst hi2; exact Int.le_refl _
            · have := List.pairwise_iff_getElem.1 h i m (by omega) (by omega) (by omega)
              simpa [ltI] using this
          have h2 := List.pairwise_iff_getElem.1 h m (m + 1) (by omega) hm' (by omega)
          simp [ltI] at h2
          omega
        have e2 : s.toArray[m + 1]! = s[m + 1] := by simp [hm']
        refine ⟨?_, fun x => ?_⟩
        · rw [List.pairwise_append]
          refine ⟨ih1, by simp, fun x hx y hy => ?_⟩
          simp at hy
          rw [hy]
          have := hlt x ((ih2 x).1 hx)
          simpa [hm'] using this
        · rw [List.mem_append, ih2, ht, List.mem_append]
          simp [hm']
def dist (zs : List Int) : List Int := Lib.compact (srtI zs)
theorem dist_lt (zs : List Int) : (dist zs).Pairwise (· < ·) := (compact_spec (srtI_asc zs) _ (Nat.le_refl _)).1
theorem dist_mem (zs : List Int) (x : Int) : x ∈ dist zs ↔ x ∈ zs := by
  unfold dist Lib.compact
  rw [(compact_spec (srtI_asc zs) _ (Nat.le_refl _)).2, List.take_of_length_le (Nat.le_refl _)]
  exact srt_mem
theorem dist_nodup (zs : List Int) : (dist zs).Nodup := (dist_lt zs).imp (fun h => by omega)

/-- What the loop over the first occurrences keeps. -/
structure Firsts (p o : List Int) (c : List Int) : Prop where
  nd : o.Nodup
  mem : ∀ x, x ∈ o ↔ x ∈ p
  len : c.length = o.length
  pos : ∀ x ∈ c, 1 ≤ x
  sum : sumL c = p.length
theorem Firsts.nil : Firsts [] [] [] := ⟨List.nodup_nil, by simp, rfl, by simp, rfl⟩
theorem sumL_snoc (c : List Int) (x : Int) : sumL (c ++ [x]) = sumL c + x := by simp [sumL]
theorem sumL_set : ∀ {c : List Int} {j : Nat} (hj : j < c.length), sumL (c.set j (c[j] + 1)) = sumL c + 1
  | x :: c, 0, _ => by
    simp only [List.set_cons_zero, List.getElem_cons_zero]
    unfold sumL
    rw [List.foldl_cons, List.foldl_cons, foldl_add, foldl_add c (0 + x)]; omega
  | x :: c, j + 1, hj => by
    have ih := sumL_set (c := c) (j := j) (by simpa using hj)
    simp only [List.set_cons_succ, List.getElem_cons_succ]
    unfold sumL at ih ⊢
    rw [List.foldl_cons, List.foldl_cons, foldl_add, foldl_add c (0 + x)]; omega
theorem Firsts.fresh {p o c : List Int} {x : Int} (h : Firsts p o c) (hx : x ∉ o) : Firsts (p ++ [x]) (o ++ [x]) (c ++ [1]) :=
  ⟨List.nodup_append.2 ⟨h.nd, by simp, by intro a ha b hb; simp at hb; subst hb; intro e; subst e; exact hx ha⟩, fun y => by simp [h.mem], by simp [h.len], fun y hy => by
    rcases List.mem_append.1 hy with hy | hy
    · exact h.pos y hy
    · simp at hy; omega, by rw [sumL_snoc, h.sum]; simp⟩
theorem Firsts.again {p o c : List Int} {x : Int} {j : Nat} (h : Firsts p o c) (hj : o[j]? = some x) (hc : j < c.length) : Firsts (p ++ [x]) o (c.set j (c[j] + 1)) :=
  ⟨h.nd, fun y => by
    rw [List.mem_append, h.mem]
    refine ⟨.inl, fun hy => hy.elim id (fun hy => ?_)⟩
    simp at hy; subst hy
    exact (h.mem y).1 (List.mem_of_getElem? hj), by simp [h.len], fun y hy => by
    rcases List.mem_or_eq_of_mem_set hy with hy | hy
    · exact h.pos y hy
    · have := h.pos c[j] (List.getElem_mem hc); omega, by rw [sumL_set hc, h.sum]; simp⟩
theorem Firsts.same {p o c : List Int} (h : Firsts p o c) : srtI o = srtI (dist p) ∧ o.length = (dist p).length := by
  have hp : o.Perm (dist p) := (List.perm_ext_iff_of_nodup h.nd (dist_nodup p)).2 (fun x => by rw [h.mem, dist_mem])
  exact ⟨same_of_perm hp, hp.length_eq⟩
end Go.Proofs.Ytkjmngdcfheojaa.Mg
