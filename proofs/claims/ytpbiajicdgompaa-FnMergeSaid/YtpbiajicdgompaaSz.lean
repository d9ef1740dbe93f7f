/- Plain law: where the items of a list stand behind a stable sort by an integer key. No program in sight. -/
import Derived.Test.YtpbiajicdgompaaMg
namespace Go.Proofs.Ytpbiajicdgompaa.Mg
set_option linter.unusedVariables false
section
variable {α : Type} (key : α → Int)

/-- Items with their places; by key, then by place. -/
def lx (a b : α × Nat) : Prop := key a.1 < key b.1 ∨ key a.1 = key b.1 ∧ a.2 < b.2
abbrev k2 : α × Nat → Int := fun p => key p.1
def tag (l : List α) : List (α × Nat) := l.zipIdx
def srtT (l : List α) : List (α × Nat) := srt (ltK (k2 key)) (tag l)
def pos (l : List α) : List Nat := (srtT key l).map Prod.snd

theorem mrg_lx {x : α × Nat} : ∀ {A : List (α × Nat)}, A.Pairwise (lx key) → (∀ a ∈ A, a.2 < x.2) → (mrg (ltK (k2 key)) A [x]).Pairwise (lx key)
  | [], _, _ => by rw [mrg_nil]; simp
  | a :: A, hA, hx => by
    rw [List.pairwise_cons] at hA
    by_cases h : key x.1 < key a.1
    · rw [mrg_lt (by simpa [ltK, k2] using h), nil_mrg, List.pairwise_cons]
      refine ⟨fun b hb => ?_, List.pairwise_cons.2 hA⟩
      rcases List.mem_cons.1 hb with rfl | hb
      · exact .inl h
      · rcases hA.1 b hb with h1 | h1
        · exact .inl (by omega)
        · exact .inl (by omega)
    · rw [mrg_ge (by simpa [ltK, k2] using h), List.pairwise_cons]
      refine ⟨fun b hb => ?_, mrg_lx hA.2 (fun a ha => hx a (by simp [ha]))⟩
      rcases mrg_mem.1 hb with hb | hb
      · exact hA.1 b hb
      · simp at hb; subst hb
        have := hx a (by simp)
        rcases Int.lt_or_eq_of_le (Int.not_lt.1 h) with h1 | h1
        · exact .inl h1
        · exact .inr ⟨h1, this⟩
theorem tag_snoc (l : List α) (x : α) : tag (l ++ [x]) = tag l ++ [(x, l.length)] := by
  simp [tag, List.zipIdx_append]
theorem tag_lt {l : List α} {a : α × Nat} (h : a ∈ tag l) : a.2 < l.length ∧ l[a.2]? = some a.1 := by
  obtain ⟨x, i⟩ := a
  have := List.mem_zipIdx_iff_getElem?.1 h
  exact ⟨(List.getElem?_eq_some_iff.1 this).1, this⟩
theorem srtT_lx (l : List α) : (srtT key l).Pairwise (lx key) := by
  refine list_snoc (P := fun l => (srtT key l).Pairwise (lx key)) (by simp [srtT, tag, srt_nil]) ?_ l
  intro l x ih
  unfold srtT
  rw [tag_snoc, srt_snoc]
  refine mrg_lx key ih (fun a ha => ?_)
  exact (tag_lt (srt_mem.1 ha)).1
theorem mrg_map {x : α × Nat} : ∀ {A : List (α × Nat)}, (mrg (ltK (k2 key)) A [x]).map Prod.fst = mrg (ltK key) (A.map Prod.fst) [x.1]
  | [] => by simp [mrg_nil]
  | a :: A => by
    rw [List.map_cons]
    by_cases h : key x.1 < key a.1
    · rw [mrg_lt (by simpa [ltK, k2] using h), mrg_lt (by simpa [ltK] using h)]
      simp [nil_mrg]
    · rw [mrg_ge (by simpa [ltK, k2] using h), mrg_ge (by simpa [ltK] using h)]
      rw [List.map_cons, mrg_map]
theorem srtT_fst (l : List α) : (srtT key l).map Prod.fst = srt (ltK key) l := by
  refine list_snoc (P := fun l => (srtT key l).map Prod.fst = srt (ltK key) l) rfl ?_ l
  intro l x ih
  unfold srtT at ih ⊢
  rw [tag_snoc, srt_snoc, mrg_map, ih, srt_snoc]

theorem pos_len (l : List α) : (pos key l).length = l.length := by
  unfold pos srtT
  rw [List.length_map, srt_length]
  simp [tag]
theorem pos_has {l : List α} {k : Nat} (h : k < l.length) : k ∈ pos key l := by
  unfold pos srtT
  refine List.mem_map.2 ⟨(l[k], k), srt_mem.2 ?_, rfl⟩
  exact List.mem_zipIdx_iff_getElem?.2 (List.getElem?_eq_getElem h)
theorem pos_at {l : List α} {i p : Nat} (h : (pos key l)[i]? = some p) : p < l.length ∧ l[p]? = (srt (ltK key) l)[i]? := by
  unfold pos at h
  rw [List.getElem?_map] at h
  cases hq : (srtT key l)[i]? with
  | none => rw [hq] at h; cases h
  | some q =>
    rw [hq] at h
    injection h with h
    have hm : q ∈ tag l := srt_mem.1 (List.mem_of_getElem? hq)
    obtain ⟨h1, h2⟩ := tag_lt hm
    rw [← srtT_fst, List.getElem?_map, hq, ← h]
    exact ⟨h1, h2⟩
/-- Items of one key keep their order. -/
theorem pos_lt {l : List α} {i j p q : Nat} {x y : α} (hi : (pos key l)[i]? = some p) (hj : (pos key l)[j]? = some q) (hij : i < j) (hx : l[p]? = some x) (hy : l[q]? = some y) : key x < key y ∨ key x = key y ∧ p < q := by
  unfold pos at hi hj
  rw [List.getElem?_map] at hi hj
  cases h1 : (srtT key l)[i]? with
  | none => rw [h1] at hi; cases hi
  | some a =>
    cases h2 : (srtT key l)[j]? with
    | none => rw [h2] at hj; cases hj
    | some b =>
      rw [h1] at hi; rw [h2] at hj
      injection hi with hi; injection hj with hj
      obtain ⟨l1, e1⟩ := List.getElem?_eq_some_iff.1 h1
      obtain ⟨l2, e2⟩ := List.getElem?_eq_some_iff.1 h2
      have := List.pairwise_iff_getElem.1 (srtT_lx key l) i j l1 l2 hij
      rw [e1, e2] at this
      have ha := (tag_lt (srt_mem.1 (List.mem_of_getElem? h1) : a ∈ tag l)).2
      have hb := (tag_lt (srt_mem.1 (List.mem_of_getElem? h2) : b ∈ tag l)).2
      rw [hi, hx] at ha
      rw [hj, hy] at hb
      injection ha with ha; injection hb with hb
      rw [ha, hb, ← hi, ← hj]
      exact this
theorem pos_nodup {l : List α} {i j p : Nat} (hi : (pos key l)[i]? = some p) (hj : (pos key l)[j]? = some p) : i = j := by
  obtain ⟨h1, h2⟩ := pos_at key hi
  have hx : l[p]? = some l[p] := List.getElem?_eq_getElem h1
  rcases Nat.lt_trichotomy i j with h | h | h
  · have := pos_lt key hi hj h hx hx; omega
  · exact h
  · have := pos_lt key hj hi h hx hx; omega
/-- THE FIRST UNUSED ITEM THAT IS EQUAL stands where the sort took it from. -/
theorem pos_first {l : List α} {i p k : Nat} {x : α} (hi : (pos key l)[i]? = some p) (hk : k < p) (hx : l[p]? = some x) (he : l[k]? = some x) : k ∈ (pos key l).take i := by
  have hkl : k < l.length := (List.getElem?_eq_some_iff.1 he).1
  obtain ⟨j, hj, e⟩ := List.getElem_of_mem (pos_has key hkl)
  have hj' : (pos key l)[j]? = some k := by rw [List.getElem?_eq_getElem hj, e]
  rcases Nat.lt_trichotomy i j with h | h | h
  · have := pos_lt key hi hj' h hx he; omega
  · subst h; rw [hi] at hj'; injection hj' with hj'; omega
  · exact List.mem_take_iff_getElem.2 ⟨j, by omega, e⟩
theorem pos_new {l : List α} {i p : Nat} (hi : (pos key l)[i]? = some p) : p ∉ (pos key l).take i := by
  intro h
  obtain ⟨j, hj, e⟩ := List.mem_take_iff_getElem.1 h
  have : (pos key l)[j]? = some p := by rw [List.getElem?_eq_getElem (by omega), e]
  have := pos_nodup key hi this
  omega
end
end Go.Proofs.Ytpbiajicdgompaa.Mg
