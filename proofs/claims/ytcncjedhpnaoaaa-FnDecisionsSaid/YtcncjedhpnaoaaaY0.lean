/- Several texts in one: lemmas and walks of the functions that the law reaches. -/

namespace Go.Proofs.Ytcncjedhpnaoaaa.Mg
set_option linter.unusedVariables false

structure SW {α : Type} (lt : α → α → Bool) : Prop where
  asym : ∀ a b, lt a b = true → lt b a = false
  trans : ∀ a b c, lt a b = true → lt b c = true → lt a c = true
  neg : ∀ a b c, lt a c = true → lt a b = true ∨ lt b c = true

def mrg {α : Type} (lt : α → α → Bool) (l r : List α) : List α := List.merge l r (fun x y => !lt y x)

section
variable {α : Type} {lt : α → α → Bool}

theorem mrg_nil (r : List α) : mrg lt [] r = r := by simp [mrg]
theorem nil_mrg (l : List α) : mrg lt l [] = l := by simp [mrg]
theorem mrg_cons (x : α) (l : List α) (y : α) (r : List α) : mrg lt (x :: l) (y :: r) = if lt y x then y :: mrg lt (x :: l) r else x :: mrg lt l (y :: r) := by
  unfold mrg
  rw [List.cons_merge_cons]
  cases lt y x <;> simp
theorem mrg_lt {x : α} {l : List α} {y : α} {r : List α} (h : lt y x = true) : mrg lt (x :: l) (y :: r) = y :: mrg lt (x :: l) r := by rw [mrg_cons, if_pos h]
theorem mrg_ge {x : α} {l : List α} {y : α} {r : List α} (h : lt y x = false) : mrg lt (x :: l) (y :: r) = x :: mrg lt l (y :: r) := by rw [mrg_cons, if_neg (by rw [h]; simp)]

theorem mrg_perm (l r : List α) : (mrg lt l r).Perm (l ++ r) := List.merge_perm_append _
theorem mrg_mem {l r : List α} {x : α} : x ∈ mrg lt l r ↔ x ∈ l ∨ x ∈ r := by rw [(mrg_perm l r).mem_iff, List.mem_append]
theorem mrg_length (l r : List α) : (mrg lt l r).length = l.length + r.length := by rw [(mrg_perm l r).length_eq, List.length_append]

/-- Both lists are cut in two, so that the earlier parts go ahead of the later ones. -/
theorem mrg_split : ∀ (L1 R1 L2 R2 : List α), (∀ x ∈ L1, ∀ y ∈ R2, lt y x = false) → (∀ x ∈ L2, ∀ y ∈ R1, lt y x = true) →
    mrg lt (L1 ++ L2) (R1 ++ R2) = mrg lt L1 R1 ++ mrg lt L2 R2
  | [], [], L2, R2, _, _ => by simp [mrg_nil]
  | [], y :: R1, L2, R2, h1, h2 => by
    have ih := mrg_split [] R1 L2 R2 (by simp) (fun x hx z hz => h2 x hx z (List.mem_cons_of_mem _ hz))
    simp only [List.nil_append, mrg_nil] at ih ⊢
    cases L2 with
    | nil => simp [mrg_nil]
    | cons x l =>
      rw [List.cons_append, mrg_lt (h2 x (by simp) y (by simp)), ih]; rfl
  | x :: L1, [], L2, R2, h1, h2 => by
    have ih := mrg_split L1 [] L2 R2 (fun z hz => h1 z (List.mem_cons_of_mem _ hz)) (by simp)
    simp only [List.nil_append, nil_mrg] at ih ⊢
    cases R2 with
    | nil => simp [nil_mrg]
    | cons y r =>
      rw [List.cons_append, mrg_ge (h1 x (by simp) y (by simp)), ih]; rfl
  | x :: L1, y :: R1, L2, R2, h1, h2 => by
    have ih1 := mrg_split (x :: L1) R1 L2 R2 h1 (fun z hz v hv => h2 z hz v (List.mem_cons_of_mem _ hv))
    have ih2 := mrg_split L1 (y :: R1) L2 R2 (fun z hz => h1 z (List.mem_cons_of_mem _ hz)) h2
    simp only [List.cons_append] at ih1 ih2 ⊢
    cases h : lt y x
    · rw [mrg_ge h, mrg_ge h, ih2]; rfl
    · rw [mrg_lt h, mrg_lt h, ih1]; rfl
termination_by L1 R1 => L1.length + R1.length

theorem mrg_assoc (S : SW lt) : ∀ (A B C : List α), mrg lt (mrg lt A B) C = mrg lt A (mrg lt B C)
  | [], B, C => by simp [mrg_nil]
  | a :: A, [], C => by simp [nil_mrg, mrg_nil]
  | a :: A, b :: B, [] => by simp [nil_mrg]
  | a :: A, b :: B, c :: C => by
    have i1 := mrg_assoc S (a :: A) (b :: B) C
    have i2 := mrg_assoc S (a :: A) B (c :: C)
    have i3 := mrg_assoc S A (b :: B) (c :: C)
    cases h1 : lt b a
    · cases h2 : lt c b
      · have h3 : lt c a = false := by
          cases h3 : lt c a
          · rfl
          · rcases S.neg c b a h3 with h | h
            · rw [h2] at h; cases h
            · rw [h1] at h; cases h
        rw [mrg_ge h1, mrg_ge h2, mrg_ge h3, mrg_ge h1, i3, mrg_ge h2]
      · cases h3 : lt c a
        · rw [mrg_ge h1, mrg_lt h2, mrg_ge h3, mrg_ge h3, i3, mrg_lt h2]
        · rw [mrg_lt h2, mrg_lt h3, ← i1, mrg_ge h1, mrg_lt h3]
    · cases h2 : lt c b
      · rw [mrg_lt h1, mrg_ge h2, mrg_ge h2, mrg_lt h1, i2]
      · have h3 := S.trans _ _ _ h2 h1
        rw [mrg_lt h1, mrg_lt h2, mrg_lt h2, mrg_lt h3, ← i1, mrg_lt h1]
termination_by A B C => A.length + B.length + C.length

def Asc (lt : α → α → Bool) (l : List α) : Prop := l.Pairwise fun x y => lt y x = false
theorem asc_nil : Asc lt [] := List.Pairwise.nil
theorem asc_one (x : α) : Asc lt [x] := by simp [Asc]

theorem asc_cons {x : α} {l : List α} : Asc lt (x :: l) ↔ (∀ y ∈ l, lt y x = false) ∧ Asc lt l := by simp [Asc]
/-- Only what stands side by side need be looked at. -/
theorem le_trans' (S : SW lt) {a b c : α} (h1 : lt b a = false) (h2 : lt c b = false) : lt c a = false := by
  cases h3 : lt c a
  · rfl
  · rcases S.neg c b a h3 with h | h
    · rw [h2] at h; cases h
    · rw [h1] at h; cases h

theorem asc_cons2 (S : SW lt) {x y : α} {l : List α} (h : lt y x = false) (hl : Asc lt (y :: l)) : Asc lt (x :: y :: l) := by
  rw [asc_cons]
  refine ⟨fun z hz => ?_, hl⟩
  rcases List.mem_cons.1 hz with rfl | hz
  · exact h
  · exact le_trans' S h ((asc_cons.1 hl).1 z hz)

theorem asc_of_side (S : SW lt) : ∀ l : List α, (∀ i, (h : i + 1 < l.length) → lt l[i + 1] l[i] = false) → Asc lt l
  | [], _ => asc_nil
  | [x], _ => asc_one x
  | x :: y :: l, h => asc_cons2 S (h 0 (by simp)) (asc_of_side S (y :: l) (fun i hi => h (i + 1) (by simpa using hi)))

theorem mrg_asc (S : SW lt) : ∀ {l r : List α}, Asc lt l → Asc lt r → Asc lt (mrg lt l r)
  | [], r, _, hr => by rw [mrg_nil]; exact hr
  | x :: l, [], hl, _ => by rw [nil_mrg]; exact hl
  | x :: l, y :: r, hl, hr => by
    cases h : lt y x
    · rw [mrg_ge h, asc_cons]
      refine ⟨fun z hz => ?_, mrg_asc S (asc_cons.1 hl).2 hr⟩
      rcases mrg_mem.1 hz with hz | hz
      · exact (asc_cons.1 hl).1 z hz
      · rcases List.mem_cons.1 hz with rfl | hz
        · exact h
        · exact le_trans' S h ((asc_cons.1 hr).1 z hz)
    · rw [mrg_lt h, asc_cons]
      refine ⟨fun z hz => ?_, mrg_asc S hl (asc_cons.1 hr).2⟩
      rcases mrg_mem.1 hz with hz | hz
      · rcases List.mem_cons.1 hz with rfl | hz
        · exact S.asym _ _ h
        · exact le_trans' S (S.asym _ _ h) ((asc_cons.1 hl).1 z hz)
      · exact (asc_cons.1 hr).1 z hz
termination_by l r => l.length + r.length

/-- Where all of l goes ahead of all of r. -/
theorem mrg_ahead {l r : List α} (h : ∀ x ∈ l, ∀ y ∈ r, lt y x = false) : mrg lt l r = l ++ r := by
  have := mrg_split (lt := lt) l [] [] r h (by simp)
  simpa [nil_mrg, mrg_nil] using this
/-- Where all of r goes ahead of all of l. -/
theorem mrg_behind {l r : List α} (h : ∀ x ∈ l, ∀ y ∈ r, lt y x = true) : mrg lt l r = r ++ l := by
  have := mrg_split (lt := lt) [] r l [] (by simp) h
  simpa [nil_mrg, mrg_nil] using this

/-- THE STABLE SORT: element after element merged in. -/
def srt (lt : α → α → Bool) (l : List α) : List α := l.foldl (fun acc x => mrg lt acc [x]) []

theorem srt_snoc (l : List α) (x : α) : srt lt (l ++ [x]) = mrg lt (srt lt l) [x] := by simp [srt]
theorem srt_nil : srt lt [] = [] := rfl
theorem srt_one (x : α) : srt lt [x] = [x] := by simp [srt, mrg_nil]

theorem list_snoc {P : List α → Prop} (h0 : P []) (h1 : ∀ l x, P l → P (l ++ [x])) (l : List α) : P l := by
  have : ∀ n (l : List α), l.length = n → P l := by
    intro n
    induction n with
    | zero => intro l hl; rw [List.eq_nil_of_length_eq_zero hl]; exact h0
    | succ n ih =>
      intro l hl
      have hne : l ≠ [] := by intro e; rw [e] at hl; simp at hl
      rw [← List.dropLast_concat_getLast hne]
      exact h1 _ _ (ih _ (by simp [hl]))
  exact this _ l rfl

theorem srt_append (S : SW lt) (a b : List α) : srt lt (a ++ b) = mrg lt (srt lt a) (srt lt b) := by
  refine list_snoc (P := fun b => srt lt (a ++ b) = mrg lt (srt lt a) (srt lt b)) ?_ ?_ b
  · rw [List.append_nil, srt_nil, nil_mrg]
  · intro l x ih
    rw [← List.append_assoc, srt_snoc, srt_snoc, ih, mrg_assoc S]

theorem srt_perm (l : List α) : (srt lt l).Perm l := by
  refine list_snoc (P := fun l => (srt lt l).Perm l) (by rw [srt_nil]) ?_ l
  intro l x ih
  rw [srt_snoc]
  exact (mrg_perm _ _).trans (ih.append_right [x])
theorem srt_length (l : List α) : (srt lt l).length = l.length := (srt_perm l).length_eq
theorem srt_mem {l : List α} {x : α} : x ∈ srt lt l ↔ x ∈ l := (srt_perm l).mem_iff

theorem srt_asc (S : SW lt) (l : List α) : Asc lt (srt lt l) := by
  refine list_snoc (P := fun l => Asc lt (srt lt l)) asc_nil ?_ l
  intro l x ih
  rw [srt_snoc]; exact mrg_asc S ih (asc_one x)

theorem srt_mrg (S : SW lt) (a b : List α) : mrg lt (srt lt a) (srt lt b) = srt lt (a ++ b) := (srt_append S a b).symm
/-- One element on its way down. -/
theorem mrg_down {A B : List α} {x : α} (h : ∀ b ∈ B, lt x b = true) : mrg lt (A ++ B) [x] = mrg lt A [x] ++ B := by
  have := mrg_split (lt := lt) A [x] B [] (by simp) (by simpa using h)
  simpa [nil_mrg] using this
theorem mrg_stop {A : List α} {x : α} (h : ∀ a ∈ A, lt x a = false) : mrg lt A [x] = A ++ [x] := mrg_ahead (by simpa using h)

end

/-! ### by an integer key -/
def ltK {α : Type} (key : α → Int) (a b : α) : Bool := decide (key a < key b)
theorem swK {α : Type} (key : α → Int) : SW (ltK key) :=
  ⟨fun a b h => by simp only [ltK, decide_eq_true_eq, decide_eq_false_iff_not] at *; omega, fun a b c h1 h2 => by simp only [ltK, decide_eq_true_eq] at *; omega,
   fun a b c h => by simp only [ltK, decide_eq_true_eq] at *; omega⟩

end Go.Proofs.Ytcncjedhpnaoaaa.Mg

namespace Go.Proofs.Ytcncjedhpnaoaaa.Mg
set_option linter.unusedVariables false
section
variable {α : Type} {lt : α → α → Bool}

/-- x stands at place k of A, R behind. -/
def insSt (A : List α) (x : α) (k : Nat) (R : List α) : List α := A.take k ++ x :: (A.drop k ++ R)

theorem insSt_len {A : List α} {x : α} {k : Nat} {R : List α} (hk : k ≤ A.length) : (insSt A x k R).length = A.length + 1 + R.length := by
  unfold insSt
  simp only [List.length_append, List.length_cons, List.length_take, List.length_drop]
  omega
theorem insSt_top (A : List α) (x : α) (R : List α) : insSt A x A.length R = A ++ x :: R := by
  unfold insSt; simp
theorem insSt_at {A : List α} {x : α} {k : Nat} {R : List α} (hk : k ≤ A.length) : (insSt A x k R)[k]? = some x := by
  unfold insSt
  rw [List.getElem?_append_right (by rw [List.length_take]; omega), List.length_take, show k - min k A.length = 0 by omega]
  rfl
theorem insSt_before {A : List α} {x : α} {k : Nat} {R : List α} (hk : k < A.length) : (insSt A x (k + 1) R)[k]? = some A[k] := by
  unfold insSt
  rw [List.getElem?_append_left (by rw [List.length_take]; omega), List.getElem?_take_of_lt (by omega), List.getElem?_eq_getElem hk]
theorem insSt_step {A : List α} {x : α} {k : Nat} {R : List α} (hk : k < A.length) : ((insSt A x (k + 1) R).set k x).set (k + 1) A[k] = insSt A x k R := by
  unfold insSt
  have h1 : A.take (k + 1) = A.take k ++ [A[k]] := by rw [List.take_add_one, List.getElem?_eq_getElem hk]; rfl
  have h2 : A.drop k = A[k] :: A.drop (k + 1) := List.drop_eq_getElem_cons hk
  have hl : (A.take k).length = k := by rw [List.length_take]; omega
  rw [h1, h2, List.append_assoc, List.set_append, if_neg (by omega), hl, Nat.sub_self, List.set_append, if_neg (by omega), hl, show k + 1 - k = 1 by omega]
  rfl
theorem insSt_end (S : SW lt) {A : List α} {x : α} {k : Nat} {R : List α} (hA : Asc lt A) (hk : k ≤ A.length) (hd : ∀ b ∈ A.drop k, lt x b = true) (hs : ∀ (h : 0 < k), lt x (A[k - 1]'(by omega)) = false) :
    insSt A x k R = mrg lt A [x] ++ R := by
  have h1 : mrg lt A [x] = mrg lt (A.take k) [x] ++ A.drop k := by
    have := mrg_down (lt := lt) (A := A.take k) (B := A.drop k) (x := x) hd
    rwa [List.take_append_drop] at this
  have h2 : mrg lt (A.take k) [x] = A.take k ++ [x] := by
    apply mrg_stop
    intro a ha
    obtain ⟨i, hi, rfl⟩ := List.mem_take_iff_getElem.1 ha
    have hi' : i < k := by omega
    have hs' := hs (by omega)
    by_cases e : i = k - 1
    · subst e; exact hs'
    · have := List.pairwise_iff_getElem.1 hA i (k - 1) (by omega) (by omega) (by omega)
      exact le_trans' S this hs'
  unfold insSt
  rw [h1, h2]
  simp
/-- One item more that has its place. -/
theorem insSt_srt (S : SW lt) {l : List α} {x : α} {k : Nat} {R : List α} (hk : k ≤ (srt lt l).length) (hd : ∀ b ∈ (srt lt l).drop k, lt x b = true) (hs : ∀ (h : 0 < k), lt x ((srt lt l)[k - 1]'(by omega)) = false) :
    insSt (srt lt l) x k R = srt lt (l ++ [x]) ++ R := by
  rw [insSt_end S (srt_asc S l) hk hd hs, srt_snoc]

theorem asc_unique (S : SW lt) (ht : ∀ a b, lt a b = false → lt b a = false → a = b) : ∀ {l r : List α}, l.Perm r → Asc lt l → Asc lt r → l = r := by
  intro l r hp hl hr
  exact hp.eq_of_pairwise (fun a b _ _ h1 h2 => ht a b h2 h1) hl hr
end

/-- Integers: the library's sort is this one. -/
def ltI (a b : Int) : Bool := decide (a < b)
theorem swI : SW ltI := swK (fun x : Int => x)
def srtI (l : List Int) : List Int := srt ltI l
theorem merge_srtI (l : List Int) : l.mergeSort (fun x y => decide (x ≤ y)) = srtI l := by
  have h1 : (l.mergeSort (fun x y => decide (x ≤ y))).Pairwise (fun a b => decide (a ≤ b) = true) :=
    List.pairwise_mergeSort (by intro a b c; simp; omega) (by intro a b; simp; omega) l
  have h2 : Asc ltI (l.mergeSort (fun x y => decide (x ≤ y))) := by
    refine h1.imp ?_
    intro a b h
    simp [ltI] at h ⊢
    omega
  refine asc_unique swI (fun a b h1 h2 => by simp [ltI] at h1 h2; omega) ?_ h2 (srt_asc swI l)
  exact (List.mergeSort_perm _ _).trans (srt_perm l).symm
end Go.Proofs.Ytcncjedhpnaoaaa.Mg

namespace Go.Proofs.Ytcncjedhpnaoaaa.Mg
set_option linter.unusedVariables false
section
variable {α : Type} {lt : α → α → Bool}

/-- Two elements change places. -/
theorem swap2 {P Q R : List α} {x y : α} : ((P ++ x :: (Q ++ y :: R)).set P.length y).set (P.length + 1 + Q.length) x = P ++ y :: (Q ++ x :: R) := by
  rw [List.set_append_right _ _ (Nat.le_refl _), Nat.sub_self, List.set_cons_zero]
  rw [List.set_append_right _ _ (by omega), show P.length + 1 + Q.length - P.length = Q.length + 1 by omega, List.set_cons_succ]
  rw [List.set_append_right _ _ (Nat.le_refl _), Nat.sub_self, List.set_cons_zero]
theorem at1 {P Q R : List α} {x y : α} : (P ++ x :: (Q ++ y :: R))[P.length]? = some x := by
  rw [List.getElem?_append_right (Nat.le_refl _), Nat.sub_self]; rfl
theorem at2 {P Q R : List α} {x y : α} : (P ++ x :: (Q ++ y :: R))[P.length + 1 + Q.length]? = some y := by
  rw [List.getElem?_append_right (by omega), show P.length + 1 + Q.length - P.length = Q.length + 1 by omega, List.getElem?_cons_succ, List.getElem?_append_right (Nat.le_refl _), Nat.sub_self]; rfl

/-- Two ranges of like length, the first k places changed. -/
def swSt (pre A M B post : List α) (k : Nat) : List α := pre ++ B.take k ++ (A.drop k ++ M ++ A.take k ++ (B.drop k ++ post))
theorem swSt_zero (pre A M B post : List α) : swSt pre A M B post 0 = pre ++ A ++ M ++ B ++ post := by simp [swSt]
theorem swSt_end {pre A M B post : List α} {n : Nat} (hA : A.length = n) (hB : B.length = n) : swSt pre A M B post n = pre ++ B ++ M ++ A ++ post := by
  unfold swSt
  rw [List.take_of_length_le (by omega), List.drop_eq_nil_of_le (by omega), List.take_of_length_le (by omega), List.drop_eq_nil_of_le (by omega)]
  simp
theorem swSt_form {pre A M B post : List α} {k : Nat} (hA : k < A.length) (hB : k < B.length) : swSt pre A M B post k = (pre ++ B.take k) ++ A[k] :: ((A.drop (k + 1) ++ M ++ A.take k) ++ B[k] :: (B.drop (k + 1) ++ post)) := by
  unfold swSt
  rw [List.drop_eq_getElem_cons hA, List.drop_eq_getElem_cons hB]
  simp only [List.append_assoc, List.cons_append]
theorem swSt_next {pre A M B post : List α} {k : Nat} (hA : k < A.length) (hB : k < B.length) : swSt pre A M B post (k + 1) = (pre ++ B.take k) ++ B[k] :: ((A.drop (k + 1) ++ M ++ A.take k) ++ A[k] :: (B.drop (k + 1) ++ post)) := by
  unfold swSt
  rw [List.take_add_one, List.take_add_one, List.getElem?_eq_getElem hA, List.getElem?_eq_getElem hB]
  simp only [Option.toList_some, List.append_assoc, List.cons_append, List.nil_append]
theorem swSt_step {pre A M B post : List α} {k a b : Nat} (hA : k < A.length) (hB : k < B.length) (ha : pre.length = a) (hb : a + A.length + M.length = b) :
    (swSt pre A M B post k)[a + k]? = some A[k] ∧ (swSt pre A M B post k)[b + k]? = some B[k] ∧ ((swSt pre A M B post k).set (a + k) B[k]).set (b + k) A[k] = swSt pre A M B post (k + 1) := by
  have e1 : (pre ++ B.take k).length = a + k := by simp; omega
  have e2 : (pre ++ B.take k).length + 1 + (A.drop (k + 1) ++ M ++ A.take k).length = b + k := by simp; omega
  rw [swSt_form hA hB, swSt_next hA hB, ← e1, ← e2]
  exact ⟨at1, at2, swap2⟩

/-- An element on its way up: behind k of those that go ahead of it. -/
def upSt (x : α) (R : List α) (k : Nat) : List α := R.take k ++ x :: R.drop k
theorem upSt_zero (x : α) (R : List α) : upSt x R 0 = x :: R := by simp [upSt]
theorem upSt_step {x : α} {R pre post : List α} {k a : Nat} (h : k < R.length) (ha : pre.length = a) :
    (pre ++ upSt x R k ++ post)[a + k]? = some x ∧ (pre ++ upSt x R k ++ post)[a + k + 1]? = some R[k] ∧ ((pre ++ upSt x R k ++ post).set (a + k) R[k]).set (a + k + 1) x = pre ++ upSt x R (k + 1) ++ post := by
  have e0 : pre ++ upSt x R k ++ post = (pre ++ R.take k) ++ x :: (([] : List α) ++ R[k] :: (R.drop (k + 1) ++ post)) := by
    unfold upSt
    rw [List.drop_eq_getElem_cons h]; simp only [List.append_assoc, List.cons_append, List.nil_append]
  have e1 : (pre ++ R.take k).length = a + k := by simp; omega
  have e2 : pre ++ upSt x R (k + 1) ++ post = (pre ++ R.take k) ++ R[k] :: (([] : List α) ++ x :: (R.drop (k + 1) ++ post)) := by
    unfold upSt
    rw [List.take_add_one, List.getElem?_eq_getElem h]; simp only [Option.toList_some, List.append_assoc, List.cons_append, List.nil_append]
  rw [e0, e2, ← e1]
  have h2 := at2 (P := pre ++ R.take k) (Q := []) (x := x) (y := R[k]) (R := R.drop (k + 1) ++ post)
  have h3 := swap2 (P := pre ++ R.take k) (Q := []) (x := x) (y := R[k]) (R := R.drop (k + 1) ++ post)
  simp only [List.length_nil, Nat.add_zero] at h2 h3
  exact ⟨at1, h2, h3⟩

/-- Halving: what lies ahead of the place found, and behind it. -/
theorem asc_take (S : SW lt) {R : List α} {x : α} {k : Nat} (hR : Asc lt R) (hk : k ≤ R.length) (h : ∀ (h0 : 0 < k), lt (R[k - 1]'(by omega)) x = true) : ∀ y ∈ R.take k, lt y x = true := by
  intro y hy
  obtain ⟨i, hi, rfl⟩ := List.mem_take_iff_getElem.1 hy
  have hi' : i < k := by omega
  have h1 := h (by omega)
  by_cases e : i = k - 1
  · subst e; exact h1
  · have := List.pairwise_iff_getElem.1 hR i (k - 1) (by omega) (by omega) (by omega)
    rcases S.neg _ (R[i]) _ h1 with h2 | h2
    · rw [this] at h2; cases h2
    · exact h2
theorem asc_drop (S : SW lt) {R : List α} {x : α} {k : Nat} (hR : Asc lt R) (h : ∀ (h0 : k < R.length), lt R[k] x = false) : ∀ y ∈ R.drop k, lt y x = false := by
  intro y hy
  obtain ⟨i, hi, rfl⟩ := List.mem_drop_iff_getElem.1 hy
  have h1 := h (by omega)
  by_cases e : i = 0
  · subst e; simpa using h1
  · have := List.pairwise_iff_getElem.1 hR k (k + i) (by omega) (by omega) (by omega)
    exact le_trans' S (by simpa [Nat.add_comm] using h1) (by simpa [Nat.add_comm] using this)
theorem asc_take' (S : SW lt) {R : List α} {x : α} {k : Nat} (hR : Asc lt R) (hk : k ≤ R.length) (h : ∀ (h0 : 0 < k), lt x (R[k - 1]'(by omega)) = false) : ∀ y ∈ R.take k, lt x y = false := by
  intro y hy
  obtain ⟨i, hi, rfl⟩ := List.mem_take_iff_getElem.1 hy
  have hi' : i < k := by omega
  have h1 := h (by omega)
  by_cases e : i = k - 1
  · subst e; exact h1
  · have := List.pairwise_iff_getElem.1 hR i (k - 1) (by omega) (by omega) (by omega)
    exact le_trans' S this h1
theorem asc_drop' (S : SW lt) {R : List α} {x : α} {k : Nat} (hR : Asc lt R) (h : ∀ (h0 : k < R.length), lt x R[k] = true) : ∀ y ∈ R.drop k, lt x y = true := by
  intro y hy
  obtain ⟨i, hi, rfl⟩ := List.mem_drop_iff_getElem.1 hy
  have h1 := h (by omega)
  by_cases e : i = 0
  · subst e; simpa using h1
  · have := List.pairwise_iff_getElem.1 hR k (k + i) (by omega) (by omega) (by omega)
    rcases S.neg _ (R[k + i]) _ h1 with h2 | h2
    · simpa [Nat.add_comm] using h2
    · rw [this] at h2; cases h2

/-- One element merged ahead, one behind. -/
theorem mrg_one {x : α} {R : List α} {k : Nat} (h1 : ∀ y ∈ R.take k, lt y x = true) (h2 : ∀ y ∈ R.drop k, lt y x = false) : mrg lt [x] R = upSt x R k := by
  have := mrg_split (lt := lt) [] (R.take k) [x] (R.drop k) (by simp) (by simpa using h1)
  have h3 : mrg lt [x] (R.drop k) = [x] ++ R.drop k := mrg_ahead (by simpa using h2)
  rw [List.take_append_drop, List.nil_append, mrg_nil, h3] at this
  rw [this]; rfl
theorem mrg_last {x : α} {L : List α} {k : Nat} (h1 : ∀ y ∈ L.take k, lt x y = false) (h2 : ∀ y ∈ L.drop k, lt x y = true) : mrg lt L [x] = L.take k ++ x :: L.drop k := by
  have := mrg_split (lt := lt) (L.take k) [] (L.drop k) [x] (by simpa using h1) (by simp)
  have h3 : mrg lt (L.drop k) [x] = [x] ++ L.drop k := mrg_behind (by simpa using h2)
  rw [List.take_append_drop, List.nil_append, nil_mrg, h3] at this
  rw [this]; simp

/-- THE SYMMETRIC CUT. -/
theorem mrg_cut (S : SW lt) {L R : List α} {s e : Nat} (hL : Asc lt L) (hR : Asc lt R) (hs : s ≤ L.length) (he : e ≤ R.length)
    (h1 : ∀ (h0 : 0 < s) (h2 : e < R.length), lt R[e] (L[s - 1]'(by omega)) = false) (h2 : ∀ (h0 : 0 < e) (h2 : s < L.length), lt (R[e - 1]'(by omega)) L[s] = true) :
    mrg lt L R = mrg lt (L.take s) (R.take e) ++ mrg lt (L.drop s) (R.drop e) := by
  have := mrg_split (lt := lt) (L.take s) (R.take e) (L.drop s) (R.drop e) (fun x hx y hy => ?_) (fun x hx y hy => ?_)
  · rwa [List.take_append_drop, List.take_append_drop] at this
  · have hx0 : 0 < s := by
      rcases Nat.eq_zero_or_pos s with h | h
      · subst h; simp at hx
      · exact h
    have hy0 : e < R.length := by
      rcases Nat.lt_or_ge e R.length with h | h
      · exact h
      · rw [List.drop_eq_nil_of_le h] at hy; cases hy
    have k1 := h1 hx0 hy0
    have k2 : lt y (L[s - 1]'(by omega)) = false := asc_drop S hR (fun _ => k1) y hy
    obtain ⟨i, hi, rfl⟩ := List.mem_take_iff_getElem.1 hx
    by_cases q : i = s - 1
    · subst q; exact k2
    · have := List.pairwise_iff_getElem.1 hL i (s - 1) (by omega) (by omega) (by omega)
      exact le_trans' S this k2
  · have hx0 : s < L.length := by
      rcases Nat.lt_or_ge s L.length with h | h
      · exact h
      · rw [List.drop_eq_nil_of_le h] at hx; cases hx
    have hy0 : 0 < e := by
      rcases Nat.eq_zero_or_pos e with h | h
      · subst h; simp at hy
      · exact h
    have k1 := h2 hy0 hx0
    have k2 : lt y L[s] = true := asc_take S hR he (fun _ => k1) y hy
    obtain ⟨i, hi, rfl⟩ := List.mem_drop_iff_getElem.1 hx
    by_cases q : i = 0
    · subst q; simpa using k2
    · have := List.pairwise_iff_getElem.1 hL s (s + i) (by omega) (by omega) (by omega)
      rcases S.neg _ (L[s + i]) _ k2 with h | h
      · simpa [Nat.add_comm] using h
      · rw [this] at h; cases h

/-- Sorted block by block. -/
def bl (lt : α → α → Bool) (s : Nat) : Nat → List α → List α
  | 0, l => l
  | f + 1, l => if l.length ≤ s then srt lt l else srt lt (l.take s) ++ bl lt s f (l.drop s)
def blk (lt : α → α → Bool) (s : Nat) (l : List α) : List α := bl lt s (l.length + 1) l
theorem bl_fuel {s : Nat} (hs : 0 < s) : ∀ (f g : Nat) (l : List α), l.length < f → l.length < g → bl lt s f l = bl lt s g l
  | 0, _, _, h, _ => by omega
  | _, 0, _, _, h => by omega
  | f + 1, g + 1, l, h1, h2 => by
    unfold bl
    split
    · rfl
    · rw [bl_fuel hs f g (l.drop s) (by simp; omega) (by simp; omega)]
theorem blk_short {s : Nat} {l : List α} (h : l.length ≤ s) : blk lt s l = srt lt l := by
  unfold blk bl; rw [if_pos h]
theorem blk_long {s : Nat} {l : List α} (hs : 0 < s) (h : s < l.length) : blk lt s l = srt lt (l.take s) ++ blk lt s (l.drop s) := by
  unfold blk
  rw [bl, if_neg (by omega)]
  congr 1
  exact bl_fuel hs _ _ _ (by simp; omega) (by simp)
/-- A whole block, be it the last. -/
theorem blk_next {s : Nat} {l : List α} (hs : 0 < s) (h : s ≤ l.length) : blk lt s l = srt lt (l.take s) ++ blk lt s (l.drop s) := by
  rcases Nat.lt_or_ge s l.length with h1 | h1
  · exact blk_long hs h1
  · have h2 : l.drop s = [] := List.drop_eq_nil_of_le h1
    rw [blk_short h1, h2, List.take_of_length_le h1, blk_short (by simp), srt_nil, List.append_nil]
theorem blk_length {s : Nat} (hs : 0 < s) : ∀ (n : Nat) (l : List α), l.length ≤ n → (blk lt s l).length = l.length
  | 0, l, h => by
    rw [blk_short (by omega), srt_length]
  | n + 1, l, h => by
    rcases Nat.lt_or_ge s l.length with h1 | h1
    · rw [blk_long hs h1, List.length_append, srt_length, blk_length hs n (l.drop s) (by simp; omega)]
      simp; omega
    · rw [blk_short h1, srt_length]
theorem blk_len {s : Nat} (hs : 0 < s) (l : List α) : (blk lt s l).length = l.length := blk_length hs _ l (Nat.le_refl _)
/-- Two whole blocks side by side give one of twice the size. -/
theorem blk_two (S : SW lt) {s : Nat} {l : List α} (hs : 0 < s) (h : 2 * s ≤ l.length) :
    blk lt s l = srt lt (l.take s) ++ srt lt ((l.drop s).take s) ++ blk lt s (l.drop (2 * s)) ∧ mrg lt (srt lt (l.take s)) (srt lt ((l.drop s).take s)) = srt lt (l.take (2 * s)) := by
  constructor
  · rw [blk_next hs (by omega), blk_next hs (by simp; omega), List.drop_drop, ← List.append_assoc, show s + s = 2 * s by omega]
  · rw [srt_mrg S]
    congr 1
    rw [show 2 * s = s + s by omega, List.take_add]
/-- A whole block and a shorter one behind it. -/
theorem blk_rest (S : SW lt) {s : Nat} {l : List α} (hs : 0 < s) (h : s < l.length) (h2 : l.length ≤ 2 * s) :
    blk lt s l = srt lt (l.take s) ++ srt lt (l.drop s) ∧ mrg lt (srt lt (l.take s)) (srt lt (l.drop s)) = srt lt l := by
  constructor
  · rw [blk_long hs h, blk_short (l := l.drop s) (by simp; omega)]
  · rw [srt_mrg S, List.take_append_drop]
end

end Go.Proofs.Ytcncjedhpnaoaaa.Mg

namespace Go.Proofs.Ytcncjedhpnaoaaa.Mg
set_option linter.unusedVariables false
section
variable {α : Type} (lt : α → α → Bool)

/-- The comparisons of a merge. -/
def mcnt : List α → List α → Nat
  | [], _ => 0
  | _ :: _, [] => 0
  | x :: l, y :: r => 1 + if lt y x then mcnt (x :: l) r else mcnt l (y :: r)
termination_by l r => l.length + r.length
/-- Merge sort, and its comparisons. -/
def msF : Nat → List α → List α × Nat
  | 0, l => (l, 0)
  | f + 1, l => if l.length < 2 then (l, 0) else
    let a := msF f (l.take (l.length / 2))
    let b := msF f (l.drop (l.length / 2))
    (mrg lt a.1 b.1, a.2 + b.2 + mcnt lt a.1 b.1)
def ms (l : List α) : List α × Nat := msF lt l.length l
variable {lt}
end

end Go.Proofs.Ytcncjedhpnaoaaa.Mg

