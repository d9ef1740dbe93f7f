/- Several texts in one: lemmas and walks of the functions that the law reaches. -/

namespace Go.Proofs.Ytmgkdokaaoeobaa.Mg
set_option linter.unusedVariables false

structure SW {α : Type} (lt : α → α → Bool) : Prop where
  asym : ∀ a b, lt a b = true → lt b a = false
  trans : ∀ a b c, lt a b = true → lt b c = true → lt a c = true
  neg : ∀ a b c, lt a c = true → lt a b = true ∨ lt b c = true

def mrg {α : Type} (lt : α → α → Bool) (l r : List α) : List α := List.merge l r (fun x y => !lt y x)

section
variable {α : Type} {lt : α → α → Bool}

theorem mrg_nil (r : List α) : mrg lt [] r = r := by simp [mrg]
theorem nil_mrg (l : List α) : mrg lt l [] = l := by simp [mrg]
theorem mrg_cons (x : α) (l : List α) (y : α) (r : List α) : mrg lt (x :: l) (y :: r) = if lt y x then y :: mrg lt (x :: l) r else x :: mrg lt l (y :: r) := by
  unfold mrg
  rw [List.cons_merge_cons]
  cases lt y x <;> simp
theorem mrg_lt {x : α} {l : List α} {y : α} {r : List α} (h : lt y x = true) : mrg lt (x :: l) (y :: r) = y :: mrg lt (x :: l) r := by rw [mrg_cons, if_pos h]
theorem mrg_ge {x : α} {l : List α} {y : α} {r : List α} (h : lt y x = false) : mrg lt (x :: l) (y :: r) = x :: mrg lt l (y :: r) := by rw [mrg_cons, if_neg (by rw [h]; simp)]

theorem mrg_perm (l r : List α) : (mrg lt l r).Perm (l ++ r) := List.merge_perm_append _
theorem mrg_mem {l r : List α} {x : α} : x ∈ mrg lt l r ↔ x ∈ l ∨ x ∈ r := by rw [(mrg_perm l r).mem_iff, List.mem_append]
theorem mrg_length (l r : List α) : (mrg lt l r).length = l.length + r.length := by rw [(mrg_perm l r).length_eq, List.length_append]

/-- Both lists are cut in two, so that the earlier parts go ahead of the later ones. -/
theorem mrg_split : ∀ (L1 R1 L2 R2 : List α), (∀ x ∈ L1, ∀ y ∈ R2, lt y x = false) → (∀ x ∈ L2, ∀ y ∈ R1, lt y x = true) →
    mrg lt (L1 ++ L2) (R1 ++ R2) = mrg lt L1 R1 ++ mrg lt L2 R2
  | [], [], L2, R2, _, _ => by simp [mrg_nil]
  | [], y :: R1, L2, R2, h1, h2 => by
    have ih := mrg_split [] R1 L2 R2 (by simp) (fun x hx z hz => h2 x hx z (List.mem_cons_of_mem _ hz))
    simp only [List.nil_append, mrg_nil] at ih ⊢
    cases L2 with
    | nil => simp [mrg_nil]
    | cons x l =>
      rw [List.cons_append, mrg_lt (h2 x (by simp) y (by simp)), ih]; rfl
  | x :: L1, [], L2, R2, h1, h2 => by
    have ih := mrg_split L1 [] L2 R2 (fun z hz => h1 z (List.mem_cons_of_mem _ hz)) (by simp)
    simp only [List.nil_append, nil_mrg] at ih ⊢
    cases R2 with
    | nil => simp [nil_mrg]
    | cons y r =>
      rw [List.cons_append, mrg_ge (h1 x (by simp) y (by simp)), ih]; rfl
  | x :: L1, y :: R1, L2, R2, h1, h2 => by
    have ih1 := mrg_split (x :: L1) R1 L2 R2 h1 (fun z hz v hv => h2 z hz v (List.mem_cons_of_mem _ hv))
    have ih2 := mrg_split L1 (y :: R1) L2 R2 (fun z hz => h1 z (List.mem_cons_of_mem _ hz)) h2
    simp only [List.cons_append] at ih1 ih2 ⊢
    cases h : lt y x
    · rw [mrg_ge h, mrg_ge h, ih2]; rfl
    · rw [mrg_lt h, mrg_lt h, ih1]; rfl
termination_by L1 R1 => L1.length + R1.length

theorem mrg_assoc (S : SW lt) : ∀ (A B C : List α), mrg lt (mrg lt A B) C = mrg lt A (mrg lt B C)
  | [], B, C => by simp [mrg_nil]
  | a :: A, [], C => by simp [nil_mrg, mrg_nil]
  | a :: A, b :: B, [] => by simp [nil_mrg]
  | a :: A, b :: B, c :: C => by
    have i1 := mrg_assoc S (a :: A) (b :: B) C
    have i2 := mrg_assoc S (a :: A) B (c :: C)
    have i3 := mrg_assoc S A (b :: B) (c :: C)
    cases h1 : lt b a
    · cases h2 : lt c b
      · have h3 : lt c a = false := by
          cases h3 : lt c a
          · rfl
          · rcases S.neg c b a h3 with h | h
            · rw [h2] at h; cases h
            · rw [h1] at h; cases h
        rw [mrg_ge h1, mrg_ge h2, mrg_ge h3, mrg_ge h1, i3, mrg_ge h2]
      · cases h3 : lt c a
        · rw [mrg_ge h1, mrg_lt h2, mrg_ge h3, mrg_ge h3, i3, mrg_lt h2]
        · rw [mrg_lt h2, mrg_lt h3, ← i1, mrg_ge h1, mrg_lt h3]
    · cases h2 : lt c b
      · rw [mrg_lt h1, mrg_ge h2, mrg_ge h2, mrg_lt h1, i2]
      · have h3 := S.trans _ _ _ h2 h1
        rw [mrg_lt h1, mrg_lt h2, mrg_lt h2, mrg_lt h3, ← i1, mrg_lt h1]
termination_by A B C => A.length + B.length + C.length

def Asc (lt : α → α → Bool) (l : List α) : Prop := l.Pairwise fun x y => lt y x = false
theorem asc_nil : Asc lt [] := List.Pairwise.nil
theorem asc_one (x : α) : Asc lt [x] := by simp [Asc]

theorem asc_cons {x : α} {l : List α} : Asc lt (x :: l) ↔ (∀ y ∈ l, lt y x = false) ∧ Asc lt l := by simp [Asc]
theorem asc_append {l r : List α} : Asc lt (l ++ r) ↔ Asc lt l ∧ Asc lt r ∧ ∀ x ∈ l, ∀ y ∈ r, lt y x = false := by simp [Asc, List.pairwise_append]

/-- Only what stands side by side need be looked at. -/
theorem le_trans' (S : SW lt) {a b c : α} (h1 : lt b a = false) (h2 : lt c b = false) : lt c a = false := by
  cases h3 : lt c a
  · rfl
  · rcases S.neg c b a h3 with h | h
    · rw [h2] at h; cases h
    · rw [h1] at h; cases h

theorem mrg_asc (S : SW lt) : ∀ {l r : List α}, Asc lt l → Asc lt r → Asc lt (mrg lt l r)
  | [], r, _, hr => by rw [mrg_nil]; exact hr
  | x :: l, [], hl, _ => by rw [nil_mrg]; exact hl
  | x :: l, y :: r, hl, hr => by
    cases h : lt y x
    · rw [mrg_ge h, asc_cons]
      refine ⟨fun z hz => ?_, mrg_asc S (asc_cons.1 hl).2 hr⟩
      rcases mrg_mem.1 hz with hz | hz
      · exact (asc_cons.1 hl).1 z hz
      · rcases List.mem_cons.1 hz with rfl | hz
        · exact h
        · exact le_trans' S h ((asc_cons.1 hr).1 z hz)
    · rw [mrg_lt h, asc_cons]
      refine ⟨fun z hz => ?_, mrg_asc S hl (asc_cons.1 hr).2⟩
      rcases mrg_mem.1 hz with hz | hz
      · rcases List.mem_cons.1 hz with rfl | hz
        · exact S.asym _ _ h
        · exact le_trans' S (S.asym _ _ h) ((asc_cons.1 hl).1 z hz)
      · exact (asc_cons.1 hr).1 z hz
termination_by l r => l.length + r.length

/-- Where all of l goes ahead of all of r. -/
theorem mrg_ahead {l r : List α} (h : ∀ x ∈ l, ∀ y ∈ r, lt y x = false) : mrg lt l r = l ++ r := by
  have := mrg_split (lt := lt) l [] [] r h (by simp)
  simpa [nil_mrg, mrg_nil] using this
/-- Where all of r goes ahead of all of l. -/
theorem mrg_behind {l r : List α} (h : ∀ x ∈ l, ∀ y ∈ r, lt y x = true) : mrg lt l r = r ++ l := by
  have := mrg_split (lt := lt) [] r l [] (by simp) h
  simpa [nil_mrg, mrg_nil] using this

/-- THE STABLE SORT: element after element merged in. -/
def srt (lt : α → α → Bool) (l : List α) : List α := l.foldl (fun acc x => mrg lt acc [x]) []

theorem srt_snoc (l : List α) (x : α) : srt lt (l ++ [x]) = mrg lt (srt lt l) [x] := by simp [srt]
theorem srt_nil : srt lt [] = [] := rfl
theorem srt_one (x : α) : srt lt [x] = [x] := by simp [srt, mrg_nil]

theorem list_snoc {P : List α → Prop} (h0 : P []) (h1 : ∀ l x, P l → P (l ++ [x])) (l : List α) : P l := by
  have : ∀ n (l : List α), l.length = n → P l := by
    intro n
    induction n with
    | zero => intro l hl; rw [List.eq_nil_of_length_eq_zero hl]; exact h0
    | succ n ih =>
      intro l hl
      have hne : l ≠ [] := by intro e; rw [e] at hl; simp at hl
      rw [← List.dropLast_concat_getLast hne]
      exact h1 _ _ (ih _ (by simp [hl]))
  exact this _ l rfl

theorem srt_append (S : SW lt) (a b : List α) : srt lt (a ++ b) = mrg lt (srt lt a) (srt lt b) := by
  refine list_snoc (P := fun b => srt lt (a ++ b) = mrg lt (srt lt a) (srt lt b)) ?_ ?_ b
  · rw [List.append_nil, srt_nil, nil_mrg]
  · intro l x ih
    rw [← List.append_assoc, srt_snoc, srt_snoc, ih, mrg_assoc S]

theorem srt_perm (l : List α) : (srt lt l).Perm l := by
  refine list_snoc (P := fun l => (srt lt l).Perm l) (by rw [srt_nil]) ?_ l
  intro l x ih
  rw [srt_snoc]
  exact (mrg_perm _ _).trans (ih.append_right [x])
theorem srt_length (l : List α) : (srt lt l).length = l.length := (srt_perm l).length_eq
theorem srt_mem {l : List α} {x : α} : x ∈ srt lt l ↔ x ∈ l := (srt_perm l).mem_iff

theorem srt_asc (S : SW lt) (l : List α) : Asc lt (srt lt l) := by
  refine list_snoc (P := fun l => Asc lt (srt lt l)) asc_nil ?_ l
  intro l x ih
  rw [srt_snoc]; exact mrg_asc S ih (asc_one x)

theorem srt_mrg (S : SW lt) (a b : List α) : mrg lt (srt lt a) (srt lt b) = srt lt (a ++ b) := (srt_append S a b).symm
/-- One element on its way down. -/
theorem mrg_down {A B : List α} {x : α} (h : ∀ b ∈ B, lt x b = true) : mrg lt (A ++ B) [x] = mrg lt A [x] ++ B := by
  have := mrg_split (lt := lt) A [x] B [] (by simp) (by simpa using h)
  simpa [nil_mrg] using this
theorem mrg_stop {A : List α} {x : α} (h : ∀ a ∈ A, lt x a = false) : mrg lt A [x] = A ++ [x] := mrg_ahead (by simpa using h)

end

/-! ### by an integer key -/
def ltK {α : Type} (key : α → Int) (a b : α) : Bool := decide (key a < key b)
theorem swK {α : Type} (key : α → Int) : SW (ltK key) :=
  ⟨fun a b h => by simp only [ltK, decide_eq_true_eq, decide_eq_false_iff_not] at *; omega, fun a b c h1 h2 => by simp only [ltK, decide_eq_true_eq] at *; omega,
   fun a b c h => by simp only [ltK, decide_eq_true_eq] at *; omega⟩

end Go.Proofs.Ytmgkdokaaoeobaa.Mg

namespace Go.Proofs.Ytmgkdokaaoeobaa.Mg
set_option linter.unusedVariables false
section
variable {α : Type} {lt : α → α → Bool}

/-- x stands at place k of A, R behind. -/
def insSt (A : List α) (x : α) (k : Nat) (R : List α) : List α := A.take k ++ x :: (A.drop k ++ R)

theorem insSt_len {A : List α} {x : α} {k : Nat} {R : List α} (hk : k ≤ A.length) : (insSt A x k R).length = A.length + 1 + R.length := by
  unfold insSt
  simp only [List.length_append, List.length_cons, List.length_take, List.length_drop]
  omega
theorem insSt_top (A : List α) (x : α) (R : List α) : insSt A x A.length R = A ++ x :: R := by
  unfold insSt; simp
theorem insSt_at {A : List α} {x : α} {k : Nat} {R : List α} (hk : k ≤ A.length) : (insSt A x k R)[k]? = some x := by
  unfold insSt
  rw [List.getElem?_append_right (by rw [List.length_take]; omega), List.length_take, show k - min k A.length = 0 by omega]
  rfl
theorem insSt_before {A : List α} {x : α} {k : Nat} {R : List α} (hk : k < A.length) : (insSt A x (k + 1) R)[k]? = some A[k] := by
  unfold insSt
  rw [List.getElem?_append_left (by rw [List.length_take]; omega), List.getElem?_take_of_lt (by omega), List.getElem?_eq_getElem hk]
theorem insSt_step {A : List α} {x : α} {k : Nat} {R : List α} (hk : k < A.length) : ((insSt A x (k + 1) R).set k x).set (k + 1) A[k] = insSt A x k R := by
  unfold insSt
  have h1 : A.take (k + 1) = A.take k ++ [A[k]] := by rw [List.take_add_one, List.getElem?_eq_getElem hk]; rfl
  have h2 : A.drop k = A[k] :: A.drop (k + 1) := List.drop_eq_getElem_cons hk
  have hl : (A.take k).length = k := by rw [List.length_take]; omega
  rw [h1, h2, List.append_assoc, List.set_append, if_neg (by omega), hl, Nat.sub_self, List.set_append, if_neg (by omega), hl, show k + 1 - k = 1 by omega]
  rfl
theorem insSt_end (S : SW lt) {A : List α} {x : α} {k : Nat} {R : List α} (hA : Asc lt A) (hk : k ≤ A.length) (hd : ∀ b ∈ A.drop k, lt x b = true) (hs : ∀ (h : 0 < k), lt x (A[k - 1]'(by omega)) = false) :
    insSt A x k R = mrg lt A [x] ++ R := by
  have h1 : mrg lt A [x] = mrg lt (A.take k) [x] ++ A.drop k := by
    have := mrg_down (lt := lt) (A := A.take k) (B := A.drop k) (x := x) hd
    rwa [List.take_append_drop] at this
  have h2 : mrg lt (A.take k) [x] = A.take k ++ [x] := by
    apply mrg_stop
    intro a ha
    obtain ⟨i, hi, rfl⟩ := List.mem_take_iff_getElem.1 ha
    have hi' : i < k := by omega
    have hs' := hs (by omega)
    by_cases e : i = k - 1
    · subst e; exact hs'
    · have := List.pairwise_iff_getElem.1 hA i (k - 1) (by omega) (by omega) (by omega)
      exact le_trans' S this hs'
  unfold insSt
  rw [h1, h2]
  simp
/-- One item more that has its place. -/
theorem insSt_srt (S : SW lt) {l : List α} {x : α} {k : Nat} {R : List α} (hk : k ≤ (srt lt l).length) (hd : ∀ b ∈ (srt lt l).drop k, lt x b = true) (hs : ∀ (h : 0 < k), lt x ((srt lt l)[k - 1]'(by omega)) = false) :
    insSt (srt lt l) x k R = srt lt (l ++ [x]) ++ R := by
  rw [insSt_end S (srt_asc S l) hk hd hs, srt_snoc]

end
end Go.Proofs.Ytmgkdokaaoeobaa.Mg

namespace Go.Proofs.Ytmgkdokaaoeobaa.Mg
set_option linter.unusedVariables false
section
variable {α : Type} {lt : α → α → Bool}

/-- Two elements change places. -/
theorem swap2 {P Q R : List α} {x y : α} : ((P ++ x :: (Q ++ y :: R)).set P.length y).set (P.length + 1 + Q.length) x = P ++ y :: (Q ++ x :: R) := by
  rw [List.set_append_right _ _ (Nat.le_refl _), Nat.sub_self, List.set_cons_zero]
  rw [List.set_append_right _ _ (by omega), show P.length + 1 + Q.length - P.length = Q.length + 1 by omega, List.set_cons_succ]
  rw [List.set_append_right _ _ (Nat.le_refl _), Nat.sub_self, List.set_cons_zero]
theorem at1 {P Q R : List α} {x y : α} : (P ++ x :: (Q ++ y :: R))[P.length]? = some x := by
  rw [List.getElem?_append_right (Nat.le_refl _), Nat.sub_self]; rfl
theorem at2 {P Q R : List α} {x y : α} : (P ++ x :: (Q ++ y :: R))[P.length + 1 + Q.length]? = some y := by
  rw [List.getElem?_append_right (by omega), show P.length + 1 + Q.length - P.length = Q.length + 1 by omega, List.getElem?_cons_succ, List.getElem?_append_right (Nat.le_refl _), Nat.sub_self]; rfl

/-- Two ranges of like length, the first k places changed. -/
def swSt (pre A M B post : List α) (k : Nat) : List α := pre ++ B.take k ++ (A.drop k ++ M ++ A.take k ++ (B.drop k ++ post))
theorem swSt_zero (pre A M B post : List α) : swSt pre A M B post 0 = pre ++ A ++ M ++ B ++ post := by simp [swSt]
theorem swSt_end {pre A M B post : List α} {n : Nat} (hA : A.length = n) (hB : B.length = n) : swSt pre A M B post n = pre ++ B ++ M ++ A ++ post := by
  unfold swSt
  rw [List.take_of_length_le (by omega), List.drop_eq_nil_of_le (by omega), List.take_of_length_le (by omega), List.drop_eq_nil_of_le (by omega)]
  simp
theorem swSt_form {pre A M B post : List α} {k : Nat} (hA : k < A.length) (hB : k < B.length) : swSt pre A M B post k = (pre ++ B.take k) ++ A[k] :: ((A.drop (k + 1) ++ M ++ A.take k) ++ B[k] :: (B.drop (k + 1) ++ post)) := by
  unfold swSt
  rw [List.drop_eq_getElem_cons hA, List.drop_eq_getElem_cons hB]
  simp only [List.append_assoc, List.cons_append]
theorem swSt_next {pre A M B post : List α} {k : Nat} (hA : k < A.length) (hB : k < B.length) : swSt pre A M B post (k + 1) = (pre ++ B.take k) ++ B[k] :: ((A.drop (k + 1) ++ M ++ A.take k) ++ A[k] :: (B.drop (k + 1) ++ post)) := by
  unfold swSt
  rw [List.take_add_one, List.take_add_one, List.getElem?_eq_getElem hA, List.getElem?_eq_getElem hB]
  simp only [Option.toList_some, List.append_assoc, List.cons_append, List.nil_append]
theorem swSt_step {pre A M B post : List α} {k a b : Nat} (hA : k < A.length) (hB : k < B.length) (ha : pre.length = a) (hb : a + A.length + M.length = b) :
    (swSt pre A M B post k)[a + k]? = some A[k] ∧ (swSt pre A M B post k)[b + k]? = some B[k] ∧ ((swSt pre A M B post k).set (a + k) B[k]).set (b + k) A[k] = swSt pre A M B post (k + 1) := by
  have e1 : (pre ++ B.take k).length = a + k := by simp; omega
  have e2 : (pre ++ B.take k).length + 1 + (A.drop (k + 1) ++ M ++ A.take k).length = b + k := by simp; omega
  rw [swSt_form hA hB, swSt_next hA hB, ← e1, ← e2]
  exact ⟨at1, at2, swap2⟩

/-- An element on its way up: behind k of those that go ahead of it. -/
def upSt (x : α) (R : List α) (k : Nat) : List α := R.take k ++ x :: R.drop k
theorem upSt_zero (x : α) (R : List α) : upSt x R 0 = x :: R := by simp [upSt]
theorem upSt_step {x : α} {R pre post : List α} {k a : Nat} (h : k < R.length) (ha : pre.length = a) :
    (pre ++ upSt x R k ++ post)[a + k]? = some x ∧ (pre ++ upSt x R k ++ post)[a + k + 1]? = some R[k] ∧ ((pre ++ upSt x R k ++ post).set (a + k) R[k]).set (a + k + 1) x = pre ++ upSt x R (k + 1) ++ post := by
  have e0 : pre ++ upSt x R k ++ post = (pre ++ R.take k) ++ x :: (([] : List α) ++ R[k] :: (R.drop (k + 1) ++ post)) := by
    unfold upSt
    rw [List.drop_eq_getElem_cons h]; simp only [List.append_assoc, List.cons_append, List.nil_append]
  have e1 : (pre ++ R.take k).length = a + k := by simp; omega
  have e2 : pre ++ upSt x R (k + 1) ++ post = (pre ++ R.take k) ++ R[k] :: (([] : List α) ++ x :: (R.drop (k + 1) ++ post)) := by
    unfold upSt
    rw [List.take_add_one, List.getElem?_eq_getElem h]; simp only [Option.toList_some, List.append_assoc, List.cons_append, List.nil_append]
  rw [e0, e2, ← e1]
  have h2 := at2 (P := pre ++ R.take k) (Q := []) (x := x) (y := R[k]) (R := R.drop (k + 1) ++ post)
  have h3 := swap2 (P := pre ++ R.take k) (Q := []) (x := x) (y := R[k]) (R := R.drop (k + 1) ++ post)
  simp only [List.length_nil, Nat.add_zero] at h2 h3
  exact ⟨at1, h2, h3⟩

/-- Halving: what lies ahead of the place found, and behind it. -/
theorem asc_take (S : SW lt) {R : List α} {x : α} {k : Nat} (hR : Asc lt R) (hk : k ≤ R.length) (h : ∀ (h0 : 0 < k), lt (R[k - 1]'(by omega)) x = true) : ∀ y ∈ R.take k, lt y x = true := by
  intro y hy
  obtain ⟨i, hi, rfl⟩ := List.mem_take_iff_getElem.1 hy
  have hi' : i < k := by omega
  have h1 := h (by omega)
  by_cases e : i = k - 1
  · subst e; exact h1
  · have := List.pairwise_iff_getElem.1 hR i (k - 1) (by omega) (by omega) (by omega)
    rcases S.neg _ (R[i]) _ h1 with h2 | h2
    · rw [this] at h2; cases h2
    · exact h2
theorem asc_drop (S : SW lt) {R : List α} {x : α} {k : Nat} (hR : Asc lt R) (h : ∀ (h0 : k < R.length), lt R[k] x = false) : ∀ y ∈ R.drop k, lt y x = false := by
  intro y hy
  obtain ⟨i, hi, rfl⟩ := List.mem_drop_iff_getElem.1 hy
  have h1 := h (by omega)
  by_cases e : i = 0
  · subst e; simpa using h1
  · have := List.pairwise_iff_getElem.1 hR k (k + i) (by omega) (by omega) (by omega)
    exact le_trans' S (by simpa [Nat.add_comm] using h1) (by simpa [Nat.add_comm] using this)
theorem asc_take' (S : SW lt) {R : List α} {x : α} {k : Nat} (hR : Asc lt R) (hk : k ≤ R.length) (h : ∀ (h0 : 0 < k), lt x (R[k - 1]'(by omega)) = false) : ∀ y ∈ R.take k, lt x y = false := by
  intro y hy
  obtain ⟨i, hi, rfl⟩ := List.mem_take_iff_getElem.1 hy
  have hi' : i < k := by omega
  have h1 := h (by omega)
  by_cases e : i = k - 1
  · subst e; exact h1
  · have := List.pairwise_iff_getElem.1 hR i (k - 1) (by omega) (by omega) (by omega)
    exact le_trans' S this h1
theorem asc_drop' (S : SW lt) {R : List α} {x : α} {k : Nat} (hR : Asc lt R) (h : ∀ (h0 : k < R.length), lt x R[k] = true) : ∀ y ∈ R.drop k, lt x y = true := by
  intro y hy
  obtain ⟨i, hi, rfl⟩ := List.mem_drop_iff_getElem.1 hy
  have h1 := h (by omega)
  by_cases e : i = 0
  · subst e; simpa using h1
  · have := List.pairwise_iff_getElem.1 hR k (k + i) (by omega) (by omega) (by omega)
    rcases S.neg _ (R[k + i]) _ h1 with h2 | h2
    · simpa [Nat.add_comm] using h2
    · rw [this] at h2; cases h2

/-- One element merged ahead, one behind. -/
theorem mrg_one {x : α} {R : List α} {k : Nat} (h1 : ∀ y ∈ R.take k, lt y x = true) (h2 : ∀ y ∈ R.drop k, lt y x = false) : mrg lt [x] R = upSt x R k := by
  have := mrg_split (lt := lt) [] (R.take k) [x] (R.drop k) (by simp) (by simpa using h1)
  have h3 : mrg lt [x] (R.drop k) = [x] ++ R.drop k := mrg_ahead (by simpa using h2)
  rw [List.take_append_drop, List.nil_append, mrg_nil, h3] at this
  rw [this]; rfl
theorem mrg_last {x : α} {L : List α} {k : Nat} (h1 : ∀ y ∈ L.take k, lt x y = false) (h2 : ∀ y ∈ L.drop k, lt x y = true) : mrg lt L [x] = L.take k ++ x :: L.drop k := by
  have := mrg_split (lt := lt) (L.take k) [] (L.drop k) [x] (by simpa using h1) (by simp)
  have h3 : mrg lt (L.drop k) [x] = [x] ++ L.drop k := mrg_behind (by simpa using h2)
  rw [List.take_append_drop, List.nil_append, nil_mrg, h3] at this
  rw [this]; simp

/-- THE SYMMETRIC CUT. -/
theorem mrg_cut (S : SW lt) {L R : List α} {s e : Nat} (hL : Asc lt L) (hR : Asc lt R) (hs : s ≤ L.length) (he : e ≤ R.length)
    (h1 : ∀ (h0 : 0 < s) (h2 : e < R.length), lt R[e] (L[s - 1]'(by omega)) = false) (h2 : ∀ (h0 : 0 < e) (h2 : s < L.length), lt (R[e - 1]'(by omega)) L[s] = true) :
    mrg lt L R = mrg lt (L.take s) (R.take e) ++ mrg lt (L.drop s) (R.drop e) := by
  have := mrg_split (lt := lt) (L.take s) (R.take e) (L.drop s) (R.drop e) (fun x hx y hy => ?_) (fun x hx y hy => ?_)
  · rwa [List.take_append_drop, List.take_append_drop] at this
  · have hx0 : 0 < s := by
      rcases Nat.eq_zero_or_pos s with h | h
      · subst h; simp at hx
      · exact h
    have hy0 : e < R.length := by
      rcases Nat.lt_or_ge e R.length with h | h
      · exact h
      · rw [List.drop_eq_nil_of_le h] at hy; cases hy
    have k1 := h1 hx0 hy0
    have k2 : lt y (L[s - 1]'(by omega)) = false := asc_drop S hR (fun _ => k1) y hy
    obtain ⟨i, hi, rfl⟩ := List.mem_take_iff_getElem.1 hx
    by_cases q : i = s - 1
    · subst q; exact k2
    · have := List.pairwise_iff_getElem.1 hL i (s - 1) (by omega) (by omega) (by omega)
      exact le_trans' S this k2
  · have hx0 : s < L.length := by
      rcases Nat.lt_or_ge s L.length with h | h
      · exact h
      · rw [List.drop_eq_nil_of_le h] at hx; cases hx
    have hy0 : 0 < e := by
      rcases Nat.eq_zero_or_pos e with h | h
      · subst h; simp at hy
      · exact h
    have k1 := h2 hy0 hx0
    have k2 : lt y L[s] = true := asc_take S hR he (fun _ => k1) y hy
    obtain ⟨i, hi, rfl⟩ := List.mem_drop_iff_getElem.1 hx
    by_cases q : i = 0
    · subst q; simpa using k2
    · have := List.pairwise_iff_getElem.1 hL s (s + i) (by omega) (by omega) (by omega)
      rcases S.neg _ (L[s + i]) _ k2 with h | h
      · simpa [Nat.add_comm] using h
      · rw [this] at h; cases h

/-- Sorted block by block. -/
def bl (lt : α → α → Bool) (s : Nat) : Nat → List α → List α
  | 0, l => l
  | f + 1, l => if l.length ≤ s then srt lt l else srt lt (l.take s) ++ bl lt s f (l.drop s)
def blk (lt : α → α → Bool) (s : Nat) (l : List α) : List α := bl lt s (l.length + 1) l
theorem bl_fuel {s : Nat} (hs : 0 < s) : ∀ (f g : Nat) (l : List α), l.length < f → l.length < g → bl lt s f l = bl lt s g l
  | 0, _, _, h, _ => by omega
  | _, 0, _, _, h => by omega
  | f + 1, g + 1, l, h1, h2 => by
    unfold bl
    split
    · rfl
    · rw [bl_fuel hs f g (l.drop s) (by simp; omega) (by simp; omega)]
theorem blk_short {s : Nat} {l : List α} (h : l.length ≤ s) : blk lt s l = srt lt l := by
  unfold blk bl; rw [if_pos h]
theorem blk_long {s : Nat} {l : List α} (hs : 0 < s) (h : s < l.length) : blk lt s l = srt lt (l.take s) ++ blk lt s (l.drop s) := by
  unfold blk
  rw [bl, if_neg (by omega)]
  congr 1
  exact bl_fuel hs _ _ _ (by simp; omega) (by simp)
/-- A whole block, be it the last. -/
theorem blk_next {s : Nat} {l : List α} (hs : 0 < s) (h : s ≤ l.length) : blk lt s l = srt lt (l.take s) ++ blk lt s (l.drop s) := by
  rcases Nat.lt_or_ge s l.length with h1 | h1
  · exact blk_long hs h1
  · have h2 : l.drop s = [] := List.drop_eq_nil_of_le h1
    rw [blk_short h1, h2, List.take_of_length_le h1, blk_short (by simp), srt_nil, List.append_nil]
theorem blk_length {s : Nat} (hs : 0 < s) : ∀ (n : Nat) (l : List α), l.length ≤ n → (blk lt s l).length = l.length
  | 0, l, h => by
    rw [blk_short (by omega), srt_length]
  | n + 1, l, h => by
    rcases Nat.lt_or_ge s l.length with h1 | h1
    · rw [blk_long hs h1, List.length_append, srt_length, blk_length hs n (l.drop s) (by simp; omega)]
      simp; omega
    · rw [blk_short h1, srt_length]
theorem blk_len {s : Nat} (hs : 0 < s) (l : List α) : (blk lt s l).length = l.length := blk_length hs _ l (Nat.le_refl _)
/-- Two whole blocks side by side give one of twice the size. -/
theorem blk_two (S : SW lt) {s : Nat} {l : List α} (hs : 0 < s) (h : 2 * s ≤ l.length) :
    blk lt s l = srt lt (l.take s) ++ srt lt ((l.drop s).take s) ++ blk lt s (l.drop (2 * s)) ∧ mrg lt (srt lt (l.take s)) (srt lt ((l.drop s).take s)) = srt lt (l.take (2 * s)) := by
  constructor
  · rw [blk_next hs (by omega), blk_next hs (by simp; omega), List.drop_drop, ← List.append_assoc, show s + s = 2 * s by omega]
  · rw [srt_mrg S]
    congr 1
    rw [show 2 * s = s + s by omega, List.take_add]
/-- A whole block and a shorter one behind it. -/
theorem blk_rest (S : SW lt) {s : Nat} {l : List α} (hs : 0 < s) (h : s < l.length) (h2 : l.length ≤ 2 * s) :
    blk lt s l = srt lt (l.take s) ++ srt lt (l.drop s) ∧ mrg lt (srt lt (l.take s)) (srt lt (l.drop s)) = srt lt l := by
  constructor
  · rw [blk_long hs h, blk_short (l := l.drop s) (by simp; omega)]
  · rw [srt_mrg S, List.take_append_drop]
end

end Go.Proofs.Ytmgkdokaaoeobaa.Mg

namespace Go.Proofs.Ytmgkdokaaoeobaa.Mg
set_option linter.unusedVariables false
variable {α : Type} (key : α → Int) (op : α → α → α)

/-- What joining two groups must keep. -/
structure JoinOp : Prop where
  key_op : ∀ a b, key a = key b → key (op a b) = key a
  assoc : ∀ a b c, key a = key b → key b = key c → op (op a b) c = op a (op b c)

/-- All groups of a key, joined in order. -/
def red : List α → Option α
  | [] => none
  | x :: r => some (r.foldl op x)
def comb (κ : Int) (l : List α) : Option α := red op (l.filter fun a => key a = κ)
def jStep (acc : List α) (g : α) : List α := match acc.getLast? with
  | some h => if key h = key g then acc.dropLast ++ [op h g] else acc ++ [g]
  | none => [g]
def jn (l : List α) : List α := l.foldl (jStep key op) []
def Strict (l : List α) : Prop := l.Pairwise fun a b => key a < key b

theorem foldl_assoc {op : α → α → α} {P : α → Prop} (hop : ∀ a b, P a → P b → P (op a b)) (has : ∀ a b c, P a → P b → P c → op (op a b) c = op a (op b c)) : ∀ (l : List α) (x y : α), P x → P y → (∀ z ∈ l, P z) → l.foldl op (op x y) = op x (l.foldl op y)
  | [], x, y, _, _, _ => rfl
  | z :: l, x, y, hx, hy, hl => by
    have hz := hl z (by simp)
    rw [List.foldl_cons, List.foldl_cons, has x y z hx hy hz]
    exact foldl_assoc hop has l x (op y z) hx (hop y z hy hz) (fun u hu => hl u (List.mem_cons_of_mem _ hu))
theorem foldl_P {op : α → α → α} {P : α → Prop} (hop : ∀ a b, P a → P b → P (op a b)) : ∀ (l : List α) (x : α), P x → (∀ z ∈ l, P z) → P (l.foldl op x)
  | [], x, hx, _ => hx
  | z :: l, x, hx, hl => foldl_P hop l _ (hop x z hx (hl z (by simp))) (fun u hu => hl u (List.mem_cons_of_mem _ hu))
/-- Joined in two parts. -/
def optOp : Option α → Option α → Option α
  | none, b => b
  | some a, none => some a
  | some a, some b => some (op a b)
variable {key op}
theorem hopJ (J : JoinOp key op) (κ : Int) : ∀ a b, key a = κ → key b = κ → key (op a b) = κ := fun a b h1 h2 => by rw [J.key_op a b (by rw [h1, h2]), h1]
theorem hasJ (J : JoinOp key op) (κ : Int) : ∀ a b c, key a = κ → key b = κ → key c = κ → op (op a b) c = op a (op b c) := fun a b c h1 h2 h3 => J.assoc a b c (by rw [h1, h2]) (by rw [h2, h3])
theorem comb_append (J : JoinOp key op) (κ : Int) (a b : List α) : comb key op κ (a ++ b) = optOp op (comb key op κ a) (comb key op κ b) := by
  unfold comb
  rw [List.filter_append]
  have ha : ∀ z ∈ a.filter (fun a => decide (key a = κ)), key z = κ := fun z hz => by simpa using (List.mem_filter.1 hz).2
  have hb : ∀ z ∈ b.filter (fun a => decide (key a = κ)), key z = κ := fun z hz => by simpa using (List.mem_filter.1 hz).2
  generalize a.filter (fun a => decide (key a = κ)) = A at ha
  generalize b.filter (fun a => decide (key a = κ)) = B at hb
  cases A with
  | nil => rfl
  | cons x A =>
    cases B with
    | nil => simp [red, optOp]
    | cons y B =>
      simp only [red, optOp, List.cons_append, List.foldl_append, List.foldl_cons]
      congr 1
      have hx := ha x (by simp)
      have hA := foldl_P (P := fun z => key z = κ) (hopJ J κ) A x hx (fun z hz => ha z (List.mem_cons_of_mem _ hz))
      exact foldl_assoc (P := fun z => key z = κ) (hopJ J κ) (hasJ J κ) B _ y hA (hb y (by simp)) (fun z hz => hb z (List.mem_cons_of_mem _ hz))
theorem comb_one (κ : Int) (x : α) : comb key op κ [x] = if key x = κ then some x else none := by
  unfold comb
  rw [List.filter_cons]
  by_cases h : key x = κ
  · simp [h, red]
  · simp [h, red]
theorem optOp_assoc_one (J : JoinOp key op) {κ : Int} {o : Option α} {h g : α} (ho : ∀ z, o = some z → key z = κ) (h1 : key h = κ) (h2 : key g = κ) : optOp op (optOp op o (some h)) (some g) = optOp op o (some (op h g)) := by
  cases o with
  | none => rfl
  | some z => simp only [optOp]; rw [hasJ J κ z h g (ho z rfl) h1 h2]
theorem comb_key (J : JoinOp key op) {κ : Int} {l : List α} {z : α} (h : comb key op κ l = some z) : key z = κ := by
  unfold comb at h
  have hl : ∀ z ∈ l.filter (fun a => decide (key a = κ)), key z = κ := fun z hz => by simpa using (List.mem_filter.1 hz).2
  generalize l.filter (fun a => decide (key a = κ)) = L at h hl
  cases L with
  | nil => cases h
  | cons x L =>
    simp only [red, Option.some.injEq] at h
    rw [← h]
    exact foldl_P (P := fun z => key z = κ) (hopJ J κ) L x (hl x (by simp)) (fun z hz => hl z (List.mem_cons_of_mem _ hz))
theorem last_split {l : List α} {h : α} (e : l.getLast? = some h) : l = l.dropLast ++ [h] := by
  have hne : l ≠ [] := fun e' => by rw [e'] at e; cases e
  have h2 := List.dropLast_concat_getLast hne
  rw [List.getLast?_eq_some_getLast hne] at e
  rw [← Option.some.inj e]; exact h2.symm
theorem jStep_comb (J : JoinOp key op) (κ : Int) (acc : List α) (g : α) : comb key op κ (jStep key op acc g) = comb key op κ (acc ++ [g]) := by
  unfold jStep
  cases e : acc.getLast? with
  | none =>
    have : acc = [] := List.getLast?_eq_none_iff.1 e
    subst this; rfl
  | some h =>
    simp only
    split
    · rename_i hk
      have hs := last_split e
      generalize acc.dropLast = I at hs ⊢
      subst hs
      rw [comb_append J, comb_append J, comb_append J, comb_one, comb_one, comb_one, J.key_op h g hk, hk]
      by_cases hg : key g = κ
      · rw [if_pos hg, if_pos hg, if_pos hg]
        exact (optOp_assoc_one J (fun z hz => comb_key J hz) (hk.trans hg) hg).symm
      · rw [if_neg hg, if_neg hg, if_neg hg]
        cases comb key op κ I <;> rfl
    · rfl
theorem jn_comb (J : JoinOp key op) (κ : Int) (l : List α) : comb key op κ (jn key op l) = comb key op κ l := by
  refine list_snoc (P := fun l => comb key op κ (jn key op l) = comb key op κ l) rfl ?_ l
  intro l x ih
  have e : jn key op (l ++ [x]) = jStep key op (jn key op l) x := by simp [jn, List.foldl_append]
  rw [e, jStep_comb J, comb_append J, comb_append J, ih]
theorem strict_last {l : List α} {h : α} (hs : Strict key l) (e : l.getLast? = some h) : ∀ z ∈ l, key z ≤ key h := by
  have hl := last_split e
  generalize l.dropLast = I at hl
  subst hl
  intro z hz
  rcases List.mem_append.1 hz with hz | hz
  · have := (List.pairwise_append.1 hs).2.2 z hz h (by simp)
    omega
  · simp at hz; rw [hz]; exact Int.le_refl _
theorem jn_strict (J : JoinOp key op) : ∀ (l : List α), Asc (ltK key) l → Strict key (jn key op l) ∧ (∀ z ∈ jn key op l, ∃ x ∈ l, key z = key x) ∧ (∀ h, (jn key op l).getLast? = some h → ∀ x ∈ l, key x ≤ key h) := by
  refine list_snoc (P := fun l => Asc (ltK key) l → Strict key (jn key op l) ∧ (∀ z ∈ jn key op l, ∃ x ∈ l, key z = key x) ∧ (∀ h, (jn key op l).getLast? = some h → ∀ x ∈ l, key x ≤ key h)) ?_ ?_
  · intro _; exact ⟨List.Pairwise.nil, by simp [jn], by simp [jn]⟩
  · intro l x ih ha
    obtain ⟨ha1, _, ha3⟩ := asc_append.1 ha
    obtain ⟨i1, i2, i3⟩ := ih ha1
    have hle : ∀ z ∈ l, key z ≤ key x := fun z hz => by
      have := ha3 z hz x (by simp)
      unfold ltK at this; simp at this; omega
    have e : jn key op (l ++ [x]) = jStep key op (jn key op l) x := by simp [jn, List.foldl_append]
    rw [e]
    unfold jStep
    cases hg : (jn key op l).getLast? with
    | none =>
      simp only
      have hn : jn key op l = [] := List.getLast?_eq_none_iff.1 hg
      have hl : l = [] := by
        cases l with
        | nil => rfl
        | cons y r =>
          exfalso
          have hc := jn_comb J (key y) (y :: r)
          rw [hn] at hc
          unfold comb at hc
          rw [List.filter_cons_of_pos (by simp)] at hc
          cases hc
      subst hl
      exact ⟨List.pairwise_singleton _ _, fun z hz => ⟨x, by simp, by simp at hz; rw [hz]⟩, fun h hh z hz => by simp at hh hz; rw [← hh, hz]; exact Int.le_refl _⟩
    | some h =>
      simp only
      have hs := last_split hg
      have hmax := strict_last i1 hg
      have hhl : key h ≤ key x := by
        obtain ⟨y, hy, e2⟩ := i2 h (by rw [hs]; simp)
        rw [e2]; exact hle y hy
      split
      · rename_i hk
        have hko := J.key_op h x hk
        generalize hI : (jn key op l).dropLast = I at hs ⊢
        rw [hs] at i1
        obtain ⟨p1, p2, p3⟩ := List.pairwise_append.1 i1
        refine ⟨List.pairwise_append.2 ⟨p1, List.pairwise_singleton _ _, fun z hz y hy => by simp at hy; rw [hy, hko]; exact p3 z hz h (by simp)⟩, fun z hz => ?_, fun q hq z hz => ?_⟩
        · rcases List.mem_append.1 hz with hz | hz
          · obtain ⟨y, hy, e2⟩ := i2 z (by rw [hs]; exact List.mem_append_left _ hz)
            exact ⟨y, List.mem_append_left _ hy, e2⟩
          · simp at hz; exact ⟨x, by simp, by rw [hz, hko, hk]⟩
        · simp at hq
          rw [← hq, hko, hk]
          rcases List.mem_append.1 hz with hz | hz
          · exact hle z hz
          · simp at hz; rw [hz]; exact Int.le_refl _
      · rename_i hk
        have hlt : key h < key x := by omega
        refine ⟨List.pairwise_append.2 ⟨i1, List.pairwise_singleton _ _, fun z hz y hy => by simp at hy; rw [hy]; have := hmax z hz; omega⟩, fun z hz => ?_, fun q hq z hz => ?_⟩
        · rcases List.mem_append.1 hz with hz | hz
          · obtain ⟨y, hy, e2⟩ := i2 z hz
            exact ⟨y, List.mem_append_left _ hy, e2⟩
          · simp at hz; exact ⟨x, by simp, by rw [hz]⟩
        · simp at hq
          rw [← hq]
          rcases List.mem_append.1 hz with hz | hz
          · exact hle z hz
          · simp at hz; rw [hz]; exact Int.le_refl _
theorem mrg_filt (κ : Int) (x : α) : ∀ {l : List α}, Asc (ltK key) l → (mrg (ltK key) l [x]).filter (fun a => decide (key a = κ)) = l.filter (fun a => decide (key a = κ)) ++ [x].filter (fun a => decide (key a = κ))
  | [], _ => by rw [mrg_nil]; rfl
  | y :: r, h => by
    cases hy : ltK key x y
    · rw [mrg_ge hy, List.filter_cons, List.filter_cons, mrg_filt κ x (asc_cons.1 h).2]
      split <;> rfl
    · rw [mrg_lt hy, nil_mrg]
      have hxy : key x < key y := by unfold ltK at hy; simpa using hy
      by_cases hx : key x = κ
      · have hn : (y :: r).filter (fun a => decide (key a = κ)) = [] := by
          rw [List.filter_eq_nil_iff]
          intro z hz
          have : key y ≤ key z := by
            rcases List.mem_cons.1 hz with rfl | hz
            · exact Int.le_refl _
            · have := (asc_cons.1 h).1 z hz
              unfold ltK at this; simp at this; omega
          simp; omega
        rw [List.filter_cons, hn]; simp [hx]
      · rw [List.filter_cons, if_neg (by simp [hx])]; simp [hx]
theorem srt_comb (κ : Int) (l : List α) : comb key op κ (srt (ltK key) l) = comb key op κ l := by
  unfold comb
  congr 1
  refine list_snoc (P := fun l => (srt (ltK key) l).filter (fun a => decide (key a = κ)) = l.filter (fun a => decide (key a = κ))) rfl ?_ l
  intro l x ih
  rw [srt_snoc, mrg_filt κ x (srt_asc (swK key) l), ih, List.filter_append]
theorem strict_head {x : α} {r : List α} (h : Strict key (x :: r)) : comb key op (key x) (x :: r) = some x := by
  unfold comb
  have hn : r.filter (fun a => decide (key a = key x)) = [] := by
    rw [List.filter_eq_nil_iff]
    intro z hz
    have := (List.pairwise_cons.1 h).1 z hz
    simp; omega
  rw [List.filter_cons_of_pos (by simp), hn]; rfl
theorem strict_below {κ : Int} {l : List α} (h : ∀ z ∈ l, κ < key z) : comb key op κ l = none := by
  unfold comb
  have hn : l.filter (fun a => decide (key a = κ)) = [] := by
    rw [List.filter_eq_nil_iff]
    intro z hz
    have := h z hz
    simp; omega
  rw [hn]; rfl
theorem strict_eq : ∀ {a b : List α}, Strict key a → Strict key b → (∀ κ, comb key op κ a = comb key op κ b) → a = b
  | [], [], _, _, _ => rfl
  | [], y :: s, _, hb, h => by have := h (key y); rw [strict_head hb] at this; cases this
  | x :: r, [], ha, _, h => by have := h (key x); rw [strict_head ha] at this; cases this
  | x :: r, y :: s, ha, hb, h => by
    have hr := List.pairwise_cons.1 ha
    have hs := List.pairwise_cons.1 hb
    have hxy : key x = key y := by
      rcases Int.lt_trichotomy (key x) (key y) with hlt | he | hlt
      · have := h (key x)
        rw [strict_head ha, strict_below (fun z hz => by
          rcases List.mem_cons.1 hz with rfl | hz
          · exact hlt
          · have := hs.1 z hz; omega)] at this
        cases this
      · exact he
      · have := h (key y)
        rw [strict_head hb, strict_below (fun z hz => by
          rcases List.mem_cons.1 hz with rfl | hz
          · exact hlt
          · have := hr.1 z hz; omega)] at this
        cases this
    have e := h (key x)
    rw [strict_head ha, hxy, strict_head hb] at e
    have e' := Option.some.inj e
    subst e'
    congr 1
    refine strict_eq hr.2 hs.2 fun κ => ?_
    by_cases hk : key x = κ
    · subst hk
      rw [strict_below (fun z hz => hr.1 z hz), strict_below (fun z hz => hs.1 z hz)]
    · have := h κ
      unfold comb at this ⊢
      rw [List.filter_cons_of_neg (by simp [hk]), List.filter_cons_of_neg (by simp [hk])] at this
      exact this
/-- THE LAW: the groups of two parts, merged, are the groups of the whole. -/
theorem groups_merge (J : JoinOp key op) (a b : List α) : jn key op (srt (ltK key) (jn key op (srt (ltK key) a) ++ jn key op (srt (ltK key) b))) = jn key op (srt (ltK key) (a ++ b)) := by
  refine strict_eq (op := op) (jn_strict J _ (srt_asc (swK key) _)).1 (jn_strict J _ (srt_asc (swK key) _)).1 fun κ => ?_
  rw [jn_comb J, srt_comb, comb_append J, jn_comb J, jn_comb J, srt_comb, srt_comb, jn_comb J, srt_comb, comb_append J]
/-- A measure that adds up is kept. -/
theorem jn_sum {cnt : α → Int} (hc : ∀ a b, cnt (op a b) = cnt a + cnt b) (l : List α) : ((jn key op l).map cnt).sum = (l.map cnt).sum := by
  refine list_snoc (P := fun l => ((jn key op l).map cnt).sum = (l.map cnt).sum) rfl ?_ l
  intro l x ih
  have e : jn key op (l ++ [x]) = jStep key op (jn key op l) x := by simp [jn, List.foldl_append]
  rw [e, List.map_append, List.sum_append, ← ih]
  unfold jStep
  cases hg : (jn key op l).getLast? with
  | none =>
    have hn : jn key op l = [] := List.getLast?_eq_none_iff.1 hg
    rw [hn]; simp
  | some h =>
    simp only
    split
    · have hs := last_split hg
      generalize hI : (jn key op l).dropLast = I at hs ⊢
      rw [hs]
      simp only [List.map_append, List.sum_append, List.map_cons, List.map_nil, List.sum_cons, List.sum_nil, hc]
      omega
    · simp
/-- A property that joining keeps is kept. -/
theorem jn_all {P : α → Prop} (hP : ∀ a b, P a → P b → P (op a b)) : ∀ (l : List α), (∀ x ∈ l, P x) → ∀ z ∈ jn key op l, P z := by
  refine list_snoc (P := fun l => (∀ x ∈ l, P x) → ∀ z ∈ jn key op l, P z) (fun _ z hz => by simp [jn] at hz) ?_
  intro l x ih h z hz
  have e : jn key op (l ++ [x]) = jStep key op (jn key op l) x := by simp [jn, List.foldl_append]
  have i := ih (fun y hy => h y (List.mem_append_left _ hy))
  have hx := h x (by simp)
  rw [e] at hz
  unfold jStep at hz
  cases hg : (jn key op l).getLast? with
  | none => rw [hg] at hz; simp at hz; rw [hz]; exact hx
  | some q =>
    rw [hg] at hz
    simp only at hz
    have hq := i q (by rw [last_split hg]; simp)
    split at hz
    · rcases List.mem_append.1 hz with hz | hz
      · exact i z (List.dropLast_subset _ hz)
      · simp at hz; rw [hz]; exact hP q x hq hx
    · rcases List.mem_append.1 hz with hz | hz
      · exact i z hz
      · simp at hz; rw [hz]; exact hx

end Go.Proofs.Ytmgkdokaaoeobaa.Mg

namespace Go.Proofs.Ytmgkdokaaoeobaa.Mg
set_option linter.unusedVariables false

abbrev G5 := Int × Int × Int × Int × Int
def gKey (g : G5) : Int := g.1
def gOp (h g : G5) : G5 := (g.1, h.2.1 + g.2.1, h.2.2.1 + g.2.2.1, min h.2.2.2.1 g.2.2.2.1, max h.2.2.2.2 g.2.2.2.2)
theorem gJoin : JoinOp gKey gOp := by
  refine ⟨fun a b h => h.symm, fun a b c h1 h2 => ?_⟩
  unfold gOp
  simp only [Prod.mk.injEq, true_and]
  refine ⟨by omega, by omega, by omega, by omega⟩
/-- A valid group, but for the bound of its count. -/
structure GOk (g : G5) : Prop where
  c1 : 1 ≤ g.2.1
  l0 : 0 ≤ g.2.2.2.1
  lm : g.2.2.2.1 ≤ g.2.2.2.2
  m9 : g.2.2.2.2 ≤ 999
  one : g.2.1 = 1 → g.2.2.2.1 = g.2.2.2.2 ∧ g.2.2.1 = g.2.2.2.1
  lo : g.2.2.2.2 + (g.2.1 - 1) * g.2.2.2.1 ≤ g.2.2.1
  hi : g.2.2.1 ≤ g.2.2.2.1 + (g.2.1 - 1) * g.2.2.2.2
theorem mulLe {a b c : Int} (h : b ≤ c) (ha : 0 ≤ a) : a * b ≤ a * c := Int.mul_le_mul_of_nonneg_left h ha
theorem gOk_op (a b : G5) (ha : GOk a) (hb : GOk b) : GOk (gOp a b) := by
  obtain ⟨k1, c1, s1, l1, m1⟩ := a
  obtain ⟨k2, c2, s2, l2, m2⟩ := b
  obtain ⟨p1, p2, p3, p4, _, p5, p6⟩ := ha
  obtain ⟨q1, q2, q3, q4, _, q5, q6⟩ := hb
  simp only at p1 p2 p3 p4 p5 p6 q1 q2 q3 q4 q5 q6
  unfold gOp
  have e1 : 0 ≤ c1 - 1 := by omega
  have e2 : 0 ≤ c2 - 1 := by omega
  obtain ⟨l, hl⟩ : ∃ l, min l1 l2 = l := ⟨_, rfl⟩
  obtain ⟨m, hm⟩ : ∃ m, max m1 m2 = m := ⟨_, rfl⟩
  have hl1 : l ≤ l1 := by omega
  have hl2 : l ≤ l2 := by omega
  have hm1 : m1 ≤ m := by omega
  have hm2 : m2 ≤ m := by omega
  have a1 := mulLe hl1 e1
  have a2 := mulLe hl2 e2
  have a3 := mulLe hm1 e1
  have a4 := mulLe hm2 e2
  have x1 : (c1 + c2 - 1) * l = (c1 - 1) * l + (c2 - 1) * l + l := by rw [show c1 + c2 - 1 = (c1 - 1) + (c2 - 1) + 1 by omega, Int.add_mul, Int.add_mul, Int.one_mul]
  have x2 : (c1 + c2 - 1) * m = (c1 - 1) * m + (c2 - 1) * m + m := by rw [show c1 + c2 - 1 = (c1 - 1) + (c2 - 1) + 1 by omega, Int.add_mul, Int.add_mul, Int.one_mul]
  refine ⟨?_, ?_, ?_, ?_, ?_, ?_, ?_⟩ <;> simp only [hl, hm]
  · omega
  · omega
  · omega
  · omega
  · intro h; omega
  · rw [x1]
    generalize (c1 - 1) * l = X1 at *
    generalize (c2 - 1) * l = X2 at *
    generalize (c1 - 1) * l1 = X3 at *
    generalize (c2 - 1) * l2 = X4 at *
    omega
  · rw [x2]
    generalize (c1 - 1) * m = X1 at *
    generalize (c2 - 1) * m = X2 at *
    generalize (c1 - 1) * m1 = X3 at *
    generalize (c2 - 1) * m2 = X4 at *
    omega
def gOne (r : Int × Int) : G5 := (r.1, 1, r.2, r.2, r.2)
theorem gOne_ok {r : Int × Int} (h : 0 ≤ r.2 ∧ r.2 ≤ 999) : GOk (gOne r) := by
  refine ⟨by show (1 : Int) ≤ 1; omega, h.1, Int.le_refl _, h.2, fun _ => ⟨rfl, rfl⟩, ?_, ?_⟩ <;> simp [gOne]
/-- The groups of records. -/
def gsOf (l : List (Int × Int)) : List G5 := jn gKey gOp (srt (ltK gKey) (l.map gOne))
theorem gsOf_append (a b : List (Int × Int)) : jn gKey gOp (srt (ltK gKey) (gsOf a ++ gsOf b)) = gsOf (a ++ b) := by
  unfold gsOf
  rw [List.map_append]
  exact groups_merge gJoin _ _
theorem gsOf_strict (l : List (Int × Int)) : Strict gKey (gsOf l) := (jn_strict gJoin _ (srt_asc (swK gKey) _)).1
theorem gsOf_ok {l : List (Int × Int)} (h : ∀ r ∈ l, 0 ≤ r.2 ∧ r.2 ≤ 999) : ∀ g ∈ gsOf l, GOk g := by
  refine jn_all gOk_op _ fun x hx => ?_
  obtain ⟨r, hr, rfl⟩ := List.mem_map.1 (srt_mem.1 hx)
  exact gOne_ok (h r hr)
theorem perm_sum {a b : List Int} (h : a.Perm b) : a.sum = b.sum := by
  induction h with
  | nil => rfl
  | cons x _ ih => simp only [List.sum_cons, ih]
  | swap x y l => simp only [List.sum_cons]; omega
  | trans _ _ i1 i2 => exact i1.trans i2
theorem gsOf_count (l : List (Int × Int)) : ((gsOf l).map fun g => g.2.1).sum = (l.length : Int) := by
  unfold gsOf
  rw [jn_sum (cnt := fun g : G5 => g.2.1) (fun a b => rfl)]
  have hp : ((srt (ltK gKey) (l.map gOne)).map fun g : G5 => g.2.1).Perm ((l.map gOne).map fun g : G5 => g.2.1) := (srt_perm _).map _
  rw [perm_sum hp]
  clear hp
  induction l with
  | nil => rfl
  | cons x r ih => simp only [List.map_cons, List.sum_cons, List.length_cons, ih]; simp only [gOne]; omega
/-- The greatest counts: not increasing; of equal counts the lesser key first. -/
theorem top_counts {l : List G5} (h : Strict gKey l) : (srt (ltK fun g : G5 => -g.2.1) l).Pairwise fun a b => b.2.1 < a.2.1 ∨ a.2.1 = b.2.1 ∧ a.1 < b.1 := by
  refine list_snoc (P := fun l => Strict gKey l → (srt (ltK fun g : G5 => -g.2.1) l).Pairwise fun a b => b.2.1 < a.2.1 ∨ a.2.1 = b.2.1 ∧ a.1 < b.1) (fun _ => List.Pairwise.nil) ?_ l h
  intro l x ih hs
  obtain ⟨s1, _, s3⟩ := List.pairwise_append.1 hs
  have i := ih s1
  have hk : ∀ z ∈ srt (ltK fun g : G5 => -g.2.1) l, z.1 < x.1 := fun z hz => s3 z (srt_mem.1 hz) x (by simp)
  rw [srt_snoc]
  generalize srt (ltK fun g : G5 => -g.2.1) l = S at i hk
  induction S with
  | nil => rw [mrg_nil]; exact List.pairwise_singleton _ _
  | cons y r ihS =>
    obtain ⟨p1, p2⟩ := List.pairwise_cons.1 i
    cases hy : ltK (fun g : G5 => -g.2.1) x y
    · rw [mrg_ge hy]
      have hxy : x.2.1 ≤ y.2.1 := by unfold ltK at hy; simp at hy; omega
      refine List.pairwise_cons.2 ⟨fun z hz => ?_, ihS p2 (fun z hz => hk z (List.mem_cons_of_mem _ hz))⟩
      rcases mrg_mem.1 hz with hz | hz
      · exact p1 z hz
      · simp at hz
        rw [hz]
        have := hk y (by simp)
        omega
    · rw [mrg_lt hy, nil_mrg]
      have hxy : y.2.1 < x.2.1 := by unfold ltK at hy; simp at hy; omega
      refine List.pairwise_cons.2 ⟨fun z hz => ?_, i⟩
      rcases List.mem_cons.1 hz with rfl | hz
      · exact .inl hxy
      · have := p1 z hz; omega

end Go.Proofs.Ytmgkdokaaoeobaa.Mg

