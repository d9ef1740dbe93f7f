/- Several texts in one: lemmas and walks of the functions that the law reaches. -/

namespace Go.Proofs.YtbgmbanebmlghaaGreatDoor.Mg
set_option linter.unusedVariables false

structure SW {α : Type} (lt : α → α → Bool) : Prop where
  asym : ∀ a b, lt a b = true → lt b a = false
  trans : ∀ a b c, lt a b = true → lt b c = true → lt a c = true
  neg : ∀ a b c, lt a c = true → lt a b = true ∨ lt b c = true

def mrg {α : Type} (lt : α → α → Bool) (l r : List α) : List α := List.merge l r (fun x y => !lt y x)

section
variable {α : Type} {lt : α → α → Bool}

theorem mrg_nil (r : List α) : mrg lt [] r = r := by simp [mrg]
theorem nil_mrg (l : List α) : mrg lt l [] = l := by simp [mrg]
theorem mrg_cons (x : α) (l : List α) (y : α) (r : List α) : mrg lt (x :: l) (y :: r) = if lt y x then y :: mrg lt (x :: l) r else x :: mrg lt l (y :: r) := by
  unfold mrg
  rw [List.cons_merge_cons]
  cases lt y x <;> simp
theorem mrg_lt {x : α} {l : List α} {y : α} {r : List α} (h : lt y x = true) : mrg lt (x :: l) (y :: r) = y :: mrg lt (x :: l) r := by rw [mrg_cons, if_pos h]
theorem mrg_ge {x : α} {l : List α} {y : α} {r : List α} (h : lt y x = false) : mrg lt (x :: l) (y :: r) = x :: mrg lt l (y :: r) := by rw [mrg_cons, if_neg (by rw [h]; simp)]

theorem mrg_perm (l r : List α) : (mrg lt l r).Perm (l ++ r) := List.merge_perm_append _
theorem mrg_mem {l r : List α} {x : α} : x ∈ mrg lt l r ↔ x ∈ l ∨ x ∈ r := by rw [(mrg_perm l r).mem_iff, List.mem_append]
theorem mrg_length (l r : List α) : (mrg lt l r).length = l.length + r.length := by rw [(mrg_perm l r).length_eq, List.length_append]

/-- Both lists are cut in two, so that the earlier parts go ahead of the later ones. -/
theorem mrg_split : ∀ (L1 R1 L2 R2 : List α), (∀ x ∈ L1, ∀ y ∈ R2, lt y x = false) → (∀ x ∈ L2, ∀ y ∈ R1, lt y x = true) →
    mrg lt (L1 ++ L2) (R1 ++ R2) = mrg lt L1 R1 ++ mrg lt L2 R2
  | [], [], L2, R2, _, _ => by simp [mrg_nil]
  | [], y :: R1, L2, R2, h1, h2 => by
    have ih := mrg_split [] R1 L2 R2 (by simp) (fun x hx z hz => h2 x hx z (List.mem_cons_of_mem _ hz))
    simp only [List.nil_append, mrg_nil] at ih ⊢
    cases L2 with
    | nil => simp [mrg_nil]
    | cons x l =>
      rw [List.cons_append, mrg_lt (h2 x (by simp) y (by simp)), ih]; rfl
  | x :: L1, [], L2, R2, h1, h2 => by
    have ih := mrg_split L1 [] L2 R2 (fun z hz => h1 z (List.mem_cons_of_mem _ hz)) (by simp)
    simp only [List.nil_append, nil_mrg] at ih ⊢
    cases R2 with
    | nil => simp [nil_mrg]
    | cons y r =>
      rw [List.cons_append, mrg_ge (h1 x (by simp) y (by simp)), ih]; rfl
  | x :: L1, y :: R1, L2, R2, h1, h2 => by
    have ih1 := mrg_split (x :: L1) R1 L2 R2 h1 (fun z hz v hv => h2 z hz v (List.mem_cons_of_mem _ hv))
    have ih2 := mrg_split L1 (y :: R1) L2 R2 (fun z hz => h1 z (List.mem_cons_of_mem _ hz)) h2
    simp only [List.cons_append] at ih1 ih2 ⊢
    cases h : lt y x
    · rw [mrg_ge h, mrg_ge h, ih2]; rfl
    · rw [mrg_lt h, mrg_lt h, ih1]; rfl
termination_by L1 R1 => L1.length + R1.length

theorem mrg_assoc (S : SW lt) : ∀ (A B C : List α), mrg lt (mrg lt A B) C = mrg lt A (mrg lt B C)
  | [], B, C => by simp [mrg_nil]
  | a :: A, [], C => by simp [nil_mrg, mrg_nil]
  | a :: A, b :: B, [] => by simp [nil_mrg]
  | a :: A, b :: B, c :: C => by
    have i1 := mrg_assoc S (a :: A) (b :: B) C
    have i2 := mrg_assoc S (a :: A) B (c :: C)
    have i3 := mrg_assoc S A (b :: B) (c :: C)
    cases h1 : lt b a
    · cases h2 : lt c b
      · have h3 : lt c a = false := by
          cases h3 : lt c a
          · rfl
          · rcases S.neg c b a h3 with h | h
            · rw [h2] at h; cases h
            · rw [h1] at h; cases h
        rw [mrg_ge h1, mrg_ge h2, mrg_ge h3, mrg_ge h1, i3, mrg_ge h2]
      · cases h3 : lt c a
        · rw [mrg_ge h1, mrg_lt h2, mrg_ge h3, mrg_ge h3, i3, mrg_lt h2]
        · rw [mrg_lt h2, mrg_lt h3, ← i1, mrg_ge h1, mrg_lt h3]
    · cases h2 : lt c b
      · rw [mrg_lt h1, mrg_ge h2, mrg_ge h2, mrg_lt h1, i2]
      · have h3 := S.trans _ _ _ h2 h1
        rw [mrg_lt h1, mrg_lt h2, mrg_lt h2, mrg_lt h3, ← i1, mrg_lt h1]
termination_by A B C => A.length + B.length + C.length

def Asc (lt : α → α → Bool) (l : List α) : Prop := l.Pairwise fun x y => lt y x = false
theorem asc_nil : Asc lt [] := List.Pairwise.nil
theorem asc_one (x : α) : Asc lt [x] := by simp [Asc]

theorem asc_cons {x : α} {l : List α} : Asc lt (x :: l) ↔ (∀ y ∈ l, lt y x = false) ∧ Asc lt l := by simp [Asc]
theorem asc_append {l r : List α} : Asc lt (l ++ r) ↔ Asc lt l ∧ Asc lt r ∧ ∀ x ∈ l, ∀ y ∈ r, lt y x = false := by simp [Asc, List.pairwise_append]

/-- Only what stands side by side need be looked at. -/
theorem le_trans' (S : SW lt) {a b c : α} (h1 : lt b a = false) (h2 : lt c b = false) : lt c a = false := by
  cases h3 : lt c a
  · rfl
  · rcases S.neg c b a h3 with h | h
    · rw [h2] at h; cases h
    · rw [h1] at h; cases h

theorem asc_cons2 (S : SW lt) {x y : α} {l : List α} (h : lt y x = false) (hl : Asc lt (y :: l)) : Asc lt (x :: y :: l) := by
  rw [asc_cons]
  refine ⟨fun z hz => ?_, hl⟩
  rcases List.mem_cons.1 hz with rfl | hz
  · exact h
  · exact le_trans' S h ((asc_cons.1 hl).1 z hz)

theorem asc_of_side (S : SW lt) : ∀ l : List α, (∀ i, (h : i + 1 < l.length) → lt l[i + 1] l[i] = false) → Asc lt l
  | [], _ => asc_nil
  | [x], _ => asc_one x
  | x :: y :: l, h => asc_cons2 S (h 0 (by simp)) (asc_of_side S (y :: l) (fun i hi => h (i + 1) (by simpa using hi)))

theorem mrg_asc (S : SW lt) : ∀ {l r : List α}, Asc lt l → Asc lt r → Asc lt (mrg lt l r)
  | [], r, _, hr => by rw [mrg_nil]; exact hr
  | x :: l, [], hl, _ => by rw [nil_mrg]; exact hl
  | x :: l, y :: r, hl, hr => by
    cases h : lt y x
    · rw [mrg_ge h, asc_cons]
      refine ⟨fun z hz => ?_, mrg_asc S (asc_cons.1 hl).2 hr⟩
      rcases mrg_mem.1 hz with hz | hz
      · exact (asc_cons.1 hl).1 z hz
      · rcases List.mem_cons.1 hz with rfl | hz
        · exact h
        · exact le_trans' S h ((asc_cons.1 hr).1 z hz)
    · rw [mrg_lt h, asc_cons]
      refine ⟨fun z hz => ?_, mrg_asc S hl (asc_cons.1 hr).2⟩
      rcases mrg_mem.1 hz with hz | hz
      · rcases List.mem_cons.1 hz with rfl | hz
        · exact S.asym _ _ h
        · exact le_trans' S (S.asym _ _ h) ((asc_cons.1 hl).1 z hz)
      · exact (asc_cons.1 hr).1 z hz
termination_by l r => l.length + r.length

/-- Where all of l goes ahead of all of r. -/
theorem mrg_ahead {l r : List α} (h : ∀ x ∈ l, ∀ y ∈ r, lt y x = false) : mrg lt l r = l ++ r := by
  have := mrg_split (lt := lt) l [] [] r h (by simp)
  simpa [nil_mrg, mrg_nil] using this
/-- Where all of r goes ahead of all of l. -/
theorem mrg_behind {l r : List α} (h : ∀ x ∈ l, ∀ y ∈ r, lt y x = true) : mrg lt l r = r ++ l := by
  have := mrg_split (lt := lt) [] r l [] (by simp) h
  simpa [nil_mrg, mrg_nil] using this

/-- THE STABLE SORT: element after element merged in. -/
def srt (lt : α → α → Bool) (l : List α) : List α := l.foldl (fun acc x => mrg lt acc [x]) []

theorem srt_snoc (l : List α) (x : α) : srt lt (l ++ [x]) = mrg lt (srt lt l) [x] := by simp [srt]
theorem srt_nil : srt lt [] = [] := rfl
theorem srt_one (x : α) : srt lt [x] = [x] := by simp [srt, mrg_nil]

theorem list_snoc {P : List α → Prop} (h0 : P []) (h1 : ∀ l x, P l → P (l ++ [x])) (l : List α) : P l := by
  have : ∀ n (l : List α), l.length = n → P l := by
    intro n
    induction n with
    | zero => intro l hl; rw [List.eq_nil_of_length_eq_zero hl]; exact h0
    | succ n ih =>
      intro l hl
      have hne : l ≠ [] := by intro e; rw [e] at hl; simp at hl
      rw [← List.dropLast_concat_getLast hne]
      exact h1 _ _ (ih _ (by simp [hl]))
  exact this _ l rfl

theorem srt_append (S : SW lt) (a b : List α) : srt lt (a ++ b) = mrg lt (srt lt a) (srt lt b) := by
  refine list_snoc (P := fun b => srt lt (a ++ b) = mrg lt (srt lt a) (srt lt b)) ?_ ?_ b
  · rw [List.append_nil, srt_nil, nil_mrg]
  · intro l x ih
    rw [← List.append_assoc, srt_snoc, srt_snoc, ih, mrg_assoc S]

theorem srt_perm (l : List α) : (srt lt l).Perm l := by
  refine list_snoc (P := fun l => (srt lt l).Perm l) (by rw [srt_nil]) ?_ l
  intro l x ih
  rw [srt_snoc]
  exact (mrg_perm _ _).trans (ih.append_right [x])
theorem srt_length (l : List α) : (srt lt l).length = l.length := (srt_perm l).length_eq
theorem srt_mem {l : List α} {x : α} : x ∈ srt lt l ↔ x ∈ l := (srt_perm l).mem_iff

theorem srt_asc (S : SW lt) (l : List α) : Asc lt (srt lt l) := by
  refine list_snoc (P := fun l => Asc lt (srt lt l)) asc_nil ?_ l
  intro l x ih
  rw [srt_snoc]; exact mrg_asc S ih (asc_one x)

theorem srt_of_asc {l : List α} (h : Asc lt l) : srt lt l = l := by
  revert h
  refine list_snoc (P := fun l => Asc lt l → srt lt l = l) (fun _ => rfl) ?_ l
  intro l x ih h
  rw [asc_append] at h
  rw [srt_snoc, ih h.1, mrg_ahead h.2.2]

theorem srt_srt (S : SW lt) (l : List α) : srt lt (srt lt l) = srt lt l := srt_of_asc (srt_asc S l)

theorem srt_mrg (S : SW lt) (a b : List α) : mrg lt (srt lt a) (srt lt b) = srt lt (a ++ b) := (srt_append S a b).symm
/-- One element on its way down. -/
theorem mrg_down {A B : List α} {x : α} (h : ∀ b ∈ B, lt x b = true) : mrg lt (A ++ B) [x] = mrg lt A [x] ++ B := by
  have := mrg_split (lt := lt) A [x] B [] (by simp) (by simpa using h)
  simpa [nil_mrg] using this
theorem mrg_stop {A : List α} {x : α} (h : ∀ a ∈ A, lt x a = false) : mrg lt A [x] = A ++ [x] := mrg_ahead (by simpa using h)

end

/-! ### by an integer key -/
def ltK {α : Type} (key : α → Int) (a b : α) : Bool := decide (key a < key b)
theorem swK {α : Type} (key : α → Int) : SW (ltK key) :=
  ⟨fun a b h => by simp only [ltK, decide_eq_true_eq, decide_eq_false_iff_not] at *; omega, fun a b c h1 h2 => by simp only [ltK, decide_eq_true_eq] at *; omega,
   fun a b c h => by simp only [ltK, decide_eq_true_eq] at *; omega⟩

end Go.Proofs.YtbgmbanebmlghaaGreatDoor.Mg

namespace Go.Proofs.YtbgmbanebmlghaaGreatDoor.Mg
set_option linter.unusedVariables false
section
variable {α : Type} {lt : α → α → Bool}

/-- x stands at place k of A, R behind. -/
def insSt (A : List α) (x : α) (k : Nat) (R : List α) : List α := A.take k ++ x :: (A.drop k ++ R)

theorem insSt_len {A : List α} {x : α} {k : Nat} {R : List α} (hk : k ≤ A.length) : (insSt A x k R).length = A.length + 1 + R.length := by
  unfold insSt
  simp only [List.length_append, List.length_cons, List.length_take, List.length_drop]
  omega
theorem insSt_top (A : List α) (x : α) (R : List α) : insSt A x A.length R = A ++ x :: R := by
  unfold insSt; simp
theorem insSt_at {A : List α} {x : α} {k : Nat} {R : List α} (hk : k ≤ A.length) : (insSt A x k R)[k]? = some x := by
  unfold insSt
  rw [List.getElem?_append_right (by rw [List.length_take]; omega), List.length_take, show k - min k A.length = 0 by omega]
  rfl
theorem insSt_before {A : List α} {x : α} {k : Nat} {R : List α} (hk : k < A.length) : (insSt A x (k + 1) R)[k]? = some A[k] := by
  unfold insSt
  rw [List.getElem?_append_left (by rw [List.length_take]; omega), List.getElem?_take_of_lt (by omega), List.getElem?_eq_getElem hk]
theorem insSt_step {A : List α} {x : α} {k : Nat} {R : List α} (hk : k < A.length) : ((insSt A x (k + 1) R).set k x).set (k + 1) A[k] = insSt A x k R := by
  unfold insSt
  have h1 : A.take (k + 1) = A.take k ++ [A[k]] := by rw [List.take_add_one, List.getElem?_eq_getElem hk]; rfl
  have h2 : A.drop k = A[k] :: A.drop (k + 1) := List.drop_eq_getElem_cons hk
  have hl : (A.take k).length = k := by rw [List.length_take]; omega
  rw [h1, h2, List.append_assoc, List.set_append, if_neg (by omega), hl, Nat.sub_self, List.set_append, if_neg (by omega), hl, show k + 1 - k = 1 by omega]
  rfl
theorem insSt_end (S : SW lt) {A : List α} {x : α} {k : Nat} {R : List α} (hA : Asc lt A) (hk : k ≤ A.length) (hd : ∀ b ∈ A.drop k, lt x b = true) (hs : ∀ (h : 0 < k), lt x (A[k - 1]'(by omega)) = false) :
    insSt A x k R = mrg lt A [x] ++ R := by
  have h1 : mrg lt A [x] = mrg lt (A.take k) [x] ++ A.drop k := by
    have := mrg_down (lt := lt) (A := A.take k) (B := A.drop k) (x := x) hd
    rwa [List.take_append_drop] at this
  have h2 : mrg lt (A.take k) [x] = A.take k ++ [x] := by
    apply mrg_stop
    intro a ha
    obtain ⟨i, hi, rfl⟩ := List.mem_take_iff_getElem.1 ha
    have hi' : i < k := by omega
    have hs' := hs (by omega)
    by_cases e : i = k - 1
    · subst e; exact hs'
    · have := List.pairwise_iff_getElem.1 hA i (k - 1) (by omega) (by omega) (by omega)
      exact le_trans' S this hs'
  unfold insSt
  rw [h1, h2]
  simp
/-- One item more that has its place. -/
theorem insSt_srt (S : SW lt) {l : List α} {x : α} {k : Nat} {R : List α} (hk : k ≤ (srt lt l).length) (hd : ∀ b ∈ (srt lt l).drop k, lt x b = true) (hs : ∀ (h : 0 < k), lt x ((srt lt l)[k - 1]'(by omega)) = false) :
    insSt (srt lt l) x k R = srt lt (l ++ [x]) ++ R := by
  rw [insSt_end S (srt_asc S l) hk hd hs, srt_snoc]

theorem asc_unique (S : SW lt) (ht : ∀ a b, lt a b = false → lt b a = false → a = b) : ∀ {l r : List α}, l.Perm r → Asc lt l → Asc lt r → l = r := by
  intro l r hp hl hr
  exact hp.eq_of_pairwise (fun a b _ _ h1 h2 => ht a b h2 h1) hl hr
end

/-- Integers: the library's sort is this one. -/
def ltI (a b : Int) : Bool := decide (a < b)
theorem swI : SW ltI := swK (fun x : Int => x)
def srtI (l : List Int) : List Int := srt ltI l
end Go.Proofs.YtbgmbanebmlghaaGreatDoor.Mg

namespace Go.Proofs.YtbgmbanebmlghaaGreatDoor.Mg
set_option linter.unusedVariables false
section
variable {α : Type} {lt : α → α → Bool}

/-- Two elements change places. -/
theorem swap2 {P Q R : List α} {x y : α} : ((P ++ x :: (Q ++ y :: R)).set P.length y).set (P.length + 1 + Q.length) x = P ++ y :: (Q ++ x :: R) := by
  rw [List.set_append_right _ _ (Nat.le_refl _), Nat.sub_self, List.set_cons_zero]
  rw [List.set_append_right _ _ (by omega), show P.length + 1 + Q.length - P.length = Q.length + 1 by omega, List.set_cons_succ]
  rw [List.set_append_right _ _ (Nat.le_refl _), Nat.sub_self, List.set_cons_zero]
theorem at1 {P Q R : List α} {x y : α} : (P ++ x :: (Q ++ y :: R))[P.length]? = some x := by
  rw [List.getElem?_append_right (Nat.le_refl _), Nat.sub_self]; rfl
theorem at2 {P Q R : List α} {x y : α} : (P ++ x :: (Q ++ y :: R))[P.length + 1 + Q.length]? = some y := by
  rw [List.getElem?_append_right (by omega), show P.length + 1 + Q.length - P.length = Q.length + 1 by omega, List.getElem?_cons_succ, List.getElem?_append_right (Nat.le_refl _), Nat.sub_self]; rfl

/-- Two ranges of like length, the first k places changed. -/
def swSt (pre A M B post : List α) (k : Nat) : List α := pre ++ B.take k ++ (A.drop k ++ M ++ A.take k ++ (B.drop k ++ post))
theorem swSt_zero (pre A M B post : List α) : swSt pre A M B post 0 = pre ++ A ++ M ++ B ++ post := by simp [swSt]
theorem swSt_end {pre A M B post : List α} {n : Nat} (hA : A.length = n) (hB : B.length = n) : swSt pre A M B post n = pre ++ B ++ M ++ A ++ post := by
  unfold swSt
  rw [List.take_of_length_le (by omega), List.drop_eq_nil_of_le (by omega), List.take_of_length_le (by omega), List.drop_eq_nil_of_le (by omega)]
  simp
theorem swSt_form {pre A M B post : List α} {k : Nat} (hA : k < A.length) (hB : k < B.length) : swSt pre A M B post k = (pre ++ B.take k) ++ A[k] :: ((A.drop (k + 1) ++ M ++ A.take k) ++ B[k] :: (B.drop (k + 1) ++ post)) := by
  unfold swSt
  rw [List.drop_eq_getElem_cons hA, List.drop_eq_getElem_cons hB]
  simp only [List.append_assoc, List.cons_append]
theorem swSt_next {pre A M B post : List α} {k : Nat} (hA : k < A.length) (hB : k < B.length) : swSt pre A M B post (k + 1) = (pre ++ B.take k) ++ B[k] :: ((A.drop (k + 1) ++ M ++ A.take k) ++ A[k] :: (B.drop (k + 1) ++ post)) := by
  unfold swSt
  rw [List.take_add_one, List.take_add_one, List.getElem?_eq_getElem hA, List.getElem?_eq_getElem hB]
  simp only [Option.toList_some, List.append_assoc, List.cons_append, List.nil_append]
theorem swSt_step {pre A M B post : List α} {k a b : Nat} (hA : k < A.length) (hB : k < B.length) (ha : pre.length = a) (hb : a + A.length + M.length = b) :
    (swSt pre A M B post k)[a + k]? = some A[k] ∧ (swSt pre A M B post k)[b + k]? = some B[k] ∧ ((swSt pre A M B post k).set (a + k) B[k]).set (b + k) A[k] = swSt pre A M B post (k + 1) := by
  have e1 : (pre ++ B.take k).length = a + k := by simp; omega
  have e2 : (pre ++ B.take k).length + 1 + (A.drop (k + 1) ++ M ++ A.take k).length = b + k := by simp; omega
  rw [swSt_form hA hB, swSt_next hA hB, ← e1, ← e2]
  exact ⟨at1, at2, swap2⟩

/-- An element on its way up: behind k of those that go ahead of it. -/
def upSt (x : α) (R : List α) (k : Nat) : List α := R.take k ++ x :: R.drop k
theorem upSt_zero (x : α) (R : List α) : upSt x R 0 = x :: R := by simp [upSt]
theorem upSt_step {x : α} {R pre post : List α} {k a : Nat} (h : k < R.length) (ha : pre.length = a) :
    (pre ++ upSt x R k ++ post)[a + k]? = some x ∧ (pre ++ upSt x R k ++ post)[a + k + 1]? = some R[k] ∧ ((pre ++ upSt x R k ++ post).set (a + k) R[k]).set (a + k + 1) x = pre ++ upSt x R (k + 1) ++ post := by
  have e0 : pre ++ upSt x R k ++ post = (pre ++ R.take k) ++ x :: (([] : List α) ++ R[k] :: (R.drop (k + 1) ++ post)) := by
    unfold upSt
    rw [List.drop_eq_getElem_cons h]; simp only [List.append_assoc, List.cons_append, List.nil_append]
  have e1 : (pre ++ R.take k).length = a + k := by simp; omega
  have e2 : pre ++ upSt x R (k + 1) ++ post = (pre ++ R.take k) ++ R[k] :: (([] : List α) ++ x :: (R.drop (k + 1) ++ post)) := by
    unfold upSt
    rw [List.take_add_one, List.getElem?_eq_getElem h]; simp only [Option.toList_some, List.append_assoc, List.cons_append, List.nil_append]
  rw [e0, e2, ← e1]
  have h2 := at2 (P := pre ++ R.take k) (Q := []) (x := x) (y := R[k]) (R := R.drop (k + 1) ++ post)
  have h3 := swap2 (P := pre ++ R.take k) (Q := []) (x := x) (y := R[k]) (R := R.drop (k + 1) ++ post)
  simp only [List.length_nil, Nat.add_zero] at h2 h3
  exact ⟨at1, h2, h3⟩

/-- Halving: what lies ahead of the place found, and behind it. -/
theorem asc_take (S : SW lt) {R : List α} {x : α} {k : Nat} (hR : Asc lt R) (hk : k ≤ R.length) (h : ∀ (h0 : 0 < k), lt (R[k - 1]'(by omega)) x = true) : ∀ y ∈ R.take k, lt y x = true := by
  intro y hy
  obtain ⟨i, hi, rfl⟩ := List.mem_take_iff_getElem.1 hy
  have hi' : i < k := by omega
  have h1 := h (by omega)
  by_cases e : i = k - 1
  · subst e; exact h1
  · have := List.pairwise_iff_getElem.1 hR i (k - 1) (by omega) (by omega) (by omega)
    rcases S.neg _ (R[i]) _ h1 with h2 | h2
    · rw [this] at h2; cases h2
    · exact h2
theorem asc_drop (S : SW lt) {R : List α} {x : α} {k : Nat} (hR : Asc lt R) (h : ∀ (h0 : k < R.length), lt R[k] x = false) : ∀ y ∈ R.drop k, lt y x = false := by
  intro y hy
  obtain ⟨i, hi, rfl⟩ := List.mem_drop_iff_getElem.1 hy
  have h1 := h (by omega)
  by_cases e : i = 0
  · subst e; simpa using h1
  · have := List.pairwise_iff_getElem.1 hR k (k + i) (by omega) (by omega) (by omega)
    exact le_trans' S (by simpa [Nat.add_comm] using h1) (by simpa [Nat.add_comm] using this)
theorem asc_take' (S : SW lt) {R : List α} {x : α} {k : Nat} (hR : Asc lt R) (hk : k ≤ R.length) (h : ∀ (h0 : 0 < k), lt x (R[k - 1]'(by omega)) = false) : ∀ y ∈ R.take k, lt x y = false := by
  intro y hy
  obtain ⟨i, hi, rfl⟩ := List.mem_take_iff_getElem.1 hy
  have hi' : i < k := by omega
  have h1 := h (by omega)
  by_cases e : i = k - 1
  · subst e; exact h1
  · have := List.pairwise_iff_getElem.1 hR i (k - 1) (by omega) (by omega) (by omega)
    exact le_trans' S this h1
theorem asc_drop' (S : SW lt) {R : List α} {x : α} {k : Nat} (hR : Asc lt R) (h : ∀ (h0 : k < R.length), lt x R[k] = true) : ∀ y ∈ R.drop k, lt x y = true := by
  intro y hy
  obtain ⟨i, hi, rfl⟩ := List.mem_drop_iff_getElem.1 hy
  have h1 := h (by omega)
  by_cases e : i = 0
  · subst e; simpa using h1
  · have := List.pairwise_iff_getElem.1 hR k (k + i) (by omega) (by omega) (by omega)
    rcases S.neg _ (R[k + i]) _ h1 with h2 | h2
    · simpa [Nat.add_comm] using h2
    · rw [this] at h2; cases h2

/-- One element merged ahead, one behind. -/
theorem mrg_one {x : α} {R : List α} {k : Nat} (h1 : ∀ y ∈ R.take k, lt y x = true) (h2 : ∀ y ∈ R.drop k, lt y x = false) : mrg lt [x] R = upSt x R k := by
  have := mrg_split (lt := lt) [] (R.take k) [x] (R.drop k) (by simp) (by simpa using h1)
  have h3 : mrg lt [x] (R.drop k) = [x] ++ R.drop k := mrg_ahead (by simpa using h2)
  rw [List.take_append_drop, List.nil_append, mrg_nil, h3] at this
  rw [this]; rfl
theorem mrg_last {x : α} {L : List α} {k : Nat} (h1 : ∀ y ∈ L.take k, lt x y = false) (h2 : ∀ y ∈ L.drop k, lt x y = true) : mrg lt L [x] = L.take k ++ x :: L.drop k := by
  have := mrg_split (lt := lt) (L.take k) [] (L.drop k) [x] (by simpa using h1) (by simp)
  have h3 : mrg lt (L.drop k) [x] = [x] ++ L.drop k := mrg_behind (by simpa using h2)
  rw [List.take_append_drop, List.nil_append, nil_mrg, h3] at this
  rw [this]; simp

/-- THE SYMMETRIC CUT. -/
theorem mrg_cut (S : SW lt) {L R : List α} {s e : Nat} (hL : Asc lt L) (hR : Asc lt R) (hs : s ≤ L.length) (he : e ≤ R.length)
    (h1 : ∀ (h0 : 0 < s) (h2 : e < R.length), lt R[e] (L[s - 1]'(by omega)) = false) (h2 : ∀ (h0 : 0 < e) (h2 : s < L.length), lt (R[e - 1]'(by omega)) L[s] = true) :
    mrg lt L R = mrg lt (L.take s) (R.take e) ++ mrg lt (L.drop s) (R.drop e) := by
  have := mrg_split (lt := lt) (L.take s) (R.take e) (L.drop s) (R.drop e) (fun x hx y hy => ?_) (fun x hx y hy => ?_)
  · rwa [List.take_append_drop, List.take_append_drop] at this
  · have hx0 : 0 < s := by
      rcases Nat.eq_zero_or_pos s with h | h
      · subst h; simp at hx
      · exact h
    have hy0 : e < R.length := by
      rcases Nat.lt_or_ge e R.length with h | h
      · exact h
      · rw [List.drop_eq_nil_of_le h] at hy; cases hy
    have k1 := h1 hx0 hy0
    have k2 : lt y (L[s - 1]'(by omega)) = false := asc_drop S hR (fun _ => k1) y hy
    obtain ⟨i, hi, rfl⟩ := List.mem_take_iff_getElem.1 hx
    by_cases q : i = s - 1
    · subst q; exact k2
    · have := List.pairwise_iff_getElem.1 hL i (s - 1) (by omega) (by omega) (by omega)
      exact le_trans' S this k2
  · have hx0 : s < L.length := by
      rcases Nat.lt_or_ge s L.length with h | h
      · exact h
      · rw [List.drop_eq_nil_of_le h] at hx; cases hx
    have hy0 : 0 < e := by
      rcases Nat.eq_zero_or_pos e with h | h
      · subst h; simp at hy
      · exact h
    have k1 := h2 hy0 hx0
    have k2 : lt y L[s] = true := asc_take S hR he (fun _ => k1) y hy
    obtain ⟨i, hi, rfl⟩ := List.mem_drop_iff_getElem.1 hx
    by_cases q : i = 0
    · subst q; simpa using k2
    · have := List.pairwise_iff_getElem.1 hL s (s + i) (by omega) (by omega) (by omega)
      rcases S.neg _ (L[s + i]) _ k2 with h | h
      · simpa [Nat.add_comm] using h
      · rw [this] at h; cases h

/-- Sorted block by block. -/
def bl (lt : α → α → Bool) (s : Nat) : Nat → List α → List α
  | 0, l => l
  | f + 1, l => if l.length ≤ s then srt lt l else srt lt (l.take s) ++ bl lt s f (l.drop s)
def blk (lt : α → α → Bool) (s : Nat) (l : List α) : List α := bl lt s (l.length + 1) l
theorem bl_fuel {s : Nat} (hs : 0 < s) : ∀ (f g : Nat) (l : List α), l.length < f → l.length < g → bl lt s f l = bl lt s g l
  | 0, _, _, h, _ => by omega
  | _, 0, _, _, h => by omega
  | f + 1, g + 1, l, h1, h2 => by
    unfold bl
    split
    · rfl
    · rw [bl_fuel hs f g (l.drop s) (by simp; omega) (by simp; omega)]
theorem blk_short {s : Nat} {l : List α} (h : l.length ≤ s) : blk lt s l = srt lt l := by
  unfold blk bl; rw [if_pos h]
theorem blk_long {s : Nat} {l : List α} (hs : 0 < s) (h : s < l.length) : blk lt s l = srt lt (l.take s) ++ blk lt s (l.drop s) := by
  unfold blk
  rw [bl, if_neg (by omega)]
  congr 1
  exact bl_fuel hs _ _ _ (by simp; omega) (by simp)
/-- A whole block, be it the last. -/
theorem blk_next {s : Nat} {l : List α} (hs : 0 < s) (h : s ≤ l.length) : blk lt s l = srt lt (l.take s) ++ blk lt s (l.drop s) := by
  rcases Nat.lt_or_ge s l.length with h1 | h1
  · exact blk_long hs h1
  · have h2 : l.drop s = [] := List.drop_eq_nil_of_le h1
    rw [blk_short h1, h2, List.take_of_length_le h1, blk_short (by simp), srt_nil, List.append_nil]
theorem blk_length {s : Nat} (hs : 0 < s) : ∀ (n : Nat) (l : List α), l.length ≤ n → (blk lt s l).length = l.length
  | 0, l, h => by
    rw [blk_short (by omega), srt_length]
  | n + 1, l, h => by
    rcases Nat.lt_or_ge s l.length with h1 | h1
    · rw [blk_long hs h1, List.length_append, srt_length, blk_length hs n (l.drop s) (by simp; omega)]
      simp; omega
    · rw [blk_short h1, srt_length]
theorem blk_len {s : Nat} (hs : 0 < s) (l : List α) : (blk lt s l).length = l.length := blk_length hs _ l (Nat.le_refl _)
/-- Two whole blocks side by side give one of twice the size. -/
theorem blk_two (S : SW lt) {s : Nat} {l : List α} (hs : 0 < s) (h : 2 * s ≤ l.length) :
    blk lt s l = srt lt (l.take s) ++ srt lt ((l.drop s).take s) ++ blk lt s (l.drop (2 * s)) ∧ mrg lt (srt lt (l.take s)) (srt lt ((l.drop s).take s)) = srt lt (l.take (2 * s)) := by
  constructor
  · rw [blk_next hs (by omega), blk_next hs (by simp; omega), List.drop_drop, ← List.append_assoc, show s + s = 2 * s by omega]
  · rw [srt_mrg S]
    congr 1
    rw [show 2 * s = s + s by omega, List.take_add]
/-- A whole block and a shorter one behind it. -/
theorem blk_rest (S : SW lt) {s : Nat} {l : List α} (hs : 0 < s) (h : s < l.length) (h2 : l.length ≤ 2 * s) :
    blk lt s l = srt lt (l.take s) ++ srt lt (l.drop s) ∧ mrg lt (srt lt (l.take s)) (srt lt (l.drop s)) = srt lt l := by
  constructor
  · rw [blk_long hs h, blk_short (l := l.drop s) (by simp; omega)]
  · rw [srt_mrg S, List.take_append_drop]
end

end Go.Proofs.YtbgmbanebmlghaaGreatDoor.Mg

namespace Go.Proofs.YtbgmbanebmlghaaGreatDoor.Mg
set_option linter.unusedVariables false
section
variable {α : Type} (lt : α → α → Bool)

/-- The comparisons of a merge. -/
def mcnt : List α → List α → Nat
  | [], _ => 0
  | _ :: _, [] => 0
  | x :: l, y :: r => 1 + if lt y x then mcnt (x :: l) r else mcnt l (y :: r)
termination_by l r => l.length + r.length
theorem mcnt_nil (r : List α) : mcnt lt [] r = 0 := by unfold mcnt; rfl
theorem nil_mcnt (l : List α) : mcnt lt l [] = 0 := by
  cases l with
  | nil => exact mcnt_nil lt []
  | cons x l => unfold mcnt; rfl
theorem mcnt_cons (x : α) (l : List α) (y : α) (r : List α) : mcnt lt (x :: l) (y :: r) = 1 + if lt y x then mcnt lt (x :: l) r else mcnt lt l (y :: r) := by
  conv => lhs; unfold mcnt
theorem mcnt_lt {x : α} {l : List α} {y : α} {r : List α} (h : lt y x = true) : mcnt lt (x :: l) (y :: r) = 1 + mcnt lt (x :: l) r := by rw [mcnt_cons, if_pos h]
theorem mcnt_ge {x : α} {l : List α} {y : α} {r : List α} (h : lt y x = false) : mcnt lt (x :: l) (y :: r) = 1 + mcnt lt l (y :: r) := by rw [mcnt_cons, if_neg (by rw [h]; simp)]
/-- Fewer comparisons than elements, unless there is none. -/
theorem mcnt_bound : ∀ (l r : List α), mcnt lt l r < l.length + r.length ∨ l.length + r.length = 0
  | [], r => by rw [mcnt_nil, List.length_nil]; omega
  | x :: l, [] => by rw [nil_mcnt]; simp
  | x :: l, y :: r => by
    left
    cases h : lt y x
    · rw [mcnt_ge lt h]
      have := mcnt_bound l (y :: r)
      simp at this ⊢; omega
    · rw [mcnt_lt lt h]
      have := mcnt_bound (x :: l) r
      simp at this ⊢; omega
termination_by l r => l.length + r.length
theorem mcnt_le (l r : List α) : mcnt lt l r ≤ l.length + r.length := by
  rcases mcnt_bound lt l r with h | h
  · omega
  · rw [List.eq_nil_of_length_eq_zero (by omega : l.length = 0), mcnt_nil]; omega

/-- Merge sort, and its comparisons. -/
def msF : Nat → List α → List α × Nat
  | 0, l => (l, 0)
  | f + 1, l => if l.length < 2 then (l, 0) else
    let a := msF f (l.take (l.length / 2))
    let b := msF f (l.drop (l.length / 2))
    (mrg lt a.1 b.1, a.2 + b.2 + mcnt lt a.1 b.1)
def ms (l : List α) : List α × Nat := msF lt l.length l
theorem msF_fuel : ∀ (f g : Nat) (l : List α), l.length ≤ f → l.length ≤ g → msF lt f l = msF lt g l
  | 0, 0, l, _, _ => rfl
  | 0, g + 1, l, h, _ => by
    unfold msF; rw [if_pos (by omega)]
  | f + 1, 0, l, _, h => by
    unfold msF; rw [if_pos (by omega)]
  | f + 1, g + 1, l, h1, h2 => by
    unfold msF
    split
    · rfl
    · rw [msF_fuel f g (l.take (l.length / 2)) (by simp; omega) (by simp; omega), msF_fuel f g (l.drop (l.length / 2)) (by simp; omega) (by simp; omega)]
theorem ms_small {l : List α} (h : l.length < 2) : ms lt l = (l, 0) := by
  unfold ms
  rw [msF_fuel lt _ (l.length + 1) l (Nat.le_refl _) (by omega), msF, if_pos h]
theorem ms_big {l : List α} (h : 2 ≤ l.length) : ms lt l = (mrg lt (ms lt (l.take (l.length / 2))).1 (ms lt (l.drop (l.length / 2))).1, (ms lt (l.take (l.length / 2))).2 + (ms lt (l.drop (l.length / 2))).2 + mcnt lt (ms lt (l.take (l.length / 2))).1 (ms lt (l.drop (l.length / 2))).1) := by
  unfold ms
  rw [msF_fuel lt _ (l.length + 1) l (Nat.le_refl _) (by omega), msF, if_neg (by omega)]
  rw [msF_fuel lt l.length (l.take (l.length / 2)).length (l.take (l.length / 2)) (by simp; omega) (Nat.le_refl _), msF_fuel lt l.length (l.drop (l.length / 2)).length (l.drop (l.length / 2)) (by simp) (Nat.le_refl _)]
variable {lt}
theorem ms_srt (S : SW lt) : ∀ (n : Nat) (l : List α), l.length ≤ n → (ms lt l).1 = srt lt l
  | 0, l, h => by
    rw [ms_small lt (by omega), List.eq_nil_of_length_eq_zero (by omega : l.length = 0)]; rfl
  | n + 1, l, h => by
    rcases Nat.lt_or_ge l.length 2 with h2 | h2
    · rw [ms_small lt h2]
      match l, h2 with
      | [], _ => rfl
      | [x], _ => exact (srt_one x).symm
    · rw [ms_big lt h2, ms_srt S n (l.take (l.length / 2)) (by simp; omega), ms_srt S n (l.drop (l.length / 2)) (by simp; omega), srt_mrg S, List.take_append_drop]
theorem ms_bound (S : SW lt) : ∀ (k : Nat) (l : List α), l.length ≤ 2 ^ k → (ms lt l).2 ≤ k * l.length
  | 0, l, h => by
    rw [ms_small lt (by simp at h; omega)]; simp
  | k + 1, l, h => by
    rcases Nat.lt_or_ge l.length 2 with h2 | h2
    · rw [ms_small lt h2]; simp
    · rw [ms_big lt h2]
      have hp : 2 ^ (k + 1) = 2 * 2 ^ k := by rw [Nat.pow_succ]; omega
      have h1 := ms_bound S k (l.take (l.length / 2)) (by simp; omega)
      have h3 := ms_bound S k (l.drop (l.length / 2)) (by simp; omega)
      have h4 := mcnt_le lt (ms lt (l.take (l.length / 2))).1 (ms lt (l.drop (l.length / 2))).1
      rw [ms_srt S _ _ (Nat.le_refl _), ms_srt S _ _ (Nat.le_refl _), srt_length, srt_length] at h4
      rw [List.length_take, Nat.min_eq_left (by omega)] at h1 h4
      rw [List.length_drop] at h3 h4
      have e1 : k * (l.length / 2) + k * (l.length - l.length / 2) = k * l.length := by rw [← Nat.mul_add]; congr 1; omega
      rw [ms_srt S _ _ (Nat.le_refl _), ms_srt S _ _ (Nat.le_refl _)]
      rw [Nat.add_mul, Nat.one_mul]
      show (ms lt (l.take (l.length / 2))).2 + (ms lt (l.drop (l.length / 2))).2 + mcnt lt _ _ ≤ _
      omega
end

end Go.Proofs.YtbgmbanebmlghaaGreatDoor.Mg

namespace Go.Proofs.YtbgmbanebmlghaaGreatDoor.Mg
set_option linter.unusedVariables false
section
variable {α : Type} (key : α → Int)
abbrev k2 : α × Nat → Int := fun p => key p.1
def tag (l : List α) : List (α × Nat) := l.zipIdx
def srtT (l : List α) : List (α × Nat) := srt (ltK (k2 key)) (tag l)
def pos (l : List α) : List Nat := (srtT key l).map Prod.snd

end

end Go.Proofs.YtbgmbanebmlghaaGreatDoor.Mg

namespace Go.Proofs.YtbgmbanebmlghaaGreatDoor.Ad
open Go.Proofs.YtbgmbanebmlghaaGreatDoor.Mg
set_option linter.unusedVariables false

/-- The lower index of the next merge on a stack of lengths; e: after the last push. -/
def nxt (e : Bool) (s : List Int) : Option Nat :=
  if s.length < 2 then none
  else if e = true then (if 3 ≤ s.length ∧ s.getD (s.length - 3) 0 < s.getD (s.length - 1) 0 then some (s.length - 3) else some (s.length - 2))
  else if (3 ≤ s.length ∧ s.getD (s.length - 3) 0 ≤ s.getD (s.length - 1) 0 + s.getD (s.length - 2) 0) ∨ (4 ≤ s.length ∧ s.getD (s.length - 4) 0 ≤ s.getD (s.length - 3) 0 + s.getD (s.length - 2) 0) then
    (if s.getD (s.length - 3) 0 < s.getD (s.length - 1) 0 then some (s.length - 3) else some (s.length - 2))
  else if s.getD (s.length - 2) 0 ≤ s.getD (s.length - 1) 0 then some (s.length - 2) else none

theorem nxt_lt {e : Bool} {s : List Int} {k : Nat} (h : nxt e s = some k) : k + 1 < s.length := by
  unfold nxt at h
  split at h
  · cases h
  · split at h
    · split at h
      · injection h; omega
      · injection h; omega
    · split at h
      · rename_i h3
        split at h
        · injection h; omega
        · injection h; omega
      · split at h
        · injection h; omega
        · cases h

theorem nxt_end {s : List Int} (h : nxt true s = none) : s.length < 2 := by
  unfold nxt at h
  split at h
  · assumption
  · simp only [if_true] at h
    split at h <;> cases h

theorem nxt_small {e : Bool} {s : List Int} (h : s.length < 2) : nxt e s = none := by
  unfold nxt
  rw [if_pos h]

variable {α : Type} (lt : α → α → Bool)

def jn (k : Nat) (ps : List (List α)) : List (List α) := ps.take k ++ mrg lt (ps.getD k []) (ps.getD (k + 1) []) :: ps.drop (k + 2)
def st (k : Nat) (s : List Int) : List Int := s.take k ++ (s.getD k 0 + s.getD (k + 1) 0) :: s.drop (k + 2)
def sz (ps : List (List α)) : List Int := ps.map fun p => (p.length : Int)

theorem sz_length (ps : List (List α)) : (sz ps).length = ps.length := by simp [sz]
theorem sz_getD (ps : List (List α)) (k : Nat) : (sz ps).getD k 0 = ((ps.getD k []).length : Int) := by
  simp only [sz, List.getD_eq_getElem?_getD, List.getElem?_map]
  cases ps[k]? <;> rfl
theorem sz_snoc (ps : List (List α)) (p : List α) : sz (ps ++ [p]) = sz ps ++ [(p.length : Int)] := by simp [sz]

theorem jn_length {k : Nat} {ps : List (List α)} (h : k + 1 < ps.length) : (jn lt k ps).length + 1 = ps.length := by
  simp only [jn, List.length_append, List.length_take, List.length_cons, List.length_drop]; omega
theorem st_length {k : Nat} {s : List Int} (h : k + 1 < s.length) : (st k s).length + 1 = s.length := by
  simp only [st, List.length_append, List.length_take, List.length_cons, List.length_drop]; omega
theorem sz_jn (k : Nat) (ps : List (List α)) : sz (jn lt k ps) = st k (sz ps) := by
  unfold jn st
  rw [sz_getD, sz_getD]
  simp [sz, mrg_length]

theorem split2 {β : Type} {ps : List β} {k : Nat} (d : β) (h : k + 1 < ps.length) : ps = ps.take k ++ ps.getD k d :: ps.getD (k + 1) d :: ps.drop (k + 2) := by
  have h1 : ps.drop k = ps[k]'(by omega) :: ps.drop (k + 1) := List.drop_eq_getElem_cons (by omega)
  have h2 : ps.drop (k + 1) = ps[k + 1]'h :: ps.drop (k + 1 + 1) := List.drop_eq_getElem_cons h
  have g1 : ps.getD k d = ps[k]'(by omega) := by simp [List.getD_eq_getElem?_getD, List.getElem?_eq_getElem (by omega : k < ps.length)]
  have g2 : ps.getD (k + 1) d = ps[k + 1]'h := by simp [List.getD_eq_getElem?_getD, List.getElem?_eq_getElem h]
  rw [g1, g2]
  conv => lhs; rw [← List.take_append_drop k ps, h1, h2]

/-- All lists of the stack, merged. -/
def jall (ps : List (List α)) : List α := ps.foldr (mrg lt) []
theorem jall_append (S : SW lt) (a b : List (List α)) : jall lt (a ++ b) = mrg lt (jall lt a) (jall lt b) := by
  induction a with
  | nil => simp [jall, mrg_nil]
  | cons x t ih =>
    show mrg lt x (jall lt (t ++ b)) = mrg lt (mrg lt x (jall lt t)) (jall lt b)
    rw [ih, mrg_assoc S]
theorem jall_one (p : List α) : jall lt [p] = p := nil_mrg p
theorem jall_jn (S : SW lt) {k : Nat} {ps : List (List α)} (h : k + 1 < ps.length) : jall lt (jn lt k ps) = jall lt ps := by
  conv => rhs; rw [split2 [] h]
  unfold jn
  rw [jall_append lt S, jall_append lt S]
  congr 1
  show mrg lt (mrg lt _ _) (jall lt _) = mrg lt _ (mrg lt _ (jall lt _))
  exact mrg_assoc S _ _ _

/-- The merges that are due, one behind the other: what they leave, and their comparisons. -/
def runF (e : Bool) : Nat → List (List α) → List (List α) × Nat
  | 0, ps => (ps, 0)
  | f + 1, ps => match nxt e (sz ps) with
    | none => (ps, 0)
    | some k => ((runF e f (jn lt k ps)).1, mcnt lt (ps.getD k []) (ps.getD (k + 1) []) + (runF e f (jn lt k ps)).2)
def settle (e : Bool) (ps : List (List α)) : List (List α) × Nat := runF lt e ps.length ps
theorem settle_none {e : Bool} {ps : List (List α)} (h : nxt e (sz ps) = none) : settle lt e ps = (ps, 0) := by
  unfold settle
  cases hl : ps.length with
  | zero => rfl
  | succ f => simp only [runF, h]
theorem settle_some {e : Bool} {ps : List (List α)} {k : Nat} (h : nxt e (sz ps) = some k) :
    settle lt e ps = ((settle lt e (jn lt k ps)).1, mcnt lt (ps.getD k []) (ps.getD (k + 1) []) + (settle lt e (jn lt k ps)).2) := by
  have h1 := nxt_lt h
  rw [sz_length] at h1
  have h2 := jn_length lt h1
  unfold settle
  rw [show ps.length = (jn lt k ps).length + 1 by omega]
  simp only [runF, h]

/-- The indices of these merges, on the lengths. -/
def idxF (e : Bool) : Nat → List Int → List Int × List Nat
  | 0, s => (s, [])
  | f + 1, s => match nxt e s with
    | none => (s, [])
    | some k => ((idxF e f (st k s)).1, k :: (idxF e f (st k s)).2)
def idx (e : Bool) (s : List Int) : List Int × List Nat := idxF e s.length s
theorem idx_none {e : Bool} {s : List Int} (h : nxt e s = none) : idx e s = (s, []) := by
  unfold idx
  cases hl : s.length with
  | zero => rfl
  | succ f => simp only [idxF, h]
theorem idx_some {e : Bool} {s : List Int} {k : Nat} (h : nxt e s = some k) : idx e s = ((idx e (st k s)).1, k :: (idx e (st k s)).2) := by
  have h1 := nxt_lt h
  have h2 := st_length h1
  unfold idx
  rw [show s.length = (st k s).length + 1 by omega]
  simp only [idxF, h]

/-- Merges at given indices. -/
def fol : List Nat → List (List α) → List (List α) × Nat
  | [], ps => (ps, 0)
  | k :: t, ps => ((fol t (jn lt k ps)).1, mcnt lt (ps.getD k []) (ps.getD (k + 1) []) + (fol t (jn lt k ps)).2)
def okI : List Nat → Nat → Prop
  | [], _ => True
  | k :: t, n => k + 1 < n ∧ okI t (n - 1)

theorem fol_idx (e : Bool) : ∀ (n : Nat) (ps : List (List α)), ps.length = n → fol lt (idx e (sz ps)).2 ps = settle lt e ps ∧ (idx e (sz ps)).1 = sz (settle lt e ps).1 ∧ okI (idx e (sz ps)).2 ps.length
  | n, ps, hn => by
    cases h : nxt e (sz ps) with
    | none =>
      rw [idx_none h, settle_none lt h]
      exact ⟨rfl, rfl, trivial⟩
    | some k =>
      have h1 := nxt_lt h
      rw [sz_length] at h1
      have h2 := jn_length lt h1
      obtain ⟨a, b, c⟩ := fol_idx e (n - 1) (jn lt k ps) (by omega)
      rw [idx_some h, settle_some lt h]
      rw [sz_jn] at a b c
      refine ⟨?_, b, h1, ?_⟩
      · show ((fol lt _ _).1, _ + (fol lt _ _).2) = _
        rw [a]
      · rw [show ps.length - 1 = (jn lt k ps).length by omega]; exact c
  termination_by n => n
  decreasing_by all_goals omega

theorem settle_jall (S : SW lt) (e : Bool) : ∀ (n : Nat) (ps : List (List α)), ps.length = n → jall lt (settle lt e ps).1 = jall lt ps ∧ (settle lt e ps).1.length ≤ ps.length ∧ (0 < ps.length → 0 < (settle lt e ps).1.length)
  | n, ps, hn => by
    cases h : nxt e (sz ps) with
    | none =>
      rw [settle_none lt h]
      exact ⟨rfl, Nat.le_refl _, id⟩
    | some k =>
      have h1 := nxt_lt h
      rw [sz_length] at h1
      have h2 := jn_length lt h1
      obtain ⟨a, b, c⟩ := settle_jall S e (n - 1) (jn lt k ps) (by omega)
      rw [settle_some lt h]
      exact ⟨by rw [a, jall_jn lt S h1], by show (settle lt e (jn lt k ps)).1.length ≤ _; omega, fun _ => c (by omega)⟩
  termination_by n => n
  decreasing_by all_goals omega

theorem settle_end : ∀ (n : Nat) (ps : List (List α)), ps.length = n → (settle lt true ps).1.length < 2
  | n, ps, hn => by
    cases h : nxt true (sz ps) with
    | none =>
      rw [settle_none lt h]
      have := nxt_end h
      rwa [sz_length] at this
    | some k =>
      have h1 := nxt_lt h
      rw [sz_length] at h1
      have h2 := jn_length lt h1
      rw [settle_some lt h]
      exact settle_end (n - 1) (jn lt k ps) (by omega)
  termination_by n => n
  decreasing_by all_goals omega

/-- All pushes: the stack of lists and the comparisons. -/
def pushes (ps : List (List α)) : List (List α) × Nat :=
  ps.foldl (fun s p => ((settle lt false (s.1 ++ [p])).1, s.2 + (settle lt false (s.1 ++ [p])).2)) ([], 0)
theorem pushes_snoc (ps : List (List α)) (p : List α) : pushes lt (ps ++ [p]) = ((settle lt false ((pushes lt ps).1 ++ [p])).1, (pushes lt ps).2 + (settle lt false ((pushes lt ps).1 ++ [p])).2) := by simp [pushes]
theorem pushes_jall (S : SW lt) (ps : List (List α)) : jall lt (pushes lt ps).1 = jall lt ps ∧ (pushes lt ps).1.length ≤ ps.length ∧ (0 < ps.length → 0 < (pushes lt ps).1.length) := by
  refine list_snoc (P := fun ps => jall lt (pushes lt ps).1 = jall lt ps ∧ (pushes lt ps).1.length ≤ ps.length ∧ (0 < ps.length → 0 < (pushes lt ps).1.length)) ⟨rfl, Nat.le_refl _, id⟩ (fun l x ih => ?_) ps
  obtain ⟨a, b, c⟩ := settle_jall lt S false _ ((pushes lt l).1 ++ [x]) rfl
  rw [pushes_snoc]
  refine ⟨?_, ?_, fun _ => c (by simp)⟩
  · show jall lt (settle lt false _).1 = _
    rw [a, jall_append lt S, jall_append lt S, ih.1]
  · show (settle lt false _).1.length ≤ _
    rw [List.length_append] at *
    simp at *
    omega

/-- The whole: the list and the comparisons. -/
def adS (ps : List (List α)) : List α := ((settle lt true (pushes lt ps).1).1).getD 0 []
def adC (ps : List (List α)) : Nat := (pushes lt ps).2 + (settle lt true (pushes lt ps).1).2
theorem ad_end (S : SW lt) (ps : List (List α)) (h : 0 < ps.length) : (settle lt true (pushes lt ps).1).1 = [jall lt ps] := by
  obtain ⟨a1, a2, a3⟩ := pushes_jall lt S ps
  obtain ⟨b1, b2, b3⟩ := settle_jall lt S true _ (pushes lt ps).1 rfl
  have c := settle_end lt _ (pushes lt ps).1 rfl
  have d := b3 (a3 h)
  generalize (settle lt true (pushes lt ps).1).1 = z at *
  match z, c, d with
  | [p], _, _ => rw [← a1, ← b1, jall_one]
theorem adS_eq (S : SW lt) (ps : List (List α)) : adS lt ps = jall lt ps := by
  cases ps with
  | nil => rfl
  | cons p t => unfold adS; rw [ad_end lt S (p :: t) (by simp)]; rfl
/-- The same on lengths: all merges of all pushes, then those at the end. -/
def idxs (cs : List Int) : List Int × List Nat :=
  cs.foldl (fun s c => ((idx false (s.1 ++ [c])).1, s.2 ++ (idx false (s.1 ++ [c])).2)) ([], [])
theorem idxs_snoc (cs : List Int) (c : Int) : idxs (cs ++ [c]) = ((idx false ((idxs cs).1 ++ [c])).1, (idxs cs).2 ++ (idx false ((idxs cs).1 ++ [c])).2) := by simp [idxs]
theorem idxs_sz (ps : List (List α)) : (idxs (sz ps)).1 = sz (pushes lt ps).1 := by
  refine list_snoc (P := fun ps => (idxs (sz ps)).1 = sz (pushes lt ps).1) rfl (fun l x ih => ?_) ps
  rw [sz_snoc, idxs_snoc, pushes_snoc]
  show (idx false _).1 = sz (settle lt false _).1
  rw [ih, ← sz_snoc]
  exact (fol_idx lt false _ _ rfl).2.1

end Go.Proofs.YtbgmbanebmlghaaGreatDoor.Ad

namespace Go.Proofs.YtbgmbanebmlghaaGreatDoor.Mg
set_option linter.unusedVariables false

/-- Leaf i beats leaf m: the one that is not done, the lesser key, the lesser place. -/
def beats (ks : List Int) (ds : List Bool) (i m : Nat) : Bool :=
  if ds.getD i false != ds.getD m false then ds.getD m false
  else decide (ks.getD i 0 < ks.getD m 0) || (decide (ks.getD i 0 = ks.getD m 0) && decide (i < m))

def BeatsP (d1 d2 : Bool) (x y : Int) (i m : Nat) : Prop := (d1 = d2 ∧ (x < y ∨ x = y ∧ i < m)) ∨ (d1 = false ∧ d2 = true)
theorem beats_iff (ks : List Int) (ds : List Bool) (i m : Nat) : beats ks ds i m = true ↔ BeatsP (ds.getD i false) (ds.getD m false) (ks.getD i 0) (ks.getD m 0) i m := by
  unfold beats BeatsP
  generalize ds.getD i false = d1
  generalize ds.getD m false = d2
  generalize ks.getD i 0 = x
  generalize ks.getD m 0 = y
  cases d1 <;> cases d2 <;> simp
theorem beats_no {ks : List Int} {ds : List Bool} {i m : Nat} : beats ks ds i m = false ↔ ¬ BeatsP (ds.getD i false) (ds.getD m false) (ks.getD i 0) (ks.getD m 0) i m := by
  rw [← beats_iff]; simp
theorem beats_sw (ks : List Int) (ds : List Bool) : SW (beats ks ds) where
  asym a b h := by
    rw [beats_iff] at h
    rw [beats_no]
    unfold BeatsP at *
    generalize ds.getD a false = d1 at *
    generalize ds.getD b false = d2 at *
    generalize ks.getD a 0 = x at *
    generalize ks.getD b 0 = y at *
    cases d1 <;> cases d2 <;> simp only [true_and, false_and, and_true, and_false, or_false, false_or, reduceCtorEq, not_false_eq_true] at h ⊢ <;> omega
  trans a b c h1 h2 := by
    rw [beats_iff] at *
    unfold BeatsP at *
    generalize ds.getD a false = d1 at *
    generalize ds.getD b false = d2 at *
    generalize ds.getD c false = d3 at *
    generalize ks.getD a 0 = x at *
    generalize ks.getD b 0 = y at *
    generalize ks.getD c 0 = z at *
    cases d1 <;> cases d2 <;> cases d3 <;> simp only [true_and, false_and, and_true, and_false, or_false, or_true, reduceCtorEq] at h1 h2 ⊢ <;> omega
  neg a b c h := by
    rw [beats_iff] at *
    rw [beats_iff]
    unfold BeatsP at *
    generalize ds.getD a false = d1 at *
    generalize ds.getD b false = d2 at *
    generalize ds.getD c false = d3 at *
    generalize ks.getD a 0 = x at *
    generalize ks.getD b 0 = y at *
    generalize ks.getD c 0 = z at *
    cases d1 <;> cases d2 <;> cases d3 <;> simp only [true_and, false_and, and_true, and_false, or_false, or_true, true_or, reduceCtorEq] at h ⊢ <;> omega
theorem beats_self (ks : List Int) (ds : List Bool) (i : Nat) : beats ks ds i i = false := by
  unfold beats; simp
theorem beats_tot {ks : List Int} {ds : List Bool} {i m : Nat} (h1 : beats ks ds i m = false) (h2 : beats ks ds m i = false) : i = m := by
  rw [beats_no] at h1 h2
  unfold BeatsP at *
  generalize ds.getD i false = d1 at *
  generalize ds.getD m false = d2 at *
  generalize ks.getD i 0 = x at *
  generalize ks.getD m 0 = y at *
  cases d1 <;> cases d2 <;> simp only [true_and, false_and, and_true, and_false, or_false, or_true, reduceCtorEq, not_true_eq_false] at h1 h2 <;> omega

/-- Leaf w wins among k leaves. -/
def Win (ks : List Int) (ds : List Bool) (k w : Nat) : Prop := w < k ∧ ∀ i, i < k → beats ks ds i w = false
theorem win_one {ks : List Int} {ds : List Bool} {k w v : Nat} (h1 : Win ks ds k w) (h2 : Win ks ds k v) : w = v := beats_tot (h2.2 w h1.1) (h1.2 v h2.1)

/-- Leaf i stands below node p of a tree of k leaves. -/
def Under (k p i : Nat) : Prop := ∃ s, (k + i) / 2 ^ s = p
theorem under_leaf {k p i : Nat} (hp : k ≤ p) (hi : i < k) (h : Under k p i) : p = k + i := by
  obtain ⟨s, hs⟩ := h
  cases s with
  | zero => simpa using hs.symm
  | succ s =>
    exfalso
    have h1 : (k + i) / 2 ^ (s + 1) ≤ (k + i) / 2 := by
      rw [Nat.pow_succ, Nat.mul_comm, ← Nat.div_div_eq_div_mul]
      exact Nat.div_le_self _ _
    omega
theorem under_inner {k p i : Nat} (hp : p < k) (h : Under k p i) : Under k (2 * p) i ∨ Under k (2 * p + 1) i := by
  obtain ⟨s, hs⟩ := h
  cases s with
  | zero => exfalso; simp at hs; omega
  | succ s =>
    rw [Nat.pow_succ, ← Nat.div_div_eq_div_mul] at hs
    have : (k + i) / 2 ^ s = 2 * p ∨ (k + i) / 2 ^ s = 2 * p + 1 := by omega
    rcases this with h | h
    · exact .inl ⟨s, h⟩
    · exact .inr ⟨s, h⟩
theorem under_root : ∀ (m : Nat), 0 < m → ∃ s, m / 2 ^ s = 1
  | m, hm => by
    by_cases h : m = 1
    · exact ⟨0, by simp [h]⟩
    · obtain ⟨s, hs⟩ := under_root (m / 2) (by omega)
      exact ⟨s + 1, by rw [Nat.pow_succ, Nat.mul_comm, ← Nat.div_div_eq_div_mul]; exact hs⟩
termination_by m => m
decreasing_by omega

/-- Node p's winner. -/
def NodeWin (ks : List Int) (ds : List Bool) (k p w : Nat) : Prop := w < k ∧ ∀ i, i < k → Under k p i → beats ks ds i w = false
theorem node_leaf (ks : List Int) (ds : List Bool) {k i : Nat} (hi : i < k) : NodeWin ks ds k (k + i) i :=
  ⟨hi, fun j hj hu => by
    have := under_leaf (by omega) hj hu
    obtain rfl : i = j := by omega
    exact beats_self ks ds i⟩
theorem node_inner {ks : List Int} {ds : List Bool} {k p a b : Nat} (hp : p < k) (ha : NodeWin ks ds k (2 * p) a) (hb : NodeWin ks ds k (2 * p + 1) b) :
    (beats ks ds b a = false → NodeWin ks ds k p a) ∧ (beats ks ds a b = false → NodeWin ks ds k p b) := by
  have S := beats_sw ks ds
  constructor
  · intro h
    refine ⟨ha.1, fun i hi hu => ?_⟩
    rcases under_inner hp hu with h1 | h1
    · exact ha.2 i hi h1
    · cases hx : beats ks ds i a with
      | false => rfl
      | true =>
        rcases S.neg i b a hx with h2 | h2
        · rw [hb.2 i hi h1] at h2; cases h2
        · rw [h] at h2; cases h2
  · intro h
    refine ⟨hb.1, fun i hi hu => ?_⟩
    rcases under_inner hp hu with h1 | h1
    · cases hx : beats ks ds i b with
      | false => rfl
      | true =>
        rcases S.neg i a b hx with h2 | h2
        · rw [ha.2 i hi h1] at h2; cases h2
        · rw [h] at h2; cases h2
    · exact hb.2 i hi h1
theorem node_root {ks : List Int} {ds : List Bool} {k w : Nat} (h : NodeWin ks ds k 1 w) : Win ks ds k w :=
  ⟨h.1, fun i hi => h.2 i hi (under_root (k + i) (by have := h.1; omega))⟩

/-- The winner, found. -/
def winF (ks : List Int) (ds : List Bool) : Nat → Nat
  | 0 => 0
  | k + 1 => if beats ks ds k (winF ks ds k) then k else winF ks ds k
theorem winF_win (ks : List Int) (ds : List Bool) : ∀ k, Win ks ds (k + 1) (winF ks ds (k + 1))
  | 0 => by
    have : winF ks ds 1 = 0 := by unfold winF; split <;> rfl
    rw [this]
    exact ⟨by omega, fun i hi => by
      obtain rfl : i = 0 := by omega
      exact beats_self ks ds 0⟩
  | k + 1 => by
    have ih := winF_win ks ds k
    have S := beats_sw ks ds
    rw [winF]
    cases h : beats ks ds (k + 1) (winF ks ds (k + 1)) with
    | false =>
      rw [if_neg (by simp)]
      refine ⟨by have := ih.1; omega, fun i hi => ?_⟩
      rcases Nat.lt_or_ge i (k + 1) with h1 | h1
      · exact ih.2 i h1
      · obtain rfl : i = k + 1 := by omega
        exact h
    | true =>
      rw [if_pos rfl]
      refine ⟨by omega, fun i hi => ?_⟩
      rcases Nat.lt_or_ge i (k + 1) with h1 | h1
      · cases hx : beats ks ds i (k + 1) with
        | false => rfl
        | true => have := S.trans _ _ _ hx h; rw [ih.2 i h1] at this; cases this
      · obtain rfl : i = k + 1 := by omega
        exact beats_self ks ds _
theorem winF_eq {ks : List Int} {ds : List Bool} {k w : Nat} (h : Win ks ds k w) : winF ks ds k = w := by
  obtain ⟨m, rfl⟩ : ∃ m, k = m + 1 := ⟨k - 1, by have := h.1; omega⟩
  exact win_one (winF_win ks ds m) h

/-- What is left of each list: its next key, and whether it is done. -/
def hk : List (Int × Int) → Int
  | [] => 0
  | x :: _ => x.1
def keysOf (rs : List (List (Int × Int))) : List Int := rs.map hk
def doneOf (rs : List (List (Int × Int))) : List Bool := rs.map List.isEmpty
theorem keysOf_at {rs : List (List (Int × Int))} {i : Nat} (h : i < rs.length) : (keysOf rs).getD i 0 = hk (rs.getD i []) := by
  unfold keysOf
  rw [List.getD_eq_getElem?_getD, List.getD_eq_getElem?_getD, List.getElem?_map, List.getElem?_eq_getElem h]; rfl
theorem doneOf_at {rs : List (List (Int × Int))} {i : Nat} (h : i < rs.length) : (doneOf rs).getD i false = (rs.getD i []).isEmpty := by
  unfold doneOf
  rw [List.getD_eq_getElem?_getD, List.getD_eq_getElem?_getD, List.getElem?_map, List.getElem?_eq_getElem h]; rfl

abbrev ltF : Int × Int → Int × Int → Bool := ltK Prod.fst
/-- All lists are done where the winner is. -/
theorem all_done {rs : List (List (Int × Int))} {w : Nat} (h : Win (keysOf rs) (doneOf rs) rs.length w) (hd : rs.getD w [] = []) : rs.flatten = [] := by
  rw [List.flatten_eq_nil_iff]
  intro l hl
  obtain ⟨i, hi, rfl⟩ := List.getElem_of_mem hl
  have h1 := h.2 i hi
  unfold beats at h1
  rw [doneOf_at hi, doneOf_at h.1, hd] at h1
  have e : rs.getD i [] = rs[i] := by rw [List.getD_eq_getElem?_getD, List.getElem?_eq_getElem hi]; rfl
  rw [e] at h1
  cases hx : rs[i] with
  | nil => rfl
  | cons a t => rw [hx] at h1; simp at h1

theorem asc_head {x : Int × Int} {t : List (Int × Int)} (h : Asc ltF (x :: t)) : ∀ y ∈ x :: t, ltF y x = false := by
  intro y hy
  rcases List.mem_cons.1 hy with rfl | hy
  · simp [ltF, ltK]
  · exact (asc_cons.1 h).1 y hy

/-- ONE STEP: the winner's head goes ahead of all else. -/
theorem kstep {rs : List (List (Int × Int))} {w : Nat} {x : Int × Int} {t : List (Int × Int)} (h : Win (keysOf rs) (doneOf rs) rs.length w) (hw : rs.getD w [] = x :: t) (ha : ∀ l ∈ rs, Asc ltF l) :
    srt ltF rs.flatten = x :: srt ltF (rs.set w t).flatten := by
  have S := swK (Prod.fst : Int × Int → Int)
  have hwl := h.1
  have hget : rs[w] = x :: t := by rw [← hw, List.getD_eq_getElem?_getD, List.getElem?_eq_getElem hwl]; rfl
  have e1 : rs = rs.take w ++ (x :: t) :: rs.drop (w + 1) := by
    rw [← hget, ← List.drop_eq_getElem_cons hwl, List.take_append_drop]
  have e2 : rs.set w t = rs.take w ++ t :: rs.drop (w + 1) := List.set_eq_take_append_cons_drop.trans (if_pos hwl)
  have f1 : rs.flatten = (rs.take w).flatten ++ ([x] ++ (t ++ (rs.drop (w + 1)).flatten)) := by
    conv => lhs; rw [e1]
    simp
  have f2 : (rs.set w t).flatten = (rs.take w).flatten ++ (t ++ (rs.drop (w + 1)).flatten) := by
    rw [e2]; simp
  have hd : (doneOf rs).getD w false = false := by rw [doneOf_at hwl, hw]; rfl
  have hkw : (keysOf rs).getD w 0 = x.1 := by rw [keysOf_at hwl, hw]; rfl
  have hA : ∀ y ∈ (rs.take w).flatten, ltF x y = true := by
    intro y hy
    obtain ⟨l, hl, hyl⟩ := List.mem_flatten.1 hy
    obtain ⟨i, hi, rfl⟩ := List.mem_take_iff_getElem.1 hl
    have hil : i < rs.length := by omega
    have h1 := h.2 i hil
    have e : rs.getD i [] = rs[i] := by rw [List.getD_eq_getElem?_getD, List.getElem?_eq_getElem hil]; rfl
    rw [beats_no, hd, doneOf_at hil, keysOf_at hil, hkw, e] at h1
    have hiw : i < w := by omega
    cases hx : rs[i] with
    | nil => rw [hx] at hyl; cases hyl
    | cons a s =>
      rw [hx] at h1 hyl
      have hasc := ha _ (List.getElem_mem hil)
      rw [hx] at hasc
      have h3 := asc_head hasc y hyl
      have h4 : ¬ (a.1 < x.1 ∨ a.1 = x.1 ∧ i < w) := fun q => h1 (.inl ⟨rfl, q⟩)
      simp [ltF, ltK] at h3 ⊢
      omega
  have hB : ∀ y ∈ t ++ (rs.drop (w + 1)).flatten, ltF y x = false := by
    intro y hy
    rcases List.mem_append.1 hy with hy | hy
    · have hasc := ha _ (List.getElem_mem hwl)
      rw [hget] at hasc
      exact asc_head hasc y (List.mem_cons_of_mem _ hy)
    · obtain ⟨l, hl, hyl⟩ := List.mem_flatten.1 hy
      obtain ⟨j, hj, rfl⟩ := List.mem_drop_iff_getElem.1 hl
      have hil : w + 1 + j < rs.length := by omega
      have h1 := h.2 (w + 1 + j) hil
      have e : rs.getD (w + 1 + j) [] = rs[w + 1 + j] := by rw [List.getD_eq_getElem?_getD, List.getElem?_eq_getElem hil]; rfl
      rw [beats_no, hd, doneOf_at hil, keysOf_at hil, hkw, e] at h1
      cases hx : rs[w + 1 + j] with
      | nil => rw [hx] at hyl; cases hyl
      | cons a s =>
        rw [hx] at h1 hyl
        have hasc := ha _ (List.getElem_mem hil)
        rw [hx] at hasc
        have h3 := asc_head hasc y hyl
        have h4 : ¬ (a.1 < x.1 ∨ a.1 = x.1 ∧ w + 1 + j < w) := fun q => h1 (.inl ⟨rfl, q⟩)
        simp [ltF, ltK] at h3 ⊢
        omega
  rw [f1, f2, srt_append S, srt_append S [x], srt_one, srt_append S (rs.take w).flatten]
  rw [mrg_ahead (l := [x]) (fun a hax b hb => by rw [List.mem_singleton.1 hax]; exact hB b (srt_mem.1 hb))]
  cases hs : srt ltF (rs.take w).flatten with
  | nil => rw [mrg_nil, mrg_nil]; rfl
  | cons a s =>
    rw [List.singleton_append, mrg_lt (hA a (srt_mem.1 (by rw [hs]; simp)))]

/-- The nodes above a leaf. -/
def plen : Nat → Nat
  | 0 => 0
  | p + 1 => 1 + plen ((p + 1) / 2)
decreasing_by omega
theorem plen_pos {p : Nat} (h : 0 < p) : plen p = 1 + plen (p / 2) := by
  obtain ⟨q, rfl⟩ : ∃ q, p = q + 1 := ⟨p - 1, by omega⟩
  rw [plen]
theorem plen_zero : plen 0 = 0 := by rw [plen]
theorem plen_le : ∀ (n p : Nat), p < 2 ^ n → plen p ≤ n
  | 0, p, h => by
    obtain rfl : p = 0 := by simpa using h
    rw [plen_zero]; omega
  | n + 1, p, h => by
    rcases Nat.eq_zero_or_pos p with rfl | hp
    · rw [plen_zero]; omega
    · rw [plen_pos hp]
      have := plen_le n (p / 2) (by rw [Nat.pow_succ] at h; omega)
      omega

/-- The comparisons of the merge behind its first tree. -/
def kc : Nat → List (List (Int × Int)) → Nat
  | 0, _ => 0
  | f + 1, rs => match rs.getD (winF (keysOf rs) (doneOf rs) rs.length) [] with
    | [] => 0
    | _ :: t => plen ((rs.length + winF (keysOf rs) (doneOf rs) rs.length) / 2) + kc f (rs.set (winF (keysOf rs) (doneOf rs) rs.length) t)
theorem kc_step {rs : List (List (Int × Int))} {w : Nat} {x : Int × Int} {t : List (Int × Int)} {f : Nat} (h : Win (keysOf rs) (doneOf rs) rs.length w) (hw : rs.getD w [] = x :: t) :
    kc (f + 1) rs = plen ((rs.length + w) / 2) + kc f (rs.set w t) := by
  rw [kc, winF_eq h, hw]
theorem len_step {rs : List (List (Int × Int))} {w : Nat} {x : Int × Int} {t : List (Int × Int)} (hwl : w < rs.length) (hw : rs.getD w [] = x :: t) : rs.flatten.length = (rs.set w t).flatten.length + 1 := by
  have hget : rs[w] = x :: t := by rw [← hw, List.getD_eq_getElem?_getD, List.getElem?_eq_getElem hwl]; rfl
  have e1 : rs = rs.take w ++ (x :: t) :: rs.drop (w + 1) := by
    rw [← hget, ← List.drop_eq_getElem_cons hwl, List.take_append_drop]
  have e2 : rs.set w t = rs.take w ++ t :: rs.drop (w + 1) := List.set_eq_take_append_cons_drop.trans (if_pos hwl)
  rw [e2]
  conv => lhs; rw [e1]
  simp; omega
theorem asc_step {rs : List (List (Int × Int))} {w : Nat} {x : Int × Int} {t : List (Int × Int)} (hwl : w < rs.length) (hw : rs.getD w [] = x :: t) (ha : ∀ l ∈ rs, Asc ltF l) : ∀ l ∈ rs.set w t, Asc ltF l := by
  intro l hl
  rcases List.mem_or_eq_of_mem_set hl with h | h2
  · exact ha l h
  · rw [h2]
    have hget : rs[w] = x :: t := by rw [← hw, List.getD_eq_getElem?_getD, List.getElem?_eq_getElem hwl]; rfl
    have := ha _ (List.getElem_mem hwl)
    rw [hget] at this
    exact (asc_cons.1 this).2
theorem kc_le : ∀ (f : Nat) (rs : List (List (Int × Int))), rs.length ≤ 16 → kc f rs ≤ 4 * f
  | 0, _, _ => by rw [kc]; omega
  | f + 1, rs, h => by
    rw [kc]
    split
    · omega
    · rename_i y t ht
      have h1 := kc_le f (rs.set (winF (keysOf rs) (doneOf rs) rs.length) t) (by rw [List.length_set]; exact h)
      have h2 : winF (keysOf rs) (doneOf rs) rs.length < rs.length := by
        rcases Nat.eq_zero_or_pos rs.length with h0 | h0
        · have : rs = [] := List.eq_nil_of_length_eq_zero h0
          subst this; simp at ht
        · obtain ⟨m, hm⟩ : ∃ m, rs.length = m + 1 := ⟨rs.length - 1, by omega⟩
          rw [hm]; exact (winF_win _ _ m).1
      have h3 := plen_le 4 ((rs.length + winF (keysOf rs) (doneOf rs) rs.length) / 2) (by omega)
      omega
end Go.Proofs.YtbgmbanebmlghaaGreatDoor.Mg

namespace Go.Proofs.YtbgmbanebmlghaaGreatDoor.Mg
set_option linter.unusedVariables false

/-- The parts of a list, of m elements each but for the last. -/
def chunk {α : Type} (m : Nat) : List α → List (List α)
  | [] => []
  | a :: t => (a :: t.take (m - 1)) :: chunk m (t.drop (m - 1))
termination_by l => l.length
decreasing_by simp; omega
theorem chunk_nil {α : Type} (m : Nat) : chunk m ([] : List α) = [] := by rw [chunk]
theorem chunk_step {α : Type} {m : Nat} (hm : 0 < m) {l : List α} (hl : l ≠ []) : chunk m l = l.take m :: chunk m (l.drop m) := by
  obtain ⟨k, rfl⟩ : ∃ k, m = k + 1 := ⟨m - 1, by omega⟩
  cases l with
  | nil => exact absurd rfl hl
  | cons a t => rw [chunk]; rfl
theorem chunk_ind {α : Type} {m : Nat} (hm : 0 < m) {P : List α → Prop} (h0 : P []) (h1 : ∀ l, l ≠ [] → P (l.drop m) → P l) : ∀ (n : Nat) (l : List α), l.length ≤ n → P l
  | 0, l, h => by
    have : l = [] := List.eq_nil_of_length_eq_zero (by omega)
    rw [this]; exact h0
  | n + 1, l, h => by
    by_cases hl : l = []
    · rw [hl]; exact h0
    · refine h1 l hl (chunk_ind hm h0 h1 n _ ?_)
      have : 0 < l.length := List.length_pos_iff.2 hl
      rw [List.length_drop]; omega
theorem chunk_flatten {α : Type} {m : Nat} (hm : 0 < m) (l : List α) : (chunk m l).flatten = l := by
  refine chunk_ind hm (P := fun l => (chunk m l).flatten = l) ?_ ?_ l.length l (Nat.le_refl _)
  · rw [chunk_nil]; rfl
  · intro l hl ih
    rw [chunk_step hm hl, List.flatten_cons, ih, List.take_append_drop]
theorem chunk_map {α β : Type} {m : Nat} (hm : 0 < m) (f : α → β) (l : List α) : chunk m (l.map f) = (chunk m l).map (List.map f) := by
  refine chunk_ind hm (P := fun l => chunk m (l.map f) = (chunk m l).map (List.map f)) ?_ ?_ l.length l (Nat.le_refl _)
  · rw [List.map_nil, chunk_nil, chunk_nil]; rfl
  · intro l hl ih
    rw [chunk_step hm hl, chunk_step hm (by simpa using hl), List.map_cons, List.map_take, ← List.map_drop, ih]
theorem chunk_len {α : Type} {m : Nat} (hm : 0 < m) (l : List α) : (chunk m l).length = (l.length + m - 1) / m := by
  refine chunk_ind hm (P := fun l => (chunk m l).length = (l.length + m - 1) / m) ?_ ?_ l.length l (Nat.le_refl _)
  · rw [chunk_nil]
    have : (0 + m - 1) / m = 0 := Nat.div_eq_of_lt (by omega)
    rw [List.length_nil, List.length_nil, this]
  · intro l hl ih
    have : 0 < l.length := List.length_pos_iff.2 hl
    rw [chunk_step hm hl, List.length_cons, ih, List.length_drop]
    rcases Nat.lt_or_ge l.length m with h | h
    · have e1 : (l.length - m + m - 1) / m = 0 := Nat.div_eq_of_lt (by omega)
      have e2 : (l.length + m - 1) / m = 1 := by
        rw [show l.length + m - 1 = (l.length - 1) + m by omega, Nat.add_div_right _ hm, Nat.div_eq_of_lt (by omega)]
      rw [e1, e2]
    · rw [show l.length - m + m - 1 = l.length - 1 by omega, show l.length + m - 1 = (l.length - 1) + m by omega, Nat.add_div_right _ hm]
theorem chunk_mem {α : Type} {m : Nat} (hm : 0 < m) (l : List α) : ∀ g ∈ chunk m l, g ≠ [] ∧ g.length ≤ m := by
  refine chunk_ind hm (P := fun l => ∀ g ∈ chunk m l, g ≠ [] ∧ g.length ≤ m) ?_ ?_ l.length l (Nat.le_refl _)
  · rw [chunk_nil]; intro g hg; cases hg
  · intro l hl ih g hg
    rw [chunk_step hm hl] at hg
    rcases List.mem_cons.1 hg with rfl | hg
    · have : 0 < l.length := List.length_pos_iff.2 hl
      refine ⟨fun e => ?_, by rw [List.length_take]; omega⟩
      have : (l.take m).length = 0 := by rw [e]; rfl
      rw [List.length_take] at this; omega
    · exact ih g hg
theorem chunk_lens {α β : Type} {m : Nat} (hm : 0 < m) {l : List α} {r : List β} (h : l.length = r.length) : (chunk m l).map List.length = (chunk m r).map List.length := by
  have e1 : ∀ {γ : Type} (l : List γ), (chunk m l).map List.length = (chunk m (List.replicate l.length ())).map List.length := by
    intro γ l
    have : List.replicate l.length () = l.map (fun _ => ()) := List.map_const'.symm
    rw [this, chunk_map hm, List.map_map]
    refine List.map_congr_left fun g _ => ?_
    simp
  rw [e1 l, e1 r, h]

abbrev srtP (l : List (Int × Int)) : List (Int × Int) := srt ltF l
theorem swF : SW ltF := swK (Prod.fst : Int × Int → Int)
/-- The runs of a list; one pass over runs. -/
def runsOf (m : Nat) (l : List (Int × Int)) : List (List (Int × Int)) := (chunk m l).map srtP
def passOf (w : Nat) (rs : List (List (Int × Int))) : List (List (Int × Int)) := (chunk w rs).map fun g => srtP g.flatten
theorem srt_map (gs : List (List (Int × Int))) : srtP (gs.map srtP).flatten = srtP gs.flatten := by
  induction gs with
  | nil => rfl
  | cons g t ih =>
    show srt ltF _ = srt ltF _
    rw [List.map_cons, List.flatten_cons, List.flatten_cons, srt_append swF, srt_append swF, srt_srt swF]
    exact congrArg _ ih
theorem runs_srt {m : Nat} (hm : 0 < m) (l : List (Int × Int)) : srtP (runsOf m l).flatten = srtP l := by
  unfold runsOf; rw [srt_map, chunk_flatten hm]
theorem pass_srt {w : Nat} (hw : 0 < w) (rs : List (List (Int × Int))) : srtP (passOf w rs).flatten = srtP rs.flatten := by
  unfold passOf
  rw [show (chunk w rs).map (fun g => srtP g.flatten) = ((chunk w rs).map List.flatten).map srtP by rw [List.map_map]; rfl, srt_map]
  rw [← List.flatten_flatten, chunk_flatten hw]
theorem runs_asc {m : Nat} (l : List (Int × Int)) : ∀ r ∈ runsOf m l, Asc ltF r := by
  intro r hr
  obtain ⟨g, _, rfl⟩ := List.mem_map.1 hr
  exact srt_asc swF g
theorem pass_asc {w : Nat} (rs : List (List (Int × Int))) : ∀ r ∈ passOf w rs, Asc ltF r := by
  intro r hr
  obtain ⟨g, _, rfl⟩ := List.mem_map.1 hr
  exact srt_asc swF _
theorem last_run {l : List (Int × Int)} {rs : List (List (Int × Int))} (h : srtP rs.flatten = srtP l) (ha : ∀ r ∈ rs, Asc ltF r) (h1 : rs.length = 1) : rs = [srtP l] := by
  match rs, h1 with
  | [r], _ =>
    have := srt_of_asc (ha r (by simp))
    rw [show [r].flatten = r by simp] at h
    rw [← h]
    show [r] = [srt ltF r]
    rw [this]
/-- Lengths alone. -/
def lens (m n : Nat) : List Nat := (chunk m (List.replicate n ())).map List.length
def grp (w : Nat) (ns : List Nat) : List Nat := (chunk w ns).map List.sum
theorem runs_lens {m : Nat} (hm : 0 < m) (l : List (Int × Int)) : (runsOf m l).map List.length = lens m l.length := by
  unfold runsOf lens
  rw [List.map_map, ← chunk_lens hm (show l.length = (List.replicate l.length ()).length by simp)]
  refine List.map_congr_left fun g _ => ?_
  exact srt_length g
theorem pass_lens {w : Nat} (hw : 0 < w) (rs : List (List (Int × Int))) : (passOf w rs).map List.length = grp w (rs.map List.length) := by
  unfold passOf grp
  rw [List.map_map, chunk_map hw, List.map_map]
  refine List.map_congr_left fun g _ => ?_
  show (srt ltF g.flatten).length = _
  rw [srt_length, List.length_flatten]; rfl
theorem sum_flatten (gs : List (List Nat)) : gs.flatten.sum = (gs.map List.sum).sum := by
  induction gs with
  | nil => rfl
  | cons g t ih => rw [List.flatten_cons, List.sum_append, List.map_cons, List.sum_cons, ih]
theorem grp_sum {w : Nat} (hw : 0 < w) (ns : List Nat) : (grp w ns).sum = ns.sum := by
  unfold grp
  rw [← sum_flatten, chunk_flatten hw]
theorem lens_sum {m : Nat} (hm : 0 < m) (n : Nat) : (lens m n).sum = n := by
  unfold lens
  rw [← List.length_flatten, chunk_flatten hm]; simp
theorem lens_len {m : Nat} (hm : 0 < m) (n : Nat) : (lens m n).length = (n + m - 1) / m := by
  unfold lens
  rw [List.length_map, chunk_len hm]; simp
theorem grp_len {w : Nat} (hw : 0 < w) (ns : List Nat) : (grp w ns).length = (ns.length + w - 1) / w := by
  unfold grp
  rw [List.length_map, chunk_len hw]
theorem up_lt {w n : Nat} (hw : 2 ≤ w) (hn : 1 < n) : (n + w - 1) / w < n := by
  refine Nat.div_lt_of_lt_mul ?_
  obtain ⟨a, rfl⟩ : ∃ a, w = a + 2 := ⟨w - 2, by omega⟩
  obtain ⟨b, rfl⟩ : ∃ b, n = b + 2 := ⟨n - 2, by omega⟩
  rw [Nat.add_mul, Nat.mul_add]
  omega
/-- The blocks of runs. -/
def blkN (b n : Nat) : Nat := (n + b - 1) / b
def blks (b : Nat) (ns : List Nat) : Nat := (ns.map (blkN b)).sum
theorem blkN_le {b n : Nat} (hb : 0 < b) : blkN b n ≤ n := by
  unfold blkN
  rcases Nat.eq_zero_or_pos n with rfl | hn
  · rw [Nat.div_eq_of_lt (by omega)]; omega
  · refine Nat.div_le_of_le_mul ?_
    obtain ⟨a, rfl⟩ : ∃ a, b = a + 1 := ⟨b - 1, by omega⟩
    obtain ⟨c, rfl⟩ : ∃ c, n = c + 1 := ⟨n - 1, by omega⟩
    rw [Nat.add_mul, Nat.mul_add]
    omega
theorem blks_le {b : Nat} (hb : 0 < b) : ∀ ns : List Nat, blks b ns ≤ ns.sum
  | [] => by unfold blks; simp
  | n :: t => by
    have h1 := blks_le hb t
    have h2 := blkN_le (n := n) hb
    unfold blks at *
    rw [List.map_cons, List.sum_cons, List.sum_cons]; omega

/-- Passes, reads and writes from runs of the given lengths on. -/
def costW (w b : Nat) (ns : List Nat) (p r q : Nat) : Nat × Nat × Nat :=
  if h : 1 < ns.length ∧ 2 ≤ w then costW w b (grp w ns) (p + 1) (r + blks b ns) (q + blks b (grp w ns)) else (p, r, q)
termination_by ns.length
decreasing_by
  rw [grp_len (by omega)]
  exact up_lt h.2 h.1
theorem costW_go {w b : Nat} {ns : List Nat} {p r q : Nat} (h : 1 < ns.length) (hw : 2 ≤ w) : costW w b ns p r q = costW w b (grp w ns) (p + 1) (r + blks b ns) (q + blks b (grp w ns)) := by
  rw [costW, dif_pos ⟨h, hw⟩]
theorem costW_end {w b : Nat} {ns : List Nat} {p r q : Nat} (h : ns.length ≤ 1) : costW w b ns p r q = (p, r, q) := by
  rw [costW, dif_neg (by omega)]
/-- Runs, passes, reads, writes. -/
def costOf (n m w b : Nat) : Nat × Nat × Nat × Nat := ((lens m n).length, costW w b (lens m n) 0 (blkN b n) (blks b (lens m n)))

/-- The passes that lead to one run. -/
def pc (w n : Nat) : Nat := if h : 1 < n ∧ 2 ≤ w then 1 + pc w ((n + w - 1) / w) else 0
termination_by n
decreasing_by exact up_lt h.2 h.1
/-- The comparisons of one merge, of a pass. -/
def kcs (g : List (List (Int × Int))) : Nat := g.length - 1 + kc g.flatten.length g
def passC (w : Nat) (rs : List (List (Int × Int))) : Nat := ((chunk w rs).map kcs).sum
theorem kcs_le {g : List (List (Int × Int))} (h : g.length ≤ 16) : kcs g ≤ g.length - 1 + 4 * g.flatten.length := by
  have := kc_le g.flatten.length g h
  unfold kcs; omega
theorem passC_le {w : Nat} (hw : 0 < w) (h16 : w ≤ 16) (rs : List (List (Int × Int))) : passC w rs ≤ 4 * rs.flatten.length + rs.length := by
  unfold passC
  have h1 : ∀ gs : List (List (List (Int × Int))), (∀ g ∈ gs, g.length ≤ w) → (gs.map kcs).sum ≤ 4 * gs.flatten.flatten.length + gs.flatten.length := by
    intro gs
    induction gs with
    | nil => intro _; simp
    | cons g t ih =>
      intro h
      have h2 := kcs_le (g := g) (by have := h g (by simp); omega)
      have h3 := ih (fun x hx => h x (by simp [hx]))
      rw [List.map_cons, List.sum_cons, List.flatten_cons, List.flatten_append, List.length_append, List.length_append]
      omega
  have := h1 (chunk w rs) (fun g hg => (chunk_mem hw rs g hg).2)
  rwa [chunk_flatten hw] at this

end Go.Proofs.YtbgmbanebmlghaaGreatDoor.Mg

namespace Go.Proofs.YtbgmbanebmlghaaGreatDoor.Es
open Mg
set_option linter.unusedVariables false
/-- The elements up to i ascend. -/
def AscTo (L : List Int) (i : Nat) : Prop := ∀ a b, a < b → b < i → L.getD a 0 ≤ L.getD b 0
/-- The inner loop of insertion: the hole stands at k. -/
def gin (gap : Nat) (x : Int) (L : List Int) (k c v : Nat) : List Int × Nat × Nat × Nat :=
  if h : 0 < gap ∧ gap ≤ k then
    if L.getD (k - gap) 0 ≤ x then (L, k, c + 1, v) else gin gap x (L.set k (L.getD (k - gap) 0)) (k - gap) (c + 1) (v + 1)
  else (L, k, c, v)
termination_by k
decreasing_by omega
theorem gin_stop {gap : Nat} {x : Int} {L : List Int} {k c v : Nat} (h : ¬ gap ≤ k) : gin gap x L k c v = (L, k, c, v) := by rw [gin, dif_neg (fun e => h e.2)]
theorem gin_break {gap : Nat} {x : Int} {L : List Int} {k c v : Nat} (h : 0 < gap ∧ gap ≤ k) (h2 : L.getD (k - gap) 0 ≤ x) : gin gap x L k c v = (L, k, c + 1, v) := by rw [gin, dif_pos h, if_pos h2]
theorem gin_step {gap : Nat} {x : Int} {L : List Int} {k c v : Nat} (h : 0 < gap ∧ gap ≤ k) (h2 : ¬ L.getD (k - gap) 0 ≤ x) : gin gap x L k c v = gin gap x (L.set k (L.getD (k - gap) 0)) (k - gap) (c + 1) (v + 1) := by
  rw [gin, dif_pos h, if_neg h2]
/-- One element inserted: the list, the numbers of comparisons and moves. -/
def gput (x : Int) (i : Nat) (r : List Int × Nat × Nat × Nat) : List Int × Nat × Nat := if r.2.1 < i then (r.1.set r.2.1 x, r.2.2.1, r.2.2.2 + 1) else (r.1, r.2.2.1, r.2.2.2)
def gone (gap : Nat) (L : List Int) (i c v : Nat) : List Int × Nat × Nat := gput (L.getD i 0) i (gin gap (L.getD i 0) L i c v)
/-- The whole: the list, the numbers of comparisons and moves. -/
def gout (gap n : Nat) (L : List Int) (i c v : Nat) : List Int × Nat × Nat :=
  if h : i < n then gout gap n (gone gap L i c v).1 (i + 1) (gone gap L i c v).2.1 (gone gap L i c v).2.2 else (L, c, v)
termination_by n - i
theorem gout_step {gap n : Nat} {L : List Int} {i c v : Nat} (h : i < n) : gout gap n L i c v = gout gap n (gone gap L i c v).1 (i + 1) (gone gap L i c v).2.1 (gone gap L i c v).2.2 := by rw [gout, dif_pos h]
theorem gout_stop {gap n : Nat} {L : List Int} {i c v : Nat} (h : ¬ i < n) : gout gap n L i c v = (L, c, v) := by rw [gout, dif_neg h]
def gapd (gap : Nat) (L : List Int) : List Int × Nat × Nat := gout gap L.length L gap 0 0
end Go.Proofs.YtbgmbanebmlghaaGreatDoor.Es

namespace Go.Proofs.YtbgmbanebmlghaaGreatDoor.Es
open Go.Proofs.YtbgmbanebmlghaaGreatDoor
set_option linter.unusedVariables false

theorem gone_sorted {L : List Int} {i c v : Nat} (hi : 1 ≤ i) (hl : i < L.length) (h : AscTo L L.length) : gone 1 L i c v = (L, c + 1, v) := by
  unfold gone
  rw [gin_break ⟨by omega, hi⟩ (h (i - 1) i (by omega) hl)]
  unfold gput
  rw [if_neg (by simp)]
theorem gout_sorted (L : List Int) (h : AscTo L L.length) : ∀ (m i c v : Nat), L.length - i = m → 1 ≤ i → gout 1 L.length L i c v = (L, c + m, v)
  | 0, i, c, v, hm, hi => by rw [gout_stop (by omega)]; rfl
  | m + 1, i, c, v, hm, hi => by
    rw [gout_step (by omega), gone_sorted hi (by omega) h]
    rw [gout_sorted L h m (i + 1) (c + 1) v (by omega) (by omega)]
    rw [show c + 1 + m = c + (m + 1) by omega]
theorem gapd_sorted {L : List Int} (h : AscTo L L.length) : gapd 1 L = (L, L.length - 1, 0) := by
  unfold gapd
  rw [gout_sorted L h (L.length - 1) 1 0 0 rfl (by omega), Nat.zero_add]
end Go.Proofs.YtbgmbanebmlghaaGreatDoor.Es

