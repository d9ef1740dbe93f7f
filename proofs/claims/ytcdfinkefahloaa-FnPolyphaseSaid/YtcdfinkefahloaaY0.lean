/- Several texts in one: lemmas and walks of the functions that the law reaches. -/

namespace Go.Proofs.Ytcdfinkefahloaa.Mg
set_option linter.unusedVariables false

structure SW {α : Type} (lt : α → α → Bool) : Prop where
  asym : ∀ a b, lt a b = true → lt b a = false
  trans : ∀ a b c, lt a b = true → lt b c = true → lt a c = true
  neg : ∀ a b c, lt a c = true → lt a b = true ∨ lt b c = true

def mrg {α : Type} (lt : α → α → Bool) (l r : List α) : List α := List.merge l r (fun x y => !lt y x)

section
variable {α : Type} {lt : α → α → Bool}

theorem mrg_nil (r : List α) : mrg lt [] r = r := by simp [mrg]
theorem nil_mrg (l : List α) : mrg lt l [] = l := by simp [mrg]
theorem mrg_cons (x : α) (l : List α) (y : α) (r : List α) : mrg lt (x :: l) (y :: r) = if lt y x then y :: mrg lt (x :: l) r else x :: mrg lt l (y :: r) := by
  unfold mrg
  rw [List.cons_merge_cons]
  cases lt y x <;> simp
theorem mrg_lt {x : α} {l : List α} {y : α} {r : List α} (h : lt y x = true) : mrg lt (x :: l) (y :: r) = y :: mrg lt (x :: l) r := by rw [mrg_cons, if_pos h]
theorem mrg_ge {x : α} {l : List α} {y : α} {r : List α} (h : lt y x = false) : mrg lt (x :: l) (y :: r) = x :: mrg lt l (y :: r) := by rw [mrg_cons, if_neg (by rw [h]; simp)]

theorem mrg_perm (l r : List α) : (mrg lt l r).Perm (l ++ r) := List.merge_perm_append _
theorem mrg_mem {l r : List α} {x : α} : x ∈ mrg lt l r ↔ x ∈ l ∨ x ∈ r := by rw [(mrg_perm l r).mem_iff, List.mem_append]
/-- Both lists are cut in two, so that the earlier parts go ahead of the later ones. -/
theorem mrg_split : ∀ (L1 R1 L2 R2 : List α), (∀ x ∈ L1, ∀ y ∈ R2, lt y x = false) → (∀ x ∈ L2, ∀ y ∈ R1, lt y x = true) →
    mrg lt (L1 ++ L2) (R1 ++ R2) = mrg lt L1 R1 ++ mrg lt L2 R2
  | [], [], L2, R2, _, _ => by simp [mrg_nil]
  | [], y :: R1, L2, R2, h1, h2 => by
    have ih := mrg_split [] R1 L2 R2 (by simp) (fun x hx z hz => h2 x hx z (List.mem_cons_of_mem _ hz))
    simp only [List.nil_append, mrg_nil] at ih ⊢
    cases L2 with
    | nil => simp [mrg_nil]
    | cons x l =>
      rw [List.cons_append, mrg_lt (h2 x (by simp) y (by simp)), ih]; rfl
  | x :: L1, [], L2, R2, h1, h2 => by
    have ih := mrg_split L1 [] L2 R2 (fun z hz => h1 z (List.mem_cons_of_mem _ hz)) (by simp)
    simp only [List.nil_append, nil_mrg] at ih ⊢
    cases R2 with
    | nil => simp [nil_mrg]
    | cons y r =>
      rw [List.cons_append, mrg_ge (h1 x (by simp) y (by simp)), ih]; rfl
  | x :: L1, y :: R1, L2, R2, h1, h2 => by
    have ih1 := mrg_split (x :: L1) R1 L2 R2 h1 (fun z hz v hv => h2 z hz v (List.mem_cons_of_mem _ hv))
    have ih2 := mrg_split L1 (y :: R1) L2 R2 (fun z hz => h1 z (List.mem_cons_of_mem _ hz)) h2
    simp only [List.cons_append] at ih1 ih2 ⊢
    cases h : lt y x
    · rw [mrg_ge h, mrg_ge h, ih2]; rfl
    · rw [mrg_lt h, mrg_lt h, ih1]; rfl
termination_by L1 R1 => L1.length + R1.length

theorem mrg_assoc (S : SW lt) : ∀ (A B C : List α), mrg lt (mrg lt A B) C = mrg lt A (mrg lt B C)
  | [], B, C => by simp [mrg_nil]
  | a :: A, [], C => by simp [nil_mrg, mrg_nil]
  | a :: A, b :: B, [] => by simp [nil_mrg]
  | a :: A, b :: B, c :: C => by
    have i1 := mrg_assoc S (a :: A) (b :: B) C
    have i2 := mrg_assoc S (a :: A) B (c :: C)
    have i3 := mrg_assoc S A (b :: B) (c :: C)
    cases h1 : lt b a
    · cases h2 : lt c b
      · have h3 : lt c a = false := by
          cases h3 : lt c a
          · rfl
          · rcases S.neg c b a h3 with h | h
            · rw [h2] at h; cases h
            · rw [h1] at h; cases h
        rw [mrg_ge h1, mrg_ge h2, mrg_ge h3, mrg_ge h1, i3, mrg_ge h2]
      · cases h3 : lt c a
        · rw [mrg_ge h1, mrg_lt h2, mrg_ge h3, mrg_ge h3, i3, mrg_lt h2]
        · rw [mrg_lt h2, mrg_lt h3, ← i1, mrg_ge h1, mrg_lt h3]
    · cases h2 : lt c b
      · rw [mrg_lt h1, mrg_ge h2, mrg_ge h2, mrg_lt h1, i2]
      · have h3 := S.trans _ _ _ h2 h1
        rw [mrg_lt h1, mrg_lt h2, mrg_lt h2, mrg_lt h3, ← i1, mrg_lt h1]
termination_by A B C => A.length + B.length + C.length

def Asc (lt : α → α → Bool) (l : List α) : Prop := l.Pairwise fun x y => lt y x = false
theorem asc_nil : Asc lt [] := List.Pairwise.nil
theorem asc_one (x : α) : Asc lt [x] := by simp [Asc]

theorem asc_cons {x : α} {l : List α} : Asc lt (x :: l) ↔ (∀ y ∈ l, lt y x = false) ∧ Asc lt l := by simp [Asc]
/-- Only what stands side by side need be looked at. -/
theorem le_trans' (S : SW lt) {a b c : α} (h1 : lt b a = false) (h2 : lt c b = false) : lt c a = false := by
  cases h3 : lt c a
  · rfl
  · rcases S.neg c b a h3 with h | h
    · rw [h2] at h; cases h
    · rw [h1] at h; cases h

theorem asc_cons2 (S : SW lt) {x y : α} {l : List α} (h : lt y x = false) (hl : Asc lt (y :: l)) : Asc lt (x :: y :: l) := by
  rw [asc_cons]
  refine ⟨fun z hz => ?_, hl⟩
  rcases List.mem_cons.1 hz with rfl | hz
  · exact h
  · exact le_trans' S h ((asc_cons.1 hl).1 z hz)

theorem asc_of_side (S : SW lt) : ∀ l : List α, (∀ i, (h : i + 1 < l.length) → lt l[i + 1] l[i] = false) → Asc lt l
  | [], _ => asc_nil
  | [x], _ => asc_one x
  | x :: y :: l, h => asc_cons2 S (h 0 (by simp)) (asc_of_side S (y :: l) (fun i hi => h (i + 1) (by simpa using hi)))

theorem mrg_asc (S : SW lt) : ∀ {l r : List α}, Asc lt l → Asc lt r → Asc lt (mrg lt l r)
  | [], r, _, hr => by rw [mrg_nil]; exact hr
  | x :: l, [], hl, _ => by rw [nil_mrg]; exact hl
  | x :: l, y :: r, hl, hr => by
    cases h : lt y x
    · rw [mrg_ge h, asc_cons]
      refine ⟨fun z hz => ?_, mrg_asc S (asc_cons.1 hl).2 hr⟩
      rcases mrg_mem.1 hz with hz | hz
      · exact (asc_cons.1 hl).1 z hz
      · rcases List.mem_cons.1 hz with rfl | hz
        · exact h
        · exact le_trans' S h ((asc_cons.1 hr).1 z hz)
    · rw [mrg_lt h, asc_cons]
      refine ⟨fun z hz => ?_, mrg_asc S hl (asc_cons.1 hr).2⟩
      rcases mrg_mem.1 hz with hz | hz
      · rcases List.mem_cons.1 hz with rfl | hz
        · exact S.asym _ _ h
        · exact le_trans' S (S.asym _ _ h) ((asc_cons.1 hl).1 z hz)
      · exact (asc_cons.1 hr).1 z hz
termination_by l r => l.length + r.length

/-- Where all of l goes ahead of all of r. -/
theorem mrg_ahead {l r : List α} (h : ∀ x ∈ l, ∀ y ∈ r, lt y x = false) : mrg lt l r = l ++ r := by
  have := mrg_split (lt := lt) l [] [] r h (by simp)
  simpa [nil_mrg, mrg_nil] using this
/-- THE STABLE SORT: element after element merged in. -/
def srt (lt : α → α → Bool) (l : List α) : List α := l.foldl (fun acc x => mrg lt acc [x]) []

theorem srt_snoc (l : List α) (x : α) : srt lt (l ++ [x]) = mrg lt (srt lt l) [x] := by simp [srt]
theorem srt_nil : srt lt [] = [] := rfl
theorem srt_one (x : α) : srt lt [x] = [x] := by simp [srt, mrg_nil]

theorem list_snoc {P : List α → Prop} (h0 : P []) (h1 : ∀ l x, P l → P (l ++ [x])) (l : List α) : P l := by
  have : ∀ n (l : List α), l.length = n → P l := by
    intro n
    induction n with
    | zero => intro l hl; rw [List.eq_nil_of_length_eq_zero hl]; exact h0
    | succ n ih =>
      intro l hl
      have hne : l ≠ [] := by intro e; rw [e] at hl; simp at hl
      rw [← List.dropLast_concat_getLast hne]
      exact h1 _ _ (ih _ (by simp [hl]))
  exact this _ l rfl

theorem srt_append (S : SW lt) (a b : List α) : srt lt (a ++ b) = mrg lt (srt lt a) (srt lt b) := by
  refine list_snoc (P := fun b => srt lt (a ++ b) = mrg lt (srt lt a) (srt lt b)) ?_ ?_ b
  · rw [List.append_nil, srt_nil, nil_mrg]
  · intro l x ih
    rw [← List.append_assoc, srt_snoc, srt_snoc, ih, mrg_assoc S]

theorem srt_perm (l : List α) : (srt lt l).Perm l := by
  refine list_snoc (P := fun l => (srt lt l).Perm l) (by rw [srt_nil]) ?_ l
  intro l x ih
  rw [srt_snoc]
  exact (mrg_perm _ _).trans (ih.append_right [x])
theorem srt_length (l : List α) : (srt lt l).length = l.length := (srt_perm l).length_eq
theorem srt_mem {l : List α} {x : α} : x ∈ srt lt l ↔ x ∈ l := (srt_perm l).mem_iff

theorem srt_asc (S : SW lt) (l : List α) : Asc lt (srt lt l) := by
  refine list_snoc (P := fun l => Asc lt (srt lt l)) asc_nil ?_ l
  intro l x ih
  rw [srt_snoc]; exact mrg_asc S ih (asc_one x)

/-- One element on its way down. -/
theorem mrg_down {A B : List α} {x : α} (h : ∀ b ∈ B, lt x b = true) : mrg lt (A ++ B) [x] = mrg lt A [x] ++ B := by
  have := mrg_split (lt := lt) A [x] B [] (by simp) (by simpa using h)
  simpa [nil_mrg] using this
theorem mrg_stop {A : List α} {x : α} (h : ∀ a ∈ A, lt x a = false) : mrg lt A [x] = A ++ [x] := mrg_ahead (by simpa using h)

end

/-! ### by an integer key -/
def ltK {α : Type} (key : α → Int) (a b : α) : Bool := decide (key a < key b)
theorem swK {α : Type} (key : α → Int) : SW (ltK key) :=
  ⟨fun a b h => by simp only [ltK, decide_eq_true_eq, decide_eq_false_iff_not] at *; omega, fun a b c h1 h2 => by simp only [ltK, decide_eq_true_eq] at *; omega,
   fun a b c h => by simp only [ltK, decide_eq_true_eq] at *; omega⟩

end Go.Proofs.Ytcdfinkefahloaa.Mg

namespace Go.Proofs.Ytcdfinkefahloaa.Mg
set_option linter.unusedVariables false
section
variable {α : Type} {lt : α → α → Bool}

/-- x stands at place k of A, R behind. -/
def insSt (A : List α) (x : α) (k : Nat) (R : List α) : List α := A.take k ++ x :: (A.drop k ++ R)

theorem insSt_len {A : List α} {x : α} {k : Nat} {R : List α} (hk : k ≤ A.length) : (insSt A x k R).length = A.length + 1 + R.length := by
  unfold insSt
  simp only [List.length_append, List.length_cons, List.length_take, List.length_drop]
  omega
theorem insSt_top (A : List α) (x : α) (R : List α) : insSt A x A.length R = A ++ x :: R := by
  unfold insSt; simp
theorem insSt_at {A : List α} {x : α} {k : Nat} {R : List α} (hk : k ≤ A.length) : (insSt A x k R)[k]? = some x := by
  unfold insSt
  rw [List.getElem?_append_right (by rw [List.length_take]; omega), List.length_take, show k - min k A.length = 0 by omega]
  rfl
theorem insSt_before {A : List α} {x : α} {k : Nat} {R : List α} (hk : k < A.length) : (insSt A x (k + 1) R)[k]? = some A[k] := by
  unfold insSt
  rw [List.getElem?_append_left (by rw [List.length_take]; omega), List.getElem?_take_of_lt (by omega), List.getElem?_eq_getElem hk]
theorem insSt_step {A : List α} {x : α} {k : Nat} {R : List α} (hk : k < A.length) : ((insSt A x (k + 1) R).set k x).set (k + 1) A[k] = insSt A x k R := by
  unfold insSt
  have h1 : A.take (k + 1) = A.take k ++ [A[k]] := by rw [List.take_add_one, List.getElem?_eq_getElem hk]; rfl
  have h2 : A.drop k = A[k] :: A.drop (k + 1) := List.drop_eq_getElem_cons hk
  have hl : (A.take k).length = k := by rw [List.length_take]; omega
  rw [h1, h2, List.append_assoc, List.set_append, if_neg (by omega), hl, Nat.sub_self, List.set_append, if_neg (by omega), hl, show k + 1 - k = 1 by omega]
  rfl
theorem insSt_end (S : SW lt) {A : List α} {x : α} {k : Nat} {R : List α} (hA : Asc lt A) (hk : k ≤ A.length) (hd : ∀ b ∈ A.drop k, lt x b = true) (hs : ∀ (h : 0 < k), lt x (A[k - 1]'(by omega)) = false) :
    insSt A x k R = mrg lt A [x] ++ R := by
  have h1 : mrg lt A [x] = mrg lt (A.take k) [x] ++ A.drop k := by
    have := mrg_down (lt := lt) (A := A.take k) (B := A.drop k) (x := x) hd
    rwa [List.take_append_drop] at this
  have h2 : mrg lt (A.take k) [x] = A.take k ++ [x] := by
    apply mrg_stop
    intro a ha
    obtain ⟨i, hi, rfl⟩ := List.mem_take_iff_getElem.1 ha
    have hi' : i < k := by omega
    have hs' := hs (by omega)
    by_cases e : i = k - 1
    · subst e; exact hs'
    · have := List.pairwise_iff_getElem.1 hA i (k - 1) (by omega) (by omega) (by omega)
      exact le_trans' S this hs'
  unfold insSt
  rw [h1, h2]
  simp
/-- One item more that has its place. -/
theorem insSt_srt (S : SW lt) {l : List α} {x : α} {k : Nat} {R : List α} (hk : k ≤ (srt lt l).length) (hd : ∀ b ∈ (srt lt l).drop k, lt x b = true) (hs : ∀ (h : 0 < k), lt x ((srt lt l)[k - 1]'(by omega)) = false) :
    insSt (srt lt l) x k R = srt lt (l ++ [x]) ++ R := by
  rw [insSt_end S (srt_asc S l) hk hd hs, srt_snoc]

end
end Go.Proofs.Ytcdfinkefahloaa.Mg

namespace Go.Proofs.Ytcdfinkefahloaa.Mg
set_option linter.unusedVariables false
section
variable {α : Type} {lt : α → α → Bool}
theorem at2 {P Q R : List α} {x y : α} : (P ++ x :: (Q ++ y :: R))[P.length + 1 + Q.length]? = some y := by
  rw [List.getElem?_append_right (by omega), show P.length + 1 + Q.length - P.length = Q.length + 1 by omega, List.getElem?_cons_succ, List.getElem?_append_right (Nat.le_refl _), Nat.sub_self]; rfl

/-- Sorted block by block. -/
def bl (lt : α → α → Bool) (s : Nat) : Nat → List α → List α
  | 0, l => l
  | f + 1, l => if l.length ≤ s then srt lt l else srt lt (l.take s) ++ bl lt s f (l.drop s)
def blk (lt : α → α → Bool) (s : Nat) (l : List α) : List α := bl lt s (l.length + 1) l
end

end Go.Proofs.Ytcdfinkefahloaa.Mg

namespace Go.Proofs.Ytcdfinkefahloaa.Mg
set_option linter.unusedVariables false

/-- Leaf i beats leaf m: the one that is not done, the lesser key, the lesser place. -/
def beats (ks : List Int) (ds : List Bool) (i m : Nat) : Bool :=
  if ds.getD i false != ds.getD m false then ds.getD m false
  else decide (ks.getD i 0 < ks.getD m 0) || (decide (ks.getD i 0 = ks.getD m 0) && decide (i < m))

def BeatsP (d1 d2 : Bool) (x y : Int) (i m : Nat) : Prop := (d1 = d2 ∧ (x < y ∨ x = y ∧ i < m)) ∨ (d1 = false ∧ d2 = true)
theorem beats_iff (ks : List Int) (ds : List Bool) (i m : Nat) : beats ks ds i m = true ↔ BeatsP (ds.getD i false) (ds.getD m false) (ks.getD i 0) (ks.getD m 0) i m := by
  unfold beats BeatsP
  generalize ds.getD i false = d1
  generalize ds.getD m false = d2
  generalize ks.getD i 0 = x
  generalize ks.getD m 0 = y
  cases d1 <;> cases d2 <;> simp
theorem beats_no {ks : List Int} {ds : List Bool} {i m : Nat} : beats ks ds i m = false ↔ ¬ BeatsP (ds.getD i false) (ds.getD m false) (ks.getD i 0) (ks.getD m 0) i m := by
  rw [← beats_iff]; simp
theorem beats_sw (ks : List Int) (ds : List Bool) : SW (beats ks ds) where
  asym a b h := by
    rw [beats_iff] at h
    rw [beats_no]
    unfold BeatsP at *
    generalize ds.getD a false = d1 at *
    generalize ds.getD b false = d2 at *
    generalize ks.getD a 0 = x at *
    generalize ks.getD b 0 = y at *
    cases d1 <;> cases d2 <;> simp only [true_and, false_and, and_true, and_false, or_false, false_or, reduceCtorEq, not_false_eq_true] at h ⊢ <;> omega
  trans a b c h1 h2 := by
    rw [beats_iff] at *
    unfold BeatsP at *
    generalize ds.getD a false = d1 at *
    generalize ds.getD b false = d2 at *
    generalize ds.getD c false = d3 at *
    generalize ks.getD a 0 = x at *
    generalize ks.getD b 0 = y at *
    generalize ks.getD c 0 = z at *
    cases d1 <;> cases d2 <;> cases d3 <;> simp only [true_and, false_and, and_true, and_false, or_false, or_true, reduceCtorEq] at h1 h2 ⊢ <;> omega
  neg a b c h := by
    rw [beats_iff] at *
    rw [beats_iff]
    unfold BeatsP at *
    generalize ds.getD a false = d1 at *
    generalize ds.getD b false = d2 at *
    generalize ds.getD c false = d3 at *
    generalize ks.getD a 0 = x at *
    generalize ks.getD b 0 = y at *
    generalize ks.getD c 0 = z at *
    cases d1 <;> cases d2 <;> cases d3 <;> simp only [true_and, false_and, and_true, and_false, or_false, or_true, true_or, reduceCtorEq] at h ⊢ <;> omega
theorem beats_self (ks : List Int) (ds : List Bool) (i : Nat) : beats ks ds i i = false := by
  unfold beats; simp
theorem beats_tot {ks : List Int} {ds : List Bool} {i m : Nat} (h1 : beats ks ds i m = false) (h2 : beats ks ds m i = false) : i = m := by
  rw [beats_no] at h1 h2
  unfold BeatsP at *
  generalize ds.getD i false = d1 at *
  generalize ds.getD m false = d2 at *
  generalize ks.getD i 0 = x at *
  generalize ks.getD m 0 = y at *
  cases d1 <;> cases d2 <;> simp only [true_and, false_and, and_true, and_false, or_false, or_true, reduceCtorEq, not_true_eq_false] at h1 h2 <;> omega

/-- Leaf w wins among k leaves. -/
def Win (ks : List Int) (ds : List Bool) (k w : Nat) : Prop := w < k ∧ ∀ i, i < k → beats ks ds i w = false
theorem win_one {ks : List Int} {ds : List Bool} {k w v : Nat} (h1 : Win ks ds k w) (h2 : Win ks ds k v) : w = v := beats_tot (h2.2 w h1.1) (h1.2 v h2.1)

/-- Leaf i stands below node p of a tree of k leaves. -/
def Under (k p i : Nat) : Prop := ∃ s, (k + i) / 2 ^ s = p
theorem under_leaf {k p i : Nat} (hp : k ≤ p) (hi : i < k) (h : Under k p i) : p = k + i := by
  obtain ⟨s, hs⟩ := h
  cases s with
  | zero => simpa using hs.symm
  | succ s =>
    exfalso
    have h1 : (k + i) / 2 ^ (s + 1) ≤ (k + i) / 2 := by
      rw [Nat.pow_succ, Nat.mul_comm, ← Nat.div_div_eq_div_mul]
      exact Nat.div_le_self _ _
    omega
theorem under_inner {k p i : Nat} (hp : p < k) (h : Under k p i) : Under k (2 * p) i ∨ Under k (2 * p + 1) i := by
  obtain ⟨s, hs⟩ := h
  cases s with
  | zero => exfalso; simp at hs; omega
  | succ s =>
    rw [Nat.pow_succ, ← Nat.div_div_eq_div_mul] at hs
    have : (k + i) / 2 ^ s = 2 * p ∨ (k + i) / 2 ^ s = 2 * p + 1 := by omega
    rcases this with h | h
    · exact .inl ⟨s, h⟩
    · exact .inr ⟨s, h⟩
theorem under_root : ∀ (m : Nat), 0 < m → ∃ s, m / 2 ^ s = 1
  | m, hm => by
    by_cases h : m = 1
    · exact ⟨0, by simp [h]⟩
    · obtain ⟨s, hs⟩ := under_root (m / 2) (by omega)
      exact ⟨s + 1, by rw [Nat.pow_succ, Nat.mul_comm, ← Nat.div_div_eq_div_mul]; exact hs⟩
termination_by m => m
decreasing_by omega

/-- Node p's winner. -/
def NodeWin (ks : List Int) (ds : List Bool) (k p w : Nat) : Prop := w < k ∧ ∀ i, i < k → Under k p i → beats ks ds i w = false
theorem node_leaf (ks : List Int) (ds : List Bool) {k i : Nat} (hi : i < k) : NodeWin ks ds k (k + i) i :=
  ⟨hi, fun j hj hu => by
    have := under_leaf (by omega) hj hu
    obtain rfl : i = j := by omega
    exact beats_self ks ds i⟩
theorem node_inner {ks : List Int} {ds : List Bool} {k p a b : Nat} (hp : p < k) (ha : NodeWin ks ds k (2 * p) a) (hb : NodeWin ks ds k (2 * p + 1) b) :
    (beats ks ds b a = false → NodeWin ks ds k p a) ∧ (beats ks ds a b = false → NodeWin ks ds k p b) := by
  have S := beats_sw ks ds
  constructor
  · intro h
    refine ⟨ha.1, fun i hi hu => ?_⟩
    rcases under_inner hp hu with h1 | h1
    · exact ha.2 i hi h1
    · cases hx : beats ks ds i a with
      | false => rfl
      | true =>
        rcases S.neg i b a hx with h2 | h2
        · rw [hb.2 i hi h1] at h2; cases h2
        · rw [h] at h2; cases h2
  · intro h
    refine ⟨hb.1, fun i hi hu => ?_⟩
    rcases under_inner hp hu with h1 | h1
    · cases hx : beats ks ds i b with
      | false => rfl
      | true =>
        rcases S.neg i a b hx with h2 | h2
        · rw [ha.2 i hi h1] at h2; cases h2
        · rw [h] at h2; cases h2
    · exact hb.2 i hi h1
theorem node_root {ks : List Int} {ds : List Bool} {k w : Nat} (h : NodeWin ks ds k 1 w) : Win ks ds k w :=
  ⟨h.1, fun i hi => h.2 i hi (under_root (k + i) (by have := h.1; omega))⟩

/-- The winner, found. -/
def winF (ks : List Int) (ds : List Bool) : Nat → Nat
  | 0 => 0
  | k + 1 => if beats ks ds k (winF ks ds k) then k else winF ks ds k
theorem winF_win (ks : List Int) (ds : List Bool) : ∀ k, Win ks ds (k + 1) (winF ks ds (k + 1))
  | 0 => by
    have : winF ks ds 1 = 0 := by unfold winF; split <;> rfl
    rw [this]
    exact ⟨by omega, fun i hi => by
      obtain rfl : i = 0 := by omega
      exact beats_self ks ds 0⟩
  | k + 1 => by
    have ih := winF_win ks ds k
    have S := beats_sw ks ds
    rw [winF]
    cases h : beats ks ds (k + 1) (winF ks ds (k + 1)) with
    | false =>
      rw [if_neg (by simp)]
      refine ⟨by have := ih.1; omega, fun i hi => ?_⟩
      rcases Nat.lt_or_ge i (k + 1) with h1 | h1
      · exact ih.2 i h1
      · obtain rfl : i = k + 1 := by omega
        exact h
    | true =>
      rw [if_pos rfl]
      refine ⟨by omega, fun i hi => ?_⟩
      rcases Nat.lt_or_ge i (k + 1) with h1 | h1
      · cases hx : beats ks ds i (k + 1) with
        | false => rfl
        | true => have := S.trans _ _ _ hx h; rw [ih.2 i h1] at this; cases this
      · obtain rfl : i = k + 1 := by omega
        exact beats_self ks ds _
theorem winF_eq {ks : List Int} {ds : List Bool} {k w : Nat} (h : Win ks ds k w) : winF ks ds k = w := by
  obtain ⟨m, rfl⟩ : ∃ m, k = m + 1 := ⟨k - 1, by have := h.1; omega⟩
  exact win_one (winF_win ks ds m) h

/-- What is left of each list: its next key, and whether it is done. -/
def hk : List (Int × Int) → Int
  | [] => 0
  | x :: _ => x.1
def keysOf (rs : List (List (Int × Int))) : List Int := rs.map hk
def doneOf (rs : List (List (Int × Int))) : List Bool := rs.map List.isEmpty
theorem keysOf_at {rs : List (List (Int × Int))} {i : Nat} (h : i < rs.length) : (keysOf rs).getD i 0 = hk (rs.getD i []) := by
  unfold keysOf
  rw [List.getD_eq_getElem?_getD, List.getD_eq_getElem?_getD, List.getElem?_map, List.getElem?_eq_getElem h]; rfl
theorem doneOf_at {rs : List (List (Int × Int))} {i : Nat} (h : i < rs.length) : (doneOf rs).getD i false = (rs.getD i []).isEmpty := by
  unfold doneOf
  rw [List.getD_eq_getElem?_getD, List.getD_eq_getElem?_getD, List.getElem?_map, List.getElem?_eq_getElem h]; rfl

abbrev ltF : Int × Int → Int × Int → Bool := ltK Prod.fst
/-- All lists are done where the winner is. -/
theorem all_done {rs : List (List (Int × Int))} {w : Nat} (h : Win (keysOf rs) (doneOf rs) rs.length w) (hd : rs.getD w [] = []) : rs.flatten = [] := by
  rw [List.flatten_eq_nil_iff]
  intro l hl
  obtain ⟨i, hi, rfl⟩ := List.getElem_of_mem hl
  have h1 := h.2 i hi
  unfold beats at h1
  rw [doneOf_at hi, doneOf_at h.1, hd] at h1
  have e : rs.getD i [] = rs[i] := by rw [List.getD_eq_getElem?_getD, List.getElem?_eq_getElem hi]; rfl
  rw [e] at h1
  cases hx : rs[i] with
  | nil => rfl
  | cons a t => rw [hx] at h1; simp at h1

theorem asc_head {x : Int × Int} {t : List (Int × Int)} (h : Asc ltF (x :: t)) : ∀ y ∈ x :: t, ltF y x = false := by
  intro y hy
  rcases List.mem_cons.1 hy with rfl | hy
  · simp [ltF, ltK]
  · exact (asc_cons.1 h).1 y hy

/-- ONE STEP: the winner's head goes ahead of all else. -/
theorem kstep {rs : List (List (Int × Int))} {w : Nat} {x : Int × Int} {t : List (Int × Int)} (h : Win (keysOf rs) (doneOf rs) rs.length w) (hw : rs.getD w [] = x :: t) (ha : ∀ l ∈ rs, Asc ltF l) :
    srt ltF rs.flatten = x :: srt ltF (rs.set w t).flatten := by
  have S := swK (Prod.fst : Int × Int → Int)
  have hwl := h.1
  have hget : rs[w] = x :: t := by rw [← hw, List.getD_eq_getElem?_getD, List.getElem?_eq_getElem hwl]; rfl
  have e1 : rs = rs.take w ++ (x :: t) :: rs.drop (w + 1) := by
    rw [← hget, ← List.drop_eq_getElem_cons hwl, List.take_append_drop]
  have e2 : rs.set w t = rs.take w ++ t :: rs.drop (w + 1) := List.set_eq_take_append_cons_drop.trans (if_pos hwl)
  have f1 : rs.flatten = (rs.take w).flatten ++ ([x] ++ (t ++ (rs.drop (w + 1)).flatten)) := by
    conv => lhs; rw [e1]
    simp
  have f2 : (rs.set w t).flatten = (rs.take w).flatten ++ (t ++ (rs.drop (w + 1)).flatten) := by
    rw [e2]; simp
  have hd : (doneOf rs).getD w false = false := by rw [doneOf_at hwl, hw]; rfl
  have hkw : (keysOf rs).getD w 0 = x.1 := by rw [keysOf_at hwl, hw]; rfl
  have hA : ∀ y ∈ (rs.take w).flatten, ltF x y = true := by
    intro y hy
    obtain ⟨l, hl, hyl⟩ := List.mem_flatten.1 hy
    obtain ⟨i, hi, rfl⟩ := List.mem_take_iff_getElem.1 hl
    have hil : i < rs.length := by omega
    have h1 := h.2 i hil
    have e : rs.getD i [] = rs[i] := by rw [List.getD_eq_getElem?_getD, List.getElem?_eq_getElem hil]; rfl
    rw [beats_no, hd, doneOf_at hil, keysOf_at hil, hkw, e] at h1
    have hiw : i < w := by omega
    cases hx : rs[i] with
    | nil => rw [hx] at hyl; cases hyl
    | cons a s =>
      rw [hx] at h1 hyl
      have hasc := ha _ (List.getElem_mem hil)
      rw [hx] at hasc
      have h3 := asc_head hasc y hyl
      have h4 : ¬ (a.1 < x.1 ∨ a.1 = x.1 ∧ i < w) := fun q => h1 (.inl ⟨rfl, q⟩)
      simp [ltF, ltK] at h3 ⊢
      omega
  have hB : ∀ y ∈ t ++ (rs.drop (w + 1)).flatten, ltF y x = false := by
    intro y hy
    rcases List.mem_append.1 hy with hy | hy
    · have hasc := ha _ (List.getElem_mem hwl)
      rw [hget] at hasc
      exact asc_head hasc y (List.mem_cons_of_mem _ hy)
    · obtain ⟨l, hl, hyl⟩ := List.mem_flatten.1 hy
      obtain ⟨j, hj, rfl⟩ := List.mem_drop_iff_getElem.1 hl
      have hil : w + 1 + j < rs.length := by omega
      have h1 := h.2 (w + 1 + j) hil
      have e : rs.getD (w + 1 + j) [] = rs[w + 1 + j] := by rw [List.getD_eq_getElem?_getD, List.getElem?_eq_getElem hil]; rfl
      rw [beats_no, hd, doneOf_at hil, keysOf_at hil, hkw, e] at h1
      cases hx : rs[w + 1 + j] with
      | nil => rw [hx] at hyl; cases hyl
      | cons a s =>
        rw [hx] at h1 hyl
        have hasc := ha _ (List.getElem_mem hil)
        rw [hx] at hasc
        have h3 := asc_head hasc y hyl
        have h4 : ¬ (a.1 < x.1 ∨ a.1 = x.1 ∧ w + 1 + j < w) := fun q => h1 (.inl ⟨rfl, q⟩)
        simp [ltF, ltK] at h3 ⊢
        omega
  rw [f1, f2, srt_append S, srt_append S [x], srt_one, srt_append S (rs.take w).flatten]
  rw [mrg_ahead (l := [x]) (fun a hax b hb => by rw [List.mem_singleton.1 hax]; exact hB b (srt_mem.1 hb))]
  cases hs : srt ltF (rs.take w).flatten with
  | nil => rw [mrg_nil, mrg_nil]; rfl
  | cons a s =>
    rw [List.singleton_append, mrg_lt (hA a (srt_mem.1 (by rw [hs]; simp)))]

/-- The nodes above a leaf. -/
def plen : Nat → Nat
  | 0 => 0
  | p + 1 => 1 + plen ((p + 1) / 2)
decreasing_by omega
theorem plen_pos {p : Nat} (h : 0 < p) : plen p = 1 + plen (p / 2) := by
  obtain ⟨q, rfl⟩ : ∃ q, p = q + 1 := ⟨p - 1, by omega⟩
  rw [plen]
theorem plen_zero : plen 0 = 0 := by rw [plen]
theorem plen_le : ∀ (n p : Nat), p < 2 ^ n → plen p ≤ n
  | 0, p, h => by
    obtain rfl : p = 0 := by simpa using h
    rw [plen_zero]; omega
  | n + 1, p, h => by
    rcases Nat.eq_zero_or_pos p with rfl | hp
    · rw [plen_zero]; omega
    · rw [plen_pos hp]
      have := plen_le n (p / 2) (by rw [Nat.pow_succ] at h; omega)
      omega

/-- The comparisons of the merge behind its first tree. -/
def kc : Nat → List (List (Int × Int)) → Nat
  | 0, _ => 0
  | f + 1, rs => match rs.getD (winF (keysOf rs) (doneOf rs) rs.length) [] with
    | [] => 0
    | _ :: t => plen ((rs.length + winF (keysOf rs) (doneOf rs) rs.length) / 2) + kc f (rs.set (winF (keysOf rs) (doneOf rs) rs.length) t)
theorem kc_step {rs : List (List (Int × Int))} {w : Nat} {x : Int × Int} {t : List (Int × Int)} {f : Nat} (h : Win (keysOf rs) (doneOf rs) rs.length w) (hw : rs.getD w [] = x :: t) :
    kc (f + 1) rs = plen ((rs.length + w) / 2) + kc f (rs.set w t) := by
  rw [kc, winF_eq h, hw]
theorem len_step {rs : List (List (Int × Int))} {w : Nat} {x : Int × Int} {t : List (Int × Int)} (hwl : w < rs.length) (hw : rs.getD w [] = x :: t) : rs.flatten.length = (rs.set w t).flatten.length + 1 := by
  have hget : rs[w] = x :: t := by rw [← hw, List.getD_eq_getElem?_getD, List.getElem?_eq_getElem hwl]; rfl
  have e1 : rs = rs.take w ++ (x :: t) :: rs.drop (w + 1) := by
    rw [← hget, ← List.drop_eq_getElem_cons hwl, List.take_append_drop]
  have e2 : rs.set w t = rs.take w ++ t :: rs.drop (w + 1) := List.set_eq_take_append_cons_drop.trans (if_pos hwl)
  rw [e2]
  conv => lhs; rw [e1]
  simp; omega
theorem asc_step {rs : List (List (Int × Int))} {w : Nat} {x : Int × Int} {t : List (Int × Int)} (hwl : w < rs.length) (hw : rs.getD w [] = x :: t) (ha : ∀ l ∈ rs, Asc ltF l) : ∀ l ∈ rs.set w t, Asc ltF l := by
  intro l hl
  rcases List.mem_or_eq_of_mem_set hl with h | h2
  · exact ha l h
  · rw [h2]
    have hget : rs[w] = x :: t := by rw [← hw, List.getD_eq_getElem?_getD, List.getElem?_eq_getElem hwl]; rfl
    have := ha _ (List.getElem_mem hwl)
    rw [hget] at this
    exact (asc_cons.1 this).2
end Go.Proofs.Ytcdfinkefahloaa.Mg

namespace Go.Proofs.Ytcdfinkefahloaa.Mg
set_option linter.unusedVariables false
abbrev srtP (l : List (Int × Int)) : List (Int × Int) := srt ltF l
theorem up_lt {w n : Nat} (hw : 2 ≤ w) (hn : 1 < n) : (n + w - 1) / w < n := by
  refine Nat.div_lt_of_lt_mul ?_
  obtain ⟨a, rfl⟩ : ∃ a, w = a + 2 := ⟨w - 2, by omega⟩
  obtain ⟨b, rfl⟩ : ∃ b, n = b + 2 := ⟨n - 2, by omega⟩
  rw [Nat.add_mul, Nat.mul_add]
  omega
/-- The passes that lead to one run. -/
def pc (w n : Nat) : Nat := if h : 1 < n ∧ 2 ≤ w then 1 + pc w ((n + w - 1) / w) else 0
termination_by n
decreasing_by exact up_lt h.2 h.1
/-- The comparisons of one merge, of a pass. -/
def kcs (g : List (List (Int × Int))) : Nat := g.length - 1 + kc g.flatten.length g
end Go.Proofs.Ytcdfinkefahloaa.Mg

