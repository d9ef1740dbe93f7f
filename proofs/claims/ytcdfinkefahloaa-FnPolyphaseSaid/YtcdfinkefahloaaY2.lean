/- Several texts in one: lemmas and walks of the functions that the law reaches. -/
import Derived.Test.YtcdfinkefahloaaY0
import Derived.ProofKit

namespace Go.Proofs.Ytcdfinkefahloaa.Ply
set_option linter.unusedVariables false

section
variable {α : Type} (mrg : List α → α) (z : α) (sz : α → Nat)
/-- The queues behind the first i have lost their heads. -/
def tailsTo (e : Nat) (Q : List (List α)) (i : Nat) : List (List α) := (List.range Q.length).map fun j => if j < i ∧ j ≠ e then (Q.getD j []).tail else Q.getD j []
def headsTo (e : Nat) (Q : List (List α)) (i : Nat) : List α := ((List.range i).filter (fun j => decide (j ≠ e))).map fun j => (Q.getD j []).headD z
def stepF (e : Nat) (Q : List (List α)) : List (List α) := (tailsTo e Q Q.length).set e (Q.getD e [] ++ [mrg (headsTo z e Q Q.length)])
def stepsF (e : Nat) (Q : List (List α)) : Nat → List (List α)
  | 0 => Q
  | k + 1 => stepF mrg z e (stepsF e Q k)
def movedF (e : Nat) (Q : List (List α)) : Nat → Nat
  | 0 => 0
  | k + 1 => movedF e Q k + sz (mrg (headsTo z e (stepsF mrg z e Q k) Q.length))
def cnt (Q : List (List α)) : List Nat := Q.map List.length
end
/-- The empty tape, the number of merges, and whether there is one. -/
def phI : List Nat → Nat → Int → Nat → Int × Nat × Bool
  | [], _, em, le => (em, le, decide (0 ≤ em))
  | x :: r, i, em, le => if x = 0 ∧ 0 ≤ em then (0, 0, false) else if x = 0 then phI r (i + 1) i le else if le = 0 ∨ x < le then phI r (i + 1) em x else phI r (i + 1) em le
def phaseF (c : List Nat) : Int × Nat × Bool := phI c 0 (-1) 0
def emF (c : List Nat) : Nat := (phaseF c).1.toNat
def leF (c : List Nat) : Nat := (phaseF c).2.1
def after (c : List Nat) (e m : Nat) : List Nat := (List.range c.length).map fun j => if j = e then m else c.getD j 0 - m
/-- The counts lead to a single run. -/
def good : Nat → List Nat → Bool
  | 0, _ => false
  | f + 1, c => decide (c.sum ≤ 100) && (decide (c.sum = 1) || ((phaseF c).2.2 && decide (0 ≤ (phaseF c).1) && decide (emF c < c.length) && decide (c.getD (emF c) 0 = 0) && decide (1 ≤ leF c) && ((List.range c.length).all fun j => decide (j = emF c) || decide (leF c ≤ c.getD j 0)) && good f (after c (emF c) (leF c))))
section
variable {α : Type} (mrg : List α → α) (z : α) (sz : α → Nat)
/-- All phases: the queues at the end, the phases, what was moved. -/
def polyF : Nat → List (List α) → List (List α) × Nat × Nat
  | 0, Q => (Q, 0, 0)
  | f + 1, Q => if (cnt Q).sum = 1 then (Q, 0, 0) else
    ((polyF f (stepsF mrg z (emF (cnt Q)) Q (leF (cnt Q)))).1, (polyF f (stepsF mrg z (emF (cnt Q)) Q (leF (cnt Q)))).2.1 + 1, movedF mrg z sz (emF (cnt Q)) Q (leF (cnt Q)) + (polyF f (stepsF mrg z (emF (cnt Q)) Q (leF (cnt Q)))).2.2)
end
section
variable {α : Type} {mrg : List α → α} {z : α} {sz : α → Nat} {e : Nat} {Q : List (List α)}
theorem map_range_get {β : Type} {n j : Nat} (f : Nat → β) (d : β) (hj : j < n) : ((List.range n).map f).getD j d = f j := by
  rw [List.getD_eq_getElem?_getD, List.getElem?_map, List.getElem?_range hj]; rfl
theorem list_eq_range {β : Type} (l : List β) (d : β) : l = (List.range l.length).map fun j => l.getD j d := by
  apply List.ext_getElem
  · simp
  · intro j h1 h2
    rw [List.getElem_map, List.getElem_range, List.getD_eq_getElem?_getD, List.getElem?_eq_getElem h1]; rfl
theorem tails_len (i : Nat) : (tailsTo e Q i).length = Q.length := by simp [tailsTo]
theorem tails_zero : tailsTo e Q 0 = Q := by
  unfold tailsTo
  conv => rhs; rw [list_eq_range Q []]
  apply List.map_congr_left
  intro j _
  rw [if_neg (by omega)]
theorem tails_get {i j : Nat} (hj : j < Q.length) : (tailsTo e Q i).getD j [] = if j < i ∧ j ≠ e then (Q.getD j []).tail else Q.getD j [] := map_range_get _ _ hj
theorem tails_same {i j : Nat} (h : i ≤ j ∨ j = e) (hj : j < Q.length) : (tailsTo e Q i).getD j [] = Q.getD j [] := by
  rw [tails_get hj, if_neg (by omega)]
theorem set_getD {β : Type} {l : List β} {i j : Nat} {x d : β} (hi : i < l.length) : (l.set i x).getD j d = if j = i then x else l.getD j d := by
  rw [List.getD_eq_getElem?_getD, List.getElem?_set, List.getD_eq_getElem?_getD]
  by_cases e : i = j
  · subst e; rw [if_pos rfl, if_pos rfl, if_pos hi]; rfl
  · rw [if_neg e, if_neg (fun e2 => e e2.symm)]
theorem ext_getD {β : Type} {l1 l2 : List β} (d : β) (hl : l1.length = l2.length) (h : ∀ j, j < l1.length → l1.getD j d = l2.getD j d) : l1 = l2 := by
  apply List.ext_getElem hl
  intro j h1 h2
  have := h j h1
  rwa [List.getD_eq_getElem?_getD, List.getElem?_eq_getElem h1, List.getD_eq_getElem?_getD, List.getElem?_eq_getElem h2] at this
theorem tails_succ {i : Nat} (hi : i < Q.length) (hne : i ≠ e) {y : α} {qt : List α} (hq : Q.getD i [] = y :: qt) : tailsTo e Q (i + 1) = (tailsTo e Q i).set i qt := by
  refine ext_getD [] (by rw [tails_len, List.length_set, tails_len]) (fun j hj => ?_)
  rw [tails_len] at hj
  rw [tails_get hj, set_getD (by rw [tails_len]; exact hi), tails_get hj]
  by_cases e1 : j = i
  · subst e1
    rw [if_pos rfl, if_pos ⟨by omega, hne⟩, hq]; rfl
  · rw [if_neg e1]
    by_cases e2 : j < i ∧ j ≠ e
    · rw [if_pos e2, if_pos ⟨by omega, e2.2⟩]
    · rw [if_neg e2, if_neg (by omega)]
theorem tails_skip : tailsTo e Q (e + 1) = tailsTo e Q e := by
  unfold tailsTo
  apply List.map_congr_left
  intro j _
  by_cases h : j < e ∧ j ≠ e
  · rw [if_pos h, if_pos ⟨by omega, h.2⟩]
  · rw [if_neg h, if_neg (by omega)]
theorem heads_succ {i : Nat} (hne : i ≠ e) {y : α} {qt : List α} (hq : Q.getD i [] = y :: qt) : headsTo z e Q (i + 1) = headsTo z e Q i ++ [y] := by
  unfold headsTo
  rw [List.range_succ, List.filter_append, List.map_append]
  simp [hne, -List.getD_eq_getElem?_getD, hq]
theorem heads_skip : headsTo z e Q (e + 1) = headsTo z e Q e := by
  unfold headsTo
  rw [List.range_succ, List.filter_append]
  simp
theorem heads_zero : headsTo z e Q 0 = [] := rfl
theorem heads_pos {i : Nat} (h : 2 ≤ i) : 0 < (headsTo z e Q i).length := by
  unfold headsTo
  rw [List.length_map, List.length_pos_iff_exists_mem]
  by_cases h0 : e = 0
  · exact ⟨1, List.mem_filter.2 ⟨List.mem_range.2 (by omega), by simp; omega⟩⟩
  · exact ⟨0, List.mem_filter.2 ⟨List.mem_range.2 (by omega), by simp; omega⟩⟩
theorem step_len : (stepF mrg z e Q).length = Q.length := by simp [stepF, tails_len]
theorem steps_len (k : Nat) : (stepsF mrg z e Q k).length = Q.length := by
  induction k with
  | zero => rfl
  | succ k ih => rw [stepsF, step_len, ih]
theorem cnt_len : (cnt Q).length = Q.length := by simp [cnt]
theorem cnt_get {j : Nat} : (cnt Q).getD j 0 = (Q.getD j []).length := by
  unfold cnt
  rw [List.getD_eq_getElem?_getD, List.getElem?_map, List.getD_eq_getElem?_getD]
  cases Q[j]? <;> rfl
/-- A step's counts. -/
theorem step_get (he : e < Q.length) {j : Nat} (hj : j < Q.length) : (stepF mrg z e Q).getD j [] = if j = e then Q.getD e [] ++ [mrg (headsTo z e Q Q.length)] else (Q.getD j []).tail := by
  unfold stepF
  rw [set_getD (by rw [tails_len]; exact he)]
  by_cases h : j = e
  · rw [if_pos h, if_pos h]
  · rw [if_neg h, if_neg h, tails_get hj, if_pos ⟨hj, h⟩]
theorem steps_cnt (he : e < Q.length) {j : Nat} (hj : j < Q.length) (k : Nat) : ((stepsF mrg z e Q k).getD j []).length = if j = e then (Q.getD e []).length + k else (Q.getD j []).length - k := by
  induction k with
  | zero => rw [stepsF]; by_cases h : j = e <;> simp [h]
  | succ k ih =>
    have hl := steps_len (mrg := mrg) (z := z) (e := e) (Q := Q) k
    rw [stepsF, step_get (by rw [hl]; exact he) (by rw [hl]; exact hj)]
    by_cases h : j = e
    · subst h
      rw [if_pos rfl] at ih
      rw [if_pos rfl, if_pos rfl, List.length_append, ih]; rfl
    · rw [if_neg h] at ih
      rw [if_neg h, if_neg h, List.length_tail, ih]; omega
theorem steps_after (he : e < Q.length) (h0 : (Q.getD e []).length = 0) (m : Nat) : cnt (stepsF mrg z e Q m) = after (cnt Q) e m := by
  unfold after
  rw [list_eq_range (cnt (stepsF mrg z e Q m)) 0, cnt_len, cnt_len, steps_len]
  apply List.map_congr_left
  intro j hj
  rw [List.mem_range] at hj
  rw [cnt_get, steps_cnt he hj, cnt_get, h0, Nat.zero_add]
structure GoodAt (f : Nat) (c : List Nat) : Prop where
  ok : (phaseF c).2.2 = true
  e0 : (phaseF c).1 = (emF c : Int)
  lt : emF c < c.length
  zero : c.getD (emF c) 0 = 0
  pos : 1 ≤ leF c
  all : ∀ j, j < c.length → j ≠ emF c → leF c ≤ c.getD j 0
  next : good f (after c (emF c) (leF c)) = true
theorem good_sum {f : Nat} {c : List Nat} (h : good f c = true) : c.sum ≤ 100 := by
  cases f with
  | zero => cases h
  | succ f =>
    unfold good at h
    rw [Bool.and_eq_true, decide_eq_true_eq] at h
    exact h.1
theorem good_at {f : Nat} {c : List Nat} (h : good (f + 1) c = true) (h1 : c.sum ≠ 1) : GoodAt f c := by
  unfold good at h
  rw [decide_eq_false h1, Bool.false_or, Bool.and_eq_true] at h
  replace h := h.2
  simp only [Bool.and_eq_true, decide_eq_true_eq, List.all_eq_true, List.mem_range, Bool.or_eq_true] at h
  obtain ⟨⟨⟨⟨⟨⟨h1, h2⟩, h3⟩, h4⟩, h5⟩, h6⟩, h7⟩ := h
  exact ⟨h1, by unfold emF; omega, h3, h4, h5, fun j hj hne => (h6 j hj).elim (fun e => absurd e hne) id, h7⟩
theorem moved_mono {k m : Nat} (h : k ≤ m) : movedF mrg z sz e Q k ≤ movedF mrg z sz e Q m := by
  induction m with
  | zero => rw [Nat.le_zero.1 h]; exact Nat.le_refl _
  | succ m ih =>
    by_cases e1 : k = m + 1
    · rw [e1]; exact Nat.le_refl _
    · exact Nat.le_trans (ih (by omega)) (by rw [movedF]; omega)
theorem poly_end {f : Nat} (h : (cnt Q).sum = 1) : polyF mrg z sz f Q = (Q, 0, 0) := by
  cases f with
  | zero => rfl
  | succ f => rw [polyF, if_pos h]
theorem poly_next {f : Nat} (h : (cnt Q).sum ≠ 1) {R : List (List α)} {p s : Nat} (hp : polyF mrg z sz (f + 1) Q = (R, p, s)) : ∃ p' s', polyF mrg z sz f (stepsF mrg z (emF (cnt Q)) Q (leF (cnt Q))) = (R, p', s') ∧ p = p' + 1 ∧ s = movedF mrg z sz (emF (cnt Q)) Q (leF (cnt Q)) + s' := by
  rw [polyF, if_neg h] at hp
  injection hp with h1 h2
  injection h2 with h2 h3
  exact ⟨_, _, by rw [← h1], h2.symm, h3.symm⟩
end
end Go.Proofs.Ytcdfinkefahloaa.Ply

namespace Go.Proofs.Ytcdfinkefahloaa.Ply
set_option linter.unusedVariables false

/-- The next perfect distribution. -/
def nextD (l : List Nat) : List Nat := l.tail.map (fun x => l.headD 0 + x) ++ [l.headD 0]
def perf (tapes : Nat) : Nat → List Nat
  | 0 => 1 :: List.replicate (tapes - 2) 0
  | n + 1 => nextD (perf tapes n)
/-- The first level with enough runs, from a level on. -/
def levFrom (tapes runs : Nat) : Nat → Nat → Nat
  | 0, l => l
  | f + 1, l => if (perf tapes l).sum < runs then levFrom tapes runs f (l + 1) else l
def levF (tapes runs : Nat) : Nat := levFrom tapes runs 12 0
/-- The first greatest element's place, among those behind place i. -/
def most (l : List Nat) : Nat → Nat → Nat
  | 0, m => m
  | k + 1, m => most l k (if l.getD m 0 < l.getD (l.length - (k + 1)) 0 then l.length - (k + 1) else m)
def mostF (l : List Nat) : Nat := most l l.length 0
def dumStep (p : List Nat × List Nat) : List Nat × List Nat := (p.1.set (mostF p.1) (p.1.getD (mostF p.1) 0 - 1), p.2.set (mostF p.1) (p.2.getD (mostF p.1) 0 + 1))
def dumTo (p : List Nat × List Nat) : Nat → List Nat × List Nat
  | 0 => p
  | n + 1 => dumStep (dumTo p n)
def dumF (tapes runs : Nat) : List Nat × List Nat := dumTo (perf tapes (levF tapes runs), List.replicate (tapes - 1) 0) ((perf tapes (levF tapes runs)).sum - runs)
/-- The counts of all tapes at the start. -/
def startC (tapes runs : Nat) : List Nat := ((List.range (tapes - 1)).map fun i => (dumF tapes runs).1.getD i 0 + (dumF tapes runs).2.getD i 0) ++ [0]
/-- The phases that the counts lead through. -/
def phs : Nat → List Nat → Nat
  | 0, _ => 0
  | f + 1, c => if c.sum = 1 then 0 else phs f (after c (emF c) (leF c)) + 1
def check (tapes runs : Nat) : Bool :=
  good 12 (startC tapes runs) && decide (phs 12 (startC tapes runs) = levF tapes runs) && decide (levF tapes runs ≤ 10) && decide (runs ≤ (perf tapes (levF tapes runs)).sum) && decide ((perf tapes (levF tapes runs)).sum ≤ 100) &&
  decide ((dumF tapes runs).1.length = tapes - 1) && decide ((dumF tapes runs).2.length = tapes - 1) && decide ((dumF tapes runs).1.sum = runs) && decide ((dumF tapes runs).2.sum ≤ 60) &&
  ((List.range 12).all fun l => decide ((perf tapes l).length = tapes - 1)) && ((List.range (levF tapes runs)).all fun l => decide ((perf tapes l).sum < runs)) && ((List.range 12).all fun l => decide ((perf tapes l).sum ≤ 1000000)) &&
  ((List.range ((perf tapes (levF tapes runs)).sum - runs)).all fun n => decide (mostF (dumTo (perf tapes (levF tapes runs), List.replicate (tapes - 1) 0) n).1 < tapes - 1) && decide (1 ≤ (dumTo (perf tapes (levF tapes runs), List.replicate (tapes - 1) 0) n).1.getD (mostF (dumTo (perf tapes (levF tapes runs), List.replicate (tapes - 1) 0) n).1) 0))
def checkAll : Bool := (List.range 6).all fun t => (List.range 40).all fun n => check (t + 3) (n + 1)
set_option maxRecDepth 100000 in
theorem checkAll_ok : checkAll = true := by decide +kernel
theorem check_ok {tapes runs : Nat} (h1 : 3 ≤ tapes) (h2 : tapes ≤ 8) (h3 : 1 ≤ runs) (h4 : runs ≤ 40) : check tapes runs = true := by
  have := List.all_eq_true.1 (List.all_eq_true.1 checkAll_ok (tapes - 3) (List.mem_range.2 (by omega))) (runs - 1) (List.mem_range.2 (by omega))
  rwa [show tapes - 3 + 3 = tapes by omega, show runs - 1 + 1 = runs by omega] at this
structure Chk (tapes runs : Nat) : Prop where
  good : good 12 (startC tapes runs) = true
  phs : phs 12 (startC tapes runs) = levF tapes runs
  lev : levF tapes runs ≤ 10
  enough : runs ≤ (perf tapes (levF tapes runs)).sum
  sum : (perf tapes (levF tapes runs)).sum ≤ 100
  l1 : (dumF tapes runs).1.length = tapes - 1
  l2 : (dumF tapes runs).2.length = tapes - 1
  s1 : (dumF tapes runs).1.sum = runs
  s2 : (dumF tapes runs).2.sum ≤ 60
  lp : ∀ l, l < 12 → (perf tapes l).length = tapes - 1
  sm : ∀ l, l < 12 → (perf tapes l).sum ≤ 1000000
  less : ∀ l, l < levF tapes runs → (perf tapes l).sum < runs
  dm : ∀ n, n < (perf tapes (levF tapes runs)).sum - runs → mostF (dumTo (perf tapes (levF tapes runs), List.replicate (tapes - 1) 0) n).1 < tapes - 1 ∧ 1 ≤ (dumTo (perf tapes (levF tapes runs), List.replicate (tapes - 1) 0) n).1.getD (mostF (dumTo (perf tapes (levF tapes runs), List.replicate (tapes - 1) 0) n).1) 0
theorem chk {tapes runs : Nat} (h1 : 3 ≤ tapes) (h2 : tapes ≤ 8) (h3 : 1 ≤ runs) (h4 : runs ≤ 40) : Chk tapes runs := by
  have h := check_ok h1 h2 h3 h4
  unfold check at h
  simp only [Bool.and_eq_true, decide_eq_true_eq, List.all_eq_true, List.mem_range] at h
  obtain ⟨⟨⟨⟨⟨⟨⟨⟨⟨⟨⟨⟨a1, a2⟩, a3⟩, a4⟩, a5⟩, a6⟩, a7⟩, a8⟩, a9⟩, a10⟩, a11⟩, a12⟩, a13⟩ := h
  exact ⟨a1, a2, a3, a4, a5, a6, a7, a8, a9, a10, a12, a11, a13⟩

/-- The reference's reading of the same counts. -/
def emS : List Nat → Nat → Int → Int
  | [], _, at_ => at_
  | x :: r, i, at_ => if x = 0 then (if 0 ≤ at_ then -1 else emS r (i + 1) i) else emS r (i + 1) at_
def leS (em : Int) : List Nat → Nat → Nat → Nat
  | [], _, m => m
  | x :: r, i, m => if (i : Int) ≠ em ∧ (m = 0 ∨ x < m) then leS em r (i + 1) x else leS em r (i + 1) m
theorem phI_some : ∀ {c : List Nat} {i : Nat} {em : Int} {le : Nat} {em' : Int} {le' : Nat}, phI c i em le = (em', le', true) → 0 ≤ em → em' = em ∧ ∀ x ∈ c, x ≠ 0
  | [], _, _, _, _, _, h, _ => by injection h with h _; exact ⟨h.symm, fun x hx => nomatch hx⟩
  | x :: r, i, em, le, em', le', h, h0 => by
    unfold phI at h
    split at h
    · injection h with _ h; injection h with _ h; cases h
    · rename_i h1
      have hx : x ≠ 0 := fun e => h1 ⟨e, h0⟩
      rw [if_neg hx] at h
      have key : ∀ l, phI r (i + 1) em l = (em', le', true) → em' = em ∧ ∀ y ∈ x :: r, y ≠ 0 := fun l hl => by
        obtain ⟨e, h3⟩ := phI_some hl h0
        exact ⟨e, fun y hy => by rcases List.mem_cons.1 hy with h | h; rw [h]; exact hx; exact h3 y h⟩
      split at h
      · exact key _ h
      · exact key _ h
theorem emS_eq : ∀ {c : List Nat} {i : Nat} {em : Int} {le : Nat} {em' : Int} {le' : Nat}, phI c i em le = (em', le', true) → emS c i em = em'
  | [], _, _, _, _, _, h => congrArg (fun p : Int × Nat × Bool => p.1) h
  | x :: r, i, em, le, em', le', h => by
    unfold phI at h
    unfold emS
    split at h
    · injection h with _ h; injection h with _ h; cases h
    · rename_i h1
      by_cases hx : x = 0
      · rw [if_pos hx] at h ⊢
        rw [if_neg (fun h2 => h1 ⟨hx, h2⟩)]
        exact emS_eq h
      · rw [if_neg hx] at h ⊢
        split at h
        · exact emS_eq h
        · exact emS_eq h
theorem leS_eq : ∀ {c : List Nat} {i : Nat} {em : Int} {le : Nat} {em' : Int} {le' : Nat}, phI c i em le = (em', le', true) → em < i → (em < 0 ∨ em' = em) → leS em' c i le = le'
  | [], _, _, _, _, _, h, _, _ => congrArg (fun p : Int × Nat × Bool => p.2.1) h
  | x :: r, i, em, le, em', le', h, hi, ho => by
    unfold phI at h
    unfold leS
    split at h
    · injection h with _ h; injection h with _ h; cases h
    · rename_i h1
      by_cases hx : x = 0
      · rw [if_pos hx] at h
        have hem : em' = (i : Int) := (phI_some h (by omega)).1
        rw [if_neg (by rw [hem]; simp)]
        exact leS_eq h (by omega) (.inr hem)
      · rw [if_neg hx] at h
        have hne : (i : Int) ≠ em' := by
          intro e
          rcases ho with ho | ho
          · -- the empty tape is found later
            have key : ∀ {c : List Nat} {k : Nat} {e2 : Int} {l : Nat}, phI c k e2 l = (em', le', true) → e2 < 0 → (k : Int) ≤ em' := by
              intro c
              induction c with
              | nil =>
                intro k e2 l hh h0
                unfold phI at hh
                injection hh with _ hh; injection hh with _ hh
                simp at hh; omega
              | cons y c ih =>
                intro k e2 l hh h0
                unfold phI at hh
                rw [if_neg (by omega)] at hh
                by_cases hy : y = 0
                · rw [if_pos hy] at hh
                  have := (phI_some hh (by omega)).1
                  omega
                · rw [if_neg hy] at hh
                  split at hh
                  · have := ih hh h0; omega
                  · have := ih hh h0; omega
            split at h
            · have := key h ho; omega
            · have := key h ho; omega
          · omega
        by_cases hc : le = 0 ∨ x < le
        · rw [if_pos hc] at h
          rw [if_pos ⟨hne, hc⟩]
          exact leS_eq h (by omega) ho
        · rw [if_neg hc] at h
          rw [if_neg (fun h2 => hc h2.2)]
          exact leS_eq h (by omega) ho
theorem spec_phase {c : List Nat} {f : Nat} (h : GoodAt f c) : emS c 0 (-1) = (emF c : Int) ∧ leS (emF c) c 0 0 = leF c := by
  have h1 : phI c 0 (-1) 0 = ((emF c : Int), leF c, true) := by
    have e : phI c 0 (-1) 0 = phaseF c := rfl
    rw [e]
    have h2 := h.e0; have h3 := h.ok
    show phaseF c = _
    rw [← h2, ← h3]; rfl
  exact ⟨emS_eq h1, leS_eq h1 (by omega) (.inl (by omega))⟩
end Go.Proofs.Ytcdfinkefahloaa.Ply

