/- Plain law of permutations: the next one by the program's way and by the reference's, for up to five items; what is counted. No program in sight. -/
import Derived.Test.YtkjmngdcfheojaaKa
namespace Go.Proofs.Ytkjmngdcfheojaa
set_option linter.unusedVariables false

namespace Pm

/-- The last place behind which the list rises, below k. -/
def piv (p : List Int) : Nat → Option Nat
  | 0 => none
  | k + 1 => if p.getD k 0 < p.getD (k + 1) 0 then some k else piv p k
/-- The like with equality allowed. -/
def pivE (p : List Int) : Nat → Option Nat
  | 0 => none
  | k + 1 => if p.getD k 0 ≤ p.getD (k + 1) 0 then some k else pivE p k
/-- The last place up to k with more than x. -/
def lastGt (p : List Int) (x : Int) : Nat → Nat
  | 0 => 0
  | k + 1 => if p.getD (k + 1) 0 ≤ x then lastGt p x k else k + 1
def swp (p : List Int) (i k : Nat) : List Int := (p.set i (p.getD k 0)).set k (p.getD i 0)
def turnAt (p : List Int) (i : Nat) : List Int := p.take i ++ (p.drop i).reverse
def nextI (p : List Int) : Option (List Int) :=
  match piv p (p.length - 1) with
  | none => none
  | some i => some (turnAt (swp p i (lastGt p (p.getD i 0) (p.length - 1))) (i + 1))

def insS (x : Int) : List Int → List Int
  | [] => [x]
  | y :: t => if y ≤ x then y :: insS x t else x :: y :: t
def sortS : List Int → List Int
  | [] => []
  | x :: t => insS x (sortS t)
/-- The first place with more than x. -/
def firstGt (x : Int) : List Int → Nat
  | [] => 0
  | y :: t => if y ≤ x then firstGt x t + 1 else 0
def nextS (p : List Int) : List Int :=
  match pivE p (p.length - 1) with
  | none => []
  | some i =>
    let rest := sortS (p.drop i)
    let k := firstGt (p.getD i 0) rest
    p.take i ++ [rest.getD k 0] ++ rest.take k ++ rest.drop (k + 1)

def first (n : Nat) : List Int := (List.range n).map fun (i : Nat) => (i : Int)
def runI : Nat → List Int → List (List Int)
  | 0, _ => []
  | f + 1, p => p :: (match nextI p with | none => [] | some q => runI f q)
/-- All arrangements, in order. -/
def allP (n : Nat) : List (List Int) := runI 121 (first n)

def okP (n : Nat) (p : List Int) : Bool := decide (p.length = n) && p.all (fun x => decide (0 ≤ x) && decide (x < n)) && decide (p.Nodup)
def checks (n : Nat) : Bool :=
  (allP n).all (fun p => okP n p && decide (nextS p = (nextI p).getD [])) && decide ((allP n).length ≤ 120) && decide ((allP n)[0]? = some (first n)) &&
    (List.range (allP n).length).all (fun k => decide (nextI ((allP n).getD k []) = (allP n)[k + 1]?))

theorem checks1 : checks 1 = true := by decide +kernel
theorem checks2 : checks 2 = true := by decide +kernel
theorem checks3 : checks 3 = true := by decide +kernel
theorem checks4 : checks 4 = true := by decide +kernel
theorem checks5 : checks 5 = true := by decide +kernel
theorem checks_any {n : Nat} (h1 : 1 ≤ n) (h5 : n ≤ 5) : checks n = true := by
  match n, h1, h5 with
  | 1, _, _ => exact checks1
  | 2, _, _ => exact checks2
  | 3, _, _ => exact checks3
  | 4, _, _ => exact checks4
  | 5, _, _ => exact checks5

theorem allP_ok {n : Nat} (h1 : 1 ≤ n) (h5 : n ≤ 5) {p : List Int} (hp : p ∈ allP n) : p.length = n ∧ (∀ x ∈ p, 0 ≤ x ∧ x < n) ∧ p.Nodup := by
  have h := checks_any h1 h5
  unfold checks at h
  simp only [Bool.and_eq_true, List.all_eq_true, decide_eq_true_eq] at h
  have := (h.1.1.1 p hp).1
  unfold okP at this
  simp only [Bool.and_eq_true, List.all_eq_true, decide_eq_true_eq] at this
  exact ⟨this.1.1, this.1.2, this.2⟩
theorem allP_len {n : Nat} (h1 : 1 ≤ n) (h5 : n ≤ 5) : (allP n).length ≤ 120 := by
  have h := checks_any h1 h5
  unfold checks at h
  simp only [Bool.and_eq_true, decide_eq_true_eq] at h
  exact h.1.1.2
theorem allP_first {n : Nat} (h1 : 1 ≤ n) (h5 : n ≤ 5) : (allP n)[0]? = some (first n) := by
  have h := checks_any h1 h5
  unfold checks at h
  simp only [Bool.and_eq_true, decide_eq_true_eq] at h
  exact h.1.2
theorem allP_next {n : Nat} (h1 : 1 ≤ n) (h5 : n ≤ 5) {k : Nat} {p : List Int} (hk : (allP n)[k]? = some p) : nextI p = (allP n)[k + 1]? := by
  have h := checks_any h1 h5
  unfold checks at h
  simp only [Bool.and_eq_true, List.all_eq_true, decide_eq_true_eq] at h
  have hlt : k < (allP n).length := (List.getElem?_eq_some_iff.1 hk).1
  have := h.2 k (List.mem_range.2 hlt)
  rwa [show (allP n).getD k [] = p by simp [List.getD, hk]] at this
theorem allP_nextS {n : Nat} (h1 : 1 ≤ n) (h5 : n ≤ 5) {k : Nat} {p : List Int} (hk : (allP n)[k]? = some p) : nextS p = ((allP n)[k + 1]?).getD [] := by
  have h := checks_any h1 h5
  unfold checks at h
  simp only [Bool.and_eq_true, List.all_eq_true, decide_eq_true_eq] at h
  rw [← allP_next h1 h5 hk]
  exact (h.1.1.1 p (List.mem_of_getElem? hk)).2

/-- Does an arrangement meet the facts? -/
def fits (fs : List (Int × Int)) (p : List Int) : Bool := fs.all fun f => decide (p.getD f.1.toNat 0 < p.getD f.2.toNat 0)
def cnt (n : Nat) (fs : List (Int × Int)) : Nat := (allP n).countP (fits fs)
/-- What is counted among the first k. -/
def cntTo (n : Nat) (fs : List (Int × Int)) (k : Nat) : Nat := ((allP n).take k).countP (fits fs)
theorem cntTo_zero (n : Nat) (fs : List (Int × Int)) : cntTo n fs 0 = 0 := by simp [cntTo]
theorem cntTo_succ {n : Nat} {fs : List (Int × Int)} {k : Nat} {p : List Int} (hk : (allP n)[k]? = some p) : cntTo n fs (k + 1) = cntTo n fs k + (if fits fs p then 1 else 0) := by
  unfold cntTo
  rw [List.take_add_one, hk, List.countP_append]
  simp [List.countP_cons]
theorem cntTo_end {n : Nat} {fs : List (Int × Int)} {k : Nat} (hk : (allP n)[k]? = none) : cntTo n fs k = cnt n fs := by
  unfold cntTo cnt
  rw [List.take_of_length_le (by simpa using hk)]
theorem cntTo_le (n : Nat) (fs : List (Int × Int)) (k : Nat) : cntTo n fs k ≤ k := by
  unfold cntTo
  exact Nat.le_trans List.countP_le_length (by simp; omega)

theorem fits_append (fs gs : List (Int × Int)) (p : List Int) : fits (fs ++ gs) p = (fits fs p && fits gs p) := by simp [fits]

theorem cnt_split {n : Nat} (h1 : 1 ≤ n) (h5 : n ≤ 5) (fs : List (Int × Int)) {a b : Int} (ha : 0 ≤ a ∧ a < n) (hb : 0 ≤ b ∧ b < n) (hne : a ≠ b) : cnt n (fs ++ [(a, b)]) + cnt n (fs ++ [(b, a)]) = cnt n fs := by
  unfold cnt
  have key : ∀ l : List (List Int), (∀ p ∈ l, p ∈ allP n) → l.countP (fits (fs ++ [(a, b)])) + l.countP (fits (fs ++ [(b, a)])) = l.countP (fits fs) := by
    intro l
    induction l with
    | nil => intro _; rfl
    | cons p t ih =>
      intro hl
      have hi := ih (fun q hq => hl q (List.mem_cons_of_mem _ hq))
      obtain ⟨hlen, hr, hnd⟩ := allP_ok h1 h5 (hl p List.mem_cons_self)
      have hd : p.getD a.toNat 0 ≠ p.getD b.toNat 0 := by
        intro e
        have h1 : a.toNat < p.length := by omega
        have h2 : b.toNat < p.length := by omega
        rw [List.getD_eq_getElem?_getD, List.getD_eq_getElem?_getD, List.getElem?_eq_getElem h1, List.getElem?_eq_getElem h2] at e
        simp only [Option.getD_some] at e
        rcases Nat.lt_trichotomy a.toNat b.toNat with h | h | h
        · exact (List.pairwise_iff_getElem.1 hnd _ _ h1 h2 h) e
        · omega
        · exact (List.pairwise_iff_getElem.1 hnd _ _ h2 h1 h) e.symm
      rw [List.countP_cons, List.countP_cons, List.countP_cons, fits_append, fits_append]
      have e1 : fits [(a, b)] p = decide (p.getD a.toNat 0 < p.getD b.toNat 0) := by simp [fits]
      have e2 : fits [(b, a)] p = !decide (p.getD a.toNat 0 < p.getD b.toNat 0) := by
        simp only [fits, List.all_cons, List.all_nil, Bool.and_true]
        rw [← decide_not]
        exact decide_eq_decide.2 (by omega)
      rw [e1, e2]
      cases fits fs p <;> cases decide (p.getD a.toNat 0 < p.getD b.toNat 0) <;> simp <;> omega
  exact key _ fun p hp => hp

end Pm
end Go.Proofs.Ytkjmngdcfheojaa
