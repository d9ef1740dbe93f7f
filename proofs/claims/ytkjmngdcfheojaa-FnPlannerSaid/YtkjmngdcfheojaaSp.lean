/- Plain law of profiles: descents, inversions and distinct keys counted by two ways. No program in sight. -/
import Derived.Lib.SlicesCompact
import Derived.Test.YtkjmngdcfheojaaSs
namespace Go.Proofs.Ytkjmngdcfheojaa.Mg
set_option linter.unusedVariables false

def cntP (p : Nat → Bool) : Nat → Nat
  | 0 => 0
  | n + 1 => cntP p n + if p n then 1 else 0
theorem cntP_le (p : Nat → Bool) (n : Nat) : cntP p n ≤ n := by
  induction n with
  | zero => exact Nat.le_refl _
  | succ n ih => unfold cntP; split <;> omega
/-- A descent behind place i. -/
def dsc (ks : List Int) (i : Nat) : Bool := decide (ks.getD (i + 1) 0 < ks.getD i 0)
/-- Another key behind place i. -/
def oth (s : List Int) (i : Nat) : Bool := decide (s.getD (i + 1) 0 ≠ s.getD i 0)

/-- For each item, how many behind it are less. -/
def tbl : List Int → List Int
  | [] => []
  | x :: t => ((t.countP fun y => decide (y < x) : Nat) : Int) :: tbl t
def inv : List Int → Nat
  | [] => 0
  | x :: t => (t.countP fun y => decide (y < x)) + inv t
def sumL (l : List Int) : Int := l.foldl (· + ·) 0
theorem foldl_add (l : List Int) (a : Int) : l.foldl (· + ·) a = a + l.foldl (· + ·) 0 := by
  induction l generalizing a with
  | nil => simp
  | cons x t ih => rw [List.foldl_cons, List.foldl_cons, ih, ih (0 + x)]; omega
theorem sum_tbl (l : List Int) : sumL (tbl l) = inv l := by
  induction l with
  | nil => rfl
  | cons x t ih =>
    have h1 : sumL (tbl (x :: t)) = 0 + ((t.countP fun y => decide (y < x) : Nat) : Int) + sumL (tbl t) := by
      unfold sumL
      rw [tbl, List.foldl_cons, foldl_add]
    rw [h1, ih, inv]
    omega
theorem tbl_len (l : List Int) : (tbl l).length = l.length := by
  induction l with
  | nil => rfl
  | cons x t ih => simp [tbl, ih]
theorem tbl_drop (l : List Int) : ∀ i, i < l.length → (tbl l)[i]? = some (((l.drop (i + 1)).countP fun y => decide (y < l.getD i 0) : Nat) : Int) := by
  induction l with
  | nil => intro i h; simp at h
  | cons x t ih =>
    intro i h
    cases i with
    | zero => simp [tbl]
    | succ i =>
      have := ih i (by simpa using h)
      simpa [tbl] using this
theorem inv_snoc (l : List Int) (y : Int) : inv (l ++ [y]) = inv l + l.countP fun x => decide (y < x) := by
  induction l with
  | nil => rfl
  | cons x t ih =>
    simp only [List.cons_append, inv, ih, List.countP_append, List.countP_cons, List.countP_nil]
    omega
theorem inv_le (l : List Int) : inv l ≤ l.length * l.length := by
  induction l with
  | nil => exact Nat.le_refl _
  | cons x t ih =>
    unfold inv
    have h1 : (t.countP fun y => decide (y < x)) ≤ t.length := List.countP_le_length
    have h2 : (t.length + 1) * (t.length + 1) = t.length * t.length + 2 * t.length + 1 := by
      rw [Nat.add_mul, Nat.mul_add]; omega
    rw [List.length_cons, h2]
    omega
theorem inv_take {ks : List Int} {i : Nat} (h : i < ks.length) : inv (ks.take (i + 1)) = inv (ks.take i) + (ks.take i).countP fun x => decide (ks.getD i 0 < x) := by
  rw [← inv_snoc]
  congr 1
  rw [List.take_add_one, List.getElem?_eq_getElem h, List.getD_eq_getElem?_getD, List.getElem?_eq_getElem h]
  rfl
theorem count_take {ks : List Int} {i k : Nat} (hk : k < i) (hi : i ≤ ks.length) (p : Int → Bool) : ((ks.take i).take (k + 1)).countP p = ((ks.take i).take k).countP p + if p (ks.getD k 0) then 1 else 0 := by
  have hl : k < (ks.take i).length := by rw [List.length_take]; omega
  rw [List.take_add_one, List.getElem?_eq_getElem hl, List.countP_append]
  have e : (ks.take i)[k] = ks.getD k 0 := by
    rw [List.getElem_take, List.getD_eq_getElem?_getD, List.getElem?_eq_getElem (by omega)]; rfl
  rw [e]
  simp [List.countP_cons]

theorem compact_len (s : List Int) : ∀ m, 0 < m → m ≤ s.length → (Lib.compactUpTo s.toArray m).length = 1 + cntP (oth s) (m - 1) := by
  intro m
  induction m with
  | zero => intro h; omega
  | succ m ih =>
    intro _ hm
    rw [Lib.compactUpTo_succ, List.length_append]
    cases m with
    | zero => simp [Lib.compactUpTo, Lib.keeps, cntP]
    | succ m =>
      rw [ih (by omega) (by omega)]
      simp only [Nat.add_sub_cancel]
      have e : Lib.keeps s.toArray (m + 1) = oth s m := by
        unfold Lib.keeps oth
        simp [List.getD_eq_getElem?_getD, show m + 1 < s.length by omega, show m < s.length by omega]
      rw [e]
      show _ = 1 + (cntP (oth s) m + _)
      cases oth s m <;> simp <;> omega
end Go.Proofs.Ytkjmngdcfheojaa.Mg
