/- Several texts in one: lemmas and walks of the functions that the law reaches. -/
import Derived.Test.YtbgmbanebmlghaaGreatDoorY28
import Derived.Lib.Atoi
import Derived.Lib.CountLaws
import Derived.Lib.IndexBytes
import Derived.Lib.Split

namespace Go.Proofs.YtbgmbanebmlghaaGreatDoor.Cf
open Go.Proofs.YtbgmbanebmlghaaGreatDoor
set_option linter.unusedVariables false

def ordT (cert : List Int) : List UInt8 := if cert = [] then [45] else Lib.join (cert.map Lib.itoa) [44]
def sSorted : List UInt8 := [115, 111, 114, 116, 101, 100, 32]
def sKey : List UInt8 := [32, 107, 101, 121, 32]
def sOrder : List UInt8 := [32, 111, 114, 100, 101, 114, 32]
def headC (n k : Nat) : List UInt8 := sSorted ++ Lib.decDigits n ++ sKey ++ Lib.decDigits k
def bodyC (n k : Nat) (cert : List Int) : List UInt8 := headC n k ++ sOrder ++ ordT cert

theorem itoa_chars (n : Int) : ∀ b ∈ Lib.itoa n, b = 45 ∨ (48 ≤ b.toNat ∧ b.toNat ≤ 57) := by
  intro b hb
  unfold Lib.itoa at hb
  split at hb
  · rcases List.mem_cons.1 hb with h | h
    · exact .inl h
    · exact .inr (Tx.digits_range _ b h)
  · exact .inr (Tx.digits_range _ b hb)
theorem itoa_not (n : Int) (c : UInt8) (h1 : c ≠ 45) (h : c.toNat < 48 ∨ 57 < c.toNat) : c ∉ Lib.itoa n := fun hb => by
  rcases itoa_chars n c hb with e | e
  · exact h1 e
  · omega
theorem mem_join {b : UInt8} (sep : List UInt8) : ∀ {xs : List (List UInt8)}, b ∈ Lib.join xs sep → b ∈ sep ∨ ∃ x ∈ xs, b ∈ x
  | [], h => by simp [Lib.join] at h
  | [x], h => by rw [Lib.join_one] at h; exact .inr ⟨x, by simp, h⟩
  | x :: y :: r, h => by
    rw [show Lib.join (x :: y :: r) sep = x ++ sep ++ Lib.join (y :: r) sep by rw [Lib.join_cons, Lib.join_cons]; simp [Lib.joinTail]] at h
    simp only [List.mem_append] at h
    rcases h with (h | h) | h
    · exact .inr ⟨x, by simp, h⟩
    · exact .inl h
    · rcases mem_join sep h with h | ⟨z, hz, h⟩
      · exact .inl h
      · exact .inr ⟨z, List.mem_cons_of_mem _ hz, h⟩
theorem ordT_not (cert : List Int) (c : UInt8) (h1 : c ≠ 45) (h2 : c ≠ 44) (h : c.toNat < 48 ∨ 57 < c.toNat) : c ∉ ordT cert := by
  intro hb
  unfold ordT at hb
  split at hb
  · simp at hb; exact h1 hb
  · rcases mem_join _ hb with h | ⟨x, hx, h⟩
    · simp at h; exact h2 h
    · obtain ⟨n, _, rfl⟩ := List.mem_map.1 hx
      exact itoa_not n c h1 (by assumption) h
theorem body_no35 (n k : Nat) (cert : List Int) : (35 : UInt8) ∉ bodyC n k cert := by
  intro h
  unfold bodyC headC at h
  simp only [List.mem_append] at h
  rcases h with (((((h | h) | h) | h) | h) | h)
  · revert h; decide
  · exact Tx.digits_not _ _ (by decide) h
  · revert h; decide
  · exact Tx.digits_not _ _ (by decide) h
  · revert h; decide
  · exact ordT_not _ _ (by decide) (by decide) (by decide) h

theorem digits_cons (k : Nat) : ∃ d t, Lib.decDigits k = d :: t ∧ d ≠ 111 := by
  cases h : Lib.decDigits k with
  | nil => have := Tx.digits_pos k; rw [h] at this; simp at this
  | cons d t =>
    refine ⟨d, t, rfl, fun e => ?_⟩
    have := Tx.digits_range k d (by rw [h]; simp)
    rw [e] at this
    revert this; decide
-- a numeral is read back
theorem decFrom_app : ∀ (l : List UInt8) (r : List UInt8) (acc m : Nat), Lib.decFrom acc l = some m → Lib.decFrom acc (l ++ r) = Lib.decFrom m r
  | [], r, acc, m, h => by simp only [Lib.decFrom] at h; injection h with h; rw [h]; rfl
  | b :: l, r, acc, m, h => by
    rw [List.cons_append]
    rw [Lib.decFrom] at h
    rw [Lib.decFrom.eq_2]
    cases hb : Lib.digitVal b with
    | none => rw [hb] at h; simp at h
    | some d => rw [hb] at h; simp only at h ⊢; exact decFrom_app l r _ m h
theorem decFrom_digits (u : Nat) : Lib.decFrom 0 (Lib.decDigits u) = some u := by
  induction u using Nat.strongRecOn with
  | _ u ih =>
    rw [Lib.decDigits]
    split
    · rename_i h
      have e : (UInt8.ofNat (48 + u)).toNat = 48 + u := by rw [UInt8.toNat_ofNat']; omega
      simp only [Lib.decFrom, Lib.digitVal, e]
      rw [if_pos (by omega)]; simp
    · rename_i h
      have h1 := ih (u / 10) (by omega)
      rw [decFrom_app _ _ _ _ h1]
      have e : (UInt8.ofNat (48 + u % 10)).toNat = 48 + u % 10 := by rw [UInt8.toNat_ofNat']; omega
      simp only [Lib.decFrom, Lib.digitVal, e]
      rw [if_pos (by omega)]; simp; omega
theorem atoi_digits (u : Nat) : Lib.atoi (Lib.decDigits u) = some (u : Int) := by
  obtain ⟨d, t, hd, _⟩ := digits_cons u
  have hr := Tx.digits_range u d (by rw [hd]; simp)
  have h := decFrom_digits u
  rw [hd] at h ⊢
  have n1 : ¬ (d == 45) = true := by intro e; rw [beq_iff_eq.1 e] at hr; revert hr; decide
  have n2 : ¬ (d == 43) = true := by intro e; rw [beq_iff_eq.1 e] at hr; revert hr; decide
  show (if (d == 45) = true then _ else if (d == 43) = true then _ else _) = _
  rw [if_neg n1, if_neg n2]
  simp [Lib.decNat, h]

theorem body_len {n k : Nat} (hn : n < 1000000) (hk : k < 1000000) {cs : List Int} (h : (ordT cs).length ≤ 1400) : (bodyC n k cs).length ≤ 3000 := by
  have h1 := Tx.digits_len 5 n (by omega)
  have h2 := Tx.digits_len 5 k (by omega)
  unfold bodyC headC sSorted sKey sOrder
  simp only [List.length_append, List.length_cons, List.length_nil]
  omega

end Go.Proofs.YtbgmbanebmlghaaGreatDoor.Cf

