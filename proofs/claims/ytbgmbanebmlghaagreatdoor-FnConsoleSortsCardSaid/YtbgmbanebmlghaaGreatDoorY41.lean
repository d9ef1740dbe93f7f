/- Several texts in one: lemmas and walks of the functions that the law reaches. -/
import Derived.Test.YtbgmbanebmlghaaGreatDoorY33
import Derived.Test.YtbgmbanebmlghaaGreatDoorY36
import Derived.Test.YtbgmbanebmlghaaGreatDoorY39

namespace Go.Proofs.YtbgmbanebmlghaaGreatDoor
open Go.RowKit
set_option linter.unusedVariables false

abbrev Recs := List (Int × Int)
/-- What a command that changes the list gives back. -/
def ChEnd (w : World) (r : Option (Recs × List UInt8)) (e : Ending) (w' : World) : Prop :=
  ∃ (a : Option Addr) (n c : Nat) (s : ByteArray), e = .returned (.tuple #[.slice a n c, .string s, .bool r.isSome]) ∧ Below w.heap.size w w' ∧ s.size ≤ 30000 ∧ ∀ L t, r = some (L, t) → Rd w' a n c L ∧ s = ba t
/-- What a question gives back. -/
def AskEnd (w : World) (r : Option (List UInt8)) (e : Ending) (w' : World) : Prop :=
  ∃ (s : ByteArray), e = .returned (.tuple #[.string s, .bool r.isSome]) ∧ Below w.heap.size w w' ∧ s.size ≤ 30000 ∧ ∀ t, r = some t → s = ba t
/-- What a line gives back. -/
def PfEnd (w : World) (L : Recs) (t : List UInt8) (e : Ending) (w' : World) : Prop :=
  ∃ (a : Option Addr) (n c : Nat), e = .returned (.tuple #[.slice a n c, .string (ba t)]) ∧ Rd w' a n c L ∧ Below w.heap.size w w'

def costT (c : Nat × Nat × Nat × Nat) : List UInt8 := numT 32 [(c.1 : Int), (c.2.1 : Int), (c.2.2.1 : Int), (c.2.2.2 : Int)]
def extC (rs : Recs) : Option (List Int) → Option (Recs × List UInt8)
  | some [m, k, b] => if exOk rs m k b then some (exL rs m k b, costT (exC rs m k b)) else none
  | _ => none
/-- The commands that sort. -/
def sortX (rs : Recs) (x : ByteArray) (r : List ByteArray) : Option (Recs × List UInt8) :=
  if bs x = [109, 101, 114, 103, 101] ∧ r = [] then some (stAns rs, numT 32 [(msC rs : Int)])
  else if bs x = [97, 100, 97, 112, 116, 105, 118, 101] ∧ r = [] then some (adL rs, numT 32 [(adN rs : Int)])
  else if bs x = [101, 120, 116, 101, 114, 110, 97, 108] then extC rs (nums r)
  else none
def sortC (rs : Recs) : List ByteArray → Option (Recs × List UInt8)
  | [] => none
  | x :: r => sortX rs x r

theorem okI_len : ∀ (is : List Nat) (n : Nat), Ad.okI is n → is.length ≤ n
  | [], _, _ => Nat.zero_le _
  | k :: t, n, h => by
    have h1 : k + 1 < n := h.1
    have := okI_len t (n - 1) h.2
    rw [List.length_cons]; omega
theorem adN_le (rs : Recs) : adN rs ≤ 10000 := by
  unfold adN
  split
  · rename_i hok
    have h64 := okRecs_le hok
    obtain ⟨_, q2, q3⟩ := parts_ok rs
    obtain ⟨p1, p2, p3, p4⟩ := push_info (partsL rs) (by omega) (by omega) (j := (partsL rs).length) (Nat.le_refl _)
    rw [List.take_length] at p1 p2 p3 p4
    have f1 := Ad.fol_idx (lt := ltR) true _ (Ad.pushes ltR (partsL rs)).1 rfl
    obtain ⟨f1, _, f3⟩ := f1
    have h1 := fol_bound 64 _ _ (by omega) f3
    have h2 := okI_len _ _ f3
    rw [f1] at h1
    unfold Ad.adC
    omega
  · omega
theorem join_len1 : ∀ {xs : List (List UInt8)} {m k : Nat}, (∀ x ∈ xs, x.length ≤ m) → xs.length ≤ k → (Lib.join xs [32]).length ≤ k * (m + 1) := fun hx hk =>
  Nat.le_trans (join_le [32] (by simp) hx) (Nat.mul_le_mul_right _ hk)
theorem numT_len {zs : List Int} {k : Nat} (hl : zs.length ≤ k) (hk : 1 ≤ k) (hz : ∀ x ∈ zs, -9223372036854775808 ≤ x ∧ x ≤ 9223372036854775807) : (numT 32 zs).length ≤ k * 21 := by
  unfold numT
  split
  · simp; omega
  · refine join_len1 (m := 20) (fun x hx => ?_) (by simpa using hl)
    obtain ⟨y, hy, rfl⟩ := List.mem_map.1 hx
    exact itoa_len y (hz y hy).1 (hz y hy).2
end Go.Proofs.YtbgmbanebmlghaaGreatDoor

