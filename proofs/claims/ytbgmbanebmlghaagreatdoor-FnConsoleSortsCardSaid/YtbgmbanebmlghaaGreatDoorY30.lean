/- Several texts in one: lemmas and walks of the functions that the law reaches. -/
import Derived.Test.YtbgmbanebmlghaaGreatDoorY25
import Derived.Deep.AppendLies
import Derived.Laws.Tables

namespace Go.Proofs.YtbgmbanebmlghaaGreatDoor
open Go.RowKit
set_option linter.unusedVariables false
/-- The world of the last region: what lies below stands, the result's block lies ready. -/
structure Kr (w0 : World) (B1 : Nat) (w : World) : Prop where
  bel : Below w0.heap.size w0 w
  lo : w0.heap.size < B1
  lt : B1 + 1 ≤ w.heap.size
  row : ∃ x y, w.heap[w0.heap.size]? = some (.cells #[x, y] 68 (0, 0))
theorem Kr.drew {w0 : World} {B : Nat} {w : World} (h : Kr w0 B w) : Kr w0 B w.drew := ⟨Below.drew h.1, h.2, h.3, h.4⟩
theorem Kr.next {w0 : World} {B : Nat} {w w' : World} (h : Kr w0 B w) (hb : Below w.heap.size w w') : Kr w0 B w' := by
  refine ⟨h.1.trans (hb.mono ?_), h.2, Nat.le_trans h.3 hb.size, ?_⟩
  · have := h.2; have := h.3; omega
  · obtain ⟨x, y, hr⟩ := h.4
    exact ⟨x, y, by rw [hb.block _ (by have := h.2; have := h.3; omega)]; exact hr⟩
theorem Kr.store {w0 : World} {B : Nat} {w w' : World} {u v : Value} (h : Kr w0 B w) (hr : w'.heap[w0.heap.size]? = some (.cells #[u, v] 68 (0, 0))) (hg : w.grownBy w' (some w0.heap.size)) : Kr w0 B w' :=
  ⟨h.1.grown hg h.1.size (fun k hk => by simp at hk; omega), h.2, Nat.le_trans h.3 hg.size, ⟨u, v, hr⟩⟩
end Go.Proofs.YtbgmbanebmlghaaGreatDoor

