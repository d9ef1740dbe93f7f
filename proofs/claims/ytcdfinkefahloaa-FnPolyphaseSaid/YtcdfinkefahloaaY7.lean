/- Several texts in one: lemmas and walks of the functions that the law reaches. -/
import Derived.Test.YtcdfinkefahloaaY5
import Derived.Laws.CopyRow

namespace Go.Proofs.Ytcdfinkefahloaa
open Go.RowKit
set_option linter.unusedVariables false
theorem own_capG {w : World} {base : Nat} {e : TypeId} {size g n c : Nat} {xs : List Value} (h : w.ownsRow base e size (.slice (some ⟨g, 0, none⟩) n c) n xs) : n ≤ c ∧ c ≤ maxLen := by
  rcases h.2 with ⟨h2, _⟩ | ⟨g', cap, cur, hv, hb, hg, hn, hm, hs, ht⟩
  · cases h2
  · simp only [Value.slice.injEq, Option.some.injEq, Addr.mk.injEq] at hv
    obtain ⟨_, _, rfl⟩ := hv
    exact ⟨hn, hm⟩
end Go.Proofs.Ytcdfinkefahloaa

