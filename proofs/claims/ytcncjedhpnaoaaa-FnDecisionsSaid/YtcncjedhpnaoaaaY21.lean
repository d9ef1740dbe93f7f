/- Several texts in one: lemmas and walks of the functions that the law reaches. -/
import Derived.Test.YtcncjedhpnaoaaaY11
import Derived.Test.YtcncjedhpnaoaaaY16

namespace Go.Proofs.Ytcncjedhpnaoaaa
open Go.RowKit Go.Sort
set_option linter.unusedVariables false
theorem ints_drop {w : World} {b off : Nat} {p : List Int} (h : IntsAt w (some ⟨b, off, none⟩) p) (i : Nat) : IntsAt w (some ⟨b, off + i, none⟩) (p.drop i) := by
  rcases h with rfl | ⟨b', off', e, h0, h1⟩
  · exact .inl (by simp)
  · injection e with e
    injection e with e1 e2 _
    subst e1; subst e2
    refine .inr ⟨b, off + i, rfl, h0, fun j hj => ?_⟩
    have := h1 (i + j) (by simp at hj; omega)
    rw [Nat.add_assoc, this]
    simp [List.getD]
theorem ints_drop0 {w : World} {b : Nat} {p : List Int} (h : IntsAt w (some ⟨b, 0, none⟩) p) (i : Nat) : IntsAt w (some ⟨b, i, none⟩) (p.drop i) := by
  have := ints_drop h i
  rwa [Nat.zero_add] at this
theorem ints_one {l : List Int} : ∀ u ∈ l.map (Value.int .i64), u.oneCell' = true := by
  intro u hu
  obtain ⟨x, _, rfl⟩ := List.mem_map.1 hu
  rfl
theorem ints_take {w : World} {x : Addr} {p : List Int} (h : IntsAt w (some x) p) (i : Nat) : IntsAt w (some x) (p.take i) := by
  rcases h with rfl | ⟨b', off', e, h0, h1⟩
  · exact .inl (by simp)
  · refine .inr ⟨b', off', e, h0, fun j hj => ?_⟩
    have hj2 : j < i ∧ j < p.length := by simp at hj; omega
    rw [h1 j hj2.2]
    simp [List.getD, List.getElem?_take, hj2.1]

theorem own_cap' {w : World} {base : Nat} {e : TypeId} {size g n c : Nat} {xs : List Value} (h : w.ownsRow base e size (.slice (some ⟨g, 0, none⟩) n c) n xs) : n ≤ c ∧ c ≤ 9223372036854775807 := by
  rcases h.2 with ⟨h2, _⟩ | ⟨g', cap, cur, hv, _, _, hn, hm, _⟩
  · injection h2 with h2 _ _; cases h2
  · injection hv with _ _ hv
    subst hv
    exact ⟨hn, by unfold maxLen at hm; omega⟩

end Go.Proofs.Ytcncjedhpnaoaaa

