/- Rows of integers written at a place in their midst; the swap of two. -/
import Derived.Test.YtkckmjajjdpodaaSo
namespace Go.Proofs.Ytkckmjajjdpodaa
open Go.RowKit Go.Sort
set_option linter.unusedVariables false

theorem own_putAt {α : Type} [Inhabited α] {enc : α → Value} {w : World} {base : Nat} {e : TypeId} {g n cap q off : Nat} {zs ys : List α} (h : w.ownsRow base e 1 (.slice (some ⟨g, 0, none⟩) n cap) n (zs.map enc)) (hy : off + ys.length ≤ n) :
    (putRow enc (Sort.ahead w q) g off ys.toArray).ownsRow base e 1 (.slice (some ⟨g, 0, none⟩) n cap) n ((zs.take off ++ ys ++ zs.drop (off + ys.length)).map enc) := by
  have hl : zs.length = n := by have := h.1; simpa using this
  rcases h.2 with ⟨e0, _⟩ | ⟨g', cap', cur, e0, hb, hg, hn, hm, hs, ht⟩
  · cases e0
  · injection e0 with e1 _ e3
    injection e1 with e1
    injection e1 with e1
    subst e1; subst e3
    refine ⟨by simp; omega, .inr ⟨g, cap, putCells enc off ys.toArray cur, rfl, hb, ?_, hn, hm, by simpa [putCells] using hs, ?_⟩⟩
    · simp [putRow, mapBlock, Sort.ahead, Array.getElem?_modify, hg, onCells]
    · apply List.ext_getElem?
      intro j
      have hcur : ∀ j, j < n → cur[j]? = (zs[j]?).map enc := fun j hj => by
        have := congrArg (fun l : List Value => l[j]?) ht
        simp only [List.getElem?_take, Nat.mul_one, if_pos hj, Array.getElem?_toList, List.getElem?_map] at this
        exact this
      rw [List.getElem?_take, List.getElem?_map, Array.getElem?_toList]
      by_cases hj : j < n
      · have hjc : j < cur.size := by omega
        simp only [Nat.mul_one, if_pos hj, putCells, Array.getElem?_mapIdx]
        rw [hcur j hj]
        rw [List.getElem?_eq_getElem (by omega : j < zs.length)]
        simp only [Option.map_some]
        by_cases h1 : j < off
        · rw [if_neg (by omega), List.append_assoc, List.getElem?_append_left (by simp; omega), List.getElem?_take, if_pos h1, List.getElem?_eq_getElem (by omega : j < zs.length)]
          rfl
        · by_cases h2 : j < off + ys.length
          · rw [if_pos (by simp; omega), List.getElem?_append_left (by simp; omega), List.getElem?_append_right (by simp; omega)]
            have e1 : j - (zs.take off).length = j - off := by simp; omega
            rw [e1, List.getElem?_eq_getElem (by omega)]
            simp [getElem!_pos, show j - off < ys.length by omega]
          · rw [if_neg (by simp; omega), List.getElem?_append_right (by simp; omega)]
            have e1 : j - (zs.take off ++ ys).length = j - (off + ys.length) := by simp; omega
            rw [e1, List.getElem?_drop, show off + ys.length + (j - (off + ys.length)) = j by omega, List.getElem?_eq_getElem (by omega : j < zs.length)]
            rfl
      · simp only [Nat.mul_one, if_neg hj]
        rw [List.getElem?_eq_none (by simp; omega)]
        rfl

theorem grown_putAt {α : Type} [Inhabited α] {enc : α → Value} {w : World} {g q off : Nat} {ys : List α} : w.grownBy (putRow enc (Sort.ahead w q) g off ys.toArray) (some g) := by
  refine ⟨rfl, rfl, rfl, by simp [putRow, mapBlock, Sort.ahead], fun k hk hne => ?_⟩
  have : g ≠ k := fun e => hne (by rw [e])
  simp [putRow, mapBlock, Sort.ahead, Array.getElem?_modify, this]

theorem holds_part {α : Type} [Inhabited α] {enc : α → Value} {w : World} {g off : Nat} {zs : List α} (h : Holds enc w g 0 zs.toArray) : Holds enc w g off (zs.drop off).toArray := by
  intro j hj
  have hj' : off + j < zs.length := by simp at hj; omega
  have := h (off + j) (by simpa using hj')
  rw [Nat.zero_add] at this
  have e : (zs.drop off).toArray[j]! = zs.toArray[off + j]! := by
    simp [getElem!_pos, hj']
  rw [e]; exact this

theorem swp_list {d : List Int} {i k : Nat} (hi : i < d.length) (hk : k < d.length) (hne : i ≠ k) : (Sort.swp d.toArray i k) = ((d.set i (d.getD k 0)).set k (d.getD i 0)).toArray := by
  unfold Sort.swp
  simp [getElem!_pos, hi, hk, List.getD]

end Go.Proofs.Ytkckmjajjdpodaa
