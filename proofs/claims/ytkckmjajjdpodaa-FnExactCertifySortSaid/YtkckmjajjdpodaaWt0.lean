/- General lemmas on copies of integer lists; no program in sight. -/
import Derived.Test.YtkckmjajjdpodaaKb
namespace Go.Proofs.Ytkckmjajjdpodaa
open Go.RowKit
set_option linter.unusedVariables false

abbrev IL (l : List Int) : List Value := l.map (Value.int .i64)
theorem size_al (w : World) (o : Obj) : (w.alloc o).heap.size = w.heap.size + 1 := by simp

/-- What a copy holds after k rounds. -/
def fillK (n k : Nat) (f : Nat → Value) (z : Value) : List Value := (List.range n).map fun j => if j < k then f j else z
theorem fillK_length (n k : Nat) (f : Nat → Value) (z : Value) : (fillK n k f z).length = n := by simp [fillK]
theorem fillK_zero (n : Nat) (f : Nat → Value) (z : Value) : fillK n 0 f z = List.replicate n z := by
  apply List.ext_getElem <;> simp [fillK]
theorem fillK_succ {n k : Nat} (f : Nat → Value) (z : Value) (h : k < n) : (fillK n k f z).set k (f k) = fillK n (k + 1) f z := by
  apply List.ext_getElem
  · simp [fillK]
  · intro j h1 h2
    simp only [fillK, List.getElem_set, List.getElem_map, List.getElem_range]
    by_cases e : k = j
    · subst e; simp
    · rw [if_neg e]
      by_cases hl : j < k
      · rw [if_pos hl, if_pos (by omega)]
      · rw [if_neg hl, if_neg (by omega)]
theorem fillK_end (n : Nat) (f : Nat → Value) (z : Value) : fillK n n f z = (List.range n).map f := by
  apply List.ext_getElem
  · simp [fillK]
  · intro j h1 h2
    have : j < n := by simpa [fillK] using h1
    simp [fillK, this]
theorem range_getD {α β : Type} (zs : List α) (d : α) (f : α → β) : (List.range zs.length).map (fun j => f (zs.getD j d)) = zs.map f := by
  apply List.ext_getElem
  · simp
  · intro j h1 h2
    have : j < zs.length := by simpa using h1
    simp [List.getD, this]
def cpK (zs : List Int) (k : Nat) : List Value := fillK zs.length k (fun j => .int .i64 (zs.getD j 0)) (.int .i64 0)
theorem cpK_zero (zs : List Int) : cpK zs 0 = List.replicate zs.length (Value.int .i64 0) := fillK_zero _ _ _
theorem cpK_end (zs : List Int) : cpK zs zs.length = zs.map (Value.int .i64) := by
  unfold cpK; rw [fillK_end]; exact range_getD zs 0 _
theorem cpK_length (zs : List Int) (k : Nat) : (cpK zs k).length = zs.length := fillK_length _ _ _ _
theorem cpK_succ {zs : List Int} {k : Nat} (h : k < zs.length) : (cpK zs k).set k (.int .i64 (zs.getD k 0)) = cpK zs (k + 1) := fillK_succ (fun j => .int .i64 (zs.getD j 0)) _ h

end Go.Proofs.Ytkckmjajjdpodaa
