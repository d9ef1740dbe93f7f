/- General lemmas: what is kept while another block is written; whole variables stored; marks. -/
import Derived.Test.YtkckmjajjdpodaaKc
namespace Go.Proofs.Ytkckmjajjdpodaa
open Go.RowKit
set_option linter.unusedVariables false

theorem grown_trans {a b c : World} {row : Option Nat} (h : a.grownBy b row) (k : b.grownBy c row) : a.grownBy c row :=
  ⟨k.os.trans h.os, k.tape.trans h.tape, k.output.trans h.output, Nat.le_trans h.size k.size, fun i hi hne => (k.block i (Nat.lt_of_lt_of_le hi h.size) hne).trans (h.block i hi hne)⟩
theorem grown_refl (w : World) (row : Option Nat) : w.grownBy w row := ⟨rfl, rfl, rfl, Nat.le_refl _, fun _ _ _ => rfl⟩
theorem grown_of_below {w w' : World} {row : Option Nat} (h : Below w.heap.size w w') : w.grownBy w' row := ⟨h.os, h.tape, h.output, h.size, fun k hk _ => h.block k hk⟩
theorem below_of_grown {B : Nat} {w0 w w' : World} {row : Option Nat} (h : Below B w0 w) (hB : B ≤ w.heap.size) (hg : w.grownBy w' row) (hr : ∀ k, row = some k → B ≤ k) : Below B w0 w' := h.grown hg hB hr

theorem IntsAt.grown {w w' : World} {row : Option Nat} {a : Option Addr} {zs : List Int} (h : IntsAt w a zs) (hg : w.grownBy w' row) (hne : ∀ b off, a = some ⟨b, off, none⟩ → row ≠ some b) : IntsAt w' a zs := by
  rcases h with h | ⟨b, off, h1, h0, h2⟩
  · exact .inl h
  · refine .inr ⟨b, off, h1, Nat.lt_of_lt_of_le h0 hg.size, fun j hj => ?_⟩
    have hb := hg.block b h0 (fun e => hne b off h1 e.symm)
    rw [World.cell?_of_block (w := w) (w' := w') (a := ⟨b, off + j, none⟩) hb]; exact h2 j hj

theorem RecsAt.grown {w w' : World} {row : Option Nat} {a : Option Addr} {zs : List (Int × Int)} (h : RecsAt w a zs) (hg : w.grownBy w' row) (hne : ∀ b off, a = some ⟨b, off, none⟩ → row ≠ some b) : RecsAt w' a zs := by
  rcases h with h | ⟨b, off, h1, h0, h2⟩
  · exact .inl h
  · refine .inr ⟨b, off, h1, Nat.lt_of_lt_of_le h0 hg.size, fun j hj => ?_⟩
    have hb := hg.block b h0 (fun e => hne b off h1 e.symm)
    rw [World.cell?_of_block (w := w) (w' := w') (a := ⟨b, off + j * 2, none⟩) hb, World.cell?_of_block (w := w) (w' := w') (a := ⟨b, off + j * 2 + 1, none⟩) hb]; exact h2 j hj

/-- Two lists owned from two bases lie in two blocks. -/
theorem own_ne {w w2 : World} {B1 B2 : Nat} {e1 e2 : TypeId} {s1 s2 n1 n2 : Nat} {v1 v2 : Value} {x1 x2 : List Value} (h1 : w.ownsRow B1 e1 s1 v1 n1 x1) (hB : w.heap.size ≤ B2) (h2 : w2.ownsRow B2 e2 s2 v2 n2 x2) : ∀ k, v1.ownBlock = some k → v2.ownBlock ≠ some k := by
  intro k a b
  have := (h1.lt k a).2
  have := (h2.lt k b).1
  omega

theorem ownBlock_slice {b off : Nat} {n c : Nat} : (Value.slice (some ⟨b, off, none⟩) n c).ownBlock = some b := rfl

theorem block_row {w w' : World} {g : Nat} {row : Option Nat} {o : Obj} (h : w.heap[g]? = some o) (hg : w.grownBy w' row) (hne : row ≠ some g) : w'.heap[g]? = some o := by
  rw [hg.block g (Array.getElem?_eq_some_iff.1 h).1 (fun e => hne e.symm)]; exact h

theorem block_below {w w' : World} {g B : Nat} {o : Obj} (h : w.heap[g]? = some o) (hb : Below B w w') (hlt : g < B) : w'.heap[g]? = some o := by
  rw [hb.block g hlt]; exact h

theorem block_new (w : World) (o : Obj) : (w.alloc o).heap[w.heap.size]? = some o := heap_alloc_new w o

theorem row_cell {w : World} {g : Nat} {cs : Array Value} {e : TypeId} {f : Nat × Nat} (h : w.heap[g]? = some (.cells cs e f)) (j : Nat) : w.cell? ⟨g, j, none⟩ = cs[j]? := cell_of_row w g j cs e f h

/-- A whole variable is stored. -/
theorem wpList_var {P : Program} {w : World} {ops : Array Oper} {rest : List Oper} {o : Oper} {a : Act} {Q : Exit → Act → World → Prop} (hgd : o.guard = none) (ty : TypeId) (x y : Operand) (ho : o.op = .store ty x y)
    {g : Nat} {cells : Array Value} (hx : a.eval x = .pointer (some ⟨g, 0, none⟩)) (hy : a.eval y = .agg cells) {t : TypeId} {old : Array Value} (hg : w.heap[g]? = some (.cells old t (0, 0)))
    (hi : (P.info? ty).map (·.size) = some cells.size) (hold : old.size = cells.size) (h1 : cells.all (·.oneCell') = true)
    (h : ∀ w', w'.heap[g]? = some (.cells cells t (0, 0)) → w.grownBy w' (some g) → wpList P ops Q rest (a.put o.dst undef) w') : wpList P ops Q (o :: rest) a w := by
  refine wpList_plain hgd fun K hK => ?_
  refine wp_store_row ty x y ho g cells hx hy t old hg hi hold h1 (hK _ _ (h _ (setRow_heap w g old cells t (0, 0) hg) ⟨rfl, rfl, rfl, by simp, fun q _ hq => setRow_other w g q _ (fun e => hq (by simp [e]))⟩))

/-- The marks on n records from k on; the first i are laid, the others still as they were. -/
def mkR (rs : List (Int × Int)) (k : Int) (i : Nat) : List (Int × Int) := (List.range rs.length).map fun j : Nat => if j < i then (k + 2 * (j : Int), k + 2 * (j : Int) + 1) else rs.getD j (0, 0)
theorem mkR_len (rs : List (Int × Int)) (k : Int) (i : Nat) : (mkR rs k i).length = rs.length := by simp [mkR]
theorem mkR_zero (rs : List (Int × Int)) (k : Int) : mkR rs k 0 = rs := by
  apply List.ext_getElem
  · simp [mkR]
  · intro j h1 h2; simp [mkR, List.getD, h2]
theorem mkR_succ {rs : List (Int × Int)} {k : Int} {i : Nat} (h : i < rs.length) : (mkR rs k i).set i (k + 2 * (i : Int), k + 2 * (i : Int) + 1) = mkR rs k (i + 1) := by
  apply List.ext_getElem
  · simp [mkR]
  · intro j h1 h2
    simp only [mkR, List.getElem_set, List.getElem_map, List.getElem_range]
    by_cases e : i = j
    · subst e; simp
    · rw [if_neg e]
      by_cases hl : j < i
      · rw [if_pos hl, if_pos (by omega)]
      · rw [if_neg hl, if_neg (by omega)]
theorem mkR_at {rs : List (Int × Int)} {k : Int} {j : Nat} (h : j < rs.length) : (mkR rs k rs.length).getD j (0, 0) = (k + 2 * (j : Int), k + 2 * (j : Int) + 1) := by
  simp [mkR, List.getD, h]

end Go.Proofs.Ytkckmjajjdpodaa
