/- General lemmas: a text as bytes in memory and back; its last byte turned. -/
import Derived.Test.YtfdhicojnbicgaaDoorTj
import Derived.Test.YtfdhicojnbicgaaDoorKb
import Derived.Laws.IdiomStrings
namespace Go.Proofs.YtfdhicojnbicgaaDoor
open Go.RowKit
set_option linter.unusedVariables false

/-- '[]byte(s)'. -/
theorem wpList_conv {P : Program} {w : World} {ops : Array Oper} {rest : List Oper} {o : Oper} {a : Act} {Q : Exit → Act → World → Prop} (hgd : o.guard = none) (ts tb te : TypeId) (x : Operand) (hop : o.op = .convert ts tb x)
    (s : ByteArray) (hx : a.eval x = .string s) (hs : P.underlying ts = some .string) (hd : P.underlying tb = some (.slice te)) (he : P.underlying te = some (.int .u8))
    (h : ∀ (cap : Nat) w', (∀ j b, (bs s)[j]? = some b → w'.cell? ⟨w.heap.size, j, none⟩ = some (.int .u8 (b.toNat : Int))) → (∀ j, j < s.size → w'.frozen? ⟨w.heap.size, j, none⟩ = false) → Below w.heap.size w w' → w.heap.size < w'.heap.size →
      wpList P ops Q rest (a.put o.dst (.slice (some ⟨w.heap.size, 0, none⟩) s.size cap)) w') : wpList P ops Q (o :: rest) a w := by
  refine wpList_plain hgd fun K hK => ?_
  have hr := run_bytes_of_string w ts tb te s hs hd he
  unfold Oper.wp execOp
  simp only [hop, hx, hr, Result.andThen_ok, Sem.run_bind, Sem.run_pure]
  refine hK _ _ (h _ _ ?_ ?_ ?_ ?_)
  · intro j b hj
    have hrow := heap_alloc_new w.drew (.cells (bytesRow s (grownCap w s.size 0 te)) te ((bytesRow s (grownCap w s.size 0 te)).size, (bytesRow s (grownCap w s.size 0 te)).size + 1))
    have h1 := cell_of_row _ w.heap.size j _ _ _ hrow
    rw [h1]
    unfold bytesRow
    have hlt : j < s.size := by
      have := (List.getElem?_eq_some_iff.1 hj).1
      rwa [bs_len] at this
    rw [Array.getElem?_append_left (by simpa using hlt), Array.getElem?_map]
    have h2 : s.data[j]? = some b := by
      have : (bs s)[j]? = s.data[j]? := by unfold bs; simp
      rw [← this]; exact hj
    rw [h2]; rfl
  · intro j hj
    have hrow := heap_alloc_new w.drew (.cells (bytesRow s (grownCap w s.size 0 te)) te ((bytesRow s (grownCap w s.size 0 te)).size, (bytesRow s (grownCap w s.size 0 te)).size + 1))
    have hsz : s.size ≤ (bytesRow s (grownCap w s.size 0 te)).size := by
      unfold bytesRow
      have : s.data.size = s.size := rfl
      rw [← this]
      simp
    have hrow' : (w.drew.alloc (.cells (bytesRow s (grownCap w s.size 0 te)) te ((bytesRow s (grownCap w s.size 0 te)).size, (bytesRow s (grownCap w s.size 0 te)).size + 1))).heap[w.heap.size]? = _ := hrow
    unfold World.frozen?
    simp only [hrow']
    simp
    omega
  · exact (Below.drew (Below.refl _ _)).alloc (Nat.le_refl _) _
  · simp

/-- 'string(b)'. -/
theorem wpList_back {P : Program} {w : World} {ops : Array Oper} {rest : List Oper} {o : Oper} {a : Act} {Q : Exit → Act → World → Prop} (hgd : o.guard = none) (tb ts te : TypeId) (x : Operand) (hop : o.op = .convert tb ts x)
    {g n cap : Nat} (l : List UInt8) (hl : l.length = n) (hx : a.eval x = .slice (some ⟨g, 0, none⟩) n cap) (hs : P.underlying ts = some .string) (hd : P.underlying tb = some (.slice te)) (he : P.underlying te = some (.int .u8))
    (hc : ∀ j b, l[j]? = some b → w.cell? ⟨g, j, none⟩ = some (.int .u8 (b.toNat : Int)))
    (h : wpList P ops Q rest (a.put o.dst (.string (ba l))) w) : wpList P ops Q (o :: rest) a w := by
  refine wpList_plain hgd fun K hK => ?_
  subst hl
  have hr := run_convert_bytes_back (P := P) w tb ts te ⟨g, 0, none⟩ cap l hd he hs (fun j hj => by
    rw [addr_add_zero]
    exact hc j l[j] (List.getElem?_eq_getElem hj))
  unfold Oper.wp execOp
  simp only [hop, hx, hr, Result.andThen_ok, Sem.run_bind, Sem.run_pure]
  exact hK _ _ h

def flipL (l : List UInt8) : List UInt8 := l.set (l.length - 1) (255 - l.getD (l.length - 1) 0)
theorem flipL_len (l : List UInt8) : (flipL l).length = l.length := by simp [flipL]
theorem flipL_app {a b : List UInt8} (h : b ≠ []) : flipL (a ++ b) = a ++ flipL b := by
  have hb : 0 < b.length := by
    cases b with
    | nil => exact absurd rfl h
    | cons x t => simp
  unfold flipL
  have e : (a ++ b).length - 1 = a.length + (b.length - 1) := by simp; omega
  have e2 : (a ++ b).getD (a.length + (b.length - 1)) 0 = b.getD (b.length - 1) 0 := by
    simp only [List.getD]
    rw [List.getElem?_append_right (by omega)]
    congr 2
    omega
  rw [e, e2, List.set_append_right _ _ (by omega)]
  congr 2
  omega
theorem flip_val (x : UInt8) : ((255 - x : UInt8).toNat : Int) = 255 - (x.toNat : Int) := by
  have h := UInt8.toNat_lt x
  have : (255 - x).toNat = 255 - x.toNat := by
    rw [UInt8.toNat_sub_of_le _ _ (by rw [UInt8.le_iff_toNat_le]; show x.toNat ≤ 255; omega)]
    rfl
  rw [this]; omega
theorem flip_at {l : List UInt8} {n j : Nat} {b : UInt8} (hn : l.length = n + 1) (h : (flipL l)[j]? = some b) : if j = n then b = 255 - l.getD n 0 else l[j]? = some b := by
  unfold flipL at h
  rw [hn, show n + 1 - 1 = n by omega, List.getElem?_set] at h
  by_cases e : n = j
  · subst e
    rw [if_pos rfl] at h ⊢
    rw [if_pos (by omega)] at h
    simpa using h.symm
  · rw [if_neg e] at h
    rw [if_neg (fun x => e x.symm)]
    exact h

end Go.Proofs.YtfdhicojnbicgaaDoor
