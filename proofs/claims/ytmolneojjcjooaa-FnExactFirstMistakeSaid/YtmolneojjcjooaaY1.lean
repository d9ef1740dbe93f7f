/- Several texts in one: lemmas and walks of the functions that the laws reach. -/
import Derived.Test.YtmolneojjcjooaaY0
import Derived.Laws.AppendOwnNone
import Derived.Below

/- General lemmas on lists of structs laid flat, no program in sight. -/
namespace Go.Proofs.Ytmolneojjcjooaa
open Go.RowKit
set_option linter.unusedVariables false

/-- Elements of several cells, one behind the other. -/
def flat {α : Type} (enc : α → List Value) (rs : List α) : List Value := rs.flatMap enc

theorem flat_append {α : Type} (enc : α → List Value) (rs qs : List α) : flat enc (rs ++ qs) = flat enc rs ++ flat enc qs := by simp [flat]
theorem flat_one {α : Type} (enc : α → List Value) (r : α) : flat enc [r] = enc r := by simp [flat]
theorem flat_nil {α : Type} (enc : α → List Value) : flat enc [] = [] := rfl
theorem flat_length {α : Type} {enc : α → List Value} {S : Nat} (hS : ∀ r, (enc r).length = S) (rs : List α) : (flat enc rs).length = rs.length * S := by
  induction rs with
  | nil => simp [flat]
  | cons r t ih =>
    have : flat enc (r :: t) = enc r ++ flat enc t := rfl
    rw [this, List.length_append, ih, hS]; simp [Nat.add_mul]; omega

theorem flat_get {α : Type} {enc : α → List Value} {S : Nat} (hS : ∀ r, (enc r).length = S) (rs : List α) (j i : Nat) (hi : i < S) : (flat enc rs)[j * S + i]? = rs[j]?.bind fun r => (enc r)[i]? := by
  induction rs generalizing j with
  | nil => simp [flat]
  | cons r t ih =>
    have e : flat enc (r :: t) = enc r ++ flat enc t := rfl
    rw [e]
    cases j with
    | zero => rw [List.getElem?_append_left (by rw [hS]; omega)]; simp
    | succ j =>
      rw [List.getElem?_append_right (by rw [hS, Nat.add_mul]; omega), hS]
      rw [show (j + 1) * S + i - S = j * S + i from by rw [Nat.add_mul]; omega, ih]
      simp

theorem flat_ext {α : Type} {enc : α → List Value} {S : Nat} (hS : ∀ r, (enc r).length = S) (h0 : 0 < S) {l : List Value} {rs : List α} (hl : l.length = rs.length * S)
    (h : ∀ j i, j < rs.length → i < S → l[j * S + i]? = rs[j]?.bind fun r => (enc r)[i]?) : l = flat enc rs := by
  apply List.ext_getElem?
  intro q
  by_cases hq : q < rs.length * S
  · have hj : q / S < rs.length := (Nat.div_lt_iff_lt_mul h0).2 hq
    have hi : q % S < S := Nat.mod_lt _ h0
    have := h (q / S) (q % S) hj hi
    rw [← flat_get hS rs _ _ hi] at this
    rwa [Nat.mul_comm, Nat.div_add_mod] at this
  · rw [List.getElem?_eq_none (by omega), List.getElem?_eq_none (by rw [flat_length hS]; omega)]

/-- A list whose first k elements are laid, the others still zero. -/
def fillL {α : Type} (n k : Nat) (f : Nat → α) (z : α) : List α := (List.range n).map fun j => if j < k then f j else z
theorem fillL_length {α : Type} (n k : Nat) (f : Nat → α) (z : α) : (fillL n k f z).length = n := by simp [fillL]
theorem fillL_zero {α : Type} (n : Nat) (f : Nat → α) (z : α) : fillL n 0 f z = List.replicate n z := by
  apply List.ext_getElem <;> simp [fillL]
theorem fillL_succ {α : Type} {n k : Nat} (f : Nat → α) (z : α) (h : k < n) : (fillL n k f z).set k (f k) = fillL n (k + 1) f z := by
  apply List.ext_getElem
  · simp [fillL]
  · intro j h1 h2
    simp only [fillL, List.getElem_set, List.getElem_map, List.getElem_range]
    by_cases e : k = j
    · subst e; simp
    · rw [if_neg e]
      by_cases hl : j < k
      · rw [if_pos hl, if_pos (by omega)]
      · rw [if_neg hl, if_neg (by omega)]
theorem fillL_end {α : Type} (zs : List α) (d z : α) : fillL zs.length zs.length (fun j => zs.getD j d) z = zs := by
  apply List.ext_getElem
  · simp [fillL]
  · intro j h1 h2
    simp [fillL, h2, List.getD]

/-- Two cells at one element are written. -/
theorem flat_set2 {α : Type} {enc : α → List Value} (hS : ∀ r, (enc r).length = 2) (rs : List α) (k : Nat) (hk : k < rs.length) (r : α) (x y : Value) (he : enc r = [x, y]) :
    ((flat enc rs).set (k * 2) x).set (k * 2 + 1) y = flat enc (rs.set k r) := by
  apply flat_ext hS (by omega)
  · simp [flat_length hS]
  · intro j i hj hi
    have hj' : j < rs.length := by simpa using hj
    rw [List.getElem?_set, List.getElem?_set]
    have hL : (flat enc rs).length = rs.length * 2 := flat_length hS rs
    by_cases e : k = j
    · subst e
      rw [List.getElem?_set_self hk, Option.bind_some, he]
      match i, hi with
      | 0, _ => rw [if_neg (by omega), if_pos (by omega), if_pos (by omega)]; rfl
      | 1, _ => rw [if_pos (by omega), if_pos (by simp; omega)]; rfl
    · rw [List.getElem?_set_ne e, if_neg (by omega), if_neg (by omega), flat_get hS _ _ _ hi]

/-- What 'make' lays, where an element has two cells. -/
theorem made2 {α : Type} {enc : α → List Value} (hS : ∀ r, (enc r).length = 2) (z : α) (x y : Value) (he : enc z = [x, y]) (n : Nat) : (madeCells #[x, y] (n * 2)).toList = flat enc (List.replicate n z) := by
  apply flat_ext hS (by omega)
  · simp [madeCells]
  · intro j i hj hi
    have hj' : j < n := by simpa using hj
    have : j * 2 + i < n * 2 := by omega
    have e2 : (j * 2 + i) % 2 = i := by omega
    simp only [madeCells, Array.toList_map, List.getElem?_map, Array.toList_range, List.getElem?_range this, List.getElem?_replicate, if_pos hj', Option.map_some, Option.bind_some, he]
    match i, hi with
    | 0, _ => simp
    | 1, _ => simp

def encR (r : Int × Int) : List Value := [.int .i64 r.1, .int .i64 r.2]
theorem encR_len (r : Int × Int) : (encR r).length = 2 := rfl

def RecsAt (w : World) (a : Option Addr) (rs : List (Int × Int)) : Prop :=
  rs = [] ∨ ∃ b off, a = some ⟨b, off, none⟩ ∧ b < w.heap.size ∧ ∀ j, j < rs.length → w.cell? ⟨b, off + j * 2, none⟩ = some (.int .i64 (rs.getD j (0, 0)).1) ∧ w.cell? ⟨b, off + j * 2 + 1, none⟩ = some (.int .i64 (rs.getD j (0, 0)).2)

theorem RecsAt.at {w : World} {a : Option Addr} {rs : List (Int × Int)} (h : RecsAt w a rs) {k : Nat} (hk : k < rs.length) :
    ∃ b off, a = some ⟨b, off, none⟩ ∧ w.cell? ⟨b, off + k * 2, none⟩ = some (.int .i64 (rs.getD k (0, 0)).1) ∧ w.cell? ⟨b, off + k * 2 + 1, none⟩ = some (.int .i64 (rs.getD k (0, 0)).2) := by
  rcases h with rfl | ⟨b, off, h1, _, h2⟩
  · simp at hk
  · exact ⟨b, off, h1, (h2 k hk).1, (h2 k hk).2⟩

theorem RecsAt.below {w w' : World} {B : Nat} {a : Option Addr} {rs : List (Int × Int)} (h : RecsAt w a rs) (hB : w.heap.size ≤ B) (hb : Below B w w') : RecsAt w' a rs := by
  rcases h with h | ⟨b, off, h1, h0, h2⟩
  · exact .inl h
  · refine .inr ⟨b, off, h1, by have := hb.size; omega, fun j hj => ?_⟩
    rw [hb.cell (p := ⟨b, off + j * 2, none⟩) (by show b < B; omega), hb.cell (p := ⟨b, off + j * 2 + 1, none⟩) (by show b < B; omega)]; exact h2 j hj

theorem own_cell {w : World} {base : Nat} {e : TypeId} {size : Nat} {a : Option Addr} {n c : Nat} {xs : List Value} (h : w.ownsRow base e size (.slice a n c) n xs) (hn : 0 < n) :
    ∃ g, a = some ⟨g, 0, none⟩ ∧ base ≤ g ∧ g < w.heap.size ∧ ∀ j, j < n * size → w.cell? ⟨g, j, none⟩ = xs[j]? := by
  rcases h.2 with ⟨_, h3⟩ | ⟨g, cap, cur, hv, hb, hg, _⟩
  · omega
  · simp only [Value.slice.injEq] at hv
    obtain ⟨rfl, _, rfl⟩ := hv
    exact ⟨g, rfl, hb, (Array.getElem?_eq_some_iff.1 hg).1, fun j hj => h.cellAt j hj⟩

theorem recs_of_own {w : World} {base : Nat} {e : TypeId} {a : Option Addr} {n c : Nat} {rs : List (Int × Int)} (h : w.ownsRow base e 2 (.slice a n c) n (flat encR rs)) : RecsAt w a rs := by
  have hn : rs.length = n := by have := h.1; rw [flat_length encR_len] at this; omega
  by_cases h0 : n = 0
  · left; exact List.eq_nil_of_length_eq_zero (by omega)
  · obtain ⟨g, rfl, _, hlt, hc⟩ := own_cell h (by omega)
    refine .inr ⟨g, 0, rfl, hlt, fun j hj => ⟨?_, ?_⟩⟩
    · rw [hc _ (by omega), Nat.zero_add, show j * 2 = j * 2 + 0 from rfl, flat_get encR_len _ _ _ (by omega)]
      simp [List.getElem?_eq_getElem hj, encR, List.getD]
    · rw [hc _ (by omega), Nat.zero_add, flat_get encR_len _ _ _ (by omega)]
      simp [List.getElem?_eq_getElem hj, encR, List.getD]

/-- One element is written into a list of the call's own: any number of cells. -/
theorem own_put {w : World} {base : Nat} {e : TypeId} {size g n cap : Nat} {xs : List Value} (h : w.ownsRow base e size (.slice (some ⟨g, 0, none⟩) n cap) n xs) (k : Nat) (hk : k < n) (news : List Value) (hl : news.length = size)
    {P : Program} (h1 : ∀ u ∈ news, u.oneCell' = true) :
    ∃ w', (storeCells ⟨g, k * size, none⟩ news 0).run P w = .ok () w' ∧ w'.ownsRow base e size (.slice (some ⟨g, 0, none⟩) n cap) n (xs.take (k * size) ++ news ++ xs.drop (k * size + size)) ∧ w.grownBy w' (some g) := by
  have hkn : k * size + size ≤ n * size := by
    rw [← Nat.succ_mul]; exact Nat.mul_le_mul_right _ hk
  rcases h.2 with ⟨h', _⟩ | ⟨g', cap', cur, h', hb, hg, hnc, hcm, hcs, htake⟩
  · simp at h'
  · simp only [Value.slice.injEq, Option.some.injEq, Addr.mk.injEq, and_true, true_and] at h'
    obtain ⟨rfl, rfl⟩ := h'
    have hnc' : n * size ≤ cap * size := Nat.mul_le_mul_right _ hnc
    have hst := run_storeCells_at P g (k * size) e news 0 cur w hg (by omega) h1
    refine ⟨_, hst, ⟨?_, .inr ⟨g, cap, _, rfl, hb, setRow_heap w g cur _ e _ hg, hnc, hcm, ?_, ?_⟩⟩, ⟨rfl, rfl, rfl, by simp, fun q _ hq => setRow_other w g q _ (fun e => hq (by simp [e]))⟩⟩
    · have := h.1
      simp only [List.length_append, List.length_take, List.length_drop]
      omega
    · simp only [Nat.add_zero, List.size_toArray, List.length_append, List.length_take, List.length_drop, Array.length_toList]
      omega
    · simp only [Nat.add_zero]
      rw [← htake, List.take_append, List.take_append, List.take_take, List.take_take, List.drop_take]
      simp only [List.length_append, List.length_take, Array.length_toList, hl]
      rw [Nat.min_eq_left (by omega : k * size ≤ cur.size), Nat.min_eq_right (by omega : k * size ≤ n * size), Nat.min_eq_left (by omega : k * size ≤ n * size), List.take_of_length_le (by omega : news.length ≤ n * size - k * size)]

theorem wpList_put {P : Program} {w : World} {ops : Array Oper} {rest : List Oper} {o : Oper} {a : Act} {Q : Exit → Act → World → Prop} {t e : TypeId} {z : Value} {size bytes : Nat} (T : SlT P t e z size bytes)
    (hgd : o.guard = none) (x y : Operand) (hop : o.op = .store e x y) {base g n cap : Nat} {xs : List Value} (k : Nat) (hx : a.eval x = .pointer (some ⟨g, k * size, none⟩)) (news : List Value) (hv : (a.eval y).cells.toList = news) (hl : news.length = size)
    (h1 : ∀ u ∈ news, u.oneCell' = true) (hown : w.ownsRow base e size (.slice (some ⟨g, 0, none⟩) n cap) n xs) (hk : k < n)
    (hK : ∀ w', w'.ownsRow base e size (.slice (some ⟨g, 0, none⟩) n cap) n (xs.take (k * size) ++ news ++ xs.drop (k * size + size)) → w.grownBy w' (some g) → wpList P ops Q rest (a.put o.dst undef) w') :
    wpList P ops Q (o :: rest) a w := by
  refine wpList_plain hgd fun K hK' => ?_
  obtain ⟨i, hi, _, hs, _⟩ := T.info
  obtain ⟨w', hr, g1, g2⟩ := own_put hown k hk news hl (P := P) h1
  have hsz : (a.eval y).cells.size = i.size := by rw [hs, ← hl, ← hv]; simp
  unfold Oper.wp execOp
  simp only [hop, hx, Instr.storeAt, Instr.sureAddr, storeVar, sizeOf, typeInfo, hv]
  simp [hi, hsz, hr]
  exact hK' _ _ (hK w' g1 g2)

theorem flat_put {α : Type} {enc : α → List Value} {S : Nat} (hS : ∀ r, (enc r).length = S) (rs : List α) (k : Nat) (hk : k < rs.length) (r : α) :
    (flat enc rs).take (k * S) ++ enc r ++ (flat enc rs).drop (k * S + S) = flat enc (rs.set k r) := by
  induction rs generalizing k with
  | nil => simp at hk
  | cons q t ih =>
    have e : flat enc (q :: t) = enc q ++ flat enc t := rfl
    cases k with
    | zero =>
      rw [e]
      simp only [Nat.zero_mul, List.take_zero, List.nil_append, Nat.zero_add, List.set_cons_zero]
      rw [List.drop_append_of_le_length (by rw [hS]; omega), List.drop_of_length_le (by rw [hS]; omega)]
      rfl
    | succ k =>
      have hk' : k < t.length := by simpa using hk
      rw [e, List.set_cons_succ]
      have e2 : flat enc (q :: t.set k r) = enc q ++ flat enc (t.set k r) := rfl
      rw [e2, ← ih k hk']
      rw [show (k + 1) * S = S + k * S from by rw [Nat.add_mul]; omega]
      rw [List.take_append, List.drop_append, hS, List.take_of_length_le (by rw [hS]; omega), List.drop_of_length_le (by rw [hS]; omega)]
      rw [show S + k * S - S = k * S from by omega, show S + k * S + S - S = k * S + S from by omega]
      simp

end Go.Proofs.Ytmolneojjcjooaa

/- General lemmas: what is kept while another block is written; whole variables stored; marks. -/
namespace Go.Proofs.Ytmolneojjcjooaa
open Go.RowKit
set_option linter.unusedVariables false

theorem grown_trans {a b c : World} {row : Option Nat} (h : a.grownBy b row) (k : b.grownBy c row) : a.grownBy c row :=
  ⟨k.os.trans h.os, k.tape.trans h.tape, k.output.trans h.output, Nat.le_trans h.size k.size, fun i hi hne => (k.block i (Nat.lt_of_lt_of_le hi h.size) hne).trans (h.block i hi hne)⟩
theorem grown_refl (w : World) (row : Option Nat) : w.grownBy w row := ⟨rfl, rfl, rfl, Nat.le_refl _, fun _ _ _ => rfl⟩
theorem grown_of_below {w w' : World} {row : Option Nat} (h : Below w.heap.size w w') : w.grownBy w' row := ⟨h.os, h.tape, h.output, h.size, fun k hk _ => h.block k hk⟩
theorem below_of_grown {B : Nat} {w0 w w' : World} {row : Option Nat} (h : Below B w0 w) (hB : B ≤ w.heap.size) (hg : w.grownBy w' row) (hr : ∀ k, row = some k → B ≤ k) : Below B w0 w' := h.grown hg hB hr

theorem IntsAt.grown {w w' : World} {row : Option Nat} {a : Option Addr} {zs : List Int} (h : IntsAt w a zs) (hg : w.grownBy w' row) (hne : ∀ b off, a = some ⟨b, off, none⟩ → row ≠ some b) : IntsAt w' a zs := by
  rcases h with h | ⟨b, off, h1, h0, h2⟩
  · exact .inl h
  · refine .inr ⟨b, off, h1, Nat.lt_of_lt_of_le h0 hg.size, fun j hj => ?_⟩
    have hb := hg.block b h0 (fun e => hne b off h1 e.symm)
    rw [World.cell?_of_block (w := w) (w' := w') (a := ⟨b, off + j, none⟩) hb]; exact h2 j hj

theorem RecsAt.grown {w w' : World} {row : Option Nat} {a : Option Addr} {zs : List (Int × Int)} (h : RecsAt w a zs) (hg : w.grownBy w' row) (hne : ∀ b off, a = some ⟨b, off, none⟩ → row ≠ some b) : RecsAt w' a zs := by
  rcases h with h | ⟨b, off, h1, h0, h2⟩
  · exact .inl h
  · refine .inr ⟨b, off, h1, Nat.lt_of_lt_of_le h0 hg.size, fun j hj => ?_⟩
    have hb := hg.block b h0 (fun e => hne b off h1 e.symm)
    rw [World.cell?_of_block (w := w) (w' := w') (a := ⟨b, off + j * 2, none⟩) hb, World.cell?_of_block (w := w) (w' := w') (a := ⟨b, off + j * 2 + 1, none⟩) hb]; exact h2 j hj

/-- Two lists owned from two bases lie in two blocks. -/
theorem own_ne {w w2 : World} {B1 B2 : Nat} {e1 e2 : TypeId} {s1 s2 n1 n2 : Nat} {v1 v2 : Value} {x1 x2 : List Value} (h1 : w.ownsRow B1 e1 s1 v1 n1 x1) (hB : w.heap.size ≤ B2) (h2 : w2.ownsRow B2 e2 s2 v2 n2 x2) : ∀ k, v1.ownBlock = some k → v2.ownBlock ≠ some k := by
  intro k a b
  have := (h1.lt k a).2
  have := (h2.lt k b).1
  omega

theorem ownBlock_slice {b off : Nat} {n c : Nat} : (Value.slice (some ⟨b, off, none⟩) n c).ownBlock = some b := rfl

theorem block_row {w w' : World} {g : Nat} {row : Option Nat} {o : Obj} (h : w.heap[g]? = some o) (hg : w.grownBy w' row) (hne : row ≠ some g) : w'.heap[g]? = some o := by
  rw [hg.block g (Array.getElem?_eq_some_iff.1 h).1 (fun e => hne e.symm)]; exact h

theorem block_below {w w' : World} {g B : Nat} {o : Obj} (h : w.heap[g]? = some o) (hb : Below B w w') (hlt : g < B) : w'.heap[g]? = some o := by
  rw [hb.block g hlt]; exact h

theorem block_new (w : World) (o : Obj) : (w.alloc o).heap[w.heap.size]? = some o := heap_alloc_new w o

theorem row_cell {w : World} {g : Nat} {cs : Array Value} {e : TypeId} {f : Nat × Nat} (h : w.heap[g]? = some (.cells cs e f)) (j : Nat) : w.cell? ⟨g, j, none⟩ = cs[j]? := cell_of_row w g j cs e f h

/-- A whole variable is stored. -/
theorem wpList_var {P : Program} {w : World} {ops : Array Oper} {rest : List Oper} {o : Oper} {a : Act} {Q : Exit → Act → World → Prop} (hgd : o.guard = none) (ty : TypeId) (x y : Operand) (ho : o.op = .store ty x y)
    {g : Nat} {cells : Array Value} (hx : a.eval x = .pointer (some ⟨g, 0, none⟩)) (hy : a.eval y = .agg cells) {t : TypeId} {old : Array Value} (hg : w.heap[g]? = some (.cells old t (0, 0)))
    (hi : (P.info? ty).map (·.size) = some cells.size) (hold : old.size = cells.size) (h1 : cells.all (·.oneCell') = true)
    (h : ∀ w', w'.heap[g]? = some (.cells cells t (0, 0)) → w.grownBy w' (some g) → wpList P ops Q rest (a.put o.dst undef) w') : wpList P ops Q (o :: rest) a w := by
  refine wpList_plain hgd fun K hK => ?_
  refine wp_store_row ty x y ho g cells hx hy t old hg hi hold h1 (hK _ _ (h _ (setRow_heap w g old cells t (0, 0) hg) ⟨rfl, rfl, rfl, by simp, fun q _ hq => setRow_other w g q _ (fun e => hq (by simp [e]))⟩))

/-- The marks on n records from k on; the first i are laid, the others still as they were. -/
def mkR (rs : List (Int × Int)) (k : Int) (i : Nat) : List (Int × Int) := (List.range rs.length).map fun j : Nat => if j < i then (k + 2 * (j : Int), k + 2 * (j : Int) + 1) else rs.getD j (0, 0)
theorem mkR_len (rs : List (Int × Int)) (k : Int) (i : Nat) : (mkR rs k i).length = rs.length := by simp [mkR]
theorem mkR_zero (rs : List (Int × Int)) (k : Int) : mkR rs k 0 = rs := by
  apply List.ext_getElem
  · simp [mkR]
  · intro j h1 h2; simp [mkR, List.getD, h2]
theorem mkR_succ {rs : List (Int × Int)} {k : Int} {i : Nat} (h : i < rs.length) : (mkR rs k i).set i (k + 2 * (i : Int), k + 2 * (i : Int) + 1) = mkR rs k (i + 1) := by
  apply List.ext_getElem
  · simp [mkR]
  · intro j h1 h2
    simp only [mkR, List.getElem_set, List.getElem_map, List.getElem_range]
    by_cases e : i = j
    · subst e; simp
    · rw [if_neg e]
      by_cases hl : j < i
      · rw [if_pos hl, if_pos (by omega)]
      · rw [if_neg hl, if_neg (by omega)]
theorem mkR_at {rs : List (Int × Int)} {k : Int} {j : Nat} (h : j < rs.length) : (mkR rs k rs.length).getD j (0, 0) = (k + 2 * (j : Int), k + 2 * (j : Int) + 1) := by
  simp [mkR, List.getD, h]

end Go.Proofs.Ytmolneojjcjooaa

/- General lemmas: two lists of the call's own that grow side by side. -/
namespace Go.Proofs.Ytmolneojjcjooaa
open Go.RowKit
set_option linter.unusedVariables false

/-- Two lists that the call owns, in two blocks. -/
structure Two (w : World) (base : Nat) (e1 : TypeId) (s1 : Nat) (v : Value) (n : Nat) (xs : List Value) (e2 : TypeId) (s2 : Nat) (u : Value) (m : Nat) (ys : List Value) : Prop where
  fst : w.ownsRow base e1 s1 v n xs
  snd : w.ownsRow base e2 s2 u m ys
  ne : ∀ k, v.ownBlock = some k → u.ownBlock ≠ some k

theorem Two.below {w w' : World} {base : Nat} {e1 e2 : TypeId} {s1 s2 n m : Nat} {v u : Value} {xs ys : List Value} (h : Two w base e1 s1 v n xs e2 s2 u m ys) (hb : Below w.heap.size w w') : Two w' base e1 s1 v n xs e2 s2 u m ys :=
  ⟨own_below h.1 (Nat.le_refl _) hb, own_below h.2 (Nat.le_refl _) hb, h.3⟩

theorem Two.app1 {w w' : World} {base : Nat} {e1 e2 : TypeId} {s1 s2 n m n' : Nat} {v u v' : Value} {xs ys xs' : List Value} (h : Two w base e1 s1 v n xs e2 s2 u m ys)
    (ho : w'.ownsRow base e1 s1 v' n' xs') (hg : w.grownBy w' v.ownBlock) (ht : v'.ownBlock = v.ownBlock ∨ v'.ownBlock = some (w.heap.size + 1)) : Two w' base e1 s1 v' n' xs' e2 s2 u m ys := by
  refine ⟨ho, ?_, ?_⟩
  · refine own_other h.2 hg fun k hk e => ?_
    exact h.3 k e hk
  · intro k hk hu
    rcases ht with ht | ht
    · rw [ht] at hk; exact h.3 k hk hu
    · rw [ht] at hk
      have := (h.2.lt k hu).2
      simp only [Option.some.injEq] at hk
      omega

theorem Two.app2 {w w' : World} {base : Nat} {e1 e2 : TypeId} {s1 s2 n m m' : Nat} {v u u' : Value} {xs ys ys' : List Value} (h : Two w base e1 s1 v n xs e2 s2 u m ys)
    (ho : w'.ownsRow base e2 s2 u' m' ys') (hg : w.grownBy w' u.ownBlock) (ht : u'.ownBlock = u.ownBlock ∨ u'.ownBlock = some (w.heap.size + 1)) : Two w' base e1 s1 v n xs e2 s2 u' m' ys' := by
  refine ⟨?_, ho, ?_⟩
  · refine own_other h.1 hg fun k hk e => ?_
    exact h.3 k hk e
  · intro k hk hu
    rcases ht with ht | ht
    · rw [ht] at hu; exact h.3 k hk hu
    · rw [ht] at hu
      have := (h.1.lt k hk).2
      simp only [Option.some.injEq] at hu
      omega

/-- 'append(s, u...)', u a list that is owned (nil too). -/
theorem wpList_appL {P : Program} {w : World} {ops : Array Oper} {rest : List Oper} {o : Oper} {a : Act} {Q : Exit → Act → World → Prop} {t e : TypeId} {z : Value} {size bytes : Nat} (T : SlT P t e z size bytes)
    (hgd : o.guard = none) (s y : Operand) (ho : o.op = .call { callee := .builtin .append, args := #[s, y], argTypes := #[t, t] })
    {base base2 : Nat} {v u : Value} {n m : Nat} {xs ys : List Value} (hs : a.eval s = v) (hown : w.ownsRow base e size v n xs) (hy : a.eval y = u) (hu : w.ownsRow base2 e size u m ys)
    (h1 : ∀ x ∈ ys, x.oneCell' = true) (hsmall : n + m ≤ 1099511627776) (hbase : base ≤ w.heap.size)
    (h : ∀ v' w', w'.ownsRow base e size v' (n + m) (xs ++ ys) → w.grownBy w' v.ownBlock → (v'.ownBlock = v.ownBlock ∨ v'.ownBlock = some w.heap.size) → wpList P ops Q rest (a.put o.dst v') w') :
    wpList P ops Q (o :: rest) a w := by
  have hl := hu.1
  rcases hu.2 with ⟨hu1, hm⟩ | ⟨g, cap, cur, hv, hg⟩
  · subst hm
    have hys : ys = [] := List.eq_nil_of_length_eq_zero (by simpa using hl)
    subst hys
    obtain ⟨i, hi, hz, hsz, hby⟩ := T.info
    refine wpList_append_own_none hgd s y t ho base e i size T.und hi v n xs hs hown (by rw [hy, hu1]) ?_
    refine h v w (by simpa using hown) ⟨rfl, rfl, rfl, Nat.le_refl _, fun _ _ _ => rfl⟩ (.inl rfl)
  · refine wpList_plain hgd fun K hK => ?_
    have hcells : ∀ j x, ys[j]? = some x → w.cell? ((⟨g, 0, none⟩ : Addr).add j) = some x := hu.cells (g := g) (by rw [hv]; rfl)
    obtain ⟨v', w', hr, h2, h3, h4⟩ := run_app_tag (P := P) w T base o.type v n xs hown ⟨g, 0, none⟩ m cap ys hl hcells h1 hsmall hbase
    unfold Oper.wp execOp
    simp only [ho, resolve, invoke, builtin, Sem.run_bind, Sem.run_pure, Result.andThen_ok, List.map_toArray, List.map_cons, List.map_nil, hs, hy, hv, hr]
    exact hK _ _ (h v' w' h2 h3 h4)

theorem own_at {w : World} {base : Nat} {e : TypeId} {a : Option Addr} {n c : Nat} {xs : List Value} (h : w.ownsRow base e 1 (.slice a n c) n xs) {i : Nat} {x : Value} (hx : xs[i]? = some x) :
    ∃ g, a = some ⟨g, 0, none⟩ ∧ w.cell? ⟨g, i, none⟩ = some x ∧ base ≤ g ∧ g < w.heap.size := by
  have hi : i < xs.length := (List.getElem?_eq_some_iff.1 hx).1
  obtain ⟨h1, h2⟩ := h
  rcases h2 with ⟨h2, h3⟩ | ⟨g, cap, cur, hv, hb, hg, hn, hc, hs, ht⟩
  · simp [h3] at h1; subst h1; simp at hi
  · simp only [Value.slice.injEq] at hv
    obtain ⟨rfl, _, rfl⟩ := hv
    refine ⟨g, rfl, ?_, hb, (Array.getElem?_eq_some_iff.1 hg).1⟩
    rw [← ht, List.getElem?_take] at hx
    split at hx
    · simp [World.cell?, hg]
      simpa using hx
    · cases hx

end Go.Proofs.Ytmolneojjcjooaa

/- General lemmas: records behind a readable slice: appended to a list of the call's own; parts of them. -/
namespace Go.Proofs.Ytmolneojjcjooaa
open Go.RowKit
set_option linter.unusedVariables false

theorem recs_newsN {w : World} {x : Addr} {rs : List (Int × Int)} (h : RecsAt w (some x) rs) : ∀ j u, (flat encR rs)[j]? = some u → w.cell? (x.add j) = some u := by
  intro q u hu
  have hq : q < rs.length * 2 := by
    have := (List.getElem?_eq_some_iff.1 hu).1
    rwa [flat_length encR_len] at this
  rcases h with rfl | ⟨b, off, e, _, h2⟩
  · simp at hq
  · injection e with e
    subst e
    have hk : q / 2 < rs.length := by omega
    obtain ⟨g1, g2⟩ := h2 (q / 2) hk
    have hg := flat_get encR_len rs (q / 2) (q % 2) (Nat.mod_lt _ (by omega))
    have hqe : q / 2 * 2 + q % 2 = q := by omega
    rw [hqe, hu, List.getElem?_eq_getElem hk] at hg
    rw [List.getD_eq_getElem?_getD, List.getElem?_eq_getElem hk] at g1 g2
    have hadd : (⟨b, off, none⟩ : Addr).add q = ⟨b, off + q, none⟩ := by unfold Addr.add; split <;> simp_all
    rw [hadd]
    rcases Nat.mod_two_eq_zero_or_one q with h0 | h0
    · rw [h0] at hg
      simp [encR] at hg
      rw [show off + q = off + q / 2 * 2 by omega, g1, hg]; rfl
    · rw [h0] at hg
      simp [encR] at hg
      rw [show off + q = off + q / 2 * 2 + 1 by omega, g2, hg]; rfl
theorem recs_oneN {rs : List (Int × Int)} : ∀ u ∈ flat encR rs, u.oneCell' = true := by
  intro u hu
  unfold flat at hu
  obtain ⟨r, _, hr⟩ := List.mem_flatMap.1 hu
  simp [encR] at hr
  rcases hr with rfl | rfl <;> rfl

/-- A part of records. -/
theorem recs_part {w : World} {b off : Nat} {rs : List (Int × Int)} (h : RecsAt w (some ⟨b, off, none⟩) rs) (k m : Nat) : RecsAt w (some ⟨b, off + k * 2, none⟩) ((rs.drop k).take m) := by
  rcases h with rfl | ⟨b', off', e, hb, h2⟩
  · exact .inl (by simp)
  · injection e with e
    injection e with e1 e2
    subst e1 e2
    refine .inr ⟨b, off + k * 2, rfl, hb, fun j hj => ?_⟩
    have hj' : j < m ∧ k + j < rs.length := by simp at hj; omega
    obtain ⟨g1, g2⟩ := h2 (k + j) hj'.2
    have e : ((rs.drop k).take m).getD j (0, 0) = rs.getD (k + j) (0, 0) := by
      simp only [List.getD_eq_getElem?_getD, List.getElem?_take, List.getElem?_drop, if_pos hj'.1]
    rw [e, show off + k * 2 + j * 2 = off + (k + j) * 2 by omega]
    exact ⟨g1, g2⟩
theorem recs_drop {w : World} {b off : Nat} {rs : List (Int × Int)} (h : RecsAt w (some ⟨b, off, none⟩) rs) (k : Nat) : RecsAt w (some ⟨b, off + k * 2, none⟩) (rs.drop k) := by
  have := recs_part h k rs.length
  rwa [List.take_of_length_le (by simp)] at this
theorem recs_take {w : World} {a : Option Addr} {rs : List (Int × Int)} (h : RecsAt w a rs) (m : Nat) : RecsAt w a (rs.take m) := by
  rcases h with rfl | ⟨b, off, e, hb, h2⟩
  · exact .inl (by simp)
  · subst e
    have := recs_part (.inr ⟨b, off, rfl, hb, h2⟩) 0 m
    simpa using this
theorem recs_tail {w : World} {b off : Nat} {r : Int × Int} {rs : List (Int × Int)} (h : RecsAt w (some ⟨b, off, none⟩) (r :: rs)) : RecsAt w (some ⟨b, off + 2, none⟩) rs := by
  have := recs_drop h 1
  simpa using this
theorem recs_head {w : World} {b off : Nat} {r : Int × Int} {rs : List (Int × Int)} (h : RecsAt w (some ⟨b, off, none⟩) (r :: rs)) : w.cell? ⟨b, off, none⟩ = some (.int .i64 r.1) ∧ w.cell? ⟨b, off + 1, none⟩ = some (.int .i64 r.2) := by
  rcases h with h | ⟨b', off', e, hb, h2⟩
  · cases h
  · injection e with e
    injection e with e1 e2
    subst e1 e2
    have := h2 0 (by simp)
    simpa using this
theorem recs_addr {w : World} {a : Option Addr} {rs : List (Int × Int)} (h : RecsAt w a rs) (hn : 0 < rs.length) : ∃ b off, a = some ⟨b, off, none⟩ ∧ b < w.heap.size := by
  rcases h with rfl | ⟨b, off, e, hb, _⟩
  · simp at hn
  · exact ⟨b, off, e, hb⟩

/-- A slice without an address has no room. -/
def NilOk (a : Option Addr) (c : Nat) : Prop := a = none → c = 0
theorem nilOk_some (x : Addr) (c : Nat) : NilOk (some x) c := fun h => by cases h
theorem nilOk_own {w : World} {B : Nat} {e : TypeId} {size n c : Nat} {a : Option Addr} {xs : List Value} (h : w.ownsRow B e size (.slice a n c) n xs) : NilOk a c := by
  intro ha
  subst ha
  rcases h.2 with ⟨hv, _⟩ | ⟨g, cap, cur, hv, _⟩
  · injection hv
  · injection hv with h1; cases h1

/-- 'append(s, u...)', u records that can be read. -/
theorem wpList_appR {P : Program} {w : World} {ops : Array Oper} {rest : List Oper} {o : Oper} {a : Act} {Q : Exit → Act → World → Prop} {t e : TypeId} {z : Value} {bytes : Nat} (T : SlT P t e z 2 bytes)
    (hgd : o.guard = none) (s y : Operand) (ho : o.op = .call { callee := .builtin .append, args := #[s, y], argTypes := #[t, t] })
    {base : Nat} {v : Value} {n m c : Nat} {xs : List Value} {x : Option Addr} {rs : List (Int × Int)} (hs : a.eval s = v) (hown : w.ownsRow base e 2 v n xs) (hy : a.eval y = .slice x m c) (hu : RecsAt w x rs) (hm : rs.length = m) (hx : NilOk x c)
    (hsmall : n + m ≤ 1099511627776) (hbase : base ≤ w.heap.size)
    (h : ∀ v' w', w'.ownsRow base e 2 v' (n + m) (xs ++ flat encR rs) → w.grownBy w' v.ownBlock → (v'.ownBlock = v.ownBlock ∨ v'.ownBlock = some w.heap.size) → wpList P ops Q rest (a.put o.dst v') w') :
    wpList P ops Q (o :: rest) a w := by
  cases x with
  | none =>
    have hr : rs = [] := by
      rcases hu with h | ⟨_, _, e, _⟩
      · exact h
      · cases e
    subst hr
    obtain rfl : c = 0 := hx rfl
    obtain rfl : m = 0 := hm.symm
    obtain ⟨i, hi, hz, hsz, hby⟩ := T.info
    refine wpList_append_own_none hgd s y t ho base e i 2 T.und hi v n xs hs hown hy ?_
    refine h v w (by simpa [flat] using hown) ⟨rfl, rfl, rfl, Nat.le_refl _, fun _ _ _ => rfl⟩ (.inl rfl)
  | some p =>
    refine wpList_plain hgd fun K hK => ?_
    obtain ⟨v', w', hr, h2, h3, h4⟩ := run_app_tag (P := P) w T base o.type v n xs hown p m c (flat encR rs) (by rw [flat_length encR_len, hm]) (recs_newsN hu) recs_oneN hsmall hbase
    unfold Oper.wp execOp
    simp only [ho, resolve, invoke, builtin, Sem.run_bind, Sem.run_pure, Result.andThen_ok, List.map_toArray, List.map_cons, List.map_nil, hs, hy, hr]
    exact hK _ _ (h v' w' h2 h3 h4)

end Go.Proofs.Ytmolneojjcjooaa

/- General: nodes of decision trees that can be read, and that the caller may write. -/
namespace Go.Proofs.Ytmolneojjcjooaa
open Go.RowKit
set_option linter.unusedVariables false

/-- The cells of a node. -/
structure NodeC (w : World) (b o : Nat) (d : Dt.Nd) : Prop where
  c0 : w.cell? ⟨b, o, none⟩ = some (.int .i64 d.a)
  c1 : w.cell? ⟨b, o + 1, none⟩ = some (.int .i64 d.b)
  c2 : w.cell? ⟨b, o + 2, none⟩ = some (.int .i64 d.l)
  c3 : w.cell? ⟨b, o + 3, none⟩ = some (.int .i64 d.g)
  c4 : ∃ (x : Option Addr) (c : Nat), w.cell? ⟨b, o + 4, none⟩ = some (.slice x d.o.length c) ∧ IntsAt w x d.o ∧ NilOk x c
  big : d.o.length ≤ 9223372036854775807
def NodesAt (w : World) (a : Option Addr) (ns : List Dt.Nd) : Prop :=
  ns = [] ∨ ∃ b off, a = some ⟨b, off, none⟩ ∧ b < w.heap.size ∧ ∀ j, j < ns.length → NodeC w b (off + j * 5) (ns.getD j Dt.nd0)
theorem NodeC.below {w w' : World} {b o : Nat} {d : Dt.Nd} (h : NodeC w b o d) (hb : Below w.heap.size w w') : NodeC w' b o d := by
  have cell : ∀ {k : Nat} {v : Value}, w.cell? ⟨b, k, none⟩ = some v → w'.cell? ⟨b, k, none⟩ = some v := fun {k v} hc => (hb.cell (p := ⟨b, k, none⟩) (World.block_lt_of_cell? w _ hc)).trans hc
  obtain ⟨x, c, h1, h2, h3⟩ := h.c4
  exact ⟨cell h.c0, cell h.c1, cell h.c2, cell h.c3, ⟨x, c, cell h1, h2.below (Nat.le_refl _) hb, h3⟩, h.big⟩
theorem NodesAt.same {w w' : World} {a : Option Addr} {ns : List Dt.Nd} (h : NodesAt w a ns) (hb : Below w.heap.size w w') : NodesAt w' a ns := by
  rcases h with h | ⟨b, off, e, h1, h2⟩
  · exact .inl h
  · exact .inr ⟨b, off, e, Nat.lt_of_lt_of_le h1 hb.size, fun j hj => (h2 j hj).below hb⟩
theorem NodesAt.at {w : World} {a : Option Addr} {ns : List Dt.Nd} (h : NodesAt w a ns) {k : Nat} (hk : k < ns.length) : ∃ b off, a = some ⟨b, off, none⟩ ∧ NodeC w b (off + k * 5) (ns.getD k Dt.nd0) := by
  rcases h with rfl | ⟨b, off, e, _, h2⟩
  · simp at hk
  · exact ⟨b, off, e, h2 k hk⟩
/-- Changes in some blocks alone, and new ones. -/
structure Ch (w w' : World) (lo hi : Nat) : Prop where
  os : w'.os = w.os
  tape : w'.tape = w.tape
  output : w'.output = w.output
  size : w.heap.size ≤ w'.heap.size
  block : ∀ k, k < w.heap.size → (k < lo ∨ hi ≤ k) → w'.heap[k]? = w.heap[k]?
theorem ch_refl (w : World) (lo hi : Nat) : Ch w w lo hi := ⟨rfl, rfl, rfl, Nat.le_refl _, fun _ _ _ => rfl⟩
theorem Ch.grow {w w' w'' : World} {lo hi : Nat} {row : Option Nat} (h : Ch w w' lo hi) (hg : w'.grownBy w'' row) (hr : ∀ k, row = some k → lo ≤ k ∧ k < hi) : Ch w w'' lo hi :=
  ⟨hg.os.trans h.os, hg.tape.trans h.tape, hg.output.trans h.output, Nat.le_trans h.size hg.size, fun k hk hx => (hg.block k (Nat.lt_of_lt_of_le hk h.size) (fun e => by have := hr k e.symm; omega)).trans (h.block k hk hx)⟩
theorem Ch.cell {w w' : World} {lo hi : Nat} (h : Ch w w' lo hi) {b o : Nat} (hb : b < w.heap.size) (hx : b < lo ∨ hi ≤ b) : w'.cell? ⟨b, o, none⟩ = w.cell? ⟨b, o, none⟩ := by
  simp only [World.cell?, h.block b hb hx]
theorem Ch.ints {w w' : World} {lo hi : Nat} (h : Ch w w' lo hi) {a : Option Addr} {zs : List Int} (hi' : IntsAt w a zs) (hx : ∀ b off, a = some ⟨b, off, none⟩ → zs ≠ [] → b < lo ∨ hi ≤ b) : IntsAt w' a zs := by
  by_cases hn : zs = []
  · exact .inl hn
  · rcases hi' with h0 | ⟨b, off, e, h1, h2⟩
    · exact .inl h0
    · exact .inr ⟨b, off, e, Nat.lt_of_lt_of_le h1 h.size, fun j hj => (h.cell h1 (hx b off e hn)).trans (h2 j hj)⟩
theorem Ch.own {w w' : World} {lo hi B size n : Nat} {e : TypeId} {v : Value} {xs : List Value} (h : Ch w w' lo hi) (ho : w.ownsRow B e size v n xs) (hx : ∀ k, v.ownBlock = some k → k < lo ∨ hi ≤ k) : w'.ownsRow B e size v n xs := by
  refine ⟨ho.1, ho.2.imp id ?_⟩
  rintro ⟨g, cap, cur, hv, hB, hh, r⟩
  subst hv
  exact ⟨g, cap, cur, rfl, hB, by rw [h.block g (Array.getElem?_eq_some_iff.1 hh).1 (hx g rfl)]; exact hh, r⟩
theorem Ch.below {w0 w w' : World} {lo hi : Nat} (h : Ch w w' lo hi) (hb : Below w0.heap.size w0 w) (hlo : w0.heap.size ≤ lo) : Below w0.heap.size w0 w' :=
  ⟨h.os.trans hb.os, h.tape.trans hb.tape, h.output.trans hb.output, Nat.le_trans hb.size h.size, fun k hk => (h.block k (Nat.lt_of_lt_of_le hk hb.size) (by omega)).trans (hb.block k hk)⟩

/-- Nodes that the caller may write: a row of its own, each order in a block of its own. -/
structure NsW (w : World) (lo hi g n : Nat) (gs ms : Nat → Nat) : Prop where
  row : ∃ xs : List Value, w.ownsRow lo 86 5 (.slice (some ⟨g, 0, none⟩) n n) n xs ∧ ∀ j, j < n → xs[j * 5 + 4]? = some (.slice (some ⟨gs j, 0, none⟩) (ms j) (ms j))
  ord : ∀ j, j < n → ∃ ys : List Value, w.ownsRow lo 3 1 (.slice (some ⟨gs j, 0, none⟩) (ms j) (ms j)) (ms j) ys
  far : g < hi ∧ ∀ j, j < n → gs j < hi ∧ gs j ≠ g ∧ ∀ i, i < n → i ≠ j → gs i ≠ gs j
theorem NsW.same {w w' : World} {lo hi g n : Nat} {gs ms : Nat → Nat} (h : NsW w lo hi g n gs ms) (hb : Below w.heap.size w w') : NsW w' lo hi g n gs ms := by
  obtain ⟨xs, h1, h2⟩ := h.row
  exact ⟨⟨xs, own_below h1 (Nat.le_refl _) hb, h2⟩, fun j hj => by
    obtain ⟨ys, h3⟩ := h.ord j hj
    exact ⟨ys, own_below h3 (Nat.le_refl _) hb⟩, h.far⟩

/-- Nodes out of their cells. -/
theorem nodes_of_cells {w : World} {x : Addr} {len : Nat} (h : ∀ i, i < len → ∃ d : Dt.Nd, w.cell? (x.add (i * 5 + 0)) = some (.int .i64 d.a) ∧ w.cell? (x.add (i * 5 + 1)) = some (.int .i64 d.b) ∧ w.cell? (x.add (i * 5 + 2)) = some (.int .i64 d.l) ∧ w.cell? (x.add (i * 5 + 3)) = some (.int .i64 d.g) ∧ ∃ (y : Option Addr) (c : Nat), w.cell? (x.add (i * 5 + 4)) = some (.slice y d.o.length c) ∧ IntsAt w y d.o ∧ NilOk y c ∧ d.o.length ≤ 9223372036854775807) :
    ∃ ns : List Dt.Nd, ns.length = len ∧ NodesAt w (some x) ns := by
  by_cases h0 : len = 0
  · subst h0; exact ⟨[], rfl, .inl rfl⟩
  · obtain ⟨b, off, spot⟩ := x
    obtain ⟨d0, hc0, _⟩ := h 0 (by omega)
    have hs : spot = none := by simpa [Addr.add] using World.cell?_spot hc0
    subst hs
    have hlt := World.block_lt_of_cell? w _ hc0
    have hadd : ∀ j, (⟨b, off, none⟩ : Addr).add j = ⟨b, off + j, none⟩ := fun j => by unfold Addr.add; split <;> simp_all
    have key : ∀ n, n ≤ len → ∃ ns : List Dt.Nd, ns.length = n ∧ ∀ j, j < n → NodeC w b (off + j * 5) (ns.getD j Dt.nd0) := by
      intro n
      induction n with
      | zero => intro _; exact ⟨[], rfl, fun j hj => by omega⟩
      | succ n ih =>
        intro hn
        obtain ⟨ns, hl, hr⟩ := ih (by omega)
        obtain ⟨d, e0, e1, e2, e3, y, c, e4, e5, e6, e7⟩ := h n (by omega)
        rw [hadd] at e0 e1 e2 e3 e4
        refine ⟨ns ++ [d], by simp [hl], fun j hj => ?_⟩
        by_cases e : j = n
        · subst e
          have : (ns ++ [d]).getD j Dt.nd0 = d := by simp [List.getD, ← hl]
          rw [this]
          exact ⟨e0, by rw [Nat.add_assoc]; exact e1, by rw [Nat.add_assoc]; exact e2, by rw [Nat.add_assoc]; exact e3, ⟨y, c, by rw [Nat.add_assoc]; exact e4, e5, e6⟩, e7⟩
        · have : (ns ++ [d]).getD j Dt.nd0 = ns.getD j Dt.nd0 := by simp [List.getD, List.getElem?_append_left (show j < ns.length by omega)]
          rw [this]
          exact hr j (by omega)
    obtain ⟨ns, hl, hr⟩ := key len (Nat.le_refl _)
    exact ⟨ns, hl, .inr ⟨b, off, rfl, hlt, fun j hj => hr j (by omega)⟩⟩

end Go.Proofs.Ytmolneojjcjooaa

/- Walks: copies of integer lists; the comparison of two integer lists. -/
namespace Go.Proofs.Ytmolneojjcjooaa
open Go.RowKit
set_option linter.unusedVariables false

set_option maxHeartbeats 400000 in
theorem toIntS_any (a : Option Addr) (cap : Nat) (zs : List Int) (w : World) (hlen : zs.length ≤ 1048576) (h : IntsAt w a zs) :
    Calls Try.prog 17 #[.slice a zs.length cap] w fun e w' => e = .returned (.slice (some ⟨w.heap.size, 0, none⟩) zs.length zs.length) ∧
      w'.ownsRow w.heap.size 3 1 (.slice (some ⟨w.heap.size, 0, none⟩) zs.length zs.length) zs.length (zs.map (Value.int .i64)) ∧ Below w.heap.size w w' := by
  have H := Lib.hid h; clear h
  obtain ⟨i0, hi, hz0, hz1, hz2⟩ := info_parts Try.infoInt
  have HI := Lib.hid hi; clear hi
  have H0 := Lib.hid hz0; clear hz0
  have H1 := Lib.hid hz1; clear hz1
  have h2 := Lib.hid hz2; clear hz2
  go_enter Try.func17, Try.ntmps17
  go_wp2_with (at_make; refine wpList_make_full _ rfl _ _ 29 rfl w.heap.size 3 i0 (.int .i64 0) 1 Try.underlying29 HI.out H0.out H1.out _ _ _ _ zs.length rfl rfl rfl rfl ?c1 ?c2 ?c3 ?_)
  case c1 => rw [h2.out]; omega
  case c2 => unfold maxLen; omega
  case c3 => exact Nat.le_refl _
  intro w1 hown hgrow
  have hown : w1.ownsRow w.heap.size 3 1 (.slice (some ⟨w.heap.size, 0, none⟩) zs.length zs.length) zs.length (cpK zs 0) := by
    rw [cpK_zero]; rw [← toList_madeCells_one]; simpa [Value.cells] using hown
  have hb : Below w.heap.size w w1 := (Below.refl _ _).grown hgrow (Nat.le_refl _) (fun k hk => by cases hk)
  have HO := Lib.hid hown; clear hown
  have HB := Lib.hid hb; clear hb hgrow
  go_wp2
  go_loopw [4] (fun i wr => ∃ k : Nat, k ≤ zs.length ∧ i = .int .i64 k ∧ wr.ownsRow w.heap.size 3 1 (.slice (some ⟨w.heap.size, 0, none⟩) zs.length zs.length) zs.length (cpK zs k) ∧ Below w.heap.size w wr) (fun i _ => zs.length - (intOf i).toNat)
  case atStart => exact ⟨0, by omega, rfl, HO.out, HB.out⟩
  case round =>
    obtain ⟨k, hk, rfl, hown, hb⟩ := hrel
    clear HO HB
    by_cases hlt : k < zs.length
    · have hc1 := hown.cellAt k (by omega)
      rw [List.getElem?_eq_getElem (by rw [cpK_length]; exact hlt)] at hc1
      have hf1 := hown.frozenAt k
      have R := hown.stored k (.int .i64 (zs.getD k 0))
      rw [cpK_succ hlt] at R
      obtain ⟨b, off, rfl, hcell⟩ := (H.out.below (Nat.le_refl _) hb).at hlt
      have hb2 := hb.setCell (p := ⟨w.heap.size, k, none⟩) (Nat.le_refl _) (.int .i64 (zs.getD k 0))
      generalize hx : zs.getD k 0 = x at hcell R hb2
      have HR := Lib.hid R.1; clear R
      have HB := Lib.hid hb2; clear hb2 hb hown hx
      go_wp2
      go_roundw
      case rel => exact ⟨k + 1, by omega, by go_num, HR.out, HB.out⟩
      case measure => simp [intOf]; omega
    · have e : k = zs.length := by omega
      subst e
      rw [cpK_end] at hown
      have HO := Lib.hid hown; clear hown
      have HB := Lib.hid hb; clear hb
      go_wp2
      go_ret
      exact ⟨rfl, HO.out, HB.out⟩

set_option maxHeartbeats 400000 in
theorem eqIntS_any (a a' : Option Addr) (cap cap' : Nat) (zs ys : List Int) (w : World) (hlen : zs.length ≤ 9223372036854775807) (hlen' : ys.length ≤ 9223372036854775807) (h : IntsAt w a zs) (h' : IntsAt w a' ys) :
    Calls Try.prog 19 #[.slice a zs.length cap, .slice a' ys.length cap'] w fun e w' => e = .returned (.bool (decide (zs = ys))) ∧ Below w.heap.size w w' := by
  have H := Lib.hid h; clear h
  have H' := Lib.hid h'; clear h'
  by_cases hl : zs.length = ys.length
  · have HL := Lib.hid hl
    have hne : ((zs.length : Int) != (ys.length : Int)) = false := by rw [hl]; simp
    clear hl
    go_enter Try.func19, Try.ntmps19
    go_wp2
    go_loopw [5] (fun i wr => ∃ k : Nat, k ≤ zs.length ∧ i = .int .i64 k ∧ (∀ j, j < k → zs.getD j 0 = ys.getD j 0) ∧ Below w.heap.size w wr) (fun i _ => zs.length - (intOf i).toNat)
    case atStart => exact ⟨0, by omega, rfl, by intro j h; omega, Below.refl _ _⟩
    case round =>
      obtain ⟨k, hk, rfl, hall, hb⟩ := hrel
      have HA := Lib.hid hall; clear hall
      have HB := Lib.hid hb; clear hb
      by_cases hlt : k < zs.length
      · obtain ⟨b, off, rfl, hc1⟩ := (H.out.below (Nat.le_refl _) HB.out).at hlt
        have hlt' : k < ys.length := by rw [← HL.out]; exact hlt
        obtain ⟨b', off', rfl, hc2⟩ := (H'.out.below (Nat.le_refl _) HB.out).at hlt'
        generalize hx : zs.getD k 0 = x at hc1
        generalize hy : ys.getD k 0 = y at hc2
        have HX := Lib.hid hx; clear hx
        have HY := Lib.hid hy; clear hy
        by_cases hxy : x = y
        · have hq : (x != y) = false := by rw [hxy]; simp
          have HQ := Lib.hid hxy; clear hxy
          go_wp2_with fail
          go_quiet (fail)
          go_wp2
          go_roundw
          case rel =>
            refine ⟨k + 1, by omega, by go_num, fun j hj => ?_, below_drewN HB.out _⟩
            rcases Nat.lt_succ_iff_lt_or_eq.1 hj with h | rfl
            · exact HA.out j h
            · rw [HX.out, HY.out, HQ.out]
          case measure => simp [intOf]; omega
        · have hq : (x != y) = true := by simpa using hxy
          have HQ := Lib.hid hxy; clear hxy
          go_wp2_with fail
          go_quiet (fail)
          go_wp2
          go_ret
          refine ⟨ret_bool ?_, below_drewN HB.out _⟩
          symm; apply decide_eq_false
          intro e
          exact HQ.out (by rw [← HX.out, ← HY.out, e])
      · go_wp2
        go_ret
        refine ⟨ret_bool ?_, HB.out⟩
        symm; apply decide_eq_true
        apply List.ext_getElem HL.out
        intro j h1 h2
        have := HA.out j (by omega)
        simpa [List.getD, h1, h2] using this
  · have hne : ((zs.length : Int) != (ys.length : Int)) = true := by simpa using (by omega : ¬ (zs.length : Int) = ys.length)
    have HL := Lib.hid hl; clear hl
    go_enter Try.func19, Try.ntmps19
    go_wp2
    go_ret
    refine ⟨ret_bool ?_, Below.refl _ _⟩
    symm; apply decide_eq_false
    intro e
    exact HL.out (by rw [e])

end Go.Proofs.Ytmolneojjcjooaa

/- Walks: nodes of decision trees, of the laws: measured, turned. -/
namespace Go.Proofs.Ytmolneojjcjooaa
open Go.RowKit
set_option linter.unusedVariables false

theorem Try.infoNode : (Try.prog.info? 86).map (fun i => (i.zero, i.size, i.bytes)) = some (some (.agg #[.int .i64 0, .int .i64 0, .int .i64 0, .int .i64 0, .slice none 0 0]), 5, 56) := by kernel_rfl
theorem slNode : SlT Try.prog 25 86 (.agg #[.int .i64 0, .int .i64 0, .int .i64 0, .int .i64 0, .slice none 0 0]) 5 56 := ⟨Try.underlying25, info_parts Try.infoNode, rfl, by decide, by decide⟩

theorem standsN {W w1 : World} {B : Nat} (hb : Below B W w1) : (∀ b o, b < B → w1.cell? ⟨b, o, none⟩ = W.cell? ⟨b, o, none⟩) ∧ (∀ b o, b < B → w1.frozen? ⟨b, o, none⟩ = W.frozen? ⟨b, o, none⟩) :=
  ⟨fun b o h => hb.cell (p := ⟨b, o, none⟩) h, fun b o h => hb.frozen (p := ⟨b, o, none⟩) h⟩


theorem five_set {w : World} {B : Nat} {a0 a1 a2 a3 a4 : Value} (x0 x1 x2 x3 x4 : Value) (h0 : w.cell? ⟨B, 0, none⟩ = some a0) (h1 : w.cell? ⟨B, 1, none⟩ = some a1) (h2 : w.cell? ⟨B, 2, none⟩ = some a2) (h3 : w.cell? ⟨B, 3, none⟩ = some a3) (h4 : w.cell? ⟨B, 4, none⟩ = some a4) :
    (((((w.setCell ⟨B, 0, none⟩ x0).setCell ⟨B, 1, none⟩ x1).setCell ⟨B, 2, none⟩ x2).setCell ⟨B, 3, none⟩ x3).setCell ⟨B, 4, none⟩ x4).cell? ⟨B, 0, none⟩ = some x0 ∧
    (((((w.setCell ⟨B, 0, none⟩ x0).setCell ⟨B, 1, none⟩ x1).setCell ⟨B, 2, none⟩ x2).setCell ⟨B, 3, none⟩ x3).setCell ⟨B, 4, none⟩ x4).cell? ⟨B, 1, none⟩ = some x1 ∧
    (((((w.setCell ⟨B, 0, none⟩ x0).setCell ⟨B, 1, none⟩ x1).setCell ⟨B, 2, none⟩ x2).setCell ⟨B, 3, none⟩ x3).setCell ⟨B, 4, none⟩ x4).cell? ⟨B, 2, none⟩ = some x2 ∧
    (((((w.setCell ⟨B, 0, none⟩ x0).setCell ⟨B, 1, none⟩ x1).setCell ⟨B, 2, none⟩ x2).setCell ⟨B, 3, none⟩ x3).setCell ⟨B, 4, none⟩ x4).cell? ⟨B, 3, none⟩ = some x3 ∧
    (((((w.setCell ⟨B, 0, none⟩ x0).setCell ⟨B, 1, none⟩ x1).setCell ⟨B, 2, none⟩ x2).setCell ⟨B, 3, none⟩ x3).setCell ⟨B, 4, none⟩ x4).cell? ⟨B, 4, none⟩ = some x4 := by
  have oth : ∀ (u : World) (i j : Nat) (x : Value), i ≠ j → (u.setCell ⟨B, i, none⟩ x).cell? ⟨B, j, none⟩ = u.cell? ⟨B, j, none⟩ := fun u i j x h => World.cell?_setCell_other (h := (fun e => h (by injection e) : (⟨B, i, none⟩ : Addr) ≠ ⟨B, j, none⟩)) ..
  have same : ∀ (u : World) (i : Nat) (x a : Value), u.cell? ⟨B, i, none⟩ = some a → (u.setCell ⟨B, i, none⟩ x).cell? ⟨B, i, none⟩ = some x := fun u i x a h => World.cell?_setCell_same' _ _ _ (by rw [h]; rfl)
  exact ⟨(oth _ 4 0 _ (by decide)).trans ((oth _ 3 0 _ (by decide)).trans ((oth _ 2 0 _ (by decide)).trans ((oth _ 1 0 _ (by decide)).trans (same _ 0 _ _ h0)))),
    (oth _ 4 1 _ (by decide)).trans ((oth _ 3 1 _ (by decide)).trans ((oth _ 2 1 _ (by decide)).trans (same _ 1 _ _ ((oth _ 0 1 _ (by decide)).trans h1)))),
    (oth _ 4 2 _ (by decide)).trans ((oth _ 3 2 _ (by decide)).trans (same _ 2 _ _ ((oth _ 1 2 _ (by decide)).trans ((oth _ 0 2 _ (by decide)).trans h2)))),
    (oth _ 4 3 _ (by decide)).trans (same _ 3 _ _ ((oth _ 2 3 _ (by decide)).trans ((oth _ 1 3 _ (by decide)).trans ((oth _ 0 3 _ (by decide)).trans h3)))),
    same _ 4 _ _ ((oth _ 3 4 _ (by decide)).trans ((oth _ 2 4 _ (by decide)).trans ((oth _ 1 4 _ (by decide)).trans ((oth _ 0 4 _ (by decide)).trans h4))))⟩

set_option maxHeartbeats 400000 in
theorem szIntS_any (a : Option Addr) (c n : Nat) (l : Int) (w : World) (hn : n ≤ 9223372036854775807) (h0 : -1 ≤ l) (h1 : l ≤ 1048576) :
    Calls Try.prog 132 #[.slice a n c, .int .i64 l] w fun e w' => e = .returned (.int .i64 (if (n : Int) ≤ l then l - n else -1)) ∧ w = w' := by
  by_cases h : (n : Int) ≤ l
  · rw [if_pos h]
    go_enter Try.func132, Try.ntmps132
    go_wp2
    go_ret
    exact ⟨rfl, rfl⟩
  · rw [if_neg h]
    go_enter Try.func132, Try.ntmps132
    go_wp2
    go_ret
    exact ⟨rfl, rfl⟩

set_option maxHeartbeats 400000 in
theorem szDecisionNode_any (x1 x2 x3 x4 : Int) (a : Option Addr) (c n : Nat) (l : Int) (w : World) (hn : n ≤ 9223372036854775807) (h0 : -1 ≤ l) (h1 : l ≤ 1048576) :
    Calls Try.prog 58 #[.agg #[.int .i64 x1, .int .i64 x2, .int .i64 x3, .int .i64 x4, .slice a n c], .int .i64 l] w fun e w' => e = .returned (.int .i64 (if (n : Int) ≤ l then l - n else -1)) ∧ Below w.heap.size w w' := by
  by_cases h : (n : Int) ≤ l
  · rw [if_pos h]
    go_enter Try.func58, Try.ntmps58
    go_wp2_with fail
    refine (szIntS_any a c n l _ hn h0 h1).mono ?_
    rintro e w2 ⟨rfl, rfl⟩
    rw [if_pos h]
    go_wp2
    go_ret
    refine ⟨rfl, ?_⟩
    (repeat (first | exact Below.refl _ _ | assumption | refine Below.setCell ?_ (by first | omega | (simp; done) | (simp; omega)) _ | refine Below.alloc ?_ (by first | omega | (simp; done) | (simp; omega)) _ | refine Below.drew ?_ | refine below_drewN ?_ _))
  · rw [if_neg h]
    go_enter Try.func58, Try.ntmps58
    go_wp2_with fail
    refine (szIntS_any a c n l _ hn h0 h1).mono ?_
    rintro e w2 ⟨rfl, rfl⟩
    rw [if_neg (by omega)]
    go_wp2
    go_ret
    refine ⟨rfl, ?_⟩
    (repeat (first | exact Below.refl _ _ | assumption | refine Below.setCell ?_ (by first | omega | (simp; done) | (simp; omega)) _ | refine Below.alloc ?_ (by first | omega | (simp; done) | (simp; omega)) _ | refine Below.drew ?_ | refine below_drewN ?_ _))

set_option maxHeartbeats 400000 in
theorem toDecisionNode_any (x1 x2 x3 x4 : Int) (a : Option Addr) (c : Nat) (o : List Int) (w : World) (hn : o.length ≤ 1048576) (h : IntsAt w a o) :
    Calls Try.prog 60 #[.agg #[.int .i64 x1, .int .i64 x2, .int .i64 x3, .int .i64 x4, .slice a o.length c]] w fun e w' => ∃ g, w.heap.size ≤ g ∧ g < w'.heap.size ∧ e = .returned (.agg #[.int .i64 x1, .int .i64 x2, .int .i64 x3, .int .i64 x4, .slice (some ⟨g, 0, none⟩) o.length o.length]) ∧
      w'.ownsRow w.heap.size 3 1 (.slice (some ⟨g, 0, none⟩) o.length o.length) o.length (o.map (Value.int .i64)) ∧ Below w.heap.size w w' := by
  have H := Lib.hid h; clear h
  go_enter Try.func60, Try.ntmps60
  go_wp2_with fail
  refine (toIntS_any a c o _ hn (H.out.below (Nat.le_refl _) (by (repeat (first | exact Below.refl _ _ | assumption | refine Below.setCell ?_ (by first | omega | (simp; done) | (simp; omega)) _ | refine Below.alloc ?_ (by first | omega | (simp; done) | (simp; omega)) _ | refine Below.drew ?_ | refine below_drewN ?_ _))))).mono ?_
  rintro e w2 ⟨rfl, ho, hb⟩
  have HO := Lib.hid ho; clear ho
  have HB := Lib.hid (show Below w.heap.size w w2 from Below.trans (by (repeat (first | exact Below.refl _ _ | assumption | refine Below.setCell ?_ (by first | omega | (simp; done) | (simp; omega)) _ | refine Below.alloc ?_ (by first | omega | (simp; done) | (simp; omega)) _ | refine Below.drew ?_ | refine below_drewN ?_ _))) (hb.mono (by simp; omega)))
  obtain ⟨hcl, hfr⟩ := standsN hb
  have hz := hb.size
  clear hb
  go_wp2
  have oth : ∀ (u : World) (i j : Nat) (x : Value), (u.setCell ⟨w.heap.size + 1 + 1, i, none⟩ x).cell? ⟨w.heap.size + 1, j, none⟩ = u.cell? ⟨w.heap.size + 1, j, none⟩ := fun u i j x => World.cell?_setCell_other (h := (by simp : (⟨w.heap.size + 1 + 1, i, none⟩ : Addr) ≠ ⟨w.heap.size + 1, j, none⟩)) ..
  obtain ⟨s0, s1, s2, s3, s4⟩ := five_set (w := w2.setCell ⟨w.heap.size + 1 + 1, 4, none⟩ (.slice (some ⟨w.heap.size + 1 + 1 + 1, 0, none⟩) o.length o.length)) (B := w.heap.size + 1) (.int .i64 x1) (.int .i64 x2) (.int .i64 x3) (.int .i64 x4) (.slice (some ⟨w.heap.size + 1 + 1 + 1, 0, none⟩) o.length o.length) (a0 := .int .i64 0) (a1 := .int .i64 0) (a2 := .int .i64 0) (a3 := .int .i64 0) (a4 := .slice none 0 0)
    (by rw [oth, hcl _ _ (by simp)]; simp [go_sem]) (by rw [oth, hcl _ _ (by simp)]; simp [go_sem]) (by rw [oth, hcl _ _ (by simp)]; simp [go_sem]) (by rw [oth, hcl _ _ (by simp)]; simp [go_sem]) (by rw [oth, hcl _ _ (by simp)]; simp [go_sem])
  have hs : w.heap.size + 1 + 1 + 1 ≤ w2.heap.size := by simpa using hz
  have ho1 : w2.ownsRow (w.heap.size + 1 + 1 + 1) 3 1 (.slice (some ⟨w.heap.size + 1 + 1 + 1, 0, none⟩) o.length o.length) o.length (o.map (Value.int .i64)) := by simpa using HO.out
  have hl := (ho1.lt _ rfl).2
  refine bodyPost_ret (v := .agg #[.int .i64 x1, .int .i64 x2, .int .i64 x3, .int .i64 x4, .slice (some ⟨w.heap.size + 1 + 1 + 1, 0, none⟩) o.length o.length]) (by simp [results, Try.results60, go_sem, s0, s1, s2, s3, s4]) rfl ⟨w.heap.size + 1 + 1 + 1, by omega, by simpa using hl, rfl, own_mono (ownsRow_setCell_below (ownsRow_setCell_below (ownsRow_setCell_below (ownsRow_setCell_below (ownsRow_setCell_below (ownsRow_setCell_below ho1 (by simp; try omega) _) (by simp; try omega) _) (by simp; try omega) _) (by simp; try omega) _) (by simp; try omega) _) (by simp; try omega) _) (by omega), ?_⟩
  have HB2 := HB.out
  refine Below.setCell (p := ⟨w.heap.size + 1, 4, none⟩) (Below.setCell (p := ⟨w.heap.size + 1, 3, none⟩) (Below.setCell (p := ⟨w.heap.size + 1, 2, none⟩) (Below.setCell (p := ⟨w.heap.size + 1, 1, none⟩) (Below.setCell (p := ⟨w.heap.size + 1, 0, none⟩) (Below.setCell (p := ⟨w.heap.size + 1 + 1, 4, none⟩) HB2 ?_ _) ?_ _) ?_ _) ?_ _) ?_ _) ?_ _
  all_goals simp only []
  all_goals omega

end Go.Proofs.Ytmolneojjcjooaa
