/- Several texts in one: lemmas and walks of the functions that the law reaches. -/
import Derived.Test.YtcdfinkefahloaaY2
import Derived.Test.YtcdfinkefahloaaY8
import Derived.Test.YtcdfinkefahloaaY9

namespace Go.Proofs.Ytcdfinkefahloaa
open Go.RowKit
set_option linter.unusedVariables false

/-- A counter in a block of its own. -/
def MB (w : World) (mb s : Nat) : Prop := w.heap[mb]? = some (.cells #[.int .i64 (s : Nat)] 3 (0, 0))
theorem MB.cell {w : World} {mb s : Nat} (h : MB w mb s) : w.cell? ⟨mb, 0, none⟩ = some (.int .i64 (s : Nat)) := row_cell h 0
theorem MB.fr {w : World} {mb s : Nat} (h : MB w mb s) : w.frozen? ⟨mb, 0, none⟩ = false := by
  have h' : w.heap[mb]? = some (.cells #[.int .i64 (s : Nat)] 3 (0, 0)) := h
  simp [World.frozen?, h']
theorem MB.lt {w : World} {mb s : Nat} (h : MB w mb s) : mb < w.heap.size := (Array.getElem?_eq_some_iff.1 h).1
theorem MB.grown {w w' : World} {mb s : Nat} {row : Option Nat} (h : MB w mb s) (hg : w.grownBy w' row) (hne : row ≠ some mb) : MB w' mb s := block_row h hg hne
theorem MB.below {w w' : World} {mb s : Nat} (h : MB w mb s) (hb : Below w.heap.size w w') : MB w' mb s := block_below h hb h.lt
theorem MB.set {w : World} {mb s : Nat} (h : MB w mb s) (x : Nat) : MB (w.setCell ⟨mb, 0, none⟩ (.int .i64 (x : Nat))) mb x := heap_setCell_same w mb 0 _ _ _ h

/-- Tapes, the counter apart from them. -/
structure TM {α : Type} (Ok : World → α → Value → Prop) (w : World) (B : Nat) (tt e : TypeId) (g k c mb s : Nat) (vs : List Value) (es : List (List Value)) (Q : List (List α)) : Prop where
  ts : TS Ok w B tt e g k c vs es Q
  far : FarT g k vs es mb
  mo : MB w mb s
section
variable {α : Type} {Ok : World → α → Value → Prop} {w w' : World} {B : Nat} {tt e : TypeId} {g k c mb s : Nat} {vs : List Value} {es : List (List Value)} {Q : List (List α)}
theorem TM.below (E : ElOk Ok) (h : TM Ok w B tt e g k c mb s vs es Q) (hb : Below w.heap.size w w') : TM Ok w' B tt e g k c mb s vs es Q := ⟨h.ts.below E hb, h.far, h.mo.below hb⟩
/-- Some other block is written. -/
theorem TM.kept (E : ElOk Ok) {row : Option Nat} (h : TM Ok w B tt e g k c mb s vs es Q) (hg : w.grownBy w' row) (hr : ∀ b, row = some b → w.heap.size ≤ b) : TM Ok w' B tt e g k c mb s vs es Q :=
  ⟨h.ts.kept E hg (fun b hb => h.ts.fresh E (hr b hb)), h.far, h.mo.grown hg (fun e => by have := hr mb e; have := h.mo.lt; omega)⟩
/-- Some block is written that is far from all. -/
theorem TM.keptF (E : ElOk Ok) {row : Option Nat} (h : TM Ok w B tt e g k c mb s vs es Q) (hg : w.grownBy w' row) (hr : ∀ b, row = some b → FarT g k vs es b ∧ b ≠ mb) : TM Ok w' B tt e g k c mb s vs es Q :=
  ⟨h.ts.kept E hg (fun b hb => (hr b hb).1), h.far, h.mo.grown hg (fun e => (hr mb e).2 rfl)⟩
theorem TM.cut (E : ElOk Ok) (h : TM Ok w B tt e g k c mb s vs es Q) {i : Nat} (hi : i < k) {v' x : Value} {y : α} {et : List Value} {qt : List α} (he : es.getD i [] = x :: et) (hq : Q.getD i [] = y :: qt) (hv : QRow w B e v' et) (hvb : v'.ownBlock = (vs.getD i undef).ownBlock)
    (ho : w'.ownsRow B tt 1 (.slice (some ⟨g, 0, none⟩) k c) k (vs.set i v')) (hg : w.grownBy w' (some g)) : TM Ok w' B tt e g k c mb s (vs.set i v') (es.set i et) (Q.set i qt) := by
  refine ⟨h.ts.cut E hi he hq hv hvb ho hg, ⟨h.far.1, fun j hj => ?_, fun j hj u hu => ?_⟩, h.mo.grown hg (fun e => h.far.1 (by injection e with e; exact e.symm))⟩
  · rw [getD_set' (by rw [h.ts.lv]; exact hi)]
    by_cases e1 : j = i
    · rw [if_pos e1, hvb]; exact h.far.2.1 i hi
    · rw [if_neg e1]; exact h.far.2.1 j hj
  · rw [getD_set' (by rw [h.ts.le]; exact hi)] at hu
    by_cases e1 : j = i
    · subst e1
      rw [if_pos rfl] at hu
      exact h.far.2.2 j hj u (by rw [he]; exact List.mem_cons_of_mem _ hu)
    · rw [if_neg e1] at hu
      exact h.far.2.2 j hj u hu
theorem TM.push (E : ElOk Ok) {w1 : World} (h : TM Ok w B tt e g k c mb s vs es Q) {i : Nat} (hi : i < k) {v' x : Value} {y : α} (hx : Ok w y x) (hxf : ∀ b, x.ownBlock = some b → FarT g k vs es b ∧ b ≠ mb)
    (hv : QRow w1 B e v' (es.getD i [] ++ [x])) (hg1 : w.grownBy w1 (vs.getD i undef).ownBlock) (ht : v'.ownBlock = (vs.getD i undef).ownBlock ∨ ∃ b, v'.ownBlock = some b ∧ w.heap.size ≤ b)
    (ho : w'.ownsRow B tt 1 (.slice (some ⟨g, 0, none⟩) k c) k (vs.set i v')) (hg : w1.grownBy w' (some g)) : TM Ok w' B tt e g k c mb s (vs.set i v') (es.set i (es.getD i [] ++ [x])) (Q.set i (Q.getD i [] ++ [y])) := by
  have hml := h.mo.lt
  refine ⟨h.ts.push E hi hx (fun b hb => ⟨(hxf b hb).1.1, (hxf b hb).1.2.1⟩) hv hg1 ht ho hg, ⟨h.far.1, fun j hj => ?_, fun j hj u hu => ?_⟩, (h.mo.grown hg1 (h.far.2.1 i hi)).grown hg (fun e => h.far.1 (by injection e with e; exact e.symm))⟩
  · rw [getD_set' (by rw [h.ts.lv]; exact hi)]
    by_cases e1 : j = i
    · rw [if_pos e1]
      rcases ht with h1 | ⟨b, h1, h2⟩
      · rw [h1]; exact h.far.2.1 i hi
      · rw [h1]; intro e2; injection e2 with e2; omega
    · rw [if_neg e1]; exact h.far.2.1 j hj
  · rw [getD_set' (by rw [h.ts.le]; exact hi)] at hu
    by_cases e1 : j = i
    · rw [if_pos e1] at hu
      rcases List.mem_append.1 hu with hu | hu
      · exact h.far.2.2 i hi u hu
      · simp at hu; subst hu; intro e2; exact (hxf mb e2).2 rfl
    · rw [if_neg e1] at hu
      exact h.far.2.2 j hj u hu
end

/-- All blocks lie below L. -/
def LT (L g k mb : Nat) (vs : List Value) (es : List (List Value)) : Prop := g < L ∧ mb < L ∧ (∀ i, i < k → ∀ b, (vs.getD i undef).ownBlock = some b → b < L) ∧ ∀ i, i < k → ∀ x ∈ es.getD i [], ∀ b, x.ownBlock = some b → b < L
section
variable {α : Type} {Ok : World → α → Value → Prop} {w w' : World} {B : Nat} {tt e : TypeId} {g k c mb s L : Nat} {vs : List Value} {es : List (List Value)} {Q : List (List α)}
theorem TM.lt (E : ElOk Ok) (h : TM Ok w B tt e g k c mb s vs es Q) : LT w.heap.size g k mb vs es := by
  obtain ⟨h1, h2, h3⟩ := h.ts.lt E
  exact ⟨h1, h.mo.lt, fun i hi b hb => (h2 i hi b hb).2, h3⟩
theorem LT.far (h : LT L g k mb vs es) {b : Nat} (hb : L ≤ b) : FarT g k vs es b ∧ b ≠ mb := by
  obtain ⟨h1, h2, h3, h4⟩ := h
  exact ⟨⟨by omega, fun i hi e => by have := h3 i hi b e; omega, fun i hi x hx e => by have := h4 i hi x hx b e; omega⟩, by omega⟩
theorem LT.cut (h : LT L g k mb vs es) (hl : vs.length = k) (hle : es.length = k) {i : Nat} (hi : i < k) {v' x : Value} {et : List Value} (he : es.getD i [] = x :: et) (hvb : v'.ownBlock = (vs.getD i undef).ownBlock) : LT L g k mb (vs.set i v') (es.set i et) := by
  obtain ⟨h1, h2, h3, h4⟩ := h
  refine ⟨h1, h2, fun j hj b hb => ?_, fun j hj u hu b hb => ?_⟩
  · rw [getD_set' (by omega)] at hb
    by_cases e1 : j = i
    · rw [if_pos e1, hvb] at hb; exact h3 i hi b hb
    · rw [if_neg e1] at hb; exact h3 j hj b hb
  · rw [getD_set' (by omega)] at hu
    by_cases e1 : j = i
    · rw [if_pos e1] at hu; exact h4 i hi u (by rw [he]; exact List.mem_cons_of_mem _ hu) b hb
    · rw [if_neg e1] at hu; exact h4 j hj u hu b hb
theorem TM.keptL (E : ElOk Ok) {row : Option Nat} (h : TM Ok w B tt e g k c mb s vs es Q) (hL : LT L g k mb vs es) (hg : w.grownBy w' row) (hr : ∀ b, row = some b → L ≤ b) : TM Ok w' B tt e g k c mb s vs es Q :=
  h.keptF E hg (fun b hb => hL.far (hr b hb))
/-- The heads that were taken. -/
structure HdS (Ok : World → α → Value → Prop) (w : World) (L g mb : Nat) (xs : List α) (hs : List Value) : Prop where
  ok : All2 (Ok w) xs hs
  bl : ∀ x ∈ hs, ∀ b, x.ownBlock = some b → b < L ∧ b ≠ g ∧ b ≠ mb
variable {xs : List α} {hs : List Value}
theorem HdS.kept (E : ElOk Ok) {row : Option Nat} (h : HdS Ok w L g mb xs hs) (hg : w.grownBy w' row) (hr : ∀ b, row = some b → L ≤ b ∨ b = g) : HdS Ok w' L g mb xs hs :=
  ⟨h.ok.imp (fun x v hv ho => E.kept ho hg (fun b hb e => by have := h.bl v hv b hb; have := hr b e; omega)), h.bl⟩
theorem HdS.below (E : ElOk Ok) (h : HdS Ok w L g mb xs hs) (hb : Below w.heap.size w w') : HdS Ok w' L g mb xs hs :=
  ⟨h.ok.imp (fun x v hv ho => E.kept ho (grown_of_below (row := none) hb) (fun b _ e => nomatch e)), h.bl⟩
theorem HdS.snoc {y : α} {v : Value} (h : HdS Ok w L g mb xs hs) (hv : Ok w y v) (hb : ∀ b, v.ownBlock = some b → b < L ∧ b ≠ g ∧ b ≠ mb) : HdS Ok w L g mb (xs ++ [y]) (hs ++ [v]) :=
  ⟨h.ok.snoc hv, fun x hx b e => by
    rcases List.mem_append.1 hx with hx | hx
    · exact h.bl x hx b e
    · simp at hx; subst hx; exact hb b e⟩
/-- A tape that is not empty: its head. -/
theorem TM.head (E : ElOk Ok) (h : TM Ok w B tt e g k c mb s vs es Q) (hL : LT L g k mb vs es) {i : Nat} (hi : i < k) (hne : Q.getD i [] ≠ []) : ∃ (y : α) (qt : List α) (x : Value) (et : List Value) (gb off cap : Nat), Q.getD i [] = y :: qt ∧ es.getD i [] = x :: et ∧ vs.getD i undef = .slice (some ⟨gb, off, none⟩) (et.length + 1) (cap + 1) ∧ et.length ≤ cap ∧ cap + 1 ≤ maxLen ∧
    w.cell? ⟨gb, off, none⟩ = some x ∧ Ok w y x ∧ (∀ b, x.ownBlock = some b → b < L ∧ b ≠ g ∧ b ≠ mb) ∧ w.cell? ⟨g, i, none⟩ = some (.slice (some ⟨gb, off, none⟩) (et.length + 1) (cap + 1)) ∧ gb ≠ g ∧ gb < L := by
  cases hq : Q.getD i [] with
  | nil => exact absurd hq hne
  | cons y qt =>
    have hel := h.ts.el i hi
    rw [hq] at hel
    cases hes : es.getD i [] with
    | nil => rw [hes] at hel; have := hel.1; simp at this
    | cons x et =>
      rw [hes] at hel
      obtain ⟨gb, off, cap, hv, hle, hm, hc⟩ := (h.ts.q i hi).at (by rw [hes]; simp)
      rw [hes] at hle hc hv
      simp only [List.length_cons] at hle hv
      obtain ⟨cap', rfl⟩ : ∃ c', cap = c' + 1 := ⟨cap - 1, by omega⟩
      have hl := h.ts.lv
      have hcell := h.ts.row.cells (g := g) rfl i (vs.getD i undef) (by rw [List.getD_eq_getElem?_getD, List.getElem?_eq_getElem (by omega)]; rfl)
      rw [addr_add_zero] at hcell
      have hx : x ∈ es.getD i [] := by rw [hes]; simp
      refine ⟨y, qt, x, et, gb, off, cap', rfl, rfl, hv, by omega, hm, by have := hc 0 x rfl; rwa [Nat.add_zero] at this, hel.head.1, fun b hb => ⟨hL.2.2.2 i hi x hx b hb, (h.ts.elf i hi x hx b hb).1, fun e2 => h.far.2.2 i hi x hx (by rw [hb, e2])⟩, by rw [hcell, hv], fun e2 => h.ts.row0 i hi (by rw [hv, e2]; rfl), hL.2.2.1 i hi gb (by rw [hv]; rfl)⟩
/-- The row behind a store. -/
theorem TS.store (h : TS Ok w B tt e g k c vs es Q) (i : Nat) (v : Value) : (w.setCell ⟨g, i, none⟩ v).ownsRow B tt 1 (.slice (some ⟨g, 0, none⟩) k c) k (vs.set i v) ∧ w.grownBy (w.setCell ⟨g, i, none⟩ v) (some g) ∧ w.frozen? ⟨g, i, none⟩ = false := by
  have := h.row.stored i v
  exact ⟨this.1, this.2, h.row.frozenAt i⟩
theorem TS.cellAt (h : TS Ok w B tt e g k c vs es Q) {i : Nat} (hi : i < k) : w.cell? ⟨g, i, none⟩ = some (vs.getD i undef) := by
  have hl := h.lv
  have hcell := h.row.cells (g := g) rfl i (vs.getD i undef) (by rw [List.getD_eq_getElem?_getD, List.getElem?_eq_getElem (by omega)]; rfl)
  rwa [addr_add_zero] at hcell
end

theorem TM.appd {α : Type} {Ok : World → α → Value → Prop} {w6 W2 w8 : World} {B : Nat} {tt e : TypeId} {g k c mb s i : Nat} {vs : List Value} {es : List (List Value)} {Q : List (List α)} {ve : Value} (h : TM Ok w6 B tt e g k c mb s vs es Q) (hi : i < k) (hve : vs.getD i undef = ve) (hb : Below w6.heap.size w6 W2) (hg : W2.grownBy w8 ve.ownBlock) :
    w6.grownBy w8 ve.ownBlock ∧ w8.ownsRow B tt 1 (.slice (some ⟨g, 0, none⟩) k c) k vs ∧ w8.cell? ⟨g, i, none⟩ = some ve ∧ w8.frozen? ⟨g, i, none⟩ = false := by
  have hg6 := grown_trans (grown_of_below (row := ve.ownBlock) hb) hg
  have hrow := own_other h.ts.row hg6 (fun b hb e => by
    injection hb with hb
    rw [← hve] at e
    exact h.ts.row0 i hi (e.trans (by rw [← hb])))
  refine ⟨hg6, hrow, ?_, hrow.frozenAt i⟩
  have := hrow.cells (g := g) rfl i ve (by rw [← hve, List.getD_eq_getElem?_getD, List.getElem?_eq_getElem (by rw [h.ts.lv]; exact hi)]; rfl)
  rwa [addr_add_zero] at this

theorem grown_new {w0 w1 w2 : World} {g : Nat} {row : Option Nat} (h1 : w0.grownBy w1 (some g)) (h2 : w1.grownBy w2 row) (hr : ∀ b, row = some b → w0.heap.size ≤ b) : w0.grownBy w2 (some g) :=
  ⟨h2.os.trans h1.os, h2.tape.trans h1.tape, h2.output.trans h1.output, Nat.le_trans h1.size h2.size, fun k hk hne => (h2.block k (Nat.lt_of_lt_of_le hk h1.size) (fun e => by have := hr k e.symm; omega)).trans (h1.block k hk hne)⟩

theorem step_appQ {P : Program} {w : World} {ops : Array Oper} {o : Oper} {a : Act} {K : Act → World → Prop} {Q : Exit → Act → World → Prop} {X : Prop} {t e : TypeId} {z : Value} {bytes : Nat} (T : SlT P t e z 1 bytes) (hgd : o.guard = none) (s y : Operand)
    (ho : o.op = .call { callee := .builtin .append, args := #[s, y], argTypes := #[t, t] })
    (B : Nat) (v : Value) (es : List Value) (ad : Addr) (c : Nat) (x : Value) (hs : a.eval s = v) (hown : QRow w B e v es) (hy : a.eval y = .slice (some ad) 1 c)
    (hcell : w.cell? ad = some x) (h1 : x.oneCell' = true) (hsmall : es.length + 1 ≤ 1099511627776) (hbase : B ≤ w.heap.size)
    (h : ∀ v' w', QRow w' B e v' (es ++ [x]) → w.grownBy w' v.ownBlock → (v'.ownBlock = v.ownBlock ∨ v'.ownBlock = some w.heap.size) → K (a.put o.dst v') w') :
    if Region.wanted o (yielded ops a.tmps) = true then Oper.wp P o a w K Q else X := by
  have hw : Region.wanted o (yielded ops a.tmps) = true := by simp [Region.wanted, hgd]
  rw [if_pos hw]
  obtain ⟨v', w', hr, h2, h3, h4⟩ := run_app_q (P := P) w T B o.type v es hown ad 1 c [x] rfl (fun j u hu => by
    cases j with
    | zero => simp at hu; subst hu; rw [Addr.add_zero']; exact hcell
    | succ j => simp at hu) (by simpa using h1) hsmall hbase
  unfold Oper.wp execOp
  simp only [ho, resolve, invoke, builtin, Sem.run_bind, Sem.run_pure, Result.andThen_ok, List.map_toArray, List.map_cons, List.map_nil, hs, hy, hr]
  exact h v' w' h2 h3 h4

/-- What the merging function does. -/
structure Fv {α : Type} (Ok : World → α → Value → Prop) (mrg : List α → α) (sz : α → Nat) (Pre : List α → Prop) (F mb : Nat) : Prop where
  call : ∀ (w : World) (r n c : Nat) (xs : List α) (es : List Value) (s : Nat), es.length = n → 0 < n → n ≤ 8 → n ≤ c → (∀ j u, es[j]? = some u → w.cell? ⟨r, j, none⟩ = some u) → r < w.heap.size → r ≠ mb → All2 (Ok w) xs es → (∀ u ∈ es, u.ownBlock ≠ some mb) → Pre xs → MB w mb s → s + sz (mrg xs) ≤ 1000000 →
    Calls Try.prog F #[.slice (some ⟨r, 0, none⟩) n c, .pointer (some ⟨mb, 0, none⟩)] w fun e w' => ∃ v', e = .returned v' ∧ Ok w' (mrg xs) v' ∧ MB w' mb (s + sz (mrg xs)) ∧ w.grownBy w' (some mb) ∧ ∀ b, v'.ownBlock = some b → w.heap.size ≤ b

/-- The end of all phases. -/
def PolyE {α : Type} (Ok : World → α → Value → Prop) (w : World) (B mb P S : Nat) (R : List (List α)) (e : Ending) (w' : World) : Prop :=
  ∃ (v : Value) (x : α), e = .returned (.tuple #[v, .int .i64 (P : Nat)]) ∧ R.flatten = [x] ∧ Ok w' x v ∧ MB w' mb S ∧ Below B w w'
end Go.Proofs.Ytcdfinkefahloaa

namespace Go.Proofs.Ytcdfinkefahloaa
open Go.RowKit
set_option linter.unusedVariables false

section
variable {α : Type} {Ok : World → α → Value → Prop} {w w' w1 : World} {B : Nat} {tt e : TypeId} {g k c mb s : Nat} {vs : List Value} {es : List (List Value)} {Q : List (List α)}
theorem TS.upd (E : ElOk Ok) {row : Option Nat} (h : TS Ok w B tt e g k c vs es Q) {i : Nat} (hi : i < k) {v' : Value} {es' : List Value} {qs' : List α} (hg1 : w.grownBy w1 row) (hrow : ∀ b, row = some b → (vs.getD i undef).ownBlock = some b) (hv : QRow w1 B e v' es')
    (ht : v'.ownBlock = (vs.getD i undef).ownBlock ∨ ∀ b, v'.ownBlock = some b → w.heap.size ≤ b) (hel : All2 (Ok w1) qs' es') (hef : ∀ x ∈ es', ∀ b, x.ownBlock = some b → b < w.heap.size ∧ b ≠ g ∧ ∀ j, j < k → (vs.getD j undef).ownBlock ≠ some b)
    (ho : w'.ownsRow B tt 1 (.slice (some ⟨g, 0, none⟩) k c) k (vs.set i v')) (hg : w1.grownBy w' (some g)) : TS Ok w' B tt e g k c (vs.set i v') (es.set i es') (Q.set i qs') := by
  have hl := h.lv
  obtain ⟨l1, l2, l3⟩ := h.lt E
  have gv : ∀ j, (vs.set i v').getD j undef = if j = i then v' else vs.getD j undef := fun j => getD_set' (by omega)
  have ge : ∀ j, (es.set i es').getD j [] = if j = i then es' else es.getD j [] := fun j => getD_set' (by have := h.le; omega)
  have gq : ∀ j, (Q.set i qs').getD j [] = if j = i then qs' else Q.getD j [] := fun j => getD_set' (by have := h.lq; omega)
  have hne : ∀ b, b < w.heap.size → (vs.getD i undef).ownBlock ≠ some b → v'.ownBlock ≠ some b := fun b hb hn e1 => by
    rcases ht with h1 | h1
    · exact hn (by rw [← h1]; exact e1)
    · have := h1 b e1; omega
  have hgg : (vs.getD i undef).ownBlock ≠ some g := h.row0 i hi
  refine ⟨ho, by rw [List.length_set, h.le], by rw [List.length_set, h.lq], fun j hj => ?_, fun a b d ha hb hab h1 => ?_, fun j hj => ?_, fun j hj => ?_, fun j hj u hu b hb => ?_⟩
  · rw [gv, ge]
    by_cases e1 : j = i
    · rw [if_pos e1, if_pos e1]
      exact hv.kept hg (fun b hb e2 => by injection e2 with e2; subst e2; exact hne _ l1 hgg hb)
    · rw [if_neg e1, if_neg e1]
      refine ((h.q j hj).kept hg1 (fun b hb e2 => ?_)).kept hg (fun b hb e2 => by injection e2 with e2; subst e2; exact h.row0 j hj hb)
      exact h.far i j b hi hj (fun e => e1 e.symm) (hrow b e2) hb
  · rw [gv] at h1 ⊢
    by_cases e1 : a = i
    · rw [if_pos e1] at h1
      have e2 : ¬ b = i := fun e => hab (e1.trans e.symm)
      rw [if_neg e2]
      intro h2
      refine hne d (l2 b hb d h2).2 (fun h3 => ?_) h1
      exact h.far i b d hi hb (fun e => e2 e.symm) h3 h2
    · rw [if_neg e1] at h1
      by_cases e2 : b = i
      · rw [if_pos e2]
        exact hne d (l2 a ha d h1).2 (fun h3 => h.far a i d ha hi e1 h1 h3)
      · rw [if_neg e2]
        exact h.far a b d ha hb hab h1
  · rw [gv]
    by_cases e1 : j = i
    · rw [if_pos e1]; exact hne g l1 hgg
    · rw [if_neg e1]; exact h.row0 j hj
  · rw [gq, ge]
    by_cases e1 : j = i
    · rw [if_pos e1, if_pos e1]
      exact hel.imp (fun x v hv2 hok => E.kept hok hg (fun b hb e2 => (hef v hv2 b hb).2.1 (by injection e2 with e2; exact e2.symm)))
    · rw [if_neg e1, if_neg e1]
      exact (h.el j hj).imp (fun x v hv2 hok => E.kept (E.kept hok hg1 (fun b hb e2 => (h.elf j hj v hv2 b hb).2 i hi (hrow b e2))) hg (fun b hb e2 => (h.elf j hj v hv2 b hb).1 (by injection e2 with e2; exact e2.symm)))
  · have hold : b < w.heap.size ∧ b ≠ g ∧ ∀ j, j < k → (vs.getD j undef).ownBlock ≠ some b := by
      rw [ge] at hu
      by_cases e1 : j = i
      · rw [if_pos e1] at hu; exact hef u hu b hb
      · rw [if_neg e1] at hu
        exact ⟨l3 j hj u hu b hb, (h.elf j hj u hu b hb).1, (h.elf j hj u hu b hb).2⟩
    refine ⟨hold.2.1, fun j2 hj2 => ?_⟩
    rw [gv]
    by_cases e1 : j2 = i
    · rw [if_pos e1]; exact hne b hold.1 (hold.2.2 i hi)
    · rw [if_neg e1]; exact hold.2.2 j2 hj2
theorem TM.upd (E : ElOk Ok) {row : Option Nat} (h : TM Ok w B tt e g k c mb s vs es Q) {i : Nat} (hi : i < k) {v' : Value} {es' : List Value} {qs' : List α} (hg1 : w.grownBy w1 row) (hrow : ∀ b, row = some b → (vs.getD i undef).ownBlock = some b) (hv : QRow w1 B e v' es')
    (ht : v'.ownBlock = (vs.getD i undef).ownBlock ∨ ∀ b, v'.ownBlock = some b → w.heap.size ≤ b) (hel : All2 (Ok w1) qs' es') (hef : ∀ x ∈ es', ∀ b, x.ownBlock = some b → b < w.heap.size ∧ FarT g k vs es b ∧ b ≠ mb ∨ b < w.heap.size ∧ b ≠ mb ∧ b ≠ g ∧ ∀ j, j < k → (vs.getD j undef).ownBlock ≠ some b)
    (ho : w'.ownsRow B tt 1 (.slice (some ⟨g, 0, none⟩) k c) k (vs.set i v')) (hg : w1.grownBy w' (some g)) : TM Ok w' B tt e g k c mb s (vs.set i v') (es.set i es') (Q.set i qs') := by
  have hml := h.mo.lt
  have hef2 : ∀ x ∈ es', ∀ b, x.ownBlock = some b → b < w.heap.size ∧ b ≠ mb ∧ b ≠ g ∧ ∀ j, j < k → (vs.getD j undef).ownBlock ≠ some b := fun x hx b hb => by
    rcases hef x hx b hb with h1 | h1
    · exact ⟨h1.1, h1.2.2, h1.2.1.1, h1.2.1.2.1⟩
    · exact h1
  refine ⟨h.ts.upd E hi hg1 hrow hv ht hel (fun x hx b hb => ⟨(hef2 x hx b hb).1, (hef2 x hx b hb).2.2.1, (hef2 x hx b hb).2.2.2⟩) ho hg, ⟨h.far.1, fun j hj => ?_, fun j hj u hu => ?_⟩, (h.mo.grown hg1 (fun e => h.far.2.1 i hi (hrow mb e))).grown hg (fun e => h.far.1 (by injection e with e; exact e.symm))⟩
  · rw [getD_set' (by rw [h.ts.lv]; exact hi)]
    by_cases e1 : j = i
    · rw [if_pos e1]
      rcases ht with h1 | h1
      · rw [h1]; exact h.far.2.1 i hi
      · intro e2; have := h1 mb e2; omega
    · rw [if_neg e1]; exact h.far.2.1 j hj
  · rw [getD_set' (by rw [h.ts.le]; exact hi)] at hu
    by_cases e1 : j = i
    · rw [if_pos e1] at hu
      intro e2; exact (hef2 u hu mb e2).2.1 rfl
    · rw [if_neg e1] at hu
      exact h.far.2.2 j hj u hu
theorem All2.append {R : α → Value → Prop} {xs ys : List α} {us vs : List Value} (h1 : All2 R xs us) (h2 : All2 R ys vs) : All2 R (xs ++ ys) (us ++ vs) := by
  refine ⟨by simp [h1.1, h2.1], fun j x v hx hv => ?_⟩
  by_cases hj : j < xs.length
  · rw [List.getElem?_append_left hj] at hx
    rw [List.getElem?_append_left (by have := h1.1; omega)] at hv
    exact h1.2 j x v hx hv
  · rw [List.getElem?_append_right (by omega)] at hx
    rw [List.getElem?_append_right (by have := h1.1; omega)] at hv
    rw [h1.1] at hx
    exact h2.2 _ x v hx hv
end

theorem step_appQn {P : Program} {w : World} {ops : Array Oper} {o : Oper} {a : Act} {K : Act → World → Prop} {Q : Exit → Act → World → Prop} {X : Prop} {t e : TypeId} {z : Value} {bytes : Nat} (T : SlT P t e z 1 bytes) (hgd : o.guard = none) (s y : Operand)
    (ho : o.op = .call { callee := .builtin .append, args := #[s, y], argTypes := #[t, t] })
    (B : Nat) (v : Value) (es : List Value) (ad : Addr) (m c : Nat) (news : List Value) (hs : a.eval s = v) (hown : QRow w B e v es) (hy : a.eval y = .slice (some ad) m c) (hl : news.length = m)
    (hcells : ∀ j u, news[j]? = some u → w.cell? (ad.add j) = some u) (h1 : ∀ u ∈ news, u.oneCell' = true) (hsmall : es.length + m ≤ 1099511627776) (hbase : B ≤ w.heap.size)
    (h : ∀ v' w', QRow w' B e v' (es ++ news) → w.grownBy w' v.ownBlock → (v'.ownBlock = v.ownBlock ∨ v'.ownBlock = some w.heap.size) → K (a.put o.dst v') w') :
    if Region.wanted o (yielded ops a.tmps) = true then Oper.wp P o a w K Q else X := by
  have hw : Region.wanted o (yielded ops a.tmps) = true := by simp [Region.wanted, hgd]
  rw [if_pos hw]
  obtain ⟨v', w', hr, h2, h3, h4⟩ := run_app_q (P := P) w T B o.type v es hown ad m c news hl hcells h1 hsmall hbase
  unfold Oper.wp execOp
  simp only [ho, resolve, invoke, builtin, Sem.run_bind, Sem.run_pure, Result.andThen_ok, List.map_toArray, List.map_cons, List.map_nil, hs, hy, hr]
  exact h v' w' h2 h3 h4
/-- Empty tapes. -/
theorem ts_empty {α : Type} {Ok : World → α → Value → Prop} {w : World} {B : Nat} {tt e : TypeId} {g k c : Nat} (h : w.ownsRow B tt 1 (.slice (some ⟨g, 0, none⟩) k c) k (List.replicate k (.slice none 0 0))) : TS Ok w B tt e g k c (List.replicate k (.slice none 0 0)) (List.replicate k []) (List.replicate k []) := by
  have hv : ∀ i, i < k → (List.replicate k (Value.slice none 0 0)).getD i undef = .slice none 0 0 := fun i hi => by
    rw [List.getD_eq_getElem?_getD, List.getElem?_replicate, if_pos hi]; rfl
  have he : ∀ (β : Type) i, (List.replicate k ([] : List β)).getD i [] = [] := fun β i => by
    rw [List.getD_eq_getElem?_getD, List.getElem?_replicate]
    by_cases hi : i < k
    · rw [if_pos hi]; rfl
    · rw [if_neg hi]; rfl
  refine ⟨h, by simp, by simp, fun i hi => ?_, fun i j b hi hj hij h1 => ?_, fun i hi h1 => ?_, fun i hi => ?_, fun i hi x hx => ?_⟩
  · rw [hv i hi, he]; exact .inl ⟨rfl, rfl⟩
  · rw [hv i hi] at h1; cases h1
  · rw [hv i hi] at h1; cases h1
  · rw [he, he]; exact All2.nil
  · rw [he] at hx; cases hx
end Go.Proofs.Ytcdfinkefahloaa

namespace Go.Proofs.Ytcdfinkefahloaa
open Go.RowKit
set_option linter.unusedVariables false

section
variable {α : Type} {Ok : World → α → Value → Prop} {w w' : World} {B : Nat} {tt e : TypeId} {g k c L : Nat} {vs : List Value} {es : List (List Value)} {Q : List (List α)}
theorem TS.ltT (E : ElOk Ok) (h : TS Ok w B tt e g k c vs es Q) : LT w.heap.size g k g vs es := by
  obtain ⟨h1, h2, h3⟩ := h.lt E
  exact ⟨h1, h1, fun i hi b hb => (h2 i hi b hb).2, h3⟩
theorem TS.keptL (E : ElOk Ok) {row : Option Nat} (h : TS Ok w B tt e g k c vs es Q) (hL : LT L g k g vs es) (hg : w.grownBy w' row) (hr : ∀ b, row = some b → L ≤ b) : TS Ok w' B tt e g k c vs es Q := h.kept E hg (fun b hb => (hL.far (hr b hb)).1)
theorem TS.head (E : ElOk Ok) (h : TS Ok w B tt e g k c vs es Q) (hL : LT L g k g vs es) {i : Nat} (hi : i < k) (hne : Q.getD i [] ≠ []) : ∃ (y : α) (qt : List α) (x : Value) (et : List Value) (gb off cap : Nat), Q.getD i [] = y :: qt ∧ es.getD i [] = x :: et ∧ vs.getD i undef = .slice (some ⟨gb, off, none⟩) (et.length + 1) (cap + 1) ∧ et.length ≤ cap ∧ cap + 1 ≤ maxLen ∧
    w.cell? ⟨gb, off, none⟩ = some x ∧ Ok w y x ∧ (∀ b, x.ownBlock = some b → b < L ∧ b ≠ g ∧ b ≠ g) ∧ w.cell? ⟨g, i, none⟩ = some (.slice (some ⟨gb, off, none⟩) (et.length + 1) (cap + 1)) ∧ gb ≠ g ∧ gb < L := by
  cases hq : Q.getD i [] with
  | nil => exact absurd hq hne
  | cons y qt =>
    have hel := h.el i hi
    rw [hq] at hel
    cases hes : es.getD i [] with
    | nil => rw [hes] at hel; have := hel.1; simp at this
    | cons x et =>
      rw [hes] at hel
      obtain ⟨gb, off, cap, hv, hle, hm, hc⟩ := (h.q i hi).at (by rw [hes]; simp)
      rw [hes] at hle hc hv
      simp only [List.length_cons] at hle hv
      obtain ⟨cap', rfl⟩ : ∃ c', cap = c' + 1 := ⟨cap - 1, by omega⟩
      have hcell := h.cellAt hi
      have hx : x ∈ es.getD i [] := by rw [hes]; simp
      exact ⟨y, qt, x, et, gb, off, cap', rfl, rfl, hv, by omega, hm, by have := hc 0 x rfl; rwa [Nat.add_zero] at this, hel.head.1, fun b hb => ⟨hL.2.2.2 i hi x hx b hb, (h.elf i hi x hx b hb).1, (h.elf i hi x hx b hb).1⟩, by rw [hcell, hv], fun e2 => h.row0 i hi (by rw [hv, e2]; rfl), hL.2.2.1 i hi gb (by rw [hv]; rfl)⟩
theorem TS.appd {w6 W2 w8 : World} {i : Nat} {ve : Value} (h : TS Ok w6 B tt e g k c vs es Q) (hi : i < k) (hve : vs.getD i undef = ve) (hb : Below w6.heap.size w6 W2) (hg : W2.grownBy w8 ve.ownBlock) :
    w6.grownBy w8 ve.ownBlock ∧ w8.ownsRow B tt 1 (.slice (some ⟨g, 0, none⟩) k c) k vs ∧ w8.cell? ⟨g, i, none⟩ = some ve ∧ w8.frozen? ⟨g, i, none⟩ = false := by
  have hg6 := grown_trans (grown_of_below (row := ve.ownBlock) hb) hg
  have hrow := own_other h.row hg6 (fun b hb e => by
    injection hb with hb
    rw [← hve] at e
    exact h.row0 i hi (e.trans (by rw [← hb])))
  refine ⟨hg6, hrow, ?_, hrow.frozenAt i⟩
  have := hrow.cells (g := g) rfl i ve (by rw [← hve, List.getD_eq_getElem?_getD, List.getElem?_eq_getElem (by rw [h.lv]; exact hi)]; rfl)
  rwa [addr_add_zero] at this
end
end Go.Proofs.Ytcdfinkefahloaa

