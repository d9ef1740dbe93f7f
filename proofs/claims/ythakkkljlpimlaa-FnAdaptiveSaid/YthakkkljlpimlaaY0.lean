/- Several texts in one: lemmas and walks of the functions that the laws reach. -/
import Derived.Test.YthakkkljlpimlaaRows
import Derived.WalkKit
import Derived.WalkSpells
import Derived.WalkLawsBesides
import Derived.BigQuiet
import Derived.Deep.QuietTactic
import Derived.Lib.Hide
import Derived.StillTailTactics
import Derived.Laws.CopyRow
import Derived.Deep.RegionHeld3
import Derived.Deep.AppendLies
import Derived.Deep.DrawnRows
import Derived.Lib.AppendZeros
import Derived.Lib.AppendZerosOnto

/- General lemmas on worlds and slices, no program in sight. -/
namespace Go.Proofs.Ythakkkljlpimlaa
open Go.RowKit
set_option linter.unusedVariables false

def IntsAt (w : World) (a : Option Addr) (zs : List Int) : Prop :=
  zs = [] ∨ ∃ b off, a = some ⟨b, off, none⟩ ∧ b < w.heap.size ∧ ∀ j, j < zs.length → w.cell? ⟨b, off + j, none⟩ = some (.int .i64 (zs.getD j 0))

theorem IntsAt.at {w : World} {a : Option Addr} {zs : List Int} (h : IntsAt w a zs) {k : Nat} (hk : k < zs.length) :
    ∃ b off, a = some ⟨b, off, none⟩ ∧ w.cell? ⟨b, off + k, none⟩ = some (.int .i64 (zs.getD k 0)) := by
  rcases h with rfl | ⟨b, off, h1, _, h2⟩
  · simp at hk
  · exact ⟨b, off, h1, h2 k hk⟩

theorem IntsAt.below {w w' : World} {B : Nat} {a : Option Addr} {zs : List Int} (h : IntsAt w a zs) (hB : w.heap.size ≤ B) (hb : Below B w w') : IntsAt w' a zs := by
  rcases h with h | ⟨b, off, h1, h0, h2⟩
  · exact .inl h
  · refine .inr ⟨b, off, h1, by have := hb.size; omega, fun j hj => ?_⟩
    rw [hb.cell (p := ⟨b, off + j, none⟩) (by show b < B; omega)]; exact h2 j hj

theorem IntsAt.nil (w : World) (a : Option Addr) : IntsAt w a [] := .inl rfl

/-- What comes in: the cells up to the capacity; the first 'len' are the elements. -/
theorem ints_of_row {w : World} {x : Addr} {len : Nat} {zs : List Int} (hl : len ≤ zs.length) (hc : ∀ i, i < zs.length → w.cell? (x.add i) = some (.int .i64 (zs.getD i 0))) : IntsAt w (some x) (zs.take len) := by
  by_cases h0 : len = 0
  · subst h0; exact .inl (by simp)
  · obtain ⟨b, off, spot⟩ := x
    have hc0 := hc 0 (by omega)
    have hs : spot = none := by simpa [Addr.add] using World.cell?_spot hc0
    subst hs
    refine .inr ⟨b, off, rfl, World.block_lt_of_cell? w _ (by simpa [Addr.add] using hc0), fun j hj => ?_⟩
    have hj' : j < len := by simp at hj; omega
    have := hc j (by omega)
    have e : (⟨b, off, none⟩ : Addr).add j = ⟨b, off + j, none⟩ := by unfold Addr.add; split <;> simp_all
    rw [e] at this
    rw [this]
    simp [List.getD, hj']

/-- What is owned can be read. -/
theorem ints_of_own {w : World} {base : Nat} {e : TypeId} {a : Option Addr} {n c : Nat} {zs : List Int} (h : w.ownsRow base e 1 (.slice a n c) n (zs.map (Value.int .i64))) : IntsAt w a zs := by
  obtain ⟨h1, h2⟩ := h
  rcases h2 with ⟨h2, h3⟩ | ⟨g, cap, cur, hv, _, hg, hn, hc, hs, ht⟩
  · refine .inl ?_
    subst h3; simpa using h1
  · simp only [Value.slice.injEq] at hv
    obtain ⟨rfl, _, rfl⟩ := hv
    refine .inr ⟨g, 0, rfl, (Array.getElem?_eq_some_iff.1 hg).1, fun j hj => ?_⟩
    have hx : (zs.map (Value.int .i64))[j]? = some (.int .i64 (zs.getD j 0)) := by simp [List.getD, List.getElem?_eq_getElem hj]
    rw [← ht, List.getElem?_take] at hx
    split at hx
    · simp [World.cell?, hg]
      simpa using hx
    · cases hx

theorem own_slice {w : World} {base : Nat} {e : TypeId} {size n : Nat} {v : Value} {xs : List Value} (h : w.ownsRow base e size v n xs) : ∃ a c, v = .slice a n c := by
  rcases h.2 with ⟨h2, h3⟩ | ⟨g, cap, cur, hv, _⟩
  · subst h3; exact ⟨_, _, h2⟩
  · exact ⟨_, _, hv⟩

theorem own_below {B : Nat} {e : TypeId} {k : Nat} {v : Value} {n : Nat} {xs : List Value} {w w' : World} {S : Nat} (h : w.ownsRow B e k v n xs) (hS : w.heap.size ≤ S) (hb : Below S w w') : w'.ownsRow B e k v n xs := by
  refine ⟨h.1, ?_⟩
  rcases h.2 with h2 | ⟨g, cap, cur, hv, hg, hh, r⟩
  · exact .inl h2
  · refine .inr ⟨g, cap, cur, hv, hg, ?_, r⟩
    rw [hb.block g (by have := (Array.getElem?_eq_some_iff.1 hh).1; omega)]; exact hh

/-- A store into a row that was made whole. -/
theorem below_store {B : Nat} {a w : World} (h : Below B a w) {p : Addr} (hp : B ≤ p.block) (u : Value) : Below B a (w.setCell p u) := h.setCell hp u

theorem ret_bool {a b : Bool} (h : a = b) : Ending.returned (.bool a) = .returned (.bool b) := by rw [h]
theorem ret_int {a b : Int} (h : a = b) : Ending.returned (.int .i64 a) = .returned (.int .i64 b) := by rw [h]
theorem ret_int_bool {a b : Int} {c d : Bool} (h : a = b) (k : c = d) : Ending.returned (.tuple #[.int .i64 a, .bool c]) = .returned (.tuple #[.int .i64 b, .bool d]) := by rw [h, k]
theorem ret_bool2 {a b : Bool} {c d : Bool} (h : a = b) (k : c = d) : Ending.returned (.tuple #[.bool a, .bool c]) = .returned (.tuple #[.bool b, .bool d]) := by rw [h, k]

end Go.Proofs.Ythakkkljlpimlaa

/- General lemmas on append and make, no program in sight: what is appended to a list of the call's own, and which block it then lies in. -/
namespace Go.Proofs.Ythakkkljlpimlaa
open Go.RowKit
set_option linter.unusedVariables false

/-- What is known of a slice type and its element's type. -/
structure SlT (P : Program) (t e : TypeId) (z : Value) (size bytes : Nat) : Prop where
  und : P.underlying t = some (.slice e)
  info : ∃ i, P.info? e = some i ∧ i.zero = some z ∧ i.size = size ∧ i.bytes = bytes
  cells : z.cells.size = size
  pos : 0 < size
  small : bytes ≤ 128

theorem run_app_tag {P : Program} (w : World) {t e : TypeId} {z : Value} {size bytes : Nat} (T : SlT P t e z size bytes) (base : Nat) (ty : TypeId)
    (v : Value) (n : Nat) (xs : List Value) (hown : w.ownsRow base e size v n xs)
    (a : Addr) (m c : Nat) (news : List Value) (hl : news.length = m * size) (hnews : ∀ j u, news[j]? = some u → w.cell? (a.add j) = some u) (h1 : ∀ u ∈ news, u.oneCell' = true)
    (hsmall : n + m ≤ 1099511627776) (hbase : base ≤ w.heap.size) :
    ∃ v' w', (Builtin.append_ #[t, t] ty #[v, .slice (some a) m c]).run P w = .ok v' w' ∧ w'.ownsRow base e size v' (n + m) (xs ++ news) ∧ w.grownBy w' v.ownBlock ∧
      (v'.ownBlock = v.ownBlock ∨ v'.ownBlock = some w.heap.size) := by
  obtain ⟨i, hi, hz, hs, hby⟩ := T.info
  have hb47 : (n + m) * bytes ≤ 140737488355328 := by
    have := Nat.mul_le_mul hsmall T.small
    omega
  have hml : n + m ≤ maxLen := by unfold maxLen; omega
  obtain ⟨v', w', hr, g1, g2, g3⟩ := run_append_own (P := P) w base t ty e i z size bytes T.und hi hz hs hby T.cells T.pos v n xs hown a m c news hl hnews h1 hml hb47 hbase
  refine ⟨v', w', hr, g1, g2, ?_⟩
  subst hs
  rcases hown.2 with ⟨hv, hn⟩ | ⟨g, cap, cur, hv, _, hg, hnc, hcm, hcs, htake⟩
  · subst hn
    by_cases hm : m = 0
    · left; rw [g3.2 ⟨hv, hm⟩, hv]
    · right
      have h47 : m * i.bytes ≤ 281474976710656 := by rw [hby]; simp at hb47; omega
      have hq := run_append_nil (P := P) w t ty e i z T.und hi hz a m c news hl hnews (by omega) (by unfold maxLen at hml; omega) h47
      rw [hv] at hr
      rw [hr] at hq
      injection hq with e1 _
      rw [e1]; rfl
  · by_cases hroom : n + m ≤ cap
    · left
      have hfit : n * i.size + news.length ≤ cur.size := by rw [hl, hcs, ← Nat.add_mul]; exact Nat.mul_le_mul_right _ hroom
      have hq := run_append_room (P := P) w t ty e i T.und hi g n cap cur hg a m c news hl hnews h1 hroom hfit
      rw [hv] at hr
      rw [hr] at hq
      injection hq with e1 _
      rw [e1, hv]; rfl
    · right
      have holds : ∀ j u, xs[j]? = some u → w.cell? ((⟨g, 0, none⟩ : Addr).add j) = some u := hown.cells (g := g) (by rw [hv]; rfl)
      have hq := run_append_grow (P := P) w t ty e i z T.und hi hz ⟨g, 0, none⟩ n cap xs hown.1 holds a m c news hl hnews (by omega) (by unfold maxLen at hml; omega) (growslice_fits (by omega) (by rw [hby]; exact hb47))
      rw [hv] at hr
      rw [hr] at hq
      injection hq with e1 _
      rw [e1]; rfl

theorem grownBy_pre {w w' : World} {o : Obj} {row : Option Nat} (h : (w.alloc o).grownBy w' row) : w.grownBy w' row :=
  ⟨h.os, h.tape, h.output, Nat.le_trans (by simp) h.size, fun k hk hne => (h.block k (by simp; omega) hne).trans (Below.heap_alloc w o k hk)⟩

theorem addr_add_zero (g j : Nat) : (⟨g, 0, none⟩ : Addr).add j = ⟨g, j, none⟩ := by unfold Addr.add; split <;> simp_all

theorem cells_new (w : World) (news : List Value) (e : TypeId) : ∀ j u, news[j]? = some u → (w.alloc (.cells news.toArray e)).cell? ((⟨w.heap.size, 0, none⟩ : Addr).add j) = some u := by
  intro j u hu
  rw [addr_add_zero, cell_of_row _ w.heap.size j news.toArray e (0, 0) (heap_alloc_new w _)]
  simpa using hu

/-- 'append(s, x)', x one element that was just laid in a block of its own. -/
theorem wpList_app1 {P : Program} {w0 : World} {ops : Array Oper} {rest : List Oper} {o : Oper} {a : Act} {Q : Exit → Act → World → Prop} {t e : TypeId} {z : Value} {size bytes : Nat} (T : SlT P t e z size bytes)
    (hgd : o.guard = none) (s y : Operand) (ho : o.op = .call { callee := .builtin .append, args := #[s, y], argTypes := #[t, t] })
    {base : Nat} {v : Value} {n : Nat} {xs : List Value} (hs : a.eval s = v) (hown : w0.ownsRow base e size v n xs) (news : List Value) (hl : news.length = size)
    {b : Nat} (hx : a.eval y = .slice (some ⟨b, 0, none⟩) 1 1) (hb : w0.heap.size = b) (h1 : ∀ u ∈ news, u.oneCell' = true) (hsmall : n + 1 ≤ 1099511627776) (hbase : base ≤ w0.heap.size)
    (h : ∀ v' w', w'.ownsRow base e size v' (n + 1) (xs ++ news) → w0.grownBy w' v.ownBlock → (v'.ownBlock = v.ownBlock ∨ v'.ownBlock = some (w0.heap.size + 1)) → wpList P ops Q rest (a.put o.dst v') w') :
    wpList P ops Q (o :: rest) a (w0.alloc (.cells news.toArray e)) := by
  subst hb
  refine wpList_plain hgd fun K hK => ?_
  obtain ⟨v', w', hr, h2, h3, h4⟩ := run_app_tag (P := P) (w0.alloc (.cells news.toArray e)) T base o.type v n xs (hown.alloc _) ⟨w0.heap.size, 0, none⟩ 1 1 news (by omega) (cells_new w0 news e) h1 hsmall (by simp; omega)
  unfold Oper.wp execOp
  simp only [ho, resolve, invoke, builtin, Sem.run_bind, Sem.run_pure, Result.andThen_ok, List.map_toArray, List.map_cons, List.map_nil, hs, hx, hr]
  exact hK _ _ (h v' w' h2 (grownBy_pre h3) (by simpa using h4))

/-- 'make([]T, n)'. -/
theorem wpList_mk {P : Program} {w : World} {ops : Array Oper} {rest : List Oper} {o : Oper} {a : Act} {Q : Exit → Act → World → Prop} {t e : TypeId} {z : Value} {size bytes : Nat} (T : SlT P t e z size bytes)
    (hg : o.guard = none) (l c : Operand) (hop : o.op = Op.makeSlice t l c) (n : Nat) (hl : a.eval l = .int .i64 n) (hc : a.eval c = .int .i64 n) (hn : n ≤ 1099511627776)
    (hK : ∀ w', w'.ownsRow w.heap.size e size (.slice (some ⟨w.heap.size, 0, none⟩) n n) n (madeCells z.cells (n * size)).toList → Below w.heap.size w w' → w.heap.size < w'.heap.size → wpList P ops Q rest (a.put o.dst (.slice (some ⟨w.heap.size, 0, none⟩) n n)) w') :
    wpList P ops Q (o :: rest) a w := by
  obtain ⟨i, hi, hz, hs, hby⟩ := T.info
  refine wpList_make_full w hg l c t hop w.heap.size e i z size T.und hi hz hs .i64 .i64 n n n hl hc rfl rfl ?_ (by unfold maxLen; omega) (Nat.le_refl _) ?_
  · rw [hby]
    have := Nat.mul_le_mul T.small hn
    omega
  · intro w' h1 h2
    refine hK w' h1 ((Below.refl _ _).grown h2 (Nat.le_refl _) (fun k hk => by cases hk)) ?_
    exact (h1.lt w.heap.size rfl).2

/-- Behind 'append': what lies below is as it was. -/
theorem below_app {B : Nat} {w0 w w' : World} {v : Value} {base : Nat} {e : TypeId} {size n : Nat} {xs : List Value} (h : Below B w0 w) (hB : B ≤ w.heap.size) (hown : w.ownsRow base e size v n xs) (hbase : B ≤ base) (hg : w.grownBy w' v.ownBlock) : Below B w0 w' :=
  h.grown hg hB (fun k hk => Nat.le_trans hbase (hown.lt k hk).1)

/-- What another list owns is kept by an append, where the blocks are two. -/
theorem own_other {w w' : World} {base : Nat} {e : TypeId} {size n : Nat} {u : Value} {ys : List Value} {row : Option Nat} (h : w.ownsRow base e size u n ys) (hg : w.grownBy w' row) (hne : ∀ k, u.ownBlock = some k → row ≠ some k) : w'.ownsRow base e size u n ys := by
  refine h.kept hg ?_
  cases hu : u.ownBlock with
  | none => exact .inl rfl
  | some k => right; intro e; exact hne k hu e.symm

/-- A new list of literal elements. -/
theorem own_lit {w : World} {e : TypeId} {size : Nat} (cs : Array Value) (n : Nat) (hm : n ≤ 1099511627776) (hs : cs.size = n * size) :
    (w.alloc (.cells cs e)).ownsRow w.heap.size e size (.slice (some ⟨w.heap.size, 0, none⟩) n n) n cs.toList :=
  World.ownsRow_lit w cs n (Nat.le_refl _) (by unfold maxLen; omega) hs

theorem own_mono {w : World} {base base' : Nat} {e : TypeId} {size : Nat} {v : Value} {n : Nat} {xs : List Value} (h : w.ownsRow base e size v n xs) (hb : base' ≤ base) : w.ownsRow base' e size v n xs :=
  ⟨h.1, h.2.imp id fun ⟨g, cap, cur, hv, hg, r⟩ => ⟨g, cap, cur, hv, Nat.le_trans hb hg, r⟩⟩

end Go.Proofs.Ythakkkljlpimlaa

/- General lemmas on lists of structs laid flat, no program in sight. -/
namespace Go.Proofs.Ythakkkljlpimlaa
open Go.RowKit
set_option linter.unusedVariables false

/-- Elements of several cells, one behind the other. -/
def flat {α : Type} (enc : α → List Value) (rs : List α) : List Value := rs.flatMap enc

theorem flat_append {α : Type} (enc : α → List Value) (rs qs : List α) : flat enc (rs ++ qs) = flat enc rs ++ flat enc qs := by simp [flat]
theorem flat_one {α : Type} (enc : α → List Value) (r : α) : flat enc [r] = enc r := by simp [flat]
theorem flat_nil {α : Type} (enc : α → List Value) : flat enc [] = [] := rfl
theorem flat_length {α : Type} {enc : α → List Value} {S : Nat} (hS : ∀ r, (enc r).length = S) (rs : List α) : (flat enc rs).length = rs.length * S := by
  induction rs with
  | nil => simp [flat]
  | cons r t ih =>
    have : flat enc (r :: t) = enc r ++ flat enc t := rfl
    rw [this, List.length_append, ih, hS]; simp [Nat.add_mul]; omega

theorem flat_get {α : Type} {enc : α → List Value} {S : Nat} (hS : ∀ r, (enc r).length = S) (rs : List α) (j i : Nat) (hi : i < S) : (flat enc rs)[j * S + i]? = rs[j]?.bind fun r => (enc r)[i]? := by
  induction rs generalizing j with
  | nil => simp [flat]
  | cons r t ih =>
    have e : flat enc (r :: t) = enc r ++ flat enc t := rfl
    rw [e]
    cases j with
    | zero => rw [List.getElem?_append_left (by rw [hS]; omega)]; simp
    | succ j =>
      rw [List.getElem?_append_right (by rw [hS, Nat.add_mul]; omega), hS]
      rw [show (j + 1) * S + i - S = j * S + i from by rw [Nat.add_mul]; omega, ih]
      simp

theorem flat_ext {α : Type} {enc : α → List Value} {S : Nat} (hS : ∀ r, (enc r).length = S) (h0 : 0 < S) {l : List Value} {rs : List α} (hl : l.length = rs.length * S)
    (h : ∀ j i, j < rs.length → i < S → l[j * S + i]? = rs[j]?.bind fun r => (enc r)[i]?) : l = flat enc rs := by
  apply List.ext_getElem?
  intro q
  by_cases hq : q < rs.length * S
  · have hj : q / S < rs.length := (Nat.div_lt_iff_lt_mul h0).2 hq
    have hi : q % S < S := Nat.mod_lt _ h0
    have := h (q / S) (q % S) hj hi
    rw [← flat_get hS rs _ _ hi] at this
    rwa [Nat.mul_comm, Nat.div_add_mod] at this
  · rw [List.getElem?_eq_none (by omega), List.getElem?_eq_none (by rw [flat_length hS]; omega)]

/-- A list whose first k elements are laid, the others still zero. -/
def fillL {α : Type} (n k : Nat) (f : Nat → α) (z : α) : List α := (List.range n).map fun j => if j < k then f j else z
theorem fillL_length {α : Type} (n k : Nat) (f : Nat → α) (z : α) : (fillL n k f z).length = n := by simp [fillL]
theorem fillL_zero {α : Type} (n : Nat) (f : Nat → α) (z : α) : fillL n 0 f z = List.replicate n z := by
  apply List.ext_getElem <;> simp [fillL]
theorem fillL_succ {α : Type} {n k : Nat} (f : Nat → α) (z : α) (h : k < n) : (fillL n k f z).set k (f k) = fillL n (k + 1) f z := by
  apply List.ext_getElem
  · simp [fillL]
  · intro j h1 h2
    simp only [fillL, List.getElem_set, List.getElem_map, List.getElem_range]
    by_cases e : k = j
    · subst e; simp
    · rw [if_neg e]
      by_cases hl : j < k
      · rw [if_pos hl, if_pos (by omega)]
      · rw [if_neg hl, if_neg (by omega)]
theorem fillL_end {α : Type} (zs : List α) (d z : α) : fillL zs.length zs.length (fun j => zs.getD j d) z = zs := by
  apply List.ext_getElem
  · simp [fillL]
  · intro j h1 h2
    simp [fillL, h2, List.getD]

/-- Two cells at one element are written. -/
theorem flat_set2 {α : Type} {enc : α → List Value} (hS : ∀ r, (enc r).length = 2) (rs : List α) (k : Nat) (hk : k < rs.length) (r : α) (x y : Value) (he : enc r = [x, y]) :
    ((flat enc rs).set (k * 2) x).set (k * 2 + 1) y = flat enc (rs.set k r) := by
  apply flat_ext hS (by omega)
  · simp [flat_length hS]
  · intro j i hj hi
    have hj' : j < rs.length := by simpa using hj
    rw [List.getElem?_set, List.getElem?_set]
    have hL : (flat enc rs).length = rs.length * 2 := flat_length hS rs
    by_cases e : k = j
    · subst e
      rw [List.getElem?_set_self hk, Option.bind_some, he]
      match i, hi with
      | 0, _ => rw [if_neg (by omega), if_pos (by omega), if_pos (by omega)]; rfl
      | 1, _ => rw [if_pos (by omega), if_pos (by simp; omega)]; rfl
    · rw [List.getElem?_set_ne e, if_neg (by omega), if_neg (by omega), flat_get hS _ _ _ hi]

/-- What 'make' lays, where an element has two cells. -/
theorem made2 {α : Type} {enc : α → List Value} (hS : ∀ r, (enc r).length = 2) (z : α) (x y : Value) (he : enc z = [x, y]) (n : Nat) : (madeCells #[x, y] (n * 2)).toList = flat enc (List.replicate n z) := by
  apply flat_ext hS (by omega)
  · simp [madeCells]
  · intro j i hj hi
    have hj' : j < n := by simpa using hj
    have : j * 2 + i < n * 2 := by omega
    have e2 : (j * 2 + i) % 2 = i := by omega
    simp only [madeCells, Array.toList_map, List.getElem?_map, Array.toList_range, List.getElem?_range this, List.getElem?_replicate, if_pos hj', Option.map_some, Option.bind_some, he]
    match i, hi with
    | 0, _ => simp
    | 1, _ => simp

def encR (r : Int × Int) : List Value := [.int .i64 r.1, .int .i64 r.2]
theorem encR_len (r : Int × Int) : (encR r).length = 2 := rfl

def RecsAt (w : World) (a : Option Addr) (rs : List (Int × Int)) : Prop :=
  rs = [] ∨ ∃ b off, a = some ⟨b, off, none⟩ ∧ b < w.heap.size ∧ ∀ j, j < rs.length → w.cell? ⟨b, off + j * 2, none⟩ = some (.int .i64 (rs.getD j (0, 0)).1) ∧ w.cell? ⟨b, off + j * 2 + 1, none⟩ = some (.int .i64 (rs.getD j (0, 0)).2)

theorem RecsAt.at {w : World} {a : Option Addr} {rs : List (Int × Int)} (h : RecsAt w a rs) {k : Nat} (hk : k < rs.length) :
    ∃ b off, a = some ⟨b, off, none⟩ ∧ w.cell? ⟨b, off + k * 2, none⟩ = some (.int .i64 (rs.getD k (0, 0)).1) ∧ w.cell? ⟨b, off + k * 2 + 1, none⟩ = some (.int .i64 (rs.getD k (0, 0)).2) := by
  rcases h with rfl | ⟨b, off, h1, _, h2⟩
  · simp at hk
  · exact ⟨b, off, h1, (h2 k hk).1, (h2 k hk).2⟩

theorem RecsAt.below {w w' : World} {B : Nat} {a : Option Addr} {rs : List (Int × Int)} (h : RecsAt w a rs) (hB : w.heap.size ≤ B) (hb : Below B w w') : RecsAt w' a rs := by
  rcases h with h | ⟨b, off, h1, h0, h2⟩
  · exact .inl h
  · refine .inr ⟨b, off, h1, by have := hb.size; omega, fun j hj => ?_⟩
    rw [hb.cell (p := ⟨b, off + j * 2, none⟩) (by show b < B; omega), hb.cell (p := ⟨b, off + j * 2 + 1, none⟩) (by show b < B; omega)]; exact h2 j hj

theorem own_cell {w : World} {base : Nat} {e : TypeId} {size : Nat} {a : Option Addr} {n c : Nat} {xs : List Value} (h : w.ownsRow base e size (.slice a n c) n xs) (hn : 0 < n) :
    ∃ g, a = some ⟨g, 0, none⟩ ∧ base ≤ g ∧ g < w.heap.size ∧ ∀ j, j < n * size → w.cell? ⟨g, j, none⟩ = xs[j]? := by
  rcases h.2 with ⟨_, h3⟩ | ⟨g, cap, cur, hv, hb, hg, _⟩
  · omega
  · simp only [Value.slice.injEq] at hv
    obtain ⟨rfl, _, rfl⟩ := hv
    exact ⟨g, rfl, hb, (Array.getElem?_eq_some_iff.1 hg).1, fun j hj => h.cellAt j hj⟩

theorem recs_of_own {w : World} {base : Nat} {e : TypeId} {a : Option Addr} {n c : Nat} {rs : List (Int × Int)} (h : w.ownsRow base e 2 (.slice a n c) n (flat encR rs)) : RecsAt w a rs := by
  have hn : rs.length = n := by have := h.1; rw [flat_length encR_len] at this; omega
  by_cases h0 : n = 0
  · left; exact List.eq_nil_of_length_eq_zero (by omega)
  · obtain ⟨g, rfl, _, hlt, hc⟩ := own_cell h (by omega)
    refine .inr ⟨g, 0, rfl, hlt, fun j hj => ⟨?_, ?_⟩⟩
    · rw [hc _ (by omega), Nat.zero_add, show j * 2 = j * 2 + 0 from rfl, flat_get encR_len _ _ _ (by omega)]
      simp [List.getElem?_eq_getElem hj, encR, List.getD]
    · rw [hc _ (by omega), Nat.zero_add, flat_get encR_len _ _ _ (by omega)]
      simp [List.getElem?_eq_getElem hj, encR, List.getD]

/-- One element is written into a list of the call's own: any number of cells. -/
theorem own_put {w : World} {base : Nat} {e : TypeId} {size g n cap : Nat} {xs : List Value} (h : w.ownsRow base e size (.slice (some ⟨g, 0, none⟩) n cap) n xs) (k : Nat) (hk : k < n) (news : List Value) (hl : news.length = size)
    {P : Program} (h1 : ∀ u ∈ news, u.oneCell' = true) :
    ∃ w', (storeCells ⟨g, k * size, none⟩ news 0).run P w = .ok () w' ∧ w'.ownsRow base e size (.slice (some ⟨g, 0, none⟩) n cap) n (xs.take (k * size) ++ news ++ xs.drop (k * size + size)) ∧ w.grownBy w' (some g) := by
  have hkn : k * size + size ≤ n * size := by
    rw [← Nat.succ_mul]; exact Nat.mul_le_mul_right _ hk
  rcases h.2 with ⟨h', _⟩ | ⟨g', cap', cur, h', hb, hg, hnc, hcm, hcs, htake⟩
  · simp at h'
  · simp only [Value.slice.injEq, Option.some.injEq, Addr.mk.injEq, and_true, true_and] at h'
    obtain ⟨rfl, rfl⟩ := h'
    have hnc' : n * size ≤ cap * size := Nat.mul_le_mul_right _ hnc
    have hst := run_storeCells_at P g (k * size) e news 0 cur w hg (by omega) h1
    refine ⟨_, hst, ⟨?_, .inr ⟨g, cap, _, rfl, hb, setRow_heap w g cur _ e _ hg, hnc, hcm, ?_, ?_⟩⟩, ⟨rfl, rfl, rfl, by simp, fun q _ hq => setRow_other w g q _ (fun e => hq (by simp [e]))⟩⟩
    · have := h.1
      simp only [List.length_append, List.length_take, List.length_drop]
      omega
    · simp only [Nat.add_zero, List.size_toArray, List.length_append, List.length_take, List.length_drop, Array.length_toList]
      omega
    · simp only [Nat.add_zero]
      rw [← htake, List.take_append, List.take_append, List.take_take, List.take_take, List.drop_take]
      simp only [List.length_append, List.length_take, Array.length_toList, hl]
      rw [Nat.min_eq_left (by omega : k * size ≤ cur.size), Nat.min_eq_right (by omega : k * size ≤ n * size), Nat.min_eq_left (by omega : k * size ≤ n * size), List.take_of_length_le (by omega : news.length ≤ n * size - k * size)]

theorem wpList_put {P : Program} {w : World} {ops : Array Oper} {rest : List Oper} {o : Oper} {a : Act} {Q : Exit → Act → World → Prop} {t e : TypeId} {z : Value} {size bytes : Nat} (T : SlT P t e z size bytes)
    (hgd : o.guard = none) (x y : Operand) (hop : o.op = .store e x y) {base g n cap : Nat} {xs : List Value} (k : Nat) (hx : a.eval x = .pointer (some ⟨g, k * size, none⟩)) (news : List Value) (hv : (a.eval y).cells.toList = news) (hl : news.length = size)
    (h1 : ∀ u ∈ news, u.oneCell' = true) (hown : w.ownsRow base e size (.slice (some ⟨g, 0, none⟩) n cap) n xs) (hk : k < n)
    (hK : ∀ w', w'.ownsRow base e size (.slice (some ⟨g, 0, none⟩) n cap) n (xs.take (k * size) ++ news ++ xs.drop (k * size + size)) → w.grownBy w' (some g) → wpList P ops Q rest (a.put o.dst undef) w') :
    wpList P ops Q (o :: rest) a w := by
  refine wpList_plain hgd fun K hK' => ?_
  obtain ⟨i, hi, _, hs, _⟩ := T.info
  obtain ⟨w', hr, g1, g2⟩ := own_put hown k hk news hl (P := P) h1
  have hsz : (a.eval y).cells.size = i.size := by rw [hs, ← hl, ← hv]; simp
  unfold Oper.wp execOp
  simp only [hop, hx, Instr.storeAt, Instr.sureAddr, storeVar, sizeOf, typeInfo, hv]
  simp [hi, hsz, hr]
  exact hK' _ _ (hK w' g1 g2)

theorem flat_put {α : Type} {enc : α → List Value} {S : Nat} (hS : ∀ r, (enc r).length = S) (rs : List α) (k : Nat) (hk : k < rs.length) (r : α) :
    (flat enc rs).take (k * S) ++ enc r ++ (flat enc rs).drop (k * S + S) = flat enc (rs.set k r) := by
  induction rs generalizing k with
  | nil => simp at hk
  | cons q t ih =>
    have e : flat enc (q :: t) = enc q ++ flat enc t := rfl
    cases k with
    | zero =>
      rw [e]
      simp only [Nat.zero_mul, List.take_zero, List.nil_append, Nat.zero_add, List.set_cons_zero]
      rw [List.drop_append_of_le_length (by rw [hS]; omega), List.drop_of_length_le (by rw [hS]; omega)]
      rfl
    | succ k =>
      have hk' : k < t.length := by simpa using hk
      rw [e, List.set_cons_succ]
      have e2 : flat enc (q :: t.set k r) = enc q ++ flat enc (t.set k r) := rfl
      rw [e2, ← ih k hk']
      rw [show (k + 1) * S = S + k * S from by rw [Nat.add_mul]; omega]
      rw [List.take_append, List.drop_append, hS, List.take_of_length_le (by rw [hS]; omega), List.drop_of_length_le (by rw [hS]; omega)]
      rw [show S + k * S - S = k * S from by omega, show S + k * S + S - S = k * S + S from by omega]
      simp

end Go.Proofs.Ythakkkljlpimlaa

/- General lemmas: what is kept while another block is written; whole variables stored; marks. -/
namespace Go.Proofs.Ythakkkljlpimlaa
open Go.RowKit
set_option linter.unusedVariables false

theorem grown_trans {a b c : World} {row : Option Nat} (h : a.grownBy b row) (k : b.grownBy c row) : a.grownBy c row :=
  ⟨k.os.trans h.os, k.tape.trans h.tape, k.output.trans h.output, Nat.le_trans h.size k.size, fun i hi hne => (k.block i (Nat.lt_of_lt_of_le hi h.size) hne).trans (h.block i hi hne)⟩
theorem grown_refl (w : World) (row : Option Nat) : w.grownBy w row := ⟨rfl, rfl, rfl, Nat.le_refl _, fun _ _ _ => rfl⟩
theorem grown_of_below {w w' : World} {row : Option Nat} (h : Below w.heap.size w w') : w.grownBy w' row := ⟨h.os, h.tape, h.output, h.size, fun k hk _ => h.block k hk⟩
theorem below_of_grown {B : Nat} {w0 w w' : World} {row : Option Nat} (h : Below B w0 w) (hB : B ≤ w.heap.size) (hg : w.grownBy w' row) (hr : ∀ k, row = some k → B ≤ k) : Below B w0 w' := h.grown hg hB hr

theorem IntsAt.grown {w w' : World} {row : Option Nat} {a : Option Addr} {zs : List Int} (h : IntsAt w a zs) (hg : w.grownBy w' row) (hne : ∀ b off, a = some ⟨b, off, none⟩ → row ≠ some b) : IntsAt w' a zs := by
  rcases h with h | ⟨b, off, h1, h0, h2⟩
  · exact .inl h
  · refine .inr ⟨b, off, h1, Nat.lt_of_lt_of_le h0 hg.size, fun j hj => ?_⟩
    have hb := hg.block b h0 (fun e => hne b off h1 e.symm)
    rw [World.cell?_of_block (w := w) (w' := w') (a := ⟨b, off + j, none⟩) hb]; exact h2 j hj

theorem RecsAt.grown {w w' : World} {row : Option Nat} {a : Option Addr} {zs : List (Int × Int)} (h : RecsAt w a zs) (hg : w.grownBy w' row) (hne : ∀ b off, a = some ⟨b, off, none⟩ → row ≠ some b) : RecsAt w' a zs := by
  rcases h with h | ⟨b, off, h1, h0, h2⟩
  · exact .inl h
  · refine .inr ⟨b, off, h1, Nat.lt_of_lt_of_le h0 hg.size, fun j hj => ?_⟩
    have hb := hg.block b h0 (fun e => hne b off h1 e.symm)
    rw [World.cell?_of_block (w := w) (w' := w') (a := ⟨b, off + j * 2, none⟩) hb, World.cell?_of_block (w := w) (w' := w') (a := ⟨b, off + j * 2 + 1, none⟩) hb]; exact h2 j hj

/-- Two lists owned from two bases lie in two blocks. -/
theorem own_ne {w w2 : World} {B1 B2 : Nat} {e1 e2 : TypeId} {s1 s2 n1 n2 : Nat} {v1 v2 : Value} {x1 x2 : List Value} (h1 : w.ownsRow B1 e1 s1 v1 n1 x1) (hB : w.heap.size ≤ B2) (h2 : w2.ownsRow B2 e2 s2 v2 n2 x2) : ∀ k, v1.ownBlock = some k → v2.ownBlock ≠ some k := by
  intro k a b
  have := (h1.lt k a).2
  have := (h2.lt k b).1
  omega

theorem ownBlock_slice {b off : Nat} {n c : Nat} : (Value.slice (some ⟨b, off, none⟩) n c).ownBlock = some b := rfl

theorem block_row {w w' : World} {g : Nat} {row : Option Nat} {o : Obj} (h : w.heap[g]? = some o) (hg : w.grownBy w' row) (hne : row ≠ some g) : w'.heap[g]? = some o := by
  rw [hg.block g (Array.getElem?_eq_some_iff.1 h).1 (fun e => hne e.symm)]; exact h

theorem block_below {w w' : World} {g B : Nat} {o : Obj} (h : w.heap[g]? = some o) (hb : Below B w w') (hlt : g < B) : w'.heap[g]? = some o := by
  rw [hb.block g hlt]; exact h

theorem block_new (w : World) (o : Obj) : (w.alloc o).heap[w.heap.size]? = some o := heap_alloc_new w o

theorem row_cell {w : World} {g : Nat} {cs : Array Value} {e : TypeId} {f : Nat × Nat} (h : w.heap[g]? = some (.cells cs e f)) (j : Nat) : w.cell? ⟨g, j, none⟩ = cs[j]? := cell_of_row w g j cs e f h

/-- A whole variable is stored. -/
theorem wpList_var {P : Program} {w : World} {ops : Array Oper} {rest : List Oper} {o : Oper} {a : Act} {Q : Exit → Act → World → Prop} (hgd : o.guard = none) (ty : TypeId) (x y : Operand) (ho : o.op = .store ty x y)
    {g : Nat} {cells : Array Value} (hx : a.eval x = .pointer (some ⟨g, 0, none⟩)) (hy : a.eval y = .agg cells) {t : TypeId} {old : Array Value} (hg : w.heap[g]? = some (.cells old t (0, 0)))
    (hi : (P.info? ty).map (·.size) = some cells.size) (hold : old.size = cells.size) (h1 : cells.all (·.oneCell') = true)
    (h : ∀ w', w'.heap[g]? = some (.cells cells t (0, 0)) → w.grownBy w' (some g) → wpList P ops Q rest (a.put o.dst undef) w') : wpList P ops Q (o :: rest) a w := by
  refine wpList_plain hgd fun K hK => ?_
  refine wp_store_row ty x y ho g cells hx hy t old hg hi hold h1 (hK _ _ (h _ (setRow_heap w g old cells t (0, 0) hg) ⟨rfl, rfl, rfl, by simp, fun q _ hq => setRow_other w g q _ (fun e => hq (by simp [e]))⟩))

/-- The marks on n records from k on; the first i are laid, the others still as they were. -/
def mkR (rs : List (Int × Int)) (k : Int) (i : Nat) : List (Int × Int) := (List.range rs.length).map fun j : Nat => if j < i then (k + 2 * (j : Int), k + 2 * (j : Int) + 1) else rs.getD j (0, 0)
theorem mkR_len (rs : List (Int × Int)) (k : Int) (i : Nat) : (mkR rs k i).length = rs.length := by simp [mkR]
theorem mkR_zero (rs : List (Int × Int)) (k : Int) : mkR rs k 0 = rs := by
  apply List.ext_getElem
  · simp [mkR]
  · intro j h1 h2; simp [mkR, List.getD, h2]
theorem mkR_succ {rs : List (Int × Int)} {k : Int} {i : Nat} (h : i < rs.length) : (mkR rs k i).set i (k + 2 * (i : Int), k + 2 * (i : Int) + 1) = mkR rs k (i + 1) := by
  apply List.ext_getElem
  · simp [mkR]
  · intro j h1 h2
    simp only [mkR, List.getElem_set, List.getElem_map, List.getElem_range]
    by_cases e : i = j
    · subst e; simp
    · rw [if_neg e]
      by_cases hl : j < i
      · rw [if_pos hl, if_pos (by omega)]
      · rw [if_neg hl, if_neg (by omega)]
theorem mkR_at {rs : List (Int × Int)} {k : Int} {j : Nat} (h : j < rs.length) : (mkR rs k rs.length).getD j (0, 0) = (k + 2 * (j : Int), k + 2 * (j : Int) + 1) := by
  simp [mkR, List.getD, h]

end Go.Proofs.Ythakkkljlpimlaa

/- General lemmas on owned rows: cut short, made longer within the capacity, copied into, grown for want of room. No program in sight. -/
namespace Go.Proofs.Ythakkkljlpimlaa
open Go.RowKit
set_option linter.unusedVariables false

theorem own_cutG {w : World} {base : Nat} {e : TypeId} {size g n c : Nat} {xs : List Value} (h : w.ownsRow base e size (.slice (some ⟨g, 0, none⟩) n c) n xs) {k : Nat} (hk : k ≤ n) : w.ownsRow base e size (.slice (some ⟨g, 0, none⟩) k c) k (xs.take (k * size)) := by
  obtain ⟨h1, h2⟩ := h
  rcases h2 with ⟨h2, _⟩ | ⟨g', cap, cur, hv, hb, hg, hn, hm, hs, ht⟩
  · cases h2
  · simp only [Value.slice.injEq, Option.some.injEq, Addr.mk.injEq] at hv
    obtain ⟨⟨rfl, _, _⟩, _, rfl⟩ := hv
    have hle : k * size ≤ n * size := Nat.mul_le_mul_right _ hk
    exact ⟨by rw [List.length_take]; omega, .inr ⟨g, c, cur, rfl, hb, hg, by omega, hm, hs, by rw [← ht, List.take_take]; congr 1; omega⟩⟩
theorem own_capG {w : World} {base : Nat} {e : TypeId} {size g n c : Nat} {xs : List Value} (h : w.ownsRow base e size (.slice (some ⟨g, 0, none⟩) n c) n xs) : n ≤ c ∧ c ≤ maxLen := by
  rcases h.2 with ⟨h2, _⟩ | ⟨g', cap, cur, hv, hb, hg, hn, hm, hs, ht⟩
  · cases h2
  · simp only [Value.slice.injEq, Option.some.injEq, Addr.mk.injEq] at hv
    obtain ⟨_, _, rfl⟩ := hv
    exact ⟨hn, hm⟩
theorem own_extG {w : World} {base : Nat} {e : TypeId} {size g n c : Nat} {xs : List Value} (h : w.ownsRow base e size (.slice (some ⟨g, 0, none⟩) n c) n xs) {k : Nat} (hk : n ≤ k) (hc : k ≤ c) : ∃ ys, w.ownsRow base e size (.slice (some ⟨g, 0, none⟩) k c) k (xs ++ ys) ∧ ys.length = (k - n) * size := by
  obtain ⟨h1, h2⟩ := h
  rcases h2 with ⟨h2, _⟩ | ⟨g', cap, cur, hv, hb, hg, hn, hm, hs, ht⟩
  · cases h2
  · simp only [Value.slice.injEq, Option.some.injEq, Addr.mk.injEq] at hv
    obtain ⟨⟨rfl, _, _⟩, _, rfl⟩ := hv
    have hle : n * size ≤ k * size := Nat.mul_le_mul_right _ hk
    have hle2 : k * size ≤ c * size := Nat.mul_le_mul_right _ hc
    have hcur : cur.toList.length = c * size := by rw [Array.length_toList, hs]
    refine ⟨(cur.toList.take (k * size)).drop (n * size), ⟨?_, .inr ⟨g, c, cur, rfl, hb, hg, hc, hm, hs, ?_⟩⟩, ?_⟩
    · rw [List.length_append, List.length_drop, List.length_take, h1, hcur]; omega
    · rw [← ht]
      have := (List.take_append_drop (n * size) (cur.toList.take (k * size))).symm
      rw [List.take_take, Nat.min_eq_left hle] at this
      exact this
    · rw [List.length_drop, List.length_take, hcur, Nat.sub_mul]; omega

theorem run_copyN {P : Program} (w : World) (dT sT ty elem : TypeId) (sz g o dLen dCap : Nat) (a : Addr) (sLen sCap : Nat) (cur : Array Value) (t : TypeId) (cs : List Value)
    (hu : P.underlying dT = some (.slice elem)) (hs : (P.info? elem).map (·.size) = some sz)
    (hg : w.heap[g]? = some (.cells cur t (0, 0))) (hn : cs.length = Nat.min sLen dLen * sz)
    (hsrc : ∀ j v, cs[j]? = some v → w.cell? (a.add j) = some v) (hfit : o + cs.length ≤ cur.size) (h1 : ∀ v ∈ cs, v.oneCell' = true) :
    (Builtin.copy_ #[dT, sT] ty #[.slice (some ⟨g, o, none⟩) dLen dCap, .slice (some a) sLen sCap]).run P w =
      .ok (goInt (Nat.min sLen dLen)) (w.setRow g (cur.toList.take o ++ cs ++ cur.toList.drop (o + cs.length)).toArray) := by
  have hl := run_loadCells_list (P := P) w a cs hsrc
  have hst := run_storeCells_at P g o t cs 0 cur w hg (by simpa using hfit) h1
  cases hq : P.info? elem with
  | none => simp [hq] at hs
  | some i =>
    have hi : i.size = sz := by simpa [hq] using hs
    simp [Builtin.copy_, run_underlying hu, Builtin.lenOf, Builtin.firstCells, sizeOf, typeInfo, hq, hi, ← hn, hl, hst]

theorem setRow_grownG (w : World) (g : Nat) (cs : Array Value) : w.grownBy (w.setRow g cs) (some g) :=
  ⟨rfl, rfl, rfl, by simp [World.setRow], fun q _ hq => by
    unfold World.setRow
    simp only
    rw [Array.getElem?_modify, if_neg (fun e => hq (by rw [e]))]⟩

/-- 'copy(d, s)' into an owned row, what is copied read beforehand. -/
theorem wpList_copyOwn {P : Program} {w : World} {ops : Array Oper} {rest : List Oper} {o : Oper} {a : Act} {Q : Exit → Act → World → Prop} {t e : TypeId} {z : Value} {size bytes : Nat} (T : SlT P t e z size bytes)
    (hgd : o.guard = none) (d s : Operand) (ho : o.op = .call { callee := .builtin .copy, args := #[d, s], argTypes := #[t, t] })
    {base g n c : Nat} {xs : List Value} (hown : w.ownsRow base e size (.slice (some ⟨g, 0, none⟩) n c) n xs)
    (i dl dc : Nat) (hd : a.eval d = .slice (some ⟨g, i * size, none⟩) dl dc) (ad : Addr) (sl sc : Nat) (hs : a.eval s = .slice (some ad) sl sc)
    (news : List Value) (hl : news.length = Nat.min sl dl * size) (hsrc : ∀ j v, news[j]? = some v → w.cell? (ad.add j) = some v) (h1 : ∀ v ∈ news, v.oneCell' = true) (hfit : i * size + news.length ≤ n * size)
    (hK : ∀ w', w'.ownsRow base e size (.slice (some ⟨g, 0, none⟩) n c) n (xs.take (i * size) ++ news ++ xs.drop (i * size + news.length)) → w.grownBy w' (some g) → wpList P ops Q rest (a.put o.dst (goInt (Nat.min sl dl))) w') :
    wpList P ops Q (o :: rest) a w := by
  refine wpList_plain hgd fun K hK' => ?_
  obtain ⟨inf, hi, _, hsz, _⟩ := T.info
  have hlen := hown.1
  rcases hown.2 with ⟨h2, _⟩ | ⟨g', cap, cur, hv, hb, hg, hn, hm, hsc, ht⟩
  · cases h2
  · simp only [Value.slice.injEq, Option.some.injEq, Addr.mk.injEq] at hv
    obtain ⟨⟨rfl, _, _⟩, _, rfl⟩ := hv
    have hle : n * size ≤ c * size := Nat.mul_le_mul_right _ hn
    have hr := run_copyN (P := P) w t t o.type e size g (i * size) dl dc ad sl sc cur e news T.und (by rw [hi]; simp [hsz]) hg hl hsrc (by rw [hsc]; omega) h1
    have hcl : cur.toList.length = c * size := by rw [Array.length_toList, hsc]
    unfold Oper.wp execOp
    simp only [ho, resolve, invoke, builtin, Sem.run_bind, Sem.run_pure, Result.andThen_ok, List.map_toArray, List.map_cons, List.map_nil, hd, hs, hr]
    refine hK' _ _ (hK _ ⟨?_, .inr ⟨g, c, _, rfl, hb, setRow_heap w g cur _ e _ hg, hn, hm, ?_, ?_⟩⟩ (setRow_grownG w g _))
    · simp only [List.length_append, List.length_take, List.length_drop, hlen]; omega
    · simp only [List.size_toArray, List.length_append, List.length_take, List.length_drop, hcl]; omega
    · show List.take (n * size) (cur.toList.take (i * size) ++ news ++ cur.toList.drop (i * size + news.length)) = _
      rw [← ht]
      apply List.ext_getElem?
      intro j
      simp only [List.getElem?_take, List.getElem?_append, List.length_append, List.length_take, List.getElem?_drop, hcl]
      by_cases hj : j < n * size
      · rw [if_pos hj]
        by_cases h3 : j < i * size + news.length
        · have e1 : j < min (i * size) (c * size) + news.length := by omega
          have e2 : j < min (i * size) (min (n * size) (c * size)) + news.length := by omega
          rw [if_pos e1, if_pos e2]
          by_cases h4 : j < i * size
          · have a1 : j < min (i * size) (c * size) := by omega
            have a2 : j < min (i * size) (min (n * size) (c * size)) := by omega
            rw [if_pos a1, if_pos a2]
            simp only [if_pos h4, if_pos hj]
          · have a1 : ¬ j < min (i * size) (c * size) := by omega
            have a2 : ¬ j < min (i * size) (min (n * size) (c * size)) := by omega
            rw [if_neg a1, if_neg a2]
            congr 1; omega
        · have e1 : ¬ j < min (i * size) (c * size) + news.length := by omega
          have e2 : ¬ j < min (i * size) (min (n * size) (c * size)) + news.length := by omega
          rw [if_neg e1, if_neg e2, if_pos (by omega)]
          congr 1; omega
      · rw [if_neg hj]
        symm
        rw [if_neg (by omega), if_neg (by omega)]

/-- 'append' for which there is no room: the result lies in a new block. -/
theorem run_app_grow {P : Program} (w : World) {t e : TypeId} {z : Value} {size bytes : Nat} (T : SlT P t e z size bytes) (base : Nat) (ty : TypeId)
    (g n cap : Nat) (xs : List Value) (hown : w.ownsRow base e size (.slice (some ⟨g, 0, none⟩) n cap) n xs)
    (a : Addr) (m c : Nat) (news : List Value) (hl : news.length = m * size) (hnews : ∀ j u, news[j]? = some u → w.cell? (a.add j) = some u) (h1 : ∀ u ∈ news, u.oneCell' = true)
    (hsmall : n + m ≤ 1099511627776) (hbase : base ≤ w.heap.size) (hroom : cap < n + m) :
    ∃ v' w', (Builtin.append_ #[t, t] ty #[.slice (some ⟨g, 0, none⟩) n cap, .slice (some a) m c]).run P w = .ok v' w' ∧ w'.ownsRow base e size v' (n + m) (xs ++ news) ∧ w.grownBy w' (some g) ∧ v'.ownBlock = some w.heap.size := by
  obtain ⟨i, hi, hz, hs, hby⟩ := T.info
  have hb47 : (n + m) * bytes ≤ 140737488355328 := by
    have := Nat.mul_le_mul hsmall T.small
    omega
  have hml : n + m ≤ maxLen := by unfold maxLen; omega
  obtain ⟨v', w', hr, g1, g2, g3⟩ := run_append_own (P := P) w base t ty e i z size bytes T.und hi hz hs hby T.cells T.pos (.slice (some ⟨g, 0, none⟩) n cap) n xs hown a m c news hl hnews h1 hml hb47 hbase
  refine ⟨v', w', hr, g1, g2, ?_⟩
  subst hs
  have hnc := (own_capG hown).1
  have holds : ∀ j u, xs[j]? = some u → w.cell? ((⟨g, 0, none⟩ : Addr).add j) = some u := hown.cells (g := g) rfl
  have hq := run_append_grow (P := P) w t ty e i z T.und hi hz ⟨g, 0, none⟩ n cap xs hown.1 holds a m c news hl hnews (by omega) (by unfold maxLen at hml; omega) (growslice_fits (by omega) (by rw [hby]; exact hb47))
  rw [hr] at hq
  injection hq with e1 _
  rw [e1]; rfl

theorem flat_takeG {α : Type} {enc : α → List Value} {S : Nat} (hS : ∀ r, (enc r).length = S) (rs : List α) (k : Nat) (hk : k ≤ rs.length) : (flat enc rs).take (k * S) = flat enc (rs.take k) := by
  conv => lhs; rw [← List.take_append_drop k rs, flat_append]
  have hl : (flat enc (rs.take k)).length = k * S := by rw [flat_length hS, List.length_take, Nat.min_eq_left hk]
  rw [← hl]; exact List.take_left
theorem flat_dropG {α : Type} {enc : α → List Value} {S : Nat} (hS : ∀ r, (enc r).length = S) (rs : List α) (k : Nat) (hk : k ≤ rs.length) : (flat enc rs).drop (k * S) = flat enc (rs.drop k) := by
  conv => lhs; rw [← List.take_append_drop k rs, flat_append]
  have hl : (flat enc (rs.take k)).length = k * S := by rw [flat_length hS, List.length_take, Nat.min_eq_left hk]
  rw [← hl]; exact List.drop_left
theorem flat_insG {α : Type} {enc : α → List Value} {S : Nat} (hS : ∀ r, (enc r).length = S) (rs : List α) (k : Nat) (hk : k ≤ rs.length) (x : α) : flat enc (rs.take k ++ x :: rs.drop k) = (flat enc rs).take (k * S) ++ enc x ++ (flat enc rs).drop (k * S) := by
  rw [flat_takeG hS rs k hk, flat_dropG hS rs k hk, flat_append]
  have : flat enc (x :: rs.drop k) = enc x ++ flat enc (rs.drop k) := by simp [flat]
  rw [this, List.append_assoc]

/-- 'append(s, y...)' for which there is no room, as a step of the walk. -/
theorem wpList_appGrow {P : Program} {w : World} {ops : Array Oper} {rest : List Oper} {o : Oper} {a : Act} {Q : Exit → Act → World → Prop} {t e : TypeId} {z : Value} {size bytes : Nat} (T : SlT P t e z size bytes)
    (hgd : o.guard = none) (s y : Operand) (ho : o.op = .call { callee := .builtin .append, args := #[s, y], argTypes := #[t, t] })
    (base g n cap : Nat) (xs : List Value) (hs : a.eval s = .slice (some ⟨g, 0, none⟩) n cap) (hown : w.ownsRow base e size (.slice (some ⟨g, 0, none⟩) n cap) n xs)
    (ad : Addr) (m c : Nat) (ys : List Value) (hy : a.eval y = .slice (some ad) m c) (hl : ys.length = m * size) (hcells : ∀ j u, ys[j]? = some u → w.cell? (ad.add j) = some u) (h1 : ∀ u ∈ ys, u.oneCell' = true)
    (hsmall : n + m ≤ 1099511627776) (hbase : base ≤ w.heap.size) (hroom : cap < n + m)
    (h : ∀ v' w', w'.ownsRow base e size v' (n + m) (xs ++ ys) → w.grownBy w' (some g) → v'.ownBlock = some w.heap.size → wpList P ops Q rest (a.put o.dst v') w') : wpList P ops Q (o :: rest) a w := by
  refine wpList_plain hgd fun K hK => ?_
  obtain ⟨v', w', hr, g1, g2, g3⟩ := run_app_grow (P := P) w T base o.type g n cap xs hown ad m c ys hl hcells h1 hsmall hbase hroom
  unfold Oper.wp execOp
  simp only [ho, resolve, invoke, builtin, Sem.run_bind, Sem.run_pure, Result.andThen_ok, List.map_toArray, List.map_cons, List.map_nil, hs, hy, hr]
  exact hK _ _ (h v' w' g1 g2 g3)

end Go.Proofs.Ythakkkljlpimlaa

/- append in a region that draws its order: at a step, any number of elements, and where the result lies. -/
namespace Go.Proofs.Ythakkkljlpimlaa
open Go.RowKit
set_option linter.unusedVariables false

theorem wp_appX {P : Program} {w : World} {o : Oper} {a : Act} {K : Act → World → Prop} {Q : Exit → Act → World → Prop} {t e : TypeId} {z : Value} {size bytes : Nat} (T : SlT P t e z size bytes) (s y : Operand)
    (ho : o.op = .call { callee := .builtin .append, args := #[s, y], argTypes := #[t, t] })
    (base : Nat) (v : Value) (n : Nat) (xs : List Value) (ad : Addr) (m c : Nat) (ys : List Value) (hs : a.eval s = v) (hown : w.ownsRow base e size v n xs) (hy : a.eval y = .slice (some ad) m c) (hl : ys.length = m * size)
    (hcells : ∀ j x, ys[j]? = some x → w.cell? (ad.add j) = some x) (h1 : ∀ x ∈ ys, x.oneCell' = true) (hsmall : n + m ≤ 1099511627776) (hbase : base ≤ w.heap.size)
    (h : ∀ v' w', w'.ownsRow base e size v' (n + m) (xs ++ ys) → w.grownBy w' v.ownBlock → (v'.ownBlock = v.ownBlock ∨ v'.ownBlock = some w.heap.size) → K (a.put o.dst v') w') : Oper.wp P o a w K Q := by
  obtain ⟨v', w', hr, h2, h3, h4⟩ := run_app_tag (P := P) w T base o.type v n xs hown ad m c ys hl hcells h1 hsmall hbase
  unfold Oper.wp execOp
  simp only [ho, resolve, invoke, builtin, Sem.run_bind, Sem.run_pure, Result.andThen_ok, List.map_toArray, List.map_cons, List.map_nil, hs, hy, hr]
  exact h v' w' h2 h3 h4

theorem step_appX {P : Program} {w : World} {ops : Array Oper} {o : Oper} {a : Act} {K : Act → World → Prop} {Q : Exit → Act → World → Prop} {E : Prop} {t e : TypeId} {z : Value} {size bytes : Nat} (T : SlT P t e z size bytes) (hgd : o.guard = none) (s y : Operand)
    (ho : o.op = .call { callee := .builtin .append, args := #[s, y], argTypes := #[t, t] })
    (base : Nat) (v : Value) (n : Nat) (xs : List Value) (ad : Addr) (m c : Nat) (ys : List Value) (hs : a.eval s = v) (hown : w.ownsRow base e size v n xs) (hy : a.eval y = .slice (some ad) m c) (hl : ys.length = m * size)
    (hcells : ∀ j x, ys[j]? = some x → w.cell? (ad.add j) = some x) (h1 : ∀ x ∈ ys, x.oneCell' = true) (hsmall : n + m ≤ 1099511627776) (hbase : base ≤ w.heap.size)
    (h : ∀ v' w', w'.ownsRow base e size v' (n + m) (xs ++ ys) → w.grownBy w' v.ownBlock → (v'.ownBlock = v.ownBlock ∨ v'.ownBlock = some w.heap.size) → K (a.put o.dst v') w') :
    if Region.wanted o (yielded ops a.tmps) = true then Oper.wp P o a w K Q else E := by
  have hw : Region.wanted o (yielded ops a.tmps) = true := by simp [Region.wanted, hgd]
  rw [if_pos hw]
  exact wp_appX T s y ho base v n xs ad m c ys hs hown hy hl hcells h1 hsmall hbase h

end Go.Proofs.Ythakkkljlpimlaa

/- 'copy' into an owned row: its run, and as a step of a region that draws its order. -/
namespace Go.Proofs.Ythakkkljlpimlaa
open Go.RowKit
set_option linter.unusedVariables false

theorem run_copyOwn {P : Program} (w : World) {t e : TypeId} {z : Value} {size bytes : Nat} (T : SlT P t e z size bytes) (ty : TypeId)
    {base g n c : Nat} {xs : List Value} (hown : w.ownsRow base e size (.slice (some ⟨g, 0, none⟩) n c) n xs)
    (i dl dc : Nat) (ad : Addr) (sl sc : Nat)
    (news : List Value) (hl : news.length = Nat.min sl dl * size) (hsrc : ∀ j v, news[j]? = some v → w.cell? (ad.add j) = some v) (h1 : ∀ v ∈ news, v.oneCell' = true) (hfit : i * size + news.length ≤ n * size) :
    ∃ w', (Builtin.copy_ #[t, t] ty #[.slice (some ⟨g, i * size, none⟩) dl dc, .slice (some ad) sl sc]).run P w = .ok (goInt (Nat.min sl dl)) w' ∧ w'.ownsRow base e size (.slice (some ⟨g, 0, none⟩) n c) n (xs.take (i * size) ++ news ++ xs.drop (i * size + news.length)) ∧ w.grownBy w' (some g) := by
  obtain ⟨inf, hi, _, hsz, _⟩ := T.info
  have hlen := hown.1
  rcases hown.2 with ⟨h2, _⟩ | ⟨g', cap, cur, hv, hb, hg, hn, hm, hsc, ht⟩
  · cases h2
  · simp only [Value.slice.injEq, Option.some.injEq, Addr.mk.injEq] at hv
    obtain ⟨⟨rfl, _, _⟩, _, rfl⟩ := hv
    have hle : n * size ≤ c * size := Nat.mul_le_mul_right _ hn
    have hr := run_copyN (P := P) w t t ty e size g (i * size) dl dc ad sl sc cur e news T.und (by rw [hi]; simp [hsz]) hg hl hsrc (by rw [hsc]; omega) h1
    have hcl : cur.toList.length = c * size := by rw [Array.length_toList, hsc]
    refine ⟨_, hr, ⟨?_, .inr ⟨g, c, _, rfl, hb, setRow_heap w g cur _ e _ hg, hn, hm, ?_, ?_⟩⟩, setRow_grownG w g _⟩
    · simp only [List.length_append, List.length_take, List.length_drop, hlen]; omega
    · simp only [List.size_toArray, List.length_append, List.length_take, List.length_drop, hcl]; omega
    · show List.take (n * size) (cur.toList.take (i * size) ++ news ++ cur.toList.drop (i * size + news.length)) = _
      rw [← ht]
      apply List.ext_getElem?
      intro j
      simp only [List.getElem?_take, List.getElem?_append, List.length_append, List.length_take, List.getElem?_drop, hcl]
      by_cases hj : j < n * size
      · rw [if_pos hj]
        by_cases h3 : j < i * size + news.length
        · have e1 : j < min (i * size) (c * size) + news.length := by omega
          have e2 : j < min (i * size) (min (n * size) (c * size)) + news.length := by omega
          rw [if_pos e1, if_pos e2]
          by_cases h4 : j < i * size
          · have a1 : j < min (i * size) (c * size) := by omega
            have a2 : j < min (i * size) (min (n * size) (c * size)) := by omega
            rw [if_pos a1, if_pos a2]
            simp only [if_pos h4, if_pos hj]
          · have a1 : ¬ j < min (i * size) (c * size) := by omega
            have a2 : ¬ j < min (i * size) (min (n * size) (c * size)) := by omega
            rw [if_neg a1, if_neg a2]
            congr 1; omega
        · have e1 : ¬ j < min (i * size) (c * size) + news.length := by omega
          have e2 : ¬ j < min (i * size) (min (n * size) (c * size)) + news.length := by omega
          rw [if_neg e1, if_neg e2, if_pos (by omega)]
          congr 1; omega
      · rw [if_neg hj]
        symm
        rw [if_neg (by omega), if_neg (by omega)]


theorem step_copyOwn {P : Program} {w : World} {ops : Array Oper} {o : Oper} {a : Act} {K : Act → World → Prop} {Q : Exit → Act → World → Prop} {E : Prop} {t e : TypeId} {z : Value} {size bytes : Nat} (T : SlT P t e z size bytes)
    (hgd : o.guard = none) (d s : Operand) (ho : o.op = .call { callee := .builtin .copy, args := #[d, s], argTypes := #[t, t] })
    {base g n c : Nat} {xs : List Value} (hown : w.ownsRow base e size (.slice (some ⟨g, 0, none⟩) n c) n xs)
    (i dl dc : Nat) (hd : a.eval d = .slice (some ⟨g, i * size, none⟩) dl dc) (ad : Addr) (sl sc : Nat) (hs : a.eval s = .slice (some ad) sl sc)
    (news : List Value) (hl : news.length = Nat.min sl dl * size) (hsrc : ∀ j v, news[j]? = some v → w.cell? (ad.add j) = some v) (h1 : ∀ v ∈ news, v.oneCell' = true) (hfit : i * size + news.length ≤ n * size)
    (hK : ∀ w', w'.ownsRow base e size (.slice (some ⟨g, 0, none⟩) n c) n (xs.take (i * size) ++ news ++ xs.drop (i * size + news.length)) → w.grownBy w' (some g) → K (a.put o.dst (goInt (Nat.min sl dl))) w') :
    if Region.wanted o (yielded ops a.tmps) = true then Oper.wp P o a w K Q else E := by
  have hw : Region.wanted o (yielded ops a.tmps) = true := by simp [Region.wanted, hgd]
  rw [if_pos hw]
  obtain ⟨w', hr, h2, h3⟩ := run_copyOwn (P := P) w T o.type hown i dl dc ad sl sc news hl hsrc h1 hfit
  unfold Oper.wp execOp
  simp only [ho, resolve, invoke, builtin, Sem.run_bind, Sem.run_pure, Result.andThen_ok, List.map_toArray, List.map_cons, List.map_nil, hd, hs, hr]
  exact hK w' h2 h3

/-- 'append(s, make([]T, k)...)' for which there is no room. -/
theorem run_appZG {P : Program} (w : World) {t tn e : TypeId} {z : Value} {size bytes : Nat} (T : SlT P t e z size bytes) (ty : TypeId) (kq kn : IntKind) (htn : P.underlying tn = some (.int kn))
    {base g n c : Nat} {xs : List Value} (hown : w.ownsRow base e size (.slice (some ⟨g, 0, none⟩) n c) n xs) (k : Nat) (h0 : 0 < k) (hroom : c < n + k) (hsmall : n + k ≤ 1099511627776) (hbase : base ≤ w.heap.size) :
    ∃ c' w' zs, (Builtin.append_ #[t, tn] ty #[.slice (some ⟨g, 0, none⟩) n c, .int kq k]).run P w = .ok (.slice (some ⟨w.heap.size, 0, none⟩) (n + k) c') w' ∧
      w'.ownsRow base e size (.slice (some ⟨w.heap.size, 0, none⟩) (n + k) c') (n + k) (xs ++ zs) ∧ zs.length = k * size ∧ w.grownBy w' none ∧ w.heap.size < w'.heap.size := by
  obtain ⟨i, hi, hz, hs, hby⟩ := T.info
  have hb47 : (n + k) * bytes ≤ 140737488355328 := by
    have := Nat.mul_le_mul hsmall T.small
    omega
  have hkb : k * bytes ≤ 140737488355328 := Nat.le_trans (Nat.mul_le_mul_right _ (by omega)) hb47
  have hml : n + k ≤ maxLen := by unfold maxLen; omega
  have hcells : ∀ j u, xs[j]? = some u → w.drew.cell? ((⟨g, 0, none⟩ : Addr).add j) = some u := fun j u hj => by
    have := hown.cells (g := g) rfl j u hj
    exact this
  have hr := Lib.run_append_grow_zeros (P := P) w t tn ty e i z kq kn T.und htn hi hz (some ⟨g, 0, none⟩) n c xs (run_firstCells_some w.drew i.size n ⟨g, 0, none⟩ n c xs (by rw [hs]; exact hown.1) hcells) k h0 (by rw [hs]; exact T.pos) hroom (by unfold maxLen at hml; omega) (by rw [hby]; omega) (growslice_fits (by omega) (by rw [hby]; exact hb47))
  have hge := grownCap_ge w (n + k) c e
  have hcm : grownCap w (n + k) c e ≤ maxLen := grownCap_le_maxLen w (n + k) c e hml
  refine ⟨_, _, (Builtin.zeroCells z.cells k).toList, hr, ⟨?_, .inr ⟨w.heap.size, _, _, rfl, hbase, heap_alloc_new w.drew _, hge, hcm, ?_, ?_⟩⟩, ?_, ⟨rfl, rfl, rfl, by simp, fun k hk _ => heap_alloc_old w.drew _ hk⟩, by simp⟩
  · rw [List.length_append, hown.1, Array.length_toList, size_zeroCells, T.cells, Nat.add_mul]
  · simp only [Array.size_append, List.size_toArray, size_zeroCells, T.cells, hown.1, ← Nat.add_mul]
    congr 1
    omega
  · simp only [Array.toList_append]
    have hl : (xs ++ (Builtin.zeroCells z.cells k).toList).length = (n + k) * size := by rw [List.length_append, hown.1, Array.length_toList, size_zeroCells, T.cells, Nat.add_mul]
    rw [← hl]
    exact List.take_left
  · rw [Array.length_toList, size_zeroCells, T.cells]

theorem wpList_appZG {P : Program} {w : World} {ops : Array Oper} {rest : List Oper} {o : Oper} {a : Act} {Q : Exit → Act → World → Prop} {t tn e : TypeId} {z : Value} {size bytes : Nat} (T : SlT P t e z size bytes)
    (hgd : o.guard = none) (s y : Operand) (ho : o.op = .call { callee := .builtin .append, args := #[s, y], argTypes := #[t, tn] }) (kq kn : IntKind) (htn : P.underlying tn = some (.int kn))
    {base g n c : Nat} {xs : List Value} (hs : a.eval s = .slice (some ⟨g, 0, none⟩) n c) (hown : w.ownsRow base e size (.slice (some ⟨g, 0, none⟩) n c) n xs) (k : Nat) (hy : a.eval y = .int kq k) (h0 : 0 < k) (hroom : c < n + k) (hsmall : n + k ≤ 1099511627776) (hbase : base ≤ w.heap.size)
    (h : ∀ c' w' zs, w'.ownsRow base e size (.slice (some ⟨w.heap.size, 0, none⟩) (n + k) c') (n + k) (xs ++ zs) → zs.length = k * size → w.grownBy w' none → w.heap.size < w'.heap.size → wpList P ops Q rest (a.put o.dst (.slice (some ⟨w.heap.size, 0, none⟩) (n + k) c')) w') :
    wpList P ops Q (o :: rest) a w := by
  obtain ⟨c', w', zs, hr, h1, h2, h3, h4⟩ := run_appZG (P := P) w T o.type kq kn htn hown k h0 hroom hsmall hbase
  exact Lib.wpList_append_run w hgd s y t tn ho _ _ hs hy _ _ hr (h c' w' zs h1 h2 h3 h4)

end Go.Proofs.Ythakkkljlpimlaa

/- General lemmas on copies of integer lists; no program in sight. -/
namespace Go.Proofs.Ythakkkljlpimlaa
open Go.RowKit
set_option linter.unusedVariables false

abbrev IL (l : List Int) : List Value := l.map (Value.int .i64)
theorem size_al (w : World) (o : Obj) : (w.alloc o).heap.size = w.heap.size + 1 := by simp

/-- What a copy holds after k rounds. -/
def fillK (n k : Nat) (f : Nat → Value) (z : Value) : List Value := (List.range n).map fun j => if j < k then f j else z
theorem fillK_length (n k : Nat) (f : Nat → Value) (z : Value) : (fillK n k f z).length = n := by simp [fillK]
theorem fillK_zero (n : Nat) (f : Nat → Value) (z : Value) : fillK n 0 f z = List.replicate n z := by
  apply List.ext_getElem <;> simp [fillK]
theorem fillK_succ {n k : Nat} (f : Nat → Value) (z : Value) (h : k < n) : (fillK n k f z).set k (f k) = fillK n (k + 1) f z := by
  apply List.ext_getElem
  · simp [fillK]
  · intro j h1 h2
    simp only [fillK, List.getElem_set, List.getElem_map, List.getElem_range]
    by_cases e : k = j
    · subst e; simp
    · rw [if_neg e]
      by_cases hl : j < k
      · rw [if_pos hl, if_pos (by omega)]
      · rw [if_neg hl, if_neg (by omega)]
theorem fillK_end (n : Nat) (f : Nat → Value) (z : Value) : fillK n n f z = (List.range n).map f := by
  apply List.ext_getElem
  · simp [fillK]
  · intro j h1 h2
    have : j < n := by simpa [fillK] using h1
    simp [fillK, this]
theorem range_getD {α β : Type} (zs : List α) (d : α) (f : α → β) : (List.range zs.length).map (fun j => f (zs.getD j d)) = zs.map f := by
  apply List.ext_getElem
  · simp
  · intro j h1 h2
    have : j < zs.length := by simpa using h1
    simp [List.getD, this]
def cpK (zs : List Int) (k : Nat) : List Value := fillK zs.length k (fun j => .int .i64 (zs.getD j 0)) (.int .i64 0)
theorem cpK_zero (zs : List Int) : cpK zs 0 = List.replicate zs.length (Value.int .i64 0) := fillK_zero _ _ _
theorem cpK_end (zs : List Int) : cpK zs zs.length = zs.map (Value.int .i64) := by
  unfold cpK; rw [fillK_end]; exact range_getD zs 0 _
theorem cpK_length (zs : List Int) (k : Nat) : (cpK zs k).length = zs.length := fillK_length _ _ _ _
theorem cpK_succ {zs : List Int} {k : Nat} (h : k < zs.length) : (cpK zs k).set k (.int .i64 (zs.getD k 0)) = cpK zs (k + 1) := fillK_succ (fun j => .int .i64 (zs.getD j 0)) _ h

end Go.Proofs.Ythakkkljlpimlaa

/- Rows of integers: their element. -/
namespace Go.Proofs.Ythakkkljlpimlaa
open Go.RowKit
set_option linter.unusedVariables false

theorem Try.infoInt : (Try.prog.info? 3).map (fun i => (i.zero, i.size, i.bytes)) = some (some (.int .i64 0), 1, 8) := by kernel_rfl

theorem ownInts {w : World} {base : Nat} {a : Option Addr} {n c : Nat} {zs : List Int} (h : w.ownsRow base 3 1 (.slice a n c) n (zs.map (Value.int .i64))) : IntsAt w a zs := ints_of_own h

theorem slInt : SlT Try.prog 35 3 (.int .i64 0) 1 8 := ⟨Try.underlying35, info_parts Try.infoInt, rfl, by decide, by decide⟩

end Go.Proofs.Ythakkkljlpimlaa

/- Walks: bounds. -/
namespace Go.Proofs.Ythakkkljlpimlaa
open Go.RowKit
set_option linter.unusedVariables false

theorem hmf : ∀ (fn : Fn) (first cap : Array Value) (w : World), (Instr.makeFunc fn first cap).run Try.prog w = .ok (.func fn first cap) w := fun _ _ _ _ => rfl

def inB (n a b : Int) : Bool := decide (a ≤ n) && decide (n ≤ b)
theorem inB_iff {n a b : Int} : inB n a b = true ↔ a ≤ n ∧ n ≤ b := by simp [inB]

set_option maxHeartbeats 400000 in
theorem l1In_any (n a b : Int) (w : World) :
    Calls Try.prog 31 #[.int .i64 n, .int .i64 a, .int .i64 b] w fun e w' => e = .returned (.bool (inB n a b)) ∧ w = w' := by
  by_cases h : a ≤ n
  all_goals
    go_enter Try.func31, Try.ntmps31
    go_wp2
    go_ret
    exact ⟨by simp [inB]; try omega, rfl⟩

set_option maxHeartbeats 400000 in
theorem in_any (n a b : Int) (w : World) :
    Calls Try.prog 40 #[.int .i64 n, .int .i64 a, .int .i64 b] w fun e w' => e = .returned (.bool (inB n a b)) ∧ w = w' := by
  by_cases h : a ≤ n
  all_goals
    go_enter Try.func40, Try.ntmps40
    go_wp2
    go_ret
    exact ⟨by simp [inB]; try omega, rfl⟩

end Go.Proofs.Ythakkkljlpimlaa
