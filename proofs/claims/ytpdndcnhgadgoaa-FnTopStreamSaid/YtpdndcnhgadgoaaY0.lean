/- Several texts in one: lemmas and walks of the functions that the laws reach. -/
import Derived.Test.YtpdndcnhgadgoaaRows
import Derived.WalkKit
import Derived.WalkSpells
import Derived.WalkLawsBesides
import Derived.BigQuiet
import Derived.Deep.QuietTactic
import Derived.Lib.Hide
import Derived.StillTailTactics

/- General lemmas on worlds and slices, no program in sight. -/
namespace Go.Proofs.Ytpdndcnhgadgoaa
open Go.RowKit
set_option linter.unusedVariables false

def IntsAt (w : World) (a : Option Addr) (zs : List Int) : Prop :=
  zs = [] ∨ ∃ b off, a = some ⟨b, off, none⟩ ∧ b < w.heap.size ∧ ∀ j, j < zs.length → w.cell? ⟨b, off + j, none⟩ = some (.int .i64 (zs.getD j 0))

theorem IntsAt.at {w : World} {a : Option Addr} {zs : List Int} (h : IntsAt w a zs) {k : Nat} (hk : k < zs.length) :
    ∃ b off, a = some ⟨b, off, none⟩ ∧ w.cell? ⟨b, off + k, none⟩ = some (.int .i64 (zs.getD k 0)) := by
  rcases h with rfl | ⟨b, off, h1, _, h2⟩
  · simp at hk
  · exact ⟨b, off, h1, h2 k hk⟩

theorem IntsAt.below {w w' : World} {B : Nat} {a : Option Addr} {zs : List Int} (h : IntsAt w a zs) (hB : w.heap.size ≤ B) (hb : Below B w w') : IntsAt w' a zs := by
  rcases h with h | ⟨b, off, h1, h0, h2⟩
  · exact .inl h
  · refine .inr ⟨b, off, h1, by have := hb.size; omega, fun j hj => ?_⟩
    rw [hb.cell (p := ⟨b, off + j, none⟩) (by show b < B; omega)]; exact h2 j hj

theorem IntsAt.nil (w : World) (a : Option Addr) : IntsAt w a [] := .inl rfl

/-- What comes in: the cells up to the capacity; the first 'len' are the elements. -/
theorem ints_of_row {w : World} {x : Addr} {len : Nat} {zs : List Int} (hl : len ≤ zs.length) (hc : ∀ i, i < zs.length → w.cell? (x.add i) = some (.int .i64 (zs.getD i 0))) : IntsAt w (some x) (zs.take len) := by
  by_cases h0 : len = 0
  · subst h0; exact .inl (by simp)
  · obtain ⟨b, off, spot⟩ := x
    have hc0 := hc 0 (by omega)
    have hs : spot = none := by simpa [Addr.add] using World.cell?_spot hc0
    subst hs
    refine .inr ⟨b, off, rfl, World.block_lt_of_cell? w _ (by simpa [Addr.add] using hc0), fun j hj => ?_⟩
    have hj' : j < len := by simp at hj; omega
    have := hc j (by omega)
    have e : (⟨b, off, none⟩ : Addr).add j = ⟨b, off + j, none⟩ := by unfold Addr.add; split <;> simp_all
    rw [e] at this
    rw [this]
    simp [List.getD, hj']

/-- What is owned can be read. -/
theorem ints_of_own {w : World} {base : Nat} {e : TypeId} {a : Option Addr} {n c : Nat} {zs : List Int} (h : w.ownsRow base e 1 (.slice a n c) n (zs.map (Value.int .i64))) : IntsAt w a zs := by
  obtain ⟨h1, h2⟩ := h
  rcases h2 with ⟨h2, h3⟩ | ⟨g, cap, cur, hv, _, hg, hn, hc, hs, ht⟩
  · refine .inl ?_
    subst h3; simpa using h1
  · simp only [Value.slice.injEq] at hv
    obtain ⟨rfl, _, rfl⟩ := hv
    refine .inr ⟨g, 0, rfl, (Array.getElem?_eq_some_iff.1 hg).1, fun j hj => ?_⟩
    have hx : (zs.map (Value.int .i64))[j]? = some (.int .i64 (zs.getD j 0)) := by simp [List.getD, List.getElem?_eq_getElem hj]
    rw [← ht, List.getElem?_take] at hx
    split at hx
    · simp [World.cell?, hg]
      simpa using hx
    · cases hx

theorem own_slice {w : World} {base : Nat} {e : TypeId} {size n : Nat} {v : Value} {xs : List Value} (h : w.ownsRow base e size v n xs) : ∃ a c, v = .slice a n c := by
  rcases h.2 with ⟨h2, h3⟩ | ⟨g, cap, cur, hv, _⟩
  · subst h3; exact ⟨_, _, h2⟩
  · exact ⟨_, _, hv⟩

theorem own_below {B : Nat} {e : TypeId} {k : Nat} {v : Value} {n : Nat} {xs : List Value} {w w' : World} {S : Nat} (h : w.ownsRow B e k v n xs) (hS : w.heap.size ≤ S) (hb : Below S w w') : w'.ownsRow B e k v n xs := by
  refine ⟨h.1, ?_⟩
  rcases h.2 with h2 | ⟨g, cap, cur, hv, hg, hh, r⟩
  · exact .inl h2
  · refine .inr ⟨g, cap, cur, hv, hg, ?_, r⟩
    rw [hb.block g (by have := (Array.getElem?_eq_some_iff.1 hh).1; omega)]; exact hh

/-- A store into a row that was made whole. -/
theorem below_store {B : Nat} {a w : World} (h : Below B a w) {p : Addr} (hp : B ≤ p.block) (u : Value) : Below B a (w.setCell p u) := h.setCell hp u

theorem ret_bool {a b : Bool} (h : a = b) : Ending.returned (.bool a) = .returned (.bool b) := by rw [h]
theorem ret_int {a b : Int} (h : a = b) : Ending.returned (.int .i64 a) = .returned (.int .i64 b) := by rw [h]
theorem ret_int_bool {a b : Int} {c d : Bool} (h : a = b) (k : c = d) : Ending.returned (.tuple #[.int .i64 a, .bool c]) = .returned (.tuple #[.int .i64 b, .bool d]) := by rw [h, k]
theorem ret_bool2 {a b : Bool} {c d : Bool} (h : a = b) (k : c = d) : Ending.returned (.tuple #[.bool a, .bool c]) = .returned (.tuple #[.bool b, .bool d]) := by rw [h, k]

end Go.Proofs.Ytpdndcnhgadgoaa

/- General lemmas on append and make, no program in sight: what is appended to a list of the call's own, and which block it then lies in. -/
namespace Go.Proofs.Ytpdndcnhgadgoaa
open Go.RowKit
set_option linter.unusedVariables false

/-- What is known of a slice type and its element's type. -/
structure SlT (P : Program) (t e : TypeId) (z : Value) (size bytes : Nat) : Prop where
  und : P.underlying t = some (.slice e)
  info : ∃ i, P.info? e = some i ∧ i.zero = some z ∧ i.size = size ∧ i.bytes = bytes
  cells : z.cells.size = size
  pos : 0 < size
  small : bytes ≤ 128

theorem run_app_tag {P : Program} (w : World) {t e : TypeId} {z : Value} {size bytes : Nat} (T : SlT P t e z size bytes) (base : Nat) (ty : TypeId)
    (v : Value) (n : Nat) (xs : List Value) (hown : w.ownsRow base e size v n xs)
    (a : Addr) (m c : Nat) (news : List Value) (hl : news.length = m * size) (hnews : ∀ j u, news[j]? = some u → w.cell? (a.add j) = some u) (h1 : ∀ u ∈ news, u.oneCell' = true)
    (hsmall : n + m ≤ 1099511627776) (hbase : base ≤ w.heap.size) :
    ∃ v' w', (Builtin.append_ #[t, t] ty #[v, .slice (some a) m c]).run P w = .ok v' w' ∧ w'.ownsRow base e size v' (n + m) (xs ++ news) ∧ w.grownBy w' v.ownBlock ∧
      (v'.ownBlock = v.ownBlock ∨ v'.ownBlock = some w.heap.size) := by
  obtain ⟨i, hi, hz, hs, hby⟩ := T.info
  have hb47 : (n + m) * bytes ≤ 140737488355328 := by
    have := Nat.mul_le_mul hsmall T.small
    omega
  have hml : n + m ≤ maxLen := by unfold maxLen; omega
  obtain ⟨v', w', hr, g1, g2, g3⟩ := run_append_own (P := P) w base t ty e i z size bytes T.und hi hz hs hby T.cells T.pos v n xs hown a m c news hl hnews h1 hml hb47 hbase
  refine ⟨v', w', hr, g1, g2, ?_⟩
  subst hs
  rcases hown.2 with ⟨hv, hn⟩ | ⟨g, cap, cur, hv, _, hg, hnc, hcm, hcs, htake⟩
  · subst hn
    by_cases hm : m = 0
    · left; rw [g3.2 ⟨hv, hm⟩, hv]
    · right
      have h47 : m * i.bytes ≤ 281474976710656 := by rw [hby]; simp at hb47; omega
      have hq := run_append_nil (P := P) w t ty e i z T.und hi hz a m c news hl hnews (by omega) (by unfold maxLen at hml; omega) h47
      rw [hv] at hr
      rw [hr] at hq
      injection hq with e1 _
      rw [e1]; rfl
  · by_cases hroom : n + m ≤ cap
    · left
      have hfit : n * i.size + news.length ≤ cur.size := by rw [hl, hcs, ← Nat.add_mul]; exact Nat.mul_le_mul_right _ hroom
      have hq := run_append_room (P := P) w t ty e i T.und hi g n cap cur hg a m c news hl hnews h1 hroom hfit
      rw [hv] at hr
      rw [hr] at hq
      injection hq with e1 _
      rw [e1, hv]; rfl
    · right
      have holds : ∀ j u, xs[j]? = some u → w.cell? ((⟨g, 0, none⟩ : Addr).add j) = some u := hown.cells (g := g) (by rw [hv]; rfl)
      have hq := run_append_grow (P := P) w t ty e i z T.und hi hz ⟨g, 0, none⟩ n cap xs hown.1 holds a m c news hl hnews (by omega) (by unfold maxLen at hml; omega) (growslice_fits (by omega) (by rw [hby]; exact hb47))
      rw [hv] at hr
      rw [hr] at hq
      injection hq with e1 _
      rw [e1]; rfl

theorem grownBy_pre {w w' : World} {o : Obj} {row : Option Nat} (h : (w.alloc o).grownBy w' row) : w.grownBy w' row :=
  ⟨h.os, h.tape, h.output, Nat.le_trans (by simp) h.size, fun k hk hne => (h.block k (by simp; omega) hne).trans (Below.heap_alloc w o k hk)⟩

theorem addr_add_zero (g j : Nat) : (⟨g, 0, none⟩ : Addr).add j = ⟨g, j, none⟩ := by unfold Addr.add; split <;> simp_all

theorem cells_new (w : World) (news : List Value) (e : TypeId) : ∀ j u, news[j]? = some u → (w.alloc (.cells news.toArray e)).cell? ((⟨w.heap.size, 0, none⟩ : Addr).add j) = some u := by
  intro j u hu
  rw [addr_add_zero, cell_of_row _ w.heap.size j news.toArray e (0, 0) (heap_alloc_new w _)]
  simpa using hu

/-- 'append(s, x)', x one element that was just laid in a block of its own. -/
theorem wpList_app1 {P : Program} {w0 : World} {ops : Array Oper} {rest : List Oper} {o : Oper} {a : Act} {Q : Exit → Act → World → Prop} {t e : TypeId} {z : Value} {size bytes : Nat} (T : SlT P t e z size bytes)
    (hgd : o.guard = none) (s y : Operand) (ho : o.op = .call { callee := .builtin .append, args := #[s, y], argTypes := #[t, t] })
    {base : Nat} {v : Value} {n : Nat} {xs : List Value} (hs : a.eval s = v) (hown : w0.ownsRow base e size v n xs) (news : List Value) (hl : news.length = size)
    {b : Nat} (hx : a.eval y = .slice (some ⟨b, 0, none⟩) 1 1) (hb : w0.heap.size = b) (h1 : ∀ u ∈ news, u.oneCell' = true) (hsmall : n + 1 ≤ 1099511627776) (hbase : base ≤ w0.heap.size)
    (h : ∀ v' w', w'.ownsRow base e size v' (n + 1) (xs ++ news) → w0.grownBy w' v.ownBlock → (v'.ownBlock = v.ownBlock ∨ v'.ownBlock = some (w0.heap.size + 1)) → wpList P ops Q rest (a.put o.dst v') w') :
    wpList P ops Q (o :: rest) a (w0.alloc (.cells news.toArray e)) := by
  subst hb
  refine wpList_plain hgd fun K hK => ?_
  obtain ⟨v', w', hr, h2, h3, h4⟩ := run_app_tag (P := P) (w0.alloc (.cells news.toArray e)) T base o.type v n xs (hown.alloc _) ⟨w0.heap.size, 0, none⟩ 1 1 news (by omega) (cells_new w0 news e) h1 hsmall (by simp; omega)
  unfold Oper.wp execOp
  simp only [ho, resolve, invoke, builtin, Sem.run_bind, Sem.run_pure, Result.andThen_ok, List.map_toArray, List.map_cons, List.map_nil, hs, hx, hr]
  exact hK _ _ (h v' w' h2 (grownBy_pre h3) (by simpa using h4))

/-- 'make([]T, n)'. -/
theorem wpList_mk {P : Program} {w : World} {ops : Array Oper} {rest : List Oper} {o : Oper} {a : Act} {Q : Exit → Act → World → Prop} {t e : TypeId} {z : Value} {size bytes : Nat} (T : SlT P t e z size bytes)
    (hg : o.guard = none) (l c : Operand) (hop : o.op = Op.makeSlice t l c) (n : Nat) (hl : a.eval l = .int .i64 n) (hc : a.eval c = .int .i64 n) (hn : n ≤ 1099511627776)
    (hK : ∀ w', w'.ownsRow w.heap.size e size (.slice (some ⟨w.heap.size, 0, none⟩) n n) n (madeCells z.cells (n * size)).toList → Below w.heap.size w w' → w.heap.size < w'.heap.size → wpList P ops Q rest (a.put o.dst (.slice (some ⟨w.heap.size, 0, none⟩) n n)) w') :
    wpList P ops Q (o :: rest) a w := by
  obtain ⟨i, hi, hz, hs, hby⟩ := T.info
  refine wpList_make_full w hg l c t hop w.heap.size e i z size T.und hi hz hs .i64 .i64 n n n hl hc rfl rfl ?_ (by unfold maxLen; omega) (Nat.le_refl _) ?_
  · rw [hby]
    have := Nat.mul_le_mul T.small hn
    omega
  · intro w' h1 h2
    refine hK w' h1 ((Below.refl _ _).grown h2 (Nat.le_refl _) (fun k hk => by cases hk)) ?_
    exact (h1.lt w.heap.size rfl).2

/-- Behind 'append': what lies below is as it was. -/
theorem below_app {B : Nat} {w0 w w' : World} {v : Value} {base : Nat} {e : TypeId} {size n : Nat} {xs : List Value} (h : Below B w0 w) (hB : B ≤ w.heap.size) (hown : w.ownsRow base e size v n xs) (hbase : B ≤ base) (hg : w.grownBy w' v.ownBlock) : Below B w0 w' :=
  h.grown hg hB (fun k hk => Nat.le_trans hbase (hown.lt k hk).1)

/-- What another list owns is kept by an append, where the blocks are two. -/
theorem own_other {w w' : World} {base : Nat} {e : TypeId} {size n : Nat} {u : Value} {ys : List Value} {row : Option Nat} (h : w.ownsRow base e size u n ys) (hg : w.grownBy w' row) (hne : ∀ k, u.ownBlock = some k → row ≠ some k) : w'.ownsRow base e size u n ys := by
  refine h.kept hg ?_
  cases hu : u.ownBlock with
  | none => exact .inl rfl
  | some k => right; intro e; exact hne k hu e.symm

/-- A new list of literal elements. -/
theorem own_lit {w : World} {e : TypeId} {size : Nat} (cs : Array Value) (n : Nat) (hm : n ≤ 1099511627776) (hs : cs.size = n * size) :
    (w.alloc (.cells cs e)).ownsRow w.heap.size e size (.slice (some ⟨w.heap.size, 0, none⟩) n n) n cs.toList :=
  World.ownsRow_lit w cs n (Nat.le_refl _) (by unfold maxLen; omega) hs

theorem own_mono {w : World} {base base' : Nat} {e : TypeId} {size : Nat} {v : Value} {n : Nat} {xs : List Value} (h : w.ownsRow base e size v n xs) (hb : base' ≤ base) : w.ownsRow base' e size v n xs :=
  ⟨h.1, h.2.imp id fun ⟨g, cap, cur, hv, hg, r⟩ => ⟨g, cap, cur, hv, Nat.le_trans hb hg, r⟩⟩

end Go.Proofs.Ytpdndcnhgadgoaa

/- General lemmas on lists of structs laid flat, no program in sight. -/
namespace Go.Proofs.Ytpdndcnhgadgoaa
open Go.RowKit
set_option linter.unusedVariables false

/-- Elements of several cells, one behind the other. -/
def flat {α : Type} (enc : α → List Value) (rs : List α) : List Value := rs.flatMap enc

theorem flat_append {α : Type} (enc : α → List Value) (rs qs : List α) : flat enc (rs ++ qs) = flat enc rs ++ flat enc qs := by simp [flat]
theorem flat_one {α : Type} (enc : α → List Value) (r : α) : flat enc [r] = enc r := by simp [flat]
theorem flat_nil {α : Type} (enc : α → List Value) : flat enc [] = [] := rfl
theorem flat_length {α : Type} {enc : α → List Value} {S : Nat} (hS : ∀ r, (enc r).length = S) (rs : List α) : (flat enc rs).length = rs.length * S := by
  induction rs with
  | nil => simp [flat]
  | cons r t ih =>
    have : flat enc (r :: t) = enc r ++ flat enc t := rfl
    rw [this, List.length_append, ih, hS]; simp [Nat.add_mul]; omega

theorem flat_get {α : Type} {enc : α → List Value} {S : Nat} (hS : ∀ r, (enc r).length = S) (rs : List α) (j i : Nat) (hi : i < S) : (flat enc rs)[j * S + i]? = rs[j]?.bind fun r => (enc r)[i]? := by
  induction rs generalizing j with
  | nil => simp [flat]
  | cons r t ih =>
    have e : flat enc (r :: t) = enc r ++ flat enc t := rfl
    rw [e]
    cases j with
    | zero => rw [List.getElem?_append_left (by rw [hS]; omega)]; simp
    | succ j =>
      rw [List.getElem?_append_right (by rw [hS, Nat.add_mul]; omega), hS]
      rw [show (j + 1) * S + i - S = j * S + i from by rw [Nat.add_mul]; omega, ih]
      simp

theorem flat_ext {α : Type} {enc : α → List Value} {S : Nat} (hS : ∀ r, (enc r).length = S) (h0 : 0 < S) {l : List Value} {rs : List α} (hl : l.length = rs.length * S)
    (h : ∀ j i, j < rs.length → i < S → l[j * S + i]? = rs[j]?.bind fun r => (enc r)[i]?) : l = flat enc rs := by
  apply List.ext_getElem?
  intro q
  by_cases hq : q < rs.length * S
  · have hj : q / S < rs.length := (Nat.div_lt_iff_lt_mul h0).2 hq
    have hi : q % S < S := Nat.mod_lt _ h0
    have := h (q / S) (q % S) hj hi
    rw [← flat_get hS rs _ _ hi] at this
    rwa [Nat.mul_comm, Nat.div_add_mod] at this
  · rw [List.getElem?_eq_none (by omega), List.getElem?_eq_none (by rw [flat_length hS]; omega)]

/-- A list whose first k elements are laid, the others still zero. -/
def fillL {α : Type} (n k : Nat) (f : Nat → α) (z : α) : List α := (List.range n).map fun j => if j < k then f j else z
theorem fillL_length {α : Type} (n k : Nat) (f : Nat → α) (z : α) : (fillL n k f z).length = n := by simp [fillL]
theorem fillL_zero {α : Type} (n : Nat) (f : Nat → α) (z : α) : fillL n 0 f z = List.replicate n z := by
  apply List.ext_getElem <;> simp [fillL]
theorem fillL_succ {α : Type} {n k : Nat} (f : Nat → α) (z : α) (h : k < n) : (fillL n k f z).set k (f k) = fillL n (k + 1) f z := by
  apply List.ext_getElem
  · simp [fillL]
  · intro j h1 h2
    simp only [fillL, List.getElem_set, List.getElem_map, List.getElem_range]
    by_cases e : k = j
    · subst e; simp
    · rw [if_neg e]
      by_cases hl : j < k
      · rw [if_pos hl, if_pos (by omega)]
      · rw [if_neg hl, if_neg (by omega)]
theorem fillL_end {α : Type} (zs : List α) (d z : α) : fillL zs.length zs.length (fun j => zs.getD j d) z = zs := by
  apply List.ext_getElem
  · simp [fillL]
  · intro j h1 h2
    simp [fillL, h2, List.getD]

/-- Two cells at one element are written. -/
theorem flat_set2 {α : Type} {enc : α → List Value} (hS : ∀ r, (enc r).length = 2) (rs : List α) (k : Nat) (hk : k < rs.length) (r : α) (x y : Value) (he : enc r = [x, y]) :
    ((flat enc rs).set (k * 2) x).set (k * 2 + 1) y = flat enc (rs.set k r) := by
  apply flat_ext hS (by omega)
  · simp [flat_length hS]
  · intro j i hj hi
    have hj' : j < rs.length := by simpa using hj
    rw [List.getElem?_set, List.getElem?_set]
    have hL : (flat enc rs).length = rs.length * 2 := flat_length hS rs
    by_cases e : k = j
    · subst e
      rw [List.getElem?_set_self hk, Option.bind_some, he]
      match i, hi with
      | 0, _ => rw [if_neg (by omega), if_pos (by omega), if_pos (by omega)]; rfl
      | 1, _ => rw [if_pos (by omega), if_pos (by simp; omega)]; rfl
    · rw [List.getElem?_set_ne e, if_neg (by omega), if_neg (by omega), flat_get hS _ _ _ hi]

/-- What 'make' lays, where an element has two cells. -/
theorem made2 {α : Type} {enc : α → List Value} (hS : ∀ r, (enc r).length = 2) (z : α) (x y : Value) (he : enc z = [x, y]) (n : Nat) : (madeCells #[x, y] (n * 2)).toList = flat enc (List.replicate n z) := by
  apply flat_ext hS (by omega)
  · simp [madeCells]
  · intro j i hj hi
    have hj' : j < n := by simpa using hj
    have : j * 2 + i < n * 2 := by omega
    have e2 : (j * 2 + i) % 2 = i := by omega
    simp only [madeCells, Array.toList_map, List.getElem?_map, Array.toList_range, List.getElem?_range this, List.getElem?_replicate, if_pos hj', Option.map_some, Option.bind_some, he]
    match i, hi with
    | 0, _ => simp
    | 1, _ => simp

def encR (r : Int × Int) : List Value := [.int .i64 r.1, .int .i64 r.2]
theorem encR_len (r : Int × Int) : (encR r).length = 2 := rfl

def RecsAt (w : World) (a : Option Addr) (rs : List (Int × Int)) : Prop :=
  rs = [] ∨ ∃ b off, a = some ⟨b, off, none⟩ ∧ b < w.heap.size ∧ ∀ j, j < rs.length → w.cell? ⟨b, off + j * 2, none⟩ = some (.int .i64 (rs.getD j (0, 0)).1) ∧ w.cell? ⟨b, off + j * 2 + 1, none⟩ = some (.int .i64 (rs.getD j (0, 0)).2)

theorem RecsAt.at {w : World} {a : Option Addr} {rs : List (Int × Int)} (h : RecsAt w a rs) {k : Nat} (hk : k < rs.length) :
    ∃ b off, a = some ⟨b, off, none⟩ ∧ w.cell? ⟨b, off + k * 2, none⟩ = some (.int .i64 (rs.getD k (0, 0)).1) ∧ w.cell? ⟨b, off + k * 2 + 1, none⟩ = some (.int .i64 (rs.getD k (0, 0)).2) := by
  rcases h with rfl | ⟨b, off, h1, _, h2⟩
  · simp at hk
  · exact ⟨b, off, h1, (h2 k hk).1, (h2 k hk).2⟩

theorem RecsAt.below {w w' : World} {B : Nat} {a : Option Addr} {rs : List (Int × Int)} (h : RecsAt w a rs) (hB : w.heap.size ≤ B) (hb : Below B w w') : RecsAt w' a rs := by
  rcases h with h | ⟨b, off, h1, h0, h2⟩
  · exact .inl h
  · refine .inr ⟨b, off, h1, by have := hb.size; omega, fun j hj => ?_⟩
    rw [hb.cell (p := ⟨b, off + j * 2, none⟩) (by show b < B; omega), hb.cell (p := ⟨b, off + j * 2 + 1, none⟩) (by show b < B; omega)]; exact h2 j hj

theorem own_cell {w : World} {base : Nat} {e : TypeId} {size : Nat} {a : Option Addr} {n c : Nat} {xs : List Value} (h : w.ownsRow base e size (.slice a n c) n xs) (hn : 0 < n) :
    ∃ g, a = some ⟨g, 0, none⟩ ∧ base ≤ g ∧ g < w.heap.size ∧ ∀ j, j < n * size → w.cell? ⟨g, j, none⟩ = xs[j]? := by
  rcases h.2 with ⟨_, h3⟩ | ⟨g, cap, cur, hv, hb, hg, _⟩
  · omega
  · simp only [Value.slice.injEq] at hv
    obtain ⟨rfl, _, rfl⟩ := hv
    exact ⟨g, rfl, hb, (Array.getElem?_eq_some_iff.1 hg).1, fun j hj => h.cellAt j hj⟩

theorem recs_of_own {w : World} {base : Nat} {e : TypeId} {a : Option Addr} {n c : Nat} {rs : List (Int × Int)} (h : w.ownsRow base e 2 (.slice a n c) n (flat encR rs)) : RecsAt w a rs := by
  have hn : rs.length = n := by have := h.1; rw [flat_length encR_len] at this; omega
  by_cases h0 : n = 0
  · left; exact List.eq_nil_of_length_eq_zero (by omega)
  · obtain ⟨g, rfl, _, hlt, hc⟩ := own_cell h (by omega)
    refine .inr ⟨g, 0, rfl, hlt, fun j hj => ⟨?_, ?_⟩⟩
    · rw [hc _ (by omega), Nat.zero_add, show j * 2 = j * 2 + 0 from rfl, flat_get encR_len _ _ _ (by omega)]
      simp [List.getElem?_eq_getElem hj, encR, List.getD]
    · rw [hc _ (by omega), Nat.zero_add, flat_get encR_len _ _ _ (by omega)]
      simp [List.getElem?_eq_getElem hj, encR, List.getD]

/-- One element is written into a list of the call's own: any number of cells. -/
theorem own_put {w : World} {base : Nat} {e : TypeId} {size g n cap : Nat} {xs : List Value} (h : w.ownsRow base e size (.slice (some ⟨g, 0, none⟩) n cap) n xs) (k : Nat) (hk : k < n) (news : List Value) (hl : news.length = size)
    {P : Program} (h1 : ∀ u ∈ news, u.oneCell' = true) :
    ∃ w', (storeCells ⟨g, k * size, none⟩ news 0).run P w = .ok () w' ∧ w'.ownsRow base e size (.slice (some ⟨g, 0, none⟩) n cap) n (xs.take (k * size) ++ news ++ xs.drop (k * size + size)) ∧ w.grownBy w' (some g) := by
  have hkn : k * size + size ≤ n * size := by
    rw [← Nat.succ_mul]; exact Nat.mul_le_mul_right _ hk
  rcases h.2 with ⟨h', _⟩ | ⟨g', cap', cur, h', hb, hg, hnc, hcm, hcs, htake⟩
  · simp at h'
  · simp only [Value.slice.injEq, Option.some.injEq, Addr.mk.injEq, and_true, true_and] at h'
    obtain ⟨rfl, rfl⟩ := h'
    have hnc' : n * size ≤ cap * size := Nat.mul_le_mul_right _ hnc
    have hst := run_storeCells_at P g (k * size) e news 0 cur w hg (by omega) h1
    refine ⟨_, hst, ⟨?_, .inr ⟨g, cap, _, rfl, hb, setRow_heap w g cur _ e _ hg, hnc, hcm, ?_, ?_⟩⟩, ⟨rfl, rfl, rfl, by simp, fun q _ hq => setRow_other w g q _ (fun e => hq (by simp [e]))⟩⟩
    · have := h.1
      simp only [List.length_append, List.length_take, List.length_drop]
      omega
    · simp only [Nat.add_zero, List.size_toArray, List.length_append, List.length_take, List.length_drop, Array.length_toList]
      omega
    · simp only [Nat.add_zero]
      rw [← htake, List.take_append, List.take_append, List.take_take, List.take_take, List.drop_take]
      simp only [List.length_append, List.length_take, Array.length_toList, hl]
      rw [Nat.min_eq_left (by omega : k * size ≤ cur.size), Nat.min_eq_right (by omega : k * size ≤ n * size), Nat.min_eq_left (by omega : k * size ≤ n * size), List.take_of_length_le (by omega : news.length ≤ n * size - k * size)]

theorem wpList_put {P : Program} {w : World} {ops : Array Oper} {rest : List Oper} {o : Oper} {a : Act} {Q : Exit → Act → World → Prop} {t e : TypeId} {z : Value} {size bytes : Nat} (T : SlT P t e z size bytes)
    (hgd : o.guard = none) (x y : Operand) (hop : o.op = .store e x y) {base g n cap : Nat} {xs : List Value} (k : Nat) (hx : a.eval x = .pointer (some ⟨g, k * size, none⟩)) (news : List Value) (hv : (a.eval y).cells.toList = news) (hl : news.length = size)
    (h1 : ∀ u ∈ news, u.oneCell' = true) (hown : w.ownsRow base e size (.slice (some ⟨g, 0, none⟩) n cap) n xs) (hk : k < n)
    (hK : ∀ w', w'.ownsRow base e size (.slice (some ⟨g, 0, none⟩) n cap) n (xs.take (k * size) ++ news ++ xs.drop (k * size + size)) → w.grownBy w' (some g) → wpList P ops Q rest (a.put o.dst undef) w') :
    wpList P ops Q (o :: rest) a w := by
  refine wpList_plain hgd fun K hK' => ?_
  obtain ⟨i, hi, _, hs, _⟩ := T.info
  obtain ⟨w', hr, g1, g2⟩ := own_put hown k hk news hl (P := P) h1
  have hsz : (a.eval y).cells.size = i.size := by rw [hs, ← hl, ← hv]; simp
  unfold Oper.wp execOp
  simp only [hop, hx, Instr.storeAt, Instr.sureAddr, storeVar, sizeOf, typeInfo, hv]
  simp [hi, hsz, hr]
  exact hK' _ _ (hK w' g1 g2)

theorem flat_put {α : Type} {enc : α → List Value} {S : Nat} (hS : ∀ r, (enc r).length = S) (rs : List α) (k : Nat) (hk : k < rs.length) (r : α) :
    (flat enc rs).take (k * S) ++ enc r ++ (flat enc rs).drop (k * S + S) = flat enc (rs.set k r) := by
  induction rs generalizing k with
  | nil => simp at hk
  | cons q t ih =>
    have e : flat enc (q :: t) = enc q ++ flat enc t := rfl
    cases k with
    | zero =>
      rw [e]
      simp only [Nat.zero_mul, List.take_zero, List.nil_append, Nat.zero_add, List.set_cons_zero]
      rw [List.drop_append_of_le_length (by rw [hS]; omega), List.drop_of_length_le (by rw [hS]; omega)]
      rfl
    | succ k =>
      have hk' : k < t.length := by simpa using hk
      rw [e, List.set_cons_succ]
      have e2 : flat enc (q :: t.set k r) = enc q ++ flat enc (t.set k r) := rfl
      rw [e2, ← ih k hk']
      rw [show (k + 1) * S = S + k * S from by rw [Nat.add_mul]; omega]
      rw [List.take_append, List.drop_append, hS, List.take_of_length_le (by rw [hS]; omega), List.drop_of_length_le (by rw [hS]; omega)]
      rw [show S + k * S - S = k * S from by omega, show S + k * S + S - S = k * S + S from by omega]
      simp

end Go.Proofs.Ytpdndcnhgadgoaa

/- General lemmas: what is kept while another block is written; whole variables stored; marks. -/
namespace Go.Proofs.Ytpdndcnhgadgoaa
open Go.RowKit
set_option linter.unusedVariables false

theorem grown_trans {a b c : World} {row : Option Nat} (h : a.grownBy b row) (k : b.grownBy c row) : a.grownBy c row :=
  ⟨k.os.trans h.os, k.tape.trans h.tape, k.output.trans h.output, Nat.le_trans h.size k.size, fun i hi hne => (k.block i (Nat.lt_of_lt_of_le hi h.size) hne).trans (h.block i hi hne)⟩
theorem grown_refl (w : World) (row : Option Nat) : w.grownBy w row := ⟨rfl, rfl, rfl, Nat.le_refl _, fun _ _ _ => rfl⟩
theorem grown_of_below {w w' : World} {row : Option Nat} (h : Below w.heap.size w w') : w.grownBy w' row := ⟨h.os, h.tape, h.output, h.size, fun k hk _ => h.block k hk⟩
theorem below_of_grown {B : Nat} {w0 w w' : World} {row : Option Nat} (h : Below B w0 w) (hB : B ≤ w.heap.size) (hg : w.grownBy w' row) (hr : ∀ k, row = some k → B ≤ k) : Below B w0 w' := h.grown hg hB hr

theorem IntsAt.grown {w w' : World} {row : Option Nat} {a : Option Addr} {zs : List Int} (h : IntsAt w a zs) (hg : w.grownBy w' row) (hne : ∀ b off, a = some ⟨b, off, none⟩ → row ≠ some b) : IntsAt w' a zs := by
  rcases h with h | ⟨b, off, h1, h0, h2⟩
  · exact .inl h
  · refine .inr ⟨b, off, h1, Nat.lt_of_lt_of_le h0 hg.size, fun j hj => ?_⟩
    have hb := hg.block b h0 (fun e => hne b off h1 e.symm)
    rw [World.cell?_of_block (w := w) (w' := w') (a := ⟨b, off + j, none⟩) hb]; exact h2 j hj

theorem RecsAt.grown {w w' : World} {row : Option Nat} {a : Option Addr} {zs : List (Int × Int)} (h : RecsAt w a zs) (hg : w.grownBy w' row) (hne : ∀ b off, a = some ⟨b, off, none⟩ → row ≠ some b) : RecsAt w' a zs := by
  rcases h with h | ⟨b, off, h1, h0, h2⟩
  · exact .inl h
  · refine .inr ⟨b, off, h1, Nat.lt_of_lt_of_le h0 hg.size, fun j hj => ?_⟩
    have hb := hg.block b h0 (fun e => hne b off h1 e.symm)
    rw [World.cell?_of_block (w := w) (w' := w') (a := ⟨b, off + j * 2, none⟩) hb, World.cell?_of_block (w := w) (w' := w') (a := ⟨b, off + j * 2 + 1, none⟩) hb]; exact h2 j hj

/-- Two lists owned from two bases lie in two blocks. -/
theorem own_ne {w w2 : World} {B1 B2 : Nat} {e1 e2 : TypeId} {s1 s2 n1 n2 : Nat} {v1 v2 : Value} {x1 x2 : List Value} (h1 : w.ownsRow B1 e1 s1 v1 n1 x1) (hB : w.heap.size ≤ B2) (h2 : w2.ownsRow B2 e2 s2 v2 n2 x2) : ∀ k, v1.ownBlock = some k → v2.ownBlock ≠ some k := by
  intro k a b
  have := (h1.lt k a).2
  have := (h2.lt k b).1
  omega

theorem ownBlock_slice {b off : Nat} {n c : Nat} : (Value.slice (some ⟨b, off, none⟩) n c).ownBlock = some b := rfl

theorem block_row {w w' : World} {g : Nat} {row : Option Nat} {o : Obj} (h : w.heap[g]? = some o) (hg : w.grownBy w' row) (hne : row ≠ some g) : w'.heap[g]? = some o := by
  rw [hg.block g (Array.getElem?_eq_some_iff.1 h).1 (fun e => hne e.symm)]; exact h

theorem block_below {w w' : World} {g B : Nat} {o : Obj} (h : w.heap[g]? = some o) (hb : Below B w w') (hlt : g < B) : w'.heap[g]? = some o := by
  rw [hb.block g hlt]; exact h

theorem block_new (w : World) (o : Obj) : (w.alloc o).heap[w.heap.size]? = some o := heap_alloc_new w o

theorem row_cell {w : World} {g : Nat} {cs : Array Value} {e : TypeId} {f : Nat × Nat} (h : w.heap[g]? = some (.cells cs e f)) (j : Nat) : w.cell? ⟨g, j, none⟩ = cs[j]? := cell_of_row w g j cs e f h

/-- A whole variable is stored. -/
theorem wpList_var {P : Program} {w : World} {ops : Array Oper} {rest : List Oper} {o : Oper} {a : Act} {Q : Exit → Act → World → Prop} (hgd : o.guard = none) (ty : TypeId) (x y : Operand) (ho : o.op = .store ty x y)
    {g : Nat} {cells : Array Value} (hx : a.eval x = .pointer (some ⟨g, 0, none⟩)) (hy : a.eval y = .agg cells) {t : TypeId} {old : Array Value} (hg : w.heap[g]? = some (.cells old t (0, 0)))
    (hi : (P.info? ty).map (·.size) = some cells.size) (hold : old.size = cells.size) (h1 : cells.all (·.oneCell') = true)
    (h : ∀ w', w'.heap[g]? = some (.cells cells t (0, 0)) → w.grownBy w' (some g) → wpList P ops Q rest (a.put o.dst undef) w') : wpList P ops Q (o :: rest) a w := by
  refine wpList_plain hgd fun K hK => ?_
  refine wp_store_row ty x y ho g cells hx hy t old hg hi hold h1 (hK _ _ (h _ (setRow_heap w g old cells t (0, 0) hg) ⟨rfl, rfl, rfl, by simp, fun q _ hq => setRow_other w g q _ (fun e => hq (by simp [e]))⟩))

/-- The marks on n records from k on; the first i are laid, the others still as they were. -/
def mkR (rs : List (Int × Int)) (k : Int) (i : Nat) : List (Int × Int) := (List.range rs.length).map fun j : Nat => if j < i then (k + 2 * (j : Int), k + 2 * (j : Int) + 1) else rs.getD j (0, 0)
theorem mkR_len (rs : List (Int × Int)) (k : Int) (i : Nat) : (mkR rs k i).length = rs.length := by simp [mkR]
theorem mkR_zero (rs : List (Int × Int)) (k : Int) : mkR rs k 0 = rs := by
  apply List.ext_getElem
  · simp [mkR]
  · intro j h1 h2; simp [mkR, List.getD, h2]
theorem mkR_succ {rs : List (Int × Int)} {k : Int} {i : Nat} (h : i < rs.length) : (mkR rs k i).set i (k + 2 * (i : Int), k + 2 * (i : Int) + 1) = mkR rs k (i + 1) := by
  apply List.ext_getElem
  · simp [mkR]
  · intro j h1 h2
    simp only [mkR, List.getElem_set, List.getElem_map, List.getElem_range]
    by_cases e : i = j
    · subst e; simp
    · rw [if_neg e]
      by_cases hl : j < i
      · rw [if_pos hl, if_pos (by omega)]
      · rw [if_neg hl, if_neg (by omega)]
theorem mkR_at {rs : List (Int × Int)} {k : Int} {j : Nat} (h : j < rs.length) : (mkR rs k rs.length).getD j (0, 0) = (k + 2 * (j : Int), k + 2 * (j : Int) + 1) := by
  simp [mkR, List.getD, h]

end Go.Proofs.Ytpdndcnhgadgoaa

/- General lemmas on copies of integer lists; no program in sight. -/
namespace Go.Proofs.Ytpdndcnhgadgoaa
open Go.RowKit
set_option linter.unusedVariables false

abbrev IL (l : List Int) : List Value := l.map (Value.int .i64)
theorem size_al (w : World) (o : Obj) : (w.alloc o).heap.size = w.heap.size + 1 := by simp

/-- What a copy holds after k rounds. -/
def fillK (n k : Nat) (f : Nat → Value) (z : Value) : List Value := (List.range n).map fun j => if j < k then f j else z
theorem fillK_length (n k : Nat) (f : Nat → Value) (z : Value) : (fillK n k f z).length = n := by simp [fillK]
theorem fillK_zero (n : Nat) (f : Nat → Value) (z : Value) : fillK n 0 f z = List.replicate n z := by
  apply List.ext_getElem <;> simp [fillK]
theorem fillK_succ {n k : Nat} (f : Nat → Value) (z : Value) (h : k < n) : (fillK n k f z).set k (f k) = fillK n (k + 1) f z := by
  apply List.ext_getElem
  · simp [fillK]
  · intro j h1 h2
    simp only [fillK, List.getElem_set, List.getElem_map, List.getElem_range]
    by_cases e : k = j
    · subst e; simp
    · rw [if_neg e]
      by_cases hl : j < k
      · rw [if_pos hl, if_pos (by omega)]
      · rw [if_neg hl, if_neg (by omega)]
theorem fillK_end (n : Nat) (f : Nat → Value) (z : Value) : fillK n n f z = (List.range n).map f := by
  apply List.ext_getElem
  · simp [fillK]
  · intro j h1 h2
    have : j < n := by simpa [fillK] using h1
    simp [fillK, this]
theorem range_getD {α β : Type} (zs : List α) (d : α) (f : α → β) : (List.range zs.length).map (fun j => f (zs.getD j d)) = zs.map f := by
  apply List.ext_getElem
  · simp
  · intro j h1 h2
    have : j < zs.length := by simpa using h1
    simp [List.getD, this]
def cpK (zs : List Int) (k : Nat) : List Value := fillK zs.length k (fun j => .int .i64 (zs.getD j 0)) (.int .i64 0)
theorem cpK_zero (zs : List Int) : cpK zs 0 = List.replicate zs.length (Value.int .i64 0) := fillK_zero _ _ _
theorem cpK_end (zs : List Int) : cpK zs zs.length = zs.map (Value.int .i64) := by
  unfold cpK; rw [fillK_end]; exact range_getD zs 0 _
theorem cpK_length (zs : List Int) (k : Nat) : (cpK zs k).length = zs.length := fillK_length _ _ _ _
theorem cpK_succ {zs : List Int} {k : Nat} (h : k < zs.length) : (cpK zs k).set k (.int .i64 (zs.getD k 0)) = cpK zs (k + 1) := fillK_succ (fun j => .int .i64 (zs.getD j 0)) _ h

end Go.Proofs.Ytpdndcnhgadgoaa

/- Walks: the cursor that draws arguments out of bytes. -/
namespace Go.Proofs.Ytpdndcnhgadgoaa
open Go.RowKit
set_option linter.unusedVariables false

theorem addr_add (b off j : Nat) : (⟨b, off, none⟩ : Addr).add j = ⟨b, off + j, none⟩ := by unfold Addr.add; split <;> simp_all

theorem u8_bounds {n : Int} (h : (Lit.int .u8 n).wf = true) : 0 ≤ n ∧ n ≤ 255 := by
  simp [Lit.wf, IntKind.min, IntKind.max, IntKind.bits, IntKind.signed] at h
  omega

def BytesAt (w : World) (a : Option Addr) (zs : List Int) : Prop :=
  zs = [] ∨ ∃ b off, a = some ⟨b, off, none⟩ ∧ b < w.heap.size ∧ ∀ j, j < zs.length → w.cell? ⟨b, off + j, none⟩ = some (.int .u8 (zs.getD j 0)) ∧ 0 ≤ zs.getD j 0 ∧ zs.getD j 0 ≤ 255

theorem BytesAt.at {w : World} {a : Option Addr} {zs : List Int} (h : BytesAt w a zs) {k : Nat} (hk : k < zs.length) :
    ∃ b off, a = some ⟨b, off, none⟩ ∧ w.cell? ⟨b, off + k, none⟩ = some (.int .u8 (zs.getD k 0)) ∧ 0 ≤ zs.getD k 0 ∧ zs.getD k 0 ≤ 255 := by
  rcases h with rfl | ⟨b, off, h1, _, h2⟩
  · simp at hk
  · exact ⟨b, off, h1, h2 k hk⟩

theorem BytesAt.below {w w' : World} {B : Nat} {a : Option Addr} {zs : List Int} (h : BytesAt w a zs) (hB : w.heap.size ≤ B) (hb : Below B w w') : BytesAt w' a zs := by
  rcases h with h | ⟨b, off, h1, h0, h2⟩
  · exact .inl h
  · refine .inr ⟨b, off, h1, by have := hb.size; omega, fun j hj => ?_⟩
    rw [hb.cell (p := ⟨b, off + j, none⟩) (by show b < B; omega)]; exact h2 j hj

theorem BytesAt.grown {w w' : World} {row : Option Nat} {a : Option Addr} {zs : List Int} (h : BytesAt w a zs) (hg : w.grownBy w' row) (hne : zs ≠ [] → ∀ b off, a = some ⟨b, off, none⟩ → row ≠ some b) : BytesAt w' a zs := by
  by_cases hz : zs = []
  · exact .inl hz
  have hne := hne hz
  rcases h with h | ⟨b, off, h1, h0, h2⟩
  · exact .inl h
  · refine .inr ⟨b, off, h1, Nat.lt_of_lt_of_le h0 hg.size, fun j hj => ?_⟩
    have hb := hg.block b h0 (fun e => hne b off h1 e.symm)
    rw [World.cell?_of_block (w := w) (w' := w') (a := ⟨b, off + j, none⟩) hb]; exact h2 j hj

theorem bytes_of_row {w : World} {x : Addr} {len : Nat} {zs : List Int} (hl : len ≤ zs.length) (hc : ∀ i, i < zs.length → w.cell? (x.add i) = some (.int .u8 (zs.getD i 0))) (hw : ∀ n ∈ zs, (Lit.int .u8 n).wf = true) : BytesAt w (some x) (zs.take len) := by
  by_cases h0 : len = 0
  · subst h0; exact .inl (by simp)
  · obtain ⟨b, off, spot⟩ := x
    have hc0 := hc 0 (by omega)
    have hs : spot = none := by simpa [Addr.add] using World.cell?_spot hc0
    subst hs
    refine .inr ⟨b, off, rfl, World.block_lt_of_cell? w _ (by simpa [Addr.add] using hc0), fun j hj => ?_⟩
    have hj' : j < len := by simp at hj; omega
    have := hc j (by omega)
    rw [addr_add] at this
    have e : (zs.take len).getD j 0 = zs.getD j 0 := by simp [List.getD, hj']
    rw [e]
    have hm : zs.getD j 0 ∈ zs := by simp [List.getD, show j < zs.length by omega]
    have hwf := hw _ hm
    refine ⟨this, ?_⟩
    have hb := u8_bounds hwf
    omega

theorem setcell_grown (w : World) (g j : Nat) (u : Value) : w.grownBy (w.setCell ⟨g, j, none⟩ u) (some g) :=
  ⟨rfl, rfl, rfl, by simp, fun k _ hk => heap_setCell_other w ⟨g, j, none⟩ k u (fun e => hk (by simp [e]))⟩
theorem drewN_grown (w : World) (n : Nat) (row : Option Nat) : w.grownBy (w.drewN n) row := ⟨rfl, rfl, rfl, Nat.le_refl _, fun _ _ _ => rfl⟩

theorem cur_grown (w : World) (bc a b : Nat) (u v : Value) : w.grownBy ((((w.drewN a).setCell ⟨bc, 1, none⟩ u).setCell ⟨bc, 2, none⟩ v).drewN b) (some bc) :=
  grown_trans (grown_trans (grown_trans (drewN_grown w a _) (setcell_grown _ bc 1 u)) (setcell_grown _ bc 2 v)) (drewN_grown _ b _)

/-- The cursor: a block of three cells over the bytes zs; at most M choices have been read. -/
structure Cur (w : World) (bc : Nat) (ac : Option Addr) (zs : List Int) (M : Int) : Prop where
  cells : ∃ (cc : Nat) (p s : Int), w.heap[bc]? = some (.cells #[.slice ac zs.length cc, .int .i64 p, .int .u64 s] 40 (0, 0)) ∧ 0 ≤ p ∧ p ≤ M
  code : BytesAt w ac zs
  apart : zs ≠ [] → ∀ b off, ac = some ⟨b, off, none⟩ → b ≠ bc
  len : zs.length ≤ 1048576

theorem Cur.step {w W' : World} {bc : Nat} {ac : Option Addr} {zs : List Int} {M' : Int} {cc : Nat} {p' s' : Int} (hcode : BytesAt w ac zs) (hap : zs ≠ [] → ∀ b off, ac = some ⟨b, off, none⟩ → b ≠ bc) (hlen : zs.length ≤ 1048576) (hg : w.grownBy W' (some bc))
    (hr : W'.heap[bc]? = some (.cells #[.slice ac zs.length cc, .int .i64 p', .int .u64 s'] 40 (0, 0))) (h0 : 0 ≤ p') (h1 : p' ≤ M') : Cur W' bc ac zs M' :=
  ⟨⟨cc, p', s', hr, h0, h1⟩, hcode.grown hg (fun h0 b off e e2 => hap h0 b off e (by injection e2 with e2; exact e2.symm)), hap, hlen⟩

theorem cur_row {w : World} {bc cc n : Nat} {ac : Option Addr} {p s p' s' : Int} {e : TypeId} (a : Nat) (hr : w.heap[bc]? = some (.cells #[.slice ac n cc, .int .i64 p, .int .u64 s] e (0, 0))) :
    (((w.drewN a).setCell ⟨bc, 1, none⟩ (.int .i64 p')).setCell ⟨bc, 2, none⟩ (.int .u64 s')).heap[bc]? = some (.cells #[.slice ac n cc, .int .i64 p', .int .u64 s'] e (0, 0)) := by
  have h1 := heap_setCell_same (w.drewN a) bc 1 _ e (.int .i64 p') (show (w.drewN a).heap[bc]? = _ from hr)
  have h2 := heap_setCell_same _ bc 2 _ e (.int .u64 s') h1
  exact h2

theorem u64wrap_bounds (n : Int) : 0 ≤ IntKind.u64.wrap n ∧ IntKind.u64.wrap n < 18446744073709551616 := by
  simp only [IntKind.wrap, IntKind.signed, IntKind.bits, Bool.false_and, Bool.false_eq_true, if_false]
  omega

theorem seed_byte {E n : Int} (h : E = IntKind.u64.wrap n) : 0 ≤ wrap64 (bits .and .u64 (E / 1099511627776) 255) ∧ wrap64 (bits .and .u64 (E / 1099511627776) 255) ≤ 255 := by
  obtain ⟨h0, h1⟩ := u64wrap_bounds n
  rw [← h] at h0 h1
  have h2 : 0 ≤ E / 1099511627776 := by omega
  have h3 : E / 1099511627776 < 18446744073709551616 := by omega
  generalize E / 1099511627776 = F at h2 h3
  have hb := bits_and_u64_nat F.toNat 255 (by omega) (by omega)
  rw [Int.toNat_of_nonneg h2] at hb
  have e : bits .and .u64 F 255 = ((F.toNat &&& 255 : Nat) : Int) := hb
  rw [e]
  have hle : F.toNat &&& 255 ≤ 255 := Nat.and_le_right
  unfold wrap64
  omega

set_option maxRecDepth 100000 in
set_option maxHeartbeats 1000000 in
theorem next_any (bc : Nat) (ac : Option Addr) (zs : List Int) (M : Int) (w : World) (hM : M ≤ 1099511627776) (h : Cur w bc ac zs M) :
    Calls Try.prog 39 #[.pointer (some ⟨bc, 0, none⟩)] w fun e w' => (∃ r : Int, e = .returned (.int .i64 r) ∧ 0 ≤ r ∧ r ≤ 255) ∧ Cur w' bc ac zs (M + 1) ∧ w.grownBy w' (some bc) := by
  obtain ⟨⟨cc, p, s, hrow, hp0, hp1⟩, hcode, hap, hlen⟩ := h
  have c0 : w.cell? ⟨bc, 0, none⟩ = some (.slice ac zs.length cc) := row_cell hrow 0
  have c1 : w.cell? ⟨bc, 1, none⟩ = some (.int .i64 p) := row_cell hrow 1
  have c2 : w.cell? ⟨bc, 2, none⟩ = some (.int .u64 s) := row_cell hrow 2
  have f1 : w.frozen? ⟨bc, 1, none⟩ = false := frozen_of_row w bc 1 _ _ hrow
  have f2 : w.frozen? ⟨bc, 2, none⟩ = false := frozen_of_row w bc 2 _ _ hrow
  have HROW := Lib.hid hrow
  have HCODE := Lib.hid hcode
  have HAP := Lib.hid hap
  clear hrow hcode hap
  by_cases hlt : p < zs.length
  · obtain ⟨k, rfl⟩ := Int.eq_ofNat_of_zero_le hp0
    obtain ⟨b, off, rfl, hc, hb0, hb1⟩ := HCODE.out.at (show k < zs.length by omega)
    generalize zs.getD k 0 = x at hc hb0 hb1
    have hle : ((k : Int) + 1) ≤ zs.length := by omega
    go_enter Try.func39, Try.ntmps39
    go_wp2_with fail
    go_quiet (fail)
    go_wp2_with fail
    go_quiet (fail)
    go_wp2_with fail
    generalize IntKind.u64.wrap (IntKind.u64.wrap (IntKind.u64.wrap (s * 6364136223846793005) + x) + 907907) = E
    go_quiet (fail)
    go_wp2
    go_ret
    exact ⟨⟨x, rfl, hb0, hb1⟩, Cur.step HCODE.out HAP.out hlen (cur_grown w bc _ _ _ _) (cur_row _ HROW.out) (by omega) (by omega), cur_grown w bc _ _ _ _⟩
  · go_enter Try.func39, Try.ntmps39
    go_wp2_with fail
    go_quiet (fail)
    go_wp2_with fail
    generalize hE : IntKind.u64.wrap (IntKind.u64.wrap (IntKind.u64.wrap (s * 6364136223846793005)) + 907907) = E
    have HE := Lib.hid (seed_byte hE.symm)
    clear hE
    have hn : decide (p + 1 ≤ (zs.length : Int)) = false := by simp; omega
    go_quiet (fail)
    go_wp2
    go_ret
    exact ⟨⟨_, rfl, HE.out.1, HE.out.2⟩, Cur.step HCODE.out HAP.out hlen (cur_grown w bc _ _ _ _) (cur_row _ HROW.out) (by omega) (by omega), cur_grown w bc _ _ _ _⟩

set_option maxHeartbeats 400000 in
theorem pick_any (bc : Nat) (ac : Option Addr) (zs : List Int) (M n : Int) (w : World) (hM : M ≤ 1099511627000) (hn : n ≤ 60000) (h : Cur w bc ac zs M) :
    Calls Try.prog 24 #[.pointer (some ⟨bc, 0, none⟩), .int .i64 n] w fun e w' => (∃ r : Int, e = .returned (.int .i64 r) ∧ 0 ≤ r ∧ (r < n ∨ r = 0)) ∧ Cur w' bc ac zs (M + 2) ∧ w.grownBy w' (some bc) := by
  have H := Lib.hid h; clear h
  by_cases h1 : n ≤ 1
  · go_enter Try.func24, Try.ntmps24
    go_wp2
    go_ret
    have hc := H.out
    obtain ⟨⟨cc, p, s, hr, h0, h2⟩, hcode, hap, hlen⟩ := hc
    exact ⟨⟨0, rfl, by omega, by omega⟩, ⟨⟨cc, p, s, hr, h0, by omega⟩, hcode, hap, hlen⟩, grown_refl _ _⟩
  · by_cases h2 : n ≤ 200
    · go_enter Try.func24, Try.ntmps24
      go_wp2_with fail
      refine (next_any bc ac zs M _ (by omega) H.out).mono ?_
      rintro e w1 ⟨⟨r, rfl, hr0, hr1⟩, hc, hg⟩
      have HC := Lib.hid hc; clear hc
      have HG := Lib.hid hg; clear hg
      have q1 : 0 ≤ r % n := Int.emod_nonneg _ (by omega)
      have q2 : r % n < n := Int.emod_lt_of_pos _ (by omega)
      have Q := Lib.hid (And.intro q1 q2); clear q1 q2
      go_wp2
      go_ret
      obtain ⟨⟨cc, p, s, hr, h0, h2⟩, hcode, hap, hlen⟩ := HC.out
      exact ⟨⟨_, rfl, Q.out.1, .inl Q.out.2⟩, ⟨⟨cc, p, s, hr, h0, by omega⟩, hcode, hap, hlen⟩, HG.out⟩
    · go_enter Try.func24, Try.ntmps24
      go_wp2_with fail
      refine (next_any bc ac zs M _ (by omega) H.out).mono ?_
      rintro e w1 ⟨⟨r, rfl, hr0, hr1⟩, hc, hg⟩
      have HC := Lib.hid hc; clear hc
      have HG := Lib.hid hg; clear hg
      go_wp2_with fail
      refine (next_any bc ac zs (M + 1) _ (by omega) HC.out).mono ?_
      rintro e w2 ⟨⟨r2, rfl, hs0, hs1⟩, hc, hg⟩
      have HC2 := Lib.hid hc; clear hc
      have HG2 := Lib.hid (grown_trans HG.out hg); clear hg
      have q1 : 0 ≤ (r * 256 + r2) % n := Int.emod_nonneg _ (by omega)
      have q2 : (r * 256 + r2) % n < n := Int.emod_lt_of_pos _ (by omega)
      have Q := Lib.hid (And.intro q1 q2); clear q1 q2
      go_wp2
      go_ret
      obtain ⟨⟨cc, p, s, hr, h0, h2⟩, hcode, hap, hlen⟩ := HC2.out
      exact ⟨⟨_, rfl, Q.out.1, .inl Q.out.2⟩, ⟨⟨cc, p, s, hr, h0, by omega⟩, hcode, hap, hlen⟩, HG2.out⟩

set_option maxHeartbeats 400000 in
theorem one_any (bc : Nat) (ac : Option Addr) (zs : List Int) (M n : Int) (w : World) (hM : M ≤ 1099511627000) (hn : n ≤ 60000) (h : Cur w bc ac zs M) :
    Calls Try.prog 45 #[.pointer (some ⟨bc, 0, none⟩), .int .i64 n] w fun e w' => (∃ b : Bool, e = .returned (.bool b)) ∧ Cur w' bc ac zs (M + 2) ∧ w.grownBy w' (some bc) := by
  have H := Lib.hid h; clear h
  go_enter Try.func45, Try.ntmps45
  go_wp2_with fail
  refine (pick_any bc ac zs M n _ hM hn H.out).mono ?_
  rintro e w1 ⟨⟨r, rfl, hr0, hr1⟩, hc, hg⟩
  have HC := Lib.hid hc; clear hc
  have HG := Lib.hid hg; clear hg hr1
  go_wp2
  go_ret
  exact ⟨⟨_, rfl⟩, HC.out, HG.out⟩

set_option maxHeartbeats 400000 in
/-- One of some numbers: whichever. -/
theorem among_any (bc : Nat) (ac : Option Addr) (zs : List Int) (M : Int) (a : Option Addr) (c : Nat) (ys : List Int) (w : World) (hM : M ≤ 1099511627000) (hy0 : 0 < ys.length) (hy : ys.length ≤ 200) (h : Cur w bc ac zs M) (hl : IntsAt w a ys) (hap : ∀ b off, a = some ⟨b, off, none⟩ → b ≠ bc) :
    Calls Try.prog 25 #[.pointer (some ⟨bc, 0, none⟩), .slice a ys.length c] w fun e w' => (∃ r : Int, e = .returned (.int .i64 r) ∧ r ∈ ys) ∧ Cur w' bc ac zs (M + 2) ∧ w.grownBy w' (some bc) := by
  have H := Lib.hid h; clear h
  have HL := Lib.hid hl; clear hl
  have HAP := Lib.hid hap; clear hap
  go_enter Try.func25, Try.ntmps25
  go_wp2_with fail
  refine (pick_any bc ac zs M _ _ hM (by omega) H.out).mono ?_
  rintro e w1 ⟨⟨r, rfl, hr0, hr1⟩, hc, hg⟩
  have HC := Lib.hid hc; clear hc
  have HL1 := Lib.hid (HL.out.grown hg (fun b off e e2 => HAP.out b off e (by injection e2 with e2; exact e2.symm)))
  have HG := Lib.hid hg; clear hg
  obtain ⟨k, rfl⟩ := Int.eq_ofNat_of_zero_le hr0
  have hk : k < ys.length := by omega
  obtain ⟨b, off, rfl, hcell⟩ := HL1.out.at hk
  have HM : Hid (ys.getD k 0 ∈ ys) := by show _ ∈ _; simp [List.getD, hk]
  generalize ys.getD k 0 = x at hcell HM
  go_wp2
  go_ret
  exact ⟨⟨_, rfl, HM.out⟩, HC.out, HG.out⟩

end Go.Proofs.Ytpdndcnhgadgoaa

/- General: the cursor while other memory grows. -/
namespace Go.Proofs.Ytpdndcnhgadgoaa
open Go.RowKit
set_option linter.unusedVariables false

theorem Cur.mono {w : World} {bc : Nat} {ac : Option Addr} {zs : List Int} {M M' : Int} (h : Cur w bc ac zs M) (hM : M ≤ M') : Cur w bc ac zs M' := by
  obtain ⟨⟨cc, p, s, hr, h0, h1⟩, hc, ha, hl⟩ := h
  exact ⟨⟨cc, p, s, hr, h0, by omega⟩, hc, ha, hl⟩
theorem Cur.lt {w : World} {bc : Nat} {ac : Option Addr} {zs : List Int} {M : Int} (h : Cur w bc ac zs M) : bc < w.heap.size := by
  obtain ⟨⟨cc, p, s, hr, _⟩, _⟩ := h
  exact (Array.getElem?_eq_some_iff.1 hr).1
theorem Cur.below {w w' : World} {bc : Nat} {ac : Option Addr} {zs : List Int} {M : Int} (h : Cur w bc ac zs M) (hb : Below w.heap.size w w') : Cur w' bc ac zs M := by
  have hlt := h.lt
  obtain ⟨⟨cc, p, s, hr, h0, h1⟩, hc, ha, hl⟩ := h
  exact ⟨⟨cc, p, s, block_below hr hb hlt, h0, h1⟩, hc.below (Nat.le_refl _) hb, ha, hl⟩
theorem Cur.app {w w' : World} {bc : Nat} {ac : Option Addr} {zs : List Int} {M : Int} {row : Option Nat} (h : Cur w bc ac zs M) (hg : w.grownBy w' row) (hne : row ≠ some bc) (hne2 : zs ≠ [] → ∀ b off, ac = some ⟨b, off, none⟩ → row ≠ some b) : Cur w' bc ac zs M := by
  obtain ⟨⟨cc, p, s, hr, h0, h1⟩, hc, ha, hl⟩ := h
  exact ⟨⟨cc, p, s, block_row hr hg hne, h0, h1⟩, hc.grown hg hne2, ha, hl⟩
theorem BytesAt.lt {w : World} {a : Option Addr} {zs : List Int} (h : BytesAt w a zs) (h0 : zs ≠ []) : ∃ b off, a = some ⟨b, off, none⟩ ∧ b < w.heap.size := by
  rcases h with h | ⟨b, off, h1, h2, _⟩
  · exact absurd h h0
  · exact ⟨b, off, h1, h2⟩

/-- Growth by new blocks and by writes into the cursor alone, seen from an older world. -/
theorem grown_app {w0 w w' : World} {bc : Nat} {v : Value} {base : Nat} {e : TypeId} {size n : Nat} {xs : List Value} (h : w0.grownBy w (some bc)) (hown : w.ownsRow base e size v n xs) (hb : w0.heap.size ≤ base) (hg : w.grownBy w' v.ownBlock) : w0.grownBy w' (some bc) :=
  ⟨hg.os.trans h.os, hg.tape.trans h.tape, hg.output.trans h.output, Nat.le_trans h.size hg.size, fun k hk hne => (hg.block k (Nat.lt_of_lt_of_le hk h.size) (fun e => by have := (hown.lt k e.symm).1; omega)).trans (h.block k hk hne)⟩

/-- What a list being drawn and the cursor are to each other. -/
structure Drawn (w0 w : World) (bc : Nat) (ac : Option Addr) (zs : List Int) (M : Int) : Prop where
  cur : Cur w bc ac zs M
  grown : w0.grownBy w (some bc)
  old : bc < w0.heap.size ∧ (zs ≠ [] → ∀ b off, ac = some ⟨b, off, none⟩ → b < w0.heap.size)

theorem Drawn.step {w0 w w' : World} {bc : Nat} {ac : Option Addr} {zs : List Int} {M M' : Int} (h : Drawn w0 w bc ac zs M) (hc : Cur w' bc ac zs M') (hg : w.grownBy w' (some bc)) : Drawn w0 w' bc ac zs M' := ⟨hc, grown_trans h.grown hg, h.old⟩
theorem Drawn.below {w0 w w' : World} {bc : Nat} {ac : Option Addr} {zs : List Int} {M : Int} (h : Drawn w0 w bc ac zs M) (hb : Below w.heap.size w w') : Drawn w0 w' bc ac zs M := ⟨h.cur.below hb, grown_trans h.grown (grown_of_below hb), h.old⟩
theorem Drawn.mono {w0 w : World} {bc : Nat} {ac : Option Addr} {zs : List Int} {M M' : Int} (h : Drawn w0 w bc ac zs M) (hM : M ≤ M') : Drawn w0 w bc ac zs M' := ⟨h.cur.mono hM, h.grown, h.old⟩
theorem Drawn.app {w0 w w' : World} {bc : Nat} {ac : Option Addr} {zs : List Int} {M : Int} {v : Value} {base : Nat} {e : TypeId} {size n : Nat} {xs : List Value} (h : Drawn w0 w bc ac zs M) (hown : w.ownsRow base e size v n xs) (hb : w0.heap.size ≤ base) (hg : w.grownBy w' v.ownBlock) : Drawn w0 w' bc ac zs M :=
  ⟨h.cur.app hg (fun e => by have := (hown.lt bc e).1; have := h.old.1; omega) (fun h0 b off e e2 => by have := (hown.lt b e2).1; have := h.old.2 h0 b off e; omega), grown_app h.grown hown hb hg, h.old⟩
theorem Drawn.own {w0 w w' : World} {bc : Nat} {ac : Option Addr} {zs : List Int} {M : Int} {v : Value} {base : Nat} {e : TypeId} {size n : Nat} {xs : List Value} (h : Drawn w0 w bc ac zs M) (hown : w.ownsRow base e size v n xs) (hb : w0.heap.size ≤ base) (hg : w.grownBy w' (some bc)) : w'.ownsRow base e size v n xs :=
  own_other hown hg (fun k hk e => by injection e with e; have := (hown.lt k hk).1; have := h.old.1; omega)

end Go.Proofs.Ytpdndcnhgadgoaa

/- Walks: bounds. -/
namespace Go.Proofs.Ytpdndcnhgadgoaa
open Go.RowKit
set_option linter.unusedVariables false

theorem hmf : ∀ (fn : Fn) (first cap : Array Value) (w : World), (Instr.makeFunc fn first cap).run Try.prog w = .ok (.func fn first cap) w := fun _ _ _ _ => rfl

def inB (n a b : Int) : Bool := decide (a ≤ n) && decide (n ≤ b)
theorem inB_iff {n a b : Int} : inB n a b = true ↔ a ≤ n ∧ n ≤ b := by simp [inB]

set_option maxHeartbeats 400000 in
theorem l1In_any (n a b : Int) (w : World) :
    Calls Try.prog 31 #[.int .i64 n, .int .i64 a, .int .i64 b] w fun e w' => e = .returned (.bool (inB n a b)) ∧ w = w' := by
  by_cases h : a ≤ n
  all_goals
    go_enter Try.func31, Try.ntmps31
    go_wp2
    go_ret
    exact ⟨by simp [inB]; try omega, rfl⟩

set_option maxHeartbeats 400000 in
theorem in_any (n a b : Int) (w : World) :
    Calls Try.prog 27 #[.int .i64 n, .int .i64 a, .int .i64 b] w fun e w' => e = .returned (.bool (inB n a b)) ∧ w = w' := by
  by_cases h : a ≤ n
  all_goals
    go_enter Try.func27, Try.ntmps27
    go_wp2
    go_ret
    exact ⟨by simp [inB]; try omega, rfl⟩

end Go.Proofs.Ytpdndcnhgadgoaa

/- Walks: keys. -/
namespace Go.Proofs.Ytpdndcnhgadgoaa
open Go.RowKit
set_option linter.unusedVariables false

def okKey (x : Int) : Bool := inB x (-100000) 100000
def okList (zs : List Int) : Bool := decide (zs.length ≤ 64) && zs.all okKey

set_option maxHeartbeats 400000 in
theorem isKey_any (n : Int) (w : World) :
    Calls Try.prog 34 #[.int .i64 n] w fun e w' => e = .returned (.bool (okKey n)) ∧ w = w' := by
  go_enter Try.func34, Try.ntmps34
  go_wp2_with (go_at_call 27; refine (in_any _ _ _ _).mono ?_; rintro e w' ⟨rfl, rfl⟩)
  go_ret
  exact ⟨rfl, rfl⟩

theorem okList_no {zs : List Int} {k : Nat} (hk : k < zs.length) (h : okKey (zs.getD k 0) = false) : okList zs = false := by
  unfold okList
  rw [Bool.and_eq_false_iff]; right
  rw [List.all_eq_false]
  exact ⟨zs[k], List.getElem_mem hk, by simpa [List.getD, hk] using h⟩

theorem okList_yes {zs : List Int} (h : ∀ j, j < zs.length → okKey (zs.getD j 0) = true) : okList zs = decide (zs.length ≤ 64) := by
  unfold okList
  have : zs.all okKey = true := by
    rw [List.all_eq_true]
    intro x hx
    obtain ⟨j, hj, rfl⟩ := List.getElem_of_mem hx
    have := h j hj
    simpa [List.getD, hj] using this
  rw [this, Bool.and_true]

end Go.Proofs.Ytpdndcnhgadgoaa

/- Walks: records: copies, comparisons, checks. -/
namespace Go.Proofs.Ytpdndcnhgadgoaa
open Go.RowKit
set_option linter.unusedVariables false

theorem Try.infoRec : (Try.prog.info? 33).map (fun i => (i.zero, i.size, i.bytes)) = some (some (.agg #[.int .i64 0, .int .i64 0]), 2, 16) := by kernel_rfl
theorem slRec : SlT Try.prog 24 33 (.agg #[.int .i64 0, .int .i64 0]) 2 16 := ⟨Try.underlying24, info_parts Try.infoRec, rfl, by decide, by decide⟩

def okRec (r : Int × Int) : Bool := okKey r.1 && inB r.2 0 999
def okRecs (rs : List (Int × Int)) : Bool := decide (rs.length ≤ 64) && rs.all okRec

theorem okRecs_no {zs : List (Int × Int)} {k : Nat} (hk : k < zs.length) (h : okRec (zs.getD k (0, 0)) = false) : okRecs zs = false := by
  unfold okRecs
  rw [Bool.and_eq_false_iff]; right
  rw [List.all_eq_false]
  exact ⟨zs[k], List.getElem_mem hk, by simpa [List.getD, hk] using h⟩

theorem okRecs_yes {zs : List (Int × Int)} (h : ∀ j, j < zs.length → okRec (zs.getD j (0, 0)) = true) : okRecs zs = decide (zs.length ≤ 64) := by
  unfold okRecs
  have : zs.all okRec = true := by
    rw [List.all_eq_true]
    intro x hx
    obtain ⟨j, hj, rfl⟩ := List.getElem_of_mem hx
    have := h j hj
    simpa [List.getD, hj] using this
  rw [this, Bool.and_true]

theorem okRecs_at {zs : List (Int × Int)} (h : okRecs zs = true) {k : Nat} (hk : k < zs.length) : -100000 ≤ (zs.getD k (0, 0)).1 ∧ (zs.getD k (0, 0)).1 ≤ 100000 ∧ 0 ≤ (zs.getD k (0, 0)).2 ∧ (zs.getD k (0, 0)).2 ≤ 999 := by
  unfold okRecs at h
  simp only [Bool.and_eq_true, List.all_eq_true] at h
  have := h.2 zs[k] (List.getElem_mem hk)
  simp [okRec, okKey, inB] at this
  simp [List.getD, hk]
  omega

theorem okRecs_len {zs : List (Int × Int)} (h : okRecs zs = true) : zs.length ≤ 64 := by
  unfold okRecs at h; simp at h; exact h.1

set_option maxHeartbeats 400000 in
theorem l2Records_any (a : Option Addr) (cap : Nat) (zs : List (Int × Int)) (w : World) (hbig : zs.length ≤ 9223372036854775807) (h : RecsAt w a zs) :
    Calls Try.prog 17 #[.slice a zs.length cap] w fun e w' => e = .returned (.bool (okRecs zs)) ∧ w = w' := by
  have H := Lib.hid h; clear h
  go_enter Try.func17, Try.ntmps17
  go_wp2
  go_loop [3] (fun i => ∃ k : Nat, k ≤ zs.length ∧ k ≤ 65 ∧ i = .int .i64 k ∧ ∀ j, j < k → okRec (zs.getD j (0, 0)) = true) (fun i => zs.length - (intOf i).toNat)
  case atStart => exact ⟨0, by omega, by omega, rfl, by intro j h; omega⟩
  case round =>
    obtain ⟨k, hk, hk2, rfl, hall⟩ := hrel
    have Hall := Lib.hid hall; clear hall
    by_cases h1 : k < zs.length
    · by_cases h2 : k ≤ 64
      · obtain ⟨b, off, rfl, hc1, hc2⟩ := H.out.at h1
        have hX : okRec (zs.getD k (0, 0)) = (inB (zs.getD k (0, 0)).1 (-100000) 100000 && inB (zs.getD k (0, 0)).2 0 999) := rfl
        have HX := Lib.hid hX; clear hX
        generalize (zs.getD k (0, 0)).1 = x at hc1 HX
        generalize (zs.getD k (0, 0)).2 = y at hc2 HX
        cases hq : inB x (-100000) 100000
        · have HL := Lib.hid (hq ▸ l1In_any x (-100000) 100000 w)
          have HQ := Lib.hid hq; clear hq
          go_wp2_with (go_at_call 31; refine HL.out.mono ?_; rintro e w' ⟨rfl, rfl⟩)
          go_ret
          exact ⟨ret_bool (by rw [okRecs_no h1 (by rw [HX.out, HQ.out, Bool.false_and])]), rfl⟩
        · have HL := Lib.hid (hq ▸ l1In_any x (-100000) 100000 w)
          have HQ := Lib.hid hq; clear hq
          have HL2 := Lib.hid (l1In_any y 0 999 w)
          go_wp2_with (first | (go_at_call 31; first | (with_reducible refine HL.out.mono ?_) | (with_reducible refine HL2.out.mono ?_); rintro e w' ⟨rfl, rfl⟩))
          · have hx : (!inB y 0 999) = true := by assumption
            go_ret
            exact ⟨ret_bool (by rw [okRecs_no h1 (by rw [HX.out, HQ.out]; simpa using hx)]), rfl⟩
          · have hx : (!inB y 0 999) = false := by assumption
            go_round
            case rel =>
              refine ⟨k + 1, by omega, by omega, by go_num, fun j hj => ?_⟩
              rcases Nat.lt_succ_iff_lt_or_eq.1 hj with h | rfl
              · exact Hall.out j h
              · rw [HX.out, HQ.out]; simpa using hx
            case measure => simp [intOf]; omega
      · go_wp2
        go_ret
        have : okRecs zs = false := by unfold okRecs; simp; omega
        exact ⟨ret_bool (by rw [this]; simp; omega), rfl⟩
    · go_wp2
      go_ret
      exact ⟨ret_bool (by rw [okRecs_yes (fun j hj => Hall.out j (by omega))]; exact decide_eq_decide.2 (by omega)), rfl⟩

theorem ownRecs {w : World} {base : Nat} {a : Option Addr} {n c : Nat} {rs : List (Int × Int)} (h : w.ownsRow base 33 2 (.slice a n c) n (flat encR rs)) : RecsAt w a rs := recs_of_own h

end Go.Proofs.Ytpdndcnhgadgoaa

/- Rows of integers: their element. -/
namespace Go.Proofs.Ytpdndcnhgadgoaa
open Go.RowKit
set_option linter.unusedVariables false

theorem Try.infoInt : (Try.prog.info? 3).map (fun i => (i.zero, i.size, i.bytes)) = some (some (.int .i64 0), 1, 8) := by kernel_rfl

theorem ownInts {w : World} {base : Nat} {a : Option Addr} {n c : Nat} {zs : List Int} (h : w.ownsRow base 3 1 (.slice a n c) n (zs.map (Value.int .i64))) : IntsAt w a zs := ints_of_own h

theorem slInt : SlT Try.prog 52 3 (.int .i64 0) 1 8 := ⟨Try.underlying52, info_parts Try.infoInt, rfl, by decide, by decide⟩

end Go.Proofs.Ytpdndcnhgadgoaa
