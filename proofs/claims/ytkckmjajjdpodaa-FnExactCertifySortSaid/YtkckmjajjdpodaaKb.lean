/- General lemmas on append and make, no program in sight: what is appended to a list of the call's own, and which block it then lies in. -/
import Derived.Test.YtkckmjajjdpodaaKa
namespace Go.Proofs.Ytkckmjajjdpodaa
open Go.RowKit
set_option linter.unusedVariables false

/-- What is known of a slice type and its element's type. -/
structure SlT (P : Program) (t e : TypeId) (z : Value) (size bytes : Nat) : Prop where
  und : P.underlying t = some (.slice e)
  info : ∃ i, P.info? e = some i ∧ i.zero = some z ∧ i.size = size ∧ i.bytes = bytes
  cells : z.cells.size = size
  pos : 0 < size
  small : bytes ≤ 128

theorem run_app_tag {P : Program} (w : World) {t e : TypeId} {z : Value} {size bytes : Nat} (T : SlT P t e z size bytes) (base : Nat) (ty : TypeId)
    (v : Value) (n : Nat) (xs : List Value) (hown : w.ownsRow base e size v n xs)
    (a : Addr) (m c : Nat) (news : List Value) (hl : news.length = m * size) (hnews : ∀ j u, news[j]? = some u → w.cell? (a.add j) = some u) (h1 : ∀ u ∈ news, u.oneCell' = true)
    (hsmall : n + m ≤ 1099511627776) (hbase : base ≤ w.heap.size) :
    ∃ v' w', (Builtin.append_ #[t, t] ty #[v, .slice (some a) m c]).run P w = .ok v' w' ∧ w'.ownsRow base e size v' (n + m) (xs ++ news) ∧ w.grownBy w' v.ownBlock ∧
      (v'.ownBlock = v.ownBlock ∨ v'.ownBlock = some w.heap.size) := by
  obtain ⟨i, hi, hz, hs, hby⟩ := T.info
  have hb47 : (n + m) * bytes ≤ 140737488355328 := by
    have := Nat.mul_le_mul hsmall T.small
    omega
  have hml : n + m ≤ maxLen := by unfold maxLen; omega
  obtain ⟨v', w', hr, g1, g2, g3⟩ := run_append_own (P := P) w base t ty e i z size bytes T.und hi hz hs hby T.cells T.pos v n xs hown a m c news hl hnews h1 hml hb47 hbase
  refine ⟨v', w', hr, g1, g2, ?_⟩
  subst hs
  rcases hown.2 with ⟨hv, hn⟩ | ⟨g, cap, cur, hv, _, hg, hnc, hcm, hcs, htake⟩
  · subst hn
    by_cases hm : m = 0
    · left; rw [g3.2 ⟨hv, hm⟩, hv]
    · right
      have h47 : m * i.bytes ≤ 281474976710656 := by rw [hby]; simp at hb47; omega
      have hq := run_append_nil (P := P) w t ty e i z T.und hi hz a m c news hl hnews (by omega) (by unfold maxLen at hml; omega) h47
      rw [hv] at hr
      rw [hr] at hq
      injection hq with e1 _
      rw [e1]; rfl
  · by_cases hroom : n + m ≤ cap
    · left
      have hfit : n * i.size + news.length ≤ cur.size := by rw [hl, hcs, ← Nat.add_mul]; exact Nat.mul_le_mul_right _ hroom
      have hq := run_append_room (P := P) w t ty e i T.und hi g n cap cur hg a m c news hl hnews h1 hroom hfit
      rw [hv] at hr
      rw [hr] at hq
      injection hq with e1 _
      rw [e1, hv]; rfl
    · right
      have holds : ∀ j u, xs[j]? = some u → w.cell? ((⟨g, 0, none⟩ : Addr).add j) = some u := hown.cells (g := g) (by rw [hv]; rfl)
      have hq := run_append_grow (P := P) w t ty e i z T.und hi hz ⟨g, 0, none⟩ n cap xs hown.1 holds a m c news hl hnews (by omega) (by unfold maxLen at hml; omega) (growslice_fits (by omega) (by rw [hby]; exact hb47))
      rw [hv] at hr
      rw [hr] at hq
      injection hq with e1 _
      rw [e1]; rfl

theorem grownBy_pre {w w' : World} {o : Obj} {row : Option Nat} (h : (w.alloc o).grownBy w' row) : w.grownBy w' row :=
  ⟨h.os, h.tape, h.output, Nat.le_trans (by simp) h.size, fun k hk hne => (h.block k (by simp; omega) hne).trans (Below.heap_alloc w o k hk)⟩

theorem addr_add_zero (g j : Nat) : (⟨g, 0, none⟩ : Addr).add j = ⟨g, j, none⟩ := by unfold Addr.add; split <;> simp_all

theorem cells_new (w : World) (news : List Value) (e : TypeId) : ∀ j u, news[j]? = some u → (w.alloc (.cells news.toArray e)).cell? ((⟨w.heap.size, 0, none⟩ : Addr).add j) = some u := by
  intro j u hu
  rw [addr_add_zero, cell_of_row _ w.heap.size j news.toArray e (0, 0) (heap_alloc_new w _)]
  simpa using hu

/-- 'append(s, x)', x one element that was just laid in a block of its own. -/
theorem wpList_app1 {P : Program} {w0 : World} {ops : Array Oper} {rest : List Oper} {o : Oper} {a : Act} {Q : Exit → Act → World → Prop} {t e : TypeId} {z : Value} {size bytes : Nat} (T : SlT P t e z size bytes)
    (hgd : o.guard = none) (s y : Operand) (ho : o.op = .call { callee := .builtin .append, args := #[s, y], argTypes := #[t, t] })
    {base : Nat} {v : Value} {n : Nat} {xs : List Value} (hs : a.eval s = v) (hown : w0.ownsRow base e size v n xs) (news : List Value) (hl : news.length = size)
    {b : Nat} (hx : a.eval y = .slice (some ⟨b, 0, none⟩) 1 1) (hb : w0.heap.size = b) (h1 : ∀ u ∈ news, u.oneCell' = true) (hsmall : n + 1 ≤ 1099511627776) (hbase : base ≤ w0.heap.size)
    (h : ∀ v' w', w'.ownsRow base e size v' (n + 1) (xs ++ news) → w0.grownBy w' v.ownBlock → (v'.ownBlock = v.ownBlock ∨ v'.ownBlock = some (w0.heap.size + 1)) → wpList P ops Q rest (a.put o.dst v') w') :
    wpList P ops Q (o :: rest) a (w0.alloc (.cells news.toArray e)) := by
  subst hb
  refine wpList_plain hgd fun K hK => ?_
  obtain ⟨v', w', hr, h2, h3, h4⟩ := run_app_tag (P := P) (w0.alloc (.cells news.toArray e)) T base o.type v n xs (hown.alloc _) ⟨w0.heap.size, 0, none⟩ 1 1 news (by omega) (cells_new w0 news e) h1 hsmall (by simp; omega)
  unfold Oper.wp execOp
  simp only [ho, resolve, invoke, builtin, Sem.run_bind, Sem.run_pure, Result.andThen_ok, List.map_toArray, List.map_cons, List.map_nil, hs, hx, hr]
  exact hK _ _ (h v' w' h2 (grownBy_pre h3) (by simpa using h4))

/-- 'make([]T, n)'. -/
theorem wpList_mk {P : Program} {w : World} {ops : Array Oper} {rest : List Oper} {o : Oper} {a : Act} {Q : Exit → Act → World → Prop} {t e : TypeId} {z : Value} {size bytes : Nat} (T : SlT P t e z size bytes)
    (hg : o.guard = none) (l c : Operand) (hop : o.op = Op.makeSlice t l c) (n : Nat) (hl : a.eval l = .int .i64 n) (hc : a.eval c = .int .i64 n) (hn : n ≤ 1099511627776)
    (hK : ∀ w', w'.ownsRow w.heap.size e size (.slice (some ⟨w.heap.size, 0, none⟩) n n) n (madeCells z.cells (n * size)).toList → Below w.heap.size w w' → w.heap.size < w'.heap.size → wpList P ops Q rest (a.put o.dst (.slice (some ⟨w.heap.size, 0, none⟩) n n)) w') :
    wpList P ops Q (o :: rest) a w := by
  obtain ⟨i, hi, hz, hs, hby⟩ := T.info
  refine wpList_make_full w hg l c t hop w.heap.size e i z size T.und hi hz hs .i64 .i64 n n n hl hc rfl rfl ?_ (by unfold maxLen; omega) (Nat.le_refl _) ?_
  · rw [hby]
    have := Nat.mul_le_mul T.small hn
    omega
  · intro w' h1 h2
    refine hK w' h1 ((Below.refl _ _).grown h2 (Nat.le_refl _) (fun k hk => by cases hk)) ?_
    exact (h1.lt w.heap.size rfl).2

/-- Behind 'append': what lies below is as it was. -/
theorem below_app {B : Nat} {w0 w w' : World} {v : Value} {base : Nat} {e : TypeId} {size n : Nat} {xs : List Value} (h : Below B w0 w) (hB : B ≤ w.heap.size) (hown : w.ownsRow base e size v n xs) (hbase : B ≤ base) (hg : w.grownBy w' v.ownBlock) : Below B w0 w' :=
  h.grown hg hB (fun k hk => Nat.le_trans hbase (hown.lt k hk).1)

/-- What another list owns is kept by an append, where the blocks are two. -/
theorem own_other {w w' : World} {base : Nat} {e : TypeId} {size n : Nat} {u : Value} {ys : List Value} {row : Option Nat} (h : w.ownsRow base e size u n ys) (hg : w.grownBy w' row) (hne : ∀ k, u.ownBlock = some k → row ≠ some k) : w'.ownsRow base e size u n ys := by
  refine h.kept hg ?_
  cases hu : u.ownBlock with
  | none => exact .inl rfl
  | some k => right; intro e; exact hne k hu e.symm

/-- A new list of literal elements. -/
theorem own_lit {w : World} {e : TypeId} {size : Nat} (cs : Array Value) (n : Nat) (hm : n ≤ 1099511627776) (hs : cs.size = n * size) :
    (w.alloc (.cells cs e)).ownsRow w.heap.size e size (.slice (some ⟨w.heap.size, 0, none⟩) n n) n cs.toList :=
  World.ownsRow_lit w cs n (Nat.le_refl _) (by unfold maxLen; omega) hs

theorem own_mono {w : World} {base base' : Nat} {e : TypeId} {size : Nat} {v : Value} {n : Nat} {xs : List Value} (h : w.ownsRow base e size v n xs) (hb : base' ≤ base) : w.ownsRow base' e size v n xs :=
  ⟨h.1, h.2.imp id fun ⟨g, cap, cur, hv, hg, r⟩ => ⟨g, cap, cur, hv, Nat.le_trans hb hg, r⟩⟩

end Go.Proofs.Ytkckmjajjdpodaa
