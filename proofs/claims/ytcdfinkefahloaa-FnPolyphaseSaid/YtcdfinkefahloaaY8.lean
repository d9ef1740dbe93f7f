/- Several texts in one: lemmas and walks of the functions that the law reaches. -/
import Derived.Test.YtcdfinkefahloaaY6
import Derived.Test.YtcdfinkefahloaaY7

namespace Go.Proofs.Ytcdfinkefahloaa
open Go.RowKit
set_option linter.unusedVariables false

/-- A queue: its block is the call's own; it may begin behind the block's start. -/
def QRow (w : World) (B : Nat) (e : TypeId) (v : Value) (es : List Value) : Prop :=
  (v = .slice none 0 0 ∧ es = []) ∨ ∃ (g off cap : Nat) (cur : Array Value), v = .slice (some ⟨g, off, none⟩) es.length cap ∧ B ≤ g ∧ w.heap[g]? = some (.cells cur e (0, 0)) ∧ es.length ≤ cap ∧ cap ≤ maxLen ∧ off + cap ≤ cur.size ∧ ∀ j, j < es.length → cur[off + j]? = es[j]?

variable {w w' : World} {B : Nat} {e : TypeId} {v : Value} {es : List Value}

theorem QRow.shape (h : QRow w B e v es) : ∃ a c, v = .slice a es.length c := by
  rcases h with ⟨rfl, rfl⟩ | ⟨g, off, cap, cur, rfl, _⟩
  · exact ⟨_, _, rfl⟩
  · exact ⟨_, _, rfl⟩
theorem QRow.lt (h : QRow w B e v es) {b : Nat} (hb : v.ownBlock = some b) : B ≤ b ∧ b < w.heap.size := by
  rcases h with ⟨rfl, rfl⟩ | ⟨g, off, cap, cur, rfl, h1, h2, _⟩
  · cases hb
  · injection hb with hb
    subst hb
    exact ⟨h1, (Array.getElem?_eq_some_iff.1 h2).1⟩
theorem QRow.at (h : QRow w B e v es) (h0 : 0 < es.length) : ∃ (g off cap : Nat), v = .slice (some ⟨g, off, none⟩) es.length cap ∧ es.length ≤ cap ∧ cap ≤ maxLen ∧ ∀ j u, es[j]? = some u → w.cell? ⟨g, off + j, none⟩ = some u := by
  rcases h with ⟨rfl, rfl⟩ | ⟨g, off, cap, cur, rfl, h1, h2, h3, h4, h5, h6⟩
  · simp at h0
  · refine ⟨g, off, cap, rfl, h3, h4, fun j u hu => ?_⟩
    have hj : j < es.length := (List.getElem?_eq_some_iff.1 hu).1
    rw [cell_of_row w g (off + j) cur e (0, 0) h2, h6 j hj, hu]
theorem QRow.kept {row : Option Nat} (h : QRow w B e v es) (hg : w.grownBy w' row) (hne : ∀ b, v.ownBlock = some b → row ≠ some b) : QRow w' B e v es := by
  rcases h with h | ⟨g, off, cap, cur, rfl, h1, h2, r⟩
  · exact .inl h
  · exact .inr ⟨g, off, cap, cur, rfl, h1, block_row h2 hg (hne g rfl), r⟩
theorem QRow.below (h : QRow w B e v es) (hb : Below w.heap.size w w') : QRow w' B e v es := by
  rcases h with h | ⟨g, off, cap, cur, rfl, h1, h2, r⟩
  · exact .inl h
  · exact .inr ⟨g, off, cap, cur, rfl, h1, block_below h2 hb (Array.getElem?_eq_some_iff.1 h2).1, r⟩
theorem QRow.of_own {n : Nat} (h : w.ownsRow B e 1 v n es) : QRow w B e v es := by
  have hl : es.length = n := by have := h.1; omega
  rcases h.2 with ⟨rfl, hn⟩ | ⟨g, cap, cur, rfl, h1, h2, h3, h4, h5, h6⟩
  · exact .inl ⟨rfl, List.eq_nil_of_length_eq_zero (by omega)⟩
  · refine .inr ⟨g, 0, cap, cur, by rw [hl], h1, h2, by omega, h4, by omega, fun j hj => ?_⟩
    have := congrArg (fun l : List Value => l[j]?) h6
    simp only [List.getElem?_take, Array.getElem?_toList] at this
    rw [if_pos (by omega)] at this
    rw [Nat.zero_add]; exact this
theorem QRow.mono {B' : Nat} (h : QRow w B e v es) (hB : B' ≤ B) : QRow w B' e v es := by
  rcases h with h | ⟨g, off, cap, cur, rfl, h1, r⟩
  · exact .inl h
  · exact .inr ⟨g, off, cap, cur, rfl, Nat.le_trans hB h1, r⟩
/-- Without the first element, where there is room behind. -/
theorem QRow.tail {x : Value} {g off cap : Nat} (h : QRow w B e (.slice (some ⟨g, off, none⟩) (es.length + 1) (cap + 1)) (x :: es)) : QRow w B e (.slice (some ⟨g, off + 1, none⟩) es.length cap) es := by
  rcases h with ⟨h, _⟩ | ⟨g', off', cap', cur, hv, h1, h2, h3, h4, h5, h6⟩
  · cases h
  · injection hv with e1 _ e3
    injection e1 with e1
    injection e1 with e1 e2 _
    subst e1; subst e2; subst e3
    simp at h3
    refine .inr ⟨g, off + 1, cap, cur, rfl, h1, h2, by omega, by omega, by omega, fun j hj => ?_⟩
    have := h6 (j + 1) (by simp; omega)
    rw [List.getElem?_cons_succ] at this
    rw [← this]; congr 1; omega
/-- Without its only element, no room behind: the address stays. -/
theorem QRow.tail0 {x : Value} {g off : Nat} (h : QRow w B e (.slice (some ⟨g, off, none⟩) 1 1) [x]) : QRow w B e (.slice (some ⟨g, off, none⟩) 0 0) [] := by
  rcases h with ⟨h, _⟩ | ⟨g', off', cap', cur, hv, h1, h2, h3, h4, h5, h6⟩
  · cases h
  · injection hv with e1 _ e3
    injection e1 with e1
    injection e1 with e1 e2 _
    subst e1; subst e2; subst e3
    exact .inr ⟨g, off, 0, cur, rfl, h1, h2, by simp, by unfold maxLen; omega, by omega, fun j hj => by simp at hj⟩

theorem run_app_room_off {P : Program} (w : World) (t ty e : TypeId) (i : TypeInfo) (ht : P.underlying t = some (.slice e)) (hi : P.info? e = some i)
    (g off sLen sCap : Nat) (cur : Array Value) (hg : w.heap[g]? = some (.cells cur e (0, 0)))
    (a : Addr) (m c : Nat) (news : List Value) (hl : news.length = m * i.size) (hnews : ∀ j u, news[j]? = some u → w.cell? (a.add j) = some u) (h1 : ∀ u ∈ news, u.oneCell' = true)
    (hroom : sLen + m ≤ sCap) (hfit : off + sLen * i.size + news.length ≤ cur.size) :
    (Builtin.append_ #[t, t] ty #[.slice (some ⟨g, off, none⟩) sLen sCap, .slice (some a) m c]).run P w =
      .ok (.slice (some ⟨g, off, none⟩) (sLen + m) sCap) (w.setRow g (cur.toList.take (off + sLen * i.size) ++ news ++ cur.toList.drop (off + sLen * i.size + news.length)).toArray) := by
  have hf := run_firstCells_some (P := P) w i.size m a m c news hl hnews
  have hst := run_storeCells_at P g (off + sLen * i.size) e news 0 cur w hg (by simpa using hfit) h1
  simp only [Nat.add_zero] at hst
  simp [Builtin.append_, run_underlying ht, sizeOf, typeInfo, hi, Builtin.lenOf, hroom, hf, Addr.add_lit, hst]

/-- An append to a queue: in place behind its last element, or in a new block. -/
theorem run_app_q {P : Program} (w : World) {t e : TypeId} {z : Value} {bytes : Nat} (T : SlT P t e z 1 bytes) (B : Nat) (ty : TypeId) (v : Value) (es : List Value) (h : QRow w B e v es)
    (a : Addr) (m c : Nat) (news : List Value) (hl : news.length = m) (hnews : ∀ j u, news[j]? = some u → w.cell? (a.add j) = some u) (h1 : ∀ u ∈ news, u.oneCell' = true)
    (hsmall : es.length + m ≤ 1099511627776) (hB : B ≤ w.heap.size) :
    ∃ v' w', (Builtin.append_ #[t, t] ty #[v, .slice (some a) m c]).run P w = .ok v' w' ∧ QRow w' B e v' (es ++ news) ∧ w.grownBy w' v.ownBlock ∧ (v'.ownBlock = v.ownBlock ∨ v'.ownBlock = some w.heap.size) := by
  rcases h with ⟨rfl, rfl⟩ | ⟨g, off, cap, cur, rfl, hb, hg, hlc, hcm, hcs, hc⟩
  · obtain ⟨v', w', hr, h2, h3, h4⟩ := run_app_tag (P := P) w T B ty (.slice none 0 0) 0 [] (World.ownsRow_nil w B e 1) a m c news (by omega) hnews h1 (by simpa using hsmall) hB
    exact ⟨v', w', hr, QRow.of_own h2, h3, h4⟩
  · obtain ⟨i, hi, hz, hs, hby⟩ := T.info
    by_cases hroom : es.length + m ≤ cap
    · have hr := run_app_room_off (P := P) w t ty e i T.und hi g off es.length cap cur hg a m c news (by rw [hs, hl, Nat.mul_one]) hnews h1 hroom (by rw [hs]; omega)
      rw [hs, Nat.mul_one] at hr
      refine ⟨_, _, hr, .inr ⟨g, off, cap, _, by rw [List.length_append, hl], hb, setRow_heap w g cur _ e _ hg, by rw [List.length_append]; omega, hcm, ?_, fun j hj => ?_⟩, ⟨rfl, rfl, rfl, by simp, fun k _ hk => setRow_other w g k _ (fun e => hk (by simp [Value.ownBlock, e]))⟩, .inl rfl⟩
      · simp only [List.size_toArray, List.length_append, List.length_take, List.length_drop, Array.length_toList]
        omega
      · rw [List.getElem?_toArray]
        by_cases hj2 : j < es.length
        · rw [List.append_assoc, List.getElem?_append_left (by simp; omega), List.getElem?_take, if_pos (by omega), List.getElem?_append_left hj2, ← hc j hj2, Array.getElem?_toList]
        · rw [List.length_append] at hj
          rw [List.getElem?_append_left (by simp; omega), List.getElem?_append_right (by simp; omega), List.getElem?_append_right (by omega)]
          congr 1
          simp; omega
    · have hml : es.length + m ≤ maxLen := by unfold maxLen; omega
      have holds : ∀ j u, es[j]? = some u → w.cell? ((⟨g, off, none⟩ : Addr).add j) = some u := fun j u hu => by
        have hj : j < es.length := (List.getElem?_eq_some_iff.1 hu).1
        rw [Addr.add_lit, cell_of_row w g (off + j) cur e (0, 0) hg, hc j hj, hu]
      have hb47 : (es.length + m) * bytes ≤ 140737488355328 := by
        have := Nat.mul_le_mul hsmall T.small
        omega
      have hq := run_append_grow (P := P) w t ty e i z T.und hi hz ⟨g, off, none⟩ es.length cap es (by rw [hs, Nat.mul_one]) holds a m c news (by rw [hs, hl, Nat.mul_one]) hnews (by omega) (by unfold maxLen at hml; omega) (growslice_fits (by omega) (by rw [hby]; exact hb47))
      refine ⟨_, _, hq, .inr ⟨w.heap.size, 0, _, _, by rw [List.length_append, hl], hB, heap_alloc_new w.drew _, by rw [List.length_append, hl]; exact grownCap_ge w _ _ e, grownCap_le_maxLen w _ _ e hml, ?_, fun j hj => ?_⟩, ⟨rfl, rfl, rfl, by simp, fun k hk _ => heap_alloc_old w.drew _ hk⟩, .inr rfl⟩
      · have hge := grownCap_ge w (es.length + m) cap e
        have hzc := T.cells
        simp only [Array.size_append, List.size_toArray, size_zeroCells, hzc, hl]
        omega
      · rw [List.length_append] at hj
        rw [Nat.zero_add, Array.getElem?_append_left (by simp; omega)]
        simp [List.getElem?_append]

theorem wpList_appQ {P : Program} {w0 : World} {ops : Array Oper} {rest : List Oper} {o : Oper} {a : Act} {Q : Exit → Act → World → Prop} {t e : TypeId} {z : Value} {bytes : Nat} (T : SlT P t e z 1 bytes)
    (hgd : o.guard = none) (s y : Operand) (ho : o.op = .call { callee := .builtin .append, args := #[s, y], argTypes := #[t, t] })
    {B : Nat} {v : Value} {es : List Value} (hs : a.eval s = v) (hown : QRow w0 B e v es) (x : Value)
    {b : Nat} (hx : a.eval y = .slice (some ⟨b, 0, none⟩) 1 1) (hb : w0.heap.size = b) (h1 : x.oneCell' = true) (hsmall : es.length + 1 ≤ 1099511627776) (hbase : B ≤ w0.heap.size)
    (h : ∀ v' w', QRow w' B e v' (es ++ [x]) → w0.grownBy w' v.ownBlock → (v'.ownBlock = v.ownBlock ∨ v'.ownBlock = some (w0.heap.size + 1)) → wpList P ops Q rest (a.put o.dst v') w') :
    wpList P ops Q (o :: rest) a (w0.alloc (.cells #[x] e)) := by
  subst hb
  refine wpList_plain hgd fun K hK => ?_
  obtain ⟨v', w', hr, h2, h3, h4⟩ := run_app_q (P := P) (w0.alloc (.cells #[x] e)) T B o.type v es (hown.below ((Below.refl _ _).alloc (Nat.le_refl _) _)) ⟨w0.heap.size, 0, none⟩ 1 1 [x] rfl (cells_new w0 [x] e) (by simpa using h1) hsmall (by simp; omega)
  unfold Oper.wp execOp
  simp only [ho, resolve, invoke, builtin, Sem.run_bind, Sem.run_pure, Result.andThen_ok, List.map_toArray, List.map_cons, List.map_nil, hs, hx, hr]
  exact hK _ _ (h v' w' h2 (grownBy_pre h3) (by simpa using h4))
/-- 'append(s, u...)', u a queue. -/
theorem wpList_appU {P : Program} {w : World} {ops : Array Oper} {rest : List Oper} {o : Oper} {a : Act} {Q : Exit → Act → World → Prop} {t e e' : TypeId} {z : Value} {bytes : Nat} (T : SlT P t e z 1 bytes)
    (hgd : o.guard = none) (s y : Operand) (ho : o.op = .call { callee := .builtin .append, args := #[s, y], argTypes := #[t, t] })
    {base B' : Nat} {v u : Value} {n : Nat} {xs ys : List Value} (hs : a.eval s = v) (hown : w.ownsRow base e 1 v n xs) (hy : a.eval y = u) (hu : QRow w B' e' u ys) (h1 : ∀ x ∈ ys, x.oneCell' = true)
    (hsmall : n + ys.length ≤ 1099511627776) (hbase : base ≤ w.heap.size)
    (h : ∀ v' w', w'.ownsRow base e 1 v' (n + ys.length) (xs ++ ys) → w.grownBy w' v.ownBlock → (v'.ownBlock = v.ownBlock ∨ v'.ownBlock = some w.heap.size) → wpList P ops Q rest (a.put o.dst v') w') : wpList P ops Q (o :: rest) a w := by
  by_cases hu0 : u = .slice none 0 0
  · have hys : ys = [] := by
      rcases hu with ⟨_, h⟩ | ⟨g, off, cap, cur, h, _⟩
      · exact h
      · rw [hu0] at h; cases h
    subst hys
    obtain ⟨i, hi, hz, hsz, hby⟩ := T.info
    refine wpList_append_own_none hgd s y t ho base e i 1 T.und hi v n xs hs hown (hy.trans hu0) ?_
    exact h v w (by simpa using hown) ⟨rfl, rfl, rfl, Nat.le_refl _, fun _ _ _ => rfl⟩ (.inl rfl)
  · rcases hu with ⟨h0, _⟩ | ⟨g, off, cap, cur, rfl, hb, hg, hlc, hcm, hcs, hc⟩
    · exact absurd h0 hu0
    · refine wpList_plain hgd fun K hK => ?_
      obtain ⟨v', w', hr, h2, h3, h4⟩ := run_app_tag (P := P) w T base o.type v n xs hown ⟨g, off, none⟩ ys.length cap ys (by omega) (fun j u hu => by
        have hj : j < ys.length := (List.getElem?_eq_some_iff.1 hu).1
        rw [Addr.add_lit, cell_of_row w g (off + j) cur e' (0, 0) hg, hc j hj, hu]) h1 hsmall hbase
      unfold Oper.wp execOp
      simp only [ho, resolve, invoke, builtin, Sem.run_bind, Sem.run_pure, Result.andThen_ok, List.map_toArray, List.map_cons, List.map_nil, hs, hy, hr]
      exact hK _ _ (h v' w' h2 h3 h4)
end Go.Proofs.Ytcdfinkefahloaa

namespace Go.Proofs.Ytcdfinkefahloaa
open Go.RowKit
set_option linter.unusedVariables false

/-- What one cell stands for, and that it stands whatever else is written. -/
structure ElOk {α : Type} (Ok : World → α → Value → Prop) : Prop where
  one : ∀ {w x v}, Ok w x v → v.oneCell' = true
  lt : ∀ {w x v b}, Ok w x v → v.ownBlock = some b → b < w.heap.size
  kept : ∀ {w w' x v row}, Ok w x v → w.grownBy w' row → (∀ b, v.ownBlock = some b → row ≠ some b) → Ok w' x v
def All2 {α : Type} (R : α → Value → Prop) (xs : List α) (vs : List Value) : Prop := xs.length = vs.length ∧ ∀ (j : Nat) (x : α) (v : Value), xs[j]? = some x → vs[j]? = some v → R x v
section
variable {α : Type} {R R' : α → Value → Prop} {xs : List α} {vs : List Value}
theorem All2.nil : All2 R [] [] := ⟨rfl, fun j x v h => by simp at h⟩
theorem All2.imp (h : All2 R xs vs) (f : ∀ x v, v ∈ vs → R x v → R' x v) : All2 R' xs vs := ⟨h.1, fun j x v h1 h2 => f x v (List.mem_of_getElem? h2) (h.2 j x v h1 h2)⟩
theorem All2.snoc {x : α} {v : Value} (h : All2 R xs vs) (hx : R x v) : All2 R (xs ++ [x]) (vs ++ [v]) := by
  refine ⟨by simp [h.1], fun j y u h1 h2 => ?_⟩
  by_cases hj : j < xs.length
  · rw [List.getElem?_append_left hj] at h1
    rw [List.getElem?_append_left (by have := h.1; omega)] at h2
    exact h.2 j y u h1 h2
  · rw [List.getElem?_append_right (by omega)] at h1
    rw [List.getElem?_append_right (by have := h.1; omega)] at h2
    rw [h.1] at h1
    cases hk : j - vs.length with
    | zero => rw [hk] at h1 h2; simp at h1 h2; subst h1; subst h2; exact hx
    | succ k => rw [hk] at h1; simp at h1
theorem All2.head {x : α} {v : Value} (h : All2 R (x :: xs) (v :: vs)) : R x v ∧ All2 R xs vs :=
  ⟨h.2 0 x v rfl rfl, by simpa using h.1, fun j y u h1 h2 => h.2 (j + 1) y u (by simpa using h1) (by simpa using h2)⟩
theorem All2.cons {x : α} {v : Value} (h1 : R x v) (h : All2 R xs vs) : All2 R (x :: xs) (v :: vs) := by
  refine ⟨by simp [h.1], fun j y u e1 e2 => ?_⟩
  cases j with
  | zero => simp at e1 e2; subst e1; subst e2; exact h1
  | succ j => exact h.2 j y u (by simpa using e1) (by simpa using e2)
theorem All2.at (h : All2 R xs vs) {j : Nat} (hj : j < vs.length) : ∃ x v, xs[j]? = some x ∧ vs[j]? = some v ∧ R x v :=
  ⟨xs[j]'(by have := h.1; omega), vs[j], List.getElem?_eq_getElem _, List.getElem?_eq_getElem hj, h.2 j _ _ (List.getElem?_eq_getElem _) (List.getElem?_eq_getElem hj)⟩
end

/-- Tapes. -/
structure TS {α : Type} (Ok : World → α → Value → Prop) (w : World) (B : Nat) (tt e : TypeId) (g k c : Nat) (vs : List Value) (es : List (List Value)) (Q : List (List α)) : Prop where
  row : w.ownsRow B tt 1 (.slice (some ⟨g, 0, none⟩) k c) k vs
  le : es.length = k
  lq : Q.length = k
  q : ∀ i, i < k → QRow w B e (vs.getD i undef) (es.getD i [])
  far : ∀ i j b, i < k → j < k → i ≠ j → (vs.getD i undef).ownBlock = some b → (vs.getD j undef).ownBlock ≠ some b
  row0 : ∀ i, i < k → (vs.getD i undef).ownBlock ≠ some g
  el : ∀ i, i < k → All2 (Ok w) (Q.getD i []) (es.getD i [])
  elf : ∀ i, i < k → ∀ x ∈ es.getD i [], ∀ b, x.ownBlock = some b → b ≠ g ∧ ∀ j, j < k → (vs.getD j undef).ownBlock ≠ some b

section
variable {α : Type} {Ok : World → α → Value → Prop} {w w' : World} {B : Nat} {tt e : TypeId} {g k c : Nat} {vs : List Value} {es : List (List Value)} {Q : List (List α)}

/-- No block of the tapes', nor of their elements. -/
def FarT (g k : Nat) (vs : List Value) (es : List (List Value)) (b : Nat) : Prop := b ≠ g ∧ (∀ i, i < k → (vs.getD i undef).ownBlock ≠ some b) ∧ ∀ i, i < k → ∀ x ∈ es.getD i [], x.ownBlock ≠ some b

theorem TS.lv (h : TS Ok w B tt e g k c vs es Q) : vs.length = k := by have := h.row.1; omega
theorem All2.mem_ok {R : α → Value → Prop} {xs : List α} {vs : List Value} (h : All2 R xs vs) {v : Value} (hv : v ∈ vs) : ∃ x, R x v := by
  obtain ⟨j, hj⟩ := List.mem_iff_getElem?.1 hv
  obtain ⟨x, u, h1, h2, h3⟩ := h.at (List.getElem?_eq_some_iff.1 hj).1
  rw [hj] at h2
  injection h2 with h2
  subst h2
  exact ⟨x, h3⟩
theorem TS.lt (E : ElOk Ok) (h : TS Ok w B tt e g k c vs es Q) : g < w.heap.size ∧ (∀ i, i < k → ∀ b, (vs.getD i undef).ownBlock = some b → B ≤ b ∧ b < w.heap.size) ∧ ∀ i, i < k → ∀ x ∈ es.getD i [], ∀ b, x.ownBlock = some b → b < w.heap.size :=
  ⟨(h.row.lt g rfl).2, fun i hi b hb => (h.q i hi).lt hb, fun i hi x hx b hb => by
    obtain ⟨y, hy⟩ := (h.el i hi).mem_ok hx
    exact E.lt hy hb⟩
theorem TS.fresh (E : ElOk Ok) (h : TS Ok w B tt e g k c vs es Q) {b : Nat} (hb : w.heap.size ≤ b) : FarT g k vs es b := by
  obtain ⟨h1, h2, h3⟩ := h.lt E
  exact ⟨by omega, fun i hi e => by have := (h2 i hi b e).2; omega, fun i hi x hx e => by have := h3 i hi x hx b e; omega⟩
theorem TS.kept (E : ElOk Ok) {row : Option Nat} (h : TS Ok w B tt e g k c vs es Q) (hg : w.grownBy w' row) (hr : ∀ b, row = some b → FarT g k vs es b) : TS Ok w' B tt e g k c vs es Q :=
  ⟨own_other h.row hg (fun b hb e => by injection hb with hb; exact (hr b e).1 hb.symm), h.le, h.lq, fun i hi => (h.q i hi).kept hg (fun b hb e => (hr b e).2.1 i hi hb), h.far, h.row0,
   fun i hi => (h.el i hi).imp (fun x v hv ho => E.kept ho hg (fun b hb e => (hr b e).2.2 i hi v hv hb)), h.elf⟩
theorem TS.below (E : ElOk Ok) (h : TS Ok w B tt e g k c vs es Q) (hb : Below w.heap.size w w') : TS Ok w' B tt e g k c vs es Q := h.kept E (grown_of_below (row := none) hb) (fun b e => nomatch e)
theorem TS.mono {B' : Nat} (h : TS Ok w B tt e g k c vs es Q) (hB : B' ≤ B) : TS Ok w B' tt e g k c vs es Q :=
  ⟨own_mono h.row hB, h.le, h.lq, fun i hi => (h.q i hi).mono hB, h.far, h.row0, h.el, h.elf⟩
theorem getD_set' {β : Type} {l : List β} {i j : Nat} {x z : β} (hi : i < l.length) : (l.set i x).getD j z = if j = i then x else l.getD j z := by
  rw [List.getD_eq_getElem?_getD, List.getElem?_set, List.getD_eq_getElem?_getD]
  by_cases e : i = j
  · subst e; rw [if_pos rfl, if_pos rfl, if_pos hi]; rfl
  · rw [if_neg e, if_neg (fun e2 => e e2.symm)]
/-- A tape has lost its first element. -/
theorem TS.cut (E : ElOk Ok) (h : TS Ok w B tt e g k c vs es Q) {i : Nat} (hi : i < k) {v' x : Value} {y : α} {et : List Value} {qt : List α} (he : es.getD i [] = x :: et) (hq : Q.getD i [] = y :: qt) (hv : QRow w B e v' et) (hvb : v'.ownBlock = (vs.getD i undef).ownBlock)
    (ho : w'.ownsRow B tt 1 (.slice (some ⟨g, 0, none⟩) k c) k (vs.set i v')) (hg : w.grownBy w' (some g)) : TS Ok w' B tt e g k c (vs.set i v') (es.set i et) (Q.set i qt) := by
  have hl := h.lv
  have gv : ∀ j, (vs.set i v').getD j undef = if j = i then v' else vs.getD j undef := fun j => getD_set' (by omega)
  have ge : ∀ j, (es.set i et).getD j [] = if j = i then et else es.getD j [] := fun j => getD_set' (by have := h.le; omega)
  have gq : ∀ j, (Q.set i qt).getD j [] = if j = i then qt else Q.getD j [] := fun j => getD_set' (by have := h.lq; omega)
  have gb : ∀ j, ((vs.set i v').getD j undef).ownBlock = (vs.getD j undef).ownBlock := fun j => by
    rw [gv]
    by_cases hj : j = i
    · subst hj; rw [if_pos rfl, hvb]
    · rw [if_neg hj]
  have hfg : ∀ x : Value, ∀ b, x.ownBlock = some b → b ≠ g → (some g : Option Nat) ≠ some b := fun x b _ hne e => hne (by injection e with e; exact e.symm)
  have hem : ∀ j, j < k → ∀ u ∈ (es.set i et).getD j [], u ∈ es.getD j [] := fun j hj u hu => by
    rw [ge] at hu
    by_cases e1 : j = i
    · subst e1; rw [if_pos rfl] at hu; rw [he]; exact List.mem_cons_of_mem _ hu
    · rwa [if_neg e1] at hu
  refine ⟨ho, by rw [List.length_set, h.le], by rw [List.length_set, h.lq], fun j hj => ?_, fun a b d ha hb hab h1 => ?_, fun j hj => ?_, fun j hj => ?_, fun j hj u hu b hb => ?_⟩
  · rw [gv, ge]
    by_cases e1 : j = i
    · rw [if_pos e1, if_pos e1]
      exact hv.kept hg (fun b hb e2 => by rw [hvb] at hb; injection e2 with e2; subst e2; exact h.row0 i hi hb)
    · rw [if_neg e1, if_neg e1]
      exact (h.q j hj).kept hg (fun b hb e2 => by injection e2 with e2; subst e2; exact h.row0 j hj hb)
  · rw [gb] at h1 ⊢; exact h.far a b d ha hb hab h1
  · rw [gb]; exact h.row0 j hj
  · rw [gq, ge]
    have hk : ∀ x v, v ∈ es.getD j [] → Ok w x v → Ok w' x v := fun x v hv2 hok => E.kept hok hg (fun b hb e2 => by injection e2 with e2; subst e2; exact (h.elf j hj v hv2 g hb).1 rfl)
    by_cases e1 : j = i
    · subst e1
      rw [if_pos rfl, if_pos rfl]
      have := (h.el j hj).imp hk
      rw [he, hq] at this
      exact this.head.2
    · rw [if_neg e1, if_neg e1]
      exact (h.el j hj).imp hk
  · obtain ⟨h1, h2⟩ := h.elf j hj u (hem j hj u hu) b hb
    exact ⟨h1, fun j2 hj2 => by rw [gb]; exact h2 j2 hj2⟩
/-- An element is added behind a tape's last one. -/
theorem TS.push (E : ElOk Ok) {w1 : World} (h : TS Ok w B tt e g k c vs es Q) {i : Nat} (hi : i < k) {v' x : Value} {y : α} (hx : Ok w y x) (hxf : ∀ b, x.ownBlock = some b → b ≠ g ∧ ∀ j, j < k → (vs.getD j undef).ownBlock ≠ some b)
    (hv : QRow w1 B e v' (es.getD i [] ++ [x])) (hg1 : w.grownBy w1 (vs.getD i undef).ownBlock) (ht : v'.ownBlock = (vs.getD i undef).ownBlock ∨ ∃ b, v'.ownBlock = some b ∧ w.heap.size ≤ b)
    (ho : w'.ownsRow B tt 1 (.slice (some ⟨g, 0, none⟩) k c) k (vs.set i v')) (hg : w1.grownBy w' (some g)) : TS Ok w' B tt e g k c (vs.set i v') (es.set i (es.getD i [] ++ [x])) (Q.set i (Q.getD i [] ++ [y])) := by
  have hl := h.lv
  obtain ⟨l1, l2, l3⟩ := h.lt E
  have gv : ∀ j, (vs.set i v').getD j undef = if j = i then v' else vs.getD j undef := fun j => getD_set' (by omega)
  have ge : ∀ j, (es.set i (es.getD i [] ++ [x])).getD j [] = if j = i then es.getD i [] ++ [x] else es.getD j [] := fun j => getD_set' (by have := h.le; omega)
  have gq : ∀ j, (Q.set i (Q.getD i [] ++ [y])).getD j [] = if j = i then Q.getD i [] ++ [y] else Q.getD j [] := fun j => getD_set' (by have := h.lq; omega)
  -- blocks that are old and not this tape's are not the new value's
  have hne : ∀ b, b < w.heap.size → (vs.getD i undef).ownBlock ≠ some b → v'.ownBlock ≠ some b := fun b hb hn e1 => by
    rcases ht with h1 | ⟨b', h1, h2⟩
    · exact hn (by rw [← h1]; exact e1)
    · rw [h1] at e1; injection e1 with e1; omega
  have hgg : (vs.getD i undef).ownBlock ≠ some g := h.row0 i hi
  have okk : ∀ (y : α) (u : Value), Ok w y u → (∀ b, u.ownBlock = some b → b ≠ g ∧ (vs.getD i undef).ownBlock ≠ some b) → Ok w' y u := fun y u hu hb =>
    E.kept (E.kept hu hg1 (fun b h1 => (hb b h1).2)) hg (fun b h1 e1 => (hb b h1).1 (by injection e1 with e1; exact e1.symm))
  refine ⟨ho, by rw [List.length_set, h.le], by rw [List.length_set, h.lq], fun j hj => ?_, fun a b d ha hb hab h1 => ?_, fun j hj => ?_, fun j hj => ?_, fun j hj u hu b hb => ?_⟩
  · rw [gv, ge]
    by_cases e1 : j = i
    · rw [if_pos e1, if_pos e1]
      exact hv.kept hg (fun b hb e2 => by injection e2 with e2; subst e2; exact hne _ l1 hgg hb)
    · rw [if_neg e1, if_neg e1]
      refine ((h.q j hj).kept hg1 (fun b hb e2 => ?_)).kept hg (fun b hb e2 => by injection e2 with e2; subst e2; exact h.row0 j hj hb)
      exact h.far i j b hi hj (fun e => e1 e.symm) e2 hb
  · rw [gv] at h1 ⊢
    by_cases e1 : a = i
    · rw [if_pos e1] at h1
      have e2 : ¬ b = i := fun e => hab (e1.trans e.symm)
      rw [if_neg e2]
      intro h2
      refine hne d (l2 b hb d h2).2 (fun h3 => ?_) h1
      exact h.far i b d hi hb (fun e => e2 e.symm) h3 h2
    · rw [if_neg e1] at h1
      by_cases e2 : b = i
      · rw [if_pos e2]
        exact hne d (l2 a ha d h1).2 (fun h3 => h.far a i d ha hi e1 h1 h3)
      · rw [if_neg e2]
        exact h.far a b d ha hb hab h1
  · rw [gv]
    by_cases e1 : j = i
    · rw [if_pos e1]; exact hne g l1 hgg
    · rw [if_neg e1]; exact h.row0 j hj
  · rw [gq, ge]
    have hk : ∀ a, a < k → ∀ x v, v ∈ es.getD a [] → Ok w x v → Ok w' x v := fun a ha x v hv2 hok => okk x v hok (fun b hb => ⟨(h.elf a ha v hv2 b hb).1, (h.elf a ha v hv2 b hb).2 i hi⟩)
    by_cases e1 : j = i
    · rw [if_pos e1, if_pos e1]
      exact ((h.el i hi).imp (hk i hi)).snoc (okk y x hx (fun b hb => ⟨(hxf b hb).1, (hxf b hb).2 i hi⟩))
    · rw [if_neg e1, if_neg e1]
      exact (h.el j hj).imp (hk j hj)
  · have hu2 : (∃ a, a < k ∧ u ∈ es.getD a []) ∨ u = x := by
      rw [ge] at hu
      by_cases e1 : j = i
      · rw [if_pos e1] at hu
        rcases List.mem_append.1 hu with hu | hu
        · exact .inl ⟨i, hi, hu⟩
        · simp at hu; exact .inr hu
      · rw [if_neg e1] at hu; exact .inl ⟨j, hj, hu⟩
    have hold : b < w.heap.size ∧ b ≠ g ∧ ∀ j, j < k → (vs.getD j undef).ownBlock ≠ some b := by
      rcases hu2 with ⟨a, ha, hu2⟩ | rfl
      · exact ⟨l3 a ha u hu2 b hb, (h.elf a ha u hu2 b hb).1, (h.elf a ha u hu2 b hb).2⟩
      · exact ⟨E.lt hx hb, (hxf b hb).1, (hxf b hb).2⟩
    refine ⟨hold.2.1, fun j2 hj2 => ?_⟩
    rw [gv]
    by_cases e1 : j2 = i
    · rw [if_pos e1]; exact hne b hold.1 (hold.2.2 i hi)
    · rw [if_neg e1]; exact hold.2.2 j2 hj2
end
end Go.Proofs.Ytcdfinkefahloaa

