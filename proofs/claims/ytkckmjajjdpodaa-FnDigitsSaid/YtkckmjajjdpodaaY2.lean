/- Several texts in one: lemmas and walks of the functions that the laws reach. -/
import Derived.Test.YtkckmjajjdpodaaY0
import Derived.Test.YtkckmjajjdpodaaY1
import Derived.Lib.OwnBridge
import Derived.Sort.Grow
import Derived.Deep.RegionHeld3
import Derived.Deep.AppendLies
import Derived.Deep.DrawnRows

/- General: an owned list of integers, sorted by the library; one copied. -/
namespace Go.Proofs.Ytkckmjajjdpodaa
open Go.RowKit Go.Sort
set_option linter.unusedVariables false

theorem below_grow' {B : Nat} {w : World} (os : Array Obj) (hB : B ≤ w.heap.size) : Below B w (grow w os) :=
  ⟨rfl, rfl, rfl, by simp [grow], fun k hk => heap_grow_old w os (by omega)⟩
theorem grown_put {w : World} {g q : Nat} {ys : List Int} {os : Array Obj} : w.grownBy (grow (putRow (Value.int .i64) (Sort.ahead w q) g 0 ys.toArray) os) (some g) := by
  refine ⟨rfl, rfl, rfl, by simp, fun k hk hne => ?_⟩
  rw [heap_grow_old _ _ (by simpa using hk)]
  have : g ≠ k := fun e => hne (by rw [e])
  simp [putRow, mapBlock, Sort.ahead, Array.getElem?_modify, this]
/-- Behind the library's sort. -/
theorem own_sorted {w : World} {base g n cap q : Nat} {e : TypeId} {zs ys : List Int} {os : Array Obj} (h : w.ownsRow base e 1 (.slice (some ⟨g, 0, none⟩) n cap) n (zs.map (Value.int .i64))) (hy : ys.length = n) :
    (grow (putRow (Value.int .i64) (Sort.ahead w q) g 0 ys.toArray) os).ownsRow base e 1 (.slice (some ⟨g, 0, none⟩) n cap) n (ys.map (Value.int .i64)) := by
  have h1 := Lib.ownsRow_putRow (q := q) (k := n) h hy (Nat.le_refl _)
  rw [List.take_of_length_le (by omega)] at h1
  exact own_below h1 (Nat.le_refl _) (below_grow' os (Nat.le_refl _))
theorem own_holds {w : World} {base g n cap : Nat} {e : TypeId} {zs : List Int} (h : w.ownsRow base e 1 (.slice (some ⟨g, 0, none⟩) n cap) n (zs.map (Value.int .i64))) : Holds (Value.int .i64) w g 0 zs.toArray := by
  obtain ⟨g', c', e', _, _, _, _, _, h3⟩ := Lib.holds_of_ownsRow h (by simp)
  injection e' with e' _ _
  injection e' with e'
  injection e' with e'
  subst e'
  exact h3

theorem own_celli {w : World} {base : Nat} {e : TypeId} {g : Nat} {n c : Nat} {xs : List Value} (h : w.ownsRow base e 1 (.slice (some ⟨g, 0, none⟩) n c) n xs) {i : Nat} {x : Value} (hx : xs[i]? = some x) : w.cell? ⟨g, i, none⟩ = some x := by
  obtain ⟨g', hg, hc, _⟩ := own_at h hx
  simp only [Option.some.injEq, Addr.mk.injEq, and_true] at hg
  rw [hg]; exact hc

/-- One step down of an item that is put into its place. -/
theorem own_step {w : World} {base g n cap k : Nat} {e : TypeId} {A R : List Int} {x : Int} (hk : k < A.length) (h : w.ownsRow base e 1 (.slice (some ⟨g, 0, none⟩) n cap) n ((Mg.insSt A x (k + 1) R).map (Value.int .i64))) :
    ((w.setCell ⟨g, k, none⟩ (.int .i64 x)).setCell ⟨g, k + 1, none⟩ (.int .i64 A[k])).ownsRow base e 1 (.slice (some ⟨g, 0, none⟩) n cap) n ((Mg.insSt A x k R).map (Value.int .i64)) ∧ w.grownBy ((w.setCell ⟨g, k, none⟩ (.int .i64 x)).setCell ⟨g, k + 1, none⟩ (.int .i64 A[k])) (some g) := by
  have h1 := h.stored k (.int .i64 x)
  have h2 := h1.1.stored (k + 1) (.int .i64 A[k])
  refine ⟨?_, grown_trans h1.2 h2.2⟩
  have e1 : ((Mg.insSt A x (k + 1) R).map (Value.int .i64)).set k (.int .i64 x) = ((Mg.insSt A x (k + 1) R).set k x).map (Value.int .i64) := (List.map_set ..).symm
  have e2 : (((Mg.insSt A x (k + 1) R).set k x).map (Value.int .i64)).set (k + 1) (.int .i64 A[k]) = (((Mg.insSt A x (k + 1) R).set k x).set (k + 1) A[k]).map (Value.int .i64) := (List.map_set ..).symm
  have h3 := h2.1
  rw [e1, e2, Mg.insSt_step hk] at h3
  exact h3
theorem own_ins_cells {w : World} {base g n cap k : Nat} {e : TypeId} {A R : List Int} {x : Int} (hk : k < A.length) (h : w.ownsRow base e 1 (.slice (some ⟨g, 0, none⟩) n cap) n ((Mg.insSt A x (k + 1) R).map (Value.int .i64))) :
    w.cell? ⟨g, k, none⟩ = some (.int .i64 A[k]) ∧ w.cell? ⟨g, k + 1, none⟩ = some (.int .i64 x) ∧ w.frozen? ⟨g, k, none⟩ = false ∧ w.frozen? ⟨g, k + 1, none⟩ = false :=
  ⟨own_celli h (by rw [List.getElem?_map, Mg.insSt_before hk]; rfl), own_celli h (by rw [List.getElem?_map, Mg.insSt_at (by omega)]; rfl), h.frozenAt k, h.frozenAt (k + 1)⟩

theorem own_stepD {w : World} {base g n cap k : Nat} {e : TypeId} {A R : List Int} {x y : Int} (hk : k < A.length) (hy : A.getD k 0 = y) (h : w.ownsRow base e 1 (.slice (some ⟨g, 0, none⟩) n cap) n ((Mg.insSt A x (k + 1) R).map (Value.int .i64))) :
    ((w.setCell ⟨g, k, none⟩ (.int .i64 x)).setCell ⟨g, k + 1, none⟩ (.int .i64 y)).ownsRow base e 1 (.slice (some ⟨g, 0, none⟩) n cap) n ((Mg.insSt A x k R).map (Value.int .i64)) ∧ w.grownBy ((w.setCell ⟨g, k, none⟩ (.int .i64 x)).setCell ⟨g, k + 1, none⟩ (.int .i64 y)) (some g) := by
  have e1 : A[k] = y := by rw [← hy, List.getD_eq_getElem?_getD, List.getElem?_eq_getElem hk]; rfl
  subst e1
  exact own_step hk h
theorem own_ins_cellsD {w : World} {base g n cap k : Nat} {e : TypeId} {A R : List Int} {x : Int} (hk : k < A.length) (h : w.ownsRow base e 1 (.slice (some ⟨g, 0, none⟩) n cap) n ((Mg.insSt A x (k + 1) R).map (Value.int .i64))) :
    w.cell? ⟨g, k, none⟩ = some (.int .i64 (A.getD k 0)) ∧ w.cell? ⟨g, k + 1, none⟩ = some (.int .i64 x) ∧ w.frozen? ⟨g, k, none⟩ = false ∧ w.frozen? ⟨g, k + 1, none⟩ = false := by
  have e1 : A.getD k 0 = A[k] := by rw [List.getD_eq_getElem?_getD, List.getElem?_eq_getElem hk]; rfl
  rw [e1]
  exact own_ins_cells hk h
theorem ins_end_int {l : List Int} {x : Int} {k : Nat} {R : List Int} (hk : k ≤ l.length) (hd : ∀ b ∈ (Mg.srtI l).drop k, x < b) (hs : 0 < k → ¬ x < (Mg.srtI l).getD (k - 1) 0) : Mg.insSt (Mg.srtI l) x k R = Mg.srtI (l ++ [x]) ++ R := by
  have hl : (Mg.srtI l).length = l.length := Mg.srt_length l
  refine Mg.insSt_srt Mg.swI (lt := Mg.ltI) (by show k ≤ (Mg.srtI l).length; omega) (fun b hb => by simpa [Mg.ltI] using hd b hb) (fun h0 => ?_)
  have h1 := hs h0
  rw [List.getD_eq_getElem?_getD, List.getElem?_eq_getElem (by omega)] at h1
  unfold Mg.srtI at h1
  simpa [Mg.ltI] using h1
theorem srtI_len (l : List Int) : (Mg.srtI l).length = l.length := Mg.srt_length l
theorem srtI_start (zs : List Int) : zs = Mg.srtI (zs.take 1) ++ zs.drop 1 := by
  cases zs with
  | nil => rfl
  | cons a t => simp [Mg.srtI, Mg.srt_one]
theorem ins_start {zs : List Int} {i : Nat} (hi : i < zs.length) : Mg.srtI (zs.take i) ++ zs.drop i = Mg.insSt (Mg.srtI (zs.take i)) (zs.getD i 0) i (zs.drop (i + 1)) := by
  have hl : (Mg.srtI (zs.take i)).length = i := by rw [srtI_len, List.length_take]; omega
  have h1 := Mg.insSt_top (Mg.srtI (zs.take i)) (zs.getD i 0) (zs.drop (i + 1))
  rw [hl] at h1
  rw [h1, List.drop_eq_getElem_cons hi, List.getD_eq_getElem?_getD, List.getElem?_eq_getElem hi]
  rfl
theorem take_snoc {zs : List Int} {i : Nat} (hi : i < zs.length) : zs.take i ++ [zs.getD i 0] = zs.take (i + 1) := by
  rw [List.take_add_one, List.getElem?_eq_getElem hi, List.getD_eq_getElem?_getD, List.getElem?_eq_getElem hi]
  rfl

theorem own_addr {w : World} {base : Nat} {e : TypeId} {size : Nat} {a : Option Addr} {n c : Nat} {xs : List Value} (h : w.ownsRow base e size (.slice a n c) n xs) (hb : (Value.slice a n c).ownBlock ≠ none) : ∃ g, a = some ⟨g, 0, none⟩ ∧ base ≤ g ∧ g < w.heap.size := by
  rcases h.2 with ⟨h2, _⟩ | ⟨g, cap, cur, hv, hbs, hg, _⟩
  · injection h2 with h2 _ _
    subst h2
    exact absurd rfl hb
  · injection hv with hv _ _
    exact ⟨g, hv, hbs, (Array.getElem?_eq_some_iff.1 hg).1⟩
theorem ints_news {w : World} {x : Addr} {zs : List Int} (h : IntsAt w (some x) zs) : ∀ j u, (zs.map (Value.int .i64))[j]? = some u → w.cell? (x.add j) = some u := by
  intro j u hu
  rw [List.getElem?_map] at hu
  rcases h with rfl | ⟨b, off, e, _, h2⟩
  · simp at hu
  · injection e with e
    subst e
    by_cases hj : j < zs.length
    · rw [List.getElem?_eq_getElem hj] at hu
      have h3 := h2 j hj
      rw [List.getD_eq_getElem?_getD, List.getElem?_eq_getElem hj] at h3
      simp at hu h3
      rw [← hu, ← h3]
      unfold Addr.add
      split <;> simp_all
    · rw [List.getElem?_eq_none (by omega)] at hu; simp at hu
/-- 'append(l, x...)' where x can be read. -/
theorem wpList_appX {P : Program} {w : World} {ops : Array Oper} {rest : List Oper} {o : Oper} {a : Act} {Q : Exit → Act → World → Prop} {t e : TypeId} {z : Value} {size bytes : Nat} (T : SlT P t e z size bytes)
    (hgd : o.guard = none) (s y : Operand) (ho : o.op = .call { callee := .builtin .append, args := #[s, y], argTypes := #[t, t] })
    {base : Nat} {v : Value} {n m c : Nat} {xs ys : List Value} {ad : Addr} (hs : a.eval s = v) (hown : w.ownsRow base e size v n xs) (hy : a.eval y = .slice (some ad) m c) (hl : ys.length = m * size) (hcells : ∀ j x, ys[j]? = some x → w.cell? (ad.add j) = some x)
    (h1 : ∀ x ∈ ys, x.oneCell' = true) (hsmall : n + m ≤ 1099511627776) (hbase : base ≤ w.heap.size)
    (h : ∀ v' w', w'.ownsRow base e size v' (n + m) (xs ++ ys) → w.grownBy w' v.ownBlock → (v'.ownBlock = v.ownBlock ∨ v'.ownBlock = some w.heap.size) → wpList P ops Q rest (a.put o.dst v') w') :
    wpList P ops Q (o :: rest) a w := by
  refine wpList_plain hgd fun K hK => ?_
  obtain ⟨v', w', hr, h2, h3, h4⟩ := run_app_tag (P := P) w T base o.type v n xs hown ad m c ys hl hcells h1 hsmall hbase
  unfold Oper.wp execOp
  simp only [ho, resolve, invoke, builtin, Sem.run_bind, Sem.run_pure, Result.andThen_ok, List.map_toArray, List.map_cons, List.map_nil, hs, hy, hr]
  exact hK _ _ (h v' w' h2 h3 h4)

end Go.Proofs.Ytkckmjajjdpodaa

/- Rows of integers written at a place in their midst; the swap of two. -/
namespace Go.Proofs.Ytkckmjajjdpodaa
open Go.RowKit Go.Sort
set_option linter.unusedVariables false

theorem own_putAt {α : Type} [Inhabited α] {enc : α → Value} {w : World} {base : Nat} {e : TypeId} {g n cap q off : Nat} {zs ys : List α} (h : w.ownsRow base e 1 (.slice (some ⟨g, 0, none⟩) n cap) n (zs.map enc)) (hy : off + ys.length ≤ n) :
    (putRow enc (Sort.ahead w q) g off ys.toArray).ownsRow base e 1 (.slice (some ⟨g, 0, none⟩) n cap) n ((zs.take off ++ ys ++ zs.drop (off + ys.length)).map enc) := by
  have hl : zs.length = n := by have := h.1; simpa using this
  rcases h.2 with ⟨e0, _⟩ | ⟨g', cap', cur, e0, hb, hg, hn, hm, hs, ht⟩
  · cases e0
  · injection e0 with e1 _ e3
    injection e1 with e1
    injection e1 with e1
    subst e1; subst e3
    refine ⟨by simp; omega, .inr ⟨g, cap, putCells enc off ys.toArray cur, rfl, hb, ?_, hn, hm, by simpa [putCells] using hs, ?_⟩⟩
    · simp [putRow, mapBlock, Sort.ahead, Array.getElem?_modify, hg, onCells]
    · apply List.ext_getElem?
      intro j
      have hcur : ∀ j, j < n → cur[j]? = (zs[j]?).map enc := fun j hj => by
        have := congrArg (fun l : List Value => l[j]?) ht
        simp only [List.getElem?_take, Nat.mul_one, if_pos hj, Array.getElem?_toList, List.getElem?_map] at this
        exact this
      rw [List.getElem?_take, List.getElem?_map, Array.getElem?_toList]
      by_cases hj : j < n
      · have hjc : j < cur.size := by omega
        simp only [Nat.mul_one, if_pos hj, putCells, Array.getElem?_mapIdx]
        rw [hcur j hj]
        rw [List.getElem?_eq_getElem (by omega : j < zs.length)]
        simp only [Option.map_some]
        by_cases h1 : j < off
        · rw [if_neg (by omega), List.append_assoc, List.getElem?_append_left (by simp; omega), List.getElem?_take, if_pos h1, List.getElem?_eq_getElem (by omega : j < zs.length)]
          rfl
        · by_cases h2 : j < off + ys.length
          · rw [if_pos (by simp; omega), List.getElem?_append_left (by simp; omega), List.getElem?_append_right (by simp; omega)]
            have e1 : j - (zs.take off).length = j - off := by simp; omega
            rw [e1, List.getElem?_eq_getElem (by omega)]
            simp [getElem!_pos, show j - off < ys.length by omega]
          · rw [if_neg (by simp; omega), List.getElem?_append_right (by simp; omega)]
            have e1 : j - (zs.take off ++ ys).length = j - (off + ys.length) := by simp; omega
            rw [e1, List.getElem?_drop, show off + ys.length + (j - (off + ys.length)) = j by omega, List.getElem?_eq_getElem (by omega : j < zs.length)]
            rfl
      · simp only [Nat.mul_one, if_neg hj]
        rw [List.getElem?_eq_none (by simp; omega)]
        rfl

theorem grown_putAt {α : Type} [Inhabited α] {enc : α → Value} {w : World} {g q off : Nat} {ys : List α} : w.grownBy (putRow enc (Sort.ahead w q) g off ys.toArray) (some g) := by
  refine ⟨rfl, rfl, rfl, by simp [putRow, mapBlock, Sort.ahead], fun k hk hne => ?_⟩
  have : g ≠ k := fun e => hne (by rw [e])
  simp [putRow, mapBlock, Sort.ahead, Array.getElem?_modify, this]

theorem holds_part {α : Type} [Inhabited α] {enc : α → Value} {w : World} {g off : Nat} {zs : List α} (h : Holds enc w g 0 zs.toArray) : Holds enc w g off (zs.drop off).toArray := by
  intro j hj
  have hj' : off + j < zs.length := by simp at hj; omega
  have := h (off + j) (by simpa using hj')
  rw [Nat.zero_add] at this
  have e : (zs.drop off).toArray[j]! = zs.toArray[off + j]! := by
    simp [getElem!_pos, hj']
  rw [e]; exact this

theorem swp_list {d : List Int} {i k : Nat} (hi : i < d.length) (hk : k < d.length) (hne : i ≠ k) : (Sort.swp d.toArray i k) = ((d.set i (d.getD k 0)).set k (d.getD i 0)).toArray := by
  unfold Sort.swp
  simp [getElem!_pos, hi, hk, List.getD]

end Go.Proofs.Ytkckmjajjdpodaa

/- append in a region that draws its order: at a step, any number of elements, and where the result lies. -/
namespace Go.Proofs.Ytkckmjajjdpodaa
open Go.RowKit Go.Sort
set_option linter.unusedVariables false

theorem wp_appX {P : Program} {w : World} {o : Oper} {a : Act} {K : Act → World → Prop} {Q : Exit → Act → World → Prop} {t e : TypeId} {z : Value} {size bytes : Nat} (T : SlT P t e z size bytes) (s y : Operand)
    (ho : o.op = .call { callee := .builtin .append, args := #[s, y], argTypes := #[t, t] })
    (base : Nat) (v : Value) (n : Nat) (xs : List Value) (ad : Addr) (m c : Nat) (ys : List Value) (hs : a.eval s = v) (hown : w.ownsRow base e size v n xs) (hy : a.eval y = .slice (some ad) m c) (hl : ys.length = m * size)
    (hcells : ∀ j x, ys[j]? = some x → w.cell? (ad.add j) = some x) (h1 : ∀ x ∈ ys, x.oneCell' = true) (hsmall : n + m ≤ 1099511627776) (hbase : base ≤ w.heap.size)
    (h : ∀ v' w', w'.ownsRow base e size v' (n + m) (xs ++ ys) → w.grownBy w' v.ownBlock → (v'.ownBlock = v.ownBlock ∨ v'.ownBlock = some w.heap.size) → K (a.put o.dst v') w') : Oper.wp P o a w K Q := by
  obtain ⟨v', w', hr, h2, h3, h4⟩ := run_app_tag (P := P) w T base o.type v n xs hown ad m c ys hl hcells h1 hsmall hbase
  unfold Oper.wp execOp
  simp only [ho, resolve, invoke, builtin, Sem.run_bind, Sem.run_pure, Result.andThen_ok, List.map_toArray, List.map_cons, List.map_nil, hs, hy, hr]
  exact h v' w' h2 h3 h4

theorem step_appX {P : Program} {w : World} {ops : Array Oper} {o : Oper} {a : Act} {K : Act → World → Prop} {Q : Exit → Act → World → Prop} {E : Prop} {t e : TypeId} {z : Value} {size bytes : Nat} (T : SlT P t e z size bytes) (hgd : o.guard = none) (s y : Operand)
    (ho : o.op = .call { callee := .builtin .append, args := #[s, y], argTypes := #[t, t] })
    (base : Nat) (v : Value) (n : Nat) (xs : List Value) (ad : Addr) (m c : Nat) (ys : List Value) (hs : a.eval s = v) (hown : w.ownsRow base e size v n xs) (hy : a.eval y = .slice (some ad) m c) (hl : ys.length = m * size)
    (hcells : ∀ j x, ys[j]? = some x → w.cell? (ad.add j) = some x) (h1 : ∀ x ∈ ys, x.oneCell' = true) (hsmall : n + m ≤ 1099511627776) (hbase : base ≤ w.heap.size)
    (h : ∀ v' w', w'.ownsRow base e size v' (n + m) (xs ++ ys) → w.grownBy w' v.ownBlock → (v'.ownBlock = v.ownBlock ∨ v'.ownBlock = some w.heap.size) → K (a.put o.dst v') w') :
    if Region.wanted o (yielded ops a.tmps) = true then Oper.wp P o a w K Q else E := by
  have hw : Region.wanted o (yielded ops a.tmps) = true := by simp [Region.wanted, hgd]
  rw [if_pos hw]
  exact wp_appX T s y ho base v n xs ad m c ys hs hown hy hl hcells h1 hsmall hbase h

end Go.Proofs.Ytkckmjajjdpodaa

/- A whole element stored in a region that draws its order. -/
namespace Go.Proofs.Ytkckmjajjdpodaa
open Go.RowKit Go.Sort
set_option linter.unusedVariables false

theorem wp_put {P : Program} {w : World} {o : Oper} {a : Act} {K : Act → World → Prop} {Q : Exit → Act → World → Prop} {t e : TypeId} {z : Value} {size bytes : Nat} (T : SlT P t e z size bytes) (x y : Operand) (hop : o.op = .store e x y)
    {α : Type} (enc : α → List Value) (hS : ∀ r, (enc r).length = size) (h1 : ∀ r, ∀ u ∈ enc r, u.oneCell' = true) (base g n cap : Nat) (rs : List α) (k : Nat) (r : α) (hx : a.eval x = .pointer (some ⟨g, k * size, none⟩)) (hv : (a.eval y).cells.toList = enc r)
    (hown : w.ownsRow base e size (.slice (some ⟨g, 0, none⟩) n cap) n (flat enc rs)) (hk : k < n) (hl : rs.length = n)
    (h : ∀ w', w'.ownsRow base e size (.slice (some ⟨g, 0, none⟩) n cap) n (flat enc (rs.set k r)) → w.grownBy w' (some g) → K (a.put o.dst undef) w') : Oper.wp P o a w K Q := by
  obtain ⟨i, hi, _, hs, _⟩ := T.info
  obtain ⟨w', hr, g1, g2⟩ := own_put hown k hk (enc r) (hS r) (P := P) (h1 r)
  rw [flat_put hS rs k (by omega) r] at g1
  have hsz : (a.eval y).cells.size = i.size := by rw [hs, ← hS r, ← hv]; simp
  unfold Oper.wp execOp
  simp only [hop, hx, Instr.storeAt, Instr.sureAddr, storeVar, sizeOf, typeInfo, hv]
  simp [hi, hsz, hr]
  exact h w' g1 g2

theorem step_put {P : Program} {w : World} {ops : Array Oper} {o : Oper} {a : Act} {K : Act → World → Prop} {Q : Exit → Act → World → Prop} {E : Prop} {t e : TypeId} {z : Value} {size bytes : Nat} (T : SlT P t e z size bytes) (hgd : o.guard = none) (x y : Operand) (hop : o.op = .store e x y)
    {α : Type} (enc : α → List Value) (hS : ∀ r, (enc r).length = size) (h1 : ∀ r, ∀ u ∈ enc r, u.oneCell' = true) (base g n cap : Nat) (rs : List α) (k : Nat) (r : α) (hx : a.eval x = .pointer (some ⟨g, k * size, none⟩)) (hv : (a.eval y).cells.toList = enc r)
    (hown : w.ownsRow base e size (.slice (some ⟨g, 0, none⟩) n cap) n (flat enc rs)) (hk : k < n) (hl : rs.length = n)
    (h : ∀ w', w'.ownsRow base e size (.slice (some ⟨g, 0, none⟩) n cap) n (flat enc (rs.set k r)) → w.grownBy w' (some g) → K (a.put o.dst undef) w') :
    if Region.wanted o (yielded ops a.tmps) = true then Oper.wp P o a w K Q else E := by
  have hw : Region.wanted o (yielded ops a.tmps) = true := by simp [Region.wanted, hgd]
  rw [if_pos hw]
  exact wp_put T x y hop enc hS h1 base g n cap rs k r hx hv hown hk hl h

theorem encR_one (r : Int × Int) : ∀ u ∈ encR r, u.oneCell' = true := by
  intro u hu
  simp [encR] at hu
  rcases hu with rfl | rfl <;> rfl

/-- The cells of an owned row of records. -/
theorem rec_cells {w : World} {base g n cap k : Nat} {e : TypeId} {d : List (Int × Int)} {r : Int × Int} (h : w.ownsRow base e 2 (.slice (some ⟨g, 0, none⟩) n cap) n (flat encR d)) (hk : d[k]? = some r) :
    w.cell? ⟨g, k * 2, none⟩ = some (.int .i64 r.1) ∧ w.cell? ⟨g, k * 2 + 1, none⟩ = some (.int .i64 r.2) := by
  have hlt : k < d.length := (List.getElem?_eq_some_iff.1 hk).1
  obtain ⟨b, off, e1, h1, h2⟩ := (recs_of_own h).at hlt
  injection e1 with e1
  injection e1 with e1 e2 _
  subst e1; subst e2
  rw [Nat.zero_add] at h1 h2
  rw [List.getD_eq_getElem?_getD, hk] at h1 h2
  exact ⟨h1, h2⟩

end Go.Proofs.Ytkckmjajjdpodaa

/- General lemmas: records behind a readable slice: appended to a list of the call's own; parts of them. -/
namespace Go.Proofs.Ytkckmjajjdpodaa
open Go.RowKit
set_option linter.unusedVariables false

theorem recs_newsN {w : World} {x : Addr} {rs : List (Int × Int)} (h : RecsAt w (some x) rs) : ∀ j u, (flat encR rs)[j]? = some u → w.cell? (x.add j) = some u := by
  intro q u hu
  have hq : q < rs.length * 2 := by
    have := (List.getElem?_eq_some_iff.1 hu).1
    rwa [flat_length encR_len] at this
  rcases h with rfl | ⟨b, off, e, _, h2⟩
  · simp at hq
  · injection e with e
    subst e
    have hk : q / 2 < rs.length := by omega
    obtain ⟨g1, g2⟩ := h2 (q / 2) hk
    have hg := flat_get encR_len rs (q / 2) (q % 2) (Nat.mod_lt _ (by omega))
    have hqe : q / 2 * 2 + q % 2 = q := by omega
    rw [hqe, hu, List.getElem?_eq_getElem hk] at hg
    rw [List.getD_eq_getElem?_getD, List.getElem?_eq_getElem hk] at g1 g2
    have hadd : (⟨b, off, none⟩ : Addr).add q = ⟨b, off + q, none⟩ := by unfold Addr.add; split <;> simp_all
    rw [hadd]
    rcases Nat.mod_two_eq_zero_or_one q with h0 | h0
    · rw [h0] at hg
      simp [encR] at hg
      rw [show off + q = off + q / 2 * 2 by omega, g1, hg]; rfl
    · rw [h0] at hg
      simp [encR] at hg
      rw [show off + q = off + q / 2 * 2 + 1 by omega, g2, hg]; rfl
theorem recs_oneN {rs : List (Int × Int)} : ∀ u ∈ flat encR rs, u.oneCell' = true := by
  intro u hu
  unfold flat at hu
  obtain ⟨r, _, hr⟩ := List.mem_flatMap.1 hu
  simp [encR] at hr
  rcases hr with rfl | rfl <;> rfl

/-- A part of records. -/
theorem recs_part {w : World} {b off : Nat} {rs : List (Int × Int)} (h : RecsAt w (some ⟨b, off, none⟩) rs) (k m : Nat) : RecsAt w (some ⟨b, off + k * 2, none⟩) ((rs.drop k).take m) := by
  rcases h with rfl | ⟨b', off', e, hb, h2⟩
  · exact .inl (by simp)
  · injection e with e
    injection e with e1 e2
    subst e1 e2
    refine .inr ⟨b, off + k * 2, rfl, hb, fun j hj => ?_⟩
    have hj' : j < m ∧ k + j < rs.length := by simp at hj; omega
    obtain ⟨g1, g2⟩ := h2 (k + j) hj'.2
    have e : ((rs.drop k).take m).getD j (0, 0) = rs.getD (k + j) (0, 0) := by
      simp only [List.getD_eq_getElem?_getD, List.getElem?_take, List.getElem?_drop, if_pos hj'.1]
    rw [e, show off + k * 2 + j * 2 = off + (k + j) * 2 by omega]
    exact ⟨g1, g2⟩
theorem recs_drop {w : World} {b off : Nat} {rs : List (Int × Int)} (h : RecsAt w (some ⟨b, off, none⟩) rs) (k : Nat) : RecsAt w (some ⟨b, off + k * 2, none⟩) (rs.drop k) := by
  have := recs_part h k rs.length
  rwa [List.take_of_length_le (by simp)] at this
theorem recs_take {w : World} {a : Option Addr} {rs : List (Int × Int)} (h : RecsAt w a rs) (m : Nat) : RecsAt w a (rs.take m) := by
  rcases h with rfl | ⟨b, off, e, hb, h2⟩
  · exact .inl (by simp)
  · subst e
    have := recs_part (.inr ⟨b, off, rfl, hb, h2⟩) 0 m
    simpa using this
theorem recs_tail {w : World} {b off : Nat} {r : Int × Int} {rs : List (Int × Int)} (h : RecsAt w (some ⟨b, off, none⟩) (r :: rs)) : RecsAt w (some ⟨b, off + 2, none⟩) rs := by
  have := recs_drop h 1
  simpa using this
theorem recs_head {w : World} {b off : Nat} {r : Int × Int} {rs : List (Int × Int)} (h : RecsAt w (some ⟨b, off, none⟩) (r :: rs)) : w.cell? ⟨b, off, none⟩ = some (.int .i64 r.1) ∧ w.cell? ⟨b, off + 1, none⟩ = some (.int .i64 r.2) := by
  rcases h with h | ⟨b', off', e, hb, h2⟩
  · cases h
  · injection e with e
    injection e with e1 e2
    subst e1 e2
    have := h2 0 (by simp)
    simpa using this
theorem recs_addr {w : World} {a : Option Addr} {rs : List (Int × Int)} (h : RecsAt w a rs) (hn : 0 < rs.length) : ∃ b off, a = some ⟨b, off, none⟩ ∧ b < w.heap.size := by
  rcases h with rfl | ⟨b, off, e, hb, _⟩
  · simp at hn
  · exact ⟨b, off, e, hb⟩

/-- A slice without an address has no room. -/
def NilOk (a : Option Addr) (c : Nat) : Prop := a = none → c = 0
theorem nilOk_some (x : Addr) (c : Nat) : NilOk (some x) c := fun h => by cases h
theorem nilOk_own {w : World} {B : Nat} {e : TypeId} {size n c : Nat} {a : Option Addr} {xs : List Value} (h : w.ownsRow B e size (.slice a n c) n xs) : NilOk a c := by
  intro ha
  subst ha
  rcases h.2 with ⟨hv, _⟩ | ⟨g, cap, cur, hv, _⟩
  · injection hv
  · injection hv with h1; cases h1

/-- 'append(s, u...)', u records that can be read. -/
theorem wpList_appR {P : Program} {w : World} {ops : Array Oper} {rest : List Oper} {o : Oper} {a : Act} {Q : Exit → Act → World → Prop} {t e : TypeId} {z : Value} {bytes : Nat} (T : SlT P t e z 2 bytes)
    (hgd : o.guard = none) (s y : Operand) (ho : o.op = .call { callee := .builtin .append, args := #[s, y], argTypes := #[t, t] })
    {base : Nat} {v : Value} {n m c : Nat} {xs : List Value} {x : Option Addr} {rs : List (Int × Int)} (hs : a.eval s = v) (hown : w.ownsRow base e 2 v n xs) (hy : a.eval y = .slice x m c) (hu : RecsAt w x rs) (hm : rs.length = m) (hx : NilOk x c)
    (hsmall : n + m ≤ 1099511627776) (hbase : base ≤ w.heap.size)
    (h : ∀ v' w', w'.ownsRow base e 2 v' (n + m) (xs ++ flat encR rs) → w.grownBy w' v.ownBlock → (v'.ownBlock = v.ownBlock ∨ v'.ownBlock = some w.heap.size) → wpList P ops Q rest (a.put o.dst v') w') :
    wpList P ops Q (o :: rest) a w := by
  cases x with
  | none =>
    have hr : rs = [] := by
      rcases hu with h | ⟨_, _, e, _⟩
      · exact h
      · cases e
    subst hr
    obtain rfl : c = 0 := hx rfl
    obtain rfl : m = 0 := hm.symm
    obtain ⟨i, hi, hz, hsz, hby⟩ := T.info
    refine wpList_append_own_none hgd s y t ho base e i 2 T.und hi v n xs hs hown hy ?_
    refine h v w (by simpa [flat] using hown) ⟨rfl, rfl, rfl, Nat.le_refl _, fun _ _ _ => rfl⟩ (.inl rfl)
  | some p =>
    refine wpList_plain hgd fun K hK => ?_
    obtain ⟨v', w', hr, h2, h3, h4⟩ := run_app_tag (P := P) w T base o.type v n xs hown p m c (flat encR rs) (by rw [flat_length encR_len, hm]) (recs_newsN hu) recs_oneN hsmall hbase
    unfold Oper.wp execOp
    simp only [ho, resolve, invoke, builtin, Sem.run_bind, Sem.run_pure, Result.andThen_ok, List.map_toArray, List.map_cons, List.map_nil, hs, hy, hr]
    exact hK _ _ (h v' w' h2 h3 h4)

end Go.Proofs.Ytkckmjajjdpodaa

/- Walks: the test of a great code, the cursor's start. -/
namespace Go.Proofs.Ytkckmjajjdpodaa
open Go.RowKit
set_option linter.unusedVariables false

set_option maxHeartbeats 400000 in
theorem vBigG_any (a : Option Addr) (n c : Nat) (w : World) (hn : n ≤ 9223372036854775807) :
    Calls Try.prog 15 #[.slice a n c] w fun e w' => e = .returned (.bool (decide (65536 < n))) ∧ w = w' := by
  by_cases h : 65536 < n
  all_goals
    go_enter Try.func15, Try.ntmps15
    go_wp2
    go_ret
    exact ⟨ret_bool (by simp [h]; try omega), rfl⟩

/-- The cursor at the start of a draw. -/
theorem cur_start {w : World} {ac : Option Addr} {c : Nat} {cs : List Int} (hl : cs.length ≤ 65537) (h : BytesAt w ac cs) :
    Cur (w.alloc (.cells #[.slice ac cs.length c, .int .i64 0, .int .u64 0] 107)) w.heap.size ac cs 0 ∧ (cs ≠ [] → ∀ b off, ac = some ⟨b, off, none⟩ → b < w.heap.size) ∧
      Below w.heap.size w (w.alloc (.cells #[.slice ac cs.length c, .int .i64 0, .int .u64 0] 107)) := by
  have HB : Below w.heap.size w (w.alloc (.cells #[.slice ac cs.length c, .int .i64 0, .int .u64 0] 107)) := (Below.refl _ _).alloc (Nat.le_refl _) _
  have HO : cs ≠ [] → ∀ b off, ac = some ⟨b, off, none⟩ → b < w.heap.size := fun h0 b off e => by
    obtain ⟨b', off', e', hb⟩ := h.lt h0
    rw [e] at e'; injection e' with e'; injection e' with e' _; omega
  exact ⟨⟨⟨c, 0, 0, block_new w _, by omega, by omega⟩, h.below (Nat.le_refl _) HB, fun h0 b off e => by have := HO h0 b off e; omega, by omega⟩, HO, HB⟩

end Go.Proofs.Ytkckmjajjdpodaa

/- Walks: records arranged by the reference, stably; the draw of FirstDescent and of ProfileOf. -/
namespace Go.Proofs.Ytkckmjajjdpodaa
open Go.RowKit Go.Sort
set_option linter.unusedVariables false

/-- Records by their keys, stably. -/
def srtR (l : List (Int × Int)) : List (Int × Int) := Mg.srt (Mg.ltK Prod.fst) l
theorem srtR_len (l : List (Int × Int)) : (srtR l).length = l.length := Mg.srt_length l
theorem srtR_start (zs : List (Int × Int)) : zs = srtR (zs.take 1) ++ zs.drop 1 := by
  cases zs with
  | nil => rfl
  | cons a t => simp [srtR, Mg.srt_one]
theorem insR_start {zs : List (Int × Int)} {i : Nat} (hi : i < zs.length) : srtR (zs.take i) ++ zs.drop i = Mg.insSt (srtR (zs.take i)) (zs.getD i (0, 0)) i (zs.drop (i + 1)) := by
  have hl : (srtR (zs.take i)).length = i := by rw [srtR_len, List.length_take]; omega
  have h1 := Mg.insSt_top (srtR (zs.take i)) (zs.getD i (0, 0)) (zs.drop (i + 1))
  rw [hl] at h1
  rw [h1, List.drop_eq_getElem_cons hi, List.getD_eq_getElem?_getD, List.getElem?_eq_getElem hi]
  rfl
theorem insR_end {l : List (Int × Int)} {x : Int × Int} {k : Nat} {R : List (Int × Int)} (hk : k ≤ l.length) (hd : ∀ b ∈ (srtR l).drop k, x.1 < b.1) (hs : 0 < k → ¬ x.1 < ((srtR l).getD (k - 1) (0, 0)).1) : Mg.insSt (srtR l) x k R = srtR (l ++ [x]) ++ R := by
  have hl : (srtR l).length = l.length := srtR_len l
  refine Mg.insSt_srt (Mg.swK Prod.fst) (lt := Mg.ltK Prod.fst) (by show k ≤ (srtR l).length; omega) (fun b hb => by simpa [Mg.ltK] using hd b hb) (fun h0 => ?_)
  have h1 := hs h0
  rw [List.getD_eq_getElem?_getD, List.getElem?_eq_getElem (by omega)] at h1
  unfold srtR at h1
  simpa [Mg.ltK] using h1
theorem take_snocR {zs : List (Int × Int)} {i : Nat} (hi : i < zs.length) : zs.take i ++ [zs.getD i (0, 0)] = zs.take (i + 1) := by
  rw [List.take_add_one, List.getElem?_eq_getElem hi, List.getD_eq_getElem?_getD, List.getElem?_eq_getElem hi]
  rfl
theorem recs_oneJ {rs : List (Int × Int)} : ∀ u ∈ flat encR rs, u.oneCell' = true := by
  intro u hu
  unfold flat at hu
  obtain ⟨r, _, hr⟩ := List.mem_flatMap.1 hu
  simp [encR] at hr
  rcases hr with rfl | rfl <;> rfl

/-- Records of the call's own, behind a call. -/
def OwnR (w : World) (l : List (Int × Int)) (n : Nat) (e : Ending) (w' : World) : Prop :=
  ∃ (g c : Nat), e = .returned (.slice (some ⟨g, 0, none⟩) n c) ∧ w'.ownsRow w.heap.size 72 2 (.slice (some ⟨g, 0, none⟩) n c) n (flat encR l) ∧ Below w.heap.size w w'

theorem insR_at {A R : List (Int × Int)} {x : Int × Int} {m : Nat} (hm : m < A.length) : (Mg.insSt A x (m + 1) R)[m]? = some (A.getD m (0, 0)) ∧ (Mg.insSt A x (m + 1) R)[m + 1]? = some x := by
  refine ⟨?_, Mg.insSt_at (by omega)⟩
  rw [Mg.insSt_before hm, List.getD_eq_getElem?_getD, List.getElem?_eq_getElem hm]; rfl
theorem insR_stepD {A R : List (Int × Int)} {x y : Int × Int} {m : Nat} (hm : m < A.length) (hy : A.getD m (0, 0) = y) : ((Mg.insSt A x (m + 1) R).set m x).set (m + 1) y = Mg.insSt A x m R := by
  have e1 : A[m] = y := by rw [← hy, List.getD_eq_getElem?_getD, List.getElem?_eq_getElem hm]; rfl
  rw [← e1]; exact Mg.insSt_step hm

set_option maxRecDepth 100000 in
set_option maxHeartbeats 8000000 in
theorem l2StableR_any (a : Option Addr) (cap : Nat) (zs : List (Int × Int)) (w : World) (hlen : zs.length ≤ 1000) (h : RecsAt w a zs) (hx : NilOk a cap) :
    Calls Try.prog 123 #[.slice a zs.length cap] w (OwnR w (srtR zs) zs.length) := by
  have E0 := Lib.hid (own_lit (w := w) (e := 72) (size := 2) #[] 0 (by omega) rfl)
  have HB := Lib.hid (show Below w.heap.size w (w.alloc (.cells #[] 72)) from (Below.refl _ _).alloc (Nat.le_refl _) _)
  have HU := Lib.hid (h.below (Nat.le_refl _) HB.out)
  have HX := Lib.hid hx
  have hsm : 0 + zs.length ≤ 1099511627776 := by omega
  have hle : w.heap.size ≤ (w.alloc (.cells #[] 72)).heap.size := by simp
  have HS := Lib.hid hsm; have HLE := Lib.hid hle
  clear h hsm hle hx
  have HS0 := Lib.hid (srtR_start zs)
  unfold OwnR
  go_enter Try.func123, Try.ntmps123
  go_wp2_with (at_builtin; refine wpList_appR (v := .slice (some ⟨w.heap.size, 0, none⟩) 0 0) slRec rfl _ _ rfl rfl E0.out rfl HU.out rfl HX.out HS.out HLE.out ?_; intro v' w2 hown2 hg2 ht2; obtain ⟨a', c, rfl⟩ := own_slice hown2; have HO := Lib.hid hown2; have HG := Lib.hid hg2; have HT := Lib.hid ht2; clear hown2 hg2 ht2)
  obtain ⟨g, rfl, _, _⟩ := own_addr HO.out (by
    rcases HT.out with h | h
    · rw [h]; simp [Value.ownBlock]
    · rw [h]; simp)
  have HB2 := Lib.hid (HB.out.grown HG.out (by simp) (fun k hk => by simp [Value.ownBlock] at hk; omega))
  rw [Nat.zero_add] at HO
  rw [show ([] : List Value) ++ flat encR zs = flat encR zs from rfl] at HO
  clear HT HG E0 HB HU HS HLE
  go_loopw [4] (fun v wr => ∃ i : Nat, v = .int .i64 i ∧ 1 ≤ i ∧ (i ≤ zs.length ∨ i = 1) ∧ wr.ownsRow w.heap.size 72 2 (.slice (some ⟨g, 0, none⟩) zs.length c) zs.length (flat encR (srtR (zs.take i) ++ zs.drop i)) ∧ Below w.heap.size w wr) (fun v _ => zs.length + 1 - (intOf v).toNat)
  case atStart => exact ⟨1, rfl, by omega, .inr rfl, by rw [← HS0.out]; exact HO.out, HB2.out⟩
  case round =>
    obtain ⟨i, rfl, hi1, hi2, hown, hb⟩ := hrel
    have HO2 := Lib.hid hown; have HB2 := Lib.hid hb
    clear hown hb
    by_cases hlt : i < zs.length
    case neg =>
      have HO3 := Lib.hid (show wr.ownsRow w.heap.size 72 2 (.slice (some ⟨g, 0, none⟩) zs.length c) zs.length (flat encR (srtR zs)) from by
        have := HO2.out
        rw [List.take_of_length_le (by omega), List.drop_of_length_le (by omega), List.append_nil] at this
        exact this)
      have h3 : decide ((i : Int) < (zs.length : Int)) = false := decide_eq_false (by omega)
      go_wp2
      go_ret
      exact ⟨g, c, rfl, HO3.out, HB2.out⟩
    have HI0 := Lib.hid (insR_start hlt)
    have HAL : Hid ((srtR (zs.take i)).length = i) := by show _ = _; rw [srtR_len, List.length_take]; omega
    have HEND := Lib.hid (fun (k : Nat) (hk : k ≤ i) (hd : ∀ b ∈ (srtR (zs.take i)).drop k, (zs.getD i (0, 0)).1 < b.1) (hs : 0 < k → ¬ (zs.getD i (0, 0)).1 < ((srtR (zs.take i)).getD (k - 1) (0, 0)).1) =>
      (insR_end (R := zs.drop (i + 1)) (by rw [List.length_take]; omega) hd hs).trans (by rw [take_snocR hlt]))
    rw [HI0.out] at HO2
    clear HI0
    generalize srtR (zs.take i) = A at HO2 HAL HEND
    generalize zs.getD i (0, 0) = X at HO2 HEND
    have HRL : Hid (∀ k, k ≤ i → (Mg.insSt A X k (zs.drop (i + 1))).length = zs.length) := fun k hk => by
      rw [Mg.insSt_len (by rw [HAL.out]; exact hk), HAL.out, List.length_drop]; omega
    generalize hR : zs.drop (i + 1) = R at HO2 HEND HRL
    have HR := Lib.hid hR; clear hR
    have h3 : decide ((i : Int) < (zs.length : Int)) = true := decide_eq_true (by omega)
    have hile : (i : Int) + 1 ≤ 9223372036854775807 := by omega
    go_wp2
    go_loopw [5] (fun v wq => ∃ k : Nat, v = .int .i64 k ∧ k ≤ i ∧ wq.ownsRow w.heap.size 72 2 (.slice (some ⟨g, 0, none⟩) zs.length c) zs.length (flat encR (Mg.insSt A X k R)) ∧ (∀ b ∈ A.drop k, X.1 < b.1) ∧ Below w.heap.size w wq) (fun v _ => (intOf v).toNat)
    case atStart => exact ⟨i, rfl, by omega, by have := Mg.insSt_top A X R; rw [HAL.out] at this; first | exact HO2.out | (rw [this]; exact HO2.out), by rw [List.drop_of_length_le (by rw [HAL.out]; omega)]; simp, HB2.out⟩
    case round =>
      obtain ⟨k, rfl, hk, ho, hd, hb⟩ := hrel
      have HO4 := Lib.hid ho; have HB4 := Lib.hid hb; have HD := Lib.hid hd
      clear ho hb hd HO2 HB2
      by_cases hk0 : 0 < k
      case neg =>
        obtain rfl : k = 0 := by omega
        have HE := Lib.hid (HEND.out 0 (by omega) HD.out (fun h => absurd h (by omega)))
        rw [HE.out] at HO4
        rw [show ((0 : Nat) : Int) = 0 from rfl]
        go_wp2_with fail
        go_quiet (fail)
        go_wp2
        go_roundw
        case rel => exact ⟨i + 1, by go_num, by omega, by omega, by rw [HR.out]; exact HO4.out, below_drewN HB4.out _⟩
        case measure => simp [intOf] <;> omega
      obtain ⟨m, rfl⟩ : ∃ m, k = m + 1 := ⟨k - 1, by omega⟩
      have hm : m < A.length := by rw [HAL.out]; omega
      obtain ⟨q1, q2⟩ := insR_at (R := R) (x := X) hm
      obtain ⟨c1, c1'⟩ := rec_cells HO4.out q1
      obtain ⟨c2, c2'⟩ := rec_cells HO4.out q2
      have HDR : Hid (A.drop m = A.getD m (0, 0) :: A.drop (m + 1)) := by
        show _ = _
        rw [List.drop_eq_getElem_cons hm, List.getD_eq_getElem?_getD, List.getElem?_eq_getElem hm]; rfl
      have HST := Lib.hid (fun (y : Int × Int) (hy : A.getD m (0, 0) = y) => insR_stepD (R := R) (x := X) hm hy)
      have HE1 := Lib.hid (fun hs => HEND.out (m + 1) hk HD.out hs)
      have HL1 := Lib.hid (HRL.out (m + 1) hk)
      obtain ⟨Y, hY⟩ : ∃ Y, A.getD m (0, 0) = Y := ⟨_, rfl⟩
      rw [hY] at c1 c1' HDR
      have HY := Lib.hid hY
      clear hY hm q1 q2
      obtain ⟨X1, X2⟩ := X
      obtain ⟨Y1, Y2⟩ := Y
      have hcast : ((m + 1 : Nat) : Int) = (m : Int) + 1 := by omega
      have b1 : (0 : Int) ≤ (m : Int) := by omega
      have b2 : (m : Int) + 1 < (zs.length : Int) := by omega
      have b3 : (m : Int) < (zs.length : Int) := by omega
      have hgw : w.heap.size ≤ g := ((HO4.out.lt g rfl).1)
      have hgr : g < wr.heap.size := ((HO4.out.lt g rfl).2)
      by_cases hyx : X1 < Y1
      · have hz : decide (X1 < Y1) = true := by simpa using hyx
        rw [hcast]
        go_wp2_with fail
        go_quiet (fail)
        have HYX := Lib.hid hyx
        have HO5 : Hid ((wr.drewN nq).ownsRow w.heap.size 72 2 (.slice (some ⟨g, 0, none⟩) zs.length c) zs.length (flat encR (Mg.insSt A (X1, X2) (m + 1) R))) := HO4.out
        have HB5 := Lib.hid (below_drewN HB4.out nq)
        have d1 : (wr.drewN nq).cell? ⟨g, m * 2, none⟩ = some (.int .i64 Y1) := c1
        have d1' : (wr.drewN nq).cell? ⟨g, m * 2 + 1, none⟩ = some (.int .i64 Y2) := c1'
        have hgq : g < (wr.drewN nq).heap.size := hgr
        have d2 : (wr.drewN nq).cell? ⟨g, (m + 1) * 2, none⟩ = some (.int .i64 X1) := c2
        have d2' : (wr.drewN nq).cell? ⟨g, (m + 1) * 2 + 1, none⟩ = some (.int .i64 X2) := c2'
        generalize wr.drewN nq = wq at HO5 HB5 d1 d1' d2 d2' hgq ⊢
        clear c1 c1' c2 c2' HO4 HB4 hgr HE1 HEND HRL HO HB2 hi2
        have hmn : m < zs.length := by omega
        have hmn1 : m + 1 < zs.length := by omega
        have HO6 := Lib.hid (HO5.out.alloc (.cells #[.int .i64 Y1, .int .i64 Y2] 72))
        have HB6 := Lib.hid (HB5.out.alloc HB5.out.size (.cells #[.int .i64 Y1, .int .i64 Y2] 72))
        have R6 := Lib.hid (block_new wq (.cells #[.int .i64 Y1, .int .i64 Y2] 72))
        go_wp2_with (refine wpList_put slRec rfl (.tmp 47) (.tmp 46) rfl m rfl [.int .i64 X1, .int .i64 X2] rfl rfl (by simp [Value.oneCell']) HO6.out hmn ?_)
        intro w7 ho7 hg7
        have HB7 := Lib.hid (below_app HB6.out HB6.out.size HO6.out (Nat.le_refl _) hg7)
        have hq := flat_put encR_len (Mg.insSt A (X1, X2) (m + 1) R) m (by rw [HL1.out]; exact hmn) (X1, X2)
        have HO7 : Hid (w7.ownsRow w.heap.size 72 2 (.slice (some ⟨g, 0, none⟩) zs.length c) zs.length (flat encR ((Mg.insSt A (X1, X2) (m + 1) R).set m (X1, X2)))) := by
          show w7.ownsRow _ _ _ _ _ _
          rw [← hq]; simpa [encR] using ho7
        obtain ⟨_, _, _, _, hold⟩ := hg7
        have R7 := (hold wq.heap.size (by simp) (by intro e; injection e with e; omega)).trans R6.out
        clear hold
        have r0 := row_cell R7 0
        have r1 := row_cell R7 1
        simp at r0 r1
        clear ho7 hq R7 R6 HO6 HB6 HO5 HB5 d1 d1' d2 d2'
        go_wp2_with (refine wpList_put slRec rfl (.tmp 51) (.tmp 50) rfl (m + 1) rfl [.int .i64 Y1, .int .i64 Y2] rfl rfl (by simp [Value.oneCell']) HO7.out hmn1 ?_)
        intro w8 ho8 hg8
        have HB8 := Lib.hid (below_app HB7.out HB7.out.size HO7.out (Nat.le_refl _) hg8)
        have hq := flat_put encR_len ((Mg.insSt A (X1, X2) (m + 1) R).set m (X1, X2)) (m + 1) (by rw [List.length_set, HL1.out]; exact hmn1) (Y1, Y2)
        rw [HST.out _ HY.out] at hq
        have HO8 : Hid (w8.ownsRow w.heap.size 72 2 (.slice (some ⟨g, 0, none⟩) zs.length c) zs.length (flat encR (Mg.insSt A (X1, X2) m R))) := by
          show w8.ownsRow _ _ _ _ _ _
          rw [← hq]; simpa [encR] using ho8
        clear ho8 hg8 hq HO7 HB7 r0 r1 HST HL1
        go_wp2
        go_roundw
        case rel => exact ⟨m, by go_num, by omega, HO8.out, by
          rw [HDR.out]
          intro b hb
          rcases List.mem_cons.1 hb with rfl | hb
          · exact HYX.out
          · exact HD.out b hb, HB8.out⟩
        case measure => simp [intOf] <;> omega
      · have hz : decide (X1 < Y1) = false := by simpa using hyx
        have HE := Lib.hid (HE1.out (fun _ => by rw [Nat.add_sub_cancel, HY.out]; simpa using hyx))
        rw [HE.out] at HO4
        rw [hcast]
        go_wp2_with fail
        go_quiet (fail)
        go_wp2
        go_roundw
        case rel => exact ⟨i + 1, by go_num, by omega, by omega, by rw [HR.out]; exact HO4.out, below_drewN HB4.out _⟩
        case measure => simp [intOf] <;> omega

theorem l2Stable_any (B : Nat) (a : Option Addr) (cap : Nat) (zs : List (Int × Int)) (w : World) (hlen : zs.length ≤ 1000) (h : w.ownsRow B 72 2 (.slice a zs.length cap) zs.length (flat encR zs)) :
    Calls Try.prog 123 #[.slice a zs.length cap] w (OwnR w (srtR zs) zs.length) :=
  l2StableR_any a cap zs w hlen (recs_of_own h) (nilOk_own h)

end Go.Proofs.Ytkckmjajjdpodaa

/- Plain law: rotations, the symmetric merge and the block-wise stable sort, on lists. No program in sight. -/
namespace Go.Proofs.Ytkckmjajjdpodaa.Mg
set_option linter.unusedVariables false
section
variable {α : Type} {lt : α → α → Bool}

/-- Two elements change places. -/
theorem swap2 {P Q R : List α} {x y : α} : ((P ++ x :: (Q ++ y :: R)).set P.length y).set (P.length + 1 + Q.length) x = P ++ y :: (Q ++ x :: R) := by
  rw [List.set_append_right _ _ (Nat.le_refl _), Nat.sub_self, List.set_cons_zero]
  rw [List.set_append_right _ _ (by omega), show P.length + 1 + Q.length - P.length = Q.length + 1 by omega, List.set_cons_succ]
  rw [List.set_append_right _ _ (Nat.le_refl _), Nat.sub_self, List.set_cons_zero]
theorem at1 {P Q R : List α} {x y : α} : (P ++ x :: (Q ++ y :: R))[P.length]? = some x := by
  rw [List.getElem?_append_right (Nat.le_refl _), Nat.sub_self]; rfl
theorem at2 {P Q R : List α} {x y : α} : (P ++ x :: (Q ++ y :: R))[P.length + 1 + Q.length]? = some y := by
  rw [List.getElem?_append_right (by omega), show P.length + 1 + Q.length - P.length = Q.length + 1 by omega, List.getElem?_cons_succ, List.getElem?_append_right (Nat.le_refl _), Nat.sub_self]; rfl

/-- Two ranges of like length, the first k places changed. -/
def swSt (pre A M B post : List α) (k : Nat) : List α := pre ++ B.take k ++ (A.drop k ++ M ++ A.take k ++ (B.drop k ++ post))
theorem swSt_zero (pre A M B post : List α) : swSt pre A M B post 0 = pre ++ A ++ M ++ B ++ post := by simp [swSt]
theorem swSt_end {pre A M B post : List α} {n : Nat} (hA : A.length = n) (hB : B.length = n) : swSt pre A M B post n = pre ++ B ++ M ++ A ++ post := by
  unfold swSt
  rw [List.take_of_length_le (by omega), List.drop_eq_nil_of_le (by omega), List.take_of_length_le (by omega), List.drop_eq_nil_of_le (by omega)]
  simp
theorem swSt_form {pre A M B post : List α} {k : Nat} (hA : k < A.length) (hB : k < B.length) : swSt pre A M B post k = (pre ++ B.take k) ++ A[k] :: ((A.drop (k + 1) ++ M ++ A.take k) ++ B[k] :: (B.drop (k + 1) ++ post)) := by
  unfold swSt
  rw [List.drop_eq_getElem_cons hA, List.drop_eq_getElem_cons hB]
  simp only [List.append_assoc, List.cons_append]
theorem swSt_next {pre A M B post : List α} {k : Nat} (hA : k < A.length) (hB : k < B.length) : swSt pre A M B post (k + 1) = (pre ++ B.take k) ++ B[k] :: ((A.drop (k + 1) ++ M ++ A.take k) ++ A[k] :: (B.drop (k + 1) ++ post)) := by
  unfold swSt
  rw [List.take_add_one, List.take_add_one, List.getElem?_eq_getElem hA, List.getElem?_eq_getElem hB]
  simp only [Option.toList_some, List.append_assoc, List.cons_append, List.nil_append]
theorem swSt_step {pre A M B post : List α} {k a b : Nat} (hA : k < A.length) (hB : k < B.length) (ha : pre.length = a) (hb : a + A.length + M.length = b) :
    (swSt pre A M B post k)[a + k]? = some A[k] ∧ (swSt pre A M B post k)[b + k]? = some B[k] ∧ ((swSt pre A M B post k).set (a + k) B[k]).set (b + k) A[k] = swSt pre A M B post (k + 1) := by
  have e1 : (pre ++ B.take k).length = a + k := by simp; omega
  have e2 : (pre ++ B.take k).length + 1 + (A.drop (k + 1) ++ M ++ A.take k).length = b + k := by simp; omega
  rw [swSt_form hA hB, swSt_next hA hB, ← e1, ← e2]
  exact ⟨at1, at2, swap2⟩

/-- An element on its way up: behind k of those that go ahead of it. -/
def upSt (x : α) (R : List α) (k : Nat) : List α := R.take k ++ x :: R.drop k
theorem upSt_zero (x : α) (R : List α) : upSt x R 0 = x :: R := by simp [upSt]
theorem upSt_step {x : α} {R pre post : List α} {k a : Nat} (h : k < R.length) (ha : pre.length = a) :
    (pre ++ upSt x R k ++ post)[a + k]? = some x ∧ (pre ++ upSt x R k ++ post)[a + k + 1]? = some R[k] ∧ ((pre ++ upSt x R k ++ post).set (a + k) R[k]).set (a + k + 1) x = pre ++ upSt x R (k + 1) ++ post := by
  have e0 : pre ++ upSt x R k ++ post = (pre ++ R.take k) ++ x :: (([] : List α) ++ R[k] :: (R.drop (k + 1) ++ post)) := by
    unfold upSt
    rw [List.drop_eq_getElem_cons h]; simp only [List.append_assoc, List.cons_append, List.nil_append]
  have e1 : (pre ++ R.take k).length = a + k := by simp; omega
  have e2 : pre ++ upSt x R (k + 1) ++ post = (pre ++ R.take k) ++ R[k] :: (([] : List α) ++ x :: (R.drop (k + 1) ++ post)) := by
    unfold upSt
    rw [List.take_add_one, List.getElem?_eq_getElem h]; simp only [Option.toList_some, List.append_assoc, List.cons_append, List.nil_append]
  rw [e0, e2, ← e1]
  have h2 := at2 (P := pre ++ R.take k) (Q := []) (x := x) (y := R[k]) (R := R.drop (k + 1) ++ post)
  have h3 := swap2 (P := pre ++ R.take k) (Q := []) (x := x) (y := R[k]) (R := R.drop (k + 1) ++ post)
  simp only [List.length_nil, Nat.add_zero] at h2 h3
  exact ⟨at1, h2, h3⟩

/-- Halving: what lies ahead of the place found, and behind it. -/
theorem asc_take (S : SW lt) {R : List α} {x : α} {k : Nat} (hR : Asc lt R) (hk : k ≤ R.length) (h : ∀ (h0 : 0 < k), lt (R[k - 1]'(by omega)) x = true) : ∀ y ∈ R.take k, lt y x = true := by
  intro y hy
  obtain ⟨i, hi, rfl⟩ := List.mem_take_iff_getElem.1 hy
  have hi' : i < k := by omega
  have h1 := h (by omega)
  by_cases e : i = k - 1
  · subst e; exact h1
  · have := List.pairwise_iff_getElem.1 hR i (k - 1) (by omega) (by omega) (by omega)
    rcases S.neg _ (R[i]) _ h1 with h2 | h2
    · rw [this] at h2; cases h2
    · exact h2
theorem asc_drop (S : SW lt) {R : List α} {x : α} {k : Nat} (hR : Asc lt R) (h : ∀ (h0 : k < R.length), lt R[k] x = false) : ∀ y ∈ R.drop k, lt y x = false := by
  intro y hy
  obtain ⟨i, hi, rfl⟩ := List.mem_drop_iff_getElem.1 hy
  have h1 := h (by omega)
  by_cases e : i = 0
  · subst e; simpa using h1
  · have := List.pairwise_iff_getElem.1 hR k (k + i) (by omega) (by omega) (by omega)
    exact le_trans' S (by simpa [Nat.add_comm] using h1) (by simpa [Nat.add_comm] using this)
theorem asc_take' (S : SW lt) {R : List α} {x : α} {k : Nat} (hR : Asc lt R) (hk : k ≤ R.length) (h : ∀ (h0 : 0 < k), lt x (R[k - 1]'(by omega)) = false) : ∀ y ∈ R.take k, lt x y = false := by
  intro y hy
  obtain ⟨i, hi, rfl⟩ := List.mem_take_iff_getElem.1 hy
  have hi' : i < k := by omega
  have h1 := h (by omega)
  by_cases e : i = k - 1
  · subst e; exact h1
  · have := List.pairwise_iff_getElem.1 hR i (k - 1) (by omega) (by omega) (by omega)
    exact le_trans' S this h1
theorem asc_drop' (S : SW lt) {R : List α} {x : α} {k : Nat} (hR : Asc lt R) (h : ∀ (h0 : k < R.length), lt x R[k] = true) : ∀ y ∈ R.drop k, lt x y = true := by
  intro y hy
  obtain ⟨i, hi, rfl⟩ := List.mem_drop_iff_getElem.1 hy
  have h1 := h (by omega)
  by_cases e : i = 0
  · subst e; simpa using h1
  · have := List.pairwise_iff_getElem.1 hR k (k + i) (by omega) (by omega) (by omega)
    rcases S.neg _ (R[k + i]) _ h1 with h2 | h2
    · simpa [Nat.add_comm] using h2
    · rw [this] at h2; cases h2

/-- One element merged ahead, one behind. -/
theorem mrg_one {x : α} {R : List α} {k : Nat} (h1 : ∀ y ∈ R.take k, lt y x = true) (h2 : ∀ y ∈ R.drop k, lt y x = false) : mrg lt [x] R = upSt x R k := by
  have := mrg_split (lt := lt) [] (R.take k) [x] (R.drop k) (by simp) (by simpa using h1)
  have h3 : mrg lt [x] (R.drop k) = [x] ++ R.drop k := mrg_ahead (by simpa using h2)
  rw [List.take_append_drop, List.nil_append, mrg_nil, h3] at this
  rw [this]; rfl
theorem mrg_last {x : α} {L : List α} {k : Nat} (h1 : ∀ y ∈ L.take k, lt x y = false) (h2 : ∀ y ∈ L.drop k, lt x y = true) : mrg lt L [x] = L.take k ++ x :: L.drop k := by
  have := mrg_split (lt := lt) (L.take k) [] (L.drop k) [x] (by simpa using h1) (by simp)
  have h3 : mrg lt (L.drop k) [x] = [x] ++ L.drop k := mrg_behind (by simpa using h2)
  rw [List.take_append_drop, List.nil_append, nil_mrg, h3] at this
  rw [this]; simp

/-- THE SYMMETRIC CUT. -/
theorem mrg_cut (S : SW lt) {L R : List α} {s e : Nat} (hL : Asc lt L) (hR : Asc lt R) (hs : s ≤ L.length) (he : e ≤ R.length)
    (h1 : ∀ (h0 : 0 < s) (h2 : e < R.length), lt R[e] (L[s - 1]'(by omega)) = false) (h2 : ∀ (h0 : 0 < e) (h2 : s < L.length), lt (R[e - 1]'(by omega)) L[s] = true) :
    mrg lt L R = mrg lt (L.take s) (R.take e) ++ mrg lt (L.drop s) (R.drop e) := by
  have := mrg_split (lt := lt) (L.take s) (R.take e) (L.drop s) (R.drop e) (fun x hx y hy => ?_) (fun x hx y hy => ?_)
  · rwa [List.take_append_drop, List.take_append_drop] at this
  · have hx0 : 0 < s := by
      rcases Nat.eq_zero_or_pos s with h | h
      · subst h; simp at hx
      · exact h
    have hy0 : e < R.length := by
      rcases Nat.lt_or_ge e R.length with h | h
      · exact h
      · rw [List.drop_eq_nil_of_le h] at hy; cases hy
    have k1 := h1 hx0 hy0
    have k2 : lt y (L[s - 1]'(by omega)) = false := asc_drop S hR (fun _ => k1) y hy
    obtain ⟨i, hi, rfl⟩ := List.mem_take_iff_getElem.1 hx
    by_cases q : i = s - 1
    · subst q; exact k2
    · have := List.pairwise_iff_getElem.1 hL i (s - 1) (by omega) (by omega) (by omega)
      exact le_trans' S this k2
  · have hx0 : s < L.length := by
      rcases Nat.lt_or_ge s L.length with h | h
      · exact h
      · rw [List.drop_eq_nil_of_le h] at hx; cases hx
    have hy0 : 0 < e := by
      rcases Nat.eq_zero_or_pos e with h | h
      · subst h; simp at hy
      · exact h
    have k1 := h2 hy0 hx0
    have k2 : lt y L[s] = true := asc_take S hR he (fun _ => k1) y hy
    obtain ⟨i, hi, rfl⟩ := List.mem_drop_iff_getElem.1 hx
    by_cases q : i = 0
    · subst q; simpa using k2
    · have := List.pairwise_iff_getElem.1 hL s (s + i) (by omega) (by omega) (by omega)
      rcases S.neg _ (L[s + i]) _ k2 with h | h
      · simpa [Nat.add_comm] using h
      · rw [this] at h; cases h

/-- Sorted block by block. -/
def bl (lt : α → α → Bool) (s : Nat) : Nat → List α → List α
  | 0, l => l
  | f + 1, l => if l.length ≤ s then srt lt l else srt lt (l.take s) ++ bl lt s f (l.drop s)
def blk (lt : α → α → Bool) (s : Nat) (l : List α) : List α := bl lt s (l.length + 1) l
theorem bl_fuel {s : Nat} (hs : 0 < s) : ∀ (f g : Nat) (l : List α), l.length < f → l.length < g → bl lt s f l = bl lt s g l
  | 0, _, _, h, _ => by omega
  | _, 0, _, _, h => by omega
  | f + 1, g + 1, l, h1, h2 => by
    unfold bl
    split
    · rfl
    · rw [bl_fuel hs f g (l.drop s) (by simp; omega) (by simp; omega)]
theorem blk_short {s : Nat} {l : List α} (h : l.length ≤ s) : blk lt s l = srt lt l := by
  unfold blk bl; rw [if_pos h]
theorem blk_long {s : Nat} {l : List α} (hs : 0 < s) (h : s < l.length) : blk lt s l = srt lt (l.take s) ++ blk lt s (l.drop s) := by
  unfold blk
  rw [bl, if_neg (by omega)]
  congr 1
  exact bl_fuel hs _ _ _ (by simp; omega) (by simp)
/-- A whole block, be it the last. -/
theorem blk_next {s : Nat} {l : List α} (hs : 0 < s) (h : s ≤ l.length) : blk lt s l = srt lt (l.take s) ++ blk lt s (l.drop s) := by
  rcases Nat.lt_or_ge s l.length with h1 | h1
  · exact blk_long hs h1
  · have h2 : l.drop s = [] := List.drop_eq_nil_of_le h1
    rw [blk_short h1, h2, List.take_of_length_le h1, blk_short (by simp), srt_nil, List.append_nil]
theorem blk_length {s : Nat} (hs : 0 < s) : ∀ (n : Nat) (l : List α), l.length ≤ n → (blk lt s l).length = l.length
  | 0, l, h => by
    rw [blk_short (by omega), srt_length]
  | n + 1, l, h => by
    rcases Nat.lt_or_ge s l.length with h1 | h1
    · rw [blk_long hs h1, List.length_append, srt_length, blk_length hs n (l.drop s) (by simp; omega)]
      simp; omega
    · rw [blk_short h1, srt_length]
theorem blk_len {s : Nat} (hs : 0 < s) (l : List α) : (blk lt s l).length = l.length := blk_length hs _ l (Nat.le_refl _)
/-- Two whole blocks side by side give one of twice the size. -/
theorem blk_two (S : SW lt) {s : Nat} {l : List α} (hs : 0 < s) (h : 2 * s ≤ l.length) :
    blk lt s l = srt lt (l.take s) ++ srt lt ((l.drop s).take s) ++ blk lt s (l.drop (2 * s)) ∧ mrg lt (srt lt (l.take s)) (srt lt ((l.drop s).take s)) = srt lt (l.take (2 * s)) := by
  constructor
  · rw [blk_next hs (by omega), blk_next hs (by simp; omega), List.drop_drop, ← List.append_assoc, show s + s = 2 * s by omega]
  · rw [srt_mrg S]
    congr 1
    rw [show 2 * s = s + s by omega, List.take_add]
/-- A whole block and a shorter one behind it. -/
theorem blk_rest (S : SW lt) {s : Nat} {l : List α} (hs : 0 < s) (h : s < l.length) (h2 : l.length ≤ 2 * s) :
    blk lt s l = srt lt (l.take s) ++ srt lt (l.drop s) ∧ mrg lt (srt lt (l.take s)) (srt lt (l.drop s)) = srt lt l := by
  constructor
  · rw [blk_long hs h, blk_short (l := l.drop s) (by simp; omega)]
  · rw [srt_mrg S, List.take_append_drop]
end
end Go.Proofs.Ytkckmjajjdpodaa.Mg
