/- Several texts in one: lemmas and walks of the functions that the law reaches. -/
import Derived.Test.YtcncjedhpnaoaaaY4
import Derived.Lib.OwnBridge
import Derived.Sort.Grow

namespace Go.Proofs.Ytcncjedhpnaoaaa
open Go.RowKit Go.Sort
set_option linter.unusedVariables false

theorem below_grow' {B : Nat} {w : World} (os : Array Obj) (hB : B ≤ w.heap.size) : Below B w (grow w os) :=
  ⟨rfl, rfl, rfl, by simp [grow], fun k hk => heap_grow_old w os (by omega)⟩
theorem grown_put {w : World} {g q : Nat} {ys : List Int} {os : Array Obj} : w.grownBy (grow (putRow (Value.int .i64) (Sort.ahead w q) g 0 ys.toArray) os) (some g) := by
  refine ⟨rfl, rfl, rfl, by simp, fun k hk hne => ?_⟩
  rw [heap_grow_old _ _ (by simpa using hk)]
  have : g ≠ k := fun e => hne (by rw [e])
  simp [putRow, mapBlock, Sort.ahead, Array.getElem?_modify, this]
/-- Behind the library's sort. -/
theorem own_sorted {w : World} {base g n cap q : Nat} {e : TypeId} {zs ys : List Int} {os : Array Obj} (h : w.ownsRow base e 1 (.slice (some ⟨g, 0, none⟩) n cap) n (zs.map (Value.int .i64))) (hy : ys.length = n) :
    (grow (putRow (Value.int .i64) (Sort.ahead w q) g 0 ys.toArray) os).ownsRow base e 1 (.slice (some ⟨g, 0, none⟩) n cap) n (ys.map (Value.int .i64)) := by
  have h1 := Lib.ownsRow_putRow (q := q) (k := n) h hy (Nat.le_refl _)
  rw [List.take_of_length_le (by omega)] at h1
  exact own_below h1 (Nat.le_refl _) (below_grow' os (Nat.le_refl _))
theorem own_holds {w : World} {base g n cap : Nat} {e : TypeId} {zs : List Int} (h : w.ownsRow base e 1 (.slice (some ⟨g, 0, none⟩) n cap) n (zs.map (Value.int .i64))) : Holds (Value.int .i64) w g 0 zs.toArray := by
  obtain ⟨g', c', e', _, _, _, _, _, h3⟩ := Lib.holds_of_ownsRow h (by simp)
  injection e' with e' _ _
  injection e' with e'
  injection e' with e'
  subst e'
  exact h3

theorem own_celli {w : World} {base : Nat} {e : TypeId} {g : Nat} {n c : Nat} {xs : List Value} (h : w.ownsRow base e 1 (.slice (some ⟨g, 0, none⟩) n c) n xs) {i : Nat} {x : Value} (hx : xs[i]? = some x) : w.cell? ⟨g, i, none⟩ = some x := by
  obtain ⟨g', hg, hc, _⟩ := own_at h hx
  simp only [Option.some.injEq, Addr.mk.injEq, and_true] at hg
  rw [hg]; exact hc

theorem srtI_len (l : List Int) : (Mg.srtI l).length = l.length := Mg.srt_length l
theorem own_addr {w : World} {base : Nat} {e : TypeId} {size : Nat} {a : Option Addr} {n c : Nat} {xs : List Value} (h : w.ownsRow base e size (.slice a n c) n xs) (hb : (Value.slice a n c).ownBlock ≠ none) : ∃ g, a = some ⟨g, 0, none⟩ ∧ base ≤ g ∧ g < w.heap.size := by
  rcases h.2 with ⟨h2, _⟩ | ⟨g, cap, cur, hv, hbs, hg, _⟩
  · injection h2 with h2 _ _
    subst h2
    exact absurd rfl hb
  · injection hv with hv _ _
    exact ⟨g, hv, hbs, (Array.getElem?_eq_some_iff.1 hg).1⟩
theorem ints_news {w : World} {x : Addr} {zs : List Int} (h : IntsAt w (some x) zs) : ∀ j u, (zs.map (Value.int .i64))[j]? = some u → w.cell? (x.add j) = some u := by
  intro j u hu
  rw [List.getElem?_map] at hu
  rcases h with rfl | ⟨b, off, e, _, h2⟩
  · simp at hu
  · injection e with e
    subst e
    by_cases hj : j < zs.length
    · rw [List.getElem?_eq_getElem hj] at hu
      have h3 := h2 j hj
      rw [List.getD_eq_getElem?_getD, List.getElem?_eq_getElem hj] at h3
      simp at hu h3
      rw [← hu, ← h3]
      unfold Addr.add
      split <;> simp_all
    · rw [List.getElem?_eq_none (by omega)] at hu; simp at hu
/-- 'append(l, x...)' where x can be read. -/
theorem wpList_appX {P : Program} {w : World} {ops : Array Oper} {rest : List Oper} {o : Oper} {a : Act} {Q : Exit → Act → World → Prop} {t e : TypeId} {z : Value} {size bytes : Nat} (T : SlT P t e z size bytes)
    (hgd : o.guard = none) (s y : Operand) (ho : o.op = .call { callee := .builtin .append, args := #[s, y], argTypes := #[t, t] })
    {base : Nat} {v : Value} {n m c : Nat} {xs ys : List Value} {ad : Addr} (hs : a.eval s = v) (hown : w.ownsRow base e size v n xs) (hy : a.eval y = .slice (some ad) m c) (hl : ys.length = m * size) (hcells : ∀ j x, ys[j]? = some x → w.cell? (ad.add j) = some x)
    (h1 : ∀ x ∈ ys, x.oneCell' = true) (hsmall : n + m ≤ 1099511627776) (hbase : base ≤ w.heap.size)
    (h : ∀ v' w', w'.ownsRow base e size v' (n + m) (xs ++ ys) → w.grownBy w' v.ownBlock → (v'.ownBlock = v.ownBlock ∨ v'.ownBlock = some w.heap.size) → wpList P ops Q rest (a.put o.dst v') w') :
    wpList P ops Q (o :: rest) a w := by
  refine wpList_plain hgd fun K hK => ?_
  obtain ⟨v', w', hr, h2, h3, h4⟩ := run_app_tag (P := P) w T base o.type v n xs hown ad m c ys hl hcells h1 hsmall hbase
  unfold Oper.wp execOp
  simp only [ho, resolve, invoke, builtin, Sem.run_bind, Sem.run_pure, Result.andThen_ok, List.map_toArray, List.map_cons, List.map_nil, hs, hy, hr]
  exact hK _ _ (h v' w' h2 h3 h4)

end Go.Proofs.Ytcncjedhpnaoaaa

namespace Go.Proofs.Ytcncjedhpnaoaaa
open Go.RowKit Go.Sort
set_option linter.unusedVariables false

theorem own_putAt {α : Type} [Inhabited α] {enc : α → Value} {w : World} {base : Nat} {e : TypeId} {g n cap q off : Nat} {zs ys : List α} (h : w.ownsRow base e 1 (.slice (some ⟨g, 0, none⟩) n cap) n (zs.map enc)) (hy : off + ys.length ≤ n) :
    (putRow enc (Sort.ahead w q) g off ys.toArray).ownsRow base e 1 (.slice (some ⟨g, 0, none⟩) n cap) n ((zs.take off ++ ys ++ zs.drop (off + ys.length)).map enc) := by
  have hl : zs.length = n := by have := h.1; simpa using this
  rcases h.2 with ⟨e0, _⟩ | ⟨g', cap', cur, e0, hb, hg, hn, hm, hs, ht⟩
  · cases e0
  · injection e0 with e1 _ e3
    injection e1 with e1
    injection e1 with e1
    subst e1; subst e3
    refine ⟨by simp; omega, .inr ⟨g, cap, putCells enc off ys.toArray cur, rfl, hb, ?_, hn, hm, by simpa [putCells] using hs, ?_⟩⟩
    · simp [putRow, mapBlock, Sort.ahead, Array.getElem?_modify, hg, onCells]
    · apply List.ext_getElem?
      intro j
      have hcur : ∀ j, j < n → cur[j]? = (zs[j]?).map enc := fun j hj => by
        have := congrArg (fun l : List Value => l[j]?) ht
        simp only [List.getElem?_take, Nat.mul_one, if_pos hj, Array.getElem?_toList, List.getElem?_map] at this
        exact this
      rw [List.getElem?_take, List.getElem?_map, Array.getElem?_toList]
      by_cases hj : j < n
      · have hjc : j < cur.size := by omega
        simp only [Nat.mul_one, if_pos hj, putCells, Array.getElem?_mapIdx]
        rw [hcur j hj]
        rw [List.getElem?_eq_getElem (by omega : j < zs.length)]
        simp only [Option.map_some]
        by_cases h1 : j < off
        · rw [if_neg (by omega), List.append_assoc, List.getElem?_append_left (by simp; omega), List.getElem?_take, if_pos h1, List.getElem?_eq_getElem (by omega : j < zs.length)]
          rfl
        · by_cases h2 : j < off + ys.length
          · rw [if_pos (by simp; omega), List.getElem?_append_left (by simp; omega), List.getElem?_append_right (by simp; omega)]
            have e1 : j - (zs.take off).length = j - off := by simp; omega
            rw [e1, List.getElem?_eq_getElem (by omega)]
            simp [getElem!_pos, show j - off < ys.length by omega]
          · rw [if_neg (by simp; omega), List.getElem?_append_right (by simp; omega)]
            have e1 : j - (zs.take off ++ ys).length = j - (off + ys.length) := by simp; omega
            rw [e1, List.getElem?_drop, show off + ys.length + (j - (off + ys.length)) = j by omega, List.getElem?_eq_getElem (by omega : j < zs.length)]
            rfl
      · simp only [Nat.mul_one, if_neg hj]
        rw [List.getElem?_eq_none (by simp; omega)]
        rfl

theorem grown_putAt {α : Type} [Inhabited α] {enc : α → Value} {w : World} {g q off : Nat} {ys : List α} : w.grownBy (putRow enc (Sort.ahead w q) g off ys.toArray) (some g) := by
  refine ⟨rfl, rfl, rfl, by simp [putRow, mapBlock, Sort.ahead], fun k hk hne => ?_⟩
  have : g ≠ k := fun e => hne (by rw [e])
  simp [putRow, mapBlock, Sort.ahead, Array.getElem?_modify, this]

theorem holds_part {α : Type} [Inhabited α] {enc : α → Value} {w : World} {g off : Nat} {zs : List α} (h : Holds enc w g 0 zs.toArray) : Holds enc w g off (zs.drop off).toArray := by
  intro j hj
  have hj' : off + j < zs.length := by simp at hj; omega
  have := h (off + j) (by simpa using hj')
  rw [Nat.zero_add] at this
  have e : (zs.drop off).toArray[j]! = zs.toArray[off + j]! := by
    simp [getElem!_pos, hj']
  rw [e]; exact this

end Go.Proofs.Ytcncjedhpnaoaaa

