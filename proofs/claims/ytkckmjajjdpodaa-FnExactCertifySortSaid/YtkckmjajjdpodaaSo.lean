/- General: an owned list of integers, sorted by the library; one copied. -/
import Derived.Test.YtkckmjajjdpodaaKd
import Derived.Test.YtkckmjajjdpodaaKe
import Derived.Test.YtkckmjajjdpodaaSs
import Derived.Lib.OwnBridge
import Derived.Sort.Grow
namespace Go.Proofs.Ytkckmjajjdpodaa
open Go.RowKit Go.Sort
set_option linter.unusedVariables false

theorem below_grow' {B : Nat} {w : World} (os : Array Obj) (hB : B ≤ w.heap.size) : Below B w (grow w os) :=
  ⟨rfl, rfl, rfl, by simp [grow], fun k hk => heap_grow_old w os (by omega)⟩
theorem grown_put {w : World} {g q : Nat} {ys : List Int} {os : Array Obj} : w.grownBy (grow (putRow (Value.int .i64) (Sort.ahead w q) g 0 ys.toArray) os) (some g) := by
  refine ⟨rfl, rfl, rfl, by simp, fun k hk hne => ?_⟩
  rw [heap_grow_old _ _ (by simpa using hk)]
  have : g ≠ k := fun e => hne (by rw [e])
  simp [putRow, mapBlock, Sort.ahead, Array.getElem?_modify, this]
/-- Behind the library's sort. -/
theorem own_sorted {w : World} {base g n cap q : Nat} {e : TypeId} {zs ys : List Int} {os : Array Obj} (h : w.ownsRow base e 1 (.slice (some ⟨g, 0, none⟩) n cap) n (zs.map (Value.int .i64))) (hy : ys.length = n) :
    (grow (putRow (Value.int .i64) (Sort.ahead w q) g 0 ys.toArray) os).ownsRow base e 1 (.slice (some ⟨g, 0, none⟩) n cap) n (ys.map (Value.int .i64)) := by
  have h1 := Lib.ownsRow_putRow (q := q) (k := n) h hy (Nat.le_refl _)
  rw [List.take_of_length_le (by omega)] at h1
  exact own_below h1 (Nat.le_refl _) (below_grow' os (Nat.le_refl _))
theorem own_holds {w : World} {base g n cap : Nat} {e : TypeId} {zs : List Int} (h : w.ownsRow base e 1 (.slice (some ⟨g, 0, none⟩) n cap) n (zs.map (Value.int .i64))) : Holds (Value.int .i64) w g 0 zs.toArray := by
  obtain ⟨g', c', e', _, _, _, _, _, h3⟩ := Lib.holds_of_ownsRow h (by simp)
  injection e' with e' _ _
  injection e' with e'
  injection e' with e'
  subst e'
  exact h3

theorem own_celli {w : World} {base : Nat} {e : TypeId} {g : Nat} {n c : Nat} {xs : List Value} (h : w.ownsRow base e 1 (.slice (some ⟨g, 0, none⟩) n c) n xs) {i : Nat} {x : Value} (hx : xs[i]? = some x) : w.cell? ⟨g, i, none⟩ = some x := by
  obtain ⟨g', hg, hc, _⟩ := own_at h hx
  simp only [Option.some.injEq, Addr.mk.injEq, and_true] at hg
  rw [hg]; exact hc

/-- One step down of an item that is put into its place. -/
theorem own_step {w : World} {base g n cap k : Nat} {e : TypeId} {A R : List Int} {x : Int} (hk : k < A.length) (h : w.ownsRow base e 1 (.slice (some ⟨g, 0, none⟩) n cap) n ((Mg.insSt A x (k + 1) R).map (Value.int .i64))) :
    ((w.setCell ⟨g, k, none⟩ (.int .i64 x)).setCell ⟨g, k + 1, none⟩ (.int .i64 A[k])).ownsRow base e 1 (.slice (some ⟨g, 0, none⟩) n cap) n ((Mg.insSt A x k R).map (Value.int .i64)) ∧ w.grownBy ((w.setCell ⟨g, k, none⟩ (.int .i64 x)).setCell ⟨g, k + 1, none⟩ (.int .i64 A[k])) (some g) := by
  have h1 := h.stored k (.int .i64 x)
  have h2 := h1.1.stored (k + 1) (.int .i64 A[k])
  refine ⟨?_, grown_trans h1.2 h2.2⟩
  have e1 : ((Mg.insSt A x (k + 1) R).map (Value.int .i64)).set k (.int .i64 x) = ((Mg.insSt A x (k + 1) R).set k x).map (Value.int .i64) := (List.map_set ..).symm
  have e2 : (((Mg.insSt A x (k + 1) R).set k x).map (Value.int .i64)).set (k + 1) (.int .i64 A[k]) = (((Mg.insSt A x (k + 1) R).set k x).set (k + 1) A[k]).map (Value.int .i64) := (List.map_set ..).symm
  have h3 := h2.1
  rw [e1, e2, Mg.insSt_step hk] at h3
  exact h3
theorem own_ins_cells {w : World} {base g n cap k : Nat} {e : TypeId} {A R : List Int} {x : Int} (hk : k < A.length) (h : w.ownsRow base e 1 (.slice (some ⟨g, 0, none⟩) n cap) n ((Mg.insSt A x (k + 1) R).map (Value.int .i64))) :
    w.cell? ⟨g, k, none⟩ = some (.int .i64 A[k]) ∧ w.cell? ⟨g, k + 1, none⟩ = some (.int .i64 x) ∧ w.frozen? ⟨g, k, none⟩ = false ∧ w.frozen? ⟨g, k + 1, none⟩ = false :=
  ⟨own_celli h (by rw [List.getElem?_map, Mg.insSt_before hk]; rfl), own_celli h (by rw [List.getElem?_map, Mg.insSt_at (by omega)]; rfl), h.frozenAt k, h.frozenAt (k + 1)⟩

theorem own_stepD {w : World} {base g n cap k : Nat} {e : TypeId} {A R : List Int} {x y : Int} (hk : k < A.length) (hy : A.getD k 0 = y) (h : w.ownsRow base e 1 (.slice (some ⟨g, 0, none⟩) n cap) n ((Mg.insSt A x (k + 1) R).map (Value.int .i64))) :
    ((w.setCell ⟨g, k, none⟩ (.int .i64 x)).setCell ⟨g, k + 1, none⟩ (.int .i64 y)).ownsRow base e 1 (.slice (some ⟨g, 0, none⟩) n cap) n ((Mg.insSt A x k R).map (Value.int .i64)) ∧ w.grownBy ((w.setCell ⟨g, k, none⟩ (.int .i64 x)).setCell ⟨g, k + 1, none⟩ (.int .i64 y)) (some g) := by
  have e1 : A[k] = y := by rw [← hy, List.getD_eq_getElem?_getD, List.getElem?_eq_getElem hk]; rfl
  subst e1
  exact own_step hk h
theorem own_ins_cellsD {w : World} {base g n cap k : Nat} {e : TypeId} {A R : List Int} {x : Int} (hk : k < A.length) (h : w.ownsRow base e 1 (.slice (some ⟨g, 0, none⟩) n cap) n ((Mg.insSt A x (k + 1) R).map (Value.int .i64))) :
    w.cell? ⟨g, k, none⟩ = some (.int .i64 (A.getD k 0)) ∧ w.cell? ⟨g, k + 1, none⟩ = some (.int .i64 x) ∧ w.frozen? ⟨g, k, none⟩ = false ∧ w.frozen? ⟨g, k + 1, none⟩ = false := by
  have e1 : A.getD k 0 = A[k] := by rw [List.getD_eq_getElem?_getD, List.getElem?_eq_getElem hk]; rfl
  rw [e1]
  exact own_ins_cells hk h
theorem ins_end_int {l : List Int} {x : Int} {k : Nat} {R : List Int} (hk : k ≤ l.length) (hd : ∀ b ∈ (Mg.srtI l).drop k, x < b) (hs : 0 < k → ¬ x < (Mg.srtI l).getD (k - 1) 0) : Mg.insSt (Mg.srtI l) x k R = Mg.srtI (l ++ [x]) ++ R := by
  have hl : (Mg.srtI l).length = l.length := Mg.srt_length l
  refine Mg.insSt_srt Mg.swI (lt := Mg.ltI) (by show k ≤ (Mg.srtI l).length; omega) (fun b hb => by simpa [Mg.ltI] using hd b hb) (fun h0 => ?_)
  have h1 := hs h0
  rw [List.getD_eq_getElem?_getD, List.getElem?_eq_getElem (by omega)] at h1
  unfold Mg.srtI at h1
  simpa [Mg.ltI] using h1
theorem srtI_len (l : List Int) : (Mg.srtI l).length = l.length := Mg.srt_length l
theorem srtI_start (zs : List Int) : zs = Mg.srtI (zs.take 1) ++ zs.drop 1 := by
  cases zs with
  | nil => rfl
  | cons a t => simp [Mg.srtI, Mg.srt_one]
theorem ins_start {zs : List Int} {i : Nat} (hi : i < zs.length) : Mg.srtI (zs.take i) ++ zs.drop i = Mg.insSt (Mg.srtI (zs.take i)) (zs.getD i 0) i (zs.drop (i + 1)) := by
  have hl : (Mg.srtI (zs.take i)).length = i := by rw [srtI_len, List.length_take]; omega
  have h1 := Mg.insSt_top (Mg.srtI (zs.take i)) (zs.getD i 0) (zs.drop (i + 1))
  rw [hl] at h1
  rw [h1, List.drop_eq_getElem_cons hi, List.getD_eq_getElem?_getD, List.getElem?_eq_getElem hi]
  rfl
theorem take_snoc {zs : List Int} {i : Nat} (hi : i < zs.length) : zs.take i ++ [zs.getD i 0] = zs.take (i + 1) := by
  rw [List.take_add_one, List.getElem?_eq_getElem hi, List.getD_eq_getElem?_getD, List.getElem?_eq_getElem hi]
  rfl

theorem own_addr {w : World} {base : Nat} {e : TypeId} {size : Nat} {a : Option Addr} {n c : Nat} {xs : List Value} (h : w.ownsRow base e size (.slice a n c) n xs) (hb : (Value.slice a n c).ownBlock ≠ none) : ∃ g, a = some ⟨g, 0, none⟩ ∧ base ≤ g ∧ g < w.heap.size := by
  rcases h.2 with ⟨h2, _⟩ | ⟨g, cap, cur, hv, hbs, hg, _⟩
  · injection h2 with h2 _ _
    subst h2
    exact absurd rfl hb
  · injection hv with hv _ _
    exact ⟨g, hv, hbs, (Array.getElem?_eq_some_iff.1 hg).1⟩
theorem ints_news {w : World} {x : Addr} {zs : List Int} (h : IntsAt w (some x) zs) : ∀ j u, (zs.map (Value.int .i64))[j]? = some u → w.cell? (x.add j) = some u := by
  intro j u hu
  rw [List.getElem?_map] at hu
  rcases h with rfl | ⟨b, off, e, _, h2⟩
  · simp at hu
  · injection e with e
    subst e
    by_cases hj : j < zs.length
    · rw [List.getElem?_eq_getElem hj] at hu
      have h3 := h2 j hj
      rw [List.getD_eq_getElem?_getD, List.getElem?_eq_getElem hj] at h3
      simp at hu h3
      rw [← hu, ← h3]
      unfold Addr.add
      split <;> simp_all
    · rw [List.getElem?_eq_none (by omega)] at hu; simp at hu
/-- 'append(l, x...)' where x can be read. -/
theorem wpList_appX {P : Program} {w : World} {ops : Array Oper} {rest : List Oper} {o : Oper} {a : Act} {Q : Exit → Act → World → Prop} {t e : TypeId} {z : Value} {size bytes : Nat} (T : SlT P t e z size bytes)
    (hgd : o.guard = none) (s y : Operand) (ho : o.op = .call { callee := .builtin .append, args := #[s, y], argTypes := #[t, t] })
    {base : Nat} {v : Value} {n m c : Nat} {xs ys : List Value} {ad : Addr} (hs : a.eval s = v) (hown : w.ownsRow base e size v n xs) (hy : a.eval y = .slice (some ad) m c) (hl : ys.length = m * size) (hcells : ∀ j x, ys[j]? = some x → w.cell? (ad.add j) = some x)
    (h1 : ∀ x ∈ ys, x.oneCell' = true) (hsmall : n + m ≤ 1099511627776) (hbase : base ≤ w.heap.size)
    (h : ∀ v' w', w'.ownsRow base e size v' (n + m) (xs ++ ys) → w.grownBy w' v.ownBlock → (v'.ownBlock = v.ownBlock ∨ v'.ownBlock = some w.heap.size) → wpList P ops Q rest (a.put o.dst v') w') :
    wpList P ops Q (o :: rest) a w := by
  refine wpList_plain hgd fun K hK => ?_
  obtain ⟨v', w', hr, h2, h3, h4⟩ := run_app_tag (P := P) w T base o.type v n xs hown ad m c ys hl hcells h1 hsmall hbase
  unfold Oper.wp execOp
  simp only [ho, resolve, invoke, builtin, Sem.run_bind, Sem.run_pure, Result.andThen_ok, List.map_toArray, List.map_cons, List.map_nil, hs, hy, hr]
  exact hK _ _ (h v' w' h2 h3 h4)

end Go.Proofs.Ytkckmjajjdpodaa
