/- Several texts in one: lemmas and walks of the functions that the law reaches. -/
import Derived.Test.YtbgmbanebmlghaaGreatDoorY8
import Derived.Test.YtbgmbanebmlghaaGreatDoorY9
import Derived.BigRegion
import Derived.Deep.RegionLaw
import Derived.Lib.AppendZeros
import Derived.Lib.AppendZerosOnto
import Derived.Lib.SliceRun
import Derived.Sort.Grow

namespace Go.Proofs.YtbgmbanebmlghaaGreatDoor
open Go.RowKit Go.Sort
set_option linter.unusedVariables false

theorem Tryz.infoLsA : (Tryz.prog.info? 26).map (fun i => (i.zero, i.size, i.bytes)) = some (some (.slice none 0 0), 1, 24) := by kernel_rfl
theorem slLsA : SlT Tryz.prog 222 26 (.slice none 0 0) 1 24 := ⟨Tryz.underlying222, info_parts Tryz.infoLsA, rfl, by decide, by decide⟩

/-- append in place, within an owned row, as a step of a region that draws. -/
theorem step_appIn {P : Program} {w : World} {ops : Array Oper} {o : Oper} {a : Act} {K : Act → World → Prop} {Q : Exit → Act → World → Prop} {E : Prop} {t e : TypeId} {z : Value} {size bytes : Nat} (T : SlT P t e z size bytes)
    (hgd : o.guard = none) (d s : Operand) (ho : o.op = .call { callee := .builtin .append, args := #[d, s], argTypes := #[t, t] })
    {base g n c : Nat} {xs : List Value} (hown : w.ownsRow base e size (.slice (some ⟨g, 0, none⟩) n c) n xs)
    (i : Nat) (hd : a.eval d = .slice (some ⟨g, 0, none⟩) i c) (ad : Addr) (sl sc : Nat) (hs : a.eval s = .slice (some ad) sl sc)
    (news : List Value) (hl : news.length = sl * size) (hsrc : ∀ j v, news[j]? = some v → w.cell? (ad.add j) = some v) (h1 : ∀ v ∈ news, v.oneCell' = true) (hfit : i + sl ≤ n)
    (hK : ∀ w', w'.ownsRow base e size (.slice (some ⟨g, 0, none⟩) n c) n (xs.take (i * size) ++ news ++ xs.drop (i * size + news.length)) → w.grownBy w' (some g) → K (a.put o.dst (.slice (some ⟨g, 0, none⟩) (i + sl) c)) w') :
    if Region.wanted o (yielded ops a.tmps) = true then Oper.wp P o a w K Q else E := by
  have hw : Region.wanted o (yielded ops a.tmps) = true := by simp [Region.wanted, hgd]
  rw [if_pos hw]
  obtain ⟨inf, hi, _, hsz, _⟩ := T.info
  have hlen := hown.1
  rcases hown.2 with ⟨h2, _⟩ | ⟨g', cap, cur, hv, hb, hg, hn, hm, hsc, ht⟩
  · cases h2
  · simp only [Value.slice.injEq, Option.some.injEq, Addr.mk.injEq] at hv
    obtain ⟨⟨rfl, _, _⟩, _, rfl⟩ := hv
    have hle : n * size ≤ c * size := Nat.mul_le_mul_right _ hn
    have hle2 : (i + sl) * size ≤ n * size := Nat.mul_le_mul_right _ hfit
    rw [Nat.add_mul] at hle2
    have hr := run_append_room (P := P) w t o.type e inf T.und hi g i c cur hg ad sl sc news (by rw [hsz]; exact hl) hsrc h1 (by omega) (by rw [hsc, hsz]; omega)
    have hcl : cur.toList.length = c * size := by rw [Array.length_toList, hsc]
    unfold Oper.wp execOp
    simp only [ho, resolve, invoke, builtin, Sem.run_bind, Sem.run_pure, Result.andThen_ok, List.map_toArray, List.map_cons, List.map_nil, hd, hs, hr, hsz]
    refine hK _ ⟨?_, .inr ⟨g, c, _, rfl, hb, setRow_heap w g cur _ e _ hg, hn, hm, ?_, ?_⟩⟩ (setRow_grownG w g _)
    · simp only [List.length_append, List.length_take, List.length_drop, hlen]; omega
    · simp only [List.size_toArray, List.length_append, List.length_take, List.length_drop, hcl]; omega
    · show List.take (n * size) (cur.toList.take (i * size) ++ news ++ cur.toList.drop (i * size + news.length)) = _
      rw [← ht]
      apply List.ext_getElem?
      intro j
      simp only [List.getElem?_take, List.getElem?_append, List.length_append, List.length_take, List.getElem?_drop, hcl]
      by_cases hj : j < n * size
      · rw [if_pos hj]
        by_cases h3 : j < i * size + news.length
        · have e1 : j < min (i * size) (c * size) + news.length := by omega
          have e2 : j < min (i * size) (min (n * size) (c * size)) + news.length := by omega
          rw [if_pos e1, if_pos e2]
          by_cases h4 : j < i * size
          · have a1 : j < min (i * size) (c * size) := by omega
            have a2 : j < min (i * size) (min (n * size) (c * size)) := by omega
            rw [if_pos a1, if_pos a2]
            simp only [if_pos h4, if_pos hj]
          · have a1 : ¬ j < min (i * size) (c * size) := by omega
            have a2 : ¬ j < min (i * size) (min (n * size) (c * size)) := by omega
            rw [if_neg a1, if_neg a2]
            congr 1; omega
        · have e1 : ¬ j < min (i * size) (c * size) + news.length := by omega
          have e2 : ¬ j < min (i * size) (min (n * size) (c * size)) + news.length := by omega
          rw [if_neg e1, if_neg e2, if_pos (by omega)]
          congr 1; omega
      · rw [if_neg hj]
        symm
        rw [if_neg (by omega), if_neg (by omega)]

theorem setCells_one (w : World) (b o : Nat) (v : Value) : w.setCells b o [v] = w.setCell ⟨b, o, none⟩ v := rfl

theorem del_cells {α : Type} (xs : List α) (n p : Nat) (z : α) (hl : xs.length = n) (hp : p < n) :
    ((xs.take (p * 1) ++ xs.drop (p + 1) ++ xs.drop (p * 1 + (xs.drop (p + 1)).length)).set (n - 1) z).take ((n - 1) * 1) = xs.take p ++ xs.drop (p + 1) := by
  rw [Nat.mul_one, Nat.mul_one, List.take_set_of_le (by omega)]
  have h : (xs.take p ++ xs.drop (p + 1)).length = n - 1 := by rw [List.length_append, List.length_take, List.length_drop]; omega
  rw [← h]
  exact List.take_left

def DelEnd (base : Nat) (e : TypeId) (w : World) (g n c : Nat) (xs : List Value) (en : Ending) (w' : World) : Prop :=
  en = .returned (.slice (some ⟨g, 0, none⟩) (n - 1) c) ∧ w'.ownsRow base e 1 (.slice (some ⟨g, 0, none⟩) (n - 1) c) (n - 1) xs ∧ w.grownBy w' (some g)

set_option maxRecDepth 100000 in
set_option maxHeartbeats 4000000 in
theorem delI_any (base g n c p : Nat) (P1 P2 : Int) (xs : List Value) (w : World) (hp1 : P1 = (p : Int)) (hp2 : P2 = (p : Int) + 1) (hn : n ≤ 1000000) (hp : p < n) (hv1 : ∀ v ∈ xs, v.oneCell' = true)
    (h : w.ownsRow base 3 1 (.slice (some ⟨g, 0, none⟩) n c) n xs) :
    Calls Tryz.prog 292 #[.slice (some ⟨g, 0, none⟩) n c, .int .i64 P1, .int .i64 P2] w (DelEnd base 3 w g n c (xs.take p ++ xs.drop (p + 1))) := by
  subst hp1
  subst hp2
  have hlen : xs.length = n := by have := h.1; omega
  have H := Lib.hid h
  obtain ⟨hc1, hc2⟩ := own_capG h
  have hlen2 : (xs.drop (p + 1)).length = n - (p + 1) := by rw [List.length_drop, hlen]
  obtain ⟨A, hA, hsrc⟩ : ∃ A : Addr, (if c = p + 1 then (some (⟨g, 0, none⟩ : Addr)) else some ⟨g, p + 1, none⟩) = some A ∧ Hid (∀ t u, (xs.drop (p + 1))[t]? = some u → w.drew.cell? (A.add t) = some u) := by
    by_cases hc : c = p + 1
    · refine ⟨⟨g, 0, none⟩, by simp [hc], fun t u hu => ?_⟩
      have h0 : (xs.drop (p + 1)).length = 0 := by rw [hlen2]; omega
      rw [List.length_eq_zero_iff.1 h0] at hu
      simp at hu
    · refine ⟨⟨g, p + 1, none⟩, by simp [hc], fun t u hu => ?_⟩
      have := h.cells (g := g) rfl (p + 1 + t) u (by rwa [List.getElem?_drop] at hu)
      rw [addr_add_zero] at this
      rw [Addr.add_lit]
      exact this
  have s1 : Hid ((xs.drop (p + 1)).length = (n - (p + 1)) * 1) := by rw [Nat.mul_one]; exact hlen2
  have s2 : Hid (∀ u ∈ xs.drop (p + 1), u.oneCell' = true) := fun u hu => hv1 u (List.mem_of_mem_drop hu)
  have hcl : ∀ ty (W : World), W.ownsRow base 3 1 (.slice (some ⟨g, 0, none⟩) n c) n (xs.take (p * 1) ++ xs.drop (p + 1) ++ xs.drop (p * 1 + (xs.drop (p + 1)).length)) → (Builtin.clear_ #[24] ty #[.slice (some ⟨g, p + (n - (p + 1)), none⟩) (n - (p + (n - (p + 1)))) (c - (p + (n - (p + 1))))]).run Tryz.prog W = .ok (.tuple #[]) (W.setCell ⟨g, n - 1, none⟩ (.int .i64 0)) := fun ty W ho => by
    have hl9 := ho.1
    rw [show p + (n - (p + 1)) = n - 1 by omega, show n - (n - 1) = 1 by omega, ← setCells_one]
    exact Lib.run_clear_slice W _ _ ty (.int .i64 0) slInt.und (fun w => by kernel_rfl) rfl rfl g (n - 1) 1 _ (by omega) (fun j hj => by
      obtain ⟨v, hv⟩ : ∃ v, (xs.take (p * 1) ++ xs.drop (p + 1) ++ xs.drop (p * 1 + (xs.drop (p + 1)).length))[n - 1 + j]? = some v := ⟨_, List.getElem?_eq_getElem (by omega)⟩
      have := ho.cells (g := g) rfl _ v hv
      rw [addr_add_zero] at this
      rw [this]; rfl) (fun j hj => ho.frozenAt _)
  have HCL := Lib.hid hcl
  have HDC := Lib.hid (del_cells xs n p (.int .i64 0) hlen hp)
  have b0 : (0 : Int) ≤ (p : Int) := by omega
  have b1 : (p : Int) ≤ (c : Int) := by omega
  have b2 : (p : Int) + 1 ≤ (n : Int) := by omega
  have b3 : (p : Int) + 1 ≤ (c : Int) := by omega
  have b4 : (n : Int) ≤ (c : Int) := by omega
  have b5 : ((p : Int) + 1).toNat = p + 1 := by omega
  have b6 : ((p : Int) == (p : Int) + 1) = false := by rw [beq_eq_false_iff_ne]; omega
  have b7 : ¬ (c = p + (n - (p + 1))) := by omega
  have b8 : (p : Int) ≤ (p : Int) + 1 := by omega
  have b9 : (0 : Int) ≤ (p : Int) + 1 := by omega
  clear h hcl hlen2 hlen
  go_enter Tryz.func292, Tryz.ntmps292
  go_wp2_with fail
  go_region_law (refine step_appIn slInt rfl _ _ rfl H.out p (by simp [Act.eval, Act.put]) A (n - (p + 1)) (c - (p + 1)) (by simp [Act.eval, Act.put]) (xs.drop (p + 1)) s1.out hsrc.out s2.out (by omega) ?_; intro w1 ho1 hg1)
  have hcl1 := fun ty => HCL.out ty w1 ho1
  have HO2 := Lib.hid (ho1.stored (n - 1) (.int .i64 0))
  have HG1 := Lib.hid hg1
  clear ho1 hg1
  go_wp2
  go_ret
  refine ⟨by rw [show n - 1 = p + (n - (p + 1)) by omega]; rfl, ?_, ?_⟩
  · have := own_cutG HO2.out.1 (k := n - 1) (by omega)
    rwa [HDC.out] at this
  · exact ⟨HO2.out.2.os.trans HG1.out.os, HO2.out.2.tape.trans HG1.out.tape, HO2.out.2.output.trans HG1.out.output, Nat.le_trans HG1.out.size HO2.out.2.size, fun k hk hq => (HO2.out.2.block k (Nat.lt_of_lt_of_le hk HG1.out.size) hq).trans (HG1.out.block k hk hq)⟩

set_option maxRecDepth 100000 in
set_option maxHeartbeats 4000000 in
theorem delL_any (base g n c p : Nat) (P1 P2 : Int) (xs : List Value) (w : World) (hp1 : P1 = (p : Int)) (hp2 : P2 = (p : Int) + 1) (hn : n ≤ 1000000) (hp : p < n) (hv1 : ∀ v ∈ xs, v.oneCell' = true)
    (h : w.ownsRow base 26 1 (.slice (some ⟨g, 0, none⟩) n c) n xs) :
    Calls Tryz.prog 243 #[.slice (some ⟨g, 0, none⟩) n c, .int .i64 P1, .int .i64 P2] w (DelEnd base 26 w g n c (xs.take p ++ xs.drop (p + 1))) := by
  subst hp1
  subst hp2
  have hlen : xs.length = n := by have := h.1; omega
  have H := Lib.hid h
  obtain ⟨hc1, hc2⟩ := own_capG h
  have hlen2 : (xs.drop (p + 1)).length = n - (p + 1) := by rw [List.length_drop, hlen]
  obtain ⟨A, hA, hsrc⟩ : ∃ A : Addr, (if c = p + 1 then (some (⟨g, 0, none⟩ : Addr)) else some ⟨g, p + 1, none⟩) = some A ∧ Hid (∀ t u, (xs.drop (p + 1))[t]? = some u → w.drew.cell? (A.add t) = some u) := by
    by_cases hc : c = p + 1
    · refine ⟨⟨g, 0, none⟩, by simp [hc], fun t u hu => ?_⟩
      have h0 : (xs.drop (p + 1)).length = 0 := by rw [hlen2]; omega
      rw [List.length_eq_zero_iff.1 h0] at hu
      simp at hu
    · refine ⟨⟨g, p + 1, none⟩, by simp [hc], fun t u hu => ?_⟩
      have := h.cells (g := g) rfl (p + 1 + t) u (by rwa [List.getElem?_drop] at hu)
      rw [addr_add_zero] at this
      rw [Addr.add_lit]
      exact this
  have s1 : Hid ((xs.drop (p + 1)).length = (n - (p + 1)) * 1) := by rw [Nat.mul_one]; exact hlen2
  have s2 : Hid (∀ u ∈ xs.drop (p + 1), u.oneCell' = true) := fun u hu => hv1 u (List.mem_of_mem_drop hu)
  have hcl : ∀ ty (W : World), W.ownsRow base 26 1 (.slice (some ⟨g, 0, none⟩) n c) n (xs.take (p * 1) ++ xs.drop (p + 1) ++ xs.drop (p * 1 + (xs.drop (p + 1)).length)) → (Builtin.clear_ #[222] ty #[.slice (some ⟨g, p + (n - (p + 1)), none⟩) (n - (p + (n - (p + 1)))) (c - (p + (n - (p + 1))))]).run Tryz.prog W = .ok (.tuple #[]) (W.setCell ⟨g, n - 1, none⟩ (.slice none 0 0)) := fun ty W ho => by
    have hl9 := ho.1
    rw [show p + (n - (p + 1)) = n - 1 by omega, show n - (n - 1) = 1 by omega, ← setCells_one]
    exact Lib.run_clear_slice W _ _ ty (.slice none 0 0) slLsA.und (fun w => by kernel_rfl) rfl rfl g (n - 1) 1 _ (by omega) (fun j hj => by
      obtain ⟨v, hv⟩ : ∃ v, (xs.take (p * 1) ++ xs.drop (p + 1) ++ xs.drop (p * 1 + (xs.drop (p + 1)).length))[n - 1 + j]? = some v := ⟨_, List.getElem?_eq_getElem (by omega)⟩
      have := ho.cells (g := g) rfl _ v hv
      rw [addr_add_zero] at this
      rw [this]; rfl) (fun j hj => ho.frozenAt _)
  have HCL := Lib.hid hcl
  have HDC := Lib.hid (del_cells xs n p (.slice none 0 0) hlen hp)
  have b0 : (0 : Int) ≤ (p : Int) := by omega
  have b1 : (p : Int) ≤ (c : Int) := by omega
  have b2 : (p : Int) + 1 ≤ (n : Int) := by omega
  have b3 : (p : Int) + 1 ≤ (c : Int) := by omega
  have b4 : (n : Int) ≤ (c : Int) := by omega
  have b5 : ((p : Int) + 1).toNat = p + 1 := by omega
  have b6 : ((p : Int) == (p : Int) + 1) = false := by rw [beq_eq_false_iff_ne]; omega
  have b7 : ¬ (c = p + (n - (p + 1))) := by omega
  have b8 : (p : Int) ≤ (p : Int) + 1 := by omega
  have b9 : (0 : Int) ≤ (p : Int) + 1 := by omega
  clear h hcl hlen2 hlen
  go_enter Tryz.func243, Tryz.ntmps243
  go_wp2_with fail
  go_region_law (refine step_appIn slLsA rfl _ _ rfl H.out p (by simp [Act.eval, Act.put]) A (n - (p + 1)) (c - (p + 1)) (by simp [Act.eval, Act.put]) (xs.drop (p + 1)) s1.out hsrc.out s2.out (by omega) ?_; intro w1 ho1 hg1)
  have hcl1 := fun ty => HCL.out ty w1 ho1
  have HO2 := Lib.hid (ho1.stored (n - 1) (.slice none 0 0))
  have HG1 := Lib.hid hg1
  clear ho1 hg1
  go_wp2
  go_ret
  refine ⟨by rw [show n - 1 = p + (n - (p + 1)) by omega]; rfl, ?_, ?_⟩
  · have := own_cutG HO2.out.1 (k := n - 1) (by omega)
    rwa [HDC.out] at this
  · exact ⟨HO2.out.2.os.trans HG1.out.os, HO2.out.2.tape.trans HG1.out.tape, HO2.out.2.output.trans HG1.out.output, Nat.le_trans HG1.out.size HO2.out.2.size, fun k hk hq => (HO2.out.2.block k (Nat.lt_of_lt_of_le hk HG1.out.size) hq).trans (HG1.out.block k hk hq)⟩

end Go.Proofs.YtbgmbanebmlghaaGreatDoor

namespace Go.Proofs.YtbgmbanebmlghaaGreatDoor
open Go.RowKit Go.Sort
set_option linter.unusedVariables false

/-- A region that draws, all of whose orders lead to one frame and one world. -/
theorem wp_one {P : Program} {c : Code} {Q : Exit → Act → World → Prop} {a : Act} {w : World} (A' : Act) (W' : World) (h1 : c.wp P (fun e a' w' => match e with | .normal => a' = A' ∧ w' = W' | _ => False) a w) (h2 : Q .normal A' W') : c.wp P Q a w :=
  Code.wp_mono (fun e a w h => by
    cases e
    case normal => obtain ⟨y, z⟩ := h; subst y; subst z; exact h2
    all_goals exact h.elim) h1

theorem own_posA {w : World} {base : Nat} {e : TypeId} {size n : Nat} {v : Value} {xs : List Value} (h : w.ownsRow base e size v n xs) (hn : 0 < n) : ∃ g c, v = .slice (some ⟨g, 0, none⟩) n c := by
  rcases h.2 with ⟨_, h2⟩ | ⟨g, cap, cur, hv, _⟩
  · omega
  · exact ⟨g, cap, hv⟩

theorem own_cellA {w : World} {base : Nat} {e : TypeId} {size g n c : Nat} {xs : List Value} (h : w.ownsRow base e size (.slice (some ⟨g, 0, none⟩) n c) n xs) {i : Nat} {x : Value} (hx : xs[i]? = some x) : w.cell? ⟨g, i, none⟩ = some x := by
  have := h.cells (g := g) rfl i x hx
  rwa [addr_add_zero] at this

def intV (l : List Int) : List Value := l.map (Value.int .i64)
def natI (i : Nat) : Value := Value.int .i64 (Int.ofNat i)
def natV (l : List Nat) : List Value := l.map natI

/-- Nothing that is protected is turned. -/
structure KeepA (A : Nat → Prop) (w w' : World) : Prop where
  os : w'.os = w.os
  tape : w'.tape = w.tape
  output : w'.output = w.output
  size : w.heap.size ≤ w'.heap.size
  block : ∀ k, k < w.heap.size → A k → w'.heap[k]? = w.heap[k]?
theorem KeepA.refl (A : Nat → Prop) (w : World) : KeepA A w w := ⟨rfl, rfl, rfl, Nat.le_refl _, fun _ _ _ => rfl⟩
theorem KeepA.trans {A : Nat → Prop} {w w' w'' : World} (h : KeepA A w w') (g : KeepA A w' w'') : KeepA A w w'' :=
  ⟨g.os.trans h.os, g.tape.trans h.tape, g.output.trans h.output, Nat.le_trans h.size g.size, fun k hk ha => (g.block k (Nat.lt_of_lt_of_le hk h.size) ha).trans (h.block k hk ha)⟩
theorem keep_grown {A : Nat → Prop} {w w' : World} {row : Option Nat} (h : w.grownBy w' row) (hr : ∀ b, row = some b → ¬ A b) : KeepA A w w' :=
  ⟨h.os, h.tape, h.output, h.size, fun k hk ha => h.block k hk (fun e => hr k e.symm ha)⟩
theorem KeepA.below {A : Nat → Prop} {B : Nat} {w w' : World} (h : KeepA A w w') (hB : B ≤ w.heap.size) (hA : ∀ k, k < B → A k) : Below B w w' :=
  ⟨h.os, h.tape, h.output, h.size, fun k hk => h.block k (Nat.lt_of_lt_of_le hk hB) (hA k hk)⟩

theorem own_heap {w w' : World} {base : Nat} {e : TypeId} {size n : Nat} {v : Value} {xs : List Value} (h : w.ownsRow base e size v n xs) (hh : w'.heap = w.heap) : w'.ownsRow base e size v n xs :=
  ⟨h.1, h.2.elim .inl fun ⟨g, cap, cur, a, b, c, d⟩ => .inr ⟨g, cap, cur, a, b, by rw [hh]; exact c, d⟩⟩

/-- The run stack in block p. -/
structure RSv (w : World) (p : Nat) (A : Nat → Prop) (vs vm : Value) (mo : Int) (s : List Int) (m : List Nat) : Prop where
  hp : w.ownsRow 0 245 3 (.slice (some ⟨p, 0, none⟩) 1 1) 1 [vs, vm, .int .i64 mo]
  hs : w.ownsRow 0 3 1 vs s.length (intV s)
  hm : w.ownsRow 0 3 1 vm m.length (natV m)
  aP : ¬ A p
  aS : ∀ b, vs.ownBlock = some b → ¬ A b ∧ b ≠ p
  aM : ∀ b, vm.ownBlock = some b → ¬ A b ∧ b ≠ p ∧ vs.ownBlock ≠ some b
theorem RSv.cell {w : World} {p : Nat} {A : Nat → Prop} {vs vm : Value} {mo : Int} {s : List Int} {m : List Nat} (h : RSv w p A vs vm mo s m) :
    w.cell? ⟨p, 0, none⟩ = some vs ∧ w.cell? ⟨p, 1, none⟩ = some vm ∧ w.cell? ⟨p, 2, none⟩ = some (.int .i64 mo) := by
  refine ⟨?_, ?_, ?_⟩
  · have := h.hp.cells (g := p) rfl 0 vs rfl
    rwa [addr_add_zero] at this
  · have := h.hp.cells (g := p) rfl 1 vm rfl
    rwa [addr_add_zero] at this
  · have := h.hp.cells (g := p) rfl 2 _ rfl
    rwa [addr_add_zero] at this
theorem RSv.lt {w : World} {p : Nat} {A : Nat → Prop} {vs vm : Value} {mo : Int} {s : List Int} {m : List Nat} (h : RSv w p A vs vm mo s m) : p < w.heap.size := (h.hp.lt p rfl).2
theorem RSv.heap {w w' : World} {p : Nat} {A : Nat → Prop} {vs vm : Value} {mo : Int} {s : List Int} {m : List Nat} (h : RSv w p A vs vm mo s m) (hh : w'.heap = w.heap) : RSv w' p A vs vm mo s m :=
  ⟨own_heap h.hp hh, own_heap h.hs hh, own_heap h.hm hh, h.aP, h.aS, h.aM⟩
/-- Other blocks turn. -/
theorem RSv.other {w w' : World} {p : Nat} {A : Nat → Prop} {vs vm : Value} {mo : Int} {s : List Int} {m : List Nat} {row : Option Nat} (h : RSv w p A vs vm mo s m) (hg : w.grownBy w' row) (hr : ∀ b, row = some b → A b) : RSv w' p A vs vm mo s m :=
  ⟨h.hp.kept hg (.inr fun e => h.aP (hr p e.symm)),
   h.hs.kept hg (by
    cases hb : vs.ownBlock with
    | none => exact .inl rfl
    | some b => exact .inr fun e => (h.aS b hb).1 (hr b e.symm)),
   h.hm.kept hg (by
    cases hb : vm.ownBlock with
    | none => exact .inl rfl
    | some b => exact .inr fun e => (h.aM b hb).1 (hr b e.symm)), h.aP, h.aS, h.aM⟩

theorem grown_trans0 {w w' w'' : World} {row : Option Nat} (h : w.grownBy w' row) (g : w'.grownBy w'' row) : w.grownBy w'' row :=
  ⟨g.os.trans h.os, g.tape.trans h.tape, g.output.trans h.output, Nat.le_trans h.size g.size, fun k hk hq => (g.block k (Nat.lt_of_lt_of_le hk h.size) hq).trans (h.block k hk hq)⟩

/-- A new row of lengths, and its header stored. -/
theorem RSv.setS {w w1 : World} {p : Nat} {A : Nat → Prop} {vs vm v' : Value} {mo : Int} {s s' : List Int} {m : List Nat} (h : RSv w p A vs vm mo s m) (hA : ∀ k, A k → k < w.heap.size) (hg : w.grownBy w1 vs.ownBlock)
    (ho : w1.ownsRow 0 3 1 v' s'.length (intV s')) (ht : ∀ b, v'.ownBlock = some b → vs.ownBlock = some b ∨ w.heap.size ≤ b) :
    RSv (w1.setCell ⟨p, 0, none⟩ v') p A v' vm mo s' m ∧ KeepA A w (w1.setCell ⟨p, 0, none⟩ v') := by
  have hlt := h.lt
  have hp1 : w1.ownsRow 0 245 3 (.slice (some ⟨p, 0, none⟩) 1 1) 1 [vs, vm, .int .i64 mo] := h.hp.kept hg (.inr fun e => (h.aS p e.symm).2 rfl)
  have hp2 := hp1.stored 0 v'
  have hv : ∀ b, v'.ownBlock = some b → ¬ A b ∧ b ≠ p := fun b hb => by
    rcases ht b hb with e | e
    · exact h.aS b e
    · exact ⟨fun ha => by have := hA b ha; omega, by omega⟩
  have hm1 : w1.ownsRow 0 3 1 vm m.length (natV m) := h.hm.kept hg (by
    cases hb : vm.ownBlock with
    | none => exact .inl rfl
    | some b => exact .inr fun e => (h.aM b hb).2.2 e.symm)
  refine ⟨⟨hp2.1, ho.kept hp2.2 ?_, hm1.kept hp2.2 ?_, h.aP, hv, fun b hb => ⟨(h.aM b hb).1, (h.aM b hb).2.1, fun e => ?_⟩⟩, ?_⟩
  · cases hb : v'.ownBlock with
    | none => exact .inl rfl
    | some b => exact .inr fun e => (hv b hb).2 (by injection e)
  · cases hb : vm.ownBlock with
    | none => exact .inl rfl
    | some b => exact .inr fun e => (h.aM b hb).2.1 (by injection e)
  · rcases ht b e with e2 | e2
    · exact (h.aM b hb).2.2 e2
    · have := (h.hm.lt b hb).2; omega
  · exact (keep_grown hg (fun b e => (h.aS b e).1)).trans (keep_grown hp2.2 (fun b e => by injection e with e; subst e; exact h.aP))

/-- A new row of merges, and its header stored. -/
theorem RSv.setM {w w1 : World} {p : Nat} {A : Nat → Prop} {vs vm v' : Value} {mo : Int} {s : List Int} {m m' : List Nat} (h : RSv w p A vs vm mo s m) (hA : ∀ k, A k → k < w.heap.size) (hg : w.grownBy w1 vm.ownBlock)
    (ho : w1.ownsRow 0 3 1 v' m'.length (natV m')) (ht : ∀ b, v'.ownBlock = some b → vm.ownBlock = some b ∨ w.heap.size ≤ b) :
    RSv (w1.setCell ⟨p, 1, none⟩ v') p A vs v' mo s m' ∧ KeepA A w (w1.setCell ⟨p, 1, none⟩ v') := by
  have hlt := h.lt
  have hp1 : w1.ownsRow 0 245 3 (.slice (some ⟨p, 0, none⟩) 1 1) 1 [vs, vm, .int .i64 mo] := h.hp.kept hg (.inr fun e => (h.aM p e.symm).2.1 rfl)
  have hp2 := hp1.stored 1 v'
  have hv : ∀ b, v'.ownBlock = some b → ¬ A b ∧ b ≠ p ∧ vs.ownBlock ≠ some b := fun b hb => by
    rcases ht b hb with e | e
    · exact h.aM b e
    · exact ⟨fun ha => by have := hA b ha; omega, by omega, fun e2 => by have := (h.hs.lt b e2).2; omega⟩
  have hs1 : w1.ownsRow 0 3 1 vs s.length (intV s) := h.hs.kept hg (by
    cases hb : vs.ownBlock with
    | none => exact .inl rfl
    | some b => exact .inr fun e => (h.aM b e.symm).2.2 hb)
  refine ⟨⟨hp2.1, hs1.kept hp2.2 ?_, ho.kept hp2.2 ?_, h.aP, h.aS, hv⟩, ?_⟩
  · cases hb : vs.ownBlock with
    | none => exact .inl rfl
    | some b => exact .inr fun e => (h.aS b hb).2 (by injection e)
  · cases hb : v'.ownBlock with
    | none => exact .inl rfl
    | some b => exact .inr fun e => (hv b hb).2.1 (by injection e)
  · exact (keep_grown hg (fun b e => (h.aM b e).1)).trans (keep_grown hp2.2 (fun b e => by injection e with e; subst e; exact h.aP))

/-- A new greatest height. -/
theorem RSv.setH {w : World} {p : Nat} {A : Nat → Prop} {vs vm : Value} {mo mo' : Int} {s : List Int} {m : List Nat} (h : RSv w p A vs vm mo s m) :
    RSv (w.setCell ⟨p, 2, none⟩ (.int .i64 mo')) p A vs vm mo' s m ∧ KeepA A w (w.setCell ⟨p, 2, none⟩ (.int .i64 mo')) := by
  have hp2 := h.hp.stored 2 (.int .i64 mo')
  refine ⟨⟨hp2.1, h.hs.kept hp2.2 ?_, h.hm.kept hp2.2 ?_, h.aP, h.aS, h.aM⟩, keep_grown hp2.2 (fun b e => by injection e with e; subst e; exact h.aP)⟩
  · cases hb : vs.ownBlock with
    | none => exact .inl rfl
    | some b => exact .inr fun e => (h.aS b hb).2 (by injection e)
  · cases hb : vm.ownBlock with
    | none => exact .inl rfl
    | some b => exact .inr fun e => (h.aM b hb).2.1 (by injection e)

/-- The run stack, whatever its headers. -/
def RS (w : World) (p : Nat) (A : Nat → Prop) (s : List Int) (m : List Nat) : Prop := ∃ vs vm mo, RSv w p A vs vm mo s m

theorem intV_at {s : List Int} {k : Nat} (h : k < s.length) : (intV s)[k]? = some (.int .i64 (s.getD k 0)) := by
  unfold intV
  rw [List.getElem?_map, List.getElem?_eq_getElem h, List.getD_eq_getElem?_getD, List.getElem?_eq_getElem h]; rfl
theorem intV_one (s : List Int) : ∀ v ∈ intV s, v.oneCell' = true := fun v hv => by
  unfold intV at hv
  obtain ⟨x, _, rfl⟩ := List.mem_map.1 hv
  rfl

set_option maxRecDepth 100000 in
set_option maxHeartbeats 4000000 in
theorem from_any (p : Nat) (s : List Int) (vs : Value) (k : Nat) (w : World) (hk : 1 ≤ k) (hk2 : k ≤ s.length) (hn : s.length ≤ 1000000) (h0 : w.cell? ⟨p, 0, none⟩ = some vs) (hs : w.ownsRow 0 3 1 vs s.length (intV s)) :
    Calls Tryz.prog 272 #[.pointer (some ⟨p, 0, none⟩), .int .i64 k] w fun e w' => e = .returned (.int .i64 (s.getD (s.length - k) 0)) ∧ ∃ n, w' = w.drewN n := by
  obtain ⟨g, c, rfl⟩ := own_posA hs (by omega)
  have hx := own_cellA hs (intV_at (k := s.length - k) (by omega))
  generalize s.getD (s.length - k) 0 = x at hx
  generalize hn2 : s.length = n at *
  have q1 : (n : Int) - (k : Int) = ((n - k : Nat) : Int) := by omega
  have b1 : (0 : Int) ≤ ((n - k : Nat) : Int) := by omega
  have b2 : ((n - k : Nat) : Int) < (n : Int) := by omega
  have b3 : n - k < n := by omega
  clear hs
  go_enter Tryz.func272, Tryz.ntmps272
  go_wp2_with fail
  go_quiet (fail)
  go_wp2
  go_ret
  exact ⟨rfl, nq, rfl⟩

end Go.Proofs.YtbgmbanebmlghaaGreatDoor

namespace Go.Proofs.YtbgmbanebmlghaaGreatDoor
open Go.RowKit Go.Sort
set_option linter.unusedVariables false

theorem st_set (k : Nat) (s : List Int) (hk : k + 1 < s.length) : intV (Ad.st k s) = ((intV s).set k (.int .i64 (s.getD k 0 + s.getD (k + 1) 0))).take (k + 1) ++ ((intV s).set k (.int .i64 (s.getD k 0 + s.getD (k + 1) 0))).drop (k + 2) := by
  unfold intV
  rw [← List.map_set, ← List.map_take, ← List.map_drop, ← List.map_append]
  congr 1
  unfold Ad.st
  rw [List.drop_set_of_lt (by omega), List.take_add_one, List.take_set_of_le (by omega), List.getElem?_set_self (by omega)]
  simp

set_option maxRecDepth 100000 in
set_option maxHeartbeats 4000000 in
theorem mergeAt_any (p k : Nat) (K : Int) (A : Nat → Prop) (s : List Int) (m : List Nat) (w : World) (hK : K = (k : Int)) (hk : k + 1 < s.length) (hn : s.length ≤ 1000) (hml : m.length ≤ 100000) (hA : ∀ b, A b → b < w.heap.size)
    (hx1 : 0 ≤ s.getD k 0) (hx2 : s.getD k 0 ≤ 1000000) (hy1 : 0 ≤ s.getD (k + 1) 0) (hy2 : s.getD (k + 1) 0 ≤ 1000000) (h : RS w p A s m) :
    Calls Tryz.prog 273 #[.pointer (some ⟨p, 0, none⟩), .int .i64 K] w fun e w' => e = .returned (.tuple #[]) ∧ RS w' p A (Ad.st k s) (m ++ [k]) ∧ KeepA A w w' := by
  subst hK
  obtain ⟨vs, vm, mo, h⟩ := h
  obtain ⟨g, c, rfl⟩ := own_posA h.hs (by omega)
  obtain ⟨k0, k1, k2⟩ := h.cell
  have hplt := h.lt
  have H := Lib.hid h
  have HST := Lib.hid (st_set k s hk)
  have HSL := Lib.hid (Ad.st_length hk)
  have HXA := Lib.hid (intV_at (s := s) (k := k) (by omega))
  have HYA := Lib.hid (intV_at (s := s) (k := k + 1) hk)
  clear h
  go_enter Tryz.func273, Tryz.ntmps273
  go_wp2_with (at_builtin; refine wpList_app1 (v := vm) slInt rfl _ _ rfl rfl H.out.hm [.int .i64 k] rfl rfl (by simp) (by simp [Value.oneCell']) (by omega) (Nat.zero_le _) ?_; intro v' w7 hown' hg' ht'; generalize hGG : wpList _ _ _ _ _ _ = GG)
  obtain ⟨va, vc, rfl⟩ := own_slice hown'
  have hp7 := H.out.hp.kept hg' (.inr fun e => (H.out.aM p e.symm).2.1 rfl)
  have e1 : w7.cell? ⟨p, 1, none⟩ = some vm := own_cellA hp7 rfl
  have f1 : w7.frozen? ⟨p, 1, none⟩ = false := hp7.frozenAt 1
  obtain ⟨R1, K1⟩ := H.out.setM (m' := m ++ [k]) hA hg' (by rw [List.length_append]; unfold natV; rw [List.map_append]; exact hown') (fun b e => ht'.elim (fun h => .inl (h ▸ e)) (fun h => .inr (by rw [h] at e; injection e with e; omega)))
  have R := Lib.hid R1
  have KK := Lib.hid K1
  clear R1 K1 hown' hg' ht' hp7 k0 k1 k2
  rw [← hGG]
  clear hGG GG
  go_wp2_with fail
  generalize w7.setCell ⟨p, 1, none⟩ (.slice va (m.length + 1) vc) = w2 at R KK ⊢
  clear e1 f1
  have hs2 := KK.out.size
  obtain ⟨x, hx⟩ : ∃ x, s.getD k 0 = x := ⟨_, rfl⟩
  obtain ⟨y, hy⟩ : ∃ y, s.getD (k + 1) 0 = y := ⟨_, rfl⟩
  rw [hx] at hx1 hx2 HXA HST
  rw [hy] at hy1 hy2 HYA HST
  clear hx hy
  generalize hnn : s.length = n at *
  have c0 := R.out.cell.1
  have HS0 : Hid (w2.ownsRow 0 3 1 (.slice (some ⟨g, 0, none⟩) n c) n (intV s)) := by
    have := R.out.hs
    rwa [hnn] at this
  have c1 : w2.drew.cell? ⟨p, 0, none⟩ = some (.slice (some ⟨g, 0, none⟩) n c) := c0
  have d1 : w2.drew.cell? ⟨g, k, none⟩ = some (.int .i64 x) := own_cellA HS0.out HXA.out
  have d2 : w2.drew.cell? ⟨g, k + 1, none⟩ = some (.int .i64 y) := own_cellA HS0.out HYA.out
  have f2 : w2.drew.frozen? ⟨g, k, none⟩ = false := HS0.out.frozenAt k
  have b0 : (0 : Int) ≤ (k : Int) := by omega
  have b1 : (k : Int) < (n : Int) := by omega
  have b2 : (k : Int) + 1 < (n : Int) := by omega
  have b3 : ((k : Int) + 1).toNat = k + 1 := by omega
  have b4 : IntKind.i64.wrap ((k : Int) + 1) = (k : Int) + 1 := by rw [IntKind.wrap_i64]; omega
  have b5 : IntKind.i64.wrap (x + y) = x + y := by rw [IntKind.wrap_i64]; omega
  have b6 : (0 : Int) ≤ (k : Int) + 1 := by omega
  have b7 : IntKind.i64.wrap ((k : Int) + 2) = (k : Int) + 2 := by rw [IntKind.wrap_i64]; omega
  clear c0
  have HO3 := Lib.hid (HS0.out.stored k (.int .i64 (x + y)))
  have R3 : RSv w2 p A (.slice (some ⟨g, 0, none⟩) n c) (.slice va (m.length + 1) vc) mo s (m ++ [k]) := R.out
  have HP3 := Lib.hid ((R3.hp.kept HO3.out.2 (.inr fun e => (R3.aS p (by exact e.symm)).2 rfl)))
  have HDL := Lib.hid (delI_any 0 g n c (k + 1) ((k : Int) + 1) ((k : Int) + 2) ((intV s).set k (.int .i64 (x + y))) (w2.setCell ⟨g, k, none⟩ (.int .i64 (x + y))).drew (by omega) (by omega) (by omega) (by omega) (fun v hv => by
    rcases List.mem_or_eq_of_mem_set hv with h | h
    · exact intV_one s v h
    · rw [h]; rfl) (own_heap HO3.out.1 rfl))
  rw [← HST.out] at HDL
  unfold DelEnd at HDL
  have c3 : (w2.setCell ⟨g, k, none⟩ (.int .i64 (x + y))).drew.cell? ⟨p, 0, none⟩ = some (.slice (some ⟨g, 0, none⟩) n c) := own_cellA HP3.out rfl
  clear R3 HS0 HXA HYA
  refine wp_one ?A (w2.setCell ⟨g, k, none⟩ (.int .i64 (x + y))).drew ?h1 ?h2
  case h1 =>
    go_region_law (fail)
    all_goals (refine ⟨?_, ?_⟩ <;> with_reducible rfl)
  case h2 =>
    skip
    go_wp2_with fail
    refine HDL.out.mono ?_
    rintro e w4 ⟨rfl, ho, hg⟩
    have hg4 := grown_trans0 (show w2.grownBy (w2.setCell ⟨g, k, none⟩ (.int .i64 (x + y))).drew (some g) from ⟨HO3.out.2.os, HO3.out.2.tape, HO3.out.2.output, HO3.out.2.size, HO3.out.2.block⟩) hg
    have hp4 := R.out.hp.kept hg4 (.inr fun e => (R.out.aS p (by exact e.symm)).2 rfl)
    have e4 : w4.cell? ⟨p, 0, none⟩ = some (.slice (some ⟨g, 0, none⟩) n c) := own_cellA hp4 rfl
    have f4 : w4.frozen? ⟨p, 0, none⟩ = false := hp4.frozenAt 0
    have hl : (Ad.st k s).length = n - 1 := by have := HSL.out; omega
    obtain ⟨R5, K5⟩ := R.out.setS (s' := Ad.st k s) (v' := .slice (some ⟨g, 0, none⟩) (n - 1) c) (fun b hb => Nat.lt_of_lt_of_le (hA b hb) KK.out.size) hg4 (by rw [hl]; exact ho) (fun b e => .inl e)
    have HR5 := Lib.hid R5
    have HK5 := Lib.hid (KK.out.trans K5)
    clear R5 K5 ho hg hg4 hp4 hl
    go_wp2
    go_end0
    exact ⟨rfl, ⟨_, _, _, HR5.out⟩, HK5.out⟩

end Go.Proofs.YtbgmbanebmlghaaGreatDoor

namespace Go.Proofs.YtbgmbanebmlghaaGreatDoor
open Go.RowKit Go.Sort
set_option linter.unusedVariables false

/-- Lengths that no sum of which is too great. -/
def Bd (s : List Int) : Prop := (∀ x ∈ s, 0 ≤ x) ∧ s.sum ≤ 100000
theorem sum_nn {s : List Int} (h : ∀ x ∈ s, 0 ≤ x) : 0 ≤ s.sum := by
  induction s with
  | nil => exact Int.le_refl _
  | cons a t ih =>
    have h1 := h a (by simp)
    have h2 := ih fun x hx => h x (by simp [hx])
    simp only [List.sum_cons]; omega
theorem le_sum {s : List Int} (h : ∀ x ∈ s, 0 ≤ x) {y : Int} (hy : y ∈ s) : y ≤ s.sum := by
  induction s with
  | nil => cases hy
  | cons a t ih =>
    have h1 := h a (by simp)
    have h2 := sum_nn (s := t) fun x hx => h x (by simp [hx])
    simp only [List.sum_cons]
    rcases List.mem_cons.1 hy with e | e
    · omega
    · have := ih (fun x hx => h x (by simp [hx])) e; omega
theorem Bd.at {s : List Int} (h : Bd s) (k : Nat) : 0 ≤ s.getD k 0 ∧ s.getD k 0 ≤ 100000 := by
  by_cases hk : k < s.length
  · have hm : s.getD k 0 ∈ s := by rw [List.getD_eq_getElem?_getD, List.getElem?_eq_getElem hk]; exact List.getElem_mem hk
    have h1 := h.1 _ hm
    have h2 := le_sum h.1 hm
    have h3 := h.2
    omega
  · rw [List.getD_eq_getElem?_getD, List.getElem?_eq_none (by omega)]; simp
theorem Bd.st {s : List Int} (h : Bd s) {k : Nat} (hk : k + 1 < s.length) : Bd (Ad.st k s) := by
  have h1 := h.1
  have h2 := h.2
  have hx := (h.at k).1
  have hy := (h.at (k + 1)).1
  rw [Ad.split2 0 hk] at h2
  unfold Ad.st
  refine ⟨fun x hxm => ?_, ?_⟩
  · rcases List.mem_append.1 hxm with e | e
    · exact h1 x (List.mem_of_mem_take e)
    · rcases List.mem_cons.1 e with e | e
      · omega
      · exact h1 x (List.mem_of_mem_drop e)
  · simp only [List.sum_append, List.sum_cons] at h2 ⊢
    omega

def lenAt (w : World) (p : Nat) : Nat := match w.cell? ⟨p, 0, none⟩ with
  | some (.slice _ n _) => n
  | _ => 0
theorem RS.lenAt {w : World} {p : Nat} {A : Nat → Prop} {s : List Int} {m : List Nat} (h : RS w p A s m) : lenAt w p = s.length := by
  obtain ⟨vs, vm, mo, h⟩ := h
  obtain ⟨a, c, rfl⟩ := own_slice h.hs
  unfold Go.Proofs.YtbgmbanebmlghaaGreatDoor.lenAt
  rw [h.cell.1]
theorem RS.heap {w w' : World} {p : Nat} {A : Nat → Prop} {s : List Int} {m : List Nat} (h : RS w p A s m) (hh : w'.heap = w.heap) : RS w' p A s m := by
  obtain ⟨vs, vm, mo, h⟩ := h
  exact ⟨vs, vm, mo, h.heap hh⟩
theorem KeepA.heap {A : Nat → Prop} {w w' : World} (h : KeepA A w w') {n : Nat} : KeepA A w (w'.drewN n) := ⟨h.os, h.tape, h.output, h.size, h.block⟩

set_option maxRecDepth 100000 in
set_option maxHeartbeats 8000000 in
theorem push_any (p : Nat) (c : Int) (A : Nat → Prop) (s : List Int) (m : List Nat) (w : World) (hn : s.length ≤ 500) (hml : m.length + s.length ≤ 50000) (hA : ∀ b, A b → b < w.heap.size) (hbd : Bd (s ++ [c])) (h : RS w p A s m) :
    Calls Tryz.prog 244 #[.pointer (some ⟨p, 0, none⟩), .int .i64 c] w fun e w' => e = .returned (.tuple #[]) ∧ RS w' p A (Ad.idx false (s ++ [c])).1 (m ++ (Ad.idx false (s ++ [c])).2) ∧ KeepA A w w' := by
  obtain ⟨vs, vm, mo, h⟩ := h
  obtain ⟨a0, c0, rfl⟩ := own_slice h.hs
  obtain ⟨k0, k1, k2⟩ := h.cell
  have hplt := h.lt
  have H := Lib.hid h
  have HBD := Lib.hid hbd
  obtain ⟨I, hI⟩ : ∃ I, Ad.idx false (s ++ [c]) = I := ⟨_, rfl⟩
  rw [hI]
  have HI := Lib.hid hI
  clear h hbd hI
  go_enter Tryz.func244, Tryz.ntmps244
  go_wp2_with (at_builtin; refine wpList_app1 slInt rfl _ _ rfl rfl H.out.hs [.int .i64 c] rfl rfl (by simp) (by simp [Value.oneCell']) (by omega) (Nat.zero_le _) ?_; intro v' w7 hown' hg' ht'; generalize hGG : wpList _ _ _ _ _ _ = GG)
  obtain ⟨va, vc, rfl⟩ := own_slice hown'
  have hp7 := H.out.hp.kept hg' (.inr fun e => (H.out.aS p e.symm).2 rfl)
  have e1 : w7.cell? ⟨p, 0, none⟩ = some (.slice a0 s.length c0) := own_cellA hp7 rfl
  have f1 : w7.frozen? ⟨p, 0, none⟩ = false := hp7.frozenAt 0
  obtain ⟨R1, K1⟩ := H.out.setS (s' := s ++ [c]) hA hg' (by rw [List.length_append]; unfold intV; rw [List.map_append]; exact hown') (fun b e => ht'.elim (fun h => .inl (h ▸ e)) (fun h => .inr (by rw [h] at e; injection e with e; omega)))
  have R := Lib.hid R1
  have KK := Lib.hid K1
  clear R1 K1 hown' hg' ht' hp7 k0 k1 k2
  rw [← hGG]
  clear hGG GG
  go_wp2_with fail
  generalize w7.setCell ⟨p, 0, none⟩ (.slice va (s.length + 1) vc) = w2 at R KK ⊢
  clear e1 f1
  have g0 : w2.drew.cell? ⟨p, 0, none⟩ = some (.slice va (s.length + 1) vc) := R.out.cell.1
  have g2 : w2.drew.cell? ⟨p, 2, none⟩ = some (.int .i64 mo) := R.out.cell.2.2
  have f2 : w2.drew.frozen? ⟨p, 2, none⟩ = false := R.out.hp.frozenAt 2
  obtain ⟨R3, K3⟩ := R.out.setH (mo' := if mo < (s.length : Int) + 1 then (s.length : Int) + 1 else mo)
  have RR := Lib.hid R3
  have KK3 := Lib.hid (KK.out.trans K3)
  clear R3 K3 H R KK
  refine wp_one ?A (w2.setCell ⟨p, 2, none⟩ (.int .i64 (if mo < (s.length : Int) + 1 then (s.length : Int) + 1 else mo))).drew ?h1 ?h2
  case h1 =>
    go_region_law (fail)
    all_goals (refine ⟨?_, ?_⟩ <;> with_reducible rfl)
  case h2 =>
    generalize (if mo < (s.length : Int) + 1 then (s.length : Int) + 1 else mo) = M at RR KK3 ⊢
    have HR3 : Hid (RS (w2.setCell ⟨p, 2, none⟩ (.int .i64 M)).drew p A (s ++ [c]) m) := Lib.hid ⟨_, _, _, RR.out.heap rfl⟩
    have HK3 : Hid (KeepA A w (w2.setCell ⟨p, 2, none⟩ (.int .i64 M)).drew) := ⟨KK3.out.os, KK3.out.tape, KK3.out.output, KK3.out.size, KK3.out.block⟩
    generalize (w2.setCell ⟨p, 2, none⟩ (.int .i64 M)).drew = w3 at HR3 HK3 ⊢
    clear RR KK3 g0 g2 f2
    go_wp2
    go_loopw [4] (fun _ wr => ∃ (s1 : List Int) (m1 : List Nat), Hid (RS wr p A s1 m1) ∧ Hid (KeepA A w wr) ∧ Hid (Bd s1) ∧ s1.length ≤ 501 ∧ m1.length + s1.length ≤ 50001 ∧ Hid ((Ad.idx false s1).1 = I.1 ∧ m1 ++ (Ad.idx false s1).2 = m ++ I.2)) (fun _ wr => lenAt wr p)
    case atStart => exact ⟨s ++ [c], m, HR3, HK3, HBD, by simp; omega, by simp; omega, Lib.hid (by rw [HI.out]; exact ⟨rfl, rfl⟩)⟩
    case round =>
      obtain ⟨s1, m1, HR, HK, HB, hs1, hm1, HX⟩ := hrel
      clear HR3 HK3 HBD HI
      have HA2 := Lib.hid (fun b hb => Nat.lt_of_lt_of_le (hA b hb) HK.out.size)
      have hla := HR.out.lenAt
      have HLA := Lib.hid hla
      obtain ⟨ws, wm, wo, hrv⟩ := HR.out
      have h0 := hrv.cell.1
      have HS := Lib.hid hrv.hs
      obtain ⟨a1, c1, rfl⟩ := own_slice hrv.hs
      clear hrv hla
      obtain ⟨n, hn1⟩ : ∃ n, s1.length = n := ⟨_, rfl⟩
      have HN := Lib.hid hn1
      rw [hn1] at h0 hs1 hm1
      by_cases hn2 : n < 2
      · have HZ : Hid (Ad.nxt false s1 = none) := Ad.nxt_small (by omega)
        have q1 : decide (2 ≤ (n : Int)) = false := decide_eq_false (by omega)
        have q2 : (n : Int) < 2 := by omega
        clear hn1
        go_wp2
        go_end0
        refine ⟨rfl, ?_, HK.out⟩
        have := HX.out
        rw [Ad.idx_none HZ.out] at this
        rw [← this.1, ← this.2, List.append_nil]
        exact HR.out
      have q1 : decide (2 ≤ (n : Int)) = true := decide_eq_true (by omega)
      have q2 : 2 ≤ (n : Int) := by omega
      obtain ⟨x1, hx1⟩ : ∃ x, s1.getD (n - 1) 0 = x := ⟨_, rfl⟩
      obtain ⟨x2, hx2⟩ : ∃ x, s1.getD (n - 2) 0 = x := ⟨_, rfl⟩
      obtain ⟨x3, hx3⟩ : ∃ x, s1.getD (n - 3) 0 = x := ⟨_, rfl⟩
      obtain ⟨x4, hx4⟩ : ∃ x, s1.getD (n - 4) 0 = x := ⟨_, rfl⟩
      have bx1 := HB.out.at (n - 1)
      have bx2 := HB.out.at (n - 2)
      have bx3 := HB.out.at (n - 3)
      have bx4 := HB.out.at (n - 4)
      rw [hx1] at bx1
      rw [hx2] at bx2
      rw [hx3] at bx3
      rw [hx4] at bx4
      have w1 : IntKind.i64.wrap (x1 + x2) = x1 + x2 := by rw [IntKind.wrap_i64]; omega
      have w2' : IntKind.i64.wrap (x3 + x2) = x3 + x2 := by rw [IntKind.wrap_i64]; omega
      have HF : Hid (∀ (k : Int) (W : World), W.heap = wr.heap → 1 ≤ k → k ≤ (n : Int) → Calls Tryz.prog 272 #[.pointer (some ⟨p, 0, none⟩), .int .i64 k] W fun e w' => ∃ x, e = .returned (.int .i64 x) ∧ x = s1.getD (n - k.toNat) 0 ∧ ∃ nd, w' = W.drewN nd) := fun k W hW hk1 hk2 => by
        obtain ⟨k', rfl⟩ := Int.eq_ofNat_of_zero_le (show 0 ≤ k by omega)
        have := from_any p s1 _ k' W (by omega) (by omega) (by omega) ((World.cell?_of_block (by rw [hW])).trans h0) (by rw [hn1]; exact own_heap (hn1 ▸ HS.out) hW)
        rw [hn1] at this
        refine this.mono ?_
        rintro e w' ⟨rfl, nd, rfl⟩
        exact ⟨_, rfl, rfl, nd, rfl⟩
      have HMG : Hid (∀ (k : Nat) (K : Int) (W : World), W.heap = wr.heap → K = (k : Int) → k + 1 < n → KeepA A w W → Calls Tryz.prog 273 #[.pointer (some ⟨p, 0, none⟩), .int .i64 K] W fun e w' => e = .returned (.tuple #[]) ∧ RS w' p A (Ad.st k s1) (m1 ++ [k]) ∧ KeepA A w w') := fun k K W hW hK hk hke => by
        have b1 := HB.out.at k
        have b2 := HB.out.at (k + 1)
        refine (mergeAt_any p k K A s1 m1 W hK (by omega) (by omega) (by omega) (fun b hb => by rw [hW]; exact HA2.out b hb) b1.1 (by omega) b2.1 (by omega) (HR.out.heap hW)).mono ?_
        rintro e w' ⟨a, b, c⟩
        exact ⟨a, b, hke.trans c⟩
      by_cases hn3 : n < 3
      · have e3 : decide (3 ≤ (n : Int)) = false := decide_eq_false (by omega)
        have e4 : decide (4 ≤ (n : Int)) = false := decide_eq_false (by omega)
        by_cases hD2 : x2 ≤ x1
        · have dD2 : decide (x2 ≤ x1) = true := decide_eq_true hD2
          have HZ : Hid (Ad.nxt false s1 = some (n - 2)) := by
            show _ = _
            unfold Ad.nxt
            rw [hn1, hx1, hx2, hx3, hx4, if_neg (by omega), if_neg (by decide)]
            rw [if_neg (by omega)]
            rw [if_pos (by omega)]
          clear bx1 bx2 bx3 bx4 HS hn1
          go_wp2_with (go_at_call 272; refine (HF.out _ _ (by rfl) (by omega) (by omega)).mono ?_; rintro e w' ⟨x, rfl, hx, nd, rfl⟩; first | (have hy : x = x1 := hx.trans hx1; clear hx; subst x) | (have hy : x = x2 := hx.trans hx2; clear hx; subst x))
          refine (HMG.out (n - 2) _ _ (by rfl) (by omega) (by omega) (by repeat (first | exact HK.out | apply KeepA.heap))).mono ?_
          rintro e w6 ⟨rfl, hrs, hke⟩
          have HR6 := Lib.hid hrs; have HK6 := Lib.hid hke
          clear hrs hke
          have hsl : (Ad.st (n - 2) s1).length + 1 = n := by have := Ad.st_length (k := n - 2) (s := s1) (by rw [HN.out]; omega); rw [HN.out] at this; exact this
          go_wp2
          go_roundw
          case rel => exact ⟨Ad.st (n - 2) s1, m1 ++ [n - 2], HR6, HK6, Lib.hid (HB.out.st (by rw [HN.out]; omega)), by omega, by simp; omega, Lib.hid (by have := HX.out; rw [Ad.idx_some HZ.out] at this; exact ⟨this.1, by rw [List.append_assoc]; exact this.2⟩)⟩
          case measure => rw [HR6.out.lenAt, HLA.out, HN.out]; omega
        · have dD2 : decide (x2 ≤ x1) = false := decide_eq_false hD2
          have HZ : Hid (Ad.nxt false s1 = none) := by
            show _ = _
            unfold Ad.nxt
            rw [hn1, hx1, hx2, hx3, hx4, if_neg (by omega), if_neg (by decide)]
            rw [if_neg (by omega)]
            rw [if_neg (by omega)]
          clear bx1 bx2 bx3 bx4 HS hn1
          go_wp2_with (go_at_call 272; refine (HF.out _ _ (by rfl) (by omega) (by omega)).mono ?_; rintro e w' ⟨x, rfl, hx, nd, rfl⟩; first | (have hy : x = x1 := hx.trans hx1; clear hx; subst x) | (have hy : x = x2 := hx.trans hx2; clear hx; subst x))
          refine bodyPost_ret (v := .tuple #[]) (by simp [results, Tryz.results244, go_sem]) rfl ⟨rfl, ?_, by repeat (first | exact HK.out | apply KeepA.heap)⟩
          have := HX.out
          rw [Ad.idx_none HZ.out] at this
          rw [← this.1, ← this.2, List.append_nil]
          exact HR.out.heap rfl
      have e3 : decide (3 ≤ (n : Int)) = true := decide_eq_true (by omega)
      by_cases hn4 : n < 4
      · have e4 : decide (4 ≤ (n : Int)) = false := decide_eq_false (by omega)
        by_cases hD3 : x3 ≤ x1 + x2
        · have dD3 : decide (x3 ≤ x1 + x2) = true := decide_eq_true hD3
          by_cases hG : x1 ≤ x3
          · have dG : decide (x1 ≤ x3) = true := decide_eq_true hG
            have HZ : Hid (Ad.nxt false s1 = some (n - 2)) := by
              show _ = _
              unfold Ad.nxt
              rw [hn1, hx1, hx2, hx3, hx4, if_neg (by omega), if_neg (by decide)]
              rw [if_pos (by omega)]
              rw [if_neg (by omega)]
            clear bx1 bx2 bx3 bx4 HS hn1
            go_wp2_with (go_at_call 272; refine (HF.out _ _ (by rfl) (by omega) (by omega)).mono ?_; rintro e w' ⟨x, rfl, hx, nd, rfl⟩; first | (have hy : x = x1 := hx.trans hx1; clear hx; subst x) | (have hy : x = x2 := hx.trans hx2; clear hx; subst x) | (have hy : x = x3 := hx.trans hx3; clear hx; subst x))
            refine (HMG.out (n - 2) _ _ (by rfl) (by omega) (by omega) (by repeat (first | exact HK.out | apply KeepA.heap))).mono ?_
            rintro e w6 ⟨rfl, hrs, hke⟩
            have HR6 := Lib.hid hrs; have HK6 := Lib.hid hke
            clear hrs hke
            have hsl : (Ad.st (n - 2) s1).length + 1 = n := by have := Ad.st_length (k := n - 2) (s := s1) (by rw [HN.out]; omega); rw [HN.out] at this; exact this
            go_wp2
            go_roundw
            case rel => exact ⟨Ad.st (n - 2) s1, m1 ++ [n - 2], HR6, HK6, Lib.hid (HB.out.st (by rw [HN.out]; omega)), by omega, by simp; omega, Lib.hid (by have := HX.out; rw [Ad.idx_some HZ.out] at this; exact ⟨this.1, by rw [List.append_assoc]; exact this.2⟩)⟩
            case measure => rw [HR6.out.lenAt, HLA.out, HN.out]; omega
          · have dG : decide (x1 ≤ x3) = false := decide_eq_false hG
            have HZ : Hid (Ad.nxt false s1 = some (n - 3)) := by
              show _ = _
              unfold Ad.nxt
              rw [hn1, hx1, hx2, hx3, hx4, if_neg (by omega), if_neg (by decide)]
              rw [if_pos (by omega)]
              rw [if_pos (by omega)]
            clear bx1 bx2 bx3 bx4 HS hn1
            go_wp2_with (go_at_call 272; refine (HF.out _ _ (by rfl) (by omega) (by omega)).mono ?_; rintro e w' ⟨x, rfl, hx, nd, rfl⟩; first | (have hy : x = x1 := hx.trans hx1; clear hx; subst x) | (have hy : x = x2 := hx.trans hx2; clear hx; subst x) | (have hy : x = x3 := hx.trans hx3; clear hx; subst x))
            refine (HMG.out (n - 3) _ _ (by rfl) (by omega) (by omega) (by repeat (first | exact HK.out | apply KeepA.heap))).mono ?_
            rintro e w6 ⟨rfl, hrs, hke⟩
            have HR6 := Lib.hid hrs; have HK6 := Lib.hid hke
            clear hrs hke
            have hsl : (Ad.st (n - 3) s1).length + 1 = n := by have := Ad.st_length (k := n - 3) (s := s1) (by rw [HN.out]; omega); rw [HN.out] at this; exact this
            go_wp2
            go_roundw
            case rel => exact ⟨Ad.st (n - 3) s1, m1 ++ [n - 3], HR6, HK6, Lib.hid (HB.out.st (by rw [HN.out]; omega)), by omega, by simp; omega, Lib.hid (by have := HX.out; rw [Ad.idx_some HZ.out] at this; exact ⟨this.1, by rw [List.append_assoc]; exact this.2⟩)⟩
            case measure => rw [HR6.out.lenAt, HLA.out, HN.out]; omega
        · have dD3 : decide (x3 ≤ x1 + x2) = false := decide_eq_false hD3
          by_cases hD2 : x2 ≤ x1
          · have dD2 : decide (x2 ≤ x1) = true := decide_eq_true hD2
            have HZ : Hid (Ad.nxt false s1 = some (n - 2)) := by
              show _ = _
              unfold Ad.nxt
              rw [hn1, hx1, hx2, hx3, hx4, if_neg (by omega), if_neg (by decide)]
              rw [if_neg (by omega)]
              rw [if_pos (by omega)]
            clear bx1 bx2 bx3 bx4 HS hn1
            go_wp2_with (go_at_call 272; refine (HF.out _ _ (by rfl) (by omega) (by omega)).mono ?_; rintro e w' ⟨x, rfl, hx, nd, rfl⟩; first | (have hy : x = x1 := hx.trans hx1; clear hx; subst x) | (have hy : x = x2 := hx.trans hx2; clear hx; subst x) | (have hy : x = x3 := hx.trans hx3; clear hx; subst x))
            refine (HMG.out (n - 2) _ _ (by rfl) (by omega) (by omega) (by repeat (first | exact HK.out | apply KeepA.heap))).mono ?_
            rintro e w6 ⟨rfl, hrs, hke⟩
            have HR6 := Lib.hid hrs; have HK6 := Lib.hid hke
            clear hrs hke
            have hsl : (Ad.st (n - 2) s1).length + 1 = n := by have := Ad.st_length (k := n - 2) (s := s1) (by rw [HN.out]; omega); rw [HN.out] at this; exact this
            go_wp2
            go_roundw
            case rel => exact ⟨Ad.st (n - 2) s1, m1 ++ [n - 2], HR6, HK6, Lib.hid (HB.out.st (by rw [HN.out]; omega)), by omega, by simp; omega, Lib.hid (by have := HX.out; rw [Ad.idx_some HZ.out] at this; exact ⟨this.1, by rw [List.append_assoc]; exact this.2⟩)⟩
            case measure => rw [HR6.out.lenAt, HLA.out, HN.out]; omega
          · have dD2 : decide (x2 ≤ x1) = false := decide_eq_false hD2
            have HZ : Hid (Ad.nxt false s1 = none) := by
              show _ = _
              unfold Ad.nxt
              rw [hn1, hx1, hx2, hx3, hx4, if_neg (by omega), if_neg (by decide)]
              rw [if_neg (by omega)]
              rw [if_neg (by omega)]
            clear bx1 bx2 bx3 bx4 HS hn1
            go_wp2_with (go_at_call 272; refine (HF.out _ _ (by rfl) (by omega) (by omega)).mono ?_; rintro e w' ⟨x, rfl, hx, nd, rfl⟩; first | (have hy : x = x1 := hx.trans hx1; clear hx; subst x) | (have hy : x = x2 := hx.trans hx2; clear hx; subst x) | (have hy : x = x3 := hx.trans hx3; clear hx; subst x))
            refine bodyPost_ret (v := .tuple #[]) (by simp [results, Tryz.results244, go_sem]) rfl ⟨rfl, ?_, by repeat (first | exact HK.out | apply KeepA.heap)⟩
            have := HX.out
            rw [Ad.idx_none HZ.out] at this
            rw [← this.1, ← this.2, List.append_nil]
            exact HR.out.heap rfl
      have e4 : decide (4 ≤ (n : Int)) = true := decide_eq_true (by omega)
      by_cases hD3 : x3 ≤ x1 + x2
      · have dD3 : decide (x3 ≤ x1 + x2) = true := decide_eq_true hD3
        by_cases hG : x1 ≤ x3
        · have dG : decide (x1 ≤ x3) = true := decide_eq_true hG
          have HZ : Hid (Ad.nxt false s1 = some (n - 2)) := by
            show _ = _
            unfold Ad.nxt
            rw [hn1, hx1, hx2, hx3, hx4, if_neg (by omega), if_neg (by decide)]
            rw [if_pos (by omega)]
            rw [if_neg (by omega)]
          clear bx1 bx2 bx3 bx4 HS hn1
          go_wp2_with (go_at_call 272; refine (HF.out _ _ (by rfl) (by omega) (by omega)).mono ?_; rintro e w' ⟨x, rfl, hx, nd, rfl⟩; first | (have hy : x = x1 := hx.trans hx1; clear hx; subst x) | (have hy : x = x2 := hx.trans hx2; clear hx; subst x) | (have hy : x = x3 := hx.trans hx3; clear hx; subst x) | (have hy : x = x4 := hx.trans hx4; clear hx; subst x))
          refine (HMG.out (n - 2) _ _ (by rfl) (by omega) (by omega) (by repeat (first | exact HK.out | apply KeepA.heap))).mono ?_
          rintro e w6 ⟨rfl, hrs, hke⟩
          have HR6 := Lib.hid hrs; have HK6 := Lib.hid hke
          clear hrs hke
          have hsl : (Ad.st (n - 2) s1).length + 1 = n := by have := Ad.st_length (k := n - 2) (s := s1) (by rw [HN.out]; omega); rw [HN.out] at this; exact this
          go_wp2
          go_roundw
          case rel => exact ⟨Ad.st (n - 2) s1, m1 ++ [n - 2], HR6, HK6, Lib.hid (HB.out.st (by rw [HN.out]; omega)), by omega, by simp; omega, Lib.hid (by have := HX.out; rw [Ad.idx_some HZ.out] at this; exact ⟨this.1, by rw [List.append_assoc]; exact this.2⟩)⟩
          case measure => rw [HR6.out.lenAt, HLA.out, HN.out]; omega
        · have dG : decide (x1 ≤ x3) = false := decide_eq_false hG
          have HZ : Hid (Ad.nxt false s1 = some (n - 3)) := by
            show _ = _
            unfold Ad.nxt
            rw [hn1, hx1, hx2, hx3, hx4, if_neg (by omega), if_neg (by decide)]
            rw [if_pos (by omega)]
            rw [if_pos (by omega)]
          clear bx1 bx2 bx3 bx4 HS hn1
          go_wp2_with (go_at_call 272; refine (HF.out _ _ (by rfl) (by omega) (by omega)).mono ?_; rintro e w' ⟨x, rfl, hx, nd, rfl⟩; first | (have hy : x = x1 := hx.trans hx1; clear hx; subst x) | (have hy : x = x2 := hx.trans hx2; clear hx; subst x) | (have hy : x = x3 := hx.trans hx3; clear hx; subst x) | (have hy : x = x4 := hx.trans hx4; clear hx; subst x))
          refine (HMG.out (n - 3) _ _ (by rfl) (by omega) (by omega) (by repeat (first | exact HK.out | apply KeepA.heap))).mono ?_
          rintro e w6 ⟨rfl, hrs, hke⟩
          have HR6 := Lib.hid hrs; have HK6 := Lib.hid hke
          clear hrs hke
          have hsl : (Ad.st (n - 3) s1).length + 1 = n := by have := Ad.st_length (k := n - 3) (s := s1) (by rw [HN.out]; omega); rw [HN.out] at this; exact this
          go_wp2
          go_roundw
          case rel => exact ⟨Ad.st (n - 3) s1, m1 ++ [n - 3], HR6, HK6, Lib.hid (HB.out.st (by rw [HN.out]; omega)), by omega, by simp; omega, Lib.hid (by have := HX.out; rw [Ad.idx_some HZ.out] at this; exact ⟨this.1, by rw [List.append_assoc]; exact this.2⟩)⟩
          case measure => rw [HR6.out.lenAt, HLA.out, HN.out]; omega
      · have dD3 : decide (x3 ≤ x1 + x2) = false := decide_eq_false hD3
        by_cases hD4 : x4 ≤ x3 + x2
        · have dD4 : decide (x4 ≤ x3 + x2) = true := decide_eq_true hD4
          by_cases hG : x1 ≤ x3
          · have dG : decide (x1 ≤ x3) = true := decide_eq_true hG
            have HZ : Hid (Ad.nxt false s1 = some (n - 2)) := by
              show _ = _
              unfold Ad.nxt
              rw [hn1, hx1, hx2, hx3, hx4, if_neg (by omega), if_neg (by decide)]
              rw [if_pos (by omega)]
              rw [if_neg (by omega)]
            clear bx1 bx2 bx3 bx4 HS hn1
            go_wp2_with (go_at_call 272; refine (HF.out _ _ (by rfl) (by omega) (by omega)).mono ?_; rintro e w' ⟨x, rfl, hx, nd, rfl⟩; first | (have hy : x = x1 := hx.trans hx1; clear hx; subst x) | (have hy : x = x2 := hx.trans hx2; clear hx; subst x) | (have hy : x = x3 := hx.trans hx3; clear hx; subst x) | (have hy : x = x4 := hx.trans hx4; clear hx; subst x))
            refine (HMG.out (n - 2) _ _ (by rfl) (by omega) (by omega) (by repeat (first | exact HK.out | apply KeepA.heap))).mono ?_
            rintro e w6 ⟨rfl, hrs, hke⟩
            have HR6 := Lib.hid hrs; have HK6 := Lib.hid hke
            clear hrs hke
            have hsl : (Ad.st (n - 2) s1).length + 1 = n := by have := Ad.st_length (k := n - 2) (s := s1) (by rw [HN.out]; omega); rw [HN.out] at this; exact this
            go_wp2
            go_roundw
            case rel => exact ⟨Ad.st (n - 2) s1, m1 ++ [n - 2], HR6, HK6, Lib.hid (HB.out.st (by rw [HN.out]; omega)), by omega, by simp; omega, Lib.hid (by have := HX.out; rw [Ad.idx_some HZ.out] at this; exact ⟨this.1, by rw [List.append_assoc]; exact this.2⟩)⟩
            case measure => rw [HR6.out.lenAt, HLA.out, HN.out]; omega
          · have dG : decide (x1 ≤ x3) = false := decide_eq_false hG
            have HZ : Hid (Ad.nxt false s1 = some (n - 3)) := by
              show _ = _
              unfold Ad.nxt
              rw [hn1, hx1, hx2, hx3, hx4, if_neg (by omega), if_neg (by decide)]
              rw [if_pos (by omega)]
              rw [if_pos (by omega)]
            clear bx1 bx2 bx3 bx4 HS hn1
            go_wp2_with (go_at_call 272; refine (HF.out _ _ (by rfl) (by omega) (by omega)).mono ?_; rintro e w' ⟨x, rfl, hx, nd, rfl⟩; first | (have hy : x = x1 := hx.trans hx1; clear hx; subst x) | (have hy : x = x2 := hx.trans hx2; clear hx; subst x) | (have hy : x = x3 := hx.trans hx3; clear hx; subst x) | (have hy : x = x4 := hx.trans hx4; clear hx; subst x))
            refine (HMG.out (n - 3) _ _ (by rfl) (by omega) (by omega) (by repeat (first | exact HK.out | apply KeepA.heap))).mono ?_
            rintro e w6 ⟨rfl, hrs, hke⟩
            have HR6 := Lib.hid hrs; have HK6 := Lib.hid hke
            clear hrs hke
            have hsl : (Ad.st (n - 3) s1).length + 1 = n := by have := Ad.st_length (k := n - 3) (s := s1) (by rw [HN.out]; omega); rw [HN.out] at this; exact this
            go_wp2
            go_roundw
            case rel => exact ⟨Ad.st (n - 3) s1, m1 ++ [n - 3], HR6, HK6, Lib.hid (HB.out.st (by rw [HN.out]; omega)), by omega, by simp; omega, Lib.hid (by have := HX.out; rw [Ad.idx_some HZ.out] at this; exact ⟨this.1, by rw [List.append_assoc]; exact this.2⟩)⟩
            case measure => rw [HR6.out.lenAt, HLA.out, HN.out]; omega
        · have dD4 : decide (x4 ≤ x3 + x2) = false := decide_eq_false hD4
          by_cases hD2 : x2 ≤ x1
          · have dD2 : decide (x2 ≤ x1) = true := decide_eq_true hD2
            have HZ : Hid (Ad.nxt false s1 = some (n - 2)) := by
              show _ = _
              unfold Ad.nxt
              rw [hn1, hx1, hx2, hx3, hx4, if_neg (by omega), if_neg (by decide)]
              rw [if_neg (by omega)]
              rw [if_pos (by omega)]
            clear bx1 bx2 bx3 bx4 HS hn1
            go_wp2_with (go_at_call 272; refine (HF.out _ _ (by rfl) (by omega) (by omega)).mono ?_; rintro e w' ⟨x, rfl, hx, nd, rfl⟩; first | (have hy : x = x1 := hx.trans hx1; clear hx; subst x) | (have hy : x = x2 := hx.trans hx2; clear hx; subst x) | (have hy : x = x3 := hx.trans hx3; clear hx; subst x) | (have hy : x = x4 := hx.trans hx4; clear hx; subst x))
            refine (HMG.out (n - 2) _ _ (by rfl) (by omega) (by omega) (by repeat (first | exact HK.out | apply KeepA.heap))).mono ?_
            rintro e w6 ⟨rfl, hrs, hke⟩
            have HR6 := Lib.hid hrs; have HK6 := Lib.hid hke
            clear hrs hke
            have hsl : (Ad.st (n - 2) s1).length + 1 = n := by have := Ad.st_length (k := n - 2) (s := s1) (by rw [HN.out]; omega); rw [HN.out] at this; exact this
            go_wp2
            go_roundw
            case rel => exact ⟨Ad.st (n - 2) s1, m1 ++ [n - 2], HR6, HK6, Lib.hid (HB.out.st (by rw [HN.out]; omega)), by omega, by simp; omega, Lib.hid (by have := HX.out; rw [Ad.idx_some HZ.out] at this; exact ⟨this.1, by rw [List.append_assoc]; exact this.2⟩)⟩
            case measure => rw [HR6.out.lenAt, HLA.out, HN.out]; omega
          · have dD2 : decide (x2 ≤ x1) = false := decide_eq_false hD2
            have HZ : Hid (Ad.nxt false s1 = none) := by
              show _ = _
              unfold Ad.nxt
              rw [hn1, hx1, hx2, hx3, hx4, if_neg (by omega), if_neg (by decide)]
              rw [if_neg (by omega)]
              rw [if_neg (by omega)]
            clear bx1 bx2 bx3 bx4 HS hn1
            go_wp2_with (go_at_call 272; refine (HF.out _ _ (by rfl) (by omega) (by omega)).mono ?_; rintro e w' ⟨x, rfl, hx, nd, rfl⟩; first | (have hy : x = x1 := hx.trans hx1; clear hx; subst x) | (have hy : x = x2 := hx.trans hx2; clear hx; subst x) | (have hy : x = x3 := hx.trans hx3; clear hx; subst x) | (have hy : x = x4 := hx.trans hx4; clear hx; subst x))
            refine bodyPost_ret (v := .tuple #[]) (by simp [results, Tryz.results244, go_sem]) rfl ⟨rfl, ?_, by repeat (first | exact HK.out | apply KeepA.heap)⟩
            have := HX.out
            rw [Ad.idx_none HZ.out] at this
            rw [← this.1, ← this.2, List.append_nil]
            exact HR.out.heap rfl

end Go.Proofs.YtbgmbanebmlghaaGreatDoor

namespace Go.Proofs.YtbgmbanebmlghaaGreatDoor
open Go.RowKit Go.Sort
set_option linter.unusedVariables false
theorem st_sum {s : List Int} {k : Nat} (hk : k + 1 < s.length) : (Ad.st k s).sum = s.sum := by
  have h2 : s.sum = s.sum := rfl
  conv at h2 => rhs; rw [Ad.split2 0 hk]
  unfold Ad.st
  simp only [List.sum_append, List.sum_cons] at h2 ⊢
  omega
theorem st_nn {s : List Int} {k : Nat} (hk : k + 1 < s.length) (h1 : ∀ x ∈ s, 0 ≤ x) : ∀ x ∈ Ad.st k s, 0 ≤ x := fun x hxm => by
  have g : ∀ j, 0 ≤ s.getD j 0 := fun j => by
    by_cases hj : j < s.length
    · rw [List.getD_eq_getElem?_getD, List.getElem?_eq_getElem hj]; exact h1 _ (List.getElem_mem hj)
    · rw [List.getD_eq_getElem?_getD, List.getElem?_eq_none (by omega)]; simp
  unfold Ad.st at hxm
  have g1 := g k
  have g2 := g (k + 1)
  rcases List.mem_append.1 hxm with e | e
  · exact h1 x (List.mem_of_mem_take e)
  · rcases List.mem_cons.1 e with e | e
    · omega
    · exact h1 x (List.mem_of_mem_drop e)
theorem idx_ok (e : Bool) : ∀ (n : Nat) (s : List Int), s.length = n → (∀ x ∈ s, 0 ≤ x) → (∀ x ∈ (Ad.idx e s).1, 0 ≤ x) ∧ (Ad.idx e s).1.sum = s.sum ∧ (Ad.idx e s).1.length + (Ad.idx e s).2.length = s.length
  | n, s, hn, h1 => by
    cases h : Ad.nxt e s with
    | none =>
      rw [Ad.idx_none h]
      exact ⟨h1, rfl, rfl⟩
    | some k =>
      have hk := Ad.nxt_lt h
      have hl := Ad.st_length hk
      obtain ⟨a, b, c⟩ := idx_ok e (n - 1) (Ad.st k s) (by omega) (st_nn hk h1)
      rw [Ad.idx_some h]
      exact ⟨a, by rw [← st_sum hk]; exact b, by show (Ad.idx e (Ad.st k s)).1.length + ((Ad.idx e (Ad.st k s)).2.length + 1) = _; omega⟩
  termination_by n => n
  decreasing_by all_goals omega
theorem idxs_ok (cs : List Int) (h : ∀ x ∈ cs, 0 ≤ x) : (∀ x ∈ (Ad.idxs cs).1, 0 ≤ x) ∧ (Ad.idxs cs).1.sum = cs.sum ∧ (Ad.idxs cs).1.length + (Ad.idxs cs).2.length = cs.length := by
  refine Mg.list_snoc (P := fun cs => (∀ x ∈ cs, 0 ≤ x) → (∀ x ∈ (Ad.idxs cs).1, 0 ≤ x) ∧ (Ad.idxs cs).1.sum = cs.sum ∧ (Ad.idxs cs).1.length + (Ad.idxs cs).2.length = cs.length) (fun _ => ⟨(fun x hx => by cases hx), rfl, rfl⟩) (fun l x ih h => ?_) cs h
  obtain ⟨a, b, c⟩ := ih fun y hy => h y (by simp [hy])
  have hx := h x (by simp)
  obtain ⟨d, e, f⟩ := idx_ok false _ ((Ad.idxs l).1 ++ [x]) rfl (fun y hy => by
    rcases List.mem_append.1 hy with h1 | h1
    · exact a y h1
    · rw [List.mem_singleton.1 h1]; exact hx)
  rw [Ad.idxs_snoc]
  refine ⟨d, ?_, ?_⟩
  · show (Ad.idx false _).1.sum = _
    rw [e, List.sum_append, List.sum_append, b]
  · show (Ad.idx false _).1.length + ((Ad.idxs l).2 ++ (Ad.idx false _).2).length = _
    rw [List.length_append, List.length_append] at *
    simp only [List.length_cons, List.length_nil] at *
    omega
theorem Bd.take {cs : List Int} (h : Bd cs) (j : Nat) : Bd (cs.take j) := by
  refine ⟨fun x hx => h.1 x (List.mem_of_mem_take hx), ?_⟩
  have h1 := h.2
  have h2 : 0 ≤ (cs.drop j).sum := sum_nn fun x hx => h.1 x (List.mem_of_mem_drop hx)
  rw [← List.take_append_drop j cs, List.sum_append] at h1
  omega
theorem idxs_bd {cs : List Int} (h : Bd cs) {j : Nat} (hj : j < cs.length) : Bd ((Ad.idxs (cs.take j)).1 ++ [cs.getD j 0]) := by
  have h1 := h.take (j + 1)
  have he : cs.take (j + 1) = cs.take j ++ [cs.getD j 0] := by rw [List.take_add_one, List.getD_eq_getElem?_getD, List.getElem?_eq_getElem hj]; rfl
  obtain ⟨a, b, c⟩ := idxs_ok (cs.take j) (h.take j).1
  rw [he] at h1
  have h2 := h1.2
  rw [List.sum_append] at h2
  refine ⟨fun x hx => ?_, ?_⟩
  · rcases List.mem_append.1 hx with e | e
    · exact a x e
    · exact h1.1 x (List.mem_append.2 (.inr e))
  · rw [List.sum_append, b]; exact h2

/-- All merges. -/
def allI (cs : List Int) : List Nat := (Ad.idxs cs).2 ++ (Ad.idx true (Ad.idxs cs).1).2

def AllEnd (w : World) (cs : List Int) (e : Ending) (w' : World) : Prop :=
  ∃ (a : Option Addr) (n c : Nat) (mo : Int), e = .returned (.tuple #[.slice a n c, .int .i64 mo]) ∧ w'.ownsRow w.heap.size 3 1 (.slice a n c) n (natV (allI cs)) ∧ Below w.heap.size w w'

set_option maxRecDepth 100000 in
set_option maxHeartbeats 8000000 in
theorem runMerges_any (a : Option Addr) (n c : Nat) (cs : List Int) (w : World) (hl : cs.length = n) (hn : n ≤ 100) (hbd : Bd cs) (h : IntsAt w a cs) :
    Calls Tryz.prog 245 #[.slice a n c] w (AllEnd w cs) := by
  have H := Lib.hid h
  have HB := Lib.hid hbd
  obtain ⟨A, hAd⟩ : ∃ A : Nat → Prop, A = fun k => k < w.heap.size := ⟨_, rfl⟩
  have hr0 : RSv ((w.alloc (.cells #[] 3)).alloc (.cells #[.slice none 0 0, .slice (some ⟨w.heap.size, 0, none⟩) 0 0, .int .i64 0] 245)) (w.heap.size + 1) A (.slice none 0 0) (.slice (some ⟨w.heap.size, 0, none⟩) 0 0) 0 [] [] := by
    have e0 := own_lit (w := w) (e := 3) (size := 1) #[] 0 (by omega) rfl
    have e1 := own_lit (w := w.alloc (.cells #[] 3)) (e := 245) (size := 3) #[.slice none 0 0, .slice (some ⟨w.heap.size, 0, none⟩) 0 0, .int .i64 0] 1 (by omega) rfl
    have hz : (w.alloc (.cells #[] 3)).heap.size = w.heap.size + 1 := by simp
    rw [hz] at e1
    subst hAd
    refine ⟨own_mono e1 (Nat.zero_le _), World.ownsRow_nil _ _ _ _, own_mono (e0.alloc _) (Nat.zero_le _), by show ¬ (_ < _); omega, (fun b hb => by cases hb), fun b hb => ?_⟩
    injection hb with hb
    have hb2 : w.heap.size = b := hb
    subst hb2
    exact ⟨by show ¬ (_ < _); omega, by omega, (fun e => by cases e)⟩
  have hk0 : KeepA A w ((w.alloc (.cells #[] 3)).alloc (.cells #[.slice none 0 0, .slice (some ⟨w.heap.size, 0, none⟩) 0 0, .int .i64 0] 245)) :=
    (keep_grown (World.grownBy_alloc w _ none) (fun b e => by cases e)).trans (keep_grown (World.grownBy_alloc _ _ none) (fun b e => by cases e))
  have HR0 : Hid (RS ((w.alloc (.cells #[] 3)).alloc (.cells #[.slice none 0 0, .slice (some ⟨w.heap.size, 0, none⟩) 0 0, .int .i64 0] 245)) (w.heap.size + 1) A [] []) := Lib.hid ⟨_, _, _, hr0⟩
  have HK0 := Lib.hid hk0
  have hAB : ∀ w1, KeepA A w w1 → ∀ k, A k → k < w1.heap.size := fun w1 hk k ha => by
    rw [hAd] at ha
    exact Nat.lt_of_lt_of_le ha hk.size
  have hBL : ∀ w1, KeepA A w w1 → Below w.heap.size w w1 := fun w1 hk => hk.below (Nat.le_refl _) (fun k hk => by rw [hAd]; exact hk)
  have HAB := Lib.hid hAB
  have HBL := Lib.hid hBL
  have HAD := Lib.hid hAd
  clear h hbd hr0 hk0 hAB hBL hAd
  unfold AllEnd
  go_enter Tryz.func245, Tryz.ntmps245
  go_wp2
  go_loopw [13] (fun i wr => ∃ j : Nat, i = .int .i64 j ∧ j ≤ n ∧ Hid (RS wr (w.heap.size + 1) A (Ad.idxs (cs.take j)).1 (Ad.idxs (cs.take j)).2) ∧ Hid (KeepA A w wr)) (fun i _ => n - (intOf i).toNat)
  case atStart => exact ⟨0, rfl, by omega, by rw [List.take_zero]; exact HR0, HK0⟩
  case round =>
    obtain ⟨j, rfl, hj, HR, HK⟩ := hrel
    clear HR0 HK0
    obtain ⟨hok1, hok2, hok3⟩ := idxs_ok (cs.take j) (HB.out.take j).1
    rw [List.length_take] at hok3
    have bj : (0 : Int) ≤ (j : Int) := by omega
    by_cases hlt : j < n
    · have q1 : decide ((j : Int) < (n : Int)) = true := decide_eq_true (by omega)
      have q2 : (j : Int) < (n : Int) := by omega
      obtain ⟨b, o, rfl, e1⟩ := (H.out.below (Nat.le_refl _) (HBL.out _ HK.out)).at (k := j) (by omega)
      have HP := Lib.hid (push_any (w.heap.size + 1) (cs.getD j 0) A (Ad.idxs (cs.take j)).1 (Ad.idxs (cs.take j)).2 wr (by omega) (by omega) (HAB.out _ HK.out) (idxs_bd HB.out (by omega)) HR.out)
      have HT : Hid (cs.take (j + 1) = cs.take j ++ [cs.getD j 0]) := by
        show _ = _
        rw [List.take_add_one, List.getD_eq_getElem?_getD, List.getElem?_eq_getElem (by omega)]; rfl
      obtain ⟨x, hx⟩ : ∃ x, cs.getD j 0 = x := ⟨_, rfl⟩
      rw [hx] at e1 HP HT
      clear hok1 hok2 hok3 hx
      go_wp2_with fail
      refine HP.out.mono ?_
      rintro e w4 ⟨rfl, hrs, hke⟩
      have HR4 : Hid (RS w4 (w.heap.size + 1) A (Ad.idxs (cs.take (j + 1))).1 (Ad.idxs (cs.take (j + 1))).2) := by
        show RS _ _ _ _ _
        rw [HT.out, Ad.idxs_snoc]; exact hrs
      have HK4 := Lib.hid (HK.out.trans hke)
      clear hrs hke HP HT
      go_wp2
      go_roundw
      case rel => exact ⟨j + 1, by go_num, by omega, HR4, HK4⟩
      case measure => simp [intOf]; omega
    have hjn : j = n := by omega
    subst hjn
    have q1 : decide ((j : Int) < (j : Int)) = false := decide_eq_false (by omega)
    have HR9 : Hid (RS wr (w.heap.size + 1) A (Ad.idxs cs).1 (Ad.idxs cs).2) := by
      have := HR.out
      rwa [List.take_of_length_le (by omega)] at this
    rw [List.take_of_length_le (by omega)] at hok1 hok2 hok3
    have HB9 : Hid (Bd (Ad.idxs cs).1) := ⟨hok1, by rw [hok2]; exact HB.out.2⟩
    have hml0 : (Ad.idxs cs).1.length + (Ad.idxs cs).2.length ≤ 100 := by omega
    obtain ⟨I, hI⟩ : ∃ I, Ad.idx true (Ad.idxs cs).1 = I := ⟨_, rfl⟩
    have HI := Lib.hid hI
    clear hok1 hok2 hok3 HR hI
    go_wp2
    go_loopw [7] (fun _ wq => ∃ (s1 : List Int) (m1 : List Nat), Hid (RS wq (w.heap.size + 1) A s1 m1) ∧ Hid (KeepA A w wq) ∧ Hid (Bd s1) ∧ s1.length + m1.length ≤ 100 ∧ Hid ((Ad.idx true s1).1 = I.1 ∧ m1 ++ (Ad.idx true s1).2 = (Ad.idxs cs).2 ++ I.2)) (fun _ wq => lenAt wq (w.heap.size + 1))
    case atStart => exact ⟨(Ad.idxs cs).1, (Ad.idxs cs).2, HR9, HK, HB9, hml0, Lib.hid (by rw [HI.out]; exact ⟨rfl, rfl⟩)⟩
    case round =>
      obtain ⟨s1, m1, HR, HK2, HB2, hm1, HX⟩ := hrel
      clear HR9 HB9 hml0 HK
      have HA2 := Lib.hid (HAB.out _ HK2.out)
      have hla := HR.out.lenAt
      have HLA := Lib.hid hla
      obtain ⟨ws, wm, wo, hrv⟩ := HR.out
      have h0 := hrv.cell.1
      have HRV := Lib.hid hrv
      have HS := Lib.hid hrv.hs
      obtain ⟨a1, c1, rfl⟩ := own_slice hrv.hs
      clear hrv hla
      obtain ⟨t, hn1⟩ : ∃ t, s1.length = t := ⟨_, rfl⟩
      have HN := Lib.hid hn1
      rw [hn1] at h0 hm1
      by_cases hn2 : t < 2
      · have HZ : Hid (Ad.nxt true s1 = none) := Ad.nxt_small (by omega)
        have q3 : decide (2 ≤ (t : Int)) = false := decide_eq_false (by omega)
        have q4 : (t : Int) < 2 := by omega
        have hc1 := HRV.out.cell.2.1
        have hc2 := HRV.out.cell.2.2
        have HF := HX.out.2
        rw [Ad.idx_none HZ.out, List.append_nil] at HF
        have HFE : Hid (m1 = allI cs) := by
          show _ = _
          unfold allI
          rw [HI.out]; exact HF
        have hmr := HRV.out.hm
        obtain ⟨am, cm, rfl⟩ := own_slice hmr
        have HMR : Hid (wr.ownsRow w.heap.size 3 1 (.slice am m1.length cm) m1.length (natV (allI cs))) := by
          have hmr2 : wr.ownsRow w.heap.size 3 1 (.slice am m1.length cm) m1.length (natV m1) := ⟨hmr.1, hmr.2.elim .inl fun ⟨g, cap, cur, x1, x2, x3⟩ => .inr ⟨g, cap, cur, x1, (by
            have := (HRV.out.aM g (by rw [x1]; rfl)).1
            rw [HAD.out] at this
            exact Nat.le_of_not_lt this), x3⟩⟩
          rw [← HFE.out]
          exact hmr2
        clear hmr HF hn1
        go_wp2_with fail
        go_quiet (fail)
        go_wp2
        go_ret2
        exact ⟨am, m1.length, cm, wo, rfl, HMR.out, HBL.out _ HK2.out.heap⟩
      have q3 : decide (2 ≤ (t : Int)) = true := decide_eq_true (by omega)
      have q4 : 2 ≤ (t : Int) := by omega
      obtain ⟨x1, hx1⟩ : ∃ x, s1.getD (t - 1) 0 = x := ⟨_, rfl⟩
      obtain ⟨x3, hx3⟩ : ∃ x, s1.getD (t - 3) 0 = x := ⟨_, rfl⟩
      have bx1 := HB2.out.at (t - 1)
      have bx3 := HB2.out.at (t - 3)
      rw [hx1] at bx1
      rw [hx3] at bx3
      have HF : Hid (∀ (k : Int) (W : World), W.heap = wr.heap → 1 ≤ k → k ≤ (t : Int) → Calls Tryz.prog 272 #[.pointer (some ⟨w.heap.size + 1, 0, none⟩), .int .i64 k] W fun e w' => ∃ x, e = .returned (.int .i64 x) ∧ x = s1.getD (t - k.toNat) 0 ∧ ∃ nd, w' = W.drewN nd) := fun k W hW hk1 hk2 => by
        obtain ⟨k', rfl⟩ := Int.eq_ofNat_of_zero_le (show 0 ≤ k by omega)
        have := from_any (w.heap.size + 1) s1 _ k' W (by omega) (by omega) (by omega) ((World.cell?_of_block (by rw [hW])).trans h0) (by rw [hn1]; exact own_heap (hn1 ▸ HS.out) hW)
        rw [hn1] at this
        refine this.mono ?_
        rintro e w' ⟨rfl, nd, rfl⟩
        exact ⟨_, rfl, rfl, nd, rfl⟩
      have HMG : Hid (∀ (k : Nat) (K : Int) (W : World), W.heap = wr.heap → K = (k : Int) → k + 1 < t → KeepA A w W → Calls Tryz.prog 273 #[.pointer (some ⟨w.heap.size + 1, 0, none⟩), .int .i64 K] W fun e w' => e = .returned (.tuple #[]) ∧ RS w' (w.heap.size + 1) A (Ad.st k s1) (m1 ++ [k]) ∧ KeepA A w w') := fun k K W hW hK hk hke => by
        have b1 := HB2.out.at k
        have b2 := HB2.out.at (k + 1)
        refine (mergeAt_any (w.heap.size + 1) k K A s1 m1 W hK (by omega) (by omega) (by omega) (fun b hb => by rw [hW]; exact HA2.out b hb) b1.1 (by omega) b2.1 (by omega) (HR.out.heap hW)).mono ?_
        rintro e w' ⟨a, b, c⟩
        exact ⟨a, b, hke.trans c⟩
      clear HRV
      by_cases hn3 : t < 3
      · have e3 : decide (3 ≤ (t : Int)) = false := decide_eq_false (by omega)
        have HZ : Hid (Ad.nxt true s1 = some (t - 2)) := by
          show _ = _
          unfold Ad.nxt
          rw [hn1, hx1, hx3, if_neg (by omega), if_pos rfl, if_neg (by omega)]
        clear bx1 bx3 HS hn1
        go_wp2_with (go_at_call 272; refine (HF.out _ _ (by rfl) (by omega) (by omega)).mono ?_; rintro e w' ⟨x, rfl, hx, nd, rfl⟩; first | (have hy : x = x1 := hx.trans hx1; clear hx; subst x) | (have hy : x = x3 := hx.trans hx3; clear hx; subst x))
        refine (HMG.out (t - 2) _ _ (by rfl) (by omega) (by omega) (by repeat (first | exact HK2.out | apply KeepA.heap))).mono ?_
        rintro e w6 ⟨rfl, hrs, hke⟩
        have HR6 := Lib.hid hrs; have HK6 := Lib.hid hke
        clear hrs hke
        have hsl : (Ad.st (t - 2) s1).length + 1 = t := by have := Ad.st_length (k := t - 2) (s := s1) (by rw [HN.out]; omega); rw [HN.out] at this; exact this
        go_wp2
        go_roundw
        case rel => exact ⟨Ad.st (t - 2) s1, m1 ++ [t - 2], HR6, HK6, Lib.hid (HB2.out.st (by rw [HN.out]; omega)), by simp; omega, Lib.hid (by have := HX.out; rw [Ad.idx_some HZ.out] at this; exact ⟨this.1, by rw [List.append_assoc]; exact this.2⟩)⟩
        case measure => rw [HR6.out.lenAt, HLA.out, HN.out]; omega
      have e3 : decide (3 ≤ (t : Int)) = true := decide_eq_true (by omega)
      by_cases hd : x3 < x1
      · have e4 : decide (x3 < x1) = true := decide_eq_true hd
        have HZ : Hid (Ad.nxt true s1 = some (t - 3)) := by
          show _ = _
          unfold Ad.nxt
          rw [hn1, hx1, hx3, if_neg (by omega), if_pos rfl, if_pos (by omega)]
        clear bx1 bx3 HS hn1
        go_wp2_with (go_at_call 272; refine (HF.out _ _ (by rfl) (by omega) (by omega)).mono ?_; rintro e w' ⟨x, rfl, hx, nd, rfl⟩; first | (have hy : x = x1 := hx.trans hx1; clear hx; subst x) | (have hy : x = x3 := hx.trans hx3; clear hx; subst x))
        refine (HMG.out (t - 3) _ _ (by rfl) (by omega) (by omega) (by repeat (first | exact HK2.out | apply KeepA.heap))).mono ?_
        rintro e w6 ⟨rfl, hrs, hke⟩
        have HR6 := Lib.hid hrs; have HK6 := Lib.hid hke
        clear hrs hke
        have hsl : (Ad.st (t - 3) s1).length + 1 = t := by have := Ad.st_length (k := t - 3) (s := s1) (by rw [HN.out]; omega); rw [HN.out] at this; exact this
        go_wp2
        go_roundw
        case rel => exact ⟨Ad.st (t - 3) s1, m1 ++ [t - 3], HR6, HK6, Lib.hid (HB2.out.st (by rw [HN.out]; omega)), by simp; omega, Lib.hid (by have := HX.out; rw [Ad.idx_some HZ.out] at this; exact ⟨this.1, by rw [List.append_assoc]; exact this.2⟩)⟩
        case measure => rw [HR6.out.lenAt, HLA.out, HN.out]; omega
      · have e4 : decide (x3 < x1) = false := decide_eq_false hd
        have HZ : Hid (Ad.nxt true s1 = some (t - 2)) := by
          show _ = _
          unfold Ad.nxt
          rw [hn1, hx1, hx3, if_neg (by omega), if_pos rfl, if_neg (by omega)]
        clear bx1 bx3 HS hn1
        go_wp2_with (go_at_call 272; refine (HF.out _ _ (by rfl) (by omega) (by omega)).mono ?_; rintro e w' ⟨x, rfl, hx, nd, rfl⟩; first | (have hy : x = x1 := hx.trans hx1; clear hx; subst x) | (have hy : x = x3 := hx.trans hx3; clear hx; subst x))
        refine (HMG.out (t - 2) _ _ (by rfl) (by omega) (by omega) (by repeat (first | exact HK2.out | apply KeepA.heap))).mono ?_
        rintro e w6 ⟨rfl, hrs, hke⟩
        have HR6 := Lib.hid hrs; have HK6 := Lib.hid hke
        clear hrs hke
        have hsl : (Ad.st (t - 2) s1).length + 1 = t := by have := Ad.st_length (k := t - 2) (s := s1) (by rw [HN.out]; omega); rw [HN.out] at this; exact this
        go_wp2
        go_roundw
        case rel => exact ⟨Ad.st (t - 2) s1, m1 ++ [t - 2], HR6, HK6, Lib.hid (HB2.out.st (by rw [HN.out]; omega)), by simp; omega, Lib.hid (by have := HX.out; rw [Ad.idx_some HZ.out] at this; exact ⟨this.1, by rw [List.append_assoc]; exact this.2⟩)⟩
        case measure => rw [HR6.out.lenAt, HLA.out, HN.out]; omega

end Go.Proofs.YtbgmbanebmlghaaGreatDoor

