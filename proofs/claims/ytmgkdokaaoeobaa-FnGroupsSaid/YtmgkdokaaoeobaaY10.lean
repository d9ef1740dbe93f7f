/- Several texts in one: lemmas and walks of the functions that the law reaches. -/
import Derived.Test.YtmgkdokaaoeobaaY2
import Derived.Test.YtmgkdokaaoeobaaY9

namespace Go.Proofs.Ytmgkdokaaoeobaa
open Go.RowKit Go.Sort
set_option linter.unusedVariables false

/-- A group's five numbers, and its cells. -/
abbrev G5 := Int × Int × Int × Int × Int
def GG.encG (x : G5) : List Value := [.int .i64 x.1, .int .i64 x.2.1, .int .i64 x.2.2.1, .int .i64 x.2.2.2.1, .int .i64 x.2.2.2.2]
theorem GG.encG_len (x : G5) : (GG.encG x).length = 5 := rfl
theorem GG.rec_cells {w : World} {base g n cap k : Nat} {e : TypeId} {d : List G5} {r : G5} (h : w.ownsRow base e 5 (.slice (some ⟨g, 0, none⟩) n cap) n (flat GG.encG d)) (hk : d[k]? = some r) :
    w.cell? ⟨g, k * 5, none⟩ = some (.int .i64 r.1) ∧ w.cell? ⟨g, k * 5 + 1, none⟩ = some (.int .i64 r.2.1) ∧ w.cell? ⟨g, k * 5 + 2, none⟩ = some (.int .i64 r.2.2.1) ∧ w.cell? ⟨g, k * 5 + 3, none⟩ = some (.int .i64 r.2.2.2.1) ∧ w.cell? ⟨g, k * 5 + 4, none⟩ = some (.int .i64 r.2.2.2.2) := by
  have key : ∀ i v, i < 5 → (GG.encG r)[i]? = some v → w.cell? ⟨g, k * 5 + i, none⟩ = some v := fun i v hi hv => by
    have hl := h.1
    rw [flat_length GG.encG_len] at hl
    have hkl : k < d.length := (List.getElem?_eq_some_iff.1 hk).1
    obtain ⟨g', e, _, _, hc⟩ := own_cell h (by omega)
    injection e with e
    injection e with e _
    subst e
    rw [hc _ (by omega), flat_get GG.encG_len d k i hi, hk, Option.bind_some, hv]
  exact ⟨key 0 _ (by omega) rfl, key 1 _ (by omega) rfl, key 2 _ (by omega) rfl, key 3 _ (by omega) rfl, key 4 _ (by omega) rfl⟩
theorem GG.infoGrp : (Try.prog.info? 34).map (fun i => (i.zero, i.size, i.bytes)) = some (some (.agg #[.int .i64 0, .int .i64 0, .int .i64 0, .int .i64 0, .int .i64 0]), 5, 40) := by kernel_rfl
theorem GG.slGrp : SlT Try.prog 26 34 (.agg #[.int .i64 0, .int .i64 0, .int .i64 0, .int .i64 0, .int .i64 0]) 5 40 := ⟨Try.underlying26, info_parts GG.infoGrp, rfl, by decide, by decide⟩
theorem GG.encG_one (r : G5) : ∀ u ∈ GG.encG r, u.oneCell' = true := by
  intro u hu
  simp [GG.encG] at hu
  rcases hu with rfl | rfl | rfl | rfl | rfl <;> rfl
theorem GG.putK {w : World} {base g n cap : Nat} {e : TypeId} {rs : List G5} (h : w.ownsRow base e 5 (.slice (some ⟨g, 0, none⟩) n cap) n (flat GG.encG rs)) (k : Nat) (hk : k < rs.length) : k < n ∧ rs.length = n := by
  have := h.1
  rw [flat_length GG.encG_len] at this
  omega
theorem GG.putK2 {w : World} {base g n cap : Nat} {e : TypeId} {rs : List G5} (h : w.ownsRow base e 5 (.slice (some ⟨g, 0, none⟩) n cap) n (flat GG.encG rs)) (j k : Nat) (y : G5) (hk : k < (rs.set j y).length) : k < n ∧ (rs.set j y).length = n := by
  have := h.1
  rw [flat_length GG.encG_len] at this
  rw [List.length_set] at hk ⊢
  omega
/-- A row of groups. -/
abbrev GG.GRow (w : World) (B g c n : Nat) (L : List G5) : Prop := w.ownsRow B 34 5 (.slice (some ⟨g, 0, none⟩) n c) n (flat GG.encG L)
/-- Two stores, i and then j. -/
def KS2 (S0 S1 S2 : World → Prop) (i j : Nat) (b : Nat → Bool) (x : Nat → Value) (w : World) : Prop := (b i = false → S0 w) ∧ (b i = true → b j = false → S1 w) ∧ (b j = true → S2 w)
theorem KS2.start {S0 S1 S2 : World → Prop} {i j n : Nat} {x : Nat → Value} {w : World} (h : S0 w) : KS2 S0 S1 S2 i j (fun k => (Array.replicate n false).getD k false) x w :=
  ⟨fun _ => h, fun h1 => absurd ((rep_false n i).symm.trans h1) (by decide), fun h1 => absurd ((rep_false n j).symm.trans h1) (by decide)⟩
theorem KS2.quiet {S0 S1 S2 : World → Prop} {i j : Nat} {b : Nat → Bool} {x x' : Nat → Value} {w : World} (h : KS2 S0 S1 S2 i j b x w) (k : Nat) (hi : i ≠ k) (hj : j ≠ k) : KS2 S0 S1 S2 i j (upd b k true) x' w := by
  unfold KS2
  rw [upd_ne hi, upd_ne hj]
  exact h
theorem KS2.first {S0 S1 S2 : World → Prop} {i j : Nat} {b : Nat → Bool} {x : Nat → Value} {w w' : World} (h : KS2 S0 S1 S2 i j b x w) (e : j ≠ i) (hj : b j = false) (hs : S1 w') : KS2 S0 S1 S2 i j (upd b i true) x w' :=
  ⟨fun h1 => (by rw [upd_same] at h1; cases h1), fun _ _ => hs, fun h1 => (by rw [upd_ne e, hj] at h1; cases h1)⟩
theorem KS2.second {S0 S1 S2 : World → Prop} {i j : Nat} {b : Nat → Bool} {x : Nat → Value} {w w' : World} (h : KS2 S0 S1 S2 i j b x w) (e : j ≠ i) (hi : b i = true) (hs : S2 w') : KS2 S0 S1 S2 i j (upd b j true) x w' :=
  ⟨fun h1 => (by rw [upd_ne (Ne.symm e), hi] at h1; cases h1), fun _ h1 => (by rw [upd_same] at h1; cases h1), fun _ => hs⟩
theorem wp_putX {P : Program} {w : World} {o : Oper} {a : Act} {K : Act → World → Prop} {Q : Exit → Act → World → Prop} {t e : TypeId} {z : Value} {size bytes : Nat} (T : SlT P t e z size bytes) (x y : Operand) (hop : o.op = .store e x y)
    {α : Type} (enc : α → List Value) (hS : ∀ r, (enc r).length = size) (h1 : ∀ r, ∀ u ∈ enc r, u.oneCell' = true) {base g n cap : Nat} {rs : List α} (k : Nat) (r : α) (hx : a.eval x = .pointer (some ⟨g, k * size, none⟩)) (hv : (a.eval y).cells.toList = enc r)
    (hown : w.ownsRow base e size (.slice (some ⟨g, 0, none⟩) n cap) n (flat enc rs)) (hk : k < n) (hl : rs.length = n)
    (h : ∀ w', w'.ownsRow base e size (.slice (some ⟨g, 0, none⟩) n cap) n (flat enc (rs.set k r)) → w.grownBy w' (some g) → K (a.put o.dst undef) w') : Oper.wp P o a w K Q :=
  wp_put T x y hop enc hS h1 base g n cap rs k r hx hv hown hk hl h
theorem GG.insR_at {A R : List G5} {x : G5} {m : Nat} (hm : m < A.length) : (Mg.insSt A x (m + 1) R)[m]? = some (A.getD m (0, 0, 0, 0, 0)) ∧ (Mg.insSt A x (m + 1) R)[m + 1]? = some x := by
  refine ⟨?_, Mg.insSt_at (by omega)⟩
  rw [Mg.insSt_before hm, List.getD_eq_getElem?_getD, List.getElem?_eq_getElem hm]; rfl
theorem GG.insR_stepD {A R : List G5} {x y : G5} {m : Nat} (hm : m < A.length) (hy : A.getD m (0, 0, 0, 0, 0) = y) : ((Mg.insSt A x (m + 1) R).set m x).set (m + 1) y = Mg.insSt A x m R := by
  have e1 : A[m] = y := by rw [← hy, List.getD_eq_getElem?_getD, List.getElem?_eq_getElem hm]; rfl
  rw [← e1]; exact Mg.insSt_step hm
theorem GG.take_snocR {zs : List G5} {i : Nat} (hi : i < zs.length) : zs.take i ++ [zs.getD i (0, 0, 0, 0, 0)] = zs.take (i + 1) := by
  rw [List.take_add_one, List.getElem?_eq_getElem hi, List.getD_eq_getElem?_getD, List.getElem?_eq_getElem hi]
  rfl
end Go.Proofs.Ytmgkdokaaoeobaa
namespace Go.Proofs.Ytmgkdokaaoeobaa.GG
open Go.RowKit Go.Sort
set_option linter.unusedVariables false

/-- A function value that compares groups by the order lt, where I holds; I passes on where block g alone is written. -/
def CmpIs (I : World → Prop) (g : Nat) (lt : G5 → G5 → Bool) (cv : Value) : Prop :=
  (∀ w w', I w → World.grownBy w w' (some g) → I w') ∧ ∃ G cp, cv = .func (.func G) #[] cp ∧ (∀ args w, (callFunc G args).run Try.prog w = .ok (.enter G args) w) ∧
    ∀ (r s : G5) (w : World), I w → Calls Try.prog G (#[.agg #[.int .i64 r.1, .int .i64 r.2.1, .int .i64 r.2.2.1, .int .i64 r.2.2.2.1, .int .i64 r.2.2.2.2], .agg #[.int .i64 s.1, .int .i64 s.2.1, .int .i64 s.2.2.1, .int .i64 s.2.2.2.1, .int .i64 s.2.2.2.2]] ++ cp) w fun e w' => (∃ n : Int, e = .returned (.int .i64 n) ∧ (decide (n < 0) = lt r s)) ∧ Below w.heap.size w w'

set_option maxRecDepth 100000 in
set_option maxHeartbeats 4000000 in
theorem swapRange_any (B0 g c n : Nat) (pre A M B post : List (G5)) (m a b : Nat) (cv : Value) (w : World) (hA : A.length = m) (hB : B.length = m) (ha : pre.length = a) (hb : a + m + M.length = b) (hn : (pre ++ A ++ M ++ B ++ post).length = n) (hn2 : n ≤ 1000)
    (h : w.ownsRow B0 34 5 (.slice (some ⟨g, 0, none⟩) n c) n (flat encG (pre ++ A ++ M ++ B ++ post))) :
    Calls Try.prog 45 #[.slice (some ⟨g, 0, none⟩) n c, .int .i64 a, .int .i64 b, .int .i64 m, cv] w fun e w' => e = .returned (.tuple #[]) ∧
      w'.ownsRow B0 34 5 (.slice (some ⟨g, 0, none⟩) n c) n (flat encG (pre ++ B ++ M ++ A ++ post)) ∧ w.grownBy w' (some g) := by
  rw [← Mg.swSt_zero] at h
  have HE := Lib.hid (Mg.swSt_end (pre := pre) (M := M) (post := post) hA hB)
  have HO := Lib.hid h
  have hlen : a + m + M.length + m + post.length = n := by rw [← hn]; simp only [List.length_append]; omega
  have HLL : Hid (∀ k, k ≤ m → (Mg.swSt pre A M B post k).length = n) := fun k hk => by
    unfold Mg.swSt
    simp only [List.length_append, List.length_take, List.length_drop]
    omega
  have HSP := Lib.hid (fun k (h1 : k < A.length) (h2 : k < B.length) => Mg.swSt_step (pre := pre) (M := M) (post := post) h1 h2 ha (by omega : a + A.length + M.length = b))
  clear h hn
  go_enter Try.func45, Try.ntmps45
  go_wp2
  go_loopw [10] (fun v wr => ∃ k : Nat, v = .int .i64 k ∧ k ≤ m ∧ wr.ownsRow B0 34 5 (.slice (some ⟨g, 0, none⟩) n c) n (flat encG (Mg.swSt pre A M B post k)) ∧ w.grownBy wr (some g)) (fun v _ => m - (intOf v).toNat)
  case atStart => exact ⟨0, rfl, by omega, HO.out, grown_of_below (Below.refl w.heap.size w)⟩
  case round =>
    obtain ⟨k, rfl, hk, ho, hg⟩ := hrel
    have HO2 := Lib.hid ho; have HG2 := Lib.hid hg
    clear ho hg HO
    by_cases hlt : k < m
    case neg =>
      obtain rfl : k = m := by omega
      rw [HE.out] at HO2
      go_wp2
      go_end0
      exact ⟨rfl, HO2.out, HG2.out⟩
    obtain ⟨q1, q2, hs⟩ := HSP.out k (by omega) (by omega)
    have HS := Lib.hid hs; clear hs
    obtain ⟨c1, c1', c1b, c1c, c1e⟩ := rec_cells HO2.out q1
    obtain ⟨c2, c2', c2b, c2c, c2e⟩ := rec_cells HO2.out q2
    have HL1 := Lib.hid (HLL.out k hk)
    generalize A[k] = X at c1 c1' c1b c1c c1e HS
    generalize B[k] = Y at c2 c2' c2b c2c c2e HS
    generalize Mg.swSt pre A M B post k = rs at HO2 HL1 HS
    generalize hN : Mg.swSt pre A M B post (k + 1) = rs' at HS
    have HN := Lib.hid hN
    clear hN q1 q2 HSP HLL HE
    obtain ⟨X1, X2, X3, X4, X5⟩ := X
    obtain ⟨Y1, Y2, Y3, Y4, Y5⟩ := Y
    have t1 : ((a : Int) + (k : Int)).toNat = a + k := by omega
    have t2 : ((b : Int) + (k : Int)).toNat = b + k := by omega
    have b1 : (0 : Int) ≤ (a : Int) + (k : Int) := by omega
    have b2 : (a : Int) + (k : Int) < (n : Int) := by omega
    have b3 : (0 : Int) ≤ (b : Int) + (k : Int) := by omega
    have b4 : (b : Int) + (k : Int) < (n : Int) := by omega
    have w1 : IntKind.i64.wrap ((a : Int) + (k : Int)) = (a : Int) + (k : Int) := IntWalk.i64_in _ (by omega)
    have w2 : IntKind.i64.wrap ((b : Int) + (k : Int)) = (b : Int) + (k : Int) := IntWalk.i64_in _ (by omega)
    have p1 : a + k < n := by omega
    have p2 : b + k < n := by omega
    have HO3 : Hid (wr.drew.ownsRow B0 34 5 (.slice (some ⟨g, 0, none⟩) n c) n (flat encG rs)) := HO2.out
    have d1 : wr.drew.cell? ⟨g, (a + k) * 5, none⟩ = some (.int .i64 X1) := c1
    have d1' : wr.drew.cell? ⟨g, (a + k) * 5 + 1, none⟩ = some (.int .i64 X2) := c1'
    have d1b : wr.drew.cell? ⟨g, (a + k) * 5 + 2, none⟩ = some (.int .i64 X3) := c1b
    have d1c : wr.drew.cell? ⟨g, (a + k) * 5 + 3, none⟩ = some (.int .i64 X4) := c1c
    have d1e : wr.drew.cell? ⟨g, (a + k) * 5 + 4, none⟩ = some (.int .i64 X5) := c1e
    have d2 : wr.drew.cell? ⟨g, (b + k) * 5, none⟩ = some (.int .i64 Y1) := c2
    have d2' : wr.drew.cell? ⟨g, (b + k) * 5 + 1, none⟩ = some (.int .i64 Y2) := c2'
    have d2b : wr.drew.cell? ⟨g, (b + k) * 5 + 2, none⟩ = some (.int .i64 Y3) := c2b
    have d2c : wr.drew.cell? ⟨g, (b + k) * 5 + 3, none⟩ = some (.int .i64 Y4) := c2c
    have d2e : wr.drew.cell? ⟨g, (b + k) * 5 + 4, none⟩ = some (.int .i64 Y5) := c2e
    clear c1 c1' c1b c1c c1e c2 c2' c2b c2c c2e
    go_wp2_with fail
    have HK1 := Lib.hid (putK HO2.out ((a + k)) (by rw [HL1.out]; exact p1))
    have HK2 := Lib.hid (putK2 HO2.out ((a + k)) ((b + k)) (Y1, Y2, Y3, Y4, Y5) (by rw [List.length_set, HL1.out]; exact p2))
    have HEQ := Lib.hid (HS.out)
    have HGX := Lib.hid HG2.out
    have HROW : Hid (GRow wr.drew B0 g c n (rs)) := HO2.out
    refine wp_with_act (fun fr hfr => ?_)
    have hsze : fr.tmps.size = 38 := by rw [hfr]; rfl
    have f0 : fr.eval (.tmp 0) = .slice (some ⟨g, 0, none⟩) n c := by rw [hfr]; rfl
    have f1 : fr.eval (.tmp 1) = .int .i64 (a : Int) := by rw [hfr]; rfl
    have f2 : fr.eval (.tmp 2) = .int .i64 (b : Int) := by rw [hfr]; rfl
    have f10 : fr.eval (.tmp 10) = .int .i64 (k : Int) := by rw [hfr]; rfl
    refine wp_region_held_drew (S := fun _ => True) (by kernel_rfl) trivial (fun _ => ?_)
    obtain ⟨SL, hSL⟩ : ∃ l : List (Nat × Nat), l = [(0, 16), (1, 17), (2, 18), (3, 19), (4, 20), (5, 21), (6, 22), (7, 23), (8, 24), (9, 25), (10, 26), (11, 27), (12, 28), (13, 29), (14, 30), (15, 31), (16, 32), (17, 33), (18, 34), (19, 35), (20, 36), (22, 37)] := ⟨_, rfl⟩
    obtain ⟨VL, hVL⟩ : ∃ l : List (Nat × Value), l = [(0, .slice (some ⟨g, 0, none⟩) n c), (1, .int .i64 (a : Int)), (2, .int .i64 (k : Int)), (3, .int .i64 ((a : Int) + (k : Int))), (4, .slice (some ⟨g, 0, none⟩) n c), (5, .int .i64 (b : Int)), (6, .int .i64 (k : Int)), (7, .int .i64 ((b : Int) + (k : Int))), (8, .slice (some ⟨g, 0, none⟩) n c), (9, .int .i64 (b : Int)), (10, .int .i64 (k : Int)), (11, .int .i64 ((b : Int) + (k : Int))), (12, .pointer (some ⟨g, (b + k) * 5, none⟩)), (13, .agg #[.int .i64 Y1, .int .i64 Y2, .int .i64 Y3, .int .i64 Y4, .int .i64 Y5]), (14, .slice (some ⟨g, 0, none⟩) n c), (15, .int .i64 (a : Int)), (16, .int .i64 (k : Int)), (17, .int .i64 ((a : Int) + (k : Int))), (18, .pointer (some ⟨g, (a + k) * 5, none⟩)), (19, .agg #[.int .i64 X1, .int .i64 X2, .int .i64 X3, .int .i64 X4, .int .i64 X5]), (20, .pointer (some ⟨g, (a + k) * 5, none⟩)), (22, .pointer (some ⟨g, (b + k) * 5, none⟩))] := ⟨_, rfl⟩
    have hN1 : (SL.map Prod.fst).Nodup := by rw [hSL]; decide
    have hN2 : (SL.map Prod.snd).Nodup := by rw [hSL]; decide
    have M0 := vm_of hSL 0 rfl
    have E16 := eval_of hN2 M0 hsze rfl
    have M1 := vm_of hSL 1 rfl
    have E17 := eval_of hN2 M1 hsze rfl
    have M2 := vm_of hSL 2 rfl
    have E18 := eval_of hN2 M2 hsze rfl
    have M3 := vm_of hSL 3 rfl
    have E19 := eval_of hN2 M3 hsze rfl
    have M4 := vm_of hSL 4 rfl
    have E20 := eval_of hN2 M4 hsze rfl
    have M5 := vm_of hSL 5 rfl
    have E21 := eval_of hN2 M5 hsze rfl
    have M6 := vm_of hSL 6 rfl
    have E22 := eval_of hN2 M6 hsze rfl
    have M7 := vm_of hSL 7 rfl
    have E23 := eval_of hN2 M7 hsze rfl
    have M8 := vm_of hSL 8 rfl
    have E24 := eval_of hN2 M8 hsze rfl
    have M9 := vm_of hSL 9 rfl
    have E25 := eval_of hN2 M9 hsze rfl
    have M10 := vm_of hSL 10 rfl
    have E26 := eval_of hN2 M10 hsze rfl
    have M11 := vm_of hSL 11 rfl
    have E27 := eval_of hN2 M11 hsze rfl
    have M12 := vm_of hSL 12 rfl
    have E28 := eval_of hN2 M12 hsze rfl
    have M13 := vm_of hSL 13 rfl
    have E29 := eval_of hN2 M13 hsze rfl
    have M14 := vm_of hSL 14 rfl
    have E30 := eval_of hN2 M14 hsze rfl
    have M15 := vm_of hSL 15 rfl
    have E31 := eval_of hN2 M15 hsze rfl
    have M16 := vm_of hSL 16 rfl
    have E32 := eval_of hN2 M16 hsze rfl
    have M17 := vm_of hSL 17 rfl
    have E33 := eval_of hN2 M17 hsze rfl
    have M18 := vm_of hSL 18 rfl
    have E34 := eval_of hN2 M18 hsze rfl
    have M19 := vm_of hSL 19 rfl
    have E35 := eval_of hN2 M19 hsze rfl
    have M20 := vm_of hSL 20 rfl
    have E36 := eval_of hN2 M20 hsze rfl
    have M22 := vm_of hSL 22 rfl
    have E37 := eval_of hN2 M22 hsze rfl
    have E0 := eval_ofB hSL f0 rfl
    have E1 := eval_ofB hSL f1 rfl
    have E2 := eval_ofB hSL f2 rfl
    have E10 := eval_ofB hSL f10 rfl
    have VM0 := vm_of hVL 0 rfl
    have VU0 := vu_of hVL 0 rfl rfl
    have VM1 := vm_of hVL 1 rfl
    have VU1 := vu_of hVL 1 rfl rfl
    have VM2 := vm_of hVL 2 rfl
    have VU2 := vu_of hVL 2 rfl rfl
    have VM3 := vm_of hVL 3 rfl
    have VU3 := vu_of hVL 3 rfl rfl
    have VM4 := vm_of hVL 4 rfl
    have VU4 := vu_of hVL 4 rfl rfl
    have VM5 := vm_of hVL 5 rfl
    have VU5 := vu_of hVL 5 rfl rfl
    have VM6 := vm_of hVL 6 rfl
    have VU6 := vu_of hVL 6 rfl rfl
    have VM7 := vm_of hVL 7 rfl
    have VU7 := vu_of hVL 7 rfl rfl
    have VM8 := vm_of hVL 8 rfl
    have VU8 := vu_of hVL 8 rfl rfl
    have VM9 := vm_of hVL 9 rfl
    have VU9 := vu_of hVL 9 rfl rfl
    have VM10 := vm_of hVL 10 rfl
    have VU10 := vu_of hVL 10 rfl rfl
    have VM11 := vm_of hVL 11 rfl
    have VU11 := vu_of hVL 11 rfl rfl
    have VM12 := vm_of hVL 12 rfl
    have VU12 := vu_of hVL 12 rfl rfl
    have VM13 := vm_of hVL 13 rfl
    have VU13 := vu_of hVL 13 rfl rfl
    have VM14 := vm_of hVL 14 rfl
    have VU14 := vu_of hVL 14 rfl rfl
    have VM15 := vm_of hVL 15 rfl
    have VU15 := vu_of hVL 15 rfl rfl
    have VM16 := vm_of hVL 16 rfl
    have VU16 := vu_of hVL 16 rfl rfl
    have VM17 := vm_of hVL 17 rfl
    have VU17 := vu_of hVL 17 rfl rfl
    have VM18 := vm_of hVL 18 rfl
    have VU18 := vu_of hVL 18 rfl rfl
    have VM19 := vm_of hVL 19 rfl
    have VU19 := vu_of hVL 19 rfl rfl
    have VM20 := vm_of hVL 20 rfl
    have VU20 := vu_of hVL 20 rfl rfl
    have VM22 := vm_of hVL 22 rfl
    have VU22 := vu_of hVL 22 rfl rfl
    have VN21 := vn_of hVL 21 rfl
    have VN23 := vn_of hVL 23 rfl
    have hste : fr = puts fr (x0 fr SL) SL := puts_x0 fr SL (by rw [hSL]; decide)
    clear hVL
    refine wpAnyH_inv2 (JV fr SL VL (KS2 (fun W => W = wr.drew) (fun W => GRow W B0 g c n ((rs).set (a + k) (Y1, Y2, Y3, Y4, Y5)) ∧ wr.drew.grownBy W (some g)) (fun W => GRow W B0 g c n (((rs).set (a + k) (Y1, Y2, Y3, Y4, Y5)).set (b + k) (X1, X2, X3, X4, X5)) ∧ wr.drew.grownBy W (some g)) 21 23)) (by kernel_rfl) ?stepse ?donee _ _ ?starte
    case starte => exact ⟨_, hste, VOK.start _ _ _, KS2.start rfl⟩
    case stepse =>
      clear hste hSL hfr
      refine ⟨?_, ?_, ?_, ?_, ?_, ?_, ?_, ?_, ?_, ?_, ?_, ?_, ?_, ?_, ?_, ?_, ?_, ?_, ?_, ?_, ?_, ?_, ?_, ?_, trivial⟩
      all_goals
        rintro LB ac w' hs hu haf hcl ⟨x, rfl, hv, hk⟩ K hK
      · have r0 := E0 x
        rw [if_pos (by rfl)]
        refine wp_val (v := .slice (some ⟨g, 0, none⟩) n c) ?_ (hK _ _ (jv_set (by rw [hs]; decide) (x := upd x 0 _) (puts_set SL fr hN1 hN2 M0) (hv.val 0 _ VU0) (hk.quiet 0 (by decide) (by decide))))
        generalize (puts fr x SL).eval = ρ at r0 ⊢; go_simp
      · have r1 := E1 x
        rw [if_pos (by rfl)]
        refine wp_val (v := .int .i64 (a : Int)) ?_ (hK _ _ (jv_set (by rw [hs]; decide) (x := upd x 1 _) (puts_set SL fr hN1 hN2 M1) (hv.val 1 _ VU1) (hk.quiet 1 (by decide) (by decide))))
        generalize (puts fr x SL).eval = ρ at r1 ⊢; go_simp
      · have r10 := E10 x
        rw [if_pos (by rfl)]
        refine wp_val (v := .int .i64 (k : Int)) ?_ (hK _ _ (jv_set (by rw [hs]; decide) (x := upd x 2 _) (puts_set SL fr hN1 hN2 M2) (hv.val 2 _ VU2) (hk.quiet 2 (by decide) (by decide))))
        generalize (puts fr x SL).eval = ρ at r10 ⊢; go_simp
      · have r17 := (E17 x).trans (hv _ VM1 (haf ⟨1, .data⟩ (by simp) rfl))
        have r18 := (E18 x).trans (hv _ VM2 (haf ⟨2, .data⟩ (by simp) rfl))
        rw [if_pos (by rfl)]
        refine wp_val (v := .int .i64 ((a : Int) + (k : Int))) ?_ (hK _ _ (jv_set (by rw [hs]; decide) (x := upd x 3 _) (puts_set SL fr hN1 hN2 M3) (hv.val 3 _ VU3) (hk.quiet 3 (by decide) (by decide))))
        generalize (puts fr x SL).eval = ρ at r17 r18 ⊢; go_simp
      · have r0 := E0 x
        rw [if_pos (by rfl)]
        refine wp_val (v := .slice (some ⟨g, 0, none⟩) n c) ?_ (hK _ _ (jv_set (by rw [hs]; decide) (x := upd x 4 _) (puts_set SL fr hN1 hN2 M4) (hv.val 4 _ VU4) (hk.quiet 4 (by decide) (by decide))))
        generalize (puts fr x SL).eval = ρ at r0 ⊢; go_simp
      · have r2 := E2 x
        rw [if_pos (by rfl)]
        refine wp_val (v := .int .i64 (b : Int)) ?_ (hK _ _ (jv_set (by rw [hs]; decide) (x := upd x 5 _) (puts_set SL fr hN1 hN2 M5) (hv.val 5 _ VU5) (hk.quiet 5 (by decide) (by decide))))
        generalize (puts fr x SL).eval = ρ at r2 ⊢; go_simp
      · have r10 := E10 x
        rw [if_pos (by rfl)]
        refine wp_val (v := .int .i64 (k : Int)) ?_ (hK _ _ (jv_set (by rw [hs]; decide) (x := upd x 6 _) (puts_set SL fr hN1 hN2 M6) (hv.val 6 _ VU6) (hk.quiet 6 (by decide) (by decide))))
        generalize (puts fr x SL).eval = ρ at r10 ⊢; go_simp
      · have r21 := (E21 x).trans (hv _ VM5 (haf ⟨5, .data⟩ (by simp) rfl))
        have r22 := (E22 x).trans (hv _ VM6 (haf ⟨6, .data⟩ (by simp) rfl))
        rw [if_pos (by rfl)]
        refine wp_val (v := .int .i64 ((b : Int) + (k : Int))) ?_ (hK _ _ (jv_set (by rw [hs]; decide) (x := upd x 7 _) (puts_set SL fr hN1 hN2 M7) (hv.val 7 _ VU7) (hk.quiet 7 (by decide) (by decide))))
        generalize (puts fr x SL).eval = ρ at r21 r22 ⊢; go_simp
      · have r0 := E0 x
        rw [if_pos (by rfl)]
        refine wp_val (v := .slice (some ⟨g, 0, none⟩) n c) ?_ (hK _ _ (jv_set (by rw [hs]; decide) (x := upd x 8 _) (puts_set SL fr hN1 hN2 M8) (hv.val 8 _ VU8) (hk.quiet 8 (by decide) (by decide))))
        generalize (puts fr x SL).eval = ρ at r0 ⊢; go_simp
      · have r2 := E2 x
        rw [if_pos (by rfl)]
        refine wp_val (v := .int .i64 (b : Int)) ?_ (hK _ _ (jv_set (by rw [hs]; decide) (x := upd x 9 _) (puts_set SL fr hN1 hN2 M9) (hv.val 9 _ VU9) (hk.quiet 9 (by decide) (by decide))))
        generalize (puts fr x SL).eval = ρ at r2 ⊢; go_simp
      · have r10 := E10 x
        rw [if_pos (by rfl)]
        refine wp_val (v := .int .i64 (k : Int)) ?_ (hK _ _ (jv_set (by rw [hs]; decide) (x := upd x 10 _) (puts_set SL fr hN1 hN2 M10) (hv.val 10 _ VU10) (hk.quiet 10 (by decide) (by decide))))
        generalize (puts fr x SL).eval = ρ at r10 ⊢; go_simp
      · have r25 := (E25 x).trans (hv _ VM9 (haf ⟨9, .data⟩ (by simp) rfl))
        have r26 := (E26 x).trans (hv _ VM10 (haf ⟨10, .data⟩ (by simp) rfl))
        rw [if_pos (by rfl)]
        refine wp_val (v := .int .i64 ((b : Int) + (k : Int))) ?_ (hK _ _ (jv_set (by rw [hs]; decide) (x := upd x 11 _) (puts_set SL fr hN1 hN2 M11) (hv.val 11 _ VU11) (hk.quiet 11 (by decide) (by decide))))
        generalize (puts fr x SL).eval = ρ at r25 r26 ⊢; go_simp
      · have r24 := (E24 x).trans (hv _ VM8 (haf ⟨8, .data⟩ (by simp) rfl))
        have r27 := (E27 x).trans (hv _ VM11 (haf ⟨11, .data⟩ (by simp) rfl))
        rw [if_pos (by rfl)]
        refine wp_val (v := .pointer (some ⟨g, (b + k) * 5, none⟩)) ?_ (hK _ _ (jv_set (by rw [hs]; decide) (x := upd x 12 _) (puts_set SL fr hN1 hN2 M12) (hv.val 12 _ VU12) (hk.quiet 12 (by decide) (by decide))))
        generalize (puts fr x SL).eval = ρ at r24 r27 ⊢; go_simp
      · have r28 := (E28 x).trans (hv _ VM12 (haf ⟨12, .data⟩ (by simp) rfl))
        have hlast : LB.getD 21 false = false := by
          cases h : LB.getD 21 false with
          | false => rfl
          | true => exact absurd (hcl 21 _ rfl h ⟨13, .data⟩ (by simp) rfl) (by rw [hu]; decide)
        have s0 := hk.1 hlast
        subst s0
        rw [if_pos (by rfl)]
        refine wp_val (v := .agg #[.int .i64 Y1, .int .i64 Y2, .int .i64 Y3, .int .i64 Y4, .int .i64 Y5]) ?_ (hK _ _ (jv_set (by rw [hs]; decide) (x := upd x 13 _) (puts_set SL fr hN1 hN2 M13) (hv.val 13 _ VU13) (hk.quiet 13 (by decide) (by decide))))
        generalize (puts fr x SL).eval = ρ at r28 ⊢; go_simp
      · have r0 := E0 x
        rw [if_pos (by rfl)]
        refine wp_val (v := .slice (some ⟨g, 0, none⟩) n c) ?_ (hK _ _ (jv_set (by rw [hs]; decide) (x := upd x 14 _) (puts_set SL fr hN1 hN2 M14) (hv.val 14 _ VU14) (hk.quiet 14 (by decide) (by decide))))
        generalize (puts fr x SL).eval = ρ at r0 ⊢; go_simp
      · have r1 := E1 x
        rw [if_pos (by rfl)]
        refine wp_val (v := .int .i64 (a : Int)) ?_ (hK _ _ (jv_set (by rw [hs]; decide) (x := upd x 15 _) (puts_set SL fr hN1 hN2 M15) (hv.val 15 _ VU15) (hk.quiet 15 (by decide) (by decide))))
        generalize (puts fr x SL).eval = ρ at r1 ⊢; go_simp
      · have r10 := E10 x
        rw [if_pos (by rfl)]
        refine wp_val (v := .int .i64 (k : Int)) ?_ (hK _ _ (jv_set (by rw [hs]; decide) (x := upd x 16 _) (puts_set SL fr hN1 hN2 M16) (hv.val 16 _ VU16) (hk.quiet 16 (by decide) (by decide))))
        generalize (puts fr x SL).eval = ρ at r10 ⊢; go_simp
      · have r31 := (E31 x).trans (hv _ VM15 (haf ⟨15, .data⟩ (by simp) rfl))
        have r32 := (E32 x).trans (hv _ VM16 (haf ⟨16, .data⟩ (by simp) rfl))
        rw [if_pos (by rfl)]
        refine wp_val (v := .int .i64 ((a : Int) + (k : Int))) ?_ (hK _ _ (jv_set (by rw [hs]; decide) (x := upd x 17 _) (puts_set SL fr hN1 hN2 M17) (hv.val 17 _ VU17) (hk.quiet 17 (by decide) (by decide))))
        generalize (puts fr x SL).eval = ρ at r31 r32 ⊢; go_simp
      · have r30 := (E30 x).trans (hv _ VM14 (haf ⟨14, .data⟩ (by simp) rfl))
        have r33 := (E33 x).trans (hv _ VM17 (haf ⟨17, .data⟩ (by simp) rfl))
        rw [if_pos (by rfl)]
        refine wp_val (v := .pointer (some ⟨g, (a + k) * 5, none⟩)) ?_ (hK _ _ (jv_set (by rw [hs]; decide) (x := upd x 18 _) (puts_set SL fr hN1 hN2 M18) (hv.val 18 _ VU18) (hk.quiet 18 (by decide) (by decide))))
        generalize (puts fr x SL).eval = ρ at r30 r33 ⊢; go_simp
      · have r34 := (E34 x).trans (hv _ VM18 (haf ⟨18, .data⟩ (by simp) rfl))
        have hlast : LB.getD 21 false = false := by
          cases h : LB.getD 21 false with
          | false => rfl
          | true => exact absurd (hcl 21 _ rfl h ⟨19, .phase⟩ (by simp) rfl) (by rw [hu]; decide)
        have s0 := hk.1 hlast
        subst s0
        rw [if_pos (by rfl)]
        refine wp_val (v := .agg #[.int .i64 X1, .int .i64 X2, .int .i64 X3, .int .i64 X4, .int .i64 X5]) ?_ (hK _ _ (jv_set (by rw [hs]; decide) (x := upd x 19 _) (puts_set SL fr hN1 hN2 M19) (hv.val 19 _ VU19) (hk.quiet 19 (by decide) (by decide))))
        generalize (puts fr x SL).eval = ρ at r34 ⊢; go_simp
      · have r16 := (E16 x).trans (hv _ VM0 (haf ⟨0, .data⟩ (by simp) rfl))
        have r19 := (E19 x).trans (hv _ VM3 (haf ⟨3, .data⟩ (by simp) rfl))
        rw [if_pos (by rfl)]
        refine wp_val (v := .pointer (some ⟨g, (a + k) * 5, none⟩)) ?_ (hK _ _ (jv_set (by rw [hs]; decide) (x := upd x 20 _) (puts_set SL fr hN1 hN2 M20) (hv.val 20 _ VU20) (hk.quiet 20 (by decide) (by decide))))
        generalize (puts fr x SL).eval = ρ at r16 r19 ⊢; go_simp
      · have r36 := (E36 x).trans (hv _ VM20 (haf ⟨20, .data⟩ (by simp) rfl))
        have r29 := (E29 x).trans (hv _ VM13 (haf ⟨13, .data⟩ (by simp) rfl))
        rw [if_pos (by rfl)]
        have hj : LB.getD 23 false = false := by
          cases h : LB.getD 23 false with
          | false => rfl
          | true => exact absurd (hcl 23 _ rfl h ⟨21, .chain⟩ (by simp) rfl) (by rw [hu]; decide)
        have s0 := hk.1 hu
        subst s0
        refine wp_putX slGrp _ _ rfl encG encG_len encG_one (a + k) (Y1, Y2, Y3, Y4, Y5) r36 (by rw [r29]; rfl) HROW.out HK1.out.1 HK1.out.2 (fun w2 ho hg => ?_)
        exact hK _ _ (jv_set (by rw [hs]; decide) (x := x) rfl (hv.none 21 VN21) (hk.first (by decide) hj ⟨ho, hg⟩))
      · have r20 := (E20 x).trans (hv _ VM4 (haf ⟨4, .data⟩ (by simp) rfl))
        have r23 := (E23 x).trans (hv _ VM7 (haf ⟨7, .data⟩ (by simp) rfl))
        rw [if_pos (by rfl)]
        refine wp_val (v := .pointer (some ⟨g, (b + k) * 5, none⟩)) ?_ (hK _ _ (jv_set (by rw [hs]; decide) (x := upd x 22 _) (puts_set SL fr hN1 hN2 M22) (hv.val 22 _ VU22) (hk.quiet 22 (by decide) (by decide))))
        generalize (puts fr x SL).eval = ρ at r20 r23 ⊢; go_simp
      · have r37 := (E37 x).trans (hv _ VM22 (haf ⟨22, .data⟩ (by simp) rfl))
        have r35 := (E35 x).trans (hv _ VM19 (haf ⟨19, .data⟩ (by simp) rfl))
        rw [if_pos (by rfl)]
        have hi : LB.getD 21 false = true := haf ⟨21, .chain⟩ (by simp) rfl
        refine wp_putX slGrp _ _ rfl encG encG_len encG_one (b + k) (X1, X2, X3, X4, X5) r37 (by rw [r35]; rfl) (hk.2.1 hi hu).1 HK2.out.1 HK2.out.2 (fun w2 ho hg => ?_)
        exact hK _ _ (jv_set (by rw [hs]; decide) (x := x) rfl (hv.none 23 VN23) (hk.second (by decide) hi ⟨ho, grown_trans (hk.2.1 hi hu).2 hg⟩))
    case donee =>
      rintro LB ac w2 hall ⟨x, rfl, hv, hk⟩
      have v0 : x 0 = .slice (some ⟨g, 0, none⟩) n c := hv _ VM0 (hall 0 (by decide))
      have v1 : x 1 = .int .i64 (a : Int) := hv _ VM1 (hall 1 (by decide))
      have v2 : x 2 = .int .i64 (k : Int) := hv _ VM2 (hall 2 (by decide))
      have v3 : x 3 = .int .i64 ((a : Int) + (k : Int)) := hv _ VM3 (hall 3 (by decide))
      have v4 : x 4 = .slice (some ⟨g, 0, none⟩) n c := hv _ VM4 (hall 4 (by decide))
      have v5 : x 5 = .int .i64 (b : Int) := hv _ VM5 (hall 5 (by decide))
      have v6 : x 6 = .int .i64 (k : Int) := hv _ VM6 (hall 6 (by decide))
      have v7 : x 7 = .int .i64 ((b : Int) + (k : Int)) := hv _ VM7 (hall 7 (by decide))
      have v8 : x 8 = .slice (some ⟨g, 0, none⟩) n c := hv _ VM8 (hall 8 (by decide))
      have v9 : x 9 = .int .i64 (b : Int) := hv _ VM9 (hall 9 (by decide))
      have v10 : x 10 = .int .i64 (k : Int) := hv _ VM10 (hall 10 (by decide))
      have v11 : x 11 = .int .i64 ((b : Int) + (k : Int)) := hv _ VM11 (hall 11 (by decide))
      have v12 : x 12 = .pointer (some ⟨g, (b + k) * 5, none⟩) := hv _ VM12 (hall 12 (by decide))
      have v13 : x 13 = .agg #[.int .i64 Y1, .int .i64 Y2, .int .i64 Y3, .int .i64 Y4, .int .i64 Y5] := hv _ VM13 (hall 13 (by decide))
      have v14 : x 14 = .slice (some ⟨g, 0, none⟩) n c := hv _ VM14 (hall 14 (by decide))
      have v15 : x 15 = .int .i64 (a : Int) := hv _ VM15 (hall 15 (by decide))
      have v16 : x 16 = .int .i64 (k : Int) := hv _ VM16 (hall 16 (by decide))
      have v17 : x 17 = .int .i64 ((a : Int) + (k : Int)) := hv _ VM17 (hall 17 (by decide))
      have v18 : x 18 = .pointer (some ⟨g, (a + k) * 5, none⟩) := hv _ VM18 (hall 18 (by decide))
      have v19 : x 19 = .agg #[.int .i64 X1, .int .i64 X2, .int .i64 X3, .int .i64 X4, .int .i64 X5] := hv _ VM19 (hall 19 (by decide))
      have v20 : x 20 = .pointer (some ⟨g, (a + k) * 5, none⟩) := hv _ VM20 (hall 20 (by decide))
      have v22 : x 22 = .pointer (some ⟨g, (b + k) * 5, none⟩) := hv _ VM22 (hall 22 (by decide))
      obtain ⟨ho9, hg9⟩ := hk.2.2 (hall 23 (by decide))
      rw [hSL]
      simp only [puts]
      clear M0 E16 M1 E17 M2 E18 M3 E19 M4 E20 M5 E21 M6 E22 M7 E23 M8 E24 M9 E25 M10 E26 M11 E27 M12 E28 M13 E29 M14 E30 M15 E31 M16 E32 M17 E33 M18 E34 M19 E35 M20 E36 M22 E37 E0 E1 E2 E10 f0 f1 f2 f10 VM0 VU0 VM1 VU1 VM2 VU2 VM3 VU3 VM4 VU4 VM5 VU5 VM6 VU6 VM7 VU7 VM8 VU8 VM9 VU9 VM10 VU10 VM11 VU11 VM12 VU12 VM13 VU13 VM14 VU14 VM15 VU15 VM16 VU16 VM17 VU17 VM18 VU18 VM19 VU19 VM20 VU20 VM22 VU22 VN21 VN23 hN1 hN2 hste hsze
      clear hall hv v0 v1 v2 v3 v4 v5 v6 v7 v8 v9 v10 v11 v12 v13 v14 v15 v16 v17 v18 v19 v20 v22
      rw [hfr]
      simp only [Act.put, List.setIfInBounds_toArray, List.set_cons_succ, List.set_cons_zero]
      clear hfr hSL
      rw [HEQ.out] at ho9
      have HO9 := Lib.hid ho9
      have HG9 := Lib.hid (grown_trans HGX.out (grown_trans (grown_of_below (Below.refl _ _).drew) hg9))
      clear ho9 hg9 hk
      rw [← HN.out] at HO9
      clear d1 d1' d1b d1c d1e d2 d2' d2b d2c d2e HO3 HO2 t1 t2
      go_wp2
      go_roundw
      case rel => exact ⟨k + 1, by go_num, by omega, HO9.out, HG9.out⟩
      case measure => simp [intOf] <;> omega

end Go.Proofs.Ytmgkdokaaoeobaa.GG

namespace Go.Proofs.Ytmgkdokaaoeobaa.GG
open Go.RowKit Go.Sort
set_option linter.unusedVariables false

/-- Insertion into an ascending list, by any order. -/
theorem insL_start {lt : G5 → G5 → Bool} {zs : List (G5)} {i : Nat} (hi : i < zs.length) : Mg.srt lt (zs.take i) ++ zs.drop i = Mg.insSt (Mg.srt lt (zs.take i)) (zs.getD i (0, 0, 0, 0, 0)) i (zs.drop (i + 1)) := by
  have hl : (Mg.srt lt (zs.take i)).length = i := by rw [Mg.srt_length, List.length_take]; omega
  have h1 := Mg.insSt_top (Mg.srt lt (zs.take i)) (zs.getD i (0, 0, 0, 0, 0)) (zs.drop (i + 1))
  rw [hl] at h1
  rw [h1, List.drop_eq_getElem_cons hi, List.getD_eq_getElem?_getD, List.getElem?_eq_getElem hi]
  rfl
theorem insL_end {lt : G5 → G5 → Bool} (S : Mg.SW lt) {l : List (G5)} {x : G5} {k : Nat} {R : List (G5)} (hk : k ≤ l.length) (hd : ∀ b ∈ (Mg.srt lt l).drop k, lt x b = true) (hs : 0 < k → lt x ((Mg.srt lt l).getD (k - 1) (0, 0, 0, 0, 0)) = false) : Mg.insSt (Mg.srt lt l) x k R = Mg.srt lt (l ++ [x]) ++ R := by
  have hl : (Mg.srt lt l).length = l.length := Mg.srt_length l
  refine Mg.insSt_srt S (lt := lt) (by omega) hd (fun h0 => ?_)
  have h1 := hs h0
  rw [List.getD_eq_getElem?_getD, List.getElem?_eq_getElem (by omega)] at h1
  exact h1
theorem srtL_start (lt : G5 → G5 → Bool) (zs : List (G5)) : zs = Mg.srt lt (zs.take 1) ++ zs.drop 1 := by
  cases zs with
  | nil => rfl
  | cons a t => simp [Mg.srt_one]

theorem mid_at {α : Type} {pre L post : List α} {a k : Nat} {x : α} (ha : pre.length = a) (h : L[k]? = some x) : (pre ++ L ++ post)[a + k]? = some x := by
  have hk : k < L.length := (List.getElem?_eq_some_iff.1 h).1
  rw [List.append_assoc, List.getElem?_append_right (by omega), show a + k - pre.length = k by omega, List.getElem?_append_left hk]
  exact h
theorem mid_set {α : Type} {pre L post : List α} {a k : Nat} {x : α} (ha : pre.length = a) (hk : k < L.length) : (pre ++ L ++ post).set (a + k) x = pre ++ L.set k x ++ post := by
  rw [List.append_assoc, List.set_append, if_neg (by omega), show a + k - pre.length = k by omega, List.set_append, if_pos hk, List.append_assoc]

set_option maxRecDepth 100000 in
set_option maxHeartbeats 8000000 in
theorem insertionSort_any {I : World → Prop} {lt : G5 → G5 → Bool} (S : Mg.SW lt) {cv : Value} (B0 g c n : Nat) (pre L post : List (G5)) (a b : Nat) (w : World) (ha : pre.length = a) (hb : a + L.length = b) (hn : (pre ++ L ++ post).length = n) (hn2 : n ≤ 1000) (hI : I w) (HCV : CmpIs I g lt cv)
    (h : w.ownsRow B0 34 5 (.slice (some ⟨g, 0, none⟩) n c) n (flat encG (pre ++ L ++ post))) :
    Calls Try.prog 41 #[.slice (some ⟨g, 0, none⟩) n c, .int .i64 a, .int .i64 b, cv] w fun e w' => e = .returned (.tuple #[]) ∧
      w'.ownsRow B0 34 5 (.slice (some ⟨g, 0, none⟩) n c) n (flat encG (pre ++ Mg.srt lt L ++ post)) ∧ w.grownBy w' (some g) := by
  have HS0 := Lib.hid (srtL_start lt L)
  have HO := Lib.hid h
  have hbn : b + post.length = n := by rw [← hn]; simp only [List.length_append]; omega
  clear h hn
  have HLEN := Lib.hid ha
  obtain ⟨hIg, G, cp, rfl, hcall, hcmp⟩ := HCV
  have HCM := Lib.hid hcmp; have HIG := Lib.hid (fun w' => hIg w w' hI)
  clear hcmp hIg
  go_enter Try.func41, Try.ntmps41
  go_wp2
  go_loopw [8] (fun v wr => ∃ i : Nat, v = .int .i64 ((a : Int) + (i : Int)) ∧ 1 ≤ i ∧ (i ≤ L.length ∨ i = 1) ∧ wr.ownsRow B0 34 5 (.slice (some ⟨g, 0, none⟩) n c) n (flat encG (pre ++ (Mg.srt lt (L.take i) ++ L.drop i) ++ post)) ∧ w.grownBy wr (some g)) (fun v _ => a + L.length + 1 - (intOf v).toNat)
  case atStart => exact ⟨1, by go_num, by omega, .inr rfl, by rw [← HS0.out]; exact HO.out, grown_of_below (Below.refl w.heap.size w)⟩
  case round =>
    obtain ⟨i, rfl, hi1, hi2, hown, hg⟩ := hrel
    have HO2 := Lib.hid hown; have HG2 := Lib.hid hg
    clear hown hg HO
    by_cases hlt : i < L.length
    case neg =>
      have HO3 := Lib.hid (show wr.ownsRow B0 34 5 (.slice (some ⟨g, 0, none⟩) n c) n (flat encG (pre ++ Mg.srt lt L ++ post)) from by
        have := HO2.out
        rw [List.take_of_length_le (by omega), List.drop_of_length_le (by omega), List.append_nil] at this
        exact this)
      have h3 : decide ((a : Int) + (i : Int) < (b : Int)) = false := decide_eq_false (by omega)
      go_wp2
      go_end0
      exact ⟨rfl, HO3.out, HG2.out⟩
    have HI0 := Lib.hid (insL_start (lt := lt) hlt)
    have HAL : Hid ((Mg.srt lt (L.take i)).length = i) := by show _ = _; rw [Mg.srt_length, List.length_take]; omega
    have HEND := Lib.hid (fun (k : Nat) (hk : k ≤ i) (hd : ∀ b ∈ (Mg.srt lt (L.take i)).drop k, lt (L.getD i (0, 0, 0, 0, 0)) b = true) (hs : 0 < k → lt (L.getD i (0, 0, 0, 0, 0)) ((Mg.srt lt (L.take i)).getD (k - 1) (0, 0, 0, 0, 0)) = false) =>
      (insL_end S (R := L.drop (i + 1)) (by rw [List.length_take]; omega) hd hs).trans (by rw [take_snocR hlt]))
    rw [HI0.out] at HO2
    clear HI0
    generalize Mg.srt lt (L.take i) = A at HO2 HAL HEND
    generalize L.getD i (0, 0, 0, 0, 0) = X at HO2 HEND
    have HRL : Hid (∀ k, k ≤ i → (Mg.insSt A X k (L.drop (i + 1))).length = L.length) := fun k hk => by
      rw [Mg.insSt_len (by rw [HAL.out]; exact hk), HAL.out, List.length_drop]; omega
    generalize hR : L.drop (i + 1) = R at HO2 HEND HRL
    have HR := Lib.hid hR; clear hR
    have h3 : decide ((a : Int) + (i : Int) < (b : Int)) = true := decide_eq_true (by omega)
    have hile : (a : Int) + (i : Int) + 1 ≤ 9223372036854775807 := by omega
    obtain ⟨wo, rfl⟩ : ∃ wo : World, wo = wr := ⟨_, rfl⟩
    go_wp2
    go_loopw [9] (fun v wq => ∃ k : Nat, v = .int .i64 ((a : Int) + (k : Int)) ∧ k ≤ i ∧ wq.ownsRow B0 34 5 (.slice (some ⟨g, 0, none⟩) n c) n (flat encG (pre ++ Mg.insSt A X k R ++ post)) ∧ (∀ b ∈ A.drop k, lt X b = true) ∧ w.grownBy wq (some g)) (fun v _ => (intOf v).toNat)
    case atStart => exact ⟨i, rfl, by omega, HO2.out, by rw [List.drop_of_length_le (by rw [HAL.out]; omega)]; simp, HG2.out⟩
    case round =>
      obtain ⟨k, rfl, hk, ho, hd, hg⟩ := hrel
      have HO4 := Lib.hid ho; have HG4 := Lib.hid hg; have HD := Lib.hid hd
      clear ho hg hd HO2 HG2
      by_cases hk0 : 0 < k
      case neg =>
        obtain rfl : k = 0 := by omega
        have HE := Lib.hid (HEND.out 0 (by omega) HD.out (fun h => absurd h (by omega)))
        rw [HE.out] at HO4
        have h4 : decide ((a : Int) < (a : Int) + ((0 : Nat) : Int)) = false := decide_eq_false (by omega)
        rw [show (a : Int) + ((0 : Nat) : Int) = (a : Int) by omega]
        go_wp2_with fail
        go_quiet (fail)
        go_wp2
        go_roundw
        case rel => exact ⟨i + 1, by go_num, by omega, by omega, by rw [HR.out]; exact HO4.out, grown_trans HG4.out (grown_of_below (below_drewN (Below.refl _ _) _))⟩
        case measure => simp [intOf] <;> omega
      obtain ⟨m, rfl⟩ : ∃ m, k = m + 1 := ⟨k - 1, by omega⟩
      have hm : m < A.length := by rw [HAL.out]; omega
      obtain ⟨q1, q2⟩ := insR_at (R := R) (x := X) hm
      obtain ⟨c1, c1', c1b, c1c, c1e⟩ := rec_cells HO4.out (mid_at (post := post) ha q1)
      obtain ⟨c2, c2', c2b, c2c, c2e⟩ := rec_cells HO4.out (mid_at (post := post) ha q2)
      have HDR : Hid (A.drop m = A.getD m (0, 0, 0, 0, 0) :: A.drop (m + 1)) := by
        show _ = _
        rw [List.drop_eq_getElem_cons hm, List.getD_eq_getElem?_getD, List.getElem?_eq_getElem hm]; rfl
      have HST := Lib.hid (fun (y : G5) (hy : A.getD m (0, 0, 0, 0, 0) = y) => insR_stepD (R := R) (x := X) hm hy)
      have HE1 := Lib.hid (fun hs => HEND.out (m + 1) hk HD.out hs)
      have HL1 := Lib.hid (HRL.out (m + 1) hk)
      obtain ⟨Y, hY⟩ : ∃ Y, A.getD m (0, 0, 0, 0, 0) = Y := ⟨_, rfl⟩
      rw [hY] at c1 c1' c1b c1c c1e HDR
      have HY := Lib.hid hY
      clear hY hm q1 q2
      have HCK := Lib.hid (fun W hW => HCM.out X Y W (HIG.out W hW))
      have hcall := hcall (#[.agg #[.int .i64 X.1, .int .i64 X.2.1, .int .i64 X.2.2.1, .int .i64 X.2.2.2.1, .int .i64 X.2.2.2.2], .agg #[.int .i64 Y.1, .int .i64 Y.2.1, .int .i64 Y.2.2.1, .int .i64 Y.2.2.2.1, .int .i64 Y.2.2.2.2]] ++ cp)
      obtain ⟨X1, X2, X3, X4, X5⟩ := X
      obtain ⟨Y1, Y2, Y3, Y4, Y5⟩ := Y
      have hcast : (a : Int) + ((m + 1 : Nat) : Int) = (a : Int) + (m : Int) + 1 := by omega
      have t0 : ((a : Int) + (m : Int)).toNat = a + m := by omega
      have t1 : ((a : Int) + (m : Int) + 1).toNat = a + (m + 1) := by omega
      have b0 : (0 : Int) ≤ (a : Int) + (m : Int) := by omega
      have b1 : (a : Int) + (m : Int) < (n : Int) := by omega
      have b2 : (a : Int) + (m : Int) + 1 < (n : Int) := by omega
      have b3 : (0 : Int) ≤ (a : Int) + (m : Int) + 1 := by omega
      have w1 : IntKind.i64.wrap ((a : Int) + (m : Int)) = (a : Int) + (m : Int) := IntWalk.i64_in _ (by omega)
      have h5 : decide ((a : Int) < (a : Int) + (m : Int) + 1) = true := decide_eq_true (by omega)
      rw [hcast]
      go_wp2_with fail
      go_still_tail 14, (by kernel_rfl)
      go_wp2_with fail
      refine (HCK.out _ (grown_trans HG4.out (grown_of_below (Below.refl _ _).drew))).mono ?_
      rintro e w5 ⟨⟨nn, rfl, hnn⟩, hbc⟩
      have hbw : Below wr.heap.size wr w5 := (Below.refl _ _).drew.trans hbc
      have HO5 := Lib.hid (own_below HO4.out (Nat.le_refl _) hbw)
      have HG5 := Lib.hid (grown_trans HG4.out (grown_of_below hbw))
      clear hbc hbw HO4 HG4 HCK c1 c1' c1b c1c c1e c2 c2' c2b c2c c2e
      cases hyx : lt (X1, X2, X3, X4, X5) (Y1, Y2, Y3, Y4, Y5)
      · have hz : decide (nn < 0) = false := by rw [hnn]; exact hyx
        have HE := Lib.hid (HE1.out (fun _ => by rw [Nat.add_sub_cancel, HY.out]; exact hyx))
        rw [HE.out] at HO5
        clear hnn
        go_wp2
        go_roundw
        case rel => exact ⟨i + 1, by go_num, by omega, by omega, by rw [HR.out]; exact HO5.out, HG5.out⟩
        case measure => simp [intOf] <;> omega
      · have hz : decide (nn < 0) = true := by rw [hnn]; exact hyx
        have HYX := Lib.hid hyx
        clear hnn hyx
        have hml : m + 1 < (Mg.insSt A (X1, X2, X3, X4, X5) (m + 1) R).length := by rw [HL1.out]; omega
        have hq1 : (pre ++ Mg.insSt A (X1, X2, X3, X4, X5) (m + 1) R ++ post).length = n := by simp only [List.length_append]; rw [HL1.out]; omega
        have hmA : m < A.length := by rw [HAL.out]; omega
        have hrs : ((pre ++ Mg.insSt A (X1, X2, X3, X4, X5) (m + 1) R ++ post).set (a + (m + 1)) (Y1, Y2, Y3, Y4, Y5)).set (a + m) (X1, X2, X3, X4, X5) = pre ++ Mg.insSt A (X1, X2, X3, X4, X5) m R ++ post := by
          rw [mid_set ha hml, mid_set ha (by rw [List.length_set]; omega), List.set_comm _ _ (by omega), HST.out _ HY.out]
        obtain ⟨g1, g2⟩ := insR_at (R := R) (x := (X1, X2, X3, X4, X5)) hmA
        rw [HY.out] at g1
        obtain ⟨d1, d1', d1b, d1c, d1e⟩ := rec_cells HO5.out (mid_at (post := post) ha g1)
        obtain ⟨d2, d2', d2b, d2c, d2e⟩ := rec_cells HO5.out (mid_at (post := post) ha g2)
        have d1 : w5.drew.cell? ⟨g, (a + m) * 5, none⟩ = some (.int .i64 Y1) := d1
        have d1' : w5.drew.cell? ⟨g, (a + m) * 5 + 1, none⟩ = some (.int .i64 Y2) := d1'
        have d1b : w5.drew.cell? ⟨g, (a + m) * 5 + 2, none⟩ = some (.int .i64 Y3) := d1b
        have d1c : w5.drew.cell? ⟨g, (a + m) * 5 + 3, none⟩ = some (.int .i64 Y4) := d1c
        have d1e : w5.drew.cell? ⟨g, (a + m) * 5 + 4, none⟩ = some (.int .i64 Y5) := d1e
        have d2 : w5.drew.cell? ⟨g, (a + (m + 1)) * 5, none⟩ = some (.int .i64 X1) := d2
        have d2' : w5.drew.cell? ⟨g, (a + (m + 1)) * 5 + 1, none⟩ = some (.int .i64 X2) := d2'
        have d2b : w5.drew.cell? ⟨g, (a + (m + 1)) * 5 + 2, none⟩ = some (.int .i64 X3) := d2b
        have d2c : w5.drew.cell? ⟨g, (a + (m + 1)) * 5 + 3, none⟩ = some (.int .i64 X4) := d2c
        have d2e : w5.drew.cell? ⟨g, (a + (m + 1)) * 5 + 4, none⟩ = some (.int .i64 X5) := d2e
        have HK1 := Lib.hid (putK HO5.out ((a + (m + 1))) (by rw [hq1]; omega))
        have HK2 := Lib.hid (putK2 HO5.out ((a + (m + 1))) ((a + m)) (Y1, Y2, Y3, Y4, Y5) (by rw [List.length_set, hq1]; omega))
        have HEQ := Lib.hid (hrs)
        have HGX := Lib.hid HG5.out
        clear hrs hml hq1 hmA g1 g2 HST HE1 HEND HL1
        go_wp2_with fail
        have HROW : Hid (GRow w5.drew B0 g c n (pre ++ Mg.insSt A (X1, X2, X3, X4, X5) (m + 1) R ++ post)) := HO5.out
        refine wp_with_act (fun fr hfr => ?_)
        have hsze : fr.tmps.size = 53 := by rw [hfr]; rfl
        have f0 : fr.eval (.tmp 0) = .slice (some ⟨g, 0, none⟩) n c := by rw [hfr]; rfl
        have f9 : fr.eval (.tmp 9) = .int .i64 ((a : Int) + (m : Int) + 1) := by rw [hfr]; rfl
        refine wp_region_held_drew (S := fun _ => True) (by kernel_rfl) trivial (fun _ => ?_)
        obtain ⟨SL, hSL⟩ : ∃ l : List (Nat × Nat), l = [(0, 37), (1, 38), (2, 39), (3, 40), (4, 41), (5, 42), (6, 43), (7, 44), (8, 45), (9, 46), (10, 47), (11, 48), (12, 49), (13, 50), (14, 51), (16, 52)] := ⟨_, rfl⟩
        obtain ⟨VL, hVL⟩ : ∃ l : List (Nat × Value), l = [(0, .slice (some ⟨g, 0, none⟩) n c), (1, .int .i64 ((a : Int) + (m : Int) + 1)), (2, .slice (some ⟨g, 0, none⟩) n c), (3, .int .i64 ((a : Int) + (m : Int) + 1)), (4, .int .i64 ((a : Int) + (m : Int))), (5, .slice (some ⟨g, 0, none⟩) n c), (6, .int .i64 ((a : Int) + (m : Int) + 1)), (7, .int .i64 ((a : Int) + (m : Int))), (8, .pointer (some ⟨g, (a + m) * 5, none⟩)), (9, .agg #[.int .i64 Y1, .int .i64 Y2, .int .i64 Y3, .int .i64 Y4, .int .i64 Y5]), (10, .slice (some ⟨g, 0, none⟩) n c), (11, .int .i64 ((a : Int) + (m : Int) + 1)), (12, .pointer (some ⟨g, (a + (m + 1)) * 5, none⟩)), (13, .agg #[.int .i64 X1, .int .i64 X2, .int .i64 X3, .int .i64 X4, .int .i64 X5]), (14, .pointer (some ⟨g, (a + (m + 1)) * 5, none⟩)), (16, .pointer (some ⟨g, (a + m) * 5, none⟩))] := ⟨_, rfl⟩
        have hN1 : (SL.map Prod.fst).Nodup := by rw [hSL]; decide
        have hN2 : (SL.map Prod.snd).Nodup := by rw [hSL]; decide
        have M0 := vm_of hSL 0 rfl
        have E37 := eval_of hN2 M0 hsze rfl
        have M1 := vm_of hSL 1 rfl
        have E38 := eval_of hN2 M1 hsze rfl
        have M2 := vm_of hSL 2 rfl
        have E39 := eval_of hN2 M2 hsze rfl
        have M3 := vm_of hSL 3 rfl
        have E40 := eval_of hN2 M3 hsze rfl
        have M4 := vm_of hSL 4 rfl
        have E41 := eval_of hN2 M4 hsze rfl
        have M5 := vm_of hSL 5 rfl
        have E42 := eval_of hN2 M5 hsze rfl
        have M6 := vm_of hSL 6 rfl
        have E43 := eval_of hN2 M6 hsze rfl
        have M7 := vm_of hSL 7 rfl
        have E44 := eval_of hN2 M7 hsze rfl
        have M8 := vm_of hSL 8 rfl
        have E45 := eval_of hN2 M8 hsze rfl
        have M9 := vm_of hSL 9 rfl
        have E46 := eval_of hN2 M9 hsze rfl
        have M10 := vm_of hSL 10 rfl
        have E47 := eval_of hN2 M10 hsze rfl
        have M11 := vm_of hSL 11 rfl
        have E48 := eval_of hN2 M11 hsze rfl
        have M12 := vm_of hSL 12 rfl
        have E49 := eval_of hN2 M12 hsze rfl
        have M13 := vm_of hSL 13 rfl
        have E50 := eval_of hN2 M13 hsze rfl
        have M14 := vm_of hSL 14 rfl
        have E51 := eval_of hN2 M14 hsze rfl
        have M16 := vm_of hSL 16 rfl
        have E52 := eval_of hN2 M16 hsze rfl
        have E0 := eval_ofB hSL f0 rfl
        have E9 := eval_ofB hSL f9 rfl
        have VM0 := vm_of hVL 0 rfl
        have VU0 := vu_of hVL 0 rfl rfl
        have VM1 := vm_of hVL 1 rfl
        have VU1 := vu_of hVL 1 rfl rfl
        have VM2 := vm_of hVL 2 rfl
        have VU2 := vu_of hVL 2 rfl rfl
        have VM3 := vm_of hVL 3 rfl
        have VU3 := vu_of hVL 3 rfl rfl
        have VM4 := vm_of hVL 4 rfl
        have VU4 := vu_of hVL 4 rfl rfl
        have VM5 := vm_of hVL 5 rfl
        have VU5 := vu_of hVL 5 rfl rfl
        have VM6 := vm_of hVL 6 rfl
        have VU6 := vu_of hVL 6 rfl rfl
        have VM7 := vm_of hVL 7 rfl
        have VU7 := vu_of hVL 7 rfl rfl
        have VM8 := vm_of hVL 8 rfl
        have VU8 := vu_of hVL 8 rfl rfl
        have VM9 := vm_of hVL 9 rfl
        have VU9 := vu_of hVL 9 rfl rfl
        have VM10 := vm_of hVL 10 rfl
        have VU10 := vu_of hVL 10 rfl rfl
        have VM11 := vm_of hVL 11 rfl
        have VU11 := vu_of hVL 11 rfl rfl
        have VM12 := vm_of hVL 12 rfl
        have VU12 := vu_of hVL 12 rfl rfl
        have VM13 := vm_of hVL 13 rfl
        have VU13 := vu_of hVL 13 rfl rfl
        have VM14 := vm_of hVL 14 rfl
        have VU14 := vu_of hVL 14 rfl rfl
        have VM16 := vm_of hVL 16 rfl
        have VU16 := vu_of hVL 16 rfl rfl
        have VN15 := vn_of hVL 15 rfl
        have VN17 := vn_of hVL 17 rfl
        have hste : fr = puts fr (x0 fr SL) SL := puts_x0 fr SL (by rw [hSL]; decide)
        clear hVL
        refine wpAnyH_inv2 (JV fr SL VL (KS2 (fun W => W = w5.drew) (fun W => GRow W B0 g c n ((pre ++ Mg.insSt A (X1, X2, X3, X4, X5) (m + 1) R ++ post).set (a + (m + 1)) (Y1, Y2, Y3, Y4, Y5)) ∧ w5.drew.grownBy W (some g)) (fun W => GRow W B0 g c n (((pre ++ Mg.insSt A (X1, X2, X3, X4, X5) (m + 1) R ++ post).set (a + (m + 1)) (Y1, Y2, Y3, Y4, Y5)).set (a + m) (X1, X2, X3, X4, X5)) ∧ w5.drew.grownBy W (some g)) 15 17)) (by kernel_rfl) ?stepse ?donee _ _ ?starte
        case starte => exact ⟨_, hste, VOK.start _ _ _, KS2.start rfl⟩
        case stepse =>
          clear hste hSL hfr
          refine ⟨?_, ?_, ?_, ?_, ?_, ?_, ?_, ?_, ?_, ?_, ?_, ?_, ?_, ?_, ?_, ?_, ?_, ?_, trivial⟩
          all_goals
            rintro LB ac w' hs hu haf hcl ⟨x, rfl, hv, hk⟩ K hK
          · have r0 := E0 x
            rw [if_pos (by rfl)]
            refine wp_val (v := .slice (some ⟨g, 0, none⟩) n c) ?_ (hK _ _ (jv_set (by rw [hs]; decide) (x := upd x 0 _) (puts_set SL fr hN1 hN2 M0) (hv.val 0 _ VU0) (hk.quiet 0 (by decide) (by decide))))
            generalize (puts fr x SL).eval = ρ at r0 ⊢; go_simp
          · have r9 := E9 x
            rw [if_pos (by rfl)]
            refine wp_val (v := .int .i64 ((a : Int) + (m : Int) + 1)) ?_ (hK _ _ (jv_set (by rw [hs]; decide) (x := upd x 1 _) (puts_set SL fr hN1 hN2 M1) (hv.val 1 _ VU1) (hk.quiet 1 (by decide) (by decide))))
            generalize (puts fr x SL).eval = ρ at r9 ⊢; go_simp
          · have r0 := E0 x
            rw [if_pos (by rfl)]
            refine wp_val (v := .slice (some ⟨g, 0, none⟩) n c) ?_ (hK _ _ (jv_set (by rw [hs]; decide) (x := upd x 2 _) (puts_set SL fr hN1 hN2 M2) (hv.val 2 _ VU2) (hk.quiet 2 (by decide) (by decide))))
            generalize (puts fr x SL).eval = ρ at r0 ⊢; go_simp
          · have r9 := E9 x
            rw [if_pos (by rfl)]
            refine wp_val (v := .int .i64 ((a : Int) + (m : Int) + 1)) ?_ (hK _ _ (jv_set (by rw [hs]; decide) (x := upd x 3 _) (puts_set SL fr hN1 hN2 M3) (hv.val 3 _ VU3) (hk.quiet 3 (by decide) (by decide))))
            generalize (puts fr x SL).eval = ρ at r9 ⊢; go_simp
          · have r40 := (E40 x).trans (hv _ VM3 (haf ⟨3, .data⟩ (by simp) rfl))
            have rc0 : (puts fr x SL).eval (.const (.int .i64 1)) = .int .i64 1 := rfl
            rw [if_pos (by rfl)]
            refine wp_val (v := .int .i64 ((a : Int) + (m : Int))) ?_ (hK _ _ (jv_set (by rw [hs]; decide) (x := upd x 4 _) (puts_set SL fr hN1 hN2 M4) (hv.val 4 _ VU4) (hk.quiet 4 (by decide) (by decide))))
            generalize (puts fr x SL).eval = ρ at r40 rc0 ⊢; go_simp
          · have r0 := E0 x
            rw [if_pos (by rfl)]
            refine wp_val (v := .slice (some ⟨g, 0, none⟩) n c) ?_ (hK _ _ (jv_set (by rw [hs]; decide) (x := upd x 5 _) (puts_set SL fr hN1 hN2 M5) (hv.val 5 _ VU5) (hk.quiet 5 (by decide) (by decide))))
            generalize (puts fr x SL).eval = ρ at r0 ⊢; go_simp
          · have r9 := E9 x
            rw [if_pos (by rfl)]
            refine wp_val (v := .int .i64 ((a : Int) + (m : Int) + 1)) ?_ (hK _ _ (jv_set (by rw [hs]; decide) (x := upd x 6 _) (puts_set SL fr hN1 hN2 M6) (hv.val 6 _ VU6) (hk.quiet 6 (by decide) (by decide))))
            generalize (puts fr x SL).eval = ρ at r9 ⊢; go_simp
          · have r43 := (E43 x).trans (hv _ VM6 (haf ⟨6, .data⟩ (by simp) rfl))
            have rc0 : (puts fr x SL).eval (.const (.int .i64 1)) = .int .i64 1 := rfl
            rw [if_pos (by rfl)]
            refine wp_val (v := .int .i64 ((a : Int) + (m : Int))) ?_ (hK _ _ (jv_set (by rw [hs]; decide) (x := upd x 7 _) (puts_set SL fr hN1 hN2 M7) (hv.val 7 _ VU7) (hk.quiet 7 (by decide) (by decide))))
            generalize (puts fr x SL).eval = ρ at r43 rc0 ⊢; go_simp
          · have r42 := (E42 x).trans (hv _ VM5 (haf ⟨5, .data⟩ (by simp) rfl))
            have r44 := (E44 x).trans (hv _ VM7 (haf ⟨7, .data⟩ (by simp) rfl))
            rw [if_pos (by rfl)]
            refine wp_val (v := .pointer (some ⟨g, (a + m) * 5, none⟩)) ?_ (hK _ _ (jv_set (by rw [hs]; decide) (x := upd x 8 _) (puts_set SL fr hN1 hN2 M8) (hv.val 8 _ VU8) (hk.quiet 8 (by decide) (by decide))))
            generalize (puts fr x SL).eval = ρ at r42 r44 ⊢; go_simp
          · have r45 := (E45 x).trans (hv _ VM8 (haf ⟨8, .data⟩ (by simp) rfl))
            have hlast : LB.getD 15 false = false := by
              cases h : LB.getD 15 false with
              | false => rfl
              | true => exact absurd (hcl 15 _ rfl h ⟨9, .data⟩ (by simp) rfl) (by rw [hu]; decide)
            have s0 := hk.1 hlast
            subst s0
            rw [if_pos (by rfl)]
            refine wp_val (v := .agg #[.int .i64 Y1, .int .i64 Y2, .int .i64 Y3, .int .i64 Y4, .int .i64 Y5]) ?_ (hK _ _ (jv_set (by rw [hs]; decide) (x := upd x 9 _) (puts_set SL fr hN1 hN2 M9) (hv.val 9 _ VU9) (hk.quiet 9 (by decide) (by decide))))
            generalize (puts fr x SL).eval = ρ at r45 ⊢; go_simp
          · have r0 := E0 x
            rw [if_pos (by rfl)]
            refine wp_val (v := .slice (some ⟨g, 0, none⟩) n c) ?_ (hK _ _ (jv_set (by rw [hs]; decide) (x := upd x 10 _) (puts_set SL fr hN1 hN2 M10) (hv.val 10 _ VU10) (hk.quiet 10 (by decide) (by decide))))
            generalize (puts fr x SL).eval = ρ at r0 ⊢; go_simp
          · have r9 := E9 x
            rw [if_pos (by rfl)]
            refine wp_val (v := .int .i64 ((a : Int) + (m : Int) + 1)) ?_ (hK _ _ (jv_set (by rw [hs]; decide) (x := upd x 11 _) (puts_set SL fr hN1 hN2 M11) (hv.val 11 _ VU11) (hk.quiet 11 (by decide) (by decide))))
            generalize (puts fr x SL).eval = ρ at r9 ⊢; go_simp
          · have r47 := (E47 x).trans (hv _ VM10 (haf ⟨10, .data⟩ (by simp) rfl))
            have r48 := (E48 x).trans (hv _ VM11 (haf ⟨11, .data⟩ (by simp) rfl))
            rw [if_pos (by rfl)]
            refine wp_val (v := .pointer (some ⟨g, (a + (m + 1)) * 5, none⟩)) ?_ (hK _ _ (jv_set (by rw [hs]; decide) (x := upd x 12 _) (puts_set SL fr hN1 hN2 M12) (hv.val 12 _ VU12) (hk.quiet 12 (by decide) (by decide))))
            generalize (puts fr x SL).eval = ρ at r47 r48 ⊢; go_simp
          · have r49 := (E49 x).trans (hv _ VM12 (haf ⟨12, .data⟩ (by simp) rfl))
            have hlast : LB.getD 15 false = false := by
              cases h : LB.getD 15 false with
              | false => rfl
              | true => exact absurd (hcl 15 _ rfl h ⟨13, .phase⟩ (by simp) rfl) (by rw [hu]; decide)
            have s0 := hk.1 hlast
            subst s0
            rw [if_pos (by rfl)]
            refine wp_val (v := .agg #[.int .i64 X1, .int .i64 X2, .int .i64 X3, .int .i64 X4, .int .i64 X5]) ?_ (hK _ _ (jv_set (by rw [hs]; decide) (x := upd x 13 _) (puts_set SL fr hN1 hN2 M13) (hv.val 13 _ VU13) (hk.quiet 13 (by decide) (by decide))))
            generalize (puts fr x SL).eval = ρ at r49 ⊢; go_simp
          · have r37 := (E37 x).trans (hv _ VM0 (haf ⟨0, .data⟩ (by simp) rfl))
            have r38 := (E38 x).trans (hv _ VM1 (haf ⟨1, .data⟩ (by simp) rfl))
            rw [if_pos (by rfl)]
            refine wp_val (v := .pointer (some ⟨g, (a + (m + 1)) * 5, none⟩)) ?_ (hK _ _ (jv_set (by rw [hs]; decide) (x := upd x 14 _) (puts_set SL fr hN1 hN2 M14) (hv.val 14 _ VU14) (hk.quiet 14 (by decide) (by decide))))
            generalize (puts fr x SL).eval = ρ at r37 r38 ⊢; go_simp
          · have r51 := (E51 x).trans (hv _ VM14 (haf ⟨14, .data⟩ (by simp) rfl))
            have r46 := (E46 x).trans (hv _ VM9 (haf ⟨9, .data⟩ (by simp) rfl))
            rw [if_pos (by rfl)]
            have hj : LB.getD 17 false = false := by
              cases h : LB.getD 17 false with
              | false => rfl
              | true => exact absurd (hcl 17 _ rfl h ⟨15, .chain⟩ (by simp) rfl) (by rw [hu]; decide)
            have s0 := hk.1 hu
            subst s0
            refine wp_putX slGrp _ _ rfl encG encG_len encG_one (a + (m + 1)) (Y1, Y2, Y3, Y4, Y5) r51 (by rw [r46]; rfl) HROW.out HK1.out.1 HK1.out.2 (fun w2 ho hg => ?_)
            exact hK _ _ (jv_set (by rw [hs]; decide) (x := x) rfl (hv.none 15 VN15) (hk.first (by decide) hj ⟨ho, hg⟩))
          · have r39 := (E39 x).trans (hv _ VM2 (haf ⟨2, .data⟩ (by simp) rfl))
            have r41 := (E41 x).trans (hv _ VM4 (haf ⟨4, .data⟩ (by simp) rfl))
            rw [if_pos (by rfl)]
            refine wp_val (v := .pointer (some ⟨g, (a + m) * 5, none⟩)) ?_ (hK _ _ (jv_set (by rw [hs]; decide) (x := upd x 16 _) (puts_set SL fr hN1 hN2 M16) (hv.val 16 _ VU16) (hk.quiet 16 (by decide) (by decide))))
            generalize (puts fr x SL).eval = ρ at r39 r41 ⊢; go_simp
          · have r52 := (E52 x).trans (hv _ VM16 (haf ⟨16, .data⟩ (by simp) rfl))
            have r50 := (E50 x).trans (hv _ VM13 (haf ⟨13, .data⟩ (by simp) rfl))
            rw [if_pos (by rfl)]
            have hi : LB.getD 15 false = true := haf ⟨15, .chain⟩ (by simp) rfl
            refine wp_putX slGrp _ _ rfl encG encG_len encG_one (a + m) (X1, X2, X3, X4, X5) r52 (by rw [r50]; rfl) (hk.2.1 hi hu).1 HK2.out.1 HK2.out.2 (fun w2 ho hg => ?_)
            exact hK _ _ (jv_set (by rw [hs]; decide) (x := x) rfl (hv.none 17 VN17) (hk.second (by decide) hi ⟨ho, grown_trans (hk.2.1 hi hu).2 hg⟩))
        case donee =>
          rintro LB ac w2 hall ⟨x, rfl, hv, hk⟩
          have v0 : x 0 = .slice (some ⟨g, 0, none⟩) n c := hv _ VM0 (hall 0 (by decide))
          have v1 : x 1 = .int .i64 ((a : Int) + (m : Int) + 1) := hv _ VM1 (hall 1 (by decide))
          have v2 : x 2 = .slice (some ⟨g, 0, none⟩) n c := hv _ VM2 (hall 2 (by decide))
          have v3 : x 3 = .int .i64 ((a : Int) + (m : Int) + 1) := hv _ VM3 (hall 3 (by decide))
          have v4 : x 4 = .int .i64 ((a : Int) + (m : Int)) := hv _ VM4 (hall 4 (by decide))
          have v5 : x 5 = .slice (some ⟨g, 0, none⟩) n c := hv _ VM5 (hall 5 (by decide))
          have v6 : x 6 = .int .i64 ((a : Int) + (m : Int) + 1) := hv _ VM6 (hall 6 (by decide))
          have v7 : x 7 = .int .i64 ((a : Int) + (m : Int)) := hv _ VM7 (hall 7 (by decide))
          have v8 : x 8 = .pointer (some ⟨g, (a + m) * 5, none⟩) := hv _ VM8 (hall 8 (by decide))
          have v9 : x 9 = .agg #[.int .i64 Y1, .int .i64 Y2, .int .i64 Y3, .int .i64 Y4, .int .i64 Y5] := hv _ VM9 (hall 9 (by decide))
          have v10 : x 10 = .slice (some ⟨g, 0, none⟩) n c := hv _ VM10 (hall 10 (by decide))
          have v11 : x 11 = .int .i64 ((a : Int) + (m : Int) + 1) := hv _ VM11 (hall 11 (by decide))
          have v12 : x 12 = .pointer (some ⟨g, (a + (m + 1)) * 5, none⟩) := hv _ VM12 (hall 12 (by decide))
          have v13 : x 13 = .agg #[.int .i64 X1, .int .i64 X2, .int .i64 X3, .int .i64 X4, .int .i64 X5] := hv _ VM13 (hall 13 (by decide))
          have v14 : x 14 = .pointer (some ⟨g, (a + (m + 1)) * 5, none⟩) := hv _ VM14 (hall 14 (by decide))
          have v16 : x 16 = .pointer (some ⟨g, (a + m) * 5, none⟩) := hv _ VM16 (hall 16 (by decide))
          obtain ⟨ho9, hg9⟩ := hk.2.2 (hall 17 (by decide))
          rw [hSL]
          simp only [puts]
          clear M0 E37 M1 E38 M2 E39 M3 E40 M4 E41 M5 E42 M6 E43 M7 E44 M8 E45 M9 E46 M10 E47 M11 E48 M12 E49 M13 E50 M14 E51 M16 E52 E0 E9 f0 f9 VM0 VU0 VM1 VU1 VM2 VU2 VM3 VU3 VM4 VU4 VM5 VU5 VM6 VU6 VM7 VU7 VM8 VU8 VM9 VU9 VM10 VU10 VM11 VU11 VM12 VU12 VM13 VU13 VM14 VU14 VM16 VU16 VN15 VN17 hN1 hN2 hste hsze
          clear hall hv v0 v1 v2 v3 v4 v5 v6 v7 v8 v9 v10 v11 v12 v13 v14 v16
          rw [hfr]
          simp only [Act.put, List.setIfInBounds_toArray, List.set_cons_succ, List.set_cons_zero]
          clear hfr hSL
          rw [HEQ.out] at ho9
          have HO9 := Lib.hid ho9
          have HG9 := Lib.hid (grown_trans HGX.out (grown_trans (grown_of_below (Below.refl _ _).drew) hg9))
          clear ho9 hg9 hk
          clear d1 d1' d1b d1c d1e d2 d2' d2b d2c d2e HO5
          go_wp2
          go_roundw
          case rel => exact ⟨m, by go_num, by omega, HO9.out, by
            rw [HDR.out]
            intro b hb
            rcases List.mem_cons.1 hb with rfl | hb
            · exact HYX.out
            · exact HD.out b hb, HG9.out⟩
          case measure => simp [intOf] <;> omega

end Go.Proofs.Ytmgkdokaaoeobaa.GG

namespace Go.Proofs.Ytmgkdokaaoeobaa.GG
open Go.RowKit Go.Sort
set_option linter.unusedVariables false

/-- What the symmetric merge does. -/
def SymOk (I : World → Prop) (g : Nat) (lt : G5 → G5 → Bool) (cv : Value) : Prop :=
  ∀ (B0 c n : Nat) (pre L R post rs : List (G5)) (x y z : Int) (w : World), rs = pre ++ L ++ R ++ post → x = (pre.length : Nat) → y = ((pre.length + L.length : Nat) : Int) → z = ((pre.length + L.length + R.length : Nat) : Int) → 0 < L.length → 0 < R.length →
    Mg.Asc lt L → Mg.Asc lt R → rs.length = n → n ≤ 1000 → I w → w.ownsRow B0 34 5 (.slice (some ⟨g, 0, none⟩) n c) n (flat encG rs) →
    Calls Try.prog 42 #[.slice (some ⟨g, 0, none⟩) n c, .int .i64 x, .int .i64 y, .int .i64 z, cv] w fun e w' => e = .returned (.tuple #[]) ∧
      w'.ownsRow B0 34 5 (.slice (some ⟨g, 0, none⟩) n c) n (flat encG (pre ++ Mg.mrg lt L R ++ post)) ∧ w.grownBy w' (some g)

/-- Insertion, its numbers as they come. -/
theorem insertionSort_int {I : World → Prop} {lt : G5 → G5 → Bool} (S : Mg.SW lt) {cv : Value} (B0 g c n : Nat) (pre L post rs : List (G5)) (x y : Int) (w : World) (hrs : rs = pre ++ L ++ post) (hx : x = (pre.length : Nat)) (hy : y = ((pre.length + L.length : Nat) : Int)) (hn : rs.length = n) (hn2 : n ≤ 1000) (hI : I w) (HCV : CmpIs I g lt cv)
    (h : w.ownsRow B0 34 5 (.slice (some ⟨g, 0, none⟩) n c) n (flat encG rs)) :
    Calls Try.prog 41 #[.slice (some ⟨g, 0, none⟩) n c, .int .i64 x, .int .i64 y, cv] w fun e w' => e = .returned (.tuple #[]) ∧
      w'.ownsRow B0 34 5 (.slice (some ⟨g, 0, none⟩) n c) n (flat encG (pre ++ Mg.srt lt L ++ post)) ∧ w.grownBy w' (some g) := by
  subst hx hy hrs
  exact insertionSort_any S B0 g c n pre L post _ _ w rfl rfl hn hn2 hI HCV h

abbrev blkR (lt : G5 → G5 → Bool) (s : Nat) (l : List (G5)) : List (G5) := Mg.blk lt s l

set_option maxRecDepth 100000 in
set_option maxHeartbeats 8000000 in
theorem stableCmp_any {I : World → Prop} {lt : G5 → G5 → Bool} (S : Mg.SW lt) {cv : Value} (B0 g c n : Nat) (L : List (G5)) (w : World) (hn : L.length = n) (hn2 : n ≤ 1000) (hI : I w) (HCV : CmpIs I g lt cv) (HS : SymOk I g lt cv)
    (h : w.ownsRow B0 34 5 (.slice (some ⟨g, 0, none⟩) n c) n (flat encG L)) :
    Calls Try.prog 35 #[.slice (some ⟨g, 0, none⟩) n c, .int .i64 n, cv] w fun e w' => e = .returned (.tuple #[]) ∧
      w'.ownsRow B0 34 5 (.slice (some ⟨g, 0, none⟩) n c) n (flat encG (Mg.srt lt L)) ∧ w.grownBy w' (some g) := by
  have HO := Lib.hid h; have HN := Lib.hid hn
  have HSY : Hid (SymOk I g lt cv) := HS
  have HIG := Lib.hid (fun w' => HCV.1 w w' hI)
  have HCW := Lib.hid HCV
  clear h hn HS HCV
  go_enter Try.func35, Try.ntmps35
  go_wp2
  go_loopw [7, 8] (fun x y wr => ∃ (d r : List (G5)) (a : Nat), x = .int .i64 a ∧ y = .int .i64 ((a : Int) + 20) ∧ d.length = a ∧ a + r.length = n ∧ Hid (d ++ blkR lt 20 r = blkR lt 20 L) ∧ wr.ownsRow B0 34 5 (.slice (some ⟨g, 0, none⟩) n c) n (flat encG (d ++ r)) ∧ w.grownBy wr (some g)) (fun x _ _ => n - (intOf x).toNat)
  case atStart => exact ⟨[], L, 0, rfl, by go_num, rfl, by have := HN.out; omega, Lib.hid rfl, HO.out, grown_of_below (Below.refl w.heap.size w)⟩
  case round =>
    obtain ⟨d, r, a, rfl, rfl, hd, hr, HT, hown, hg⟩ := hrel
    have HO2 := Lib.hid hown; have HG2 := Lib.hid hg; have HD := Lib.hid hd
    have HLN : Hid ((d ++ r).length = n) := by show _ = _; rw [List.length_append]; omega
    clear hown hg hd HO
    by_cases hlt : a + 20 ≤ n
    · have q1 : decide ((a : Int) + 20 ≤ (n : Int)) = true := decide_eq_true (by omega)
      have e1 := List.take_append_drop 20 r
      have l1 : (r.take 20).length = 20 := by rw [List.length_take]; omega
      have hnx := Mg.blk_next (lt := lt) (s := 20) (l := r) (by omega) (by omega)
      have hdl : (r.drop 20).length = r.length - 20 := List.length_drop
      generalize r.take 20 = r1 at e1 l1 hnx
      generalize r.drop 20 = r2 at e1 hnx hdl
      have E1 := Lib.hid e1; have L1 := Lib.hid l1; have NX := Lib.hid hnx
      clear e1 l1 hnx
      go_wp2_with fail
      refine (insertionSort_int S B0 g c n d r1 r2 _ _ _ _ (by rw [← E1.out, List.append_assoc]) (by rw [HD.out]) (by rw [HD.out, L1.out]; omega) HLN.out hn2 (HIG.out _ HG2.out) HCW.out HO2.out).mono ?_
      rintro e w5 ⟨rfl, ho5, hg5⟩
      have HO5 := Lib.hid ho5; have HG5 := Lib.hid (grown_trans HG2.out hg5)
      clear ho5 hg5
      go_wp2
      go_roundw
      case rel => exact ⟨d ++ Mg.srt lt r1, r2, a + 20, by go_num, by go_num, by rw [List.length_append, Mg.srt_length, HD.out, L1.out], by omega, Lib.hid (by rw [← HT.out]; unfold blkR; rw [NX.out, List.append_assoc]), HO5.out, HG5.out⟩
      case measure => simp [intOf] <;> omega
    · have q1 : decide ((a : Int) + 20 ≤ (n : Int)) = false := decide_eq_false (by omega)
      have HSH := Lib.hid (Mg.blk_short (lt := lt) (s := 20) (l := r) (by omega))
      go_wp2_with fail
      refine (insertionSort_int S B0 g c n d r [] _ _ _ _ (by rw [List.append_nil]) (by rw [HD.out]) (by rw [HD.out]; omega) HLN.out hn2 (HIG.out _ HG2.out) HCW.out HO2.out).mono ?_
      rintro e w5 ⟨rfl, ho5, hg5⟩
      have HG5 := Lib.hid (grown_trans HG2.out hg5)
      have HO5 : Hid (w5.ownsRow B0 34 5 (.slice (some ⟨g, 0, none⟩) n c) n (flat encG (blkR lt 20 L))) := by
        show World.ownsRow _ _ _ _ _ _ _
        rw [← HT.out]; unfold blkR; rw [HSH.out]; rw [List.append_nil] at ho5; exact ho5
      clear ho5 hg5 HO2 HG2 HD HT HSH HLN hr q1
      go_wp2
      go_loopw [6] (fun v wr => ∃ s : Nat, v = .int .i64 s ∧ 0 < s ∧ s ≤ 2000 ∧ wr.ownsRow B0 34 5 (.slice (some ⟨g, 0, none⟩) n c) n (flat encG (blkR lt s L)) ∧ w.grownBy wr (some g)) (fun v _ => 2000 - (intOf v).toNat)
      case atStart => exact ⟨20, rfl, by omega, by omega, HO5.out, HG5.out⟩
      case round =>
        obtain ⟨s, rfl, hs0, hs1, hown, hg⟩ := hrel
        have HO6 := Lib.hid hown; have HG6 := Lib.hid hg
        clear hown hg HO5 HG5
        by_cases hsn : s < n
        case neg =>
          have q1 : decide ((s : Int) < (n : Int)) = false := decide_eq_false (by omega)
          have HO7 : Hid (wr.ownsRow B0 34 5 (.slice (some ⟨g, 0, none⟩) n c) n (flat encG (Mg.srt lt L))) := by
            show World.ownsRow _ _ _ _ _ _ _
            have := HO6.out
            unfold blkR at this
            rw [Mg.blk_short (by rw [HN.out]; omega)] at this
            exact this
          go_wp2
          go_end0
          exact ⟨rfl, HO7.out, HG6.out⟩
        have q1 : decide ((s : Int) < (n : Int)) = true := decide_eq_true (by omega)
        obtain ⟨wo, rfl⟩ : ∃ wo : World, wo = wr := ⟨_, rfl⟩
        go_wp2
        go_loopw [7, 8] (fun x y wq => ∃ (d r : List (G5)) (a : Nat), x = .int .i64 a ∧ y = .int .i64 ((a : Int) + 2 * (s : Int)) ∧ d.length = a ∧ a + r.length = n ∧ Hid (d ++ blkR lt (2 * s) r = blkR lt (2 * s) L) ∧ wq.ownsRow B0 34 5 (.slice (some ⟨g, 0, none⟩) n c) n (flat encG (d ++ blkR lt s r)) ∧ w.grownBy wq (some g)) (fun x _ _ => n - (intOf x).toNat)
        case atStart => exact ⟨[], L, 0, rfl, by go_num, rfl, by have := HN.out; omega, Lib.hid rfl, HO6.out, HG6.out⟩
        case round =>
          obtain ⟨d, r, a, rfl, rfl, hd, hr, HT, hown, hg⟩ := hrel
          have HO2 := Lib.hid hown; have HG2 := Lib.hid hg; have HD := Lib.hid hd
          have HLN : Hid ((d ++ blkR lt s r).length = n) := by show _ = _; rw [List.length_append]; unfold blkR; rw [Mg.blk_len hs0]; omega
          clear hown hg hd HO6 HG6
          by_cases hlt2 : a + 2 * s ≤ n
          · have q2 : decide ((a : Int) + 2 * (s : Int) ≤ (n : Int)) = true := decide_eq_true (by omega)
            obtain ⟨t1, t2⟩ := Mg.blk_two S (lt := lt) (s := s) (l := r) hs0 (by omega)
            have t3 := Mg.blk_next (lt := lt) (s := 2 * s) (l := r) (by omega) (by omega)
            have l1 : (Mg.srt lt (r.take s)).length = s := by rw [Mg.srt_length, List.length_take]; omega
            have l2 : (Mg.srt lt ((r.drop s).take s)).length = s := by rw [Mg.srt_length, List.length_take, List.length_drop]; omega
            have a1 := Mg.srt_asc S (r.take s)
            have a2 := Mg.srt_asc S ((r.drop s).take s)
            have l3 : (Mg.srt lt (r.take (2 * s))).length = 2 * s := by rw [Mg.srt_length, List.length_take]; omega
            have l4 : (r.drop (2 * s)).length = r.length - 2 * s := List.length_drop
            generalize Mg.srt lt (r.take s) = P1 at t1 t2 l1 a1
            generalize Mg.srt lt ((r.drop s).take s) = P2 at t1 t2 l2 a2
            generalize Mg.srt lt (r.take (2 * s)) = P3 at t2 t3 l3
            generalize r.drop (2 * s) = r2 at t1 t3 l4
            have T1 := Lib.hid t1; have T2 := Lib.hid t2; have T3 := Lib.hid t3; have L1 := Lib.hid l1; have L2 := Lib.hid l2; have L3 := Lib.hid l3; have A1 := Lib.hid a1; have A2 := Lib.hid a2
            clear t1 t2 t3 l1 l2 l3 a1 a2
            go_wp2_with fail
            refine (HSY.out B0 c n d P1 P2 (blkR lt s r2) _ _ _ _ _ (by unfold blkR; rw [T1.out]; simp only [List.append_assoc]) (by rw [HD.out]) (by rw [HD.out, L1.out]; omega) (by rw [HD.out, L1.out, L2.out]; omega) (by rw [L1.out]; exact hs0) (by rw [L2.out]; exact hs0) A1.out A2.out HLN.out hn2 (HIG.out _ HG2.out) HO2.out).mono ?_
            rintro e w5 ⟨rfl, ho5, hg5⟩
            have HO5 := Lib.hid ho5; have HG5 := Lib.hid (grown_trans HG2.out hg5)
            clear ho5 hg5
            rw [T2.out] at HO5
            go_wp2
            go_roundw
            case rel => exact ⟨d ++ P3, r2, a + 2 * s, by go_num, by go_num, by rw [List.length_append, L3.out, HD.out], by omega, Lib.hid (by rw [← HT.out]; unfold blkR; rw [T3.out, List.append_assoc]), HO5.out, HG5.out⟩
            case measure => simp [intOf] <;> omega
          · have q2 : decide ((a : Int) + 2 * (s : Int) ≤ (n : Int)) = false := decide_eq_false (by omega)
            have t3 := Mg.blk_short (lt := lt) (s := 2 * s) (l := r) (by omega)
            have T3 := Lib.hid t3; clear t3
            by_cases hms : a + s < n
            · have q3 : decide ((a : Int) + (s : Int) < (n : Int)) = true := decide_eq_true (by omega)
              obtain ⟨t1, t2⟩ := Mg.blk_rest S (lt := lt) (s := s) (l := r) hs0 (by omega) (by omega)
              have l1 : (Mg.srt lt (r.take s)).length = s := by rw [Mg.srt_length, List.length_take]; omega
              have l2 : (Mg.srt lt (r.drop s)).length = r.length - s := by rw [Mg.srt_length, List.length_drop]
              have a1 := Mg.srt_asc S (r.take s)
              have a2 := Mg.srt_asc S (r.drop s)
              generalize Mg.srt lt (r.take s) = P1 at t1 t2 l1 a1
              generalize Mg.srt lt (r.drop s) = P2 at t1 t2 l2 a2
              have T1 := Lib.hid t1; have T2 := Lib.hid t2; have L1 := Lib.hid l1; have L2 := Lib.hid l2; have A1 := Lib.hid a1; have A2 := Lib.hid a2
              clear t1 t2 l1 l2 a1 a2
              go_wp2_with fail
              refine (HSY.out B0 c n d P1 P2 [] _ _ _ _ _ (by unfold blkR; rw [T1.out]; simp only [List.append_assoc, List.append_nil]) (by rw [HD.out]) (by rw [HD.out, L1.out]; omega) (by rw [HD.out, L1.out, L2.out]; omega) (by rw [L1.out]; exact hs0) (by rw [L2.out]; omega) A1.out A2.out HLN.out hn2 (HIG.out _ HG2.out) HO2.out).mono ?_
              rintro e w5 ⟨rfl, ho5, hg5⟩
              have HG5 := Lib.hid (grown_trans HG2.out hg5)
              have HO5 : Hid (w5.ownsRow B0 34 5 (.slice (some ⟨g, 0, none⟩) n c) n (flat encG (blkR lt (2 * s) L))) := by
                show World.ownsRow _ _ _ _ _ _ _
                rw [← HT.out]; unfold blkR; rw [T3.out, ← T2.out]; rw [List.append_nil] at ho5; exact ho5
              clear ho5 hg5
              go_wp2
              go_roundw
              case rel => exact ⟨2 * s, by go_num, by omega, by omega, HO5.out, HG5.out⟩
              case measure => simp [intOf] <;> omega
            · have q3 : decide ((a : Int) + (s : Int) < (n : Int)) = false := decide_eq_false (by omega)
              have T4 := Lib.hid (Mg.blk_short (lt := lt) (s := s) (l := r) (by omega))
              have HO5 : Hid (wr.ownsRow B0 34 5 (.slice (some ⟨g, 0, none⟩) n c) n (flat encG (blkR lt (2 * s) L))) := by
                show World.ownsRow _ _ _ _ _ _ _
                rw [← HT.out]; unfold blkR; rw [T3.out]; have := HO2.out; unfold blkR at this; rw [T4.out] at this; exact this
              go_wp2
              go_roundw
              case rel => exact ⟨2 * s, by go_num, by omega, by omega, HO5.out, HG2.out⟩
              case measure => simp [intOf] <;> omega

end Go.Proofs.Ytmgkdokaaoeobaa.GG

