/- Several texts in one: lemmas and walks of the functions that the law reaches. -/
import Derived.Test.YtbgmbanebmlghaaGreatDoorY7
import Derived.Lib.OwnBridge
import Derived.Sort.Grow

namespace Go.Proofs.YtbgmbanebmlghaaGreatDoor
open Go.RowKit Go.Sort
set_option linter.unusedVariables false
theorem own_celli {w : World} {base : Nat} {e : TypeId} {g : Nat} {n c : Nat} {xs : List Value} (h : w.ownsRow base e 1 (.slice (some ⟨g, 0, none⟩) n c) n xs) {i : Nat} {x : Value} (hx : xs[i]? = some x) : w.cell? ⟨g, i, none⟩ = some x := by
  obtain ⟨g', hg, hc, _⟩ := own_at h hx
  simp only [Option.some.injEq, Addr.mk.injEq, and_true] at hg
  rw [hg]; exact hc

/-- One step down of an item that is put into its place. -/
theorem own_step {w : World} {base g n cap k : Nat} {e : TypeId} {A R : List Int} {x : Int} (hk : k < A.length) (h : w.ownsRow base e 1 (.slice (some ⟨g, 0, none⟩) n cap) n ((Mg.insSt A x (k + 1) R).map (Value.int .i64))) :
    ((w.setCell ⟨g, k, none⟩ (.int .i64 x)).setCell ⟨g, k + 1, none⟩ (.int .i64 A[k])).ownsRow base e 1 (.slice (some ⟨g, 0, none⟩) n cap) n ((Mg.insSt A x k R).map (Value.int .i64)) ∧ w.grownBy ((w.setCell ⟨g, k, none⟩ (.int .i64 x)).setCell ⟨g, k + 1, none⟩ (.int .i64 A[k])) (some g) := by
  have h1 := h.stored k (.int .i64 x)
  have h2 := h1.1.stored (k + 1) (.int .i64 A[k])
  refine ⟨?_, grown_trans h1.2 h2.2⟩
  have e1 : ((Mg.insSt A x (k + 1) R).map (Value.int .i64)).set k (.int .i64 x) = ((Mg.insSt A x (k + 1) R).set k x).map (Value.int .i64) := (List.map_set ..).symm
  have e2 : (((Mg.insSt A x (k + 1) R).set k x).map (Value.int .i64)).set (k + 1) (.int .i64 A[k]) = (((Mg.insSt A x (k + 1) R).set k x).set (k + 1) A[k]).map (Value.int .i64) := (List.map_set ..).symm
  have h3 := h2.1
  rw [e1, e2, Mg.insSt_step hk] at h3
  exact h3
theorem own_ins_cells {w : World} {base g n cap k : Nat} {e : TypeId} {A R : List Int} {x : Int} (hk : k < A.length) (h : w.ownsRow base e 1 (.slice (some ⟨g, 0, none⟩) n cap) n ((Mg.insSt A x (k + 1) R).map (Value.int .i64))) :
    w.cell? ⟨g, k, none⟩ = some (.int .i64 A[k]) ∧ w.cell? ⟨g, k + 1, none⟩ = some (.int .i64 x) ∧ w.frozen? ⟨g, k, none⟩ = false ∧ w.frozen? ⟨g, k + 1, none⟩ = false :=
  ⟨own_celli h (by rw [List.getElem?_map, Mg.insSt_before hk]; rfl), own_celli h (by rw [List.getElem?_map, Mg.insSt_at (by omega)]; rfl), h.frozenAt k, h.frozenAt (k + 1)⟩

theorem own_stepD {w : World} {base g n cap k : Nat} {e : TypeId} {A R : List Int} {x y : Int} (hk : k < A.length) (hy : A.getD k 0 = y) (h : w.ownsRow base e 1 (.slice (some ⟨g, 0, none⟩) n cap) n ((Mg.insSt A x (k + 1) R).map (Value.int .i64))) :
    ((w.setCell ⟨g, k, none⟩ (.int .i64 x)).setCell ⟨g, k + 1, none⟩ (.int .i64 y)).ownsRow base e 1 (.slice (some ⟨g, 0, none⟩) n cap) n ((Mg.insSt A x k R).map (Value.int .i64)) ∧ w.grownBy ((w.setCell ⟨g, k, none⟩ (.int .i64 x)).setCell ⟨g, k + 1, none⟩ (.int .i64 y)) (some g) := by
  have e1 : A[k] = y := by rw [← hy, List.getD_eq_getElem?_getD, List.getElem?_eq_getElem hk]; rfl
  subst e1
  exact own_step hk h
theorem own_ins_cellsD {w : World} {base g n cap k : Nat} {e : TypeId} {A R : List Int} {x : Int} (hk : k < A.length) (h : w.ownsRow base e 1 (.slice (some ⟨g, 0, none⟩) n cap) n ((Mg.insSt A x (k + 1) R).map (Value.int .i64))) :
    w.cell? ⟨g, k, none⟩ = some (.int .i64 (A.getD k 0)) ∧ w.cell? ⟨g, k + 1, none⟩ = some (.int .i64 x) ∧ w.frozen? ⟨g, k, none⟩ = false ∧ w.frozen? ⟨g, k + 1, none⟩ = false := by
  have e1 : A.getD k 0 = A[k] := by rw [List.getD_eq_getElem?_getD, List.getElem?_eq_getElem hk]; rfl
  rw [e1]
  exact own_ins_cells hk h
theorem ins_end_int {l : List Int} {x : Int} {k : Nat} {R : List Int} (hk : k ≤ l.length) (hd : ∀ b ∈ (Mg.srtI l).drop k, x < b) (hs : 0 < k → ¬ x < (Mg.srtI l).getD (k - 1) 0) : Mg.insSt (Mg.srtI l) x k R = Mg.srtI (l ++ [x]) ++ R := by
  have hl : (Mg.srtI l).length = l.length := Mg.srt_length l
  refine Mg.insSt_srt Mg.swI (lt := Mg.ltI) (by show k ≤ (Mg.srtI l).length; omega) (fun b hb => by simpa [Mg.ltI] using hd b hb) (fun h0 => ?_)
  have h1 := hs h0
  rw [List.getD_eq_getElem?_getD, List.getElem?_eq_getElem (by omega)] at h1
  unfold Mg.srtI at h1
  simpa [Mg.ltI] using h1
theorem srtI_len (l : List Int) : (Mg.srtI l).length = l.length := Mg.srt_length l
theorem srtI_start (zs : List Int) : zs = Mg.srtI (zs.take 1) ++ zs.drop 1 := by
  cases zs with
  | nil => rfl
  | cons a t => simp [Mg.srtI, Mg.srt_one]
theorem ins_start {zs : List Int} {i : Nat} (hi : i < zs.length) : Mg.srtI (zs.take i) ++ zs.drop i = Mg.insSt (Mg.srtI (zs.take i)) (zs.getD i 0) i (zs.drop (i + 1)) := by
  have hl : (Mg.srtI (zs.take i)).length = i := by rw [srtI_len, List.length_take]; omega
  have h1 := Mg.insSt_top (Mg.srtI (zs.take i)) (zs.getD i 0) (zs.drop (i + 1))
  rw [hl] at h1
  rw [h1, List.drop_eq_getElem_cons hi, List.getD_eq_getElem?_getD, List.getElem?_eq_getElem hi]
  rfl
theorem take_snoc {zs : List Int} {i : Nat} (hi : i < zs.length) : zs.take i ++ [zs.getD i 0] = zs.take (i + 1) := by
  rw [List.take_add_one, List.getElem?_eq_getElem hi, List.getD_eq_getElem?_getD, List.getElem?_eq_getElem hi]
  rfl

theorem own_addr {w : World} {base : Nat} {e : TypeId} {size : Nat} {a : Option Addr} {n c : Nat} {xs : List Value} (h : w.ownsRow base e size (.slice a n c) n xs) (hb : (Value.slice a n c).ownBlock ≠ none) : ∃ g, a = some ⟨g, 0, none⟩ ∧ base ≤ g ∧ g < w.heap.size := by
  rcases h.2 with ⟨h2, _⟩ | ⟨g, cap, cur, hv, hbs, hg, _⟩
  · injection h2 with h2 _ _
    subst h2
    exact absurd rfl hb
  · injection hv with hv _ _
    exact ⟨g, hv, hbs, (Array.getElem?_eq_some_iff.1 hg).1⟩
theorem ints_news {w : World} {x : Addr} {zs : List Int} (h : IntsAt w (some x) zs) : ∀ j u, (zs.map (Value.int .i64))[j]? = some u → w.cell? (x.add j) = some u := by
  intro j u hu
  rw [List.getElem?_map] at hu
  rcases h with rfl | ⟨b, off, e, _, h2⟩
  · simp at hu
  · injection e with e
    subst e
    by_cases hj : j < zs.length
    · rw [List.getElem?_eq_getElem hj] at hu
      have h3 := h2 j hj
      rw [List.getD_eq_getElem?_getD, List.getElem?_eq_getElem hj] at h3
      simp at hu h3
      rw [← hu, ← h3]
      unfold Addr.add
      split <;> simp_all
    · rw [List.getElem?_eq_none (by omega)] at hu; simp at hu
/-- 'append(l, x...)' where x can be read. -/
theorem wpList_appX {P : Program} {w : World} {ops : Array Oper} {rest : List Oper} {o : Oper} {a : Act} {Q : Exit → Act → World → Prop} {t e : TypeId} {z : Value} {size bytes : Nat} (T : SlT P t e z size bytes)
    (hgd : o.guard = none) (s y : Operand) (ho : o.op = .call { callee := .builtin .append, args := #[s, y], argTypes := #[t, t] })
    {base : Nat} {v : Value} {n m c : Nat} {xs ys : List Value} {ad : Addr} (hs : a.eval s = v) (hown : w.ownsRow base e size v n xs) (hy : a.eval y = .slice (some ad) m c) (hl : ys.length = m * size) (hcells : ∀ j x, ys[j]? = some x → w.cell? (ad.add j) = some x)
    (h1 : ∀ x ∈ ys, x.oneCell' = true) (hsmall : n + m ≤ 1099511627776) (hbase : base ≤ w.heap.size)
    (h : ∀ v' w', w'.ownsRow base e size v' (n + m) (xs ++ ys) → w.grownBy w' v.ownBlock → (v'.ownBlock = v.ownBlock ∨ v'.ownBlock = some w.heap.size) → wpList P ops Q rest (a.put o.dst v') w') :
    wpList P ops Q (o :: rest) a w := by
  refine wpList_plain hgd fun K hK => ?_
  obtain ⟨v', w', hr, h2, h3, h4⟩ := run_app_tag (P := P) w T base o.type v n xs hown ad m c ys hl hcells h1 hsmall hbase
  unfold Oper.wp execOp
  simp only [ho, resolve, invoke, builtin, Sem.run_bind, Sem.run_pure, Result.andThen_ok, List.map_toArray, List.map_cons, List.map_nil, hs, hy, hr]
  exact hK _ _ (h v' w' h2 h3 h4)

end Go.Proofs.YtbgmbanebmlghaaGreatDoor

namespace Go.Proofs.YtbgmbanebmlghaaGreatDoor
open Go.RowKit Go.Sort
set_option linter.unusedVariables false

/-- A part L of an owned row of integers. -/
structure PR (w : World) (B g cap N : Nat) (pre L post : List Int) : Prop where
  own : w.ownsRow B 3 1 (.slice (some ⟨g, 0, none⟩) N cap) N ((pre ++ L ++ post).map (Value.int .i64))
theorem PR.at {w : World} {B g cap N : Nat} {pre L post : List Int} (h : PR w B g cap N pre L post) {i off : Nat} (ho : pre.length = off) (hi : i < L.length) : w.cell? ⟨g, off + i, none⟩ = some (.int .i64 (L.getD i 0)) := by
  refine own_celli h.own ?_
  rw [List.getElem?_map, List.append_assoc, List.getElem?_append_right (by omega), show off + i - pre.length = i by omega, List.getElem?_append_left hi, List.getD_eq_getElem?_getD, List.getElem?_eq_getElem hi]
  rfl
theorem PR.fz {w : World} {B g cap N : Nat} {pre L post : List Int} (h : PR w B g cap N pre L post) : ∀ o, w.frozen? ⟨g, o, none⟩ = false := fun o => h.own.frozenAt o
theorem PR.set {w : World} {B g cap N : Nat} {pre L post : List Int} (h : PR w B g cap N pre L post) {off : Nat} (ho : pre.length = off) (i : Nat) (x : Int) (hi : i < L.length) :
    PR (w.setCell ⟨g, off + i, none⟩ (.int .i64 x)) B g cap N pre (L.set i x) post ∧ w.grownBy (w.setCell ⟨g, off + i, none⟩ (.int .i64 x)) (some g) := by
  have h1 := h.own.stored (off + i) (.int .i64 x)
  refine ⟨⟨?_⟩, h1.2⟩
  have e : ((pre ++ L ++ post).map (Value.int .i64)).set (off + i) (.int .i64 x) = (pre ++ L.set i x ++ post).map (Value.int .i64) := by
    rw [List.map_append, List.map_append, List.map_append, List.map_append, List.append_assoc, List.set_append, if_neg (by rw [List.length_map]; omega), List.length_map, show off + i - pre.length = i by omega, List.set_append, if_pos (by rw [List.length_map]; exact hi), List.map_set, List.append_assoc]
  rw [← e]; exact h1.1
theorem PR.drew {w : World} {B g cap N : Nat} {pre L post : List Int} (h : PR w B g cap N pre L post) : PR w.drew B g cap N pre L post := ⟨h.own⟩
theorem PR.drewN {w : World} {B g cap N : Nat} {pre L post : List Int} (h : PR w B g cap N pre L post) (q : Nat) : PR (w.drewN q) B g cap N pre L post := ⟨h.own⟩
set_option maxRecDepth 100000 in
set_option maxHeartbeats 4000000 in
theorem gapped_any (B g cap N gap off m c c9 v9 : Nat) (pre L post R : List Int) (w : World) (ho : pre.length = off) (hm : L.length = m) (hm64 : m ≤ 64) (hg : 1 ≤ gap) (hg64 : gap ≤ 64) (hR : Es.gapd gap L = (R, c9, v9)) (h : PR w B g cap N pre L post) :
    Calls Tryz.prog 191 #[.slice (some ⟨g, off, none⟩) m c, .int .i64 gap] w fun e w' => e = .returned (.tuple #[.int .i64 c9, .int .i64 v9]) ∧ PR w' B g cap N pre R post ∧ w.grownBy w' (some g) := by
  have H := Lib.hid h; clear h
  have HOF := Lib.hid ho; clear ho
  have HR : Hid (Es.gout gap m L gap 0 0 = (R, c9, v9)) := by show _ = _; rw [← hR, ← hm]; rfl
  have HM := Lib.hid hm; clear hm hR
  go_enter Tryz.func191, Tryz.ntmps191
  go_wp2
  go_loopw [6, 7, 8] (fun cv vv iv wr => ∃ (c v i : Nat) (L' : List Int), cv = .int .i64 c ∧ vv = .int .i64 v ∧ iv = .int .i64 i ∧ i ≤ 64 ∧ L'.length = m ∧ Es.gout gap m L' i c v = (R, c9, v9) ∧ c ≤ 100 * i ∧ v ≤ 100 * i ∧ PR wr B g cap N pre L' post ∧ w.grownBy wr (some g)) (fun _ _ iv _ => 200 - (intOf iv).toNat)
  case atStart => exact ⟨0, 0, gap, L, rfl, rfl, rfl, hg64, HM.out, HR.out, by omega, by omega, H.out, grown_of_below (Below.refl _ _)⟩
  case round =>
    obtain ⟨c1, v1, i, L1, rfl, rfl, rfl, hi64, hL1, hgo, hc1, hv1, hp, hgw⟩ := hrel
    have HL1 := Lib.hid hL1; have HGO := Lib.hid hgo; have HP := Lib.hid hp; have HW := Lib.hid hgw
    clear hL1 hgo hp hgw
    by_cases hlt : i < m
    case neg =>
      have HE := Lib.hid (HGO.out.symm.trans (Es.gout_stop hlt))
      have hlt' : ¬ ((i : Int) < (m : Int)) := by omega
      go_wp2
      go_ret2
      obtain ⟨h1, h2, h3⟩ : R = L1 ∧ c9 = c1 ∧ v9 = v1 := by
        have := HE.out
        injection this with a b
        injection b with b1 b2
        exact ⟨a, b1, b2⟩
      subst h1 h2 h3
      exact ⟨rfl, HP.out, HW.out⟩
    have hlt' : (i : Int) < (m : Int) := by omega
    have HGO2 := Lib.hid ((Es.gout_step (gap := gap) (L := L1) (c := c1) (v := v1) hlt).symm.trans HGO.out)
    have cx := HP.out.at HOF.out (i := i) (by rw [HL1.out]; exact hlt)
    have HX : Hid (∃ x, L1.getD i 0 = x) := ⟨_, rfl⟩
    obtain ⟨x, hx⟩ := HX.out
    rw [hx] at cx
    have HXX := Lib.hid hx
    clear hx HX HGO
    go_wp2
    go_loopw [6, 7, 10] (fun cv vv kv wx => ∃ (c2 v2 k : Nat) (L2 : List Int), cv = .int .i64 c2 ∧ vv = .int .i64 v2 ∧ kv = .int .i64 k ∧ k ≤ i ∧ L2.length = m ∧ Es.gin gap x L2 k c2 v2 = Es.gin gap x L1 i c1 v1 ∧ c2 + k ≤ c1 + i ∧ v2 + k ≤ v1 + i ∧ PR wx B g cap N pre L2 post ∧ w.grownBy wx (some g)) (fun _ _ kv _ => (intOf kv).toNat)
    case atStart => exact ⟨c1, v1, i, L1, rfl, rfl, rfl, Nat.le_refl _, HL1.out, rfl, Nat.le_refl _, Nat.le_refl _, HP.out, HW.out⟩
    case round =>
      rename World => wx
      obtain ⟨c2, v2, k, L2, rfl, rfl, rfl, hki, hL2, hgi, hc2, hv2, hp2, hgw2⟩ := hrel
      have HL2 := Lib.hid hL2; have HGI := Lib.hid hgi; have HP2 := Lib.hid hp2; have HW2 := Lib.hid hgw2
      clear hL2 hgi hp2 hgw2
      by_cases hgk : gap ≤ k
      case neg =>
        have hgk' : ¬ ((gap : Int) ≤ (k : Int)) := by omega
        have HG3 := Lib.hid (HGI.out.symm.trans (Es.gin_stop hgk))
        clear hgk HGI
        have HFIN := Lib.hid (show Es.gone gap L1 i c1 v1 = Es.gput x i (L2, k, c2, v2) by
          show Es.gput (L1.getD i 0) i (Es.gin gap (L1.getD i 0) L1 i c1 v1) = _
          rw [HXX.out, HG3.out])
        clear HG3
        by_cases hki2 : k < i
        · have hki3 : (k : Int) < (i : Int) := by omega
          have hb1 : (k : Int) < (m : Int) := by omega
          have hb0 : (0 : Int) ≤ (k : Int) := by omega
          have fz := HP2.out.fz
          have ck := HP2.out.at HOF.out (i := k) (by rw [HL2.out]; omega)
          generalize L2.getD k 0 = z0 at ck
          have HS := Lib.hid (HP2.out.set HOF.out k x (by rw [HL2.out]; omega))
          have HE2 := Lib.hid (show Es.gone gap L1 i c1 v1 = (L2.set k x, c2, v2 + 1) from HFIN.out.trans (if_pos hki2))
          clear hki2
          go_wp2
          go_roundw
          case rel =>
            have e := HGO2.out
            rw [HE2.out] at e
            exact ⟨c2, v2 + 1, i + 1, L2.set k x, by go_num, by go_num, by go_num, by omega, by rw [List.length_set]; exact HL2.out, e, by omega, by omega, HS.out.1, grown_trans HW2.out HS.out.2⟩
          case measure => simp [intOf] <;> omega
        · have hki3 : ¬ (k : Int) < (i : Int) := by omega
          have HE2 := Lib.hid (show Es.gone gap L1 i c1 v1 = (L2, c2, v2) from HFIN.out.trans (if_neg hki2))
          clear hki2
          go_wp2
          go_roundw
          case rel =>
            have e := HGO2.out
            rw [HE2.out] at e
            exact ⟨c2, v2, i + 1, L2, by go_num, by go_num, by go_num, by omega, HL2.out, e, by omega, by omega, HP2.out, HW2.out⟩
          case measure => simp [intOf] <;> omega

      have hgk' : (gap : Int) ≤ (k : Int) := by omega
      have hb1 : (k : Int) - (gap : Int) < (m : Int) := by omega
      have hb0 : (0 : Int) ≤ (k : Int) - (gap : Int) := by omega
      have ht : ((k : Int) - (gap : Int)).toNat = k - gap := by omega
      have cy := HP2.out.at HOF.out (i := k - gap) (by rw [HL2.out]; omega)
      obtain ⟨y, hy⟩ : ∃ y, L2.getD (k - gap) 0 = y := ⟨_, rfl⟩
      rw [hy] at cy
      have HY := Lib.hid hy; clear hy
      by_cases hyx : y ≤ x
      case pos =>
        have HG3 := Lib.hid (HGI.out.symm.trans (Es.gin_break ⟨hg, hgk⟩ (by rw [HY.out]; exact hyx)))
        clear hgk HGI
        have HFIN := Lib.hid (show Es.gone gap L1 i c1 v1 = Es.gput x i (L2, k, (c2 + 1), v2) by
          show Es.gput (L1.getD i 0) i (Es.gin gap (L1.getD i 0) L1 i c1 v1) = _
          rw [HXX.out, HG3.out])
        clear HG3
        by_cases hki2 : k < i
        · have hki3 : (k : Int) < (i : Int) := by omega
          have hb1 : (k : Int) < (m : Int) := by omega
          have hb0 : (0 : Int) ≤ (k : Int) := by omega
          have fz := HP2.out.fz
          have ck := HP2.out.at HOF.out (i := k) (by rw [HL2.out]; omega)
          generalize L2.getD k 0 = z0 at ck
          have HS := Lib.hid (HP2.out.set HOF.out k x (by rw [HL2.out]; omega))
          have HE2 := Lib.hid (show Es.gone gap L1 i c1 v1 = (L2.set k x, (c2 + 1), v2 + 1) from HFIN.out.trans (if_pos hki2))
          clear hki2
          go_wp2
          go_roundw
          case rel =>
            have e := HGO2.out
            rw [HE2.out] at e
            exact ⟨(c2 + 1), v2 + 1, i + 1, L2.set k x, by go_num, by go_num, by go_num, by omega, by rw [List.length_set]; exact HL2.out, e, by omega, by omega, HS.out.1, grown_trans HW2.out HS.out.2⟩
          case measure => simp [intOf] <;> omega
        · have hki3 : ¬ (k : Int) < (i : Int) := by omega
          have HE2 := Lib.hid (show Es.gone gap L1 i c1 v1 = (L2, (c2 + 1), v2) from HFIN.out.trans (if_neg hki2))
          clear hki2
          go_wp2
          go_roundw
          case rel =>
            have e := HGO2.out
            rw [HE2.out] at e
            exact ⟨(c2 + 1), v2, i + 1, L2, by go_num, by go_num, by go_num, by omega, HL2.out, e, by omega, by omega, HP2.out, HW2.out⟩
          case measure => simp [intOf] <;> omega

      have HG3 := Lib.hid ((Es.gin_step ⟨hg, hgk⟩ (by rw [HY.out]; exact hyx)).symm.trans HGI.out)
      have fz := HP2.out.fz
      have ck := HP2.out.at HOF.out (i := k) (by rw [HL2.out]; omega)
      generalize L2.getD k 0 = z0 at ck
      have hkm : (k : Int) < (m : Int) := by omega
      have hk0 : (0 : Int) ≤ (k : Int) := by omega
      have HS := Lib.hid (HP2.out.set HOF.out k y (by rw [HL2.out]; omega))
      clear HGI
      go_wp2
      go_roundw
      case rel =>
        refine ⟨c2 + 1, v2 + 1, k - gap, L2.set k y, by go_num, by go_num, ?_, by omega, by rw [List.length_set]; exact HL2.out, ?_, by omega, by omega, HS.out.1, grown_trans HW2.out HS.out.2⟩
        · show Value.int .i64 _ = Value.int .i64 _
          congr 1; omega
        · have := HG3.out
          rwa [HY.out] at this
      case measure => simp [intOf] <;> omega
end Go.Proofs.YtbgmbanebmlghaaGreatDoor

