/- Walks: the library's symmetric merge at records: one element behind (IN WORK). -/
import Derived.Test.YtkckmjajjdpodaaQd
namespace Go.Proofs.Ytkckmjajjdpodaa
open Go.RowKit Go.Sort
set_option linter.unusedVariables false

set_option maxRecDepth 100000 in
set_option maxHeartbeats 8000000 in
theorem symMerge_last {I : World → Prop} {lt : Int × Int → Int × Int → Bool} (S : Mg.SW lt) {cv : Value} (B0 g c n : Nat) (pre L post rs : List (Int × Int)) (X : Int × Int) (a m : Nat) (w : World) (ha : pre.length = a) (hm : a + L.length = m) (hL1 : L.length ≠ 1) (hL : Mg.Asc lt L) (hrs : rs = pre ++ L ++ [X] ++ post) (hn : rs.length = n) (hn2 : n ≤ 1000) (hI : I w) (HCV : CmpIs I g lt cv)
    (h : w.ownsRow B0 72 2 (.slice (some ⟨g, 0, none⟩) n c) n (flat encR rs)) :
    Calls Try.prog 185 #[.slice (some ⟨g, 0, none⟩) n c, .int .i64 a, .int .i64 m, .int .i64 ((m : Int) + 1), cv] w fun e w' => e = .returned (.tuple #[]) ∧
      w'.ownsRow B0 72 2 (.slice (some ⟨g, 0, none⟩) n c) n (flat encR (pre ++ Mg.mrg lt L [X] ++ post)) ∧ w.grownBy w' (some g) := by
  have HO := Lib.hid h
  have hbn : m + 1 + post.length = n := by rw [← hn, hrs]; simp; omega
  have HRS := Lib.hid hrs
  have HA := Lib.hid hL
  clear h hn hrs hL
  have s1 : (m : Int) + 1 - (m : Int) = 1 := by omega
  have s0 : ((m : Int) - (a : Int) == 1) = false := by simp; omega
  have s2 : IntKind.i64.wrap ((m : Int) - (a : Int)) = (m : Int) - (a : Int) := IntWalk.i64_in _ (by omega)
  obtain ⟨hIg, G, cp, rfl, hcall, hcmp⟩ := HCV
  have HCM := Lib.hid hcmp; have HIG := Lib.hid (fun w' => hIg w w' hI)
  clear hcmp hIg
  go_enter Try.func185, Try.ntmps185
  go_wp2
  go_loopw [14, 15] (fun x y wr => ∃ p q : Nat, x = .int .i64 ((a : Int) + (p : Int)) ∧ y = .int .i64 ((a : Int) + (q : Int)) ∧ p ≤ q ∧ q ≤ L.length ∧ (0 < p → lt X (L.getD (p - 1) (0, 0)) = false) ∧ (q < L.length → lt X (L.getD q (0, 0)) = true) ∧ wr.ownsRow B0 72 2 (.slice (some ⟨g, 0, none⟩) n c) n (flat encR rs) ∧ w.grownBy wr (some g)) (fun x y _ => (intOf y).toNat - (intOf x).toNat)
  case atStart => exact ⟨0, L.length, by go_num, by go_num, by omega, by omega, fun h => by omega, fun h => by omega, HO.out, grown_of_below (Below.refl w.heap.size w)⟩
  case round =>
    obtain ⟨p, q, rfl, rfl, hpq, hq, h1, h2, hown, hg⟩ := hrel
    have HO2 := Lib.hid hown; have HG2 := Lib.hid hg; have H1 := Lib.hid h1; have H2 := Lib.hid h2
    clear hown hg h1 h2 HO
    by_cases hlt : p < q
    · have q1 : decide ((a : Int) + (p : Int) < (a : Int) + (q : Int)) = true := decide_eq_true (by omega)
      obtain ⟨k, hk⟩ : ∃ k, k = (p + q) / 2 := ⟨_, rfl⟩
      have hkp : p ≤ k := by omega
      have hkq : k < q := by omega
      have hh : ((a : Int) + (p : Int) + ((a : Int) + (q : Int))) / 2 = (a : Int) + (k : Int) := by omega
      have hkR : k < L.length := by omega
      have e1 : rs = pre ++ (L ++ [X]) ++ post := by rw [HRS.out]; simp only [List.append_assoc]
      have g1 : (L ++ [X])[k]? = some (L.getD k (0, 0)) := by
        rw [List.getElem?_append_left hkR, List.getD_eq_getElem?_getD, List.getElem?_eq_getElem hkR]; rfl
      have g0 : (L ++ [X])[L.length]? = some X := by rw [List.getElem?_append_right (Nat.le_refl _), Nat.sub_self]; rfl
      have HO3 := HO2.out
      rw [e1] at HO3
      obtain ⟨c1, c1'⟩ := rec_cells HO3 (mid_at (post := post) ha g1)
      obtain ⟨c0, c0'⟩ := rec_cells HO3 (mid_at (post := post) ha g0)
      rw [hm] at c0 c0'
      obtain ⟨Y, hY⟩ : ∃ Y, L.getD k (0, 0) = Y := ⟨_, rfl⟩
      rw [hY] at c1 c1'
      have HY := Lib.hid hY
      have HK := Lib.hid hk
      clear hY g1 g0 HO3 e1 hk
      have HCK := Lib.hid (fun W hW => HCM.out X Y W (HIG.out W hW))
      have hcall := hcall (#[.agg #[.int .i64 X.1, .int .i64 X.2], .agg #[.int .i64 Y.1, .int .i64 Y.2]] ++ cp)
      obtain ⟨X1, X2⟩ := X
      obtain ⟨Y1, Y2⟩ := Y
      have t1 : ((a : Int) + (k : Int)).toNat = a + k := by omega
      have t0 : (m : Int).toNat = m := by omega
      have z0 : (0 : Int) ≤ (m : Int) := by omega
      have b0 : (0 : Int) ≤ (a : Int) + (k : Int) := by omega
      have b1 : (a : Int) + (k : Int) < (n : Int) := by omega
      have b2 : (m : Int) < (n : Int) := by omega
      go_wp2_with fail
      clear hh
      go_still_tail 9, (by kernel_rfl)
      go_wp2_with fail
      refine (HCK.out _ (grown_trans HG2.out (grown_of_below (Below.refl _ _).drew))).mono ?_
      rintro e w5 ⟨⟨nn, rfl, hnn⟩, hbc⟩
      have hbw : Below wr.heap.size wr w5 := (Below.refl _ _).drew.trans hbc
      have HO5 := Lib.hid (own_below HO2.out (Nat.le_refl _) hbw)
      have HG5 := Lib.hid (grown_trans HG2.out (grown_of_below hbw))
      clear hbc hbw HO2 HG2 HCK c1 c1' c0 c0'
      cases hyx : lt (X1, X2) (Y1, Y2)
      · have hz : decide (nn < 0) = false := by rw [hnn]; exact hyx
        have HYX := Lib.hid hyx
        clear hnn hyx
        go_wp2
        go_roundw
        case rel => exact ⟨k + 1, q, by go_num, rfl, by omega, by omega, fun _ => by rw [Nat.add_sub_cancel, HY.out]; exact HYX.out, H2.out, HO5.out, HG5.out⟩
        case measure => simp [intOf] <;> omega
      · have hz : decide (nn < 0) = true := by rw [hnn]; exact hyx
        have HYX := Lib.hid hyx
        clear hnn hyx
        go_wp2
        go_roundw
        case rel => exact ⟨p, k, rfl, by go_num, by omega, by omega, fun hh => H1.out hh, fun _ => by rw [HY.out]; exact HYX.out, HO5.out, HG5.out⟩
        case measure => simp [intOf] <;> omega
    · obtain rfl : p = q := by omega
      have q1 : decide ((a : Int) + (p : Int) < (a : Int) + (p : Int)) = false := decide_eq_false (by omega)
      have HM : Hid (Mg.mrg lt L [X] = Mg.insSt L X p []) := by
        show _ = _
        have hb0 : Mg.insSt L X p [] = L.take p ++ X :: L.drop p := by unfold Mg.insSt; rw [List.append_nil]
        rw [hb0]
        refine Mg.mrg_last (Mg.asc_take' S HA.out hq (fun h0 => ?_)) (Mg.asc_drop' S HA.out (fun h0 => ?_))
        · have := H1.out h0
          rw [List.getD_eq_getElem?_getD, List.getElem?_eq_getElem (by omega)] at this
          exact this
        · have := H2.out h0
          rw [List.getD_eq_getElem?_getD, List.getElem?_eq_getElem h0] at this
          exact this
      have HO3 : Hid (wr.ownsRow B0 72 2 (.slice (some ⟨g, 0, none⟩) n c) n (flat encR (pre ++ Mg.insSt L X L.length [] ++ post))) := by
        show World.ownsRow _ _ _ _ _ _ _
        rw [Mg.insSt_top]; have := HO2.out; rw [HRS.out] at this; simpa using this
      clear H1 H2 HO2
      obtain ⟨wo, rfl⟩ : ∃ wo : World, wo = wr := ⟨_, rfl⟩
      go_wp2
      go_loopw [17] (fun v wq => ∃ t : Nat, v = .int .i64 ((a : Int) + (t : Int)) ∧ p ≤ t ∧ t ≤ L.length ∧ wq.ownsRow B0 72 2 (.slice (some ⟨g, 0, none⟩) n c) n (flat encR (pre ++ Mg.insSt L X t [] ++ post)) ∧ w.grownBy wq (some g)) (fun v _ => (intOf v).toNat)
      case atStart => exact ⟨L.length, by go_num, by omega, by omega, HO3.out, HG2.out⟩
      case round =>
        obtain ⟨t, rfl, ht, htl, hown, hg⟩ := hrel
        have HO4 := Lib.hid hown; have HG4 := Lib.hid hg
        clear hown hg HO3 HG2
        by_cases htp : p < t
        · have q3 : decide ((a : Int) + (p : Int) < (a : Int) + (t : Int)) = true := decide_eq_true (by omega)
          obtain ⟨u, rfl⟩ : ∃ u, t = u + 1 := ⟨t - 1, by omega⟩
          have hu : u < L.length := by omega
          have hsl : (Mg.insSt L X (u + 1) ([] : List (Int × Int))).length = L.length + 1 := by rw [Mg.insSt_len htl]; rfl
          obtain ⟨i0, i0'⟩ := insR_at (R := []) (x := X) hu
          have hq1 : (pre ++ Mg.insSt L X (u + 1) [] ++ post).length = n := by simp only [List.length_append]; rw [hsl]; omega
          obtain ⟨d1, d1'⟩ := rec_cells HO4.out (mid_at (post := post) ha i0)
          obtain ⟨d2, d2'⟩ := rec_cells HO4.out (mid_at (post := post) ha i0')
          obtain ⟨Y, hY⟩ : ∃ Y, L.getD u (0, 0) = Y := ⟨_, rfl⟩
          have hrs : ((pre ++ Mg.insSt L X (u + 1) [] ++ post).set (a + (u + 1)) Y).set (a + u) X = pre ++ Mg.insSt L X u [] ++ post := by
            rw [mid_set ha (by rw [hsl]; omega), mid_set ha (by rw [List.length_set, hsl]; omega), List.set_comm _ _ (by omega), insR_stepD hu hY]
          rw [hY] at d1 d1'
          generalize pre ++ Mg.insSt L X (u + 1) [] ++ post = S at HO4 hq1 hrs
          clear hY i0 i0' hsl
          obtain ⟨X1, X2⟩ := X
          obtain ⟨Y1, Y2⟩ := Y
          have d1 : wr.drew.cell? ⟨g, (a + u) * 2, none⟩ = some (.int .i64 Y1) := d1
          have d1' : wr.drew.cell? ⟨g, (a + u) * 2 + 1, none⟩ = some (.int .i64 Y2) := d1'
          have d2 : wr.drew.cell? ⟨g, (a + (u + 1)) * 2, none⟩ = some (.int .i64 X1) := d2
          have d2' : wr.drew.cell? ⟨g, (a + (u + 1)) * 2 + 1, none⟩ = some (.int .i64 X2) := d2'
          have rf : ∀ o, wr.drew.frozen? ⟨g, o, none⟩ = false := fun o => HO4.out.frozenAt o
          have o1 := HO4.out.stored ((a + (u + 1)) * 2) (.int .i64 Y1)
          have o2 := o1.1.stored ((a + (u + 1)) * 2 + 1) (.int .i64 Y2)
          have o3 := o2.1.stored ((a + u) * 2) (.int .i64 X1)
          have o4 := o3.1.stored ((a + u) * 2 + 1) (.int .i64 X2)
          have i1 : (wr.setCell ⟨g, (a + (u + 1)) * 2, none⟩ (.int .i64 Y1)).drew.cell? ⟨g, (a + (u + 1)) * 2 + 1, none⟩ = some (.int .i64 X2) := (cell_far (by omega)).trans d2'
          have f1 : ∀ o, (wr.setCell ⟨g, (a + (u + 1)) * 2, none⟩ (.int .i64 Y1)).drew.frozen? ⟨g, o, none⟩ = false := fun o => o1.1.frozenAt o
          have i2 : ((wr.setCell ⟨g, (a + (u + 1)) * 2, none⟩ (.int .i64 Y1)).setCell ⟨g, (a + (u + 1)) * 2 + 1, none⟩ (.int .i64 Y2)).drew.cell? ⟨g, (a + u) * 2, none⟩ = some (.int .i64 Y1) := ((cell_far (by omega)).trans (cell_far (by omega))).trans d1
          have f2 : ∀ o, ((wr.setCell ⟨g, (a + (u + 1)) * 2, none⟩ (.int .i64 Y1)).setCell ⟨g, (a + (u + 1)) * 2 + 1, none⟩ (.int .i64 Y2)).drew.frozen? ⟨g, o, none⟩ = false := fun o => o2.1.frozenAt o
          have i3 : (((wr.setCell ⟨g, (a + (u + 1)) * 2, none⟩ (.int .i64 Y1)).setCell ⟨g, (a + (u + 1)) * 2 + 1, none⟩ (.int .i64 Y2)).setCell ⟨g, (a + u) * 2, none⟩ (.int .i64 X1)).drew.cell? ⟨g, (a + u) * 2 + 1, none⟩ = some (.int .i64 Y2) := (((cell_far (by omega)).trans (cell_far (by omega))).trans (cell_far (by omega))).trans d1'
          have f3 : ∀ o, (((wr.setCell ⟨g, (a + (u + 1)) * 2, none⟩ (.int .i64 Y1)).setCell ⟨g, (a + (u + 1)) * 2 + 1, none⟩ (.int .i64 Y2)).setCell ⟨g, (a + u) * 2, none⟩ (.int .i64 X1)).drew.frozen? ⟨g, o, none⟩ = false := fun o => o3.1.frozenAt o
          have hfl := flat_set2 encR_len S (a + (u + 1)) (by omega) (Y1, Y2) (.int .i64 Y1) (.int .i64 Y2) rfl
          have hfl2 := flat_set2 encR_len (S.set (a + (u + 1)) (Y1, Y2)) (a + u) (by rw [List.length_set]; omega) (X1, X2) (.int .i64 X1) (.int .i64 X2) rfl
          have h4 := o4.1
          rw [hfl, hfl2, hrs] at h4
          have HO9 := Lib.hid h4
          have HG9 := Lib.hid (grown_trans HG4.out (grown_trans o1.2 (grown_trans o2.2 (grown_trans o3.2 o4.2))))
          clear o1 o2 o3 o4 hfl hfl2 h4 hrs hq1
          have hcast : (a : Int) + ((u + 1 : Nat) : Int) = (a : Int) + (u : Int) + 1 := by omega
          have t0 : ((a : Int) + (u : Int)).toNat = a + u := by omega
          have t1 : ((a : Int) + (u : Int) + 1).toNat = a + (u + 1) := by omega
          have b0 : (0 : Int) ≤ (a : Int) + (u : Int) := by omega
          have b1 : (a : Int) + (u : Int) < (n : Int) := by omega
          have b2 : (a : Int) + (u : Int) + 1 < (n : Int) := by omega
          have b3 : (0 : Int) ≤ (a : Int) + (u : Int) + 1 := by omega
          have w1 : IntKind.i64.wrap ((a : Int) + (u : Int)) = (a : Int) + (u : Int) := IntWalk.i64_in _ (by omega)
          rw [hcast] at q3 ⊢
          go_wp2_with fail
          go_region_law (fail)
          all_goals
            generalize (((wr.setCell ⟨g, (a + (u + 1)) * 2, none⟩ (.int .i64 Y1)).setCell ⟨g, (a + (u + 1)) * 2 + 1, none⟩ (.int .i64 Y2)).setCell ⟨g, (a + u) * 2, none⟩ (.int .i64 X1)).setCell ⟨g, (a + u) * 2 + 1, none⟩ (.int .i64 X2) = w9 at HO9 HG9 ⊢
            clear i1 f1 i2 f2 i3 f3 rf d1 d1' d2 d2' HO4
            go_wp2
            go_roundw
            case rel => exact ⟨u, by go_num, by omega, by omega, HO9.out, grown_trans HG9.out (grown_of_below (Below.refl w9.heap.size w9).drew)⟩
            case measure => simp [intOf] <;> omega
        · obtain rfl : p = t := by omega
          rw [← HM.out] at HO4
          go_wp2
          refine bodyPost_ret (v := .tuple #[]) (by simp [results, Try.results185, go_sem]) rfl ⟨rfl, HO4.out, HG4.out⟩

end Go.Proofs.Ytkckmjajjdpodaa
