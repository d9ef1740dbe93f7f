/- Several texts in one: lemmas and walks of the functions that the law reaches. -/
import Derived.Test.YtmgkdokaaoeobaaY10

namespace Go.Proofs.Ytmgkdokaaoeobaa.GG
open Go.RowKit Go.Sort
set_option linter.unusedVariables false

set_option maxRecDepth 100000 in
set_option maxHeartbeats 8000000 in
theorem symMerge_one {I : World → Prop} {lt : G5 → G5 → Bool} (S : Mg.SW lt) {cv : Value} (B0 g c n : Nat) (pre R post rs : List (G5)) (X : G5) (a b : Nat) (w : World) (ha : pre.length = a) (hb : a + 1 + R.length = b) (hR : Mg.Asc lt R) (hrs : rs = pre ++ [X] ++ R ++ post) (hn : rs.length = n) (hn2 : n ≤ 1000) (hI : I w) (HCV : CmpIs I g lt cv)
    (h : w.ownsRow B0 34 5 (.slice (some ⟨g, 0, none⟩) n c) n (flat encG rs)) :
    Calls Try.prog 42 #[.slice (some ⟨g, 0, none⟩) n c, .int .i64 a, .int .i64 ((a : Int) + 1), .int .i64 b, cv] w fun e w' => e = .returned (.tuple #[]) ∧
      w'.ownsRow B0 34 5 (.slice (some ⟨g, 0, none⟩) n c) n (flat encG (pre ++ Mg.mrg lt [X] R ++ post)) ∧ w.grownBy w' (some g) := by
  have HO := Lib.hid h
  have hbn : b + post.length = n := by rw [← hn, hrs]; simp; omega
  have HRS := Lib.hid hrs
  have HA := Lib.hid hR
  clear h hn hrs hR
  have s1 : (a : Int) + 1 - (a : Int) = 1 := by omega
  obtain ⟨hIg, G, cp, rfl, hcall, hcmp⟩ := HCV
  have HCM := Lib.hid hcmp; have HIG := Lib.hid (fun w' => hIg w w' hI)
  clear hcmp hIg
  go_enter Try.func42, Try.ntmps42
  go_wp2
  go_loopw [10, 11] (fun x y wr => ∃ p q : Nat, x = .int .i64 ((a : Int) + 1 + (p : Int)) ∧ y = .int .i64 ((a : Int) + 1 + (q : Int)) ∧ p ≤ q ∧ q ≤ R.length ∧ (0 < p → lt (R.getD (p - 1) (0, 0, 0, 0, 0)) X = true) ∧ (q < R.length → lt (R.getD q (0, 0, 0, 0, 0)) X = false) ∧ wr.ownsRow B0 34 5 (.slice (some ⟨g, 0, none⟩) n c) n (flat encG rs) ∧ w.grownBy wr (some g)) (fun x y _ => (intOf y).toNat - (intOf x).toNat)
  case atStart => exact ⟨0, R.length, by go_num, by go_num, by omega, by omega, fun h => by omega, fun h => by omega, HO.out, grown_of_below (Below.refl w.heap.size w)⟩
  case round =>
    obtain ⟨p, q, rfl, rfl, hpq, hq, h1, h2, hown, hg⟩ := hrel
    have HO2 := Lib.hid hown; have HG2 := Lib.hid hg; have H1 := Lib.hid h1; have H2 := Lib.hid h2
    clear hown hg h1 h2 HO
    by_cases hlt : p < q
    · have q1 : decide ((a : Int) + 1 + (p : Int) < (a : Int) + 1 + (q : Int)) = true := decide_eq_true (by omega)
      obtain ⟨k, hk⟩ : ∃ k, k = (p + q) / 2 := ⟨_, rfl⟩
      have hkp : p ≤ k := by omega
      have hkq : k < q := by omega
      have hh : ((a : Int) + 1 + (p : Int) + ((a : Int) + 1 + (q : Int))) / 2 = (a : Int) + 1 + (k : Int) := by omega
      have hkR : k < R.length := by omega
      have e1 : rs = pre ++ ([X] ++ R) ++ post := by rw [HRS.out]; simp only [List.append_assoc]
      have g1 : ([X] ++ R)[1 + k]? = some (R.getD k (0, 0, 0, 0, 0)) := by
        rw [List.getElem?_append_right (by simp), List.length_singleton, show 1 + k - 1 = k by omega, List.getD_eq_getElem?_getD, List.getElem?_eq_getElem hkR]; rfl
      have g0 : ([X] ++ R)[0]? = some X := rfl
      have HO3 := HO2.out
      rw [e1] at HO3
      obtain ⟨c1, c1', c1b, c1c, c1e⟩ := rec_cells HO3 (mid_at (post := post) ha g1)
      obtain ⟨c0, c0', c0b, c0c, c0e⟩ := rec_cells HO3 (mid_at (post := post) ha g0)
      rw [Nat.add_zero] at c0 c0' c0b c0c c0e
      have HG : Hid (R.getD k (0, 0, 0, 0, 0) = R.getD k (0, 0, 0, 0, 0)) := Lib.hid rfl
      obtain ⟨Y, hY⟩ : ∃ Y, R.getD k (0, 0, 0, 0, 0) = Y := ⟨_, rfl⟩
      rw [hY] at c1 c1' c1b c1c c1e
      have HY := Lib.hid hY
      have HK := Lib.hid hk
      clear hY g1 g0 HO3 e1 HG hk
      have HCK := Lib.hid (fun W hW => HCM.out Y X W (HIG.out W hW))
      have hcall := hcall (#[.agg #[.int .i64 Y.1, .int .i64 Y.2.1, .int .i64 Y.2.2.1, .int .i64 Y.2.2.2.1, .int .i64 Y.2.2.2.2], .agg #[.int .i64 X.1, .int .i64 X.2.1, .int .i64 X.2.2.1, .int .i64 X.2.2.2.1, .int .i64 X.2.2.2.2]] ++ cp)
      obtain ⟨X1, X2, X3, X4, X5⟩ := X
      obtain ⟨Y1, Y2, Y3, Y4, Y5⟩ := Y
      have t1 : ((a : Int) + 1 + (k : Int)).toNat = a + (1 + k) := by omega
      have b0 : (0 : Int) ≤ (a : Int) + 1 + (k : Int) := by omega
      have b1 : (a : Int) + 1 + (k : Int) < (n : Int) := by omega
      have b2 : (a : Int) < (n : Int) := by omega
      go_wp2_with fail
      clear hh
      have c0 : wr.cell? ⟨g, a * 5, none⟩ = some (.int .i64 X1) := c0
      have c0' : wr.cell? ⟨g, a * 5 + 1, none⟩ = some (.int .i64 X2) := c0'
      have c0b : wr.cell? ⟨g, a * 5 + 2, none⟩ = some (.int .i64 X3) := c0b
      have c0c : wr.cell? ⟨g, a * 5 + 3, none⟩ = some (.int .i64 X4) := c0c
      have c0e : wr.cell? ⟨g, a * 5 + 4, none⟩ = some (.int .i64 X5) := c0e
      have t0 : ((a : Int)).toNat = a := by omega
      have z0 : (0 : Int) ≤ (a : Int) := by omega
      go_still_tail 9, (by kernel_rfl)
      go_wp2_with fail
      refine (HCK.out _ (grown_trans HG2.out (grown_of_below (Below.refl _ _).drew))).mono ?_
      rintro e w5 ⟨⟨nn, rfl, hnn⟩, hbc⟩
      have hbw : Below wr.heap.size wr w5 := (Below.refl _ _).drew.trans hbc
      have HO5 := Lib.hid (own_below HO2.out (Nat.le_refl _) hbw)
      have HG5 := Lib.hid (grown_trans HG2.out (grown_of_below hbw))
      clear hbc hbw HO2 HG2 HCK c1 c1' c1b c1c c1e c0 c0' c0b c0c c0e
      cases hyx : lt (Y1, Y2, Y3, Y4, Y5) (X1, X2, X3, X4, X5)
      · have hz : decide (nn < 0) = false := by rw [hnn]; exact hyx
        have HYX := Lib.hid hyx
        clear hnn hyx
        go_wp2
        go_roundw
        case rel => exact ⟨p, k, rfl, by go_num, by omega, by omega, H1.out, fun _ => by rw [HY.out]; exact HYX.out, HO5.out, HG5.out⟩
        case measure => simp [intOf] <;> omega
      · have hz : decide (nn < 0) = true := by rw [hnn]; exact hyx
        have HYX := Lib.hid hyx
        clear hnn hyx
        go_wp2
        go_roundw
        case rel => exact ⟨k + 1, q, by go_num, rfl, by omega, by omega, fun _ => by rw [Nat.add_sub_cancel, HY.out]; exact HYX.out, fun hh => H2.out hh, HO5.out, HG5.out⟩
        case measure => simp [intOf] <;> omega
    · obtain rfl : p = q := by omega
      have q1 : decide ((a : Int) + 1 + (p : Int) < (a : Int) + 1 + (p : Int)) = false := decide_eq_false (by omega)
      have HM : Hid (Mg.mrg lt [X] R = Mg.upSt X R p) := by
        show _ = _
        refine Mg.mrg_one (Mg.asc_take S HA.out hq (fun h0 => ?_)) (Mg.asc_drop S HA.out (fun h0 => ?_))
        · have := H1.out h0
          rw [List.getD_eq_getElem?_getD, List.getElem?_eq_getElem (by omega)] at this
          exact this
        · have := H2.out h0
          rw [List.getD_eq_getElem?_getD, List.getElem?_eq_getElem h0] at this
          exact this
      have HO3 : Hid (wr.ownsRow B0 34 5 (.slice (some ⟨g, 0, none⟩) n c) n (flat encG (pre ++ Mg.upSt X R 0 ++ post))) := by
        show World.ownsRow _ _ _ _ _ _ _
        rw [Mg.upSt_zero]; have := HO2.out; rw [HRS.out] at this; simpa using this
      clear H1 H2 HO2
      obtain ⟨wo, rfl⟩ : ∃ wo : World, wo = wr := ⟨_, rfl⟩
      go_wp2
      go_loopw [13] (fun v wq => ∃ t : Nat, v = .int .i64 ((a : Int) + (t : Int)) ∧ t ≤ p ∧ wq.ownsRow B0 34 5 (.slice (some ⟨g, 0, none⟩) n c) n (flat encG (pre ++ Mg.upSt X R t ++ post)) ∧ w.grownBy wq (some g)) (fun v _ => a + p - (intOf v).toNat)
      case atStart => exact ⟨0, by go_num, by omega, HO3.out, HG2.out⟩
      case round =>
        obtain ⟨t, rfl, ht, hown, hg⟩ := hrel
        have HO4 := Lib.hid hown; have HG4 := Lib.hid hg
        clear hown hg HO3 HG2
        by_cases htp : t < p
        · have q3 : decide ((a : Int) + (t : Int) < (a : Int) + 1 + (p : Int) - 1) = true := decide_eq_true (by omega)
          have htR : t < R.length := by omega
          obtain ⟨g1, g2, g3⟩ := Mg.upSt_step (x := X) (pre := pre) (post := post) htR ha
          have hq1 : (pre ++ Mg.upSt X R t ++ post).length = n := by unfold Mg.upSt; simp only [List.length_append, List.length_cons, List.length_take, List.length_drop]; omega
          obtain ⟨d1, d1', d1b, d1c, d1e⟩ := rec_cells HO4.out g1
          obtain ⟨d2, d2', d2b, d2c, d2e⟩ := rec_cells HO4.out g2
          generalize R[t] = Y at d2 d2' d2b d2c d2e g3
          generalize pre ++ Mg.upSt X R t ++ post = S at HO4 hq1 g3
          obtain ⟨X1, X2, X3, X4, X5⟩ := X
          obtain ⟨Y1, Y2, Y3, Y4, Y5⟩ := Y
          have d1 : wr.drew.cell? ⟨g, (a + t) * 5, none⟩ = some (.int .i64 X1) := d1
          have d1' : wr.drew.cell? ⟨g, (a + t) * 5 + 1, none⟩ = some (.int .i64 X2) := d1'
          have d1b : wr.drew.cell? ⟨g, (a + t) * 5 + 2, none⟩ = some (.int .i64 X3) := d1b
          have d1c : wr.drew.cell? ⟨g, (a + t) * 5 + 3, none⟩ = some (.int .i64 X4) := d1c
          have d1e : wr.drew.cell? ⟨g, (a + t) * 5 + 4, none⟩ = some (.int .i64 X5) := d1e
          have d2 : wr.drew.cell? ⟨g, (a + t + 1) * 5, none⟩ = some (.int .i64 Y1) := d2
          have d2' : wr.drew.cell? ⟨g, (a + t + 1) * 5 + 1, none⟩ = some (.int .i64 Y2) := d2'
          have d2b : wr.drew.cell? ⟨g, (a + t + 1) * 5 + 2, none⟩ = some (.int .i64 Y3) := d2b
          have d2c : wr.drew.cell? ⟨g, (a + t + 1) * 5 + 3, none⟩ = some (.int .i64 Y4) := d2c
          have d2e : wr.drew.cell? ⟨g, (a + t + 1) * 5 + 4, none⟩ = some (.int .i64 Y5) := d2e
          have HK1 := Lib.hid (putK HO4.out ((a + t)) (by omega))
          have HK2 := Lib.hid (putK2 HO4.out ((a + t)) ((a + t + 1)) (Y1, Y2, Y3, Y4, Y5) (by rw [List.length_set]; omega))
          have HEQ := Lib.hid (g3)
          have HGX := Lib.hid HG4.out
          clear g1 g2 g3 hq1
          have t1 : ((a : Int) + (t : Int)).toNat = a + t := by omega
          have t2 : ((a : Int) + (t : Int) + 1).toNat = a + t + 1 := by omega
          have b0 : (0 : Int) ≤ (a : Int) + (t : Int) := by omega
          have b1 : (a : Int) + (t : Int) < (n : Int) := by omega
          have b2 : (0 : Int) ≤ (a : Int) + (t : Int) + 1 := by omega
          have b3 : (a : Int) + (t : Int) + 1 < (n : Int) := by omega
          have w1 : IntKind.i64.wrap ((a : Int) + (t : Int) + 1) = (a : Int) + (t : Int) + 1 := IntWalk.i64_in _ (by omega)
          go_wp2_with fail
          have HROW : Hid (GRow wr.drew B0 g c n (S)) := HO4.out
          refine wp_with_act (fun fr hfr => ?_)
          have hsze : fr.tmps.size = 220 := by rw [hfr]; rfl
          have f0 : fr.eval (.tmp 0) = .slice (some ⟨g, 0, none⟩) n c := by rw [hfr]; rfl
          have f13 : fr.eval (.tmp 13) = .int .i64 ((a : Int) + (t : Int)) := by rw [hfr]; rfl
          refine wp_region_held_drew (S := fun _ => True) (by kernel_rfl) trivial (fun _ => ?_)
          obtain ⟨SL, hSL⟩ : ∃ l : List (Nat × Nat), l = [(0, 61), (1, 62), (2, 63), (3, 64), (4, 65), (5, 66), (6, 67), (7, 68), (8, 69), (9, 70), (10, 71), (11, 72), (12, 73), (13, 74), (14, 75), (16, 76)] := ⟨_, rfl⟩
          obtain ⟨VL, hVL⟩ : ∃ l : List (Nat × Value), l = [(0, .slice (some ⟨g, 0, none⟩) n c), (1, .int .i64 ((a : Int) + (t : Int))), (2, .slice (some ⟨g, 0, none⟩) n c), (3, .int .i64 ((a : Int) + (t : Int))), (4, .int .i64 (((a : Int) + (t : Int)) + 1)), (5, .slice (some ⟨g, 0, none⟩) n c), (6, .int .i64 ((a : Int) + (t : Int))), (7, .int .i64 (((a : Int) + (t : Int)) + 1)), (8, .pointer (some ⟨g, (a + t + 1) * 5, none⟩)), (9, .agg #[.int .i64 Y1, .int .i64 Y2, .int .i64 Y3, .int .i64 Y4, .int .i64 Y5]), (10, .slice (some ⟨g, 0, none⟩) n c), (11, .int .i64 ((a : Int) + (t : Int))), (12, .pointer (some ⟨g, (a + t) * 5, none⟩)), (13, .agg #[.int .i64 X1, .int .i64 X2, .int .i64 X3, .int .i64 X4, .int .i64 X5]), (14, .pointer (some ⟨g, (a + t) * 5, none⟩)), (16, .pointer (some ⟨g, (a + t + 1) * 5, none⟩))] := ⟨_, rfl⟩
          have hN1 : (SL.map Prod.fst).Nodup := by rw [hSL]; decide
          have hN2 : (SL.map Prod.snd).Nodup := by rw [hSL]; decide
          have M0 := vm_of hSL 0 rfl
          have E61 := eval_of hN2 M0 hsze rfl
          have M1 := vm_of hSL 1 rfl
          have E62 := eval_of hN2 M1 hsze rfl
          have M2 := vm_of hSL 2 rfl
          have E63 := eval_of hN2 M2 hsze rfl
          have M3 := vm_of hSL 3 rfl
          have E64 := eval_of hN2 M3 hsze rfl
          have M4 := vm_of hSL 4 rfl
          have E65 := eval_of hN2 M4 hsze rfl
          have M5 := vm_of hSL 5 rfl
          have E66 := eval_of hN2 M5 hsze rfl
          have M6 := vm_of hSL 6 rfl
          have E67 := eval_of hN2 M6 hsze rfl
          have M7 := vm_of hSL 7 rfl
          have E68 := eval_of hN2 M7 hsze rfl
          have M8 := vm_of hSL 8 rfl
          have E69 := eval_of hN2 M8 hsze rfl
          have M9 := vm_of hSL 9 rfl
          have E70 := eval_of hN2 M9 hsze rfl
          have M10 := vm_of hSL 10 rfl
          have E71 := eval_of hN2 M10 hsze rfl
          have M11 := vm_of hSL 11 rfl
          have E72 := eval_of hN2 M11 hsze rfl
          have M12 := vm_of hSL 12 rfl
          have E73 := eval_of hN2 M12 hsze rfl
          have M13 := vm_of hSL 13 rfl
          have E74 := eval_of hN2 M13 hsze rfl
          have M14 := vm_of hSL 14 rfl
          have E75 := eval_of hN2 M14 hsze rfl
          have M16 := vm_of hSL 16 rfl
          have E76 := eval_of hN2 M16 hsze rfl
          have E0 := eval_ofB hSL f0 rfl
          have E13 := eval_ofB hSL f13 rfl
          have VM0 := vm_of hVL 0 rfl
          have VU0 := vu_of hVL 0 rfl rfl
          have VM1 := vm_of hVL 1 rfl
          have VU1 := vu_of hVL 1 rfl rfl
          have VM2 := vm_of hVL 2 rfl
          have VU2 := vu_of hVL 2 rfl rfl
          have VM3 := vm_of hVL 3 rfl
          have VU3 := vu_of hVL 3 rfl rfl
          have VM4 := vm_of hVL 4 rfl
          have VU4 := vu_of hVL 4 rfl rfl
          have VM5 := vm_of hVL 5 rfl
          have VU5 := vu_of hVL 5 rfl rfl
          have VM6 := vm_of hVL 6 rfl
          have VU6 := vu_of hVL 6 rfl rfl
          have VM7 := vm_of hVL 7 rfl
          have VU7 := vu_of hVL 7 rfl rfl
          have VM8 := vm_of hVL 8 rfl
          have VU8 := vu_of hVL 8 rfl rfl
          have VM9 := vm_of hVL 9 rfl
          have VU9 := vu_of hVL 9 rfl rfl
          have VM10 := vm_of hVL 10 rfl
          have VU10 := vu_of hVL 10 rfl rfl
          have VM11 := vm_of hVL 11 rfl
          have VU11 := vu_of hVL 11 rfl rfl
          have VM12 := vm_of hVL 12 rfl
          have VU12 := vu_of hVL 12 rfl rfl
          have VM13 := vm_of hVL 13 rfl
          have VU13 := vu_of hVL 13 rfl rfl
          have VM14 := vm_of hVL 14 rfl
          have VU14 := vu_of hVL 14 rfl rfl
          have VM16 := vm_of hVL 16 rfl
          have VU16 := vu_of hVL 16 rfl rfl
          have VN15 := vn_of hVL 15 rfl
          have VN17 := vn_of hVL 17 rfl
          have hste : fr = puts fr (x0 fr SL) SL := puts_x0 fr SL (by rw [hSL]; decide)
          clear hVL
          refine wpAnyH_inv2 (JV fr SL VL (KS2 (fun W => W = wr.drew) (fun W => GRow W B0 g c n ((S).set (a + t) (Y1, Y2, Y3, Y4, Y5)) ∧ wr.drew.grownBy W (some g)) (fun W => GRow W B0 g c n (((S).set (a + t) (Y1, Y2, Y3, Y4, Y5)).set (a + t + 1) (X1, X2, X3, X4, X5)) ∧ wr.drew.grownBy W (some g)) 15 17)) (by kernel_rfl) ?stepse ?donee _ _ ?starte
          case starte => exact ⟨_, hste, VOK.start _ _ _, KS2.start rfl⟩
          case stepse =>
            clear hste hSL hfr
            refine ⟨?_, ?_, ?_, ?_, ?_, ?_, ?_, ?_, ?_, ?_, ?_, ?_, ?_, ?_, ?_, ?_, ?_, ?_, trivial⟩
            all_goals
              rintro LB ac w' hs hu haf hcl ⟨x, rfl, hv, hk⟩ K hK
            · have r0 := E0 x
              rw [if_pos (by rfl)]
              refine wp_val (v := .slice (some ⟨g, 0, none⟩) n c) ?_ (hK _ _ (jv_set (by rw [hs]; decide) (x := upd x 0 _) (puts_set SL fr hN1 hN2 M0) (hv.val 0 _ VU0) (hk.quiet 0 (by decide) (by decide))))
              generalize (puts fr x SL).eval = ρ at r0 ⊢; go_simp
            · have r13 := E13 x
              rw [if_pos (by rfl)]
              refine wp_val (v := .int .i64 ((a : Int) + (t : Int))) ?_ (hK _ _ (jv_set (by rw [hs]; decide) (x := upd x 1 _) (puts_set SL fr hN1 hN2 M1) (hv.val 1 _ VU1) (hk.quiet 1 (by decide) (by decide))))
              generalize (puts fr x SL).eval = ρ at r13 ⊢; go_simp
            · have r0 := E0 x
              rw [if_pos (by rfl)]
              refine wp_val (v := .slice (some ⟨g, 0, none⟩) n c) ?_ (hK _ _ (jv_set (by rw [hs]; decide) (x := upd x 2 _) (puts_set SL fr hN1 hN2 M2) (hv.val 2 _ VU2) (hk.quiet 2 (by decide) (by decide))))
              generalize (puts fr x SL).eval = ρ at r0 ⊢; go_simp
            · have r13 := E13 x
              rw [if_pos (by rfl)]
              refine wp_val (v := .int .i64 ((a : Int) + (t : Int))) ?_ (hK _ _ (jv_set (by rw [hs]; decide) (x := upd x 3 _) (puts_set SL fr hN1 hN2 M3) (hv.val 3 _ VU3) (hk.quiet 3 (by decide) (by decide))))
              generalize (puts fr x SL).eval = ρ at r13 ⊢; go_simp
            · have r64 := (E64 x).trans (hv _ VM3 (haf ⟨3, .data⟩ (by simp) rfl))
              have rc0 : (puts fr x SL).eval (.const (.int .i64 1)) = .int .i64 1 := rfl
              rw [if_pos (by rfl)]
              refine wp_val (v := .int .i64 (((a : Int) + (t : Int)) + 1)) ?_ (hK _ _ (jv_set (by rw [hs]; decide) (x := upd x 4 _) (puts_set SL fr hN1 hN2 M4) (hv.val 4 _ VU4) (hk.quiet 4 (by decide) (by decide))))
              generalize (puts fr x SL).eval = ρ at r64 rc0 ⊢; go_simp
            · have r0 := E0 x
              rw [if_pos (by rfl)]
              refine wp_val (v := .slice (some ⟨g, 0, none⟩) n c) ?_ (hK _ _ (jv_set (by rw [hs]; decide) (x := upd x 5 _) (puts_set SL fr hN1 hN2 M5) (hv.val 5 _ VU5) (hk.quiet 5 (by decide) (by decide))))
              generalize (puts fr x SL).eval = ρ at r0 ⊢; go_simp
            · have r13 := E13 x
              rw [if_pos (by rfl)]
              refine wp_val (v := .int .i64 ((a : Int) + (t : Int))) ?_ (hK _ _ (jv_set (by rw [hs]; decide) (x := upd x 6 _) (puts_set SL fr hN1 hN2 M6) (hv.val 6 _ VU6) (hk.quiet 6 (by decide) (by decide))))
              generalize (puts fr x SL).eval = ρ at r13 ⊢; go_simp
            · have r67 := (E67 x).trans (hv _ VM6 (haf ⟨6, .data⟩ (by simp) rfl))
              have rc0 : (puts fr x SL).eval (.const (.int .i64 1)) = .int .i64 1 := rfl
              rw [if_pos (by rfl)]
              refine wp_val (v := .int .i64 (((a : Int) + (t : Int)) + 1)) ?_ (hK _ _ (jv_set (by rw [hs]; decide) (x := upd x 7 _) (puts_set SL fr hN1 hN2 M7) (hv.val 7 _ VU7) (hk.quiet 7 (by decide) (by decide))))
              generalize (puts fr x SL).eval = ρ at r67 rc0 ⊢; go_simp
            · have r66 := (E66 x).trans (hv _ VM5 (haf ⟨5, .data⟩ (by simp) rfl))
              have r68 := (E68 x).trans (hv _ VM7 (haf ⟨7, .data⟩ (by simp) rfl))
              rw [if_pos (by rfl)]
              refine wp_val (v := .pointer (some ⟨g, (a + t + 1) * 5, none⟩)) ?_ (hK _ _ (jv_set (by rw [hs]; decide) (x := upd x 8 _) (puts_set SL fr hN1 hN2 M8) (hv.val 8 _ VU8) (hk.quiet 8 (by decide) (by decide))))
              generalize (puts fr x SL).eval = ρ at r66 r68 ⊢; go_simp
            · have r69 := (E69 x).trans (hv _ VM8 (haf ⟨8, .data⟩ (by simp) rfl))
              have hlast : LB.getD 15 false = false := by
                cases h : LB.getD 15 false with
                | false => rfl
                | true => exact absurd (hcl 15 _ rfl h ⟨9, .data⟩ (by simp) rfl) (by rw [hu]; decide)
              have s0 := hk.1 hlast
              subst s0
              rw [if_pos (by rfl)]
              refine wp_val (v := .agg #[.int .i64 Y1, .int .i64 Y2, .int .i64 Y3, .int .i64 Y4, .int .i64 Y5]) ?_ (hK _ _ (jv_set (by rw [hs]; decide) (x := upd x 9 _) (puts_set SL fr hN1 hN2 M9) (hv.val 9 _ VU9) (hk.quiet 9 (by decide) (by decide))))
              generalize (puts fr x SL).eval = ρ at r69 ⊢; go_simp
            · have r0 := E0 x
              rw [if_pos (by rfl)]
              refine wp_val (v := .slice (some ⟨g, 0, none⟩) n c) ?_ (hK _ _ (jv_set (by rw [hs]; decide) (x := upd x 10 _) (puts_set SL fr hN1 hN2 M10) (hv.val 10 _ VU10) (hk.quiet 10 (by decide) (by decide))))
              generalize (puts fr x SL).eval = ρ at r0 ⊢; go_simp
            · have r13 := E13 x
              rw [if_pos (by rfl)]
              refine wp_val (v := .int .i64 ((a : Int) + (t : Int))) ?_ (hK _ _ (jv_set (by rw [hs]; decide) (x := upd x 11 _) (puts_set SL fr hN1 hN2 M11) (hv.val 11 _ VU11) (hk.quiet 11 (by decide) (by decide))))
              generalize (puts fr x SL).eval = ρ at r13 ⊢; go_simp
            · have r71 := (E71 x).trans (hv _ VM10 (haf ⟨10, .data⟩ (by simp) rfl))
              have r72 := (E72 x).trans (hv _ VM11 (haf ⟨11, .data⟩ (by simp) rfl))
              rw [if_pos (by rfl)]
              refine wp_val (v := .pointer (some ⟨g, (a + t) * 5, none⟩)) ?_ (hK _ _ (jv_set (by rw [hs]; decide) (x := upd x 12 _) (puts_set SL fr hN1 hN2 M12) (hv.val 12 _ VU12) (hk.quiet 12 (by decide) (by decide))))
              generalize (puts fr x SL).eval = ρ at r71 r72 ⊢; go_simp
            · have r73 := (E73 x).trans (hv _ VM12 (haf ⟨12, .data⟩ (by simp) rfl))
              have hlast : LB.getD 15 false = false := by
                cases h : LB.getD 15 false with
                | false => rfl
                | true => exact absurd (hcl 15 _ rfl h ⟨13, .phase⟩ (by simp) rfl) (by rw [hu]; decide)
              have s0 := hk.1 hlast
              subst s0
              rw [if_pos (by rfl)]
              refine wp_val (v := .agg #[.int .i64 X1, .int .i64 X2, .int .i64 X3, .int .i64 X4, .int .i64 X5]) ?_ (hK _ _ (jv_set (by rw [hs]; decide) (x := upd x 13 _) (puts_set SL fr hN1 hN2 M13) (hv.val 13 _ VU13) (hk.quiet 13 (by decide) (by decide))))
              generalize (puts fr x SL).eval = ρ at r73 ⊢; go_simp
            · have r61 := (E61 x).trans (hv _ VM0 (haf ⟨0, .data⟩ (by simp) rfl))
              have r62 := (E62 x).trans (hv _ VM1 (haf ⟨1, .data⟩ (by simp) rfl))
              rw [if_pos (by rfl)]
              refine wp_val (v := .pointer (some ⟨g, (a + t) * 5, none⟩)) ?_ (hK _ _ (jv_set (by rw [hs]; decide) (x := upd x 14 _) (puts_set SL fr hN1 hN2 M14) (hv.val 14 _ VU14) (hk.quiet 14 (by decide) (by decide))))
              generalize (puts fr x SL).eval = ρ at r61 r62 ⊢; go_simp
            · have r75 := (E75 x).trans (hv _ VM14 (haf ⟨14, .data⟩ (by simp) rfl))
              have r70 := (E70 x).trans (hv _ VM9 (haf ⟨9, .data⟩ (by simp) rfl))
              rw [if_pos (by rfl)]
              have hj : LB.getD 17 false = false := by
                cases h : LB.getD 17 false with
                | false => rfl
                | true => exact absurd (hcl 17 _ rfl h ⟨15, .chain⟩ (by simp) rfl) (by rw [hu]; decide)
              have s0 := hk.1 hu
              subst s0
              refine wp_putX slGrp _ _ rfl encG encG_len encG_one (a + t) (Y1, Y2, Y3, Y4, Y5) r75 (by rw [r70]; rfl) HROW.out HK1.out.1 HK1.out.2 (fun w2 ho hg => ?_)
              exact hK _ _ (jv_set (by rw [hs]; decide) (x := x) rfl (hv.none 15 VN15) (hk.first (by decide) hj ⟨ho, hg⟩))
            · have r63 := (E63 x).trans (hv _ VM2 (haf ⟨2, .data⟩ (by simp) rfl))
              have r65 := (E65 x).trans (hv _ VM4 (haf ⟨4, .data⟩ (by simp) rfl))
              rw [if_pos (by rfl)]
              refine wp_val (v := .pointer (some ⟨g, (a + t + 1) * 5, none⟩)) ?_ (hK _ _ (jv_set (by rw [hs]; decide) (x := upd x 16 _) (puts_set SL fr hN1 hN2 M16) (hv.val 16 _ VU16) (hk.quiet 16 (by decide) (by decide))))
              generalize (puts fr x SL).eval = ρ at r63 r65 ⊢; go_simp
            · have r76 := (E76 x).trans (hv _ VM16 (haf ⟨16, .data⟩ (by simp) rfl))
              have r74 := (E74 x).trans (hv _ VM13 (haf ⟨13, .data⟩ (by simp) rfl))
              rw [if_pos (by rfl)]
              have hi : LB.getD 15 false = true := haf ⟨15, .chain⟩ (by simp) rfl
              refine wp_putX slGrp _ _ rfl encG encG_len encG_one (a + t + 1) (X1, X2, X3, X4, X5) r76 (by rw [r74]; rfl) (hk.2.1 hi hu).1 HK2.out.1 HK2.out.2 (fun w2 ho hg => ?_)
              exact hK _ _ (jv_set (by rw [hs]; decide) (x := x) rfl (hv.none 17 VN17) (hk.second (by decide) hi ⟨ho, grown_trans (hk.2.1 hi hu).2 hg⟩))
          case donee =>
            rintro LB ac w2 hall ⟨x, rfl, hv, hk⟩
            have v0 : x 0 = .slice (some ⟨g, 0, none⟩) n c := hv _ VM0 (hall 0 (by decide))
            have v1 : x 1 = .int .i64 ((a : Int) + (t : Int)) := hv _ VM1 (hall 1 (by decide))
            have v2 : x 2 = .slice (some ⟨g, 0, none⟩) n c := hv _ VM2 (hall 2 (by decide))
            have v3 : x 3 = .int .i64 ((a : Int) + (t : Int)) := hv _ VM3 (hall 3 (by decide))
            have v4 : x 4 = .int .i64 (((a : Int) + (t : Int)) + 1) := hv _ VM4 (hall 4 (by decide))
            have v5 : x 5 = .slice (some ⟨g, 0, none⟩) n c := hv _ VM5 (hall 5 (by decide))
            have v6 : x 6 = .int .i64 ((a : Int) + (t : Int)) := hv _ VM6 (hall 6 (by decide))
            have v7 : x 7 = .int .i64 (((a : Int) + (t : Int)) + 1) := hv _ VM7 (hall 7 (by decide))
            have v8 : x 8 = .pointer (some ⟨g, (a + t + 1) * 5, none⟩) := hv _ VM8 (hall 8 (by decide))
            have v9 : x 9 = .agg #[.int .i64 Y1, .int .i64 Y2, .int .i64 Y3, .int .i64 Y4, .int .i64 Y5] := hv _ VM9 (hall 9 (by decide))
            have v10 : x 10 = .slice (some ⟨g, 0, none⟩) n c := hv _ VM10 (hall 10 (by decide))
            have v11 : x 11 = .int .i64 ((a : Int) + (t : Int)) := hv _ VM11 (hall 11 (by decide))
            have v12 : x 12 = .pointer (some ⟨g, (a + t) * 5, none⟩) := hv _ VM12 (hall 12 (by decide))
            have v13 : x 13 = .agg #[.int .i64 X1, .int .i64 X2, .int .i64 X3, .int .i64 X4, .int .i64 X5] := hv _ VM13 (hall 13 (by decide))
            have v14 : x 14 = .pointer (some ⟨g, (a + t) * 5, none⟩) := hv _ VM14 (hall 14 (by decide))
            have v16 : x 16 = .pointer (some ⟨g, (a + t + 1) * 5, none⟩) := hv _ VM16 (hall 16 (by decide))
            obtain ⟨ho9, hg9⟩ := hk.2.2 (hall 17 (by decide))
            rw [hSL]
            simp only [puts]
            clear M0 E61 M1 E62 M2 E63 M3 E64 M4 E65 M5 E66 M6 E67 M7 E68 M8 E69 M9 E70 M10 E71 M11 E72 M12 E73 M13 E74 M14 E75 M16 E76 E0 E13 f0 f13 VM0 VU0 VM1 VU1 VM2 VU2 VM3 VU3 VM4 VU4 VM5 VU5 VM6 VU6 VM7 VU7 VM8 VU8 VM9 VU9 VM10 VU10 VM11 VU11 VM12 VU12 VM13 VU13 VM14 VU14 VM16 VU16 VN15 VN17 hN1 hN2 hste hsze
            clear hall hv v0 v1 v2 v3 v4 v5 v6 v7 v8 v9 v10 v11 v12 v13 v14 v16
            rw [hfr]
            simp only [Act.put, List.setIfInBounds_toArray, List.set_cons_succ, List.set_cons_zero]
            clear hfr hSL
            rw [HEQ.out] at ho9
            have HO9 := Lib.hid ho9
            have HG9 := Lib.hid (grown_trans HGX.out (grown_trans (grown_of_below (Below.refl _ _).drew) hg9))
            clear ho9 hg9 hk
            clear d1 d1' d1b d1c d1e d2 d2' d2b d2c d2e HO4
            go_wp2
            go_roundw
            case rel => exact ⟨t + 1, by go_num, by omega, HO9.out, HG9.out⟩
            case measure => simp [intOf] <;> omega
        · obtain rfl : t = p := by omega
          have q3 : decide ((a : Int) + (t : Int) < (a : Int) + 1 + (t : Int) - 1) = false := decide_eq_false (by omega)
          rw [← HM.out] at HO4
          go_wp2
          refine bodyPost_ret (v := .tuple #[]) (by simp [results, Try.results42, go_sem]) rfl ⟨rfl, HO4.out, HG4.out⟩

end Go.Proofs.Ytmgkdokaaoeobaa.GG

namespace Go.Proofs.Ytmgkdokaaoeobaa.GG
open Go.RowKit Go.Sort
set_option linter.unusedVariables false

set_option maxRecDepth 100000 in
set_option maxHeartbeats 8000000 in
theorem symMerge_last {I : World → Prop} {lt : G5 → G5 → Bool} (S : Mg.SW lt) {cv : Value} (B0 g c n : Nat) (pre L post rs : List (G5)) (X : G5) (a m : Nat) (w : World) (ha : pre.length = a) (hm : a + L.length = m) (hL1 : L.length ≠ 1) (hL : Mg.Asc lt L) (hrs : rs = pre ++ L ++ [X] ++ post) (hn : rs.length = n) (hn2 : n ≤ 1000) (hI : I w) (HCV : CmpIs I g lt cv)
    (h : w.ownsRow B0 34 5 (.slice (some ⟨g, 0, none⟩) n c) n (flat encG rs)) :
    Calls Try.prog 42 #[.slice (some ⟨g, 0, none⟩) n c, .int .i64 a, .int .i64 m, .int .i64 ((m : Int) + 1), cv] w fun e w' => e = .returned (.tuple #[]) ∧
      w'.ownsRow B0 34 5 (.slice (some ⟨g, 0, none⟩) n c) n (flat encG (pre ++ Mg.mrg lt L [X] ++ post)) ∧ w.grownBy w' (some g) := by
  have HO := Lib.hid h
  have hbn : m + 1 + post.length = n := by rw [← hn, hrs]; simp; omega
  have HRS := Lib.hid hrs
  have HA := Lib.hid hL
  clear h hn hrs hL
  have s1 : (m : Int) + 1 - (m : Int) = 1 := by omega
  have s0 : ((m : Int) - (a : Int) == 1) = false := by simp; omega
  have s2 : IntKind.i64.wrap ((m : Int) - (a : Int)) = (m : Int) - (a : Int) := IntWalk.i64_in _ (by omega)
  obtain ⟨hIg, G, cp, rfl, hcall, hcmp⟩ := HCV
  have HCM := Lib.hid hcmp; have HIG := Lib.hid (fun w' => hIg w w' hI)
  clear hcmp hIg
  go_enter Try.func42, Try.ntmps42
  go_wp2
  go_loopw [14, 15] (fun x y wr => ∃ p q : Nat, x = .int .i64 ((a : Int) + (p : Int)) ∧ y = .int .i64 ((a : Int) + (q : Int)) ∧ p ≤ q ∧ q ≤ L.length ∧ (0 < p → lt X (L.getD (p - 1) (0, 0, 0, 0, 0)) = false) ∧ (q < L.length → lt X (L.getD q (0, 0, 0, 0, 0)) = true) ∧ wr.ownsRow B0 34 5 (.slice (some ⟨g, 0, none⟩) n c) n (flat encG rs) ∧ w.grownBy wr (some g)) (fun x y _ => (intOf y).toNat - (intOf x).toNat)
  case atStart => exact ⟨0, L.length, by go_num, by go_num, by omega, by omega, fun h => by omega, fun h => by omega, HO.out, grown_of_below (Below.refl w.heap.size w)⟩
  case round =>
    obtain ⟨p, q, rfl, rfl, hpq, hq, h1, h2, hown, hg⟩ := hrel
    have HO2 := Lib.hid hown; have HG2 := Lib.hid hg; have H1 := Lib.hid h1; have H2 := Lib.hid h2
    clear hown hg h1 h2 HO
    by_cases hlt : p < q
    · have q1 : decide ((a : Int) + (p : Int) < (a : Int) + (q : Int)) = true := decide_eq_true (by omega)
      obtain ⟨k, hk⟩ : ∃ k, k = (p + q) / 2 := ⟨_, rfl⟩
      have hkp : p ≤ k := by omega
      have hkq : k < q := by omega
      have hh : ((a : Int) + (p : Int) + ((a : Int) + (q : Int))) / 2 = (a : Int) + (k : Int) := by omega
      have hkR : k < L.length := by omega
      have e1 : rs = pre ++ (L ++ [X]) ++ post := by rw [HRS.out]; simp only [List.append_assoc]
      have g1 : (L ++ [X])[k]? = some (L.getD k (0, 0, 0, 0, 0)) := by
        rw [List.getElem?_append_left hkR, List.getD_eq_getElem?_getD, List.getElem?_eq_getElem hkR]; rfl
      have g0 : (L ++ [X])[L.length]? = some X := by rw [List.getElem?_append_right (Nat.le_refl _), Nat.sub_self]; rfl
      have HO3 := HO2.out
      rw [e1] at HO3
      obtain ⟨c1, c1', c1b, c1c, c1e⟩ := rec_cells HO3 (mid_at (post := post) ha g1)
      obtain ⟨c0, c0', c0b, c0c, c0e⟩ := rec_cells HO3 (mid_at (post := post) ha g0)
      rw [hm] at c0 c0' c0b c0c c0e
      obtain ⟨Y, hY⟩ : ∃ Y, L.getD k (0, 0, 0, 0, 0) = Y := ⟨_, rfl⟩
      rw [hY] at c1 c1' c1b c1c c1e
      have HY := Lib.hid hY
      have HK := Lib.hid hk
      clear hY g1 g0 HO3 e1 hk
      have HCK := Lib.hid (fun W hW => HCM.out X Y W (HIG.out W hW))
      have hcall := hcall (#[.agg #[.int .i64 X.1, .int .i64 X.2.1, .int .i64 X.2.2.1, .int .i64 X.2.2.2.1, .int .i64 X.2.2.2.2], .agg #[.int .i64 Y.1, .int .i64 Y.2.1, .int .i64 Y.2.2.1, .int .i64 Y.2.2.2.1, .int .i64 Y.2.2.2.2]] ++ cp)
      obtain ⟨X1, X2, X3, X4, X5⟩ := X
      obtain ⟨Y1, Y2, Y3, Y4, Y5⟩ := Y
      have t1 : ((a : Int) + (k : Int)).toNat = a + k := by omega
      have t0 : (m : Int).toNat = m := by omega
      have z0 : (0 : Int) ≤ (m : Int) := by omega
      have b0 : (0 : Int) ≤ (a : Int) + (k : Int) := by omega
      have b1 : (a : Int) + (k : Int) < (n : Int) := by omega
      have b2 : (m : Int) < (n : Int) := by omega
      go_wp2_with fail
      clear hh
      go_still_tail 9, (by kernel_rfl)
      go_wp2_with fail
      refine (HCK.out _ (grown_trans HG2.out (grown_of_below (Below.refl _ _).drew))).mono ?_
      rintro e w5 ⟨⟨nn, rfl, hnn⟩, hbc⟩
      have hbw : Below wr.heap.size wr w5 := (Below.refl _ _).drew.trans hbc
      have HO5 := Lib.hid (own_below HO2.out (Nat.le_refl _) hbw)
      have HG5 := Lib.hid (grown_trans HG2.out (grown_of_below hbw))
      clear hbc hbw HO2 HG2 HCK c1 c1' c1b c1c c1e c0 c0' c0b c0c c0e
      cases hyx : lt (X1, X2, X3, X4, X5) (Y1, Y2, Y3, Y4, Y5)
      · have hz : decide (nn < 0) = false := by rw [hnn]; exact hyx
        have HYX := Lib.hid hyx
        clear hnn hyx
        go_wp2
        go_roundw
        case rel => exact ⟨k + 1, q, by go_num, rfl, by omega, by omega, fun _ => by rw [Nat.add_sub_cancel, HY.out]; exact HYX.out, H2.out, HO5.out, HG5.out⟩
        case measure => simp [intOf] <;> omega
      · have hz : decide (nn < 0) = true := by rw [hnn]; exact hyx
        have HYX := Lib.hid hyx
        clear hnn hyx
        go_wp2
        go_roundw
        case rel => exact ⟨p, k, rfl, by go_num, by omega, by omega, fun hh => H1.out hh, fun _ => by rw [HY.out]; exact HYX.out, HO5.out, HG5.out⟩
        case measure => simp [intOf] <;> omega
    · obtain rfl : p = q := by omega
      have q1 : decide ((a : Int) + (p : Int) < (a : Int) + (p : Int)) = false := decide_eq_false (by omega)
      have HM : Hid (Mg.mrg lt L [X] = Mg.insSt L X p []) := by
        show _ = _
        have hb0 : Mg.insSt L X p [] = L.take p ++ X :: L.drop p := by unfold Mg.insSt; rw [List.append_nil]
        rw [hb0]
        refine Mg.mrg_last (Mg.asc_take' S HA.out hq (fun h0 => ?_)) (Mg.asc_drop' S HA.out (fun h0 => ?_))
        · have := H1.out h0
          rw [List.getD_eq_getElem?_getD, List.getElem?_eq_getElem (by omega)] at this
          exact this
        · have := H2.out h0
          rw [List.getD_eq_getElem?_getD, List.getElem?_eq_getElem h0] at this
          exact this
      have HO3 : Hid (wr.ownsRow B0 34 5 (.slice (some ⟨g, 0, none⟩) n c) n (flat encG (pre ++ Mg.insSt L X L.length [] ++ post))) := by
        show World.ownsRow _ _ _ _ _ _ _
        rw [Mg.insSt_top]; have := HO2.out; rw [HRS.out] at this; simpa using this
      clear H1 H2 HO2
      obtain ⟨wo, rfl⟩ : ∃ wo : World, wo = wr := ⟨_, rfl⟩
      go_wp2
      go_loopw [17] (fun v wq => ∃ t : Nat, v = .int .i64 ((a : Int) + (t : Int)) ∧ p ≤ t ∧ t ≤ L.length ∧ wq.ownsRow B0 34 5 (.slice (some ⟨g, 0, none⟩) n c) n (flat encG (pre ++ Mg.insSt L X t [] ++ post)) ∧ w.grownBy wq (some g)) (fun v _ => (intOf v).toNat)
      case atStart => exact ⟨L.length, by go_num, by omega, by omega, HO3.out, HG2.out⟩
      case round =>
        obtain ⟨t, rfl, ht, htl, hown, hg⟩ := hrel
        have HO4 := Lib.hid hown; have HG4 := Lib.hid hg
        clear hown hg HO3 HG2
        by_cases htp : p < t
        · have q3 : decide ((a : Int) + (p : Int) < (a : Int) + (t : Int)) = true := decide_eq_true (by omega)
          obtain ⟨u, rfl⟩ : ∃ u, t = u + 1 := ⟨t - 1, by omega⟩
          have hu : u < L.length := by omega
          have hsl : (Mg.insSt L X (u + 1) ([] : List (G5))).length = L.length + 1 := by rw [Mg.insSt_len htl]; rfl
          obtain ⟨i0, i0'⟩ := insR_at (R := []) (x := X) hu
          have hq1 : (pre ++ Mg.insSt L X (u + 1) [] ++ post).length = n := by simp only [List.length_append]; rw [hsl]; omega
          obtain ⟨d1, d1', d1b, d1c, d1e⟩ := rec_cells HO4.out (mid_at (post := post) ha i0)
          obtain ⟨d2, d2', d2b, d2c, d2e⟩ := rec_cells HO4.out (mid_at (post := post) ha i0')
          obtain ⟨Y, hY⟩ : ∃ Y, L.getD u (0, 0, 0, 0, 0) = Y := ⟨_, rfl⟩
          have hrs : ((pre ++ Mg.insSt L X (u + 1) [] ++ post).set (a + (u + 1)) Y).set (a + u) X = pre ++ Mg.insSt L X u [] ++ post := by
            rw [mid_set ha (by rw [hsl]; omega), mid_set ha (by rw [List.length_set, hsl]; omega), List.set_comm _ _ (by omega), insR_stepD hu hY]
          rw [hY] at d1 d1' d1b d1c d1e
          generalize pre ++ Mg.insSt L X (u + 1) [] ++ post = S at HO4 hq1 hrs
          clear hY i0 i0' hsl
          obtain ⟨X1, X2, X3, X4, X5⟩ := X
          obtain ⟨Y1, Y2, Y3, Y4, Y5⟩ := Y
          have d1 : wr.drew.cell? ⟨g, (a + u) * 5, none⟩ = some (.int .i64 Y1) := d1
          have d1' : wr.drew.cell? ⟨g, (a + u) * 5 + 1, none⟩ = some (.int .i64 Y2) := d1'
          have d1b : wr.drew.cell? ⟨g, (a + u) * 5 + 2, none⟩ = some (.int .i64 Y3) := d1b
          have d1c : wr.drew.cell? ⟨g, (a + u) * 5 + 3, none⟩ = some (.int .i64 Y4) := d1c
          have d1e : wr.drew.cell? ⟨g, (a + u) * 5 + 4, none⟩ = some (.int .i64 Y5) := d1e
          have d2 : wr.drew.cell? ⟨g, (a + (u + 1)) * 5, none⟩ = some (.int .i64 X1) := d2
          have d2' : wr.drew.cell? ⟨g, (a + (u + 1)) * 5 + 1, none⟩ = some (.int .i64 X2) := d2'
          have d2b : wr.drew.cell? ⟨g, (a + (u + 1)) * 5 + 2, none⟩ = some (.int .i64 X3) := d2b
          have d2c : wr.drew.cell? ⟨g, (a + (u + 1)) * 5 + 3, none⟩ = some (.int .i64 X4) := d2c
          have d2e : wr.drew.cell? ⟨g, (a + (u + 1)) * 5 + 4, none⟩ = some (.int .i64 X5) := d2e
          have HK1 := Lib.hid (putK HO4.out ((a + (u + 1))) (by omega))
          have HK2 := Lib.hid (putK2 HO4.out ((a + (u + 1))) ((a + u)) (Y1, Y2, Y3, Y4, Y5) (by rw [List.length_set]; omega))
          have HEQ := Lib.hid (hrs)
          have HGX := Lib.hid HG4.out
          clear hrs hq1
          have hcast : (a : Int) + ((u + 1 : Nat) : Int) = (a : Int) + (u : Int) + 1 := by omega
          have t0 : ((a : Int) + (u : Int)).toNat = a + u := by omega
          have t1 : ((a : Int) + (u : Int) + 1).toNat = a + (u + 1) := by omega
          have b0 : (0 : Int) ≤ (a : Int) + (u : Int) := by omega
          have b1 : (a : Int) + (u : Int) < (n : Int) := by omega
          have b2 : (a : Int) + (u : Int) + 1 < (n : Int) := by omega
          have b3 : (0 : Int) ≤ (a : Int) + (u : Int) + 1 := by omega
          have w1 : IntKind.i64.wrap ((a : Int) + (u : Int)) = (a : Int) + (u : Int) := IntWalk.i64_in _ (by omega)
          rw [hcast] at q3 ⊢
          go_wp2_with fail
          have HROW : Hid (GRow wr.drew B0 g c n (S)) := HO4.out
          refine wp_with_act (fun fr hfr => ?_)
          have hsze : fr.tmps.size = 220 := by rw [hfr]; rfl
          have f0 : fr.eval (.tmp 0) = .slice (some ⟨g, 0, none⟩) n c := by rw [hfr]; rfl
          have f17 : fr.eval (.tmp 17) = .int .i64 ((a : Int) + (u : Int) + 1) := by rw [hfr]; rfl
          refine wp_region_held_drew (S := fun _ => True) (by kernel_rfl) trivial (fun _ => ?_)
          obtain ⟨SL, hSL⟩ : ∃ l : List (Nat × Nat), l = [(0, 113), (1, 114), (2, 115), (3, 116), (4, 117), (5, 118), (6, 119), (7, 120), (8, 121), (9, 122), (10, 123), (11, 124), (12, 125), (13, 126), (14, 127), (16, 128)] := ⟨_, rfl⟩
          obtain ⟨VL, hVL⟩ : ∃ l : List (Nat × Value), l = [(0, .slice (some ⟨g, 0, none⟩) n c), (1, .int .i64 ((a : Int) + (u : Int) + 1)), (2, .slice (some ⟨g, 0, none⟩) n c), (3, .int .i64 ((a : Int) + (u : Int) + 1)), (4, .int .i64 ((a : Int) + (u : Int))), (5, .slice (some ⟨g, 0, none⟩) n c), (6, .int .i64 ((a : Int) + (u : Int) + 1)), (7, .int .i64 ((a : Int) + (u : Int))), (8, .pointer (some ⟨g, (a + u) * 5, none⟩)), (9, .agg #[.int .i64 Y1, .int .i64 Y2, .int .i64 Y3, .int .i64 Y4, .int .i64 Y5]), (10, .slice (some ⟨g, 0, none⟩) n c), (11, .int .i64 ((a : Int) + (u : Int) + 1)), (12, .pointer (some ⟨g, (a + (u + 1)) * 5, none⟩)), (13, .agg #[.int .i64 X1, .int .i64 X2, .int .i64 X3, .int .i64 X4, .int .i64 X5]), (14, .pointer (some ⟨g, (a + (u + 1)) * 5, none⟩)), (16, .pointer (some ⟨g, (a + u) * 5, none⟩))] := ⟨_, rfl⟩
          have hN1 : (SL.map Prod.fst).Nodup := by rw [hSL]; decide
          have hN2 : (SL.map Prod.snd).Nodup := by rw [hSL]; decide
          have M0 := vm_of hSL 0 rfl
          have E113 := eval_of hN2 M0 hsze rfl
          have M1 := vm_of hSL 1 rfl
          have E114 := eval_of hN2 M1 hsze rfl
          have M2 := vm_of hSL 2 rfl
          have E115 := eval_of hN2 M2 hsze rfl
          have M3 := vm_of hSL 3 rfl
          have E116 := eval_of hN2 M3 hsze rfl
          have M4 := vm_of hSL 4 rfl
          have E117 := eval_of hN2 M4 hsze rfl
          have M5 := vm_of hSL 5 rfl
          have E118 := eval_of hN2 M5 hsze rfl
          have M6 := vm_of hSL 6 rfl
          have E119 := eval_of hN2 M6 hsze rfl
          have M7 := vm_of hSL 7 rfl
          have E120 := eval_of hN2 M7 hsze rfl
          have M8 := vm_of hSL 8 rfl
          have E121 := eval_of hN2 M8 hsze rfl
          have M9 := vm_of hSL 9 rfl
          have E122 := eval_of hN2 M9 hsze rfl
          have M10 := vm_of hSL 10 rfl
          have E123 := eval_of hN2 M10 hsze rfl
          have M11 := vm_of hSL 11 rfl
          have E124 := eval_of hN2 M11 hsze rfl
          have M12 := vm_of hSL 12 rfl
          have E125 := eval_of hN2 M12 hsze rfl
          have M13 := vm_of hSL 13 rfl
          have E126 := eval_of hN2 M13 hsze rfl
          have M14 := vm_of hSL 14 rfl
          have E127 := eval_of hN2 M14 hsze rfl
          have M16 := vm_of hSL 16 rfl
          have E128 := eval_of hN2 M16 hsze rfl
          have E0 := eval_ofB hSL f0 rfl
          have E17 := eval_ofB hSL f17 rfl
          have VM0 := vm_of hVL 0 rfl
          have VU0 := vu_of hVL 0 rfl rfl
          have VM1 := vm_of hVL 1 rfl
          have VU1 := vu_of hVL 1 rfl rfl
          have VM2 := vm_of hVL 2 rfl
          have VU2 := vu_of hVL 2 rfl rfl
          have VM3 := vm_of hVL 3 rfl
          have VU3 := vu_of hVL 3 rfl rfl
          have VM4 := vm_of hVL 4 rfl
          have VU4 := vu_of hVL 4 rfl rfl
          have VM5 := vm_of hVL 5 rfl
          have VU5 := vu_of hVL 5 rfl rfl
          have VM6 := vm_of hVL 6 rfl
          have VU6 := vu_of hVL 6 rfl rfl
          have VM7 := vm_of hVL 7 rfl
          have VU7 := vu_of hVL 7 rfl rfl
          have VM8 := vm_of hVL 8 rfl
          have VU8 := vu_of hVL 8 rfl rfl
          have VM9 := vm_of hVL 9 rfl
          have VU9 := vu_of hVL 9 rfl rfl
          have VM10 := vm_of hVL 10 rfl
          have VU10 := vu_of hVL 10 rfl rfl
          have VM11 := vm_of hVL 11 rfl
          have VU11 := vu_of hVL 11 rfl rfl
          have VM12 := vm_of hVL 12 rfl
          have VU12 := vu_of hVL 12 rfl rfl
          have VM13 := vm_of hVL 13 rfl
          have VU13 := vu_of hVL 13 rfl rfl
          have VM14 := vm_of hVL 14 rfl
          have VU14 := vu_of hVL 14 rfl rfl
          have VM16 := vm_of hVL 16 rfl
          have VU16 := vu_of hVL 16 rfl rfl
          have VN15 := vn_of hVL 15 rfl
          have VN17 := vn_of hVL 17 rfl
          have hste : fr = puts fr (x0 fr SL) SL := puts_x0 fr SL (by rw [hSL]; decide)
          clear hVL
          refine wpAnyH_inv2 (JV fr SL VL (KS2 (fun W => W = wr.drew) (fun W => GRow W B0 g c n ((S).set (a + (u + 1)) (Y1, Y2, Y3, Y4, Y5)) ∧ wr.drew.grownBy W (some g)) (fun W => GRow W B0 g c n (((S).set (a + (u + 1)) (Y1, Y2, Y3, Y4, Y5)).set (a + u) (X1, X2, X3, X4, X5)) ∧ wr.drew.grownBy W (some g)) 15 17)) (by kernel_rfl) ?stepse ?donee _ _ ?starte
          case starte => exact ⟨_, hste, VOK.start _ _ _, KS2.start rfl⟩
          case stepse =>
            clear hste hSL hfr
            refine ⟨?_, ?_, ?_, ?_, ?_, ?_, ?_, ?_, ?_, ?_, ?_, ?_, ?_, ?_, ?_, ?_, ?_, ?_, trivial⟩
            all_goals
              rintro LB ac w' hs hu haf hcl ⟨x, rfl, hv, hk⟩ K hK
            · have r0 := E0 x
              rw [if_pos (by rfl)]
              refine wp_val (v := .slice (some ⟨g, 0, none⟩) n c) ?_ (hK _ _ (jv_set (by rw [hs]; decide) (x := upd x 0 _) (puts_set SL fr hN1 hN2 M0) (hv.val 0 _ VU0) (hk.quiet 0 (by decide) (by decide))))
              generalize (puts fr x SL).eval = ρ at r0 ⊢; go_simp
            · have r17 := E17 x
              rw [if_pos (by rfl)]
              refine wp_val (v := .int .i64 ((a : Int) + (u : Int) + 1)) ?_ (hK _ _ (jv_set (by rw [hs]; decide) (x := upd x 1 _) (puts_set SL fr hN1 hN2 M1) (hv.val 1 _ VU1) (hk.quiet 1 (by decide) (by decide))))
              generalize (puts fr x SL).eval = ρ at r17 ⊢; go_simp
            · have r0 := E0 x
              rw [if_pos (by rfl)]
              refine wp_val (v := .slice (some ⟨g, 0, none⟩) n c) ?_ (hK _ _ (jv_set (by rw [hs]; decide) (x := upd x 2 _) (puts_set SL fr hN1 hN2 M2) (hv.val 2 _ VU2) (hk.quiet 2 (by decide) (by decide))))
              generalize (puts fr x SL).eval = ρ at r0 ⊢; go_simp
            · have r17 := E17 x
              rw [if_pos (by rfl)]
              refine wp_val (v := .int .i64 ((a : Int) + (u : Int) + 1)) ?_ (hK _ _ (jv_set (by rw [hs]; decide) (x := upd x 3 _) (puts_set SL fr hN1 hN2 M3) (hv.val 3 _ VU3) (hk.quiet 3 (by decide) (by decide))))
              generalize (puts fr x SL).eval = ρ at r17 ⊢; go_simp
            · have r116 := (E116 x).trans (hv _ VM3 (haf ⟨3, .data⟩ (by simp) rfl))
              have rc0 : (puts fr x SL).eval (.const (.int .i64 1)) = .int .i64 1 := rfl
              rw [if_pos (by rfl)]
              refine wp_val (v := .int .i64 ((a : Int) + (u : Int))) ?_ (hK _ _ (jv_set (by rw [hs]; decide) (x := upd x 4 _) (puts_set SL fr hN1 hN2 M4) (hv.val 4 _ VU4) (hk.quiet 4 (by decide) (by decide))))
              generalize (puts fr x SL).eval = ρ at r116 rc0 ⊢; go_simp
            · have r0 := E0 x
              rw [if_pos (by rfl)]
              refine wp_val (v := .slice (some ⟨g, 0, none⟩) n c) ?_ (hK _ _ (jv_set (by rw [hs]; decide) (x := upd x 5 _) (puts_set SL fr hN1 hN2 M5) (hv.val 5 _ VU5) (hk.quiet 5 (by decide) (by decide))))
              generalize (puts fr x SL).eval = ρ at r0 ⊢; go_simp
            · have r17 := E17 x
              rw [if_pos (by rfl)]
              refine wp_val (v := .int .i64 ((a : Int) + (u : Int) + 1)) ?_ (hK _ _ (jv_set (by rw [hs]; decide) (x := upd x 6 _) (puts_set SL fr hN1 hN2 M6) (hv.val 6 _ VU6) (hk.quiet 6 (by decide) (by decide))))
              generalize (puts fr x SL).eval = ρ at r17 ⊢; go_simp
            · have r119 := (E119 x).trans (hv _ VM6 (haf ⟨6, .data⟩ (by simp) rfl))
              have rc0 : (puts fr x SL).eval (.const (.int .i64 1)) = .int .i64 1 := rfl
              rw [if_pos (by rfl)]
              refine wp_val (v := .int .i64 ((a : Int) + (u : Int))) ?_ (hK _ _ (jv_set (by rw [hs]; decide) (x := upd x 7 _) (puts_set SL fr hN1 hN2 M7) (hv.val 7 _ VU7) (hk.quiet 7 (by decide) (by decide))))
              generalize (puts fr x SL).eval = ρ at r119 rc0 ⊢; go_simp
            · have r118 := (E118 x).trans (hv _ VM5 (haf ⟨5, .data⟩ (by simp) rfl))
              have r120 := (E120 x).trans (hv _ VM7 (haf ⟨7, .data⟩ (by simp) rfl))
              rw [if_pos (by rfl)]
              refine wp_val (v := .pointer (some ⟨g, (a + u) * 5, none⟩)) ?_ (hK _ _ (jv_set (by rw [hs]; decide) (x := upd x 8 _) (puts_set SL fr hN1 hN2 M8) (hv.val 8 _ VU8) (hk.quiet 8 (by decide) (by decide))))
              generalize (puts fr x SL).eval = ρ at r118 r120 ⊢; go_simp
            · have r121 := (E121 x).trans (hv _ VM8 (haf ⟨8, .data⟩ (by simp) rfl))
              have hlast : LB.getD 15 false = false := by
                cases h : LB.getD 15 false with
                | false => rfl
                | true => exact absurd (hcl 15 _ rfl h ⟨9, .data⟩ (by simp) rfl) (by rw [hu]; decide)
              have s0 := hk.1 hlast
              subst s0
              rw [if_pos (by rfl)]
              refine wp_val (v := .agg #[.int .i64 Y1, .int .i64 Y2, .int .i64 Y3, .int .i64 Y4, .int .i64 Y5]) ?_ (hK _ _ (jv_set (by rw [hs]; decide) (x := upd x 9 _) (puts_set SL fr hN1 hN2 M9) (hv.val 9 _ VU9) (hk.quiet 9 (by decide) (by decide))))
              generalize (puts fr x SL).eval = ρ at r121 ⊢; go_simp
            · have r0 := E0 x
              rw [if_pos (by rfl)]
              refine wp_val (v := .slice (some ⟨g, 0, none⟩) n c) ?_ (hK _ _ (jv_set (by rw [hs]; decide) (x := upd x 10 _) (puts_set SL fr hN1 hN2 M10) (hv.val 10 _ VU10) (hk.quiet 10 (by decide) (by decide))))
              generalize (puts fr x SL).eval = ρ at r0 ⊢; go_simp
            · have r17 := E17 x
              rw [if_pos (by rfl)]
              refine wp_val (v := .int .i64 ((a : Int) + (u : Int) + 1)) ?_ (hK _ _ (jv_set (by rw [hs]; decide) (x := upd x 11 _) (puts_set SL fr hN1 hN2 M11) (hv.val 11 _ VU11) (hk.quiet 11 (by decide) (by decide))))
              generalize (puts fr x SL).eval = ρ at r17 ⊢; go_simp
            · have r123 := (E123 x).trans (hv _ VM10 (haf ⟨10, .data⟩ (by simp) rfl))
              have r124 := (E124 x).trans (hv _ VM11 (haf ⟨11, .data⟩ (by simp) rfl))
              rw [if_pos (by rfl)]
              refine wp_val (v := .pointer (some ⟨g, (a + (u + 1)) * 5, none⟩)) ?_ (hK _ _ (jv_set (by rw [hs]; decide) (x := upd x 12 _) (puts_set SL fr hN1 hN2 M12) (hv.val 12 _ VU12) (hk.quiet 12 (by decide) (by decide))))
              generalize (puts fr x SL).eval = ρ at r123 r124 ⊢; go_simp
            · have r125 := (E125 x).trans (hv _ VM12 (haf ⟨12, .data⟩ (by simp) rfl))
              have hlast : LB.getD 15 false = false := by
                cases h : LB.getD 15 false with
                | false => rfl
                | true => exact absurd (hcl 15 _ rfl h ⟨13, .phase⟩ (by simp) rfl) (by rw [hu]; decide)
              have s0 := hk.1 hlast
              subst s0
              rw [if_pos (by rfl)]
              refine wp_val (v := .agg #[.int .i64 X1, .int .i64 X2, .int .i64 X3, .int .i64 X4, .int .i64 X5]) ?_ (hK _ _ (jv_set (by rw [hs]; decide) (x := upd x 13 _) (puts_set SL fr hN1 hN2 M13) (hv.val 13 _ VU13) (hk.quiet 13 (by decide) (by decide))))
              generalize (puts fr x SL).eval = ρ at r125 ⊢; go_simp
            · have r113 := (E113 x).trans (hv _ VM0 (haf ⟨0, .data⟩ (by simp) rfl))
              have r114 := (E114 x).trans (hv _ VM1 (haf ⟨1, .data⟩ (by simp) rfl))
              rw [if_pos (by rfl)]
              refine wp_val (v := .pointer (some ⟨g, (a + (u + 1)) * 5, none⟩)) ?_ (hK _ _ (jv_set (by rw [hs]; decide) (x := upd x 14 _) (puts_set SL fr hN1 hN2 M14) (hv.val 14 _ VU14) (hk.quiet 14 (by decide) (by decide))))
              generalize (puts fr x SL).eval = ρ at r113 r114 ⊢; go_simp
            · have r127 := (E127 x).trans (hv _ VM14 (haf ⟨14, .data⟩ (by simp) rfl))
              have r122 := (E122 x).trans (hv _ VM9 (haf ⟨9, .data⟩ (by simp) rfl))
              rw [if_pos (by rfl)]
              have hj : LB.getD 17 false = false := by
                cases h : LB.getD 17 false with
                | false => rfl
                | true => exact absurd (hcl 17 _ rfl h ⟨15, .chain⟩ (by simp) rfl) (by rw [hu]; decide)
              have s0 := hk.1 hu
              subst s0
              refine wp_putX slGrp _ _ rfl encG encG_len encG_one (a + (u + 1)) (Y1, Y2, Y3, Y4, Y5) r127 (by rw [r122]; rfl) HROW.out HK1.out.1 HK1.out.2 (fun w2 ho hg => ?_)
              exact hK _ _ (jv_set (by rw [hs]; decide) (x := x) rfl (hv.none 15 VN15) (hk.first (by decide) hj ⟨ho, hg⟩))
            · have r115 := (E115 x).trans (hv _ VM2 (haf ⟨2, .data⟩ (by simp) rfl))
              have r117 := (E117 x).trans (hv _ VM4 (haf ⟨4, .data⟩ (by simp) rfl))
              rw [if_pos (by rfl)]
              refine wp_val (v := .pointer (some ⟨g, (a + u) * 5, none⟩)) ?_ (hK _ _ (jv_set (by rw [hs]; decide) (x := upd x 16 _) (puts_set SL fr hN1 hN2 M16) (hv.val 16 _ VU16) (hk.quiet 16 (by decide) (by decide))))
              generalize (puts fr x SL).eval = ρ at r115 r117 ⊢; go_simp
            · have r128 := (E128 x).trans (hv _ VM16 (haf ⟨16, .data⟩ (by simp) rfl))
              have r126 := (E126 x).trans (hv _ VM13 (haf ⟨13, .data⟩ (by simp) rfl))
              rw [if_pos (by rfl)]
              have hi : LB.getD 15 false = true := haf ⟨15, .chain⟩ (by simp) rfl
              refine wp_putX slGrp _ _ rfl encG encG_len encG_one (a + u) (X1, X2, X3, X4, X5) r128 (by rw [r126]; rfl) (hk.2.1 hi hu).1 HK2.out.1 HK2.out.2 (fun w2 ho hg => ?_)
              exact hK _ _ (jv_set (by rw [hs]; decide) (x := x) rfl (hv.none 17 VN17) (hk.second (by decide) hi ⟨ho, grown_trans (hk.2.1 hi hu).2 hg⟩))
          case donee =>
            rintro LB ac w2 hall ⟨x, rfl, hv, hk⟩
            have v0 : x 0 = .slice (some ⟨g, 0, none⟩) n c := hv _ VM0 (hall 0 (by decide))
            have v1 : x 1 = .int .i64 ((a : Int) + (u : Int) + 1) := hv _ VM1 (hall 1 (by decide))
            have v2 : x 2 = .slice (some ⟨g, 0, none⟩) n c := hv _ VM2 (hall 2 (by decide))
            have v3 : x 3 = .int .i64 ((a : Int) + (u : Int) + 1) := hv _ VM3 (hall 3 (by decide))
            have v4 : x 4 = .int .i64 ((a : Int) + (u : Int)) := hv _ VM4 (hall 4 (by decide))
            have v5 : x 5 = .slice (some ⟨g, 0, none⟩) n c := hv _ VM5 (hall 5 (by decide))
            have v6 : x 6 = .int .i64 ((a : Int) + (u : Int) + 1) := hv _ VM6 (hall 6 (by decide))
            have v7 : x 7 = .int .i64 ((a : Int) + (u : Int)) := hv _ VM7 (hall 7 (by decide))
            have v8 : x 8 = .pointer (some ⟨g, (a + u) * 5, none⟩) := hv _ VM8 (hall 8 (by decide))
            have v9 : x 9 = .agg #[.int .i64 Y1, .int .i64 Y2, .int .i64 Y3, .int .i64 Y4, .int .i64 Y5] := hv _ VM9 (hall 9 (by decide))
            have v10 : x 10 = .slice (some ⟨g, 0, none⟩) n c := hv _ VM10 (hall 10 (by decide))
            have v11 : x 11 = .int .i64 ((a : Int) + (u : Int) + 1) := hv _ VM11 (hall 11 (by decide))
            have v12 : x 12 = .pointer (some ⟨g, (a + (u + 1)) * 5, none⟩) := hv _ VM12 (hall 12 (by decide))
            have v13 : x 13 = .agg #[.int .i64 X1, .int .i64 X2, .int .i64 X3, .int .i64 X4, .int .i64 X5] := hv _ VM13 (hall 13 (by decide))
            have v14 : x 14 = .pointer (some ⟨g, (a + (u + 1)) * 5, none⟩) := hv _ VM14 (hall 14 (by decide))
            have v16 : x 16 = .pointer (some ⟨g, (a + u) * 5, none⟩) := hv _ VM16 (hall 16 (by decide))
            obtain ⟨ho9, hg9⟩ := hk.2.2 (hall 17 (by decide))
            rw [hSL]
            simp only [puts]
            clear M0 E113 M1 E114 M2 E115 M3 E116 M4 E117 M5 E118 M6 E119 M7 E120 M8 E121 M9 E122 M10 E123 M11 E124 M12 E125 M13 E126 M14 E127 M16 E128 E0 E17 f0 f17 VM0 VU0 VM1 VU1 VM2 VU2 VM3 VU3 VM4 VU4 VM5 VU5 VM6 VU6 VM7 VU7 VM8 VU8 VM9 VU9 VM10 VU10 VM11 VU11 VM12 VU12 VM13 VU13 VM14 VU14 VM16 VU16 VN15 VN17 hN1 hN2 hste hsze
            clear hall hv v0 v1 v2 v3 v4 v5 v6 v7 v8 v9 v10 v11 v12 v13 v14 v16
            rw [hfr]
            simp only [Act.put, List.setIfInBounds_toArray, List.set_cons_succ, List.set_cons_zero]
            clear hfr hSL
            rw [HEQ.out] at ho9
            have HO9 := Lib.hid ho9
            have HG9 := Lib.hid (grown_trans HGX.out (grown_trans (grown_of_below (Below.refl _ _).drew) hg9))
            clear ho9 hg9 hk
            clear d1 d1' d1b d1c d1e d2 d2' d2b d2c d2e HO4
            go_wp2
            go_roundw
            case rel => exact ⟨u, by go_num, by omega, by omega, HO9.out, HG9.out⟩
            case measure => simp [intOf] <;> omega
        · obtain rfl : p = t := by omega
          rw [← HM.out] at HO4
          go_wp2
          refine bodyPost_ret (v := .tuple #[]) (by simp [results, Try.results42, go_sem]) rfl ⟨rfl, HO4.out, HG4.out⟩

end Go.Proofs.Ytmgkdokaaoeobaa.GG

namespace Go.Proofs.Ytmgkdokaaoeobaa.GG
open Go.RowKit Go.Sort
set_option linter.unusedVariables false

/-- The exchange of two ranges, its numbers as they come. -/
theorem swapRange_int (B0 g c n : Nat) (pre A M B post rs : List (G5)) (m : Nat) (x y z : Int) (cv : Value) (w : World) (hA : A.length = m) (hB : B.length = m) (hx : x = (pre.length : Nat)) (hy : y = ((pre.length + m + M.length : Nat) : Int)) (hz : z = (m : Nat)) (hrs : rs = pre ++ A ++ M ++ B ++ post) (hn : rs.length = n) (hn2 : n ≤ 1000)
    (h : w.ownsRow B0 34 5 (.slice (some ⟨g, 0, none⟩) n c) n (flat encG rs)) :
    Calls Try.prog 45 #[.slice (some ⟨g, 0, none⟩) n c, .int .i64 x, .int .i64 y, .int .i64 z, cv] w fun e w' => e = .returned (.tuple #[]) ∧
      w'.ownsRow B0 34 5 (.slice (some ⟨g, 0, none⟩) n c) n (flat encG (pre ++ B ++ M ++ A ++ post)) ∧ w.grownBy w' (some g) := by
  subst hx hy hz hrs
  exact swapRange_any B0 g c n pre A M B post m _ _ cv w hA hB rfl rfl hn hn2 h

set_option maxRecDepth 100000 in
set_option maxHeartbeats 8000000 in
theorem rotate_any (B0 g c n : Nat) (pre U V post : List (G5)) (a m b : Nat) (cv : Value) (w : World) (ha : pre.length = a) (hm : a + U.length = m) (hb : m + V.length = b) (hU : 0 < U.length) (hV : 0 < V.length) (hn : (pre ++ U ++ V ++ post).length = n) (hn2 : n ≤ 1000)
    (h : w.ownsRow B0 34 5 (.slice (some ⟨g, 0, none⟩) n c) n (flat encG (pre ++ U ++ V ++ post))) :
    Calls Try.prog 44 #[.slice (some ⟨g, 0, none⟩) n c, .int .i64 a, .int .i64 m, .int .i64 b, cv] w fun e w' => e = .returned (.tuple #[]) ∧
      w'.ownsRow B0 34 5 (.slice (some ⟨g, 0, none⟩) n c) n (flat encG (pre ++ V ++ U ++ post)) ∧ w.grownBy w' (some g) := by
  have HO := Lib.hid h
  have HN := Lib.hid hn
  have hbn : b + post.length = n := by rw [← hn]; simp only [List.length_append]; omega
  have u1 : IntKind.i64.wrap ((m : Int) - (a : Int)) = (U.length : Nat) := by rw [IntWalk.i64_in _ (by omega)]; omega
  have u2 : IntKind.i64.wrap ((b : Int) - (m : Int)) = (V.length : Nat) := by rw [IntWalk.i64_in _ (by omega)]; omega
  have u3 : (m : Int) - (a : Int) = (U.length : Nat) := by omega
  have u4 : (b : Int) - (m : Int) = (V.length : Nat) := by omega
  clear h hn
  go_enter Try.func44, Try.ntmps44
  go_wp2
  go_loopw [10, 11] (fun x y wr => ∃ (p' U' V' q' : List (G5)) (i j : Nat), x = .int .i64 i ∧ y = .int .i64 j ∧ U'.length = i ∧ V'.length = j ∧ 0 < i ∧ 0 < j ∧ p'.length + i = m ∧ Hid (p' ++ V' ++ U' ++ q' = pre ++ V ++ U ++ post) ∧ (p' ++ U' ++ V' ++ q').length = n ∧ wr.ownsRow B0 34 5 (.slice (some ⟨g, 0, none⟩) n c) n (flat encG (p' ++ U' ++ V' ++ q')) ∧ w.grownBy wr (some g)) (fun x y _ => (intOf x).toNat + (intOf y).toNat)
  case atStart => exact ⟨pre, U, V, post, U.length, V.length, by first | rfl | (simp only [u1, u3]), by first | rfl | (simp only [u2, u4]), rfl, rfl, hU, hV, by omega, Lib.hid rfl, HN.out, HO.out, grown_of_below (Below.refl w.heap.size w)⟩
  case round =>
    obtain ⟨p', U', V', q', i, j, rfl, rfl, hU', hV', hi, hj, hpm, HT, hlen, hown, hg⟩ := hrel
    have HO2 := Lib.hid hown; have HG2 := Lib.hid hg; have HLN := Lib.hid hlen
    have hl2 : p'.length + i + j + q'.length = n := by rw [← hlen]; simp only [List.length_append]; omega
    clear hown hg HO HN hlen u1 u2 u3 u4
    have HPM := Lib.hid hpm; have HU' := Lib.hid hU'; have HV' := Lib.hid hV'
    generalize hP : p'.length = P at hpm hl2
    have HP := Lib.hid hP
    clear hP hU' hV' hU hV
    have z1 : -9223372036854775808 ≤ (m : Int) - (i : Int) ∧ (m : Int) - (i : Int) ≤ 9223372036854775807 := by omega
    by_cases hij : i = j
    · subst hij
      have q1 : ((i : Int) != (i : Int)) = false := by simp
      go_wp2_with fail
      refine (swapRange_int B0 g c n p' U' [] V' q' _ i _ _ _ cv _ HU'.out HV'.out (by rw [HP.out]; omega) (by rw [HP.out]; simp only [List.length_nil]; omega) rfl (by simp) HLN.out hn2 HO2.out).mono ?_
      rintro e w5 ⟨rfl, ho5, hg5⟩
      have HO5 := Lib.hid ho5; have HG5 := Lib.hid (grown_trans HG2.out hg5)
      clear ho5 hg5
      rw [List.append_nil, HT.out] at HO5
      go_wp2
      go_end0
      exact ⟨rfl, HO5.out, HG5.out⟩
    have q1 : ((i : Int) != (j : Int)) = true := by simp; omega
    by_cases hgt : j < i
    · have q2 : decide ((j : Int) < (i : Int)) = true := decide_eq_true (by omega)
      have e1 : U'.take j ++ U'.drop j = U' := List.take_append_drop j U'
      have l1 : (U'.take j).length = j := by rw [List.length_take, HU'.out]; omega
      have l2 : (U'.drop j).length = i - j := by rw [List.length_drop, HU'.out]
      generalize U'.take j = U1 at e1 l1
      generalize U'.drop j = U2 at e1 l2
      have E1 := Lib.hid e1; have L1 := Lib.hid l1; have L2 := Lib.hid l2
      clear e1 l1 l2
      go_wp2_with fail
      refine (swapRange_int B0 g c n p' U1 U2 V' q' _ j _ _ _ cv _ L1.out HV'.out (by rw [HP.out]; omega) (by rw [HP.out, L2.out]; omega) rfl (by rw [← E1.out]; simp) HLN.out hn2 HO2.out).mono ?_
      rintro e w5 ⟨rfl, ho5, hg5⟩
      have HO5 := Lib.hid ho5; have HG5 := Lib.hid (grown_trans HG2.out hg5)
      clear ho5 hg5
      go_wp2
      go_roundw
      case rel => exact ⟨p' ++ V', U2, U1, q', i - j, j, by go_num, rfl, L2.out, L1.out, by omega, hj, by rw [List.length_append, HP.out, HV'.out]; omega, Lib.hid (by rw [← HT.out, ← E1.out]; simp), by rw [← HLN.out, ← E1.out]; simp only [List.length_append]; omega, HO5.out, HG5.out⟩
      case measure => simp [intOf] <;> omega
    · have q2 : decide ((j : Int) < (i : Int)) = false := decide_eq_false (by omega)
      have e1 : V'.take (j - i) ++ V'.drop (j - i) = V' := List.take_append_drop _ V'
      have l1 : (V'.take (j - i)).length = j - i := by rw [List.length_take, HV'.out]; omega
      have l2 : (V'.drop (j - i)).length = i := by rw [List.length_drop, HV'.out]; omega
      generalize V'.take (j - i) = V1 at e1 l1
      generalize V'.drop (j - i) = V2 at e1 l2
      have E1 := Lib.hid e1; have L1 := Lib.hid l1; have L2 := Lib.hid l2
      clear e1 l1 l2
      go_wp2_with fail
      refine (swapRange_int B0 g c n p' U' V1 V2 q' _ i _ _ _ cv _ HU'.out L2.out (by rw [HP.out]; omega) (by rw [HP.out, L1.out]; omega) rfl (by rw [← E1.out]; simp) HLN.out hn2 HO2.out).mono ?_
      rintro e w5 ⟨rfl, ho5, hg5⟩
      have HO5 := Lib.hid ho5; have HG5 := Lib.hid (grown_trans HG2.out hg5)
      clear ho5 hg5
      go_wp2
      go_roundw
      case rel => exact ⟨p', V2, V1, U' ++ q', i, j - i, rfl, by go_num, L2.out, L1.out, hi, by omega, by rw [HP.out]; omega, Lib.hid (by rw [← HT.out, ← E1.out]; simp), by rw [← HLN.out, ← E1.out]; simp only [List.length_append]; omega, by have := HO5.out; simpa using this, HG5.out⟩
      case measure => simp [intOf] <;> omega

end Go.Proofs.Ytmgkdokaaoeobaa.GG

