/- Walks: the library's symmetric merge at ints: one element ahead . -/
import Derived.Test.YtkckmjajjdpodaaRe
namespace Go.Proofs.Ytkckmjajjdpodaa.II
open Go.RowKit Go.Sort
set_option linter.unusedVariables false

set_option maxRecDepth 100000 in
set_option maxHeartbeats 8000000 in
theorem symMerge_one {D : Int → Prop} {I : World → Prop} {lt : Int → Int → Bool} (S : Mg.SW lt) {cv : Value} (B0 g c n : Nat) (pre R post rs : List (Int)) (X : Int) (a b : Nat) (w : World) (ha : pre.length = a) (hb : a + 1 + R.length = b) (hR : Mg.Asc lt R) (hrs : rs = pre ++ [X] ++ R ++ post) (hn : rs.length = n) (hn2 : n ≤ 1000) (hDX : D X) (hDR : ∀ x ∈ R, D x) (hI : I w) (HCV : CmpIs D I g lt cv)
    (h : w.ownsRow B0 3 1 (.slice (some ⟨g, 0, none⟩) n c) n (flat encI rs)) :
    Calls Try.prog 187 #[.slice (some ⟨g, 0, none⟩) n c, .int .i64 a, .int .i64 ((a : Int) + 1), .int .i64 b, cv] w fun e w' => e = .returned (.tuple #[]) ∧
      w'.ownsRow B0 3 1 (.slice (some ⟨g, 0, none⟩) n c) n (flat encI (pre ++ Mg.mrg lt [X] R ++ post)) ∧ w.grownBy w' (some g) := by
  have HO := Lib.hid h
  have hbn : b + post.length = n := by rw [← hn, hrs]; simp; omega
  have HRS := Lib.hid hrs
  have HDX := Lib.hid hDX; have HDR := Lib.hid hDR
  clear hDX hDR
  have HA := Lib.hid hR
  clear h hn hrs hR
  have s1 : (a : Int) + 1 - (a : Int) = 1 := by omega
  obtain ⟨hIg, G, cp, rfl, hcall, hcmp⟩ := HCV
  have HCM := Lib.hid hcmp; have HIG := Lib.hid (fun w' => hIg w w' hI)
  clear hcmp hIg
  go_enter Try.func187, Try.ntmps187
  go_wp2
  go_loopw [10, 11] (fun x y wr => ∃ p q : Nat, x = .int .i64 ((a : Int) + 1 + (p : Int)) ∧ y = .int .i64 ((a : Int) + 1 + (q : Int)) ∧ p ≤ q ∧ q ≤ R.length ∧ (0 < p → lt (R.getD (p - 1) 0) X = true) ∧ (q < R.length → lt (R.getD q 0) X = false) ∧ wr.ownsRow B0 3 1 (.slice (some ⟨g, 0, none⟩) n c) n (flat encI rs) ∧ w.grownBy wr (some g)) (fun x y _ => (intOf y).toNat - (intOf x).toNat)
  case atStart => exact ⟨0, R.length, by go_num, by go_num, by omega, by omega, fun h => by omega, fun h => by omega, HO.out, grown_of_below (Below.refl w.heap.size w)⟩
  case round =>
    obtain ⟨p, q, rfl, rfl, hpq, hq, h1, h2, hown, hg⟩ := hrel
    have HO2 := Lib.hid hown; have HG2 := Lib.hid hg; have H1 := Lib.hid h1; have H2 := Lib.hid h2
    clear hown hg h1 h2 HO
    by_cases hlt : p < q
    · have q1 : decide ((a : Int) + 1 + (p : Int) < (a : Int) + 1 + (q : Int)) = true := decide_eq_true (by omega)
      obtain ⟨k, hk⟩ : ∃ k, k = (p + q) / 2 := ⟨_, rfl⟩
      have hkp : p ≤ k := by omega
      have hkq : k < q := by omega
      have hh : ((a : Int) + 1 + (p : Int) + ((a : Int) + 1 + (q : Int))) / 2 = (a : Int) + 1 + (k : Int) := by omega
      have hkR : k < R.length := by omega
      have e1 : rs = pre ++ ([X] ++ R) ++ post := by rw [HRS.out]; simp only [List.append_assoc]
      have g1 : ([X] ++ R)[1 + k]? = some (R.getD k 0) := by
        rw [List.getElem?_append_right (by simp), List.length_singleton, show 1 + k - 1 = k by omega, List.getD_eq_getElem?_getD, List.getElem?_eq_getElem hkR]; rfl
      have g0 : ([X] ++ R)[0]? = some X := rfl
      have HO3 := HO2.out
      rw [e1] at HO3
      have c1 := rec_cells HO3 (mid_at (post := post) ha g1)
      have c0 := rec_cells HO3 (mid_at (post := post) ha g0)
      rw [Nat.add_zero] at c0 
      have HG : Hid (R.getD k 0 = R.getD k 0) := Lib.hid rfl
      obtain ⟨Y, hY⟩ : ∃ Y, R.getD k 0 = Y := ⟨_, rfl⟩
      rw [hY] at c1 
      have HY := Lib.hid hY
      have HDY : Hid (D Y) := by show D Y; rw [← hY]; exact HDR.out _ (getD_memI hkR)
      have HK := Lib.hid hk
      clear hY g1 g0 HO3 e1 HG hk
      have HCK := Lib.hid (fun W hW => HCM.out Y X W HDY.out HDX.out (HIG.out W hW))
      have hcall := hcall (#[.int .i64 Y, .int .i64 X] ++ cp)
      have t1 : ((a : Int) + 1 + (k : Int)).toNat = a + (1 + k) := by omega
      have b0 : (0 : Int) ≤ (a : Int) + 1 + (k : Int) := by omega
      have b1 : (a : Int) + 1 + (k : Int) < (n : Int) := by omega
      have b2 : (a : Int) < (n : Int) := by omega
      go_wp2_with fail
      clear hh
      have c0 : wr.cell? ⟨g, a, none⟩ = some (.int .i64 X) := c0
      have t0 : ((a : Int)).toNat = a := by omega
      have z0 : (0 : Int) ≤ (a : Int) := by omega
      go_still_tail 9, (by kernel_rfl)
      go_wp2_with fail
      refine (HCK.out _ (grown_trans HG2.out (grown_of_below (Below.refl _ _).drew))).mono ?_
      rintro e w5 ⟨⟨nn, rfl, hnn⟩, hbc⟩
      have hbw : Below wr.heap.size wr w5 := (Below.refl _ _).drew.trans hbc
      have HO5 := Lib.hid (own_below HO2.out (Nat.le_refl _) hbw)
      have HG5 := Lib.hid (grown_trans HG2.out (grown_of_below hbw))
      clear hbc hbw HO2 HG2 HCK c1  c0 
      cases hyx : lt Y X
      · have hz : decide (nn < 0) = false := by rw [hnn]; exact hyx
        have HYX := Lib.hid hyx
        clear hnn hyx
        go_wp2
        go_roundw
        case rel => exact ⟨p, k, rfl, by go_num, by omega, by omega, H1.out, fun _ => by rw [HY.out]; exact HYX.out, HO5.out, HG5.out⟩
        case measure => simp [intOf] <;> omega
      · have hz : decide (nn < 0) = true := by rw [hnn]; exact hyx
        have HYX := Lib.hid hyx
        clear hnn hyx
        go_wp2
        go_roundw
        case rel => exact ⟨k + 1, q, by go_num, rfl, by omega, by omega, fun _ => by rw [Nat.add_sub_cancel, HY.out]; exact HYX.out, fun hh => H2.out hh, HO5.out, HG5.out⟩
        case measure => simp [intOf] <;> omega
    · obtain rfl : p = q := by omega
      have q1 : decide ((a : Int) + 1 + (p : Int) < (a : Int) + 1 + (p : Int)) = false := decide_eq_false (by omega)
      have HM : Hid (Mg.mrg lt [X] R = Mg.upSt X R p) := by
        show _ = _
        refine Mg.mrg_one (Mg.asc_take S HA.out hq (fun h0 => ?_)) (Mg.asc_drop S HA.out (fun h0 => ?_))
        · have := H1.out h0
          rw [List.getD_eq_getElem?_getD, List.getElem?_eq_getElem (by omega)] at this
          exact this
        · have := H2.out h0
          rw [List.getD_eq_getElem?_getD, List.getElem?_eq_getElem h0] at this
          exact this
      have HO3 : Hid (wr.ownsRow B0 3 1 (.slice (some ⟨g, 0, none⟩) n c) n (flat encI (pre ++ Mg.upSt X R 0 ++ post))) := by
        show World.ownsRow _ _ _ _ _ _ _
        rw [Mg.upSt_zero]; have := HO2.out; rw [HRS.out] at this; simpa using this
      clear H1 H2 HO2
      obtain ⟨wo, rfl⟩ : ∃ wo : World, wo = wr := ⟨_, rfl⟩
      go_wp2
      go_loopw [13] (fun v wq => ∃ t : Nat, v = .int .i64 ((a : Int) + (t : Int)) ∧ t ≤ p ∧ wq.ownsRow B0 3 1 (.slice (some ⟨g, 0, none⟩) n c) n (flat encI (pre ++ Mg.upSt X R t ++ post)) ∧ w.grownBy wq (some g)) (fun v _ => a + p - (intOf v).toNat)
      case atStart => exact ⟨0, by go_num, by omega, HO3.out, HG2.out⟩
      case round =>
        obtain ⟨t, rfl, ht, hown, hg⟩ := hrel
        have HO4 := Lib.hid hown; have HG4 := Lib.hid hg
        clear hown hg HO3 HG2
        by_cases htp : t < p
        · have q3 : decide ((a : Int) + (t : Int) < (a : Int) + 1 + (p : Int) - 1) = true := decide_eq_true (by omega)
          have htR : t < R.length := by omega
          obtain ⟨g1, g2, g3⟩ := Mg.upSt_step (x := X) (pre := pre) (post := post) htR ha
          have hq1 : (pre ++ Mg.upSt X R t ++ post).length = n := by unfold Mg.upSt; simp only [List.length_append, List.length_cons, List.length_take, List.length_drop]; omega
          have d1 := rec_cells HO4.out g1
          have d2 := rec_cells HO4.out g2
          generalize R[t] = Y at d2  g3
          generalize pre ++ Mg.upSt X R t ++ post = S at HO4 hq1 g3
          have d1 : wr.drew.cell? ⟨g, (a + t), none⟩ = some (.int .i64 X) := d1
          have d2 : wr.drew.cell? ⟨g, (a + t + 1), none⟩ = some (.int .i64 Y) := d2
          have rf : ∀ o, wr.drew.frozen? ⟨g, o, none⟩ = false := fun o => HO4.out.frozenAt o
          have o1 := HO4.out.stored (a + t) (.int .i64 Y)
          have o2 := o1.1.stored (a + t + 1) (.int .i64 X)
          have i1 : (wr.setCell ⟨g, a + t, none⟩ (.int .i64 Y)).drew.cell? ⟨g, a + t + 1, none⟩ = some (.int .i64 Y) := (cell_far (by omega)).trans d2
          have f1 : ∀ o, (wr.setCell ⟨g, a + t, none⟩ (.int .i64 Y)).drew.frozen? ⟨g, o, none⟩ = false := fun o => o1.1.frozenAt o
          have h4 := o2.1
          rw [flat_set1, flat_set1, g3] at h4
          have HO9 := Lib.hid h4
          have HG9 := Lib.hid (grown_trans HG4.out (grown_trans o1.2 o2.2))
          clear o1 o2 h4 g1 g2 g3 hq1
          have t1 : ((a : Int) + (t : Int)).toNat = a + t := by omega
          have t2 : ((a : Int) + (t : Int) + 1).toNat = a + t + 1 := by omega
          have b0 : (0 : Int) ≤ (a : Int) + (t : Int) := by omega
          have b1 : (a : Int) + (t : Int) < (n : Int) := by omega
          have b2 : (0 : Int) ≤ (a : Int) + (t : Int) + 1 := by omega
          have b3 : (a : Int) + (t : Int) + 1 < (n : Int) := by omega
          have w1 : IntKind.i64.wrap ((a : Int) + (t : Int) + 1) = (a : Int) + (t : Int) + 1 := IntWalk.i64_in _ (by omega)
          go_wp2_with fail
          go_region_law (fail)
          all_goals
            generalize (wr.setCell ⟨g, a + t, none⟩ (.int .i64 Y)).setCell ⟨g, a + t + 1, none⟩ (.int .i64 X) = w9 at HO9 HG9 ⊢
            clear i1 f1 rf d1  d2  HO4
            go_wp2
            go_roundw
            case rel => exact ⟨t + 1, by go_num, by omega, HO9.out, grown_trans HG9.out (grown_of_below (Below.refl w9.heap.size w9).drew)⟩
            case measure => simp [intOf] <;> omega
        · obtain rfl : t = p := by omega
          have q3 : decide ((a : Int) + (t : Int) < (a : Int) + 1 + (t : Int) - 1) = false := decide_eq_false (by omega)
          rw [← HM.out] at HO4
          go_wp2
          refine bodyPost_ret (v := .tuple #[]) (by simp [results, Try.results187, go_sem]) rfl ⟨rfl, HO4.out, HG4.out⟩

end Go.Proofs.Ytkckmjajjdpodaa.II
