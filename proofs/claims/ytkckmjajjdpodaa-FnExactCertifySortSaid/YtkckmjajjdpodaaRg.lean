/- Walks: the library's symmetric merge at ints: one element behind . -/
import Derived.Test.YtkckmjajjdpodaaRd
namespace Go.Proofs.Ytkckmjajjdpodaa.II
open Go.RowKit Go.Sort
set_option linter.unusedVariables false

set_option maxRecDepth 100000 in
set_option maxHeartbeats 8000000 in
theorem symMerge_last {D : Int → Prop} {I : World → Prop} {lt : Int → Int → Bool} (S : Mg.SW lt) {cv : Value} (B0 g c n : Nat) (pre L post rs : List (Int)) (X : Int) (a m : Nat) (w : World) (ha : pre.length = a) (hm : a + L.length = m) (hL1 : L.length ≠ 1) (hL : Mg.Asc lt L) (hrs : rs = pre ++ L ++ [X] ++ post) (hn : rs.length = n) (hn2 : n ≤ 1000) (hDX : D X) (hDR : ∀ x ∈ L, D x) (hI : I w) (HCV : CmpIs D I g lt cv)
    (h : w.ownsRow B0 3 1 (.slice (some ⟨g, 0, none⟩) n c) n (flat encI rs)) :
    Calls Try.prog 187 #[.slice (some ⟨g, 0, none⟩) n c, .int .i64 a, .int .i64 m, .int .i64 ((m : Int) + 1), cv] w fun e w' => e = .returned (.tuple #[]) ∧
      w'.ownsRow B0 3 1 (.slice (some ⟨g, 0, none⟩) n c) n (flat encI (pre ++ Mg.mrg lt L [X] ++ post)) ∧ w.grownBy w' (some g) := by
  have HO := Lib.hid h
  have hbn : m + 1 + post.length = n := by rw [← hn, hrs]; simp; omega
  have HRS := Lib.hid hrs
  have HDX := Lib.hid hDX; have HDR := Lib.hid hDR
  clear hDX hDR
  have HA := Lib.hid hL
  clear h hn hrs hL
  have s1 : (m : Int) + 1 - (m : Int) = 1 := by omega
  have s0 : ((m : Int) - (a : Int) == 1) = false := by simp; omega
  have s2 : IntKind.i64.wrap ((m : Int) - (a : Int)) = (m : Int) - (a : Int) := IntWalk.i64_in _ (by omega)
  obtain ⟨hIg, G, cp, rfl, hcall, hcmp⟩ := HCV
  have HCM := Lib.hid hcmp; have HIG := Lib.hid (fun w' => hIg w w' hI)
  clear hcmp hIg
  go_enter Try.func187, Try.ntmps187
  go_wp2
  go_loopw [14, 15] (fun x y wr => ∃ p q : Nat, x = .int .i64 ((a : Int) + (p : Int)) ∧ y = .int .i64 ((a : Int) + (q : Int)) ∧ p ≤ q ∧ q ≤ L.length ∧ (0 < p → lt X (L.getD (p - 1) 0) = false) ∧ (q < L.length → lt X (L.getD q 0) = true) ∧ wr.ownsRow B0 3 1 (.slice (some ⟨g, 0, none⟩) n c) n (flat encI rs) ∧ w.grownBy wr (some g)) (fun x y _ => (intOf y).toNat - (intOf x).toNat)
  case atStart => exact ⟨0, L.length, by go_num, by go_num, by omega, by omega, fun h => by omega, fun h => by omega, HO.out, grown_of_below (Below.refl w.heap.size w)⟩
  case round =>
    obtain ⟨p, q, rfl, rfl, hpq, hq, h1, h2, hown, hg⟩ := hrel
    have HO2 := Lib.hid hown; have HG2 := Lib.hid hg; have H1 := Lib.hid h1; have H2 := Lib.hid h2
    clear hown hg h1 h2 HO
    by_cases hlt : p < q
    · have q1 : decide ((a : Int) + (p : Int) < (a : Int) + (q : Int)) = true := decide_eq_true (by omega)
      obtain ⟨k, hk⟩ : ∃ k, k = (p + q) / 2 := ⟨_, rfl⟩
      have hkp : p ≤ k := by omega
      have hkq : k < q := by omega
      have hh : ((a : Int) + (p : Int) + ((a : Int) + (q : Int))) / 2 = (a : Int) + (k : Int) := by omega
      have hkR : k < L.length := by omega
      have e1 : rs = pre ++ (L ++ [X]) ++ post := by rw [HRS.out]; simp only [List.append_assoc]
      have g1 : (L ++ [X])[k]? = some (L.getD k 0) := by
        rw [List.getElem?_append_left hkR, List.getD_eq_getElem?_getD, List.getElem?_eq_getElem hkR]; rfl
      have g0 : (L ++ [X])[L.length]? = some X := by rw [List.getElem?_append_right (Nat.le_refl _), Nat.sub_self]; rfl
      have HO3 := HO2.out
      rw [e1] at HO3
      have c1 := rec_cells HO3 (mid_at (post := post) ha g1)
      have c0 := rec_cells HO3 (mid_at (post := post) ha g0)
      rw [hm] at c0 
      obtain ⟨Y, hY⟩ : ∃ Y, L.getD k 0 = Y := ⟨_, rfl⟩
      rw [hY] at c1 
      have HY := Lib.hid hY
      have HDY : Hid (D Y) := by show D Y; rw [← hY]; exact HDR.out _ (getD_memI hkR)
      have HK := Lib.hid hk
      clear hY g1 g0 HO3 e1 hk
      have HCK := Lib.hid (fun W hW => HCM.out X Y W HDX.out HDY.out (HIG.out W hW))
      have hcall := hcall (#[.int .i64 X, .int .i64 Y] ++ cp)
      have t1 : ((a : Int) + (k : Int)).toNat = a + k := by omega
      have t0 : (m : Int).toNat = m := by omega
      have z0 : (0 : Int) ≤ (m : Int) := by omega
      have b0 : (0 : Int) ≤ (a : Int) + (k : Int) := by omega
      have b1 : (a : Int) + (k : Int) < (n : Int) := by omega
      have b2 : (m : Int) < (n : Int) := by omega
      go_wp2_with fail
      clear hh
      go_still_tail 9, (by kernel_rfl)
      go_wp2_with fail
      refine (HCK.out _ (grown_trans HG2.out (grown_of_below (Below.refl _ _).drew))).mono ?_
      rintro e w5 ⟨⟨nn, rfl, hnn⟩, hbc⟩
      have hbw : Below wr.heap.size wr w5 := (Below.refl _ _).drew.trans hbc
      have HO5 := Lib.hid (own_below HO2.out (Nat.le_refl _) hbw)
      have HG5 := Lib.hid (grown_trans HG2.out (grown_of_below hbw))
      clear hbc hbw HO2 HG2 HCK c1  c0 
      cases hyx : lt X Y
      · have hz : decide (nn < 0) = false := by rw [hnn]; exact hyx
        have HYX := Lib.hid hyx
        clear hnn hyx
        go_wp2
        go_roundw
        case rel => exact ⟨k + 1, q, by go_num, rfl, by omega, by omega, fun _ => by rw [Nat.add_sub_cancel, HY.out]; exact HYX.out, H2.out, HO5.out, HG5.out⟩
        case measure => simp [intOf] <;> omega
      · have hz : decide (nn < 0) = true := by rw [hnn]; exact hyx
        have HYX := Lib.hid hyx
        clear hnn hyx
        go_wp2
        go_roundw
        case rel => exact ⟨p, k, rfl, by go_num, by omega, by omega, fun hh => H1.out hh, fun _ => by rw [HY.out]; exact HYX.out, HO5.out, HG5.out⟩
        case measure => simp [intOf] <;> omega
    · obtain rfl : p = q := by omega
      have q1 : decide ((a : Int) + (p : Int) < (a : Int) + (p : Int)) = false := decide_eq_false (by omega)
      have HM : Hid (Mg.mrg lt L [X] = Mg.insSt L X p []) := by
        show _ = _
        have hb0 : Mg.insSt L X p [] = L.take p ++ X :: L.drop p := by unfold Mg.insSt; rw [List.append_nil]
        rw [hb0]
        refine Mg.mrg_last (Mg.asc_take' S HA.out hq (fun h0 => ?_)) (Mg.asc_drop' S HA.out (fun h0 => ?_))
        · have := H1.out h0
          rw [List.getD_eq_getElem?_getD, List.getElem?_eq_getElem (by omega)] at this
          exact this
        · have := H2.out h0
          rw [List.getD_eq_getElem?_getD, List.getElem?_eq_getElem h0] at this
          exact this
      have HO3 : Hid (wr.ownsRow B0 3 1 (.slice (some ⟨g, 0, none⟩) n c) n (flat encI (pre ++ Mg.insSt L X L.length [] ++ post))) := by
        show World.ownsRow _ _ _ _ _ _ _
        rw [Mg.insSt_top]; have := HO2.out; rw [HRS.out] at this; simpa using this
      clear H1 H2 HO2
      obtain ⟨wo, rfl⟩ : ∃ wo : World, wo = wr := ⟨_, rfl⟩
      go_wp2
      go_loopw [17] (fun v wq => ∃ t : Nat, v = .int .i64 ((a : Int) + (t : Int)) ∧ p ≤ t ∧ t ≤ L.length ∧ wq.ownsRow B0 3 1 (.slice (some ⟨g, 0, none⟩) n c) n (flat encI (pre ++ Mg.insSt L X t [] ++ post)) ∧ w.grownBy wq (some g)) (fun v _ => (intOf v).toNat)
      case atStart => exact ⟨L.length, by go_num, by omega, by omega, HO3.out, HG2.out⟩
      case round =>
        obtain ⟨t, rfl, ht, htl, hown, hg⟩ := hrel
        have HO4 := Lib.hid hown; have HG4 := Lib.hid hg
        clear hown hg HO3 HG2
        by_cases htp : p < t
        · have q3 : decide ((a : Int) + (p : Int) < (a : Int) + (t : Int)) = true := decide_eq_true (by omega)
          obtain ⟨u, rfl⟩ : ∃ u, t = u + 1 := ⟨t - 1, by omega⟩
          have hu : u < L.length := by omega
          have hsl : (Mg.insSt L X (u + 1) ([] : List (Int))).length = L.length + 1 := by rw [Mg.insSt_len htl]; rfl
          obtain ⟨i0, i0'⟩ := insR_at (R := []) (x := X) hu
          have hq1 : (pre ++ Mg.insSt L X (u + 1) [] ++ post).length = n := by simp only [List.length_append]; rw [hsl]; omega
          have d1 := rec_cells HO4.out (mid_at (post := post) ha i0)
          have d2 := rec_cells HO4.out (mid_at (post := post) ha i0')
          obtain ⟨Y, hY⟩ : ∃ Y, L.getD u 0 = Y := ⟨_, rfl⟩
          have hrs : ((pre ++ Mg.insSt L X (u + 1) [] ++ post).set (a + (u + 1)) Y).set (a + u) X = pre ++ Mg.insSt L X u [] ++ post := by
            rw [mid_set ha (by rw [hsl]; omega), mid_set ha (by rw [List.length_set, hsl]; omega), List.set_comm _ _ (by omega), insR_stepD hu hY]
          rw [hY] at d1 
          generalize pre ++ Mg.insSt L X (u + 1) [] ++ post = S at HO4 hq1 hrs
          clear hY i0 i0' hsl
          have d1 : wr.drew.cell? ⟨g, (a + u), none⟩ = some (.int .i64 Y) := d1
          have d2 : wr.drew.cell? ⟨g, (a + (u + 1)), none⟩ = some (.int .i64 X) := d2
          have rf : ∀ o, wr.drew.frozen? ⟨g, o, none⟩ = false := fun o => HO4.out.frozenAt o
          have o1 := HO4.out.stored (a + (u + 1)) (.int .i64 Y)
          have o2 := o1.1.stored (a + u) (.int .i64 X)
          have i1 : (wr.setCell ⟨g, a + (u + 1), none⟩ (.int .i64 Y)).drew.cell? ⟨g, a + u, none⟩ = some (.int .i64 Y) := (cell_far (by omega)).trans d1
          have f1 : ∀ o, (wr.setCell ⟨g, a + (u + 1), none⟩ (.int .i64 Y)).drew.frozen? ⟨g, o, none⟩ = false := fun o => o1.1.frozenAt o
          have h4 := o2.1
          rw [flat_set1, flat_set1, hrs] at h4
          have HO9 := Lib.hid h4
          have HG9 := Lib.hid (grown_trans HG4.out (grown_trans o1.2 o2.2))
          clear o1 o2 h4 hrs hq1
          have hcast : (a : Int) + ((u + 1 : Nat) : Int) = (a : Int) + (u : Int) + 1 := by omega
          have t0 : ((a : Int) + (u : Int)).toNat = a + u := by omega
          have t1 : ((a : Int) + (u : Int) + 1).toNat = a + (u + 1) := by omega
          have b0 : (0 : Int) ≤ (a : Int) + (u : Int) := by omega
          have b1 : (a : Int) + (u : Int) < (n : Int) := by omega
          have b2 : (a : Int) + (u : Int) + 1 < (n : Int) := by omega
          have b3 : (0 : Int) ≤ (a : Int) + (u : Int) + 1 := by omega
          have w1 : IntKind.i64.wrap ((a : Int) + (u : Int)) = (a : Int) + (u : Int) := IntWalk.i64_in _ (by omega)
          rw [hcast] at q3 ⊢
          go_wp2_with fail
          go_region_law (fail)
          all_goals
            generalize (wr.setCell ⟨g, a + (u + 1), none⟩ (.int .i64 Y)).setCell ⟨g, a + u, none⟩ (.int .i64 X) = w9 at HO9 HG9 ⊢
            clear i1 f1 rf d1  d2  HO4
            go_wp2
            go_roundw
            case rel => exact ⟨u, by go_num, by omega, by omega, HO9.out, grown_trans HG9.out (grown_of_below (Below.refl w9.heap.size w9).drew)⟩
            case measure => simp [intOf] <;> omega
        · obtain rfl : p = t := by omega
          rw [← HM.out] at HO4
          go_wp2
          refine bodyPost_ret (v := .tuple #[]) (by simp [results, Try.results187, go_sem]) rfl ⟨rfl, HO4.out, HG4.out⟩

end Go.Proofs.Ytkckmjajjdpodaa.II
