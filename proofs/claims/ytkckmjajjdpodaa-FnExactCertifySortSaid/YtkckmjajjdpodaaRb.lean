/- Walks: the library's insertion sort at ints, by the comparison of keys. -/
import Derived.Test.YtkckmjajjdpodaaRa
namespace Go.Proofs.Ytkckmjajjdpodaa.II
open Go.RowKit Go.Sort
set_option linter.unusedVariables false

/-- Insertion into an ascending list, by any order. -/
theorem insL_start {lt : Int → Int → Bool} {zs : List (Int)} {i : Nat} (hi : i < zs.length) : Mg.srt lt (zs.take i) ++ zs.drop i = Mg.insSt (Mg.srt lt (zs.take i)) (zs.getD i 0) i (zs.drop (i + 1)) := by
  have hl : (Mg.srt lt (zs.take i)).length = i := by rw [Mg.srt_length, List.length_take]; omega
  have h1 := Mg.insSt_top (Mg.srt lt (zs.take i)) (zs.getD i 0) (zs.drop (i + 1))
  rw [hl] at h1
  rw [h1, List.drop_eq_getElem_cons hi, List.getD_eq_getElem?_getD, List.getElem?_eq_getElem hi]
  rfl
theorem insL_end {lt : Int → Int → Bool} (S : Mg.SW lt) {l : List (Int)} {x : Int} {k : Nat} {R : List (Int)} (hk : k ≤ l.length) (hd : ∀ b ∈ (Mg.srt lt l).drop k, lt x b = true) (hs : 0 < k → lt x ((Mg.srt lt l).getD (k - 1) 0) = false) : Mg.insSt (Mg.srt lt l) x k R = Mg.srt lt (l ++ [x]) ++ R := by
  have hl : (Mg.srt lt l).length = l.length := Mg.srt_length l
  refine Mg.insSt_srt S (lt := lt) (by omega) hd (fun h0 => ?_)
  have h1 := hs h0
  rw [List.getD_eq_getElem?_getD, List.getElem?_eq_getElem (by omega)] at h1
  exact h1
theorem srtL_start (lt : Int → Int → Bool) (zs : List (Int)) : zs = Mg.srt lt (zs.take 1) ++ zs.drop 1 := by
  cases zs with
  | nil => rfl
  | cons a t => simp [Mg.srt_one]

theorem mid_at {α : Type} {pre L post : List α} {a k : Nat} {x : α} (ha : pre.length = a) (h : L[k]? = some x) : (pre ++ L ++ post)[a + k]? = some x := by
  have hk : k < L.length := (List.getElem?_eq_some_iff.1 h).1
  rw [List.append_assoc, List.getElem?_append_right (by omega), show a + k - pre.length = k by omega, List.getElem?_append_left hk]
  exact h
theorem mid_set {α : Type} {pre L post : List α} {a k : Nat} {x : α} (ha : pre.length = a) (hk : k < L.length) : (pre ++ L ++ post).set (a + k) x = pre ++ L.set k x ++ post := by
  rw [List.append_assoc, List.set_append, if_neg (by omega), show a + k - pre.length = k by omega, List.set_append, if_pos hk, List.append_assoc]

set_option maxRecDepth 100000 in
set_option maxHeartbeats 8000000 in
theorem insertionSort_any {D : Int → Prop} {I : World → Prop} {lt : Int → Int → Bool} (S : Mg.SW lt) {cv : Value} (B0 g c n : Nat) (pre L post : List (Int)) (a b : Nat) (w : World) (ha : pre.length = a) (hb : a + L.length = b) (hn : (pre ++ L ++ post).length = n) (hn2 : n ≤ 1000) (hD : ∀ x ∈ L, D x) (hI : I w) (HCV : CmpIs D I g lt cv)
    (h : w.ownsRow B0 3 1 (.slice (some ⟨g, 0, none⟩) n c) n (flat encI (pre ++ L ++ post))) :
    Calls Try.prog 186 #[.slice (some ⟨g, 0, none⟩) n c, .int .i64 a, .int .i64 b, cv] w fun e w' => e = .returned (.tuple #[]) ∧
      w'.ownsRow B0 3 1 (.slice (some ⟨g, 0, none⟩) n c) n (flat encI (pre ++ Mg.srt lt L ++ post)) ∧ w.grownBy w' (some g) := by
  have HS0 := Lib.hid (srtL_start lt L)
  have HDD := Lib.hid hD
  clear hD
  have HO := Lib.hid h
  have hbn : b + post.length = n := by rw [← hn]; simp only [List.length_append]; omega
  clear h hn
  have HLEN := Lib.hid ha
  obtain ⟨hIg, G, cp, rfl, hcall, hcmp⟩ := HCV
  have HCM := Lib.hid hcmp; have HIG := Lib.hid (fun w' => hIg w w' hI)
  clear hcmp hIg
  go_enter Try.func186, Try.ntmps186
  go_wp2
  go_loopw [8] (fun v wr => ∃ i : Nat, v = .int .i64 ((a : Int) + (i : Int)) ∧ 1 ≤ i ∧ (i ≤ L.length ∨ i = 1) ∧ wr.ownsRow B0 3 1 (.slice (some ⟨g, 0, none⟩) n c) n (flat encI (pre ++ (Mg.srt lt (L.take i) ++ L.drop i) ++ post)) ∧ w.grownBy wr (some g)) (fun v _ => a + L.length + 1 - (intOf v).toNat)
  case atStart => exact ⟨1, by go_num, by omega, .inr rfl, by rw [← HS0.out]; exact HO.out, grown_of_below (Below.refl w.heap.size w)⟩
  case round =>
    obtain ⟨i, rfl, hi1, hi2, hown, hg⟩ := hrel
    have HO2 := Lib.hid hown; have HG2 := Lib.hid hg
    clear hown hg HO
    by_cases hlt : i < L.length
    case neg =>
      have HO3 := Lib.hid (show wr.ownsRow B0 3 1 (.slice (some ⟨g, 0, none⟩) n c) n (flat encI (pre ++ Mg.srt lt L ++ post)) from by
        have := HO2.out
        rw [List.take_of_length_le (by omega), List.drop_of_length_le (by omega), List.append_nil] at this
        exact this)
      have h3 : decide ((a : Int) + (i : Int) < (b : Int)) = false := decide_eq_false (by omega)
      go_wp2
      go_end0
      exact ⟨rfl, HO3.out, HG2.out⟩
    have HI0 := Lib.hid (insL_start (lt := lt) hlt)
    have HAL : Hid ((Mg.srt lt (L.take i)).length = i) := by show _ = _; rw [Mg.srt_length, List.length_take]; omega
    have HEND := Lib.hid (fun (k : Nat) (hk : k ≤ i) (hd : ∀ b ∈ (Mg.srt lt (L.take i)).drop k, lt (L.getD i 0) b = true) (hs : 0 < k → lt (L.getD i 0) ((Mg.srt lt (L.take i)).getD (k - 1) 0) = false) =>
      (insL_end S (R := L.drop (i + 1)) (by rw [List.length_take]; omega) hd hs).trans (by rw [take_snocR hlt]))
    rw [HI0.out] at HO2
    clear HI0
    have HDA : Hid (∀ y ∈ Mg.srt lt (L.take i), D y) := fun y hy => HDD.out y (List.mem_of_mem_take (Mg.srt_mem.1 hy))
    have HDX : Hid (D (L.getD i 0)) := HDD.out _ (getD_memI hlt)
    generalize Mg.srt lt (L.take i) = A at HO2 HAL HEND HDA
    generalize L.getD i 0 = X at HO2 HEND HDX
    have HRL : Hid (∀ k, k ≤ i → (Mg.insSt A X k (L.drop (i + 1))).length = L.length) := fun k hk => by
      rw [Mg.insSt_len (by rw [HAL.out]; exact hk), HAL.out, List.length_drop]; omega
    generalize hR : L.drop (i + 1) = R at HO2 HEND HRL
    have HR := Lib.hid hR; clear hR
    have h3 : decide ((a : Int) + (i : Int) < (b : Int)) = true := decide_eq_true (by omega)
    have hile : (a : Int) + (i : Int) + 1 ≤ 9223372036854775807 := by omega
    obtain ⟨wo, rfl⟩ : ∃ wo : World, wo = wr := ⟨_, rfl⟩
    go_wp2
    go_loopw [9] (fun v wq => ∃ k : Nat, v = .int .i64 ((a : Int) + (k : Int)) ∧ k ≤ i ∧ wq.ownsRow B0 3 1 (.slice (some ⟨g, 0, none⟩) n c) n (flat encI (pre ++ Mg.insSt A X k R ++ post)) ∧ (∀ b ∈ A.drop k, lt X b = true) ∧ w.grownBy wq (some g)) (fun v _ => (intOf v).toNat)
    case atStart => exact ⟨i, rfl, by omega, HO2.out, by rw [List.drop_of_length_le (by rw [HAL.out]; omega)]; simp, HG2.out⟩
    case round =>
      obtain ⟨k, rfl, hk, ho, hd, hg⟩ := hrel
      have HO4 := Lib.hid ho; have HG4 := Lib.hid hg; have HD := Lib.hid hd
      clear ho hg hd HO2 HG2
      by_cases hk0 : 0 < k
      case neg =>
        obtain rfl : k = 0 := by omega
        have HE := Lib.hid (HEND.out 0 (by omega) HD.out (fun h => absurd h (by omega)))
        rw [HE.out] at HO4
        have h4 : decide ((a : Int) < (a : Int) + ((0 : Nat) : Int)) = false := decide_eq_false (by omega)
        rw [show (a : Int) + ((0 : Nat) : Int) = (a : Int) by omega]
        go_wp2_with fail
        go_quiet (fail)
        go_wp2
        go_roundw
        case rel => exact ⟨i + 1, by go_num, by omega, by omega, by rw [HR.out]; exact HO4.out, grown_trans HG4.out (grown_of_below (below_drewN (Below.refl _ _) _))⟩
        case measure => simp [intOf] <;> omega
      obtain ⟨m, rfl⟩ : ∃ m, k = m + 1 := ⟨k - 1, by omega⟩
      have hm : m < A.length := by rw [HAL.out]; omega
      obtain ⟨q1, q2⟩ := insR_at (R := R) (x := X) hm
      have c1 := rec_cells HO4.out (mid_at (post := post) ha q1)
      have c2 := rec_cells HO4.out (mid_at (post := post) ha q2)
      have HDR : Hid (A.drop m = A.getD m 0 :: A.drop (m + 1)) := by
        show _ = _
        rw [List.drop_eq_getElem_cons hm, List.getD_eq_getElem?_getD, List.getElem?_eq_getElem hm]; rfl
      have HST := Lib.hid (fun (y : Int) (hy : A.getD m 0 = y) => insR_stepD (R := R) (x := X) hm hy)
      have HE1 := Lib.hid (fun hs => HEND.out (m + 1) hk HD.out hs)
      have HL1 := Lib.hid (HRL.out (m + 1) hk)
      obtain ⟨Y, hY⟩ : ∃ Y, A.getD m 0 = Y := ⟨_, rfl⟩
      rw [hY] at c1  HDR
      have HY := Lib.hid hY
      have HDY : Hid (D Y) := by show D Y; rw [← hY]; exact HDA.out _ (getD_memI hm)
      clear hY hm q1 q2
      have HCK := Lib.hid (fun W hW => HCM.out X Y W HDX.out HDY.out (HIG.out W hW))
      have hcall := hcall (#[.int .i64 X, .int .i64 Y] ++ cp)
      have hcast : (a : Int) + ((m + 1 : Nat) : Int) = (a : Int) + (m : Int) + 1 := by omega
      have t0 : ((a : Int) + (m : Int)).toNat = a + m := by omega
      have t1 : ((a : Int) + (m : Int) + 1).toNat = a + (m + 1) := by omega
      have b0 : (0 : Int) ≤ (a : Int) + (m : Int) := by omega
      have b1 : (a : Int) + (m : Int) < (n : Int) := by omega
      have b2 : (a : Int) + (m : Int) + 1 < (n : Int) := by omega
      have b3 : (0 : Int) ≤ (a : Int) + (m : Int) + 1 := by omega
      have w1 : IntKind.i64.wrap ((a : Int) + (m : Int)) = (a : Int) + (m : Int) := IntWalk.i64_in _ (by omega)
      have h5 : decide ((a : Int) < (a : Int) + (m : Int) + 1) = true := decide_eq_true (by omega)
      rw [hcast]
      go_wp2_with fail
      go_still_tail 14, (by kernel_rfl)
      go_wp2_with fail
      refine (HCK.out _ (grown_trans HG4.out (grown_of_below (Below.refl _ _).drew))).mono ?_
      rintro e w5 ⟨⟨nn, rfl, hnn⟩, hbc⟩
      have hbw : Below wr.heap.size wr w5 := (Below.refl _ _).drew.trans hbc
      have HO5 := Lib.hid (own_below HO4.out (Nat.le_refl _) hbw)
      have HG5 := Lib.hid (grown_trans HG4.out (grown_of_below hbw))
      clear hbc hbw HO4 HG4 HCK c1  c2 
      cases hyx : lt X Y
      · have hz : decide (nn < 0) = false := by rw [hnn]; exact hyx
        have HE := Lib.hid (HE1.out (fun _ => by rw [Nat.add_sub_cancel, HY.out]; exact hyx))
        rw [HE.out] at HO5
        clear hnn
        go_wp2
        go_roundw
        case rel => exact ⟨i + 1, by go_num, by omega, by omega, by rw [HR.out]; exact HO5.out, HG5.out⟩
        case measure => simp [intOf] <;> omega
      · have hz : decide (nn < 0) = true := by rw [hnn]; exact hyx
        have HYX := Lib.hid hyx
        clear hnn hyx
        have hml : m + 1 < (Mg.insSt A X (m + 1) R).length := by rw [HL1.out]; omega
        have hq1 : (pre ++ Mg.insSt A X (m + 1) R ++ post).length = n := by simp only [List.length_append]; rw [HL1.out]; omega
        have hmA : m < A.length := by rw [HAL.out]; omega
        have hrs : ((pre ++ Mg.insSt A X (m + 1) R ++ post).set (a + (m + 1)) Y).set (a + m) X = pre ++ Mg.insSt A X m R ++ post := by
          rw [mid_set ha hml, mid_set ha (by rw [List.length_set]; omega), List.set_comm _ _ (by omega), HST.out _ HY.out]
        obtain ⟨g1, g2⟩ := insR_at (R := R) (x := X) hmA
        rw [HY.out] at g1
        have d1 := rec_cells HO5.out (mid_at (post := post) ha g1)
        have d2 := rec_cells HO5.out (mid_at (post := post) ha g2)
        have d1 : w5.drew.cell? ⟨g, (a + m), none⟩ = some (.int .i64 Y) := d1
        have d2 : w5.drew.cell? ⟨g, (a + (m + 1)), none⟩ = some (.int .i64 X) := d2
        have rf : ∀ o, w5.drew.frozen? ⟨g, o, none⟩ = false := fun o => HO5.out.frozenAt o
        have o1 := HO5.out.stored (a + (m + 1)) (.int .i64 Y)
        have o2 := o1.1.stored (a + m) (.int .i64 X)
        have i1 : (w5.setCell ⟨g, a + (m + 1), none⟩ (.int .i64 Y)).drew.cell? ⟨g, a + m, none⟩ = some (.int .i64 Y) := (cell_far (by omega)).trans d1
        have f1 : ∀ o, (w5.setCell ⟨g, a + (m + 1), none⟩ (.int .i64 Y)).drew.frozen? ⟨g, o, none⟩ = false := fun o => o1.1.frozenAt o
        have h4 := o2.1
        rw [flat_set1, flat_set1, hrs] at h4
        have HO9 := Lib.hid h4
        have HG9 := Lib.hid (grown_trans HG5.out (grown_trans o1.2 o2.2))
        clear o1 o2 h4 hrs hml hq1 hmA g1 g2 HST HE1 HEND HL1
        go_wp2_with fail
        go_region_law (fail)
        all_goals
          generalize (w5.setCell ⟨g, a + (m + 1), none⟩ (.int .i64 Y)).setCell ⟨g, a + m, none⟩ (.int .i64 X) = w9 at HO9 HG9 ⊢
          clear i1 f1 rf d1  d2  HO5
          go_wp2
          go_roundw
          case rel => exact ⟨m, by go_num, by omega, HO9.out, by
            rw [HDR.out]
            intro b hb
            rcases List.mem_cons.1 hb with rfl | hb
            · exact HYX.out
            · exact HD.out b hb, grown_trans HG9.out (grown_of_below (Below.refl w9.heap.size w9).drew)⟩
          case measure => simp [intOf] <;> omega

end Go.Proofs.Ytkckmjajjdpodaa.II
