/- Several texts in one: lemmas and walks of the functions that the law reaches. -/
import Derived.Test.YtaaogoajhdaekaaY9
import Derived.BigRegion
import Derived.Deep.RegionHeld3
import Derived.Deep.RegionLaw

namespace Go.Proofs.Ytaaogoajhdaekaa
open Go.RowKit Go.Sort
set_option linter.unusedVariables false

set_option maxRecDepth 100000 in
set_option maxHeartbeats 4000000 in
theorem siftDown_any (B g cap N d off m c i0 n s9 : Nat) (pre L post R : List Int) (w : World) (ho : pre.length = off) (hn : L.length = n) (hm : m ≤ n) (hn64 : n ≤ 64) (hd : 2 ≤ d) (hd8 : d ≤ 8) (hi : i0 ≤ 64) (hR : Es.sft d m L i0 0 = (R, s9)) (h : PR w B g cap N pre L post) :
    Calls Try.prog 59 #[.slice (some ⟨g, off, none⟩) m c, .int .i64 d, .int .i64 i0] w fun e w' => e = .returned (.int .i64 s9) ∧ PR w' B g cap N pre R post ∧ w.grownBy w' (some g) := by
  have H := Lib.hid h; clear h
  have HOF := Lib.hid ho; clear ho
  have HR := Lib.hid hR
  have HN := Lib.hid hn; clear hn hR
  go_enter Try.func59, Try.ntmps59
  go_wp2
  go_loopw [2, 7] (fun iv sv wr => ∃ (i s : Nat) (L' : List Int), iv = .int .i64 i ∧ sv = .int .i64 s ∧ i ≤ 64 ∧ s ≤ i ∧ L'.length = n ∧ Es.sft d m L' i s = (R, s9) ∧ PR wr B g cap N pre L' post ∧ w.grownBy wr (some g)) (fun iv _ _ => 200 - (intOf iv).toNat)
  case atStart => exact ⟨i0, 0, L, rfl, rfl, hi, by omega, HN.out, HR.out, H.out, grown_of_below (Below.refl _ _)⟩
  case round =>
    obtain ⟨i, s, L1, rfl, rfl, hi64, hsi, hL1, hsf, hp, hgw⟩ := hrel
    have HL1 := Lib.hid hL1; have HSF := Lib.hid hsf; have HP := Lib.hid hp; have HW := Lib.hid hgw
    clear hL1 hsf hp hgw
    obtain ⟨p, hp0⟩ : ∃ p, d * i = p := ⟨_, rfl⟩
    have hp8 : p ≤ 8 * 64 := by rw [← hp0]; exact Nat.mul_le_mul hd8 hi64
    have hip : i + i ≤ p := by
      have := Nat.mul_le_mul hd (Nat.le_refl i)
      omega
    have hpz : (d : Int) * (i : Int) = (p : Int) := by rw [← hp0]; simp
    have HP0 := Lib.hid hp0; clear hp0
    by_cases hlt : p + 1 < m
    case neg =>
      have HE := Lib.hid (HSF.out.symm.trans (Es.sft_leaf (by rw [HP0.out]; exact hlt)))
      have hlt' : ¬ ((p : Int) + 1 < (m : Int)) := by omega
      go_wp2
      go_ret
      have e1 : R = L1 := congrArg Prod.fst HE.out
      have e2 : s9 = s := congrArg Prod.snd HE.out
      subst e1 e2
      exact ⟨rfl, HP.out, HW.out⟩
    have hlt' : ((p : Int) + 1 < (m : Int)) := by omega
    have HT := Lib.hid (show Es.top d m L1 i = Es.bst L1 (min (p + d + 1) m) (p + 2) (p + 1) by rw [← HP0.out]; rfl)
    have HTF := Lib.hid (Es.top_facts (L := L1) (show 0 < d by omega) (by rw [HP0.out]; exact hlt))
    obtain ⟨M, hM⟩ : ∃ M, min (p + d + 1) m = M := ⟨_, rfl⟩
    rw [hM] at HT
    go_wp2
    go_loopw [8, 9] (fun kv cv wx => ∃ (kk cc : Nat), kv = .int .i64 kk ∧ cv = .int .i64 cc ∧ PR wx B g cap N pre L1 post ∧ w.grownBy wx (some g) ∧ kk < M ∧ p + 1 ≤ kk ∧ p + 2 ≤ cc ∧ cc ≤ M + 1 ∧ Es.bst L1 M cc kk = Es.top d m L1 i) (fun _ cv _ => 2000 - (intOf cv).toNat)
    case atStart => exact ⟨p + 1, p + 2, by go_num, by go_num, HP.out, HW.out, by omega, by omega, by omega, by omega, HT.out.symm⟩
    case round =>
      rename World => wx
      obtain ⟨kk, cc, rfl, rfl, hp2, hgw2, hkM, hpk, hpc, hcM, hb⟩ := hrel
      have HP2 := Lib.hid hp2; have HW2 := Lib.hid hgw2; have HB := Lib.hid hb
      clear hp2 hgw2 hb
      by_cases hc : cc < M
      case pos =>
        have hc1 : (cc : Int) ≤ (p : Int) + (d : Int) := by omega
        have hc2 : (cc : Int) < (m : Int) := by omega
        have hk2 : (kk : Int) < (m : Int) := by omega
        have HB2 := Lib.hid ((Es.bst_step (L := L1) (k := kk) hc).symm.trans HB.out)
        have c1 := HP2.out.at HOF.out (i := cc) (by rw [HL1.out]; omega)
        have c2 := HP2.out.at HOF.out (i := kk) (by rw [HL1.out]; omega)
        clear HB HT
        obtain ⟨X, hX⟩ : ∃ X, L1.getD cc 0 = X := ⟨_, rfl⟩
        obtain ⟨Y, hY⟩ : ∃ Y, L1.getD kk 0 = Y := ⟨_, rfl⟩
        rw [hX] at c1
        rw [hY] at c2
        rw [hX, hY] at HB2
        clear hX hY
        by_cases hYX : Y < X
        · have hYX' : decide (Y < X) = true := decide_eq_true hYX
          have HB3 := Lib.hid (show Es.bst L1 M (cc + 1) cc = Es.top d m L1 i by have := HB2.out; rwa [if_pos hYX] at this)
          clear HB2
          go_wp2_with fail
          go_quiet (fail)
          go_wp2
          go_roundw
          case rel => exact ⟨cc, cc + 1, by go_num, by go_num, HP2.out.drewN _, grown_drewN HW2.out _, hc, by omega, by omega, by omega, HB3.out⟩
          case measure => simp [intOf] <;> omega
        · have hYX' : decide (Y < X) = false := decide_eq_false hYX
          have HB3 := Lib.hid (show Es.bst L1 M (cc + 1) kk = Es.top d m L1 i by have := HB2.out; rwa [if_neg hYX] at this)
          clear HB2
          go_wp2_with fail
          go_quiet (fail)
          go_wp2
          go_roundw
          case rel => exact ⟨kk, cc + 1, by go_num, by go_num, HP2.out.drewN _, grown_drewN HW2.out _, hkM, by omega, by omega, by omega, HB3.out⟩
          case measure => simp [intOf] <;> omega
      have HK := Lib.hid (HB.out.symm.trans (Es.bst_stop hc))
      have hik : i < kk := by omega
      clear HB HT
      by_cases hcd : cc ≤ p + d
      · have hc1 : (cc : Int) ≤ (p : Int) + (d : Int) := by omega
        have hc2 : ¬ (cc : Int) < (m : Int) := by omega
        have hkm : (kk : Int) < (m : Int) := by omega
        have him : (i : Int) < (m : Int) := by omega
        have c1 := HP2.out.at HOF.out (i := kk) (by rw [HL1.out]; omega)
        have c2 := HP2.out.at HOF.out (i := i) (by rw [HL1.out]; omega)
        obtain ⟨X, hX⟩ : ∃ X, L1.getD kk 0 = X := ⟨_, rfl⟩
        obtain ⟨Y, hY⟩ : ∃ Y, L1.getD i 0 = Y := ⟨_, rfl⟩
        rw [hX] at c1
        rw [hY] at c2
        have HX := Lib.hid hX; have HY := Lib.hid hY
        clear hX hY
        by_cases hXY : X ≤ Y
        · have hXY' : decide (X ≤ Y) = true := decide_eq_true hXY
          have HE := Lib.hid (HSF.out.symm.trans (Es.sft_break (show 0 < d by omega) (by rw [HP0.out]; exact hlt) (by rw [HK.out, HX.out, HY.out]; exact hXY)))
          go_wp2_with fail
          go_quiet (fail)
          go_wp2
          go_ret
          have e1 : R = L1 := congrArg Prod.fst HE.out
          have e2 : s9 = s := congrArg Prod.snd HE.out
          subst e1 e2
          exact ⟨rfl, HP2.out.drewN _, grown_drewN HW2.out _⟩
        · have hXY' : decide (X ≤ Y) = false := decide_eq_false hXY
          have HSF2 := Lib.hid ((Es.sft_step (s := s) (show 0 < d by omega) (by rw [HP0.out]; exact hlt) (by rw [HK.out, HX.out, HY.out]; exact hXY)).symm.trans HSF.out)
          go_wp2_with fail
          go_quiet (fail)
          have n1 : ¬ i = kk := by omega
          have n2 : ¬ kk = i := by omega
          have fz := HP2.out.fz
          have HSW := Lib.hid (fun (W : World) (h : PR W B g cap N pre L1 post) => h.swp HOF.out (i := i) (k := kk) (by rw [HL1.out]; omega) (by rw [HL1.out]; omega) HY.out HX.out)
          go_wp2_with fail
          go_region_law (fail)
          all_goals
            have H3 := Lib.hid (HSW.out (wx.drewN (nq + 1)) (HP2.out.drewN _))
            have HG3 := Lib.hid (grown_trans (grown_drewN HW2.out (nq + 1)) H3.out.2)
            have HP3 := Lib.hid H3.out.1
            clear H3 HSW
            generalize ((wx.drewN (nq + 1)).setCell { block := g, off := off + i } (Value.int IntKind.i64 X)).setCell { block := g, off := off + kk } (Value.int IntKind.i64 Y) = w3 at HP3 HG3 ⊢
            go_wp2
            go_roundw
            case rel =>
              refine ⟨kk, s + 1, Es.swp L1 i kk, rfl, by go_num, by omega, by omega, by rw [Es.swp_len]; exact HL1.out, ?_, HP3.out, HG3.out⟩
              have := HSF2.out
              rwa [HK.out] at this
            case measure => simp [intOf] <;> omega
      · have hc1 : ¬ (cc : Int) ≤ (p : Int) + (d : Int) := by omega
        have hkm : (kk : Int) < (m : Int) := by omega
        have him : (i : Int) < (m : Int) := by omega
        have c1 := HP2.out.at HOF.out (i := kk) (by rw [HL1.out]; omega)
        have c2 := HP2.out.at HOF.out (i := i) (by rw [HL1.out]; omega)
        obtain ⟨X, hX⟩ : ∃ X, L1.getD kk 0 = X := ⟨_, rfl⟩
        obtain ⟨Y, hY⟩ : ∃ Y, L1.getD i 0 = Y := ⟨_, rfl⟩
        rw [hX] at c1
        rw [hY] at c2
        have HX := Lib.hid hX; have HY := Lib.hid hY
        clear hX hY
        by_cases hXY : X ≤ Y
        · have hXY' : decide (X ≤ Y) = true := decide_eq_true hXY
          have HE := Lib.hid (HSF.out.symm.trans (Es.sft_break (show 0 < d by omega) (by rw [HP0.out]; exact hlt) (by rw [HK.out, HX.out, HY.out]; exact hXY)))
          go_wp2_with fail
          go_quiet (fail)
          go_wp2
          go_ret
          have e1 : R = L1 := congrArg Prod.fst HE.out
          have e2 : s9 = s := congrArg Prod.snd HE.out
          subst e1 e2
          exact ⟨rfl, HP2.out.drewN _, grown_drewN HW2.out _⟩
        · have hXY' : decide (X ≤ Y) = false := decide_eq_false hXY
          have HSF2 := Lib.hid ((Es.sft_step (s := s) (show 0 < d by omega) (by rw [HP0.out]; exact hlt) (by rw [HK.out, HX.out, HY.out]; exact hXY)).symm.trans HSF.out)
          go_wp2_with fail
          go_quiet (fail)
          have n1 : ¬ i = kk := by omega
          have n2 : ¬ kk = i := by omega
          have fz := HP2.out.fz
          have HSW := Lib.hid (fun (W : World) (h : PR W B g cap N pre L1 post) => h.swp HOF.out (i := i) (k := kk) (by rw [HL1.out]; omega) (by rw [HL1.out]; omega) HY.out HX.out)
          go_wp2_with fail
          go_region_law (fail)
          all_goals
            have H3 := Lib.hid (HSW.out (wx.drewN (nq + 1)) (HP2.out.drewN _))
            have HG3 := Lib.hid (grown_trans (grown_drewN HW2.out (nq + 1)) H3.out.2)
            have HP3 := Lib.hid H3.out.1
            clear H3 HSW
            generalize ((wx.drewN (nq + 1)).setCell { block := g, off := off + i } (Value.int IntKind.i64 X)).setCell { block := g, off := off + kk } (Value.int IntKind.i64 Y) = w3 at HP3 HG3 ⊢
            go_wp2
            go_roundw
            case rel =>
              refine ⟨kk, s + 1, Es.swp L1 i kk, rfl, by go_num, by omega, by omega, by rw [Es.swp_len]; exact HL1.out, ?_, HP3.out, HG3.out⟩
              have := HSF2.out
              rwa [HK.out] at this
            case measure => simp [intOf] <;> omega

set_option maxRecDepth 100000 in
set_option maxHeartbeats 4000000 in
theorem heapify_any (B g cap N d off n c s9 : Nat) (pre L post R : List Int) (w : World) (ho : pre.length = off) (hn : L.length = n) (hn64 : n ≤ 64) (hd : 2 ≤ d) (hd8 : d ≤ 8) (hR : Es.hfy d n L n 0 = (R, s9)) (h : PR w B g cap N pre L post) :
    Calls Try.prog 58 #[.slice (some ⟨g, off, none⟩) n c, .int .i64 d] w fun e w' => e = .returned (.int .i64 s9) ∧ PR w' B g cap N pre R post ∧ w.grownBy w' (some g) := by
  have H := Lib.hid h; clear h
  have HR := Lib.hid hR
  have HN := Lib.hid hn; clear hn hR
  go_enter Try.func58, Try.ntmps58
  go_wp2
  go_loopw [5, 6] (fun sv iv wr => ∃ (i s : Nat) (L' : List Int), sv = .int .i64 s ∧ iv = .int .i64 ((i : Int) - 1) ∧ i ≤ n ∧ s ≤ 100 * (64 - i) ∧ L'.length = n ∧ Es.hfy d n L' i s = (R, s9) ∧ PR wr B g cap N pre L' post ∧ w.grownBy wr (some g)) (fun _ iv _ => (intOf iv + 1).toNat)
  case atStart => exact ⟨n, 0, L, rfl, by go_num, Nat.le_refl _, by omega, HN.out, HR.out, H.out, grown_of_below (Below.refl _ _)⟩
  case round =>
    obtain ⟨i, s, L1, rfl, rfl, hi, hs, hL1, hf, hp, hgw⟩ := hrel
    have HL1 := Lib.hid hL1; have HF := Lib.hid hf; have HP := Lib.hid hp; have HW := Lib.hid hgw
    clear hL1 hf hp hgw
    cases i with
    | zero =>
      have HE : Hid ((L1, s) = (R, s9)) := HF.out
      go_wp2
      go_ret
      have e1 : R = L1 := (congrArg Prod.fst HE.out).symm
      have e2 : s9 = s := (congrArg Prod.snd HE.out).symm
      subst e1 e2
      exact ⟨rfl, HP.out, HW.out⟩
    | succ i =>
      obtain ⟨L2, s2, hS⟩ : ∃ L2 s2, Es.sft d n L1 i 0 = (L2, s2) := ⟨_, _, rfl⟩
      have hs2 : s2 ≤ n := by
        have := Es.sft_count (d := d) (n := n) (by omega) L1 i 0
        rw [hS] at this
        simp only at this
        omega
      have hl2 : L2.length = n := by
        have := Es.sft_len (d := d) (n := n) (by omega) L1 i 0 (by rw [HL1.out]; exact Nat.le_refl _)
        rw [hS] at this
        exact this.trans HL1.out
      have HF2 : Hid (Es.hfy d n L2 i (s + s2) = (R, s9)) := by
        have := HF.out
        rw [Es.hfy, hS] at this
        exact this
      have HL2 := Lib.hid hl2; clear hl2
      have HC := Lib.hid (siftDown_any B g cap N d off n c i n s2 pre L1 post L2 wr ho HL1.out (Nat.le_refl _) hn64 hd hd8 (by omega) hS HP.out)
      have e0 : ((i + 1 : Nat) : Int) - 1 = (i : Int) := by omega
      rw [e0]
      have b0 : (0 : Int) ≤ (i : Int) := by omega
      clear hS ho
      go_wp2_with fail
      refine HC.out.mono ?_
      rintro e w2 ⟨rfl, hp2, hg2⟩
      have HP2 := Lib.hid hp2; have HG2 := Lib.hid (grown_trans HW.out hg2)
      clear hp2 hg2
      go_wp2
      go_roundw
      case rel => exact ⟨i, s + s2, L2, by go_num, rfl, by omega, by omega, HL2.out, HF2.out, HP2.out, HG2.out⟩
      case measure => simp [intOf] <;> omega

set_option maxRecDepth 100000 in
set_option maxHeartbeats 4000000 in
theorem heapSort_any (B g cap N d off n c s9 : Nat) (pre L post R : List Int) (w : World) (ho : pre.length = off) (hn : L.length = n) (hc : n ≤ c) (hn64 : n ≤ 64) (hd : 2 ≤ d) (hd8 : d ≤ 8) (hR : Es.hsort d L = (R, s9)) (h : PR w B g cap N pre L post) :
    Calls Try.prog 40 #[.slice (some ⟨g, off, none⟩) n c, .int .i64 d] w fun e w' => e = .returned (.int .i64 s9) ∧ PR w' B g cap N pre R post ∧ w.grownBy w' (some g) := by
  obtain ⟨L0, s0, hF⟩ : ∃ L0 s0, Es.hfy d n L n 0 = (L0, s0) := ⟨_, _, rfl⟩
  have hs0 : s0 ≤ 64 * 64 := by
    have := Es.hfy_count (d := d) (n := n) (by omega) hn64 n L 0
    rw [hF] at this
    simp only at this
    omega
  have hl0 : L0.length = n := by
    have := (Es.hfy_perm (d := d) (by omega) L 0).1.length_eq
    rw [hn, hF] at this
    exact this
  have HR : Hid (Es.hpop d L0 n s0 = (R, s9)) := by
    show _ = _
    rw [← hR]
    unfold Es.hsort
    rw [hn, hF]
  have HC := Lib.hid (heapify_any B g cap N d off n c s0 pre L post L0 w ho hn hn64 hd hd8 hF h)
  have HOF := Lib.hid ho
  have HL0 := Lib.hid hl0
  clear h hR hF hn hl0 ho
  go_enter Try.func40, Try.ntmps40
  go_wp2_with fail
  refine HC.out.mono ?_
  rintro e w1 ⟨rfl, hp1, hg1⟩
  have HP1 := Lib.hid hp1; have HG1 := Lib.hid hg1
  clear hp1 hg1 HC
  go_wp2
  go_loopw [5, 6] (fun sv iv wr => ∃ (k s : Nat) (L' : List Int), sv = .int .i64 s ∧ iv = .int .i64 k ∧ k ≤ n ∧ s ≤ 64 * 64 + 100 * (64 - k) ∧ L'.length = n ∧ Es.hpop d L' k s = (R, s9) ∧ PR wr B g cap N pre L' post ∧ w.grownBy wr (some g)) (fun _ iv _ => (intOf iv).toNat)
  case atStart => exact ⟨n, s0, L0, rfl, rfl, Nat.le_refl _, by omega, HL0.out, HR.out, HP1.out, HG1.out⟩
  case round =>
    obtain ⟨k, s, L1, rfl, rfl, hk, hs, hL1, hf, hp, hgw⟩ := hrel
    have HL1 := Lib.hid hL1; have HF := Lib.hid hf; have HP := Lib.hid hp; have HW := Lib.hid hgw
    clear hL1 hf hp hgw HP1 HG1
    by_cases h2 : 2 ≤ k
    case neg =>
      have HE := Lib.hid (HF.out.symm.trans (Es.hpop_stop h2))
      have h2' : ¬ (2 : Int) ≤ (k : Int) := by omega
      go_wp2
      go_ret
      have e1 : R = L1 := congrArg Prod.fst HE.out
      have e2 : s9 = s := congrArg Prod.snd HE.out
      subst e1 e2
      exact ⟨rfl, HP.out, HW.out⟩
    have h2' : (2 : Int) ≤ (k : Int) := by omega
    obtain ⟨q, rfl⟩ : ∃ q, k = q + 1 := ⟨k - 1, by omega⟩
    obtain ⟨L3, s3, hS⟩ : ∃ L3 s3, Es.sft d q (Es.swp L1 0 q) 0 0 = (L3, s3) := ⟨_, _, rfl⟩
    have hsl : (Es.swp L1 0 q).length = n := by rw [Es.swp_len]; exact HL1.out
    have hs3 : s3 ≤ 64 := by
      have := Es.sft_count (d := d) (n := q) (by omega) (Es.swp L1 0 q) 0 0
      rw [hS] at this
      simp only at this
      omega
    have hl3 : L3.length = n := by
      have := Es.sft_len (d := d) (n := q) (by omega) (Es.swp L1 0 q) 0 0 (by rw [hsl]; omega)
      rw [hS] at this
      exact this.trans hsl
    have HF2 : Hid (Es.hpop d L3 q (s + (1 + s3)) = (R, s9)) := by
      have := HF.out
      rw [Es.hpop_step h2, Nat.add_sub_cancel, hS] at this
      exact this
    have HC := Lib.hid (fun (W : World) (hW : PR W B g cap N pre (Es.swp L1 0 q) post) => siftDown_any B g cap N d off q c 0 n s3 pre (Es.swp L1 0 q) post L3 W HOF.out hsl (by omega) hn64 hd hd8 (by omega) hS hW)
    have c1 := HP.out.at HOF.out (i := 0) (by rw [HL1.out]; omega)
    have c2 := HP.out.at HOF.out (i := q) (by rw [HL1.out]; omega)
    obtain ⟨X, hX⟩ : ∃ X, L1.getD 0 0 = X := ⟨_, rfl⟩
    obtain ⟨Y, hY⟩ : ∃ Y, L1.getD q 0 = Y := ⟨_, rfl⟩
    rw [hX] at c1
    rw [hY] at c2
    have HX := Lib.hid hX; have HY := Lib.hid hY
    have HL3 := Lib.hid hl3
    have hq1 : 1 ≤ q := by omega
    have n1 : ¬ 0 = q := by omega
    have n2 : ¬ q = 0 := by omega
    have fz := HP.out.fz
    have HSW := Lib.hid (fun (W : World) (h : PR W B g cap N pre L1 post) => h.swp HOF.out (i := 0) (k := q) (by rw [HL1.out]; omega) (by rw [HL1.out]; omega) HX.out HY.out)
    have e0 : ((q + 1 : Nat) : Int) - 1 = (q : Int) := by omega
    have e1 : ((q + 1 : Nat) : Int) = (q : Int) + 1 := by omega
    rw [e1] at h2' ⊢
    clear hX hY hS hsl hl3 e0 e1
    have p0 : 0 < n := by omega
    have p1 : (q : Int) < (n : Int) := by omega
    have p2 : (q : Int) ≤ (c : Int) := by omega
    have p3 : q ≤ c := by omega
    have wq : IntKind.i64.wrap (q : Int) = (q : Int) := IntWalk.i64_in _ (by omega)
    rw [Nat.add_zero] at c1
    go_wp2_with fail
    go_region_law (fail)
    all_goals
      have H3 := HSW.out wr HP.out
      rw [Nat.add_zero] at H3
      have HP3 := Lib.hid H3.1.drew
      have HG3 := Lib.hid (grown_trans HW.out (grown_trans H3.2 (grown_of_below (row := some g) (Below.refl _ _).drew)))
      clear H3 HSW
      generalize ((wr.setCell { block := g, off := off } (Value.int IntKind.i64 Y)).setCell { block := g, off := off + q } (Value.int IntKind.i64 X)).drew = w3 at HP3 HG3 ⊢
      have HC3 := Lib.hid (HC.out w3 HP3.out)
      clear HC c1 c2 fz
      go_wp2_with fail
      refine HC3.out.mono ?_
      rintro e w4 ⟨rfl, hp4, hg4⟩
      have HP4 := Lib.hid hp4; have HG4 := Lib.hid (grown_trans HG3.out hg4)
      clear hp4 hg4
      go_wp2
      go_roundw
      case rel => exact ⟨q, s + (1 + s3), L3, by go_num, by go_num, by omega, by omega, HL3.out, HF2.out, HP4.out, HG4.out⟩
      case measure => simp [intOf] <;> omega
end Go.Proofs.Ytaaogoajhdaekaa

namespace Go.Proofs.Ytaaogoajhdaekaa
open Go.RowKit Go.Sort
set_option linter.unusedVariables false

set_option maxRecDepth 100000 in
set_option maxHeartbeats 4000000 in
theorem threeWay_any (B g cap N off n c lt9 gt9 : Nat) (x : Int) (pre L post R : List Int) (w : World) (ho : pre.length = off) (hn : L.length = n) (hn64 : n ≤ 64) (hR : Es.tw x L 0 0 n = (R, lt9, gt9)) (h : PR w B g cap N pre L post) :
    Calls Try.prog 60 #[.slice (some ⟨g, off, none⟩) n c, .int .i64 x] w fun e w' => e = .returned (.tuple #[.int .i64 lt9, .int .i64 gt9]) ∧ PR w' B g cap N pre R post ∧ w.grownBy w' (some g) := by
  have H := Lib.hid h; clear h
  have HR := Lib.hid hR
  have HN := Lib.hid hn
  have HOF := Lib.hid ho
  clear hn hR ho
  go_enter Try.func60, Try.ntmps60
  go_wp2
  go_loopw [6, 7, 8] (fun lv iv gv wr => ∃ (lt i gt : Nat) (L' : List Int), lv = .int .i64 lt ∧ iv = .int .i64 i ∧ gv = .int .i64 gt ∧ lt ≤ i ∧ i ≤ gt ∧ gt ≤ n ∧ L'.length = n ∧ Es.tw x L' lt i gt = (R, lt9, gt9) ∧ PR wr B g cap N pre L' post ∧ w.grownBy wr (some g)) (fun _ iv gv _ => (intOf gv - intOf iv).toNat)
  case atStart => exact ⟨0, 0, n, L, rfl, rfl, rfl, by omega, by omega, Nat.le_refl _, HN.out, HR.out, H.out, grown_of_below (Below.refl _ _)⟩
  case round =>
    obtain ⟨lt, i, gt, L1, rfl, rfl, rfl, h1, h2, h3, hL1, hf, hp, hgw⟩ := hrel
    have HL1 := Lib.hid hL1; have HF := Lib.hid hf; have HP := Lib.hid hp; have HW := Lib.hid hgw
    clear hL1 hf hp hgw
    by_cases hlt : i < gt
    case neg =>
      have HE := Lib.hid (HF.out.symm.trans (Es.tw_stop hlt))
      have hlt' : ¬ (i : Int) < (gt : Int) := by omega
      go_wp2
      go_ret2
      have e1 : R = L1 := congrArg Prod.fst HE.out
      have e2 : lt9 = lt := congrArg (fun z => z.2.1) HE.out
      have e3 : gt9 = gt := congrArg (fun z => z.2.2) HE.out
      subst e1 e2 e3
      exact ⟨rfl, HP.out, HW.out⟩
    have hlt' : (i : Int) < (gt : Int) := by omega
    have hin : (i : Int) < (n : Int) := by omega
    have c1 := HP.out.at HOF.out (i := i) (by rw [HL1.out]; omega)
    obtain ⟨X, hX⟩ : ∃ X, L1.getD i 0 = X := ⟨_, rfl⟩
    rw [hX] at c1
    have HX := Lib.hid hX; clear hX
    have fz := HP.out.fz
    by_cases hXx : X < x
    · have HF2 := Lib.hid ((Es.tw_low hlt (by rw [HX.out]; exact hXx)).symm.trans HF.out)
      clear HF
      have hlm : (lt : Int) < (n : Int) := by omega
      by_cases hil : i = lt
      · subst hil
        rw [Es.swp_self] at HF2
        have HS := Lib.hid (fun (W : World) (hW : PR W B g cap N pre L1 post) => hW.swp HOF.out (i := i) (k := i) (X := X) (Z := X) (by rw [HL1.out]; omega) (by rw [HL1.out]; omega) HX.out HX.out)
        go_wp2_with fail
        go_region_law (fail)
        all_goals
          have H3 := HS.out wr HP.out
          have HP3 := Lib.hid H3.1.drew
          have HG3 := Lib.hid (grown_trans HW.out (grown_trans H3.2 (grown_of_below (row := some g) (Below.refl _ _).drew)))
          rw [Es.swp_self] at HP3
          clear H3 HS
          generalize ((wr.setCell { block := g, off := off + i } (Value.int IntKind.i64 X)).setCell { block := g, off := off + i } (Value.int IntKind.i64 X)).drew = w3 at HP3 HG3 ⊢
          clear c1 fz
          go_wp2
          go_roundw
          case rel => exact ⟨i + 1, i + 1, gt, L1, by go_num, by go_num, rfl, by omega, by omega, h3, HL1.out, HF2.out, HP3.out, HG3.out⟩
          case measure => simp [intOf] <;> omega
      · have hil2 : lt < i := by omega
        clear hil
        have c2 := HP.out.at HOF.out (i := lt) (by rw [HL1.out]; omega)
        obtain ⟨Y, hY⟩ : ∃ Y, L1.getD lt 0 = Y := ⟨_, rfl⟩
        rw [hY] at c2
        have HY := Lib.hid hY; clear hY
        have n1 : ¬ i = lt := by omega
        have n2 : ¬ lt = i := by omega
        have HS := Lib.hid (fun (W : World) (hW : PR W B g cap N pre L1 post) => hW.swp HOF.out (i := i) (k := lt) (X := X) (Z := Y) (by rw [HL1.out]; omega) (by rw [HL1.out]; omega) HX.out HY.out)
        go_wp2_with fail
        go_region_law (fail)
        all_goals
          have H3 := HS.out wr HP.out
          have HP3 := Lib.hid H3.1.drew
          have HG3 := Lib.hid (grown_trans HW.out (grown_trans H3.2 (grown_of_below (row := some g) (Below.refl _ _).drew)))
          clear H3 HS
          generalize ((wr.setCell { block := g, off := off + i } (Value.int IntKind.i64 Y)).setCell { block := g, off := off + lt } (Value.int IntKind.i64 X)).drew = w3 at HP3 HG3 ⊢
          clear c1 fz c2
          go_wp2
          go_roundw
          case rel => exact ⟨lt + 1, i + 1, gt, Es.swp L1 i lt, by go_num, by go_num, rfl, by omega, by omega, h3, by rw [Es.swp_len]; exact HL1.out, HF2.out, HP3.out, HG3.out⟩
          case measure => simp [intOf] <;> omega
    · by_cases hxX : x < X
      · have HF2 := Lib.hid ((Es.tw_high hlt (by rw [HX.out]; exact hxX)).symm.trans HF.out)
        clear HF
        obtain ⟨q, rfl⟩ : ∃ q, gt = q + 1 := ⟨gt - 1, by omega⟩
        rw [Nat.add_sub_cancel] at HF2
        have eq1 : ((q + 1 : Nat) : Int) = (q : Int) + 1 := by omega
        rw [eq1] at hlt' ⊢
        have wq : IntKind.i64.wrap (q : Int) = (q : Int) := IntWalk.i64_in _ (by omega)
        have hqn : (q : Int) < (n : Int) := by omega
        have hq0 : (0 : Int) ≤ (q : Int) := by omega
        clear eq1
        by_cases hil : i = q
        · subst hil
          rw [Es.swp_self] at HF2
          have HS := Lib.hid (fun (W : World) (hW : PR W B g cap N pre L1 post) => hW.swp HOF.out (i := i) (k := i) (X := X) (Z := X) (by rw [HL1.out]; omega) (by rw [HL1.out]; omega) HX.out HX.out)
          go_wp2_with fail
          go_region_law (fail)
          all_goals
            have H3 := HS.out wr HP.out
            have HP3 := Lib.hid H3.1.drew
            have HG3 := Lib.hid (grown_trans HW.out (grown_trans H3.2 (grown_of_below (row := some g) (Below.refl _ _).drew)))
            rw [Es.swp_self] at HP3
            clear H3 HS
            generalize ((wr.setCell { block := g, off := off + i } (Value.int IntKind.i64 X)).setCell { block := g, off := off + i } (Value.int IntKind.i64 X)).drew = w3 at HP3 HG3 ⊢
            clear c1 fz
            go_wp2
            go_roundw
            case rel => exact ⟨lt, i, i, L1, rfl, rfl, by go_num, h1, by omega, by omega, HL1.out, HF2.out, HP3.out, HG3.out⟩
            case measure => simp [intOf] <;> omega
        · have hil2 : i < q := by omega
          clear hil
          have c2 := HP.out.at HOF.out (i := q) (by rw [HL1.out]; omega)
          obtain ⟨Y, hY⟩ : ∃ Y, L1.getD q 0 = Y := ⟨_, rfl⟩
          rw [hY] at c2
          have HY := Lib.hid hY; clear hY
          have n1 : ¬ i = q := by omega
          have n2 : ¬ q = i := by omega
          have HS := Lib.hid (fun (W : World) (hW : PR W B g cap N pre L1 post) => hW.swp HOF.out (i := i) (k := q) (X := X) (Z := Y) (by rw [HL1.out]; omega) (by rw [HL1.out]; omega) HX.out HY.out)
          go_wp2_with fail
          go_region_law (fail)
          all_goals
            have H3 := HS.out wr HP.out
            have HP3 := Lib.hid H3.1.drew
            have HG3 := Lib.hid (grown_trans HW.out (grown_trans H3.2 (grown_of_below (row := some g) (Below.refl _ _).drew)))
            clear H3 HS
            generalize ((wr.setCell { block := g, off := off + i } (Value.int IntKind.i64 Y)).setCell { block := g, off := off + q } (Value.int IntKind.i64 X)).drew = w3 at HP3 HG3 ⊢
            clear c1 fz c2
            go_wp2
            go_roundw
            case rel => exact ⟨lt, i, q, Es.swp L1 i q, rfl, rfl, by go_num, h1, by omega, by omega, by rw [Es.swp_len]; exact HL1.out, HF2.out, HP3.out, HG3.out⟩
            case measure => simp [intOf] <;> omega
      · have HF2 := Lib.hid ((Es.tw_mid hlt (by rw [HX.out]; exact hXx) (by rw [HX.out]; exact hxX)).symm.trans HF.out)
        clear HF
        have hx1 : ¬ (X < x) := hXx
        have hx2 : ¬ (x < X) := hxX
        clear hXx hxX
        go_wp2
        go_roundw
        case rel => exact ⟨lt, i + 1, gt, L1, rfl, by go_num, rfl, by omega, by omega, h3, HL1.out, HF2.out, HP.out, HW.out⟩
        case measure => simp [intOf] <;> omega
end Go.Proofs.Ytaaogoajhdaekaa

namespace Go.Proofs.Ytaaogoajhdaekaa
open Go.RowKit Go.Sort
set_option linter.unusedVariables false

theorem PR.alloc {w : World} {B g cap N : Nat} {pre L post : List Int} (h : PR w B g cap N pre L post) (o : Obj) : PR (w.alloc o) B g cap N pre L post := ⟨own_below h.own (Nat.le_refl _) ((Below.refl _ _).alloc (Nat.le_refl _) o)⟩

set_option maxRecDepth 100000 in
set_option maxHeartbeats 8000000 in
theorem medianIndex_any (B g cap N off n c : Nat) (pre L post : List Int) (w : World) (ho : pre.length = off) (hn : L.length = n) (hn0 : 0 < n) (hn64 : n ≤ 64) (h : PR w B g cap N pre L post) :
    Calls Try.prog 61 #[.slice (some ⟨g, off, none⟩) n c] w fun e w' => e = .returned (.int .i64 (Es.med L)) ∧ Below w.heap.size w w' := by
  have H := Lib.hid h; clear h
  have HN := Lib.hid hn
  have HOF := Lib.hid ho
  clear hn ho
  go_enter Try.func61, Try.ntmps61
  go_wp2
  obtain ⟨W0, hW0⟩ : ∃ W0, w.alloc (Obj.cells #[Value.int IntKind.i64 0, Value.int IntKind.i64 (↑n / 2), Value.int IntKind.i64 (↑n - 1)] 3) = W0 := ⟨_, rfl⟩
  have HB := Lib.hid (show Below w.heap.size w W0 by rw [← hW0]; exact (Below.refl _ _).alloc (Nat.le_refl _) _)
  have HPL : Hid (∀ j, j < 3 → W0.cell? ⟨w.heap.size, j, none⟩ = some (.int .i64 (Es.plc n j : Nat))) := fun j hj => by
    rw [← hW0]
    match j, hj with
    | 0, _ => simp [Es.plc]
    | 1, _ => simp [Es.plc]
    | 2, _ => simp [Es.plc]; omega
  have HP := Lib.hid (show PR W0 B g cap N pre L post by rw [← hW0]; exact H.out.alloc _)
  rw [hW0]
  clear hW0
  go_loopw [20] (fun iv wr => ∃ (i q : Nat), iv = .int .i64 i ∧ i ≤ 3 ∧ Es.medFrom L i = Es.med L ∧ wr = W0.drewN q) (fun iv _ => 3 - (intOf iv).toNat)
  case atStart => exact ⟨0, 0, rfl, by omega, rfl, rfl⟩
  case round =>
    obtain ⟨i, q, rfl, hi, hmf, rfl⟩ := hrel
    have HMF := Lib.hid hmf; clear hmf
    by_cases hi3 : i < 3
    case neg =>
      obtain rfl : i = 3 := by omega
      have HE : Hid (Es.med L = 0) := HMF.out.symm
      go_wp2
      go_ret
      rw [HE.out]
      exact ⟨rfl, below_drewN HB.out _⟩
    have hi3' : (i : Int) < 3 := by omega
    have cp := HPL.out i hi3
    have hpl := Es.plc_lt (n := n) (i := i) hn0
    have HST := Lib.hid (Es.medFrom_step (L := L) hi3)
    obtain ⟨a, ha⟩ : ∃ a, Es.plc n i = a := ⟨_, rfl⟩
    rw [ha] at cp hpl
    have HA := Lib.hid ha; clear ha
    go_wp2
    go_loopw [27, 7, 8] (fun kv lv hv wx => ∃ (k q2 : Nat), kv = .int .i64 k ∧ lv = .bool (Es.lowAt L i k) ∧ hv = .bool (Es.highAt L i k) ∧ k ≤ 3 ∧ wx = W0.drewN q2) (fun kv _ _ _ => 3 - (intOf kv).toNat)
    case atStart => exact ⟨0, q, rfl, rfl, rfl, by omega, rfl⟩
    case round =>
      obtain ⟨k, q2, rfl, rfl, rfl, hk, rfl⟩ := hrel
      obtain ⟨lo, hlo⟩ : ∃ lo, Es.lowAt L i k = lo := ⟨_, rfl⟩
      obtain ⟨hi9, hhi⟩ : ∃ hi9, Es.highAt L i k = hi9 := ⟨_, rfl⟩
      rw [hlo, hhi]
      have HLO := Lib.hid hlo; have HHI := Lib.hid hhi
      clear hlo hhi
      by_cases hk3 : k < 3
      case neg =>
        obtain rfl : k = 3 := by omega
        have HOK : Hid (Es.medOk L i = (lo && hi9)) := by show Es.medOk L i = _; unfold Es.medOk; rw [HLO.out, HHI.out]
        cases lo
        · have HF : Hid (Es.medFrom L (i + 1) = Es.med L) := by
            have := HST.out
            rw [HOK.out, HMF.out] at this
            exact this.symm
          go_wp2
          go_roundw
          case rel => exact ⟨i + 1, q2, by go_num, by omega, HF.out, rfl⟩
          case measure => simp [intOf] <;> omega
        · cases hi9
          · have HF : Hid (Es.medFrom L (i + 1) = Es.med L) := by
              have := HST.out
              rw [HOK.out, HMF.out] at this
              exact this.symm
            go_wp2
            go_roundw
            case rel => exact ⟨i + 1, q2, by go_num, by omega, HF.out, rfl⟩
            case measure => simp [intOf] <;> omega
          · have HF : Hid (Es.med L = a) := by
              have := HST.out
              rw [HOK.out, HMF.out, HN.out, HA.out] at this
              exact this
            go_wp2
            go_ret
            rw [HF.out]
            exact ⟨rfl, below_drewN HB.out _⟩
      have hk3' : (k : Int) < 3 := by omega
      have ck := HPL.out k hk3
      have hplk := Es.plc_lt (n := n) (i := k) hn0
      have HLS := Lib.hid (Es.lowAt_succ L i k)
      have HHS := Lib.hid (Es.highAt_succ L i k)
      have c1 := HP.out.at HOF.out (i := a) (by rw [HN.out]; exact hpl)
      by_cases hki : k = i
      · subst hki
        have HL2 : Hid (Es.lowAt L k (k + 1) = lo) := by show _ = _; rw [HLS.out, HLO.out]; simp
        have HH2 : Hid (Es.highAt L k (k + 1) = hi9) := by show _ = _; rw [HHS.out, HHI.out]; simp
        rw [HA.out] at ck
        clear HLS HHS
        cases lo <;> cases hi9
        all_goals
          go_wp2_with fail
          go_quiet (fail)
          go_wp2_with fail
          go_quiet (fail)
          go_wp2
          go_roundw
          case rel => exact ⟨k + 1, _, by go_num, by rw [HL2.out], by rw [HH2.out], by omega, rfl⟩
          case measure => simp [intOf] <;> omega
      · obtain ⟨b, hb⟩ : ∃ b, Es.plc n k = b := ⟨_, rfl⟩
        rw [hb] at ck hplk
        have c2 := HP.out.at HOF.out (i := b) (by rw [HN.out]; exact hplk)
        obtain ⟨X, hX⟩ : ∃ X, L.getD a 0 = X := ⟨_, rfl⟩
        obtain ⟨Y, hY⟩ : ∃ Y, L.getD b 0 = Y := ⟨_, rfl⟩
        have HL2 : Hid (Es.lowAt L i (k + 1) = (lo || decide (Y ≤ X))) := by show _ = _; rw [HLS.out, HLO.out, HN.out, HA.out, hb, hX, hY]; simp [hki]
        have HH2 : Hid (Es.highAt L i (k + 1) = (hi9 || decide (X ≤ Y))) := by show _ = _; rw [HHS.out, HHI.out, HN.out, HA.out, hb, hX, hY]; simp [hki]
        rw [hX] at c1
        rw [hY] at c2
        clear hX hY HLS HHS hb
        have hki' : ((k : Int) != (i : Int)) = true := by simp; omega
        have b1 : (a : Int) < (n : Int) := by omega
        have b2 : (b : Int) < (n : Int) := by omega
        rcases Bool.eq_false_or_eq_true (decide (Y ≤ X)) with d1 | d1 <;> rcases Bool.eq_false_or_eq_true (decide (X ≤ Y)) with d2 | d2 <;> rw [d1] at HL2 <;> rw [d2] at HH2 <;> cases lo <;> cases hi9
        all_goals
          go_wp2_with fail
          go_quiet (fail)
          go_wp2_with fail
          go_quiet (fail)
          go_wp2
          go_roundw
          case rel => exact ⟨k + 1, _, by go_num, by rw [HL2.out]; rfl, by rw [HH2.out]; rfl, by omega, rfl⟩
          case measure => simp [intOf] <;> omega
end Go.Proofs.Ytaaogoajhdaekaa

namespace Go.Proofs.Ytaaogoajhdaekaa
open Go.RowKit Go.Sort
set_option linter.unusedVariables false

theorem PR.view {w : World} {B g cap N : Nat} {pre L post pre' L' post' : List Int} (h : PR w B g cap N pre L post) (e : pre ++ L ++ post = pre' ++ L' ++ post') : PR w B g cap N pre' L' post' := ⟨by rw [← e]; exact h.own⟩
theorem PR.below {w w' : World} {B g cap N : Nat} {pre L post : List Int} (h : PR w B g cap N pre L post) (hb : Below w.heap.size w w') : PR w' B g cap N pre L post := ⟨own_below h.own (Nat.le_refl _) hb⟩

set_option maxRecDepth 100000 in
set_option maxHeartbeats 8000000 in
theorem quick_any (small : Nat) (hs1 : 1 ≤ small) (hs64 : small ≤ 64) : ∀ (lim : Nat), lim ≤ 100 → ∀ (B g cap N off n c st9 pa9 : Nat) (pre L post R : List Int) (w : World), pre.length = off → L.length = n → n ≤ c → n ≤ 64 → Es.qk small lim L = (R, st9, pa9) → PR w B g cap N pre L post →
    Calls Try.prog 41 #[.slice (some ⟨g, off, none⟩) n c, .int .i64 small, .int .i64 lim] w fun e w' => e = .returned (.tuple #[.int .i64 st9, .int .i64 pa9]) ∧ PR w' B g cap N pre R post ∧ w.grownBy w' (some g) := by
  intro lim
  induction lim with
  | zero =>
    intro hl B g cap N off n c st9 pa9 pre L post R w ho hn hc hn64 hR h
    by_cases hsm : n ≤ small
    · rw [Es.qk_small (by omega)] at hR
      obtain ⟨h1, h2⟩ := Prod.mk.inj hR
      obtain ⟨h2, h3⟩ := Prod.mk.inj h2
      subst h2 h3
      obtain ⟨R', c9, v9, hG⟩ : ∃ R' c9 v9, Es.gapd 1 L = (R', c9, v9) := ⟨_, _, _, rfl⟩
      rw [hG] at h1
      simp only at h1
      subst h1
      have HC := Lib.hid (gapped_any B g cap N 1 off n c c9 v9 pre L post R' w ho hn hn64 (Nat.le_refl _) (by omega) hG h)
      have hsm' : (n : Int) ≤ (small : Int) := by omega
      clear hG ho hn h hR
      go_enter Try.func41, Try.ntmps41
      go_wp2_with fail
      refine HC.out.mono ?_
      rintro e w1 ⟨rfl, hp1, hg1⟩
      have HP1 := Lib.hid hp1; have HG1 := Lib.hid hg1
      clear hp1 hg1
      go_wp2
      go_ret2
      exact ⟨rfl, HP1.out, HG1.out⟩
    · rw [Es.qk_zero (by omega)] at hR
      obtain ⟨h1, h2⟩ := Prod.mk.inj hR
      obtain ⟨h2, h3⟩ := Prod.mk.inj h2
      subst h2 h3
      obtain ⟨R', s9, hG⟩ : ∃ R' s9, Es.hsort 2 L = (R', s9) := ⟨_, _, rfl⟩
      rw [hG] at h1
      simp only at h1
      subst h1
      have HC := Lib.hid (heapSort_any B g cap N 2 off n c s9 pre L post R' w ho hn hc hn64 (by omega) (by omega) hG h)
      have hsm' : ¬ (n : Int) ≤ (small : Int) := by omega
      clear hG ho hn h hR hsm
      go_enter Try.func41, Try.ntmps41
      go_wp2_with fail
      refine HC.out.mono ?_
      rintro e w1 ⟨rfl, hp1, hg1⟩
      have HP1 := Lib.hid hp1; have HG1 := Lib.hid hg1
      clear hp1 hg1
      go_wp2
      go_ret2
      exact ⟨rfl, HP1.out, HG1.out⟩
  | succ lim ih =>
    intro hl B g cap N off n c st9 pa9 pre L post R w ho hn hc hn64 hR h
    by_cases hsm : n ≤ small
    · rw [Es.qk_small (by omega)] at hR
      obtain ⟨h1, h2⟩ := Prod.mk.inj hR
      obtain ⟨h2, h3⟩ := Prod.mk.inj h2
      subst h2 h3
      obtain ⟨R', c9, v9, hG⟩ : ∃ R' c9 v9, Es.gapd 1 L = (R', c9, v9) := ⟨_, _, _, rfl⟩
      rw [hG] at h1
      simp only at h1
      subst h1
      have HC := Lib.hid (gapped_any B g cap N 1 off n c c9 v9 pre L post R' w ho hn hn64 (Nat.le_refl _) (by omega) hG h)
      have hsm' : (n : Int) ≤ (small : Int) := by omega
      clear hG ho hn h hR ih
      go_enter Try.func41, Try.ntmps41
      go_wp2_with fail
      refine HC.out.mono ?_
      rintro e w1 ⟨rfl, hp1, hg1⟩
      have HP1 := Lib.hid hp1; have HG1 := Lib.hid hg1
      clear hp1 hg1
      go_wp2
      go_ret2
      exact ⟨rfl, HP1.out, HG1.out⟩
    have hsm' : ¬ (n : Int) ≤ (small : Int) := by omega
    obtain ⟨p, hp⟩ : ∃ p, Es.med L = p := ⟨_, rfl⟩
    have hpn : p < n := by rw [← hp, ← hn]; exact Es.med_lt (by omega)
    obtain ⟨X, hX⟩ : ∃ X, L.getD p 0 = X := ⟨_, rfl⟩
    obtain ⟨M, lt, gt, hT⟩ : ∃ M lt gt, Es.tw X L 0 0 n = (M, lt, gt) := ⟨_, _, _, rfl⟩
    obtain ⟨t1, t2⟩ := Es.tw_start X L
    rw [hn, hT] at t1 t2
    have b1 : lt ≤ gt := t2.b1
    have b3 : gt ≤ M.length := t2.b3
    have hml : M.length = n := t1.length_eq.trans hn
    obtain ⟨R1, s1, p1, hq1⟩ : ∃ R1 s1 p1, Es.qk small lim (M.take lt) = (R1, s1, p1) := ⟨_, _, _, rfl⟩
    obtain ⟨R2, s2, p2, hq2⟩ : ∃ R2 s2 p2, Es.qk small lim (M.drop gt) = (R2, s2, p2) := ⟨_, _, _, rfl⟩
    have hk1 := Es.qk_count hs1 lim (M.take lt)
    have hk2 := Es.qk_count hs1 lim (M.drop gt)
    rw [hq1, List.length_take] at hk1
    rw [hq2, List.length_drop] at hk2
    simp only at hk1 hk2
    have hl1 : R1.length = lt := by
      have := Es.qk_sorts small lim (M.take lt)
      rw [hq1] at this
      simp only at this
      rw [this, srtI_len, List.length_take]; omega
    rw [Es.qk_succ (by omega), hp, hX, hn, hT] at hR
    simp only [hq1, hq2] at hR
    obtain ⟨hRR, h2⟩ := Prod.mk.inj hR
    obtain ⟨hS9, hP9⟩ := Prod.mk.inj h2
    have HC := Lib.hid (medianIndex_any B g cap N off n c pre L post w ho hn (by omega) hn64 h)
    have HC1 := Lib.hid (fun (W : World) (hW : PR W B g cap N pre L post) => threeWay_any B g cap N off n c lt gt X pre L post M W ho hn hn64 hT hW)
    have HC2 := Lib.hid (fun (W : World) (hW : PR W B g cap N pre (M.take lt) (M.drop lt ++ post)) => ih (by omega) B g cap N off lt c s1 p1 pre (M.take lt) (M.drop lt ++ post) R1 W ho (by rw [List.length_take]; omega) (by omega) (by omega) hq1 hW)
    have ih := ih (by omega)
    have HIH := Lib.hid ih
    have HR1 := Lib.hid hl1
    have HQ2 := Lib.hid hq2
    have HML := Lib.hid hml
    have HRR := Lib.hid hRR.symm; have HS9 := Lib.hid hS9.symm; have HP9 := Lib.hid hP9.symm
    have H := Lib.hid h; have HOF := Lib.hid ho; have HN := Lib.hid hn
    have HX := Lib.hid hX; have HPM := Lib.hid hp
    clear t1 t2 hq1 hq2 hT hX hp hR h2 hRR hS9 hP9 h ho hn ih hl1 hsm
    have hp1 : (p : Int) < (n : Int) := by omega
    have g1 : (gt : Int) ≤ (n : Int) := by omega
    have g2 : (lt : Int) ≤ (c : Int) := by omega
    have g3 : lt ≤ c := by omega
    have g4 : gt ≤ n := by omega
    have g5 : n ≤ c := hc
    have u1 : s1 ≤ 64 := by omega
    have u2 : s2 ≤ 64 := by omega
    have u3 : p1 ≤ 64 := by omega
    have u4 : p2 ≤ 64 := by omega
    have elim : ((lim + 1 : Nat) : Int) = (lim : Int) + 1 := by omega
    have hml0 : ¬ ((lim : Int) + 1 = 0) := by omega
    rw [elim]
    rw [HPM.out] at HC
    clear elim hml
    go_enter Try.func41, Try.ntmps41
    go_wp2_with fail
    refine HC.out.mono ?_
    rintro e w1 ⟨rfl, hb1⟩
    have HP1 := Lib.hid (H.out.below hb1)
    have HG1 := Lib.hid (grown_of_below (row := some g) hb1)
    have c1 := HP1.out.at HOF.out (i := p) (by rw [HN.out]; exact hpn)
    rw [HX.out] at c1
    have HC1' := Lib.hid (HC1.out w1 HP1.out)
    clear hb1 HC HC1
    go_wp2_with fail
    refine HC1'.out.mono ?_
    rintro e w2 ⟨rfl, hp2, hg2⟩
    have HP2 := Lib.hid (show PR w2 B g cap N pre (M.take lt) (M.drop lt ++ post) from hp2.view (by rw [List.append_assoc pre (M.take lt), ← List.append_assoc (M.take lt), List.take_append_drop, List.append_assoc]))
    have HG2 := Lib.hid (grown_trans HG1.out hg2)
    have HC2' := Lib.hid (HC2.out w2 HP2.out)
    clear hp2 hg2 HC1' HC2 c1
    go_wp2_with fail
    refine HC2'.out.mono ?_
    rintro e w5 ⟨rfl, hp4, hg4⟩
    have HP4 := Lib.hid hp4; have HG4 := Lib.hid (grown_trans HG2.out hg4)
    clear hp4 hg4 HC2'
    have hdl : M.drop lt = (M.take gt).drop lt ++ M.drop gt := by
      conv => lhs; rw [← List.take_append_drop gt M]
      rw [List.drop_append_of_le_length (by rw [List.length_take]; omega)]
    have hmd : ((M.take gt).drop lt).length = gt - lt := by rw [List.length_drop, List.length_take]; omega
    obtain ⟨Mid, hMid⟩ : ∃ Mid, (M.take gt).drop lt = Mid := ⟨_, rfl⟩
    rw [hMid] at hdl hmd HRR
    rw [hdl] at HP4
    have ih := HIH.out
    have hq2 := HQ2.out
    have htail : (M.drop gt).length = n - gt := by rw [List.length_drop, HML.out]
    obtain ⟨T, hT⟩ : ∃ T, M.drop gt = T := ⟨_, rfl⟩
    rw [hT] at HP4 hq2 htail
    have hl2 : R2.length = n - gt := by
      have := Es.qk_sorts small lim T
      rw [hq2] at this
      simp only at this
      rw [this, srtI_len]; exact htail
    have HL2 := Lib.hid hl2
    by_cases hcg : c = gt
    · have hT0 : T = [] := List.eq_nil_of_length_eq_zero (by omega)
      have HR2 := Lib.hid (List.eq_nil_of_length_eq_zero (show R2.length = 0 by omega))
      have HP5 := Lib.hid (show PR w5 B g cap N pre T (R1 ++ Mid ++ post) from HP4.out.view (by rw [hT0]; simp))
      have HC5 := Lib.hid (ih B g cap N off (n - gt) 0 s2 p2 pre T (R1 ++ Mid ++ post) R2 w5 HOF.out htail (by omega) (by omega) hq2 HP5.out)
      have hcn : c = n := by omega
      subst hcg
      subst hcn
      rw [Nat.sub_self] at HC5
      clear hq2 ih hdl hmd hMid hT hl2 hT0 htail HP4 HP5 g1 g4
      go_wp2_with fail
      refine HC5.out.mono ?_
      rintro e w6 ⟨rfl, hp6, hg6⟩
      have HP6 := Lib.hid (show PR w6 B g cap N pre R post from hp6.view (by rw [HRR.out, HR2.out]; simp))
      have HG6 := Lib.hid (grown_trans HG4.out hg6)
      clear hp6 hg6
      go_wp2
      go_ret2
      have e2 : ((1 + s1 + s2 : Nat) : Int) = 1 + (s1 : Int) + (s2 : Int) := by omega
      have e3 : ((p1 + p2 : Nat) : Int) = (p1 : Int) + (p2 : Int) := by omega
      rw [HS9.out, HP9.out, e2, e3]
      exact ⟨rfl, HP6.out, HG6.out⟩
    · have HP5 := Lib.hid (show PR w5 B g cap N (pre ++ R1 ++ Mid) T post from HP4.out.view (by simp))
      have HC5 := Lib.hid (ih B g cap N (off + gt) (n - gt) (c - gt) s2 p2 (pre ++ R1 ++ Mid) T post R2 w5 (by rw [List.length_append, List.length_append, HOF.out, HR1.out, hmd]; omega) htail (by omega) (by omega) hq2 HP5.out)
      clear hq2 ih hdl hmd hMid hT hl2 htail HP4 HP5
      have hcg' : ¬ gt = c := fun e => hcg e.symm
      go_wp2_with fail
      refine HC5.out.mono ?_
      rintro e w6 ⟨rfl, hp6, hg6⟩
      have HP6 := Lib.hid (show PR w6 B g cap N pre R post from hp6.view (by rw [HRR.out]; simp))
      have HG6 := Lib.hid (grown_trans HG4.out hg6)
      clear hp6 hg6
      go_wp2
      go_ret2
      have e2 : ((1 + s1 + s2 : Nat) : Int) = 1 + (s1 : Int) + (s2 : Int) := by omega
      have e3 : ((p1 + p2 : Nat) : Int) = (p1 : Int) + (p2 : Int) := by omega
      rw [HS9.out, HP9.out, e2, e3]
      exact ⟨rfl, HP6.out, HG6.out⟩
end Go.Proofs.Ytaaogoajhdaekaa

