/- The law FnFingerprint: its walk. -/
import Derived.Test.YtkjmngdcfheojaaGw
namespace Go.Proofs.Ytkjmngdcfheojaa
open Go.RowKit Go.Sort
set_option linter.unusedVariables false

theorem fprint_perm {l r : List Int} (h : l.Perm r) (p : Int) : fprint l p = fprint r p := by
  unfold fprint
  exact Mg.fold_perm (fun a x y => Mg.mulmod_comm a (fpD p x) (fpD p y)) h 1
theorem fpAns_ok {zs : List Int} {p : Int} (h : okList zs = true) (hp : 0 ≤ p ∧ p ≤ 999982) : fpAns zs p = (fprint zs p, true) := by
  unfold fpAns
  rw [h, show inB p 0 999982 = true by simp [inB]; omega]; rfl
theorem rankAns_ok {zs : List Int} (h : okList zs = true) (x : Int) {r : Nat} (hr : r < zs.length) : rankAns zs x ((r : Int) + 1) = (x == (Mg.srtI zs).getD r 0, true) := by
  unfold rankAns
  rw [h, show inB ((r : Int) + 1) 1 zs.length = true by simp [inB]; omega]
  have ht := Mg.rank_test zs x r hr
  simp only [Bool.and_self, if_true]
  congr 1
  rw [← Bool.decide_and]
  by_cases e : (Mg.srtI zs).getD r 0 = x
  · have := ht.1 e
    rw [e]
    simp only [beq_self_eq_true]
    exact decide_eq_true (by unfold lessL equalL; omega)
  · have h2 : ¬ (_ ∧ _) := fun hh => e (ht.2 hh)
    rw [show (x == (Mg.srtI zs).getD r 0) = false by simpa using fun h => e h.symm]
    exact decide_eq_false (fun hh => h2 (by unfold lessL equalL at hh; omega))

set_option maxRecDepth 100000 in
set_option maxHeartbeats 8000000 in
theorem lawFingerprint_small (ac : Option Addr) (cc : Nat) (cs : List Int) (w : World) (hl : cs.length ≤ 65536) (h : BytesAt w ac cs) :
    Calls Try.prog 9 #[.slice ac cs.length cc] w fun e w' => e = .returned (.bool true) ∧ Below w.heap.size w w' := by
  have HV := vBigG_any ac cs.length cc w (by omega)
  rw [decide_eq_false (by omega)] at HV
  have HV := Lib.hid HV
  have HD := Lib.hid (drawSameElements_any ac cc cs w (by omega) h)
  have HAT := Lib.hid (fun W (hb : Below w.heap.size w W) => vAt_any ac cc cs 2 W (by omega) (by omega) (h.below (Nat.le_refl _) hb))
  clear h
  go_enter Try.func9, Try.ntmps9
  go_wp2_with fail
  refine HV.out.mono ?_
  rintro e w1 ⟨rfl, rfl⟩
  go_wp2_with fail
  refine HD.out.mono ?_
  rintro e w1 ⟨a1, c1, zs, a2, c2, ys, rfl, hn1, hn2, hz70, hy70, hi1, hi2, hb⟩
  have HN1 := Lib.hid hn1; have HN2 := Lib.hid hn2; have HZ1 := Lib.hid hi1; have HY1 := Lib.hid hi2; have HB1 := Lib.hid hb
  clear hn1 hn2 hi1 hi2 hb HD HV
  have HSE := Lib.hid (sameG_any a1 c1 zs a2 c2 ys w1 HN1.out HN2.out (by omega) HZ1.out (by omega) HY1.out)
  have HLZ := Lib.hid (fun W (hb : Below w1.heap.size w1 W) => specIsValidList_any a1 c1 zs W (by omega) (HZ1.out.below (Nat.le_refl _) hb))
  have HLY := Lib.hid (fun W (hb : Below w1.heap.size w1 W) => specIsValidList_any a2 c2 ys W (by omega) (HY1.out.below (Nat.le_refl _) hb))
  cases hz : okList zs
  · have hse : seOk zs ys = false := by simp [seOk, hz]
    have hsv : seV zs ys = false := by simp [seV, hse]
    rw [hse, hsv] at HSE
    rw [hz] at HLZ
    clear hz hse hsv
    go_wp2_with fail
    refine HSE.out.mono ?_
    rintro e w2 ⟨rfl, hb⟩
    have HB2 := Lib.hid (bcg HB1.out hb)
    have HLZ2 := Lib.hid (HLZ.out _ hb); clear hb
    go_wp2_with fail
    refine HLZ2.out.mono ?_
    rintro e w3 ⟨rfl, rfl⟩
    go_wp2
    go_ret
    exact ⟨rfl, HB2.out⟩
  cases hy : okList ys
  · have hse : seOk zs ys = false := by simp [seOk, hy]
    have hsv : seV zs ys = false := by simp [seV, hse]
    rw [hse, hsv] at HSE
    rw [hz] at HLZ
    rw [hy] at HLY
    clear hz hy hse hsv
    go_wp2_with fail
    refine HSE.out.mono ?_
    rintro e w2 ⟨rfl, hb⟩
    have HB2 := Lib.hid (bcg HB1.out hb)
    have HLZ2 := Lib.hid (HLZ.out _ hb); have HLY2 := Lib.hid (HLY.out _ hb); clear hb
    go_wp2_with fail
    refine HLZ2.out.mono ?_
    rintro e w3 ⟨rfl, rfl⟩
    go_wp2_with fail
    refine HLY2.out.mono ?_
    rintro e w3 ⟨rfl, rfl⟩
    go_wp2
    go_ret
    exact ⟨rfl, HB2.out⟩
  have hse : seOk zs ys = true := by simp [seOk, hz, hy]
  have HSV : Hid (seV zs ys = true → zs.Perm ys) := fun h => by
    unfold seV at h
    simp only [Bool.and_eq_true, decide_eq_true_eq] at h
    exact Mg.perm_of_same h.2
  rw [hse] at HSE
  rw [hz] at HLZ
  rw [hy] at HLY
  have HFZ := Lib.hid (fun (p : Int) (hp : 0 ≤ p ∧ p ≤ 999982) W (hb : Below w1.heap.size w1 W) => by
    have := implFingerprint_any a1 c1 zs p W (by omega) (HZ1.out.below (Nat.le_refl _) hb)
    rw [fpAns_ok hz hp] at this
    exact this)
  have HFY := Lib.hid (fun (p : Int) (hp : 0 ≤ p ∧ p ≤ 999982) W (hb : Below w1.heap.size w1 W) => by
    have := implFingerprint_any a2 c2 ys p W (by omega) (HY1.out.below (Nat.le_refl _) hb)
    rw [fpAns_ok hy hp] at this
    exact this)
  have HDS := Lib.hid (fun W (hb : Below w1.heap.size w1 W) => distinctSorted_any a1 c1 zs W (by omega) HN1.out (HZ1.out.below (Nat.le_refl _) hb))
  have HKT := Lib.hid (fun k (hk : k < zs.length) W (hb : Below w1.heap.size w1 W) => kthSmallest_any a1 c1 zs k W hz hk HN1.out (HZ1.out.below (Nat.le_refl _) hb))
  have HVR := Lib.hid (fun (x : Int) (r : Nat) (hr : r < zs.length) W (hb : Below w1.heap.size w1 W) => by
    have := implVerifyRank_any a1 c1 zs x ((r : Int) + 1) W (by omega) (HZ1.out.below (Nat.le_refl _) hb)
    rw [rankAns_ok hz x hr] at this
    exact this)
  have hz64 := okList_len hz
  have HDL : Hid ((dsV zs).length ≤ 64) := by
    show _ ≤ _
    simp only [dsV, hz, if_true]
    exact Nat.le_trans (compact_le _) (by rw [srtI_len]; omega)
  generalize seV zs ys = sv at HSE HSV
  clear hse hy hz
  go_wp2_with fail
  refine HSE.out.mono ?_
  rintro e w2 ⟨rfl, hb⟩
  have HB2 := Lib.hid hb; clear hb
  go_wp2_with fail
  refine (HLZ.out _ HB2.out).mono ?_
  rintro e w3 ⟨rfl, rfl⟩
  go_wp2_with fail
  refine (HLY.out _ HB2.out).mono ?_
  rintro e w3 ⟨rfl, rfl⟩
  go_wp2_with fail
  refine (HAT.out _ (bcg HB1.out HB2.out)).mono ?_
  rintro e w3 ⟨⟨r0, rfl, hr0, hr1⟩, rfl⟩
  have hp0 : 0 ≤ r0 * 3000 := by omega
  have hp1 : r0 * 3000 ≤ 999982 := by omega
  have HFZ2 := Lib.hid (HFZ.out (r0 * 3000) ⟨hp0, hp1⟩ _ HB2.out)
  have HFY2 := Lib.hid (fun W hb => HFY.out (r0 * 3000) ⟨hp0, hp1⟩ W hb)
  have HXY : Hid (sv = true → fprint zs (r0 * 3000) = fprint ys (r0 * 3000)) := fun h => fprint_perm (HSV.out h) _
  generalize fprint zs (r0 * 3000) = X at HFZ2 HXY
  generalize fprint ys (r0 * 3000) = Y at HFY2 HXY
  clear HFZ HFY HSE HLZ HLY HAT HSV
  go_wp2_with fail
  refine HFZ2.out.mono ?_
  rintro e w3 ⟨rfl, hb⟩
  have HB3 := Lib.hid (bcg HB2.out hb); clear hb
  go_wp2_with fail
  refine (HFY2.out _ HB3.out).mono ?_
  rintro e w4 ⟨rfl, hb⟩
  have HB4 := Lib.hid (bcg HB3.out hb); clear hb HFZ2 HFY2
  have HSX : Hid (sv = false ∨ sv = true ∧ (X != Y) = false) := by
    cases sv
    · exact .inl rfl
    · exact .inr ⟨rfl, by rw [HXY.out rfl]; simp⟩
  have HD4 := Lib.hid (HDS.out _ HB4.out)
  rcases HSX.out with hs | ⟨hs, hxy⟩
  all_goals
    subst hs
    clear HXY HSX HDS
    go_wp2_with fail
    refine HD4.out.mono ?_
    rintro e w5 ⟨a5, c5, rfl, hd1, hd2, hi5, hb⟩
    have HI5 := Lib.hid hi5; have HB5 := Lib.hid (bcg HB4.out hb)
    clear hd1 hd2 hi5 hb HD4
    generalize dsV zs = ds at HI5 HDL ⊢
    go_wp2
    go_loopw [14, 15, 16, 17, 18, 19] (fun rk _ _ _ _ _ wr => ∃ r : Nat, rk = .int .i64 ((r : Int) + 1) ∧ r ≤ zs.length ∧ Below w5.heap.size w5 wr) (fun rk _ _ _ _ _ _ => zs.length + 1 - (intOf rk).toNat)
    case atStart => exact ⟨0, rfl, by omega, Below.refl _ _⟩
    case round =>
      obtain ⟨r, rfl, hr, hb⟩ := hrel
      have HBR := Lib.hid hb; clear hb
      by_cases hrz : r < zs.length
      case neg =>
        obtain rfl : r = zs.length := by omega
        have h3 : decide (((zs.length : Int) + 1) ≤ (zs.length : Int)) = false := decide_eq_false (by omega)
        have HF := Lib.hid (bcg HB1.out (bcg HB5.out HBR.out))
        go_wp2
        go_ret
        exact ⟨rfl, HF.out⟩
      have h3 : decide (((r : Int) + 1) ≤ (zs.length : Int)) = true := decide_eq_true (by omega)
      have HK := Lib.hid (HKT.out r hrz _ (bcg HB5.out HBR.out))
      have HR2 := Lib.hid (fun x W hb => HVR.out x r hrz W hb)
      generalize (Mg.srtI zs).getD r 0 = K at HK HR2
      have hr64 : (r : Int) + 1 ≤ 100 := by omega
      go_wp2_with fail
      refine HK.out.mono ?_
      rintro e w6 ⟨rfl, hb⟩
      have HB6 := Lib.hid (bcg HBR.out hb); clear hb HK
      go_wp2
      go_loopw [17, 18, 19] (fun i _ _ wq => ∃ j : Nat, i = .int .i64 j ∧ j ≤ ds.length ∧ Below w5.heap.size w5 wq) (fun i _ _ _ => ds.length - (intOf i).toNat)
      case atStart => exact ⟨0, rfl, by omega, HB6.out⟩
      case round =>
        obtain ⟨j, rfl, hj, hb⟩ := hrel
        have HB7 := Lib.hid hb; clear hb
        by_cases hjd : j < ds.length
        case neg =>
          obtain rfl : j = ds.length := by omega
          have h4 : decide ((ds.length : Int) < (ds.length : Int)) = false := by simp
          go_wp2
          go_roundw
          case rel => exact ⟨r + 1, by go_num, by omega, HB7.out⟩
          case measure => simp [intOf] <;> omega
        have h4 : decide ((j : Int) < (ds.length : Int)) = true := decide_eq_true (by omega)
        obtain ⟨b, off, rfl, hc⟩ := (HI5.out.below (Nat.le_refl _) HB7.out).at hjd
        have HVJ := HR2.out (ds.getD j 0) wr (bcg HB5.out HB7.out)
        generalize ds.getD j 0 = D at hc HVJ
        obtain ⟨q, hq⟩ : ∃ q, (D == K) = q := ⟨_, rfl⟩
        rw [hq] at HVJ
        have HV7 := Lib.hid HVJ
        have b1 : (0 : Int) ≤ (j : Int) := by omega
        have b2 : (j : Int) < (ds.length : Int) := by omega
        have hd64 := HDL.out
        clear HVJ
        go_wp2_with fail
        refine HV7.out.mono ?_
        rintro e w8 ⟨rfl, hb⟩
        have hc8 : w8.cell? ⟨b, off + j, none⟩ = some (.int .i64 D) := (hb.cell (p := ⟨b, off + j, none⟩) (World.block_lt_of_cell? _ _ hc)).trans hc
        have HB8 := Lib.hid (bcg HB7.out hb); clear hb hc
        cases q
        all_goals
          go_wp2_with fail
          exact ⟨⟨j + 1, by go_num, by omega, HB8.out⟩, by simp [intOf] <;> omega⟩

theorem lawFingerprint_any (ac : Option Addr) (cc : Nat) (cs : List Int) (w : World) (hbig : cs.length ≤ 9223372036854775807) (h : BytesAt w ac cs) :
    Calls Try.prog 9 #[.slice ac cs.length cc] w fun e w' => e = .returned (.bool true) ∧ Below w.heap.size w w' := by
  by_cases hb65 : 65536 < cs.length
  · have HV := vBigG_any ac cs.length cc w hbig
    rw [decide_eq_true hb65] at HV
    have HV := Lib.hid HV
    clear hb65 h
    go_enter Try.func9, Try.ntmps9
    go_wp2_with fail
    refine HV.out.mono ?_
    rintro e w1 ⟨rfl, rfl⟩
    go_wp2
    go_ret
    exact ⟨rfl, Below.refl _ _⟩
  · exact lawFingerprint_small ac cc cs w (by omega) h

end Go.Proofs.Ytkjmngdcfheojaa
