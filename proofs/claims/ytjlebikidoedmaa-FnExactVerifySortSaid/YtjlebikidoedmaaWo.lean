/- VerifySort and the law FnExactVerifySort: their walks. -/
import Derived.Test.YtjlebikidoedmaaWn
namespace Go.Proofs.Ytjlebikidoedmaa
open Go.RowKit
set_option linter.unusedVariables false

def vsAns (l s : RL) (p : List Int) : Bool × Bool := if okRecs l && okRecs s then (provesB l s p, true) else (false, false)

set_option maxHeartbeats 400000 in
theorem implVerifySort_any (a1 : Option Addr) (c1 : Nat) (l : RL) (a2 : Option Addr) (c2 : Nat) (s : RL) (a3 : Option Addr) (c3 : Nat) (p : List Int) (w : World) (b1 : l.length ≤ 9223372036854775807) (h1 : RecsAt w a1 l) (b2 : s.length ≤ 9223372036854775807) (h2 : RecsAt w a2 s) (b3 : p.length ≤ 9223372036854775807) (h3 : IntsAt w a3 p) :
    Calls Try.prog 29 #[.slice a1 l.length c1, .slice a2 s.length c2, .slice a3 p.length c3] w fun e w' => e = .returned (.tuple #[.bool (vsAns l s p).1, .bool (vsAns l s p).2]) ∧ Below w.heap.size w w' := by
  have HL := Lib.hid (isValidRecords_any a1 c1 l w b1 h1)
  have H1 := Lib.hid h1
  have H2 := Lib.hid h2
  have H3 := Lib.hid h3
  clear h1 h2 h3
  cases k1 : okRecs l
  · have HA : Hid (vsAns l s p = (false, false)) := by show _ = _; simp [vsAns, k1]
    rw [k1] at HL
    clear k1
    go_enter Try.func29, Try.ntmps29
    go_wp2_with fail
    refine HL.out.mono ?_
    rintro e w1 ⟨rfl, hb⟩
    have HB := Lib.hid hb; clear hb
    go_wp2
    go_ret2
    exact ⟨by rw [HA.out]; rfl, HB.out⟩
  rw [k1] at HL
  cases k2 : okRecs s
  · have HA : Hid (vsAns l s p = (false, false)) := by show _ = _; simp [vsAns, k2]
    have HL2 := Lib.hid (fun w1 (hb : Below w.heap.size w w1) => k2 ▸ isValidRecords_any a2 c2 s w1 b2 (H2.out.below (Nat.le_refl _) hb))
    clear k1 k2
    go_enter Try.func29, Try.ntmps29
    go_wp2_with fail
    refine HL.out.mono ?_
    rintro e w1 ⟨rfl, hb⟩
    have HB := Lib.hid hb; clear hb
    go_wp2_with fail
    refine (HL2.out _ HB.out).mono ?_
    rintro e w2 ⟨rfl, hb⟩
    have HB2 := Lib.hid (HB.out.trans (hb.mono HB.out.size)); clear hb
    go_wp2
    go_ret2
    exact ⟨by rw [HA.out]; rfl, HB2.out⟩
  have HA : Hid (vsAns l s p = (provesB l s p, true)) := by show _ = _; simp [vsAns, k1, k2]
  have HL2 := Lib.hid (fun w1 (hb : Below w.heap.size w w1) => k2 ▸ isValidRecords_any a2 c2 s w1 b2 (H2.out.below (Nat.le_refl _) hb))
  clear k1 k2
  go_enter Try.func29, Try.ntmps29
  go_wp2_with fail
  refine HL.out.mono ?_
  rintro e w1 ⟨rfl, hb⟩
  have HB := Lib.hid hb; clear hb
  go_wp2_with fail
  refine (HL2.out _ HB.out).mono ?_
  rintro e w2 ⟨rfl, hb⟩
  have HB2 := Lib.hid (HB.out.trans (hb.mono HB.out.size)); clear hb
  go_wp2_with fail
  refine (proves_any a1 a2 a3 c1 c2 c3 l s p _ b1 b2 b3 (H1.out.below (Nat.le_refl _) HB2.out) (H2.out.below (Nat.le_refl _) HB2.out) (H3.out.below (Nat.le_refl _) HB2.out)).mono ?_
  rintro e w3 ⟨rfl, hb⟩
  have HB3 := Lib.hid (HB2.out.trans (hb.mono HB2.out.size)); clear hb
  go_wp2
  go_ret2
  exact ⟨by rw [HA.out]; rfl, HB3.out⟩

set_option maxHeartbeats 400000 in
theorem specVerifySort_any (a1 : Option Addr) (c1 : Nat) (l : RL) (a2 : Option Addr) (c2 : Nat) (s : RL) (a3 : Option Addr) (c3 : Nat) (p : List Int) (w : World) (b1 : l.length ≤ 9223372036854775807) (h1 : RecsAt w a1 l) (b2 : s.length ≤ 9223372036854775807) (h2 : RecsAt w a2 s) (b3 : p.length ≤ 9223372036854775807) (h3 : IntsAt w a3 p) :
    Calls Try.prog 28 #[.slice a1 l.length c1, .slice a2 s.length c2, .slice a3 p.length c3] w fun e w' => e = .returned (.tuple #[.bool (vsAns l s p).1, .bool (vsAns l s p).2]) ∧ Below w.heap.size w w' := by
  have HL := Lib.hid (l2Records_any a1 c1 l w b1 h1)
  have HL2 := Lib.hid (l2Records_any a2 c2 s w b2 h2)
  have HP := Lib.hid (l24Proves_any a1 a2 a3 c1 c2 c3 l s p w b1 b2 b3 h1 h2 h3)
  clear h1 h2 h3
  cases k1 : okRecs l
  · have HA : Hid (vsAns l s p = (false, false)) := by show _ = _; simp [vsAns, k1]
    rw [k1] at HL
    clear k1
    go_enter Try.func28, Try.ntmps28
    go_wp2_with fail
    refine HL.out.mono ?_
    rintro e w1 ⟨rfl, rfl⟩
    go_wp2
    go_ret2
    exact ⟨by rw [HA.out]; rfl, Below.refl _ _⟩
  rw [k1] at HL
  cases k2 : okRecs s
  · have HA : Hid (vsAns l s p = (false, false)) := by show _ = _; simp [vsAns, k2]
    rw [k2] at HL2
    clear k1 k2
    go_enter Try.func28, Try.ntmps28
    go_wp2_with fail
    refine HL.out.mono ?_
    rintro e w1 ⟨rfl, rfl⟩
    go_wp2_with fail
    refine HL2.out.mono ?_
    rintro e w1 ⟨rfl, rfl⟩
    go_wp2
    go_ret2
    exact ⟨by rw [HA.out]; rfl, Below.refl _ _⟩
  have HA : Hid (vsAns l s p = (provesB l s p, true)) := by show _ = _; simp [vsAns, k1, k2]
  rw [k2] at HL2
  clear k1 k2
  go_enter Try.func28, Try.ntmps28
  go_wp2_with fail
  refine HL.out.mono ?_
  rintro e w1 ⟨rfl, rfl⟩
  go_wp2_with fail
  refine HL2.out.mono ?_
  rintro e w1 ⟨rfl, rfl⟩
  go_wp2_with fail
  refine HP.out.mono ?_
  rintro e w3 ⟨rfl, hb⟩
  have HB3 := Lib.hid hb; clear hb
  go_wp2
  go_ret2
  exact ⟨by rw [HA.out]; rfl, HB3.out⟩

set_option maxHeartbeats 1000000 in
theorem lawVerifySort_any (al : Option Addr) (cl : Nat) (l : List (Int × Int)) (am : Option Addr) (cm : Nat) (m : List (Int × Int)) (ap : Option Addr) (cp : Nat) (p : List Int) (w : World) (bl : l.length ≤ 9223372036854775807) (hl : RecsAt w al l) (bm : m.length ≤ 9223372036854775807) (hm : RecsAt w am m) (bp : p.length ≤ 9223372036854775807) (hp : IntsAt w ap p) :
    Calls Try.prog 8 #[.slice al l.length cl, .slice am m.length cm, .slice ap p.length cp] w fun e w' => e = .returned (.bool true) ∧ Below w.heap.size w w' := by
  by_cases lp : p.length ≤ 1048576
  case' neg =>
    go_enter Try.func8, Try.ntmps8
    go_wp2_with fail
    go_ret
    exact ⟨rfl, Below.refl _ _⟩
  by_cases ll : l.length ≤ 1048576
  case' neg =>
    have ll' : ¬ ((1048576 : Int) - (l.length : Nat) ≥ 0) := by omega
    go_enter Try.func8, Try.ntmps8
    go_wp2_with fail
    refine (szRecordS_no al cl l (1048576 : Int) _ (by omega) (by omega) (by omega) (by omega)).mono ?_
    rintro e w' ⟨rfl, rfl⟩
    go_wp2_with fail
    go_ret
    exact ⟨rfl, Below.refl _ _⟩
  by_cases lm : l.length + m.length ≤ 1048576
  case' neg =>
    have lm' : ¬ ((1048576 : Int) - (l.length + m.length : Nat) ≥ 0) := by omega
    go_enter Try.func8, Try.ntmps8
    go_wp2_with fail
    refine (szRecordS_yes al cl l (1048576 : Int) _ (by omega) (by omega) (by omega)).mono ?_
    rintro e w' ⟨rfl, rfl⟩
    go_wp2_with fail
    refine (szRecordS_no am cm m (1048576 - (l.length : Int)) _ (by omega) (by omega) (by omega) (by omega)).mono ?_
    rintro e w' ⟨rfl, rfl⟩
    go_wp2_with fail
    go_ret
    exact ⟨rfl, Below.refl _ _⟩
  have Hl := Lib.hid hl; clear hl
  have Hm := Lib.hid hm; clear hm
  have Hp := Lib.hid hp; clear hp
  have HB0 := Lib.hid (Below.refl w.heap.size w)
  have ll1 : l.length ≤ 1048576 := by omega
  have lm1 : m.length ≤ 1048576 := by omega
  have lp1 : p.length ≤ 1048576 := by omega
  go_enter Try.func8, Try.ntmps8
  go_wp2_with fail
  refine (szRecordS_yes al cl l (1048576 : Int) _ (by omega) (by omega) (by omega)).mono ?_
  rintro e w' ⟨rfl, rfl⟩
  go_wp2_with fail
  refine (szRecordS_yes am cm m ((1048576 : Int) - (l.length : Int)) _ (by omega) (by omega) (by omega)).mono ?_
  rintro e w' ⟨rfl, rfl⟩
  go_wp2_with fail
  refine (toRecordS_any _ _ l _ ll1 Hl.out).mono ?_
  rintro e w1 ⟨rfl, ho1, hb1⟩
  have Hl_1 := Lib.hid (RecsAt.below Hl.out (Nat.le_refl _) hb1); clear Hl; have Hl := Hl_1; clear Hl_1
  have Hm_1 := Lib.hid (RecsAt.below Hm.out (Nat.le_refl _) hb1); clear Hm; have Hm := Hm_1; clear Hm_1
  have Hp_1 := Lib.hid (IntsAt.below Hp.out (Nat.le_refl _) hb1); clear Hp; have Hp := Hp_1; clear Hp_1
  have Sl := Lib.hid (ownRecs ho1); clear ho1
  have HB1 := Lib.hid (HB0.out.trans (hb1.mono HB0.out.size)); clear hb1
  go_wp2_with fail
  refine (toRecordS_any _ _ m _ lm1 Hm.out).mono ?_
  rintro e w2 ⟨rfl, ho2, hb2⟩
  have Hl_2 := Lib.hid (RecsAt.below Hl.out (Nat.le_refl _) hb2); clear Hl; have Hl := Hl_2; clear Hl_2
  have Hm_2 := Lib.hid (RecsAt.below Hm.out (Nat.le_refl _) hb2); clear Hm; have Hm := Hm_2; clear Hm_2
  have Hp_2 := Lib.hid (IntsAt.below Hp.out (Nat.le_refl _) hb2); clear Hp; have Hp := Hp_2; clear Hp_2
  have Sl_2 := Lib.hid (RecsAt.below Sl.out (Nat.le_refl _) hb2); clear Sl; have Sl := Sl_2; clear Sl_2
  have Sm := Lib.hid (ownRecs ho2); clear ho2
  have HB2 := Lib.hid (HB1.out.trans (hb2.mono HB1.out.size)); clear hb2
  go_wp2_with fail
  refine (toIntS_any _ _ p _ lp1 Hp.out).mono ?_
  rintro e w3 ⟨rfl, ho3, hb3⟩
  have Hl_3 := Lib.hid (RecsAt.below Hl.out (Nat.le_refl _) hb3); clear Hl; have Hl := Hl_3; clear Hl_3
  have Hm_3 := Lib.hid (RecsAt.below Hm.out (Nat.le_refl _) hb3); clear Hm; have Hm := Hm_3; clear Hm_3
  have Hp_3 := Lib.hid (IntsAt.below Hp.out (Nat.le_refl _) hb3); clear Hp; have Hp := Hp_3; clear Hp_3
  have Sl_3 := Lib.hid (RecsAt.below Sl.out (Nat.le_refl _) hb3); clear Sl; have Sl := Sl_3; clear Sl_3
  have Sm_3 := Lib.hid (RecsAt.below Sm.out (Nat.le_refl _) hb3); clear Sm; have Sm := Sm_3; clear Sm_3
  have Sp := Lib.hid (ownInts ho3); clear ho3
  have HB3 := Lib.hid (HB2.out.trans (hb3.mono HB2.out.size)); clear hb3
  go_wp2_with fail
  refine (specVerifySort_any _ _ l _ _ m _ _ p _ bl Sl.out bm Sm.out bp Sp.out).mono ?_
  rintro e w4 ⟨rfl, hb4⟩
  have Hl_4 := Lib.hid (RecsAt.below Hl.out (Nat.le_refl _) hb4); clear Hl; have Hl := Hl_4; clear Hl_4
  have Hm_4 := Lib.hid (RecsAt.below Hm.out (Nat.le_refl _) hb4); clear Hm; have Hm := Hm_4; clear Hm_4
  have Hp_4 := Lib.hid (IntsAt.below Hp.out (Nat.le_refl _) hb4); clear Hp; have Hp := Hp_4; clear Hp_4
  have Sl_4 := Lib.hid (RecsAt.below Sl.out (Nat.le_refl _) hb4); clear Sl; have Sl := Sl_4; clear Sl_4
  have Sm_4 := Lib.hid (RecsAt.below Sm.out (Nat.le_refl _) hb4); clear Sm; have Sm := Sm_4; clear Sm_4
  have Sp_4 := Lib.hid (IntsAt.below Sp.out (Nat.le_refl _) hb4); clear Sp; have Sp := Sp_4; clear Sp_4
  have HB4 := Lib.hid (HB3.out.trans (hb4.mono HB3.out.size)); clear hb4
  clear Sl
  clear Sm
  clear Sp
  go_wp2_with fail
  refine (toRecordS_any _ _ l _ ll1 Hl.out).mono ?_
  rintro e w5 ⟨rfl, ho5, hb5⟩
  have Hl_5 := Lib.hid (RecsAt.below Hl.out (Nat.le_refl _) hb5); clear Hl; have Hl := Hl_5; clear Hl_5
  have Hm_5 := Lib.hid (RecsAt.below Hm.out (Nat.le_refl _) hb5); clear Hm; have Hm := Hm_5; clear Hm_5
  have Hp_5 := Lib.hid (IntsAt.below Hp.out (Nat.le_refl _) hb5); clear Hp; have Hp := Hp_5; clear Hp_5
  have Xl := Lib.hid (ownRecs ho5); clear ho5
  have HB5 := Lib.hid (HB4.out.trans (hb5.mono HB4.out.size)); clear hb5
  go_wp2_with fail
  refine (toRecordS_any _ _ m _ lm1 Hm.out).mono ?_
  rintro e w6 ⟨rfl, ho6, hb6⟩
  have Hl_6 := Lib.hid (RecsAt.below Hl.out (Nat.le_refl _) hb6); clear Hl; have Hl := Hl_6; clear Hl_6
  have Hm_6 := Lib.hid (RecsAt.below Hm.out (Nat.le_refl _) hb6); clear Hm; have Hm := Hm_6; clear Hm_6
  have Hp_6 := Lib.hid (IntsAt.below Hp.out (Nat.le_refl _) hb6); clear Hp; have Hp := Hp_6; clear Hp_6
  have Xl_6 := Lib.hid (RecsAt.below Xl.out (Nat.le_refl _) hb6); clear Xl; have Xl := Xl_6; clear Xl_6
  have Xm := Lib.hid (ownRecs ho6); clear ho6
  have HB6 := Lib.hid (HB5.out.trans (hb6.mono HB5.out.size)); clear hb6
  go_wp2_with fail
  refine (toIntS_any _ _ p _ lp1 Hp.out).mono ?_
  rintro e w7 ⟨rfl, ho7, hb7⟩
  have Hl_7 := Lib.hid (RecsAt.below Hl.out (Nat.le_refl _) hb7); clear Hl; have Hl := Hl_7; clear Hl_7
  have Hm_7 := Lib.hid (RecsAt.below Hm.out (Nat.le_refl _) hb7); clear Hm; have Hm := Hm_7; clear Hm_7
  have Hp_7 := Lib.hid (IntsAt.below Hp.out (Nat.le_refl _) hb7); clear Hp; have Hp := Hp_7; clear Hp_7
  have Xl_7 := Lib.hid (RecsAt.below Xl.out (Nat.le_refl _) hb7); clear Xl; have Xl := Xl_7; clear Xl_7
  have Xm_7 := Lib.hid (RecsAt.below Xm.out (Nat.le_refl _) hb7); clear Xm; have Xm := Xm_7; clear Xm_7
  have Xp := Lib.hid (ownInts ho7); clear ho7
  have HB7 := Lib.hid (HB6.out.trans (hb7.mono HB6.out.size)); clear hb7
  go_wp2_with fail
  refine (implVerifySort_any _ _ l _ _ m _ _ p _ bl Xl.out bm Xm.out bp Xp.out).mono ?_
  rintro e w8 ⟨rfl, hb8⟩
  have Hl_8 := Lib.hid (RecsAt.below Hl.out (Nat.le_refl _) hb8); clear Hl; have Hl := Hl_8; clear Hl_8
  have Hm_8 := Lib.hid (RecsAt.below Hm.out (Nat.le_refl _) hb8); clear Hm; have Hm := Hm_8; clear Hm_8
  have Hp_8 := Lib.hid (IntsAt.below Hp.out (Nat.le_refl _) hb8); clear Hp; have Hp := Hp_8; clear Hp_8
  have Xl_8 := Lib.hid (RecsAt.below Xl.out (Nat.le_refl _) hb8); clear Xl; have Xl := Xl_8; clear Xl_8
  have Xm_8 := Lib.hid (RecsAt.below Xm.out (Nat.le_refl _) hb8); clear Xm; have Xm := Xm_8; clear Xm_8
  have Xp_8 := Lib.hid (IntsAt.below Xp.out (Nat.le_refl _) hb8); clear Xp; have Xp := Xp_8; clear Xp_8
  have HB8 := Lib.hid (HB7.out.trans (hb8.mono HB7.out.size)); clear hb8
  go_wp2_with fail
  refine (toRecordS_any _ _ l _ ll1 Hl.out).mono ?_
  rintro e w9 ⟨rfl, ho9, hb9⟩
  have Hl_9 := Lib.hid (RecsAt.below Hl.out (Nat.le_refl _) hb9); clear Hl; have Hl := Hl_9; clear Hl_9
  have Hm_9 := Lib.hid (RecsAt.below Hm.out (Nat.le_refl _) hb9); clear Hm; have Hm := Hm_9; clear Hm_9
  have Hp_9 := Lib.hid (IntsAt.below Hp.out (Nat.le_refl _) hb9); clear Hp; have Hp := Hp_9; clear Hp_9
  have Xl_9 := Lib.hid (RecsAt.below Xl.out (Nat.le_refl _) hb9); clear Xl; have Xl := Xl_9; clear Xl_9
  have Xm_9 := Lib.hid (RecsAt.below Xm.out (Nat.le_refl _) hb9); clear Xm; have Xm := Xm_9; clear Xm_9
  have Xp_9 := Lib.hid (IntsAt.below Xp.out (Nat.le_refl _) hb9); clear Xp; have Xp := Xp_9; clear Xp_9
  have Yl := Lib.hid (ownRecs ho9); clear ho9
  have HB9 := Lib.hid (HB8.out.trans (hb9.mono HB8.out.size)); clear hb9
  go_wp2_with fail
  refine (eqRecordS_any _ _ _ _ l l _ bl bl Xl.out Yl.out).mono ?_
  rintro e w10 ⟨rfl, hb10⟩
  have Hl_10 := Lib.hid (RecsAt.below Hl.out (Nat.le_refl _) hb10); clear Hl; have Hl := Hl_10; clear Hl_10
  have Hm_10 := Lib.hid (RecsAt.below Hm.out (Nat.le_refl _) hb10); clear Hm; have Hm := Hm_10; clear Hm_10
  have Hp_10 := Lib.hid (IntsAt.below Hp.out (Nat.le_refl _) hb10); clear Hp; have Hp := Hp_10; clear Hp_10
  have Xl_10 := Lib.hid (RecsAt.below Xl.out (Nat.le_refl _) hb10); clear Xl; have Xl := Xl_10; clear Xl_10
  have Xm_10 := Lib.hid (RecsAt.below Xm.out (Nat.le_refl _) hb10); clear Xm; have Xm := Xm_10; clear Xm_10
  have Xp_10 := Lib.hid (IntsAt.below Xp.out (Nat.le_refl _) hb10); clear Xp; have Xp := Xp_10; clear Xp_10
  have Yl_10 := Lib.hid (RecsAt.below Yl.out (Nat.le_refl _) hb10); clear Yl; have Yl := Yl_10; clear Yl_10
  have HB10 := Lib.hid (HB9.out.trans (hb10.mono HB9.out.size)); clear hb10
  clear Xl Yl
  go_wp2_with fail
  refine (toRecordS_any _ _ m _ lm1 Hm.out).mono ?_
  rintro e w11 ⟨rfl, ho11, hb11⟩
  have Hl_11 := Lib.hid (RecsAt.below Hl.out (Nat.le_refl _) hb11); clear Hl; have Hl := Hl_11; clear Hl_11
  have Hm_11 := Lib.hid (RecsAt.below Hm.out (Nat.le_refl _) hb11); clear Hm; have Hm := Hm_11; clear Hm_11
  have Hp_11 := Lib.hid (IntsAt.below Hp.out (Nat.le_refl _) hb11); clear Hp; have Hp := Hp_11; clear Hp_11
  have Xm_11 := Lib.hid (RecsAt.below Xm.out (Nat.le_refl _) hb11); clear Xm; have Xm := Xm_11; clear Xm_11
  have Xp_11 := Lib.hid (IntsAt.below Xp.out (Nat.le_refl _) hb11); clear Xp; have Xp := Xp_11; clear Xp_11
  have Ym := Lib.hid (ownRecs ho11); clear ho11
  have HB11 := Lib.hid (HB10.out.trans (hb11.mono HB10.out.size)); clear hb11
  go_wp2_with fail
  refine (eqRecordS_any _ _ _ _ m m _ bm bm Xm.out Ym.out).mono ?_
  rintro e w12 ⟨rfl, hb12⟩
  have Hl_12 := Lib.hid (RecsAt.below Hl.out (Nat.le_refl _) hb12); clear Hl; have Hl := Hl_12; clear Hl_12
  have Hm_12 := Lib.hid (RecsAt.below Hm.out (Nat.le_refl _) hb12); clear Hm; have Hm := Hm_12; clear Hm_12
  have Hp_12 := Lib.hid (IntsAt.below Hp.out (Nat.le_refl _) hb12); clear Hp; have Hp := Hp_12; clear Hp_12
  have Xm_12 := Lib.hid (RecsAt.below Xm.out (Nat.le_refl _) hb12); clear Xm; have Xm := Xm_12; clear Xm_12
  have Xp_12 := Lib.hid (IntsAt.below Xp.out (Nat.le_refl _) hb12); clear Xp; have Xp := Xp_12; clear Xp_12
  have Ym_12 := Lib.hid (RecsAt.below Ym.out (Nat.le_refl _) hb12); clear Ym; have Ym := Ym_12; clear Ym_12
  have HB12 := Lib.hid (HB11.out.trans (hb12.mono HB11.out.size)); clear hb12
  clear Xm Ym
  go_wp2_with fail
  refine (toIntS_any _ _ p _ lp1 Hp.out).mono ?_
  rintro e w13 ⟨rfl, ho13, hb13⟩
  have Hl_13 := Lib.hid (RecsAt.below Hl.out (Nat.le_refl _) hb13); clear Hl; have Hl := Hl_13; clear Hl_13
  have Hm_13 := Lib.hid (RecsAt.below Hm.out (Nat.le_refl _) hb13); clear Hm; have Hm := Hm_13; clear Hm_13
  have Hp_13 := Lib.hid (IntsAt.below Hp.out (Nat.le_refl _) hb13); clear Hp; have Hp := Hp_13; clear Hp_13
  have Xp_13 := Lib.hid (IntsAt.below Xp.out (Nat.le_refl _) hb13); clear Xp; have Xp := Xp_13; clear Xp_13
  have Yp := Lib.hid (ownInts ho13); clear ho13
  have HB13 := Lib.hid (HB12.out.trans (hb13.mono HB12.out.size)); clear hb13
  go_wp2_with fail
  refine (eqIntS_any _ _ _ _ p p _ bp bp Xp.out Yp.out).mono ?_
  rintro e w14 ⟨rfl, hb14⟩
  have Hl_14 := Lib.hid (RecsAt.below Hl.out (Nat.le_refl _) hb14); clear Hl; have Hl := Hl_14; clear Hl_14
  have Hm_14 := Lib.hid (RecsAt.below Hm.out (Nat.le_refl _) hb14); clear Hm; have Hm := Hm_14; clear Hm_14
  have Hp_14 := Lib.hid (IntsAt.below Hp.out (Nat.le_refl _) hb14); clear Hp; have Hp := Hp_14; clear Hp_14
  have Xp_14 := Lib.hid (IntsAt.below Xp.out (Nat.le_refl _) hb14); clear Xp; have Xp := Xp_14; clear Xp_14
  have Yp_14 := Lib.hid (IntsAt.below Yp.out (Nat.le_refl _) hb14); clear Yp; have Yp := Yp_14; clear Yp_14
  have HB14 := Lib.hid (HB13.out.trans (hb14.mono HB13.out.size)); clear hb14
  clear Xp Yp
  go_wp2
  go_ret
  exact ⟨rfl, HB14.out⟩

end Go.Proofs.Ytjlebikidoedmaa
