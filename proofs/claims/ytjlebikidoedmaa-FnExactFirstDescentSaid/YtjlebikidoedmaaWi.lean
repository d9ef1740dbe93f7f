/- The law FnExactFirstDescent: its walk. -/
import Derived.Test.YtjlebikidoedmaaWh
namespace Go.Proofs.Ytjlebikidoedmaa
open Go.RowKit
set_option linter.unusedVariables false

set_option maxHeartbeats 1000000 in
theorem lawFirstDescent_any (azs : Option Addr) (czs : Nat) (zs : List (Int × Int)) (w : World) (bzs : zs.length ≤ 9223372036854775807) (hzs : RecsAt w azs zs) :
    Calls Try.prog 6 #[.slice azs zs.length czs] w fun e w' => e = .returned (.bool true) ∧ Below w.heap.size w w' := by
  by_cases lzs : zs.length ≤ 1048576
  case' neg =>
    have lzs' : ¬ ((1048576 : Int) - (zs.length : Nat) ≥ 0) := by omega
    go_enter Try.func6, Try.ntmps6
    go_wp2_with fail
    refine (szRecordS_no azs czs zs (1048576 : Int) _ (by omega) (by omega) (by omega) (by omega)).mono ?_
    rintro e w' ⟨rfl, rfl⟩
    go_wp2_with fail
    go_ret
    exact ⟨rfl, Below.refl _ _⟩
  have Hzs := Lib.hid hzs; clear hzs
  have HB0 := Lib.hid (Below.refl w.heap.size w)
  have lzs1 : zs.length ≤ 1048576 := by omega
  go_enter Try.func6, Try.ntmps6
  go_wp2_with fail
  refine (szRecordS_yes azs czs zs (1048576 : Int) _ (by omega) (by omega) (by omega)).mono ?_
  rintro e w' ⟨rfl, rfl⟩
  go_wp2_with fail
  refine (toRecordS_any _ _ zs _ lzs1 Hzs.out).mono ?_
  rintro e w1 ⟨rfl, ho1, hb1⟩
  have Hzs_1 := Lib.hid (RecsAt.below Hzs.out (Nat.le_refl _) hb1); clear Hzs; have Hzs := Hzs_1; clear Hzs_1
  have Szs := Lib.hid (ownRecs ho1); clear ho1
  have HB1 := Lib.hid (HB0.out.trans (hb1.mono HB0.out.size)); clear hb1
  go_wp2_with fail
  refine (specFirstDescent_any _ _ zs _ bzs Szs.out).mono ?_
  rintro e w2 ⟨rfl, hb2⟩
  have Hzs_2 := Lib.hid (RecsAt.below Hzs.out (Nat.le_refl _) hb2); clear Hzs; have Hzs := Hzs_2; clear Hzs_2
  have Szs_2 := Lib.hid (RecsAt.below Szs.out (Nat.le_refl _) hb2); clear Szs; have Szs := Szs_2; clear Szs_2
  have HB2 := Lib.hid (HB1.out.trans (hb2.mono HB1.out.size)); clear hb2
  clear Szs
  go_wp2_with fail
  refine (toRecordS_any _ _ zs _ lzs1 Hzs.out).mono ?_
  rintro e w3 ⟨rfl, ho3, hb3⟩
  have Hzs_3 := Lib.hid (RecsAt.below Hzs.out (Nat.le_refl _) hb3); clear Hzs; have Hzs := Hzs_3; clear Hzs_3
  have Xzs := Lib.hid (ownRecs ho3); clear ho3
  have HB3 := Lib.hid (HB2.out.trans (hb3.mono HB2.out.size)); clear hb3
  go_wp2_with fail
  refine (implFirstDescent_any _ _ zs _ bzs Xzs.out).mono ?_
  rintro e w4 ⟨rfl, hb4⟩
  have Hzs_4 := Lib.hid (RecsAt.below Hzs.out (Nat.le_refl _) hb4); clear Hzs; have Hzs := Hzs_4; clear Hzs_4
  have Xzs_4 := Lib.hid (RecsAt.below Xzs.out (Nat.le_refl _) hb4); clear Xzs; have Xzs := Xzs_4; clear Xzs_4
  have HB4 := Lib.hid (HB3.out.trans (hb4.mono HB3.out.size)); clear hb4
  go_wp2_with fail
  refine (toRecordS_any _ _ zs _ lzs1 Hzs.out).mono ?_
  rintro e w5 ⟨rfl, ho5, hb5⟩
  have Hzs_5 := Lib.hid (RecsAt.below Hzs.out (Nat.le_refl _) hb5); clear Hzs; have Hzs := Hzs_5; clear Hzs_5
  have Xzs_5 := Lib.hid (RecsAt.below Xzs.out (Nat.le_refl _) hb5); clear Xzs; have Xzs := Xzs_5; clear Xzs_5
  have Yzs := Lib.hid (ownRecs ho5); clear ho5
  have HB5 := Lib.hid (HB4.out.trans (hb5.mono HB4.out.size)); clear hb5
  go_wp2_with fail
  refine (eqRecordS_any _ _ _ _ zs zs _ bzs bzs Xzs.out Yzs.out).mono ?_
  rintro e w6 ⟨rfl, hb6⟩
  have Hzs_6 := Lib.hid (RecsAt.below Hzs.out (Nat.le_refl _) hb6); clear Hzs; have Hzs := Hzs_6; clear Hzs_6
  have Xzs_6 := Lib.hid (RecsAt.below Xzs.out (Nat.le_refl _) hb6); clear Xzs; have Xzs := Xzs_6; clear Xzs_6
  have Yzs_6 := Lib.hid (RecsAt.below Yzs.out (Nat.le_refl _) hb6); clear Yzs; have Yzs := Yzs_6; clear Yzs_6
  have HB6 := Lib.hid (HB5.out.trans (hb6.mono HB5.out.size)); clear hb6
  clear Xzs Yzs
  go_wp2
  go_ret
  exact ⟨rfl, HB6.out⟩

end Go.Proofs.Ytjlebikidoedmaa
