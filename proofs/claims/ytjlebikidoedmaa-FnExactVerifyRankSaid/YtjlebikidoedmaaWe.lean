/- The law FnExactVerifyRank: its walk. -/
import Derived.Test.YtjlebikidoedmaaWd
namespace Go.Proofs.Ytjlebikidoedmaa
open Go.RowKit
set_option linter.unusedVariables false

theorem lessEq_length (zs : List Int) (x : Int) : (zs.filter (fun y => decide (y ≤ x))).length = (lessL zs x).length + (equalL zs x).length := by
  induction zs with
  | nil => rfl
  | cons y r ih =>
    rcases Int.lt_trichotomy y x with h | h | h
    · simp [lessL, equalL, List.filter_cons, h, Int.le_of_lt h, show ¬ y = x by omega] at ih ⊢; omega
    · simp [lessL, equalL, List.filter_cons, h] at ih ⊢; omega
    · simp [lessL, equalL, List.filter_cons, show ¬ y < x by omega, show ¬ y ≤ x by omega, show ¬ y = x by omega] at ih ⊢; omega

theorem filter_len_le (zs : List Int) (q : Int → Bool) : (zs.filter q).length ≤ zs.length := List.length_filter_le _ _

set_option maxHeartbeats 1000000 in
theorem specVerifyRank_any (a : Option Addr) (cap : Nat) (zs : List Int) (x r : Int) (w : World) (hbig : zs.length ≤ 9223372036854775807) (h : IntsAt w a zs) :
    Calls Try.prog 14 #[.slice a zs.length cap, .int .i64 x, .int .i64 r] w fun e w' => e = .returned (.tuple #[.bool (rankAns zs x r).1, .bool (rankAns zs x r).2]) ∧ w = w' := by
  have HL := Lib.hid (l2List_any a cap zs w hbig h)
  have HN := Lib.hid (l1In_any r 1 zs.length w)
  cases h1 : okList zs
  · have HA : rankAns zs x r = (false, false) := by simp [rankAns, h1]
    rw [HA]
    rw [h1] at HL
    clear h HA h1
    go_enter Try.func14, Try.ntmps14
    go_wp2_with (go_at_call 36; refine HL.out.mono ?_; rintro e w' ⟨rfl, rfl⟩)
    go_ret2
    exact ⟨rfl, rfl⟩
  cases h2 : inB r 1 zs.length
  · have HA : rankAns zs x r = (false, false) := by simp [rankAns, h1, h2]
    rw [HA]
    rw [h1] at HL
    rw [h2] at HN
    clear h HA h1 h2
    go_enter Try.func14, Try.ntmps14
    go_wp2_with (first | (go_at_call 36; refine HL.out.mono ?_; rintro e w' ⟨rfl, rfl⟩) | (go_at_call 37; refine HN.out.mono ?_; rintro e w' ⟨rfl, rfl⟩))
    go_ret2
    exact ⟨rfl, rfl⟩
  · have HA : rankAns zs x r = (decide (((lessL zs x).length : Int) < r) && decide (r ≤ (lessL zs x).length + (equalL zs x).length), true) := by simp [rankAns, h1, h2]
    rw [HA]
    rw [h1] at HL
    rw [h2] at HN
    have H := Lib.hid h
    have HE := Lib.hid (lessEq_length zs x)
    clear h HA h1 h2
    go_enter Try.func14, Try.ntmps14
    go_wp2_with (first | (go_at_call 36; refine HL.out.mono ?_; rintro e w' ⟨rfl, rfl⟩) | (go_at_call 37; refine HN.out.mono ?_; rintro e w' ⟨rfl, rfl⟩))
    go_loop [8, 9, 10] (fun l m i => ∃ k : Nat, k ≤ zs.length ∧ i = .int .i64 k ∧ l = .int .i64 (lessL (zs.take k) x).length ∧ m = .int .i64 ((zs.take k).filter (fun y => decide (y ≤ x))).length) (fun _ _ i => zs.length - (intOf i).toNat)
    case atStart => exact ⟨0, by omega, rfl, rfl, rfl⟩
    case round =>
      obtain ⟨k, hk, rfl, rfl, rfl⟩ := hrel
      by_cases hlt : k < zs.length
      · obtain ⟨b, off, rfl, hcell⟩ := H.out.at hlt
        have e1 := filter_succ zs k hlt (fun y => decide (y < x))
        have e2 := filter_succ zs k hlt (fun y => decide (y ≤ x))
        have m1 := filter_len_le (zs.take k) (fun y => decide (y < x))
        have m2 := filter_len_le (zs.take k) (fun y => decide (y ≤ x))
        rw [show (zs.take k).length = k from by simp; omega] at m1 m2
        generalize hy : zs.getD k 0 = y at hcell e1 e2
        have E : Hid ((lessL (zs.take (k + 1)) x).length = (lessL (zs.take k) x).length + (if y < x then 1 else 0) ∧ ((zs.take (k + 1)).filter (fun y => decide (y ≤ x))).length = ((zs.take k).filter (fun y => decide (y ≤ x))).length + (if y ≤ x then 1 else 0)) := by
          refine ⟨?_, ?_⟩
          · unfold lessL; rw [e1]; simp; split <;> rfl
          · rw [e2]; simp; split <;> rfl
        have HY := Lib.hid hy; clear hy e1 e2
        have m1 : (lessL (zs.take k) x).length ≤ k := m1
        generalize (lessL (zs.take k) x).length = n1 at *
        generalize ((zs.take k).filter (fun y => decide (y ≤ x))).length = n2 at *
        rcases Int.lt_trichotomy y x with hyx | hyx | hyx
        · have q1 : y ≤ x := by omega
          go_wp2
          go_round
          case rel => exact ⟨k + 1, by omega, by go_num, by rw [E.out.1, if_pos hyx]; go_num, by rw [E.out.2, if_pos q1]; go_num⟩
          case measure => simp [intOf]; omega
        · have q1 : y ≤ x := by omega
          have q2 : ¬ y < x := by omega
          have HX := Lib.hid hyx; clear hyx
          go_wp2
          go_round
          case rel => exact ⟨k + 1, by omega, by go_num, by rw [E.out.1, if_neg q2]; go_num, by rw [E.out.2, if_pos q1]; go_num⟩
          case measure => simp [intOf]; omega
        · have q1 : ¬ y ≤ x := by omega
          have q2 : ¬ y < x := by omega
          go_wp2
          go_round
          case rel => exact ⟨k + 1, by omega, by go_num, by rw [E.out.1, if_neg q2]; go_num, by rw [E.out.2, if_neg q1]; go_num⟩
          case measure => simp [intOf]; omega
      · rw [List.take_of_length_le (by omega)]
        rw [HE.out]
        by_cases q : ((lessL zs x).length : Int) < r
        all_goals
          go_wp2
          go_ret2
          exact ⟨ret_bool2 (by simp [q]; try omega) rfl, rfl⟩

set_option maxHeartbeats 1000000 in
theorem implVerifyRank_any (a : Option Addr) (cap : Nat) (zs : List Int) (x r : Int) (w : World) (hbig : zs.length ≤ 9223372036854775807) (h : IntsAt w a zs) :
    Calls Try.prog 15 #[.slice a zs.length cap, .int .i64 x, .int .i64 r] w fun e w' => e = .returned (.tuple #[.bool (rankAns zs x r).1, .bool (rankAns zs x r).2]) ∧ Below w.heap.size w w' := by
  have HL := Lib.hid (isValidList_any a cap zs w hbig h)
  have HN := Lib.hid (fun w1 => in_any r 1 zs.length w1)
  cases h1 : okList zs
  · have HA : rankAns zs x r = (false, false) := by simp [rankAns, h1]
    rw [HA]
    rw [h1] at HL
    clear h HA h1
    go_enter Try.func15, Try.ntmps15
    go_wp2_with ((go_at_call 39; refine HL.out.mono ?_; rintro e w' ⟨rfl, hb⟩))
    go_ret2
    exact ⟨rfl, hb⟩
  cases h2 : inB r 1 zs.length
  · have HA : rankAns zs x r = (false, false) := by simp [rankAns, h1, h2]
    rw [HA]
    rw [h1] at HL
    rw [h2] at HN
    clear h HA h1 h2
    go_enter Try.func15, Try.ntmps15
    go_wp2_with (first | ((go_at_call 39; refine HL.out.mono ?_; rintro e w' ⟨rfl, hb⟩)) | (go_at_call 40; refine (HN.out _).mono ?_; rintro e w' ⟨rfl, rfl⟩))
    go_ret2
    exact ⟨rfl, hb⟩
  · have HA : rankAns zs x r = (decide (((lessL zs x).length : Int) < r) && decide (r ≤ (lessL zs x).length + (equalL zs x).length), true) := by simp [rankAns, h1, h2]
    rw [HA]
    have hl := okList_len h1
    rw [h1] at HL
    rw [h2] at HN
    have H := Lib.hid h
    clear h HA h1 h2
    go_enter Try.func15, Try.ntmps15
    go_wp2_with (first | (go_at_call 40; refine (HN.out _).mono ?_; rintro e w' ⟨rfl, rfl⟩) | ((go_at_call 39; refine HL.out.mono ?_; rintro e w' ⟨rfl, hb⟩); have HB := Lib.hid hb; clear hb) | fail)
    refine (split_any _ _ zs x _ (by omega) (H.out.below (Nat.le_refl _) HB.out)).mono ?_
    rintro e w2 ⟨v1, v2, v3, rfl, hS⟩
    obtain ⟨a1, c1, rfl⟩ := own_slice hS.o1
    obtain ⟨a2, c2, rfl⟩ := own_slice hS.o2
    have HB2 := Lib.hid (HB.out.trans (hS.below.mono HB.out.size))
    have m1 : (lessL zs x).length ≤ zs.length := filter_len_le _ _
    have m2 : (equalL zs x).length ≤ zs.length := filter_len_le _ _
    clear hS
    by_cases q : ((lessL zs x).length : Int) < r
    all_goals
      go_wp2
      go_ret2
      exact ⟨ret_bool2 (by simp [q]; try omega) rfl, HB2.out⟩

set_option maxHeartbeats 1000000 in
theorem lawVerifyRank_any (azs : Option Addr) (czs : Nat) (zs : List Int) (x : Int) (r : Int) (w : World) (bzs : zs.length ≤ 9223372036854775807) (hzs : IntsAt w azs zs) :
    Calls Try.prog 4 #[.slice azs zs.length czs, .int .i64 x, .int .i64 r] w fun e w' => e = .returned (.bool true) ∧ Below w.heap.size w w' := by
  by_cases lzs : zs.length ≤ 1048576
  case' neg =>
    go_enter Try.func4, Try.ntmps4
    go_wp2_with fail
    go_ret
    exact ⟨rfl, Below.refl _ _⟩
  have Hzs := Lib.hid hzs; clear hzs
  have HB0 := Lib.hid (Below.refl w.heap.size w)
  have lzs1 : zs.length ≤ 1048576 := by omega
  go_enter Try.func4, Try.ntmps4
  go_wp2_with fail
  refine (toIntS_any _ _ zs _ lzs1 Hzs.out).mono ?_
  rintro e w1 ⟨rfl, ho1, hb1⟩
  have Hzs_1 := Lib.hid (IntsAt.below Hzs.out (Nat.le_refl _) hb1); clear Hzs; have Hzs := Hzs_1; clear Hzs_1
  have Szs := Lib.hid (ownInts ho1); clear ho1
  have HB1 := Lib.hid (HB0.out.trans (hb1.mono HB0.out.size)); clear hb1
  go_wp2_with fail
  refine (specVerifyRank_any _ _ zs x r _ bzs Szs.out).mono ?_
  rintro e w' ⟨rfl, rfl⟩
  clear Szs
  go_wp2_with fail
  refine (toIntS_any _ _ zs _ lzs1 Hzs.out).mono ?_
  rintro e w2 ⟨rfl, ho2, hb2⟩
  have Hzs_2 := Lib.hid (IntsAt.below Hzs.out (Nat.le_refl _) hb2); clear Hzs; have Hzs := Hzs_2; clear Hzs_2
  have Xzs := Lib.hid (ownInts ho2); clear ho2
  have HB2 := Lib.hid (HB1.out.trans (hb2.mono HB1.out.size)); clear hb2
  go_wp2_with fail
  refine (implVerifyRank_any _ _ zs x r _ bzs Xzs.out).mono ?_
  rintro e w3 ⟨rfl, hb3⟩
  have Hzs_3 := Lib.hid (IntsAt.below Hzs.out (Nat.le_refl _) hb3); clear Hzs; have Hzs := Hzs_3; clear Hzs_3
  have Xzs_3 := Lib.hid (IntsAt.below Xzs.out (Nat.le_refl _) hb3); clear Xzs; have Xzs := Xzs_3; clear Xzs_3
  have HB3 := Lib.hid (HB2.out.trans (hb3.mono HB2.out.size)); clear hb3
  go_wp2_with fail
  refine (toIntS_any _ _ zs _ lzs1 Hzs.out).mono ?_
  rintro e w4 ⟨rfl, ho4, hb4⟩
  have Hzs_4 := Lib.hid (IntsAt.below Hzs.out (Nat.le_refl _) hb4); clear Hzs; have Hzs := Hzs_4; clear Hzs_4
  have Xzs_4 := Lib.hid (IntsAt.below Xzs.out (Nat.le_refl _) hb4); clear Xzs; have Xzs := Xzs_4; clear Xzs_4
  have Yzs := Lib.hid (ownInts ho4); clear ho4
  have HB4 := Lib.hid (HB3.out.trans (hb4.mono HB3.out.size)); clear hb4
  go_wp2_with fail
  refine (eqIntS_any _ _ _ _ zs zs _ bzs bzs Xzs.out Yzs.out).mono ?_
  rintro e w5 ⟨rfl, hb5⟩
  have Hzs_5 := Lib.hid (IntsAt.below Hzs.out (Nat.le_refl _) hb5); clear Hzs; have Hzs := Hzs_5; clear Hzs_5
  have Xzs_5 := Lib.hid (IntsAt.below Xzs.out (Nat.le_refl _) hb5); clear Xzs; have Xzs := Xzs_5; clear Xzs_5
  have Yzs_5 := Lib.hid (IntsAt.below Yzs.out (Nat.le_refl _) hb5); clear Yzs; have Yzs := Yzs_5; clear Yzs_5
  have HB5 := Lib.hid (HB4.out.trans (hb5.mono HB4.out.size)); clear hb5
  clear Xzs Yzs
  go_wp2
  go_ret
  exact ⟨rfl, HB5.out⟩

end Go.Proofs.Ytjlebikidoedmaa
