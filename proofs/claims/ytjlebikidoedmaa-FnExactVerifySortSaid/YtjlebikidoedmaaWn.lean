/- Walks: proofs of a stable sort by a certificate; VerifySort. -/
import Derived.Test.YtjlebikidoedmaaWm
import Derived.Test.YtjlebikidoedmaaWg
namespace Go.Proofs.Ytjlebikidoedmaa
open Go.RowKit
set_option linter.unusedVariables false

abbrev RL := List (Int × Int)
/-- Two neighbours are out of order, by key, then by the certificate. -/
def outOf (s : RL) (p : List Int) (i : Nat) : Bool :=
  decide ((s.getD (i + 1) (0, 0)).1 < (s.getD i (0, 0)).1) || (decide ((s.getD (i + 1) (0, 0)).1 = (s.getD i (0, 0)).1) && decide (p.getD (i + 1) 0 < p.getD i 0))
def proofAt (l s : RL) (p : List Int) (i : Nat) : Bool := decide (s.getD i (0, 0) = l.getD (p.getD i 0).toNat (0, 0)) && (decide (i = 0) || !outOf s p (i - 1))
def provesB (l s : RL) (p : List Int) : Bool := decide (l.length = s.length) && decide (p.length = l.length) && okPerm p && allIx p.length (proofAt l s p)

set_option maxRecDepth 100000 in
set_option maxHeartbeats 2000000 in
theorem proves_any (a1 a2 a3 : Option Addr) (c1 c2 c3 : Nat) (l s : RL) (p : List Int) (w : World) (b1 : l.length ≤ 9223372036854775807) (b2 : s.length ≤ 9223372036854775807) (b3 : p.length ≤ 9223372036854775807)
    (h1 : RecsAt w a1 l) (h2 : RecsAt w a2 s) (h3 : IntsAt w a3 p) :
    Calls Try.prog 58 #[.slice a1 l.length c1, .slice a2 s.length c2, .slice a3 p.length c3] w fun e w' => e = .returned (.bool (provesB l s p)) ∧ Below w.heap.size w w' := by
  by_cases e1 : l.length = s.length
  case neg =>
    have hn : ((l.length : Int) != (s.length : Int)) = true := by simpa using (by omega : ¬ (l.length : Int) = s.length)
    have HE : Hid (provesB l s p = false) := by show _ = _; simp [provesB, e1]
    clear e1 h1 h2 h3
    go_enter Try.func58, Try.ntmps58
    go_wp2
    go_ret
    exact ⟨ret_bool HE.out.symm, Below.refl _ _⟩
  have n1 : ((l.length : Int) != (s.length : Int)) = false := by rw [bne_eq_false_iff_eq]; omega
  by_cases e2 : p.length = l.length
  case neg =>
    have hn : ((p.length : Int) != (l.length : Int)) = true := by simpa using (by omega : ¬ (p.length : Int) = l.length)
    have HE : Hid (provesB l s p = false) := by show _ = _; simp [provesB, e2]
    clear e1 e2 h1 h2 h3
    go_enter Try.func58, Try.ntmps58
    go_wp2
    go_ret
    exact ⟨ret_bool HE.out.symm, Below.refl _ _⟩
  have n2 : ((p.length : Int) != (l.length : Int)) = false := by rw [bne_eq_false_iff_eq]; omega
  have HP := Lib.hid (isValidPermutation_any a3 c3 p w b3 h3)
  cases e3 : okPerm p
  · rw [e3] at HP
    have HE : Hid (provesB l s p = false) := by show _ = _; simp [provesB, e3]
    clear e1 e2 h1 h2 h3 e3
    go_enter Try.func58, Try.ntmps58
    go_wp2_with fail
    refine HP.out.mono ?_
    rintro e w1 ⟨rfl, hb⟩
    have HB := Lib.hid hb; clear hb
    go_wp2
    go_ret
    exact ⟨ret_bool HE.out.symm, HB.out⟩
  rw [e3] at HP
  have HE : Hid (provesB l s p = allIx p.length (proofAt l s p)) := by show _ = _; simp [provesB, e1, e2, e3]
  have hl64 := okPerm_len e3
  have H1 := Lib.hid h1
  have H2 := Lib.hid h2
  have H3 := Lib.hid h3
  have E1 := Lib.hid e1
  have E2 := Lib.hid e2
  have E3 := Lib.hid e3
  clear h1 h2 h3 e1 e2 e3
  go_enter Try.func58, Try.ntmps58
  go_wp2_with fail
  refine HP.out.mono ?_
  rintro e w1 ⟨rfl, hb⟩
  have HB := Lib.hid hb; clear hb
  go_wp2
  go_loopw [7, 8, 28] (fun _ _ i wr => ∃ k : Nat, k ≤ p.length ∧ i = .int .i64 k ∧ (∀ j, j < k → proofAt l s p j = true) ∧ Below w.heap.size w wr) (fun _ _ i _ => p.length - (intOf i).toNat)
  case atStart => exact ⟨0, by omega, rfl, by intro j h; omega, HB.out⟩
  case round =>
    obtain ⟨k, hk, rfl, hall, hb⟩ := hrel
    have HA := Lib.hid hall; clear hall HB
    have HB := Lib.hid hb; clear hb
    by_cases hlt : k < p.length
    case neg =>
      go_wp2
      go_ret
      exact ⟨ret_bool (by rw [HE.out, allIx_yes (fun j hj => HA.out j (by omega))]), HB.out⟩
    have hls : k < s.length := by rw [← E1.out, ← E2.out]; exact hlt
    obtain ⟨hp0, hp1⟩ := okPerm_at E3.out hlt
    obtain ⟨b3, o3, rfl, pc⟩ := (H3.out.below (Nat.le_refl _) HB.out).at hlt
    obtain ⟨b2, o2, rfl, sc1, sc2⟩ := (H2.out.below (Nat.le_refl _) HB.out).at hls
    have HX : Hid (proofAt l s p k = (decide (s.getD k (0, 0) = l.getD (p.getD k 0).toNat (0, 0)) && (decide (k = 0) || !outOf s p (k - 1)))) := rfl
    obtain ⟨j, hj⟩ := Int.eq_ofNat_of_zero_le hp0
    rw [hj] at pc hp1 HX
    have hjl : j < l.length := by rw [← E2.out]; omega
    obtain ⟨b1, o1, rfl, lc1, lc2⟩ := (H1.out.below (Nat.le_refl _) HB.out).at hjl
    rw [Int.toNat_natCast] at HX
    have HJ := Lib.hid hj; clear hj hp0 hp1
    generalize hy : l.getD j (0, 0) = y at lc1 lc2 HX
    have HY := Lib.hid hy; clear hy
    obtain ⟨y1, y2⟩ := y
    by_cases hxy : s.getD k (0, 0) = (y1, y2)
    case neg =>
      generalize hx : s.getD k (0, 0) = x at sc1 sc2 HX hxy
      have HXX := Lib.hid hx; clear hx
      obtain ⟨x1, x2⟩ := x
      have HQ := Lib.hid hxy
      by_cases q1 : x1 = y1
      · subst q1
        have q2 : (x2 == y2) = false := by simp at hxy; simpa using hxy
        clear hxy
        go_wp2_with fail
        go_quiet (fail)
        go_wp2
        go_ret
        exact ⟨ret_bool (by rw [HE.out, allIx_no hlt (by rw [HX.out, decide_eq_false HQ.out, Bool.false_and])]), below_drewN HB.out _⟩
      · have q2 : (x1 == y1) = false := by simpa using q1
        clear hxy q1
        go_wp2_with fail
        go_quiet (fail)
        go_wp2
        go_ret
        exact ⟨ret_bool (by rw [HE.out, allIx_no hlt (by rw [HX.out, decide_eq_false HQ.out, Bool.false_and])]), below_drewN HB.out _⟩
    have HXY := Lib.hid hxy
    rw [hxy] at sc1 sc2
    clear hxy
    rcases Nat.eq_zero_or_pos k with hk0 | hkp
    · subst hk0
      simp only [Nat.zero_mul, Nat.add_zero] at pc sc1 sc2
      have HZ : Hid (proofAt l s p 0 = true) := by show _ = _; rw [HX.out, HXY.out]; simp
      go_wp2_with fail
      go_quiet (fail)
      go_wp2_with fail
      go_quiet (fail)
      go_wp2
      go_roundw
      case rel => exact ⟨1, by omega, by go_num, fun q hq => by rw [show q = 0 from by omega]; exact HZ.out, by first | exact below_drewN (below_drewN HB.out _) _ | exact below_drewN HB.out _⟩
      case measure => simp [intOf]; omega
    · obtain ⟨m, rfl⟩ : ∃ m, k = m + 1 := ⟨k - 1, by omega⟩
      have hcast : ((m + 1 : Nat) : Int) = (m : Int) + 1 := by omega
      obtain ⟨b3', o3', e, pm⟩ := (H3.out.below (Nat.le_refl _) HB.out).at (show m < p.length by omega)
      simp only [Option.some.injEq, Addr.mk.injEq, and_true] at e
      obtain ⟨rfl, rfl⟩ := e
      obtain ⟨b2', o2', e, sm1, sm2⟩ := (H2.out.below (Nat.le_refl _) HB.out).at (show m < s.length by omega)
      simp only [Option.some.injEq, Addr.mk.injEq, and_true] at e
      obtain ⟨rfl, rfl⟩ := e
      have HO : Hid (outOf s p m = (decide ((s.getD (m + 1) (0, 0)).1 < (s.getD m (0, 0)).1) || (decide ((s.getD (m + 1) (0, 0)).1 = (s.getD m (0, 0)).1) && decide (p.getD (m + 1) 0 < p.getD m 0)))) := rfl
      rw [HXY.out, HJ.out] at HO
      generalize hz : s.getD m (0, 0) = z at sm1 sm2 HO
      generalize hu : p.getD m 0 = u at pm HO
      have HZ := Lib.hid hz; clear hz
      have HU := Lib.hid hu; clear hu
      obtain ⟨z1, z2⟩ := z
      have HR : Hid (proofAt l s p (m + 1) = !outOf s p m) := by show _ = _; rw [HX.out, HXY.out]; simp
      clear HX
      rcases Int.lt_trichotomy y1 z1 with hyz | hyz | hyz
      · have HV : Hid (outOf s p m = true) := by show _ = _; rw [HO.out]; simp; omega
        have hyz' : ¬ z1 ≤ y1 := by omega
        have hd : decide (y1 < z1) = true := by simpa using hyz
        have hd2 : decide (z1 > y1) = true := by simpa using hyz
        rw [hcast]
        go_wp2_with fail
        go_quiet (fail)
        go_wp2_with fail
        go_quiet (fail)
        go_wp2
        go_ret
        exact ⟨ret_bool (by rw [HE.out, allIx_no hlt (by rw [HR.out, HV.out]; rfl)]), by first | exact below_drewN (below_drewN HB.out _) _ | exact below_drewN HB.out _⟩
      · subst hyz
        have d1 : decide (y1 < y1) = false := by simp
        have d2 : (y1 == y1) = true := by simp
        by_cases hju : (j : Int) < u
        · have HV : Hid (outOf s p m = true) := by show _ = _; rw [HO.out]; simp; omega
          have d3 : decide ((j : Int) < u) = true := by simpa using hju
          rw [hcast]
          go_wp2_with fail
          go_quiet (fail)
          go_wp2_with fail
          go_quiet (fail)
          go_wp2
          go_ret
          exact ⟨ret_bool (by rw [HE.out, allIx_no hlt (by rw [HR.out, HV.out]; rfl)]), by first | exact below_drewN (below_drewN HB.out _) _ | exact below_drewN HB.out _⟩
        · have HV : Hid (outOf s p m = false) := by show _ = _; rw [HO.out]; simp; omega
          have d3 : decide ((j : Int) < u) = false := by simpa using hju
          rw [hcast]
          go_wp2_with fail
          go_quiet (fail)
          go_wp2_with fail
          go_quiet (fail)
          go_wp2
          go_roundw
          case rel =>
            refine ⟨m + 2, by omega, by go_num, fun q hq => ?_, by first | exact below_drewN (below_drewN HB.out _) _ | exact below_drewN HB.out _⟩
            rcases Nat.lt_succ_iff_lt_or_eq.1 hq with h | rfl
            · exact HA.out q h
            · rw [HR.out, HV.out]; rfl
          case measure => simp [intOf]; omega
      · have HV : Hid (outOf s p m = false) := by show _ = _; rw [HO.out]; simp; omega
        have d1 : decide (y1 < z1) = false := by simp; omega
        have d2 : (y1 == z1) = false := by simp; omega
        rw [hcast]
        go_wp2_with fail
        go_quiet (fail)
        go_wp2_with fail
        go_quiet (fail)
        go_wp2
        go_roundw
        case rel =>
          refine ⟨m + 2, by omega, by go_num, fun q hq => ?_, by first | exact below_drewN (below_drewN HB.out _) _ | exact below_drewN HB.out _⟩
          rcases Nat.lt_succ_iff_lt_or_eq.1 hq with h | rfl
          · exact HA.out q h
          · rw [HR.out, HV.out]; rfl
        case measure => simp [intOf]; omega

set_option maxRecDepth 100000 in
set_option maxHeartbeats 2000000 in
theorem l24Proves_any (a1 a2 a3 : Option Addr) (c1 c2 c3 : Nat) (l s : RL) (p : List Int) (w : World) (b1 : l.length ≤ 9223372036854775807) (b2 : s.length ≤ 9223372036854775807) (b3 : p.length ≤ 9223372036854775807)
    (h1 : RecsAt w a1 l) (h2 : RecsAt w a2 s) (h3 : IntsAt w a3 p) :
    Calls Try.prog 57 #[.slice a1 l.length c1, .slice a2 s.length c2, .slice a3 p.length c3] w fun e w' => e = .returned (.bool (provesB l s p)) ∧ Below w.heap.size w w' := by
  by_cases e1 : l.length = s.length
  case neg =>
    have hn : ((s.length : Int) != (l.length : Int)) = true := by simpa using (by omega : ¬ (s.length : Int) = l.length)
    have HE : Hid (provesB l s p = false) := by show _ = _; simp [provesB, e1]
    clear e1 h1 h2 h3
    go_enter Try.func57, Try.ntmps57
    go_wp2
    go_ret
    exact ⟨ret_bool HE.out.symm, Below.refl _ _⟩
  have n1 : ((s.length : Int) != (l.length : Int)) = false := by rw [bne_eq_false_iff_eq]; omega
  by_cases e2 : p.length = l.length
  case neg =>
    have hn : ((p.length : Int) != (l.length : Int)) = true := by simpa using (by omega : ¬ (p.length : Int) = l.length)
    have HE : Hid (provesB l s p = false) := by show _ = _; simp [provesB, e2]
    clear e1 e2 h1 h2 h3
    go_enter Try.func57, Try.ntmps57
    go_wp2
    go_ret
    exact ⟨ret_bool HE.out.symm, Below.refl _ _⟩
  have n2 : ((p.length : Int) != (l.length : Int)) = false := by rw [bne_eq_false_iff_eq]; omega
  have HP := Lib.hid (l3Good_any a3 c3 p w b3 h3)
  cases e3 : okPerm p
  · rw [e3] at HP
    have HE : Hid (provesB l s p = false) := by show _ = _; simp [provesB, e3]
    clear e1 e2 h1 h2 h3 e3
    go_enter Try.func57, Try.ntmps57
    go_wp2_with fail
    refine HP.out.mono ?_
    rintro e w1 ⟨rfl, hb⟩
    have HB := Lib.hid hb; clear hb
    go_wp2
    go_ret
    exact ⟨ret_bool HE.out.symm, HB.out⟩
  rw [e3] at HP
  have HE : Hid (provesB l s p = allIx p.length (proofAt l s p)) := by show _ = _; simp [provesB, e1, e2, e3]
  have hl64 := okPerm_len e3
  have H1 := Lib.hid h1
  have H2 := Lib.hid h2
  have H3 := Lib.hid h3
  have E1 := Lib.hid e1
  have E2 := Lib.hid e2
  have E3 := Lib.hid e3
  clear h1 h2 h3 e1 e2 e3
  go_enter Try.func57, Try.ntmps57
  go_wp2_with fail
  refine HP.out.mono ?_
  rintro e w1 ⟨rfl, hb⟩
  have HB := Lib.hid hb; clear hb
  go_wp2
  go_loopw [7] (fun i wr => ∃ k : Nat, k ≤ p.length ∧ i = .int .i64 k ∧ (∀ j, j < k → proofAt l s p j = true) ∧ Below w.heap.size w wr) (fun i _ => p.length - (intOf i).toNat)
  case atStart => exact ⟨0, by omega, rfl, by intro j h; omega, HB.out⟩
  case round =>
    obtain ⟨k, hk, rfl, hall, hb⟩ := hrel
    have HA := Lib.hid hall; clear hall HB
    have HB := Lib.hid hb; clear hb
    by_cases hlt : k < p.length
    case neg =>
      go_wp2
      go_ret
      exact ⟨ret_bool (by rw [HE.out, allIx_yes (fun j hj => HA.out j (by omega))]), HB.out⟩
    have hls : k < s.length := by rw [← E1.out, ← E2.out]; exact hlt
    obtain ⟨hp0, hp1⟩ := okPerm_at E3.out hlt
    obtain ⟨b3, o3, rfl, pc⟩ := (H3.out.below (Nat.le_refl _) HB.out).at hlt
    obtain ⟨b2, o2, rfl, sc1, sc2⟩ := (H2.out.below (Nat.le_refl _) HB.out).at hls
    have HX : Hid (proofAt l s p k = (decide (s.getD k (0, 0) = l.getD (p.getD k 0).toNat (0, 0)) && (decide (k = 0) || !outOf s p (k - 1)))) := rfl
    obtain ⟨j, hj⟩ := Int.eq_ofNat_of_zero_le hp0
    rw [hj] at pc hp1 HX
    have hjl : j < l.length := by rw [← E2.out]; omega
    obtain ⟨b1, o1, rfl, lc1, lc2⟩ := (H1.out.below (Nat.le_refl _) HB.out).at hjl
    rw [Int.toNat_natCast] at HX
    have HJ := Lib.hid hj; clear hj hp0 hp1
    generalize hy : l.getD j (0, 0) = y at lc1 lc2 HX
    have HY := Lib.hid hy; clear hy
    obtain ⟨y1, y2⟩ := y
    by_cases hxy : s.getD k (0, 0) = (y1, y2)
    case neg =>
      generalize hx : s.getD k (0, 0) = x at sc1 sc2 HX hxy
      have HXX := Lib.hid hx; clear hx
      obtain ⟨x1, x2⟩ := x
      have HQ := Lib.hid hxy
      by_cases q1 : x1 = y1
      · subst q1
        have q2 : (x2 == y2) = false := by simp at hxy; simpa using hxy
        clear hxy
        go_wp2_with fail
        go_quiet (fail)
        go_wp2
        go_ret
        exact ⟨ret_bool (by rw [HE.out, allIx_no hlt (by rw [HX.out, decide_eq_false HQ.out, Bool.false_and])]), below_drewN HB.out _⟩
      · have q2 : (x1 == y1) = false := by simpa using q1
        clear hxy q1
        go_wp2_with fail
        go_quiet (fail)
        go_wp2
        go_ret
        exact ⟨ret_bool (by rw [HE.out, allIx_no hlt (by rw [HX.out, decide_eq_false HQ.out, Bool.false_and])]), below_drewN HB.out _⟩
    have HXY := Lib.hid hxy
    rw [hxy] at sc1 sc2
    clear hxy
    rcases Nat.eq_zero_or_pos k with hk0 | hkp
    · subst hk0
      simp only [Nat.zero_mul, Nat.add_zero] at pc sc1 sc2
      have HZ : Hid (proofAt l s p 0 = true) := by show _ = _; rw [HX.out, HXY.out]; simp
      go_wp2_with fail
      go_quiet (fail)
      go_wp2_with fail
      go_quiet (fail)
      go_wp2
      go_roundw
      case rel => exact ⟨1, by omega, by go_num, fun q hq => by rw [show q = 0 from by omega]; exact HZ.out, by first | exact below_drewN (below_drewN HB.out _) _ | exact below_drewN HB.out _⟩
      case measure => simp [intOf]; omega
    · obtain ⟨m, rfl⟩ : ∃ m, k = m + 1 := ⟨k - 1, by omega⟩
      have hcast : ((m + 1 : Nat) : Int) = (m : Int) + 1 := by omega
      obtain ⟨b3', o3', e, pm⟩ := (H3.out.below (Nat.le_refl _) HB.out).at (show m < p.length by omega)
      simp only [Option.some.injEq, Addr.mk.injEq, and_true] at e
      obtain ⟨rfl, rfl⟩ := e
      obtain ⟨b2', o2', e, sm1, sm2⟩ := (H2.out.below (Nat.le_refl _) HB.out).at (show m < s.length by omega)
      simp only [Option.some.injEq, Addr.mk.injEq, and_true] at e
      obtain ⟨rfl, rfl⟩ := e
      have HO : Hid (outOf s p m = (decide ((s.getD (m + 1) (0, 0)).1 < (s.getD m (0, 0)).1) || (decide ((s.getD (m + 1) (0, 0)).1 = (s.getD m (0, 0)).1) && decide (p.getD (m + 1) 0 < p.getD m 0)))) := rfl
      rw [HXY.out, HJ.out] at HO
      generalize hz : s.getD m (0, 0) = z at sm1 sm2 HO
      generalize hu : p.getD m 0 = u at pm HO
      have HZ := Lib.hid hz; clear hz
      have HU := Lib.hid hu; clear hu
      obtain ⟨z1, z2⟩ := z
      have HR : Hid (proofAt l s p (m + 1) = !outOf s p m) := by show _ = _; rw [HX.out, HXY.out]; simp
      clear HX
      rcases Int.lt_trichotomy y1 z1 with hyz | hyz | hyz
      · have HV : Hid (outOf s p m = true) := by show _ = _; rw [HO.out]; simp; omega
        have hyz' : ¬ z1 ≤ y1 := by omega
        have hd : decide (y1 < z1) = true := by simpa using hyz
        have hd2 : decide (z1 > y1) = true := by simpa using hyz
        rw [hcast]
        go_wp2_with fail
        go_quiet (fail)
        go_wp2_with fail
        go_quiet (fail)
        go_wp2
        go_ret
        exact ⟨ret_bool (by rw [HE.out, allIx_no hlt (by rw [HR.out, HV.out]; rfl)]), by first | exact below_drewN (below_drewN HB.out _) _ | exact below_drewN HB.out _⟩
      · subst hyz
        have d1 : decide (y1 < y1) = false := by simp
        have d2 : (y1 == y1) = true := by simp
        by_cases hju : (j : Int) < u
        · have HV : Hid (outOf s p m = true) := by show _ = _; rw [HO.out]; simp; omega
          have d3 : decide ((j : Int) < u) = true := by simpa using hju
          rw [hcast]
          go_wp2_with fail
          go_quiet (fail)
          go_wp2_with fail
          go_quiet (fail)
          go_wp2
          go_ret
          exact ⟨ret_bool (by rw [HE.out, allIx_no hlt (by rw [HR.out, HV.out]; rfl)]), by first | exact below_drewN (below_drewN HB.out _) _ | exact below_drewN HB.out _⟩
        · have HV : Hid (outOf s p m = false) := by show _ = _; rw [HO.out]; simp; omega
          have d3 : decide ((j : Int) < u) = false := by simpa using hju
          rw [hcast]
          go_wp2_with fail
          go_quiet (fail)
          go_wp2_with fail
          go_quiet (fail)
          go_wp2
          go_roundw
          case rel =>
            refine ⟨m + 2, by omega, by go_num, fun q hq => ?_, by first | exact below_drewN (below_drewN HB.out _) _ | exact below_drewN HB.out _⟩
            rcases Nat.lt_succ_iff_lt_or_eq.1 hq with h | rfl
            · exact HA.out q h
            · rw [HR.out, HV.out]; rfl
          case measure => simp [intOf]; omega
      · have HV : Hid (outOf s p m = false) := by show _ = _; rw [HO.out]; simp; omega
        have d1 : decide (y1 < z1) = false := by simp; omega
        have d2 : (z1 == y1) = false := by simp; omega
        rw [hcast]
        go_wp2_with fail
        go_quiet (fail)
        go_wp2_with fail
        go_quiet (fail)
        go_wp2
        go_roundw
        case rel =>
          refine ⟨m + 2, by omega, by go_num, fun q hq => ?_, by first | exact below_drewN (below_drewN HB.out _) _ | exact below_drewN HB.out _⟩
          rcases Nat.lt_succ_iff_lt_or_eq.1 hq with h | rfl
          · exact HA.out q h
          · rw [HR.out, HV.out]; rfl
        case measure => simp [intOf]; omega

end Go.Proofs.Ytjlebikidoedmaa
