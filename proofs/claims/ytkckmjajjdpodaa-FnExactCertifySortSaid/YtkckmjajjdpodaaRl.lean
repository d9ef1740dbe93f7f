/- The law FnExactCertifySort: its walk. -/
import Derived.Test.YtkckmjajjdpodaaRk
namespace Go.Proofs.Ytkckmjajjdpodaa
open Go.RowKit Go.Sort
set_option linter.unusedVariables false

/-- What stands while CertifySort's answer is looked at: the argument, its copy x, the answer g, the reference's answer. -/
structure CsK (w W : World) (a : Option Addr) (zs : List (Int × Int)) (Bx Bg : Nat) (ax : Option Addr) (cx : Nat) (xs : List (Int × Int)) (ag : Option Addr) (cg m : Nat) (gs : List Int) (aw : Option Addr) (ws : List Int) : Prop where
  b : Below w.heap.size w W
  h : RecsAt W a zs
  ox : W.ownsRow Bx 72 2 (.slice ax xs.length cx) xs.length (flat encR xs)
  og : W.ownsRow Bg 3 1 (.slice ag m cg) m (gs.map (Value.int .i64))
  hw : IntsAt W aw ws
  wl : ∀ b off, aw = some ⟨b, off, none⟩ → b < Bx
  xl : ∀ k, (Value.slice ax xs.length cx).ownBlock = some k → k < Bg
  xb : w.heap.size ≤ Bx
  gb : Bx ≤ Bg
theorem CsK.below {w W W' : World} {a : Option Addr} {zs : List (Int × Int)} {Bx Bg : Nat} {ax : Option Addr} {cx : Nat} {xs : List (Int × Int)} {ag : Option Addr} {cg m : Nat} {gs : List Int} {aw : Option Addr} {ws : List Int} (s : CsK w W a zs Bx Bg ax cx xs ag cg m gs aw ws) (hb : Below W.heap.size W W') : CsK w W' a zs Bx Bg ax cx xs ag cg m gs aw ws :=
  ⟨s.b.trans (hb.mono s.b.size), s.h.below (Nat.le_refl _) hb, own_below s.ox (Nat.le_refl _) hb, own_below s.og (Nat.le_refl _) hb, s.hw.below (Nat.le_refl _) hb, s.wl, s.xl, s.xb, s.gb⟩

theorem CsK.markX {w W W' : World} {a : Option Addr} {zs : List (Int × Int)} {Bx Bg : Nat} {ax : Option Addr} {cx : Nat} {xs xs' : List (Int × Int)} {ag : Option Addr} {cg m : Nat} {gs : List Int} {aw : Option Addr} {ws : List Int} (s : CsK w W a zs Bx Bg ax cx xs ag cg m gs aw ws) (h0 : RecsAt w a zs) (hl : xs'.length = xs.length)
    (ho : W'.ownsRow Bx 72 2 (.slice ax xs.length cx) xs.length (flat encR xs')) (hg : W.grownBy W' (Value.slice ax xs.length cx).ownBlock) : CsK w W' a zs Bx Bg ax cx xs' ag cg m gs aw ws := by
  have hb := s.b.grown hg s.b.size (fun k hk => by have := (s.ox.lt k hk).1; have := s.xb; omega)
  refine ⟨hb, h0.below (Nat.le_refl _) hb, by rw [hl]; exact ho, own_other s.og hg (fun k hk e => ?_), s.hw.grownR hg (fun b off e e2 => ?_), s.wl, by rw [hl]; exact s.xl, s.xb, s.gb⟩
  · have h1 := s.xl k e
    have h2 := (s.og.lt k hk).1
    omega
  · have h1 := s.wl b off e
    have h2 := (s.ox.lt b e2).1
    omega
theorem CsK.markG {w W W' : World} {a : Option Addr} {zs : List (Int × Int)} {Bx Bg : Nat} {ax : Option Addr} {cx : Nat} {xs : List (Int × Int)} {ag : Option Addr} {cg m : Nat} {gs gs' : List Int} {aw : Option Addr} {ws : List Int} (s : CsK w W a zs Bx Bg ax cx xs ag cg m gs aw ws) (h0 : RecsAt w a zs)
    (ho : W'.ownsRow Bg 3 1 (.slice ag m cg) m (gs'.map (Value.int .i64))) (hg : W.grownBy W' (Value.slice ag m cg).ownBlock) : CsK w W' a zs Bx Bg ax cx xs ag cg m gs' aw ws := by
  have hb := s.b.grown hg s.b.size (fun k hk => by have := (s.og.lt k hk).1; have := s.xb; have := s.gb; omega)
  refine ⟨hb, h0.below (Nat.le_refl _) hb, own_other s.ox hg (fun k hk e => ?_), ho, s.hw.grownR hg (fun b off e e2 => ?_), s.wl, s.xl, s.xb, s.gb⟩
  · have h1 := s.xl k hk
    have h2 := (s.og.lt k e).1
    omega
  · have h1 := s.wl b off e
    have h2 := (s.og.lt b e2).1
    have := s.gb
    omega

set_option maxRecDepth 100000 in
set_option maxHeartbeats 8000000 in
theorem lawCertifySort_any (azs : Option Addr) (czs : Nat) (zs : List (Int × Int)) (w : World) (bzs : zs.length ≤ 9223372036854775807) (hzs : RecsAt w azs zs) :
    Calls Try.prog 4 #[.slice azs zs.length czs] w fun e w' => e = .returned (.bool true) ∧ Below w.heap.size w w' := by
  by_cases hl : zs.length ≤ 1048576
  case neg =>
    have HZ := Lib.hid (szRecordS_no azs czs zs 1048576 w bzs (by omega) (by omega) (by omega))
    clear hzs
    go_enter Try.func4, Try.ntmps4
    go_wp2_with fail
    refine HZ.out.mono ?_
    rintro e w1 ⟨rfl, rfl⟩
    go_wp2
    go_ret
    exact ⟨rfl, Below.refl _ _⟩
  have HZ := Lib.hid (szRecordS_yes azs czs zs 1048576 w (by omega) (by omega) (by omega))
  have H := Lib.hid hzs; clear hzs
  have HWL := Lib.hid (csAns_le zs)
  have hpos : decide ((1048576 : Int) - (zs.length : Int) < 0) = false := decide_eq_false (by omega)
  go_enter Try.func4, Try.ntmps4
  go_wp2_with fail
  refine HZ.out.mono ?_
  rintro e w1 ⟨rfl, rfl⟩
  go_wp2_with fail
  refine (toRecordS_any _ _ zs _ hl H.out).mono ?_
  rintro e w1 ⟨rfl, ho, hb⟩
  have HS1 := Lib.hid (ownRecs ho)
  have HB1 := Lib.hid hb
  clear ho hb HZ
  go_wp2_with fail
  refine (specCertifySort_any _ _ zs _ bzs HS1.out).mono ?_
  rintro e w2 ⟨aw, cw, rfl, ho, hb⟩
  have HW2 := Lib.hid (ints_of_own ho)
  have HWl : Hid (∀ b off, aw = some ⟨b, off, none⟩ → b < w2.heap.size) := fun b off e => (ho.lt b (by rw [e]; rfl)).2
  have HB2 := Lib.hid (HB1.out.trans (hb.mono HB1.out.size))
  clear ho hb HS1 HB1
  go_wp2_with fail
  refine (toRecordS_any _ _ zs _ hl (H.out.below (Nat.le_refl _) HB2.out)).mono ?_
  rintro e w3 ⟨rfl, ho, hb⟩
  have OX3 := Lib.hid ho
  have HW3 := Lib.hid (HW2.out.below (Nat.le_refl _) hb)
  have HB3 := Lib.hid (HB2.out.trans (hb.mono HB2.out.size))
  have HXL : Hid (∀ k, (Value.slice (some ⟨w2.heap.size, 0, none⟩) zs.length zs.length).ownBlock = some k → k < w3.heap.size) := fun k hk => (ho.lt k hk).2
  have HZ23 := Lib.hid hb.size
  clear ho hb HW2
  go_wp2_with fail
  refine (implCertifySort_any _ _ zs _ bzs (ownRecs OX3.out)).mono ?_
  rintro e w4 ⟨ag, cg, rfl, ho, hb⟩
  have S4 : Hid (CsK w w4 azs zs w2.heap.size w3.heap.size (some ⟨w2.heap.size, 0, none⟩) zs.length zs ag cg (csAns zs).length (csAns zs) aw (csAns zs)) := by
    have hb4 := HB3.out.trans (hb.mono HB3.out.size)
    exact ⟨hb4, H.out.below (Nat.le_refl _) hb4, own_below OX3.out (Nat.le_refl _) hb, ho, HW3.out.below (Nat.le_refl _) hb, HWl.out, HXL.out, HB2.out.size, HZ23.out⟩
  clear ho hb HW3 OX3 HB3
  have q0 : (okRecs zs != okRecs zs) = false := by simp
  have q1 : decide (csAns zs = csAns zs) = true := by simp
  have nbw : (csAns zs).length ≤ 9223372036854775807 := by have := HWL.out; omega
  go_wp2_with fail
  refine (eqIntS_any _ _ _ _ (csAns zs) (csAns zs) _ nbw nbw (ints_of_own S4.out.og) S4.out.hw).mono ?_
  rintro e w5 ⟨rfl, hb⟩
  have S5 := Lib.hid (S4.out.below hb)
  clear hb S4
  go_wp2_with fail
  refine (toRecordS_any _ _ zs _ hl S5.out.h).mono ?_
  rintro e w6 ⟨rfl, ho, hb⟩
  have S6 := Lib.hid (S5.out.below hb)
  have HY6 := Lib.hid (ownRecs ho)
  clear hb ho S5
  have q2 : decide (zs = zs) = true := by simp
  go_wp2_with fail
  refine (eqRecordS_any _ _ _ _ zs zs _ bzs bzs (ownRecs S6.out.ox) HY6.out).mono ?_
  rintro e w7 ⟨rfl, hb⟩
  have S7 := Lib.hid (S6.out.below hb)
  clear hb S6 HY6
  go_wp2_with fail
  refine (markRecordS_any _ _ _ zs 1 _ hl (by omega) (by omega) S7.out.ox).mono ?_
  rintro e w8 ⟨rfl, ho, hg⟩
  have S8 := Lib.hid (S7.out.markX H.out (by rw [mkR_len]) ho hg)
  clear ho hg S7
  have hk1 : decide (1 + 2 * (zs.length : Int) < 0) = false := decide_eq_false (by omega)
  go_wp2_with fail
  refine (eqIntS_any _ _ _ _ (csAns zs) (csAns zs) _ nbw nbw (ints_of_own S8.out.og) S8.out.hw).mono ?_
  rintro e w9 ⟨rfl, hb⟩
  have S9 := Lib.hid (S8.out.below hb)
  clear hb S8
  go_wp2_with fail
  refine (markIntS_at _ _ _ (csAns zs).length (csAns zs) 1 _ (by have := HWL.out; omega) (by omega) (by omega) rfl S9.out.og).mono ?_
  rintro e w10 ⟨rfl, ho, hg⟩
  have S10 := Lib.hid (S9.out.markG H.out ho hg)
  clear ho hg S9
  have HMI : Hid (∀ j, j < (csAns zs).length → (mkI (csAns zs).length 1 (csAns zs) (csAns zs).length).getD j 0 = 1 + (j : Int)) := fun j hj => by rw [mkI_at hj, if_pos hj]
  go_wp2_with fail
  refine (heldIntS_any _ _ (csAns zs).length _ 1 _ (by have := HWL.out; omega) (by omega) (by omega) (mkI_len _ _ _ _) (ints_of_own S10.out.og) HMI.out).mono ?_
  rintro e w11 ⟨rfl, rfl⟩
  have hk2 : decide (1 + ((csAns zs).length : Int) < 0) = false := decide_eq_false (by omega)
  have hk3 : (1 + ((csAns zs).length : Int) != 1 + ((csAns zs).length : Int)) = false := by simp
  go_wp2_with fail
  refine (toRecordS_any _ _ zs _ hl S10.out.h).mono ?_
  rintro e w12 ⟨rfl, ho, hb⟩
  have S12 := Lib.hid (S10.out.below hb)
  have HY12 := Lib.hid (ownRecs ho)
  clear hb ho S10
  go_wp2_with fail
  refine (implCertifySort_any _ _ zs _ bzs HY12.out).mono ?_
  rintro e w13 ⟨ah, ch, rfl, ho, hb⟩
  have S13 := Lib.hid (S12.out.below hb)
  have HH13 := Lib.hid (ints_of_own ho)
  clear hb ho S12 HY12
  go_wp2_with fail
  refine (eqIntS_any _ _ _ _ (csAns zs) (csAns zs) _ nbw nbw HH13.out S13.out.hw).mono ?_
  rintro e w14 ⟨rfl, hb⟩
  have S14 := Lib.hid (S13.out.below hb)
  clear hb S13 HH13
  go_wp2_with fail
  refine (heldIntS_any _ _ (csAns zs).length _ 1 _ (by have := HWL.out; omega) (by omega) (by omega) (mkI_len _ _ _ _) (ints_of_own S14.out.og) HMI.out).mono ?_
  rintro e w15 ⟨rfl, rfl⟩
  go_wp2
  go_ret
  exact ⟨rfl, S14.out.b⟩

end Go.Proofs.Ytkckmjajjdpodaa
