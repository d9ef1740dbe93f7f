/- The law FnPlanner: its walk. -/
import Derived.Test.YtkjmngdcfheojaaJc
import Derived.Test.YtkjmngdcfheojaaJd
import Derived.Test.YtkjmngdcfheojaaGw
import Derived.StillTailTactics
namespace Go.Proofs.Ytkjmngdcfheojaa
open Go.RowKit Go.Sort
set_option linter.unusedVariables false

theorem prZ_bad {rs : List (Int × Int)} (h : okRecs rs = false) : prV rs = prZ := if_neg (by simp [h])

theorem specIsValidRecords_any (a : Option Addr) (cap : Nat) (rs : List (Int × Int)) (w : World) (hbig : rs.length ≤ 9223372036854775807) (h : RecsAt w a rs) :
    Calls Try.prog 23 #[.slice a rs.length cap] w fun e w' => e = .returned (.bool (okRecs rs)) ∧ w = w' := by
  have H := Lib.hid (l2Records_any a cap rs w hbig h)
  clear h
  go_enter Try.func23, Try.ntmps23
  go_wp2_with fail
  refine H.out.mono ?_
  rintro e w1 ⟨rfl, rfl⟩
  go_wp2
  go_ret
  exact ⟨rfl, rfl⟩

set_option maxRecDepth 100000 in
set_option maxHeartbeats 8000000 in
theorem lawPlanner_small (ac : Option Addr) (cc : Nat) (cs : List Int) (w : World) (hl : cs.length ≤ 65536) (h : BytesAt w ac cs) :
    Calls Try.prog 10 #[.slice ac cs.length cc] w fun e w' => e = .returned (.bool true) ∧ Below w.heap.size w w' := by
  have HV := vBigG_any ac cs.length cc w (by omega)
  rw [decide_eq_false (by omega)] at HV
  have HV := Lib.hid HV
  have HD := Lib.hid (drawProfileOf_any ac cc cs w (by omega) h)
  have HAT := Lib.hid (fun W (hb : Below w.heap.size w W) => vAt_any ac cc cs 3 W (by omega) (by omega) (h.below (Nat.le_refl _) hb))
  clear h
  unfold RecsEnd at HD
  go_enter Try.func10, Try.ntmps10
  go_wp2_with fail
  refine HV.out.mono ?_
  rintro e w1 ⟨rfl, rfl⟩
  go_wp2_with fail
  refine HD.out.mono ?_
  rintro e w1 ⟨a1, c1, rs, rfl, hr, hl70, hb⟩
  have HR1 := Lib.hid hr; have HB1 := Lib.hid hb
  clear hr hb HD HV
  have HPO := Lib.hid (implProfileOf_both a1 c1 rs w1 (by omega) HR1.out)
  have HLR := Lib.hid (fun W (hb : Below w1.heap.size w1 W) => specIsValidRecords_any a1 c1 rs W (by omega) (HR1.out.below (Nat.le_refl _) hb))
  have HFD := Lib.hid (fun W (hb : Below w1.heap.size w1 W) => implFirstDescent_any a1 c1 rs W (by omega) (HR1.out.below (Nat.le_refl _) hb))
  cases hok : okRecs rs
  · have hz := prZ_bad hok
    rw [hz, hok] at HPO
    rw [hok] at HLR
    unfold prZ at HPO
    clear hok hz
    go_wp2_with fail
    refine HPO.out.mono ?_
    rintro e w2 ⟨rfl, hb⟩
    have HB2 := Lib.hid hb; clear hb
    have HB3 := Lib.hid (bcg HB2.out (show Below w2.heap.size w2 (w2.alloc (.cells #[.int .i64 0, .int .i64 0, .int .i64 0, .int .i64 0, .int .i64 0] 71)) from (Below.refl _ _).alloc (Nat.le_refl _) _))
    have HL3 := Lib.hid (HLR.out _ HB3.out)
    have HB4 := Lib.hid (bcg HB1.out HB3.out)
    go_wp2_with fail
    refine HL3.out.mono ?_
    rintro e w3 ⟨rfl, rfl⟩
    go_wp2
    go_ret
    exact ⟨rfl, HB4.out⟩
  · obtain ⟨c, r, v, d, g, hpv, hfit, hr1, hv1, hf2⟩ := prof_fit rs hok
    have HCM := Lib.hid (fun (m : Int) (W : World) (h0 : 1 ≤ m) (h1 : m ≤ 64) => show Calls Try.prog 51 #[.agg #[.int .i64 c, .int .i64 r, .int .i64 v, .int .i64 d, .int .i64 g], .int .i64 m] W (fun e w' => ∃ M C : Int, e = .returned (.tuple #[.int .i64 M, .int .i64 C, .bool true]) ∧ 0 ≤ C ∧ (M = 0 ↔ r ≤ 1) ∧ Below W.heap.size W w') from by
      have hc := choose_cost hfit (inB_iff.2 ⟨h0, h1⟩)
      refine (implChooseMethod_any c r v d g m W).mono ?_
      rintro e w' ⟨rfl, hb⟩
      exact ⟨_, _, by rw [hc.1], hc.2.1, hc.2.2, hb⟩)
    rw [hpv, hok] at HPO
    rw [hok] at HLR
    rw [hf2] at HFD
    have HR := Lib.hid hr1; have HVV := Lib.hid hv1
    generalize (fdAns rs).1 = at_ at HFD HR HVV
    clear hok hpv hfit hr1 hv1 hf2
    go_wp2_with fail
    refine HPO.out.mono ?_
    rintro e w2 ⟨rfl, hb⟩
    have HB2 := Lib.hid hb; clear hb HPO
    have HB3 := Lib.hid (bcg HB2.out (show Below w2.heap.size w2 (w2.alloc (.cells #[.int .i64 c, .int .i64 r, .int .i64 v, .int .i64 d, .int .i64 g] 71)) from (Below.refl _ _).alloc (Nat.le_refl _) _))
    have HL3 := Lib.hid (HLR.out _ HB3.out)
    have HB4 := Lib.hid (bcg HB1.out HB3.out)
    have HA4 := Lib.hid (fun W (hb : Below w.heap.size w W) => HAT.out W hb)
    have R3 := Lib.hid (block_new w2 (.cells #[.int .i64 c, .int .i64 r, .int .i64 v, .int .i64 d, .int .i64 g] 71))
    clear HLR HAT
    go_wp2_with fail
    generalize w2.alloc (.cells #[.int .i64 c, .int .i64 r, .int .i64 v, .int .i64 d, .int .i64 g] 71) = w3 at HL3 HB3 HB4 HA4 R3 ⊢
    refine HL3.out.mono ?_
    rintro e w4 ⟨rfl, rfl⟩
    have r0 := row_cell R3.out 0
    have r1 := row_cell R3.out 1
    have r2 := row_cell R3.out 2
    have r3 := row_cell R3.out 3
    have r4 := row_cell R3.out 4
    simp at r0 r1 r2 r3 r4
    clear HL3
    have HA5 := Lib.hid (HA4.out w3.drew HB4.out.drew)
    clear HA4
    go_wp2_with fail
    go_region_law (first | (go_simp; go_at_call 45; refine HA5.out.mono ?_; rintro e w5 ⟨⟨s0, rfl, hs0, hs1⟩, rfl⟩; have q1 := Int.tmod_nonneg 64 hs0; have q2 := Int.tmod_lt_of_pos s0 (b := 64) (by omega); have q3 : IntKind.i64.wrap (1 + s0.tmod 64) = 1 + s0.tmod 64 := (IntWalk.i64_in _ (by omega))) | (go_simp; go_at_call 51; refine (HCM.out _ _ (by omega) (by omega)).mono ?_; rintro e w6 ⟨M, C, rfl, hC, hM, hb6⟩; have HM := Lib.hid hM; have HB6 := Lib.hid hb6; clear hM hb6))
    all_goals
      have hlt2 : w2.heap.size < w3.heap.size := (Array.getElem?_eq_some_iff.1 R3.out).1
      have HB7 := Lib.hid (bcg (HB3.out.drew) HB6.out)
      have HB8 := Lib.hid (bcg HB1.out HB7.out)
      have HF7 := Lib.hid (HFD.out _ HB7.out)
      have R6 := Lib.hid (block_below (show w3.drew.heap[w2.heap.size]? = _ from R3.out) HB6.out hlt2)
      have hlt6 : w2.heap.size < w6.heap.size := Nat.lt_of_lt_of_le hlt2 HB6.out.size
      clear r0 r1 r2 r3 r4 R3 HB3 HB4 HB6 HCM HFD HA5 HB2 hlt2
      go_wp2_with fail
      refine HF7.out.mono ?_
      rintro e w7 ⟨rfl, hb⟩
      have HB9 := Lib.hid (bcg HB8.out hb)
      have R7 := block_below R6.out hb hlt6
      have r2 := row_cell R7 2
      simp at r2
      clear hb R7 R6 HF7 HB8 HB7
      have hc0 : decide (C ≥ 0) = true := decide_eq_true hC
      by_cases ha : at_ = -1
      · have e1 := HM.out.2 (HR.out.2 ha)
        have e2 := HVV.out.2 ha
        subst e1 e2 ha
        go_wp2
        go_ret
        exact ⟨rfl, HB9.out⟩
      · have e1 : (M == 0) = false := by simpa using fun h => ha (HR.out.1 (HM.out.1 h))
        have e2 : (v == 0) = false := by simpa using fun h => ha (HVV.out.1 h)
        have e3 : (at_ == -1) = false := by simpa using ha
        clear ha
        go_wp2
        go_ret
        exact ⟨rfl, HB9.out⟩

theorem lawPlanner_any (ac : Option Addr) (cc : Nat) (cs : List Int) (w : World) (hl : cs.length ≤ 9223372036854775807) (h : BytesAt w ac cs) :
    Calls Try.prog 10 #[.slice ac cs.length cc] w fun e w' => e = .returned (.bool true) ∧ Below w.heap.size w w' := by
  by_cases hs : cs.length ≤ 65536
  · exact lawPlanner_small ac cc cs w hs h
  · have HV := vBigG_any ac cs.length cc w hl
    rw [decide_eq_true (by omega)] at HV
    have HV := Lib.hid HV
    clear h
    go_enter Try.func10, Try.ntmps10
    go_wp2_with fail
    refine HV.out.mono ?_
    rintro e w1 ⟨rfl, rfl⟩
    go_wp2
    go_ret
    exact ⟨rfl, Below.refl _ _⟩

end Go.Proofs.Ytkjmngdcfheojaa
