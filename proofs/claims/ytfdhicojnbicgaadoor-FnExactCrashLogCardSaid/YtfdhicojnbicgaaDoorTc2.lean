/- The law FnExactCrashLog: its walk. -/
import Derived.Test.YtfdhicojnbicgaaDoorTw
namespace Go.Proofs.YtfdhicojnbicgaaDoor
open Go.RowKit
set_option linter.unusedVariables false

theorem crash_both (d p : ByteArray) (n k : Int) (t : Bool) (hd : d.size ≤ 1048576) (hp : p.size ≤ 1048576) :
    ∃ (s : ByteArray) (b : Bool), (∀ w, Calls Tryd.prog 25 #[logV d p n, .int .i64 k, .bool t] w fun e w' => e = .returned (.tuple #[.string s, .bool b]) ∧ Below w.heap.size w w') ∧
      (∀ w, Tab w → Calls Tryd.prog 26 #[logV d p n, .int .i64 k, .bool t] w fun e w' => e = .returned (.tuple #[.string s, .bool b]) ∧ Below w.heap.size w w') := by
  cases h : Tx.okLog (logOf d p n) && inB k 0 p.size
  · exact ⟨_, _, fun w => sCrash_no d p n k t w hd hp h, fun w ht => crash_no d p n k t w hd hp ht h⟩
  · rw [Bool.and_eq_true] at h
    obtain ⟨h1, h2⟩ := h
    have h3 : 0 ≤ k ∧ k ≤ p.size := by simpa [inB] using h2
    obtain ⟨m, rfl⟩ : ∃ m : Nat, k = m := ⟨k.toNat, by omega⟩
    have hk : m ≤ p.size := by omega
    refine ⟨_, _, ?_, fun w ht => crash_yes d p n m t w hd hp ht h1 hk⟩
    intro w
    cases hc : (t && decide (0 < m))
    · exact sCrash_flat d p n m t w hd hp h1 hk hc
    · rw [Bool.and_eq_true] at hc
      obtain ⟨rfl, hc2⟩ := hc
      obtain ⟨q, rfl⟩ : ∃ q, m = q + 1 := ⟨m - 1, by have := of_decide_eq_true hc2; omega⟩
      exact sCrash_flip d p n q w hd hp h1 hk

set_option maxRecDepth 100000 in
set_option maxHeartbeats 4000000 in
theorem lawCrashLog_any (d p : ByteArray) (n k : Int) (t : Bool) (w : World) (ht : Tab w) (hd : d.size ≤ 9223372036854775807) (hp : p.size ≤ 9223372036854775807) (hn : -9223372036854775808 ≤ n ∧ n ≤ 9223372036854775807) :
    Calls Tryd.prog 6 #[logV d p n, .int .i64 k, .bool t] w fun e w' => e = .returned (.bool true) ∧ Below w.heap.size w w' := by
  have HB0 := Lib.hid (below_new w (.cells #[.string d, .string p, .int .i64 n] 36))
  have HA := Lib.hid (L3.mk' w (.string d) (.string p) (.int .i64 n) 36)
  have HT := Lib.hid ht; clear ht
  by_cases hl : (d.size : Int) + p.size ≤ 1048576
  case neg =>
    have HS := Lib.hid (fun w => szLog_no d p n 1048576 w hd hp (by omega) (by omega) (by omega))
    unfold logV at *
    go_enter Tryd.func6, Tryd.ntmps6
    go_wp2_with fail
    refine (HS.out _).mono ?_
    rintro e w1 ⟨rfl, hb1⟩
    have HB1 := Lib.hid (HB0.out.trans (hb1.mono HB0.out.size)); clear hb1
    go_wp2
    go_ret
    exact ⟨rfl, HB1.out⟩
  have HS := Lib.hid (fun w => szLog_yes d p n 1048576 w (by omega) (by omega) hl)
  have hpos : 0 ≤ (1048576 : Int) - d.size - p.size := by omega
  have HTL := Lib.hid (fun w => toLog_any d p n w)
  obtain ⟨s, b, hG, hI⟩ := crash_both d p n k t (by omega) (by omega)
  have HG := Lib.hid hG; have HI := Lib.hid hI
  clear hG hI
  have hss : (!(s.toList == s.toList)) = false := by simp
  have hbb : (b != b) = false := by simp
  unfold logV at *
  go_enter Tryd.func6, Tryd.ntmps6
  go_wp2_with fail
  refine (HS.out _).mono ?_
  rintro e w1 ⟨rfl, hb1⟩
  have HA_1 := Lib.hid (HA.out.next hb1); clear HA; have HA := HA_1; clear HA_1
  have HB1 := Lib.hid (HB0.out.trans (hb1.mono HB0.out.size)); clear hb1
  obtain ⟨HA_0, HA_1, HA_2, _⟩ := HA.out
  go_wp2_with fail
  refine (HTL.out _).mono ?_
  rintro e w2 ⟨rfl, hb2⟩
  have HA_2 := Lib.hid (HA.out.next hb2); clear HA; have HA := HA_2; clear HA_2
  have HB2 := Lib.hid (HB1.out.trans (hb2.mono HB1.out.size)); clear hb2
  clear HA_0 HA_1 HA_2
  go_wp2_with fail
  refine (HG.out _).mono ?_
  rintro e w3 ⟨rfl, hb3⟩
  have HA_3 := Lib.hid (HA.out.next hb3); clear HA; have HA := HA_3; clear HA_3
  have HB3 := Lib.hid (HB2.out.trans (hb3.mono HB2.out.size)); clear hb3
  obtain ⟨HA_0, HA_1, HA_2, _⟩ := HA.out
  go_wp2_with fail
  refine (HTL.out _).mono ?_
  rintro e w4 ⟨rfl, hb4⟩
  have HA_4 := Lib.hid (HA.out.next hb4); clear HA; have HA := HA_4; clear HA_4
  have HB4 := Lib.hid (HB3.out.trans (hb4.mono HB3.out.size)); clear hb4
  clear HA_0 HA_1 HA_2
  go_wp2_with fail
  refine (HI.out _ (HT.out.below HB4.out)).mono ?_
  rintro e w5 ⟨rfl, hb5⟩
  have HA_5 := Lib.hid (HA.out.next hb5); clear HA; have HA := HA_5; clear HA_5
  have HB5 := Lib.hid (HB4.out.trans (hb5.mono HB4.out.size)); clear hb5
  go_wp2
  go_ret
  exact ⟨rfl, HB5.out⟩

end Go.Proofs.YtfdhicojnbicgaaDoor
