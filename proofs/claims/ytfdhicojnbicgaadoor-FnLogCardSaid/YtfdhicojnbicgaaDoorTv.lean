/- The laws FnExactIsValidLog, FnExactSyncLog: their walks. -/
import Derived.Test.YtfdhicojnbicgaaDoorTu
namespace Go.Proofs.YtfdhicojnbicgaaDoor
open Go.RowKit
set_option linter.unusedVariables false

theorem log_cells {w : World} {d p : ByteArray} {n : Int} {t : TypeId} : (w.alloc (.cells #[.string d, .string p, .int .i64 n] t)).cell? ⟨w.heap.size, 0, none⟩ = some (.string d) ∧ (w.alloc (.cells #[.string d, .string p, .int .i64 n] t)).cell? ⟨w.heap.size, 1, none⟩ = some (.string p) ∧ (w.alloc (.cells #[.string d, .string p, .int .i64 n] t)).cell? ⟨w.heap.size, 2, none⟩ = some (.int .i64 n) := ⟨alloc_cell 0, alloc_cell 1, alloc_cell 2⟩
/-- A struct of three cells that still stands. -/
structure L3 (w : World) (B : Nat) (x y z : Value) : Prop where
  c0 : w.cell? ⟨B, 0, none⟩ = some x
  c1 : w.cell? ⟨B, 1, none⟩ = some y
  c2 : w.cell? ⟨B, 2, none⟩ = some z
  lt : B < w.heap.size
theorem L3.next {w w' : World} {B : Nat} {x y z : Value} (h : L3 w B x y z) (hb : Below w.heap.size w w') : L3 w' B x y z := ⟨(bcell hb h.lt).trans h.c0, (bcell hb h.lt).trans h.c1, (bcell hb h.lt).trans h.c2, Nat.lt_of_lt_of_le h.lt hb.size⟩
theorem L3.mk' (w : World) (x y z : Value) (t : TypeId) : L3 (w.alloc (.cells #[x, y, z] t)) w.heap.size x y z := ⟨alloc_cell 0, alloc_cell 1, alloc_cell 2, by simp⟩
theorem below_new (w : World) (o : Obj) : Below w.heap.size w (w.alloc o) := (Below.refl _ _).alloc (Nat.le_refl _) _

set_option maxRecDepth 100000 in
set_option maxHeartbeats 4000000 in
theorem lawIsValidLog_any (d p : ByteArray) (n : Int) (w : World) (ht : Tab w) (hd : d.size ≤ 9223372036854775807) (hp : p.size ≤ 9223372036854775807) (hn : -9223372036854775808 ≤ n ∧ n ≤ 9223372036854775807) :
    Calls Tryd.prog 5 #[logV d p n] w fun e w' => e = .returned (.bool true) ∧ Below w.heap.size w w' := by
  have HB0 := Lib.hid (below_new w (.cells #[.string d, .string p, .int .i64 n] 36))
  have HA := Lib.hid (L3.mk' w (.string d) (.string p) (.int .i64 n) 36)
  have HT := Lib.hid ht; clear ht
  by_cases hl : (d.size : Int) + p.size ≤ 1048576
  case neg =>
    have HS := Lib.hid (fun w => szLog_no d p n 1048576 w hd hp (by omega) (by omega) (by omega))
    unfold logV at *
    go_enter Tryd.func5, Tryd.ntmps5
    go_wp2_with fail
    refine (HS.out _).mono ?_
    rintro e w1 ⟨rfl, hb1⟩
    have HB1 := Lib.hid (HB0.out.trans (hb1.mono HB0.out.size)); clear hb1
    go_wp2
    go_ret
    exact ⟨rfl, HB1.out⟩
  have HS := Lib.hid (fun w => szLog_yes d p n 1048576 w (by omega) (by omega) hl)
  have hpos : 0 ≤ (1048576 : Int) - d.size - p.size := by omega
  have HTL := Lib.hid (fun w => toLog_any d p n w)
  have HG := Lib.hid (fun w => sIsValidLog_any d p n w (by omega) (by omega))
  have HI := Lib.hid (fun w ht => isValidLog_any d p n w (by omega) (by omega) ht)
  generalize Tx.okLog (logOf d p n) = g at HG HI
  unfold logV at *
  go_enter Tryd.func5, Tryd.ntmps5
  go_wp2_with fail
  refine (HS.out _).mono ?_
  rintro e w1 ⟨rfl, hb1⟩
  have HA_1 := Lib.hid (HA.out.next hb1); clear HA; have HA := HA_1; clear HA_1
  have HB1 := Lib.hid (HB0.out.trans (hb1.mono HB0.out.size)); clear hb1
  obtain ⟨HA_0, HA_1, HA_2, _⟩ := HA.out
  go_wp2_with fail
  refine (HTL.out _).mono ?_
  rintro e w2 ⟨rfl, hb2⟩
  have HA_2 := Lib.hid (HA.out.next hb2); clear HA; have HA := HA_2; clear HA_2
  have HB2 := Lib.hid (HB1.out.trans (hb2.mono HB1.out.size)); clear hb2
  clear HA_0 HA_1 HA_2
  go_wp2_with fail
  refine (HG.out _).mono ?_
  rintro e w3 ⟨rfl, hb3⟩
  have HA_3 := Lib.hid (HA.out.next hb3); clear HA; have HA := HA_3; clear HA_3
  have HB3 := Lib.hid (HB2.out.trans (hb3.mono HB2.out.size)); clear hb3
  obtain ⟨HA_0, HA_1, HA_2, _⟩ := HA.out
  go_wp2_with fail
  refine (HTL.out _).mono ?_
  rintro e w4 ⟨rfl, hb4⟩
  have HA_4 := Lib.hid (HA.out.next hb4); clear HA; have HA := HA_4; clear HA_4
  have HB4 := Lib.hid (HB3.out.trans (hb4.mono HB3.out.size)); clear hb4
  clear HA_0 HA_1 HA_2
  go_wp2_with fail
  refine (HI.out _ (HT.out.below HB4.out)).mono ?_
  rintro e w5 ⟨rfl, hb5⟩
  have HA_5 := Lib.hid (HA.out.next hb5); clear HA; have HA := HA_5; clear HA_5
  have HB5 := Lib.hid (HB4.out.trans (hb5.mono HB4.out.size)); clear hb5
  go_wp2
  go_ret
  exact ⟨rfl, HB5.out⟩

set_option maxRecDepth 100000 in
set_option maxHeartbeats 4000000 in
theorem lawSyncLog_any (d p : ByteArray) (n : Int) (w : World) (ht : Tab w) (hd : d.size ≤ 9223372036854775807) (hp : p.size ≤ 9223372036854775807) (hn : -9223372036854775808 ≤ n ∧ n ≤ 9223372036854775807) :
    Calls Tryd.prog 7 #[logV d p n] w fun e w' => e = .returned (.bool true) ∧ Below w.heap.size w w' := by
  have HB0 := Lib.hid (below_new w (.cells #[.string d, .string p, .int .i64 n] 36))
  have HA := Lib.hid (L3.mk' w (.string d) (.string p) (.int .i64 n) 36)
  have HT := Lib.hid ht; clear ht
  by_cases hl : (d.size : Int) + p.size ≤ 1048576
  case neg =>
    have HS := Lib.hid (fun w => szLog_no d p n 1048576 w hd hp (by omega) (by omega) (by omega))
    unfold logV at *
    go_enter Tryd.func7, Tryd.ntmps7
    go_wp2_with fail
    refine (HS.out _).mono ?_
    rintro e w1 ⟨rfl, hb1⟩
    have HB1 := Lib.hid (HB0.out.trans (hb1.mono HB0.out.size)); clear hb1
    go_wp2
    go_ret
    exact ⟨rfl, HB1.out⟩
  have HS := Lib.hid (fun w => szLog_yes d p n 1048576 w (by omega) (by omega) hl)
  have hpos : 0 ≤ (1048576 : Int) - d.size - p.size := by omega
  have HTL := Lib.hid (fun w => toLog_any d p n w)
  have HG := Lib.hid (fun w => sSync_any d p n w (by omega) (by omega))
  have HI := Lib.hid (fun w ht => sync_any d p n w (by omega) (by omega) ht)
  obtain ⟨rd, rp, rn, hv⟩ : ∃ rd rp rn, syncV d p n = logV rd rp rn := by unfold syncV; split <;> exact ⟨_, _, _, rfl⟩
  rw [hv] at HG HI
  have HQ := Lib.hid (fun w => eqLog_same rd rp rn w)
  clear hv
  generalize Tx.okLog (logOf d p n) = g at HG HI
  have hgg : (g != g) = false := by simp
  unfold logV at *
  go_enter Tryd.func7, Tryd.ntmps7
  go_wp2_with fail
  refine (HS.out _).mono ?_
  rintro e w1 ⟨rfl, hb1⟩
  have HA_1 := Lib.hid (HA.out.next hb1); clear HA; have HA := HA_1; clear HA_1
  have HB1 := Lib.hid (HB0.out.trans (hb1.mono HB0.out.size)); clear hb1
  obtain ⟨HA_0, HA_1, HA_2, _⟩ := HA.out
  go_wp2_with fail
  refine (HTL.out _).mono ?_
  rintro e w2 ⟨rfl, hb2⟩
  have HA_2 := Lib.hid (HA.out.next hb2); clear HA; have HA := HA_2; clear HA_2
  have HB2 := Lib.hid (HB1.out.trans (hb2.mono HB1.out.size)); clear hb2
  clear HA_0 HA_1 HA_2
  go_wp2_with fail
  refine (HG.out _).mono ?_
  rintro e w3 ⟨rfl, hb3⟩
  have HA_3 := Lib.hid (HA.out.next hb3); clear HA; have HA := HA_3; clear HA_3
  have HB3 := Lib.hid (HB2.out.trans (hb3.mono HB2.out.size)); clear hb3
  have HA_a := Lib.hid (HA.out.next (below_new w3 (.cells #[.string rd, .string rp, .int .i64 rn] 31))); clear HA; have HA := HA_a; clear HA_a
  have HX := Lib.hid (L3.mk' w3 (.string rd) (.string rp) (.int .i64 rn) 31)
  have HB3_a := Lib.hid (HB3.out.alloc HB3.out.size (.cells #[.string rd, .string rp, .int .i64 rn] 31)); clear HB3; have HB3 := HB3_a; clear HB3_a
  obtain ⟨HA_0, HA_1, HA_2, _⟩ := HA.out
  go_wp2_with fail
  refine (HTL.out _).mono ?_
  rintro e w4 ⟨rfl, hb4⟩
  have HA_4 := Lib.hid (HA.out.next hb4); clear HA; have HA := HA_4; clear HA_4
  have HX_4 := Lib.hid (HX.out.next hb4); clear HX; have HX := HX_4; clear HX_4
  have HB4 := Lib.hid (HB3.out.trans (hb4.mono HB3.out.size)); clear hb4
  clear HA_0 HA_1 HA_2
  go_wp2_with fail
  refine (HI.out _ (HT.out.below HB4.out)).mono ?_
  rintro e w5 ⟨rfl, hb5⟩
  have HA_5 := Lib.hid (HA.out.next hb5); clear HA; have HA := HA_5; clear HA_5
  have HX_5 := Lib.hid (HX.out.next hb5); clear HX; have HX := HX_5; clear HX_5
  have HB5 := Lib.hid (HB4.out.trans (hb5.mono HB4.out.size)); clear hb5
  have HA_a := Lib.hid (HA.out.next (below_new w5 (.cells #[.string rd, .string rp, .int .i64 rn] 31))); clear HA; have HA := HA_a; clear HA_a
  have HX_a := Lib.hid (HX.out.next (below_new w5 (.cells #[.string rd, .string rp, .int .i64 rn] 31))); clear HX; have HX := HX_a; clear HX_a
  have HY := Lib.hid (L3.mk' w5 (.string rd) (.string rp) (.int .i64 rn) 31)
  have HB5_a := Lib.hid (HB5.out.alloc HB5.out.size (.cells #[.string rd, .string rp, .int .i64 rn] 31)); clear HB5; have HB5 := HB5_a; clear HB5_a
  obtain ⟨HX_0, HX_1, HX_2, _⟩ := HX.out
  obtain ⟨HY_0, HY_1, HY_2, _⟩ := HY.out
  go_wp2_with fail
  refine (HQ.out _).mono ?_
  rintro e w6 ⟨rfl, hb6⟩
  have HA_6 := Lib.hid (HA.out.next hb6); clear HA; have HA := HA_6; clear HA_6
  have HX_6 := Lib.hid (HX.out.next hb6); clear HX; have HX := HX_6; clear HX_6
  have HY_6 := Lib.hid (HY.out.next hb6); clear HY; have HY := HY_6; clear HY_6
  have HB6 := Lib.hid (HB5.out.trans (hb6.mono HB5.out.size)); clear hb6
  go_wp2
  go_ret
  exact ⟨rfl, HB6.out⟩

end Go.Proofs.YtfdhicojnbicgaaDoor
