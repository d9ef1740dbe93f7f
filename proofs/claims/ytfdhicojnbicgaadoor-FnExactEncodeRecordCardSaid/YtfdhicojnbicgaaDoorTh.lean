/- The law FnExactEncodeRecord: its walk. -/
import Derived.Test.YtfdhicojnbicgaaDoorTg
namespace Go.Proofs.YtfdhicojnbicgaaDoor
open Go.RowKit
set_option linter.unusedVariables false

set_option maxHeartbeats 1000000 in
theorem lawEncodeRecord_any (k : Int) (c r : ByteArray) (w : World) (ht : Tab w) (hc : c.size ≤ 9223372036854775807) (hr : r.size ≤ 9223372036854775807) :
    Calls Tryd.prog 3 #[.int .i64 k, recV c r] w fun e w' => e = .returned (.bool true) ∧ Below w.heap.size w w' := by
  have HB : Hid (Below w.heap.size w (w.alloc (.cells #[.string c, .string r] 23))) := (Below.refl _ _).alloc (Nat.le_refl _) _
  have hc0 : (w.alloc (.cells #[.string c, .string r] 23)).cell? ⟨w.heap.size, 0, none⟩ = some (.string c) := alloc_cell 0
  have hc1 : (w.alloc (.cells #[.string c, .string r] 23)).cell? ⟨w.heap.size, 1, none⟩ = some (.string r) := alloc_cell 1
  have HC0 := Lib.hid hc0; have HC1 := Lib.hid hc1; clear hc0 hc1
  by_cases hl : (c.size : Int) + r.size ≤ 1048576
  case' neg =>
    have HS := Lib.hid (fun w => szLogRecord_no c r 1048576 w hc hr (by omega) (by omega) (by omega))
    unfold recV at *
    go_enter Tryd.func3, Tryd.ntmps3
    go_wp2_with fail
    refine (HS.out _).mono ?_
    rintro e w1 ⟨rfl, hb1⟩
    have HB1 := Lib.hid (HB.out.trans (hb1.mono HB.out.size)); clear hb1
    go_wp2
    go_ret
    exact ⟨rfl, HB1.out⟩
  have HS := Lib.hid (fun w => szLogRecord_yes c r 1048576 w (by omega) (by omega) hl)
  have hp : 0 ≤ (1048576 : Int) - c.size - r.size := by omega
  have HT := Lib.hid (fun w => toLogRecord_any c r w)
  have hGI : ∃ (R : ByteArray) (b : Bool), (∀ w, Calls Tryd.prog 15 #[.int .i64 k, recV c r] w fun e w' => e = .returned (.tuple #[.string R, .bool b]) ∧ Below w.heap.size w w') ∧
      (∀ w, Tab w → Calls Tryd.prog 17 #[.int .i64 k, recV c r] w fun e w' => e = .returned (.tuple #[.string R, .bool b]) ∧ Below w.heap.size w w') := by
    cases h : inB k 0 59 && Tx.okE (recE c r)
    · exact ⟨_, _, fun w => sEncode_no k c r w (by omega) (by omega) h, fun w _ => encode_no k c r w (by omega) (by omega) h⟩
    · rw [Bool.and_eq_true] at h
      obtain ⟨h1, h2⟩ := h
      rw [inB_iff] at h1
      obtain ⟨n, rfl⟩ := Int.eq_ofNat_of_zero_le h1.1
      exact ⟨_, _, fun w => sEncode_yes n c r w (by omega) h2, fun w ht => encode_yes n c r w (by omega) h2 ht⟩
  obtain ⟨R, b, hG, hI⟩ := hGI
  have HG := Lib.hid hG
  have HI := Lib.hid hI
  have HTB := Lib.hid ht
  have hrr : (R.toList == R.toList) = true := by simp
  have hbb : (b != b) = false := by simp
  clear hG hI ht
  unfold recV at *
  go_enter Tryd.func3, Tryd.ntmps3
  go_wp2_with fail
  refine (HS.out _).mono ?_
  rintro e w1 ⟨rfl, hb1⟩
  have h10 : w1.cell? ⟨w.heap.size, 0, none⟩ = some (.string c) := (bcell hb1 (by simp)).trans HC0.out
  have h11 : w1.cell? ⟨w.heap.size, 1, none⟩ = some (.string r) := (bcell hb1 (by simp)).trans HC1.out
  have hz1 : w.heap.size < w1.heap.size := by have := hb1.size; simp at this; omega
  have HZ1 := Lib.hid hz1; clear hz1
  have HB1 := Lib.hid (HB.out.trans (hb1.mono HB.out.size)); clear hb1
  go_wp2_with fail
  refine (HT.out _).mono ?_
  rintro e w2 ⟨rfl, hb2⟩
  have h20 : w2.cell? ⟨w.heap.size, 0, none⟩ = some (.string c) := (bcell hb2 HZ1.out).trans h10
  have h21 : w2.cell? ⟨w.heap.size, 1, none⟩ = some (.string r) := (bcell hb2 HZ1.out).trans h11
  have HZ2 := Lib.hid (Nat.lt_of_lt_of_le HZ1.out hb2.size)
  have HB2 := Lib.hid (HB1.out.trans (hb2.mono HB1.out.size)); clear hb2 h10 h11
  go_wp2_with fail
  refine (HG.out _).mono ?_
  rintro e w3 ⟨rfl, hb3⟩
  have h30 : w3.cell? ⟨w.heap.size, 0, none⟩ = some (.string c) := (bcell hb3 HZ2.out).trans h20
  have h31 : w3.cell? ⟨w.heap.size, 1, none⟩ = some (.string r) := (bcell hb3 HZ2.out).trans h21
  have HB3 := Lib.hid (HB2.out.trans (hb3.mono HB2.out.size)); clear hb3 h20 h21
  go_wp2_with fail
  refine (HT.out _).mono ?_
  rintro e w4 ⟨rfl, hb4⟩
  have HB4 := Lib.hid (HB3.out.trans (hb4.mono HB3.out.size)); clear hb4 h30 h31
  go_wp2_with fail
  refine (HI.out _ (HTB.out.below HB4.out)).mono ?_
  rintro e w5 ⟨rfl, hb5⟩
  have HB5 := Lib.hid (HB4.out.trans (hb5.mono HB4.out.size)); clear hb5
  go_wp2
  go_ret
  exact ⟨rfl, HB5.out⟩

end Go.Proofs.YtfdhicojnbicgaaDoor
