/- Walks on texts: whether a log is valid, by both. -/
import Derived.Test.YtfdhicojnbicgaaDoorTr
import Derived.Test.YtfdhicojnbicgaaDoorTq
namespace Go.Proofs.YtfdhicojnbicgaaDoor
open Go.RowKit
set_option linter.unusedVariables false

set_option maxHeartbeats 1000000 in
theorem isValidLog_any (d p : ByteArray) (n : Int) (w : World) (hd : d.size ≤ 1048576) (hp : p.size ≤ 1048576) (ht : Tab w) :
    Calls Tryd.prog 24 #[logV d p n] w fun e w' => e = .returned (.bool (Tx.okLog (logOf d p n))) ∧ Below w.heap.size w w' := by
  have HT := Lib.hid ht; clear ht
  have HR := Lib.hid (fun w ht => records_any d p n w hd hp ht)
  have hB : Below w.heap.size w (w.alloc (.cells #[.string d, .string p, .int .i64 n] 31)) := (Below.refl _ _).alloc (Nat.le_refl _) _
  have HBb := Lib.hid hB; clear hB
  unfold logV at *
  go_enter Tryd.func24, Tryd.ntmps24
  go_wp2_with fail
  refine (HR.out _ (HT.out.below HBb.out)).mono ?_
  rintro e w1 ⟨a, c, rfl, _, hb1⟩
  have HB1 := Lib.hid (HBb.out.trans (hb1.mono HBb.out.size)); clear hb1
  go_wp2
  go_ret
  exact ⟨rfl, HB1.out⟩

theorem okLogS_eq' (d p : ByteArray) (n : Int) : Tx.okLog (logOf d p n) = (decide (d.size + p.size ≤ 30000) && (decide (Tx.total (Tx.rd 60 (bs (d ++ p))) = d.size + p.size) && decide (Tx.total (Tx.rd 60 (bs d)) = d.size) && decide (((Tx.rd 60 (bs (d ++ p))).length : Int) = n))) := by
  rw [← Tx.okLogS_eq]
  unfold Tx.okLogS logOf Tx.endOf Tx.recsOf
  simp only [← bs_add, bs_len, List.length_map]

set_option maxRecDepth 100000 in
set_option maxHeartbeats 4000000 in
theorem l25Log_any (d p : ByteArray) (n : Int) (w : World) (hd : d.size ≤ 1048576) (hp : p.size ≤ 1048576) :
    Calls Tryd.prog 56 #[logV d p n] w fun e w' => e = .returned (.bool (Tx.okLog (logOf d p n))) ∧ Below w.heap.size w w' := by
  have HOK := Lib.hid (okLogS_eq' d p n)
  have hB : Below w.heap.size w (w.alloc (.cells #[.string d, .string p, .int .i64 n] 31)) := (Below.refl _ _).alloc (Nat.le_refl _) _
  have HBb := Lib.hid hB; clear hB
  unfold logV
  by_cases hbig : d.size + p.size ≤ 30000
  case neg =>
    rw [decide_eq_false hbig] at HOK
    go_enter Tryd.func56, Tryd.ntmps56
    go_wp2_with fail
    go_ret
    exact ⟨ret_bool HOK.out.symm, HBb.out⟩
  rw [decide_eq_true hbig] at HOK
  have hws : (d ++ p).size = d.size + p.size := size_add d p
  obtain ⟨wh, hwh⟩ : ∃ x, x = d ++ p := ⟨_, rfl⟩
  have a2 : ∀ w, (Op.stringOp .add d p).run Tryd.prog w = .ok (.string wh) w := by rw [hwh]; exact add_runs (by omega) (by omega)
  rw [← hwh] at HOK hws
  have hwsz : wh.size ≤ 30000 := by omega
  clear hwh hws
  have H1 := Lib.hid (fun w => l25Open_any wh w (by omega))
  have H2 := Lib.hid (fun w => l25Open_any d w (by omega))
  have hc0 : (w.alloc (.cells #[.string d, .string p, .int .i64 n] 31)).cell? ⟨w.heap.size, 0, none⟩ = some (.string d) := alloc_cell 0
  have hc1 : (w.alloc (.cells #[.string d, .string p, .int .i64 n] 31)).cell? ⟨w.heap.size, 1, none⟩ = some (.string p) := alloc_cell 1
  have hc2 : (w.alloc (.cells #[.string d, .string p, .int .i64 n] 31)).cell? ⟨w.heap.size, 2, none⟩ = some (.int .i64 n) := alloc_cell 2
  have HC0 := Lib.hid hc0; have HC1 := Lib.hid hc1; have HC2 := Lib.hid hc2; clear hc0 hc1 hc2
  have e1 := Tx.rd_len 60 (bs wh)
  have e2 := big_end (s := wh)
  have e3 := big_end (s := d)
  go_enter Tryd.func56, Tryd.ntmps56
  go_wp2_with fail
  refine (H1.out _).mono ?_
  rintro e w1 ⟨a, c, rfl, _, hb1⟩
  have g0 : w1.cell? ⟨w.heap.size, 0, none⟩ = some (.string d) := (bcell hb1 (by simp)).trans HC0.out
  have g1 : w1.cell? ⟨w.heap.size, 1, none⟩ = some (.string p) := (bcell hb1 (by simp)).trans HC1.out
  have g2 : w1.cell? ⟨w.heap.size, 2, none⟩ = some (.int .i64 n) := (bcell hb1 (by simp)).trans HC2.out
  have hz1 : w.heap.size < w1.heap.size := by have := hb1.size; simp at this; omega
  have HB1 := Lib.hid (HBb.out.trans (hb1.mono HBb.out.size)); clear hb1
  go_wp2_with fail
  refine (H2.out _).mono ?_
  rintro e w2 ⟨a', c', rfl, _, hb2⟩
  have k0 : w2.cell? ⟨w.heap.size, 0, none⟩ = some (.string d) := (bcell hb2 hz1).trans g0
  have k1 : w2.cell? ⟨w.heap.size, 1, none⟩ = some (.string p) := (bcell hb2 hz1).trans g1
  have k2 : w2.cell? ⟨w.heap.size, 2, none⟩ = some (.int .i64 n) := (bcell hb2 hz1).trans g2
  have HB2 := Lib.hid (HB1.out.trans (hb2.mono HB1.out.size)); clear hb2 g0 g1 g2
  have q1 : (((Tx.total (Tx.rd 60 (bs wh)) : Nat) : Int) == (d.size : Int) + (p.size : Int)) = decide (Tx.total (Tx.rd 60 (bs wh)) = d.size + p.size) := by
    rw [Bool.eq_iff_iff]; simp; omega
  have q2 : (((Tx.total (Tx.rd 60 (bs d)) : Nat) : Int) == (d.size : Int)) = decide (Tx.total (Tx.rd 60 (bs d)) = d.size) := by
    rw [Bool.eq_iff_iff]; simp; omega
  have q3 : (((Tx.rd 60 (bs wh)).length : Int) == n) = decide (((Tx.rd 60 (bs wh)).length : Int) = n) := by
    rw [Bool.eq_iff_iff]; simp
  generalize (Tx.rd 60 (bs wh)).length = N at *
  generalize Tx.total (Tx.rd 60 (bs wh)) = E at *
  generalize Tx.total (Tx.rd 60 (bs d)) = F at *
  generalize decide (E = d.size + p.size) = y1 at q1 HOK
  generalize decide (F = d.size) = y2 at q2 HOK
  generalize decide ((N : Int) = n) = y3 at q3 HOK
  cases y1 <;> cases y2
  all_goals
    go_wp2
    go_ret
    exact ⟨ret_bool (by rw [HOK.out]; simp), HB2.out⟩

set_option maxHeartbeats 1000000 in
theorem sIsValidLog_any (d p : ByteArray) (n : Int) (w : World) (hd : d.size ≤ 1048576) (hp : p.size ≤ 1048576) :
    Calls Tryd.prog 22 #[logV d p n] w fun e w' => e = .returned (.bool (Tx.okLog (logOf d p n))) ∧ Below w.heap.size w w' := by
  have HR := Lib.hid (fun w => l25Log_any d p n w hd hp)
  have hB : Below w.heap.size w (w.alloc (.cells #[.string d, .string p, .int .i64 n] 31)) := (Below.refl _ _).alloc (Nat.le_refl _) _
  have HBb := Lib.hid hB; clear hB
  unfold logV at *
  go_enter Tryd.func22, Tryd.ntmps22
  go_wp2_with fail
  refine (HR.out _).mono ?_
  rintro e w1 ⟨rfl, hb1⟩
  have HB1 := Lib.hid (HBb.out.trans (hb1.mono HBb.out.size)); clear hb1
  go_wp2
  go_ret
  exact ⟨rfl, HB1.out⟩

end Go.Proofs.YtfdhicojnbicgaaDoor
