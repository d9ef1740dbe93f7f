/- Walks: SyncLog by both; the laws FnExactIsValidLog, FnExactSyncLog. -/
import Derived.Test.YtfdhicojnbicgaaDoorTs
namespace Go.Proofs.YtfdhicojnbicgaaDoor
open Go.RowKit
set_option linter.unusedVariables false

def syncV (d p : ByteArray) (n : Int) : Value := if Tx.okLog (logOf d p n) = true then logV (d ++ p) ⟨#[]⟩ n else logV ⟨#[]⟩ ⟨#[]⟩ 0

theorem below_three' {w w1 : World} {B C : Nat} (h : Below B w w1) (x y z : Value) (hC : B ≤ C := by omega) : Below B w (((w1.setCell ⟨C, 0, none⟩ x).setCell ⟨C, 1, none⟩ y).setCell ⟨C, 2, none⟩ z) :=
  Below.setCell (p := ⟨C, 2, none⟩) (Below.setCell (p := ⟨C, 1, none⟩) (Below.setCell (p := ⟨C, 0, none⟩) h hC _) hC _) hC _

set_option maxRecDepth 100000 in
set_option maxHeartbeats 2000000 in
theorem sync_any (d p : ByteArray) (n : Int) (w : World) (hd : d.size ≤ 1048576) (hp : p.size ≤ 1048576) (ht : Tab w) :
    Calls Tryd.prog 28 #[logV d p n] w fun e w' => e = .returned (.tuple #[syncV d p n, .bool (Tx.okLog (logOf d p n))]) ∧ Below w.heap.size w w' := by
  have HT := Lib.hid ht; clear ht
  have HR := Lib.hid (fun w ht => isValidLog_any d p n w hd hp ht)
  have hB : Below w.heap.size w ((w.alloc (.cells #[.string d, .string p, .int .i64 n] 31)).alloc (.cells #[.string ⟨#[]⟩, .string ⟨#[]⟩, .int .i64 0] 31)) := ((Below.refl _ _).alloc (Nat.le_refl _) _).alloc (by simp) _
  have HBb := Lib.hid hB; clear hB
  have a1 := add_runs (P := Tryd.prog) (a := d) (b := p) (by omega) (by omega)
  have HV : Hid (syncV d p n = if Tx.okLog (logOf d p n) = true then logV (d ++ p) ⟨#[]⟩ n else logV ⟨#[]⟩ ⟨#[]⟩ 0) := rfl
  cases hok : Tx.okLog (logOf d p n)
  all_goals
    rw [hok] at HV HR
    clear hok
    unfold logV at HR HV ⊢
    go_enter Tryd.func28, Tryd.ntmps28
    go_wp2_with fail
    refine (HR.out _ (HT.out.below HBb.out)).mono ?_
    rintro e w1 ⟨rfl, hb1⟩
    have HB1 := Lib.hid (HBb.out.trans (hb1.mono HBb.out.size))
    have g0 : w1.cell? ⟨w.heap.size, 0, none⟩ = some (.string d) := (bcell hb1 (by simp; omega)).trans (by simp [go_sem])
    have g1 : w1.cell? ⟨w.heap.size, 1, none⟩ = some (.string p) := (bcell hb1 (by simp; omega)).trans (by simp [go_sem])
    have g2 : w1.cell? ⟨w.heap.size, 2, none⟩ = some (.int .i64 n) := (bcell hb1 (by simp; omega)).trans (by simp [go_sem])
    have q0 : w1.cell? ⟨w.heap.size + 1, 0, none⟩ = some (.string ⟨#[]⟩) := (bcell hb1 (by simp)).trans (by simp [go_sem])
    have q1 : w1.cell? ⟨w.heap.size + 1, 1, none⟩ = some (.string ⟨#[]⟩) := (bcell hb1 (by simp)).trans (by simp [go_sem])
    have q2 : w1.cell? ⟨w.heap.size + 1, 2, none⟩ = some (.int .i64 0) := (bcell hb1 (by simp)).trans (by simp [go_sem])
    have hf : ∀ o, w1.frozen? ⟨w.heap.size + 1, o, none⟩ = false := fun o => (hb1.frozen (p := ⟨w.heap.size + 1, o, none⟩) (by simp)).trans (by simp [go_sem])
    clear hb1
    go_wp2
  · obtain ⟨s0, s1, s2, s3, s4, s5⟩ := three_set (.string ⟨#[]⟩) (.string ⟨#[]⟩) (.int .i64 0) q0 q1 q2
    refine bodyPost_ret (v := .tuple #[.agg #[.string ⟨#[]⟩, .string ⟨#[]⟩, .int .i64 0], .bool false]) (by simp [results, Tryd.results28, go_sem, s3, s4, s5]) rfl ⟨by rw [HV.out]; rfl, below_three' HB1.out _ _ _⟩
  · obtain ⟨s0, s1, s2, s3, s4, s5⟩ := three_set (.string (d ++ p)) (.string ⟨#[]⟩) (.int .i64 n) q0 q1 q2
    refine bodyPost_ret (v := .tuple #[.agg #[.string (d ++ p), .string ⟨#[]⟩, .int .i64 n], .bool true]) (by simp [results, Tryd.results28, go_sem, s3, s4, s5]) rfl ⟨by rw [HV.out]; rfl, below_three' HB1.out _ _ _⟩

set_option maxRecDepth 100000 in
set_option maxHeartbeats 2000000 in
theorem sSync_any (d p : ByteArray) (n : Int) (w : World) (hd : d.size ≤ 1048576) (hp : p.size ≤ 1048576) :
    Calls Tryd.prog 27 #[logV d p n] w fun e w' => e = .returned (.tuple #[syncV d p n, .bool (Tx.okLog (logOf d p n))]) ∧ Below w.heap.size w w' := by
  have HR := Lib.hid (fun w => l25Log_any d p n w hd hp)
  have hB : Below w.heap.size w ((w.alloc (.cells #[.string d, .string p, .int .i64 n] 31)).alloc (.cells #[.string ⟨#[]⟩, .string ⟨#[]⟩, .int .i64 0] 31)) := ((Below.refl _ _).alloc (Nat.le_refl _) _).alloc (by simp) _
  have HBb := Lib.hid hB; clear hB
  have a1 := add_runs (P := Tryd.prog) (a := d) (b := p) (by omega) (by omega)
  have HV : Hid (syncV d p n = if Tx.okLog (logOf d p n) = true then logV (d ++ p) ⟨#[]⟩ n else logV ⟨#[]⟩ ⟨#[]⟩ 0) := rfl
  cases hok : Tx.okLog (logOf d p n)
  all_goals
    rw [hok] at HV HR
    clear hok
    unfold logV at HR HV ⊢
    go_enter Tryd.func27, Tryd.ntmps27
    go_wp2_with fail
    refine (HR.out _).mono ?_
    rintro e w1 ⟨rfl, hb1⟩
    have HB1 := Lib.hid (HBb.out.trans (hb1.mono HBb.out.size))
    have g0 : w1.cell? ⟨w.heap.size, 0, none⟩ = some (.string d) := (bcell hb1 (by simp; omega)).trans (by simp [go_sem])
    have g1 : w1.cell? ⟨w.heap.size, 1, none⟩ = some (.string p) := (bcell hb1 (by simp; omega)).trans (by simp [go_sem])
    have g2 : w1.cell? ⟨w.heap.size, 2, none⟩ = some (.int .i64 n) := (bcell hb1 (by simp; omega)).trans (by simp [go_sem])
    have q0 : w1.cell? ⟨w.heap.size + 1, 0, none⟩ = some (.string ⟨#[]⟩) := (bcell hb1 (by simp)).trans (by simp [go_sem])
    have q1 : w1.cell? ⟨w.heap.size + 1, 1, none⟩ = some (.string ⟨#[]⟩) := (bcell hb1 (by simp)).trans (by simp [go_sem])
    have q2 : w1.cell? ⟨w.heap.size + 1, 2, none⟩ = some (.int .i64 0) := (bcell hb1 (by simp)).trans (by simp [go_sem])
    have hf : ∀ o, w1.frozen? ⟨w.heap.size + 1, o, none⟩ = false := fun o => (hb1.frozen (p := ⟨w.heap.size + 1, o, none⟩) (by simp)).trans (by simp [go_sem])
    clear hb1
    go_wp2
  · obtain ⟨s0, s1, s2, s3, s4, s5⟩ := three_set (.string ⟨#[]⟩) (.string ⟨#[]⟩) (.int .i64 0) q0 q1 q2
    refine bodyPost_ret (v := .tuple #[.agg #[.string ⟨#[]⟩, .string ⟨#[]⟩, .int .i64 0], .bool false]) (by simp [results, Tryd.results27, go_sem, s3, s4, s5]) rfl ⟨by rw [HV.out]; rfl, below_three' HB1.out _ _ _⟩
  · obtain ⟨s0, s1, s2, s3, s4, s5⟩ := three_set (.string (d ++ p)) (.string ⟨#[]⟩) (.int .i64 n) q0 q1 q2
    refine bodyPost_ret (v := .tuple #[.agg #[.string (d ++ p), .string ⟨#[]⟩, .int .i64 n], .bool true]) (by simp [results, Tryd.results27, go_sem, s3, s4, s5]) rfl ⟨by rw [HV.out]; rfl, below_three' HB1.out _ _ _⟩

end Go.Proofs.YtfdhicojnbicgaaDoor
