/- Walks: ProfileOf of the reference on bad and empty lists; both sides; profiles compared. -/
import Derived.Test.YtoaklfpepleelaaSt
namespace Go.Proofs.Ytoaklfpepleelaa
open Go.RowKit Go.Sort
set_option linter.unusedVariables false

set_option maxRecDepth 100000 in
set_option maxHeartbeats 4000000 in
theorem specProfileOf_bad (a : Option Addr) (cap : Nat) (rs : List (Int × Int)) (w : World) (hbig : rs.length ≤ 9223372036854775807) (h : RecsAt w a rs) (hok : okRecs rs = false) :
    Calls Try.prog 28 #[.slice a rs.length cap] w fun e w' => e = .returned (.tuple #[prV rs, .bool (okRecs rs)]) ∧ Below w.heap.size w w' := by
  have HP : Hid (prV rs = prZ) := if_neg (by rw [hok]; simp)
  have B0 := Lib.hid (show Below w.heap.size w (w.alloc (.cells #[.int .i64 0, .int .i64 0, .int .i64 0, .int .i64 0, .int .i64 0] 49)) from (Below.refl _ _).alloc (Nat.le_refl _) _)
  have R0 := block_new w (.cells #[.int .i64 0, .int .i64 0, .int .i64 0, .int .i64 0, .int .i64 0] 49)
  have HV := Lib.hid (l2Records_any a cap rs _ hbig (h.below (Nat.le_refl _) B0.out))
  clear h
  rw [hok] at HV ⊢
  rw [HP.out]
  unfold prZ
  have r0 := row_cell R0 0
  have r1 := row_cell R0 1
  have r2 := row_cell R0 2
  have r3 := row_cell R0 3
  have r4 := row_cell R0 4
  have rf : ∀ o, (w.alloc (.cells #[.int .i64 0, .int .i64 0, .int .i64 0, .int .i64 0, .int .i64 0] 49)).frozen? ⟨w.heap.size, o, none⟩ = false := fun o => frozen_of_row _ _ o _ _ R0
  simp at r0 r1 r2 r3 r4
  have DF := Lib.hid (below_five (C := w.heap.size) B0.out (Nat.le_refl _) (.int .i64 0) (.int .i64 0) (.int .i64 0) (.int .i64 0) (.int .i64 0))
  clear R0 hok
  go_enter Try.func28, Try.ntmps28
  go_wp2_with fail
  refine HV.out.mono ?_
  rintro e w1 ⟨rfl, rfl⟩
  go_wp2
  refine bodyPost_ret (v := .tuple #[.agg #[.int .i64 0, .int .i64 0, .int .i64 0, .int .i64 0, .int .i64 0], .bool false]) (by simp [results, Try.results28, go_sem]) rfl ⟨rfl, ?_⟩
  first | with_reducible exact DF.out | with_reducible exact B0.out

set_option maxHeartbeats 400000 in
theorem eqProfile_same (x0 x1 x2 x3 x4 : Int) (w : World) :
    Calls Try.prog 31 #[.agg #[.int .i64 x0, .int .i64 x1, .int .i64 x2, .int .i64 x3, .int .i64 x4], .agg #[.int .i64 x0, .int .i64 x1, .int .i64 x2, .int .i64 x3, .int .i64 x4]] w fun e w' => e = .returned (.bool true) ∧ Below w.heap.size w w' := by
  go_enter Try.func31, Try.ntmps31
  go_wp2
  all_goals
    go_ret
    exact ⟨ret_bool (by simp_all), by (repeat (first | exact Below.refl _ _ | assumption | refine Below.setCell ?_ (by first | omega | (simp; done) | (simp; omega)) _ | refine Below.alloc ?_ (by first | omega | (simp; done) | (simp; omega)) _ | refine Below.drew ?_ | refine below_drewN ?_ _))⟩

end Go.Proofs.Ytoaklfpepleelaa
