/- The law FnExactChooseMethod: its walk. -/
import Derived.Test.YtjlebikidoedmaaWk
namespace Go.Proofs.Ytjlebikidoedmaa
open Go.RowKit
set_option linter.unusedVariables false

set_option maxHeartbeats 1000000 in
theorem lawChooseMethod_any (c r v d g m : Int) (w : World) :
    Calls Try.prog 5 #[.agg #[.int .i64 c, .int .i64 r, .int .i64 v, .int .i64 d, .int .i64 g], .int .i64 m] w fun e w' => e = .returned (.bool true) ∧ Below w.heap.size w w' := by
  have HB0 : Hid (Below w.heap.size w (w.alloc (.cells #[.int .i64 c, .int .i64 r, .int .i64 v, .int .i64 d, .int .i64 g] 32))) := (Below.refl _ _).alloc (Nat.le_refl _) _
  have HC : Hid (∀ w2, Below (w.alloc (.cells #[.int .i64 c, .int .i64 r, .int .i64 v, .int .i64 d, .int .i64 g] 32)).heap.size (w.alloc (.cells #[.int .i64 c, .int .i64 r, .int .i64 v, .int .i64 d, .int .i64 g] 32)) w2 → ∀ j, j < 5 → w2.cell? ⟨w.heap.size, j, none⟩ = (#[Value.int .i64 c, .int .i64 r, .int .i64 v, .int .i64 d, .int .i64 g] : Array Value)[j]?) := by
    intro w2 hb j hj
    rw [hb.cell (p := ⟨w.heap.size, j, none⟩) (by simp), World.cell?_alloc_at _ _ _ _ rfl]
  go_enter Try.func5, Try.ntmps5
  go_wp2_with fail
  refine (toProfile_any c r v d g _).mono ?_
  rintro e w1 ⟨rfl, hb1⟩
  have HB1 := Lib.hid hb1; clear hb1
  go_wp2_with fail
  refine (specChooseMethod_any c r v d g m _).mono ?_
  rintro e w2 ⟨rfl, hb2⟩
  have HB2 := Lib.hid (HB1.out.trans (hb2.mono HB1.out.size)); clear hb2
  have g0 : w2.cell? ⟨w.heap.size, 0, none⟩ = some (.int .i64 c) := HC.out w2 HB2.out 0 (by omega)
  have g1 : w2.cell? ⟨w.heap.size, 1, none⟩ = some (.int .i64 r) := HC.out w2 HB2.out 1 (by omega)
  have g2 : w2.cell? ⟨w.heap.size, 2, none⟩ = some (.int .i64 v) := HC.out w2 HB2.out 2 (by omega)
  have g3 : w2.cell? ⟨w.heap.size, 3, none⟩ = some (.int .i64 d) := HC.out w2 HB2.out 3 (by omega)
  have g4 : w2.cell? ⟨w.heap.size, 4, none⟩ = some (.int .i64 g) := HC.out w2 HB2.out 4 (by omega)
  go_wp2_with fail
  refine (toProfile_any c r v d g _).mono ?_
  rintro e w3 ⟨rfl, hb3⟩
  have HB3 := Lib.hid (HB2.out.trans (hb3.mono HB2.out.size)); clear hb3 g0 g1 g2 g3 g4
  go_wp2_with fail
  refine (implChooseMethod_any c r v d g m _).mono ?_
  rintro e w4 ⟨rfl, hb4⟩
  have HB4 := Lib.hid (HB0.out.trans ((HB3.out.trans (hb4.mono HB3.out.size)).mono HB0.out.size)); clear hb4
  go_wp2
  go_ret
  exact ⟨rfl, HB4.out⟩

end Go.Proofs.Ytjlebikidoedmaa
