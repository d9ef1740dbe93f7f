/- Walks: keys. -/
import Derived.Test.YtkckmjajjdpodaaW0
namespace Go.Proofs.Ytkckmjajjdpodaa
open Go.RowKit
set_option linter.unusedVariables false

def okKey (x : Int) : Bool := inB x (-100000) 100000
def okList (zs : List Int) : Bool := decide (zs.length ≤ 64) && zs.all okKey

set_option maxHeartbeats 400000 in
theorem isKey_any (n : Int) (w : World) :
    Calls Try.prog 115 #[.int .i64 n] w fun e w' => e = .returned (.bool (okKey n)) ∧ w = w' := by
  go_enter Try.func115, Try.ntmps115
  go_wp2_with (go_at_call 86; refine (in_any _ _ _ _).mono ?_; rintro e w' ⟨rfl, rfl⟩)
  go_ret
  exact ⟨rfl, rfl⟩

theorem okList_no {zs : List Int} {k : Nat} (hk : k < zs.length) (h : okKey (zs.getD k 0) = false) : okList zs = false := by
  unfold okList
  rw [Bool.and_eq_false_iff]; right
  rw [List.all_eq_false]
  exact ⟨zs[k], List.getElem_mem hk, by simpa [List.getD, hk] using h⟩

theorem okList_yes {zs : List Int} (h : ∀ j, j < zs.length → okKey (zs.getD j 0) = true) : okList zs = decide (zs.length ≤ 64) := by
  unfold okList
  have : zs.all okKey = true := by
    rw [List.all_eq_true]
    intro x hx
    obtain ⟨j, hj, rfl⟩ := List.getElem_of_mem hx
    have := h j hj
    simpa [List.getD, hj] using this
  rw [this, Bool.and_true]

end Go.Proofs.Ytkckmjajjdpodaa
