/- Walks: the test of a great code, the cursor's start. -/
import Derived.Test.YtkckmjajjdpodaaCw
namespace Go.Proofs.Ytkckmjajjdpodaa
open Go.RowKit
set_option linter.unusedVariables false

set_option maxHeartbeats 400000 in
theorem vBigG_any (a : Option Addr) (n c : Nat) (w : World) (hn : n ≤ 9223372036854775807) :
    Calls Try.prog 15 #[.slice a n c] w fun e w' => e = .returned (.bool (decide (65536 < n))) ∧ w = w' := by
  by_cases h : 65536 < n
  all_goals
    go_enter Try.func15, Try.ntmps15
    go_wp2
    go_ret
    exact ⟨ret_bool (by simp [h]; try omega), rfl⟩

/-- The cursor at the start of a draw. -/
theorem cur_start {w : World} {ac : Option Addr} {c : Nat} {cs : List Int} (hl : cs.length ≤ 65537) (h : BytesAt w ac cs) :
    Cur (w.alloc (.cells #[.slice ac cs.length c, .int .i64 0, .int .u64 0] 107)) w.heap.size ac cs 0 ∧ (cs ≠ [] → ∀ b off, ac = some ⟨b, off, none⟩ → b < w.heap.size) ∧
      Below w.heap.size w (w.alloc (.cells #[.slice ac cs.length c, .int .i64 0, .int .u64 0] 107)) := by
  have HB : Below w.heap.size w (w.alloc (.cells #[.slice ac cs.length c, .int .i64 0, .int .u64 0] 107)) := (Below.refl _ _).alloc (Nat.le_refl _) _
  have HO : cs ≠ [] → ∀ b off, ac = some ⟨b, off, none⟩ → b < w.heap.size := fun h0 b off e => by
    obtain ⟨b', off', e', hb⟩ := h.lt h0
    rw [e] at e'; injection e' with e'; injection e' with e' _; omega
  exact ⟨⟨⟨c, 0, 0, block_new w _, by omega, by omega⟩, h.below (Nat.le_refl _) HB, fun h0 b off e => by have := HO h0 b off e; omega, by omega⟩, HO, HB⟩

end Go.Proofs.Ytkckmjajjdpodaa
