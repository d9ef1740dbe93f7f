/- Several texts in one: lemmas and walks of the functions that the law reaches. -/
import Derived.Test.YtcdfinkefahloaaY1
import Derived.Test.YtcdfinkefahloaaY3
import Derived.Test.YtcdfinkefahloaaY10

namespace Go.Proofs.Ytcdfinkefahloaa
open Go.RowKit Go.Sort
set_option linter.unusedVariables false
set_option maxRecDepth 100000 in
set_option maxHeartbeats 2000000 in
theorem sum_any (a : Option Addr) (cap n : Nat) (l : List Int) (w : World) (hn : l.length = n) (hlen : n ≤ 1000) (hs : ∀ k, k ≤ n → 0 ≤ Mg.sumL (l.take k) ∧ Mg.sumL (l.take k) ≤ 1000000) (h : IntsAt w a l) :
    Calls Try.prog 34 #[.slice a n cap] w fun e w' => e = .returned (.int .i64 (Mg.sumL l)) ∧ Below w.heap.size w w' := by
  subst hn
  have H := Lib.hid h; clear h
  have HS := Lib.hid hs; clear hs
  go_enter Try.func34, Try.ntmps34
  go_wp2
  go_loopw [3, 5, 8] (fun v _ i wr => ∃ k : Nat, k ≤ l.length ∧ i = .int .i64 k ∧ v = .int .i64 (Mg.sumL (l.take k)) ∧ Below w.heap.size w wr) (fun _ _ i _ => l.length - (intOf i).toNat)
  case atStart => exact ⟨0, by omega, rfl, rfl, Below.refl _ _⟩
  case round =>
    obtain ⟨k, hk, rfl, rfl, hb⟩ := hrel
    have HB := Lib.hid hb; clear hb
    by_cases hlt : k < l.length
    · obtain ⟨b, off, rfl, hc⟩ := (H.out.below (Nat.le_refl _) HB.out).at hlt
      have hstep : Mg.sumL (l.take (k + 1)) = Mg.sumL (l.take k) + l.getD k 0 := by
        unfold Mg.sumL
        rw [List.take_add_one, List.getElem?_eq_getElem hlt, List.getD_eq_getElem?_getD, List.getElem?_eq_getElem hlt, List.foldl_append]
        rfl
      obtain ⟨h1, h2⟩ := HS.out (k + 1) hlt
      obtain ⟨h3, h4⟩ := HS.out k hk
      rw [hstep] at h1 h2
      have HST := Lib.hid hstep
      clear hstep
      generalize l.getD k 0 = x at hc h1 h2 HST
      generalize Mg.sumL (l.take k) = s at h1 h2 h3 h4 HST ⊢
      have b1 : -9223372036854775808 ≤ s + x := by omega
      have b2 : s + x ≤ 9223372036854775807 := by omega
      go_wp2
      go_roundw
      case rel => exact ⟨k + 1, by omega, by go_num, by rw [HST.out], HB.out⟩
      case measure => simp [intOf] <;> omega
    · obtain rfl : k = l.length := by omega
      rw [List.take_length]
      go_wp2
      go_ret
      exact ⟨rfl, HB.out⟩

end Go.Proofs.Ytcdfinkefahloaa

