/- Walks: the library's rotation at ints. -/
import Derived.Test.YtkckmjajjdpodaaRb
namespace Go.Proofs.Ytkckmjajjdpodaa.II
open Go.RowKit Go.Sort
set_option linter.unusedVariables false

/-- The exchange of two ranges, its numbers as they come. -/
theorem swapRange_int (B0 g c n : Nat) (pre A M B post rs : List (Int)) (m : Nat) (x y z : Int) (cv : Value) (w : World) (hA : A.length = m) (hB : B.length = m) (hx : x = (pre.length : Nat)) (hy : y = ((pre.length + m + M.length : Nat) : Int)) (hz : z = (m : Nat)) (hrs : rs = pre ++ A ++ M ++ B ++ post) (hn : rs.length = n) (hn2 : n ≤ 1000)
    (h : w.ownsRow B0 3 1 (.slice (some ⟨g, 0, none⟩) n c) n (flat encI rs)) :
    Calls Try.prog 194 #[.slice (some ⟨g, 0, none⟩) n c, .int .i64 x, .int .i64 y, .int .i64 z, cv] w fun e w' => e = .returned (.tuple #[]) ∧
      w'.ownsRow B0 3 1 (.slice (some ⟨g, 0, none⟩) n c) n (flat encI (pre ++ B ++ M ++ A ++ post)) ∧ w.grownBy w' (some g) := by
  subst hx hy hz hrs
  exact swapRange_any B0 g c n pre A M B post m _ _ cv w hA hB rfl rfl hn hn2 h

set_option maxRecDepth 100000 in
set_option maxHeartbeats 8000000 in
theorem rotate_any (B0 g c n : Nat) (pre U V post : List (Int)) (a m b : Nat) (cv : Value) (w : World) (ha : pre.length = a) (hm : a + U.length = m) (hb : m + V.length = b) (hU : 0 < U.length) (hV : 0 < V.length) (hn : (pre ++ U ++ V ++ post).length = n) (hn2 : n ≤ 1000)
    (h : w.ownsRow B0 3 1 (.slice (some ⟨g, 0, none⟩) n c) n (flat encI (pre ++ U ++ V ++ post))) :
    Calls Try.prog 191 #[.slice (some ⟨g, 0, none⟩) n c, .int .i64 a, .int .i64 m, .int .i64 b, cv] w fun e w' => e = .returned (.tuple #[]) ∧
      w'.ownsRow B0 3 1 (.slice (some ⟨g, 0, none⟩) n c) n (flat encI (pre ++ V ++ U ++ post)) ∧ w.grownBy w' (some g) := by
  have HO := Lib.hid h
  have HN := Lib.hid hn
  have hbn : b + post.length = n := by rw [← hn]; simp only [List.length_append]; omega
  have u1 : IntKind.i64.wrap ((m : Int) - (a : Int)) = (U.length : Nat) := by rw [IntWalk.i64_in _ (by omega)]; omega
  have u2 : IntKind.i64.wrap ((b : Int) - (m : Int)) = (V.length : Nat) := by rw [IntWalk.i64_in _ (by omega)]; omega
  have u3 : (m : Int) - (a : Int) = (U.length : Nat) := by omega
  have u4 : (b : Int) - (m : Int) = (V.length : Nat) := by omega
  clear h hn
  go_enter Try.func191, Try.ntmps191
  go_wp2
  go_loopw [10, 11] (fun x y wr => ∃ (p' U' V' q' : List (Int)) (i j : Nat), x = .int .i64 i ∧ y = .int .i64 j ∧ U'.length = i ∧ V'.length = j ∧ 0 < i ∧ 0 < j ∧ p'.length + i = m ∧ Hid (p' ++ V' ++ U' ++ q' = pre ++ V ++ U ++ post) ∧ (p' ++ U' ++ V' ++ q').length = n ∧ wr.ownsRow B0 3 1 (.slice (some ⟨g, 0, none⟩) n c) n (flat encI (p' ++ U' ++ V' ++ q')) ∧ w.grownBy wr (some g)) (fun x y _ => (intOf x).toNat + (intOf y).toNat)
  case atStart => exact ⟨pre, U, V, post, U.length, V.length, by first | rfl | (simp only [u1, u3]), by first | rfl | (simp only [u2, u4]), rfl, rfl, hU, hV, by omega, Lib.hid rfl, HN.out, HO.out, grown_of_below (Below.refl w.heap.size w)⟩
  case round =>
    obtain ⟨p', U', V', q', i, j, rfl, rfl, hU', hV', hi, hj, hpm, HT, hlen, hown, hg⟩ := hrel
    have HO2 := Lib.hid hown; have HG2 := Lib.hid hg; have HLN := Lib.hid hlen
    have hl2 : p'.length + i + j + q'.length = n := by rw [← hlen]; simp only [List.length_append]; omega
    clear hown hg HO HN hlen u1 u2 u3 u4
    have HPM := Lib.hid hpm; have HU' := Lib.hid hU'; have HV' := Lib.hid hV'
    generalize hP : p'.length = P at hpm hl2
    have HP := Lib.hid hP
    clear hP hU' hV' hU hV
    have z1 : -9223372036854775808 ≤ (m : Int) - (i : Int) ∧ (m : Int) - (i : Int) ≤ 9223372036854775807 := by omega
    by_cases hij : i = j
    · subst hij
      have q1 : ((i : Int) != (i : Int)) = false := by simp
      go_wp2_with fail
      refine (swapRange_int B0 g c n p' U' [] V' q' _ i _ _ _ cv _ HU'.out HV'.out (by rw [HP.out]; omega) (by rw [HP.out]; simp only [List.length_nil]; omega) rfl (by simp) HLN.out hn2 HO2.out).mono ?_
      rintro e w5 ⟨rfl, ho5, hg5⟩
      have HO5 := Lib.hid ho5; have HG5 := Lib.hid (grown_trans HG2.out hg5)
      clear ho5 hg5
      rw [List.append_nil, HT.out] at HO5
      go_wp2
      go_end0
      exact ⟨rfl, HO5.out, HG5.out⟩
    have q1 : ((i : Int) != (j : Int)) = true := by simp; omega
    by_cases hgt : j < i
    · have q2 : decide ((j : Int) < (i : Int)) = true := decide_eq_true (by omega)
      have e1 : U'.take j ++ U'.drop j = U' := List.take_append_drop j U'
      have l1 : (U'.take j).length = j := by rw [List.length_take, HU'.out]; omega
      have l2 : (U'.drop j).length = i - j := by rw [List.length_drop, HU'.out]
      generalize U'.take j = U1 at e1 l1
      generalize U'.drop j = U2 at e1 l2
      have E1 := Lib.hid e1; have L1 := Lib.hid l1; have L2 := Lib.hid l2
      clear e1 l1 l2
      go_wp2_with fail
      refine (swapRange_int B0 g c n p' U1 U2 V' q' _ j _ _ _ cv _ L1.out HV'.out (by rw [HP.out]; omega) (by rw [HP.out, L2.out]; omega) rfl (by rw [← E1.out]; simp) HLN.out hn2 HO2.out).mono ?_
      rintro e w5 ⟨rfl, ho5, hg5⟩
      have HO5 := Lib.hid ho5; have HG5 := Lib.hid (grown_trans HG2.out hg5)
      clear ho5 hg5
      go_wp2
      go_roundw
      case rel => exact ⟨p' ++ V', U2, U1, q', i - j, j, by go_num, rfl, L2.out, L1.out, by omega, hj, by rw [List.length_append, HP.out, HV'.out]; omega, Lib.hid (by rw [← HT.out, ← E1.out]; simp), by rw [← HLN.out, ← E1.out]; simp only [List.length_append]; omega, HO5.out, HG5.out⟩
      case measure => simp [intOf] <;> omega
    · have q2 : decide ((j : Int) < (i : Int)) = false := decide_eq_false (by omega)
      have e1 : V'.take (j - i) ++ V'.drop (j - i) = V' := List.take_append_drop _ V'
      have l1 : (V'.take (j - i)).length = j - i := by rw [List.length_take, HV'.out]; omega
      have l2 : (V'.drop (j - i)).length = i := by rw [List.length_drop, HV'.out]; omega
      generalize V'.take (j - i) = V1 at e1 l1
      generalize V'.drop (j - i) = V2 at e1 l2
      have E1 := Lib.hid e1; have L1 := Lib.hid l1; have L2 := Lib.hid l2
      clear e1 l1 l2
      go_wp2_with fail
      refine (swapRange_int B0 g c n p' U' V1 V2 q' _ i _ _ _ cv _ HU'.out L2.out (by rw [HP.out]; omega) (by rw [HP.out, L1.out]; omega) rfl (by rw [← E1.out]; simp) HLN.out hn2 HO2.out).mono ?_
      rintro e w5 ⟨rfl, ho5, hg5⟩
      have HO5 := Lib.hid ho5; have HG5 := Lib.hid (grown_trans HG2.out hg5)
      clear ho5 hg5
      go_wp2
      go_roundw
      case rel => exact ⟨p', V2, V1, U' ++ q', i, j - i, rfl, by go_num, L2.out, L1.out, hi, by omega, by rw [HP.out]; omega, Lib.hid (by rw [← HT.out, ← E1.out]; simp), by rw [← HLN.out, ← E1.out]; simp only [List.length_append]; omega, by have := HO5.out; simpa using this, HG5.out⟩
      case measure => simp [intOf] <;> omega

end Go.Proofs.Ytkckmjajjdpodaa.II
