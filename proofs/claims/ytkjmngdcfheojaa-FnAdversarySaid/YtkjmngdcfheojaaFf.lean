/- Walks: the reference's valid facts, first arrangement, facts with one more. -/
import Derived.Test.YtkjmngdcfheojaaFe
import Derived.Test.YtkjmngdcfheojaaPx
namespace Go.Proofs.Ytkjmngdcfheojaa
open Go.RowKit Go.Sort
set_option linter.unusedVariables false

set_option maxHeartbeats 1000000 in
theorem l23First_any (m : Nat) (hm : m ≤ 1000) (w : World) :
    Calls Try.prog 113 #[.int .i64 m] w fun e w' => ∃ a c, e = .returned (.slice a m c) ∧ w'.ownsRow w.heap.size 3 1 (.slice a m c) m ((Pm.first m).map (Value.int .i64)) ∧ Below w.heap.size w w' := by
  have E0 := Lib.hid (own_lit (w := w) (e := 3) (size := 1) #[] 0 (by omega) rfl)
  have B0 := Lib.hid (show Below w.heap.size w (w.alloc (.cells #[] 3)) from (Below.refl _ _).alloc (Nat.le_refl _) _)
  go_enter Try.func113, Try.ntmps113
  go_wp2
  go_loopw [3, 4] (fun v i wr => ∃ k : Nat, k ≤ m ∧ i = .int .i64 k ∧ wr.ownsRow w.heap.size 3 1 v k ((Pm.first k).map (Value.int .i64)) ∧ Below w.heap.size w wr) (fun _ i _ => m - (intOf i).toNat)
  case atStart => exact ⟨0, by omega, rfl, E0.out, B0.out⟩
  case round =>
    obtain ⟨k, hk, rfl, hown, hb⟩ := hrel
    obtain ⟨a', c', rfl⟩ := own_slice hown
    have HO := Lib.hid hown; have HB := Lib.hid hb
    clear hown hb E0 B0
    by_cases hlt : k < m
    · have h3 : decide ((k : Int) < (m : Int)) = true := by simp; omega
      have hn40 : k + 1 ≤ 1099511627776 := by omega
      have hbs := HB.out.size
      go_wp2_with (at_builtin; refine wpList_app1 slInt rfl _ _ rfl rfl HO.out [.int .i64 k] rfl rfl (by simp) (by simp [Value.oneCell']) hn40 hbs ?_; intro v' w2 hown' hg ht)
      have HO4 := Lib.hid hown'
      have HB4 := Lib.hid (below_app HB.out hbs HO.out (Nat.le_refl _) hg)
      clear hown' hg ht
      go_wp2
      go_roundw
      case rel => exact ⟨k + 1, by omega, by go_num, by rw [first_succ, List.map_append]; exact HO4.out, HB4.out⟩
      case measure => simp [intOf] <;> omega
    · obtain rfl : k = m := by omega
      have h3 : decide ((k : Int) < (k : Int)) = false := by simp
      go_wp2
      go_ret
      exact ⟨a', c', rfl, HO.out, HB.out⟩

theorem l1In_is {x lo hi : Int} {b : Bool} (h : inB x lo hi = b) : Hid (∀ w, Calls Try.prog 61 #[.int .i64 x, .int .i64 lo, .int .i64 hi] w fun e w' => e = .returned (.bool b) ∧ w' = w) := fun w => by
  have := l1In_any x lo hi w
  rw [h] at this
  exact this.mono (fun _ _ ⟨h1, h2⟩ => ⟨h1, h2.symm⟩)

theorem okFacts_no {n : Int} {fs : List (Int × Int)} {k : Nat} (hk : k < fs.length) (h : okFact n (fs.getD k (0, 0)) = false) : okFacts n fs = false := by
  unfold okFacts
  rw [Bool.and_eq_false_iff]; right
  rw [List.all_eq_false]
  exact ⟨fs[k], List.getElem_mem hk, by simpa [List.getD, hk] using h⟩
theorem okFacts_yes {n : Int} {fs : List (Int × Int)} (h : ∀ j, j < fs.length → okFact n (fs.getD j (0, 0)) = true) : okFacts n fs = (inB n 1 5 && decide (fs.length ≤ 20)) := by
  unfold okFacts
  have : fs.all (okFact n) = true := by
    rw [List.all_eq_true]
    intro x hx
    obtain ⟨j, hj, rfl⟩ := List.getElem_of_mem hx
    have := h j hj
    simpa [List.getD, hj] using this
  rw [this, Bool.and_true]

set_option maxRecDepth 100000 in
set_option maxHeartbeats 4000000 in
theorem l23Facts_any (a : Option Addr) (cap : Nat) (n : Int) (fs : List (Int × Int)) (w : World) (hbig : fs.length ≤ 9223372036854775807) (h : RecsAt w a fs) :
    Calls Try.prog 58 #[.int .i64 n, .slice a fs.length cap] w fun e w' => e = .returned (.bool (okFacts n fs)) ∧ Below w.heap.size w w' := by
  have H := Lib.hid h; clear h
  have H1 := Lib.hid (l1In_any n 1 5 w)
  cases h1 : inB n 1 5
  · have HE : Hid (okFacts n fs = false) := by show _ = _; simp [okFacts, h1]
    rw [HE.out]
    rw [h1] at H1
    clear h1
    go_enter Try.func58, Try.ntmps58
    go_wp2_with fail
    refine H1.out.mono ?_
    rintro e w1 ⟨rfl, rfl⟩
    go_wp2
    go_ret
    exact ⟨rfl, Below.refl _ _⟩
  · have hn : 1 ≤ n ∧ n ≤ 5 := by simpa [inB] using h1
    rw [h1] at H1
    have HI1 := Lib.hid h1
    clear h1
    by_cases hl : fs.length ≤ 20
    case neg =>
      have HE : Hid (okFacts n fs = false) := by show _ = _; simp [okFacts, hl]
      have h3 : decide ((20 : Int) < (fs.length : Int)) = true := by simp; omega
      rw [HE.out]
      clear hn
      go_enter Try.func58, Try.ntmps58
      go_wp2_with fail
      refine H1.out.mono ?_
      rintro e w1 ⟨rfl, rfl⟩
      go_wp2
      go_ret
      exact ⟨rfl, Below.refl _ _⟩
    have h3 : decide ((20 : Int) < (fs.length : Int)) = false := by simp; omega
    obtain ⟨hn1, hn5⟩ := hn
    go_enter Try.func58, Try.ntmps58
    go_wp2_with fail
    refine H1.out.mono ?_
    rintro e w1 ⟨rfl, rfl⟩
    go_wp2
    go_loopw [5] (fun i wr => ∃ k : Nat, k ≤ fs.length ∧ i = .int .i64 k ∧ (∀ j, j < k → okFact n (fs.getD j (0, 0)) = true) ∧ Below w.heap.size w wr) (fun i _ => fs.length - (intOf i).toNat)
    case atStart => exact ⟨0, by omega, rfl, by intro j h; omega, Below.refl _ _⟩
    case round =>
      obtain ⟨k, hk, rfl, hall, hb⟩ := hrel
      have HB := Lib.hid hb; clear hb
      have Hall := Lib.hid hall; clear hall
      by_cases hlt : k < fs.length
      case neg =>
        have h4 : decide ((k : Int) < (fs.length : Int)) = false := by simp; omega
        go_wp2
        go_ret
        exact ⟨ret_bool (by rw [okFacts_yes (fun j hj => Hall.out j (by omega)), HI1.out]; simp [hl]), HB.out⟩
      have h4 : decide ((k : Int) < (fs.length : Int)) = true := by simp; omega
      have h5 : (k : Int) < (fs.length : Int) := by omega
      have h6 : (0 : Int) ≤ (k : Int) := by omega
      obtain ⟨b, off, rfl, hc1, hc2⟩ := (H.out.below (Nat.le_refl _) HB.out).at hlt
      have HX : Hid (okFact n (fs.getD k (0, 0)) = (((fs.getD k (0, 0)).1 != (fs.getD k (0, 0)).2) && inB (fs.getD k (0, 0)).1 0 (n - 1) && inB (fs.getD k (0, 0)).2 0 (n - 1))) := rfl
      generalize (fs.getD k (0, 0)).1 = x at hc1 HX
      generalize (fs.getD k (0, 0)).2 = y at hc2 HX
      have HLT := Lib.hid hlt; clear hlt
      have HNO := Lib.hid (fun (hno : okFact n (fs.getD k (0, 0)) = false) => okFacts_no HLT.out hno)
      cases g1 : inB x 0 (n - 1)
      · have HQ : Hid (okFacts n fs = false) := by show _ = _; exact HNO.out (by rw [HX.out, g1]; simp)
        have HL1 := l1In_is (x := x) (lo := 0) (hi := n - 1) g1
        clear g1
        go_wp2_with fail
        go_quiet (first | (go_at_call 61; refine Calls.quiet_of_same (HL1.out _)))
        go_wp2
        go_ret
        exact ⟨ret_bool HQ.out.symm, below_drewN HB.out _⟩
      cases g2 : inB y 0 (n - 1)
      · have HQ : Hid (okFacts n fs = false) := by show _ = _; exact HNO.out (by rw [HX.out, g2]; simp)
        have HL1 := l1In_is (x := x) (lo := 0) (hi := n - 1) g1
        have HL2 := l1In_is (x := y) (lo := 0) (hi := n - 1) g2
        clear g1 g2
        go_wp2_with fail
        go_quiet (first | (go_at_call 61; with_reducible refine Calls.quiet_of_same (HL1.out _)) | (go_at_call 61; with_reducible refine Calls.quiet_of_same (HL2.out _)))
        go_wp2
        go_ret
        exact ⟨ret_bool HQ.out.symm, below_drewN HB.out _⟩
      have HL1 := l1In_is (x := x) (lo := 0) (hi := n - 1) g1
      have HL2 := l1In_is (x := y) (lo := 0) (hi := n - 1) g2
      cases g3 : (x == y)
      · have HQ : Hid (okFact n (fs.getD k (0, 0)) = true) := by show _ = _; rw [HX.out, g1, g2]; simp at g3; simp [g3]
        clear g1 g2
        go_wp2_with fail
        go_quiet (first | (go_at_call 61; with_reducible refine Calls.quiet_of_same (HL1.out _)) | (go_at_call 61; with_reducible refine Calls.quiet_of_same (HL2.out _)))
        go_wp2
        go_roundw
        case rel =>
          refine ⟨k + 1, by have := HLT.out; omega, by go_num, fun j hj => ?_, below_drewN HB.out _⟩
          rcases Nat.lt_succ_iff_lt_or_eq.1 hj with h | rfl
          · exact Hall.out j h
          · exact HQ.out
        case measure => have := HLT.out; simp [intOf] <;> omega
      · have HQ : Hid (okFacts n fs = false) := by show _ = _; exact HNO.out (by rw [HX.out]; simp at g3; simp [g3])
        clear g1 g2
        go_wp2_with fail
        go_quiet (first | (go_at_call 61; with_reducible refine Calls.quiet_of_same (HL1.out _)) | (go_at_call 61; with_reducible refine Calls.quiet_of_same (HL2.out _)))
        go_wp2
        go_ret
        exact ⟨ret_bool HQ.out.symm, below_drewN HB.out _⟩

end Go.Proofs.Ytkjmngdcfheojaa
