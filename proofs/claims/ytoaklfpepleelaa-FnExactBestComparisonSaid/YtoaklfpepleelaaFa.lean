/- Walks: facts: copies and comparisons. -/
import Derived.Test.YtoaklfpepleelaaKc
import Derived.Test.YtoaklfpepleelaaWt
import Derived.Test.YtoaklfpepleelaaWa
namespace Go.Proofs.Ytoaklfpepleelaa
open Go.RowKit
set_option linter.unusedVariables false

theorem Try.infoFact : (Try.prog.info? 60).map (fun i => (i.zero, i.size, i.bytes)) = some (some (.agg #[.int .i64 0, .int .i64 0]), 2, 16) := by kernel_rfl
theorem slFact : SlT Try.prog 26 60 (.agg #[.int .i64 0, .int .i64 0]) 2 16 := ⟨Try.underlying26, info_parts Try.infoFact, rfl, by decide, by decide⟩

set_option maxHeartbeats 400000 in
theorem toFact_any (k t : Int) (w : World) :
    Calls Try.prog 35 #[.agg #[.int .i64 k, .int .i64 t]] w fun e w' => e = .returned (.agg #[.int .i64 k, .int .i64 t]) ∧ Below w.heap.size w w' := by
  go_enter Try.func35, Try.ntmps35
  go_wp2
  refine bodyPost_ret (v := .agg #[.int .i64 k, .int .i64 t]) (by simp [results, Try.results35, go_sem]) rfl ⟨rfl, ?_⟩
  (repeat (first | exact Below.refl _ _ | assumption | refine Below.setCell ?_ (by first | omega | (simp; done) | (simp; omega)) _ | refine Below.alloc ?_ (by first | omega | (simp; done) | (simp; omega)) _ | refine Below.drew ?_ | refine below_drewN ?_ _))

set_option maxHeartbeats 400000 in
theorem szFactS_yes (a : Option Addr) (c : Nat) (rs : List (Int × Int)) (l : Int) (w : World) (h0 : -1 ≤ l) (h1 : l ≤ 1048576) (h : rs.length ≤ l) :
    Calls Try.prog 9 #[.slice a rs.length c, .int .i64 l] w fun e w' => e = .returned (.int .i64 (l - rs.length)) ∧ w = w' := by
  go_enter Try.func9, Try.ntmps9
  go_wp2
  go_ret
  exact ⟨rfl, rfl⟩

set_option maxHeartbeats 400000 in
theorem szFactS_no (a : Option Addr) (c : Nat) (rs : List (Int × Int)) (l : Int) (w : World) (hl : rs.length ≤ 9223372036854775807) (h1 : 0 ≤ l) (h2 : l ≤ 1048576) (h : l < rs.length) :
    Calls Try.prog 9 #[.slice a rs.length c, .int .i64 l] w fun e w' => e = .returned (.int .i64 (-1)) ∧ w = w' := by
  go_enter Try.func9, Try.ntmps9
  go_wp2
  go_ret
  exact ⟨rfl, rfl⟩

set_option maxHeartbeats 400000 in
theorem eqFact_any (k t k' t' : Int) (w : World) :
    Calls Try.prog 38 #[.agg #[.int .i64 k, .int .i64 t], .agg #[.int .i64 k', .int .i64 t']] w fun e w' => e = .returned (.bool (decide ((k, t) = (k', t')))) ∧ Below w.heap.size w w' := by
  by_cases h1 : k = k'
  · subst h1
    have e1 : (k != k) = false := by simp
    by_cases h2 : t = t'
    · subst h2
      have e2 : (t != t) = false := by simp
      go_enter Try.func38, Try.ntmps38
      go_wp2
      go_ret
      exact ⟨ret_bool (by simp), ((Below.refl _ _).alloc (Nat.le_refl _) _).alloc (by simp) _⟩
    · have e2 : (t != t') = true := by simpa using h2
      go_enter Try.func38, Try.ntmps38
      go_wp2
      go_ret
      exact ⟨ret_bool (by simp [h2]), ((Below.refl _ _).alloc (Nat.le_refl _) _).alloc (by simp) _⟩
  · have e1 : (k != k') = true := by simpa using h1
    go_enter Try.func38, Try.ntmps38
    go_wp2
    go_ret
    exact ⟨ret_bool (by simp [h1]), ((Below.refl _ _).alloc (Nat.le_refl _) _).alloc (by simp) _⟩

theorem ownFacts {w : World} {base : Nat} {a : Option Addr} {n c : Nat} {rs : List (Int × Int)} (h : w.ownsRow base 60 2 (.slice a n c) n (flat encR rs)) : RecsAt w a rs := recs_of_own h

set_option maxHeartbeats 800000 in
theorem toFactS_any (a : Option Addr) (cap : Nat) (zs : List (Int × Int)) (w : World) (hlen : zs.length ≤ 1048576) (h : RecsAt w a zs) :
    Calls Try.prog 11 #[.slice a zs.length cap] w fun e w' => e = .returned (.slice (some ⟨w.heap.size, 0, none⟩) zs.length zs.length) ∧
      w'.ownsRow w.heap.size 60 2 (.slice (some ⟨w.heap.size, 0, none⟩) zs.length zs.length) zs.length (flat encR zs) ∧ Below w.heap.size w w' := by
  have H := Lib.hid h; clear h
  go_enter Try.func11, Try.ntmps11
  go_wp2_with (at_make; refine wpList_mk slFact rfl _ _ rfl zs.length rfl rfl (by omega) ?_)
  intro w1 hown hb hsz
  have hown : w1.ownsRow w.heap.size 60 2 (.slice (some ⟨w.heap.size, 0, none⟩) zs.length zs.length) zs.length (flat encR (fillL zs.length 0 (fun j => zs.getD j (0, 0)) (0, 0))) := by
    rw [fillL_zero, ← made2 encR_len (0, 0) (.int .i64 0) (.int .i64 0) rfl]; exact hown
  have HO := Lib.hid hown; clear hown
  have HB := Lib.hid hb; clear hb hsz
  go_wp2
  go_loopw [4] (fun i wr => ∃ k : Nat, k ≤ zs.length ∧ i = .int .i64 k ∧ wr.ownsRow w.heap.size 60 2 (.slice (some ⟨w.heap.size, 0, none⟩) zs.length zs.length) zs.length (flat encR (fillL zs.length k (fun j => zs.getD j (0, 0)) (0, 0))) ∧ Below w.heap.size w wr) (fun i _ => zs.length - (intOf i).toNat)
  case atStart => exact ⟨0, by omega, rfl, HO.out, HB.out⟩
  case round =>
    obtain ⟨k, hk, rfl, hown, hb⟩ := hrel
    clear HO HB
    by_cases hlt : k < zs.length
    · obtain ⟨b, off, rfl, hc1, hc2⟩ := (H.out.below (Nat.le_refl _) hb).at hlt
      have HR : Hid (encR (zs.getD k (0, 0)) = [.int .i64 (zs.getD k (0, 0)).1, .int .i64 (zs.getD k (0, 0)).2]) := rfl
      have HF := Lib.hid (fillL_succ (fun j => zs.getD j (0, 0)) (0, 0) hlt)
      generalize hr : zs.getD k (0, 0) = r at hc1 hc2 HR HF
      have HZ := Lib.hid hr; clear hr
      obtain ⟨x, y⟩ := r
      have HOW := Lib.hid hown; clear hown
      have HB := Lib.hid hb; clear hb
      go_wp2_with fail
      refine (toFact_any x y _).mono ?_
      rintro e w2 ⟨rfl, hb2⟩
      have HO2 := Lib.hid (own_below HOW.out (Nat.le_refl _) hb2)
      have HB2 := Lib.hid (HB.out.trans (hb2.mono (HB.out.size)))
      clear hb2
      go_wp2_with (refine wpList_put slFact rfl (.tmp 21) (.tmp 20) rfl k rfl [.int .i64 x, .int .i64 y] rfl rfl (by simp [Value.oneCell']) HO2.out hlt ?_)
      intro w3 ho3 hg3
      have HB3 := Lib.hid (below_app HB2.out HB2.out.size HO2.out (Nat.le_refl _) hg3)
      have hq := flat_put encR_len _ k (by rw [fillL_length]; exact hlt : k < (fillL zs.length k (fun j => zs.getD j (0, 0)) (0, 0)).length) (x, y)
      rw [HF.out] at hq
      have ho4 : w3.ownsRow w.heap.size 60 2 (.slice (some ⟨w.heap.size, 0, none⟩) zs.length zs.length) zs.length (flat encR (fillL zs.length (k + 1) (fun j => zs.getD j (0, 0)) (0, 0))) := by
        rw [← hq]; simpa [encR] using ho3
      have HO3 := Lib.hid ho4; clear ho4
      clear ho3 hg3 hq
      go_wp2
      go_roundw
      case rel => exact ⟨k + 1, by omega, by go_num, HO3.out, HB3.out⟩
      case measure => simp [intOf]; omega
    · have e : k = zs.length := by omega
      subst e
      rw [fillL_end] at hown
      have HO := Lib.hid hown; clear hown
      have HB := Lib.hid hb; clear hb
      go_wp2
      go_ret
      exact ⟨rfl, HO.out, HB.out⟩

set_option maxRecDepth 100000 in
set_option maxHeartbeats 800000 in
theorem eqFactS_any (a a' : Option Addr) (cap cap' : Nat) (zs ys : List (Int × Int)) (w : World) (hlen : zs.length ≤ 9223372036854775807) (hlen' : ys.length ≤ 9223372036854775807) (h : RecsAt w a zs) (h' : RecsAt w a' ys) :
    Calls Try.prog 13 #[.slice a zs.length cap, .slice a' ys.length cap'] w fun e w' => e = .returned (.bool (decide (zs = ys))) ∧ Below w.heap.size w w' := by
  have H := Lib.hid h; clear h
  have H' := Lib.hid h'; clear h'
  by_cases hl : zs.length = ys.length
  · have HL := Lib.hid hl
    have hne : ((zs.length : Int) != (ys.length : Int)) = false := by rw [hl]; simp
    clear hl
    go_enter Try.func13, Try.ntmps13
    go_wp2
    go_loopw [5] (fun i wr => ∃ k : Nat, k ≤ zs.length ∧ i = .int .i64 k ∧ (∀ j, j < k → zs.getD j (0, 0) = ys.getD j (0, 0)) ∧ Below w.heap.size w wr) (fun i _ => zs.length - (intOf i).toNat)
    case atStart => exact ⟨0, by omega, rfl, by intro j h; omega, Below.refl _ _⟩
    case round =>
      obtain ⟨k, hk, rfl, hall, hb⟩ := hrel
      have HA := Lib.hid hall; clear hall
      have HB := Lib.hid hb; clear hb
      by_cases hlt : k < zs.length
      · obtain ⟨b, off, rfl, hc1, hc2⟩ := (H.out.below (Nat.le_refl _) HB.out).at hlt
        have hlt' : k < ys.length := by rw [← HL.out]; exact hlt
        obtain ⟨b', off', rfl, hc3, hc4⟩ := (H'.out.below (Nat.le_refl _) HB.out).at hlt'
        generalize hx : zs.getD k (0, 0) = x at hc1 hc2
        generalize hy : ys.getD k (0, 0) = y at hc3 hc4
        have HX := Lib.hid hx; clear hx
        have HY := Lib.hid hy; clear hy
        obtain ⟨x1, x2⟩ := x
        obtain ⟨y1, y2⟩ := y
        go_wp2_with fail
        go_still_tail 8, (by kernel_rfl)
        go_wp2_with fail
        refine (eqFact_any x1 x2 y1 y2 _).mono ?_
        rintro e w2 ⟨rfl, hb2⟩
        have HB2 := Lib.hid (HB.out.trans ((Below.refl _ _).drew.trans (hb2.mono HB.out.size)))
        clear hb2
        by_cases hxy : (x1, x2) = (y1, y2)
        · have hd : decide ((x1, x2) = (y1, y2)) = true := decide_eq_true hxy
          rw [hd]
          have HQ := Lib.hid hxy; clear hxy hd
          go_wp2
          go_roundw
          case rel =>
            refine ⟨k + 1, by omega, by go_num, fun j hj => ?_, HB2.out⟩
            rcases Nat.lt_succ_iff_lt_or_eq.1 hj with h | rfl
            · exact HA.out j h
            · rw [HX.out, HY.out, HQ.out]
          case measure => simp [intOf]; omega
        · have hd : decide ((x1, x2) = (y1, y2)) = false := decide_eq_false hxy
          rw [hd]
          have HQ := Lib.hid hxy; clear hxy hd
          go_wp2
          go_ret
          refine ⟨ret_bool ?_, HB2.out⟩
          symm; apply decide_eq_false
          intro e
          exact HQ.out (by rw [← HX.out, ← HY.out, e])
      · go_wp2
        go_ret
        refine ⟨ret_bool ?_, HB.out⟩
        symm; apply decide_eq_true
        apply List.ext_getElem HL.out
        intro j h1 h2
        have := HA.out j (by omega)
        simpa [List.getD, h1, h2] using this
  · have hne : ((zs.length : Int) != (ys.length : Int)) = true := by simpa using (by omega : ¬ (zs.length : Int) = ys.length)
    have HL := Lib.hid hl; clear hl
    go_enter Try.func13, Try.ntmps13
    go_wp2
    go_ret
    refine ⟨ret_bool ?_, Below.refl _ _⟩
    symm; apply decide_eq_false
    intro e
    exact HL.out (by rw [e])

end Go.Proofs.Ytoaklfpepleelaa
