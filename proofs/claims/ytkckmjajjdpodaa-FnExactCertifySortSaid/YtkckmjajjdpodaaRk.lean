/- Walks: marks, comparisons and what is held, of ints and of records. -/
import Derived.Test.YtkckmjajjdpodaaRj
namespace Go.Proofs.Ytkckmjajjdpodaa
open Go.RowKit Go.Sort
set_option linter.unusedVariables false


set_option maxHeartbeats 400000 in
theorem markIntS_any (B : Nat) (a : Option Addr) (c n : Nat) (xs : List Value) (k : Int) (w : World) (hn : n ≤ 1048576) (hk0 : 0 ≤ k) (hk1 : k ≤ 1099511627776) (h : w.ownsRow B 3 1 (.slice a n c) n xs) :
    Calls Try.prog 34 #[.slice a n c, .int .i64 k] w fun e w' => e = .returned (.int .i64 (k + n)) ∧ (∃ ys, w'.ownsRow B 3 1 (.slice a n c) n ys) ∧ w.grownBy w' (Value.slice a n c).ownBlock := by
  have H := Lib.hid h; clear h
  go_enter Try.func34, Try.ntmps34
  go_wp2
  go_loopw [1, 5] (fun v i wr => ∃ j : Nat, j ≤ n ∧ i = .int .i64 j ∧ v = .int .i64 (k + j) ∧ (∃ ys, wr.ownsRow B 3 1 (.slice a n c) n ys) ∧ w.grownBy wr (Value.slice a n c).ownBlock) (fun _ i _ => n - (intOf i).toNat)
  case atStart => exact ⟨0, by omega, rfl, by simp, ⟨xs, H.out⟩, grown_refl _ _⟩
  case round =>
    obtain ⟨j, hj, rfl, rfl, ⟨ys, hown⟩, hg⟩ := hrel
    by_cases hlt : j < n
    · obtain ⟨g, rfl, _, _, hc⟩ := own_cell hown (by omega)
      have hq1 := hc j (by omega)
      obtain ⟨z, hc1⟩ : ∃ z, wr.cell? ⟨g, j, none⟩ = some z := ⟨_, by rw [hq1, List.getElem?_eq_getElem (by rw [hown.1]; omega)]⟩
      clear hq1
      have hf1 := hown.frozenAt j
      have HR := Lib.hid (hown.stored j (.int .i64 (k + j)))
      have HG := Lib.hid hg
      clear hc hown hg
      go_wp2
      go_roundw
      case rel => exact ⟨j + 1, by omega, by go_num, by go_num, ⟨_, HR.out.1⟩, grown_trans HG.out HR.out.2⟩
      case measure => simp [intOf]; omega
    · have e : j = n := by omega
      subst e
      have HO := Lib.hid hown
      have HG := Lib.hid hg
      clear hown hg
      go_wp2
      go_ret
      exact ⟨rfl, ⟨_, HO.out⟩, HG.out⟩

set_option maxHeartbeats 400000 in
theorem markRecordS_any (B : Nat) (a : Option Addr) (c : Nat) (rs : List (Int × Int)) (k : Int) (w : World) (hn : rs.length ≤ 1048576) (hk0 : 0 ≤ k) (hk1 : k ≤ 1099511627776) (h : w.ownsRow B 72 2 (.slice a rs.length c) rs.length (flat encR rs)) :
    Calls Try.prog 33 #[.slice a rs.length c, .int .i64 k] w fun e w' => e = .returned (.int .i64 (k + 2 * (rs.length : Int))) ∧ w'.ownsRow B 72 2 (.slice a rs.length c) rs.length (flat encR (mkR rs k rs.length)) ∧ w.grownBy w' (Value.slice a rs.length c).ownBlock := by
  have H := Lib.hid h; clear h
  go_enter Try.func33, Try.ntmps33
  go_wp2
  go_loopw [1, 5] (fun v i wr => ∃ j : Nat, j ≤ rs.length ∧ i = .int .i64 j ∧ v = .int .i64 (k + 2 * (j : Int)) ∧ wr.ownsRow B 72 2 (.slice a rs.length c) rs.length (flat encR (mkR rs k j)) ∧ w.grownBy wr (Value.slice a rs.length c).ownBlock) (fun _ i _ => rs.length - (intOf i).toNat)
  case atStart => exact ⟨0, by omega, rfl, by simp, by rw [mkR_zero]; exact H.out, grown_refl _ _⟩
  case round =>
    obtain ⟨j, hj, rfl, rfl, hown, hg⟩ := hrel
    by_cases hlt : j < rs.length
    · obtain ⟨g, rfl, _, _, hc⟩ := own_cell hown (by omega)
      have hL : (flat encR (mkR rs k j)).length = rs.length * 2 := by rw [flat_length encR_len, mkR_len]
      have hq1 := hc (j * 2) (by omega)
      obtain ⟨z, hc1⟩ : ∃ z, wr.cell? ⟨g, j * 2, none⟩ = some z := ⟨_, by rw [hq1, List.getElem?_eq_getElem (by omega)]⟩
      clear hq1
      have hf1 := hown.frozenAt (j * 2)
      have R1 := hown.stored (j * 2) (.int .i64 (k + 2 * (j : Int)))
      have hq2 := R1.1.cellAt (j * 2 + 1) (by omega)
      obtain ⟨z2, hc2⟩ : ∃ z2, (wr.setCell ⟨g, j * 2, none⟩ (.int .i64 (k + 2 * (j : Int)))).cell? ⟨g, j * 2 + 1, none⟩ = some z2 := ⟨_, by rw [hq2, List.getElem?_eq_getElem (by rw [List.length_set]; omega)]⟩
      clear hq2
      have hf2 := R1.1.frozenAt (j * 2 + 1)
      have R2 := R1.1.stored (j * 2 + 1) (.int .i64 (k + 2 * (j : Int) + 1))
      rw [flat_set2 encR_len _ j (by rw [mkR_len]; exact hlt) (k + 2 * (j : Int), k + 2 * (j : Int) + 1) _ _ rfl, mkR_succ hlt] at R2
      have HR := Lib.hid R2
      have HG := Lib.hid (grown_trans (grown_trans hg R1.2) R2.2)
      clear hc hown hg R1 R2 hL
      go_wp2
      go_roundw
      case rel => exact ⟨j + 1, by omega, by go_num, by go_num, HR.out.1, HG.out⟩
      case measure => simp [intOf]; omega
    · have e : j = rs.length := by omega
      subst e
      have HO := Lib.hid hown
      have HG := Lib.hid hg
      clear hown hg
      go_wp2
      go_ret
      exact ⟨rfl, HO.out, HG.out⟩

set_option maxHeartbeats 400000 in
theorem eqIntS_any (a a' : Option Addr) (cap cap' : Nat) (zs ys : List Int) (w : World) (hlen : zs.length ≤ 9223372036854775807) (hlen' : ys.length ≤ 9223372036854775807) (h : IntsAt w a zs) (h' : IntsAt w a' ys) :
    Calls Try.prog 31 #[.slice a zs.length cap, .slice a' ys.length cap'] w fun e w' => e = .returned (.bool (decide (zs = ys))) ∧ Below w.heap.size w w' := by
  have H := Lib.hid h; clear h
  have H' := Lib.hid h'; clear h'
  by_cases hl : zs.length = ys.length
  · have HL := Lib.hid hl
    have hne : ((zs.length : Int) != (ys.length : Int)) = false := by rw [hl]; simp
    clear hl
    go_enter Try.func31, Try.ntmps31
    go_wp2
    go_loopw [5] (fun i wr => ∃ k : Nat, k ≤ zs.length ∧ i = .int .i64 k ∧ (∀ j, j < k → zs.getD j 0 = ys.getD j 0) ∧ Below w.heap.size w wr) (fun i _ => zs.length - (intOf i).toNat)
    case atStart => exact ⟨0, by omega, rfl, by intro j h; omega, Below.refl _ _⟩
    case round =>
      obtain ⟨k, hk, rfl, hall, hb⟩ := hrel
      have HA := Lib.hid hall; clear hall
      have HB := Lib.hid hb; clear hb
      by_cases hlt : k < zs.length
      · obtain ⟨b, off, rfl, hc1⟩ := (H.out.below (Nat.le_refl _) HB.out).at hlt
        have hlt' : k < ys.length := by rw [← HL.out]; exact hlt
        obtain ⟨b', off', rfl, hc2⟩ := (H'.out.below (Nat.le_refl _) HB.out).at hlt'
        generalize hx : zs.getD k 0 = x at hc1
        generalize hy : ys.getD k 0 = y at hc2
        have HX := Lib.hid hx; clear hx
        have HY := Lib.hid hy; clear hy
        by_cases hxy : x = y
        · have hq : (x != y) = false := by rw [hxy]; simp
          have HQ := Lib.hid hxy; clear hxy
          go_wp2_with fail
          go_quiet (fail)
          go_wp2
          go_roundw
          case rel =>
            refine ⟨k + 1, by omega, by go_num, fun j hj => ?_, below_drewN HB.out _⟩
            rcases Nat.lt_succ_iff_lt_or_eq.1 hj with h | rfl
            · exact HA.out j h
            · rw [HX.out, HY.out, HQ.out]
          case measure => simp [intOf]; omega
        · have hq : (x != y) = true := by simpa using hxy
          have HQ := Lib.hid hxy; clear hxy
          go_wp2_with fail
          go_quiet (fail)
          go_wp2
          go_ret
          refine ⟨ret_bool ?_, below_drewN HB.out _⟩
          symm; apply decide_eq_false
          intro e
          exact HQ.out (by rw [← HX.out, ← HY.out, e])
      · go_wp2
        go_ret
        refine ⟨ret_bool ?_, HB.out⟩
        symm; apply decide_eq_true
        apply List.ext_getElem HL.out
        intro j h1 h2
        have := HA.out j (by omega)
        simpa [List.getD, h1, h2] using this
  · have hne : ((zs.length : Int) != (ys.length : Int)) = true := by simpa using (by omega : ¬ (zs.length : Int) = ys.length)
    have HL := Lib.hid hl; clear hl
    go_enter Try.func31, Try.ntmps31
    go_wp2
    go_ret
    refine ⟨ret_bool ?_, Below.refl _ _⟩
    symm; apply decide_eq_false
    intro e
    exact HL.out (by rw [e])

set_option maxHeartbeats 400000 in
theorem heldIntS_any (a : Option Addr) (c n : Nat) (xs : List Int) (k : Int) (w : World) (hn : n ≤ 1048576) (hk0 : 0 ≤ k) (hk1 : k ≤ 1099511627776) (hl : xs.length = n) (h : IntsAt w a xs) (hm : ∀ j, j < n → xs.getD j 0 = k + (j : Int)) :
    Calls Try.prog 35 #[.slice a n c, .int .i64 k] w fun e w' => e = .returned (.int .i64 (k + (n : Int))) ∧ w = w' := by
  have H := Lib.hid h; clear h
  have HM := Lib.hid hm; clear hm
  have HL := Lib.hid hl; clear hl
  go_enter Try.func35, Try.ntmps35
  go_wp2
  go_loop [1, 5] (fun v i => ∃ j : Nat, j ≤ n ∧ i = .int .i64 j ∧ v = .int .i64 (k + (j : Int))) (fun _ i => n - (intOf i).toNat)
  case atStart => exact ⟨0, by omega, rfl, by simp⟩
  case round =>
    obtain ⟨j, hj, rfl, rfl⟩ := hrel
    by_cases hlt : j < n
    · obtain ⟨b, off, rfl, hc1⟩ := H.out.at (show j < xs.length by rw [HL.out]; exact hlt)
      rw [HM.out j hlt] at hc1
      have q1 : ((k + (j : Int)) != (k + (j : Int))) = false := by simp
      go_wp2
      go_round
      case rel => exact ⟨j + 1, by omega, by go_num, by go_num⟩
      case measure => simp [intOf]; omega
    · have e : j = n := by omega
      subst e
      go_wp2
      go_ret
      exact ⟨rfl, rfl⟩

/-- Marked: what 'markIntS' leaves. -/
def mkI (n : Nat) (k : Int) (xs : List Int) (j : Nat) : List Int := (List.range n).map fun i : Nat => if i < j then k + (i : Int) else xs.getD i 0
theorem mkI_len (n : Nat) (k : Int) (xs : List Int) (j : Nat) : (mkI n k xs j).length = n := by simp [mkI]
theorem mkI_at {n j i : Nat} {k : Int} {xs : List Int} (h : i < n) : (mkI n k xs j).getD i 0 = if i < j then k + (i : Int) else xs.getD i 0 := by
  unfold mkI
  rw [List.getD_eq_getElem?_getD, List.getElem?_map, List.getElem?_range h]; rfl
theorem mkI_zero {n : Nat} {k : Int} {xs : List Int} (h : xs.length = n) : mkI n k xs 0 = xs := by
  refine List.ext_getElem (by rw [mkI_len, h]) fun i h1 h2 => ?_
  have := mkI_at (k := k) (xs := xs) (j := 0) (show i < n by rw [mkI_len] at h1; exact h1)
  rw [List.getD_eq_getElem?_getD, List.getElem?_eq_getElem h1, if_neg (by omega), List.getD_eq_getElem?_getD, List.getElem?_eq_getElem h2] at this
  exact this
theorem mkI_succ {n j : Nat} {k : Int} {xs : List Int} (h : j < n) : (mkI n k xs j).set j (k + (j : Int)) = mkI n k xs (j + 1) := by
  refine List.ext_getElem (by rw [List.length_set, mkI_len, mkI_len]) fun i h1 h2 => ?_
  have hi : i < n := by rw [mkI_len] at h2; exact h2
  have e1 := mkI_at (k := k) (xs := xs) (j := j) hi
  have e2 := mkI_at (k := k) (xs := xs) (j := j + 1) hi
  rw [List.getD_eq_getElem?_getD, List.getElem?_eq_getElem h2] at e2
  rw [List.getD_eq_getElem?_getD, List.getElem?_eq_getElem (by rw [mkI_len]; exact hi)] at e1
  rw [List.getElem_set]
  have e1 : (mkI n k xs j)[i]'(by rw [mkI_len]; exact hi) = _ := e1
  have e2 : (mkI n k xs (j + 1))[i] = _ := e2
  rw [e2]
  split
  · rename_i h; subst h; rw [if_pos (by omega)]
  · rw [e1]
    by_cases hij : i < j
    · rw [if_pos hij, if_pos (by omega)]
    · rw [if_neg hij, if_neg (by omega)]

set_option maxHeartbeats 400000 in
theorem markIntS_at (B : Nat) (a : Option Addr) (c n : Nat) (xs : List Int) (k : Int) (w : World) (hn : n ≤ 1048576) (hk0 : 0 ≤ k) (hk1 : k ≤ 1099511627776) (hl : xs.length = n) (h : w.ownsRow B 3 1 (.slice a n c) n (xs.map (Value.int .i64))) :
    Calls Try.prog 34 #[.slice a n c, .int .i64 k] w fun e w' => e = .returned (.int .i64 (k + n)) ∧ w'.ownsRow B 3 1 (.slice a n c) n ((mkI n k xs n).map (Value.int .i64)) ∧ w.grownBy w' (Value.slice a n c).ownBlock := by
  have HZ : Hid (mkI n k xs 0 = xs) := mkI_zero hl
  have HS := Lib.hid (fun j (hj : j < n) => mkI_succ (k := k) (xs := xs) hj)
  have HLN := Lib.hid (fun j => mkI_len n k xs j)
  rw [← HZ.out] at h
  have H := Lib.hid h; clear h
  go_enter Try.func34, Try.ntmps34
  go_wp2
  go_loopw [1, 5] (fun v i wr => ∃ j : Nat, j ≤ n ∧ i = .int .i64 j ∧ v = .int .i64 (k + j) ∧ wr.ownsRow B 3 1 (.slice a n c) n ((mkI n k xs j).map (Value.int .i64)) ∧ w.grownBy wr (Value.slice a n c).ownBlock) (fun _ i _ => n - (intOf i).toNat)
  case atStart => exact ⟨0, by omega, rfl, by simp, H.out, grown_refl _ _⟩
  case round =>
    obtain ⟨j, hj, rfl, rfl, hown, hg⟩ := hrel
    by_cases hlt : j < n
    · obtain ⟨g, rfl, _, _, hc⟩ := own_cell hown (by omega)
      have hq1 := hc j (by omega)
      obtain ⟨z, hc1⟩ : ∃ z, wr.cell? ⟨g, j, none⟩ = some z := ⟨_, by rw [hq1, List.getElem?_eq_getElem (by rw [hown.1]; omega)]⟩
      clear hq1
      have hf1 := hown.frozenAt j
      have hst := hown.stored j (.int .i64 (k + j))
      rw [← List.map_set, HS.out j hlt] at hst
      have HR := Lib.hid hst
      have HG := Lib.hid hg
      clear hc hown hg hst
      go_wp2
      go_roundw
      case rel => exact ⟨j + 1, by omega, by go_num, by go_num, HR.out.1, grown_trans HG.out HR.out.2⟩
      case measure => simp [intOf]; omega
    · have e : j = n := by omega
      subst e
      have HO := Lib.hid hown
      have HG := Lib.hid hg
      clear hown hg
      go_wp2
      go_ret
      exact ⟨rfl, HO.out, HG.out⟩

end Go.Proofs.Ytkckmjajjdpodaa
