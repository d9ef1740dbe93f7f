/- Walks: copies of integer lists; the comparison of two integer lists. -/
import Derived.Test.YtoaklfpepleelaaWt0
namespace Go.Proofs.Ytoaklfpepleelaa
open Go.RowKit
set_option linter.unusedVariables false

theorem Try.infoInt : (Try.prog.info? 3).map (fun i => (i.zero, i.size, i.bytes)) = some (some (.int .i64 0), 1, 8) := by kernel_rfl

set_option maxHeartbeats 400000 in
theorem toIntS_any (a : Option Addr) (cap : Nat) (zs : List Int) (w : World) (hlen : zs.length ≤ 1048576) (h : IntsAt w a zs) :
    Calls Try.prog 24 #[.slice a zs.length cap] w fun e w' => e = .returned (.slice (some ⟨w.heap.size, 0, none⟩) zs.length zs.length) ∧
      w'.ownsRow w.heap.size 3 1 (.slice (some ⟨w.heap.size, 0, none⟩) zs.length zs.length) zs.length (zs.map (Value.int .i64)) ∧ Below w.heap.size w w' := by
  have H := Lib.hid h; clear h
  obtain ⟨i0, hi, hz0, hz1, hz2⟩ := info_parts Try.infoInt
  have HI := Lib.hid hi; clear hi
  have H0 := Lib.hid hz0; clear hz0
  have H1 := Lib.hid hz1; clear hz1
  have h2 := Lib.hid hz2; clear hz2
  go_enter Try.func24, Try.ntmps24
  go_wp2_with (at_make; refine wpList_make_full _ rfl _ _ 42 rfl w.heap.size 3 i0 (.int .i64 0) 1 Try.underlying42 HI.out H0.out H1.out _ _ _ _ zs.length rfl rfl rfl rfl ?c1 ?c2 ?c3 ?_)
  case c1 => rw [h2.out]; omega
  case c2 => unfold maxLen; omega
  case c3 => exact Nat.le_refl _
  intro w1 hown hgrow
  have hown : w1.ownsRow w.heap.size 3 1 (.slice (some ⟨w.heap.size, 0, none⟩) zs.length zs.length) zs.length (cpK zs 0) := by
    rw [cpK_zero]; rw [← toList_madeCells_one]; simpa [Value.cells] using hown
  have hb : Below w.heap.size w w1 := (Below.refl _ _).grown hgrow (Nat.le_refl _) (fun k hk => by cases hk)
  have HO := Lib.hid hown; clear hown
  have HB := Lib.hid hb; clear hb hgrow
  go_wp2
  go_loopw [4] (fun i wr => ∃ k : Nat, k ≤ zs.length ∧ i = .int .i64 k ∧ wr.ownsRow w.heap.size 3 1 (.slice (some ⟨w.heap.size, 0, none⟩) zs.length zs.length) zs.length (cpK zs k) ∧ Below w.heap.size w wr) (fun i _ => zs.length - (intOf i).toNat)
  case atStart => exact ⟨0, by omega, rfl, HO.out, HB.out⟩
  case round =>
    obtain ⟨k, hk, rfl, hown, hb⟩ := hrel
    clear HO HB
    by_cases hlt : k < zs.length
    · have hc1 := hown.cellAt k (by omega)
      rw [List.getElem?_eq_getElem (by rw [cpK_length]; exact hlt)] at hc1
      have hf1 := hown.frozenAt k
      have R := hown.stored k (.int .i64 (zs.getD k 0))
      rw [cpK_succ hlt] at R
      obtain ⟨b, off, rfl, hcell⟩ := (H.out.below (Nat.le_refl _) hb).at hlt
      have hb2 := hb.setCell (p := ⟨w.heap.size, k, none⟩) (Nat.le_refl _) (.int .i64 (zs.getD k 0))
      generalize hx : zs.getD k 0 = x at hcell R hb2
      have HR := Lib.hid R.1; clear R
      have HB := Lib.hid hb2; clear hb2 hb hown hx
      go_wp2
      go_roundw
      case rel => exact ⟨k + 1, by omega, by go_num, HR.out, HB.out⟩
      case measure => simp [intOf]; omega
    · have e : k = zs.length := by omega
      subst e
      rw [cpK_end] at hown
      have HO := Lib.hid hown; clear hown
      have HB := Lib.hid hb; clear hb
      go_wp2
      go_ret
      exact ⟨rfl, HO.out, HB.out⟩

set_option maxHeartbeats 400000 in
theorem eqIntS_any (a a' : Option Addr) (cap cap' : Nat) (zs ys : List Int) (w : World) (hlen : zs.length ≤ 9223372036854775807) (hlen' : ys.length ≤ 9223372036854775807) (h : IntsAt w a zs) (h' : IntsAt w a' ys) :
    Calls Try.prog 26 #[.slice a zs.length cap, .slice a' ys.length cap'] w fun e w' => e = .returned (.bool (decide (zs = ys))) ∧ Below w.heap.size w w' := by
  have H := Lib.hid h; clear h
  have H' := Lib.hid h'; clear h'
  by_cases hl : zs.length = ys.length
  · have HL := Lib.hid hl
    have hne : ((zs.length : Int) != (ys.length : Int)) = false := by rw [hl]; simp
    clear hl
    go_enter Try.func26, Try.ntmps26
    go_wp2
    go_loopw [5] (fun i wr => ∃ k : Nat, k ≤ zs.length ∧ i = .int .i64 k ∧ (∀ j, j < k → zs.getD j 0 = ys.getD j 0) ∧ Below w.heap.size w wr) (fun i _ => zs.length - (intOf i).toNat)
    case atStart => exact ⟨0, by omega, rfl, by intro j h; omega, Below.refl _ _⟩
    case round =>
      obtain ⟨k, hk, rfl, hall, hb⟩ := hrel
      have HA := Lib.hid hall; clear hall
      have HB := Lib.hid hb; clear hb
      by_cases hlt : k < zs.length
      · obtain ⟨b, off, rfl, hc1⟩ := (H.out.below (Nat.le_refl _) HB.out).at hlt
        have hlt' : k < ys.length := by rw [← HL.out]; exact hlt
        obtain ⟨b', off', rfl, hc2⟩ := (H'.out.below (Nat.le_refl _) HB.out).at hlt'
        generalize hx : zs.getD k 0 = x at hc1
        generalize hy : ys.getD k 0 = y at hc2
        have HX := Lib.hid hx; clear hx
        have HY := Lib.hid hy; clear hy
        by_cases hxy : x = y
        · have hq : (x != y) = false := by rw [hxy]; simp
          have HQ := Lib.hid hxy; clear hxy
          go_wp2_with fail
          go_quiet (fail)
          go_wp2
          go_roundw
          case rel =>
            refine ⟨k + 1, by omega, by go_num, fun j hj => ?_, below_drewN HB.out _⟩
            rcases Nat.lt_succ_iff_lt_or_eq.1 hj with h | rfl
            · exact HA.out j h
            · rw [HX.out, HY.out, HQ.out]
          case measure => simp [intOf]; omega
        · have hq : (x != y) = true := by simpa using hxy
          have HQ := Lib.hid hxy; clear hxy
          go_wp2_with fail
          go_quiet (fail)
          go_wp2
          go_ret
          refine ⟨ret_bool ?_, below_drewN HB.out _⟩
          symm; apply decide_eq_false
          intro e
          exact HQ.out (by rw [← HX.out, ← HY.out, e])
      · go_wp2
        go_ret
        refine ⟨ret_bool ?_, HB.out⟩
        symm; apply decide_eq_true
        apply List.ext_getElem HL.out
        intro j h1 h2
        have := HA.out j (by omega)
        simpa [List.getD, h1, h2] using this
  · have hne : ((zs.length : Int) != (ys.length : Int)) = true := by simpa using (by omega : ¬ (zs.length : Int) = ys.length)
    have HL := Lib.hid hl; clear hl
    go_enter Try.func26, Try.ntmps26
    go_wp2
    go_ret
    refine ⟨ret_bool ?_, Below.refl _ _⟩
    symm; apply decide_eq_false
    intro e
    exact HL.out (by rw [e])

theorem ownInts {w : World} {base : Nat} {a : Option Addr} {n c : Nat} {zs : List Int} (h : w.ownsRow base 3 1 (.slice a n c) n (zs.map (Value.int .i64))) : IntsAt w a zs := ints_of_own h

theorem slInt : SlT Try.prog 42 3 (.int .i64 0) 1 8 := ⟨Try.underlying42, info_parts Try.infoInt, rfl, by decide, by decide⟩

end Go.Proofs.Ytoaklfpepleelaa
