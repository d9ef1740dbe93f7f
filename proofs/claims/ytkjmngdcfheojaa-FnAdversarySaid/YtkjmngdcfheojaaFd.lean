/- Walks: all permutations, one after the other, handed to a function value. -/
import Derived.Test.YtkjmngdcfheojaaFc
import Derived.Deep.LoopGhost
namespace Go.Proofs.Ytkjmngdcfheojaa
open Go.RowKit Go.Sort
set_option linter.unusedVariables false

theorem first_succ (k : Nat) : Pm.first (k + 1) = Pm.first k ++ [(k : Int)] := by simp [Pm.first, List.range_succ]
theorem first_len (k : Nat) : (Pm.first k).length = k := by simp [Pm.first]

/-- What a function value does with the permutations of n items: 'I k' holds behind the first k of them; 'J' where it has said no. It writes block 'row' alone of what was there. -/
def Yields (w0 : World) (n : Nat) (hv : Value) (row : Option Nat) (I : Nat → World → Prop) (J : World → Prop) : Prop :=
  ∃ G cp, hv = .func (.func G) #[] cp ∧ (∀ args w, (callFunc G args).run Try.prog w = .ok (.enter G args) w) ∧
    ∀ (k : Nat) (p : List Int) (W : World) (x : Addr) (c : Nat), (Pm.allP n)[k]? = some p → I k W → w0.heap.size ≤ W.heap.size → w0.heap.size ≤ x.block → IntsAt W (some x) p →
      Calls Try.prog G (#[.slice (some x) n c] ++ cp) W fun e W' => ∃ b : Bool, e = .returned (.bool b) ∧ W.grownBy W' row ∧ (b = true → I (k + 1) W') ∧ (b = false → J W')

set_option maxRecDepth 100000 in
set_option maxHeartbeats 4000000 in
theorem permutations_any (m : Nat) (hm : m + 1 ≤ 5) (hv : Value) (row : Option Nat) (I : Nat → World → Prop) (J : World → Prop) (w : World) (hr : ∀ b, row = some b → b < w.heap.size)
    (hI : ∀ k W W' g, w.heap.size ≤ g → I k W → W.grownBy W' (some g) → I k W') (h0 : ∀ W, Below w.heap.size w W → I 0 W)
    (hy : Yields w (m + 1) hv row I J) :
    Calls Try.prog 111 #[.int .i64 ((m : Int) + 1), hv] w fun e w' => e = .returned (.tuple #[]) ∧ w.grownBy w' row ∧ (I (Pm.allP (m + 1)).length w' ∨ J w') := by
  obtain ⟨G, cp, rfl, hcall, hy⟩ := hy
  have E0 := Lib.hid (own_lit (w := w) (e := 3) (size := 1) #[] 0 (by omega) rfl)
  have B0 := Lib.hid (show Below w.heap.size w (w.alloc (.cells #[] 3)) from (Below.refl _ _).alloc (Nat.le_refl _) _)
  have HY := Lib.hid hy; have HI := Lib.hid hI; have H0 := Lib.hid h0; have HR := Lib.hid hr
  clear hy hI h0 hr
  go_enter Try.func111, Try.ntmps111
  go_wp2
  go_loopw [4, 5, 8] (fun v _ i wr => ∃ k : Nat, k ≤ m + 1 ∧ i = .int .i64 k ∧ wr.ownsRow w.heap.size 3 1 v k ((Pm.first k).map (Value.int .i64)) ∧ Below w.heap.size w wr) (fun _ _ i _ => m + 1 - (intOf i).toNat)
  case atStart => exact ⟨0, by omega, rfl, E0.out, B0.out⟩
  case round =>
    obtain ⟨k, hk, rfl, hown, hb⟩ := hrel
    obtain ⟨a', c', rfl⟩ := own_slice hown
    have HO := Lib.hid hown; have HB := Lib.hid hb
    clear hown hb E0 B0
    by_cases hlt : k < m + 1
    · have h3 : decide ((k : Int) < (m : Int) + 1) = true := by simp; omega
      have hn40 : k + 1 ≤ 1099511627776 := by omega
      have hbs := HB.out.size
      go_wp2_with (at_builtin; refine wpList_app1 slInt rfl _ _ rfl rfl HO.out [.int .i64 k] rfl rfl (by simp) (by simp [Value.oneCell']) hn40 hbs ?_; intro v' w2 hown' hg ht)
      have HO4 := Lib.hid hown'
      have HB4 := Lib.hid (below_app HB.out hbs HO.out (Nat.le_refl _) hg)
      clear hown' hg ht
      go_wp2
      go_roundw
      case rel => exact ⟨k + 1, by omega, by go_num, by rw [first_succ, List.map_append]; exact HO4.out, HB4.out⟩
      case measure => simp [intOf] <;> omega
    · obtain rfl : k = m + 1 := by omega
      have h3 : decide ((((m + 1 : Nat)) : Int) < (m : Int) + 1) = false := by simp
      obtain ⟨g, rfl, hg1, hg2, _⟩ := own_cell HO.out (by omega)
      have HI0 := Lib.hid (H0.out wr HB.out)
      have HG0 := Lib.hid (show w.grownBy wr row from grown_of_below HB.out)
      have HPF := Lib.hid (Pm.allP_first (n := m + 1) (by omega) hm)
      have HNX := Lib.hid (fun k p => Pm.allP_next (n := m + 1) (by omega) hm (k := k) (p := p))
      have HPO := Lib.hid (fun p => Pm.allP_ok (n := m + 1) (by omega) hm (p := p))
      clear HB hk
      go_wp2
      go_loopg [] (Pm.allP (m + 1)).length (fun mm wq => ∃ (k : Nat) (p : List Int), (Pm.allP (m + 1))[k]? = some p ∧ mm + k = (Pm.allP (m + 1)).length ∧ I k wq ∧ w.grownBy wq row ∧
        wq.ownsRow w.heap.size 3 1 (.slice (some ⟨g, 0, none⟩) (m + 1) c') (m + 1) (p.map (Value.int .i64)))
      case atStart => exact ⟨0, _, HPF.out, by omega, HI0.out, HG0.out, HO.out⟩
      case round =>
        obtain ⟨k, p, hkp, hmm, hik, hgr, ho⟩ := hrel
        have HKP := Lib.hid hkp; have HMM := Lib.hid hmm; have HO5 := Lib.hid ho; have HGR := Lib.hid hgr
        have hnp := HPO.out p (List.mem_of_getElem? hkp)
        have hkl : k < (Pm.allP (m + 1)).length := (List.getElem?_eq_some_iff.1 hkp).1
        have HPL : Hid (p.length = m + 1) := hnp.1
        have HYC := Lib.hid (HY.out k p wr ⟨g, 0, none⟩ c' hkp hik hgr.size hg1 (ints_of_own ho))
        have hcall := hcall (#[.slice (some ⟨g, 0, none⟩) (m + 1) c'] ++ cp)
        have HKL := Lib.hid hkl
        clear hnp hkp hmm hik hgr ho hkl HY HO
        go_wp2_with fail
        refine HYC.out.mono ?_
        rintro e w3 ⟨b, rfl, hg3, hi3, hj3⟩
        have HO6 := Lib.hid (own_other HO5.out hg3 (fun k hk => by
          injection hk with hk
          intro e
          have := HR.out _ e
          have h2 : g = k := hk
          omega))
        have HG6 := Lib.hid (grown_trans HGR.out hg3)
        cases b
        · have HJ3 := Lib.hid (hj3 rfl)
          clear hg3 hi3 hj3
          go_wp2_with fail
          go_end0
          exact ⟨rfl, HG6.out, .inr HJ3.out⟩
        · have HI3 := Lib.hid (hi3 rfl)
          have HNP := Lib.hid (nextPermutation_any w.heap.size g c' m p w3 HPL.out (by omega) HO6.out)
          have HN1 := Lib.hid (HNX.out k p HKP.out)
          clear hg3 hi3 hj3
          go_wp2_with fail
          refine HNP.out.mono ?_
          rintro e w4 ⟨rfl, ho4, hg4⟩
          have HI4 := Lib.hid (HI.out _ _ _ g hg1 HI3.out hg4)
          have HG7 := Lib.hid (show w.grownBy w4 row from ⟨hg4.os.trans HG6.out.os, hg4.tape.trans HG6.out.tape, hg4.output.trans HG6.out.output, Nat.le_trans HG6.out.size hg4.size, fun q hq hne => (hg4.block q (Nat.lt_of_lt_of_le hq HG6.out.size) (fun e => by injection e with e; omega)).trans (HG6.out.block q hq hne)⟩)
          have HO7 := Lib.hid ho4
          clear ho4 hg4
          rw [HN1.out] at HO7
          rw [HN1.out]
          cases hnx : (Pm.allP (m + 1))[k + 1]? with
          | none =>
            rw [hnx] at HO7
            have hkl2 : k + 1 = (Pm.allP (m + 1)).length := by
              have := List.getElem?_eq_none_iff.1 hnx
              have := HKL.out
              omega
            rw [hkl2] at HI4
            clear hnx
            go_wp2_with fail
            go_end0
            exact ⟨rfl, HG7.out, .inl HI4.out⟩
          | some p' =>
            rw [hnx] at HO7
            have HNX2 := Lib.hid hnx
            clear hnx
            go_wp2_with fail
            go_roundg (gk - 1)
            case measure => have := HMM.out; have := HKL.out; omega
            case rel => exact ⟨k + 1, p', HNX2.out, by have := HMM.out; have := HKL.out; omega, HI4.out, HG7.out, HO7.out⟩

end Go.Proofs.Ytkjmngdcfheojaa
