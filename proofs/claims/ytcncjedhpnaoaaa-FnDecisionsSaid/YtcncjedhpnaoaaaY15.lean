/- Several texts in one: lemmas and walks of the functions that the law reaches. -/
import Derived.Test.YtcncjedhpnaoaaaY12
import Derived.Shelf.RegionOpenPlain

namespace Go.Proofs.Ytcncjedhpnaoaaa
open Go.RowKit Go.Sort
set_option linter.unusedVariables false
theorem own_swp {w : World} {base g cap n : Nat} {p : List Int} {k j : Nat} {X Z : Int} (hk : k < p.length) (hj : j < p.length) (hne : k ≠ j) (hX : p.getD k 0 = X) (hZ : p.getD j 0 = Z)
    (h : w.ownsRow base 3 1 (.slice (some ⟨g, 0, none⟩) n cap) n (p.map (Value.int .i64))) :
    ((w.setCell ⟨g, k, none⟩ (.int .i64 Z)).setCell ⟨g, j, none⟩ (.int .i64 X)).ownsRow base 3 1 (.slice (some ⟨g, 0, none⟩) n cap) n ((Pm.swp p k j).map (Value.int .i64)) ∧
      w.grownBy ((w.setCell ⟨g, k, none⟩ (.int .i64 Z)).setCell ⟨g, j, none⟩ (.int .i64 X)) (some g) := by
  have h1 := h.stored k (.int .i64 Z)
  have h2 := h1.1.stored j (.int .i64 X)
  refine ⟨?_, grown_trans h1.2 h2.2⟩
  have e : (Pm.swp p k j).map (Value.int .i64) = ((p.map (Value.int .i64)).set k (.int .i64 Z)).set j (.int .i64 X) := by
    unfold Pm.swp
    rw [List.map_set, List.map_set, hX, hZ]
  rw [e]
  exact h2.1

theorem rev_tail {w : World} {base g cap n : Nat} {p : List Int} {k : Nat} (h : w.ownsRow base 3 1 (.slice (some ⟨g, 0, none⟩) n cap) n (p.map (Value.int .i64))) (hk : k < n) (hn : n ≤ 2000) :
    Calls Try.prog 52 #[.slice (some ⟨g, k, none⟩) (n - k) (cap - k)] w fun e w' => e = .returned (.tuple #[]) ∧
      w'.ownsRow base 3 1 (.slice (some ⟨g, 0, none⟩) n cap) n ((Pm.turnAt p k).map (Value.int .i64)) ∧ w.grownBy w' (some g) := by
  have hl : p.length = n := by have := h.1; simpa using this
  have h1 := Try.slices_Reverse_int g k (cap - k) (p.drop k) w (holds_part (own_holds h)) (by simp; omega)
  have e1 : (p.drop k).length = n - k := by simp; omega
  rw [e1] at h1
  refine h1.mono ?_
  rintro e w' ⟨rfl, q, rfl⟩
  refine ⟨rfl, ?_, grown_putAt⟩
  have := own_putAt (q := q) (off := k) (ys := (p.drop k).reverse) h (by simp; omega)
  have e2 : p.take k ++ (p.drop k).reverse ++ p.drop (k + (p.drop k).reverse.length) = Pm.turnAt p k := by
    unfold Pm.turnAt
    have e3 : p.drop (k + (p.drop k).reverse.length) = [] := List.drop_eq_nil_of_le (by simp; omega)
    rw [e3, List.append_nil]
  rw [e2] at this
  exact this

set_option maxRecDepth 100000 in
set_option maxHeartbeats 4000000 in
theorem nextPermutation_any (base g cap m : Nat) (p : List Int) (w : World) (hp : p.length = m + 1) (hm : m ≤ 1000)
    (ho : w.ownsRow base 3 1 (.slice (some ⟨g, 0, none⟩) (m + 1) cap) (m + 1) (p.map (Value.int .i64))) :
    Calls Try.prog 42 #[.slice (some ⟨g, 0, none⟩) (m + 1) cap] w fun e w' => e = .returned (.bool (Pm.nextI p).isSome) ∧
      w'.ownsRow base 3 1 (.slice (some ⟨g, 0, none⟩) (m + 1) cap) (m + 1) (((Pm.nextI p).getD p).map (Value.int .i64)) ∧ w.grownBy w' (some g) := by
  have hcap : m + 1 ≤ cap := by
    rcases ho.2 with ⟨h2, _⟩ | ⟨g', cap', cur, hv, _, _, hn, _, _⟩
    · injection h2 with h2 _ _; cases h2
    · injection hv with _ _ hv
      subst hv
      exact hn
  have HO := Lib.hid ho; clear ho
  have HC : Hid (∀ j, j < m + 1 → w.cell? ⟨g, j, none⟩ = some (.int .i64 (p.getD j 0)) ∧ w.frozen? ⟨g, j, none⟩ = false) := fun j hj => by
    have h1 : j < p.length := by omega
    have := own_celli HO.out (i := j) (x := .int .i64 (p.getD j 0)) (by rw [List.getElem?_map, List.getD_eq_getElem?_getD, List.getElem?_eq_getElem h1]; rfl)
    have h2 := own_holds HO.out j (by simpa using h1)
    rw [Nat.zero_add] at h2
    exact ⟨this, h2.2⟩
  have HN : Hid (Pm.nextI p = match Pm.piv p m with | none => none | some i => some (Pm.turnAt (Pm.swp p i (Pm.lastGt p (p.getD i 0) m)) (i + 1))) := by
    show _ = _
    unfold Pm.nextI
    rw [hp, Nat.add_sub_cancel]
    all_goals (cases Pm.piv p m <;> rfl)
  have HL := Lib.hid hp
  go_enter Try.func42, Try.ntmps42
  go_wp2
  go_loopw [3] (fun i wr => ∃ (z : Int) (q : Nat), i = .int .i64 z ∧ wr = w.drewN q ∧ ((z = -1 ∧ Pm.piv p m = none) ∨ ∃ k : Nat, z = k ∧ k < m ∧ Pm.piv p m = Pm.piv p (k + 1))) (fun i _ => (intOf i + 1).toNat)
  case atStart =>
    cases m with
    | zero => exact ⟨-1, 0, by simp, rfl, .inl ⟨rfl, rfl⟩⟩
    | succ m => exact ⟨(m : Int), 0, by simp <;> omega, rfl, .inr ⟨m, rfl, by omega, rfl⟩⟩
  case round =>
    obtain ⟨z, q, rfl, rfl, ⟨rfl, hn⟩ | ⟨k, rfl, hk, hpk⟩⟩ := hrel
    · have HE : Hid (Pm.nextI p = none) := by show _ = _; rw [HN.out, hn]
      clear hn
      go_wp2_with fail
      go_quiet (fail)
      go_wp2
      go_ret
      rw [HE.out]
      exact ⟨rfl, HO.out, grown_of_below (below_drewN (Below.refl _ _) _)⟩
    · obtain ⟨c1, f1⟩ := HC.out k (by omega)
      obtain ⟨c2, f2⟩ := HC.out (k + 1) (by omega)
      have HP : Hid (Pm.piv p (k + 1) = if p.getD k 0 < p.getD (k + 1) 0 then some k else Pm.piv p k) := rfl
      have HPK := Lib.hid hpk; clear hpk
      have HXY : Hid (∃ X Y, p.getD k 0 = X ∧ p.getD (k + 1) 0 = Y) := ⟨_, _, rfl, rfl⟩
      obtain ⟨X, Y, hX, hY⟩ := HXY.out
      rw [hX] at c1 HP
      rw [hY] at c2 HP
      have HX := Lib.hid hX; have HY := Lib.hid hY
      clear hX hY HXY
      have b1 : (0 : Int) ≤ (k : Int) := by omega
      have b2 : (k : Int) + 1 < (m : Int) + 1 := by omega
      have b3 : (k : Int) < (m : Int) + 1 := by omega
      by_cases hXY : X < Y
      case neg =>
        have hz : decide (Y ≤ X) = true := by simp; omega
        have HE : Hid (Pm.piv p m = Pm.piv p k) := by show _ = _; rw [HPK.out, HP.out, if_neg hXY]
        clear hXY
        go_wp2_with fail
        go_quiet (fail)
        go_wp2
        go_roundw
        case rel =>
          cases k with
          | zero => exact ⟨-1, _, by simp, rfl, .inl ⟨rfl, HE.out⟩⟩
          | succ k => exact ⟨(k : Int), _, by simp <;> omega, rfl, .inr ⟨k, rfl, by omega, HE.out⟩⟩
        case measure => simp [intOf] <;> omega
      · have hz : decide (Y ≤ X) = false := by simp; omega
        have HE : Hid (Pm.piv p m = some k) := by show _ = _; rw [HPK.out, HP.out, if_pos hXY]
        have HXY := Lib.hid hXY
        clear hXY HP HPK
        go_wp2_with fail
        go_quiet (fail)
        have h0 : decide ((k : Int) < 0) = false := by simp
        clear c1 c2 f1 f2
        go_wp2
        go_loopw [4] (fun i wr => ∃ (j q2 : Nat), i = .int .i64 (j : Int) ∧ wr = w.drewN q2 ∧ k + 1 ≤ j ∧ j ≤ m ∧ Pm.lastGt p X m = Pm.lastGt p X j) (fun i _ => (intOf i).toNat)
        case atStart => exact ⟨m, _, by simp <;> omega, rfl, by omega, by omega, rfl⟩
        case round =>
          obtain ⟨j, q2, rfl, rfl, hj1, hj2, hlg⟩ := hrel
          obtain ⟨c1, f1⟩ := HC.out k (by omega)
          obtain ⟨c2, f2⟩ := HC.out j (by omega)
          rw [HX.out] at c1
          obtain ⟨i, rfl⟩ : ∃ i, j = i + 1 := ⟨j - 1, by omega⟩
          have HLG : Hid (Pm.lastGt p X m = if p.getD (i + 1) 0 ≤ X then Pm.lastGt p X i else i + 1) := hlg
          clear hlg
          obtain ⟨Z, hZ⟩ : ∃ Z, p.getD (i + 1) 0 = Z := ⟨_, rfl⟩
          rw [hZ] at c2 HLG
          have HZ := Lib.hid hZ; clear hZ
          have b4 : (0 : Int) ≤ (i : Int) + 1 := by omega
          have b5 : (i : Int) + 1 < (m : Int) + 1 := by omega
          rw [show ((i + 1 : Nat) : Int) = (i : Int) + 1 from by omega]
          by_cases hZX : Z ≤ X
          · have hz2 : decide (Z ≤ X) = true := by simpa using hZX
            have HE2 : Hid (Pm.lastGt p X m = Pm.lastGt p X i) := by show _ = _; rw [HLG.out, if_pos hZX]
            have hne : k + 1 ≤ i := by
              rcases Nat.lt_or_ge i (k + 1) with h | h
              · exfalso
                obtain rfl : i = k := by omega
                have := HZ.out; have := HY.out; have := HXY.out
                omega
              · exact h
            clear hZX
            go_wp2_with fail
            go_quiet (fail)
            go_wp2
            go_roundw
            case rel => exact ⟨i, _, by go_num, rfl, hne, by omega, HE2.out⟩
            case measure => simp [intOf] <;> omega
          · have hz2 : decide (Z ≤ X) = false := by simpa using hZX
            have HE2 : Hid (Pm.nextI p = some (Pm.turnAt (Pm.swp p k (i + 1)) (k + 1))) := by
              show _ = _
              rw [HN.out, HE.out]
              show some (Pm.turnAt (Pm.swp p k (Pm.lastGt p (p.getD k 0) m)) (k + 1)) = _
              rw [HX.out, HLG.out, if_neg hZX]
            clear hZX
            go_wp2_with fail
            go_quiet (fail)
            have hki : ¬ k = i + 1 := by omega
            have hik : ¬ i + 1 = k := by omega
            go_wp2_with fail
            have HR3 := Lib.hid (fun (W : World) (h : W.ownsRow base 3 1 (.slice (some ⟨g, 0, none⟩) (m + 1) cap) (m + 1) ((Pm.swp p k (i + 1)).map (Value.int .i64))) => rev_tail (k := k + 1) (n := m + 1) h (by omega) (by omega))
            have hl1 : k < p.length := by omega
            have hl2 : i + 1 < p.length := by omega
            have HSW := Lib.hid (fun (W : World) (h : W.ownsRow base 3 1 (.slice (some ⟨g, 0, none⟩) (m + 1) cap) (m + 1) (p.map (Value.int .i64))) => own_swp (X := X) (Z := Z) hl1 hl2 (by omega) HX.out HZ.out h)
            have hne1 : ¬ cap = k + 1 := by omega
            clear hl1 hl2 hj1 hj2
            go_region_law (fail)
            all_goals
              have H3 := Lib.hid (HSW.out (w.drewN (q2 + nq + 1)) HO.out)
              have HO3 := Lib.hid H3.out.1
              have HG3 := Lib.hid (grown_trans (grown_of_below (row := some g) (below_drewN (Below.refl w.heap.size w) (q2 + nq + 1))) H3.out.2)
              clear H3
              generalize ((w.drewN (q2 + nq + 1)).setCell { block := g, off := k } (Value.int IntKind.i64 Z)).setCell { block := g, off := i + 1 } (Value.int IntKind.i64 X) = w3 at HO3 HG3 ⊢
              have HRV0 := HR3.out w3 HO3.out
              rw [Nat.add_sub_add_right] at HRV0
              have HRV := Lib.hid HRV0
              clear HSW HR3 HO3 HC HO HRV0
              go_wp2_with fail
              refine HRV.out.mono ?_
              rintro e w4 ⟨rfl, ho4, hg4⟩
              have HO4 := Lib.hid ho4
              have HG4 := Lib.hid (grown_trans HG3.out hg4)
              clear ho4 hg4
              go_wp2
              go_ret
              rw [HE2.out]
              exact ⟨rfl, HO4.out, HG4.out⟩

end Go.Proofs.Ytcncjedhpnaoaaa

