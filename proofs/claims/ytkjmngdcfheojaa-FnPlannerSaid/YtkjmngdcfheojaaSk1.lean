/- Walks: integers copied, sorted and compared by both packages. -/
import Derived.Test.YtkjmngdcfheojaaSo
import Derived.Test.YtkjmngdcfheojaaWt1
import Derived.Test.YtkjmngdcfheojaaWa
import Derived.Test.YtkjmngdcfheojaaSh
namespace Go.Proofs.Ytkjmngdcfheojaa
open Go.RowKit Go.Sort
set_option linter.unusedVariables false

/-- A list of integers of the call's own, behind a call. -/
def OwnEnd (w : World) (l : List Int) (n : Nat) (e : Ending) (w' : World) : Prop :=
  ∃ (g c : Nat), e = .returned (.slice (some ⟨g, 0, none⟩) n c) ∧ w'.ownsRow w.heap.size 3 1 (.slice (some ⟨g, 0, none⟩) n c) n (l.map (Value.int .i64)) ∧ Below w.heap.size w w'

set_option maxRecDepth 100000 in
set_option maxHeartbeats 2000000 in
theorem l1Own_any (x : Addr) (cap : Nat) (zs : List Int) (w : World) (hlen : zs.length ≤ 1000) (h : IntsAt w (some x) zs) :
    Calls Try.prog 129 #[.slice (some x) zs.length cap] w (OwnEnd w zs zs.length) := by
  have E0 := Lib.hid (own_lit (w := w) (e := 3) (size := 1) #[] 0 (by omega) rfl)
  have HB := Lib.hid (show Below w.heap.size w (w.alloc (.cells #[] 3)) from (Below.refl _ _).alloc (Nat.le_refl _) _)
  have HN := Lib.hid (ints_news (h.below (Nat.le_refl _) HB.out))
  have hl : (zs.map (Value.int .i64)).length = zs.length * 1 := by simp
  have hsm : 0 + zs.length ≤ 1099511627776 := by omega
  have hle : w.heap.size ≤ (w.alloc (.cells #[] 3)).heap.size := by simp
  have HL := Lib.hid hl; have HS := Lib.hid hsm; have HLE := Lib.hid hle
  clear h hl hsm hle
  go_enter Try.func129, Try.ntmps129
  go_wp2_with (at_builtin; refine wpList_appX (v := .slice (some ⟨w.heap.size, 0, none⟩) 0 0) slInt rfl _ _ rfl rfl E0.out rfl HL.out HN.out (by simp [Value.oneCell']) HS.out HLE.out ?_; intro v' w2 hown2 hg2 ht2; obtain ⟨a', c', rfl⟩ := own_slice hown2; have HO := Lib.hid hown2; have HG := Lib.hid hg2; have HT := Lib.hid ht2; clear hown2 hg2 ht2)
  go_wp2
  go_ret
  obtain ⟨g, rfl, _, _⟩ := own_addr HO.out (by
    rcases HT.out with h | h
    · rw [h]; simp [Value.ownBlock]
    · rw [h]; simp)
  refine ⟨g, c', ?_, ?_, HB.out.grown HG.out (by simp) (fun k hk => ?_)⟩
  · rfl
  · have := HO.out
    rw [Nat.zero_add] at this
    simpa using this
  · simp [Value.ownBlock] at hk; omega

set_option maxRecDepth 100000 in
set_option maxHeartbeats 4000000 in
theorem l2Sorted_any (x : Addr) (cap : Nat) (zs : List Int) (w : World) (hlen : zs.length ≤ 1000) (h : IntsAt w (some x) zs) :
    Calls Try.prog 91 #[.slice (some x) zs.length cap] w (OwnEnd w (Mg.srtI zs) zs.length) := by
  have H1 := Lib.hid (l1Own_any x cap zs w hlen h)
  clear h
  unfold OwnEnd at *
  go_enter Try.func91, Try.ntmps91
  go_wp2_with fail
  refine H1.out.mono ?_
  rintro e w1 ⟨g, c, rfl, ho, hb⟩
  have HO := Lib.hid ho; have HB := Lib.hid hb; clear ho hb H1
  have HS0 := Lib.hid (srtI_start zs)
  go_wp2
  go_loopw [4] (fun v wr => ∃ i : Nat, v = .int .i64 i ∧ 1 ≤ i ∧ (i ≤ zs.length ∨ i = 1) ∧ wr.ownsRow w.heap.size 3 1 (.slice (some ⟨g, 0, none⟩) zs.length c) zs.length ((Mg.srtI (zs.take i) ++ zs.drop i).map (Value.int .i64)) ∧ Below w.heap.size w wr) (fun v _ => zs.length + 1 - (intOf v).toNat)
  case atStart => exact ⟨1, rfl, by omega, .inr rfl, by rw [← HS0.out]; exact HO.out, HB.out⟩
  case round =>
    obtain ⟨i, rfl, hi1, hi2, hown, hb⟩ := hrel
    have HO2 := Lib.hid hown; have HB2 := Lib.hid hb
    clear hown hb
    by_cases hlt : i < zs.length
    case neg =>
      have HO3 := Lib.hid (show wr.ownsRow w.heap.size 3 1 (.slice (some ⟨g, 0, none⟩) zs.length c) zs.length ((Mg.srtI zs).map (Value.int .i64)) from by
        have := HO2.out
        rw [List.take_of_length_le (by omega), List.drop_of_length_le (by omega), List.append_nil] at this
        exact this)
      have h3 : decide ((i : Int) < (zs.length : Int)) = false := by simp; omega
      go_wp2
      go_ret
      exact ⟨g, c, rfl, HO3.out, HB2.out⟩
    have HI0 := Lib.hid (ins_start hlt)
    have HAL : Hid ((Mg.srtI (zs.take i)).length = i) := by show _ = _; rw [srtI_len, List.length_take]; omega
    have HEND := Lib.hid (fun (k : Nat) (hk : k ≤ i) (hd : ∀ b ∈ (Mg.srtI (zs.take i)).drop k, zs.getD i 0 < b) (hs : 0 < k → ¬ zs.getD i 0 < (Mg.srtI (zs.take i)).getD (k - 1) 0) =>
      (ins_end_int (R := zs.drop (i + 1)) (by rw [List.length_take]; omega) hd hs).trans (by rw [take_snoc hlt]))
    rw [HI0.out] at HO2
    clear HI0
    generalize Mg.srtI (zs.take i) = A at HO2 HAL HEND
    generalize zs.getD i 0 = X at HO2 HEND
    have h3 : decide ((i : Int) < (zs.length : Int)) = true := by simp; omega
    have hile : (i : Int) + 1 ≤ 9223372036854775807 := by omega
    go_wp2
    go_loopw [5] (fun v wq => ∃ k : Nat, v = .int .i64 k ∧ k ≤ i ∧ wq.ownsRow w.heap.size 3 1 (.slice (some ⟨g, 0, none⟩) zs.length c) zs.length ((Mg.insSt A X k (zs.drop (i + 1))).map (Value.int .i64)) ∧ (∀ b ∈ A.drop k, X < b) ∧ Below w.heap.size w wq) (fun v _ => (intOf v).toNat)
    case atStart => exact ⟨i, rfl, by omega, HO2.out, by rw [List.drop_of_length_le (by rw [HAL.out]; omega)]; simp, HB2.out⟩
    case round =>
      obtain ⟨k, rfl, hk, ho, hd, hb⟩ := hrel
      have HO4 := Lib.hid ho; have HB4 := Lib.hid hb; have HD := Lib.hid hd
      clear ho hb hd HO2 HB2
      by_cases hk0 : 0 < k
      case neg =>
        obtain rfl : k = 0 := by omega
        have HE := Lib.hid (HEND.out 0 (by omega) HD.out (fun h => absurd h (by omega)))
        rw [HE.out] at HO4
        rw [show ((0 : Nat) : Int) = 0 from rfl]
        go_wp2_with fail
        go_quiet (fail)
        go_wp2
        go_roundw
        case rel => exact ⟨i + 1, by go_num, by omega, by omega, HO4.out, below_drewN HB4.out _⟩
        case measure => simp [intOf] <;> omega
      obtain ⟨m, rfl⟩ : ∃ m, k = m + 1 := ⟨k - 1, by omega⟩
      have hm : m < A.length := by rw [HAL.out]; omega
      obtain ⟨c1, c2, f1, f2⟩ := own_ins_cellsD hm HO4.out
      have HDR : Hid (A.drop m = A.getD m 0 :: A.drop (m + 1)) := by
        show _ = _
        rw [List.drop_eq_getElem_cons hm, List.getD_eq_getElem?_getD, List.getElem?_eq_getElem hm]; rfl
      have HST := Lib.hid (fun (W : World) (y : Int) (hy : A.getD m 0 = y) (h : W.ownsRow w.heap.size 3 1 (.slice (some ⟨g, 0, none⟩) zs.length c) zs.length ((Mg.insSt A X (m + 1) (zs.drop (i + 1))).map (Value.int .i64))) => own_stepD hm hy h)
      have HE1 := Lib.hid (fun hs => HEND.out (m + 1) hk HD.out hs)
      obtain ⟨Y, hY⟩ : ∃ Y, A.getD m 0 = Y := ⟨_, rfl⟩
      rw [hY] at c1 HDR
      have HY := Lib.hid hY
      clear hY hm
      have hcast : ((m + 1 : Nat) : Int) = (m : Int) + 1 := by omega
      have b1 : (0 : Int) ≤ (m : Int) := by omega
      have b2 : (m : Int) + 1 < (zs.length : Int) := by omega
      have b3 : (m : Int) < (zs.length : Int) := by omega
      have hgw : w.heap.size ≤ g := ((HO4.out.lt g rfl).1)
      by_cases hyx : X < Y
      · have hz : decide (X < Y) = true := by simpa using hyx
        rw [hcast]
        go_wp2_with fail
        go_quiet (fail)
        have HYX := Lib.hid hyx
        have HS5 := Lib.hid (HST.out (wr.drewN nq) Y HY.out HO4.out)
        have HB5 := Lib.hid (below_of_grown (below_drewN HB4.out nq) HB4.out.size HS5.out.2 (fun k hk => by injection hk with hk; omega))
        go_wp2
        go_roundw
        case rel => exact ⟨m, by go_num, by omega, HS5.out.1, by
          rw [HDR.out]
          intro b hb
          rcases List.mem_cons.1 hb with rfl | hb
          · exact HYX.out
          · exact HD.out b hb, HB5.out⟩
        case measure => simp [intOf] <;> omega
      · have hz : decide (X < Y) = false := by simpa using hyx
        have HE := Lib.hid (HE1.out (fun _ => by rw [Nat.add_sub_cancel, HY.out]; omega))
        rw [HE.out] at HO4
        rw [hcast]
        go_wp2_with fail
        go_quiet (fail)
        go_wp2
        go_roundw
        case rel => exact ⟨i + 1, by go_num, by omega, by omega, HO4.out, below_drewN HB4.out _⟩
        case measure => simp [intOf] <;> omega

end Go.Proofs.Ytkjmngdcfheojaa
