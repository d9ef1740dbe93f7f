/- Walks of the laws' own functions on lists of records of texts: comparing, marking, holding. -/
import Derived.Test.YtfdhicojnbicgaaDoorMa
import Derived.Test.YtfdhicojnbicgaaDoorKd
import Derived.Deep.RegionHeld3
namespace Go.Proofs.YtfdhicojnbicgaaDoor
open Go.RowKit
set_option linter.unusedVariables false

set_option maxRecDepth 100000 in
set_option maxHeartbeats 800000 in
theorem eqLogRecordS_same (a a' : Option Addr) (cap cap' : Nat) (zs : List Tx.Rec) (w : World) (hlen : zs.length ≤ 9223372036854775807) (h : LrAt w a zs) (h' : LrAt w a' zs) :
    Calls Tryd.prog 33 #[.slice a zs.length cap, .slice a' zs.length cap'] w fun e w' => e = .returned (.bool true) ∧ Below w.heap.size w w' := by
  have H := Lib.hid h; clear h
  have H' := Lib.hid h'; clear h'
  have hne : ((zs.length : Int) != (zs.length : Int)) = false := by simp
  go_enter Tryd.func33, Tryd.ntmps33
  go_wp2
  go_loopw [5] (fun i wr => ∃ k : Nat, k ≤ zs.length ∧ i = .int .i64 k ∧ Below w.heap.size w wr) (fun i _ => zs.length - (intOf i).toNat)
  case atStart => exact ⟨0, by omega, rfl, Below.refl _ _⟩
  case round =>
    obtain ⟨k, hk, rfl, hb⟩ := hrel
    have HB := Lib.hid hb; clear hb
    by_cases hlt : k < zs.length
    · obtain ⟨b, off, rfl, hc1, hc2⟩ := (H.out.below (Nat.le_refl _) HB.out).at hlt
      obtain ⟨b', off', rfl, hc3, hc4⟩ := (H'.out.below (Nat.le_refl _) HB.out).at hlt
      generalize ba (zs.getD k ([], [])).1 = x1 at hc1 hc3
      generalize ba (zs.getD k ([], [])).2 = x2 at hc2 hc4
      go_wp2_with fail
      go_still_tail 8, (by kernel_rfl)
      go_wp2_with fail
      refine (eqLogRecord_same x1 x2 _).mono ?_
      rintro e w2 ⟨rfl, hb2⟩
      have HB2 := Lib.hid (HB.out.trans ((Below.refl _ _).drew.trans (hb2.mono HB.out.size)))
      clear hb2
      go_wp2
      go_roundw
      case rel => exact ⟨k + 1, by omega, by go_num, HB2.out⟩
      case measure => simp [intOf]; omega
    · go_wp2
      go_ret
      exact ⟨rfl, HB.out⟩

/-- The marks on n records from k on; the first i are laid, the others still as they were. -/
def mkL (rs : List Tx.Rec) (k i : Nat) : List Tx.Rec := (List.range rs.length).map fun j : Nat => if j < i then (markL (k + 2 * j), markL (k + 2 * j + 1)) else rs.getD j ([], [])
theorem mkL_len (rs : List Tx.Rec) (k i : Nat) : (mkL rs k i).length = rs.length := by simp [mkL]
theorem mkL_zero (rs : List Tx.Rec) (k : Nat) : mkL rs k 0 = rs := by
  apply List.ext_getElem
  · simp [mkL]
  · intro j h1 h2; simp [mkL, List.getD, h2]
theorem mkL_succ {rs : List Tx.Rec} {k i : Nat} (h : i < rs.length) : (mkL rs k i).set i (markL (k + 2 * i), markL (k + 2 * i + 1)) = mkL rs k (i + 1) := by
  apply List.ext_getElem
  · simp [mkL]
  · intro j h1 h2
    simp only [mkL, List.getElem_set, List.getElem_map, List.getElem_range]
    by_cases e : i = j
    · subst e; simp
    · rw [if_neg e]
      by_cases hl : j < i
      · rw [if_pos hl, if_pos (by omega)]
      · rw [if_neg hl, if_neg (by omega)]
theorem mkL_at {rs : List Tx.Rec} {k j : Nat} (h : j < rs.length) : (mkL rs k rs.length).getD j ([], []) = (markL (k + 2 * j), markL (k + 2 * j + 1)) := by
  simp [mkL, List.getD, h]

theorem markText_nat (K : Int) (m : Nat) (hK : K = m) (w : World) (h0 : 1 ≤ m) (h1 : m ≤ 1000000000) :
    Calls Tryd.prog 59 #[.int .i64 K] w fun e w' => e = .returned (.string (ba (markL m))) ∧ Below w.heap.size w w' := by
  subst hK
  have := markText_any (m : Int) w (by omega) (by omega)
  rw [Int.toNat_natCast] at this
  exact this

theorem own_some {w : World} {B : Nat} {e : TypeId} {size g n c : Nat} {xs : List Value} (h : w.ownsRow B e size (.slice (some ⟨g, 0, none⟩) n c) n xs) {j : Nat} (hj : j < n * size) : ∃ z, w.cell? ⟨g, j, none⟩ = some z :=
  ⟨_, by rw [h.cellAt j hj, List.getElem?_eq_getElem (by rw [h.1]; exact hj)]⟩

set_option maxRecDepth 100000 in
set_option maxHeartbeats 800000 in
theorem markLogRecordS_any (B : Nat) (a : Option Addr) (c : Nat) (rs : List Tx.Rec) (k : Nat) (w : World) (hn : rs.length ≤ 1000) (hk0 : 1 ≤ k) (hk1 : k ≤ 1000) (h : w.ownsRow B 27 2 (.slice a rs.length c) rs.length (flat encL rs)) :
    Calls Tryd.prog 34 #[.slice a rs.length c, .int .i64 k] w fun e w' => e = .returned (.int .i64 (k + 2 * (rs.length : Int))) ∧ w'.ownsRow B 27 2 (.slice a rs.length c) rs.length (flat encL (mkL rs k rs.length)) ∧ w.grownBy w' (Value.slice a rs.length c).ownBlock := by
  have H := Lib.hid h; clear h
  go_enter Tryd.func34, Tryd.ntmps34
  go_wp2
  go_loopw [1, 5] (fun v i wr => ∃ j : Nat, j ≤ rs.length ∧ i = .int .i64 j ∧ v = .int .i64 (k + 2 * (j : Int)) ∧ wr.ownsRow B 27 2 (.slice a rs.length c) rs.length (flat encL (mkL rs k j)) ∧ w.grownBy wr (Value.slice a rs.length c).ownBlock) (fun _ i _ => rs.length - (intOf i).toNat)
  case atStart => exact ⟨0, by omega, rfl, by simp, by rw [mkL_zero]; exact H.out, grown_refl _ _⟩
  case round =>
    obtain ⟨j, hj, rfl, rfl, hown, hg⟩ := hrel
    by_cases hlt : j < rs.length
    · obtain ⟨g, rfl, _, _, _⟩ := own_cell hown (by omega)
      have M1 := Lib.hid (fun w => markText_nat ((k : Int) + 2 * (j : Int)) (k + 2 * j) (by omega) w (by omega) (by omega))
      have M2 := Lib.hid (fun w => markText_nat ((k : Int) + 2 * (j : Int) + 1) (k + 2 * j + 1) (by omega) w (by omega) (by omega))
      have HF : Hid (encL (markL (k + 2 * j), markL (k + 2 * j + 1)) = [.string (ba (markL (k + 2 * j))), .string (ba (markL (k + 2 * j + 1)))]) := rfl
      have HS := Lib.hid (mkL_succ (k := k) hlt)
      have HO := Lib.hid hown
      have HG := Lib.hid hg
      clear hown hg
      generalize hs1 : ba (markL (k + 2 * j)) = s1 at M1 HF
      generalize hs2 : ba (markL (k + 2 * j + 1)) = s2 at M2 HF
      clear hs1 hs2
      go_wp2_with fail
      refine (M1.out _).mono ?_
      rintro e w2 ⟨rfl, hb2⟩
      have O2 := own_below HO.out (Nat.le_refl _) hb2
      obtain ⟨z, hc1⟩ := own_some O2 (j := j * 2) (by omega)
      have hf1 := O2.frozenAt (j * 2)
      have R1 := Lib.hid (O2.stored (j * 2) (.string s1))
      have G2 := Lib.hid (grown_trans HG.out (grown_of_below hb2))
      clear O2 hb2
      go_wp2_with fail
      refine (M2.out _).mono ?_
      rintro e w3 ⟨rfl, hb3⟩
      have O3 := own_below R1.out.1 (Nat.le_refl _) hb3
      obtain ⟨z2, hc2⟩ := own_some O3 (j := j * 2 + 1) (by omega)
      have hf2 := O3.frozenAt (j * 2 + 1)
      have R2 := O3.stored (j * 2 + 1) (.string s2)
      rw [flat_set2 encL_len _ j (by rw [mkL_len]; exact hlt) (markL (k + 2 * j), markL (k + 2 * j + 1)) _ _ HF.out, HS.out] at R2
      have HR := Lib.hid R2
      have G3 := Lib.hid (grown_trans (grown_trans (grown_trans G2.out R1.out.2) (grown_of_below hb3)) R2.2)
      clear O3 hb3 R2 hc1 hf1
      go_wp2
      go_roundw
      case rel => exact ⟨j + 1, by omega, by go_num, by go_num, HR.out.1, G3.out⟩
      case measure => simp [intOf]; omega
    · have e : j = rs.length := by omega
      subst e
      have HO := Lib.hid hown
      have HG := Lib.hid hg
      clear hown hg
      go_wp2
      go_ret
      exact ⟨rfl, HO.out, HG.out⟩

structure Bs (w0 : World) (b : Nat) (w : World) : Prop where
  bel : Below w0.heap.size w0 w
  lt : b < w0.heap.size
theorem Bs.drew {w0 w : World} {b : Nat} (h : Bs w0 b w) : Bs w0 b w.drew := ⟨Below.drew h.1, h.2⟩
theorem Bs.next {w0 w w' : World} {b o : Nat} {x : Value} (hc : w.cell? ⟨b, o, none⟩ = some x) (h : Bs w0 b w) (hb : Below w.heap.size w w') : w'.cell? ⟨b, o, none⟩ = some x ∧ Bs w0 b w' :=
  ⟨(bcell hb (Nat.lt_of_lt_of_le h.2 h.1.size)).trans hc, h.1.trans (hb.mono h.1.size), h.2⟩

set_option maxRecDepth 100000 in
set_option maxHeartbeats 1600000 in
theorem heldLogRecordS_any (a : Option Addr) (c : Nat) (rs : List Tx.Rec) (k : Nat) (w : World) (hn : rs.length ≤ 1000) (hk0 : 1 ≤ k) (hk1 : k ≤ 1000) (h : LrAt w a rs) (hm : ∀ j, j < rs.length → rs.getD j ([], []) = (markL (k + 2 * j), markL (k + 2 * j + 1))) :
    Calls Tryd.prog 35 #[.slice a rs.length c, .int .i64 k] w fun e w' => e = .returned (.int .i64 (k + 2 * (rs.length : Int))) ∧ Below w.heap.size w w' := by
  have H := Lib.hid h; clear h
  have HM := Lib.hid hm; clear hm
  go_enter Tryd.func35, Tryd.ntmps35
  go_wp2
  go_loopw [1, 5] (fun v i wr => ∃ j : Nat, j ≤ rs.length ∧ i = .int .i64 j ∧ v = .int .i64 (k + 2 * (j : Int)) ∧ Below w.heap.size w wr) (fun _ i _ => rs.length - (intOf i).toNat)
  case atStart => exact ⟨0, by omega, rfl, by simp, Below.refl _ _⟩
  case round =>
    obtain ⟨j, hj, rfl, rfl, hb⟩ := hrel
    have HB := Lib.hid hb; clear hb
    by_cases hlt : j < rs.length
    · have HX := Lib.hid (H.out.below (Nat.le_refl _) HB.out)
      obtain ⟨b, off, rfl, hc1, hc2⟩ := HX.out.at hlt
      have hbl : b < wr.heap.size := World.block_lt_of_cell? wr _ hc1
      rw [HM.out j hlt] at hc1 hc2
      have M1 := Lib.hid (fun w => markText_nat ((k : Int) + 2 * (j : Int)) (k + 2 * j) (by omega) w (by omega) (by omega))
      have M2 := Lib.hid (fun w => markText_nat ((k : Int) + 2 * (j : Int) + 1) (k + 2 * j + 1) (by omega) w (by omega) (by omega))
      generalize hs1 : ba (markL (k + 2 * j)) = s1 at M1 hc1
      generalize hs2 : ba (markL (k + 2 * j + 1)) = s2 at M2 hc2
      have q1 : (!(s1.toList == s1.toList)) = false := by simp
      have q2 : (!(s2.toList == s2.toList)) = false := by simp
      clear hs1 hs2
      have B0 : Bs wr b wr := ⟨Below.refl _ _, hbl⟩
      have HC2 := Lib.hid hc2
      go_wp2_with fail
      clear hc2
      have hS0 : wr.drew.cell? ⟨b, off + j * 2, none⟩ = some (.string s1) ∧ Bs wr b wr.drew := ⟨hc1, B0.drew⟩
      go_region_held3 (fun w' => w'.cell? ⟨b, off + j * 2, none⟩ = some (.string s1) ∧ Bs wr b w') (go_keep)
        (first | ((try go_split_ands); go_at_call 59; refine (M1.out _).mono ?_; rintro e w' ⟨rfl, hb⟩; have hS := Bs.next (x := .string s1) (by assumption) (by assumption) hb))
      obtain ⟨_, B1⟩ := hS
      have hc2 : w'.cell? ⟨b, off + j * 2 + 1, none⟩ = some (.string s2) := (bcell B1.1 hbl).trans HC2.out
      clear hb
      go_wp2_with fail
      have hS1 : w'.drew.cell? ⟨b, off + j * 2 + 1, none⟩ = some (.string s2) ∧ Bs wr b w'.drew := ⟨hc2, B1.drew⟩
      go_region_held3 (fun w' => w'.cell? ⟨b, off + j * 2 + 1, none⟩ = some (.string s2) ∧ Bs wr b w') (go_keep)
        (first | ((try go_split_ands); go_at_call 59; refine (M2.out _).mono ?_; rintro e w'' ⟨rfl, hb⟩; have hS := Bs.next (x := .string s2) (by assumption) (by assumption) hb))
      obtain ⟨_, B2⟩ := hS
      have HB2 := Lib.hid (HB.out.trans (B2.1.mono HB.out.size))
      clear hb
      go_wp2
      go_roundw
      case rel => exact ⟨j + 1, by omega, by go_num, by go_num, HB2.out⟩
      case measure => simp [intOf]; omega
    · have e : j = rs.length := by omega
      subst e
      go_wp2
      go_ret
      exact ⟨rfl, HB.out⟩

end Go.Proofs.YtfdhicojnbicgaaDoor
