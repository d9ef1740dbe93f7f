/- The law FnMerge: its walk. -/
import Derived.Test.YtpbiajicdgompaaOa
namespace Go.Proofs.Ytpbiajicdgompaa
open Go.RowKit Go.Sort
set_option linter.unusedVariables false

theorem own_cur {w w' : World} {B bc : Nat} {e : TypeId} {size n : Nat} {v : Value} {xs : List Value} (h : w.ownsRow B e size v n xs) (hB : bc < B) (hg : w.grownBy w' (some bc)) : w'.ownsRow B e size v n xs :=
  own_other h hg (fun k hk e => by injection e with e; have := (h.lt k hk).1; omega)

/-- Two drawn lists of records. -/
def RdDraw2 (w : World) (e : Ending) (w' : World) : Prop :=
  ∃ (a : Option Addr) (n c : Nat) (L : List (Int × Int)) (b : Option Addr) (m d : Nat) (R : List (Int × Int)), e = .returned (.tuple #[.slice a n c, .slice b m d]) ∧ Rd w' a n c L ∧ Rd w' b m d R ∧ n ≤ 70 ∧ m ≤ 70 ∧ Below w.heap.size w w'

set_option maxRecDepth 100000 in
set_option maxHeartbeats 4000000 in
theorem drawMergeSorted_any (ac : Option Addr) (c : Nat) (cs : List Int) (w : World) (hl : cs.length ≤ 65537) (h : BytesAt w ac cs) :
    Calls Try.prog 34 #[.slice ac cs.length c] w (RdDraw2 w) := by
  obtain ⟨h1, h2, h3⟩ := cur_start (c := c) hl h
  have HC := Lib.hid h1; have HO := Lib.hid h2; have HB := Lib.hid h3
  clear h h1 h2 h3
  unfold RdDraw2
  go_enter Try.func34, Try.ntmps34
  go_wp2_with fail
  refine (anyRecords_any w.heap.size ac cs 0 _ (by omega) HC.out (fun h0 b off e => by have := HO.out h0 b off e; simp; omega)).mono ?_
  rintro e w1 ⟨a1, c1, L, rfl, ho, hl1, hD⟩
  have HO1 := Lib.hid (own_mono ho (by simp : w.heap.size + 1 ≤ _))
  have HD1 := Lib.hid hD
  have HB1 := Lib.hid (HB.out.grown hD.grown (by simp) (fun k hk => by injection hk with hk; omega))
  clear ho hD HC
  go_wp2_with fail
  refine (anyRecords_any w.heap.size ac cs (0 + 1000) _ (by omega) HD1.out.cur (fun h0 b off e => by have := HO.out h0 b off e; have := HB1.out.size; omega)).mono ?_
  rintro e w2 ⟨a2, c2, R, rfl, ho, hl2, hD⟩
  have HO2 := Lib.hid (own_mono ho (show w.heap.size + 1 ≤ _ from by have := (HO1.out); have := HD1.out.grown.size; simp at this; omega))
  have HO1b := Lib.hid (own_cur HO1.out (by omega) hD.grown)
  have HD2 := Lib.hid hD
  have HB2 := Lib.hid (HB1.out.grown hD.grown HB1.out.size (fun k hk => by injection hk with hk; omega))
  clear ho hD HD1 HO1 HB1
  go_wp2_with fail
  refine (one_any w.heap.size ac cs _ 12 _ ?h1 (by omega) HD2.out.cur).mono ?_
  case h1 => omega
  rintro e w3 ⟨⟨b3, rfl⟩, hc, hg⟩
  have HD3 := Lib.hid (HD2.out.step hc hg)
  have HO13 := Lib.hid (own_cur HO1b.out (by omega) hg); have HO23 := Lib.hid (own_cur HO2.out (by omega) hg)
  have HB3 := Lib.hid (HB2.out.grown hg HB2.out.size (fun k hk => by injection hk with hk; omega))
  clear hc hg HD2 HO1b HO2 HB2
  cases b3
  case' false =>
    go_wp2_with fail
    refine (l2Stable_any _ a1 c1 L _ (by omega) HO13.out).mono ?_
    rintro e w4 ⟨g4, c4, rfl, ho, hb⟩
    have HOa := Lib.hid (own_mono ho (show w.heap.size + 1 ≤ _ from by have := HD3.out.old.1; have := HD3.out.grown.size; omega))
    have HOb := Lib.hid (own_below HO23.out (Nat.le_refl _) hb)
    have HD4 := Lib.hid (HD3.out.below hb)
    have HB4 := Lib.hid (HB3.out.trans (hb.mono HB3.out.size))
    clear ho hb
  case' true =>
    have HOa := HO13; have HOb := HO23; have HD4 := HD3; have HB4 := HB3
  all_goals
    clear HO13 HO23 HD3 HB3
    go_wp2_with fail
    refine (one_any w.heap.size ac cs _ 12 _ ?h1 (by omega) HD4.out.cur).mono ?_
    case h1 => omega
    rintro e w5 ⟨⟨b5, rfl⟩, hc, hg⟩
    have HD5 := Lib.hid (HD4.out.step hc hg)
    have HOa5 := Lib.hid (own_cur HOa.out (by omega) hg); have HOb5 := Lib.hid (own_cur HOb.out (by omega) hg)
    have HB5 := Lib.hid (HB4.out.grown hg HB4.out.size (fun k hk => by injection hk with hk; omega))
    clear hc hg HD4 HOa HOb HB4
    cases b5
    · go_wp2_with fail
      refine (l2Stable_any _ a2 c2 R _ (by omega) HOb5.out).mono ?_
      rintro e w6 ⟨g6, c6, rfl, ho, hb⟩
      have HOa6 := Lib.hid (own_below HOa5.out (Nat.le_refl _) hb)
      have HB6 := Lib.hid (HB5.out.trans (hb.mono HB5.out.size))
      have HOb6 := Lib.hid ho
      clear ho hb
      go_wp2
      go_ret2
      exact ⟨_, _, _, _, _, _, _, _, rfl, rd_own HOa6.out, rd_own HOb6.out, hl1, hl2, HB6.out⟩
    · go_wp2
      go_ret2
      exact ⟨_, _, _, _, _, _, _, _, rfl, rd_own HOa5.out, rd_own HOb5.out, hl1, hl2, HB5.out⟩

end Go.Proofs.Ytpbiajicdgompaa
