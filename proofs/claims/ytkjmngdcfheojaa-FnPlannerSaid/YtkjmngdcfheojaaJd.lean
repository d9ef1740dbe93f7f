/- Walks: the draws of FirstDescent and of ProfileOf. -/
import Derived.Test.YtkjmngdcfheojaaJb
import Derived.Test.YtkjmngdcfheojaaGa
namespace Go.Proofs.Ytkjmngdcfheojaa
open Go.RowKit Go.Sort
set_option linter.unusedVariables false

/-- A list of records that can be read, behind a draw. -/
def RecsEnd (w : World) (e : Ending) (w' : World) : Prop :=
  ∃ (a : Option Addr) (c : Nat) (rs : List (Int × Int)), e = .returned (.slice a rs.length c) ∧ RecsAt w' a rs ∧ rs.length ≤ 70 ∧ Below w.heap.size w w'

set_option maxHeartbeats 1000000 in
theorem drawFirstDescent_any (ac : Option Addr) (c : Nat) (cs : List Int) (w : World) (hl : cs.length ≤ 65537) (h : BytesAt w ac cs) :
    Calls Try.prog 97 #[.slice ac cs.length c] w (RecsEnd w) := by
  obtain ⟨h1, h2, h3⟩ := cur_start (c := c) hl h
  have HC := Lib.hid h1; have HO := Lib.hid h2; have HB := Lib.hid h3
  clear h h1 h2 h3
  unfold RecsEnd
  go_enter Try.func97, Try.ntmps97
  go_wp2_with fail
  refine (anyRecords_any w.heap.size ac cs 0 _ (by omega) HC.out (fun h0 b off e => by have := HO.out h0 b off e; simp; omega)).mono ?_
  rintro e w1 ⟨a1, c1, rs, rfl, ho, hl2, hD⟩
  have HO1 := Lib.hid ho
  have HD1 := Lib.hid hD
  clear ho hD HC
  go_wp2_with fail
  refine (one_any w.heap.size ac cs _ 3 _ ?h1 (by omega) HD1.out.cur).mono ?_
  case h1 => omega
  rintro e w2 ⟨⟨b, rfl⟩, hc, hg⟩
  have HO2 := Lib.hid (HD1.out.own HO1.out (Nat.le_refl _) hg)
  have HB2 := Lib.hid (HB.out.grown (grown_trans HD1.out.grown hg) (by simp) (fun k hk => by injection hk with hk; omega))
  clear hc hg HO1 HD1 HB HO
  cases b
  · go_wp2
    go_ret
    exact ⟨a1, c1, rs, rfl, ownRecs HO2.out, hl2, HB2.out⟩
  · go_wp2_with fail
    refine (l2Stable_any _ a1 c1 rs _ (by omega) HO2.out).mono ?_
    rintro e w3 ⟨g, c3, rfl, ho, hb⟩
    have HO3 := Lib.hid ho
    have HB3 := Lib.hid (HB2.out.trans (hb.mono HB2.out.size))
    clear ho hb HO2 HB2
    go_wp2
    go_ret
    exact ⟨some ⟨g, 0, none⟩, c3, srtR rs, by rw [srtR_len]; rfl, ownRecs (by rw [← srtR_len rs] at HO3; exact HO3.out), by rw [srtR_len]; exact hl2, HB3.out⟩

set_option maxHeartbeats 1000000 in
theorem drawProfileOf_any (ac : Option Addr) (c : Nat) (cs : List Int) (w : World) (hl : cs.length ≤ 65537) (h : BytesAt w ac cs) :
    Calls Try.prog 49 #[.slice ac cs.length c] w (RecsEnd w) := by
  have HD := Lib.hid (drawFirstDescent_any ac c cs w hl h)
  clear h
  unfold RecsEnd at *
  go_enter Try.func49, Try.ntmps49
  go_wp2_with fail
  refine HD.out.mono ?_
  rintro e w1 ⟨a1, c1, rs, rfl, ho, hl2, hb⟩
  have HO1 := Lib.hid ho; have HB1 := Lib.hid hb
  clear ho hb
  go_wp2
  go_ret
  exact ⟨a1, c1, rs, rfl, HO1.out, hl2, HB1.out⟩

end Go.Proofs.Ytkjmngdcfheojaa
