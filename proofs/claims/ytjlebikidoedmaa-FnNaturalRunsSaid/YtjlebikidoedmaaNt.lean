/- NaturalRuns of both packages; the draw; the size test. -/
import Derived.Test.YtjlebikidoedmaaNr
import Derived.Test.YtjlebikidoedmaaNs
import Derived.Test.YtjlebikidoedmaaCw
namespace Go.Proofs.Ytjlebikidoedmaa
open Go.RowKit
set_option linter.unusedVariables false

def nrAns (rs : List (Int × Int)) : List (Int × Int) := if okRecs rs then runsFrom (keysL rs) 0 else []

set_option maxHeartbeats 400000 in
theorem implNaturalRuns_any (a : Option Addr) (cap : Nat) (zs : List (Int × Int)) (w : World) (hbig : zs.length ≤ 9223372036854775807) (h : RecsAt w a zs) :
    Calls Try.prog 26 #[.slice a zs.length cap] w fun e w' => ∃ (a' : Option Addr) (c' : Nat), e = .returned (.tuple #[.slice a' (nrAns zs).length c', .bool (okRecs zs)]) ∧ w'.ownsRow w.heap.size 52 2 (.slice a' (nrAns zs).length c') (nrAns zs).length (flat encR (nrAns zs)) ∧ Below w.heap.size w w' := by
  have HL := Lib.hid (isValidRecords_any a cap zs w hbig h)
  have H := Lib.hid h; clear h
  cases k1 : okRecs zs
  · have HA : Hid (nrAns zs = []) := by show _ = _; simp [nrAns, k1]
    rw [k1] at HL
    clear k1
    go_enter Try.func26, Try.ntmps26
    go_wp2_with fail
    refine HL.out.mono ?_
    rintro e w1 ⟨rfl, hb⟩
    have HB := Lib.hid hb; clear hb
    go_wp2
    go_ret2
    exact ⟨none, 0, by rw [HA.out]; rfl, by rw [HA.out]; exact World.ownsRow_nil _ _ _ _, HB.out⟩
  · have hl := okRecs_len k1
    have HA : Hid (nrAns zs = runsFrom (keysL zs) 0) := by show _ = _; simp [nrAns, k1]
    rw [k1] at HL
    clear k1
    go_enter Try.func26, Try.ntmps26
    go_wp2_with fail
    refine HL.out.mono ?_
    rintro e w1 ⟨rfl, hb⟩
    have HB := Lib.hid hb; clear hb
    go_wp2_with fail
    refine (implNaturalRuns0_any a cap zs _ hl (H.out.below (Nat.le_refl _) HB.out)).mono ?_
    rintro e w2 ⟨a', c', rfl, ho, hb⟩
    have HO := Lib.hid (own_mono ho HB.out.size)
    have HB2 := Lib.hid (HB.out.trans (hb.mono HB.out.size)); clear ho hb
    go_wp2
    go_ret2
    exact ⟨a', c', by rw [HA.out]; rfl, by rw [HA.out]; exact HO.out, HB2.out⟩

set_option maxHeartbeats 400000 in
theorem specNaturalRuns_any (a : Option Addr) (cap : Nat) (zs : List (Int × Int)) (w : World) (hbig : zs.length ≤ 9223372036854775807) (h : RecsAt w a zs) :
    Calls Try.prog 27 #[.slice a zs.length cap] w fun e w' => ∃ (a' : Option Addr) (c' : Nat), e = .returned (.tuple #[.slice a' (nrAns zs).length c', .bool (okRecs zs)]) ∧ w'.ownsRow w.heap.size 52 2 (.slice a' (nrAns zs).length c') (nrAns zs).length (flat encR (nrAns zs)) ∧ Below w.heap.size w w' := by
  have HL := Lib.hid (l2Records_any a cap zs w hbig h)
  have H := Lib.hid h; clear h
  have E1 := Lib.hid (own_lit (w := w) (e := 52) (size := 2) #[] 0 (by omega) rfl)
  cases k1 : okRecs zs
  · have HA : Hid (nrAns zs = []) := by show _ = _; simp [nrAns, k1]
    rw [k1] at HL
    clear k1
    go_enter Try.func27, Try.ntmps27
    go_wp2_with fail
    refine HL.out.mono ?_
    rintro e w1 ⟨rfl, rfl⟩
    go_wp2
    go_ret2
    exact ⟨_, _, by rw [HA.out]; rfl, by rw [HA.out]; exact E1.out, (Below.refl _ _).alloc (Nat.le_refl _) _⟩
  · have hl := okRecs_len k1
    have HA : Hid (nrAns zs = runsFrom (keysL zs) 0) := by show _ = _; simp [nrAns, k1]
    rw [k1] at HL
    clear k1
    go_enter Try.func27, Try.ntmps27
    go_wp2_with fail
    refine HL.out.mono ?_
    rintro e w1 ⟨rfl, rfl⟩
    go_wp2_with fail
    refine (l5Runs_any a cap zs _ hl H.out).mono ?_
    rintro e w2 ⟨a', c', rfl, ho, hb⟩
    have HO := Lib.hid ho
    have HB2 := Lib.hid hb; clear ho hb
    go_wp2
    go_ret2
    exact ⟨a', c', by rw [HA.out]; rfl, by rw [HA.out]; exact HO.out, HB2.out⟩

set_option maxHeartbeats 400000 in
theorem vBig_any (a : Option Addr) (n c : Nat) (w : World) (hn : n ≤ 9223372036854775807) :
    Calls Try.prog 24 #[.slice a n c] w fun e w' => e = .returned (.bool (decide (65536 < n))) ∧ w = w' := by
  by_cases h : 65536 < n
  all_goals
    go_enter Try.func24, Try.ntmps24
    go_wp2
    go_ret
    exact ⟨ret_bool (by simp [h]; try omega), rfl⟩

set_option maxHeartbeats 400000 in
theorem drawNaturalRuns_any (ac : Option Addr) (c : Nat) (cs : List Int) (w : World) (hl : cs.length ≤ 65537) (h : BytesAt w ac cs) :
    Calls Try.prog 25 #[.slice ac cs.length c] w fun e w' => ∃ (a' : Option Addr) (c' : Nat) (rs : List (Int × Int)), e = .returned (.slice a' rs.length c') ∧ w'.ownsRow w.heap.size 54 2 (.slice a' rs.length c') rs.length (flat encR rs) ∧ rs.length ≤ 70 ∧ Below w.heap.size w w' := by
  go_enter Try.func25, Try.ntmps25
  go_wp2_with fail
  refine (drawIsValidRecords_any ac c cs _ hl h).mono ?_
  rintro e w1 ⟨a', c', rs, rfl, ho, hl2, hb⟩
  have HO := Lib.hid ho
  have HB := Lib.hid hb; clear ho hb
  go_wp2
  go_ret
  exact ⟨a', c', rs, rfl, HO.out, hl2, HB.out⟩

end Go.Proofs.Ytjlebikidoedmaa
