/- Walks: impl.Fingerprint and the law FnExactFingerprint. -/
import Derived.Test.YtjlebikidoedmaaWb
namespace Go.Proofs.Ytjlebikidoedmaa
open Go.RowKit

set_option maxHeartbeats 400000 in
theorem implFingerprint_any (a : Option Addr) (cap : Nat) (zs : List Int) (p : Int) (w : World) (hbig : zs.length ≤ 9223372036854775807) (h : IntsAt w a zs) :
    Calls Try.prog 12 #[.slice a zs.length cap, .int .i64 p] w fun e w' => e = .returned (.tuple #[.int .i64 (fpAns zs p).1, .bool (fpAns zs p).2]) ∧ Below w.heap.size w w' := by
  have HL := Lib.hid (isValidList_any a cap zs w hbig h)
  have HN := Lib.hid (fun w1 => in_any p 0 999982 w1)
  cases h1 : okList zs
  · have HA : fpAns zs p = (0, false) := by simp [fpAns, h1]
    rw [HA]
    rw [h1] at HL
    clear h HA h1
    go_enter Try.func12, Try.ntmps12
    go_wp2_with ((go_at_call 39; refine HL.out.mono ?_; rintro e w' ⟨rfl, hb⟩))
    go_ret2
    exact ⟨rfl, hb⟩
  cases h2 : inB p 0 999982
  · have HA : fpAns zs p = (0, false) := by simp [fpAns, h1, h2]
    rw [HA]
    rw [h1] at HL
    rw [h2] at HN
    clear h HA h1 h2
    go_enter Try.func12, Try.ntmps12
    go_wp2_with (first | ((go_at_call 39; refine HL.out.mono ?_; rintro e w' ⟨rfl, hb⟩)) | (go_at_call 40; refine (HN.out _).mono ?_; rintro e w' ⟨rfl, rfl⟩))
    go_ret2
    exact ⟨rfl, hb⟩
  · have HA : fpAns zs p = (fprint zs p, true) := by simp [fpAns, h1, h2]
    rw [HA]
    have HP := Lib.hid (fun w1 (hb : Below w.heap.size w w1) => fingerprint_any a cap zs p w1 h1 (inB_iff.1 h2).1 (inB_iff.1 h2).2 (h.below (Nat.le_refl _) hb))
    rw [h1] at HL
    rw [h2] at HN
    clear h HA h1 h2
    go_enter Try.func12, Try.ntmps12
    go_wp2_with (first | ((go_at_call 39; refine HL.out.mono ?_; rintro e w' ⟨rfl, hb⟩)) | (go_at_call 40; refine (HN.out _).mono ?_; rintro e w' ⟨rfl, rfl⟩) | (go_at_call 41; refine (HP.out _ hb).mono ?_; rintro e w' ⟨rfl, rfl⟩))
    go_ret2
    exact ⟨rfl, hb⟩

set_option maxHeartbeats 400000 in
theorem lawFingerprint_any (a : Option Addr) (cap : Nat) (zs : List Int) (p : Int) (w : World) (hbig : zs.length ≤ 9223372036854775807) (h : IntsAt w a zs) :
    Calls Try.prog 3 #[.slice a zs.length cap, .int .i64 p] w fun e w' => e = .returned (.bool true) ∧ Below w.heap.size w w' := by
  by_cases hl : zs.length ≤ 1048576
  · have H := Lib.hid h; clear h
    go_enter Try.func3, Try.ntmps3
    go_wp2_with fail
    refine (toIntS_any a cap zs _ hl H.out).mono ?_
    rintro e w1 ⟨rfl, hown1, hb1⟩
    have H1 := Lib.hid (ownInts hown1)
    have HB1 := Lib.hid hb1
    clear hown1 hb1
    go_wp2_with fail
    refine (specFingerprint_any _ _ zs p _ hbig H1.out).mono ?_
    rintro e w1' ⟨rfl, rfl⟩
    go_wp2_with fail
    refine (toIntS_any a cap zs _ hl (H.out.below (Nat.le_refl _) HB1.out)).mono ?_
    rintro e w2 ⟨rfl, hown2, hb2⟩
    have HO2 := Lib.hid hown2
    have HB2 := Lib.hid (HB1.out.trans (hb2.mono HB1.out.size))
    clear hown2 hb2
    go_wp2_with fail
    refine (implFingerprint_any _ _ zs p _ hbig (ownInts HO2.out)).mono ?_
    rintro e w3 ⟨rfl, hb3⟩
    have H3 := Lib.hid ((ownInts HO2.out).below (Nat.le_refl _) hb3)
    have HB3 := Lib.hid (HB2.out.trans (hb3.mono HB2.out.size))
    clear hb3
    go_wp2_with fail
    refine (toIntS_any a cap zs _ hl (H.out.below (Nat.le_refl _) HB3.out)).mono ?_
    rintro e w4 ⟨rfl, hown4, hb4⟩
    have H4 := Lib.hid (H3.out.below (Nat.le_refl _) hb4)
    have H4' := Lib.hid (ownInts hown4)
    have HB4 := Lib.hid (HB3.out.trans (hb4.mono HB3.out.size))
    clear hown4 hb4
    go_wp2_with fail
    refine (eqIntS_any _ _ _ _ zs zs _ hbig hbig H4.out H4'.out).mono ?_
    rintro e w5 ⟨rfl, hb5⟩
    have HB5 := Lib.hid (HB4.out.trans (hb5.mono HB4.out.size))
    clear hb5
    go_wp2
    go_ret
    exact ⟨rfl, HB5.out⟩
  · clear h
    go_enter Try.func3, Try.ntmps3
    go_wp2
    go_ret
    exact ⟨rfl, Below.refl _ _⟩

end Go.Proofs.Ytjlebikidoedmaa
