/- Walks: AdversaryAnswer of the reference. -/
import Derived.Test.YtkjmngdcfheojaaFj
namespace Go.Proofs.Ytkjmngdcfheojaa
open Go.RowKit Go.Sort
set_option linter.unusedVariables false

theorem l1Most_any (x y : Int) (w : World) :
    Calls Try.prog 55 #[.int .i64 x, .int .i64 y] w fun e w' => e = .returned (.int .i64 (max x y)) ∧ w = w' := by
  obtain ⟨M, hM⟩ : ∃ M, max x y = M := ⟨_, rfl⟩
  rw [hM]
  by_cases h : y < x
  · have hz : decide (y < x) = true := by simpa using h
    have hz2 : decide (x < y) = false := by simp; omega
    obtain rfl : x = M := by omega
    go_enter Try.func55, Try.ntmps55
    go_wp2
    go_ret
    exact ⟨rfl, rfl⟩
  · obtain rfl : y = M := by omega
    by_cases h2 : x < y
    · have hz : decide (y < x) = false := by simp; omega
      have hz2 : decide (x < y) = true := by simpa using h2
      go_enter Try.func55, Try.ntmps55
      go_wp2
      go_ret
      exact ⟨rfl, rfl⟩
    · obtain rfl : x = y := by omega
      have hz : decide (x < x) = false := by simp
      go_enter Try.func55, Try.ntmps55
      go_wp2
      go_ret
      exact ⟨rfl, rfl⟩

theorem with_in {m : Nat} {fs : List (Int × Int)} {x y : Int} (hf : ∀ f ∈ fs, InF (m + 1) f ∧ f.1 ≠ f.2) (hxy : InF (m + 1) (x, y)) (hne : x ≠ y) : ∀ f ∈ fs ++ [(x, y)], InF (m + 1) f ∧ f.1 ≠ f.2 := by
  intro f h
  rcases List.mem_append.1 h with h | h
  · exact hf f h
  · simp at h; subst h; exact ⟨hxy, hne⟩

/-- What l23With and l23Orders give one after the other. -/
theorem orders_with (m : Nat) (hm : m + 1 ≤ 5) (fs : List (Int × Int)) (x y : Int) (hl : fs.length ≤ 20) (hf : ∀ f ∈ fs, InF (m + 1) f ∧ f.1 ≠ f.2) (hxy : InF (m + 1) (x, y)) (hne : x ≠ y) (a : Option Addr) (c : Nat) (W : World) (h : RecsAt W a (fs ++ [(x, y)])) :
    Calls Try.prog 59 #[.int .i64 ((m : Int) + 1), .slice a (fs.length + 1) c] W fun e w' => e = .returned (.int .i64 (Pm.cnt (m + 1) (fs ++ [(x, y)]) : Nat)) ∧ Below W.heap.size W w' := by
  have := l23Orders_any m hm a c (fs ++ [(x, y)]) W (by simp; omega) h (with_in hf hxy hne)
  rw [List.length_append] at this
  exact this
theorem l23With_any' (x : Addr) (cap : Nat) (fs : List (Int × Int)) (s t : Int) (w : World) (hbig : fs.length ≤ 1000) (h : RecsAt w (some x) fs) :
    Calls Try.prog 62 #[.slice (some x) fs.length cap, .int .i64 s, .int .i64 t] w fun e w' => ∃ a c, e = .returned (.slice a (fs.length + 1) c) ∧ RecsAt w' a (fs ++ [(s, t)]) ∧ Below w.heap.size w w' := by
  have := l23With_any x cap fs s t w hbig h
  rw [List.length_append] at this
  exact this

set_option maxRecDepth 100000 in
set_option maxHeartbeats 4000000 in
theorem specAdversaryAnswer_any (n : Int) (a : Addr) (c : Nat) (fs : List (Int × Int)) (x y : Int) (w : World) (hbig : fs.length ≤ 9223372036854775807) (h : RecsAt w (some a) fs) :
    Calls Try.prog 16 #[.int .i64 n, .slice (some a) fs.length c, .int .i64 x, .int .i64 y] w fun e w' => e = .returned (.tuple #[.bool (aaV n fs x y), .bool (aaOk n fs x y)]) ∧ Below w.heap.size w w' := by
  have HA := Lib.hid (l23Facts_any (some a) c n fs w hbig h)
  have HX := Lib.hid (fun W => l1In_any x 0 (n - 1) W)
  have HY := Lib.hid (fun W => l1In_any y 0 (n - 1) W)
  cases hok : aaOk n fs x y
  · have HV : Hid (aaV n fs x y = false) := by show _ = _; simp [aaV, hok]
    rw [HV.out]
    unfold aaOk at hok
    cases h1 : okFacts n fs
    · rw [h1] at HA
      clear h1 hok h
      go_enter Try.func16, Try.ntmps16
      go_wp2_with fail
      refine HA.out.mono ?_
      rintro e w1 ⟨rfl, hb⟩
      have HB1 := Lib.hid hb; clear hb
      go_wp2
      go_ret2
      exact ⟨rfl, HB1.out⟩
    have hn15 : 1 ≤ n ∧ n ≤ 5 := by
      obtain ⟨m, rfl, hm, _, _⟩ := okFacts_in h1
      omega
    obtain ⟨hn1, hn5⟩ := hn15
    rw [h1] at HA
    rw [h1] at hok
    cases h3 : inB x 0 (n - 1)
    · rw [h3] at HX
      clear h1 hok h h3
      go_enter Try.func16, Try.ntmps16
      go_wp2_with fail
      refine HA.out.mono ?_
      rintro e w1 ⟨rfl, hb⟩
      have HB1 := Lib.hid hb; clear hb
      go_wp2_with fail
      refine (HX.out _).mono ?_
      rintro e w2 ⟨rfl, rfl⟩
      go_wp2
      go_ret2
      exact ⟨rfl, HB1.out⟩
    cases h4 : inB y 0 (n - 1)
    · rw [h3] at HX
      rw [h4] at HY
      clear h1 hok h h3 h4
      go_enter Try.func16, Try.ntmps16
      go_wp2_with fail
      refine HA.out.mono ?_
      rintro e w1 ⟨rfl, hb⟩
      have HB1 := Lib.hid hb; clear hb
      go_wp2_with fail
      refine (HX.out _).mono ?_
      rintro e w2 ⟨rfl, rfl⟩
      go_wp2_with fail
      refine (HY.out _).mono ?_
      rintro e w2 ⟨rfl, rfl⟩
      go_wp2
      go_ret2
      exact ⟨rfl, HB1.out⟩
    have h2 : (x == y) = true := by rw [h3, h4] at hok; simpa using hok
    rw [h3] at HX
    rw [h4] at HY
    clear h1 hok h h3 h4
    go_enter Try.func16, Try.ntmps16
    go_wp2_with fail
    refine HA.out.mono ?_
    rintro e w1 ⟨rfl, hb⟩
    have HB1 := Lib.hid hb; clear hb
    go_wp2_with fail
    refine (HX.out _).mono ?_
    rintro e w2 ⟨rfl, rfl⟩
    go_wp2_with fail
    refine (HY.out _).mono ?_
    rintro e w2 ⟨rfl, rfl⟩
    go_wp2
    go_ret2
    exact ⟨rfl, HB1.out⟩
  · obtain ⟨m, rfl, hm, hl, hf, hxy, hyx, hne⟩ := aaOk_in hok
    have hcs := Pm.cnt_split (n := m + 1) (by omega) hm fs (a := x) (b := y) ⟨hxy.1, hxy.2.1⟩ ⟨hyx.1, hyx.2.1⟩ hne
    have hl1 : Pm.cnt (m + 1) fs ≤ 120 := Nat.le_trans List.countP_le_length (Pm.allP_len (by omega) hm)
    have HV : Hid (aaV ((m : Int) + 1) fs x y = decide (((Pm.cnt (m + 1) fs : Nat) : Int) ≤ 2 * ((Pm.cnt (m + 1) (fs ++ [(x, y)]) : Nat) : Int))) := by
      show _ = _
      unfold aaV
      rw [hok, show ((m : Int) + 1).toNat = m + 1 by omega, Bool.true_and]
      exact decide_eq_decide.2 (by omega)
    rw [HV.out]
    unfold aaOk at hok
    simp only [Bool.and_eq_true] at hok
    obtain ⟨⟨⟨k1, k2⟩, k3⟩, k4⟩ := hok
    rw [k1] at HA
    rw [k2] at HX
    rw [k3] at HY
    rw [Int.add_sub_cancel] at HX HY
    have h2 : (x == y) = false := by simpa using hne
    have HW := Lib.hid (fun W (hb : Below w.heap.size w W) => l23With_any' a c fs x y W (by omega) (h.below (Nat.le_refl _) hb))
    have HO := Lib.hid (fun a c W h => orders_with m hm fs x y hl hf hxy hne a c W h)
    have HC := Lib.hid (fun W (hb : Below w.heap.size w W) => l23Orders_any m hm (some a) c fs W (by omega) (h.below (Nat.le_refl _) hb) hf)
    generalize Pm.cnt (m + 1) (fs ++ [(x, y)]) = N1 at HO hcs ⊢
    generalize Pm.cnt (m + 1) fs = N at HC hcs hl1 ⊢
    have hm5 : (m : Int) + 1 ≤ 5 := by omega
    have hN1 : 2 * (N1 : Int) ≤ 9223372036854775807 := by omega
    have hN2 : (0 : Int) ≤ (N1 : Int) := by omega
    have hN3 : (N1 : Int) ≤ 120 := by omega
    clear k1 k2 k3 k4 h hf hxy hyx hne hcs
    go_enter Try.func16, Try.ntmps16
    go_wp2_with fail
    refine HA.out.mono ?_
    rintro e w1 ⟨rfl, hb⟩
    have HB1 := Lib.hid hb; clear hb
    go_wp2_with fail
    refine (HX.out _).mono ?_
    rintro e w2 ⟨rfl, rfl⟩
    go_wp2_with fail
    refine (HY.out _).mono ?_
    rintro e w2 ⟨rfl, rfl⟩
    go_wp2_with fail
    refine (HW.out _ HB1.out).mono ?_
    rintro e w2 ⟨a2, c2, rfl, hr, hb⟩
    have HR2 := Lib.hid hr
    have HB2 := Lib.hid (bco HB1.out hb); clear hb hr
    go_wp2_with fail
    refine (HO.out _ _ _ HR2.out).mono ?_
    rintro e w3 ⟨rfl, hb⟩
    have HB3 := Lib.hid (bco HB2.out hb); clear hb
    go_wp2_with fail
    refine (HC.out _ HB3.out).mono ?_
    rintro e w4 ⟨rfl, hb⟩
    have HB4 := Lib.hid (bco HB3.out hb); clear hb
    go_wp2
    go_ret2
    exact ⟨ret_bool2 (by simp) rfl, HB4.out⟩

end Go.Proofs.Ytkjmngdcfheojaa
