/- Walks: BestComparison and AdversaryAnswer of the reference. -/
import Derived.Test.YtoaklfpepleelaaFj
namespace Go.Proofs.Ytoaklfpepleelaa
open Go.RowKit Go.Sort
set_option linter.unusedVariables false

theorem l1Most_any (x y : Int) (w : World) :
    Calls Try.prog 49 #[.int .i64 x, .int .i64 y] w fun e w' => e = .returned (.int .i64 (max x y)) ∧ w = w' := by
  obtain ⟨M, hM⟩ : ∃ M, max x y = M := ⟨_, rfl⟩
  rw [hM]
  by_cases h : y < x
  · have hz : decide (y < x) = true := by simpa using h
    have hz2 : decide (x < y) = false := by simp; omega
    obtain rfl : x = M := by omega
    go_enter Try.func49, Try.ntmps49
    go_wp2
    go_ret
    exact ⟨rfl, rfl⟩
  · obtain rfl : y = M := by omega
    by_cases h2 : x < y
    · have hz : decide (y < x) = false := by simp; omega
      have hz2 : decide (x < y) = true := by simpa using h2
      go_enter Try.func49, Try.ntmps49
      go_wp2
      go_ret
      exact ⟨rfl, rfl⟩
    · obtain rfl : x = y := by omega
      have hz : decide (x < x) = false := by simp
      go_enter Try.func49, Try.ntmps49
      go_wp2
      go_ret
      exact ⟨rfl, rfl⟩

theorem with_in {m : Nat} {fs : List (Int × Int)} {x y : Int} (hf : ∀ f ∈ fs, InF (m + 1) f ∧ f.1 ≠ f.2) (hxy : InF (m + 1) (x, y)) (hne : x ≠ y) : ∀ f ∈ fs ++ [(x, y)], InF (m + 1) f ∧ f.1 ≠ f.2 := by
  intro f h
  rcases List.mem_append.1 h with h | h
  · exact hf f h
  · simp at h; subst h; exact ⟨hxy, hne⟩

/-- What l23With and l23Orders give one after the other. -/
theorem orders_with (m : Nat) (hm : m + 1 ≤ 5) (fs : List (Int × Int)) (x y : Int) (hl : fs.length ≤ 20) (hf : ∀ f ∈ fs, InF (m + 1) f ∧ f.1 ≠ f.2) (hxy : InF (m + 1) (x, y)) (hne : x ≠ y) (a : Option Addr) (c : Nat) (W : World) (h : RecsAt W a (fs ++ [(x, y)])) :
    Calls Try.prog 34 #[.int .i64 ((m : Int) + 1), .slice a (fs.length + 1) c] W fun e w' => e = .returned (.int .i64 (Pm.cnt (m + 1) (fs ++ [(x, y)]) : Nat)) ∧ Below W.heap.size W w' := by
  have := l23Orders_any m hm a c (fs ++ [(x, y)]) W (by simp; omega) h (with_in hf hxy hne)
  rw [List.length_append] at this
  exact this
theorem l23With_any' (x : Addr) (cap : Nat) (fs : List (Int × Int)) (s t : Int) (w : World) (hbig : fs.length ≤ 1000) (h : RecsAt w (some x) fs) :
    Calls Try.prog 40 #[.slice (some x) fs.length cap, .int .i64 s, .int .i64 t] w fun e w' => ∃ a c, e = .returned (.slice a (fs.length + 1) c) ∧ RecsAt w' a (fs ++ [(s, t)]) ∧ Below w.heap.size w w' := by
  have := l23With_any x cap fs s t w hbig h
  rw [List.length_append] at this
  exact this

set_option maxRecDepth 100000 in
set_option maxHeartbeats 4000000 in
theorem specAdversaryAnswer_any (n : Int) (a : Addr) (c : Nat) (fs : List (Int × Int)) (x y : Int) (w : World) (hbig : fs.length ≤ 9223372036854775807) (h : RecsAt w (some a) fs) :
    Calls Try.prog 14 #[.int .i64 n, .slice (some a) fs.length c, .int .i64 x, .int .i64 y] w fun e w' => e = .returned (.tuple #[.bool (aaV n fs x y), .bool (aaOk n fs x y)]) ∧ Below w.heap.size w w' := by
  have HA := Lib.hid (l23Facts_any (some a) c n fs w hbig h)
  have HX := Lib.hid (fun W => l1In_any x 0 (n - 1) W)
  have HY := Lib.hid (fun W => l1In_any y 0 (n - 1) W)
  cases hok : aaOk n fs x y
  · have HV : Hid (aaV n fs x y = false) := by show _ = _; simp [aaV, hok]
    rw [HV.out]
    unfold aaOk at hok
    cases h1 : okFacts n fs
    · rw [h1] at HA
      clear h1 hok h
      go_enter Try.func14, Try.ntmps14
      go_wp2_with fail
      refine HA.out.mono ?_
      rintro e w1 ⟨rfl, hb⟩
      have HB1 := Lib.hid hb; clear hb
      go_wp2
      go_ret2
      exact ⟨rfl, HB1.out⟩
    have hn15 : 1 ≤ n ∧ n ≤ 5 := by
      obtain ⟨m, rfl, hm, _, _⟩ := okFacts_in h1
      omega
    obtain ⟨hn1, hn5⟩ := hn15
    rw [h1] at HA
    rw [h1] at hok
    cases h3 : inB x 0 (n - 1)
    · rw [h3] at HX
      clear h1 hok h h3
      go_enter Try.func14, Try.ntmps14
      go_wp2_with fail
      refine HA.out.mono ?_
      rintro e w1 ⟨rfl, hb⟩
      have HB1 := Lib.hid hb; clear hb
      go_wp2_with fail
      refine (HX.out _).mono ?_
      rintro e w2 ⟨rfl, rfl⟩
      go_wp2
      go_ret2
      exact ⟨rfl, HB1.out⟩
    cases h4 : inB y 0 (n - 1)
    · rw [h3] at HX
      rw [h4] at HY
      clear h1 hok h h3 h4
      go_enter Try.func14, Try.ntmps14
      go_wp2_with fail
      refine HA.out.mono ?_
      rintro e w1 ⟨rfl, hb⟩
      have HB1 := Lib.hid hb; clear hb
      go_wp2_with fail
      refine (HX.out _).mono ?_
      rintro e w2 ⟨rfl, rfl⟩
      go_wp2_with fail
      refine (HY.out _).mono ?_
      rintro e w2 ⟨rfl, rfl⟩
      go_wp2
      go_ret2
      exact ⟨rfl, HB1.out⟩
    have h2 : (x == y) = true := by rw [h3, h4] at hok; simpa using hok
    rw [h3] at HX
    rw [h4] at HY
    clear h1 hok h h3 h4
    go_enter Try.func14, Try.ntmps14
    go_wp2_with fail
    refine HA.out.mono ?_
    rintro e w1 ⟨rfl, hb⟩
    have HB1 := Lib.hid hb; clear hb
    go_wp2_with fail
    refine (HX.out _).mono ?_
    rintro e w2 ⟨rfl, rfl⟩
    go_wp2_with fail
    refine (HY.out _).mono ?_
    rintro e w2 ⟨rfl, rfl⟩
    go_wp2
    go_ret2
    exact ⟨rfl, HB1.out⟩
  · obtain ⟨m, rfl, hm, hl, hf, hxy, hyx, hne⟩ := aaOk_in hok
    have hcs := Pm.cnt_split (n := m + 1) (by omega) hm fs (a := x) (b := y) ⟨hxy.1, hxy.2.1⟩ ⟨hyx.1, hyx.2.1⟩ hne
    have hl1 : Pm.cnt (m + 1) fs ≤ 120 := Nat.le_trans List.countP_le_length (Pm.allP_len (by omega) hm)
    have HV : Hid (aaV ((m : Int) + 1) fs x y = decide (((Pm.cnt (m + 1) fs : Nat) : Int) ≤ 2 * ((Pm.cnt (m + 1) (fs ++ [(x, y)]) : Nat) : Int))) := by
      show _ = _
      unfold aaV
      rw [hok, show ((m : Int) + 1).toNat = m + 1 by omega, Bool.true_and]
      exact decide_eq_decide.2 (by omega)
    rw [HV.out]
    unfold aaOk at hok
    simp only [Bool.and_eq_true] at hok
    obtain ⟨⟨⟨k1, k2⟩, k3⟩, k4⟩ := hok
    rw [k1] at HA
    rw [k2] at HX
    rw [k3] at HY
    rw [Int.add_sub_cancel] at HX HY
    have h2 : (x == y) = false := by simpa using hne
    have HW := Lib.hid (fun W (hb : Below w.heap.size w W) => l23With_any' a c fs x y W (by omega) (h.below (Nat.le_refl _) hb))
    have HO := Lib.hid (fun a c W h => orders_with m hm fs x y hl hf hxy hne a c W h)
    have HC := Lib.hid (fun W (hb : Below w.heap.size w W) => l23Orders_any m hm (some a) c fs W (by omega) (h.below (Nat.le_refl _) hb) hf)
    generalize Pm.cnt (m + 1) (fs ++ [(x, y)]) = N1 at HO hcs ⊢
    generalize Pm.cnt (m + 1) fs = N at HC hcs hl1 ⊢
    have hm5 : (m : Int) + 1 ≤ 5 := by omega
    have hN1 : 2 * (N1 : Int) ≤ 9223372036854775807 := by omega
    have hN2 : (0 : Int) ≤ (N1 : Int) := by omega
    have hN3 : (N1 : Int) ≤ 120 := by omega
    clear k1 k2 k3 k4 h hf hxy hyx hne hcs
    go_enter Try.func14, Try.ntmps14
    go_wp2_with fail
    refine HA.out.mono ?_
    rintro e w1 ⟨rfl, hb⟩
    have HB1 := Lib.hid hb; clear hb
    go_wp2_with fail
    refine (HX.out _).mono ?_
    rintro e w2 ⟨rfl, rfl⟩
    go_wp2_with fail
    refine (HY.out _).mono ?_
    rintro e w2 ⟨rfl, rfl⟩
    go_wp2_with fail
    refine (HW.out _ HB1.out).mono ?_
    rintro e w2 ⟨a2, c2, rfl, hr, hb⟩
    have HR2 := Lib.hid hr
    have HB2 := Lib.hid (bco HB1.out hb); clear hb hr
    go_wp2_with fail
    refine (HO.out _ _ _ HR2.out).mono ?_
    rintro e w3 ⟨rfl, hb⟩
    have HB3 := Lib.hid (bco HB2.out hb); clear hb
    go_wp2_with fail
    refine (HC.out _ HB3.out).mono ?_
    rintro e w4 ⟨rfl, hb⟩
    have HB4 := Lib.hid (bco HB3.out hb); clear hb
    go_wp2
    go_ret2
    exact ⟨ret_bool2 (by simp) rfl, HB4.out⟩

set_option maxRecDepth 100000 in
set_option maxHeartbeats 4000000 in
theorem specBestComparison_any (n : Int) (a : Addr) (c : Nat) (fs : List (Int × Int)) (w : World) (hbig : fs.length ≤ 9223372036854775807) (h : RecsAt w (some a) fs) :
    Calls Try.prog 21 #[.int .i64 n, .slice (some a) fs.length c] w fun e w' => e = .returned (bcE n fs) ∧ Below w.heap.size w w' := by
  have HA := Lib.hid (l23Facts_any (some a) c n fs w hbig h)
  cases h1 : okFacts n fs
  · have HV := Lib.hid (bcE_no (n := n) (fs := fs) (by simp [bcOk, h1]))
    rw [HV.out]
    rw [h1] at HA
    clear h1 h
    go_enter Try.func21, Try.ntmps21
    go_wp2_with fail
    refine HA.out.mono ?_
    rintro e w1 ⟨rfl, hb⟩
    have HB1 := Lib.hid hb; clear hb
    go_wp2
    refine bodyPost_ret (v := .tuple #[.int .i64 0, .int .i64 0, .int .i64 0, .bool false]) (by simp [results, Try.results21, go_sem]) rfl ⟨rfl, HB1.out⟩
  rw [h1] at HA
  obtain ⟨m, rfl, hm, hl, hf⟩ := okFacts_in h1
  cases m with
  | zero =>
    have HV := Lib.hid (bcE_no (n := ((0 : Nat) : Int) + 1) (fs := fs) (by simp [bcOk]))
    rw [HV.out]
    rw [show ((0 : Nat) : Int) + 1 = 1 from rfl] at HA ⊢
    clear h1 h hf
    go_enter Try.func21, Try.ntmps21
    go_wp2_with fail
    refine HA.out.mono ?_
    rintro e w1 ⟨rfl, hb⟩
    have HB1 := Lib.hid hb; clear hb
    go_wp2
    refine bodyPost_ret (v := .tuple #[.int .i64 0, .int .i64 0, .int .i64 0, .bool false]) (by simp [results, Try.results21, go_sem]) rfl ⟨rfl, HB1.out⟩
  | succ m =>
  have hn1 : (((m + 1 : Nat) : Int) + 1 == 1) = false := by simp; omega
  have HC := Lib.hid (fun W (hb : Below w.heap.size w W) => l23Orders_any (m + 1) hm (some a) c fs W (by omega) (h.below (Nat.le_refl _) hb) hf)
  have HOK : Hid (bcOk (((m + 1 : Nat) : Int) + 1) fs = decide (0 < Pm.cnt (m + 1 + 1) fs)) := by
    show _ = _
    unfold bcOk
    rw [h1, show (((m + 1 : Nat) : Int) + 1).toNat = m + 1 + 1 by omega]
    simp; omega
  by_cases hz : 0 < Pm.cnt (m + 1 + 1) fs
  case neg =>
    have HV := Lib.hid (bcE_no (n := ((m + 1 : Nat) : Int) + 1) (fs := fs) (by rw [HOK.out]; simpa using hz))
    rw [HV.out]
    have hz0 : Pm.cnt (m + 1 + 1) fs = 0 := by omega
    rw [hz0] at HC
    clear h1 h hf hz hz0
    go_enter Try.func21, Try.ntmps21
    go_wp2_with fail
    refine HA.out.mono ?_
    rintro e w1 ⟨rfl, hb⟩
    have HB1 := Lib.hid hb; clear hb
    go_wp2_with fail
    refine (HC.out _ HB1.out).mono ?_
    rintro e w2 ⟨rfl, hb⟩
    have HB2 := Lib.hid (bco HB1.out hb); clear hb
    go_wp2
    refine bodyPost_ret (v := .tuple #[.int .i64 0, .int .i64 0, .int .i64 0, .bool false]) (by simp [results, Try.results21, go_sem]) rfl ⟨rfl, HB2.out⟩
  have HV := Lib.hid (bcE_yes (n := ((m + 1 : Nat) : Int) + 1) (fs := fs) (by rw [HOK.out]; simpa using hz))
  rw [HV.out, show (((m + 1 : Nat) : Int) + 1).toNat = m + 1 + 1 by omega]
  have hz2 : (((Pm.cnt (m + 1 + 1) fs : Nat) : Int) == 0) = false := by simp; omega
  have HBST := Lib.hid (Pm.best_both (n := m + 1 + 1) (by omega) hm fs)
  rw [HBST.out]
  have hl1 : Pm.cnt (m + 1 + 1) fs ≤ 120 := Nat.le_trans List.countP_le_length (Pm.allP_len (by omega) hm)
  have HWS := Lib.hid (fun p (h1 : p.1 < p.2) (h2 : p.2 < m + 1 + 1) => Pm.wst_other (n := m + 1 + 1) (by omega) hm fs (p := p) h1 h2)
  have HCS := Lib.hid (fun (x y : Int) (hxy : InF (m + 1 + 1) (x, y)) (hne : x ≠ y) => Pm.cnt_split (n := m + 1 + 1) (by omega) hm fs (a := x) (b := y) ⟨hxy.1, hxy.2.1⟩ ⟨hxy.2.2.1, hxy.2.2.2⟩ hne)
  have HW := Lib.hid (fun (x y : Int) W (hb : Below w.heap.size w W) => l23With_any' a c fs x y W (by omega) (h.below (Nat.le_refl _) hb))
  have HO := Lib.hid (fun (x y : Int) (hxy : InF (m + 1 + 1) (x, y)) (hne : x ≠ y) a c W h => orders_with (m + 1) hm fs x y hl hf hxy hne a c W h)
  generalize Pm.wst (m + 1 + 1) fs = WS at HWS ⊢
  generalize Pm.cnt (m + 1 + 1) fs = N at HC hz2 HWS HCS hl1 ⊢
  obtain ⟨n, hn⟩ : ∃ n, n = m + 1 + 1 := ⟨_, rfl⟩
  have hnc : (((m + 1 : Nat) : Int) + 1) = (n : Int) := by omega
  rw [hnc] at hn1 HA ⊢
  rw [hnc] at HC HO
  rw [← hn] at HWS HCS HO ⊢
  have hn5 : n ≤ 5 := by omega
  have hn2 : 2 ≤ n := by omega
  have hN64 : (N : Int) + 1 ≤ 9223372036854775807 := by omega
  clear h1 h hf hz HOK HV HBST hn hnc hm
  go_enter Try.func21, Try.ntmps21
  go_wp2_with fail
  refine HA.out.mono ?_
  rintro e w1 ⟨rfl, hb⟩
  have HB1 := Lib.hid hb; clear hb
  go_wp2_with fail
  refine (HC.out _ HB1.out).mono ?_
  rintro e w2 ⟨rfl, hb⟩
  have HB2 := Lib.hid (bco HB1.out hb); clear hb HB1 HA HC
  go_wp2
  go_loopw [9, 10, 11, 12, 13, 14, 15] (fun x y l i _ _ _ wr => ∃ (k : Nat) (s : Pm.BS), i = .int .i64 k ∧ k ≤ n ∧ x = .int .i64 s.1 ∧ y = .int .i64 s.2.1 ∧ l = .int .i64 s.2.2 ∧ s = (Pm.prs n k (k + 1)).foldl (Pm.stS WS) (0, 0, (N : Int) + 1) ∧ Below w.heap.size w wr) (fun _ _ _ i _ _ _ _ => n - (intOf i).toNat)
  case atStart => exact ⟨0, (0, 0, (N : Int) + 1), rfl, by omega, rfl, rfl, rfl, by rw [Pm.prs_zero]; rfl, HB2.out⟩
  case round =>
    obtain ⟨k, s, rfl, hk, rfl, rfl, rfl, hs, hb⟩ := hrel
    have HS := Lib.hid hs; have HB := Lib.hid hb
    obtain ⟨X, Y, L⟩ := s
    clear hs hb HB2
    by_cases hkn : k < n
    case neg =>
      obtain rfl : k = n := by omega
      have h3 : decide ((k : Int) < (k : Int)) = false := by simp
      go_wp2
      rw [← HS.out]
      refine bodyPost_ret (v := .tuple #[.int .i64 X, .int .i64 Y, .int .i64 L, .bool true]) (by simp [results, Try.results21, go_sem]) rfl ⟨rfl, HB.out⟩
    have h3 : decide ((k : Int) < (n : Int)) = true := by simp; omega
    have HROW := Lib.hid (Pm.prs_row (n := n) hkn)
    have HBD : Hid (∀ W, Below wr.heap.size wr W → Below w.heap.size w W) := fun W hb => HB.out.trans (hb.mono HB.out.size)
    have hk64 : (k : Int) + 1 ≤ 9223372036854775807 := by omega
    go_wp2
    go_loopw [9, 10, 11, 13, 14, 15] (fun x y l bb _ _ wq => ∃ (b : Nat) (s : Pm.BS), bb = .int .i64 b ∧ k + 1 ≤ b ∧ b ≤ n ∧ x = .int .i64 s.1 ∧ y = .int .i64 s.2.1 ∧ l = .int .i64 s.2.2 ∧ s = (Pm.prs n k b).foldl (Pm.stS WS) (0, 0, (N : Int) + 1) ∧ Below wr.heap.size wr wq) (fun _ _ _ bb _ _ _ => n - (intOf bb).toNat)
    case atStart => exact ⟨k + 1, (X, Y, L), by go_num, by omega, by omega, rfl, rfl, rfl, HS.out, Below.refl _ _⟩
    case round =>
      obtain ⟨b, s, rfl, hb1, hb2, rfl, rfl, rfl, hs, hb⟩ := hrel
      have HS2 := Lib.hid hs; have HB3 := Lib.hid hb
      obtain ⟨X2, Y2, L2⟩ := s
      clear hs hb
      by_cases hbn : b < n
      case neg =>
        obtain rfl : b = n := by omega
        have h4 : decide ((b : Int) < (b : Int)) = false := by simp
        have HB4 := Lib.hid (HBD.out _ HB3.out)
        go_wp2
        go_roundw
        case rel => exact ⟨k + 1, (X2, Y2, L2), by go_num, by omega, rfl, rfl, rfl, by rw [HROW.out]; exact HS2.out, HB4.out⟩
        case measure => simp [intOf] <;> omega
      have h4 : decide ((b : Int) < (n : Int)) = true := by simp; omega
      have HNX := Lib.hid (Pm.prs_next (n := n) hb1)
      have HB4 := Lib.hid (HBD.out _ HB3.out)
      have hin : InF n ((k : Int), (b : Int)) := ⟨by simp, by simp; omega, by simp, by simp; omega⟩
      have hne : (k : Int) ≠ (b : Int) := by omega
      have HW1 := Lib.hid (HW.out (k : Int) (b : Int) _ HB4.out)
      have HO1 := Lib.hid (HO.out (k : Int) (b : Int) hin hne)
      have hcs := HCS.out (k : Int) (b : Int) hin hne
      have HWE := Lib.hid (HWS.out (k, b) (by show k < b; omega) (by show b < n; omega))
      generalize Pm.cnt n (fs ++ [((k : Int), (b : Int))]) = N1 at HO1 HWE hcs
      have hb64 : (b : Int) + 1 ≤ 9223372036854775807 := by omega
      have hsub1 : -9223372036854775808 ≤ (N : Int) - (N1 : Int) := by omega
      have hsub2 : (N : Int) - (N1 : Int) ≤ 9223372036854775807 := by omega
      obtain ⟨M, hM⟩ : ∃ M : Int, max (N1 : Int) ((N : Int) - (N1 : Int)) = M := ⟨_, rfl⟩
      have HM : Hid (WS (k, b) = M) := HWE.out.trans hM
      have HL1 := l1Most_any (N1 : Int) ((N : Int) - (N1 : Int))
      rw [hM] at HL1
      have HL := Lib.hid HL1
      have HSTP : Hid ((Pm.prs n k (b + 1)).foldl (Pm.stS WS) (0, 0, (N : Int) + 1) = Pm.stS WS (X2, Y2, L2) (k, b)) := by
        show _ = _
        rw [HNX.out, List.foldl_append, ← HS2.out]; rfl
      have HUP : Hid (M < L2 → Pm.stS WS (X2, Y2, L2) (k, b) = ((k : Int), (b : Int), M)) := fun hc => by
        unfold Pm.stS
        rw [HM.out]
        exact if_pos hc
      have HNO : Hid (¬ M < L2 → Pm.stS WS (X2, Y2, L2) (k, b) = (X2, Y2, L2)) := fun hc => by
        unfold Pm.stS
        rw [HM.out]
        exact if_neg hc
      clear hM HWE HL1 HM HNX HS2 HWS HCS HW HO hin hne hcs
      go_wp2_with fail
      refine HW1.out.mono ?_
      rintro e w4 ⟨a4, c4, rfl, hr, hb⟩
      have HR4 := Lib.hid hr
      have HB5 := Lib.hid (bco HB3.out hb); clear hb hr
      go_wp2_with fail
      refine (HO1.out _ _ _ HR4.out).mono ?_
      rintro e w5 ⟨rfl, hb⟩
      have HB6 := Lib.hid (bco HB5.out hb); clear hb
      go_wp2_with fail
      refine (HL.out _).mono ?_
      rintro e w6 ⟨rfl, rfl⟩
      by_cases hl2 : M < L2
      · have hl1 : decide (M < L2) = true := by simpa using hl2
        have HU := Lib.hid (HUP.out hl2)
        clear HUP HNO hl2
        go_wp2
        go_roundw
        case rel => exact ⟨b + 1, ((k : Int), (b : Int), M), by go_num, by omega, by omega, rfl, rfl, rfl, by rw [HSTP.out, HU.out], HB6.out⟩
        case measure => simp [intOf] <;> omega
      · have hl1 : decide (M < L2) = false := by simpa using hl2
        have HU := Lib.hid (HNO.out (by omega))
        clear HUP HNO hl2
        go_wp2
        go_roundw
        case rel => exact ⟨b + 1, (X2, Y2, L2), by go_num, by omega, by omega, rfl, rfl, rfl, by rw [HSTP.out, HU.out], HB6.out⟩
        case measure => simp [intOf] <;> omega

end Go.Proofs.Ytoaklfpepleelaa
