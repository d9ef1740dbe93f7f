/- Walks: ConsistentOrders and AdversaryAnswer of both packages. -/
import Derived.Test.YtkjmngdcfheojaaFh
namespace Go.Proofs.Ytkjmngdcfheojaa
open Go.RowKit Go.Sort
set_option linter.unusedVariables false

theorem okFacts_in {n : Int} {fs : List (Int × Int)} (h : okFacts n fs = true) : ∃ m : Nat, n = (m : Int) + 1 ∧ m + 1 ≤ 5 ∧ fs.length ≤ 20 ∧ ∀ f ∈ fs, InF (m + 1) f ∧ f.1 ≠ f.2 := by
  unfold okFacts at h
  simp only [Bool.and_eq_true, decide_eq_true_eq, List.all_eq_true] at h
  obtain ⟨⟨h1, h2⟩, h3⟩ := h
  have h1' : 1 ≤ n ∧ n ≤ 5 := by simpa [inB] using h1
  refine ⟨(n - 1).toNat, by omega, by omega, h2, fun f hf => ?_⟩
  have := h3 f hf
  simp [okFact, inB] at this
  obtain ⟨⟨h4, h5⟩, h6⟩ := this
  exact ⟨⟨by omega, by omega, by omega, by omega⟩, h4⟩

theorem recs_lit (w : World) (a b : Int) (e : TypeId) : RecsAt (w.alloc (.cells #[.int .i64 a, .int .i64 b] e)) (some ⟨w.heap.size, 0, none⟩) [(a, b)] := by
  refine .inr ⟨w.heap.size, 0, rfl, by simp, fun j hj => ?_⟩
  obtain rfl : j = 0 := by simp at hj; omega
  have := block_new w (.cells #[.int .i64 a, .int .i64 b] e)
  exact ⟨row_cell this 0, row_cell this 1⟩

theorem consistent_none (m : Nat) (hm : m + 1 ≤ 5) (a : Option Addr) (c : Nat) (fs : List (Int × Int)) (w : World) (b : fs.length ≤ 9223372036854775807) (h : RecsAt w a fs) (hf : ∀ f ∈ fs, InF (m + 1) f) :
    Calls Try.prog 57 #[.int .i64 ((m : Int) + 1), .slice a fs.length c, .slice none 0 0] w fun e w' => e = .returned (.int .i64 (Pm.cnt (m + 1) fs : Nat)) ∧ Below w.heap.size w w' := by
  have := consistent_any m hm a none c 0 fs [] w b (by simp) h (.inl rfl) hf (by simp)
  rw [List.append_nil] at this
  exact this
theorem consistent_one (m : Nat) (hm : m + 1 ≤ 5) (a : Option Addr) (c : Nat) (fs : List (Int × Int)) (x y : Int) (w0 w : World) (b : fs.length ≤ 9223372036854775807) (h : RecsAt w0 a fs) (hb : Below w0.heap.size w0 w) (hf : ∀ f ∈ fs, InF (m + 1) f) (hxy : InF (m + 1) (x, y)) :
    Calls Try.prog 57 #[.int .i64 ((m : Int) + 1), .slice a fs.length c, .slice (some ⟨w.heap.size, 0, none⟩) 1 1] (w.alloc (.cells #[.int .i64 x, .int .i64 y] 32)) fun e w' => e = .returned (.int .i64 (Pm.cnt (m + 1) (fs ++ [(x, y)]) : Nat)) ∧ Below w.heap.size w w' := by
  have hb2 : Below w.heap.size w (w.alloc (.cells #[.int .i64 x, .int .i64 y] 32)) := (Below.refl _ _).alloc (Nat.le_refl _) _
  have := consistent_any m hm a (some ⟨w.heap.size, 0, none⟩) c 1 fs [(x, y)] _ b (by simp) (h.below (Nat.le_refl _) (bco hb hb2)) (recs_lit w x y 32) hf (fun f hf => by simp at hf; subst hf; exact hxy)
  exact this.mono (fun _ _ ⟨h1, h2⟩ => ⟨h1, bco hb2 h2⟩)

def coV (n : Int) (fs : List (Int × Int)) : Int := if okFacts n fs then (Pm.cnt n.toNat fs : Nat) else 0

set_option maxHeartbeats 1000000 in
theorem implConsistentOrders_any (n : Int) (a : Option Addr) (c : Nat) (fs : List (Int × Int)) (w : World) (hbig : fs.length ≤ 9223372036854775807) (h : RecsAt w a fs) :
    Calls Try.prog 13 #[.int .i64 n, .slice a fs.length c] w fun e w' => e = .returned (.tuple #[.int .i64 (coV n fs), .bool (okFacts n fs)]) ∧ Below w.heap.size w w' := by
  have HA := Lib.hid (areFacts_any a c n fs w hbig h)
  cases hok : okFacts n fs
  · have HV : Hid (coV n fs = 0) := by show _ = _; simp [coV, hok]
    rw [HV.out]
    rw [hok] at HA
    clear hok h
    go_enter Try.func13, Try.ntmps13
    go_wp2_with fail
    refine HA.out.mono ?_
    rintro e w1 ⟨rfl, hb⟩
    have HB1 := Lib.hid hb; clear hb
    go_wp2
    go_ret2
    exact ⟨rfl, HB1.out⟩
  · obtain ⟨m, rfl, hm, hl, hf⟩ := okFacts_in hok
    have HV : Hid (coV ((m : Int) + 1) fs = (Pm.cnt (m + 1) fs : Nat)) := by
      show _ = _
      unfold coV
      rw [if_pos hok, show ((m : Int) + 1).toNat = m + 1 by omega]
    rw [HV.out]
    rw [hok] at HA
    have HC := Lib.hid (fun W (hb : Below w.heap.size w W) => consistent_none m hm a c fs W (by omega) (h.below (Nat.le_refl _) hb) (fun f hff => (hf f hff).1))
    clear hok h hf
    go_enter Try.func13, Try.ntmps13
    go_wp2_with fail
    refine HA.out.mono ?_
    rintro e w1 ⟨rfl, hb⟩
    have HB1 := Lib.hid hb; clear hb
    go_wp2_with fail
    refine (HC.out _ HB1.out).mono ?_
    rintro e w2 ⟨rfl, hb⟩
    have HB2 := Lib.hid (bco HB1.out hb); clear hb
    go_wp2
    go_ret2
    exact ⟨rfl, HB2.out⟩

set_option maxHeartbeats 1000000 in
theorem specConsistentOrders_any (n : Int) (a : Option Addr) (c : Nat) (fs : List (Int × Int)) (w : World) (hbig : fs.length ≤ 9223372036854775807) (h : RecsAt w a fs) :
    Calls Try.prog 14 #[.int .i64 n, .slice a fs.length c] w fun e w' => e = .returned (.tuple #[.int .i64 (coV n fs), .bool (okFacts n fs)]) ∧ Below w.heap.size w w' := by
  have HA := Lib.hid (l23Facts_any a c n fs w hbig h)
  cases hok : okFacts n fs
  · have HV : Hid (coV n fs = 0) := by show _ = _; simp [coV, hok]
    rw [HV.out]
    rw [hok] at HA
    clear hok h
    go_enter Try.func14, Try.ntmps14
    go_wp2_with fail
    refine HA.out.mono ?_
    rintro e w1 ⟨rfl, hb⟩
    have HB1 := Lib.hid hb; clear hb
    go_wp2
    go_ret2
    exact ⟨rfl, HB1.out⟩
  · obtain ⟨m, rfl, hm, hl, hf⟩ := okFacts_in hok
    have HV : Hid (coV ((m : Int) + 1) fs = (Pm.cnt (m + 1) fs : Nat)) := by
      show _ = _
      unfold coV
      rw [if_pos hok, show ((m : Int) + 1).toNat = m + 1 by omega]
    rw [HV.out]
    rw [hok] at HA
    have HC := Lib.hid (fun W (hb : Below w.heap.size w W) => l23Orders_any m hm a c fs W (by omega) (h.below (Nat.le_refl _) hb) hf)
    clear hok h hf
    go_enter Try.func14, Try.ntmps14
    go_wp2_with fail
    refine HA.out.mono ?_
    rintro e w1 ⟨rfl, hb⟩
    have HB1 := Lib.hid hb; clear hb
    go_wp2_with fail
    refine (HC.out _ HB1.out).mono ?_
    rintro e w2 ⟨rfl, hb⟩
    have HB2 := Lib.hid (bco HB1.out hb); clear hb
    go_wp2
    go_ret2
    exact ⟨rfl, HB2.out⟩

def aaOk (n : Int) (fs : List (Int × Int)) (a b : Int) : Bool := okFacts n fs && inB a 0 (n - 1) && inB b 0 (n - 1) && (a != b)
def aaV (n : Int) (fs : List (Int × Int)) (a b : Int) : Bool := aaOk n fs a b && decide (Pm.cnt n.toNat (fs ++ [(b, a)]) ≤ Pm.cnt n.toNat (fs ++ [(a, b)]))
theorem aaOk_in {n : Int} {fs : List (Int × Int)} {a b : Int} (h : aaOk n fs a b = true) : ∃ m : Nat, n = (m : Int) + 1 ∧ m + 1 ≤ 5 ∧ fs.length ≤ 20 ∧ (∀ f ∈ fs, InF (m + 1) f ∧ f.1 ≠ f.2) ∧ InF (m + 1) (a, b) ∧ InF (m + 1) (b, a) ∧ a ≠ b := by
  unfold aaOk at h
  simp only [Bool.and_eq_true] at h
  obtain ⟨m, rfl, hm, hl, hf⟩ := okFacts_in h.1.1.1
  have h1 := h.1.1.2
  have h2 := h.1.2
  have h3 := h.2
  simp [inB] at h1 h2 h3
  exact ⟨m, rfl, hm, hl, hf, ⟨by simp; omega, by simp; omega, by simp; omega, by simp; omega⟩, ⟨by simp; omega, by simp; omega, by simp; omega, by simp; omega⟩, h3⟩

set_option maxRecDepth 100000 in
set_option maxHeartbeats 4000000 in
theorem implAdversaryAnswer_any (n : Int) (a : Option Addr) (c : Nat) (fs : List (Int × Int)) (x y : Int) (w : World) (hbig : fs.length ≤ 9223372036854775807) (h : RecsAt w a fs) :
    Calls Try.prog 15 #[.int .i64 n, .slice a fs.length c, .int .i64 x, .int .i64 y] w fun e w' => e = .returned (.tuple #[.bool (aaV n fs x y), .bool (aaOk n fs x y)]) ∧ Below w.heap.size w w' := by
  have HA := Lib.hid (areFacts_any a c n fs w hbig h)
  have HX := Lib.hid (fun W => in_any x 0 (n - 1) W)
  have HY := Lib.hid (fun W => in_any y 0 (n - 1) W)
  cases hok : aaOk n fs x y
  · have HV : Hid (aaV n fs x y = false) := by show _ = _; simp [aaV, hok]
    rw [HV.out]
    unfold aaOk at hok
    cases h1 : okFacts n fs
    · rw [h1] at HA
      clear h1 hok h
      go_enter Try.func15, Try.ntmps15
      go_wp2_with fail
      refine HA.out.mono ?_
      rintro e w1 ⟨rfl, hb⟩
      have HB1 := Lib.hid hb; clear hb
      go_wp2
      go_ret2
      exact ⟨rfl, HB1.out⟩
    have hn15 : 1 ≤ n ∧ n ≤ 5 := by
      obtain ⟨m, rfl, hm, _, _⟩ := okFacts_in h1
      omega
    obtain ⟨hn1, hn5⟩ := hn15
    rw [h1] at HA
    cases h2 : (x == y)
    case true =>
      clear h1 hok h
      go_enter Try.func15, Try.ntmps15
      go_wp2_with fail
      refine HA.out.mono ?_
      rintro e w1 ⟨rfl, hb⟩
      have HB1 := Lib.hid hb; clear hb
      go_wp2
      go_ret2
      exact ⟨rfl, HB1.out⟩
    have h2' : (x != y) = true := by simp at h2 ⊢; exact h2
    rw [h1, h2'] at hok
    cases h3 : inB x 0 (n - 1)
    · rw [h3] at HX
      clear h1 hok h h3
      go_enter Try.func15, Try.ntmps15
      go_wp2_with fail
      refine HA.out.mono ?_
      rintro e w1 ⟨rfl, hb⟩
      have HB1 := Lib.hid hb; clear hb
      go_wp2_with fail
      refine (HX.out _).mono ?_
      rintro e w2 ⟨rfl, rfl⟩
      go_wp2
      go_ret2
      exact ⟨rfl, HB1.out⟩
    have h4 : inB y 0 (n - 1) = false := by rw [h3] at hok; simpa using hok
    rw [h3] at HX
    rw [h4] at HY
    clear h1 hok h h3 h4
    go_enter Try.func15, Try.ntmps15
    go_wp2_with fail
    refine HA.out.mono ?_
    rintro e w1 ⟨rfl, hb⟩
    have HB1 := Lib.hid hb; clear hb
    go_wp2_with fail
    refine (HX.out _).mono ?_
    rintro e w2 ⟨rfl, rfl⟩
    go_wp2_with fail
    refine (HY.out _).mono ?_
    rintro e w2 ⟨rfl, rfl⟩
    go_wp2
    go_ret2
    exact ⟨rfl, HB1.out⟩
  · obtain ⟨m, rfl, hm, hl, hf, hxy, hyx, hne⟩ := aaOk_in hok
    have HV : Hid (aaV ((m : Int) + 1) fs x y = decide (Pm.cnt (m + 1) (fs ++ [(y, x)]) ≤ Pm.cnt (m + 1) (fs ++ [(x, y)]))) := by
      show _ = _
      unfold aaV
      rw [hok, show ((m : Int) + 1).toNat = m + 1 by omega, Bool.true_and]
    rw [HV.out]
    unfold aaOk at hok
    simp only [Bool.and_eq_true] at hok
    obtain ⟨⟨⟨k1, k2⟩, k3⟩, k4⟩ := hok
    rw [k1] at HA
    rw [k2] at HX
    rw [k3] at HY
    rw [Int.add_sub_cancel] at HX HY
    have h2 : (x == y) = false := by simpa using hne
    have HC1 := Lib.hid (fun W (hb : Below w.heap.size w W) => consistent_one m hm a c fs x y w W hbig h hb (fun f hff => (hf f hff).1) hxy)
    have HC2 := Lib.hid (fun W (hb : Below w.heap.size w W) => consistent_one m hm a c fs y x w W hbig h hb (fun f hff => (hf f hff).1) hyx)
    generalize Pm.cnt (m + 1) (fs ++ [(x, y)]) = N1 at HC1 ⊢
    generalize Pm.cnt (m + 1) (fs ++ [(y, x)]) = N2 at HC2 ⊢
    have hm5 : (m : Int) + 1 ≤ 5 := by omega
    clear k1 k2 k3 k4 h hf hxy hyx hne
    go_enter Try.func15, Try.ntmps15
    go_wp2_with fail
    refine HA.out.mono ?_
    rintro e w1 ⟨rfl, hb⟩
    have HB1 := Lib.hid hb; clear hb
    go_wp2_with fail
    refine (HX.out _).mono ?_
    rintro e w2 ⟨rfl, rfl⟩
    go_wp2_with fail
    refine (HY.out _).mono ?_
    rintro e w2 ⟨rfl, rfl⟩
    go_wp2_with fail
    refine (HC1.out _ HB1.out).mono ?_
    rintro e w2 ⟨rfl, hb⟩
    have HB2 := Lib.hid (bco HB1.out hb); clear hb
    go_wp2_with fail
    refine (HC2.out _ HB2.out).mono ?_
    rintro e w3 ⟨rfl, hb⟩
    have HB3 := Lib.hid (bco HB2.out hb); clear hb
    go_wp2
    go_ret2
    exact ⟨ret_bool2 (by simp) rfl, HB3.out⟩

end Go.Proofs.Ytkjmngdcfheojaa
