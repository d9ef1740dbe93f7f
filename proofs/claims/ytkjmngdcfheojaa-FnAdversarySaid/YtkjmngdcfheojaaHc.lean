/- The law FnAdversary: its walk. -/
import Derived.Test.YtkjmngdcfheojaaHb
import Derived.Test.YtkjmngdcfheojaaBd
namespace Go.Proofs.Ytkjmngdcfheojaa
open Go.RowKit Go.Sort
set_option linter.unusedVariables false

set_option maxRecDepth 100000 in
set_option maxHeartbeats 2000000 in
theorem drawAdversaryAnswer_any (ac : Option Addr) (c : Nat) (cs : List Int) (w : World) (hl : cs.length ≤ 65537) (h : BytesAt w ac cs) :
    Calls Try.prog 12 #[.slice ac cs.length c] w fun e w' => ∃ (n : Int) (g c' : Nat) (fs : List (Int × Int)) (a b : Int), e = .returned (.tuple #[.int .i64 n, .slice (some ⟨g, 0, none⟩) fs.length c', .int .i64 a, .int .i64 b]) ∧ -1 ≤ n ∧ n ≤ 6 ∧ fs.length ≤ 24 ∧ RecsAt w' (some ⟨g, 0, none⟩) fs ∧ Below w.heap.size w w' := by
  obtain ⟨h1, h2, h3⟩ := cur_start (c := c) hl h
  have HC := Lib.hid h1; have HO := Lib.hid h2; have HB := Lib.hid h3
  have hB1 : (w.alloc (.cells #[.slice ac cs.length c, .int .i64 0, .int .u64 0] 80)).heap.size = w.heap.size + 1 := by simp
  clear h h1 h2 h3
  go_enter Try.func12, Try.ntmps12
  go_wp2_with fail
  refine (factsD_any w.heap.size ac cs _ HC.out (fun h0 b off e => by have := HO.out h0 b off e; simp; omega)).mono ?_
  rintro e w1 ⟨n, g, c', fs, rfl, q1, q2, ho, hfl, hD⟩
  rw [hB1] at ho
  have HO1 := Lib.hid ho; have HD1 := Lib.hid hD
  clear ho hD
  obtain ⟨mx, hmx⟩ : ∃ m, max n 0 = m := ⟨_, rfl⟩
  have hm1 : 0 ≤ mx := by omega
  have hm2 : mx ≤ 6 := by omega
  have HLM := l1Most_any n 0
  rw [hmx] at HLM
  have HLM := Lib.hid HLM
  clear hmx
  go_wp2_with fail
  refine (HLM.out _).mono ?_
  rintro e w2 ⟨rfl, rfl⟩
  go_wp2_with fail
  refine (pick_any w.heap.size ac cs _ (mx + 2) _ ?h1 (by omega) HD1.out.cur).mono ?_
  case h1 => omega
  rintro e w2 ⟨⟨a, rfl, ha0, ha1⟩, hc, hg⟩
  have HO2 := Lib.hid (HD1.out.own HO1.out (by omega) hg)
  have HD2 := Lib.hid (HD1.out.step hc hg)
  clear hc hg HO1 HD1
  go_wp2_with fail
  refine (HLM.out _).mono ?_
  rintro e w3 ⟨rfl, rfl⟩
  go_wp2_with fail
  refine (pick_any w.heap.size ac cs _ (mx + 2) _ ?h2 (by omega) HD2.out.cur).mono ?_
  case h2 => omega
  rintro e w3 ⟨⟨b, rfl, hb0, hb1⟩, hc, hg⟩
  have HR3 := Lib.hid (ownFacts (HD2.out.own HO2.out (by omega) hg))
  have HD3 := Lib.hid (HD2.out.step hc hg)
  have HBF := Lib.hid (HB.out.grown HD3.out.grown HB.out.size (fun k hk => by injection hk with hk; omega))
  clear hc hg HO2 HD2 HD3
  go_wp2
  refine bodyPost_ret (v := .tuple #[.int .i64 n, .slice (some ⟨g, 0, none⟩) fs.length c', .int .i64 (a - 1), .int .i64 (b - 1)]) (by simp [results, Try.results12, go_sem]) rfl ⟨n, g, c', fs, a - 1, b - 1, rfl, q1, q2, hfl, HR3.out, HBF.out⟩

theorem okFacts_snoc {m : Nat} {fs : List (Int × Int)} {a b : Int} (h : okFacts ((m : Int) + 1) fs = true) (hl : fs.length ≤ 19) (hab : InF (m + 1) (a, b)) (hne : a ≠ b) : okFacts ((m : Int) + 1) (fs ++ [(a, b)]) = true := by
  unfold okFacts at h ⊢
  simp only [Bool.and_eq_true, decide_eq_true_eq, List.all_append] at h ⊢
  obtain ⟨h1, h2, h3, h4⟩ := hab
  refine ⟨⟨h.1.1, by simp; omega⟩, h.2, ?_⟩
  simp at h1 h2 h3 h4
  simp [okFact, inB, hne]
  omega
theorem coV_ok {m : Nat} {fs : List (Int × Int)} (h : okFacts ((m : Int) + 1) fs = true) : coV ((m : Int) + 1) fs = (Pm.cnt (m + 1) fs : Nat) := by
  unfold coV
  rw [if_pos h, show ((m : Int) + 1).toNat = m + 1 by omega]

end Go.Proofs.Ytkjmngdcfheojaa
