/- Walks: ChooseMethod and its law. -/
import Derived.Test.YtjlebikidoedmaaWj
import Derived.Test.YtjlebikidoedmaaKc
import Derived.Test.YtjlebikidoedmaaWa
namespace Go.Proofs.Ytjlebikidoedmaa
open Go.RowKit
set_option linter.unusedVariables false

theorem same_flip {P : Program} {f : FuncId} {args : Array Value} {w : World} {r : Ending} (h : Calls P f args w fun e w' => e = r ∧ w = w') : Calls P f args w fun e w' => e = r ∧ w' = w :=
  h.mono fun _ _ ⟨a, b⟩ => ⟨a, b.symm⟩

def chooseAns (c r v d g m : Int) : Int × Int × Bool :=
  if okProf c r v d g && inB m 1 64 then
    if r ≤ 1 then (0, 0, true) else if v ≤ c then (1, v + c, true) else if g ≤ 2 * c then (2, c + g, true) else if c ≤ m then (3, c * passes r 2, true) else (4, 2 * c * (1 + passes ((c + m - 1) / m) 2), true)
  else (0, 0, false)

theorem okProf_range {c r v d g : Int} (h : okProf c r v d g = true) : 0 ≤ c ∧ c ≤ 64 ∧ 0 ≤ r ∧ r ≤ 64 ∧ 0 ≤ v ∧ v ≤ 2016 ∧ 0 ≤ g ∧ g ≤ 200001 ∧ 0 ≤ d ∧ (c = 0 → r = 0) := by
  unfold okProf at h
  rw [Bool.and_eq_true] at h
  obtain ⟨h0, h⟩ := h
  obtain ⟨hc0, hc1⟩ := inB_iff.1 h0
  have ht := tri_bound hc0 hc1
  by_cases hc : c = 0
  · rw [if_pos hc] at h
    simp at h
    omega
  · rw [if_neg hc] at h
    simp only [Bool.and_eq_true, inB_iff] at h
    omega

theorem ret_iib {a b c d : Int} {p q : Bool} (h : a = b) (k : c = d) (l : p = q) : Ending.returned (.tuple #[.int .i64 a, .int .i64 c, .bool p]) = .returned (.tuple #[.int .i64 b, .int .i64 d, .bool q]) := by rw [h, k, l]

theorem ret_ans {x : Int × Int × Bool} {a b : Int} {p : Bool} (h : x = (a, b, p)) : Ending.returned (.tuple #[.int .i64 a, .int .i64 b, .bool p]) = .returned (.tuple #[.int .i64 x.1, .int .i64 x.2.1, .bool x.2.2]) := by rw [h]

theorem mul_small {a b : Int} (h0 : 0 ≤ a) (h1 : a ≤ 128) (h2 : 0 ≤ b) (h3 : b ≤ 200) : 0 ≤ a * b ∧ a * b ≤ 25600 := by
  constructor
  · exact Int.mul_nonneg h0 h2
  · have : a * b ≤ 128 * 200 := Int.mul_le_mul h1 h3 h2 (by omega)
    omega

set_option maxRecDepth 100000 in
set_option maxHeartbeats 4000000 in
theorem specChooseMethod_any (c r v d g m : Int) (w : World) :
    Calls Try.prog 16 #[.agg #[.int .i64 c, .int .i64 r, .int .i64 v, .int .i64 d, .int .i64 g], .int .i64 m] w fun e w' => e = .returned (.tuple #[.int .i64 (chooseAns c r v d g m).1, .int .i64 (chooseAns c r v d g m).2.1, .bool (chooseAns c r v d g m).2.2]) ∧ Below w.heap.size w w' := by
  have HB0 : Hid (Below w.heap.size w (w.alloc (.cells #[.int .i64 c, .int .i64 r, .int .i64 v, .int .i64 d, .int .i64 g] 35))) := (Below.refl _ _).alloc (Nat.le_refl _) _
  have HC : Hid (∀ w2, Below (w.alloc (.cells #[.int .i64 c, .int .i64 r, .int .i64 v, .int .i64 d, .int .i64 g] 35)).heap.size (w.alloc (.cells #[.int .i64 c, .int .i64 r, .int .i64 v, .int .i64 d, .int .i64 g] 35)) w2 → ∀ j, j < 5 → w2.cell? ⟨w.heap.size, j, none⟩ = (#[Value.int .i64 c, .int .i64 r, .int .i64 v, .int .i64 d, .int .i64 g] : Array Value)[j]?) := by
    intro w2 hb j hj
    rw [hb.cell (p := ⟨w.heap.size, j, none⟩) (by simp), World.cell?_alloc_at _ _ _ _ rfl]
  have HL := Lib.hid (l24Profile_any c r v d g (w.alloc (.cells #[.int .i64 c, .int .i64 r, .int .i64 v, .int .i64 d, .int .i64 g] 35)))
  cases h0 : okProf c r v d g
  · have HA : Hid (chooseAns c r v d g m = (0, 0, false)) := by show _ = _; simp [chooseAns, h0]
    rw [h0] at HL
    clear h0
    go_enter Try.func16, Try.ntmps16
    go_wp2_with fail
    refine HL.out.mono ?_
    rintro e w2 ⟨rfl, hb⟩
    have HB := Lib.hid (HB0.out.trans (hb.mono HB0.out.size))
    clear hb
    go_wp2
    go_ret3
    exact ⟨ret_ans HA.out, HB.out⟩
  obtain ⟨q0, q1, q2, q3, q4, q5, q6, q7, q8, q9⟩ := okProf_range h0
  rw [h0] at HL
  cases hm : inB m 1 64
  · have HA : Hid (chooseAns c r v d g m = (0, 0, false)) := by show _ = _; simp [chooseAns, h0, hm]
    clear h0
    go_enter Try.func16, Try.ntmps16
    go_wp2_with fail
    refine HL.out.mono ?_
    rintro e w2 ⟨rfl, hb⟩
    have HB := Lib.hid (HB0.out.trans (hb.mono HB0.out.size))
    clear hb
    go_wp2_with (go_at_call 37; refine (l1In_any _ _ _ _).mono ?_; rintro e w' ⟨rfl, rfl⟩)
    go_ret3
    exact ⟨ret_ans HA.out, HB.out⟩
  obtain ⟨m0, m1⟩ := inB_iff.1 hm
  have hq0 : 0 ≤ (c + m - 1) / m := Int.ediv_nonneg (by omega) (by omega)
  have hq1 : (c + m - 1) / m ≤ c + m - 1 := Int.ediv_le_self _ (by omega)
  have HG := Lib.hid (fun w1 => specPassCount_yes ((c + m - 1) / m) 2 w1 (inB_iff.2 ⟨hq0, by omega⟩) (by decide))
  have HP := Lib.hid (fun w1 => specPassCount_yes r 2 w1 (inB_iff.2 ⟨q2, by omega⟩) (by decide))
  have pb1 := passes_bound 2 (by omega) r.toNat r (Nat.le_refl _)
  have pb2 := passes_bound 2 (by omega) ((c + m - 1) / m).toNat ((c + m - 1) / m) (Nat.le_refl _)
  have u1 : 0 ≤ passes r 2 ∧ passes r 2 ≤ 64 := by omega
  have u2 : 0 ≤ passes ((c + m - 1) / m) 2 ∧ passes ((c + m - 1) / m) 2 ≤ 128 := by omega
  have u3 := mul_small q0 (by omega) u1.1 (by omega : passes r 2 ≤ 200)
  have u4 := mul_small (a := 2 * c) (by omega) (by omega) (by omega : 0 ≤ 1 + passes ((c + m - 1) / m) 2) (by omega)
  have HM := Lib.hid hm
  clear pb1 pb2
  have hA : chooseAns c r v d g m = if r ≤ 1 then (0, 0, true) else if v ≤ c then (1, v + c, true) else if g ≤ 2 * c then (2, c + g, true) else if c ≤ m then (3, c * passes r 2, true) else (4, 2 * c * (1 + passes ((c + m - 1) / m) 2), true) := by simp [chooseAns, h0, hm]
  clear h0
  by_cases t0 : r ≤ 1
  · have HA := Lib.hid (hA.trans (by rw [if_pos t0]))
    clear hA
    go_enter Try.func16, Try.ntmps16
    go_wp2_with fail
    refine HL.out.mono ?_
    rintro e w2 ⟨rfl, hb⟩
    have HB := Lib.hid (HB0.out.trans (hb.mono HB0.out.size))
    have g0 : w2.cell? ⟨w.heap.size, 0, none⟩ = some (.int .i64 c) := HC.out w2 hb 0 (by omega)
    have g1 : w2.cell? ⟨w.heap.size, 1, none⟩ = some (.int .i64 r) := HC.out w2 hb 1 (by omega)
    have g2 : w2.cell? ⟨w.heap.size, 2, none⟩ = some (.int .i64 v) := HC.out w2 hb 2 (by omega)
    have g3 : w2.cell? ⟨w.heap.size, 3, none⟩ = some (.int .i64 d) := HC.out w2 hb 3 (by omega)
    have g4 : w2.cell? ⟨w.heap.size, 4, none⟩ = some (.int .i64 g) := HC.out w2 hb 4 (by omega)
    clear hb
    go_wp2_with (first | (go_at_call 37; refine (l1In_any _ _ _ _).mono ?_; rintro e w' ⟨rfl, rfl⟩) | (go_at_call 44; (first | (with_reducible refine (HG.out _).mono ?_) | (with_reducible refine (HP.out _).mono ?_)); rintro e w' ⟨rfl, rfl⟩))
    go_ret3
    exact ⟨ret_ans HA.out, HB.out⟩
  by_cases t1 : v ≤ c
  · have HA := Lib.hid (hA.trans (by rw [if_neg t0, if_pos t1]))
    clear hA
    go_enter Try.func16, Try.ntmps16
    go_wp2_with fail
    refine HL.out.mono ?_
    rintro e w2 ⟨rfl, hb⟩
    have HB := Lib.hid (HB0.out.trans (hb.mono HB0.out.size))
    have g0 : w2.cell? ⟨w.heap.size, 0, none⟩ = some (.int .i64 c) := HC.out w2 hb 0 (by omega)
    have g1 : w2.cell? ⟨w.heap.size, 1, none⟩ = some (.int .i64 r) := HC.out w2 hb 1 (by omega)
    have g2 : w2.cell? ⟨w.heap.size, 2, none⟩ = some (.int .i64 v) := HC.out w2 hb 2 (by omega)
    have g3 : w2.cell? ⟨w.heap.size, 3, none⟩ = some (.int .i64 d) := HC.out w2 hb 3 (by omega)
    have g4 : w2.cell? ⟨w.heap.size, 4, none⟩ = some (.int .i64 g) := HC.out w2 hb 4 (by omega)
    clear hb
    go_wp2_with (first | (go_at_call 37; refine (l1In_any _ _ _ _).mono ?_; rintro e w' ⟨rfl, rfl⟩) | (go_at_call 44; (first | (with_reducible refine (HG.out _).mono ?_) | (with_reducible refine (HP.out _).mono ?_)); rintro e w' ⟨rfl, rfl⟩))
    go_quiet (fail)
    go_wp2
    go_ret3
    exact ⟨ret_ans HA.out, below_drewN HB.out _⟩
  by_cases t2 : g ≤ 2 * c
  · have HA := Lib.hid (hA.trans (by rw [if_neg t0, if_neg t1, if_pos t2]))
    clear hA
    go_enter Try.func16, Try.ntmps16
    go_wp2_with fail
    refine HL.out.mono ?_
    rintro e w2 ⟨rfl, hb⟩
    have HB := Lib.hid (HB0.out.trans (hb.mono HB0.out.size))
    have g0 : w2.cell? ⟨w.heap.size, 0, none⟩ = some (.int .i64 c) := HC.out w2 hb 0 (by omega)
    have g1 : w2.cell? ⟨w.heap.size, 1, none⟩ = some (.int .i64 r) := HC.out w2 hb 1 (by omega)
    have g2 : w2.cell? ⟨w.heap.size, 2, none⟩ = some (.int .i64 v) := HC.out w2 hb 2 (by omega)
    have g3 : w2.cell? ⟨w.heap.size, 3, none⟩ = some (.int .i64 d) := HC.out w2 hb 3 (by omega)
    have g4 : w2.cell? ⟨w.heap.size, 4, none⟩ = some (.int .i64 g) := HC.out w2 hb 4 (by omega)
    clear hb
    go_wp2_with (first | (go_at_call 37; refine (l1In_any _ _ _ _).mono ?_; rintro e w' ⟨rfl, rfl⟩) | (go_at_call 44; (first | (with_reducible refine (HG.out _).mono ?_) | (with_reducible refine (HP.out _).mono ?_)); rintro e w' ⟨rfl, rfl⟩))
    go_quiet (fail)
    go_wp2
    go_ret3
    exact ⟨ret_ans HA.out, below_drewN HB.out _⟩
  by_cases t3 : c ≤ m
  · have HA := Lib.hid (hA.trans (by rw [if_neg t0, if_neg t1, if_neg t2, if_pos t3]))
    clear hA
    go_enter Try.func16, Try.ntmps16
    go_wp2_with fail
    refine HL.out.mono ?_
    rintro e w2 ⟨rfl, hb⟩
    have HB := Lib.hid (HB0.out.trans (hb.mono HB0.out.size))
    have g0 : w2.cell? ⟨w.heap.size, 0, none⟩ = some (.int .i64 c) := HC.out w2 hb 0 (by omega)
    have g1 : w2.cell? ⟨w.heap.size, 1, none⟩ = some (.int .i64 r) := HC.out w2 hb 1 (by omega)
    have g2 : w2.cell? ⟨w.heap.size, 2, none⟩ = some (.int .i64 v) := HC.out w2 hb 2 (by omega)
    have g3 : w2.cell? ⟨w.heap.size, 3, none⟩ = some (.int .i64 d) := HC.out w2 hb 3 (by omega)
    have g4 : w2.cell? ⟨w.heap.size, 4, none⟩ = some (.int .i64 g) := HC.out w2 hb 4 (by omega)
    clear hb
    go_wp2_with (first | (go_at_call 37; refine (l1In_any _ _ _ _).mono ?_; rintro e w' ⟨rfl, rfl⟩) | (go_at_call 44; (first | (with_reducible refine (HG.out _).mono ?_) | (with_reducible refine (HP.out _).mono ?_)); rintro e w' ⟨rfl, rfl⟩))
    go_quiet (fail)
    go_wp2
    go_ret3
    exact ⟨ret_ans HA.out, below_drewN HB.out _⟩
  have HA := Lib.hid (hA.trans (by rw [if_neg t0, if_neg t1, if_neg t2, if_neg t3]))
  clear hA
  go_enter Try.func16, Try.ntmps16
  go_wp2_with fail
  refine HL.out.mono ?_
  rintro e w2 ⟨rfl, hb⟩
  have HB := Lib.hid (HB0.out.trans (hb.mono HB0.out.size))
  have g0 : w2.cell? ⟨w.heap.size, 0, none⟩ = some (.int .i64 c) := HC.out w2 hb 0 (by omega)
  have g1 : w2.cell? ⟨w.heap.size, 1, none⟩ = some (.int .i64 r) := HC.out w2 hb 1 (by omega)
  have g2 : w2.cell? ⟨w.heap.size, 2, none⟩ = some (.int .i64 v) := HC.out w2 hb 2 (by omega)
  have g3 : w2.cell? ⟨w.heap.size, 3, none⟩ = some (.int .i64 d) := HC.out w2 hb 3 (by omega)
  have g4 : w2.cell? ⟨w.heap.size, 4, none⟩ = some (.int .i64 g) := HC.out w2 hb 4 (by omega)
  clear hb
  go_wp2_with (first | (go_at_call 37; refine (l1In_any _ _ _ _).mono ?_; rintro e w' ⟨rfl, rfl⟩) | (go_at_call 44; (first | (with_reducible refine (HG.out _).mono ?_) | (with_reducible refine (HP.out _).mono ?_)); rintro e w' ⟨rfl, rfl⟩))
  go_quiet (fail)
  go_wp2
  go_ret3
  exact ⟨ret_ans HA.out, below_drewN HB.out _⟩

set_option maxRecDepth 100000 in
set_option maxHeartbeats 4000000 in
theorem implChooseMethod_any (c r v d g m : Int) (w : World) :
    Calls Try.prog 18 #[.agg #[.int .i64 c, .int .i64 r, .int .i64 v, .int .i64 d, .int .i64 g], .int .i64 m] w fun e w' => e = .returned (.tuple #[.int .i64 (chooseAns c r v d g m).1, .int .i64 (chooseAns c r v d g m).2.1, .bool (chooseAns c r v d g m).2.2]) ∧ Below w.heap.size w w' := by
  have HB0 : Hid (Below w.heap.size w (w.alloc (.cells #[.int .i64 c, .int .i64 r, .int .i64 v, .int .i64 d, .int .i64 g] 35))) := (Below.refl _ _).alloc (Nat.le_refl _) _
  have HC : Hid (∀ w2, Below (w.alloc (.cells #[.int .i64 c, .int .i64 r, .int .i64 v, .int .i64 d, .int .i64 g] 35)).heap.size (w.alloc (.cells #[.int .i64 c, .int .i64 r, .int .i64 v, .int .i64 d, .int .i64 g] 35)) w2 → ∀ j, j < 5 → w2.cell? ⟨w.heap.size, j, none⟩ = (#[Value.int .i64 c, .int .i64 r, .int .i64 v, .int .i64 d, .int .i64 g] : Array Value)[j]?) := by
    intro w2 hb j hj
    rw [hb.cell (p := ⟨w.heap.size, j, none⟩) (by simp), World.cell?_alloc_at _ _ _ _ rfl]
  cases hc0 : inB c 0 64
  · have HA : Hid (chooseAns c r v d g m = (0, 0, false)) := by show _ = _; simp [chooseAns, okProf, hc0]
    have HI := Lib.hid (hc0 ▸ in_any c 0 64 (w.alloc (.cells #[.int .i64 c, .int .i64 r, .int .i64 v, .int .i64 d, .int .i64 g] 35)))
    clear hc0
    go_enter Try.func18, Try.ntmps18
    go_wp2_with (go_at_call 40; refine HI.out.mono ?_; rintro e w' ⟨rfl, rfl⟩)
    go_ret3
    exact ⟨ret_ans HA.out, HB0.out⟩
  have HI := Lib.hid (hc0 ▸ in_any c 0 64 (w.alloc (.cells #[.int .i64 c, .int .i64 r, .int .i64 v, .int .i64 d, .int .i64 g] 35)))
  have HL := Lib.hid (isProfile_any c r v d g (w.alloc (.cells #[.int .i64 c, .int .i64 r, .int .i64 v, .int .i64 d, .int .i64 g] 35)) hc0)
  clear hc0
  cases h0 : okProf c r v d g
  · have HA : Hid (chooseAns c r v d g m = (0, 0, false)) := by show _ = _; simp [chooseAns, h0]
    rw [h0] at HL
    clear h0
    go_enter Try.func18, Try.ntmps18
    go_wp2_with fail
    refine HI.out.mono ?_
    rintro e w' ⟨rfl, rfl⟩
    go_wp2_with fail
    refine HL.out.mono ?_
    rintro e w2 ⟨rfl, hb⟩
    have HB := Lib.hid (HB0.out.trans (hb.mono HB0.out.size))
    clear hb
    go_wp2
    go_ret3
    exact ⟨ret_ans HA.out, HB.out⟩
  obtain ⟨q0, q1, q2, q3, q4, q5, q6, q7, q8, q9⟩ := okProf_range h0
  rw [h0] at HL
  cases hm : inB m 1 64
  · have HA : Hid (chooseAns c r v d g m = (0, 0, false)) := by show _ = _; simp [chooseAns, h0, hm]
    clear h0
    go_enter Try.func18, Try.ntmps18
    go_wp2_with fail
    refine HI.out.mono ?_
    rintro e w' ⟨rfl, rfl⟩
    go_wp2_with fail
    refine HL.out.mono ?_
    rintro e w2 ⟨rfl, hb⟩
    have HB := Lib.hid (HB0.out.trans (hb.mono HB0.out.size))
    clear hb
    go_wp2_with (go_at_call 40; refine (in_any _ _ _ _).mono ?_; rintro e w' ⟨rfl, rfl⟩)
    go_ret3
    exact ⟨ret_ans HA.out, HB.out⟩
  obtain ⟨m0, m1⟩ := inB_iff.1 hm
  have hq0 : 0 ≤ (c + m - 1) / m := Int.ediv_nonneg (by omega) (by omega)
  have hq1 : (c + m - 1) / m ≤ c + m - 1 := Int.ediv_le_self _ (by omega)
  have HG := Lib.hid (fun w1 => passCount_any ((c + m - 1) / m) 2 w1 (by omega) (by omega) (by omega) (by omega))
  have HP := Lib.hid (fun w1 => passCount_any r 2 w1 (by omega) (by omega) (by omega) (by omega))
  have HK := Lib.hid (fun w1 => blocks_any c m w1 (by omega) (by omega) (by omega) (by omega))
  have pb1 := passes_bound 2 (by omega) r.toNat r (Nat.le_refl _)
  have pb2 := passes_bound 2 (by omega) ((c + m - 1) / m).toNat ((c + m - 1) / m) (Nat.le_refl _)
  have u1 : 0 ≤ passes r 2 ∧ passes r 2 ≤ 64 := by omega
  have u2 : 0 ≤ passes ((c + m - 1) / m) 2 ∧ passes ((c + m - 1) / m) 2 ≤ 128 := by omega
  have u3 := mul_small q0 (by omega) u1.1 (by omega : passes r 2 ≤ 200)
  have u4 := mul_small (a := 2 * c) (by omega) (by omega) (by omega : 0 ≤ 1 + passes ((c + m - 1) / m) 2) (by omega)
  have HM := Lib.hid hm
  clear pb1 pb2
  have hA : chooseAns c r v d g m = if r ≤ 1 then (0, 0, true) else if v ≤ c then (1, v + c, true) else if g ≤ 2 * c then (2, c + g, true) else if c ≤ m then (3, c * passes r 2, true) else (4, 2 * c * (1 + passes ((c + m - 1) / m) 2), true) := by simp [chooseAns, h0, hm]
  clear h0
  by_cases t0 : r ≤ 1
  · have HA := Lib.hid (hA.trans (by rw [if_pos t0]))
    clear hA
    go_enter Try.func18, Try.ntmps18
    go_wp2_with fail
    refine HI.out.mono ?_
    rintro e w' ⟨rfl, rfl⟩
    go_wp2_with fail
    refine HL.out.mono ?_
    rintro e w2 ⟨rfl, hb⟩
    have HB := Lib.hid (HB0.out.trans (hb.mono HB0.out.size))
    have g0 : w2.cell? ⟨w.heap.size, 0, none⟩ = some (.int .i64 c) := HC.out w2 hb 0 (by omega)
    have g1 : w2.cell? ⟨w.heap.size, 1, none⟩ = some (.int .i64 r) := HC.out w2 hb 1 (by omega)
    have g2 : w2.cell? ⟨w.heap.size, 2, none⟩ = some (.int .i64 v) := HC.out w2 hb 2 (by omega)
    have g3 : w2.cell? ⟨w.heap.size, 3, none⟩ = some (.int .i64 d) := HC.out w2 hb 3 (by omega)
    have g4 : w2.cell? ⟨w.heap.size, 4, none⟩ = some (.int .i64 g) := HC.out w2 hb 4 (by omega)
    clear hb
    go_wp2_with (first | (go_at_call 40; refine (in_any _ _ _ _).mono ?_; rintro e w' ⟨rfl, rfl⟩))
    go_ret3
    exact ⟨ret_ans HA.out, HB.out⟩
  by_cases t1 : v ≤ c
  · have HA := Lib.hid (hA.trans (by rw [if_neg t0, if_pos t1]))
    clear hA
    go_enter Try.func18, Try.ntmps18
    go_wp2_with fail
    refine HI.out.mono ?_
    rintro e w' ⟨rfl, rfl⟩
    go_wp2_with fail
    refine HL.out.mono ?_
    rintro e w2 ⟨rfl, hb⟩
    have HB := Lib.hid (HB0.out.trans (hb.mono HB0.out.size))
    have g0 : w2.cell? ⟨w.heap.size, 0, none⟩ = some (.int .i64 c) := HC.out w2 hb 0 (by omega)
    have g1 : w2.cell? ⟨w.heap.size, 1, none⟩ = some (.int .i64 r) := HC.out w2 hb 1 (by omega)
    have g2 : w2.cell? ⟨w.heap.size, 2, none⟩ = some (.int .i64 v) := HC.out w2 hb 2 (by omega)
    have g3 : w2.cell? ⟨w.heap.size, 3, none⟩ = some (.int .i64 d) := HC.out w2 hb 3 (by omega)
    have g4 : w2.cell? ⟨w.heap.size, 4, none⟩ = some (.int .i64 g) := HC.out w2 hb 4 (by omega)
    clear hb
    go_wp2_with (first | (go_at_call 40; refine (in_any _ _ _ _).mono ?_; rintro e w' ⟨rfl, rfl⟩))
    go_quiet (fail)
    go_wp2
    go_ret3
    exact ⟨ret_ans HA.out, below_drewN HB.out _⟩
  by_cases t2 : g ≤ 2 * c
  · have HA := Lib.hid (hA.trans (by rw [if_neg t0, if_neg t1, if_pos t2]))
    clear hA
    go_enter Try.func18, Try.ntmps18
    go_wp2_with fail
    refine HI.out.mono ?_
    rintro e w' ⟨rfl, rfl⟩
    go_wp2_with fail
    refine HL.out.mono ?_
    rintro e w2 ⟨rfl, hb⟩
    have HB := Lib.hid (HB0.out.trans (hb.mono HB0.out.size))
    have g0 : w2.cell? ⟨w.heap.size, 0, none⟩ = some (.int .i64 c) := HC.out w2 hb 0 (by omega)
    have g1 : w2.cell? ⟨w.heap.size, 1, none⟩ = some (.int .i64 r) := HC.out w2 hb 1 (by omega)
    have g2 : w2.cell? ⟨w.heap.size, 2, none⟩ = some (.int .i64 v) := HC.out w2 hb 2 (by omega)
    have g3 : w2.cell? ⟨w.heap.size, 3, none⟩ = some (.int .i64 d) := HC.out w2 hb 3 (by omega)
    have g4 : w2.cell? ⟨w.heap.size, 4, none⟩ = some (.int .i64 g) := HC.out w2 hb 4 (by omega)
    clear hb
    go_wp2_with (first | (go_at_call 40; refine (in_any _ _ _ _).mono ?_; rintro e w' ⟨rfl, rfl⟩))
    go_quiet (fail)
    go_wp2
    go_ret3
    exact ⟨ret_ans HA.out, below_drewN HB.out _⟩
  by_cases t3 : c ≤ m
  · have HA := Lib.hid (hA.trans (by rw [if_neg t0, if_neg t1, if_neg t2, if_pos t3]))
    clear hA
    go_enter Try.func18, Try.ntmps18
    go_wp2_with fail
    refine HI.out.mono ?_
    rintro e w' ⟨rfl, rfl⟩
    go_wp2_with fail
    refine HL.out.mono ?_
    rintro e w2 ⟨rfl, hb⟩
    have HB := Lib.hid (HB0.out.trans (hb.mono HB0.out.size))
    have g0 : w2.cell? ⟨w.heap.size, 0, none⟩ = some (.int .i64 c) := HC.out w2 hb 0 (by omega)
    have g1 : w2.cell? ⟨w.heap.size, 1, none⟩ = some (.int .i64 r) := HC.out w2 hb 1 (by omega)
    have g2 : w2.cell? ⟨w.heap.size, 2, none⟩ = some (.int .i64 v) := HC.out w2 hb 2 (by omega)
    have g3 : w2.cell? ⟨w.heap.size, 3, none⟩ = some (.int .i64 d) := HC.out w2 hb 3 (by omega)
    have g4 : w2.cell? ⟨w.heap.size, 4, none⟩ = some (.int .i64 g) := HC.out w2 hb 4 (by omega)
    clear hb
    go_wp2_with (first | (go_at_call 40; refine (in_any _ _ _ _).mono ?_; rintro e w' ⟨rfl, rfl⟩))
    go_quiet ((go_at_call 46; exact Calls.quiet_of_same (same_flip (HP.out _))))
    go_wp2
    go_ret3
    exact ⟨ret_ans HA.out, below_drewN HB.out _⟩
  have HA := Lib.hid (hA.trans (by rw [if_neg t0, if_neg t1, if_neg t2, if_neg t3]))
  clear hA
  go_enter Try.func18, Try.ntmps18
  go_wp2_with fail
  refine HI.out.mono ?_
  rintro e w' ⟨rfl, rfl⟩
  go_wp2_with fail
  refine HL.out.mono ?_
  rintro e w2 ⟨rfl, hb⟩
  have HB := Lib.hid (HB0.out.trans (hb.mono HB0.out.size))
  have g0 : w2.cell? ⟨w.heap.size, 0, none⟩ = some (.int .i64 c) := HC.out w2 hb 0 (by omega)
  have g1 : w2.cell? ⟨w.heap.size, 1, none⟩ = some (.int .i64 r) := HC.out w2 hb 1 (by omega)
  have g2 : w2.cell? ⟨w.heap.size, 2, none⟩ = some (.int .i64 v) := HC.out w2 hb 2 (by omega)
  have g3 : w2.cell? ⟨w.heap.size, 3, none⟩ = some (.int .i64 d) := HC.out w2 hb 3 (by omega)
  have g4 : w2.cell? ⟨w.heap.size, 4, none⟩ = some (.int .i64 g) := HC.out w2 hb 4 (by omega)
  clear hb
  go_wp2_with (first | (go_at_call 40; refine (in_any _ _ _ _).mono ?_; rintro e w' ⟨rfl, rfl⟩))
  go_quiet ((first | (go_at_call 46; exact Calls.quiet_of_same (same_flip (HG.out _))) | (go_at_call 47; exact Calls.quiet_of_same (same_flip (HK.out _)))))
  go_wp2
  go_ret3
  exact ⟨ret_ans HA.out, below_drewN HB.out _⟩

end Go.Proofs.Ytjlebikidoedmaa
