/- Several texts in one: lemmas and walks of the functions that the law reaches. -/
import Derived.Test.YtmgkdokaaoeobaaY12

namespace Go.Proofs.Ytmgkdokaaoeobaa.GG
open Go.RowKit Go.Sort
set_option linter.unusedVariables false

/-- A group that is valid. -/
structure GV (g : G5) : Prop where
  key : okKey g.1 = true
  ok : Mg.GOk g
  most : g.2.1 ≤ 1000
theorem inB_yes {a b c : Int} (h1 : b ≤ a) (h2 : a ≤ c) : inB a b c = true := by unfold inB; simp [h1, h2]

set_option maxRecDepth 100000 in
set_option maxHeartbeats 4000000 in
theorem isGroup_ok (x : G5) (w : World) (h : GV x) :
    Calls Try.prog 19 #[.agg #[.int .i64 x.1, .int .i64 x.2.1, .int .i64 x.2.2.1, .int .i64 x.2.2.2.1, .int .i64 x.2.2.2.2]] w fun e w' => e = .returned (.bool true) ∧ Below w.heap.size w w' := by
  obtain ⟨k, c, s, l, m⟩ := x
  obtain ⟨hk, ⟨c1, l0, lm, m9, one, lo, hi⟩, hc⟩ := h
  simp only at hk c1 l0 lm m9 one lo hi hc
  have HK := Lib.hid (fun W => isKey_any k W)
  rw [hk] at HK
  have HI := Lib.hid (fun W => in_any c 1 1000 W)
  rw [inB_yes c1 hc] at HI
  have HI2 := Lib.hid (fun W => in_any l 0 m W)
  rw [inB_yes l0 lm] at HI2
  have HB := Lib.hid ((Below.refl w.heap.size w).alloc (Nat.le_refl _) (.cells #[.int .i64 k, .int .i64 c, .int .i64 s, .int .i64 l, .int .i64 m] 34))
  have d9 : decide (999 < m) = false := decide_eq_false (by omega)
  by_cases h1 : c = 1
  · obtain ⟨o1, o2⟩ := one h1
    have e1 : decide (c = 1) = true := decide_eq_true h1
    have q1 : (l == m) = true := by simp [o1]
    have q2 : (s == l) = true := by simp [o2]
    have q0 : (c == 1) = true := by simp [h1]
    clear one lo hi hk c1 l0 lm m9 hc o1 o2 h1 e1
    go_enter Try.func19, Try.ntmps19
    go_wp2_with fail
    refine (HK.out _).mono ?_
    rintro e w' ⟨rfl, rfl⟩
    go_wp2_with fail
    refine (HI.out _).mono ?_
    rintro e w' ⟨rfl, rfl⟩
    go_wp2_with fail
    refine (HI2.out _).mono ?_
    rintro e w' ⟨rfl, rfl⟩
    go_wp2
    go_ret
    exact ⟨rfl, HB.out⟩
  · obtain ⟨P1, hP1⟩ : ∃ P, (c - 2) * l = P := ⟨_, rfl⟩
    obtain ⟨P2, hP2⟩ : ∃ P, (c - 2) * m = P := ⟨_, rfl⟩
    have a1 : 0 ≤ P1 := by rw [← hP1]; exact Int.mul_nonneg (by omega) l0
    have a2 : P1 ≤ 998 * 999 := by rw [← hP1]; exact Int.mul_le_mul (by omega) (by omega) l0 (by omega)
    have a3 : 0 ≤ P2 := by rw [← hP2]; exact Int.mul_nonneg (by omega) (by omega)
    have a4 : P2 ≤ 998 * 999 := by rw [← hP2]; exact Int.mul_le_mul (by omega) m9 (by omega) (by omega)
    have x1 : (c - 1) * l = P1 + l := by rw [← hP1, show c - 1 = (c - 2) + 1 by omega, Int.add_mul, Int.one_mul]
    have x2 : (c - 1) * m = P2 + m := by rw [← hP2, show c - 1 = (c - 2) + 1 by omega, Int.add_mul, Int.one_mul]
    rw [x1] at lo
    rw [x2] at hi
    have HI3 := Lib.hid (fun W => in_any s (l + m + P1) (l + m + P2) W)
    rw [inB_yes (by omega) (by omega)] at HI3
    have wp1 : IntKind.i64.wrap ((c - 2) * l) = P1 := by rw [hP1]; exact IntWalk.i64_in _ (by omega)
    have wp2 : IntKind.i64.wrap ((c - 2) * m) = P2 := by rw [hP2]; exact IntWalk.i64_in _ (by omega)
    have w3 : IntKind.i64.wrap (l + m + P1) = l + m + P1 := IntWalk.i64_in _ (by omega)
    have w4 : IntKind.i64.wrap (l + m + P2) = l + m + P2 := IntWalk.i64_in _ (by omega)
    have y1 : wrap64 P1 = P1 := IntWalk.wrap64_in P1 (by omega)
    have y2 : wrap64 P2 = P2 := IntWalk.wrap64_in P2 (by omega)
    have y3 : wrap64 (l + m + P1) = l + m + P1 := IntWalk.wrap64_in _ (by omega)
    have y4 : wrap64 (l + m + P2) = l + m + P2 := IntWalk.wrap64_in _ (by omega)
    have w5 : IntKind.i64.wrap (l + m) = l + m := IntWalk.i64_in _ (by omega)
    have w6 : IntKind.i64.wrap (c - 2) = c - 2 := IntWalk.i64_in _ (by omega)
    have q0 : (c == 1) = false := by simp [h1]
    clear one lo hi hk c1 l0 lm m9 hc h1 x1 x2 a1 a2 a3 a4
    go_enter Try.func19, Try.ntmps19
    go_wp2_with fail
    refine (HK.out _).mono ?_
    rintro e w' ⟨rfl, rfl⟩
    go_wp2_with fail
    refine (HI.out _).mono ?_
    rintro e w' ⟨rfl, rfl⟩
    go_wp2_with fail
    refine (HI2.out _).mono ?_
    rintro e w' ⟨rfl, rfl⟩
    go_wp2_with fail
    refine (HI3.out _).mono ?_
    rintro e w' ⟨rfl, rfl⟩
    go_wp2
    go_ret
    exact ⟨rfl, HB.out⟩

theorem strict_at {L : List G5} (h : Mg.Strict Mg.gKey L) {i : Nat} (hi : i + 1 < L.length) : (L.getD i (0, 0, 0, 0, 0)).1 < (L.getD (i + 1) (0, 0, 0, 0, 0)).1 := by
  have := List.pairwise_iff_getElem.1 h i (i + 1) (by omega) hi (by omega)
  rw [List.getD_eq_getElem?_getD, List.getD_eq_getElem?_getD, List.getElem?_eq_getElem (by omega), List.getElem?_eq_getElem hi]
  exact this

set_option maxRecDepth 100000 in
set_option maxHeartbeats 8000000 in
theorem isValidGroups_ok (B g c n : Nat) (L : List G5) (w : World) (hn : n ≤ 64) (hv : ∀ x ∈ L, GV x) (hs : Mg.Strict Mg.gKey L) (h : GRow w B g c n L) :
    Calls Try.prog 10 #[.slice (some ⟨g, 0, none⟩) n c] w fun e w' => e = .returned (.bool true) ∧ Below w.heap.size w w' := by
  have H := Lib.hid h
  have HL := Lib.hid (grow_len h)
  have HV := Lib.hid hv; have HS := Lib.hid hs
  clear h hv hs
  go_enter Try.func10, Try.ntmps10
  go_wp2
  go_loopw [7] (fun iv wr => ∃ i : Nat, iv = .int .i64 i ∧ i ≤ n ∧ Below w.heap.size w wr) (fun iv _ => n - (intOf iv).toNat)
  case atStart => exact ⟨0, rfl, by omega, Below.refl _ _⟩
  case round =>
    obtain ⟨i, rfl, hi, hb⟩ := hrel
    have HB := Lib.hid hb
    clear hb
    by_cases hlt : i < n
    case neg =>
      obtain rfl : i = n := by omega
      have h3 : decide ((i : Int) < (i : Int)) = false := by simp
      have h4 : (i : Int) ≤ 64 := by omega
      go_wp2
      go_ret
      exact ⟨ret_bool (by simp), HB.out⟩
    have h3 : decide ((i : Int) < (n : Int)) = true := decide_eq_true (by omega)
    have hiL : i < L.length := by rw [HL.out]; exact hlt
    obtain ⟨X, hX⟩ : ∃ X, L[i]? = some X := ⟨_, List.getElem?_eq_getElem hiL⟩
    have hXm : X ∈ L := List.mem_of_getElem? hX
    have HG := Lib.hid (fun W => isGroup_ok X W (HV.out X hXm))
    have HR := Lib.hid (own_below H.out (Nat.le_refl _) HB.out)
    obtain ⟨c0, c1, c2, c3, c4⟩ := rec_cells HR.out hX
    have hgd : L.getD i (0, 0, 0, 0, 0) = X := by rw [List.getD_eq_getElem?_getD, hX]; rfl
    obtain ⟨X1, X2, X3, X4, X5⟩ := X
    simp only at c0 c1 c2 c3 c4 HG
    have b1 : (i : Int) < (n : Int) := by omega
    have b2 : (0 : Int) ≤ (i : Int) := by omega
    have hba := (Below.refl wr.heap.size wr).alloc (Nat.le_refl _) (.cells #[.int .i64 X1, .int .i64 X2, .int .i64 X3, .int .i64 X4, .int .i64 X5] 34)
    obtain ⟨W1, hW⟩ : ∃ W1, wr.alloc (.cells #[.int .i64 X1, .int .i64 X2, .int .i64 X3, .int .i64 X4, .int .i64 X5] 34) = W1 := ⟨_, rfl⟩
    rw [hW] at hba
    have HB1 := Lib.hid (HB.out.trans (hba.mono HB.out.size))
    have HR1 := Lib.hid (own_below HR.out (Nat.le_refl _) hba)
    have e0 : W1.cell? ⟨wr.heap.size, 0, none⟩ = some (.int .i64 X1) := by rw [← hW]; simp
    have e1 : W1.cell? ⟨wr.heap.size, 1, none⟩ = some (.int .i64 X2) := by rw [← hW]; simp
    have e2 : W1.cell? ⟨wr.heap.size, 2, none⟩ = some (.int .i64 X3) := by rw [← hW]; simp
    have e3 : W1.cell? ⟨wr.heap.size, 3, none⟩ = some (.int .i64 X4) := by rw [← hW]; simp
    have e4 : W1.cell? ⟨wr.heap.size, 4, none⟩ = some (.int .i64 X5) := by rw [← hW]; simp
    have HNX := Lib.hid (fun (W : World) (hb : Below W1.heap.size W1 W) => (hb.cell (p := ⟨wr.heap.size, 0, none⟩) (World.block_lt_of_cell? W1 _ e0)).trans e0)
    clear hba hX hXm
    cases i with
    | zero =>
      have hd : decide ((0 : Int) < 0) = false := rfl
      rw [Nat.zero_mul] at c0
      rw [Nat.zero_mul, Nat.zero_add] at c1 c2 c3 c4
      go_wp2_with fail
      clear hW c0 c1 c2 c3 c4
      have HSX : Hid (∀ W, Below W1.heap.size W1 W → (fun w' => w'.cell? ⟨wr.heap.size, 0, none⟩ = some (.int .i64 X1) ∧ w'.cell? ⟨wr.heap.size, 1, none⟩ = some (.int .i64 X2) ∧ w'.cell? ⟨wr.heap.size, 2, none⟩ = some (.int .i64 X3) ∧ w'.cell? ⟨wr.heap.size, 3, none⟩ = some (.int .i64 X4) ∧ w'.cell? ⟨wr.heap.size, 4, none⟩ = some (.int .i64 X5) ∧ Below W1.heap.size W1 w') W) := fun W hb => ⟨(hb.cell (p := ⟨wr.heap.size, 0, none⟩) (World.block_lt_of_cell? W1 _ e0)).trans e0, (hb.cell (p := ⟨wr.heap.size, 1, none⟩) (World.block_lt_of_cell? W1 _ e1)).trans e1, (hb.cell (p := ⟨wr.heap.size, 2, none⟩) (World.block_lt_of_cell? W1 _ e2)).trans e2, (hb.cell (p := ⟨wr.heap.size, 3, none⟩) (World.block_lt_of_cell? W1 _ e3)).trans e3, (hb.cell (p := ⟨wr.heap.size, 4, none⟩) (World.block_lt_of_cell? W1 _ e4)).trans e4, hb⟩
      have hS0 := HSX.out W1.drew (Below.refl _ _).drew
      dsimp only at hS0
      clear e0 e1 e2 e3 e4 HNX
      refine wp_region_held_drew (S := (fun w' => w'.cell? ⟨wr.heap.size, 0, none⟩ = some (.int .i64 X1) ∧ w'.cell? ⟨wr.heap.size, 1, none⟩ = some (.int .i64 X2) ∧ w'.cell? ⟨wr.heap.size, 2, none⟩ = some (.int .i64 X3) ∧ w'.cell? ⟨wr.heap.size, 3, none⟩ = some (.int .i64 X4) ∧ w'.cell? ⟨wr.heap.size, 4, none⟩ = some (.int .i64 X5) ∧ Below W1.heap.size W1 w')) (by kernel_rfl) hS0 (fun hHeld => ?_)
      refine wpAnyH_take (i := 0) (v := ?v0) rfl (by kernel_rfl) (by kernel_rfl) (by kernel_rfl) (fun _ _ _ h => h) (Or.inl ⟨by rfl, ?hy0⟩) (by assumption) ?rest0
      case hy0 => (intro wq hSw; (try dsimp only at hSw); go_split_ands; go_simp; first | done | with_reducible rfl)
      (try simp only [List.getElem_toArray, List.getElem_cons_zero, Act.put, List.setIfInBounds_toArray, List.set_cons_zero, List.set_cons_succ])
      refine wpAnyH_ready (rs := [1]) (by kernel_rfl) (by simp) ?_
      refine AllReadyH.cons rfl (fun K hK => ?_) AllReadyH.nil
      go_simp
      go_at_call 19
      refine (HG.out _).mono ?_
      rintro e w7 ⟨rfl, hb7⟩
      have hb8 := (Below.refl W1.heap.size W1).drew.trans hb7
      have hS := HSX.out w7 hb8
      dsimp only at hS
      clear hHeld hS0 hb7
      (try go_wp2_with fail)
      refine hK.out _ _ hS (fun hHeld => ?_)
      clear hK K
      (try simp only [List.getElem_toArray, List.getElem_cons_succ, List.getElem_cons_zero, Act.put, List.setIfInBounds_toArray, List.set_cons_zero, List.set_cons_succ])
      refine wpAnyH_take (i := 2) (v := ?v2) rfl (by kernel_rfl) (by kernel_rfl) (by kernel_rfl) (fun _ _ _ h => h) (Or.inl ⟨by rfl, ?hy2⟩) (by assumption) ?rest2
      case hy2 => (intro wq hSw; (try dsimp only at hSw); go_split_ands; go_simp; first | done | with_reducible rfl)
      (try simp only [List.getElem_toArray, List.getElem_cons_succ, List.getElem_cons_zero, Act.put, List.setIfInBounds_toArray, List.set_cons_zero, List.set_cons_succ])
      refine wpAnyH_take (i := 3) (v := ?v3) rfl (by kernel_rfl) (by kernel_rfl) (by kernel_rfl) (fun _ _ _ h => h) (Or.inl ⟨by rfl, ?hy3⟩) (by assumption) ?rest3
      case hy3 => (intro wq hSw; (try dsimp only at hSw); go_split_ands; go_simp; first | done | with_reducible rfl)
      (try simp only [List.getElem_toArray, List.getElem_cons_succ, List.getElem_cons_zero, Act.put, List.setIfInBounds_toArray, List.set_cons_zero, List.set_cons_succ])
      refine wpAnyH_take (i := 4) (v := ?v4) rfl (by kernel_rfl) (by kernel_rfl) (by kernel_rfl) (fun _ _ _ h => h) (Or.inl ⟨by rfl, ?hy4⟩) (by assumption) ?rest4
      case hy4 => (intro wq hSw; (try dsimp only at hSw); go_split_ands; go_simp; first | done | with_reducible rfl)
      (try simp only [List.getElem_toArray, List.getElem_cons_succ, List.getElem_cons_zero, Act.put, List.setIfInBounds_toArray, List.set_cons_zero, List.set_cons_succ])
      refine wpAnyH_take (i := 5) (v := ?v5) rfl (by kernel_rfl) (by kernel_rfl) (by kernel_rfl) (fun _ _ _ h => h) (Or.inl ⟨by rfl, ?hy5⟩) (by assumption) ?rest5
      case hy5 => (intro wq hSw; (try dsimp only at hSw); go_split_ands; go_simp; first | done | with_reducible rfl)
      (try simp only [List.getElem_toArray, List.getElem_cons_succ, List.getElem_cons_zero, Act.put, List.setIfInBounds_toArray, List.set_cons_zero, List.set_cons_succ])
      refine wpAnyH_take (i := 6) (v := ?v6) rfl (by kernel_rfl) (by kernel_rfl) (by kernel_rfl) (fun _ _ _ h => h) (Or.inl ⟨by rfl, ?hy6⟩) (by assumption) ?rest6
      case hy6 => (intro wq hSw; (try dsimp only at hSw); go_split_ands; go_simp; first | done | with_reducible rfl)
      (try simp only [List.getElem_toArray, List.getElem_cons_succ, List.getElem_cons_zero, Act.put, List.setIfInBounds_toArray, List.set_cons_zero, List.set_cons_succ])
      refine wpAnyH_take (i := 7) (v := undef) rfl (by kernel_rfl) (by kernel_rfl) (by kernel_rfl) (fun _ _ _ h => h) (Or.inr ⟨by rfl, rfl⟩) (by assumption) ?_
      (try simp only [List.getElem_toArray, List.getElem_cons_succ, List.getElem_cons_zero, Act.put, List.setIfInBounds_toArray, List.set_cons_zero, List.set_cons_succ])
      refine wpAnyH_take (i := 8) (v := undef) rfl (by kernel_rfl) (by kernel_rfl) (by kernel_rfl) (fun _ _ _ h => h) (Or.inr ⟨by rfl, rfl⟩) (by assumption) ?_
      (try simp only [List.getElem_toArray, List.getElem_cons_succ, List.getElem_cons_zero, Act.put, List.setIfInBounds_toArray, List.set_cons_zero, List.set_cons_succ])
      refine wpAnyH_take (i := 9) (v := undef) rfl (by kernel_rfl) (by kernel_rfl) (by kernel_rfl) (fun _ _ _ h => h) (Or.inr ⟨by rfl, rfl⟩) (by assumption) ?_
      (try simp only [List.getElem_toArray, List.getElem_cons_succ, List.getElem_cons_zero, Act.put, List.setIfInBounds_toArray, List.set_cons_zero, List.set_cons_succ])
      refine wpAnyH_take (i := 10) (v := undef) rfl (by kernel_rfl) (by kernel_rfl) (by kernel_rfl) (fun _ _ _ h => h) (Or.inr ⟨by rfl, rfl⟩) (by assumption) ?_
      (try simp only [List.getElem_toArray, List.getElem_cons_succ, List.getElem_cons_zero, Act.put, List.setIfInBounds_toArray, List.set_cons_zero, List.set_cons_succ])
      refine wpAnyH_take (i := 11) (v := undef) rfl (by kernel_rfl) (by kernel_rfl) (by kernel_rfl) (fun _ _ _ h => h) (Or.inr ⟨by rfl, rfl⟩) (by assumption) ?_
      (try simp only [List.getElem_toArray, List.getElem_cons_succ, List.getElem_cons_zero, Act.put, List.setIfInBounds_toArray, List.set_cons_zero, List.set_cons_succ])
      refine wpAnyH_take (i := 12) (v := undef) rfl (by kernel_rfl) (by kernel_rfl) (by kernel_rfl) (fun _ _ _ h => h) (Or.inr ⟨by rfl, rfl⟩) (by assumption) ?_
      (try simp only [List.getElem_toArray, List.getElem_cons_succ, List.getElem_cons_zero, Act.put, List.setIfInBounds_toArray, List.set_cons_zero, List.set_cons_succ])
      refine wpAnyH_take (i := 13) (v := undef) rfl (by kernel_rfl) (by kernel_rfl) (by kernel_rfl) (fun _ _ _ h => h) (Or.inr ⟨by rfl, rfl⟩) (by assumption) ?_
      (try simp only [List.getElem_toArray, List.getElem_cons_succ, List.getElem_cons_zero, Act.put, List.setIfInBounds_toArray, List.set_cons_zero, List.set_cons_succ])
      refine wpAnyH_take (i := 14) (v := undef) rfl (by kernel_rfl) (by kernel_rfl) (by kernel_rfl) (fun _ _ _ h => h) (Or.inr ⟨by rfl, rfl⟩) (by assumption) ?_
      (try simp only [List.getElem_toArray, List.getElem_cons_succ, List.getElem_cons_zero, Act.put, List.setIfInBounds_toArray, List.set_cons_zero, List.set_cons_succ])
      refine wpAnyH_take (i := 15) (v := undef) rfl (by kernel_rfl) (by kernel_rfl) (by kernel_rfl) (fun _ _ _ h => h) (Or.inr ⟨by rfl, rfl⟩) (by assumption) ?_
      (try simp only [List.getElem_toArray, List.getElem_cons_succ, List.getElem_cons_zero, Act.put, List.setIfInBounds_toArray, List.set_cons_zero, List.set_cons_succ])
      refine wpAnyH_take (i := 16) (v := ?v16) rfl (by kernel_rfl) (by kernel_rfl) (by kernel_rfl) (fun _ _ _ h => h) (Or.inl ⟨by rfl, ?hy16⟩) (by assumption) ?rest16
      case hy16 => (intro wq hSw; (try dsimp only at hSw); go_split_ands; go_simp; first | done | with_reducible rfl)
      (try simp only [List.getElem_toArray, List.getElem_cons_succ, List.getElem_cons_zero, Act.put, List.setIfInBounds_toArray, List.set_cons_zero, List.set_cons_succ])
      refine wpAnyH_take (i := 17) (v := ?v17) rfl (by kernel_rfl) (by kernel_rfl) (by kernel_rfl) (fun _ _ _ h => h) (Or.inl ⟨by rfl, ?hy17⟩) (by assumption) ?rest17
      case hy17 => (intro wq hSw; (try dsimp only at hSw); go_split_ands; go_simp; first | done | with_reducible rfl)
      (try simp only [List.getElem_toArray, List.getElem_cons_succ, List.getElem_cons_zero, Act.put, List.setIfInBounds_toArray, List.set_cons_zero, List.set_cons_succ])
      refine wpAnyH_done (by kernel_rfl) ?_ _
      have HB7 := Lib.hid (HB1.out.trans (Below.mono hb8 HB1.out.size))
      clear hHeld hS hb8 HSX
      go_wp2
      go_roundw
      case rel => exact ⟨1, by go_num, by omega, HB7.out⟩
      case measure => simp [intOf] <;> omega
    | succ q =>
      have hd : decide ((0 : Int) < (q : Int) + 1) = true := decide_eq_true (by omega)
      have hqL : q < L.length := by omega
      obtain ⟨Y, hY⟩ : ∃ Y, L[q]? = some Y := ⟨_, List.getElem?_eq_getElem hqL⟩
      have hlt2 := strict_at HS.out hiL
      have hgd2 : L.getD q (0, 0, 0, 0, 0) = Y := by rw [List.getD_eq_getElem?_getD, hY]; rfl
      rw [hgd, hgd2] at hlt2
      obtain ⟨Y1, Y2, Y3, Y4, Y5⟩ := Y
      simp only at hlt2
      have hd2 : decide (X1 ≤ Y1) = false := decide_eq_false (by omega)
      have HRY := Lib.hid (fun (W : World) (hb : Below W1.heap.size W1 W) => (rec_cells (own_below HR1.out (Nat.le_refl _) hb) hY).1)
      have wq : IntKind.i64.wrap (q : Int) = (q : Int) := IntWalk.i64_in _ (by omega)
      have eq1 : ((q + 1 : Nat) : Int) = (q : Int) + 1 := by omega
      have b3 : (q : Int) < (n : Int) := by omega
      rw [eq1] at b1 b2 h3 ⊢
      have t1 : ((q : Int) + 1).toNat = q + 1 := by omega
      clear hgd hgd2 hY hlt2 hqL eq1
      go_wp2_with fail
      clear hW c0 c1 c2 c3 c4
      have HSX : Hid (∀ W, Below W1.heap.size W1 W → (fun w' => w'.cell? ⟨wr.heap.size, 0, none⟩ = some (.int .i64 X1) ∧ w'.cell? ⟨wr.heap.size, 1, none⟩ = some (.int .i64 X2) ∧ w'.cell? ⟨wr.heap.size, 2, none⟩ = some (.int .i64 X3) ∧ w'.cell? ⟨wr.heap.size, 3, none⟩ = some (.int .i64 X4) ∧ w'.cell? ⟨wr.heap.size, 4, none⟩ = some (.int .i64 X5) ∧ w'.cell? ⟨g, q * 5, none⟩ = some (.int .i64 Y1) ∧ Below W1.heap.size W1 w') W) := fun W hb => ⟨(hb.cell (p := ⟨wr.heap.size, 0, none⟩) (World.block_lt_of_cell? W1 _ e0)).trans e0, (hb.cell (p := ⟨wr.heap.size, 1, none⟩) (World.block_lt_of_cell? W1 _ e1)).trans e1, (hb.cell (p := ⟨wr.heap.size, 2, none⟩) (World.block_lt_of_cell? W1 _ e2)).trans e2, (hb.cell (p := ⟨wr.heap.size, 3, none⟩) (World.block_lt_of_cell? W1 _ e3)).trans e3, (hb.cell (p := ⟨wr.heap.size, 4, none⟩) (World.block_lt_of_cell? W1 _ e4)).trans e4, HRY.out W hb, hb⟩
      have hS0 := HSX.out W1.drew (Below.refl _ _).drew
      dsimp only at hS0
      clear e0 e1 e2 e3 e4 HNX HRY
      refine wp_region_held_drew (S := (fun w' => w'.cell? ⟨wr.heap.size, 0, none⟩ = some (.int .i64 X1) ∧ w'.cell? ⟨wr.heap.size, 1, none⟩ = some (.int .i64 X2) ∧ w'.cell? ⟨wr.heap.size, 2, none⟩ = some (.int .i64 X3) ∧ w'.cell? ⟨wr.heap.size, 3, none⟩ = some (.int .i64 X4) ∧ w'.cell? ⟨wr.heap.size, 4, none⟩ = some (.int .i64 X5) ∧ w'.cell? ⟨g, q * 5, none⟩ = some (.int .i64 Y1) ∧ Below W1.heap.size W1 w')) (by kernel_rfl) hS0 (fun hHeld => ?_)
      refine wpAnyH_take (i := 0) (v := ?vs0) rfl (by kernel_rfl) (by kernel_rfl) (by kernel_rfl) (fun _ _ _ h => h) (Or.inl ⟨by rfl, ?hys0⟩) (by assumption) ?rests0
      case hys0 => (intro wq hSw; (try dsimp only at hSw); go_split_ands; go_simp; first | done | with_reducible rfl)
      (try simp only [List.getElem_toArray, List.getElem_cons_zero, Act.put, List.setIfInBounds_toArray, List.set_cons_zero, List.set_cons_succ])
      refine wpAnyH_ready (rs := [1]) (by kernel_rfl) (by simp) ?_
      refine AllReadyH.cons rfl (fun K hK => ?_) AllReadyH.nil
      go_simp
      go_at_call 19
      refine (HG.out _).mono ?_
      rintro e w7 ⟨rfl, hb7⟩
      have hb8 := (Below.refl W1.heap.size W1).drew.trans hb7
      have hS := HSX.out w7 hb8
      dsimp only at hS
      clear hHeld hS0 hb7
      (try go_wp2_with fail)
      refine hK.out _ _ hS (fun hHeld => ?_)
      clear hK K
      (try simp only [List.getElem_toArray, List.getElem_cons_succ, List.getElem_cons_zero, Act.put, List.setIfInBounds_toArray, List.set_cons_zero, List.set_cons_succ])
      refine wpAnyH_take (i := 2) (v := ?vs2) rfl (by kernel_rfl) (by kernel_rfl) (by kernel_rfl) (fun _ _ _ h => h) (Or.inl ⟨by rfl, ?hys2⟩) (by assumption) ?rests2
      case hys2 => (intro wq hSw; (try dsimp only at hSw); go_split_ands; go_simp; first | done | with_reducible rfl)
      (try simp only [List.getElem_toArray, List.getElem_cons_succ, List.getElem_cons_zero, Act.put, List.setIfInBounds_toArray, List.set_cons_zero, List.set_cons_succ])
      refine wpAnyH_take (i := 3) (v := ?vs3) rfl (by kernel_rfl) (by kernel_rfl) (by kernel_rfl) (fun _ _ _ h => h) (Or.inl ⟨by rfl, ?hys3⟩) (by assumption) ?rests3
      case hys3 => (intro wq hSw; (try dsimp only at hSw); go_split_ands; go_simp; first | done | with_reducible rfl)
      (try simp only [List.getElem_toArray, List.getElem_cons_succ, List.getElem_cons_zero, Act.put, List.setIfInBounds_toArray, List.set_cons_zero, List.set_cons_succ])
      refine wpAnyH_take (i := 4) (v := ?vs4) rfl (by kernel_rfl) (by kernel_rfl) (by kernel_rfl) (fun _ _ _ h => h) (Or.inl ⟨by rfl, ?hys4⟩) (by assumption) ?rests4
      case hys4 => (intro wq hSw; (try dsimp only at hSw); go_split_ands; go_simp; first | done | with_reducible rfl)
      (try simp only [List.getElem_toArray, List.getElem_cons_succ, List.getElem_cons_zero, Act.put, List.setIfInBounds_toArray, List.set_cons_zero, List.set_cons_succ])
      refine wpAnyH_take (i := 5) (v := ?vs5) rfl (by kernel_rfl) (by kernel_rfl) (by kernel_rfl) (fun _ _ _ h => h) (Or.inl ⟨by rfl, ?hys5⟩) (by assumption) ?rests5
      case hys5 => (intro wq hSw; (try dsimp only at hSw); go_split_ands; go_simp; first | done | with_reducible rfl)
      (try simp only [List.getElem_toArray, List.getElem_cons_succ, List.getElem_cons_zero, Act.put, List.setIfInBounds_toArray, List.set_cons_zero, List.set_cons_succ])
      refine wpAnyH_take (i := 6) (v := ?vs6) rfl (by kernel_rfl) (by kernel_rfl) (by kernel_rfl) (fun _ _ _ h => h) (Or.inl ⟨by rfl, ?hys6⟩) (by assumption) ?rests6
      case hys6 => (intro wq hSw; (try dsimp only at hSw); go_split_ands; go_simp; first | done | with_reducible rfl)
      (try simp only [List.getElem_toArray, List.getElem_cons_succ, List.getElem_cons_zero, Act.put, List.setIfInBounds_toArray, List.set_cons_zero, List.set_cons_succ])
      refine wpAnyH_take (i := 7) (v := ?vs7) rfl (by kernel_rfl) (by kernel_rfl) (by kernel_rfl) (fun _ _ _ h => h) (Or.inl ⟨by rfl, ?hys7⟩) (by assumption) ?rests7
      case hys7 => (intro wq hSw; (try dsimp only at hSw); go_split_ands; go_simp; first | done | with_reducible rfl)
      (try simp only [List.getElem_toArray, List.getElem_cons_succ, List.getElem_cons_zero, Act.put, List.setIfInBounds_toArray, List.set_cons_zero, List.set_cons_succ])
      refine wpAnyH_take (i := 8) (v := ?vs8) rfl (by kernel_rfl) (by kernel_rfl) (by kernel_rfl) (fun _ _ _ h => h) (Or.inl ⟨by rfl, ?hys8⟩) (by assumption) ?rests8
      case hys8 => (intro wq hSw; (try dsimp only at hSw); go_split_ands; go_simp; first | done | with_reducible rfl)
      (try simp only [List.getElem_toArray, List.getElem_cons_succ, List.getElem_cons_zero, Act.put, List.setIfInBounds_toArray, List.set_cons_zero, List.set_cons_succ])
      refine wpAnyH_take (i := 9) (v := ?vs9) rfl (by kernel_rfl) (by kernel_rfl) (by kernel_rfl) (fun _ _ _ h => h) (Or.inl ⟨by rfl, ?hys9⟩) (by assumption) ?rests9
      case hys9 => (intro wq hSw; (try dsimp only at hSw); go_split_ands; go_simp; first | done | with_reducible rfl)
      (try simp only [List.getElem_toArray, List.getElem_cons_succ, List.getElem_cons_zero, Act.put, List.setIfInBounds_toArray, List.set_cons_zero, List.set_cons_succ])
      refine wpAnyH_take (i := 10) (v := ?vs10) rfl (by kernel_rfl) (by kernel_rfl) (by kernel_rfl) (fun _ _ _ h => h) (Or.inl ⟨by rfl, ?hys10⟩) (by assumption) ?rests10
      case hys10 => (intro wq hSw; (try dsimp only at hSw); go_split_ands; go_simp; first | done | with_reducible rfl)
      (try simp only [List.getElem_toArray, List.getElem_cons_succ, List.getElem_cons_zero, Act.put, List.setIfInBounds_toArray, List.set_cons_zero, List.set_cons_succ])
      refine wpAnyH_take (i := 11) (v := ?vs11) rfl (by kernel_rfl) (by kernel_rfl) (by kernel_rfl) (fun _ _ _ h => h) (Or.inl ⟨by rfl, ?hys11⟩) (by assumption) ?rests11
      case hys11 => (intro wq hSw; (try dsimp only at hSw); go_split_ands; go_simp; first | done | with_reducible rfl)
      (try simp only [List.getElem_toArray, List.getElem_cons_succ, List.getElem_cons_zero, Act.put, List.setIfInBounds_toArray, List.set_cons_zero, List.set_cons_succ])
      refine wpAnyH_take (i := 12) (v := ?vs12) rfl (by kernel_rfl) (by kernel_rfl) (by kernel_rfl) (fun _ _ _ h => h) (Or.inl ⟨by rfl, ?hys12⟩) (by assumption) ?rests12
      case hys12 => (intro wq hSw; (try dsimp only at hSw); go_split_ands; go_simp; first | done | with_reducible rfl)
      (try simp only [List.getElem_toArray, List.getElem_cons_succ, List.getElem_cons_zero, Act.put, List.setIfInBounds_toArray, List.set_cons_zero, List.set_cons_succ])
      refine wpAnyH_take (i := 13) (v := ?vs13) rfl (by kernel_rfl) (by kernel_rfl) (by kernel_rfl) (fun _ _ _ h => h) (Or.inl ⟨by rfl, ?hys13⟩) (by assumption) ?rests13
      case hys13 => (intro wq hSw; (try dsimp only at hSw); go_split_ands; go_simp; first | done | with_reducible rfl)
      (try simp only [List.getElem_toArray, List.getElem_cons_succ, List.getElem_cons_zero, Act.put, List.setIfInBounds_toArray, List.set_cons_zero, List.set_cons_succ])
      refine wpAnyH_take (i := 14) (v := ?vs14) rfl (by kernel_rfl) (by kernel_rfl) (by kernel_rfl) (fun _ _ _ h => h) (Or.inl ⟨by rfl, ?hys14⟩) (by assumption) ?rests14
      case hys14 => (intro wq hSw; (try dsimp only at hSw); go_split_ands; go_simp; first | done | with_reducible rfl)
      (try simp only [List.getElem_toArray, List.getElem_cons_succ, List.getElem_cons_zero, Act.put, List.setIfInBounds_toArray, List.set_cons_zero, List.set_cons_succ])
      refine wpAnyH_take (i := 15) (v := ?vs15) rfl (by kernel_rfl) (by kernel_rfl) (by kernel_rfl) (fun _ _ _ h => h) (Or.inl ⟨by rfl, ?hys15⟩) (by assumption) ?rests15
      case hys15 => (intro wq hSw; (try dsimp only at hSw); go_split_ands; go_simp; first | done | with_reducible rfl)
      (try simp only [List.getElem_toArray, List.getElem_cons_succ, List.getElem_cons_zero, Act.put, List.setIfInBounds_toArray, List.set_cons_zero, List.set_cons_succ])
      refine wpAnyH_take (i := 16) (v := ?vs16) rfl (by kernel_rfl) (by kernel_rfl) (by kernel_rfl) (fun _ _ _ h => h) (Or.inl ⟨by rfl, ?hys16⟩) (by assumption) ?rests16
      case hys16 => (intro wq hSw; (try dsimp only at hSw); go_split_ands; go_simp; first | done | with_reducible rfl)
      (try simp only [List.getElem_toArray, List.getElem_cons_succ, List.getElem_cons_zero, Act.put, List.setIfInBounds_toArray, List.set_cons_zero, List.set_cons_succ])
      refine wpAnyH_take (i := 17) (v := ?vs17) rfl (by kernel_rfl) (by kernel_rfl) (by kernel_rfl) (fun _ _ _ h => h) (Or.inl ⟨by rfl, ?hys17⟩) (by assumption) ?rests17
      case hys17 => (intro wq hSw; (try dsimp only at hSw); go_split_ands; go_simp; first | done | with_reducible rfl)
      (try simp only [List.getElem_toArray, List.getElem_cons_succ, List.getElem_cons_zero, Act.put, List.setIfInBounds_toArray, List.set_cons_zero, List.set_cons_succ])
      refine wpAnyH_done (by kernel_rfl) ?_ _
      have HB7 := Lib.hid (HB1.out.trans (Below.mono hb8 HB1.out.size))
      clear hHeld hS hb8 HSX
      go_wp2
      go_roundw
      case rel => exact ⟨q + 1 + 1, by go_num, by omega, HB7.out⟩
      case measure => simp [intOf] <;> omega
end Go.Proofs.Ytmgkdokaaoeobaa.GG

