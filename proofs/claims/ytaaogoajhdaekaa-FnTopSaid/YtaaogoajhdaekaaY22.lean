/- Several texts in one: lemmas and walks of the functions that the law reaches. -/
import Derived.Test.YtaaogoajhdaekaaY21
import Derived.Deep.LoopGhost

namespace Go.Proofs.Ytaaogoajhdaekaa
open Go.RowKit Go.Sort
set_option linter.unusedVariables false

set_option maxRecDepth 100000 in
set_option maxHeartbeats 8000000 in
theorem selection_any (x : Addr) (cap n : Nat) (zs : List Int) (w : World) (hn : zs.length = n) (hok : okList zs = true) (h : IntsAt w (some x) zs) :
    Calls Try.prog 14 #[.slice (some x) n cap] w (SortEnd1 w n (Mg.srtI zs)) := by
  have h64 := okList_len hok
  have HV := Lib.hid (isValidList_any (some x) cap zs w (by omega) h)
  rw [hok, hn] at HV
  have HI := Lib.hid h; have HN := Lib.hid hn
  have HC := Lib.hid (fun (W : World) (hW : IntsAt W (some x) zs) => copyOf_any x cap zs W (by omega) hW)
  rw [hn] at HC
  have hn64 : n ≤ 64 := by omega
  clear h hok hn h64
  unfold SortEnd1 SortEnd
  go_enter Try.func14, Try.ntmps14
  go_wp2_with fail
  refine HV.out.mono ?_
  rintro e w1 ⟨rfl, hb1⟩
  have HB1 := Lib.hid hb1
  have HC1 := Lib.hid (HC.out w1 (HI.out.below (Nat.le_refl _) hb1))
  clear hb1 HV HC
  go_wp2_with fail
  refine HC1.out.mono ?_
  rintro e w2 ⟨g, c, rfl, ho, hb⟩
  obtain ⟨k1, k2, k3⟩ := own_cap3 ho
  have HB2 := Lib.hid (HB1.out.trans (hb.mono HB1.out.size))
  have hsz := HB1.out.size
  have HO := Lib.hid ho
  clear ho hb HC1 HB1
  have HN2 := Lib.hid HN.out
  have hln := own_len HO.out
  clear hln
  go_wp2
  go_loopw [6, 17] (fun sv iv wr => ∃ (q i : Nat) (L : List Int), sv = .int .i64 q ∧ iv = .int .i64 i ∧ i ≤ n ∧ q ≤ i ∧ L.Perm zs ∧ Es.SelTo L i ∧ wr.ownsRow w1.heap.size 3 1 (.slice (some ⟨g, 0, none⟩) n c) n (L.map (Value.int .i64)) ∧ w2.grownBy wr (some g)) (fun _ iv _ => (200 - intOf iv).toNat)
  case atStart => exact ⟨0, 0, zs, rfl, rfl, by omega, by omega, List.Perm.refl _, fun a b h => by omega, HO.out, grown_of_below (Below.refl _ _)⟩
  case round =>
    obtain ⟨q, i, L, rfl, rfl, hi, hq, hp, hs, ho, hg⟩ := hrel
    have HP := Lib.hid hp; have HS := Lib.hid hs; have HO2 := Lib.hid ho; have HG2 := Lib.hid hg
    have hl := own_len ho
    have HL := Lib.hid hl
    clear hp hs ho hg hl
    by_cases hlt : i < n
    case neg =>
      obtain rfl : i = n := by omega
      have HE := Lib.hid (Es.SelTo.done (by rw [HL.out]; exact HS.out) HP.out)
      have hlt' : ¬ (i : Int) < (i : Int) := by omega
      go_wp2
      go_ret3
      rw [HE.out] at HO2
      exact ⟨_, g, c, rfl, own_baseI HO2.out hsz, below_in HB2.out hsz HG2.out k2⟩
    have hlt' : (i : Int) < (n : Int) := by omega
    go_wp2
    go_loopw [8, 9] (fun mv kv wx => ∃ (m k : Nat), mv = .int .i64 m ∧ kv = .int .i64 k ∧ i ≤ m ∧ m < k ∧ k ≤ n ∧ (∀ j, i ≤ j → j < k → L.getD m 0 ≤ L.getD j 0) ∧ wx.ownsRow w1.heap.size 3 1 (.slice (some ⟨g, 0, none⟩) n c) n (L.map (Value.int .i64)) ∧ w2.grownBy wx (some g)) (fun _ kv _ => (200 - intOf kv).toNat)
    case atStart => exact ⟨i, i + 1, rfl, by go_num, Nat.le_refl _, by omega, by omega, fun j h1 h2 => by
      obtain rfl : j = i := by omega
      exact Int.le_refl _, HO2.out, HG2.out⟩
    case round =>
      rename World => wx
      obtain ⟨m, k, rfl, rfl, h1, h2, h3, hm, ho, hg⟩ := hrel
      have HM := Lib.hid hm; have HO3 := Lib.hid ho; have HG3 := Lib.hid hg
      clear hm ho hg
      have cm := own_atI HO3.out (i := m) (by rw [HL.out]; omega)
      obtain ⟨Y, hY⟩ : ∃ Y, L.getD m 0 = Y := ⟨_, rfl⟩
      rw [hY] at cm
      have HY := Lib.hid hY; clear hY
      have hmn : (m : Int) < (n : Int) := by omega
      by_cases hk : k < n
      case pos =>
        have hk' : (k : Int) < (n : Int) := by omega
        have ck := own_atI HO3.out (i := k) (by rw [HL.out]; omega)
        obtain ⟨X, hX⟩ : ∃ X, L.getD k 0 = X := ⟨_, rfl⟩
        rw [hX] at ck
        have HX := Lib.hid hX; clear hX
        by_cases hXY : X < Y
        · have hd : decide (X < Y) = true := decide_eq_true hXY
          have HM2 : Hid (∀ j, i ≤ j → j < k + 1 → L.getD k 0 ≤ L.getD j 0) := fun j a b => by
            by_cases e : j = k
            · subst e; exact Int.le_refl _
            · have := HM.out j a (by omega); rw [HX.out]; rw [HY.out] at this; omega
          clear hXY
          go_wp2_with fail
          go_quiet (fail)
          go_wp2
          go_roundw
          case rel => exact ⟨k, k + 1, rfl, by go_num, by omega, by omega, by omega, HM2.out, HO3.out, grown_drewN HG3.out _⟩
          case measure => simp [intOf] <;> omega
        · have hd : decide (X < Y) = false := decide_eq_false hXY
          have HM2 : Hid (∀ j, i ≤ j → j < k + 1 → L.getD m 0 ≤ L.getD j 0) := fun j a b => by
            by_cases e : j = k
            · subst e; rw [HX.out, HY.out]; omega
            · exact HM.out j a (by omega)
          clear hXY
          go_wp2_with fail
          go_quiet (fail)
          go_wp2
          go_roundw
          case rel => exact ⟨m, k + 1, rfl, by go_num, by omega, by omega, by omega, HM2.out, HO3.out, grown_drewN HG3.out _⟩
          case measure => simp [intOf] <;> omega
      have hk' : ¬ (k : Int) < (n : Int) := by omega
      have HST := Lib.hid (HS.out.step (m := m) (by rw [HL.out]; exact hlt) h1 (by rw [HL.out]; omega) (fun j a b => HM.out j a (by rw [HL.out] at b; omega)))
      by_cases hmi : m = i
      · have hmz : ((m : Int) != (i : Int)) = false := by simp; omega
        subst hmi
        rw [Es.swp_self] at HST
        go_wp2
        go_roundw
        case rel => exact ⟨q, m + 1, L, rfl, by go_num, by omega, by omega, HP.out, HST.out, HO3.out, HG3.out⟩
        case measure => simp [intOf] <;> omega
      · have hmz : ((m : Int) != (i : Int)) = true := by simp; omega
        have ci := own_atI HO3.out (i := i) (by rw [HL.out]; omega)
        obtain ⟨X, hX⟩ : ∃ X, L.getD i 0 = X := ⟨_, rfl⟩
        rw [hX] at ci
        have HSW := Lib.hid (fun (W : World) (hW : W.ownsRow w1.heap.size 3 1 (.slice (some ⟨g, 0, none⟩) n c) n (L.map (Value.int .i64))) => own_swpI hW hX HY.out)
        have HP2 := Lib.hid ((Es.swp_perm (L := L) (i := i) (k := m) (by rw [HL.out]; omega) (by rw [HL.out]; omega)).trans HP.out)
        have fz : ∀ o, wx.frozen? ⟨g, o, none⟩ = false := fun o => HO3.out.frozenAt o
        have n1 : ¬ i = m := fun e => hmi e.symm
        clear hX
        go_wp2_with fail
        go_region_law (fail)
        all_goals
          have H3 := HSW.out wx HO3.out
          have HO4 : Hid (((wx.setCell { block := g, off := i } (Value.int IntKind.i64 Y)).setCell { block := g, off := m } (Value.int IntKind.i64 X)).drew.ownsRow w1.heap.size 3 1 (.slice (some ⟨g, 0, none⟩) n c) n ((Es.swp L i m).map (Value.int .i64))) := H3.1
          have HG4 := Lib.hid (grown_trans HG3.out (grown_trans H3.2 (grown_of_below (row := some g) (Below.refl _ _).drew)))
          clear H3 HSW
          generalize ((wx.setCell { block := g, off := i } (Value.int IntKind.i64 Y)).setCell { block := g, off := m } (Value.int IntKind.i64 X)).drew = w3 at HO4 HG4 ⊢
          clear ci cm fz
          go_wp2
          go_roundw
          case rel => exact ⟨q + 1, i + 1, Es.swp L i m, by go_num, by go_num, by omega, by omega, HP2.out, HST.out, HO4.out, HG4.out⟩
          case measure => simp [intOf] <;> omega

set_option maxRecDepth 100000 in
set_option maxHeartbeats 8000000 in
theorem bubble_any (x : Addr) (cap n : Nat) (zs : List Int) (w : World) (hn : zs.length = n) (hok : okList zs = true) (h : IntsAt w (some x) zs) :
    Calls Try.prog 15 #[.slice (some x) n cap] w (SortEnd2 w n (Mg.srtI zs)) := by
  have h64 := okList_len hok
  have HV := Lib.hid (isValidList_any (some x) cap zs w (by omega) h)
  rw [hok, hn] at HV
  have HI := Lib.hid h; have HN := Lib.hid hn
  have HC := Lib.hid (fun (W : World) (hW : IntsAt W (some x) zs) => copyOf_any x cap zs W (by omega) hW)
  rw [hn] at HC
  have hn64 : n ≤ 64 := by omega
  clear h hok hn h64
  unfold SortEnd2 SortEnd
  go_enter Try.func15, Try.ntmps15
  go_wp2_with fail
  refine HV.out.mono ?_
  rintro e w1 ⟨rfl, hb1⟩
  have HB1 := Lib.hid hb1
  have HC1 := Lib.hid (HC.out w1 (HI.out.below (Nat.le_refl _) hb1))
  clear hb1 HV HC
  go_wp2_with fail
  refine HC1.out.mono ?_
  rintro e w2 ⟨g, c, rfl, ho, hb⟩
  obtain ⟨k1, k2, k3⟩ := own_cap3 ho
  have HB2 := Lib.hid (HB1.out.trans (hb.mono HB1.out.size))
  have hsz := HB1.out.size
  have HO := Lib.hid ho
  clear ho hb HC1 HB1
  have HN2 := Lib.hid HN.out
  obtain ⟨I, hI⟩ : ∃ I, Es.inv zs = I := ⟨_, rfl⟩
  have hI4 : I ≤ 64 * 64 := by
    have := Es.inv_le zs
    rw [HN.out, hI] at this
    exact Nat.le_trans this (Nat.mul_le_mul hn64 hn64)
  have HINV := Lib.hid hI; clear hI
  go_wp2
  go_loopg [7, 8, 9] (2 * I + 1) (fun mm pv sv bv wr => ∃ (q s iv : Nat) (b : Bool) (L : List Int), pv = .int .i64 q ∧ sv = .int .i64 s ∧ bv = .bool b ∧ mm = 2 * iv + b.toNat ∧ q + mm ≤ 2 * I + 1 ∧ s + iv = I ∧ Es.inv L = iv ∧ L.Perm zs ∧ (b = false → L = Mg.srtI zs) ∧ wr.ownsRow w1.heap.size 3 1 (.slice (some ⟨g, 0, none⟩) n c) n (L.map (Value.int .i64)) ∧ w2.grownBy wr (some g))
  case atStart => exact ⟨0, 0, I, true, zs, rfl, rfl, rfl, rfl, by omega, by omega, HINV.out, List.Perm.refl _, (fun h => by cases h), HO.out, grown_of_below (Below.refl _ _)⟩
  case round =>
    obtain ⟨q, s, iv, b, L, rfl, rfl, rfl, hmm, hq, hs, hiv, hp, hb, ho, hg⟩ := hrel
    have HP := Lib.hid hp; have HO2 := Lib.hid ho; have HG2 := Lib.hid hg; have HIV := Lib.hid hiv; have HMM := Lib.hid hmm; have HQ := Lib.hid hq; have HS := Lib.hid hs
    have hl := own_len ho
    have HL := Lib.hid hl
    have q1 : q ≤ 10000 := by omega
    have s1 : s ≤ 10000 := by omega
    clear hp ho hg hl hiv hmm hq hs
    cases b
    case false =>
      have HE := Lib.hid (hb rfl)
      clear hb
      go_wp2
      refine bodyPost_ret (results_tmp4 rfl _ _ _) rfl ?_
      rw [HE.out] at HO2
      exact ⟨_, _, g, c, rfl, own_baseI HO2.out hsz, below_in HB2.out hsz HG2.out k2⟩
    clear hb
    go_wp2
    go_loopw [8, 9, 10] (fun sv bv kv wx => ∃ (s2 iv2 k : Nat) (b2 : Bool) (L2 : List Int), sv = .int .i64 s2 ∧ bv = .bool b2 ∧ kv = .int .i64 k ∧ 1 ≤ k ∧ k ≤ 64 ∧ s2 + iv2 = I ∧ iv2 + b2.toNat ≤ iv ∧ Es.inv L2 = iv2 ∧ L2.Perm zs ∧ (b2 = false → ∀ j, j + 1 < k → L2.getD j 0 ≤ L2.getD (j + 1) 0) ∧ wx.ownsRow w1.heap.size 3 1 (.slice (some ⟨g, 0, none⟩) n c) n (L2.map (Value.int .i64)) ∧ w2.grownBy wx (some g)) (fun _ _ kv _ => (200 - intOf kv).toNat)
    case atStart => exact ⟨s, iv, 1, false, L, rfl, rfl, rfl, by omega, by omega, HS.out, Nat.le_refl _, HIV.out, HP.out, fun _ j h => by omega, HO2.out, HG2.out⟩
    case round =>
      rename World => wx
      obtain ⟨s2, iv2, k, b2, L2, rfl, rfl, rfl, hk1, hk64, hs2, hi2, hiv2, hp2, hb2, ho3, hg3⟩ := hrel
      have HP2 := Lib.hid hp2; have HB22 := Lib.hid hb2; have HO3 := Lib.hid ho3; have HG3 := Lib.hid hg3; have HI2 := Lib.hid hiv2; have HS2 := Lib.hid hs2; have HII := Lib.hid hi2
      have HL2 := Lib.hid (own_len ho3)
      have s3 : s2 ≤ 10000 := by omega
      clear hp2 hb2 ho3 hg3 hiv2 hs2 hi2
      by_cases hk : k < n
      case neg =>
        have hk' : ¬ (k : Int) < (n : Int) := by omega
        have HE : Hid (b2 = false → L2 = Mg.srtI zs) := fun hb => by
          refine Es.sorted_of HP2.out (Es.asc_next fun j hj => HB22.out hb j ?_)
          rw [HL2.out] at hj
          omega
        have a1 := HS2.out
        have a2 := HII.out
        have a3 := HMM.out
        have a4 := HQ.out
        have a5 : b2.toNat ≤ 1 := by cases b2 <;> decide
        have a6 : Bool.toNat true = 1 := rfl
        rw [a6] at a3
        have HF := Lib.hid (show 2 * iv2 + b2.toNat < gk ∧ q + 1 + (2 * iv2 + b2.toNat) ≤ 2 * I + 1 by omega)
        clear a1 a2 a3 a4 a5 a6
        go_wp2
        go_roundg (2 * iv2 + b2.toNat)
        case measure => exact HF.out.1
        case rel => exact ⟨q + 1, s2, iv2, b2, L2, by go_num, rfl, rfl, rfl, HF.out.2, HS2.out, HI2.out, HP2.out, HE.out, HO3.out, HG3.out⟩
      have hk' : (k : Int) < (n : Int) := by omega
      obtain ⟨i, rfl⟩ : ∃ i, k = i + 1 := ⟨k - 1, by omega⟩
      have c1 := own_atI HO3.out (i := i) (by rw [HL2.out]; omega)
      have c2 := own_atI HO3.out (i := i + 1) (by rw [HL2.out]; omega)
      obtain ⟨X, hX⟩ : ∃ X, L2.getD i 0 = X := ⟨_, rfl⟩
      obtain ⟨Y, hY⟩ : ∃ Y, L2.getD (i + 1) 0 = Y := ⟨_, rfl⟩
      rw [hX] at c1
      rw [hY] at c2
      have HX := Lib.hid hX; have HY := Lib.hid hY
      have e1 : ((i + 1 : Nat) : Int) = (i : Int) + 1 := by omega
      rw [e1] at hk' ⊢
      have wi : IntKind.i64.wrap (i : Int) = (i : Int) := IntWalk.i64_in _ (by omega)
      have hi0 : (i : Int) < (n : Int) := by omega
      have ti : ((i : Int) + 1).toNat = i + 1 := by omega
      have z1 : (0 : Int) ≤ (i : Int) + 1 := by omega
      clear hX hY e1
      by_cases hYX : Y < X
      · have hd : decide (Y < X) = true := decide_eq_true hYX
        have HNX := Lib.hid (Es.inv_next (L := L2) (i := i) (by rw [HL2.out]; omega) (by rw [HX.out, HY.out]; exact hYX))
        have HP3 := Lib.hid ((Es.swp_perm (L := L2) (i := i) (k := i + 1) (by rw [HL2.out]; omega) (by rw [HL2.out]; omega)).trans HP2.out)
        have HSW := Lib.hid (fun (W : World) (hW : W.ownsRow w1.heap.size 3 1 (.slice (some ⟨g, 0, none⟩) n c) n (L2.map (Value.int .i64))) => own_swpI hW HX.out HY.out)
        have fz : ∀ o, wx.frozen? ⟨g, o, none⟩ = false := fun o => HO3.out.frozenAt o
        clear hYX
        go_wp2_with fail
        go_quiet (fail)
        go_wp2_with fail
        go_region_law (fail)
        all_goals
          have H3 := HSW.out (wx.drewN (nq + 1)) HO3.out
          have HO4 : Hid ((((wx.drewN (nq + 1)).setCell { block := g, off := i } (Value.int IntKind.i64 Y)).setCell { block := g, off := i + 1 } (Value.int IntKind.i64 X)).ownsRow w1.heap.size 3 1 (.slice (some ⟨g, 0, none⟩) n c) n ((Es.swp L2 i (i + 1)).map (Value.int .i64))) := H3.1
          have HG4 := Lib.hid (grown_trans (grown_drewN HG3.out (nq + 1)) H3.2)
          clear H3 HSW
          generalize ((wx.drewN (nq + 1)).setCell { block := g, off := i } (Value.int IntKind.i64 Y)).setCell { block := g, off := i + 1 } (Value.int IntKind.i64 X) = w3 at HO4 HG4 ⊢
          clear c1 c2 fz hd
          go_wp2
          go_roundw
          case rel =>
            have a1 := HS2.out
            have a2 := HII.out
            have a3 := HNX.out
            rw [HI2.out] at a3
            refine ⟨s2 + 1, iv2 - 1, i + 1 + 1, true, Es.swp L2 i (i + 1), by go_num, rfl, by go_num, by omega, by omega, by omega, ?_, by omega, HP3.out, (fun h => by cases h), HO4.out, HG4.out⟩
            show iv2 - 1 + 1 ≤ iv
            omega
          case measure => simp [intOf] <;> omega
      · have hd : decide (Y < X) = false := decide_eq_false hYX
        have HB3 : Hid (b2 = false → ∀ j, j + 1 < i + 1 + 1 → L2.getD j 0 ≤ L2.getD (j + 1) 0) := fun hb j hj => by
          by_cases e : j = i
          · subst e; rw [HX.out, HY.out]; omega
          · exact HB22.out hb j (by omega)
        clear hYX
        go_wp2_with fail
        go_quiet (fail)
        go_wp2
        go_roundw
        case rel => exact ⟨s2, iv2, i + 1 + 1, b2, L2, rfl, rfl, by go_num, by omega, by omega, HS2.out, HII.out, HI2.out, HP2.out, HB3.out, HO3.out, grown_drewN HG3.out _⟩
        case measure => simp [intOf] <;> omega
end Go.Proofs.Ytaaogoajhdaekaa

