/- Several texts in one: lemmas and walks of the functions that the laws reach. -/
import Derived.Test.YtkckmjajjdpodaaY24
import Derived.Test.YtkckmjajjdpodaaY18

/- The law FnBestPlan: its walk. -/
namespace Go.Proofs.Ytkckmjajjdpodaa
open Go.RowKit Go.Sort
set_option linter.unusedVariables false

set_option maxHeartbeats 1000000 in
theorem vAtE_any (a : Option Addr) (c : Nat) (cs : List Int) (i : Nat) (w : World) (hl : cs.length ≤ 65537) (hi : i ≤ 1000) (h : BytesAt w a cs) :
    Calls Try.prog 39 #[.slice a cs.length c, .int .i64 i] w fun e w' => (∃ r : Int, e = .returned (.int .i64 r) ∧ 0 ≤ r ∧ r ≤ 255) ∧ w = w' := by
  by_cases hlt : i < cs.length
  · obtain ⟨b, off, rfl, hc, hb0, hb1⟩ := h.at hlt
    generalize cs.getD i 0 = x at hc hb0 hb1
    have h3 : decide ((i : Int) < (cs.length : Int)) = true := decide_eq_true (by omega)
    have b1 : (0 : Int) ≤ (i : Int) := by omega
    have b2 : (i : Int) < (cs.length : Int) := by omega
    clear h
    go_enter Try.func39, Try.ntmps39
    go_wp2
    go_ret
    exact ⟨⟨x, rfl, hb0, hb1⟩, rfl⟩
  · have h3 : decide ((i : Int) < (cs.length : Int)) = false := decide_eq_false (by omega)
    have b1 : (0 : Int) ≤ (i : Int) := by omega
    have b2 : (i : Int) * 7 ≤ 7000 := by omega
    have b3 : (0 : Int) ≤ (i : Int) * 7 + (cs.length : Int) := by omega
    have b4 : (i : Int) * 7 + (cs.length : Int) ≤ 100000 := by omega
    have q1 : 0 ≤ ((i : Int) * 7 + (cs.length : Int)).tmod 256 := Int.tmod_nonneg _ b3
    have q2 : ((i : Int) * 7 + (cs.length : Int)).tmod 256 ≤ 255 := by have := Int.tmod_lt_of_pos ((i : Int) * 7 + (cs.length : Int)) (b := 256) (by omega); omega
    have Q := Lib.hid (And.intro q1 q2)
    clear h q1 q2
    go_enter Try.func39, Try.ntmps39
    go_wp2
    go_ret
    exact ⟨⟨_, rfl, Q.out.1, Q.out.2⟩, rfl⟩

theorem blkN_mul {m n : Nat} (hm : 0 < m) : ∃ P : Nat, Mg.blkN m n * m = P ∧ n ≤ P ∧ P < n + m := by
  refine ⟨_, rfl, ?_, ?_⟩
  · unfold Mg.blkN
    have h1 := Nat.lt_div_mul_add (a := n + m - 1) hm
    omega
  · unfold Mg.blkN
    have h1 := Nat.div_mul_le_self (n + m - 1) m
    omega

set_option maxRecDepth 100000 in
set_option maxHeartbeats 8000000 in
theorem lawBestPlanF_any (ac : Option Addr) (cc : Nat) (cs : List Int) (w : World) (hbig : cs.length ≤ 9223372036854775807) (h : BytesAt w ac cs) :
    Calls Try.prog 12 #[.slice ac cs.length cc] w fun e w' => e = .returned (.bool true) ∧ Below w.heap.size w w' := by
  have HV := Lib.hid (vBigG_any ac cs.length cc w hbig)
  by_cases hl : 65536 < cs.length
  · rw [decide_eq_true hl] at HV
    clear h
    go_enter Try.func12, Try.ntmps12
    go_wp2_with (go_at_call 15; refine HV.out.mono ?_; rintro e w' ⟨rfl, rfl⟩)
    go_ret
    exact ⟨rfl, Below.refl _ _⟩
  rw [decide_eq_false hl] at HV
  have HD := Lib.hid (drawBestPlan_any ac cc cs w (by omega) h)
  have HDB := Lib.hid (fun W (hb : Below w.heap.size w W) => drawBlocksOf_any ac cc cs W (by omega) (h.below (Nat.le_refl _) hb))
  have HVA := Lib.hid (fun (i : Nat) (hi : i ≤ 1000) W (hb : Below w.heap.size w W) => vAtE_any ac cc cs i W (by omega) hi (h.below (Nat.le_refl _) hb))
  clear h
  unfold IiDraw at HD HDB
  go_enter Try.func12, Try.ntmps12
  go_wp2_with fail
  refine HV.out.mono ?_
  rintro e w1 ⟨rfl, rfl⟩
  go_wp2_with fail
  refine HD.out.mono ?_
  rintro e w1 ⟨k, m, rfl, hk, hm, hb⟩
  have HB1 := Lib.hid hb
  clear hb HD HV
  have HG := Lib.hid (fun W => specBestPlan_any k m W)
  have HI := Lib.hid (fun W => implBestPlan_any k m W)
  obtain ⟨ok, hok⟩ : ∃ ok, (bpS k m).isSome = ok := ⟨_, rfl⟩
  obtain ⟨c0, c1, c2, hc⟩ := bp_cells m.toNat (bpS k m)
  rw [hc, hok] at HG HI
  have HCC := Lib.hid hc; have HOK := Lib.hid hok
  clear hc hok
  have h2 : (ok != ok) = false := by simp
  go_wp2_with fail
  refine (HI.out _).mono ?_
  rintro e w2 ⟨rfl, hb⟩
  have hbn := belowNew w2 (.cells #[.int .i64 c0, .int .i64 c1, .int .i64 c2] 26)
  have HB2 := Lib.hid (below_tr (below_tr HB1.out hb HB1.out.size) hbn (below_tr HB1.out hb HB1.out.size).size)
  have HN2 := Lib.hid (block_new w2 (.cells #[.int .i64 c0, .int .i64 c1, .int .i64 c2] 26))
  clear hb hbn HB1
  go_wp2_with fail
  refine (HG.out _).mono ?_
  rintro e w3 ⟨rfl, hb⟩
  have hbn := belowNew w3 (.cells #[.int .i64 c0, .int .i64 c1, .int .i64 c2] 26)
  have hb3 := below_tr HB2.out hb HB2.out.size
  have HB3 := Lib.hid (below_tr hb3 hbn hb3.size)
  have hn3 := block_below HN2.out hb (by simp)
  have HN3 := Lib.hid (block_below hn3 hbn (hlt_of hn3))
  have HM3 := Lib.hid (block_new w3 (.cells #[.int .i64 c0, .int .i64 c1, .int .i64 c2] 26))
  obtain ⟨p0, p1, p2⟩ := cells3 HN3.out
  clear hb hbn hb3 hn3 HB2 HN2 HG HI
  go_wp2_with fail
  refine (HDB.out _ HB3.out).mono ?_
  rintro e w4 ⟨bc, bm, rfl, hbc, hbm, hb⟩
  have HB4 := Lib.hid (below_tr HB3.out hb HB3.out.size)
  have HN4 := Lib.hid (block_below HN3.out hb (hlt_of HN3.out))
  have HI5 := Lib.hid (fun W => implBlocksOf_any bc bm W)
  have HG5 := Lib.hid (fun W => specBlocksOf_any bc bm W)
  have hq : boOk bc bm = true → ∃ n u : Nat, bc = (n : Int) ∧ bm = (u : Int) ∧ n ≤ 100000 ∧ 0 < u ∧ u ≤ 100000 ∧ boN bc bm = Mg.blkN u n := fun h => boOk_iff h
  have HQ5 := Lib.hid hq
  generalize hBN : boN bc bm = BN at HI5 HG5
  generalize hBO : boOk bc bm = BO at HI5 HG5
  have HBN := Lib.hid hBN; have HBO := Lib.hid hBO
  have g2 : (BO != BO) = false := by simp
  have g3 : ((BN : Int) != (BN : Int)) = false := by simp
  clear hb HB3 HN3 HM3 p0 p1 p2 hq hBN hBO HDB
  go_wp2_with fail
  refine (HI5.out _).mono ?_
  rintro e w5 ⟨rfl, rfl⟩
  go_wp2_with fail
  refine (HG5.out _).mono ?_
  rintro e w5 ⟨rfl, rfl⟩
  clear HI5 HG5
  -- the number of blocks
  have HT : Hid (BO = true → decide ((BN : Int) * bm < bc) = false ∧ decide (bc ≤ ((BN : Int) - 1) * bm) = false ∧ IntKind.i64.wrap ((BN : Int) * bm) = (BN : Int) * bm ∧ IntKind.i64.wrap (((BN : Int) - 1) * bm) = ((BN : Int) - 1) * bm ∧ BN ≤ 200000) := by
    intro hbo
    obtain ⟨n, u, rfl, rfl, hn, hu0, hu, hN⟩ := HQ5.out (HBO.out.trans hbo)
    obtain ⟨P, hP, h1, h3⟩ := blkN_mul (n := n) hu0
    rw [← hN, HBN.out] at hP
    have e1 : (BN : Int) * (u : Int) = (P : Int) := by rw [← hP]; simp
    have e2 : ((BN : Int) - 1) * (u : Int) = (P : Int) - (u : Int) := by rw [Int.sub_mul, e1, Int.one_mul]
    rw [e1, e2]
    have h5 : BN ≤ P := by rw [← hP]; exact Nat.le_mul_of_pos_right _ hu0
    exact ⟨decide_eq_false (by omega), decide_eq_false (by omega), IntWalk.i64_in _ (by omega), IntWalk.i64_in _ (by omega), by omega⟩
  cases BO
  case' true =>
    obtain ⟨t1, t2, t3, t4, t5⟩ := HT.out rfl
    clear HT HQ5 HBN HBO
  case' false =>
    clear HT HQ5 HBN HBO
  all_goals
    cases hS : bpS k m with
    | none =>
      have hok := HOK.out
      have hc := HCC.out
      rw [hS] at hok hc
      obtain rfl : ok = false := hok.symm
      simp only [bpCells] at hc
      injection hc with hc
      injection hc with e0 hc
      injection hc with e1 hc
      injection hc with e2 hc
      injection e0 with _ e0
      injection e1 with _ e1
      injection e2 with _ e2
      have z0 : c0 = 0 := by omega
      have z1 : c1 = 0 := by omega
      have z2 : c2 = 0 := by omega
      subst z0 z1 z2
      obtain ⟨p0, p1, p2⟩ := cells3 HN4.out
      clear hok hS e0 e1 e2 HCC HOK
      go_wp2
      go_ret
      exact ⟨ret_bool (by first | rfl | simp), HB4.out⟩
    | some s =>
      obtain ⟨u, b, nr⟩ := s
      have hok := HOK.out
      have hc := HCC.out
      rw [hS] at hok hc
      obtain rfl : ok = true := hok.symm
      have hbo : bpOk k m = true := by
        cases hx : bpOk k m
        · unfold bpS at hS; rw [hx] at hS; simp at hS
        · rfl
      have hbe : Mg.bestOf (rdF k.toNat m.toNat) m.toNat = some (u, b, nr) := by
        unfold bpS at hS; rw [if_pos hbo] at hS; exact hS
      unfold bpOk at hbo
      rw [Bool.and_eq_true] at hbo
      obtain ⟨i1, i2⟩ := inB_iff.1 hbo.1
      obtain ⟨i3, i4⟩ := inB_iff.1 hbo.2
      obtain ⟨kk, rfl⟩ : ∃ n : Nat, k = (n : Int) := ⟨k.toNat, by omega⟩
      obtain ⟨mm, rfl⟩ : ∃ n : Nat, m = (n : Int) := ⟨m.toNat, by omega⟩
      simp only [Int.toNat_natCast] at hbe hc
      obtain ⟨f1, f2, f3, f4, f5⟩ := Mg.best_is hbe
      simp only [bpCells] at hc
      injection hc with hc
      injection hc with e0 hc
      injection hc with e1 hc
      injection hc with e2 hc
      injection e0 with _ e0
      injection e1 with _ e1
      injection e2 with _ e2
      have z0 : c0 = mm := by omega
      have z1 : c1 = u := by omega
      have z2 : c2 = b := by omega
      subst z0 z1 z2
      have hpm := f5
      have hb64 : c2 ≤ c0 := by
        have h1 : 1 * c2 ≤ (c1 + 1) * c2 := Nat.mul_le_mul_right _ (by omega)
        omega
      have hpl : planOk c0 c1 c2 = true := by
        unfold planOk
        rw [inB_iff.2 ⟨by omega, by omega⟩, inB_iff.2 ⟨by omega, by omega⟩, inB_iff.2 ⟨by omega, by omega⟩]; rfl
      have hpc : pcOk kk c0 c1 c2 = true := by
        unfold pcOk; rw [inB_iff.2 ⟨by omega, by omega⟩, hpl]; rfl
      obtain ⟨⟨a0, a1, a2, a3⟩, hC⟩ : ∃ C, Mg.costOf kk c0 c1 c2 = C := ⟨_, rfl⟩
      have hC2 : pcC kk c0 c1 c2 = (a0, a1, a2, a3) := by
        unfold pcC; rw [if_pos hpc]; exact hC
      have ha2 : nr = a2 := by rw [f1]; unfold rdF; rw [hC]
      have HPC := Lib.hid (fun W => implPredictCost_any kk c0 c1 c2 W)
      rw [hpc, hC2] at HPC
      simp only [costV] at HPC
      have HVP := Lib.hid (fun W => isValidPlan_any c0 c1 c2 W)
      rw [hpl] at HVP
      have HLST : Hid (∀ x y : Nat, 2 ≤ x → x ≤ 16 → 0 < y → (x + 1) * y ≤ c0 → a2 ≤ rdF kk c0 x y) := by
        intro x y h1 h2 h3 h4
        obtain ⟨w', b', n', e, hle⟩ := Mg.best_least (f := rdF kk c0) h1 h2 h3 h4
        rw [hbe] at e
        injection e with e
        injection e with _ e
        injection e with _ e
        omega
      have hmi : ((c1 : Int) + 1) * (c2 : Int) = (((c1 + 1) * c2 : Nat) : Int) := by simp
      have hm3 : decide (((c1 : Int) + 1) * (c2 : Int) ≤ (c0 : Int)) = true := decide_eq_true (by rw [hmi]; omega)
      have hw3 : IntKind.i64.wrap (((c1 : Int) + 1) * (c2 : Int)) = ((c1 : Int) + 1) * (c2 : Int) := IntWalk.i64_in _ (by rw [hmi]; omega)
      obtain ⟨p0, p1, p2⟩ := cells3 HN4.out
      have hkn : (0 : Int) ≤ kk := by omega
      clear hok hS e0 e1 e2 HCC HOK hC hC2 hpc hpl hbe hmi f1 hpm ha2
      go_wp2_with fail
      refine (HPC.out _).mono ?_
      rintro e w6 ⟨rfl, hb⟩
      have hbn := belowNew w6 (.cells #[.int .i64 a0, .int .i64 a1, .int .i64 a2, .int .i64 a3] 30)
      have hb6 := below_tr HB4.out hb HB4.out.size
      have HB6 := Lib.hid (below_tr hb6 hbn hb6.size)
      have hn6 := block_below HN4.out hb (hlt_of HN4.out)
      have HN6 := Lib.hid (block_below hn6 hbn (hlt_of hn6))
      have HC6 := Lib.hid (block_new w6 (.cells #[.int .i64 a0, .int .i64 a1, .int .i64 a2, .int .i64 a3] 30))
      clear hb hbn hb6 hn6 HB4 HN4 HPC p0 p1 p2
      go_wp2_with fail
      refine (HVA.out 3 (by omega) _ HB6.out).mono ?_
      rintro e w7 ⟨⟨r, rfl, hr0, hr1⟩, rfl⟩
      go_wp2_with fail
      refine (HVA.out 4 (by omega) _ HB6.out).mono ?_
      rintro e w7 ⟨⟨s, rfl, hs0, hs1⟩, rfl⟩
      obtain ⟨x, hx, hx1, hx2⟩ : ∃ x : Nat, r.tmod 4 = (x : Int) ∧ 0 ≤ x ∧ x ≤ 3 := by
        have h1 := Int.tmod_nonneg 4 hr0
        have h2 := Int.tmod_lt_of_pos r (b := 4) (by omega)
        exact ⟨(r.tmod 4).toNat, by omega, by omega, by omega⟩
      obtain ⟨y, hy, hy1, hy2⟩ : ∃ y : Nat, s.tmod 3 = (y : Int) ∧ 0 ≤ y ∧ y ≤ 2 := by
        have h1 := Int.tmod_nonneg 3 hs0
        have h2 := Int.tmod_lt_of_pos s (b := 3) (by omega)
        exact ⟨(s.tmod 3).toNat, by omega, by omega, by omega⟩
      have hx' : r % 4 = (x : Int) := by rw [← hx, Int.tmod_eq_emod_of_nonneg hr0]
      have hy' : s % 3 = (y : Int) := by rw [← hy, Int.tmod_eq_emod_of_nonneg hs0]
      have hbn := belowNew (w6.alloc (.cells #[.int .i64 a0, .int .i64 a1, .int .i64 a2, .int .i64 a3] 30)) (.cells #[.int .i64 c0, .int .i64 (2 + x), .int .i64 (1 + y)] 26)
      have HB7 := Lib.hid (below_tr HB6.out hbn HB6.out.size)
      have HN7 := Lib.hid (block_below HN6.out hbn (hlt_of HN6.out))
      have HC7 := Lib.hid (block_below HC6.out hbn (hlt_of HC6.out))
      have HQ7 := Lib.hid (block_new (w6.alloc (.cells #[.int .i64 a0, .int .i64 a1, .int .i64 a2, .int .i64 a3] 30)) (.cells #[.int .i64 c0, .int .i64 (2 + x), .int .i64 (1 + y)] 26))
      have hszz : (w6.alloc (.cells #[.int .i64 a0, .int .i64 a1, .int .i64 a2, .int .i64 a3] 30)).heap.size = w6.heap.size + 1 := by simp
      rw [hszz] at HQ7
      obtain ⟨u0, u1, u2⟩ := cells3 HQ7.out
      obtain ⟨⟨d0, d1, d2, d3⟩, hD⟩ : ∃ C, pcC kk c0 ((2 + x : Nat) : Int) ((1 + y : Nat) : Int) = C := ⟨_, rfl⟩
      have HPD := Lib.hid (fun W => implPredictCost_any kk c0 ((2 + x : Nat) : Int) ((1 + y : Nat) : Int) W)
      obtain ⟨va, hva⟩ : ∃ va, pcOk kk c0 ((2 + x : Nat) : Int) ((1 + y : Nat) : Int) = va := ⟨_, rfl⟩
      rw [hD, hva] at HPD
      simp only [costV] at HPD
      have HLE : Hid (va = true → (2 + x + 1) * (1 + y) ≤ c0 → a2 ≤ d2) := by
        intro h1 h4
        have h5 := HLST.out (2 + x) (1 + y) (by omega) (by omega) (by omega) h4
        unfold pcC at hD
        rw [hva, if_pos h1] at hD
        unfold rdF at h5
        have h6 : Mg.costOf kk c0 (2 + x) (1 + y) = (d0, d1, d2, d3) := hD
        rw [h6] at h5
        exact h5
      have e2 : ((2 + x : Nat) : Int) = 2 + (x : Int) := by omega
      have e1 : ((1 + y : Nat) : Int) = 1 + (y : Int) := by omega
      rw [e1, e2] at HPD
      have hni : (2 + (x : Int) + 1) * (1 + (y : Int)) = (((2 + x + 1) * (1 + y) : Nat) : Int) := by simp
      have hnb : (2 + x + 1) * (1 + y) ≤ 6 * 3 := Nat.mul_le_mul (by omega) (by omega)
      have hw4 : IntKind.i64.wrap ((2 + (x : Int) + 1) * (1 + (y : Int))) = (2 + (x : Int) + 1) * (1 + (y : Int)) := IntWalk.i64_in _ (by rw [hni]; omega)
      have HNI := Lib.hid hni
      clear hbn HB6 HN6 HC6 HLST hD hva e1 e2 hni HVA
      go_wp2_with fail
      refine (HPD.out _).mono ?_
      rintro e w8 ⟨rfl, hb⟩
      have hbn := belowNew w8 (.cells #[.int .i64 d0, .int .i64 d1, .int .i64 d2, .int .i64 d3] 30)
      have hb8 := below_tr HB7.out hb HB7.out.size
      have HB8 := Lib.hid (below_tr hb8 hbn hb8.size)
      have hn8 := block_below HN7.out hb (hlt_of HN7.out)
      have HN8 := Lib.hid (block_below hn8 hbn (hlt_of hn8))
      have hc8 := block_below HC7.out hb (hlt_of HC7.out)
      have HC8 := Lib.hid (block_below hc8 hbn (hlt_of hc8))
      have hq8 := block_below HQ7.out hb (by rw [← hszz]; simp)
      have HQ8 := Lib.hid (block_below hq8 hbn (hlt_of hq8))
      have HD8 := Lib.hid (block_new w8 (.cells #[.int .i64 d0, .int .i64 d1, .int .i64 d2, .int .i64 d3] 30))
      obtain ⟨p0, p1, p2⟩ := cells3 HN8.out
      clear hb hbn hb8 hn8 hc8 hq8 HB7 HN7 HC7 HQ7 HPD u0 u1 u2
      go_wp2_with fail
      refine (HVP.out _).mono ?_
      rintro e w9 ⟨rfl, hb⟩
      have HB9 := Lib.hid (below_tr HB8.out hb HB8.out.size)
      obtain ⟨p3, p4, p5⟩ := cells3 (block_below HN8.out hb (hlt_of HN8.out))
      obtain ⟨v0, v1, v2⟩ := cells3 (block_below HQ8.out hb (hlt_of HQ8.out))
      obtain ⟨g0, g1, g4, g5⟩ := cellsQ (block_below HC8.out hb (hlt_of HC8.out))
      obtain ⟨k0, k1, k2, k3⟩ := cellsQ (block_below HD8.out hb (by simp))
      clear hb HB8 HN8 HC8 HQ8 HD8 HVP p0 p1 p2
      cases va
      · clear HLE HNI
        go_wp2
        go_ret
        exact ⟨ret_bool (by first | rfl | simp), HB9.out⟩
      by_cases hlt : c0 < (2 + x + 1) * (1 + y)
      · have q9 : decide ((c0 : Int) < (2 + (x : Int) + 1) * (1 + (y : Int))) = true := decide_eq_true (by rw [HNI.out]; omega)
        clear HLE HNI
        go_wp2
        go_ret
        exact ⟨ret_bool (by first | rfl | simp), HB9.out⟩
      · have q9 : decide ((c0 : Int) < (2 + (x : Int) + 1) * (1 + (y : Int))) = false := decide_eq_false (by rw [HNI.out]; omega)
        have hle := HLE.out rfl (by omega)
        have q10 : decide ((a2 : Int) ≤ (d2 : Int)) = true := decide_eq_true (by omega)
        clear HLE HNI
        go_wp2
        go_ret
        exact ⟨ret_bool (by first | rfl | simp), HB9.out⟩

end Go.Proofs.Ytkckmjajjdpodaa
