/- Walks: how many arrangements meet facts: the reference's way; facts with one more. -/
import Derived.Test.YtkjmngdcfheojaaFg
namespace Go.Proofs.Ytkjmngdcfheojaa
open Go.RowKit Go.Sort
set_option linter.unusedVariables false

theorem fits_take {fs : List (Int × Int)} {p : List Int} {j : Nat} (hj : j < fs.length) : Pm.fits (fs.take (j + 1)) p = (Pm.fits (fs.take j) p && fitF p (fs.getD j (0, 0))) := by
  rw [List.take_add_one, List.getElem?_eq_getElem hj, Pm.fits_append, List.getD_eq_getElem?_getD, List.getElem?_eq_getElem hj]
  simp [Pm.fits, fitF]

set_option maxRecDepth 100000 in
set_option maxHeartbeats 8000000 in
theorem l23Orders_any (m : Nat) (hm : m + 1 ≤ 5) (a : Option Addr) (cap : Nat) (fs : List (Int × Int)) (w : World) (hbig : fs.length ≤ 1000) (h : RecsAt w a fs) (hf : ∀ f ∈ fs, InF (m + 1) f ∧ f.1 ≠ f.2) :
    Calls Try.prog 59 #[.int .i64 ((m : Int) + 1), .slice a fs.length cap] w fun e w' => e = .returned (.int .i64 (Pm.cnt (m + 1) fs : Nat)) ∧ Below w.heap.size w w' := by
  have H := Lib.hid h; clear h
  have HF := Lib.hid hf; clear hf
  have h1 : 1 ≤ m + 1 := by omega
  have HFI := l23First_any (m + 1) (by omega) w
  rw [Int.natCast_add, Int.natCast_one] at HFI
  have HFI := Lib.hid HFI
  have HA := Lib.hid (Pm.allP_first h1 hm)
  have HOK := Lib.hid (fun p => Pm.allP_ok h1 hm (p := p))
  have HNX := Lib.hid (fun k p => Pm.allP_nextS h1 hm (k := k) (p := p))
  have HCS := Lib.hid (fun k p => Pm.cntTo_succ (n := m + 1) (fs := fs) (k := k) (p := p))
  have HCE := Lib.hid (fun k => Pm.cntTo_end (n := m + 1) (fs := fs) (k := k))
  have HCL := Lib.hid (fun k => Pm.cntTo_le (m + 1) fs k)
  have HC0 := Lib.hid (Pm.cntTo_zero (m + 1) fs)
  have HAL := Lib.hid (Pm.allP_len h1 hm)
  go_enter Try.func59, Try.ntmps59
  go_wp2_with fail
  refine HFI.out.mono ?_
  rintro e w1 ⟨a1, c1, rfl, ho1, hb1⟩
  have HO1 := Lib.hid ho1; have HB1 := Lib.hid hb1
  clear ho1 hb1 HFI
  go_wp2
  go_loopg [5, 6, 7, 8] ((Pm.allP (m + 1)).length + 1) (fun mm c v _ _ wr => ∃ (k n : Nat) (a2 : Option Addr) (c2 : Nat) (q : List Int), c = .int .i64 (Pm.cntTo (m + 1) fs k : Nat) ∧ v = .slice a2 n c2 ∧ q = ((Pm.allP (m + 1))[k]?).getD [] ∧ k ≤ (Pm.allP (m + 1)).length ∧ mm + k = (Pm.allP (m + 1)).length + 1 ∧
    wr.ownsRow w.heap.size 3 1 (.slice a2 n c2) n (q.map (Value.int .i64)) ∧ Below w.heap.size w wr)
  case atStart => exact ⟨0, m + 1, a1, c1, Pm.first (m + 1), by rw [HC0.out]; rfl, rfl, by rw [HA.out]; rfl, by omega, by omega, HO1.out, HB1.out⟩
  case round =>
    obtain ⟨k, n, a2, c2, q, rfl, rfl, rfl, hk, hmm, ho, hb⟩ := hrel
    have HO := Lib.hid ho; have HB := Lib.hid hb; have HMM := Lib.hid hmm
    have hcl := HCL.out k
    have hal := HAL.out
    clear ho hb hmm HO1 HB1
    cases hkp : (Pm.allP (m + 1))[k]? with
    | none =>
      rw [hkp] at HO
      have hn : n = 0 := by have := HO.out.1; simpa using this.symm
      subst hn
      rw [HCE.out k hkp] at hcl ⊢
      clear hkp
      go_wp2
      go_ret
      exact ⟨rfl, HB.out⟩
    | some p =>
      rw [hkp] at HO
      obtain ⟨hpl, hpr, hpn⟩ := HOK.out p (List.mem_of_getElem? hkp)
      have hn : n = m + 1 := by have := HO.out.1; simp at this; omega
      subst hn
      obtain ⟨g, rfl, hg1, hg2, _⟩ := own_cell HO.out (by omega)
      have hcap := (own_cap' HO.out).1
      have HI := Lib.hid (ints_of_own HO.out)
      have HKP := Lib.hid hkp
      have HPL := Lib.hid hpl; have HPN := Lib.hid hpn
      have hklt : k < (Pm.allP (m + 1)).length := (List.getElem?_eq_some_iff.1 hkp).1
      have HKL := Lib.hid hklt
      have HST := Lib.hid (HCS.out k p hkp)
      generalize Pm.cntTo (m + 1) fs k = C at hcl HST ⊢
      have hC : (C : Int) + 1 ≤ 9223372036854775807 := by omega
      have HI2 : Hid (IntsAt wr (some ⟨g, 0, none⟩) p) := HI.out
      have HPC : Hid (∀ W, Below wr.heap.size wr W → ∀ i, i < m + 1 → W.cell? ⟨g, i, none⟩ = some (.int .i64 (p.getD i 0))) := fun W hb i hi => by
        obtain ⟨b', off', e, hc⟩ := (HI2.out.below (Nat.le_refl _) hb).at (k := i) (by omega)
        injection e with e
        injection e with e1 e2 _
        subst e1; subst e2
        rwa [Nat.zero_add] at hc
      have HFC : Hid (∀ W, Below wr.heap.size wr W → ∀ j, j < fs.length → _) := fun W hb j hj => (H.out.below (Nat.le_refl _) (HB.out.trans (hb.mono HB.out.size))).at hj
      have HBD : Hid (∀ W, Below wr.heap.size wr W → Below w.heap.size w W) := fun W hb => HB.out.trans (hb.mono HB.out.size)
      have HNT : Hid (∀ W, Below wr.heap.size wr W → Calls Try.prog 114 #[.slice (some ⟨g, 0, none⟩) (m + 1) c2] W fun e w' => ∃ a n c, e = .returned (.slice a n c) ∧ w'.ownsRow w.heap.size 3 1 (.slice a n c) n ((((Pm.allP (m + 1))[k + 1]?).getD []).map (Value.int .i64)) ∧ Below W.heap.size W w') := fun W hb => by
        have := l23Next_any g 0 c2 m p W HPL.out (by omega) hcap HPN.out (HI2.out.below (Nat.le_refl _) hb)
        rw [HNX.out k p HKP.out] at this
        refine this.mono ?_
        rintro e w' ⟨a, n, c, rfl, ho, hb2⟩
        exact ⟨a, n, c, rfl, own_mono ho (Nat.le_trans HB.out.size hb.size), hb2⟩
      have HDN : Hid (∀ i j, i < m + 1 → j < m + 1 → i ≠ j → p.getD i 0 ≠ p.getD j 0) := fun i j hi hj hne e => by
        have h1 : i < p.length := by omega
        have h2 : j < p.length := by omega
        rw [List.getD_eq_getElem?_getD, List.getD_eq_getElem?_getD, List.getElem?_eq_getElem h1, List.getElem?_eq_getElem h2] at e
        simp only [Option.getD_some] at e
        rcases Nat.lt_or_gt_of_ne hne with h | h
        · exact (List.pairwise_iff_getElem.1 HPN.out _ _ h1 h2 h) e
        · exact (List.pairwise_iff_getElem.1 HPN.out _ _ h2 h1 h) e.symm
      have HFT := Lib.hid (fun j => fits_take (fs := fs) (p := p) (j := j))
      clear hpl hpr hpn hkp hklt HI HO
      go_wp2
      go_loopw [7, 8] (fun v i wq => ∃ j : Nat, i = .int .i64 j ∧ j ≤ fs.length ∧ v = .bool (Pm.fits (fs.take j) p) ∧ Below wr.heap.size wr wq) (fun _ i _ => fs.length - (intOf i).toNat)
      case atStart => exact ⟨0, rfl, by omega, rfl, Below.refl _ _⟩
      case round =>
        obtain ⟨j, rfl, hj, rfl, hb2⟩ := hrel
        have HB2 := Lib.hid hb2; clear hb2
        by_cases hjl : j < fs.length
        · have h4 : decide ((j : Int) < (fs.length : Int)) = true := by simp; omega
          have h5 : (j : Int) < (fs.length : Int) := by omega
          have h6 : (0 : Int) ≤ (j : Int) := by omega
          obtain ⟨b, off, rfl, hc1, hc2⟩ := HFC.out _ HB2.out j hjl
          obtain ⟨hin, hne⟩ := HF.out (fs.getD j (0, 0)) (by rw [List.getD_eq_getElem?_getD, List.getElem?_eq_getElem hjl]; exact List.getElem_mem hjl)
          have HT := Lib.hid (HFT.out j hjl)
          obtain ⟨q1, q2, q3, q4⟩ := hin
          have HFX : Hid (fitF p (fs.getD j (0, 0)) = decide (p.getD (fs.getD j (0, 0)).1.toNat 0 < p.getD (fs.getD j (0, 0)).2.toNat 0)) := rfl
          generalize (fs.getD j (0, 0)).1 = x at hc1 hne q1 q2 HFX
          generalize (fs.getD j (0, 0)).2 = y at hc2 hne q3 q4 HFX
          have hd1 := HPC.out _ HB2.out x.toNat (by omega)
          have hd2 := HPC.out _ HB2.out y.toNat (by omega)
          have hdn := HDN.out x.toNat y.toNat (by omega) (by omega) (by omega)
          generalize p.getD x.toNat 0 = X at hd1 hdn HFX
          generalize p.getD y.toNat 0 = Y at hd2 hdn HFX
          rw [HFX.out] at HT
          have q5 : x < (m : Int) + 1 := by omega
          have q6 : y < (m : Int) + 1 := by omega
          generalize Pm.fits (fs.take j) p = F at HT ⊢
          clear q2 q4 hne
          by_cases hXY : Y < X
          · have hz : decide (Y < X) = true := by simpa using hXY
            have HV : Hid (Pm.fits (fs.take (j + 1)) p = false) := by show _ = _; rw [HT.out, decide_eq_false (by omega), Bool.and_false]
            clear hXY hdn HT HFX
            go_wp2_with fail
            go_quiet (fail)
            go_wp2
            go_roundw
            case rel => exact ⟨j + 1, by go_num, by omega, by rw [HV.out], below_drewN HB2.out _⟩
            case measure => simp [intOf] <;> omega
          · have hz : decide (Y < X) = false := by simp; omega
            have HV : Hid (Pm.fits (fs.take (j + 1)) p = F) := by show _ = _; rw [HT.out, decide_eq_true (by omega), Bool.and_true]
            clear hXY hdn HT HFX
            go_wp2_with fail
            go_quiet (fail)
            go_wp2
            go_roundw
            case rel => exact ⟨j + 1, by go_num, by omega, by rw [HV.out], below_drewN HB2.out _⟩
            case measure => simp [intOf] <;> omega
        · obtain rfl : j = fs.length := by omega
          have h4 : decide ((fs.length : Int) < (fs.length : Int)) = false := by simp
          rw [List.take_length]
          have HN2 := Lib.hid (HNT.out _ HB2.out)
          have HB3 := Lib.hid (HBD.out _ HB2.out)
          cases hfit : Pm.fits fs p
          · have HV : Hid (Pm.cntTo (m + 1) fs (k + 1) = C) := by show _ = _; rw [HST.out, hfit]; simp
            clear hfit
            go_wp2_with fail
            refine HN2.out.mono ?_
            rintro e w4 ⟨a4, n4, c4, rfl, ho4, hb4⟩
            have HO4 := Lib.hid ho4; have HB4 := Lib.hid (bco HB3.out hb4)
            clear ho4 hb4
            go_wp2
            go_roundg (gk - 1)
            case measure => have := HMM.out; have := HKL.out; omega
            case rel => exact ⟨k + 1, n4, a4, c4, _, by rw [HV.out], rfl, rfl, by have := HKL.out; omega, by have := HMM.out; have := HKL.out; omega, HO4.out, HB4.out⟩
          · have HV : Hid (Pm.cntTo (m + 1) fs (k + 1) = C + 1) := by show _ = _; rw [HST.out, hfit]; simp
            clear hfit
            go_wp2_with fail
            refine HN2.out.mono ?_
            rintro e w4 ⟨a4, n4, c4, rfl, ho4, hb4⟩
            have HO4 := Lib.hid ho4; have HB4 := Lib.hid (bco HB3.out hb4)
            clear ho4 hb4
            go_wp2
            go_roundg (gk - 1)
            case measure => have := HMM.out; have := HKL.out; omega
            case rel => exact ⟨k + 1, n4, a4, c4, _, by rw [HV.out]; go_num, rfl, rfl, by have := HKL.out; omega, by have := HMM.out; have := HKL.out; omega, HO4.out, HB4.out⟩

theorem recs_news {w : World} {x : Addr} {rs : List (Int × Int)} (h : RecsAt w (some x) rs) : ∀ j u, (flat encR rs)[j]? = some u → w.cell? (x.add j) = some u := by
  intro q u hu
  have hq : q < rs.length * 2 := by
    have := (List.getElem?_eq_some_iff.1 hu).1
    rwa [flat_length encR_len] at this
  rcases h with rfl | ⟨b, off, e, _, h2⟩
  · simp at hq
  · injection e with e
    subst e
    have hk : q / 2 < rs.length := by omega
    obtain ⟨g1, g2⟩ := h2 (q / 2) hk
    have hg := flat_get encR_len rs (q / 2) (q % 2) (Nat.mod_lt _ (by omega))
    have hqe : q / 2 * 2 + q % 2 = q := by omega
    rw [hqe, hu, List.getElem?_eq_getElem hk] at hg
    rw [List.getD_eq_getElem?_getD, List.getElem?_eq_getElem hk] at g1 g2
    have hadd : (⟨b, off, none⟩ : Addr).add q = ⟨b, off + q, none⟩ := by unfold Addr.add; split <;> simp_all
    rw [hadd]
    rcases Nat.mod_two_eq_zero_or_one q with h0 | h0
    · rw [h0] at hg
      simp [encR] at hg
      rw [show off + q = off + q / 2 * 2 by omega, g1, hg]; rfl
    · rw [h0] at hg
      simp [encR] at hg
      rw [show off + q = off + q / 2 * 2 + 1 by omega, g2, hg]; rfl
theorem recs_one {rs : List (Int × Int)} : ∀ u ∈ flat encR rs, u.oneCell' = true := by
  intro u hu
  unfold flat at hu
  obtain ⟨r, _, hr⟩ := List.mem_flatMap.1 hu
  simp [encR] at hr
  rcases hr with rfl | rfl <;> rfl

set_option maxRecDepth 100000 in
set_option maxHeartbeats 1000000 in
theorem l23With_any (x : Addr) (cap : Nat) (fs : List (Int × Int)) (s t : Int) (w : World) (hbig : fs.length ≤ 1000) (h : RecsAt w (some x) fs) :
    Calls Try.prog 62 #[.slice (some x) fs.length cap, .int .i64 s, .int .i64 t] w fun e w' => ∃ a c, e = .returned (.slice a (fs ++ [(s, t)]).length c) ∧ RecsAt w' a (fs ++ [(s, t)]) ∧ Below w.heap.size w w' := by
  have E0 := Lib.hid (own_lit (w := w) (e := 32) (size := 2) #[] 0 (by omega) rfl)
  have B0 := Lib.hid (show Below w.heap.size w (w.alloc (.cells #[] 32)) from (Below.refl _ _).alloc (Nat.le_refl _) _)
  have H := Lib.hid (h.below (Nat.le_refl _) B0.out); clear h
  have hl : (flat encR fs).length = fs.length * 2 := flat_length encR_len fs
  have HL := Lib.hid hl; clear hl
  have hn40 : 0 + fs.length ≤ 1099511627776 := by omega
  have hn41 : 0 + fs.length + 1 ≤ 1099511627776 := by omega
  have hbs := B0.out.size
  go_enter Try.func62, Try.ntmps62
  go_wp2_with (first
    | (at_builtin; refine wpList_appX slFact rfl _ _ rfl rfl E0.out rfl HL.out (recs_news H.out) recs_one hn40 hbs ?_; intro v1 w1 ho1 hg1 ht1; have HO1 := Lib.hid ho1; have HB1 := Lib.hid (below_app B0.out hbs E0.out (Nat.le_refl _) hg1); have hbs1 := HB1.out.size; clear ho1 hg1 ht1)
    | (at_builtin; refine wpList_app1 slFact rfl _ _ rfl rfl HO1.out [.int .i64 s, .int .i64 t] rfl rfl (by simp) (by simp [Value.oneCell']) hn41 hbs1 ?_; intro v2 w2 ho2 hg2 ht2))
  have HB2 := Lib.hid (below_app HB1.out hbs1 HO1.out (Nat.le_refl _) hg2)
  obtain ⟨a2, c2, rfl⟩ := own_slice ho2
  have e : [] ++ flat encR fs ++ [.int .i64 s, .int .i64 t] = flat encR (fs ++ [(s, t)]) := by rw [flat_append, flat_one]; rfl
  have ho3 : w2.ownsRow w.heap.size 32 2 (.slice a2 (0 + fs.length + 1) c2) (0 + fs.length + 1) (flat encR (fs ++ [(s, t)])) := by rw [← e]; exact ho2
  have HR2 := Lib.hid (ownFacts ho3)
  clear ho2 ho3 hg2 ht2 e
  go_wp2
  go_ret
  exact ⟨_, ⟨c2, by rw [Nat.zero_add]; rfl⟩, HR2.out, HB2.out⟩

end Go.Proofs.Ytkjmngdcfheojaa
