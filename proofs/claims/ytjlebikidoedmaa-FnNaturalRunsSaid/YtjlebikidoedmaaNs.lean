/- Natural runs: the walk of the reference's loops. -/
import Derived.Test.YtjlebikidoedmaaNr
namespace Go.Proofs.Ytjlebikidoedmaa
open Go.RowKit
set_option linter.unusedVariables false

set_option maxRecDepth 100000 in
set_option maxHeartbeats 4000000 in
theorem l5Runs_any (a : Option Addr) (cap : Nat) (zs : List (Int × Int)) (w : World) (hl : zs.length ≤ 64) (h : RecsAt w a zs) :
    Calls Try.prog 56 #[.slice a zs.length cap] w fun e w' => ∃ (a' : Option Addr) (c' : Nat), e = .returned (.slice a' (runsFrom (keysL zs) 0).length c') ∧ w'.ownsRow w.heap.size 52 2 (.slice a' (runsFrom (keysL zs) 0).length c') (runsFrom (keysL zs) 0).length (flat encR (runsFrom (keysL zs) 0)) ∧ Below w.heap.size w w' := by
  have H := Lib.hid h; clear h
  have E1 := Lib.hid (own_lit (w := w) (e := 52) (size := 2) #[] 0 (by omega) rfl)
  have HKL := Lib.hid (keysL_len zs)
  go_enter Try.func56, Try.ntmps56
  go_wp2
  go_loopw [3, 4, 5] (fun v i _ wr => ∃ (f : Nat) (acc : List (Int × Int)), i = .int .i64 f ∧ f ≤ zs.length ∧ acc.length ≤ f ∧ acc ++ runsFrom (keysL zs) f = runsFrom (keysL zs) 0 ∧ wr.ownsRow w.heap.size 52 2 v acc.length (flat encR acc) ∧ Below w.heap.size w wr) (fun _ i _ _ => zs.length - (intOf i).toNat)
  case atStart => exact ⟨0, [], rfl, by omega, by simp, rfl, E1.out, (Below.refl _ _).alloc (Nat.le_refl _) _⟩
  case round =>
    obtain ⟨f, acc, rfl, hf, hacc, hrun, hown, hb⟩ := hrel
    clear E1
    have HO := Lib.hid hown; clear hown
    have HB := Lib.hid hb; clear hb
    have HRUN := Lib.hid hrun; clear hrun
    by_cases hlt : f < zs.length
    case neg =>
      have HE : Hid (acc = runsFrom (keysL zs) 0) := by
        have := HRUN.out
        rw [runsFrom_end (by rw [HKL.out]; omega), List.append_nil] at this
        exact this
      obtain ⟨a', c', hv⟩ := own_slice HO.out
      rw [hv] at HO
      rw [hv]
      clear hv
      go_wp2
      go_ret
      exact ⟨a', c', by rw [HE.out]; rfl, by rw [← HE.out]; exact HO.out, HB.out⟩
    obtain ⟨b, off, rfl, hf1, hf2⟩ := (H.out.below (Nat.le_refl _) HB.out).at hlt
    by_cases hd : isDn (keysL zs) f = true
    · have HDN := Lib.hid hd
      have h1 : f + 1 < zs.length := by simp only [isDn, Bool.and_eq_true, decide_eq_true_eq] at hd; rw [HKL.out] at hd; exact hd.1
      have h2 : dn (keysL zs) (f + 1) = true := by simp only [isDn, Bool.and_eq_true] at hd; exact hd.2
      rw [dn_at h1] at h2
      obtain ⟨b', off', e1, hg1, hg2⟩ := (H.out.below (Nat.le_refl _) HB.out).at h1
      simp only [Option.some.injEq, Addr.mk.injEq, and_true] at e1
      obtain ⟨rfl, rfl⟩ := e1
      clear hd
      generalize (zs.getD f (0, 0)).1 = x at hf1 h2
      generalize (zs.getD (f + 1) (0, 0)).1 = y at hg1 h2
      have hyx : decide (y < x) = true := by simpa using h2
      have h3 : decide ((f : Int) + 1 < (zs.length : Int)) = true := by simp; omega
      go_wp2_with fail
      go_quiet (fail)
      go_wp2
      clear hf1 hf2 hg1 hg2 hyx h2 h3
      have HB1 := Lib.hid (below_drewN HB.out nq)
      have HO1 : Hid ((wr.drewN nq).ownsRow w.heap.size 52 2 u3 acc.length (flat encR acc)) := HO.out
      generalize wr.drewN nq = wr1 at HB1 HO1 ⊢
      go_loopw [5] (fun t wr2 => ∃ t' : Nat, t = .int .i64 t' ∧ f + 1 ≤ t' ∧ t' ≤ zs.length ∧ scanTo (dn (keysL zs)) (keysL zs).length t' = scanTo (dn (keysL zs)) (keysL zs).length (f + 1) ∧ Below wr1.heap.size wr1 wr2) (fun t _ => zs.length - (intOf t).toNat)
      case atStart => exact ⟨f + 1, by go_num, by omega, by omega, rfl, Below.refl _ _⟩
      case round =>
        obtain ⟨t, rfl, htf, htn, hscan, hb2⟩ := hrel
        have HT := Lib.hid hscan; clear hscan
        have HB2 := Lib.hid (HB1.out.trans (hb2.mono HB1.out.size))
        have HO2 := Lib.hid (own_below HO1.out (Nat.le_refl _) hb2)
        have HB12 := Lib.hid hb2; clear hb2
        obtain ⟨m, rfl⟩ : ∃ m, t = m + 1 := ⟨t - 1, by omega⟩
        have hcast : ((m + 1 : Nat) : Int) = (m : Int) + 1 := by omega
        have HEND : ((keysL zs).length ≤ m + 1 ∨ (dn (keysL zs)) (m + 1) = false) → runEnd (keysL zs) f = m + 1 := fun hs => by rw [runEnd, if_pos HDN.out, ← HT.out]; exact scanTo_stop hs
        have HENDH := Lib.hid HEND; clear HEND
        have HFIN : Hid (runEnd (keysL zs) f = m + 1 → acc ++ [((f : Int), (m : Int) + 1 - (f : Int))] ++ runsFrom (keysL zs) (m + 1) = runsFrom (keysL zs) 0) := fun he => by
          rw [← HRUN.out, runsFrom_step (ks := keysL zs) (f := f) (by rw [HKL.out]; exact hlt), he, List.append_assoc, hcast]; rfl
        have hn40 : acc.length + 1 ≤ 1099511627776 := by omega
        by_cases ht1 : m + 1 < zs.length
        · obtain ⟨b', off', e1, hg1, hg2⟩ := (H.out.below (Nat.le_refl _) HB2.out).at ht1
          simp only [Option.some.injEq, Addr.mk.injEq, and_true] at e1
          obtain ⟨rfl, rfl⟩ := e1
          obtain ⟨b', off', e1, hm1, hm2⟩ := (H.out.below (Nat.le_refl _) HB2.out).at (show m < zs.length by omega)
          simp only [Option.some.injEq, Addr.mk.injEq, and_true] at e1
          obtain ⟨rfl, rfl⟩ := e1
          have HD := Lib.hid (dn_at ht1)
          have h3 : decide ((m : Int) + 1 < (zs.length : Int)) = true := by simp; omega
          generalize (zs.getD m (0, 0)).1 = x at hm1 HD
          generalize (zs.getD (m + 1) (0, 0)).1 = y at hg1 HD
          by_cases hyx : y < x
          · have hz : decide (y < x) = true := by simpa using hyx
            have hz2 : decide (x ≤ y) = false := by simp; omega
            have HC : Hid ((dn (keysL zs)) (m + 1) = true) := by show _ = true; simp only [HD.out]; simp; omega
            have HST := Lib.hid (scanTo_step (q := dn (keysL zs)) (n := (keysL zs).length) (t := m + 1) (by rw [HKL.out]; exact ht1) HC.out)
            rw [hcast]
            go_wp2_with fail
            go_quiet (fail)
            go_wp2
            go_roundw
            case rel => exact ⟨m + 2, by go_num, by omega, by omega, by rw [← HT.out, HST.out], below_drewN HB12.out _⟩
            case measure => simp [intOf]; omega
          · have hz : decide (y < x) = false := by simpa using hyx
            have hz2 : decide (x ≤ y) = true := by simp; omega
            have HSTOP : Hid ((keysL zs).length ≤ m + 1 ∨ (dn (keysL zs)) (m + 1) = false) := .inr (by simp only [HD.out]; simp; omega)
            have hbs := HB2.out.size
            rw [hcast]
            go_wp2_with fail
            go_quiet (fail)
            have HB3 := Lib.hid (below_drewN HB2.out nq)
            have HO3 : Hid ((wr.drewN nq).ownsRow w.heap.size 52 2 u3 acc.length (flat encR acc)) := HO2.out
            have hbs3 : w.heap.size ≤ (wr.drewN nq).heap.size := hbs
            go_wp2_with (at_builtin; refine wpList_app1 slRun rfl (.tmp 70) (.tmp 76) rfl rfl HO3.out [.int .i64 f, .int .i64 ((m : Int) + 1 - (f : Int))] rfl rfl (by simp) (by simp [Value.oneCell']) hn40 hbs3 ?_; intro v' w5 hown' hg' ht)
            have HO5 := Lib.hid hown'
            have HB5 := Lib.hid (below_app HB3.out hbs3 HO3.out (Nat.le_refl _) hg')
            clear hown' hg' ht hbs hbs3
            go_roundw
            case rel => exact ⟨m + 1, acc ++ [((f : Int), (m : Int) + 1 - (f : Int))], by go_num, by omega, by simp; omega, HFIN.out (HENDH.out HSTOP.out), by rw [List.length_append, flat_append]; exact HO5.out, HB5.out⟩
            case measure => simp [intOf]; omega
        · have h3 : decide ((m : Int) + 1 < (zs.length : Int)) = false := by simp; omega
          have HSTOP : Hid ((keysL zs).length ≤ m + 1 ∨ (dn (keysL zs)) (m + 1) = false) := .inl (by rw [HKL.out]; omega)
          have hbs := HB2.out.size
          rw [hcast]
          go_wp2_with fail
          go_quiet (fail)
          have HB3 := Lib.hid (below_drewN HB2.out nq)
          have HO3 : Hid ((wr.drewN nq).ownsRow w.heap.size 52 2 u3 acc.length (flat encR acc)) := HO2.out
          have hbs3 : w.heap.size ≤ (wr.drewN nq).heap.size := hbs
          go_wp2_with (at_builtin; refine wpList_app1 slRun rfl (.tmp 70) (.tmp 76) rfl rfl HO3.out [.int .i64 f, .int .i64 ((m : Int) + 1 - (f : Int))] rfl rfl (by simp) (by simp [Value.oneCell']) hn40 hbs3 ?_; intro v' w5 hown' hg' ht)
          have HO5 := Lib.hid hown'
          have HB5 := Lib.hid (below_app HB3.out hbs3 HO3.out (Nat.le_refl _) hg')
          clear hown' hg' ht hbs hbs3
          go_roundw
          case rel => exact ⟨m + 1, acc ++ [((f : Int), (m : Int) + 1 - (f : Int))], by go_num, by omega, by simp; omega, HFIN.out (HENDH.out HSTOP.out), by rw [List.length_append, flat_append]; exact HO5.out, HB5.out⟩
          case measure => simp [intOf]; omega
    · have hd' : isDn (keysL zs) f = false := by simpa using hd
      have HDN := Lib.hid hd'; clear hd'
      have HIF : Hid (¬ (isDn (keysL zs) f = true)) := hd
      by_cases h1 : f + 1 < zs.length
      · have h2 : dn (keysL zs) (f + 1) = false := by simp only [isDn, Bool.and_eq_true, decide_eq_true_eq, not_and] at hd; rw [HKL.out] at hd; simpa using hd h1
        rw [dn_at h1] at h2
        obtain ⟨b', off', e1, hg1, hg2⟩ := (H.out.below (Nat.le_refl _) HB.out).at h1
        simp only [Option.some.injEq, Addr.mk.injEq, and_true] at e1
        obtain ⟨rfl, rfl⟩ := e1
        clear hd
        generalize (zs.getD f (0, 0)).1 = x at hf1 h2
        generalize (zs.getD (f + 1) (0, 0)).1 = y at hg1 h2
        have h3 : decide ((f : Int) + 1 < (zs.length : Int)) = true := by simp; omega
        go_wp2_with fail
        go_quiet (fail)
        go_wp2
        clear hf1 hf2 hg1 hg2 h2 h3
        have HB1 := Lib.hid (below_drewN HB.out nq)
        have HO1 : Hid ((wr.drewN nq).ownsRow w.heap.size 52 2 u3 acc.length (flat encR acc)) := HO.out
        generalize wr.drewN nq = wr1 at HB1 HO1 ⊢
        go_loopw [5] (fun t wr2 => ∃ t' : Nat, t = .int .i64 t' ∧ f + 1 ≤ t' ∧ t' ≤ zs.length ∧ scanTo (fun t => !dn (keysL zs) t) (keysL zs).length t' = scanTo (fun t => !dn (keysL zs) t) (keysL zs).length (f + 1) ∧ Below wr1.heap.size wr1 wr2) (fun t _ => zs.length - (intOf t).toNat)
        case atStart => exact ⟨f + 1, by go_num, by omega, by omega, rfl, Below.refl _ _⟩
        case round =>
          obtain ⟨t, rfl, htf, htn, hscan, hb2⟩ := hrel
          have HT := Lib.hid hscan; clear hscan
          have HB2 := Lib.hid (HB1.out.trans (hb2.mono HB1.out.size))
          have HO2 := Lib.hid (own_below HO1.out (Nat.le_refl _) hb2)
          have HB12 := Lib.hid hb2; clear hb2
          obtain ⟨m, rfl⟩ : ∃ m, t = m + 1 := ⟨t - 1, by omega⟩
          have hcast : ((m + 1 : Nat) : Int) = (m : Int) + 1 := by omega
          have HEND : ((keysL zs).length ≤ m + 1 ∨ (fun t => !dn (keysL zs) t) (m + 1) = false) → runEnd (keysL zs) f = m + 1 := fun hs => by rw [runEnd, if_neg HIF.out, ← HT.out]; exact scanTo_stop hs
          have HENDH := Lib.hid HEND; clear HEND
          have HFIN : Hid (runEnd (keysL zs) f = m + 1 → acc ++ [((f : Int), (m : Int) + 1 - (f : Int))] ++ runsFrom (keysL zs) (m + 1) = runsFrom (keysL zs) 0) := fun he => by
            rw [← HRUN.out, runsFrom_step (ks := keysL zs) (f := f) (by rw [HKL.out]; exact hlt), he, List.append_assoc, hcast]; rfl
          have hn40 : acc.length + 1 ≤ 1099511627776 := by omega
          by_cases ht1 : m + 1 < zs.length
          · obtain ⟨b', off', e1, hg1, hg2⟩ := (H.out.below (Nat.le_refl _) HB2.out).at ht1
            simp only [Option.some.injEq, Addr.mk.injEq, and_true] at e1
            obtain ⟨rfl, rfl⟩ := e1
            obtain ⟨b', off', e1, hm1, hm2⟩ := (H.out.below (Nat.le_refl _) HB2.out).at (show m < zs.length by omega)
            simp only [Option.some.injEq, Addr.mk.injEq, and_true] at e1
            obtain ⟨rfl, rfl⟩ := e1
            have HD := Lib.hid (dn_at ht1)
            have h3 : decide ((m : Int) + 1 < (zs.length : Int)) = true := by simp; omega
            generalize (zs.getD m (0, 0)).1 = x at hm1 HD
            generalize (zs.getD (m + 1) (0, 0)).1 = y at hg1 HD
            by_cases hyx : y < x
            · have hz : decide (y < x) = true := by simpa using hyx
              have hz2 : decide (x ≤ y) = false := by simp; omega
              have HSTOP : Hid ((keysL zs).length ≤ m + 1 ∨ (fun t => !dn (keysL zs) t) (m + 1) = false) := .inr (by simp only [HD.out]; simp; omega)
              have hbs := HB2.out.size
              rw [hcast]
              go_wp2_with fail
              go_quiet (fail)
              have HB3 := Lib.hid (below_drewN HB2.out nq)
              have HO3 : Hid ((wr.drewN nq).ownsRow w.heap.size 52 2 u3 acc.length (flat encR acc)) := HO2.out
              have hbs3 : w.heap.size ≤ (wr.drewN nq).heap.size := hbs
              go_wp2_with (at_builtin; refine wpList_app1 slRun rfl (.tmp 70) (.tmp 76) rfl rfl HO3.out [.int .i64 f, .int .i64 ((m : Int) + 1 - (f : Int))] rfl rfl (by simp) (by simp [Value.oneCell']) hn40 hbs3 ?_; intro v' w5 hown' hg' ht)
              have HO5 := Lib.hid hown'
              have HB5 := Lib.hid (below_app HB3.out hbs3 HO3.out (Nat.le_refl _) hg')
              clear hown' hg' ht hbs hbs3
              go_roundw
              case rel => exact ⟨m + 1, acc ++ [((f : Int), (m : Int) + 1 - (f : Int))], by go_num, by omega, by simp; omega, HFIN.out (HENDH.out HSTOP.out), by rw [List.length_append, flat_append]; exact HO5.out, HB5.out⟩
              case measure => simp [intOf]; omega
            · have hz : decide (y < x) = false := by simpa using hyx
              have hz2 : decide (x ≤ y) = true := by simp; omega
              have HC : Hid ((fun t => !dn (keysL zs) t) (m + 1) = true) := by show _ = true; simp only [HD.out]; simp; omega
              have HST := Lib.hid (scanTo_step (q := fun t => !dn (keysL zs) t) (n := (keysL zs).length) (t := m + 1) (by rw [HKL.out]; exact ht1) HC.out)
              rw [hcast]
              go_wp2_with fail
              go_quiet (fail)
              go_wp2
              go_roundw
              case rel => exact ⟨m + 2, by go_num, by omega, by omega, by rw [← HT.out, HST.out], below_drewN HB12.out _⟩
              case measure => simp [intOf]; omega
          · have h3 : decide ((m : Int) + 1 < (zs.length : Int)) = false := by simp; omega
            have HSTOP : Hid ((keysL zs).length ≤ m + 1 ∨ (fun t => !dn (keysL zs) t) (m + 1) = false) := .inl (by rw [HKL.out]; omega)
            have hbs := HB2.out.size
            rw [hcast]
            go_wp2_with fail
            go_quiet (fail)
            have HB3 := Lib.hid (below_drewN HB2.out nq)
            have HO3 : Hid ((wr.drewN nq).ownsRow w.heap.size 52 2 u3 acc.length (flat encR acc)) := HO2.out
            have hbs3 : w.heap.size ≤ (wr.drewN nq).heap.size := hbs
            go_wp2_with (at_builtin; refine wpList_app1 slRun rfl (.tmp 70) (.tmp 76) rfl rfl HO3.out [.int .i64 f, .int .i64 ((m : Int) + 1 - (f : Int))] rfl rfl (by simp) (by simp [Value.oneCell']) hn40 hbs3 ?_; intro v' w5 hown' hg' ht)
            have HO5 := Lib.hid hown'
            have HB5 := Lib.hid (below_app HB3.out hbs3 HO3.out (Nat.le_refl _) hg')
            clear hown' hg' ht hbs hbs3
            go_roundw
            case rel => exact ⟨m + 1, acc ++ [((f : Int), (m : Int) + 1 - (f : Int))], by go_num, by omega, by simp; omega, HFIN.out (HENDH.out HSTOP.out), by rw [List.length_append, flat_append]; exact HO5.out, HB5.out⟩
            case measure => simp [intOf]; omega
      · have h3 : decide ((f : Int) + 1 < (zs.length : Int)) = false := by simp; omega
        clear hd
        go_wp2_with fail
        go_quiet (fail)
        go_wp2
        clear hf1 hf2 h3
        have HB1 := Lib.hid (below_drewN HB.out nq)
        have HO1 : Hid ((wr.drewN nq).ownsRow w.heap.size 52 2 u3 acc.length (flat encR acc)) := HO.out
        generalize wr.drewN nq = wr1 at HB1 HO1 ⊢
        go_loopw [5] (fun t wr2 => ∃ t' : Nat, t = .int .i64 t' ∧ f + 1 ≤ t' ∧ t' ≤ zs.length ∧ scanTo (fun t => !dn (keysL zs) t) (keysL zs).length t' = scanTo (fun t => !dn (keysL zs) t) (keysL zs).length (f + 1) ∧ Below wr1.heap.size wr1 wr2) (fun t _ => zs.length - (intOf t).toNat)
        case atStart => exact ⟨f + 1, by go_num, by omega, by omega, rfl, Below.refl _ _⟩
        case round =>
          obtain ⟨t, rfl, htf, htn, hscan, hb2⟩ := hrel
          have HT := Lib.hid hscan; clear hscan
          have HB2 := Lib.hid (HB1.out.trans (hb2.mono HB1.out.size))
          have HO2 := Lib.hid (own_below HO1.out (Nat.le_refl _) hb2)
          have HB12 := Lib.hid hb2; clear hb2
          obtain ⟨m, rfl⟩ : ∃ m, t = m + 1 := ⟨t - 1, by omega⟩
          have hcast : ((m + 1 : Nat) : Int) = (m : Int) + 1 := by omega
          have HEND : ((keysL zs).length ≤ m + 1 ∨ (fun t => !dn (keysL zs) t) (m + 1) = false) → runEnd (keysL zs) f = m + 1 := fun hs => by rw [runEnd, if_neg HIF.out, ← HT.out]; exact scanTo_stop hs
          have HENDH := Lib.hid HEND; clear HEND
          have HFIN : Hid (runEnd (keysL zs) f = m + 1 → acc ++ [((f : Int), (m : Int) + 1 - (f : Int))] ++ runsFrom (keysL zs) (m + 1) = runsFrom (keysL zs) 0) := fun he => by
            rw [← HRUN.out, runsFrom_step (ks := keysL zs) (f := f) (by rw [HKL.out]; exact hlt), he, List.append_assoc, hcast]; rfl
          have hn40 : acc.length + 1 ≤ 1099511627776 := by omega
          by_cases ht1 : m + 1 < zs.length
          · omega
          · have h3 : decide ((m : Int) + 1 < (zs.length : Int)) = false := by simp; omega
            have HSTOP : Hid ((keysL zs).length ≤ m + 1 ∨ (fun t => !dn (keysL zs) t) (m + 1) = false) := .inl (by rw [HKL.out]; omega)
            have hbs := HB2.out.size
            rw [hcast]
            go_wp2_with fail
            go_quiet (fail)
            have HB3 := Lib.hid (below_drewN HB2.out nq)
            have HO3 : Hid ((wr.drewN nq).ownsRow w.heap.size 52 2 u3 acc.length (flat encR acc)) := HO2.out
            have hbs3 : w.heap.size ≤ (wr.drewN nq).heap.size := hbs
            go_wp2_with (at_builtin; refine wpList_app1 slRun rfl (.tmp 70) (.tmp 76) rfl rfl HO3.out [.int .i64 f, .int .i64 ((m : Int) + 1 - (f : Int))] rfl rfl (by simp) (by simp [Value.oneCell']) hn40 hbs3 ?_; intro v' w5 hown' hg' ht)
            have HO5 := Lib.hid hown'
            have HB5 := Lib.hid (below_app HB3.out hbs3 HO3.out (Nat.le_refl _) hg')
            clear hown' hg' ht hbs hbs3
            go_roundw
            case rel => exact ⟨m + 1, acc ++ [((f : Int), (m : Int) + 1 - (f : Int))], by go_num, by omega, by simp; omega, HFIN.out (HENDH.out HSTOP.out), by rw [List.length_append, flat_append]; exact HO5.out, HB5.out⟩
            case measure => simp [intOf]; omega

end Go.Proofs.Ytjlebikidoedmaa
