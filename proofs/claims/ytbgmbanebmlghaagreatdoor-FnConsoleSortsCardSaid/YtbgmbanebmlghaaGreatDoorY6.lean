/- Several texts in one: lemmas and walks of the functions that the law reaches. -/
import Derived.Test.YtbgmbanebmlghaaGreatDoorY5

namespace Go.Proofs.YtbgmbanebmlghaaGreatDoor
open Go.RowKit
set_option linter.unusedVariables false

def scanF (q : Nat → Bool) : Nat → Nat → Nat
  | 0, t => t
  | f + 1, t => if q t then scanF q f (t + 1) else t
def scanTo (q : Nat → Bool) (n t : Nat) : Nat := scanF q (n - t) t
theorem scanTo_step {q : Nat → Bool} {n t : Nat} (h : t < n) (hq : q t = true) : scanTo q n t = scanTo q n (t + 1) := by
  unfold scanTo
  rw [show n - t = (n - (t + 1)) + 1 from by omega]
  simp [scanF, hq]
theorem scanTo_stop {q : Nat → Bool} {n t : Nat} (h : n ≤ t ∨ q t = false) : scanTo q n t = t := by
  unfold scanTo
  rcases h with h | h
  · rw [show n - t = 0 from by omega]; rfl
  · cases n - t with
    | zero => rfl
    | succ f => simp [scanF, h]
theorem scanF_bound (q : Nat → Bool) : ∀ (f t : Nat), t ≤ scanF q f t ∧ scanF q f t ≤ t + f := by
  intro f
  induction f with
  | zero => intro t; simp [scanF]
  | succ f ih =>
    intro t
    simp only [scanF]
    split
    · have := ih (t + 1); omega
    · omega
theorem scanTo_bound (q : Nat → Bool) {n t : Nat} (h : t ≤ n) : t ≤ scanTo q n t ∧ scanTo q n t ≤ n := by
  have := scanF_bound q (n - t) t
  unfold scanTo; omega
theorem scanF_all (q : Nat → Bool) : ∀ (f t j : Nat), t ≤ j → j < scanF q f t → q j = true := by
  intro f
  induction f with
  | zero => intro t j h1 h2; simp [scanF] at h2; omega
  | succ f ih =>
    intro t j h1 h2
    simp only [scanF] at h2
    split at h2
    · rename_i hq
      by_cases e : j = t
      · subst e; exact hq
      · exact ih (t + 1) j (by omega) h2
    · omega
def dn (ks : List Int) (t : Nat) : Bool := decide (ks.getD t 0 < ks.getD (t - 1) 0)
def isDn (ks : List Int) (f : Nat) : Bool := decide (f + 1 < ks.length) && dn ks (f + 1)
def runEnd (ks : List Int) (f : Nat) : Nat := if isDn ks f then scanTo (dn ks) ks.length (f + 1) else scanTo (fun t => !dn ks t) ks.length (f + 1)
theorem runEnd_bound {ks : List Int} {f : Nat} (h : f < ks.length) : f + 1 ≤ runEnd ks f ∧ runEnd ks f ≤ ks.length := by
  unfold runEnd; split <;> exact scanTo_bound _ (by omega)
def runsF (ks : List Int) : Nat → Nat → List (Int × Int)
  | 0, _ => []
  | g + 1, f => if f < ks.length then ((f : Int), ((runEnd ks f : Nat) : Int) - (f : Int)) :: runsF ks g (runEnd ks f) else []
def runsFrom (ks : List Int) (f : Nat) : List (Int × Int) := runsF ks (ks.length - f) f
theorem runsF_fuel (ks : List Int) : ∀ (g g' f : Nat), ks.length ≤ f + g → ks.length ≤ f + g' → runsF ks g f = runsF ks g' f := by
  intro g
  induction g with
  | zero =>
    intro g' f h1 h2
    cases g' with
    | zero => rfl
    | succ g' => simp only [runsF]; rw [if_neg (by omega)]
  | succ g ih =>
    intro g' f h1 h2
    cases g' with
    | zero => simp only [runsF]; rw [if_neg (by omega)]
    | succ g' =>
      simp only [runsF]
      by_cases hf : f < ks.length
      · rw [if_pos hf, if_pos hf]
        have := runEnd_bound hf
        rw [ih g' (runEnd ks f) (by omega) (by omega)]
      · rw [if_neg hf, if_neg hf]
theorem runsFrom_step {ks : List Int} {f : Nat} (h : f < ks.length) : runsFrom ks f = ((f : Int), ((runEnd ks f : Nat) : Int) - (f : Int)) :: runsFrom ks (runEnd ks f) := by
  unfold runsFrom
  rw [show ks.length - f = (ks.length - (f + 1)) + 1 from by omega]
  simp only [runsF]
  rw [if_pos h]
  have := runEnd_bound h
  rw [runsF_fuel ks (ks.length - (f + 1)) (ks.length - runEnd ks f) _ (by omega) (by omega)]
theorem runsFrom_end {ks : List Int} {f : Nat} (h : ks.length ≤ f) : runsFrom ks f = [] := by
  unfold runsFrom; rw [show ks.length - f = 0 from by omega]; rfl

theorem Tryz.infoRun : (Tryz.prog.info? 163).map (fun i => (i.zero, i.size, i.bytes)) = some (some (.agg #[.int .i64 0, .int .i64 0]), 2, 16) := by kernel_rfl
theorem slRun : SlT Tryz.prog 160 163 (.agg #[.int .i64 0, .int .i64 0]) 2 16 := ⟨Tryz.underlying160, info_parts Tryz.infoRun, rfl, by decide, by decide⟩

theorem dn_at {rs : List (Int × Int)} {m : Nat} (h : m + 1 < rs.length) : dn (keysL rs) (m + 1) = decide ((rs.getD (m + 1) (0, 0)).1 < (rs.getD m (0, 0)).1) := by
  simp [dn, keysL, List.getD, show m < rs.length by omega, h]

set_option maxRecDepth 100000 in
set_option maxHeartbeats 4000000 in
theorem implNaturalRuns0_any (a : Option Addr) (cap : Nat) (zs : List (Int × Int)) (w : World) (hl : zs.length ≤ 64) (h : RecsAt w a zs) :
    Calls Tryz.prog 145 #[.slice a zs.length cap] w fun e w' => ∃ (a' : Option Addr) (c' : Nat), e = .returned (.slice a' (runsFrom (keysL zs) 0).length c') ∧ w'.ownsRow w.heap.size 163 2 (.slice a' (runsFrom (keysL zs) 0).length c') (runsFrom (keysL zs) 0).length (flat encR (runsFrom (keysL zs) 0)) ∧ Below w.heap.size w w' := by
  have H := Lib.hid h; clear h
  have E1 := Lib.hid (own_lit (w := w) (e := 163) (size := 2) #[] 0 (by omega) rfl)
  have HKL := Lib.hid (keysL_len zs)
  go_enter Tryz.func145, Tryz.ntmps145
  go_wp2
  go_loopw [3, 4, 5] (fun v i _ wr => ∃ (f : Nat) (acc : List (Int × Int)), i = .int .i64 f ∧ f ≤ zs.length ∧ acc.length ≤ f ∧ acc ++ runsFrom (keysL zs) f = runsFrom (keysL zs) 0 ∧ wr.ownsRow w.heap.size 163 2 v acc.length (flat encR acc) ∧ Below w.heap.size w wr) (fun _ i _ _ => zs.length - (intOf i).toNat)
  case atStart => exact ⟨0, [], rfl, by omega, by simp, rfl, E1.out, (Below.refl _ _).alloc (Nat.le_refl _) _⟩
  case round =>
    obtain ⟨f, acc, rfl, hf, hacc, hrun, hown, hb⟩ := hrel
    clear E1
    have HO := Lib.hid hown; clear hown
    have HB := Lib.hid hb; clear hb
    have HRUN := Lib.hid hrun; clear hrun
    by_cases hlt : f < zs.length
    case neg =>
      have HE : Hid (acc = runsFrom (keysL zs) 0) := by
        have := HRUN.out
        rw [runsFrom_end (by rw [HKL.out]; omega), List.append_nil] at this
        exact this
      obtain ⟨a', c', hv⟩ := own_slice HO.out
      rw [hv] at HO
      rw [hv]
      clear hv
      go_wp2
      go_ret
      exact ⟨a', c', by rw [HE.out]; rfl, by rw [← HE.out]; exact HO.out, HB.out⟩
    obtain ⟨b, off, rfl, hf1, hf2⟩ := (H.out.below (Nat.le_refl _) HB.out).at hlt
    by_cases hd : isDn (keysL zs) f = true
    · have HDN := Lib.hid hd
      have h1 : f + 1 < zs.length := by simp only [isDn, Bool.and_eq_true, decide_eq_true_eq] at hd; rw [HKL.out] at hd; exact hd.1
      have h2 : dn (keysL zs) (f + 1) = true := by simp only [isDn, Bool.and_eq_true] at hd; exact hd.2
      rw [dn_at h1] at h2
      obtain ⟨b', off', e1, hg1, hg2⟩ := (H.out.below (Nat.le_refl _) HB.out).at h1
      simp only [Option.some.injEq, Addr.mk.injEq, and_true] at e1
      obtain ⟨rfl, rfl⟩ := e1
      clear hd
      generalize (zs.getD f (0, 0)).1 = x at hf1 h2
      generalize (zs.getD (f + 1) (0, 0)).1 = y at hg1 h2
      have hyx : decide (y < x) = true := by simpa using h2
      have h3 : decide ((f : Int) + 1 < (zs.length : Int)) = true := by simp; omega
      go_wp2_with fail
      go_quiet (fail)
      go_wp2
      clear hf1 hf2 hg1 hg2 hyx h2 h3
      have HB1 := Lib.hid (below_drewN HB.out nq)
      have HO1 : Hid ((wr.drewN nq).ownsRow w.heap.size 163 2 u3 acc.length (flat encR acc)) := HO.out
      generalize wr.drewN nq = wr1 at HB1 HO1 ⊢
      go_loopw [5] (fun t wr2 => ∃ t' : Nat, t = .int .i64 t' ∧ f + 1 ≤ t' ∧ t' ≤ zs.length ∧ scanTo (dn (keysL zs)) (keysL zs).length t' = scanTo (dn (keysL zs)) (keysL zs).length (f + 1) ∧ Below wr1.heap.size wr1 wr2) (fun t _ => zs.length - (intOf t).toNat)
      case atStart => exact ⟨f + 1, by go_num, by omega, by omega, rfl, Below.refl _ _⟩
      case round =>
        obtain ⟨t, rfl, htf, htn, hscan, hb2⟩ := hrel
        have HT := Lib.hid hscan; clear hscan
        have HB2 := Lib.hid (HB1.out.trans (hb2.mono HB1.out.size))
        have HO2 := Lib.hid (own_below HO1.out (Nat.le_refl _) hb2)
        have HB12 := Lib.hid hb2; clear hb2
        obtain ⟨m, rfl⟩ : ∃ m, t = m + 1 := ⟨t - 1, by omega⟩
        have hcast : ((m + 1 : Nat) : Int) = (m : Int) + 1 := by omega
        have HEND : ((keysL zs).length ≤ m + 1 ∨ (dn (keysL zs)) (m + 1) = false) → runEnd (keysL zs) f = m + 1 := fun hs => by rw [runEnd, if_pos HDN.out, ← HT.out]; exact scanTo_stop hs
        have HENDH := Lib.hid HEND; clear HEND
        have HFIN : Hid (runEnd (keysL zs) f = m + 1 → acc ++ [((f : Int), (m : Int) + 1 - (f : Int))] ++ runsFrom (keysL zs) (m + 1) = runsFrom (keysL zs) 0) := fun he => by
          rw [← HRUN.out, runsFrom_step (ks := keysL zs) (f := f) (by rw [HKL.out]; exact hlt), he, List.append_assoc, hcast]; rfl
        have hn40 : acc.length + 1 ≤ 1099511627776 := by omega
        by_cases ht1 : m + 1 < zs.length
        · obtain ⟨b', off', e1, hg1, hg2⟩ := (H.out.below (Nat.le_refl _) HB2.out).at ht1
          simp only [Option.some.injEq, Addr.mk.injEq, and_true] at e1
          obtain ⟨rfl, rfl⟩ := e1
          obtain ⟨b', off', e1, hm1, hm2⟩ := (H.out.below (Nat.le_refl _) HB2.out).at (show m < zs.length by omega)
          simp only [Option.some.injEq, Addr.mk.injEq, and_true] at e1
          obtain ⟨rfl, rfl⟩ := e1
          have HD := Lib.hid (dn_at ht1)
          have h3 : decide ((m : Int) + 1 < (zs.length : Int)) = true := by simp; omega
          generalize (zs.getD m (0, 0)).1 = x at hm1 HD
          generalize (zs.getD (m + 1) (0, 0)).1 = y at hg1 HD
          by_cases hyx : y < x
          · have hz : decide (y < x) = true := by simpa using hyx
            have hz2 : decide (x ≤ y) = false := by simp; omega
            have HC : Hid ((dn (keysL zs)) (m + 1) = true) := by show _ = true; simp only [HD.out]; simp; omega
            have HST := Lib.hid (scanTo_step (q := dn (keysL zs)) (n := (keysL zs).length) (t := m + 1) (by rw [HKL.out]; exact ht1) HC.out)
            rw [hcast]
            go_wp2_with fail
            go_quiet (fail)
            go_wp2
            go_roundw
            case rel => exact ⟨m + 2, by go_num, by omega, by omega, by rw [← HT.out, HST.out], below_drewN HB12.out _⟩
            case measure => simp [intOf]; omega
          · have hz : decide (y < x) = false := by simpa using hyx
            have hz2 : decide (x ≤ y) = true := by simp; omega
            have HSTOP : Hid ((keysL zs).length ≤ m + 1 ∨ (dn (keysL zs)) (m + 1) = false) := .inr (by simp only [HD.out]; simp; omega)
            have hbs := HB2.out.size
            rw [hcast]
            go_wp2_with fail
            go_quiet (fail)
            have HB3 := Lib.hid (below_drewN HB2.out nq)
            have HO3 : Hid ((wr.drewN nq).ownsRow w.heap.size 163 2 u3 acc.length (flat encR acc)) := HO2.out
            have hbs3 : w.heap.size ≤ (wr.drewN nq).heap.size := hbs
            go_wp2_with (at_builtin; refine wpList_app1 slRun rfl (.tmp 70) (.tmp 76) rfl rfl HO3.out [.int .i64 f, .int .i64 ((m : Int) + 1 - (f : Int))] rfl rfl (by simp) (by simp [Value.oneCell']) hn40 hbs3 ?_; intro v' w5 hown' hg' ht)
            have HO5 := Lib.hid hown'
            have HB5 := Lib.hid (below_app HB3.out hbs3 HO3.out (Nat.le_refl _) hg')
            clear hown' hg' ht hbs hbs3
            go_roundw
            case rel => exact ⟨m + 1, acc ++ [((f : Int), (m : Int) + 1 - (f : Int))], by go_num, by omega, by simp; omega, HFIN.out (HENDH.out HSTOP.out), by rw [List.length_append, flat_append]; exact HO5.out, HB5.out⟩
            case measure => simp [intOf]; omega
        · have h3 : decide ((m : Int) + 1 < (zs.length : Int)) = false := by simp; omega
          have HSTOP : Hid ((keysL zs).length ≤ m + 1 ∨ (dn (keysL zs)) (m + 1) = false) := .inl (by rw [HKL.out]; omega)
          have hbs := HB2.out.size
          rw [hcast]
          go_wp2_with fail
          go_quiet (fail)
          have HB3 := Lib.hid (below_drewN HB2.out nq)
          have HO3 : Hid ((wr.drewN nq).ownsRow w.heap.size 163 2 u3 acc.length (flat encR acc)) := HO2.out
          have hbs3 : w.heap.size ≤ (wr.drewN nq).heap.size := hbs
          go_wp2_with (at_builtin; refine wpList_app1 slRun rfl (.tmp 70) (.tmp 76) rfl rfl HO3.out [.int .i64 f, .int .i64 ((m : Int) + 1 - (f : Int))] rfl rfl (by simp) (by simp [Value.oneCell']) hn40 hbs3 ?_; intro v' w5 hown' hg' ht)
          have HO5 := Lib.hid hown'
          have HB5 := Lib.hid (below_app HB3.out hbs3 HO3.out (Nat.le_refl _) hg')
          clear hown' hg' ht hbs hbs3
          go_roundw
          case rel => exact ⟨m + 1, acc ++ [((f : Int), (m : Int) + 1 - (f : Int))], by go_num, by omega, by simp; omega, HFIN.out (HENDH.out HSTOP.out), by rw [List.length_append, flat_append]; exact HO5.out, HB5.out⟩
          case measure => simp [intOf]; omega
    · have hd' : isDn (keysL zs) f = false := by simpa using hd
      have HDN := Lib.hid hd'; clear hd'
      have HIF : Hid (¬ (isDn (keysL zs) f = true)) := hd
      by_cases h1 : f + 1 < zs.length
      · have h2 : dn (keysL zs) (f + 1) = false := by simp only [isDn, Bool.and_eq_true, decide_eq_true_eq, not_and] at hd; rw [HKL.out] at hd; simpa using hd h1
        rw [dn_at h1] at h2
        obtain ⟨b', off', e1, hg1, hg2⟩ := (H.out.below (Nat.le_refl _) HB.out).at h1
        simp only [Option.some.injEq, Addr.mk.injEq, and_true] at e1
        obtain ⟨rfl, rfl⟩ := e1
        clear hd
        generalize (zs.getD f (0, 0)).1 = x at hf1 h2
        generalize (zs.getD (f + 1) (0, 0)).1 = y at hg1 h2
        have h3 : decide ((f : Int) + 1 < (zs.length : Int)) = true := by simp; omega
        go_wp2_with fail
        go_quiet (fail)
        go_wp2
        clear hf1 hf2 hg1 hg2 h2 h3
        have HB1 := Lib.hid (below_drewN HB.out nq)
        have HO1 : Hid ((wr.drewN nq).ownsRow w.heap.size 163 2 u3 acc.length (flat encR acc)) := HO.out
        generalize wr.drewN nq = wr1 at HB1 HO1 ⊢
        go_loopw [5] (fun t wr2 => ∃ t' : Nat, t = .int .i64 t' ∧ f + 1 ≤ t' ∧ t' ≤ zs.length ∧ scanTo (fun t => !dn (keysL zs) t) (keysL zs).length t' = scanTo (fun t => !dn (keysL zs) t) (keysL zs).length (f + 1) ∧ Below wr1.heap.size wr1 wr2) (fun t _ => zs.length - (intOf t).toNat)
        case atStart => exact ⟨f + 1, by go_num, by omega, by omega, rfl, Below.refl _ _⟩
        case round =>
          obtain ⟨t, rfl, htf, htn, hscan, hb2⟩ := hrel
          have HT := Lib.hid hscan; clear hscan
          have HB2 := Lib.hid (HB1.out.trans (hb2.mono HB1.out.size))
          have HO2 := Lib.hid (own_below HO1.out (Nat.le_refl _) hb2)
          have HB12 := Lib.hid hb2; clear hb2
          obtain ⟨m, rfl⟩ : ∃ m, t = m + 1 := ⟨t - 1, by omega⟩
          have hcast : ((m + 1 : Nat) : Int) = (m : Int) + 1 := by omega
          have HEND : ((keysL zs).length ≤ m + 1 ∨ (fun t => !dn (keysL zs) t) (m + 1) = false) → runEnd (keysL zs) f = m + 1 := fun hs => by rw [runEnd, if_neg HIF.out, ← HT.out]; exact scanTo_stop hs
          have HENDH := Lib.hid HEND; clear HEND
          have HFIN : Hid (runEnd (keysL zs) f = m + 1 → acc ++ [((f : Int), (m : Int) + 1 - (f : Int))] ++ runsFrom (keysL zs) (m + 1) = runsFrom (keysL zs) 0) := fun he => by
            rw [← HRUN.out, runsFrom_step (ks := keysL zs) (f := f) (by rw [HKL.out]; exact hlt), he, List.append_assoc, hcast]; rfl
          have hn40 : acc.length + 1 ≤ 1099511627776 := by omega
          by_cases ht1 : m + 1 < zs.length
          · obtain ⟨b', off', e1, hg1, hg2⟩ := (H.out.below (Nat.le_refl _) HB2.out).at ht1
            simp only [Option.some.injEq, Addr.mk.injEq, and_true] at e1
            obtain ⟨rfl, rfl⟩ := e1
            obtain ⟨b', off', e1, hm1, hm2⟩ := (H.out.below (Nat.le_refl _) HB2.out).at (show m < zs.length by omega)
            simp only [Option.some.injEq, Addr.mk.injEq, and_true] at e1
            obtain ⟨rfl, rfl⟩ := e1
            have HD := Lib.hid (dn_at ht1)
            have h3 : decide ((m : Int) + 1 < (zs.length : Int)) = true := by simp; omega
            generalize (zs.getD m (0, 0)).1 = x at hm1 HD
            generalize (zs.getD (m + 1) (0, 0)).1 = y at hg1 HD
            by_cases hyx : y < x
            · have hz : decide (y < x) = true := by simpa using hyx
              have hz2 : decide (x ≤ y) = false := by simp; omega
              have HSTOP : Hid ((keysL zs).length ≤ m + 1 ∨ (fun t => !dn (keysL zs) t) (m + 1) = false) := .inr (by simp only [HD.out]; simp; omega)
              have hbs := HB2.out.size
              rw [hcast]
              go_wp2_with fail
              go_quiet (fail)
              have HB3 := Lib.hid (below_drewN HB2.out nq)
              have HO3 : Hid ((wr.drewN nq).ownsRow w.heap.size 163 2 u3 acc.length (flat encR acc)) := HO2.out
              have hbs3 : w.heap.size ≤ (wr.drewN nq).heap.size := hbs
              go_wp2_with (at_builtin; refine wpList_app1 slRun rfl (.tmp 70) (.tmp 76) rfl rfl HO3.out [.int .i64 f, .int .i64 ((m : Int) + 1 - (f : Int))] rfl rfl (by simp) (by simp [Value.oneCell']) hn40 hbs3 ?_; intro v' w5 hown' hg' ht)
              have HO5 := Lib.hid hown'
              have HB5 := Lib.hid (below_app HB3.out hbs3 HO3.out (Nat.le_refl _) hg')
              clear hown' hg' ht hbs hbs3
              go_roundw
              case rel => exact ⟨m + 1, acc ++ [((f : Int), (m : Int) + 1 - (f : Int))], by go_num, by omega, by simp; omega, HFIN.out (HENDH.out HSTOP.out), by rw [List.length_append, flat_append]; exact HO5.out, HB5.out⟩
              case measure => simp [intOf]; omega
            · have hz : decide (y < x) = false := by simpa using hyx
              have hz2 : decide (x ≤ y) = true := by simp; omega
              have HC : Hid ((fun t => !dn (keysL zs) t) (m + 1) = true) := by show _ = true; simp only [HD.out]; simp; omega
              have HST := Lib.hid (scanTo_step (q := fun t => !dn (keysL zs) t) (n := (keysL zs).length) (t := m + 1) (by rw [HKL.out]; exact ht1) HC.out)
              rw [hcast]
              go_wp2_with fail
              go_quiet (fail)
              go_wp2
              go_roundw
              case rel => exact ⟨m + 2, by go_num, by omega, by omega, by rw [← HT.out, HST.out], below_drewN HB12.out _⟩
              case measure => simp [intOf]; omega
          · have h3 : decide ((m : Int) + 1 < (zs.length : Int)) = false := by simp; omega
            have HSTOP : Hid ((keysL zs).length ≤ m + 1 ∨ (fun t => !dn (keysL zs) t) (m + 1) = false) := .inl (by rw [HKL.out]; omega)
            have hbs := HB2.out.size
            rw [hcast]
            go_wp2_with fail
            go_quiet (fail)
            have HB3 := Lib.hid (below_drewN HB2.out nq)
            have HO3 : Hid ((wr.drewN nq).ownsRow w.heap.size 163 2 u3 acc.length (flat encR acc)) := HO2.out
            have hbs3 : w.heap.size ≤ (wr.drewN nq).heap.size := hbs
            go_wp2_with (at_builtin; refine wpList_app1 slRun rfl (.tmp 70) (.tmp 76) rfl rfl HO3.out [.int .i64 f, .int .i64 ((m : Int) + 1 - (f : Int))] rfl rfl (by simp) (by simp [Value.oneCell']) hn40 hbs3 ?_; intro v' w5 hown' hg' ht)
            have HO5 := Lib.hid hown'
            have HB5 := Lib.hid (below_app HB3.out hbs3 HO3.out (Nat.le_refl _) hg')
            clear hown' hg' ht hbs hbs3
            go_roundw
            case rel => exact ⟨m + 1, acc ++ [((f : Int), (m : Int) + 1 - (f : Int))], by go_num, by omega, by simp; omega, HFIN.out (HENDH.out HSTOP.out), by rw [List.length_append, flat_append]; exact HO5.out, HB5.out⟩
            case measure => simp [intOf]; omega
      · have h3 : decide ((f : Int) + 1 < (zs.length : Int)) = false := by simp; omega
        clear hd
        go_wp2_with fail
        go_quiet (fail)
        go_wp2
        clear hf1 hf2 h3
        have HB1 := Lib.hid (below_drewN HB.out nq)
        have HO1 : Hid ((wr.drewN nq).ownsRow w.heap.size 163 2 u3 acc.length (flat encR acc)) := HO.out
        generalize wr.drewN nq = wr1 at HB1 HO1 ⊢
        go_loopw [5] (fun t wr2 => ∃ t' : Nat, t = .int .i64 t' ∧ f + 1 ≤ t' ∧ t' ≤ zs.length ∧ scanTo (fun t => !dn (keysL zs) t) (keysL zs).length t' = scanTo (fun t => !dn (keysL zs) t) (keysL zs).length (f + 1) ∧ Below wr1.heap.size wr1 wr2) (fun t _ => zs.length - (intOf t).toNat)
        case atStart => exact ⟨f + 1, by go_num, by omega, by omega, rfl, Below.refl _ _⟩
        case round =>
          obtain ⟨t, rfl, htf, htn, hscan, hb2⟩ := hrel
          have HT := Lib.hid hscan; clear hscan
          have HB2 := Lib.hid (HB1.out.trans (hb2.mono HB1.out.size))
          have HO2 := Lib.hid (own_below HO1.out (Nat.le_refl _) hb2)
          have HB12 := Lib.hid hb2; clear hb2
          obtain ⟨m, rfl⟩ : ∃ m, t = m + 1 := ⟨t - 1, by omega⟩
          have hcast : ((m + 1 : Nat) : Int) = (m : Int) + 1 := by omega
          have HEND : ((keysL zs).length ≤ m + 1 ∨ (fun t => !dn (keysL zs) t) (m + 1) = false) → runEnd (keysL zs) f = m + 1 := fun hs => by rw [runEnd, if_neg HIF.out, ← HT.out]; exact scanTo_stop hs
          have HENDH := Lib.hid HEND; clear HEND
          have HFIN : Hid (runEnd (keysL zs) f = m + 1 → acc ++ [((f : Int), (m : Int) + 1 - (f : Int))] ++ runsFrom (keysL zs) (m + 1) = runsFrom (keysL zs) 0) := fun he => by
            rw [← HRUN.out, runsFrom_step (ks := keysL zs) (f := f) (by rw [HKL.out]; exact hlt), he, List.append_assoc, hcast]; rfl
          have hn40 : acc.length + 1 ≤ 1099511627776 := by omega
          by_cases ht1 : m + 1 < zs.length
          · omega
          · have h3 : decide ((m : Int) + 1 < (zs.length : Int)) = false := by simp; omega
            have HSTOP : Hid ((keysL zs).length ≤ m + 1 ∨ (fun t => !dn (keysL zs) t) (m + 1) = false) := .inl (by rw [HKL.out]; omega)
            have hbs := HB2.out.size
            rw [hcast]
            go_wp2_with fail
            go_quiet (fail)
            have HB3 := Lib.hid (below_drewN HB2.out nq)
            have HO3 : Hid ((wr.drewN nq).ownsRow w.heap.size 163 2 u3 acc.length (flat encR acc)) := HO2.out
            have hbs3 : w.heap.size ≤ (wr.drewN nq).heap.size := hbs
            go_wp2_with (at_builtin; refine wpList_app1 slRun rfl (.tmp 70) (.tmp 76) rfl rfl HO3.out [.int .i64 f, .int .i64 ((m : Int) + 1 - (f : Int))] rfl rfl (by simp) (by simp [Value.oneCell']) hn40 hbs3 ?_; intro v' w5 hown' hg' ht)
            have HO5 := Lib.hid hown'
            have HB5 := Lib.hid (below_app HB3.out hbs3 HO3.out (Nat.le_refl _) hg')
            clear hown' hg' ht hbs hbs3
            go_roundw
            case rel => exact ⟨m + 1, acc ++ [((f : Int), (m : Int) + 1 - (f : Int))], by go_num, by omega, by simp; omega, HFIN.out (HENDH.out HSTOP.out), by rw [List.length_append, flat_append]; exact HO5.out, HB5.out⟩
            case measure => simp [intOf]; omega

end Go.Proofs.YtbgmbanebmlghaaGreatDoor

namespace Go.Proofs.YtbgmbanebmlghaaGreatDoor
open Go.RowKit
set_option linter.unusedVariables false
theorem cells4 {w : World} {g : Nat} {x0 x1 x2 x3 : Value} {e : TypeId} {f : Nat × Nat} (h : w.heap[g]? = some (.cells #[x0, x1, x2, x3] e f)) :
    w.cell? ⟨g, 0, none⟩ = some x0 ∧ w.cell? ⟨g, 1, none⟩ = some x1 ∧ w.cell? ⟨g, 2, none⟩ = some x2 ∧ w.cell? ⟨g, 3, none⟩ = some x3 :=
  ⟨row_cell h 0, row_cell h 1, row_cell h 2, row_cell h 3⟩

end Go.Proofs.YtbgmbanebmlghaaGreatDoor

namespace Go.Proofs.YtbgmbanebmlghaaGreatDoor
open Go.RowKit
set_option linter.unusedVariables false

def recsK (zs : List Int) (k : Nat) : List (Int × Int) := (List.range k).map fun j : Nat => (zs.getD j 0, (j : Int))
def recsOf (zs : List Int) : List (Int × Int) := recsK zs zs.length
theorem recsK_succ (zs : List Int) (k : Nat) : recsK zs (k + 1) = recsK zs k ++ [(zs.getD k 0, (k : Int))] := by simp [recsK, List.range_succ]
theorem recsK_len (zs : List Int) (k : Nat) : (recsK zs k).length = k := by simp [recsK]

set_option maxHeartbeats 400000 in
theorem recordsOf_any (a : Option Addr) (cap : Nat) (zs : List Int) (w : World) (hlen : zs.length ≤ 1048576) (h : IntsAt w a zs) :
    Calls Tryz.prog 51 #[.slice a zs.length cap] w fun e w' => ∃ a' c', e = .returned (.slice a' (recsOf zs).length c') ∧ w'.ownsRow w.heap.size 87 2 (.slice a' (recsOf zs).length c') (recsOf zs).length (flat encR (recsOf zs)) ∧ Below w.heap.size w w' := by
  have H := Lib.hid h; clear h
  have E1 := Lib.hid (own_lit (w := w) (e := 87) (size := 2) #[] 0 (by omega) rfl)
  go_enter Tryz.func51, Tryz.ntmps51
  go_wp2
  go_loopw [3, 4, 5, 9] (fun v _ _ i wr => ∃ k : Nat, k ≤ zs.length ∧ i = .int .i64 k ∧ wr.ownsRow w.heap.size 87 2 v (recsK zs k).length (flat encR (recsK zs k)) ∧ Below w.heap.size w wr) (fun _ _ _ i _ => zs.length - (intOf i).toNat)
  case atStart => exact ⟨0, by omega, rfl, E1.out, (Below.refl _ _).alloc (Nat.le_refl _) _⟩
  case round =>
    obtain ⟨k, hk, rfl, hown, hb⟩ := hrel
    clear E1
    by_cases hlt : k < zs.length
    · obtain ⟨b, off, rfl, hcell⟩ := (H.out.below (Nat.le_refl _) hb).at hlt
      have HS := Lib.hid (recsK_succ zs k)
      have hn : (recsK zs k).length + 1 ≤ 1099511627776 := by rw [recsK_len]; omega
      generalize hx : zs.getD k 0 = x at hcell HS
      have HX := Lib.hid hx; clear hx
      have HO := Lib.hid hown; clear hown
      have HB := Lib.hid hb; clear hb
      have hbs := HB.out.size
      go_wp2_with (at_builtin; refine wpList_app1 slRec rfl (.tmp 14) (.tmp 18) rfl rfl HO.out [.int .i64 x, .int .i64 k] rfl rfl (by simp) (by simp [Value.oneCell']) hn hbs ?_; intro v' w1 hown' hg ht)
      have HO' := Lib.hid hown'
      have HB' := Lib.hid (below_app HB.out hbs HO.out (Nat.le_refl _) hg)
      clear hown' hg ht hbs hn
      go_roundw
      case rel =>
        refine ⟨k + 1, by omega, by go_num, ?_, HB'.out⟩
        rw [HS.out, List.length_append, flat_append]
        exact HO'.out
      case measure => simp [intOf]; omega
    · have e : k = zs.length := by omega
      subst e
      obtain ⟨a', c', rfl⟩ := own_slice hown
      have HO := Lib.hid hown; clear hown
      have HB := Lib.hid hb; clear hb
      go_wp2
      go_ret
      exact ⟨a', c', rfl, HO.out, HB.out⟩

end Go.Proofs.YtbgmbanebmlghaaGreatDoor

namespace Go.Proofs.YtbgmbanebmlghaaGreatDoor
open Go.RowKit
set_option linter.unusedVariables false

theorem okList_lenQ {zs : List Int} (h : okList zs = true) : zs.length ≤ 64 := by
  unfold okList at h; rw [Bool.and_eq_true] at h; simpa using h.1
def ncRecs (zs : List Int) : List (Int × Int) := if okList zs then recsOf zs else []
set_option maxHeartbeats 1000000 in
theorem implNewConsole_any (a : Option Addr) (cap : Nat) (zs : List Int) (w : World) (hbig : zs.length ≤ 9223372036854775807) (h : IntsAt w a zs) :
    Calls Tryz.prog 12 #[.slice a zs.length cap] w fun e w' => ∃ a' c', e = .returned (.tuple #[.agg #[.slice a' (ncRecs zs).length c', .string ⟨#[]⟩, .string ⟨#[]⟩, .int .i64 0], .bool (okList zs)]) ∧ w'.ownsRow w.heap.size 87 2 (.slice a' (ncRecs zs).length c') (ncRecs zs).length (flat encR (ncRecs zs)) ∧ Below w.heap.size w w' := by
  have HB0 : Hid (Below w.heap.size w (w.alloc (.cells #[.slice none 0 0, .string ⟨#[]⟩, .string ⟨#[]⟩, .int .i64 0] 30))) := (Below.refl _ _).alloc (Nat.le_refl _) _
  have HR0 := Lib.hid (block_new w (.cells #[.slice none 0 0, .string ⟨#[]⟩, .string ⟨#[]⟩, .int .i64 0] 30))
  have HL := Lib.hid (isValidList_any a cap zs _ hbig (h.below (Nat.le_refl _) HB0.out))
  have H := Lib.hid h; clear h
  go_enter Tryz.func12, Tryz.ntmps12
  go_wp2_with fail
  refine HL.out.mono ?_
  rintro e w1 ⟨rfl, hb⟩
  have HB1 := Lib.hid (HB0.out.trans (hb.mono HB0.out.size))
  have HR1 := Lib.hid (block_below HR0.out hb (by simp))
  have HS : Hid (w.heap.size < w1.heap.size) := by show _ < _; have := hb.size; simp at this; omega
  clear hb HB0 HR0 HL
  cases hk : okList zs
  · have HK := Lib.hid hk; clear hk
    have HN : Hid (ncRecs zs = []) := by show _ = _; simp [ncRecs, HK.out]
    obtain ⟨c0, c1, c2, c3⟩ := cells4 HR1.out
    go_wp2_with (refine wpList_var rfl 30 (.tmp 2) (.tmp 7) rfl rfl rfl HR1.out (by kernel_rfl) rfl (by simp [Value.oneCell']) ?_)
    intro w3 hrow hg
    obtain ⟨d0, d1, d2, d3⟩ := cells4 hrow
    have HB3 := Lib.hid (HB1.out.grown hg HB1.out.size (fun k hk => by cases hk; exact Nat.le_refl _))
    clear hrow hg c0 c1 c2 c3
    go_wp2
    refine bodyPost_ret (v := .tuple #[.agg #[.slice none 0 0, .string ⟨#[]⟩, .string ⟨#[]⟩, .int .i64 0], .bool false]) (by simp [results, Tryz.results12, go_sem, d0, d1, d2, d3]) rfl ⟨none, 0, ?_, ?_, HB3.out⟩
    · rw [HN.out, HK.out]; rfl
    · rw [HN.out]; exact World.ownsRow_nil _ _ _ _
  · have HK := Lib.hid hk
    have HN : Hid (ncRecs zs = recsOf zs) := by show _ = _; simp [ncRecs, HK.out]
    have hl := okList_lenQ hk
    clear hk
    go_wp2_with fail
    refine (recordsOf_any a cap zs _ (by omega) (H.out.below (Nat.le_refl _) HB1.out)).mono ?_
    rintro e w2 ⟨a', c', rfl, ho, hb⟩
    have HO := Lib.hid ho
    have HR2 := Lib.hid (block_below HR1.out hb HS.out)
    have HB2 := Lib.hid (HB1.out.trans (hb.mono HB1.out.size))
    clear ho hb
    go_wp2_with (refine wpList_var rfl 30 (.tmp 2) (.tmp 10) rfl rfl rfl HR2.out (by kernel_rfl) rfl (by simp [Value.oneCell']) ?_)
    intro w3 hrow hg
    obtain ⟨d0, d1, d2, d3⟩ := cells4 hrow
    have HB3 := Lib.hid (HB2.out.grown hg HB2.out.size (fun k hk => by cases hk; exact Nat.le_refl _))
    have HO3 := Lib.hid (own_other HO.out hg (fun k hk e => by cases e; have := (HO.out.lt _ hk).1; have := HS.out; omega))
    clear hrow hg
    go_wp2
    refine bodyPost_ret (v := .tuple #[.agg #[.slice a' (recsOf zs).length c', .string ⟨#[]⟩, .string ⟨#[]⟩, .int .i64 0], .bool true]) (by simp [results, Tryz.results12, go_sem, d0, d1, d2, d3]) rfl ⟨a', c', ?_, ?_, HB3.out⟩
    · rw [HN.out, HK.out]
    · rw [HN.out]; exact own_mono HO3.out HB1.out.size

end Go.Proofs.YtbgmbanebmlghaaGreatDoor

