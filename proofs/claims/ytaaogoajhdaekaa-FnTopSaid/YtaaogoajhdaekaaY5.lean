/- Several texts in one: lemmas and walks of the functions that the law reaches. -/
import Derived.Test.YtaaogoajhdaekaaY4

namespace Go.Proofs.Ytaaogoajhdaekaa
open Go.RowKit
set_option linter.unusedVariables false

def scanF (q : Nat → Bool) : Nat → Nat → Nat
  | 0, t => t
  | f + 1, t => if q t then scanF q f (t + 1) else t
def scanTo (q : Nat → Bool) (n t : Nat) : Nat := scanF q (n - t) t
theorem scanTo_step {q : Nat → Bool} {n t : Nat} (h : t < n) (hq : q t = true) : scanTo q n t = scanTo q n (t + 1) := by
  unfold scanTo
  rw [show n - t = (n - (t + 1)) + 1 from by omega]
  simp [scanF, hq]
theorem scanTo_stop {q : Nat → Bool} {n t : Nat} (h : n ≤ t ∨ q t = false) : scanTo q n t = t := by
  unfold scanTo
  rcases h with h | h
  · rw [show n - t = 0 from by omega]; rfl
  · cases n - t with
    | zero => rfl
    | succ f => simp [scanF, h]
theorem scanF_bound (q : Nat → Bool) : ∀ (f t : Nat), t ≤ scanF q f t ∧ scanF q f t ≤ t + f := by
  intro f
  induction f with
  | zero => intro t; simp [scanF]
  | succ f ih =>
    intro t
    simp only [scanF]
    split
    · have := ih (t + 1); omega
    · omega
theorem scanTo_bound (q : Nat → Bool) {n t : Nat} (h : t ≤ n) : t ≤ scanTo q n t ∧ scanTo q n t ≤ n := by
  have := scanF_bound q (n - t) t
  unfold scanTo; omega
theorem scanF_all (q : Nat → Bool) : ∀ (f t j : Nat), t ≤ j → j < scanF q f t → q j = true := by
  intro f
  induction f with
  | zero => intro t j h1 h2; simp [scanF] at h2; omega
  | succ f ih =>
    intro t j h1 h2
    simp only [scanF] at h2
    split at h2
    · rename_i hq
      by_cases e : j = t
      · subst e; exact hq
      · exact ih (t + 1) j (by omega) h2
    · omega
def dn (ks : List Int) (t : Nat) : Bool := decide (ks.getD t 0 < ks.getD (t - 1) 0)
def isDn (ks : List Int) (f : Nat) : Bool := decide (f + 1 < ks.length) && dn ks (f + 1)
def runEnd (ks : List Int) (f : Nat) : Nat := if isDn ks f then scanTo (dn ks) ks.length (f + 1) else scanTo (fun t => !dn ks t) ks.length (f + 1)
theorem runEnd_bound {ks : List Int} {f : Nat} (h : f < ks.length) : f + 1 ≤ runEnd ks f ∧ runEnd ks f ≤ ks.length := by
  unfold runEnd; split <;> exact scanTo_bound _ (by omega)
def runsF (ks : List Int) : Nat → Nat → List (Int × Int)
  | 0, _ => []
  | g + 1, f => if f < ks.length then ((f : Int), ((runEnd ks f : Nat) : Int) - (f : Int)) :: runsF ks g (runEnd ks f) else []
def runsFrom (ks : List Int) (f : Nat) : List (Int × Int) := runsF ks (ks.length - f) f
theorem runsF_fuel (ks : List Int) : ∀ (g g' f : Nat), ks.length ≤ f + g → ks.length ≤ f + g' → runsF ks g f = runsF ks g' f := by
  intro g
  induction g with
  | zero =>
    intro g' f h1 h2
    cases g' with
    | zero => rfl
    | succ g' => simp only [runsF]; rw [if_neg (by omega)]
  | succ g ih =>
    intro g' f h1 h2
    cases g' with
    | zero => simp only [runsF]; rw [if_neg (by omega)]
    | succ g' =>
      simp only [runsF]
      by_cases hf : f < ks.length
      · rw [if_pos hf, if_pos hf]
        have := runEnd_bound hf
        rw [ih g' (runEnd ks f) (by omega) (by omega)]
      · rw [if_neg hf, if_neg hf]
theorem runsFrom_step {ks : List Int} {f : Nat} (h : f < ks.length) : runsFrom ks f = ((f : Int), ((runEnd ks f : Nat) : Int) - (f : Int)) :: runsFrom ks (runEnd ks f) := by
  unfold runsFrom
  rw [show ks.length - f = (ks.length - (f + 1)) + 1 from by omega]
  simp only [runsF]
  rw [if_pos h]
  have := runEnd_bound h
  rw [runsF_fuel ks (ks.length - (f + 1)) (ks.length - runEnd ks f) _ (by omega) (by omega)]
theorem runsFrom_end {ks : List Int} {f : Nat} (h : ks.length ≤ f) : runsFrom ks f = [] := by
  unfold runsFrom; rw [show ks.length - f = 0 from by omega]; rfl

theorem Try.infoRun : (Try.prog.info? 57).map (fun i => (i.zero, i.size, i.bytes)) = some (some (.agg #[.int .i64 0, .int .i64 0]), 2, 16) := by kernel_rfl
theorem slRun : SlT Try.prog 54 57 (.agg #[.int .i64 0, .int .i64 0]) 2 16 := ⟨Try.underlying54, info_parts Try.infoRun, rfl, by decide, by decide⟩

theorem dn_at {rs : List (Int × Int)} {m : Nat} (h : m + 1 < rs.length) : dn (keysL rs) (m + 1) = decide ((rs.getD (m + 1) (0, 0)).1 < (rs.getD m (0, 0)).1) := by
  simp [dn, keysL, List.getD, show m < rs.length by omega, h]

set_option maxRecDepth 100000 in
set_option maxHeartbeats 4000000 in
theorem implNaturalRuns0_any (a : Option Addr) (cap : Nat) (zs : List (Int × Int)) (w : World) (hl : zs.length ≤ 64) (h : RecsAt w a zs) :
    Calls Try.prog 26 #[.slice a zs.length cap] w fun e w' => ∃ (a' : Option Addr) (c' : Nat), e = .returned (.slice a' (runsFrom (keysL zs) 0).length c') ∧ w'.ownsRow w.heap.size 57 2 (.slice a' (runsFrom (keysL zs) 0).length c') (runsFrom (keysL zs) 0).length (flat encR (runsFrom (keysL zs) 0)) ∧ Below w.heap.size w w' := by
  have H := Lib.hid h; clear h
  have E1 := Lib.hid (own_lit (w := w) (e := 57) (size := 2) #[] 0 (by omega) rfl)
  have HKL := Lib.hid (keysL_len zs)
  go_enter Try.func26, Try.ntmps26
  go_wp2
  go_loopw [3, 4, 5] (fun v i _ wr => ∃ (f : Nat) (acc : List (Int × Int)), i = .int .i64 f ∧ f ≤ zs.length ∧ acc.length ≤ f ∧ acc ++ runsFrom (keysL zs) f = runsFrom (keysL zs) 0 ∧ wr.ownsRow w.heap.size 57 2 v acc.length (flat encR acc) ∧ Below w.heap.size w wr) (fun _ i _ _ => zs.length - (intOf i).toNat)
  case atStart => exact ⟨0, [], rfl, by omega, by simp, rfl, E1.out, (Below.refl _ _).alloc (Nat.le_refl _) _⟩
  case round =>
    obtain ⟨f, acc, rfl, hf, hacc, hrun, hown, hb⟩ := hrel
    clear E1
    have HO := Lib.hid hown; clear hown
    have HB := Lib.hid hb; clear hb
    have HRUN := Lib.hid hrun; clear hrun
    by_cases hlt : f < zs.length
    case neg =>
      have HE : Hid (acc = runsFrom (keysL zs) 0) := by
        have := HRUN.out
        rw [runsFrom_end (by rw [HKL.out]; omega), List.append_nil] at this
        exact this
      obtain ⟨a', c', hv⟩ := own_slice HO.out
      rw [hv] at HO
      rw [hv]
      clear hv
      go_wp2
      go_ret
      exact ⟨a', c', by rw [HE.out]; rfl, by rw [← HE.out]; exact HO.out, HB.out⟩
    obtain ⟨b, off, rfl, hf1, hf2⟩ := (H.out.below (Nat.le_refl _) HB.out).at hlt
    by_cases hd : isDn (keysL zs) f = true
    · have HDN := Lib.hid hd
      have h1 : f + 1 < zs.length := by simp only [isDn, Bool.and_eq_true, decide_eq_true_eq] at hd; rw [HKL.out] at hd; exact hd.1
      have h2 : dn (keysL zs) (f + 1) = true := by simp only [isDn, Bool.and_eq_true] at hd; exact hd.2
      rw [dn_at h1] at h2
      obtain ⟨b', off', e1, hg1, hg2⟩ := (H.out.below (Nat.le_refl _) HB.out).at h1
      simp only [Option.some.injEq, Addr.mk.injEq, and_true] at e1
      obtain ⟨rfl, rfl⟩ := e1
      clear hd
      generalize (zs.getD f (0, 0)).1 = x at hf1 h2
      generalize (zs.getD (f + 1) (0, 0)).1 = y at hg1 h2
      have hyx : decide (y < x) = true := by simpa using h2
      have h3 : decide ((f : Int) + 1 < (zs.length : Int)) = true := by simp; omega
      go_wp2_with fail
      go_quiet (fail)
      go_wp2
      clear hf1 hf2 hg1 hg2 hyx h2 h3
      have HB1 := Lib.hid (below_drewN HB.out nq)
      have HO1 : Hid ((wr.drewN nq).ownsRow w.heap.size 57 2 u3 acc.length (flat encR acc)) := HO.out
      generalize wr.drewN nq = wr1 at HB1 HO1 ⊢
      go_loopw [5] (fun t wr2 => ∃ t' : Nat, t = .int .i64 t' ∧ f + 1 ≤ t' ∧ t' ≤ zs.length ∧ scanTo (dn (keysL zs)) (keysL zs).length t' = scanTo (dn (keysL zs)) (keysL zs).length (f + 1) ∧ Below wr1.heap.size wr1 wr2) (fun t _ => zs.length - (intOf t).toNat)
      case atStart => exact ⟨f + 1, by go_num, by omega, by omega, rfl, Below.refl _ _⟩
      case round =>
        obtain ⟨t, rfl, htf, htn, hscan, hb2⟩ := hrel
        have HT := Lib.hid hscan; clear hscan
        have HB2 := Lib.hid (HB1.out.trans (hb2.mono HB1.out.size))
        have HO2 := Lib.hid (own_below HO1.out (Nat.le_refl _) hb2)
        have HB12 := Lib.hid hb2; clear hb2
        obtain ⟨m, rfl⟩ : ∃ m, t = m + 1 := ⟨t - 1, by omega⟩
        have hcast : ((m + 1 : Nat) : Int) = (m : Int) + 1 := by omega
        have HEND : ((keysL zs).length ≤ m + 1 ∨ (dn (keysL zs)) (m + 1) = false) → runEnd (keysL zs) f = m + 1 := fun hs => by rw [runEnd, if_pos HDN.out, ← HT.out]; exact scanTo_stop hs
        have HENDH := Lib.hid HEND; clear HEND
        have HFIN : Hid (runEnd (keysL zs) f = m + 1 → acc ++ [((f : Int), (m : Int) + 1 - (f : Int))] ++ runsFrom (keysL zs) (m + 1) = runsFrom (keysL zs) 0) := fun he => by
          rw [← HRUN.out, runsFrom_step (ks := keysL zs) (f := f) (by rw [HKL.out]; exact hlt), he, List.append_assoc, hcast]; rfl
        have hn40 : acc.length + 1 ≤ 1099511627776 := by omega
        by_cases ht1 : m + 1 < zs.length
        · obtain ⟨b', off', e1, hg1, hg2⟩ := (H.out.below (Nat.le_refl _) HB2.out).at ht1
          simp only [Option.some.injEq, Addr.mk.injEq, and_true] at e1
          obtain ⟨rfl, rfl⟩ := e1
          obtain ⟨b', off', e1, hm1, hm2⟩ := (H.out.below (Nat.le_refl _) HB2.out).at (show m < zs.length by omega)
          simp only [Option.some.injEq, Addr.mk.injEq, and_true] at e1
          obtain ⟨rfl, rfl⟩ := e1
          have HD := Lib.hid (dn_at ht1)
          have h3 : decide ((m : Int) + 1 < (zs.length : Int)) = true := by simp; omega
          generalize (zs.getD m (0, 0)).1 = x at hm1 HD
          generalize (zs.getD (m + 1) (0, 0)).1 = y at hg1 HD
          by_cases hyx : y < x
          · have hz : decide (y < x) = true := by simpa using hyx
            have hz2 : decide (x ≤ y) = false := by simp; omega
            have HC : Hid ((dn (keysL zs)) (m + 1) = true) := by show _ = true; simp only [HD.out]; simp; omega
            have HST := Lib.hid (scanTo_step (q := dn (keysL zs)) (n := (keysL zs).length) (t := m + 1) (by rw [HKL.out]; exact ht1) HC.out)
            rw [hcast]
            go_wp2_with fail
            go_quiet (fail)
            go_wp2
            go_roundw
            case rel => exact ⟨m + 2, by go_num, by omega, by omega, by rw [← HT.out, HST.out], below_drewN HB12.out _⟩
            case measure => simp [intOf]; omega
          · have hz : decide (y < x) = false := by simpa using hyx
            have hz2 : decide (x ≤ y) = true := by simp; omega
            have HSTOP : Hid ((keysL zs).length ≤ m + 1 ∨ (dn (keysL zs)) (m + 1) = false) := .inr (by simp only [HD.out]; simp; omega)
            have hbs := HB2.out.size
            rw [hcast]
            go_wp2_with fail
            go_quiet (fail)
            have HB3 := Lib.hid (below_drewN HB2.out nq)
            have HO3 : Hid ((wr.drewN nq).ownsRow w.heap.size 57 2 u3 acc.length (flat encR acc)) := HO2.out
            have hbs3 : w.heap.size ≤ (wr.drewN nq).heap.size := hbs
            go_wp2_with (at_builtin; refine wpList_app1 slRun rfl (.tmp 70) (.tmp 76) rfl rfl HO3.out [.int .i64 f, .int .i64 ((m : Int) + 1 - (f : Int))] rfl rfl (by simp) (by simp [Value.oneCell']) hn40 hbs3 ?_; intro v' w5 hown' hg' ht)
            have HO5 := Lib.hid hown'
            have HB5 := Lib.hid (below_app HB3.out hbs3 HO3.out (Nat.le_refl _) hg')
            clear hown' hg' ht hbs hbs3
            go_roundw
            case rel => exact ⟨m + 1, acc ++ [((f : Int), (m : Int) + 1 - (f : Int))], by go_num, by omega, by simp; omega, HFIN.out (HENDH.out HSTOP.out), by rw [List.length_append, flat_append]; exact HO5.out, HB5.out⟩
            case measure => simp [intOf]; omega
        · have h3 : decide ((m : Int) + 1 < (zs.length : Int)) = false := by simp; omega
          have HSTOP : Hid ((keysL zs).length ≤ m + 1 ∨ (dn (keysL zs)) (m + 1) = false) := .inl (by rw [HKL.out]; omega)
          have hbs := HB2.out.size
          rw [hcast]
          go_wp2_with fail
          go_quiet (fail)
          have HB3 := Lib.hid (below_drewN HB2.out nq)
          have HO3 : Hid ((wr.drewN nq).ownsRow w.heap.size 57 2 u3 acc.length (flat encR acc)) := HO2.out
          have hbs3 : w.heap.size ≤ (wr.drewN nq).heap.size := hbs
          go_wp2_with (at_builtin; refine wpList_app1 slRun rfl (.tmp 70) (.tmp 76) rfl rfl HO3.out [.int .i64 f, .int .i64 ((m : Int) + 1 - (f : Int))] rfl rfl (by simp) (by simp [Value.oneCell']) hn40 hbs3 ?_; intro v' w5 hown' hg' ht)
          have HO5 := Lib.hid hown'
          have HB5 := Lib.hid (below_app HB3.out hbs3 HO3.out (Nat.le_refl _) hg')
          clear hown' hg' ht hbs hbs3
          go_roundw
          case rel => exact ⟨m + 1, acc ++ [((f : Int), (m : Int) + 1 - (f : Int))], by go_num, by omega, by simp; omega, HFIN.out (HENDH.out HSTOP.out), by rw [List.length_append, flat_append]; exact HO5.out, HB5.out⟩
          case measure => simp [intOf]; omega
    · have hd' : isDn (keysL zs) f = false := by simpa using hd
      have HDN := Lib.hid hd'; clear hd'
      have HIF : Hid (¬ (isDn (keysL zs) f = true)) := hd
      by_cases h1 : f + 1 < zs.length
      · have h2 : dn (keysL zs) (f + 1) = false := by simp only [isDn, Bool.and_eq_true, decide_eq_true_eq, not_and] at hd; rw [HKL.out] at hd; simpa using hd h1
        rw [dn_at h1] at h2
        obtain ⟨b', off', e1, hg1, hg2⟩ := (H.out.below (Nat.le_refl _) HB.out).at h1
        simp only [Option.some.injEq, Addr.mk.injEq, and_true] at e1
        obtain ⟨rfl, rfl⟩ := e1
        clear hd
        generalize (zs.getD f (0, 0)).1 = x at hf1 h2
        generalize (zs.getD (f + 1) (0, 0)).1 = y at hg1 h2
        have h3 : decide ((f : Int) + 1 < (zs.length : Int)) = true := by simp; omega
        go_wp2_with fail
        go_quiet (fail)
        go_wp2
        clear hf1 hf2 hg1 hg2 h2 h3
        have HB1 := Lib.hid (below_drewN HB.out nq)
        have HO1 : Hid ((wr.drewN nq).ownsRow w.heap.size 57 2 u3 acc.length (flat encR acc)) := HO.out
        generalize wr.drewN nq = wr1 at HB1 HO1 ⊢
        go_loopw [5] (fun t wr2 => ∃ t' : Nat, t = .int .i64 t' ∧ f + 1 ≤ t' ∧ t' ≤ zs.length ∧ scanTo (fun t => !dn (keysL zs) t) (keysL zs).length t' = scanTo (fun t => !dn (keysL zs) t) (keysL zs).length (f + 1) ∧ Below wr1.heap.size wr1 wr2) (fun t _ => zs.length - (intOf t).toNat)
        case atStart => exact ⟨f + 1, by go_num, by omega, by omega, rfl, Below.refl _ _⟩
        case round =>
          obtain ⟨t, rfl, htf, htn, hscan, hb2⟩ := hrel
          have HT := Lib.hid hscan; clear hscan
          have HB2 := Lib.hid (HB1.out.trans (hb2.mono HB1.out.size))
          have HO2 := Lib.hid (own_below HO1.out (Nat.le_refl _) hb2)
          have HB12 := Lib.hid hb2; clear hb2
          obtain ⟨m, rfl⟩ : ∃ m, t = m + 1 := ⟨t - 1, by omega⟩
          have hcast : ((m + 1 : Nat) : Int) = (m : Int) + 1 := by omega
          have HEND : ((keysL zs).length ≤ m + 1 ∨ (fun t => !dn (keysL zs) t) (m + 1) = false) → runEnd (keysL zs) f = m + 1 := fun hs => by rw [runEnd, if_neg HIF.out, ← HT.out]; exact scanTo_stop hs
          have HENDH := Lib.hid HEND; clear HEND
          have HFIN : Hid (runEnd (keysL zs) f = m + 1 → acc ++ [((f : Int), (m : Int) + 1 - (f : Int))] ++ runsFrom (keysL zs) (m + 1) = runsFrom (keysL zs) 0) := fun he => by
            rw [← HRUN.out, runsFrom_step (ks := keysL zs) (f := f) (by rw [HKL.out]; exact hlt), he, List.append_assoc, hcast]; rfl
          have hn40 : acc.length + 1 ≤ 1099511627776 := by omega
          by_cases ht1 : m + 1 < zs.length
          · obtain ⟨b', off', e1, hg1, hg2⟩ := (H.out.below (Nat.le_refl _) HB2.out).at ht1
            simp only [Option.some.injEq, Addr.mk.injEq, and_true] at e1
            obtain ⟨rfl, rfl⟩ := e1
            obtain ⟨b', off', e1, hm1, hm2⟩ := (H.out.below (Nat.le_refl _) HB2.out).at (show m < zs.length by omega)
            simp only [Option.some.injEq, Addr.mk.injEq, and_true] at e1
            obtain ⟨rfl, rfl⟩ := e1
            have HD := Lib.hid (dn_at ht1)
            have h3 : decide ((m : Int) + 1 < (zs.length : Int)) = true := by simp; omega
            generalize (zs.getD m (0, 0)).1 = x at hm1 HD
            generalize (zs.getD (m + 1) (0, 0)).1 = y at hg1 HD
            by_cases hyx : y < x
            · have hz : decide (y < x) = true := by simpa using hyx
              have hz2 : decide (x ≤ y) = false := by simp; omega
              have HSTOP : Hid ((keysL zs).length ≤ m + 1 ∨ (fun t => !dn (keysL zs) t) (m + 1) = false) := .inr (by simp only [HD.out]; simp; omega)
              have hbs := HB2.out.size
              rw [hcast]
              go_wp2_with fail
              go_quiet (fail)
              have HB3 := Lib.hid (below_drewN HB2.out nq)
              have HO3 : Hid ((wr.drewN nq).ownsRow w.heap.size 57 2 u3 acc.length (flat encR acc)) := HO2.out
              have hbs3 : w.heap.size ≤ (wr.drewN nq).heap.size := hbs
              go_wp2_with (at_builtin; refine wpList_app1 slRun rfl (.tmp 70) (.tmp 76) rfl rfl HO3.out [.int .i64 f, .int .i64 ((m : Int) + 1 - (f : Int))] rfl rfl (by simp) (by simp [Value.oneCell']) hn40 hbs3 ?_; intro v' w5 hown' hg' ht)
              have HO5 := Lib.hid hown'
              have HB5 := Lib.hid (below_app HB3.out hbs3 HO3.out (Nat.le_refl _) hg')
              clear hown' hg' ht hbs hbs3
              go_roundw
              case rel => exact ⟨m + 1, acc ++ [((f : Int), (m : Int) + 1 - (f : Int))], by go_num, by omega, by simp; omega, HFIN.out (HENDH.out HSTOP.out), by rw [List.length_append, flat_append]; exact HO5.out, HB5.out⟩
              case measure => simp [intOf]; omega
            · have hz : decide (y < x) = false := by simpa using hyx
              have hz2 : decide (x ≤ y) = true := by simp; omega
              have HC : Hid ((fun t => !dn (keysL zs) t) (m + 1) = true) := by show _ = true; simp only [HD.out]; simp; omega
              have HST := Lib.hid (scanTo_step (q := fun t => !dn (keysL zs) t) (n := (keysL zs).length) (t := m + 1) (by rw [HKL.out]; exact ht1) HC.out)
              rw [hcast]
              go_wp2_with fail
              go_quiet (fail)
              go_wp2
              go_roundw
              case rel => exact ⟨m + 2, by go_num, by omega, by omega, by rw [← HT.out, HST.out], below_drewN HB12.out _⟩
              case measure => simp [intOf]; omega
          · have h3 : decide ((m : Int) + 1 < (zs.length : Int)) = false := by simp; omega
            have HSTOP : Hid ((keysL zs).length ≤ m + 1 ∨ (fun t => !dn (keysL zs) t) (m + 1) = false) := .inl (by rw [HKL.out]; omega)
            have hbs := HB2.out.size
            rw [hcast]
            go_wp2_with fail
            go_quiet (fail)
            have HB3 := Lib.hid (below_drewN HB2.out nq)
            have HO3 : Hid ((wr.drewN nq).ownsRow w.heap.size 57 2 u3 acc.length (flat encR acc)) := HO2.out
            have hbs3 : w.heap.size ≤ (wr.drewN nq).heap.size := hbs
            go_wp2_with (at_builtin; refine wpList_app1 slRun rfl (.tmp 70) (.tmp 76) rfl rfl HO3.out [.int .i64 f, .int .i64 ((m : Int) + 1 - (f : Int))] rfl rfl (by simp) (by simp [Value.oneCell']) hn40 hbs3 ?_; intro v' w5 hown' hg' ht)
            have HO5 := Lib.hid hown'
            have HB5 := Lib.hid (below_app HB3.out hbs3 HO3.out (Nat.le_refl _) hg')
            clear hown' hg' ht hbs hbs3
            go_roundw
            case rel => exact ⟨m + 1, acc ++ [((f : Int), (m : Int) + 1 - (f : Int))], by go_num, by omega, by simp; omega, HFIN.out (HENDH.out HSTOP.out), by rw [List.length_append, flat_append]; exact HO5.out, HB5.out⟩
            case measure => simp [intOf]; omega
      · have h3 : decide ((f : Int) + 1 < (zs.length : Int)) = false := by simp; omega
        clear hd
        go_wp2_with fail
        go_quiet (fail)
        go_wp2
        clear hf1 hf2 h3
        have HB1 := Lib.hid (below_drewN HB.out nq)
        have HO1 : Hid ((wr.drewN nq).ownsRow w.heap.size 57 2 u3 acc.length (flat encR acc)) := HO.out
        generalize wr.drewN nq = wr1 at HB1 HO1 ⊢
        go_loopw [5] (fun t wr2 => ∃ t' : Nat, t = .int .i64 t' ∧ f + 1 ≤ t' ∧ t' ≤ zs.length ∧ scanTo (fun t => !dn (keysL zs) t) (keysL zs).length t' = scanTo (fun t => !dn (keysL zs) t) (keysL zs).length (f + 1) ∧ Below wr1.heap.size wr1 wr2) (fun t _ => zs.length - (intOf t).toNat)
        case atStart => exact ⟨f + 1, by go_num, by omega, by omega, rfl, Below.refl _ _⟩
        case round =>
          obtain ⟨t, rfl, htf, htn, hscan, hb2⟩ := hrel
          have HT := Lib.hid hscan; clear hscan
          have HB2 := Lib.hid (HB1.out.trans (hb2.mono HB1.out.size))
          have HO2 := Lib.hid (own_below HO1.out (Nat.le_refl _) hb2)
          have HB12 := Lib.hid hb2; clear hb2
          obtain ⟨m, rfl⟩ : ∃ m, t = m + 1 := ⟨t - 1, by omega⟩
          have hcast : ((m + 1 : Nat) : Int) = (m : Int) + 1 := by omega
          have HEND : ((keysL zs).length ≤ m + 1 ∨ (fun t => !dn (keysL zs) t) (m + 1) = false) → runEnd (keysL zs) f = m + 1 := fun hs => by rw [runEnd, if_neg HIF.out, ← HT.out]; exact scanTo_stop hs
          have HENDH := Lib.hid HEND; clear HEND
          have HFIN : Hid (runEnd (keysL zs) f = m + 1 → acc ++ [((f : Int), (m : Int) + 1 - (f : Int))] ++ runsFrom (keysL zs) (m + 1) = runsFrom (keysL zs) 0) := fun he => by
            rw [← HRUN.out, runsFrom_step (ks := keysL zs) (f := f) (by rw [HKL.out]; exact hlt), he, List.append_assoc, hcast]; rfl
          have hn40 : acc.length + 1 ≤ 1099511627776 := by omega
          by_cases ht1 : m + 1 < zs.length
          · omega
          · have h3 : decide ((m : Int) + 1 < (zs.length : Int)) = false := by simp; omega
            have HSTOP : Hid ((keysL zs).length ≤ m + 1 ∨ (fun t => !dn (keysL zs) t) (m + 1) = false) := .inl (by rw [HKL.out]; omega)
            have hbs := HB2.out.size
            rw [hcast]
            go_wp2_with fail
            go_quiet (fail)
            have HB3 := Lib.hid (below_drewN HB2.out nq)
            have HO3 : Hid ((wr.drewN nq).ownsRow w.heap.size 57 2 u3 acc.length (flat encR acc)) := HO2.out
            have hbs3 : w.heap.size ≤ (wr.drewN nq).heap.size := hbs
            go_wp2_with (at_builtin; refine wpList_app1 slRun rfl (.tmp 70) (.tmp 76) rfl rfl HO3.out [.int .i64 f, .int .i64 ((m : Int) + 1 - (f : Int))] rfl rfl (by simp) (by simp [Value.oneCell']) hn40 hbs3 ?_; intro v' w5 hown' hg' ht)
            have HO5 := Lib.hid hown'
            have HB5 := Lib.hid (below_app HB3.out hbs3 HO3.out (Nat.le_refl _) hg')
            clear hown' hg' ht hbs hbs3
            go_roundw
            case rel => exact ⟨m + 1, acc ++ [((f : Int), (m : Int) + 1 - (f : Int))], by go_num, by omega, by simp; omega, HFIN.out (HENDH.out HSTOP.out), by rw [List.length_append, flat_append]; exact HO5.out, HB5.out⟩
            case measure => simp [intOf]; omega

end Go.Proofs.Ytaaogoajhdaekaa

namespace Go.Proofs.Ytaaogoajhdaekaa
open Go.RowKit
set_option linter.unusedVariables false
/-- A function value that answers a predicate on integers, in every world above. -/
def IsPred (w : World) (hv : Value) (p : Int → Bool) : Prop :=
  ∃ G cp, hv = .func (.func G) #[] cp ∧ (∀ args w, (callFunc G args).run Try.prog w = .ok (.enter G args) w) ∧ ∀ w1, Below w.heap.size w w1 → ∀ x : Int, Calls Try.prog G (#[.int .i64 x] ++ cp) w1 fun e w' => e = .returned (.bool (p x)) ∧ w1 = w'

theorem isKey_pred (w : World) : IsPred w (.func (.func 57) #[] #[]) okKey :=
  ⟨_, _, rfl, fun _ _ => by kernel_rfl, fun w1 _ x => by simpa using isKey_any x w1⟩

/-- The closure that 'all' makes: not what the captured function says. -/
theorem allc_any (pc : Nat) (hv : Value) (p : Int → Bool) (w0 w : World) (hp : IsPred w0 hv p) (hb : Below w0.heap.size w0 w) (hc : w.cell? ⟨pc, 0, none⟩ = some hv) (x : Int) :
    Calls Try.prog 71 #[.int .i64 x, .pointer (some ⟨pc, 0, none⟩)] w fun e w' => e = .returned (.bool (!p x)) ∧ w = w' := by
  obtain ⟨G, cp, rfl, hcall, hp⟩ := hp
  have HP := Lib.hid (hp w hb x)
  clear hp hb
  have hcall := hcall (#[.int .i64 x] ++ cp)
  go_enter Try.func71, Try.ntmps71
  go_wp2_with fail
  refine HP.out.mono ?_
  rintro e w' ⟨rfl, rfl⟩
  go_wp2
  go_ret
  exact ⟨rfl, rfl⟩

def idxF (p : Int → Bool) (zs : List Int) : Int := match zs.findIdx? p with | some i => i | none => -1

theorem idxF_some {q : Int → Bool} {zs : List Int} {k : Nat} (hk : k < zs.length) (h : q (zs.getD k 0) = true) (hall : ∀ j, j < k → q (zs.getD j 0) = false) : idxF q zs = k := by
  have : zs.findIdx? q = some k := by
    rw [List.findIdx?_eq_some_iff_getElem]
    refine ⟨hk, by simpa [List.getD, hk] using h, fun j hj => ?_⟩
    have := hall j hj
    simpa [List.getD, show j < zs.length by omega] using this
  simp [idxF, this]

theorem idxF_none {q : Int → Bool} {zs : List Int} (hall : ∀ j, j < zs.length → q (zs.getD j 0) = false) : idxF q zs = -1 := by
  have : zs.findIdx? q = none := by
    rw [List.findIdx?_eq_none_iff]
    intro x hx
    obtain ⟨j, hj, rfl⟩ := List.getElem_of_mem hx
    have := hall j hj
    simpa [List.getD, hj] using this
  simp [idxF, this]

theorem idxF_any (q : Int → Bool) (zs : List Int) : decide (0 ≤ idxF q zs) = zs.any q := by
  unfold idxF
  cases h : zs.findIdx? q with
  | none =>
    have : zs.any q = false := by
      rw [List.findIdx?_eq_none_iff] at h
      rw [List.any_eq_false]
      intro x hx; simp [h x hx]
    simp [this]
  | some i =>
    have : zs.any q = true := by
      rw [List.findIdx?_eq_some_iff_getElem] at h
      obtain ⟨hi, h, _⟩ := h
      rw [List.any_eq_true]
      exact ⟨_, List.getElem_mem hi, h⟩
    simp [this]

set_option maxHeartbeats 400000 in
theorem indexFunc_any (a : Option Addr) (cap : Nat) (zs : List Int) (pc : Nat) (hv : Value) (p : Int → Bool) (w0 w : World) (hbig : zs.length ≤ 9223372036854775807) (h : IntsAt w a zs)
    (hp : IsPred w0 hv p) (hb : Below w0.heap.size w0 w) (hc : w.cell? ⟨pc, 0, none⟩ = some hv) :
    Calls Try.prog 82 #[.slice a zs.length cap, .func (.func 71) #[] #[.pointer (some ⟨pc, 0, none⟩)]] w
      fun e w' => e = .returned (.int .i64 (idxF (fun x => !p x) zs)) ∧ w = w' := by
  have H := Lib.hid h; clear h
  have HC := Lib.hid hc; clear hc
  have HP := Lib.hid hp; clear hp
  have HB := Lib.hid hb; clear hb
  go_enter Try.func82, Try.ntmps82
  go_wp2
  go_loop [8] (fun i => ∃ k : Nat, k ≤ zs.length ∧ i = .int .i64 k ∧ ∀ j, j < k → p (zs.getD j 0) = true) (fun i => zs.length - (intOf i).toNat)
  case atStart => exact ⟨0, by omega, rfl, by intro j h; omega⟩
  case round =>
    obtain ⟨k, hk, rfl, hall⟩ := hrel
    have Hall := Lib.hid hall; clear hall
    by_cases h1 : k < zs.length
    · obtain ⟨b, off, rfl, hcell⟩ := H.out.at h1
      generalize hx : zs.getD k 0 = x at hcell
      have Hx := Lib.hid hx; clear hx
      go_wp2_with (go_at_call 71; refine (allc_any _ _ _ _ _ HP.out HB.out HC.out _).mono ?_; rintro e w' ⟨rfl, rfl⟩)
      · have hx : (!p x) = true := by assumption
        go_ret
        exact ⟨ret_int (by rw [idxF_some h1 (by rw [Hx.out]; exact hx) (fun j hj => by simp only [Hall.out j hj, Bool.not_true])]), rfl⟩
      · have hx : (!p x) = false := by assumption
        go_round
        case rel =>
          refine ⟨k + 1, by omega, by go_num, fun j hj => ?_⟩
          rcases Nat.lt_succ_iff_lt_or_eq.1 hj with h | rfl
          · exact Hall.out j h
          · rw [Hx.out]; simpa using hx
        case measure => simp [intOf]; omega
    · go_wp2
      go_ret
      exact ⟨ret_int (by rw [idxF_none (fun j hj => by simp only [Hall.out j (by omega), Bool.not_true])]), rfl⟩

set_option maxHeartbeats 400000 in
theorem containsFunc_any (a : Option Addr) (cap : Nat) (zs : List Int) (pc : Nat) (hv : Value) (p : Int → Bool) (w0 w : World) (hbig : zs.length ≤ 9223372036854775807) (h : IntsAt w a zs)
    (hp : IsPred w0 hv p) (hb : Below w0.heap.size w0 w) (hc : w.cell? ⟨pc, 0, none⟩ = some hv) :
    Calls Try.prog 70 #[.slice a zs.length cap, .func (.func 71) #[] #[.pointer (some ⟨pc, 0, none⟩)]] w
      fun e w' => e = .returned (.bool (zs.any (fun x => !p x))) ∧ w = w' := by
  have HI := Lib.hid (indexFunc_any a cap zs pc hv p w0 w hbig h hp hb hc)
  have HE := Lib.hid (idxF_any (fun x => !p x) zs)
  clear h hp hb hc
  go_enter Try.func70, Try.ntmps70
  go_wp2_with (go_at_call 82; refine HI.out.mono ?_; rintro e w' ⟨rfl, rfl⟩)
  go_ret
  exact ⟨ret_bool HE.out, rfl⟩

set_option maxHeartbeats 400000 in
theorem all_any (a : Option Addr) (cap : Nat) (zs : List Int) (hv : Value) (p : Int → Bool) (w : World) (hbig : zs.length ≤ 9223372036854775807) (h : IntsAt w a zs) (hp : IsPred w hv p) :
    Calls Try.prog 56 #[.slice a zs.length cap, hv] w fun e w' => e = .returned (.bool (zs.all p)) ∧ Below w.heap.size w w' := by
  have hb : Below w.heap.size w (w.alloc (.cells #[hv] 74)) := (Below.refl _ _).alloc (Nat.le_refl _) _
  have hc : (w.alloc (.cells #[hv] 74)).cell? ⟨w.heap.size, 0, none⟩ = some hv := by rw [World.cell?_alloc_at _ _ _ _ rfl]; rfl
  have HI := Lib.hid (containsFunc_any a cap zs w.heap.size hv p w _ hbig (h.below (Nat.le_refl _) hb) hp hb hc)
  have HB := Lib.hid hb
  have he : (!zs.any (fun x => !p x)) = zs.all p := by rw [List.not_any_eq_all_not]; simp
  have HE := Lib.hid he; clear he
  have hmf := hmf
  obtain ⟨G, cp, rfl, _⟩ := hp
  clear h hb hc
  go_enter Try.func56, Try.ntmps56
  go_wp2_with (go_at_call 70; refine HI.out.mono ?_; rintro e w' ⟨rfl, rfl⟩)
  go_ret
  exact ⟨ret_bool HE.out, HB.out⟩

set_option maxHeartbeats 400000 in
theorem isValidList_any (a : Option Addr) (cap : Nat) (zs : List Int) (w : World) (hbig : zs.length ≤ 9223372036854775807) (h : IntsAt w a zs) :
    Calls Try.prog 36 #[.slice a zs.length cap] w fun e w' => e = .returned (.bool (okList zs)) ∧ Below w.heap.size w w' := by
  have HI := Lib.hid (all_any a cap zs _ okKey w hbig h (isKey_pred w))
  clear h
  by_cases hl : zs.length ≤ 64
  all_goals
    go_enter Try.func36, Try.ntmps36
    go_wp2_with (go_at_call 56; refine HI.out.mono ?_; rintro e w' ⟨rfl, hb⟩)
    go_ret
    exact ⟨ret_bool (by simp [okList, hl]), by first | exact hb | exact Below.refl _ _⟩

end Go.Proofs.Ytaaogoajhdaekaa

