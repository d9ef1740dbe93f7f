/- The law FnNaturalRuns: its walk. -/
import Derived.Test.YtjlebikidoedmaaNt
namespace Go.Proofs.Ytjlebikidoedmaa
open Go.RowKit
set_option linter.unusedVariables false

theorem run_info {ks : List Int} {f : Nat} (h : f < ks.length) :
    (∀ j, f + 1 ≤ j → j < runEnd ks f → dn ks j = isDn ks f) ∧ (runEnd ks f < ks.length → f + 2 ≤ runEnd ks f ∧ dn ks (runEnd ks f) = !isDn ks f) ∧ (runEnd ks f < f + 2 → f + 1 = ks.length) := by
  by_cases h1 : f + 1 < ks.length
  · cases hd : dn ks (f + 1)
    · have hD : isDn ks f = false := by simp [isDn, hd]
      have hE : runEnd ks f = scanF (fun t => !dn ks t) (ks.length - (f + 1)) (f + 1) := by unfold runEnd; rw [hD]; rfl
      have hge : f + 2 ≤ runEnd ks f := by
        have : runEnd ks f = scanTo (fun t => !dn ks t) ks.length (f + 1) := by unfold runEnd; rw [hD]; rfl
        rw [this, scanTo_step h1 (by simp [hd])]
        exact (scanTo_bound _ (by omega)).1
      refine ⟨fun j h2 h3 => ?_, fun h2 => ⟨hge, ?_⟩, fun h2 => by omega⟩
      · rw [hE] at h3
        have := scanF_all _ _ _ j h2 h3
        rw [hD]; simpa using this
      · rw [hE] at h2 ⊢
        have := scanF_max (fun t => !dn ks t) (ks.length - (f + 1)) (f + 1) (by omega)
        rw [hD]; simpa using this
    · have hD : isDn ks f = true := by simp [isDn, hd, h1]
      have hE : runEnd ks f = scanF (dn ks) (ks.length - (f + 1)) (f + 1) := by unfold runEnd; rw [hD]; rfl
      have hge : f + 2 ≤ runEnd ks f := by
        have : runEnd ks f = scanTo (dn ks) ks.length (f + 1) := by unfold runEnd; rw [hD]; rfl
        rw [this, scanTo_step h1 hd]
        exact (scanTo_bound _ (by omega)).1
      refine ⟨fun j h2 h3 => ?_, fun h2 => ⟨hge, ?_⟩, fun h2 => by omega⟩
      · rw [hE] at h3
        have := scanF_all _ _ _ j h2 h3
        rw [hD]; exact this
      · rw [hE] at h2 ⊢
        have := scanF_max (dn ks) (ks.length - (f + 1)) (f + 1) (by omega)
        rw [hD]; simpa using this
  · have := runEnd_bound h
    exact ⟨fun j h2 h3 => by omega, fun h2 => by omega, fun _ => by omega⟩

theorem runsF_len (ks : List Int) : ∀ (g f : Nat), (runsF ks g f).length ≤ g := by
  intro g
  induction g with
  | zero => intro f; simp [runsF]
  | succ g ih =>
    intro f
    simp only [runsF]
    split
    · have := ih (runEnd ks f); simp; omega
    · simp

theorem drop_cons {R : List (Int × Int)} {i : Nat} {x : Int × Int} {t : List (Int × Int)} (h : R.drop i = x :: t) : i < R.length ∧ R.getD i (0, 0) = x ∧ R.drop (i + 1) = t := by
  have hi : i < R.length := by
    rcases Nat.lt_or_ge i R.length with h1 | h1
    · exact h1
    · rw [List.drop_of_length_le h1] at h; cases h
  rw [List.drop_eq_getElem_cons hi] at h
  injection h with h1 h2
  exact ⟨hi, by simp [List.getD, hi, h1], h2⟩

theorem alloc_pair (w : World) (x y : Value) (t : TypeId) : (w.alloc (.cells #[x, y] t)).cell? ⟨w.heap.size, 0, none⟩ = some x ∧ (w.alloc (.cells #[x, y] t)).cell? ⟨w.heap.size, 1, none⟩ = some y ∧ Below w.heap.size w (w.alloc (.cells #[x, y] t)) :=
  ⟨cells_new w [x, y] t 0 x rfl, cells_new w [x, y] t 1 y rfl, (Below.refl _ w).alloc (Nat.le_refl _) _⟩

set_option maxRecDepth 100000 in
set_option maxHeartbeats 8000000 in
theorem lawNaturalRuns_any (ac : Option Addr) (cc : Nat) (cs : List Int) (w : World) (hbig : cs.length ≤ 9223372036854775807) (h : BytesAt w ac cs) :
    Calls Try.prog 7 #[.slice ac cs.length cc] w fun e w' => e = .returned (.bool true) ∧ Below w.heap.size w w' := by
  have HV := Lib.hid (vBig_any ac cs.length cc w hbig)
  by_cases hl : 65536 < cs.length
  · rw [decide_eq_true hl] at HV
    clear h
    go_enter Try.func7, Try.ntmps7
    go_wp2_with (go_at_call 24; refine HV.out.mono ?_; rintro e w' ⟨rfl, rfl⟩)
    go_ret
    exact ⟨rfl, Below.refl _ _⟩
  rw [decide_eq_false hl] at HV
  have H := Lib.hid h; clear h
  go_enter Try.func7, Try.ntmps7
  go_wp2_with fail
  refine HV.out.mono ?_
  rintro e w1 ⟨rfl, rfl⟩
  go_wp2_with fail
  refine (drawNaturalRuns_any ac cc cs _ (by omega) H.out).mono ?_
  rintro e w1 ⟨al, cl, rs, rfl, ho, hl2, hb⟩
  have HL1 := Lib.hid (ownRecs ho)
  have HB1 := Lib.hid hb
  clear ho hb
  go_wp2_with fail
  refine (implNaturalRuns_any al cl rs _ (by omega) HL1.out).mono ?_
  rintro e w2 ⟨ag, cg, rfl, ho, hb⟩
  have HG2 := Lib.hid (recs_of_own ho)
  have HL2 := Lib.hid (HL1.out.below (Nat.le_refl _) hb)
  have HB2 := Lib.hid (HB1.out.trans (hb.mono HB1.out.size))
  clear ho hb HL1
  go_wp2_with fail
  refine (specNaturalRuns_any al cl rs _ (by omega) HL2.out).mono ?_
  rintro e w3 ⟨aw, cw, rfl, ho, hb⟩
  have HW3 := Lib.hid (recs_of_own ho)
  have HG3 := Lib.hid (HG2.out.below (Nat.le_refl _) hb)
  have HL3 := Lib.hid (HL2.out.below (Nat.le_refl _) hb)
  have HB3 := Lib.hid (HB2.out.trans (hb.mono HB2.out.size))
  clear ho hb HL2 HG2
  have q1 : (okRecs rs != okRecs rs) = false := by simp
  have HKL := Lib.hid (keysL_len rs)
  cases hok : okRecs rs
  · have HR : Hid (nrAns rs = []) := by show _ = _; simp [nrAns, hok]
    have HOK := Lib.hid hok
    rw [HR.out] at *
    clear q1 hok
    go_wp2
    refine wp_loop_rounds 1 ?_
    rw [rounds_succ]
    go_wp2
    go_ret
    exact ⟨rfl, HB3.out⟩
  have HR : Hid (nrAns rs = runsFrom (keysL rs) 0) := by show _ = _; simp [nrAns, hok]
  have hrs64 := okRecs_len hok
  have HRL : Hid ((nrAns rs).length ≤ 64) := by
    show _ ≤ _
    rw [HR.out]
    have := runsF_len (keysL rs) ((keysL rs).length - 0) 0
    rw [HKL.out] at this
    unfold runsFrom
    rw [HKL.out]; omega
  generalize nrAns rs = R at *
  have HOK := Lib.hid hok
  have hR64 : R.length ≤ 64 := HRL.out
  clear hok q1
  go_wp2
  go_loopw [8, 9, 10, 11, 12] (fun at_ i _ _ _ wr => ∃ (f k : Nat), at_ = .int .i64 f ∧ i = .int .i64 k ∧ k ≤ R.length ∧ f ≤ rs.length ∧ R.drop k = runsFrom (keysL rs) f ∧ Below w3.heap.size w3 wr) (fun _ i _ _ _ _ => R.length - (intOf i).toNat)
  case atStart => exact ⟨0, 0, rfl, rfl, by omega, by omega, HR.out, Below.refl _ _⟩
  case round =>
    obtain ⟨f, k, rfl, rfl, hk, hf, hdrop, hb⟩ := hrel
    have HDR := Lib.hid hdrop; clear hdrop
    have HB := Lib.hid hb; clear hb
    by_cases hlt : k < R.length
    case neg =>
      have hfn : f = rs.length := by
        rcases Nat.lt_or_ge f rs.length with h1 | h1
        · have := HDR.out
          rw [List.drop_of_length_le (by omega), runsFrom_step (by rw [HKL.out]; exact h1)] at this
          cases this
        · omega
      subst hfn
      go_wp2
      go_ret
      exact ⟨rfl, HB3.out.trans (HB.out.mono HB3.out.size)⟩
    have hfn : f < rs.length := by
      rcases Nat.lt_or_ge f rs.length with h1 | h1
      · exact h1
      · have := HDR.out
        rw [runsFrom_end (by rw [HKL.out]; exact h1), List.drop_eq_nil_iff] at this
        omega
    have hst := HDR.out
    rw [runsFrom_step (by rw [HKL.out]; exact hfn)] at hst
    obtain ⟨_, hget, hnext⟩ := drop_cons hst
    have HNX := Lib.hid hnext
    have hri := run_info (ks := keysL rs) (f := f) (by rw [HKL.out]; exact hfn)
    have hrb := runEnd_bound (ks := keysL rs) (f := f) (by rw [HKL.out]; exact hfn)
    rw [HKL.out] at hri hrb
    obtain ⟨hr1, hr2, hr3⟩ := hri
    obtain ⟨bg, og, rfl, hg1, hg2⟩ := (HG3.out.below (Nat.le_refl _) HB.out).at hlt
    obtain ⟨bw, ow, rfl, hw1, hw2⟩ := (HW3.out.below (Nat.le_refl _) HB.out).at hlt
    rw [hget] at hg1 hg2 hw1 hw2
    dsimp only at hg1 hg2 hw1 hw2
    clear hst hnext
    generalize runEnd (keysL rs) f = e at hr1 hr2 hr3 hrb hg1 hg2 hw1 hw2 HNX hget
    generalize hD : isDn (keysL rs) f = D at hr1 hr2
    have HR1 := Lib.hid hr1
    have HR2 := Lib.hid hr2
    have HR3 := Lib.hid hr3
    have he1 := hrb.1
    have he2 := hrb.2
    have HDD := Lib.hid hD
    clear hr1 hr2 hr3 hrb hD
    have hc1 : decide (((e : Int) - (f : Int)) < 1) = false := by simp; omega
    have hsum : (f : Int) + ((e : Int) - (f : Int)) = (e : Int) := by omega
    obtain ⟨bl, ol, rfl, hl1, hl1'⟩ := (HL3.out.below (Nat.le_refl _) HB.out).at hfn
    have HLAT : Hid (∀ wA : World, Below w3.heap.size w3 wA → ∀ j, j < rs.length → wA.cell? ⟨bl, ol + j * 2, none⟩ = some (.int .i64 (rs.getD j (0, 0)).1)) := by
      intro wA hwA j hj
      obtain ⟨b', o', e1, hm1, hm2⟩ := (HL3.out.below (Nat.le_refl _) hwA).at hj
      cases e1
      exact hm1
    have HWAT : Hid (∀ wA : World, Below w3.heap.size w3 wA → wA.cell? ⟨bw, ow + k * 2, none⟩ = some (.int .i64 (f : Int)) ∧ wA.cell? ⟨bw, ow + k * 2 + 1, none⟩ = some (.int .i64 ((e : Int) - (f : Int)))) := by
      intro wA hwA
      obtain ⟨b', o', e1, hm1, hm2⟩ := (HW3.out.below (Nat.le_refl _) hwA).at hlt
      cases e1
      rw [hget] at hm1 hm2
      exact ⟨hm1, hm2⟩
    have hsz := HB.out.size
    clear hl1 hl1' hw1 hw2 hget
    by_cases h2 : f + 2 ≤ e
    · obtain ⟨q, rfl⟩ : ∃ q, e = q + 1 := ⟨e - 1, by omega⟩
      have hcast : ((q + 1 : Nat) : Int) = (q : Int) + 1 := by omega
      rw [hcast] at hg2 HWAT hc1 hsum
      have hc2 : decide (1 < (q : Int) + 1 - (f : Int)) = true := by simp; omega
      have hd1 := HR1.out (f + 1) (by omega) (by omega)
      rw [dn_at (show f + 1 < rs.length by omega)] at hd1
      have HGT1 := Lib.hid (rfl : (rs.getD f (0, 0)).1 = (rs.getD f (0, 0)).1)
      obtain ⟨x, hx⟩ : ∃ x, x = (rs.getD f (0, 0)).1 := ⟨_, rfl⟩
      obtain ⟨y, hy⟩ : ∃ y, y = (rs.getD (f + 1) (0, 0)).1 := ⟨_, rfl⟩
      rw [← hx, ← hy] at hd1
      have HX := Lib.hid hx
      have HY := Lib.hid hy
      clear hx hy
      go_wp2_with fail
      obtain ⟨hA1, hA2, hAB⟩ := alloc_pair wr (.int .i64 (f : Int)) (.int .i64 ((q : Int) + 1 - (f : Int))) 52
      have HBA := Lib.hid (HB.out.trans (hAB.mono hsz))
      have hszA : wr.heap.size < (wr.alloc (Obj.cells #[.int .i64 (f : Int), .int .i64 ((q : Int) + 1 - (f : Int))] 52)).heap.size := by simp
      generalize wr.heap.size = p at *
      generalize wr.alloc (Obj.cells #[.int .i64 (f : Int), .int .i64 ((q : Int) + 1 - (f : Int))] 52) = wA at hA1 hA2 HBA hszA ⊢
      clear hg1 hg2 hAB
      obtain ⟨hw1, hw2⟩ := HWAT.out wA HBA.out
      have hl1 := HLAT.out wA HBA.out f (by omega)
      have hm1 := HLAT.out wA HBA.out (f + 1) (by omega)
      rw [← HX.out] at hl1
      rw [← HY.out] at hm1
      have HDOUT : Hid (D = D) := rfl
      cases D
      all_goals
        go_quiet (fail)
        generalize nq = n1
        go_wp2_with fail
        go_quiet (fail)
        go_wp2_with fail
        have HB1 := Lib.hid (below_drewN HBA.out (n1 + nq))
        have HA1 : Hid ((wA.drewN (n1 + nq)).cell? ⟨p, 0, none⟩ = some (.int .i64 (f : Int))) := hA1
        have HA2 : Hid ((wA.drewN (n1 + nq)).cell? ⟨p, 1, none⟩ = some (.int .i64 ((q : Int) + 1 - (f : Int)))) := hA2
        have hsz1 : p < (wA.drewN (n1 + nq)).heap.size := hszA
        clear hw1 hw2 hl1 hm1 hA1 hA2 hd1 hszA hc1
        generalize wA.drewN (n1 + nq) = W1 at *
        go_loopw [12] (fun i wr2 => ∃ m : Nat, i = .int .i64 m ∧ f + 1 ≤ m ∧ m ≤ q + 1 ∧ Below W1.heap.size W1 wr2) (fun i _ => q + 1 - (intOf i).toNat)
        case atStart => exact ⟨f + 1, by go_num, by omega, by omega, Below.refl _ _⟩
        case round =>
          obtain ⟨m, rfl, hm1, hm2, hb2⟩ := hrel
          have HB2 := Lib.hid hb2; clear hb2
          have HB3 := Lib.hid (HB1.out.trans (HB2.out.mono HB1.out.size))
          obtain ⟨m, rfl⟩ : ∃ m', m = m' + 1 := ⟨m - 1, by omega⟩
          have hcm : ((m + 1 : Nat) : Int) = (m : Int) + 1 := by omega
          by_cases hmq : m < q
          · have hz := HR1.out (m + 1) (by omega) (by omega)
            rw [dn_at (show m + 1 < rs.length by omega)] at hz
            have hl1 := HLAT.out _ HB3.out m (by omega)
            have hl2 := HLAT.out _ HB3.out (m + 1) (by omega)
            generalize (rs.getD m (0, 0)).1 = a at hl1 hz
            generalize (rs.getD (m + 1) (0, 0)).1 = b at hl2 hz
            rw [hcm]
            go_wp2_with fail
            go_quiet (fail)
            go_wp2
            go_roundw
            case rel => exact ⟨m + 2, by go_num, by omega, by omega, below_drewN HB2.out _⟩
            case measure => simp [intOf]; omega
          · obtain rfl : m = q := by omega
            rw [hcm]
            by_cases hen : m + 1 < rs.length
            · have hz := (HR2.out hen).2
              rw [dn_at hen] at hz
              have hl1 := HLAT.out _ HB3.out m (by omega)
              have hl2 := HLAT.out _ HB3.out (m + 1) hen
              generalize (rs.getD m (0, 0)).1 = a at hl1 hz
              generalize (rs.getD (m + 1) (0, 0)).1 = b at hl2 hz
              have hk2 : wr.cell? ⟨p, 1, none⟩ = some (.int .i64 ((m : Int) + 1 - (f : Int))) := by rw [HB2.out.cell (p := ⟨p, 1, none⟩) hsz1]; exact HA2.out
              have h3 : decide ((m : Int) + 1 < (rs.length : Int)) = true := by simp; omega
              go_wp2_with fail
              go_quiet (fail)
              go_wp2
              go_roundw
              case rel => exact ⟨m + 1, k + 1, by go_num, by go_num, by omega, by omega, HNX.out, below_drewN HB3.out _⟩
              case measure => simp [intOf]; omega
            · have h3 : decide ((m : Int) + 1 < (rs.length : Int)) = false := by simp; omega
              go_wp2_with fail
              go_quiet (fail)
              go_wp2
              go_roundw
              case rel => exact ⟨m + 1, k + 1, by go_num, by go_num, by omega, by omega, HNX.out, below_drewN HB3.out _⟩
              case measure => simp [intOf]; omega
    · have hfe : f + 1 = rs.length := HR3.out (by omega)
      obtain rfl : e = f + 1 := by omega
      have hcast : ((f + 1 : Nat) : Int) - (f : Int) = 1 := by omega
      rw [hcast] at hg2 HWAT
      have h3 : decide ((f : Int) + 1 < (rs.length : Int)) = false := by simp; omega
      clear hc1 hsum hcast
      go_wp2_with fail
      obtain ⟨hA1, hA2, hAB⟩ := alloc_pair wr (.int .i64 (f : Int)) (.int .i64 1) 52
      have HBA := Lib.hid (HB.out.trans (hAB.mono hsz))
      generalize wr.heap.size = p at *
      generalize wr.alloc (Obj.cells #[.int .i64 (f : Int), .int .i64 1] 52) = wA at hA1 hA2 HBA ⊢
      clear hg1 hg2 hAB
      obtain ⟨hw1, hw2⟩ := HWAT.out wA HBA.out
      go_quiet (fail)
      go_wp2_with fail
      go_quiet (fail)
      go_wp2_with fail
      refine wp_loop_rounds 1 ?_
      rw [rounds_succ]
      go_wp2_with fail
      go_quiet (fail)
      go_wp2
      go_roundw
      case rel => exact ⟨f + 1, k + 1, by go_num, by go_num, by omega, by omega, HNX.out, below_drewN HBA.out _⟩
      case measure => simp [intOf]; omega

end Go.Proofs.Ytjlebikidoedmaa
