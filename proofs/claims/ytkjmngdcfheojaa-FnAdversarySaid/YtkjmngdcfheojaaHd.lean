/- The law FnAdversary: its walk. -/
import Derived.Test.YtkjmngdcfheojaaHc
namespace Go.Proofs.Ytkjmngdcfheojaa
open Go.RowKit Go.Sort
set_option linter.unusedVariables false

set_option maxRecDepth 100000 in
set_option maxHeartbeats 16000000 in
theorem lawAdversary_small (ac : Option Addr) (cc : Nat) (cs : List Int) (w : World) (hl : cs.length ≤ 65536) (h : BytesAt w ac cs) :
    Calls Try.prog 3 #[.slice ac cs.length cc] w fun e w' => e = .returned (.bool true) ∧ Below w.heap.size w w' := by
  have HV := vBigG_any ac cs.length cc w (by omega)
  rw [decide_eq_false (by omega)] at HV
  have HV := Lib.hid HV
  have HD := Lib.hid (drawAdversaryAnswer_any ac cc cs w (by omega) h)
  clear h
  go_enter Try.func3, Try.ntmps3
  go_wp2_with fail
  refine HV.out.mono ?_
  rintro e w1 ⟨rfl, rfl⟩
  go_wp2_with fail
  refine HD.out.mono ?_
  rintro e w1 ⟨n, g, c1, fs, a, b, rfl, q1, q2, hfl, hr, hb⟩
  have HR1 := Lib.hid hr; have HB1 := Lib.hid hb
  clear hr hb HD HV
  have H1 := Lib.hid (implConsistentOrders_any n (some ⟨g, 0, none⟩) c1 fs w1 (by omega) HR1.out)
  have H2 := Lib.hid (fun W (hb : Below w1.heap.size w1 W) => specConsistentOrders_any n (some ⟨g, 0, none⟩) c1 fs W (by omega) (HR1.out.below (Nat.le_refl _) hb))
  have H3 := Lib.hid (fun W (hb : Below w1.heap.size w1 W) => implAdversaryAnswer_any n (some ⟨g, 0, none⟩) c1 fs a b W (by omega) (HR1.out.below (Nat.le_refl _) hb))
  have H4 := Lib.hid (fun W (hb : Below w1.heap.size w1 W) => specAdversaryAnswer_any n ⟨g, 0, none⟩ c1 fs a b W (by omega) (HR1.out.below (Nat.le_refl _) hb))
  obtain ⟨cv, hcv⟩ : ∃ v, coV n fs = v := ⟨_, rfl⟩
  rw [hcv] at H1 H2
  have HCV := Lib.hid hcv
  clear hcv
  have he1 : (cv != cv) = false := by simp
  cases hok : aaOk n fs a b
  · have hv : aaV n fs a b = false := by simp [aaV, hok]
    rw [hv, hok] at H3 H4
    clear hv hok
    generalize okFacts n fs = ok at H1 H2
    have he2 : (ok != ok) = false := by simp
    go_wp2_with fail
    refine H1.out.mono ?_
    rintro e w2 ⟨rfl, hb⟩
    have HB2 := Lib.hid hb; clear hb
    go_wp2_with fail
    refine (H2.out _ HB2.out).mono ?_
    rintro e w3 ⟨rfl, hb⟩
    have HB3 := Lib.hid (bco HB2.out hb); clear hb
    go_wp2_with fail
    refine (H3.out _ HB3.out).mono ?_
    rintro e w4 ⟨rfl, hb⟩
    have HB4 := Lib.hid (bco HB3.out hb); clear hb
    go_wp2_with fail
    refine (H4.out _ HB4.out).mono ?_
    rintro e w5 ⟨rfl, hb⟩
    have HB5 := Lib.hid (bco HB1.out (bco HB4.out hb)); clear hb
    go_wp2
    go_ret
    exact ⟨rfl, HB5.out⟩
  obtain ⟨m, rfl, hm, hl20, hf, hab, hba, hne⟩ := aaOk_in hok
  have hokf : okFacts ((m : Int) + 1) fs = true := by
    unfold aaOk at hok
    simp only [Bool.and_eq_true] at hok
    exact hok.1.1.1
  rw [hokf] at H1 H2
  rw [hok] at H3 H4
  have hcn : cv = (Pm.cnt (m + 1) fs : Nat) := HCV.out.symm.trans (coV_ok hokf)
  by_cases h19 : fs.length ≤ 19
  case neg =>
    have h3 : decide ((19 : Int) < (fs.length : Int)) = true := decide_eq_true (by omega)
    generalize aaV ((m : Int) + 1) fs a b = av at H3 H4
    clear hokf hok hcn HCV
    go_wp2_with fail
    refine H1.out.mono ?_
    rintro e w2 ⟨rfl, hb⟩
    have HB2 := Lib.hid hb; clear hb
    go_wp2_with fail
    refine (H2.out _ HB2.out).mono ?_
    rintro e w3 ⟨rfl, hb⟩
    have HB3 := Lib.hid (bco HB2.out hb); clear hb
    go_wp2_with fail
    refine (H3.out _ HB3.out).mono ?_
    rintro e w4 ⟨rfl, hb⟩
    have HB4 := Lib.hid (bco HB3.out hb); clear hb
    go_wp2_with fail
    refine (H4.out _ HB4.out).mono ?_
    rintro e w5 ⟨rfl, hb⟩
    have HB5 := Lib.hid (bco HB1.out (bco HB4.out hb)); clear hb
    go_wp2
    go_ret
    exact ⟨rfl, HB5.out⟩
  have h3 : decide ((19 : Int) < (fs.length : Int)) = false := decide_eq_false (by omega)
  have hspl := Pm.cnt_split (n := m + 1) (by omega) hm fs (a := a) (b := b) ⟨hab.1, hab.2.1⟩ ⟨hba.1, hba.2.1⟩ hne
  have hc120 : Pm.cnt (m + 1) fs ≤ 120 := Nat.le_trans List.countP_le_length (Pm.allP_len (by omega) hm)
  have HAV : Hid (aaV ((m : Int) + 1) fs a b = decide (Pm.cnt (m + 1) (fs ++ [(b, a)]) ≤ Pm.cnt (m + 1) (fs ++ [(a, b)]))) := by
    show _ = _
    unfold aaV
    rw [hok, show ((m : Int) + 1).toNat = m + 1 by omega, Bool.true_and]
  -- the two lists with one fact more
  have HLs : Hid (∀ x y, InF (m + 1) (x, y) → x ≠ y → ∀ (W : World) a' c', RecsAt W a' (fs ++ [(x, y)]) → Calls Try.prog 13 #[.int .i64 ((m : Int) + 1), .slice a' (fs.length + 1) c'] W fun e w' => e = .returned (.tuple #[.int .i64 (Pm.cnt (m + 1) (fs ++ [(x, y)]) : Nat), .bool true]) ∧ Below W.heap.size W w') := fun x y hxy hxn W a' c' hr => by
    have := implConsistentOrders_any ((m : Int) + 1) a' c' (fs ++ [(x, y)]) W (by simp; omega) hr
    rw [okFacts_snoc hokf h19 hxy hxn, coV_ok (okFacts_snoc hokf h19 hxy hxn), List.length_append] at this
    exact this
  have HLa := Lib.hid (fun (W : World) a' c' h => HLs.out a b hab hne W a' c' h)
  have HLb := Lib.hid (fun (W : World) a' c' h => HLs.out b a hba (fun e => hne e.symm) W a' c' h)
  have HBE := Lib.hid (fun W (hb : Below w1.heap.size w1 W) => implBestComparison_any ((m : Int) + 1) (some ⟨g, 0, none⟩) c1 fs W (by omega) (HR1.out.below (Nat.le_refl _) hb))
  have hm1 : 1 ≤ m := by
    obtain ⟨r1, r2, r3, r4⟩ := hab
    simp at r1 r2 r3 r4
    omega
  have HOK : Hid (bcOk ((m : Int) + 1) fs = decide (0 < Pm.cnt (m + 1) fs)) := by
    show _ = _
    unfold bcOk
    rw [hokf, show ((m : Int) + 1).toNat = m + 1 by omega]
    simp; omega
  have HBI := Lib.hid (Pm.best_is (n := m + 1) (by omega) hm fs)
  have HWST : Hid (Pm.wst (m + 1) fs (a.toNat, b.toNat) = max ((Pm.cnt (m + 1) (fs ++ [(a, b)]) : Nat) : Int) ((Pm.cnt (m + 1) (fs ++ [(b, a)]) : Nat) : Int) ∧ (Pm.best (m + 1) fs).2.2 ≤ Pm.wst (m + 1) fs (a.toNat, b.toNat)) := by
    obtain ⟨r1, r2, r3, r4⟩ := hab
    simp at r1 r2 r3 r4
    refine ⟨?_, ?_⟩
    · unfold Pm.wst
      simp only
      rw [show ((a.toNat : Nat) : Int) = a by omega, show ((b.toNat : Nat) : Int) = b by omega]
    · obtain ⟨_, _, _, _, _, hall, _⟩ := HBI.out
      rcases Nat.lt_or_gt_of_ne (show a.toNat ≠ b.toNat by omega) with hlt | hlt
      · exact hall _ _ hlt (by omega)
      · rw [Pm.wst_sym]; exact hall _ _ hlt (by omega)
  -- what the best comparison answers
  have HANS : Hid (∃ (X Y L : Int), bcE ((m : Int) + 1) fs = .tuple #[.int .i64 X, .int .i64 Y, .int .i64 L, .bool (decide (0 < Pm.cnt (m + 1) fs))] ∧ (0 < Pm.cnt (m + 1) fs → X < Y ∧ L ≤ max ((Pm.cnt (m + 1) (fs ++ [(a, b)]) : Nat) : Int) ((Pm.cnt (m + 1) (fs ++ [(b, a)]) : Nat) : Int) ∧ ((Pm.cnt (m + 1) fs : Nat) : Int) ≤ 2 * L ∧ 0 ≤ L ∧ L ≤ 120)) := by
    by_cases hz : 0 < Pm.cnt (m + 1) fs
    · have e := bcE_yes (n := (m : Int) + 1) (fs := fs) (by rw [HOK.out]; simpa using hz)
      rw [show ((m : Int) + 1).toNat = m + 1 by omega] at e
      refine ⟨_, _, _, by rw [e, decide_eq_true hz], fun _ => ?_⟩
      obtain ⟨i, j, h1, h2, h3, _, h5⟩ := HBI.out
      have h6 := HWST.out
      rw [h6.1] at h6
      refine ⟨by rw [h3]; simp; omega, h6.2, h5, by omega, ?_⟩
      have := h6.2
      omega
    · have e := bcE_no (n := (m : Int) + 1) (fs := fs) (by rw [HOK.out]; simpa using hz)
      exact ⟨0, 0, 0, by rw [e, decide_eq_false hz], fun h => absurd h hz⟩
  obtain ⟨X, Y, L, hE, hX⟩ := HANS.out
  rw [hE] at HBE
  have HX := Lib.hid hX
  clear hX hE HANS HWST HBI HOK
  rw [HAV.out] at H3 H4
  rw [hcn] at H1 H2 he1
  clear hcn HCV HAV HLs hokf hok hf hab hba hne
  generalize hNa : Pm.cnt (m + 1) (fs ++ [(a, b)]) = La at HLa H3 H4 hspl HX
  generalize hNb : Pm.cnt (m + 1) (fs ++ [(b, a)]) = Lb at HLb H3 H4 hspl HX
  generalize hNn : Pm.cnt (m + 1) fs = N at H1 H2 HBE hspl HX hc120 he1
  clear hNa hNb hNn
  have b0 : (La : Int) + (Lb : Int) ≤ 9223372036854775807 := by omega
  have b1 : (((La : Int) + (Lb : Int)) != (N : Int)) = false := by simp; omega
  have hl1 : (flat encR fs).length = fs.length * 2 := flat_length encR_len fs
  have HL := Lib.hid hl1; clear hl1
  have hn40 : 0 + fs.length ≤ 1099511627776 := by omega
  have hn41 : 0 + fs.length + 1 ≤ 1099511627776 := by omega
  have HMK := Lib.hid (fun (W : World) (hb : Below w1.heap.size w1 W) => (⟨own_lit (w := W) (e := 32) (size := 2) #[] 0 (by omega) rfl, recs_news ((HR1.out.below (Nat.le_refl _) hb).below (Nat.le_refl _) ((Below.refl _ _).alloc (Nat.le_refl _) (.cells #[] 32))), (Below.refl _ _).alloc (Nat.le_refl _) _⟩ : (W.alloc (.cells #[] 32)).ownsRow W.heap.size 32 2 (.slice (some ⟨W.heap.size, 0, none⟩) 0 0) 0 [] ∧ (∀ j u, (flat encR fs)[j]? = some u → (W.alloc (.cells #[] 32)).cell? ((⟨g, 0, none⟩ : Addr).add j) = some u) ∧ Below W.heap.size W (W.alloc (.cells #[] 32))))
  have HRS : Hid (∀ (W : World) (x y : Int) B a' c', W.ownsRow B 32 2 (.slice a' (0 + fs.length + 1) c') (0 + fs.length + 1) ([] ++ flat encR fs ++ [.int .i64 x, .int .i64 y]) → RecsAt W a' (fs ++ [(x, y)])) := fun W x y B a' c' ho => by
    have e : [] ++ flat encR fs ++ [.int .i64 x, .int .i64 y] = flat encR (fs ++ [(x, y)]) := by rw [flat_append, flat_one]; rfl
    rw [e] at ho
    exact ownFacts ho
  have hz01 : (0 : Nat) + fs.length + 1 = fs.length + 1 := by omega
  have HZ1 := Lib.hid hz01; clear hz01
  go_wp2_with fail
  refine H1.out.mono ?_
  rintro e w2 ⟨rfl, hb⟩
  have HB2 := Lib.hid hb; clear hb
  go_wp2_with fail
  refine (H2.out _ HB2.out).mono ?_
  rintro e w3 ⟨rfl, hb⟩
  have HB3 := Lib.hid (bco HB2.out hb); clear hb
  go_wp2_with fail
  refine (H3.out _ HB3.out).mono ?_
  rintro e w4 ⟨rfl, hb⟩
  have HB4 := Lib.hid (bco HB3.out hb); clear hb
  go_wp2_with fail
  refine (H4.out _ HB4.out).mono ?_
  rintro e w5 ⟨rfl, hb⟩
  have HB5 := Lib.hid (bco HB4.out hb); clear hb H1 H2 H3 H4 HB2 HB3 HB4
  obtain ⟨hola, hnwla, hblla⟩ := HMK.out w5 HB5.out
  have HOla := Lib.hid hola; have HNla := Lib.hid hnwla; have HBKla := Lib.hid hblla
  have hbsla := hblla.size
  clear hola hnwla hblla
  go_wp2_with (first
    | (at_builtin; refine wpList_appX slFact rfl _ _ rfl rfl HOla.out rfl HL.out HNla.out recs_one hn40 hbsla ?_; intro v1 wx ho1 hg1 ht1; have HO1 := Lib.hid ho1; have HBx := Lib.hid (below_app HBKla.out hbsla HOla.out (Nat.le_refl _) hg1); have hbsx := HBx.out.size; clear ho1 hg1 ht1)
    | (at_builtin; refine wpList_app1 slFact rfl _ _ rfl rfl HO1.out [.int .i64 a, .int .i64 b] rfl rfl (by simp) (by simp [Value.oneCell']) hn41 hbsx ?_; intro v2 wy ho2 hg2 ht2; have HBlla := Lib.hid (below_app HBx.out hbsx HO1.out (Nat.le_refl _) hg2); obtain ⟨a2, c2, rfl⟩ := own_slice ho2; have HRa := Lib.hid (HRS.out _ _ _ _ _ _ ho2); clear ho2 hg2 ht2; rw [HZ1.out]))
  refine (HLa.out _ _ _ HRa.out).mono ?_
  rintro e wa ⟨rfl, hb⟩
  have HBa := Lib.hid (bco HB5.out (bco HBlla.out hb)); clear hb
  obtain ⟨holb, hnwlb, hbllb⟩ := HMK.out wa HBa.out
  have HOlb := Lib.hid holb; have HNlb := Lib.hid hnwlb; have HBKlb := Lib.hid hbllb
  have hbslb := hbllb.size
  clear holb hnwlb hbllb
  go_wp2_with (first
    | (at_builtin; refine wpList_appX slFact rfl _ _ rfl rfl HOlb.out rfl HL.out HNlb.out recs_one hn40 hbslb ?_; intro v1 wx ho1 hg1 ht1; have HO1 := Lib.hid ho1; have HBx := Lib.hid (below_app HBKlb.out hbslb HOlb.out (Nat.le_refl _) hg1); have hbsx := HBx.out.size; clear ho1 hg1 ht1)
    | (at_builtin; refine wpList_app1 slFact rfl _ _ rfl rfl HO1.out [.int .i64 b, .int .i64 a] rfl rfl (by simp) (by simp [Value.oneCell']) hn41 hbsx ?_; intro v2 wy ho2 hg2 ht2; have HBllb := Lib.hid (below_app HBx.out hbsx HO1.out (Nat.le_refl _) hg2); obtain ⟨a2, c2, rfl⟩ := own_slice ho2; have HRb := Lib.hid (HRS.out _ _ _ _ _ _ ho2); clear ho2 hg2 ht2; rw [HZ1.out]))
  refine (HLb.out _ _ _ HRb.out).mono ?_
  rintro e wb ⟨rfl, hb⟩
  have HBb := Lib.hid (bco HBa.out (bco HBllb.out hb)); clear hb
  have HBEb := Lib.hid (HBE.out _ HBb.out)
  by_cases hab : Lb ≤ La
  · have hk1 : decide (Lb ≤ La) = true := decide_eq_true hab
    have b2 : decide (2 * (La : Int) < (N : Int)) = false := decide_eq_false (by omega)
    have b3 : 2 * (La : Int) ≤ 9223372036854775807 := by omega
    have b4 : (0 : Int) ≤ (La : Int) := by omega
    by_cases hz : 0 < N
    case neg =>
      have hz1 : decide (0 < N) = false := decide_eq_false hz
      have hz2 : decide ((0 : Int) < (N : Int)) = false := decide_eq_false (by omega)
      rw [hz1] at HBEb
      have HF := Lib.hid (bco HB1.out HBb.out)
      clear HX HBE
      by_cases hmore : (La : Int) < (Lb : Int)
      all_goals
        go_wp2_with fail
        refine HBEb.out.mono ?_
        rintro e wz ⟨rfl, hb⟩
        have HFz := Lib.hid (bco HF.out hb); clear hb
        go_wp2
        all_goals
          go_ret
          exact ⟨rfl, HFz.out⟩
    have hz1 : decide (0 < N) = true := decide_eq_true hz
    have hz2 : decide ((0 : Int) < (N : Int)) = true := decide_eq_true (by omega)
    rw [hz1] at HBEb
    obtain ⟨x1, x2, x3, x4, x5⟩ := HX.out hz
    have c1 : decide (X < Y) = true := decide_eq_true x1
    have c3 : decide ((N : Int) ≤ 2 * L) = true := decide_eq_true x3
    have c4 : 2 * L ≤ 9223372036854775807 := by omega
    have HF := Lib.hid (bco HB1.out HBb.out)
    clear HX HBE
    by_cases hmore : (La : Int) < (Lb : Int)
    · have hm1 : decide ((La : Int) < (Lb : Int)) = true := decide_eq_true hmore
      have c2 : decide (L ≤ (Lb : Int)) = true := decide_eq_true (by omega)
      go_wp2_with fail
      refine HBEb.out.mono ?_
      rintro e wz ⟨rfl, hb⟩
      have HFz := Lib.hid (bco HF.out hb); clear hb
      go_wp2
      all_goals
        go_ret
        exact ⟨rfl, HFz.out⟩
    · have hm1 : decide ((La : Int) < (Lb : Int)) = false := decide_eq_false hmore
      have c2 : decide (L ≤ (La : Int)) = true := decide_eq_true (by omega)
      go_wp2_with fail
      refine HBEb.out.mono ?_
      rintro e wz ⟨rfl, hb⟩
      have HFz := Lib.hid (bco HF.out hb); clear hb
      go_wp2
      all_goals
        go_ret
        exact ⟨rfl, HFz.out⟩
  · have hk1 : decide (Lb ≤ La) = false := decide_eq_false hab
    have b2 : decide (2 * (Lb : Int) < (N : Int)) = false := decide_eq_false (by omega)
    have b3 : 2 * (Lb : Int) ≤ 9223372036854775807 := by omega
    have b4 : (0 : Int) ≤ (Lb : Int) := by omega
    by_cases hz : 0 < N
    case neg =>
      have hz1 : decide (0 < N) = false := decide_eq_false hz
      have hz2 : decide ((0 : Int) < (N : Int)) = false := decide_eq_false (by omega)
      rw [hz1] at HBEb
      have HF := Lib.hid (bco HB1.out HBb.out)
      clear HX HBE
      by_cases hmore : (La : Int) < (Lb : Int)
      all_goals
        go_wp2_with fail
        refine HBEb.out.mono ?_
        rintro e wz ⟨rfl, hb⟩
        have HFz := Lib.hid (bco HF.out hb); clear hb
        go_wp2
        all_goals
          go_ret
          exact ⟨rfl, HFz.out⟩
    have hz1 : decide (0 < N) = true := decide_eq_true hz
    have hz2 : decide ((0 : Int) < (N : Int)) = true := decide_eq_true (by omega)
    rw [hz1] at HBEb
    obtain ⟨x1, x2, x3, x4, x5⟩ := HX.out hz
    have c1 : decide (X < Y) = true := decide_eq_true x1
    have c3 : decide ((N : Int) ≤ 2 * L) = true := decide_eq_true x3
    have c4 : 2 * L ≤ 9223372036854775807 := by omega
    have HF := Lib.hid (bco HB1.out HBb.out)
    clear HX HBE
    by_cases hmore : (La : Int) < (Lb : Int)
    · have hm1 : decide ((La : Int) < (Lb : Int)) = true := decide_eq_true hmore
      have c2 : decide (L ≤ (Lb : Int)) = true := decide_eq_true (by omega)
      go_wp2_with fail
      refine HBEb.out.mono ?_
      rintro e wz ⟨rfl, hb⟩
      have HFz := Lib.hid (bco HF.out hb); clear hb
      go_wp2
      all_goals
        go_ret
        exact ⟨rfl, HFz.out⟩
    · have hm1 : decide ((La : Int) < (Lb : Int)) = false := decide_eq_false hmore
      have c2 : decide (L ≤ (La : Int)) = true := decide_eq_true (by omega)
      go_wp2_with fail
      refine HBEb.out.mono ?_
      rintro e wz ⟨rfl, hb⟩
      have HFz := Lib.hid (bco HF.out hb); clear hb
      go_wp2
      all_goals
        go_ret
        exact ⟨rfl, HFz.out⟩

theorem lawAdversary_any (ac : Option Addr) (cc : Nat) (cs : List Int) (w : World) (hbig : cs.length ≤ 9223372036854775807) (h : BytesAt w ac cs) :
    Calls Try.prog 3 #[.slice ac cs.length cc] w fun e w' => e = .returned (.bool true) ∧ Below w.heap.size w w' := by
  by_cases hb65 : 65536 < cs.length
  · have HV := vBigG_any ac cs.length cc w hbig
    rw [decide_eq_true hb65] at HV
    have HV := Lib.hid HV
    clear hb65 h
    go_enter Try.func3, Try.ntmps3
    go_wp2_with fail
    refine HV.out.mono ?_
    rintro e w1 ⟨rfl, rfl⟩
    go_wp2
    go_ret
    exact ⟨rfl, Below.refl _ _⟩
  · exact lawAdversary_small ac cc cs w (by omega) h

end Go.Proofs.Ytkjmngdcfheojaa
