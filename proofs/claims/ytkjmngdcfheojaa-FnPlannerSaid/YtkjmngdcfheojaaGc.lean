/- The law FnDistinct: its walk. -/
import Derived.Test.YtkjmngdcfheojaaGa
import Derived.Test.YtkjmngdcfheojaaGb
namespace Go.Proofs.Ytkjmngdcfheojaa
open Go.RowKit Go.Sort
set_option linter.unusedVariables false

theorem specIsValidList_any (a : Option Addr) (cap : Nat) (zs : List Int) (w : World) (hbig : zs.length ≤ 9223372036854775807) (h : IntsAt w a zs) :
    Calls Try.prog 42 #[.slice a zs.length cap] w fun e w' => e = .returned (.bool (okList zs)) ∧ w = w' := by
  have H := Lib.hid (l2List_any a cap zs w hbig h)
  clear h
  go_enter Try.func42, Try.ntmps42
  go_wp2_with fail
  refine H.out.mono ?_
  rintro e w1 ⟨rfl, rfl⟩
  go_wp2
  go_ret
  exact ⟨rfl, rfl⟩

theorem okList_sub {zs o : List Int} (h : okList zs = true) (hl : o.length ≤ zs.length) (hm : ∀ x ∈ o, x ∈ zs) : okList o = true := by
  unfold okList at h ⊢
  simp only [Bool.and_eq_true, decide_eq_true_eq, List.all_eq_true] at h ⊢
  exact ⟨by omega, fun x hx => h.2 x (hm x hx)⟩
theorem len_sum : ∀ {c : List Int}, (∀ x ∈ c, 1 ≤ x) → (c.length : Int) ≤ Mg.sumL c
  | [], _ => by simp [Mg.sumL]
  | x :: c, h => by
    have ih := len_sum (c := c) (fun y hy => h y (by simp [hy]))
    have hx := h x (by simp)
    unfold Mg.sumL at ih ⊢
    rw [List.foldl_cons, Mg.foldl_add]
    simp
    omega
theorem sum_take {c : List Int} {k : Nat} (h : k < c.length) : Mg.sumL (c.take (k + 1)) = Mg.sumL (c.take k) + c.getD k 0 := by
  unfold Mg.sumL
  rw [List.take_add_one, List.getElem?_eq_getElem h, List.getD_eq_getElem?_getD, List.getElem?_eq_getElem h, List.foldl_append]
  rfl
theorem sum_take_le {c : List Int} (h : ∀ x ∈ c, 1 ≤ x) (k : Nat) : Mg.sumL (c.take k) ≤ Mg.sumL c ∧ 0 ≤ Mg.sumL (c.take k) := by
  have e : Mg.sumL c = Mg.sumL (c.take k) + Mg.sumL (c.drop k) := by
    conv => lhs; rw [← List.take_append_drop k c]
    unfold Mg.sumL
    rw [List.foldl_append, Mg.foldl_add]
  have h1 := len_sum (c := c.drop k) (fun x hx => h x (List.mem_of_mem_drop hx))
  have h2 := len_sum (c := c.take k) (fun x hx => h x (List.mem_of_mem_take hx))
  omega

set_option maxRecDepth 100000 in
set_option maxHeartbeats 8000000 in
theorem lawDistinct_small (ac : Option Addr) (cc : Nat) (cs : List Int) (w : World) (hl : cs.length ≤ 65536) (h : BytesAt w ac cs) :
    Calls Try.prog 8 #[.slice ac cs.length cc] w fun e w' => e = .returned (.bool true) ∧ Below w.heap.size w w' := by
  have HV := vBigG_any ac cs.length cc w (by omega)
  rw [decide_eq_false (by omega)] at HV
  have HV := Lib.hid HV
  have HD := Lib.hid (drawDistinctStable_any ac cc cs w (by omega) h)
  clear h
  go_enter Try.func8, Try.ntmps8
  go_wp2_with fail
  refine HV.out.mono ?_
  rintro e w1 ⟨rfl, rfl⟩
  go_wp2_with fail
  refine HD.out.mono ?_
  rintro e w1 ⟨a1, c1, zs, rfl, ho, hl70, hz, hb⟩
  have HZ1 := Lib.hid (ints_of_own ho); have HNO := Lib.hid (nilOr_own ho); have HB1 := Lib.hid hb
  clear ho hz hb HD HV
  go_wp2_with fail
  refine (distinctStable_any a1 c1 zs w1 (by omega) HZ1.out).mono ?_
  rintro e w2 ⟨a2, c2, o, a3, c3, ts, rfl, hok1, hno1, hi2, hi3, hb⟩
  have HO2 := Lib.hid hi2; have HT2 := Lib.hid hi3; have HZ2 := Lib.hid (HZ1.out.below (Nat.le_refl _) hb); have HB2 := Lib.hid (bcg HB1.out hb)
  have HOK1 := Lib.hid hok1; have HNO1 := Lib.hid hno1
  clear hi2 hi3 hb hok1 hno1 HZ1 HB1
  go_wp2_with fail
  refine (distinctSorted_any a1 c1 zs w2 (by omega) HNO.out HZ2.out).mono ?_
  rintro e w3 ⟨a4, c4, rfl, hok2, hno2, hi4, hb⟩
  have HS3 := Lib.hid hi4; have HO3 := Lib.hid (HO2.out.below (Nat.le_refl _) hb); have HT3 := Lib.hid (HT2.out.below (Nat.le_refl _) hb); have HZ3 := Lib.hid (HZ2.out.below (Nat.le_refl _) hb); have HB3 := Lib.hid (bcg HB2.out hb)
  have HOK2 := Lib.hid hok2; have HNO2 := Lib.hid hno2
  clear hi4 hb hok2 hno2 HO2 HT2 HZ2 HB2
  have HL := Lib.hid (specIsValidList_any a1 c1 zs w3 (by omega) HZ3.out)
  cases hok : okList zs
  · obtain ⟨rfl, rfl, rfl, rfl⟩ := HNO1.out hok
    obtain ⟨rfl, rfl⟩ := HNO2.out hok
    have HDS : Hid (dsV zs = []) := by show _ = _; simp [dsV, hok]
    rw [HDS.out]
    have HSE := Lib.hid (sameG_any none 0 [] none 0 [] w3 (fun _ => ⟨rfl, rfl⟩) (fun _ => ⟨rfl, rfl⟩) (by simp) (.inl rfl) (by simp) (.inl rfl))
    rw [hok] at HL
    clear hok HOK1 HOK2 HNO1 HNO2 HDS
    go_wp2_with fail
    refine HL.out.mono ?_
    rintro e w4 ⟨rfl, rfl⟩
    go_wp2
    go_loopw [9, 10] (fun s i wr => s = .int .i64 0 ∧ i = .int .i64 0 ∧ wr = w3) (fun _ _ _ => 0)
    case atStart => exact ⟨rfl, rfl, rfl⟩
    case round =>
      obtain ⟨rfl, rfl, rfl⟩ := hrel
      go_wp2_with fail
      refine HSE.out.mono ?_
      rintro e w5 ⟨rfl, hb⟩
      have HB5 := Lib.hid (bcg HB3.out hb); clear hb
      go_wp2
      go_ret
      exact ⟨rfl, HB5.out⟩
  · obtain ⟨hF, g1, rfl⟩ := HOK1.out hok
    obtain ⟨g2, rfl⟩ := HOK2.out hok
    have HDS : Hid (dsV zs = Mg.dist zs) := by show _ = _; simp [dsV, hok]
    rw [HDS.out] at HS3 ⊢
    obtain ⟨hsm, hle⟩ := hF.same
    have hll := okList_len hok
    have hlt := len_sum hF.pos
    have hol : o.length ≤ zs.length := by have := hF.sum; have := hF.len; omega
    have hko : okList o = true := okList_sub hok hol (fun x hx => (hF.mem x).1 hx)
    have hkd : okList (Mg.dist zs) = true := okList_sub hok (by omega) (fun x hx => (Mg.dist_mem zs x).1 hx)
    have HSE := Lib.hid (fun W (hb : Below w3.heap.size w3 W) => sameG_any (some ⟨g1, 0, none⟩) c2 o (some ⟨g2, 0, none⟩) c4 (Mg.dist zs) W (fun h => by cases h) (fun h => by cases h) (by omega) (HO3.out.below (Nat.le_refl _) hb) (by omega) (HS3.out.below (Nat.le_refl _) hb))
    have hse : seOk o (Mg.dist zs) = true := by simp [seOk, hko, hkd]
    have hsv : seV o (Mg.dist zs) = true := by simp [seV, hse, hsm]
    rw [hse, hsv] at HSE
    rw [hok] at HL
    have HF := Lib.hid hF
    have HTL : Hid (ts.length = o.length) := hF.len
    have HDL : Hid ((Mg.dist zs).length = o.length) := hle.symm
    have hlen1 : (((ts.length : Nat) : Int) != ((o.length : Nat) : Int)) = false := by rw [HTL.out]; simp
    have HLT := Lib.hid (Mg.dist_lt zs)
    have HSUM : Hid (Mg.sumL ts = zs.length) := hF.sum
    have HST := Lib.hid (fun k => sum_take_le hF.pos k)
    have HSK := Lib.hid (fun k h => sum_take (c := ts) (k := k) h)
    generalize Mg.dist zs = ds at HS3 HSE HDL HLT ⊢
    clear hok HOK1 HOK2 HNO1 HNO2 HDS hsm hle hlt hko hkd hse hsv hF
    go_wp2_with fail
    refine HL.out.mono ?_
    rintro e w4 ⟨rfl, rfl⟩
    go_wp2
    go_loopw [9, 10] (fun s i wr => ∃ k : Nat, i = .int .i64 k ∧ k ≤ ts.length ∧ s = .int .i64 (Mg.sumL (ts.take k)) ∧ Below w3.heap.size w3 wr) (fun _ i _ => ts.length - (intOf i).toNat)
    case atStart => exact ⟨0, rfl, by omega, rfl, Below.refl _ _⟩
    case round =>
      obtain ⟨k, rfl, hk, rfl, hb⟩ := hrel
      have HBR := Lib.hid hb; clear hb
      by_cases hkt : k < ts.length
      case neg =>
        obtain rfl : k = ts.length := by omega
        have h3 : decide ((ts.length : Int) < (ts.length : Int)) = false := by simp
        rw [List.take_length, HSUM.out]
        have HS5 := Lib.hid (HSE.out _ HBR.out)
        have hq : (((zs.length : Nat) : Int) == ((zs.length : Nat) : Int)) = true := by simp
        go_wp2_with fail
        refine HS5.out.mono ?_
        rintro e w5 ⟨rfl, hb⟩
        have HB5 := Lib.hid (bcg HB3.out (HBR.out.trans (hb.mono HBR.out.size))); clear hb
        go_wp2
        go_ret
        exact ⟨rfl, HB5.out⟩
      have h3 : decide ((k : Int) < (ts.length : Int)) = true := by simp; omega
      have hkd : k < ds.length := by have := HDL.out; have := HTL.out; omega
      obtain ⟨b1, f1, rfl, hc1⟩ := (HT3.out.below (Nat.le_refl _) HBR.out).at hkt
      obtain ⟨b2, f2, e2, hc2⟩ := (HS3.out.below (Nat.le_refl _) HBR.out).at hkd
      injection e2 with e2
      injection e2 with e3 e4 _
      subst e3; subst e4
      have hpos : 1 ≤ ts.getD k 0 := by
        rw [List.getD_eq_getElem?_getD, List.getElem?_eq_getElem hkt]
        exact HF.out.pos _ (List.getElem_mem hkt)
      have hs1 := HST.out k
      have hs2 := HST.out (k + 1)
      have hsk := HSK.out k hkt
      have hsum := HSUM.out
      rw [hsk] at hs2
      have HSKK := Lib.hid hsk
      clear hsk
      have b1 : (0 : Int) ≤ (k : Int) := by omega
      have b2 : (k : Int) < (ts.length : Int) := by omega
      have b3 : (k : Int) < (ds.length : Int) := by omega
      have HPR : Hid (0 < k → ∃ Y, (∃ m : Nat, k = m + 1 ∧ wr.cell? ⟨g2, m, none⟩ = some (.int .i64 Y)) ∧ Y < ds.getD k 0) := fun h0 => by
        obtain ⟨m, rfl⟩ : ∃ m, k = m + 1 := ⟨k - 1, by omega⟩
        obtain ⟨b2, f2, e2, hc3⟩ := (HS3.out.below (Nat.le_refl _) HBR.out).at (k := m) (by omega)
        injection e2 with e2
        injection e2 with e3 e4 _
        subst e3; subst e4
        rw [Nat.zero_add] at hc3
        refine ⟨_, ⟨m, rfl, hc3⟩, ?_⟩
        have := List.pairwise_iff_getElem.1 HLT.out m (m + 1) (by omega) hkd (by omega)
        rw [List.getD_eq_getElem?_getD, List.getD_eq_getElem?_getD, List.getElem?_eq_getElem hkd, List.getElem?_eq_getElem (by omega : m < ds.length)]
        exact this
      rw [Nat.zero_add] at hc2
      generalize ds.getD k 0 = D at hc2 HPR
      generalize ts.getD k 0 = T at hc1 hpos hs2 HSKK
      generalize Mg.sumL (ts.take k) = SU at hs1 hs2 HSKK ⊢
      obtain ⟨s1, s2⟩ := hs1
      obtain ⟨s3, s4⟩ := hs2
      have s5 : SU + T ≤ 9223372036854775807 := by omega
      have hT1 : decide (T < 1) = false := by simp; omega
      by_cases hk0 : 0 < k
      · obtain ⟨Y, ⟨m, rfl, hc3⟩, hY⟩ := HPR.out hk0
        have hYD : decide (D ≤ Y) = false := by simp; omega
        have hk1 : decide ((0 : Int) < ((m + 1 : Nat) : Int)) = true := by first | (simp; done) | (simp; omega)
        have b6 : (m : Int) ≤ 64 := by have := HTL.out; omega
        have b7 : ts.length ≤ 64 := by have := HTL.out; omega
        have b8 : ds.length ≤ 64 := by have := HDL.out; omega
        have hcast : ((m + 1 : Nat) : Int) = (m : Int) + 1 := by omega
        rw [hcast] at b1 b2 b3 h3 hk1 ⊢
        have b4 : (m : Int) < (ds.length : Int) := by omega
        have b5 : (0 : Int) ≤ (m : Int) := by omega
        clear hk0 HPR hY
        go_wp2_with fail
        go_quiet (fail)
        go_wp2
        go_roundw
        case rel => exact ⟨m + 2, by go_num, by omega, by rw [HSKK.out], below_drewN HBR.out _⟩
        case measure => simp [intOf] <;> omega
      · obtain rfl : k = 0 := by omega
        have hk1 : decide ((0 : Int) < ((0 : Nat) : Int)) = false := by simp
        rw [show ((0 : Nat) : Int) = 0 from rfl] at b1 b2 b3 h3 hk1 ⊢
        rw [Nat.add_zero] at hc1
        clear hk0 HPR
        go_wp2_with fail
        go_quiet (fail)
        go_wp2
        go_roundw
        case rel => exact ⟨1, by go_num, by omega, by rw [HSKK.out], below_drewN HBR.out _⟩
        case measure => simp [intOf] <;> omega

theorem lawDistinct_any (ac : Option Addr) (cc : Nat) (cs : List Int) (w : World) (hbig : cs.length ≤ 9223372036854775807) (h : BytesAt w ac cs) :
    Calls Try.prog 8 #[.slice ac cs.length cc] w fun e w' => e = .returned (.bool true) ∧ Below w.heap.size w w' := by
  by_cases hb65 : 65536 < cs.length
  · have HV := vBigG_any ac cs.length cc w hbig
    rw [decide_eq_true hb65] at HV
    have HV := Lib.hid HV
    clear hb65 h
    go_enter Try.func8, Try.ntmps8
    go_wp2_with fail
    refine HV.out.mono ?_
    rintro e w1 ⟨rfl, rfl⟩
    go_wp2
    go_ret
    exact ⟨rfl, Below.refl _ _⟩
  · exact lawDistinct_small ac cc cs w (by omega) h

end Go.Proofs.Ytkjmngdcfheojaa
