/- Several texts in one: lemmas and walks of the functions that the laws reach. -/
import Derived.Test.YtmolneojjcjooaaY6

/- Walks: the reference's next arrangement. -/
namespace Go.Proofs.Ytmolneojjcjooaa
open Go.RowKit Go.Sort
set_option linter.unusedVariables false

theorem insS_least {x : Int} : ∀ {r : List Int}, (∀ z ∈ r, x ≤ z) → Pm.insS x r = x :: r
  | [], _ => rfl
  | z :: r, h => by
    unfold Pm.insS
    have h1 := h z (by simp)
    split
    · have : z = x := by omega
      subst this
      rw [insS_least (fun y hy => h y (by simp [hy]))]
    · rfl
theorem insS_mrg {x : Int} : ∀ {r : List Int}, Mg.Asc Mg.ltI r → Mg.mrg Mg.ltI [x] r = Pm.insS x r
  | [], _ => by rw [Mg.nil_mrg]; rfl
  | y :: r, h => by
    rw [Mg.asc_cons] at h
    rw [Mg.mrg_cons]
    unfold Pm.insS
    by_cases h1 : y < x
    · rw [if_pos (by simpa [Mg.ltI] using h1), if_pos (by omega), insS_mrg h.2]
    · rw [if_neg (by simpa [Mg.ltI] using h1), Mg.mrg_nil]
      by_cases h2 : y = x
      · subst h2
        rw [if_pos (by omega), insS_least (fun z hz => by have := h.1 z hz; simp [Mg.ltI] at this; omega)]
      · rw [if_neg (by omega)]
theorem sortS_srtI : ∀ l : List Int, Pm.sortS l = Mg.srtI l
  | [] => rfl
  | x :: l => by
    unfold Pm.sortS Mg.srtI
    rw [Mg.srt_cons Mg.swI, sortS_srtI l]
    exact (insS_mrg (Mg.srt_asc Mg.swI l)).symm
theorem firstGt_before {x : Int} : ∀ {l : List Int} {j : Nat}, j < Pm.firstGt x l → l.getD j 0 ≤ x
  | [], j, h => by simp [Pm.firstGt] at h
  | y :: t, j, h => by
    unfold Pm.firstGt at h
    split at h
    · cases j with
      | zero => simpa using by assumption
      | succ j => simpa using firstGt_before (l := t) (j := j) (by omega)
    · omega
theorem firstGt_at {x : Int} : ∀ {l : List Int}, Pm.firstGt x l < l.length → x < l.getD (Pm.firstGt x l) 0
  | [], h => by simp [Pm.firstGt] at h
  | y :: t, h => by
    unfold Pm.firstGt at h ⊢
    split
    · rename_i hy
      rw [if_pos hy] at h
      simpa using firstGt_at (l := t) (by simpa using h)
    · simp; omega
theorem firstGt_lt {x y : Int} : ∀ {l : List Int}, y ∈ l → x < y → Pm.firstGt x l < l.length
  | [], h, _ => by simp at h
  | z :: t, h, hx => by
    unfold Pm.firstGt
    split
    · rename_i hz
      have : y ∈ t := by
        rcases List.mem_cons.1 h with h | h
        · omega
        · exact h
      have := firstGt_lt this hx
      simp; omega
    · simp

theorem ints_drop {w : World} {b off : Nat} {p : List Int} (h : IntsAt w (some ⟨b, off, none⟩) p) (i : Nat) : IntsAt w (some ⟨b, off + i, none⟩) (p.drop i) := by
  rcases h with rfl | ⟨b', off', e, h0, h1⟩
  · exact .inl (by simp)
  · injection e with e
    injection e with e1 e2 _
    subst e1; subst e2
    refine .inr ⟨b, off + i, rfl, h0, fun j hj => ?_⟩
    have := h1 (i + j) (by simp at hj; omega)
    rw [Nat.add_assoc, this]
    simp [List.getD]
theorem ints_drop0 {w : World} {b : Nat} {p : List Int} (h : IntsAt w (some ⟨b, 0, none⟩) p) (i : Nat) : IntsAt w (some ⟨b, i, none⟩) (p.drop i) := by
  have := ints_drop h i
  rwa [Nat.zero_add] at this
theorem ints_one {l : List Int} : ∀ u ∈ l.map (Value.int .i64), u.oneCell' = true := by
  intro u hu
  obtain ⟨x, _, rfl⟩ := List.mem_map.1 hu
  rfl
theorem ints_take {w : World} {x : Addr} {p : List Int} (h : IntsAt w (some x) p) (i : Nat) : IntsAt w (some x) (p.take i) := by
  rcases h with rfl | ⟨b', off', e, h0, h1⟩
  · exact .inl (by simp)
  · refine .inr ⟨b', off', e, h0, fun j hj => ?_⟩
    have hj2 : j < i ∧ j < p.length := by simp at hj; omega
    rw [h1 j hj2.2]
    simp [List.getD, List.getElem?_take, hj2.1]

theorem own_cap' {w : World} {base : Nat} {e : TypeId} {size g n c : Nat} {xs : List Value} (h : w.ownsRow base e size (.slice (some ⟨g, 0, none⟩) n c) n xs) : n ≤ c ∧ c ≤ 9223372036854775807 := by
  rcases h.2 with ⟨h2, _⟩ | ⟨g', cap, cur, hv, _, _, hn, hm, _⟩
  · injection h2 with h2 _ _; cases h2
  · injection hv with _ _ hv
    subst hv
    exact ⟨hn, by unfold maxLen at hm; omega⟩

theorem nextS_eq {p : List Int} {m i : Nat} (hp : p.length = m + 1) (h : Pm.pivE p m = some i) :
    Pm.nextS p = p.take i ++ [(Mg.srtI (p.drop i)).getD (Pm.firstGt (p.getD i 0) (Mg.srtI (p.drop i))) 0] ++ (Mg.srtI (p.drop i)).take (Pm.firstGt (p.getD i 0) (Mg.srtI (p.drop i))) ++ (Mg.srtI (p.drop i)).drop (Pm.firstGt (p.getD i 0) (Mg.srtI (p.drop i)) + 1) := by
  unfold Pm.nextS
  rw [hp, Nat.add_sub_cancel, h, ← sortS_srtI]

set_option maxRecDepth 100000 in
set_option maxHeartbeats 4000000 in
theorem l23Next_any (b off cap m : Nat) (p : List Int) (w : World) (hp : p.length = m + 1) (hm : m ≤ 900) (hcap : m + 1 ≤ cap) (hnd : p.Nodup) (h : IntsAt w (some ⟨b, off, none⟩) p) :
    Calls Try.prog 91 #[.slice (some ⟨b, off, none⟩) (m + 1) cap] w fun e w' => ∃ a n c, e = .returned (.slice a n c) ∧ w'.ownsRow w.heap.size 3 1 (.slice a n c) n ((Pm.nextS p).map (Value.int .i64)) ∧ Below w.heap.size w w' := by
  have H := Lib.hid h; clear h
  have HN0 : Hid (Pm.pivE p m = none → Pm.nextS p = []) := fun h => by
    unfold Pm.nextS
    rw [hp, Nat.add_sub_cancel, h]
  have HN1 : Hid (∀ i, Pm.pivE p m = some i → _) := fun i h => nextS_eq hp h
  have HL := Lib.hid hp; have HND := Lib.hid hnd
  clear hnd
  have HC : Hid (∀ W, Below w.heap.size w W → ∀ j, j < m + 1 → W.cell? ⟨b, off + j, none⟩ = some (.int .i64 (p.getD j 0))) := fun W hb j hj => by
    obtain ⟨b', off', e, hc⟩ := (H.out.below (Nat.le_refl _) hb).at (k := j) (by omega)
    injection e with e
    injection e with e1 e2 _
    subst e1; subst e2
    exact hc
  go_enter Try.func91, Try.ntmps91
  go_wp2
  go_loopw [3] (fun i wr => ∃ (z : Int), i = .int .i64 z ∧ Below w.heap.size w wr ∧ ((z = -1 ∧ Pm.pivE p m = none) ∨ ∃ k : Nat, z = k ∧ k < m ∧ Pm.pivE p m = Pm.pivE p (k + 1))) (fun i _ => (intOf i + 1).toNat)
  case atStart =>
    cases m with
    | zero => exact ⟨-1, by simp, Below.refl _ _, .inl ⟨rfl, rfl⟩⟩
    | succ m => exact ⟨(m : Int), by simp <;> omega, Below.refl _ _, .inr ⟨m, rfl, by omega, rfl⟩⟩
  case round =>
    obtain ⟨z, rfl, hb, ⟨rfl, hn⟩ | ⟨k, rfl, hk, hpk⟩⟩ := hrel
    · have HE := Lib.hid (HN0.out hn)
      have HB := Lib.hid hb
      clear hn hb
      go_wp2_with fail
      go_quiet (fail)
      have E2 := Lib.hid (own_lit (w := wr.drewN nq) (e := 3) (size := 1) #[] 0 (by omega) rfl)
      have B2 := Lib.hid (show Below w.heap.size w ((wr.drewN nq).alloc (.cells #[] 3)) from (below_drewN HB.out nq).alloc HB.out.size _)
      go_wp2
      go_ret
      rw [HE.out]
      exact ⟨_, 0, _, rfl, own_mono E2.out HB.out.size, B2.out⟩
    · have HB := Lib.hid hb; clear hb
      have c1 := HC.out _ HB.out k (by omega)
      have c2 := HC.out _ HB.out (k + 1) (by omega)
      have HP : Hid (Pm.pivE p (k + 1) = if p.getD k 0 ≤ p.getD (k + 1) 0 then some k else Pm.pivE p k) := rfl
      have HPK := Lib.hid hpk; clear hpk
      have HXY : Hid (∃ X Y, p.getD k 0 = X ∧ p.getD (k + 1) 0 = Y) := ⟨_, _, rfl, rfl⟩
      obtain ⟨X, Y, hX, hY⟩ := HXY.out
      rw [hX] at c1 HP
      rw [hY] at c2 HP
      have HX := Lib.hid hX; have HY := Lib.hid hY
      clear hX hY HXY
      have b1 : (0 : Int) ≤ (k : Int) := by omega
      have b2 : (k : Int) + 1 < (m : Int) + 1 := by omega
      have b3 : (k : Int) < (m : Int) + 1 := by omega
      by_cases hXY : X ≤ Y
      case neg =>
        have hz : decide (Y < X) = true := by simp; omega
        have HE : Hid (Pm.pivE p m = Pm.pivE p k) := by show _ = _; rw [HPK.out, HP.out, if_neg hXY]
        clear hXY
        go_wp2_with fail
        go_quiet (fail)
        go_wp2
        go_roundw
        case rel =>
          cases k with
          | zero => exact ⟨-1, by simp, below_drewN HB.out _, .inl ⟨rfl, HE.out⟩⟩
          | succ k => exact ⟨(k : Int), by simp <;> omega, below_drewN HB.out _, .inr ⟨k, rfl, by omega, HE.out⟩⟩
        case measure => simp [intOf] <;> omega
      have hz : decide (Y < X) = false := by simp; omega
      have HE : Hid (Pm.pivE p m = some k) := by show _ = _; rw [HPK.out, HP.out, if_pos hXY]
      have HN := Lib.hid (HN1.out k HE.out)
      have hlt2 : X < Y := by
        rcases Int.lt_or_eq_of_le hXY with h | h
        · exact h
        · exfalso
          have h1 : k < p.length := by omega
          have h2 : k + 1 < p.length := by omega
          have a1 := HX.out; have a2 := HY.out
          rw [List.getD_eq_getElem?_getD, List.getElem?_eq_getElem h1] at a1
          rw [List.getD_eq_getElem?_getD, List.getElem?_eq_getElem h2] at a2
          simp only [Option.getD_some] at a1 a2
          exact (List.pairwise_iff_getElem.1 HND.out _ _ h1 h2 (by omega)) (by rw [a1, a2, h])
      have hmem : Y ∈ Mg.srtI (p.drop k) := by
        refine (Mg.srt_mem (lt := Mg.ltI)).2 ?_
        have h2 : k + 1 < p.length := by omega
        have a2 := HY.out
        rw [List.getD_eq_getElem?_getD, List.getElem?_eq_getElem h2] at a2
        simp only [Option.getD_some] at a2
        refine List.mem_iff_getElem.2 ⟨1, by simp; omega, ?_⟩
        rw [List.getElem_drop]; exact a2
      have hFG := firstGt_lt hmem hlt2
      obtain ⟨R, hR⟩ : ∃ R, (p.drop k).length = R := ⟨_, rfl⟩
      have hR2 : m + 1 - k = R := by rw [← hR]; simp; omega
      have HRL : Hid ((Mg.srtI (p.drop k)).length = R) := by show _ = _; rw [srtI_len]; exact hR
      have HS := Lib.hid (fun (W : World) (c : Nat) (hb : Below w.heap.size w W) => by
        have := l2Sorted_any ⟨b, off + k, none⟩ c (p.drop k) W (by omega) (ints_drop (H.out.below (Nat.le_refl _) hb) k)
        rw [hR] at this
        unfold OwnEnd at this
        exact this)
      have HW := Lib.hid (fun (W : World) (c : Nat) (hb : Below w.heap.size w W) => by
        have := l1Own_any ⟨b, off, none⟩ c (p.take k) W (by simp; omega) (ints_take (H.out.below (Nat.le_refl _) hb) k)
        rw [show (p.take k).length = k by simp; omega] at this
        unfold OwnEnd at this
        exact this)
      rw [HX.out] at HN
      have HFB := Lib.hid (fun j => firstGt_before (x := X) (l := Mg.srtI (p.drop k)) (j := j))
      have HFA := Lib.hid (firstGt_at hFG)
      rw [HRL.out] at hFG
      generalize hrs : Mg.srtI (p.drop k) = rs at HN HRL HS HFB HFA hFG
      generalize Pm.firstGt X rs = K at HN HFB HFA hFG
      clear hlt2 hmem hXY HP HPK hrs HN0 HN1
      have hkm : k + 2 ≤ m + 1 := by omega
      have hR3 : R ≤ 1000 := by omega
      have b4 : (k : Int) ≤ (m : Int) + 1 := by omega
      have b5 : (m : Int) + 1 ≤ (cap : Int) := by omega
      have b6 : (k : Int) ≤ (cap : Int) := by omega
      have hne1 : ¬ cap = k := by omega
      have h0 : decide ((k : Int) < 0) = false := by simp
      clear hR
      go_wp2_with fail
      go_quiet (fail)
      have HB1 := Lib.hid (below_drewN HB.out nq)
      have d1 := HC.out _ HB1.out k (by omega)
      rw [HX.out] at d1
      generalize wr.drewN nq = w1 at HB1 d1 ⊢
      clear c1 c2 HB
      go_wp2_with fail
      refine (HS.out _ _ HB1.out).mono ?_
      rintro e w2 ⟨g4, c4, rfl, ho, hb⟩
      have hc4 := (own_cap' ho).1
      have hg4 := (ho.lt g4 rfl)
      have HO2 := Lib.hid ho
      have HB2 := Lib.hid (bco HB1.out hb)
      clear ho hb HS d1
      go_wp2
      go_loopw [5] (fun i wr => ∃ j : Nat, i = .int .i64 j ∧ j ≤ K ∧ Below w2.heap.size w2 wr) (fun i _ => K - (intOf i).toNat)
      case atStart => exact ⟨0, rfl, by omega, Below.refl _ _⟩
      case round =>
        obtain ⟨j, rfl, hj, hb⟩ := hrel
        have HB3 := Lib.hid (bco HB2.out hb)
        have HO3 := Lib.hid (own_below HO2.out (Nat.le_refl _) hb)
        have hsz : w2.heap.size ≤ wr.heap.size := hb.size
        have HBR := Lib.hid hb; clear hb
        have d1 := HC.out _ HB3.out k (by omega)
        rw [HX.out] at d1
        have d2 := own_celli HO3.out (i := j) (x := .int .i64 (rs.getD j 0)) (by rw [List.getElem?_map, List.getD_eq_getElem?_getD, List.getElem?_eq_getElem (by rw [HRL.out]; omega)]; rfl)
        have b7 : (j : Int) < (R : Int) := by omega
        have b8 : (0 : Int) ≤ (j : Int) := by omega
        have b9 : (j : Int) ≤ (R : Int) := by omega
        have b10 : (j : Int) ≤ (c4 : Int) := by omega
        obtain ⟨Z, hZ⟩ : ∃ Z, rs.getD j 0 = Z := ⟨_, rfl⟩
        rw [hZ] at d2
        have HZ := Lib.hid hZ; clear hZ
        by_cases hjK : j < K
        · have hz2 : decide (Z ≤ X) = true := by have := HFB.out j hjK; rw [HZ.out] at this; simpa using this
          go_wp2_with fail
          go_quiet (fail)
          go_wp2
          go_roundw
          case rel => exact ⟨j + 1, by go_num, by omega, below_drewN HBR.out _⟩
          case measure => simp [intOf] <;> omega
        · obtain rfl : j = K := by omega
          have hz2 : decide (Z ≤ X) = false := by have := HFA.out; rw [HZ.out] at this; simp; omega
          rw [HZ.out] at HN
          go_wp2_with fail
          go_quiet (fail)
          have HB4 := Lib.hid (below_drewN HB3.out nq)
          have HO4 : Hid ((wr.drewN nq).ownsRow w1.heap.size 3 1 (.slice (some ⟨g4, 0, none⟩) R c4) R (rs.map (Value.int .i64))) := HO3.out
          have d3 : (wr.drewN nq).cell? ⟨g4, j, none⟩ = some (.int .i64 Z) := d2
          have hsz4 : w2.heap.size ≤ (wr.drewN nq).heap.size := hsz
          clear d1 d2 hsz HO3 HB3 HO2 HFA HFB
          generalize wr.drewN nq = w4 at HB4 HO4 d3 hsz4 ⊢
          go_wp2_with fail
          have HR4 := Lib.hid (ints_of_own HO4.out)
          have hgs : g4 < w4.heap.size := by omega
          have hj0 : j < R := by omega
          have HT : Hid ((p.take k).length = k) := by show _ = _; simp; omega
          obtain ⟨KK, k0, kd, kn, ko, ki⟩ : ∃ KK : World → Prop, KK w4.drew ∧ (∀ W, KK W → W.cell? ⟨g4, j, none⟩ = some (.int .i64 Z)) ∧ (∀ W W', KK W → Below W.heap.size W W' → KK W') ∧ (∀ W, KK W → Below w4.heap.size w4 W) ∧ (∀ W, Below w4.heap.size w4 W → KK W) :=
            ⟨fun W => Below w4.heap.size w4 W, (Below.refl _ _).drew, fun W h => (h.cell (p := ⟨g4, j, none⟩) hgs).trans d3, fun W W' h hb => h.trans (hb.mono h.size), fun _ h => h, fun _ h => h⟩
          have SK := Lib.hid (fun (W W' : World) (h : KK W) (hb : Below W.heap.size W W') => (⟨kd W' (kn W W' h hb), kn W W' h hb⟩ : W'.cell? ⟨g4, j, none⟩ = some (.int .i64 Z) ∧ KK W'))
          have hk1 := kd _ k0
          have HW2 := Lib.hid (fun (W : World) (c : Nat) (h : KK W) => HW.out W c (HB4.out.trans ((ko W h).mono HB4.out.size)))
          have KO := Lib.hid ko
          have KI := Lib.hid (fun W h => (⟨kd W (ki W h), ki W h⟩ : W.cell? ⟨g4, j, none⟩ = some (.int .i64 Z) ∧ KK W))
          clear kd kn ko ki d3 HW
          go_region_held3 (fun w' => w'.cell? ⟨g4, j, none⟩ = some (.int .i64 Z) ∧ KK w') (first | exact SK.out _ _ (by assumption) (by first | exact (Below.refl _ _).alloc (Nat.le_refl _) _ | exact (Below.refl _ _).drew) | go_keep)
            (first
              | ((try go_split_ands); go_at_call 137; refine (HW2.out _ _ (by assumption)).mono ?_; rintro e w5 ⟨g5, c5, rfl, ho5, hb5⟩; have hS := SK.out _ _ (by assumption) hb5; have hS1 := hS.1; have hS2 := hS.2; have HB5 := Lib.hid hb5; have HO5 := Lib.hid (own_mono ho5 (KO.out _ (by assumption)).size); clear hS hb5 ho5)
              | ((try go_split_ands); refine step_appX slInt (by rfl) _ _ (by rfl) w4.heap.size (.slice (some ⟨g5, 0, none⟩) k c5) k ((p.take k).map (Value.int .i64)) _ 1 _ [.int .i64 Z] (by rfl) (by first | exact HO5.out | exact own_below HO5.out (Nat.le_refl _) ((Below.refl _ _).alloc (Nat.le_refl _) _)) (by rfl) rfl (by
                  intro q u hu
                  first
                  | exact cells_new _ [.int .i64 Z] _ q u hu
                  | (rw [addr_add_zero]; refine (HB5.out.cell (p := ⟨_, q, none⟩) (by simp)).trans ?_; rw [← addr_add_zero]; exact cells_new _ [.int .i64 Z] _ q u hu)) (by simp [Value.oneCell']) (by omega) (KO.out _ (by assumption)).size ?_
                 intro v6 w6 ho6 hg6 ht6; have HB6 := Lib.hid (below_app (KO.out _ (by assumption)) (KO.out _ (by assumption)).size (by first | exact HO5.out | exact own_below HO5.out (Nat.le_refl _) ((Below.refl _ _).alloc (Nat.le_refl _) _)) (Nat.le_refl _) hg6); have hT := KI.out _ HB6.out; have hT1 := hT.1; have hT2 := hT.2; have HO6 := Lib.hid ho6; clear ho6 hg6 ht6 hT))
          all_goals
            have HR6 := Lib.hid (HR4.out.below (Nat.le_refl _) HB6.out)
            have hsz6 : w4.heap.size ≤ w6.heap.size := HB6.out.size
            obtain ⟨a6, c6, rfl⟩ := own_slice HO6.out
            obtain ⟨g6, rfl, hg6, hg6b, _⟩ := own_cell HO6.out (by omega)
            have e1 : (j : Int) + 1 ≤ (R : Int) := by omega
            have e2 : (R : Int) ≤ (c4 : Int) := by omega
            have e3 : (0 : Int) ≤ (j : Int) + 1 := by omega
            have e4 : (j : Int) + 1 ≤ (c4 : Int) := by omega
            have e5 : IntKind.i64.wrap ((j : Int) + 1) = (j : Int) + 1 := by
              have : j ≤ 1000 := by omega
              simp [IntKind.wrap, IntKind.bits, IntKind.signed]; omega
            have e6 : ((j : Int) + 1).toNat = j + 1 := by omega
            have hl1 : ((rs.take j).map (Value.int .i64)).length = j * 1 := by have := HRL.out; simp; omega
            have hl2 : ((rs.drop (j + 1)).map (Value.int .i64)).length = (R - (j + 1)) * 1 := by have := HRL.out; simp; omega
            have HL1 := Lib.hid hl1; have HL2 := Lib.hid hl2
            clear HB5 HO5 hS1 hS2 hT1 hT2 KI KO SK HW2 k0 hl1 hl2
            have HO6' : Hid (w6.drew.ownsRow w4.heap.size 3 1 (.slice (some ⟨g6, 0, none⟩) (k + 1) c6) (k + 1) ((p.take k).map (Value.int .i64) ++ [.int .i64 Z])) := HO6.out
            have HR6' : Hid (IntsAt w6.drew (some ⟨g4, 0, none⟩) rs) := HR6.out
            have hsz6' : w4.heap.size ≤ w6.drew.heap.size := hsz6
            by_cases hce : c4 = j + 1
            case neg =>
              have hce2 : ¬ j + 1 = c4 := fun h => hce h.symm
              have hce3 : ¬ (c4 : Int) = (j : Int) + 1 := by omega
              have hce4 : ¬ (j : Int) + 1 = (c4 : Int) := by omega
              go_wp2_with fail
              go_region_held3 (fun w' => True) (trivial)
                (first
                  | (refine step_appX slInt (by rfl) _ _ (by rfl) w4.heap.size (.slice (some ⟨g6, 0, none⟩) (k + 1) c6) (k + 1) ((p.take k).map (Value.int .i64) ++ [.int .i64 Z]) _ j _ ((rs.take j).map (Value.int .i64)) (by rfl) HO6'.out (by rfl) HL1.out (ints_news (ints_take HR6'.out j)) ints_one (by omega) hsz6' ?_
                     intro v7 w7 ho7 hg7 ht7; have HR7 := Lib.hid (HR6'.out.grown hg7 (fun b' off' h => by simp [Value.ownBlock] at h ⊢; omega)); have HO7 := Lib.hid ho7; have hsz7 : w4.heap.size ≤ w7.heap.size := Nat.le_trans hsz6' hg7.size; have HB7 := Lib.hid (below_app HB6.out.drew hsz6' HO6'.out (Nat.le_refl _) hg7); clear ho7 hg7 ht7)
                  | (refine step_appX slInt (by rfl) _ _ (by rfl) w4.heap.size v7 (k + 1 + j) ((p.take k).map (Value.int .i64) ++ [.int .i64 Z] ++ (rs.take j).map (Value.int .i64)) _ (R - (j + 1)) _ ((rs.drop (j + 1)).map (Value.int .i64)) (by rfl) HO7.out (by rfl) HL2.out (ints_news (ints_drop0 HR7.out (j + 1))) ints_one (by omega) hsz7 ?_
                     intro v8 w8 ho8 hg8 ht8; have HB8 := Lib.hid (below_app HB7.out hsz7 HO7.out (Nat.le_refl _) hg8); have HO8 := Lib.hid ho8; clear ho8 hg8 ht8))
              obtain ⟨a8, c8, rfl⟩ := own_slice HO8.out
              have HF := Lib.hid (own_mono HO8.out HB4.out.size)
              have HBF := Lib.hid (bco HB4.out HB8.out)
              go_wp2
              go_ret
              refine ⟨a8, _, c8, rfl, ?_, HBF.out⟩
              rw [HN.out]
              simpa [List.map_append] using HF.out
            · obtain rfl : R = j + 1 := by omega
              subst hce
              have hdr : rs.drop (j + 1) = [] := List.drop_eq_nil_of_le (by have := HRL.out; omega)
              rw [hdr] at HN
              clear hdr HL2
              have f1 : (j : Int) ≤ (j : Int) + 1 := by omega
              have f2 : (j : Int) ≤ ((j + 1 : Nat) : Int) := by omega
              have f3 : (j : Int) + 1 ≤ ((j + 1 : Nat) : Int) := by omega
              have f4 : ¬ j + 1 = 0 := by omega
              go_wp2_with fail
              go_region_held3 (fun w' => True) (trivial)
                (first
                  | (refine step_appX slInt (by rfl) _ _ (by rfl) w4.heap.size (.slice (some ⟨g6, 0, none⟩) (k + 1) c6) (k + 1) ((p.take k).map (Value.int .i64) ++ [.int .i64 Z]) _ j _ ((rs.take j).map (Value.int .i64)) (by rfl) HO6'.out (by rfl) HL1.out (ints_news (ints_take HR6'.out j)) ints_one (by omega) hsz6' ?_
                     intro v7 w7 ho7 hg7 ht7; have HR7 := Lib.hid (HR6'.out.grown hg7 (fun b' off' h => by simp [Value.ownBlock] at h ⊢; omega)); have HO7 := Lib.hid ho7; have hsz7 : w4.heap.size ≤ w7.heap.size := Nat.le_trans hsz6' hg7.size; have HB7 := Lib.hid (below_app HB6.out.drew hsz6' HO6'.out (Nat.le_refl _) hg7); clear ho7 hg7 ht7)
                  | (refine step_appX slInt (by rfl) _ _ (by rfl) w4.heap.size v7 (k + 1 + j) ((p.take k).map (Value.int .i64) ++ [.int .i64 Z] ++ (rs.take j).map (Value.int .i64)) _ 0 _ [] (by rfl) HO7.out (by rfl) rfl (by intro q u hu; cases hu) (by intro u hu; cases hu) (by omega) hsz7 ?_
                     intro v8 w8 ho8 hg8 ht8; have HB8 := Lib.hid (below_app HB7.out hsz7 HO7.out (Nat.le_refl _) hg8); have HO8 := Lib.hid ho8; clear ho8 hg8 ht8))
              obtain ⟨a8, c8, rfl⟩ := own_slice HO8.out
              have HF := Lib.hid (own_mono HO8.out HB4.out.size)
              have HBF := Lib.hid (bco HB4.out HB8.out)
              go_wp2
              go_ret
              refine ⟨a8, _, c8, rfl, ?_, HBF.out⟩
              rw [HN.out]
              simpa [List.map_append] using HF.out

end Go.Proofs.Ytmolneojjcjooaa

/- Walks: what a decision tree costs: the reference's way. -/
namespace Go.Proofs.Ytmolneojjcjooaa
open Go.RowKit Go.Sort
set_option linter.unusedVariables false

theorem l1MostD_any (x y : Int) (w : World) :
    Calls Try.prog 92 #[.int .i64 x, .int .i64 y] w fun e w' => e = .returned (.int .i64 (max x y)) ∧ w = w' := by
  obtain ⟨M, hM⟩ : ∃ M, max x y = M := ⟨_, rfl⟩
  rw [hM]
  by_cases h : y < x
  · have hz : decide (y < x) = true := by simpa using h
    have hz2 : decide (x < y) = false := by simp; omega
    obtain rfl : x = M := by omega
    go_enter Try.func92, Try.ntmps92
    go_wp2
    go_ret
    exact ⟨rfl, rfl⟩
  · obtain rfl : y = M := by omega
    by_cases h2 : x < y
    · have hz : decide (y < x) = false := by simp; omega
      have hz2 : decide (x < y) = true := by simpa using h2
      go_enter Try.func92, Try.ntmps92
      go_wp2
      go_ret
      exact ⟨rfl, rfl⟩
    · obtain rfl : x = y := by omega
      have hz : decide (x < x) = false := by simp
      go_enter Try.func92, Try.ntmps92
      go_wp2
      go_ret
      exact ⟨rfl, rfl⟩

set_option maxRecDepth 100000 in
set_option maxHeartbeats 4000000 in
theorem specDecisionCost_any (a : Option Addr) (c : Nat) (ns : List Dt.Nd) (n : Int) (w : World) (hbig : ns.length ≤ 9223372036854775807) (h : NodesAt w a ns) :
    Calls Try.prog 40 #[.slice a ns.length c, .int .i64 n] w fun e w' => e = .returned (if Dt.okTree n ns then .tuple #[.int .i64 (Dt.mostTo ns (Pm.allP n.toNat) : Nat), .int .i64 (Dt.totTo ns (Pm.allP n.toNat) : Nat), .bool true] else .tuple #[.int .i64 0, .int .i64 0, .bool false]) ∧ Below w.heap.size w w' := by
  have HV := Lib.hid (l23Good_any a c ns n w hbig h)
  have H := Lib.hid h; clear h
  cases hok : Dt.okTree n ns
  · rw [hok] at HV
    clear hok
    rw [if_neg (by simp)]
    go_enter Try.func40, Try.ntmps40
    go_wp2_with fail
    refine HV.out.mono ?_
    rintro e w1 ⟨rfl, hb1⟩
    have HB1 := Lib.hid hb1; clear hb1
    go_wp2
    go_ret3
    exact ⟨rfl, HB1.out⟩
  · rw [hok] at HV
    obtain ⟨o1, o2, o3, o4, o5, _⟩ := Dt.okTree_iff hok
    obtain ⟨m, rfl⟩ : ∃ m : Nat, n = ((m + 1 : Nat) : Int) := ⟨(n - 1).toNat, by omega⟩
    rw [Int.toNat_natCast] at o5
    have HK := Lib.hid hok; clear hok
    have HN := Lib.hid o5; clear o5
    have hm : m + 1 ≤ 5 := by omega
    have h1 : 1 ≤ m + 1 := by omega
    rw [if_pos rfl, Int.toNat_natCast]
    have HFI : Hid (∀ W, Calls Try.prog 90 #[.int .i64 ((m : Int) + 1)] W fun e w' => ∃ a c, e = .returned (.slice a (m + 1) c) ∧ w'.ownsRow W.heap.size 3 1 (.slice a (m + 1) c) (m + 1) ((Pm.first (m + 1)).map (Value.int .i64)) ∧ Below W.heap.size W w') := fun W => by
      have := l23First_any (m + 1) (by omega) W
      rw [Int.natCast_add, Int.natCast_one] at this
      exact this
    have HA := Lib.hid (Pm.allP_first h1 hm)
    have HOK := Lib.hid (fun p => Pm.allP_ok h1 hm (p := p))
    have HNX := Lib.hid (fun k p => Pm.allP_nextS h1 hm (k := k) (p := p))
    have HAL := Lib.hid (Pm.allP_len h1 hm)
    go_enter Try.func40, Try.ntmps40
    go_wp2_with fail
    refine HV.out.mono ?_
    rintro e w0 ⟨rfl, hb0⟩
    have HB0 := Lib.hid hb0; clear hb0 HV
    go_wp2_with fail
    refine (HFI.out _).mono ?_
    rintro e w1 ⟨a1, c1, rfl, ho1, hb1⟩
    have HO1 := Lib.hid (own_mono ho1 HB0.out.size); have HB1 := Lib.hid (HB0.out.trans (hb1.mono HB0.out.size))
    clear ho1 hb1 HFI
    go_wp2
    go_loopg [7, 8, 9, 10, 11] ((Pm.allP (m + 1)).length + 1) (fun mm x y v _ _ wr => ∃ (k n : Nat) (a2 : Option Addr) (c2 : Nat) (q : List Int), x = .int .i64 (Dt.mostTo ns ((Pm.allP (m + 1)).take k) : Nat) ∧ y = .int .i64 (Dt.totTo ns ((Pm.allP (m + 1)).take k) : Nat) ∧ v = .slice a2 n c2 ∧ q = ((Pm.allP (m + 1))[k]?).getD [] ∧ k ≤ (Pm.allP (m + 1)).length ∧ mm + k = (Pm.allP (m + 1)).length + 1 ∧
      wr.ownsRow w.heap.size 3 1 (.slice a2 n c2) n (q.map (Value.int .i64)) ∧ Below w.heap.size w wr)
    case atStart => exact ⟨0, m + 1, a1, c1, Pm.first (m + 1), rfl, rfl, rfl, by rw [HA.out]; rfl, by omega, by omega, HO1.out, HB1.out⟩
    case round =>
      obtain ⟨k, n, a2, c2, q, rfl, rfl, rfl, rfl, hk, hmm, ho, hb⟩ := hrel
      have HO := Lib.hid ho; have HB := Lib.hid hb; have HMM := Lib.hid hmm
      have hal := HAL.out
      have htk : ((Pm.allP (m + 1)).take k).length ≤ 120 := by rw [List.length_take]; omega
      have hM := Dt.mostTo_le HN.out o3 ((Pm.allP (m + 1)).take k)
      have hT := Dt.totTo_le HN.out o3 ((Pm.allP (m + 1)).take k)
      have hT2 : ((Pm.allP (m + 1)).take k).length * ns.length ≤ 120 * 255 := Nat.mul_le_mul htk o4
      clear ho hb hmm HO1 HB1 htk
      cases hkp : (Pm.allP (m + 1))[k]? with
      | none =>
        rw [hkp] at HO
        have hn : n = 0 := by have := HO.out.1; simpa using this.symm
        subst hn
        have hke : (Pm.allP (m + 1)).take k = Pm.allP (m + 1) := List.take_of_length_le (List.getElem?_eq_none_iff.1 hkp)
        rw [hke]
        have HKE := Lib.hid hke
        clear hkp hM hT hT2 hke
        go_wp2
        go_ret3
        exact ⟨rfl, HB.out⟩
      | some p =>
        rw [hkp] at HO
        obtain ⟨hpl, hpr, hpn⟩ := HOK.out p (List.mem_of_getElem? hkp)
        have hn : n = m + 1 := by have := HO.out.1; simp at this; omega
        subst hn
        obtain ⟨g, rfl, hg1, hg2, _⟩ := own_cell HO.out (by omega)
        have hcap := (own_cap' HO.out).1
        have HKP := Lib.hid hkp
        have HPL := Lib.hid hpl; have HPN := Lib.hid hpn
        have hklt : k < (Pm.allP (m + 1)).length := (List.getElem?_eq_some_iff.1 hkp).1
        have HKL := Lib.hid hklt
        have HI2 : Hid (IntsAt wr (some ⟨g, 0, none⟩) p) := ints_of_own HO.out
        have he : (Pm.allP (m + 1)).take (k + 1) = (Pm.allP (m + 1)).take k ++ [p] := by rw [List.take_add_one, hkp]; rfl
        have HS1 : Hid (Dt.mostTo ns ((Pm.allP (m + 1)).take (k + 1)) = max (Dt.mostTo ns ((Pm.allP (m + 1)).take k)) (Dt.runT ns p).2) := by show _ = _; rw [he, Dt.mostTo_snoc]
        have HS2 : Hid (Dt.totTo ns ((Pm.allP (m + 1)).take (k + 1)) = Dt.totTo ns ((Pm.allP (m + 1)).take k) + (Dt.runT ns p).2) := by show _ = _; rw [he, Dt.totTo_snoc]
        have hrl := (Dt.runT_ok (zs := p) HN.out o3).2.2
        have HRN : Hid (Calls Try.prog 67 #[.slice a ns.length c, .slice (some ⟨g, 0, none⟩) (m + 1) c2] wr (RunEnd wr (Dt.runT ns p))) := by
          have := l23Run_any a c ns (some ⟨g, 0, none⟩) c2 p wr (by omega) (by rw [hpl]; exact HK.out) (H.out.same HB.out) HI2.out
          rw [hpl] at this
          exact this
        have HNT : Hid (∀ W, Below wr.heap.size wr W → Calls Try.prog 91 #[.slice (some ⟨g, 0, none⟩) (m + 1) c2] W fun e w' => ∃ a n c, e = .returned (.slice a n c) ∧ w'.ownsRow w.heap.size 3 1 (.slice a n c) n ((((Pm.allP (m + 1))[k + 1]?).getD []).map (Value.int .i64)) ∧ Below W.heap.size W w') := fun W hb => by
          have := l23Next_any g 0 c2 m p W HPL.out (by omega) hcap HPN.out (HI2.out.below (Nat.le_refl _) hb)
          rw [HNX.out k p HKP.out] at this
          refine this.mono ?_
          rintro e w' ⟨a, n, c, rfl, ho, hb2⟩
          exact ⟨a, n, c, rfl, own_mono ho (Nat.le_trans HB.out.size hb.size), hb2⟩
        generalize Dt.mostTo ns ((Pm.allP (m + 1)).take k) = M at hM HS1 ⊢
        generalize Dt.totTo ns ((Pm.allP (m + 1)).take k) = T at hT HS2 ⊢
        have hTT : T ≤ 30600 := by omega
        clear hpl hpr hpn hkp hklt HO hT hT2 he
        go_wp2_with fail
        refine HRN.out.mono ?_
        rintro e w2 ⟨g2, cg, rfl, _, hb2⟩
        have HB2 := Lib.hid hb2; clear hb2
        generalize (Dt.runT ns p).2 = R at hrl HS1 HS2 ⊢
        go_wp2_with fail
        refine (l1MostD_any _ _ _).mono ?_
        rintro e w' ⟨rfl, rfl⟩
        have hmx : max (M : Int) (R : Int) = ((max M R : Nat) : Int) := by omega
        rw [hmx]
        generalize max M R = M2 at HS1 ⊢
        clear hmx
        go_wp2_with fail
        refine (HNT.out _ HB2.out).mono ?_
        rintro e w4 ⟨a4, n4, c4, rfl, ho4, hb4⟩
        have HO4 := Lib.hid ho4; have HB4 := Lib.hid (bco (HB.out.trans (HB2.out.mono HB.out.size)) hb4)
        clear ho4 hb4
        go_wp2
        go_roundg (gk - 1)
        case measure => have := HMM.out; have := HKL.out; omega
        case rel => exact ⟨k + 1, n4, a4, c4, _, by rw [HS1.out], by rw [HS2.out]; go_num, rfl, rfl, by have := HKL.out; omega, by have := HMM.out; have := HKL.out; omega, HO4.out, HB4.out⟩

end Go.Proofs.Ytmolneojjcjooaa

/- Walks: the law of DecisionCost. -/
namespace Go.Proofs.Ytmolneojjcjooaa
open Go.RowKit
set_option linter.unusedVariables false

/-- What DecisionCost answers. -/
def dcQ (n : Int) (ns : List Dt.Nd) : Nat × Nat × Bool := if Dt.okTree n ns then (Dt.mostTo ns (Pm.allP n.toNat), Dt.totTo ns (Pm.allP n.toNat), true) else (0, 0, false)
theorem dcQ_eq (n : Int) (ns : List Dt.Nd) : (if Dt.okTree n ns then Value.tuple #[.int .i64 (Dt.mostTo ns (Pm.allP n.toNat) : Nat), .int .i64 (Dt.totTo ns (Pm.allP n.toNat) : Nat), .bool true] else .tuple #[.int .i64 0, .int .i64 0, .bool false]) = .tuple #[.int .i64 ((dcQ n ns).1 : Nat), .int .i64 ((dcQ n ns).2.1 : Nat), .bool (dcQ n ns).2.2] := by
  unfold dcQ
  split <;> rfl

set_option maxHeartbeats 1000000 in
theorem lawDecisionCost_any (a : Option Addr) (c : Nat) (ns : List Dt.Nd) (n : Int) (w : World) (hbig : ns.length ≤ 9223372036854775807) (h : NodesAt w a ns) :
    Calls Try.prog 6 #[.slice a ns.length c, .int .i64 n] w fun e w' => e = .returned (.bool true) ∧ Below w.heap.size w w' := by
  have HZ := Lib.hid (szDecisionNodeS_any a c ns 1048576 w hbig (by omega) (by omega) h)
  have H := Lib.hid h; clear h
  have HSP := Lib.hid (fun (x : Option Addr) (cx : Nat) (W : World) h1 => specDecisionCost_any x cx ns n W hbig h1)
  have HIM := Lib.hid (fun (x : Option Addr) (cx : Nat) (W : World) h1 => decisionCost_any x cx ns n W hbig h1)
  rw [dcQ_eq] at HSP HIM
  generalize dcQ n ns = q at HSP HIM
  obtain ⟨M, T, b⟩ := q
  have n1 : ((M : Int) != (M : Int)) = false := by simp
  have n2 : ((T : Int) != (T : Int)) = false := by simp
  have n3 : (b != b) = false := by simp
  go_enter Try.func6, Try.ntmps6
  go_wp2_with fail
  refine HZ.out.mono ?_
  rintro e w0 ⟨r, rfl, r0, r1, hr, hb0⟩
  have HB0 := Lib.hid hb0; clear hb0 HZ
  have HR := Lib.hid hr; clear hr
  by_cases hr0 : r < 0
  · go_wp2_with fail
    go_ret
    exact ⟨rfl, HB0.out⟩
  · obtain ⟨hl, ho⟩ := HR.out (by omega)
    have HO := Lib.hid ho; clear ho HR
    go_wp2_with fail
    refine (toDecisionNodeS_any a c ns _ hl HO.out (H.out.same HB0.out)).mono ?_
    rintro e w1 ⟨gs1, rfl, _, hn1, hb1⟩
    have HB1 := Lib.hid (HB0.out.trans (hb1.mono HB0.out.size)); clear hb1
    go_wp2_with fail
    refine (HSP.out _ _ _ hn1).mono ?_
    rintro e w2 ⟨rfl, hb2⟩
    have HB2 := Lib.hid (HB1.out.trans (hb2.mono HB1.out.size)); clear hb2 hn1
    go_wp2_with fail
    refine (toDecisionNodeS_any a c ns _ hl HO.out (H.out.same HB2.out)).mono ?_
    rintro e w3 ⟨gs3, rfl, _, hn3, hb3⟩
    have HN3 := Lib.hid hn3; clear hn3
    have HB3 := Lib.hid (HB2.out.trans (hb3.mono HB2.out.size)); clear hb3
    go_wp2_with fail
    refine (HIM.out _ _ _ HN3.out).mono ?_
    rintro e w4 ⟨rfl, hb4⟩
    have HB4 := Lib.hid (HB3.out.trans (hb4.mono HB3.out.size))
    have HN4 := Lib.hid (HN3.out.same hb4); clear hb4
    go_wp2_with fail
    refine (toDecisionNodeS_any a c ns _ hl HO.out (H.out.same HB4.out)).mono ?_
    rintro e w5 ⟨gs5, rfl, _, hn5, hb5⟩
    have HN5 := Lib.hid hn5; clear hn5
    have HN45 := Lib.hid (HN4.out.same hb5)
    have HB5 := Lib.hid (HB4.out.trans (hb5.mono HB4.out.size)); clear hb5
    go_wp2_with fail
    refine (eqDecisionNodeS_any _ _ _ _ ns ns _ hbig hbig HN45.out HN5.out).mono ?_
    rintro e w6 ⟨rfl, hb6⟩
    have HB6 := Lib.hid (HB5.out.trans (hb6.mono HB5.out.size)); clear hb6
    rw [decide_eq_true rfl]
    go_wp2
    go_ret
    exact ⟨rfl, HB6.out⟩

end Go.Proofs.Ytmolneojjcjooaa
