/- Several texts in one: lemmas and walks of the functions that the law reaches. -/
import Derived.Test.YtaaogoajhdaekaaY12
import Derived.Test.YtaaogoajhdaekaaY19

namespace Go.Proofs.Ytaaogoajhdaekaa
open Go.RowKit Go.Sort
set_option linter.unusedVariables false

theorem own_atI {w : World} {B g n c : Nat} {L : List Int} (h : w.ownsRow B 3 1 (.slice (some ⟨g, 0, none⟩) n c) n (L.map (Value.int .i64))) {i : Nat} (hi : i < L.length) : w.cell? ⟨g, i, none⟩ = some (.int .i64 (L.getD i 0)) := by
  have := (PR.whole h).at (off := 0) rfl hi
  rwa [Nat.zero_add] at this
theorem own_setI {w : World} {B g n c : Nat} {L : List Int} (h : w.ownsRow B 3 1 (.slice (some ⟨g, 0, none⟩) n c) n (L.map (Value.int .i64))) (i : Nat) (x : Int) :
    (w.setCell ⟨g, i, none⟩ (.int .i64 x)).ownsRow B 3 1 (.slice (some ⟨g, 0, none⟩) n c) n ((L.set i x).map (Value.int .i64)) ∧ w.grownBy (w.setCell ⟨g, i, none⟩ (.int .i64 x)) (some g) := by
  have := h.stored i (.int .i64 x)
  rw [List.map_set]
  exact this
theorem own_len {w : World} {B g n c : Nat} {L : List Int} (h : w.ownsRow B 3 1 (.slice (some ⟨g, 0, none⟩) n c) n (L.map (Value.int .i64))) : L.length = n := by have := h.1; simpa using this
theorem own_swpI {w : World} {B g n c : Nat} {L : List Int} (h : w.ownsRow B 3 1 (.slice (some ⟨g, 0, none⟩) n c) n (L.map (Value.int .i64))) {i k : Nat} {X Z : Int} (hX : L.getD i 0 = X) (hZ : L.getD k 0 = Z) :
    ((w.setCell ⟨g, i, none⟩ (.int .i64 Z)).setCell ⟨g, k, none⟩ (.int .i64 X)).ownsRow B 3 1 (.slice (some ⟨g, 0, none⟩) n c) n ((Es.swp L i k).map (Value.int .i64)) ∧ w.grownBy ((w.setCell ⟨g, i, none⟩ (.int .i64 Z)).setCell ⟨g, k, none⟩ (.int .i64 X)) (some g) := by
  have h1 := own_setI h i Z
  have h2 := own_setI h1.1 k X
  refine ⟨?_, grown_trans h1.2 h2.2⟩
  have e : Es.swp L i k = (L.set i Z).set k X := by unfold Es.swp; rw [hX, hZ]
  rw [e]; exact h2.1
/-- A sorted list in new memory, some numbers behind it. -/
def SortEnd1 (w : World) (n : Nat) (R : List Int) (e : Ending) (w' : World) : Prop := ∃ s : Int, SortEnd w n R [.int .i64 s, .bool true] e w'
def SortEnd2 (w : World) (n : Nat) (R : List Int) (e : Ending) (w' : World) : Prop := ∃ s t : Int, SortEnd w n R [.int .i64 s, .int .i64 t, .bool true] e w'

set_option maxRecDepth 100000 in
set_option maxHeartbeats 8000000 in
theorem binaryInsertion_any (x : Addr) (cap n : Nat) (zs : List Int) (w : World) (hn : zs.length = n) (hok : okList zs = true) (h : IntsAt w (some x) zs) :
    Calls Try.prog 13 #[.slice (some x) n cap] w (SortEnd1 w n (Mg.srtI zs)) := by
  have h64 := okList_len hok
  have HV := Lib.hid (isValidList_any (some x) cap zs w (by omega) h)
  rw [hok, hn] at HV
  have HI := Lib.hid h; have HN := Lib.hid hn
  have HC := Lib.hid (fun (W : World) (hW : IntsAt W (some x) zs) => copyOf_any x cap zs W (by omega) hW)
  rw [hn] at HC
  have hn64 : n ≤ 64 := by omega
  clear h hok hn h64
  unfold SortEnd1 SortEnd
  go_enter Try.func13, Try.ntmps13
  go_wp2_with fail
  refine HV.out.mono ?_
  rintro e w1 ⟨rfl, hb1⟩
  have HB1 := Lib.hid hb1
  have HC1 := Lib.hid (HC.out w1 (HI.out.below (Nat.le_refl _) hb1))
  clear hb1 HV HC
  go_wp2_with fail
  refine HC1.out.mono ?_
  rintro e w2 ⟨g, c, rfl, ho, hb⟩
  obtain ⟨k1, k2, k3⟩ := own_cap3 ho
  have HB2 := Lib.hid (HB1.out.trans (hb.mono HB1.out.size))
  have hsz := HB1.out.size
  have HO := Lib.hid ho
  clear ho hb HC1 HB1
  have HIN := Lib.hid HI.out
  go_wp2
  go_loopw [6, 7] (fun cv iv wr => ∃ (q i : Nat), cv = .int .i64 q ∧ iv = .int .i64 i ∧ 1 ≤ i ∧ (i ≤ n ∨ i = 1) ∧ q ≤ 100 * i ∧ wr.ownsRow w1.heap.size 3 1 (.slice (some ⟨g, 0, none⟩) n c) n ((Mg.srtI (zs.take i) ++ zs.drop i).map (Value.int .i64)) ∧ w2.grownBy wr (some g)) (fun _ iv _ => (200 - intOf iv).toNat)
  case atStart =>
    refine ⟨0, 1, rfl, rfl, by omega, .inr rfl, by omega, ?_, grown_of_below (Below.refl _ _)⟩
    rw [← srtI_start]; exact HO.out
  case round =>
    obtain ⟨q, i, rfl, rfl, h1, h2, hq, ho, hg⟩ := hrel
    have HO2 := Lib.hid ho; have HG2 := Lib.hid hg
    clear ho hg
    by_cases hlt : i < n
    case neg =>
      have HE : Hid (Mg.srtI (zs.take i) ++ zs.drop i = Mg.srtI zs) := by
        show _ = _
        have hl := HN.out
        rw [List.take_of_length_le (by omega), List.drop_eq_nil_of_le (by omega), List.append_nil]
      have hlt' : ¬ (i : Int) < (n : Int) := by omega
      go_wp2
      go_ret3
      rw [HE.out] at HO2
      exact ⟨_, g, c, rfl, own_baseI HO2.out hsz, below_in HB2.out hsz HG2.out k2⟩
    have hlt' : (i : Int) < (n : Int) := by omega
    have hi64 : i ≤ 64 := by omega
    have hl := HN.out
    obtain ⟨A, hA⟩ : ∃ A, Mg.srtI (zs.take i) = A := ⟨_, rfl⟩
    obtain ⟨X, hX⟩ : ∃ X, zs.getD i 0 = X := ⟨_, rfl⟩
    obtain ⟨R, hR⟩ : ∃ R, zs.drop (i + 1) = R := ⟨_, rfl⟩
    have hAl : A.length = i := by rw [← hA, srtI_len, List.length_take]; omega
    have hAa : Es.AscTo A A.length := by rw [← hA]; exact Es.asc_ascTo (Mg.srt_asc Mg.swI _)
    have hst : Mg.srtI (zs.take i) ++ zs.drop i = A ++ X :: R := by
      have hd : zs.drop i = zs.getD i 0 :: zs.drop (i + 1) := by rw [List.drop_eq_getElem_cons (show i < zs.length by omega), Es.getE]
      rw [hA, hd, hX, hR]
    have hend : ∀ k, Es.Bs A X k k → Mg.insSt A X k R = Mg.srtI (zs.take (i + 1)) ++ zs.drop (i + 1) := fun k hk => by
      have := Es.Bs.done (l := zs.take i) (R := R) (x := X) (k := k) (by rw [hA]; exact hk)
      rw [hA] at this
      rw [this, ← hX, take_snoc (by omega), hR]
    rw [hst] at HO2
    have hRl : R.length = n - (i + 1) := by rw [← hR, List.length_drop]; omega
    have HAL := Lib.hid hAl; have HAA := Lib.hid hAa; have HEND := Lib.hid hend; have HRL := Lib.hid hRl
    clear hst hend hA hR hX hAa hAl hl hRl
    have HCA : Hid (∀ j, j < i → wr.cell? ⟨g, j, none⟩ = some (.int .i64 (A.getD j 0))) := fun j hj => by
      have := own_atI HO2.out (i := j) (by rw [List.length_append, HAL.out]; omega)
      rwa [List.getD_eq_getElem?_getD, List.getElem?_append_left (by rw [HAL.out]; exact hj), ← List.getD_eq_getElem?_getD] at this
    have cx : wr.cell? ⟨g, i, none⟩ = some (.int .i64 X) := by
      have := own_atI HO2.out (i := i) (by rw [List.length_append, HAL.out, List.length_cons]; omega)
      rwa [List.getD_eq_getElem?_getD, List.getElem?_append_right (by rw [HAL.out]; exact Nat.le_refl _), HAL.out, Nat.sub_self] at this
    go_wp2
    go_loopw [6, 9, 10] (fun cv lv hv wx => ∃ (q2 lo hi : Nat), cv = .int .i64 q2 ∧ lv = .int .i64 lo ∧ hv = .int .i64 hi ∧ q2 + (hi - lo) ≤ q + i ∧ Es.Bs A X lo hi ∧ wx = wr) (fun _ lv hv _ => (intOf hv - intOf lv).toNat)
    case atStart => exact ⟨q, 0, i, rfl, rfl, rfl, by omega, by have := Es.Bs.start A X; rwa [HAL.out] at this, rfl⟩
    case round =>
      rename World => wx
      obtain ⟨q2, lo, hi, rfl, rfl, rfl, hq2, hbs, rfl⟩ := hrel
      have HBS := Lib.hid hbs
      have b1 := hbs.b1
      have b2 := hbs.b2
      rw [HAL.out] at b2
      clear hbs
      by_cases hlh : lo < hi
      case pos =>
        obtain ⟨m, hm⟩ : ∃ m, (lo + hi) / 2 = m := ⟨_, rfl⟩
        have hm1 : lo ≤ m := by omega
        have hm2 : m < hi := by omega
        have hmz : ((lo : Int) + (hi : Int)) / 2 = (m : Int) := by omega
        have cm := HCA.out m (by omega)
        obtain ⟨Y, hY⟩ : ∃ Y, A.getD m 0 = Y := ⟨_, rfl⟩
        rw [hY] at cm
        have HY := Lib.hid hY
        have hlh' : (lo : Int) < (hi : Int) := by omega
        have hmn : (m : Int) < (n : Int) := by omega
        have hm0 : (0 : Int) ≤ (m : Int) := by omega
        clear hY hm
        by_cases hXY : X < Y
        · have HB := Lib.hid (HBS.out.left HAA.out hm1 hm2 (by rw [HY.out]; exact hXY))
          go_wp2
          go_roundw
          case rel => exact ⟨q2 + 1, lo, m, by go_num, rfl, by rw [hmz], by omega, HB.out, trivial⟩
          case measure => simp [intOf] <;> omega
        · have HB := Lib.hid (HBS.out.right HAA.out hm1 hm2 (by rw [HY.out]; exact hXY))
          go_wp2
          go_roundw
          case rel => exact ⟨q2 + 1, m + 1, hi, by go_num, by go_num, rfl, by omega, HB.out, trivial⟩
          case measure => simp [intOf] <;> omega
      obtain rfl : lo = hi := by omega
      have HIS := Lib.hid (HEND.out lo HBS.out)
      have hlh' : ¬ (lo : Int) < (lo : Int) := by omega
      have l1 : (lo : Int) < (n : Int) := by omega
      have l2 : (lo : Int) ≤ (i : Int) := by omega
      have l3 : (i : Int) ≤ (c : Int) := by omega
      have l4 : (i : Int) + 1 ≤ (c : Int) := by omega
      have w1i : IntKind.i64.wrap ((lo : Int) + 1) = (lo : Int) + 1 := IntWalk.i64_in _ (by omega)
      have w2i : IntKind.i64.wrap ((i : Int) + 1) = (i : Int) + 1 := IntWalk.i64_in _ (by omega)
      have t1 : ((lo : Int) + 1).toNat = lo + 1 := by omega
      have t2 : ((i : Int) + 1).toNat = i + 1 := by omega
      have l5 : (lo : Int) + 1 ≤ (i : Int) + 1 := by omega
      have l6 : (0 : Int) ≤ (lo : Int) + 1 := by omega
      have l7 : lo + 1 ≤ i + 1 := by omega
      have l8 : i + 1 ≤ c := by omega
      have l9 : (0 : Int) ≤ (lo : Int) := by omega
      have l10 : ¬ c = lo := by omega
      have hlo := HBS.out.b2
      rw [HAL.out] at hlo
      clear HBS HEND HCA
      by_cases hli : lo = i
      · subst hli
        have HE0 : Hid (Mg.insSt A X lo R = A ++ X :: R) := by show _ = _; have := Mg.insSt_top A X R; rwa [HAL.out] at this
        have HQ := Lib.hid hq; have HQ2 := Lib.hid hq2
        clear b1 hlh l2 hlo b2 h2 hq hq2 hlh' HAA w2i t2 l4 l5 l7
        have hso : (A ++ X :: R).set lo X = A ++ X :: R := by
          rw [List.set_append, if_neg (by rw [HAL.out]; omega), HAL.out, Nat.sub_self, List.set_cons_zero]
        have HSO := Lib.hid hso; clear hso
        by_cases hcl : c = lo + 1
        · subst hcl
          have l11 : (lo : Int) ≤ (lo : Int) + 1 := by omega
          go_wp2_with fail
          go_region_law (refine step_copyOwn slInt rfl _ _ rfl HO2.out 0 0 0 (by simp [Act.eval, Act.put]) ⟨g, lo, none⟩ 0 1 (by simp [Act.eval, Act.put]) [] rfl (fun j v h => by simp at h) (fun v h => by simp at h) (by simp) ?_; intro w3 ho3 hg3)
          all_goals
            have HO3 := Lib.hid (show World.ownsRow _ _ _ _ _ _ ((A ++ X :: R).map (Value.int .i64)) from by simpa [List.map_take, List.map_drop] using ho3)
            have HG3 := Lib.hid (grown_trans HG2.out (grown_trans (grown_of_below (row := some g) (Below.refl _ _).drew) hg3))
            clear ho3 hg3
            have fz : ∀ o, w3.frozen? ⟨g, o, none⟩ = false := fun o => HO3.out.frozenAt o
            have c3 := own_atI HO3.out (i := lo) (by rw [own_len HO3.out]; omega)
            obtain ⟨Z, hZ⟩ : ∃ Z, (A ++ X :: R).getD lo 0 = Z := ⟨_, rfl⟩
            rw [hZ] at c3
            have HS3 := Lib.hid (own_setI HO3.out lo X)
            clear hZ HO3
            go_wp2
            go_roundw
            case rel =>
              have hqa := HQ.out
              have hqb := HQ2.out
              refine ⟨q2, lo + 1, rfl, by go_num, by omega, .inl (by omega), by omega, ?_, grown_trans HG3.out HS3.out.2⟩
              rw [← HIS.out]
              have e := HS3.out.1
              rwa [HSO.out, ← HE0.out] at e
            case measure => simp [intOf] <;> omega
          
        · have hcl2 : ¬ lo + 1 = c := fun e => hcl e.symm
          have l4 : (lo : Int) + 1 ≤ (c : Int) := by omega
          go_wp2_with fail
          go_region_law (refine step_copyOwn slInt rfl _ _ rfl HO2.out (lo + 1) 0 (c - (lo + 1)) (by simp [Act.eval, Act.put]) ⟨g, lo, none⟩ 0 (c - lo) (by simp [Act.eval, Act.put]) [] rfl (fun j v h => by simp at h) (fun v h => by simp at h) (by simp; omega) ?_; intro w3 ho3 hg3)
          all_goals
            have HO3 := Lib.hid (show World.ownsRow _ _ _ _ _ _ ((A ++ X :: R).map (Value.int .i64)) from by simpa [List.map_take, List.map_drop] using ho3)
            have HG3 := Lib.hid (grown_trans HG2.out (grown_trans (grown_of_below (row := some g) (Below.refl _ _).drew) hg3))
            clear ho3 hg3
            have fz : ∀ o, w3.frozen? ⟨g, o, none⟩ = false := fun o => HO3.out.frozenAt o
            have c3 := own_atI HO3.out (i := lo) (by rw [own_len HO3.out]; omega)
            obtain ⟨Z, hZ⟩ : ∃ Z, (A ++ X :: R).getD lo 0 = Z := ⟨_, rfl⟩
            rw [hZ] at c3
            have HS3 := Lib.hid (own_setI HO3.out lo X)
            clear hZ HO3
            go_wp2
            go_roundw
            case rel =>
              have hqa := HQ.out
              have hqb := HQ2.out
              refine ⟨q2, lo + 1, rfl, by go_num, by omega, .inl (by omega), by omega, ?_, grown_trans HG3.out HS3.out.2⟩
              rw [← HIS.out]
              have e := HS3.out.1
              rwa [HSO.out, ← HE0.out] at e
            case measure => simp [intOf] <;> omega
          

      · have hll : lo < i := by omega
        have HSH := Lib.hid (Es.ins_shift (A := A) (R := R) (x := X) (lo := lo) (by rw [HAL.out]; omega))
        have HDL : Hid ((A ++ X :: R).drop (lo + 1 + (A.drop lo).length) = R) := by
          show _ = _
          rw [List.length_drop, HAL.out, show lo + 1 + (i - lo) = i + 1 by omega, List.drop_append, List.drop_of_length_le (by rw [HAL.out]; omega), HAL.out, show i + 1 - i = 1 by omega]
          rfl
        have HNL : Hid (((A.drop lo).map (Value.int .i64)).length = i - lo) := by show _ = _; rw [List.length_map, List.length_drop, HAL.out]
        have HNW : Hid (∀ j v, ((A.drop lo).map (Value.int .i64))[j]? = some v → wx.cell? ((⟨g, lo, none⟩ : Addr).add j) = some v) := fun j v hv => by
          obtain ⟨hj, hv2⟩ := List.getElem?_eq_some_iff.1 hv
          rw [HNL.out] at hj
          have hc := own_atI HO2.out (i := lo + j) (by rw [List.length_append, HAL.out]; omega)
          rw [List.getD_eq_getElem?_getD, List.getElem?_append_left (by rw [HAL.out]; omega), List.getElem?_eq_getElem (by rw [HAL.out]; omega)] at hc
          rw [← hv2, List.getElem_map, List.getElem_drop, show (⟨g, lo, none⟩ : Addr).add j = ⟨g, lo + j, none⟩ from by unfold Addr.add; split <;> simp_all]
          exact hc
        have n1 : ¬ lo + 1 = c := by omega
        have n2 : ¬ c = lo + 1 := by omega
        have n3 : ¬ lo = c := by omega
        have l11 : (lo : Int) ≤ (i : Int) + 1 := by omega
        have HQ := Lib.hid hq; have HQ2 := Lib.hid hq2
        have hmin : Nat.min (i - lo) (i - lo) = i - lo := Nat.min_self _
        have hfit : (lo + 1) * 1 + ((A.drop lo).map (Value.int .i64)).length ≤ n * 1 := by rw [HNL.out]; omega
        have HFIT := Lib.hid hfit
        have HONE : Hid (∀ v ∈ (A.drop lo).map (Value.int .i64), v.oneCell' = true) := fun v hv => by
          obtain ⟨z, _, rfl⟩ := List.mem_map.1 hv; rfl
        clear b1 hlh hlo b2 h2 hq hq2 hlh' HAA hli hfit
        go_wp2_with fail
        go_region_law (refine step_copyOwn slInt rfl _ _ rfl HO2.out (lo + 1) (i - lo) (c - (lo + 1)) (by simp [Act.eval, Act.put]) ⟨g, lo, none⟩ (i - lo) (c - lo) (by simp [Act.eval, Act.put]) ((A.drop lo).map (Value.int .i64)) (by rw [HNL.out, hmin, Nat.mul_one]) HNW.out HONE.out HFIT.out ?_; intro w3 ho3 hg3)
        all_goals
          have HO3 := Lib.hid (show World.ownsRow _ _ _ _ _ _ (((A ++ X :: R).take (lo + 1) ++ A.drop lo ++ R).map (Value.int .i64)) from by have e := HDL.out; rw [Nat.mul_one, List.length_map, ← List.map_take, ← List.map_drop, e, ← List.map_append, ← List.map_append] at ho3; exact ho3)
          have HG3 := Lib.hid (grown_trans HG2.out (grown_trans (grown_of_below (row := some g) (Below.refl _ _).drew) hg3))
          clear ho3 hg3
          have fz : ∀ o, w3.frozen? ⟨g, o, none⟩ = false := fun o => HO3.out.frozenAt o
          have c3 := own_atI HO3.out (i := lo) (by rw [own_len HO3.out]; omega)
          obtain ⟨Z, hZ⟩ : ∃ Z, ((A ++ X :: R).take (lo + 1) ++ A.drop lo ++ R).getD lo 0 = Z := ⟨_, rfl⟩
          rw [hZ] at c3
          have HS3 := Lib.hid (own_setI HO3.out lo X)
          clear hZ HO3
          go_wp2
          go_roundw
          case rel =>
            have hqa := HQ.out
            have hqb := HQ2.out
            refine ⟨q2, i + 1, rfl, by go_num, by omega, .inl (by omega), by omega, ?_, grown_trans HG3.out HS3.out.2⟩
            rw [← HIS.out]
            have e := HS3.out.1
            rwa [HSH.out] at e
          case measure => simp [intOf] <;> omega
        

end Go.Proofs.Ytaaogoajhdaekaa

namespace Go.Proofs.Ytaaogoajhdaekaa
open Go.RowKit Go.Sort
set_option linter.unusedVariables false

set_option maxRecDepth 100000 in
set_option maxHeartbeats 2000000 in
theorem areGaps731_any (b c : Nat) (w : World) (h0 : w.cell? ⟨b, 0, none⟩ = some (.int .i64 7)) (h1 : w.cell? ⟨b, 1, none⟩ = some (.int .i64 3)) (h2 : w.cell? ⟨b, 2, none⟩ = some (.int .i64 1)) :
    Calls Try.prog 43 #[.slice (some ⟨b, 0, none⟩) 3 c] w fun e w' => e = .returned (.bool true) ∧ w = w' := by
  have HI := Lib.hid (fun (a : Int) W => in_any a 1 64 W)
  have HI2 : Hid (∀ W, Calls Try.prog 42 #[.int .i64 3, .int .i64 1, .int .i64 10] W fun e w' => e = .returned (.bool true) ∧ W = w') := fun W => in_any 3 1 10 W
  have G7 : Hid (∀ W, Calls Try.prog 42 #[.int .i64 7, .int .i64 1, .int .i64 64] W fun e w' => e = .returned (.bool true) ∧ W = w') := fun W => in_any 7 1 64 W
  have G3 : Hid (∀ W, Calls Try.prog 42 #[.int .i64 3, .int .i64 1, .int .i64 64] W fun e w' => e = .returned (.bool true) ∧ W = w') := fun W => in_any 3 1 64 W
  have G1 : Hid (∀ W, Calls Try.prog 42 #[.int .i64 1, .int .i64 1, .int .i64 64] W fun e w' => e = .returned (.bool true) ∧ W = w') := fun W => in_any 1 1 64 W
  go_enter Try.func43, Try.ntmps43
  go_wp2
  go_loopw [7] (fun iv wr => ∃ k : Nat, iv = .int .i64 k ∧ k ≤ 3 ∧ wr = w) (fun iv _ => (10 - intOf iv).toNat)
  case atStart => exact ⟨0, rfl, by omega, rfl⟩
  case round =>
    obtain ⟨k, rfl, hk, rfl⟩ := hrel
    match k, hk with
    | 0, _ =>
      go_wp2_with fail
      refine (G7.out _).mono ?_
      rintro e w' ⟨rfl, rfl⟩
      go_wp2
      go_roundw
      case rel => exact ⟨1, by go_num, by omega, trivial⟩
      case measure => simp [intOf] <;> omega
    | 1, _ =>
      go_wp2_with fail
      refine (G3.out _).mono ?_
      rintro e w' ⟨rfl, rfl⟩
      go_wp2
      go_roundw
      case rel => exact ⟨2, by go_num, by omega, trivial⟩
      case measure => simp [intOf] <;> omega
    | 2, _ =>
      go_wp2_with fail
      refine (G1.out _).mono ?_
      rintro e w' ⟨rfl, rfl⟩
      go_wp2
      go_roundw
      case rel => exact ⟨3, by go_num, by omega, trivial⟩
      case measure => simp [intOf] <;> omega
    | 3, _ =>
      go_wp2_with fail
      refine (HI2.out _).mono ?_
      rintro e w' ⟨rfl, rfl⟩
      go_wp2
      go_ret
      exact ⟨rfl, rfl⟩

/-- The list after so many of the gaps 7, 3, 1. -/
def shl (zs : List Int) : Nat → List Int
  | 0 => zs
  | 1 => (Es.gapd 7 zs).1
  | 2 => (Es.gapd 3 (Es.gapd 7 zs).1).1
  | _ => (Es.gapd 1 (Es.gapd 3 (Es.gapd 7 zs).1).1).1
def gp731 (k : Nat) : Nat := if k = 0 then 7 else if k = 1 then 3 else 1
theorem shl_step (zs : List Int) {k : Nat} (hk : k < 3) : shl zs (k + 1) = (Es.gapd (gp731 k) (shl zs k)).1 := by
  match k, hk with
  | 0, _ => rfl
  | 1, _ => rfl
  | 2, _ => rfl
theorem shl_end (zs : List Int) : shl zs 3 = Mg.srtI zs := by
  show (Es.gapd 1 _).1 = _
  rw [Es.gapd_sorts]
  have h : ((Es.gapd 3 (Es.gapd 7 zs).1).1).Perm zs := (Es.gapd_perm 3 _).trans (Es.gapd_perm 7 zs)
  exact Mg.asc_unique Mg.swI (fun a b h1 h2 => by simp [Mg.ltI] at h1 h2; omega) (((Mg.srt_perm _).trans h).trans (Mg.srt_perm zs).symm) (Mg.srt_asc Mg.swI _) (Mg.srt_asc Mg.swI _)

set_option maxRecDepth 100000 in
set_option maxHeartbeats 8000000 in
theorem shell731_any (x : Addr) (cap n b c2 : Nat) (zs : List Int) (w : World) (hn : zs.length = n) (hok : okList zs = true) (h : IntsAt w (some x) zs) (hg : IntsAt w (some ⟨b, 0, none⟩) [7, 3, 1]) :
    Calls Try.prog 19 #[.slice (some x) n cap, .slice (some ⟨b, 0, none⟩) 3 c2] w (SortEnd1 w n (Mg.srtI zs)) := by
  have h64 := okList_len hok
  have HV := Lib.hid (isValidList_any (some x) cap zs w (by omega) h)
  rw [hok, hn] at HV
  have HI := Lib.hid h; have HN := Lib.hid hn
  have HC := Lib.hid (fun (W : World) (hW : IntsAt W (some x) zs) => copyOf_any x cap zs W (by omega) hW)
  rw [hn] at HC
  have hn64 : n ≤ 64 := by omega
  have HGC : Hid (∀ W, IntsAt W (some ⟨b, 0, none⟩) [7, 3, 1] → ∀ k, k < 3 → W.cell? ⟨b, k, none⟩ = some (.int .i64 (gp731 k : Nat))) := fun W hW k hk => by
    obtain ⟨b', o', e, hc⟩ := hW.at (k := k) (by simpa using hk)
    injection e with e
    injection e with e1 e2
    subst e1 e2
    rw [Nat.zero_add] at hc
    rw [hc]
    match k, hk with
    | 0, _ => rfl
    | 1, _ => rfl
    | 2, _ => rfl
  have HGA := Lib.hid hg
  clear h hok hn h64 hg
  unfold SortEnd1 SortEnd
  go_enter Try.func19, Try.ntmps19
  go_wp2_with fail
  refine HV.out.mono ?_
  rintro e w1 ⟨rfl, hb1⟩
  have HB1 := Lib.hid hb1
  have hga1 := HGA.out.below (Nat.le_refl _) hb1
  have HG1 := Lib.hid hga1
  have HAG := Lib.hid (areGaps731_any b c2 w1 (HGC.out w1 hga1 0 (by omega)) (HGC.out w1 hga1 1 (by omega)) (HGC.out w1 hga1 2 (by omega)))
  have HC1 := Lib.hid (HC.out w1 (HI.out.below (Nat.le_refl _) hb1))
  clear hb1 HV HC hga1
  go_wp2_with fail
  refine HAG.out.mono ?_
  rintro e w' ⟨rfl, rfl⟩
  go_wp2_with fail
  refine HC1.out.mono ?_
  rintro e w2 ⟨g, c, rfl, ho, hb⟩
  obtain ⟨k1, k2, k3⟩ := own_cap3 ho
  have HB2 := Lib.hid (HB1.out.trans (hb.mono HB1.out.size))
  have HB12 := Lib.hid hb
  have hsz := HB1.out.size
  have HO := Lib.hid ho
  have HGW := Lib.hid (fun (W : World) (hW : w2.grownBy W (some g)) => HG1.out.below (Nat.le_refl _) (below_in hb (Nat.le_refl _) hW k2))
  clear ho hb HC1 HB1
  go_wp2
  go_loopw [8, 25] (fun sv iv wr => ∃ (q k : Nat), sv = .int .i64 q ∧ iv = .int .i64 k ∧ k ≤ 3 ∧ q ≤ 10000 * k ∧ (shl zs k).length = n ∧ wr.ownsRow w1.heap.size 3 1 (.slice (some ⟨g, 0, none⟩) n c) n ((shl zs k).map (Value.int .i64)) ∧ w2.grownBy wr (some g)) (fun _ iv _ => (10 - intOf iv).toNat)
  case atStart => exact ⟨0, 0, rfl, rfl, by omega, by omega, HN.out, HO.out, grown_of_below (Below.refl _ _)⟩
  case round =>
    obtain ⟨q, k, rfl, rfl, hk, hq, hl, ho, hg⟩ := hrel
    have HL := Lib.hid hl; have HO2 := Lib.hid ho; have HG2 := Lib.hid hg
    clear hl ho hg
    by_cases hk3 : k < 3
    case neg =>
      obtain rfl : k = 3 := by omega
      have HE := Lib.hid (shl_end zs)
      go_wp2
      go_ret3
      rw [HE.out] at HO2
      exact ⟨_, g, c, rfl, own_baseI HO2.out hsz, below_in HB2.out hsz HG2.out k2⟩
    have hk3' : (k : Int) < 3 := by omega
    have ck := HGC.out wr (HGW.out wr HG2.out) k hk3
    obtain ⟨gp, hgp⟩ : ∃ gp, gp731 k = gp := ⟨_, rfl⟩
    have hg1 : 1 ≤ gp ∧ gp ≤ 64 := by rw [← hgp]; unfold gp731; split <;> (try split) <;> omega
    obtain ⟨R, c9, v9, hR⟩ : ∃ R c9 v9, Es.gapd gp (shl zs k) = (R, c9, v9) := ⟨_, _, _, rfl⟩
    have hc9 : c9 ≤ 64 * 64 := by
      have := Es.gapd_count gp (shl zs k) (by rw [HL.out]; exact hn64)
      rw [hR] at this
      exact this
    have HS : Hid (shl zs (k + 1) = R) := by show _ = _; rw [shl_step zs hk3, hgp, hR]
    have HLR : Hid (R.length = n) := by
      have := Es.gapd_len gp (shl zs k)
      rw [hR] at this
      exact this.trans HL.out
    have HG := Lib.hid (gapped_any w1.heap.size g c n gp 0 n c c9 v9 [] (shl zs k) [] R wr rfl HL.out hn64 hg1.1 hg1.2 hR (PR.whole HO2.out))
    rw [hgp] at ck
    clear hgp hR
    go_wp2_with fail
    refine HG.out.mono ?_
    rintro e w3 ⟨rfl, hp3, hg3⟩
    have HP3 := Lib.hid hp3; have HG3 := Lib.hid (grown_trans HG2.out hg3)
    clear hp3 hg3 ck
    go_wp2
    go_roundw
    case rel => exact ⟨q + c9, k + 1, by go_num, by go_num, by omega, by omega, by rw [HS.out]; exact HLR.out, by rw [HS.out]; exact HP3.out.back, HG3.out⟩
    case measure => simp [intOf] <;> omega
end Go.Proofs.Ytaaogoajhdaekaa

