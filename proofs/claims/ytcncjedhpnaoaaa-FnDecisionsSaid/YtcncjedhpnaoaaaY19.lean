/- Several texts in one: lemmas and walks of the functions that the law reaches. -/
import Derived.Test.YtcncjedhpnaoaaaY18

namespace Go.Proofs.Ytcncjedhpnaoaaa.II
open Go.RowKit Go.Sort
set_option linter.unusedVariables false

/-- What the symmetric merge does, for fewer elements than N. -/
def SymLt (D : Int → Prop) (I : World → Prop) (g : Nat) (lt : Int → Int → Bool) (cv : Value) (N : Nat) : Prop :=
  ∀ (B0 c n : Nat) (pre L R post rs : List (Int)) (x y z : Int) (w : World), L.length + R.length < N → rs = pre ++ L ++ R ++ post → x = (pre.length : Nat) → y = ((pre.length + L.length : Nat) : Int) → z = ((pre.length + L.length + R.length : Nat) : Int) → 0 < L.length → 0 < R.length →
    Mg.Asc lt L → Mg.Asc lt R → (∀ x ∈ L, D x) → (∀ x ∈ R, D x) → rs.length = n → n ≤ 1000 → I w → w.ownsRow B0 3 1 (.slice (some ⟨g, 0, none⟩) n c) n (flat encI rs) →
    Calls Try.prog 71 #[.slice (some ⟨g, 0, none⟩) n c, .int .i64 x, .int .i64 y, .int .i64 z, cv] w fun e w' => e = .returned (.tuple #[]) ∧
      w'.ownsRow B0 3 1 (.slice (some ⟨g, 0, none⟩) n c) n (flat encI (pre ++ Mg.mrg lt L R ++ post)) ∧ w.grownBy w' (some g)

/-- The rotation, its numbers as they come. -/
theorem rotate_int (B0 g c n : Nat) (pre U V post rs : List (Int)) (x y z : Int) (cv : Value) (w : World) (hrs : rs = pre ++ U ++ V ++ post) (hx : x = (pre.length : Nat)) (hy : y = ((pre.length + U.length : Nat) : Int)) (hz : z = ((pre.length + U.length + V.length : Nat) : Int)) (hU : 0 < U.length) (hV : 0 < V.length) (hn : rs.length = n) (hn2 : n ≤ 1000)
    (h : w.ownsRow B0 3 1 (.slice (some ⟨g, 0, none⟩) n c) n (flat encI rs)) :
    Calls Try.prog 77 #[.slice (some ⟨g, 0, none⟩) n c, .int .i64 x, .int .i64 y, .int .i64 z, cv] w fun e w' => e = .returned (.tuple #[]) ∧
      w'.ownsRow B0 3 1 (.slice (some ⟨g, 0, none⟩) n c) n (flat encI (pre ++ V ++ U ++ post)) ∧ w.grownBy w' (some g) := by
  subst hx hy hz hrs
  exact rotate_any B0 g c n pre U V post _ _ _ cv w rfl rfl rfl hU hV hn hn2 h

theorem getD_get {l : List (Int)} {i : Nat} (h : i < l.length) : l.getD i 0 = l[i] := by
  rw [List.getD_eq_getElem?_getD, List.getElem?_eq_getElem h]; rfl

/-- The symmetric cut, as the loop leaves it. -/
theorem cut_of {lt : Int → Int → Bool} (S : Mg.SW lt) (L R : List (Int)) (s h0 : Nat) (hL : Mg.Asc lt L) (hR : Mg.Asc lt R) (hs : s ≤ L.length) (hs2 : s ≤ h0) (he : h0 ≤ s + R.length)
    (h1 : 0 < s → h0 - s < R.length → lt (R.getD (h0 - s) 0) (L.getD (s - 1) 0) = false) (h2 : s < h0 → s < L.length → lt (R.getD (h0 - 1 - s) 0) (L.getD s 0) = true) :
    Mg.mrg lt L R = Mg.mrg lt (L.take s) (R.take (h0 - s)) ++ Mg.mrg lt (L.drop s) (R.drop (h0 - s)) := by
  refine Mg.mrg_cut S hL hR hs (by omega) (fun q1 q2 => ?_) (fun q1 q2 => ?_)
  · have := h1 q1 q2
    rw [getD_get q2, getD_get (by omega)] at this
    exact this
  · have := h2 (by omega) q2
    rw [getD_get (by omega), getD_get q2] at this
    have e : h0 - 1 - s = h0 - s - 1 := by omega
    simp only [e] at this
    exact this

set_option maxRecDepth 100000 in
set_option maxHeartbeats 8000000 in
theorem symMerge_gen {D : Int → Prop} {I : World → Prop} {lt : Int → Int → Bool} (S : Mg.SW lt) {cv : Value} (B0 g c n : Nat) (pre L R post rs : List (Int)) (a m b : Nat) (w : World) (ha : pre.length = a) (hm : a + L.length = m) (hb : m + R.length = b) (hL1 : 2 ≤ L.length) (hR1 : 2 ≤ R.length) (hL : Mg.Asc lt L) (hR : Mg.Asc lt R) (hrs : rs = pre ++ L ++ R ++ post) (hn : rs.length = n) (hn2 : n ≤ 1000) (IH : SymLt D I g lt cv (L.length + R.length)) (hDL : ∀ x ∈ L, D x) (hDR : ∀ x ∈ R, D x) (hI : I w) (HCV : CmpIs D I g lt cv)
    (h : w.ownsRow B0 3 1 (.slice (some ⟨g, 0, none⟩) n c) n (flat encI rs)) :
    Calls Try.prog 71 #[.slice (some ⟨g, 0, none⟩) n c, .int .i64 a, .int .i64 m, .int .i64 b, cv] w fun e w' => e = .returned (.tuple #[]) ∧
      w'.ownsRow B0 3 1 (.slice (some ⟨g, 0, none⟩) n c) n (flat encI (pre ++ Mg.mrg lt L R ++ post)) ∧ w.grownBy w' (some g) := by
  have HO := Lib.hid h
  have hbn : b + post.length = n := by rw [← hn, hrs]; simp; omega
  have HRS := Lib.hid hrs
  have HDL := Lib.hid hDL; have HDR := Lib.hid hDR
  clear hDL hDR
  have HNN := Lib.hid hn
  have HA := Lib.hid hL
  have HAR := Lib.hid hR
  have HIH := Lib.hid IH
  clear h hn hrs hL hR IH
  obtain ⟨h0, hh0⟩ : ∃ h0, h0 = (L.length + R.length) / 2 := ⟨_, rfl⟩
  have s0 : ((m : Int) - (a : Int) == 1) = false := by simp; omega
  have s1 : ((b : Int) - (m : Int) == 1) = false := by simp; omega
  have hh : ((a : Int) + (b : Int)) / 2 = (a : Int) + (h0 : Int) := by omega
  have hcut := Lib.hid (fun s => cut_of S L R s h0 HA.out HAR.out)
  have z0 : 1 ≤ h0 := by omega
  have z1 : h0 < L.length + R.length := by omega
  have z2 : a + h0 < b := by omega
  have z3 : L.length + R.length ≤ 2 * h0 + 1 := by omega
  have z4 : 2 * h0 ≤ L.length + R.length := by omega
  have HH := Lib.hid hh0
  clear hh0
  obtain ⟨hIg, G, cp, rfl, hcall, hcmp⟩ := HCV
  have HCM := Lib.hid hcmp; have HIG := Lib.hid (fun w' => hIg w w' hI)
  clear hcmp hIg
  by_cases hlt : h0 < L.length
  all_goals
    go_enter Try.func71, Try.ntmps71
    first
      | have q0 : decide ((a : Int) + (h0 : Int) < (m : Int)) = true := decide_eq_true (by omega)
      | have q0 : decide ((a : Int) + (h0 : Int) < (m : Int)) = false := decide_eq_false (by omega)
    go_wp2
    go_loopw [20, 21] (fun x y wr => ∃ p q : Nat, x = .int .i64 ((a : Int) + (p : Int)) ∧ y = .int .i64 ((a : Int) + (q : Int)) ∧ p ≤ q ∧ q ≤ h0 ∧ q ≤ L.length ∧ h0 ≤ p + R.length ∧ (0 < p → h0 - p < R.length → lt (R.getD (h0 - p) 0) (L.getD (p - 1) 0) = false) ∧ (q < h0 → q < L.length → lt (R.getD (h0 - 1 - q) 0) (L.getD q 0) = true) ∧ wr.ownsRow B0 3 1 (.slice (some ⟨g, 0, none⟩) n c) n (flat encI rs) ∧ w.grownBy wr (some g)) (fun x y _ => (intOf y).toNat - (intOf x).toNat)
    case atStart =>
      first
        | exact ⟨h0 - R.length, h0, by go_num, by go_num, by omega, by omega, by omega, by omega, fun h1 h2 => by omega, fun h => by omega, HO.out, grown_of_below (Below.refl w.heap.size w)⟩
        | exact ⟨0, L.length, by go_num, by go_num, by omega, by omega, by omega, by omega, fun h => by omega, fun h1 h2 => by omega, HO.out, grown_of_below (Below.refl w.heap.size w)⟩
    case round =>
      obtain ⟨p, q, rfl, rfl, hpq, hqh, hq, hpr, h1, h2, hown, hg⟩ := hrel
      have HO2 := Lib.hid hown; have HG2 := Lib.hid hg; have H1 := Lib.hid h1; have H2 := Lib.hid h2
      clear hown hg h1 h2 HO
      by_cases hlt2 : p < q
      · have q1 : decide ((a : Int) + (p : Int) < (a : Int) + (q : Int)) = true := decide_eq_true (by omega)
        obtain ⟨k, hk⟩ : ∃ k, k = (p + q) / 2 := ⟨_, rfl⟩
        have hkp : p ≤ k := by omega
        have hkq : k < q := by omega
        have hh2 : ((a : Int) + (p : Int) + ((a : Int) + (q : Int))) / 2 = (a : Int) + (k : Int) := by omega
        obtain ⟨u, hu⟩ : ∃ u, u = h0 - 1 - k := ⟨_, rfl⟩
        have hkL : k < L.length := by omega
        have huR : u < R.length := by omega
        have e1 : rs = pre ++ (L ++ R) ++ post := by rw [HRS.out]; simp only [List.append_assoc]
        have g1 : (L ++ R)[k]? = some (L.getD k 0) := by
          rw [List.getElem?_append_left hkL, List.getD_eq_getElem?_getD, List.getElem?_eq_getElem hkL]; rfl
        have g0 : (L ++ R)[L.length + u]? = some (R.getD u 0) := by
          rw [List.getElem?_append_right (by omega), Nat.add_sub_cancel_left, List.getD_eq_getElem?_getD, List.getElem?_eq_getElem huR]; rfl
        have HO3 := HO2.out
        rw [e1] at HO3
        have c1 := rec_cells HO3 (mid_at (post := post) ha g1)
        have c0 := rec_cells HO3 (mid_at (post := post) ha g0)
        rw [← Nat.add_assoc, hm] at c0 
        obtain ⟨X, hX⟩ : ∃ X, L.getD k 0 = X := ⟨_, rfl⟩
        obtain ⟨Y, hY⟩ : ∃ Y, R.getD u 0 = Y := ⟨_, rfl⟩
        rw [hX] at c1 
        rw [hY] at c0 
        have HX := Lib.hid hX
        have HDX : Hid (D X) := by show D X; rw [← hX]; exact HDL.out _ (getD_memI hkL)
        have HDY : Hid (D Y) := by show D Y; rw [← hY]; exact HDR.out _ (getD_memI huR)
        have HY := Lib.hid hY
        have HU := Lib.hid hu
        have HK := Lib.hid hk
        have hcast : (a : Int) + (h0 : Int) + (m : Int) - 1 - ((a : Int) + (k : Int)) = (m : Int) + (u : Int) := by omega
        clear hY hX g1 g0 HO3 e1 hk hu
        have HCK := Lib.hid (fun W hW => HCM.out Y X W HDY.out HDX.out (HIG.out W hW))
        have hcall := hcall (#[.int .i64 Y, .int .i64 X] ++ cp)
        have t1 : ((a : Int) + (k : Int)).toNat = a + k := by omega
        have t0 : ((m : Int) + (u : Int)).toNat = m + u := by omega
        have z0 : (0 : Int) ≤ (m : Int) + (u : Int) := by omega
        have b0 : (0 : Int) ≤ (a : Int) + (k : Int) := by omega
        have b1 : (a : Int) + (k : Int) < (n : Int) := by omega
        have b2 : (m : Int) + (u : Int) < (n : Int) := by omega
        -- TAIL
        have w1 : IntKind.i64.wrap ((m : Int) + (u : Int)) = (m : Int) + (u : Int) := IntWalk.i64_in _ (by omega)
        go_wp2_with fail
        clear hh2
        go_still_tail 11, (by kernel_rfl)
        go_wp2_with fail
        refine (HCK.out _ (grown_trans HG2.out (grown_of_below (Below.refl _ _).drew))).mono ?_
        rintro e w5 ⟨⟨nn, rfl, hnn⟩, hbc⟩
        have hbw : Below wr.heap.size wr w5 := (Below.refl _ _).drew.trans hbc
        have HO5 := Lib.hid (own_below HO2.out (Nat.le_refl _) hbw)
        have HG5 := Lib.hid (grown_trans HG2.out (grown_of_below hbw))
        clear hbc hbw HO2 HG2 HCK c1  c0 
        cases hyx : lt Y X
        · have hz : decide (nn < 0) = false := by rw [hnn]; exact hyx
          have HYX := Lib.hid hyx
          clear hnn hyx
          go_wp2
          go_roundw
          case rel => exact ⟨k + 1, q, by go_num, rfl, by omega, hqh, hq, by omega, fun _ _ => by rw [Nat.add_sub_cancel, HX.out, show h0 - (k + 1) = u by have := HU.out; omega, HY.out]; exact HYX.out, H2.out, HO5.out, HG5.out⟩
          case measure => simp [intOf] <;> omega
        · have hz : decide (nn < 0) = true := by rw [hnn]; exact hyx
          have HYX := Lib.hid hyx
          clear hnn hyx
          go_wp2
          go_roundw
          case rel => exact ⟨p, k, rfl, by go_num, by omega, by omega, by omega, hpr, H1.out, fun _ _ => by rw [HX.out, ← HU.out, HY.out]; exact HYX.out, HO5.out, HG5.out⟩
          case measure => simp [intOf] <;> omega
      · obtain rfl : p = q := by omega
        have q1 : decide ((a : Int) + (p : Int) < (a : Int) + (p : Int)) = false := decide_eq_false (by omega)
        obtain ⟨d, hd⟩ : ∃ d, d = h0 - p := ⟨_, rfl⟩
        have hcast : (a : Int) + (h0 : Int) + (m : Int) - ((a : Int) + (p : Int)) = (m : Int) + (d : Int) := by omega
        have hm' := hcut.out p hq hqh hpr H1.out H2.out
        rw [← hd] at hm'
        have eL := List.take_append_drop p L
        have eR := List.take_append_drop d R
        have l1 : (L.take p).length = p := by rw [List.length_take]; omega
        have l2 : (L.drop p).length = L.length - p := List.length_drop
        have l3 : (R.take d).length = d := by rw [List.length_take]; omega
        have l4 : (R.drop d).length = R.length - d := List.length_drop
        have a1 : Mg.Asc lt (L.take p) := List.Pairwise.sublist (List.take_sublist _ _) HA.out
        have a2 : Mg.Asc lt (L.drop p) := List.Pairwise.sublist (List.drop_sublist _ _) HA.out
        have a3 : Mg.Asc lt (R.take d) := List.Pairwise.sublist (List.take_sublist _ _) HAR.out
        have a4 : Mg.Asc lt (R.drop d) := List.Pairwise.sublist (List.drop_sublist _ _) HAR.out
        have HD1 : Hid (∀ x ∈ L.take p, D x) := fun x hx => HDL.out x (List.mem_of_mem_take hx)
        have HD2 : Hid (∀ x ∈ L.drop p, D x) := fun x hx => HDL.out x (List.mem_of_mem_drop hx)
        have HD3 : Hid (∀ x ∈ R.take d, D x) := fun x hx => HDR.out x (List.mem_of_mem_take hx)
        have HD4 : Hid (∀ x ∈ R.drop d, D x) := fun x hx => HDR.out x (List.mem_of_mem_drop hx)
        generalize L.take p = L1 at hm' eL l1 a1 HD1
        generalize L.drop p = L2 at hm' eL l2 a2 HD2
        generalize R.take d = R1 at hm' eR l3 a3 HD3
        generalize R.drop d = R2 at hm' eR l4 a4 HD4
        have HM := Lib.hid hm'; have HLL1 := Lib.hid l1; have HLL2 := Lib.hid l2; have HRL1 := Lib.hid l3; have HRL2 := Lib.hid l4
        have HA1 := Lib.hid a1; have HA2 := Lib.hid a2; have HA3 := Lib.hid a3; have HA4 := Lib.hid a4
        have HOa : Hid (wr.ownsRow B0 3 1 (.slice (some ⟨g, 0, none⟩) n c) n (flat encI (pre ++ L1 ++ L2 ++ R1 ++ (R2 ++ post)))) := by
          show World.ownsRow _ _ _ _ _ _ _
          have := HO2.out
          rw [HRS.out, ← eL, ← eR] at this
          simpa only [List.append_assoc] using this
        have HNa : Hid ((pre ++ L1 ++ L2 ++ R1 ++ (R2 ++ post)).length = n) := by
          show _ = _
          simp only [List.length_append]; omega
        have HNb : Hid ((pre ++ (L1 ++ R1) ++ (L2 ++ R2) ++ post).length = n) := by
          show _ = _
          simp only [List.length_append]; omega
        have hpa : (pre ++ L1).length = a + p := by rw [List.length_append]; omega
        have HPA := Lib.hid hpa
        have HPM : Hid ((pre ++ Mg.mrg lt L1 R1).length = a + h0) := by show _ = _; rw [List.length_append, Mg.mrg_length]; omega
        have HNc : Hid ((pre ++ Mg.mrg lt L1 R1 ++ (L2 ++ R2 ++ post)).length = n) := by
          show _ = _
          simp only [List.length_append, Mg.mrg_length]; omega
        have hda : d ≤ R.length := by omega
        have hpd : p + d = h0 := by omega
        clear hm' eL eR l1 l2 l3 l4 a1 a2 a3 a4 HO2 hcut HA HAR H1 H2 HRS hpa hd
        by_cases cA : p < L.length
        · by_cases cB : 0 < d
          · by_cases cC : 0 < p
            · by_cases cD : d < R.length
              · try (exfalso; omega)
                all_goals
                  have qa : decide ((a : Int) + (p : Int) < (m : Int)) = true := decide_eq_true (by omega)
                  have qb : decide ((m : Int) < (m : Int) + (d : Int)) = true := decide_eq_true (by omega)
                  have qc : decide ((a : Int) < (a : Int) + (p : Int)) = true := decide_eq_true (by omega)
                  have qd : decide ((a : Int) + (p : Int) < (a : Int) + (h0 : Int)) = true := decide_eq_true (by omega)
                  have qe : decide ((a : Int) + (h0 : Int) < (m : Int) + (d : Int)) = true := decide_eq_true (by omega)
                  have qf : decide ((m : Int) + (d : Int) < (b : Int)) = true := decide_eq_true (by omega)
                  go_wp2_with fail
                  refine (rotate_int B0 g c n (pre ++ L1) L2 R1 (R2 ++ post) _ _ _ _ _ _ rfl (by rw [HPA.out]; omega) (by rw [HPA.out, HLL2.out]; omega) (by rw [HPA.out, HLL2.out, HRL1.out]; omega) (by rw [HLL2.out]; omega) (by rw [HRL1.out]; omega) HNa.out hn2 HOa.out).mono ?_
                  rintro e w5 ⟨rfl, ho5, hg5⟩
                  have HOb : Hid (w5.ownsRow B0 3 1 (.slice (some ⟨g, 0, none⟩) n c) n (flat encI (pre ++ (L1 ++ R1) ++ (L2 ++ R2) ++ post))) := by
                    show World.ownsRow _ _ _ _ _ _ _
                    simpa only [List.append_assoc] using ho5
                  have HG5 := Lib.hid (grown_trans HG2.out hg5)
                  clear ho5 hg5 HOa
                  go_wp2_with fail
                  refine (HIH.out B0 c n pre L1 R1 (L2 ++ R2 ++ post) (pre ++ (L1 ++ R1) ++ (L2 ++ R2) ++ post) _ _ _ _ (by rw [HLL1.out, HRL1.out]; omega) (by simp only [List.append_assoc]) (by rw [ha]) (by rw [ha, HLL1.out]; omega) (by rw [ha, HLL1.out, HRL1.out]; omega) (by rw [HLL1.out]; omega) (by rw [HRL1.out]; omega) HA1.out HA3.out HD1.out HD3.out HNb.out hn2 (HIG.out _ HG5.out) HOb.out).mono ?_
                  rintro e w6 ⟨rfl, ho6, hg6⟩
                  have HOc := Lib.hid ho6
                  have HG6 := Lib.hid (grown_trans HG5.out hg6)
                  clear ho6 hg6 HOb
                  go_wp2_with fail
                  refine (HIH.out B0 c n (pre ++ Mg.mrg lt L1 R1) L2 R2 post (pre ++ Mg.mrg lt L1 R1 ++ (L2 ++ R2 ++ post)) _ _ _ _ (by rw [HLL2.out, HRL2.out]; omega) (by simp only [List.append_assoc]) (by rw [HPM.out]; omega) (by rw [HPM.out, HLL2.out]; omega) (by rw [HPM.out, HLL2.out, HRL2.out]; omega) (by rw [HLL2.out]; omega) (by rw [HRL2.out]; omega) HA2.out HA4.out HD2.out HD4.out HNc.out hn2 (HIG.out _ HG6.out) HOc.out).mono ?_
                  rintro e w7 ⟨rfl, ho7, hg7⟩
                  have HOd := Lib.hid ho7
                  have HG7 := Lib.hid (grown_trans HG6.out hg7)
                  clear ho7 hg7 HOc
                  rw [List.append_assoc pre, ← HM.out] at HOd
                  go_wp2
                  go_end0
                  exact ⟨rfl, HOd.out, HG7.out⟩
              · try (exfalso; omega)
                all_goals
                  have qa : decide ((a : Int) + (p : Int) < (m : Int)) = true := decide_eq_true (by omega)
                  have qb : decide ((m : Int) < (m : Int) + (d : Int)) = true := decide_eq_true (by omega)
                  have qc : decide ((a : Int) < (a : Int) + (p : Int)) = true := decide_eq_true (by omega)
                  have qd : decide ((a : Int) + (p : Int) < (a : Int) + (h0 : Int)) = true := decide_eq_true (by omega)
                  have qe : decide ((a : Int) + (h0 : Int) < (m : Int) + (d : Int)) = true := decide_eq_true (by omega)
                  have qf : decide ((m : Int) + (d : Int) < (b : Int)) = false := decide_eq_false (by omega)
                  go_wp2_with fail
                  refine (rotate_int B0 g c n (pre ++ L1) L2 R1 (R2 ++ post) _ _ _ _ _ _ rfl (by rw [HPA.out]; omega) (by rw [HPA.out, HLL2.out]; omega) (by rw [HPA.out, HLL2.out, HRL1.out]; omega) (by rw [HLL2.out]; omega) (by rw [HRL1.out]; omega) HNa.out hn2 HOa.out).mono ?_
                  rintro e w5 ⟨rfl, ho5, hg5⟩
                  have HOb : Hid (w5.ownsRow B0 3 1 (.slice (some ⟨g, 0, none⟩) n c) n (flat encI (pre ++ (L1 ++ R1) ++ (L2 ++ R2) ++ post))) := by
                    show World.ownsRow _ _ _ _ _ _ _
                    simpa only [List.append_assoc] using ho5
                  have HG5 := Lib.hid (grown_trans HG2.out hg5)
                  clear ho5 hg5 HOa
                  go_wp2_with fail
                  refine (HIH.out B0 c n pre L1 R1 (L2 ++ R2 ++ post) (pre ++ (L1 ++ R1) ++ (L2 ++ R2) ++ post) _ _ _ _ (by rw [HLL1.out, HRL1.out]; omega) (by simp only [List.append_assoc]) (by rw [ha]) (by rw [ha, HLL1.out]; omega) (by rw [ha, HLL1.out, HRL1.out]; omega) (by rw [HLL1.out]; omega) (by rw [HRL1.out]; omega) HA1.out HA3.out HD1.out HD3.out HNb.out hn2 (HIG.out _ HG5.out) HOb.out).mono ?_
                  rintro e w6 ⟨rfl, ho6, hg6⟩
                  have HOc := Lib.hid ho6
                  have HG6 := Lib.hid (grown_trans HG5.out hg6)
                  clear ho6 hg6 HOb
                  have HOd : Hid (w6.ownsRow B0 3 1 (.slice (some ⟨g, 0, none⟩) n c) n (flat encI (pre ++ Mg.mrg lt L1 R1 ++ Mg.mrg lt L2 R2 ++ post))) := by
                    show World.ownsRow _ _ _ _ _ _ _
                    have nR2 : R2 = [] := List.eq_nil_of_length_eq_zero (by have := HRL2.out; omega)
                    have := HOc.out
                    rw [nR2] at this ⊢
                    simpa only [List.append_assoc, List.nil_append, List.append_nil, Mg.mrg_nil, Mg.nil_mrg] using this
                  rw [List.append_assoc pre, ← HM.out] at HOd
                  go_wp2
                  go_end0
                  exact ⟨rfl, HOd.out, HG6.out⟩
            · by_cases cD : d < R.length
              · try (exfalso; omega)
                all_goals
                  have qa : decide ((a : Int) + (p : Int) < (m : Int)) = true := decide_eq_true (by omega)
                  have qb : decide ((m : Int) < (m : Int) + (d : Int)) = true := decide_eq_true (by omega)
                  have qc : decide ((a : Int) < (a : Int) + (p : Int)) = false := decide_eq_false (by omega)
                  have qd : decide ((a : Int) + (p : Int) < (a : Int) + (h0 : Int)) = true := decide_eq_true (by omega)
                  have qe : decide ((a : Int) + (h0 : Int) < (m : Int) + (d : Int)) = true := decide_eq_true (by omega)
                  have qf : decide ((m : Int) + (d : Int) < (b : Int)) = true := decide_eq_true (by omega)
                  go_wp2_with fail
                  refine (rotate_int B0 g c n (pre ++ L1) L2 R1 (R2 ++ post) _ _ _ _ _ _ rfl (by rw [HPA.out]; omega) (by rw [HPA.out, HLL2.out]; omega) (by rw [HPA.out, HLL2.out, HRL1.out]; omega) (by rw [HLL2.out]; omega) (by rw [HRL1.out]; omega) HNa.out hn2 HOa.out).mono ?_
                  rintro e w5 ⟨rfl, ho5, hg5⟩
                  have HOb : Hid (w5.ownsRow B0 3 1 (.slice (some ⟨g, 0, none⟩) n c) n (flat encI (pre ++ (L1 ++ R1) ++ (L2 ++ R2) ++ post))) := by
                    show World.ownsRow _ _ _ _ _ _ _
                    simpa only [List.append_assoc] using ho5
                  have HG5 := Lib.hid (grown_trans HG2.out hg5)
                  clear ho5 hg5 HOa
                  have HOc : Hid (w5.ownsRow B0 3 1 (.slice (some ⟨g, 0, none⟩) n c) n (flat encI (pre ++ Mg.mrg lt L1 R1 ++ (L2 ++ R2 ++ post)))) := by
                    show World.ownsRow _ _ _ _ _ _ _
                    have nL1 : L1 = [] := List.eq_nil_of_length_eq_zero (by have := HLL1.out; omega)
                    have := HOb.out
                    rw [nL1] at this ⊢
                    simpa only [List.append_assoc, List.nil_append, List.append_nil, Mg.mrg_nil, Mg.nil_mrg] using this
                  go_wp2_with fail
                  refine (HIH.out B0 c n (pre ++ Mg.mrg lt L1 R1) L2 R2 post (pre ++ Mg.mrg lt L1 R1 ++ (L2 ++ R2 ++ post)) _ _ _ _ (by rw [HLL2.out, HRL2.out]; omega) (by simp only [List.append_assoc]) (by rw [HPM.out]; omega) (by rw [HPM.out, HLL2.out]; omega) (by rw [HPM.out, HLL2.out, HRL2.out]; omega) (by rw [HLL2.out]; omega) (by rw [HRL2.out]; omega) HA2.out HA4.out HD2.out HD4.out HNc.out hn2 (HIG.out _ HG5.out) HOc.out).mono ?_
                  rintro e w7 ⟨rfl, ho7, hg7⟩
                  have HOd := Lib.hid ho7
                  have HG7 := Lib.hid (grown_trans HG5.out hg7)
                  clear ho7 hg7 HOc
                  rw [List.append_assoc pre, ← HM.out] at HOd
                  go_wp2
                  go_end0
                  exact ⟨rfl, HOd.out, HG7.out⟩
              · try (exfalso; omega)
                all_goals
                  have qa : decide ((a : Int) + (p : Int) < (m : Int)) = true := decide_eq_true (by omega)
                  have qb : decide ((m : Int) < (m : Int) + (d : Int)) = true := decide_eq_true (by omega)
                  have qc : decide ((a : Int) < (a : Int) + (p : Int)) = false := decide_eq_false (by omega)
                  have qd : decide ((a : Int) + (p : Int) < (a : Int) + (h0 : Int)) = true := decide_eq_true (by omega)
                  have qe : decide ((a : Int) + (h0 : Int) < (m : Int) + (d : Int)) = true := decide_eq_true (by omega)
                  have qf : decide ((m : Int) + (d : Int) < (b : Int)) = false := decide_eq_false (by omega)
                  go_wp2_with fail
                  refine (rotate_int B0 g c n (pre ++ L1) L2 R1 (R2 ++ post) _ _ _ _ _ _ rfl (by rw [HPA.out]; omega) (by rw [HPA.out, HLL2.out]; omega) (by rw [HPA.out, HLL2.out, HRL1.out]; omega) (by rw [HLL2.out]; omega) (by rw [HRL1.out]; omega) HNa.out hn2 HOa.out).mono ?_
                  rintro e w5 ⟨rfl, ho5, hg5⟩
                  have HOb : Hid (w5.ownsRow B0 3 1 (.slice (some ⟨g, 0, none⟩) n c) n (flat encI (pre ++ (L1 ++ R1) ++ (L2 ++ R2) ++ post))) := by
                    show World.ownsRow _ _ _ _ _ _ _
                    simpa only [List.append_assoc] using ho5
                  have HG5 := Lib.hid (grown_trans HG2.out hg5)
                  clear ho5 hg5 HOa
                  have HOc : Hid (w5.ownsRow B0 3 1 (.slice (some ⟨g, 0, none⟩) n c) n (flat encI (pre ++ Mg.mrg lt L1 R1 ++ (L2 ++ R2 ++ post)))) := by
                    show World.ownsRow _ _ _ _ _ _ _
                    have nL1 : L1 = [] := List.eq_nil_of_length_eq_zero (by have := HLL1.out; omega)
                    have := HOb.out
                    rw [nL1] at this ⊢
                    simpa only [List.append_assoc, List.nil_append, List.append_nil, Mg.mrg_nil, Mg.nil_mrg] using this
                  have HOd : Hid (w5.ownsRow B0 3 1 (.slice (some ⟨g, 0, none⟩) n c) n (flat encI (pre ++ Mg.mrg lt L1 R1 ++ Mg.mrg lt L2 R2 ++ post))) := by
                    show World.ownsRow _ _ _ _ _ _ _
                    have nR2 : R2 = [] := List.eq_nil_of_length_eq_zero (by have := HRL2.out; omega)
                    have := HOc.out
                    rw [nR2] at this ⊢
                    simpa only [List.append_assoc, List.nil_append, List.append_nil, Mg.mrg_nil, Mg.nil_mrg] using this
                  rw [List.append_assoc pre, ← HM.out] at HOd
                  go_wp2
                  go_end0
                  exact ⟨rfl, HOd.out, HG5.out⟩
          · try (exfalso; omega)
            all_goals
              have qa : decide ((a : Int) + (p : Int) < (m : Int)) = true := decide_eq_true (by omega)
              have qb : decide ((m : Int) < (m : Int) + (d : Int)) = false := decide_eq_false (by omega)
              have qc : decide ((a : Int) < (a : Int) + (p : Int)) = true := decide_eq_true (by omega)
              have qd : decide ((a : Int) + (p : Int) < (a : Int) + (h0 : Int)) = false := decide_eq_false (by omega)
              have qe : decide ((a : Int) + (h0 : Int) < (m : Int) + (d : Int)) = true := decide_eq_true (by omega)
              have qf : decide ((m : Int) + (d : Int) < (b : Int)) = true := decide_eq_true (by omega)
              have HOb : Hid (wr.ownsRow B0 3 1 (.slice (some ⟨g, 0, none⟩) n c) n (flat encI (pre ++ (L1 ++ R1) ++ (L2 ++ R2) ++ post))) := by
                show World.ownsRow _ _ _ _ _ _ _
                have nR1 : R1 = [] := List.eq_nil_of_length_eq_zero (by have := HRL1.out; omega)
                have := HOa.out
                rw [nR1] at this ⊢
                simpa only [List.append_assoc, List.nil_append, List.append_nil] using this
              have HOc : Hid (wr.ownsRow B0 3 1 (.slice (some ⟨g, 0, none⟩) n c) n (flat encI (pre ++ Mg.mrg lt L1 R1 ++ (L2 ++ R2 ++ post)))) := by
                show World.ownsRow _ _ _ _ _ _ _
                have nR1 : R1 = [] := List.eq_nil_of_length_eq_zero (by have := HRL1.out; omega)
                have := HOb.out
                rw [nR1] at this ⊢
                simpa only [List.append_assoc, List.nil_append, List.append_nil, Mg.mrg_nil, Mg.nil_mrg] using this
              go_wp2_with fail
              refine (HIH.out B0 c n (pre ++ Mg.mrg lt L1 R1) L2 R2 post (pre ++ Mg.mrg lt L1 R1 ++ (L2 ++ R2 ++ post)) _ _ _ _ (by rw [HLL2.out, HRL2.out]; omega) (by simp only [List.append_assoc]) (by rw [HPM.out]; omega) (by rw [HPM.out, HLL2.out]; omega) (by rw [HPM.out, HLL2.out, HRL2.out]; omega) (by rw [HLL2.out]; omega) (by rw [HRL2.out]; omega) HA2.out HA4.out HD2.out HD4.out HNc.out hn2 (HIG.out _ HG2.out) HOc.out).mono ?_
              rintro e w7 ⟨rfl, ho7, hg7⟩
              have HOd := Lib.hid ho7
              have HG7 := Lib.hid (grown_trans HG2.out hg7)
              clear ho7 hg7 HOc
              rw [List.append_assoc pre, ← HM.out] at HOd
              go_wp2
              go_end0
              exact ⟨rfl, HOd.out, HG7.out⟩
        · by_cases cB : 0 < d
          · try (exfalso; omega)
            all_goals
              have qa : decide ((a : Int) + (p : Int) < (m : Int)) = false := decide_eq_false (by omega)
              have qb : decide ((m : Int) < (m : Int) + (d : Int)) = true := decide_eq_true (by omega)
              have qc : decide ((a : Int) < (a : Int) + (p : Int)) = true := decide_eq_true (by omega)
              have qd : decide ((a : Int) + (p : Int) < (a : Int) + (h0 : Int)) = true := decide_eq_true (by omega)
              have qe : decide ((a : Int) + (h0 : Int) < (m : Int) + (d : Int)) = false := decide_eq_false (by omega)
              have qf : decide ((m : Int) + (d : Int) < (b : Int)) = decide ((m : Int) + (d : Int) < (b : Int)) := rfl
              have HOb : Hid (wr.ownsRow B0 3 1 (.slice (some ⟨g, 0, none⟩) n c) n (flat encI (pre ++ (L1 ++ R1) ++ (L2 ++ R2) ++ post))) := by
                show World.ownsRow _ _ _ _ _ _ _
                have nL2 : L2 = [] := List.eq_nil_of_length_eq_zero (by have := HLL2.out; omega)
                have := HOa.out
                rw [nL2] at this ⊢
                simpa only [List.append_assoc, List.nil_append, List.append_nil] using this
              go_wp2_with fail
              refine (HIH.out B0 c n pre L1 R1 (L2 ++ R2 ++ post) (pre ++ (L1 ++ R1) ++ (L2 ++ R2) ++ post) _ _ _ _ (by rw [HLL1.out, HRL1.out]; omega) (by simp only [List.append_assoc]) (by rw [ha]) (by rw [ha, HLL1.out]; omega) (by rw [ha, HLL1.out, HRL1.out]; omega) (by rw [HLL1.out]; omega) (by rw [HRL1.out]; omega) HA1.out HA3.out HD1.out HD3.out HNb.out hn2 (HIG.out _ HG2.out) HOb.out).mono ?_
              rintro e w6 ⟨rfl, ho6, hg6⟩
              have HOc := Lib.hid ho6
              have HG6 := Lib.hid (grown_trans HG2.out hg6)
              clear ho6 hg6 HOb
              have HOd : Hid (w6.ownsRow B0 3 1 (.slice (some ⟨g, 0, none⟩) n c) n (flat encI (pre ++ Mg.mrg lt L1 R1 ++ Mg.mrg lt L2 R2 ++ post))) := by
                show World.ownsRow _ _ _ _ _ _ _
                have nL2 : L2 = [] := List.eq_nil_of_length_eq_zero (by have := HLL2.out; omega)
                have := HOc.out
                rw [nL2] at this ⊢
                simpa only [List.append_assoc, List.nil_append, List.append_nil, Mg.mrg_nil, Mg.nil_mrg] using this
              rw [List.append_assoc pre, ← HM.out] at HOd
              go_wp2
              go_end0
              exact ⟨rfl, HOd.out, HG6.out⟩
          · try (exfalso; omega)
            all_goals
              have qa : decide ((a : Int) + (p : Int) < (m : Int)) = false := decide_eq_false (by omega)
              have qb : decide ((m : Int) < (m : Int) + (d : Int)) = false := decide_eq_false (by omega)
              have qc : decide ((a : Int) < (a : Int) + (p : Int)) = true := decide_eq_true (by omega)
              have qd : decide ((a : Int) + (p : Int) < (a : Int) + (h0 : Int)) = false := decide_eq_false (by omega)
              have qe : decide ((a : Int) + (h0 : Int) < (m : Int) + (d : Int)) = false := decide_eq_false (by omega)
              have qf : decide ((m : Int) + (d : Int) < (b : Int)) = true := decide_eq_true (by omega)
              have HOb : Hid (wr.ownsRow B0 3 1 (.slice (some ⟨g, 0, none⟩) n c) n (flat encI (pre ++ (L1 ++ R1) ++ (L2 ++ R2) ++ post))) := by
                show World.ownsRow _ _ _ _ _ _ _
                have nL2 : L2 = [] := List.eq_nil_of_length_eq_zero (by have := HLL2.out; omega)
                have := HOa.out
                rw [nL2] at this ⊢
                simpa only [List.append_assoc, List.nil_append, List.append_nil] using this
              have HOc : Hid (wr.ownsRow B0 3 1 (.slice (some ⟨g, 0, none⟩) n c) n (flat encI (pre ++ Mg.mrg lt L1 R1 ++ (L2 ++ R2 ++ post)))) := by
                show World.ownsRow _ _ _ _ _ _ _
                have nR1 : R1 = [] := List.eq_nil_of_length_eq_zero (by have := HRL1.out; omega)
                have := HOb.out
                rw [nR1] at this ⊢
                simpa only [List.append_assoc, List.nil_append, List.append_nil, Mg.mrg_nil, Mg.nil_mrg] using this
              have HOd : Hid (wr.ownsRow B0 3 1 (.slice (some ⟨g, 0, none⟩) n c) n (flat encI (pre ++ Mg.mrg lt L1 R1 ++ Mg.mrg lt L2 R2 ++ post))) := by
                show World.ownsRow _ _ _ _ _ _ _
                have nL2 : L2 = [] := List.eq_nil_of_length_eq_zero (by have := HLL2.out; omega)
                have := HOc.out
                rw [nL2] at this ⊢
                simpa only [List.append_assoc, List.nil_append, List.append_nil, Mg.mrg_nil, Mg.nil_mrg] using this
              rw [List.append_assoc pre, ← HM.out] at HOd
              go_wp2
              go_end0
              exact ⟨rfl, HOd.out, HG2.out⟩

set_option maxHeartbeats 2000000 in
theorem symLt_all {D : Int → Prop} {I : World → Prop} {g : Nat} {lt : Int → Int → Bool} (S : Mg.SW lt) {cv : Value} (HCV : CmpIs D I g lt cv) : ∀ N, SymLt D I g lt cv N
  | 0 => fun _ _ _ _ _ _ _ _ _ _ _ _ h => absurd h (by omega)
  | N + 1 => fun B0 c n pre L R post rs x y z w hlt hrs hx hy hz hL hR hLa hRa hDL hDR hn hn2 hI ho => by
    have IH : SymLt D I g lt cv (L.length + R.length) := fun B0 c n pre' L' R' post' rs' x y z w h => symLt_all S HCV N B0 c n pre' L' R' post' rs' x y z w (by omega)
    subst hx hy hz
    by_cases h1 : L.length = 1
    · obtain ⟨X, rfl⟩ := List.length_eq_one_iff.1 h1
      have := symMerge_one S B0 g c n pre R post rs X pre.length (pre.length + 1 + R.length) w rfl rfl hRa hrs hn hn2 (hDL X (by simp)) hDR hI HCV ho
      rw [List.length_singleton]
      have e : (((pre.length + 1 : Nat)) : Int) = (pre.length : Int) + 1 := by omega
      rw [e]
      exact this
    · by_cases h2 : R.length = 1
      · obtain ⟨X, rfl⟩ := List.length_eq_one_iff.1 h2
        have := symMerge_last S B0 g c n pre L post rs X pre.length (pre.length + L.length) w rfl rfl h1 hLa hrs hn hn2 (hDR X (by simp)) hDL hI HCV ho
        rw [List.length_singleton]
        have e : (((pre.length + L.length + 1 : Nat)) : Int) = ((pre.length + L.length : Nat) : Int) + 1 := by omega
        rw [e]
        exact this
      · exact symMerge_gen S B0 g c n pre L R post rs _ _ _ w rfl rfl rfl (by omega) (by omega) hLa hRa hrs hn hn2 IH hDL hDR hI HCV ho

theorem symOk {D : Int → Prop} {I : World → Prop} {g : Nat} {lt : Int → Int → Bool} (S : Mg.SW lt) {cv : Value} (HCV : CmpIs D I g lt cv) : SymOk D I g lt cv :=
  fun B0 c n pre L R post rs x y z w => symLt_all S HCV (L.length + R.length + 1) B0 c n pre L R post rs x y z w (by omega)

end Go.Proofs.Ytcncjedhpnaoaaa.II

namespace Go.Proofs.Ytcncjedhpnaoaaa
open Go.RowKit Go.Sort
set_option linter.unusedVariables false

set_option maxRecDepth 100000 in
set_option maxHeartbeats 2000000 in
theorem II.sortStable_any {D : Int → Prop} {I : World → Prop} {lt : Int → Int → Bool} (S : Mg.SW lt) {cv : Value} (B0 g c n : Nat) (L : List Int) (w : World) (hn : L.length = n) (hn2 : n ≤ 1000) (hD : ∀ x ∈ L, D x) (hI : I w) (HCV : II.CmpIs D I g lt cv)
    (h : w.ownsRow B0 3 1 (.slice (some ⟨g, 0, none⟩) n c) n (flat II.encI L)) :
    Calls Try.prog 44 #[.slice (some ⟨g, 0, none⟩) n c, cv] w fun e w' => e = .returned (.tuple #[]) ∧
      w'.ownsRow B0 3 1 (.slice (some ⟨g, 0, none⟩) n c) n (flat II.encI (Mg.srt lt L)) ∧ w.grownBy w' (some g) := by
  have HC := Lib.hid (II.stableCmp_any S B0 g c n L w hn hn2 hD hI HCV (II.symOk S HCV) h)
  clear h HCV hI hD
  go_enter Try.func44, Try.ntmps44
  go_wp2_with fail
  refine HC.out.mono ?_
  rintro e w5 ⟨rfl, ho5, hg5⟩
  have HO5 := Lib.hid ho5; have HG5 := Lib.hid hg5
  clear ho5 hg5
  go_wp2
  go_end0
  exact ⟨rfl, HO5.out, HG5.out⟩

/-- The places of a list, in order. -/
def upTo (n : Nat) : List Int := (List.range n).map (Int.ofNat ·)
theorem upTo_succ (n : Nat) : upTo (n + 1) = upTo n ++ [(n : Int)] := by simp [upTo, List.range_succ]
theorem upTo_len (n : Nat) : (upTo n).length = n := by simp [upTo]
theorem upTo_mem {n : Nat} {x : Int} (h : x ∈ upTo n) : 0 ≤ x ∧ x < n := by
  unfold upTo at h
  obtain ⟨i, hi, rfl⟩ := List.mem_map.1 h
  have := List.mem_range.1 hi
  simp only [Int.ofNat_eq_natCast]
  omega
/-- Places compared by what stands there. -/
def keyAt (l : List Int) (i : Int) : Int := l.getD i.toNat 0
def sortP (l : List Int) : List Int := Mg.srt (Mg.ltK (keyAt l)) (upTo l.length)
/-- What the closure of 'sorting' reads: the box of the list, and the list. -/
def SortI (pc : Nat) (a : Option Addr) (c : Nat) (l : List Int) (w : World) : Prop := w.cell? ⟨pc, 0, none⟩ = some (.slice a l.length c) ∧ IntsAt w a l

set_option maxRecDepth 100000 in
set_option maxHeartbeats 2000000 in
theorem sortCmp_any (pc : Nat) (a : Option Addr) (c : Nat) (l : List Int) (i k : Int) (w : World) (hl : l.length ≤ 1000) (hi : 0 ≤ i ∧ i < l.length) (hk : 0 ≤ k ∧ k < l.length) (h : SortI pc a c l w) :
    Calls Try.prog 45 #[.int .i64 i, .int .i64 k, .pointer (some ⟨pc, 0, none⟩)] w fun e w' => (∃ n : Int, e = .returned (.int .i64 n) ∧ (decide (n < 0) = Mg.ltK (keyAt l) i k)) ∧ Below w.heap.size w w' := by
  obtain ⟨h1, h2⟩ := h
  obtain ⟨i, rfl⟩ := Int.eq_ofNat_of_zero_le hi.1
  obtain ⟨k, rfl⟩ := Int.eq_ofNat_of_zero_le hk.1
  have hi1 : i < l.length := by omega
  have hk1 : k < l.length := by omega
  obtain ⟨b, o, rfl, c1⟩ := h2.at hi1
  obtain ⟨b', o', e, c2⟩ := h2.at hk1
  injection e with e
  injection e with e1 e2
  subst e1 e2
  obtain ⟨X, hX⟩ : ∃ X, l.getD i 0 = X := ⟨_, rfl⟩
  obtain ⟨Y, hY⟩ : ∃ Y, l.getD k 0 = Y := ⟨_, rfl⟩
  rw [hX] at c1
  rw [hY] at c2
  have HC := Lib.hid (fun W => Try.cmp_Compare_int X Y W)
  have HD : Hid (decide (Lib.compareInt X Y < 0) = Mg.ltK (keyAt l) (i : Int) (k : Int)) := by
    show _ = _
    unfold Mg.ltK keyAt
    rw [Int.toNat_natCast, Int.toNat_natCast, hX, hY]
    unfold Lib.compareInt
    by_cases h1 : X < Y
    · rw [if_pos h1, decide_eq_true h1]; rfl
    · rw [if_neg h1, decide_eq_false h1]; split <;> rfl
  clear hX hY hi hk h2
  generalize hN : l.length = N at h1 hi1 hk1 hl
  clear hN
  have t1 : ((i : Int)).toNat = i := by omega
  have t2 : ((k : Int)).toNat = k := by omega
  have b1 : (0 : Int) ≤ (i : Int) := by omega
  have b2 : (i : Int) < (N : Int) := by omega
  have b3 : (0 : Int) ≤ (k : Int) := by omega
  have b4 : (k : Int) < (N : Int) := by omega
  go_enter Try.func45, Try.ntmps45
  go_wp2_with fail
  go_still_tail 8, (by kernel_rfl)
  go_wp2_with fail
  refine (HC.out _).mono ?_
  rintro e w' ⟨rfl, rfl⟩
  go_wp2
  go_ret
  exact ⟨⟨_, rfl, HD.out⟩, (Below.refl _ _).drew⟩

end Go.Proofs.Ytcncjedhpnaoaaa

namespace Go.Proofs.Ytcncjedhpnaoaaa
open Go.RowKit Go.Sort
set_option linter.unusedVariables false
abbrev ltP (l : List Int) : Int → Int → Bool := Mg.ltK (keyAt l)

end Go.Proofs.Ytcncjedhpnaoaaa

