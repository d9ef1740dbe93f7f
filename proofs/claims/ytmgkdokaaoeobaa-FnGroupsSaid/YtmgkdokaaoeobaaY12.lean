/- Several texts in one: lemmas and walks of the functions that the law reaches. -/
import Derived.Test.YtmgkdokaaoeobaaY11

namespace Go.Proofs.Ytmgkdokaaoeobaa.GG
open Go.RowKit Go.Sort
set_option linter.unusedVariables false

/-- What the symmetric merge does, for fewer elements than N. -/
def SymLt (I : World → Prop) (g : Nat) (lt : G5 → G5 → Bool) (cv : Value) (N : Nat) : Prop :=
  ∀ (B0 c n : Nat) (pre L R post rs : List (G5)) (x y z : Int) (w : World), L.length + R.length < N → rs = pre ++ L ++ R ++ post → x = (pre.length : Nat) → y = ((pre.length + L.length : Nat) : Int) → z = ((pre.length + L.length + R.length : Nat) : Int) → 0 < L.length → 0 < R.length →
    Mg.Asc lt L → Mg.Asc lt R → rs.length = n → n ≤ 1000 → I w → w.ownsRow B0 34 5 (.slice (some ⟨g, 0, none⟩) n c) n (flat encG rs) →
    Calls Try.prog 42 #[.slice (some ⟨g, 0, none⟩) n c, .int .i64 x, .int .i64 y, .int .i64 z, cv] w fun e w' => e = .returned (.tuple #[]) ∧
      w'.ownsRow B0 34 5 (.slice (some ⟨g, 0, none⟩) n c) n (flat encG (pre ++ Mg.mrg lt L R ++ post)) ∧ w.grownBy w' (some g)

/-- The rotation, its numbers as they come. -/
theorem rotate_int (B0 g c n : Nat) (pre U V post rs : List (G5)) (x y z : Int) (cv : Value) (w : World) (hrs : rs = pre ++ U ++ V ++ post) (hx : x = (pre.length : Nat)) (hy : y = ((pre.length + U.length : Nat) : Int)) (hz : z = ((pre.length + U.length + V.length : Nat) : Int)) (hU : 0 < U.length) (hV : 0 < V.length) (hn : rs.length = n) (hn2 : n ≤ 1000)
    (h : w.ownsRow B0 34 5 (.slice (some ⟨g, 0, none⟩) n c) n (flat encG rs)) :
    Calls Try.prog 44 #[.slice (some ⟨g, 0, none⟩) n c, .int .i64 x, .int .i64 y, .int .i64 z, cv] w fun e w' => e = .returned (.tuple #[]) ∧
      w'.ownsRow B0 34 5 (.slice (some ⟨g, 0, none⟩) n c) n (flat encG (pre ++ V ++ U ++ post)) ∧ w.grownBy w' (some g) := by
  subst hx hy hz hrs
  exact rotate_any B0 g c n pre U V post _ _ _ cv w rfl rfl rfl hU hV hn hn2 h

theorem getD_get {l : List (G5)} {i : Nat} (h : i < l.length) : l.getD i (0, 0, 0, 0, 0) = l[i] := by
  rw [List.getD_eq_getElem?_getD, List.getElem?_eq_getElem h]; rfl

/-- The symmetric cut, as the loop leaves it. -/
theorem cut_of {lt : G5 → G5 → Bool} (S : Mg.SW lt) (L R : List (G5)) (s h0 : Nat) (hL : Mg.Asc lt L) (hR : Mg.Asc lt R) (hs : s ≤ L.length) (hs2 : s ≤ h0) (he : h0 ≤ s + R.length)
    (h1 : 0 < s → h0 - s < R.length → lt (R.getD (h0 - s) (0, 0, 0, 0, 0)) (L.getD (s - 1) (0, 0, 0, 0, 0)) = false) (h2 : s < h0 → s < L.length → lt (R.getD (h0 - 1 - s) (0, 0, 0, 0, 0)) (L.getD s (0, 0, 0, 0, 0)) = true) :
    Mg.mrg lt L R = Mg.mrg lt (L.take s) (R.take (h0 - s)) ++ Mg.mrg lt (L.drop s) (R.drop (h0 - s)) := by
  refine Mg.mrg_cut S hL hR hs (by omega) (fun q1 q2 => ?_) (fun q1 q2 => ?_)
  · have := h1 q1 q2
    rw [getD_get q2, getD_get (by omega)] at this
    exact this
  · have := h2 (by omega) q2
    rw [getD_get (by omega), getD_get q2] at this
    have e : h0 - 1 - s = h0 - s - 1 := by omega
    simp only [e] at this
    exact this

set_option maxRecDepth 100000 in
set_option maxHeartbeats 8000000 in
theorem symMerge_gen {I : World → Prop} {lt : G5 → G5 → Bool} (S : Mg.SW lt) {cv : Value} (B0 g c n : Nat) (pre L R post rs : List (G5)) (a m b : Nat) (w : World) (ha : pre.length = a) (hm : a + L.length = m) (hb : m + R.length = b) (hL1 : 2 ≤ L.length) (hR1 : 2 ≤ R.length) (hL : Mg.Asc lt L) (hR : Mg.Asc lt R) (hrs : rs = pre ++ L ++ R ++ post) (hn : rs.length = n) (hn2 : n ≤ 1000) (IH : SymLt I g lt cv (L.length + R.length)) (hI : I w) (HCV : CmpIs I g lt cv)
    (h : w.ownsRow B0 34 5 (.slice (some ⟨g, 0, none⟩) n c) n (flat encG rs)) :
    Calls Try.prog 42 #[.slice (some ⟨g, 0, none⟩) n c, .int .i64 a, .int .i64 m, .int .i64 b, cv] w fun e w' => e = .returned (.tuple #[]) ∧
      w'.ownsRow B0 34 5 (.slice (some ⟨g, 0, none⟩) n c) n (flat encG (pre ++ Mg.mrg lt L R ++ post)) ∧ w.grownBy w' (some g) := by
  have HO := Lib.hid h
  have hbn : b + post.length = n := by rw [← hn, hrs]; simp; omega
  have HRS := Lib.hid hrs
  have HNN := Lib.hid hn
  have HA := Lib.hid hL
  have HAR := Lib.hid hR
  have HIH := Lib.hid IH
  clear h hn hrs hL hR IH
  obtain ⟨h0, hh0⟩ : ∃ h0, h0 = (L.length + R.length) / 2 := ⟨_, rfl⟩
  have s0 : ((m : Int) - (a : Int) == 1) = false := by simp; omega
  have s1 : ((b : Int) - (m : Int) == 1) = false := by simp; omega
  have hh : ((a : Int) + (b : Int)) / 2 = (a : Int) + (h0 : Int) := by omega
  have hcut := Lib.hid (fun s => cut_of S L R s h0 HA.out HAR.out)
  have z0 : 1 ≤ h0 := by omega
  have z1 : h0 < L.length + R.length := by omega
  have z2 : a + h0 < b := by omega
  have z3 : L.length + R.length ≤ 2 * h0 + 1 := by omega
  have z4 : 2 * h0 ≤ L.length + R.length := by omega
  have HH := Lib.hid hh0
  clear hh0
  obtain ⟨hIg, G, cp, rfl, hcall, hcmp⟩ := HCV
  have HCM := Lib.hid hcmp; have HIG := Lib.hid (fun w' => hIg w w' hI)
  clear hcmp hIg
  by_cases hlt : h0 < L.length
  all_goals
    go_enter Try.func42, Try.ntmps42
    first
      | have q0 : decide ((a : Int) + (h0 : Int) < (m : Int)) = true := decide_eq_true (by omega)
      | have q0 : decide ((a : Int) + (h0 : Int) < (m : Int)) = false := decide_eq_false (by omega)
    go_wp2
    go_loopw [20, 21] (fun x y wr => ∃ p q : Nat, x = .int .i64 ((a : Int) + (p : Int)) ∧ y = .int .i64 ((a : Int) + (q : Int)) ∧ p ≤ q ∧ q ≤ h0 ∧ q ≤ L.length ∧ h0 ≤ p + R.length ∧ (0 < p → h0 - p < R.length → lt (R.getD (h0 - p) (0, 0, 0, 0, 0)) (L.getD (p - 1) (0, 0, 0, 0, 0)) = false) ∧ (q < h0 → q < L.length → lt (R.getD (h0 - 1 - q) (0, 0, 0, 0, 0)) (L.getD q (0, 0, 0, 0, 0)) = true) ∧ wr.ownsRow B0 34 5 (.slice (some ⟨g, 0, none⟩) n c) n (flat encG rs) ∧ w.grownBy wr (some g)) (fun x y _ => (intOf y).toNat - (intOf x).toNat)
    case atStart =>
      first
        | exact ⟨h0 - R.length, h0, by go_num, by go_num, by omega, by omega, by omega, by omega, fun h1 h2 => by omega, fun h => by omega, HO.out, grown_of_below (Below.refl w.heap.size w)⟩
        | exact ⟨0, L.length, by go_num, by go_num, by omega, by omega, by omega, by omega, fun h => by omega, fun h1 h2 => by omega, HO.out, grown_of_below (Below.refl w.heap.size w)⟩
    case round =>
      obtain ⟨p, q, rfl, rfl, hpq, hqh, hq, hpr, h1, h2, hown, hg⟩ := hrel
      have HO2 := Lib.hid hown; have HG2 := Lib.hid hg; have H1 := Lib.hid h1; have H2 := Lib.hid h2
      clear hown hg h1 h2 HO
      by_cases hlt2 : p < q
      · have q1 : decide ((a : Int) + (p : Int) < (a : Int) + (q : Int)) = true := decide_eq_true (by omega)
        obtain ⟨k, hk⟩ : ∃ k, k = (p + q) / 2 := ⟨_, rfl⟩
        have hkp : p ≤ k := by omega
        have hkq : k < q := by omega
        have hh2 : ((a : Int) + (p : Int) + ((a : Int) + (q : Int))) / 2 = (a : Int) + (k : Int) := by omega
        obtain ⟨u, hu⟩ : ∃ u, u = h0 - 1 - k := ⟨_, rfl⟩
        have hkL : k < L.length := by omega
        have huR : u < R.length := by omega
        have e1 : rs = pre ++ (L ++ R) ++ post := by rw [HRS.out]; simp only [List.append_assoc]
        have g1 : (L ++ R)[k]? = some (L.getD k (0, 0, 0, 0, 0)) := by
          rw [List.getElem?_append_left hkL, List.getD_eq_getElem?_getD, List.getElem?_eq_getElem hkL]; rfl
        have g0 : (L ++ R)[L.length + u]? = some (R.getD u (0, 0, 0, 0, 0)) := by
          rw [List.getElem?_append_right (by omega), Nat.add_sub_cancel_left, List.getD_eq_getElem?_getD, List.getElem?_eq_getElem huR]; rfl
        have HO3 := HO2.out
        rw [e1] at HO3
        obtain ⟨c1, c1', c1b, c1c, c1e⟩ := rec_cells HO3 (mid_at (post := post) ha g1)
        obtain ⟨c0, c0', c0b, c0c, c0e⟩ := rec_cells HO3 (mid_at (post := post) ha g0)
        rw [← Nat.add_assoc, hm] at c0 c0' c0b c0c c0e
        obtain ⟨X, hX⟩ : ∃ X, L.getD k (0, 0, 0, 0, 0) = X := ⟨_, rfl⟩
        obtain ⟨Y, hY⟩ : ∃ Y, R.getD u (0, 0, 0, 0, 0) = Y := ⟨_, rfl⟩
        rw [hX] at c1 c1' c1b c1c c1e
        rw [hY] at c0 c0' c0b c0c c0e
        have HX := Lib.hid hX
        have HY := Lib.hid hY
        have HU := Lib.hid hu
        have HK := Lib.hid hk
        have hcast : (a : Int) + (h0 : Int) + (m : Int) - 1 - ((a : Int) + (k : Int)) = (m : Int) + (u : Int) := by omega
        clear hY hX g1 g0 HO3 e1 hk hu
        have HCK := Lib.hid (fun W hW => HCM.out Y X W (HIG.out W hW))
        have hcall := hcall (#[.agg #[.int .i64 Y.1, .int .i64 Y.2.1, .int .i64 Y.2.2.1, .int .i64 Y.2.2.2.1, .int .i64 Y.2.2.2.2], .agg #[.int .i64 X.1, .int .i64 X.2.1, .int .i64 X.2.2.1, .int .i64 X.2.2.2.1, .int .i64 X.2.2.2.2]] ++ cp)
        obtain ⟨X1, X2, X3, X4, X5⟩ := X
        obtain ⟨Y1, Y2, Y3, Y4, Y5⟩ := Y
        have t1 : ((a : Int) + (k : Int)).toNat = a + k := by omega
        have t0 : ((m : Int) + (u : Int)).toNat = m + u := by omega
        have z0 : (0 : Int) ≤ (m : Int) + (u : Int) := by omega
        have b0 : (0 : Int) ≤ (a : Int) + (k : Int) := by omega
        have b1 : (a : Int) + (k : Int) < (n : Int) := by omega
        have b2 : (m : Int) + (u : Int) < (n : Int) := by omega
        -- TAIL
        have w1 : IntKind.i64.wrap ((m : Int) + (u : Int)) = (m : Int) + (u : Int) := IntWalk.i64_in _ (by omega)
        go_wp2_with fail
        clear hh2
        go_still_tail 11, (by kernel_rfl)
        go_wp2_with fail
        refine (HCK.out _ (grown_trans HG2.out (grown_of_below (Below.refl _ _).drew))).mono ?_
        rintro e w5 ⟨⟨nn, rfl, hnn⟩, hbc⟩
        have hbw : Below wr.heap.size wr w5 := (Below.refl _ _).drew.trans hbc
        have HO5 := Lib.hid (own_below HO2.out (Nat.le_refl _) hbw)
        have HG5 := Lib.hid (grown_trans HG2.out (grown_of_below hbw))
        clear hbc hbw HO2 HG2 HCK c1 c1' c1b c1c c1e c0 c0' c0b c0c c0e
        cases hyx : lt (Y1, Y2, Y3, Y4, Y5) (X1, X2, X3, X4, X5)
        · have hz : decide (nn < 0) = false := by rw [hnn]; exact hyx
          have HYX := Lib.hid hyx
          clear hnn hyx
          go_wp2
          go_roundw
          case rel => exact ⟨k + 1, q, by go_num, rfl, by omega, hqh, hq, by omega, fun _ _ => by rw [Nat.add_sub_cancel, HX.out, show h0 - (k + 1) = u by have := HU.out; omega, HY.out]; exact HYX.out, H2.out, HO5.out, HG5.out⟩
          case measure => simp [intOf] <;> omega
        · have hz : decide (nn < 0) = true := by rw [hnn]; exact hyx
          have HYX := Lib.hid hyx
          clear hnn hyx
          go_wp2
          go_roundw
          case rel => exact ⟨p, k, rfl, by go_num, by omega, by omega, by omega, hpr, H1.out, fun _ _ => by rw [HX.out, ← HU.out, HY.out]; exact HYX.out, HO5.out, HG5.out⟩
          case measure => simp [intOf] <;> omega
      · obtain rfl : p = q := by omega
        have q1 : decide ((a : Int) + (p : Int) < (a : Int) + (p : Int)) = false := decide_eq_false (by omega)
        obtain ⟨d, hd⟩ : ∃ d, d = h0 - p := ⟨_, rfl⟩
        have hcast : (a : Int) + (h0 : Int) + (m : Int) - ((a : Int) + (p : Int)) = (m : Int) + (d : Int) := by omega
        have hm' := hcut.out p hq hqh hpr H1.out H2.out
        rw [← hd] at hm'
        have eL := List.take_append_drop p L
        have eR := List.take_append_drop d R
        have l1 : (L.take p).length = p := by rw [List.length_take]; omega
        have l2 : (L.drop p).length = L.length - p := List.length_drop
        have l3 : (R.take d).length = d := by rw [List.length_take]; omega
        have l4 : (R.drop d).length = R.length - d := List.length_drop
        have a1 : Mg.Asc lt (L.take p) := List.Pairwise.sublist (List.take_sublist _ _) HA.out
        have a2 : Mg.Asc lt (L.drop p) := List.Pairwise.sublist (List.drop_sublist _ _) HA.out
        have a3 : Mg.Asc lt (R.take d) := List.Pairwise.sublist (List.take_sublist _ _) HAR.out
        have a4 : Mg.Asc lt (R.drop d) := List.Pairwise.sublist (List.drop_sublist _ _) HAR.out
        generalize L.take p = L1 at hm' eL l1 a1
        generalize L.drop p = L2 at hm' eL l2 a2
        generalize R.take d = R1 at hm' eR l3 a3
        generalize R.drop d = R2 at hm' eR l4 a4
        have HM := Lib.hid hm'; have HLL1 := Lib.hid l1; have HLL2 := Lib.hid l2; have HRL1 := Lib.hid l3; have HRL2 := Lib.hid l4
        have HA1 := Lib.hid a1; have HA2 := Lib.hid a2; have HA3 := Lib.hid a3; have HA4 := Lib.hid a4
        have HOa : Hid (wr.ownsRow B0 34 5 (.slice (some ⟨g, 0, none⟩) n c) n (flat encG (pre ++ L1 ++ L2 ++ R1 ++ (R2 ++ post)))) := by
          show World.ownsRow _ _ _ _ _ _ _
          have := HO2.out
          rw [HRS.out, ← eL, ← eR] at this
          simpa only [List.append_assoc] using this
        have HNa : Hid ((pre ++ L1 ++ L2 ++ R1 ++ (R2 ++ post)).length = n) := by
          show _ = _
          simp only [List.length_append]; omega
        have HNb : Hid ((pre ++ (L1 ++ R1) ++ (L2 ++ R2) ++ post).length = n) := by
          show _ = _
          simp only [List.length_append]; omega
        have hpa : (pre ++ L1).length = a + p := by rw [List.length_append]; omega
        have HPA := Lib.hid hpa
        have HPM : Hid ((pre ++ Mg.mrg lt L1 R1).length = a + h0) := by show _ = _; rw [List.length_append, Mg.mrg_length]; omega
        have HNc : Hid ((pre ++ Mg.mrg lt L1 R1 ++ (L2 ++ R2 ++ post)).length = n) := by
          show _ = _
          simp only [List.length_append, Mg.mrg_length]; omega
        have hda : d ≤ R.length := by omega
        have hpd : p + d = h0 := by omega
        clear hm' eL eR l1 l2 l3 l4 a1 a2 a3 a4 HO2 hcut HA HAR H1 H2 HRS hpa hd
        by_cases cA : p < L.length
        · by_cases cB : 0 < d
          · by_cases cC : 0 < p
            · by_cases cD : d < R.length
              · try (exfalso; omega)
                all_goals
                  have qa : decide ((a : Int) + (p : Int) < (m : Int)) = true := decide_eq_true (by omega)
                  have qb : decide ((m : Int) < (m : Int) + (d : Int)) = true := decide_eq_true (by omega)
                  have qc : decide ((a : Int) < (a : Int) + (p : Int)) = true := decide_eq_true (by omega)
                  have qd : decide ((a : Int) + (p : Int) < (a : Int) + (h0 : Int)) = true := decide_eq_true (by omega)
                  have qe : decide ((a : Int) + (h0 : Int) < (m : Int) + (d : Int)) = true := decide_eq_true (by omega)
                  have qf : decide ((m : Int) + (d : Int) < (b : Int)) = true := decide_eq_true (by omega)
                  go_wp2_with fail
                  refine (rotate_int B0 g c n (pre ++ L1) L2 R1 (R2 ++ post) _ _ _ _ _ _ rfl (by rw [HPA.out]; omega) (by rw [HPA.out, HLL2.out]; omega) (by rw [HPA.out, HLL2.out, HRL1.out]; omega) (by rw [HLL2.out]; omega) (by rw [HRL1.out]; omega) HNa.out hn2 HOa.out).mono ?_
                  rintro e w5 ⟨rfl, ho5, hg5⟩
                  have HOb : Hid (w5.ownsRow B0 34 5 (.slice (some ⟨g, 0, none⟩) n c) n (flat encG (pre ++ (L1 ++ R1) ++ (L2 ++ R2) ++ post))) := by
                    show World.ownsRow _ _ _ _ _ _ _
                    simpa only [List.append_assoc] using ho5
                  have HG5 := Lib.hid (grown_trans HG2.out hg5)
                  clear ho5 hg5 HOa
                  go_wp2_with fail
                  refine (HIH.out B0 c n pre L1 R1 (L2 ++ R2 ++ post) (pre ++ (L1 ++ R1) ++ (L2 ++ R2) ++ post) _ _ _ _ (by rw [HLL1.out, HRL1.out]; omega) (by simp only [List.append_assoc]) (by rw [ha]) (by rw [ha, HLL1.out]; omega) (by rw [ha, HLL1.out, HRL1.out]; omega) (by rw [HLL1.out]; omega) (by rw [HRL1.out]; omega) HA1.out HA3.out HNb.out hn2 (HIG.out _ HG5.out) HOb.out).mono ?_
                  rintro e w6 ⟨rfl, ho6, hg6⟩
                  have HOc := Lib.hid ho6
                  have HG6 := Lib.hid (grown_trans HG5.out hg6)
                  clear ho6 hg6 HOb
                  go_wp2_with fail
                  refine (HIH.out B0 c n (pre ++ Mg.mrg lt L1 R1) L2 R2 post (pre ++ Mg.mrg lt L1 R1 ++ (L2 ++ R2 ++ post)) _ _ _ _ (by rw [HLL2.out, HRL2.out]; omega) (by simp only [List.append_assoc]) (by rw [HPM.out]; omega) (by rw [HPM.out, HLL2.out]; omega) (by rw [HPM.out, HLL2.out, HRL2.out]; omega) (by rw [HLL2.out]; omega) (by rw [HRL2.out]; omega) HA2.out HA4.out HNc.out hn2 (HIG.out _ HG6.out) HOc.out).mono ?_
                  rintro e w7 ⟨rfl, ho7, hg7⟩
                  have HOd := Lib.hid ho7
                  have HG7 := Lib.hid (grown_trans HG6.out hg7)
                  clear ho7 hg7 HOc
                  rw [List.append_assoc pre, ← HM.out] at HOd
                  go_wp2
                  go_end0
                  exact ⟨rfl, HOd.out, HG7.out⟩
              · try (exfalso; omega)
                all_goals
                  have qa : decide ((a : Int) + (p : Int) < (m : Int)) = true := decide_eq_true (by omega)
                  have qb : decide ((m : Int) < (m : Int) + (d : Int)) = true := decide_eq_true (by omega)
                  have qc : decide ((a : Int) < (a : Int) + (p : Int)) = true := decide_eq_true (by omega)
                  have qd : decide ((a : Int) + (p : Int) < (a : Int) + (h0 : Int)) = true := decide_eq_true (by omega)
                  have qe : decide ((a : Int) + (h0 : Int) < (m : Int) + (d : Int)) = true := decide_eq_true (by omega)
                  have qf : decide ((m : Int) + (d : Int) < (b : Int)) = false := decide_eq_false (by omega)
                  go_wp2_with fail
                  refine (rotate_int B0 g c n (pre ++ L1) L2 R1 (R2 ++ post) _ _ _ _ _ _ rfl (by rw [HPA.out]; omega) (by rw [HPA.out, HLL2.out]; omega) (by rw [HPA.out, HLL2.out, HRL1.out]; omega) (by rw [HLL2.out]; omega) (by rw [HRL1.out]; omega) HNa.out hn2 HOa.out).mono ?_
                  rintro e w5 ⟨rfl, ho5, hg5⟩
                  have HOb : Hid (w5.ownsRow B0 34 5 (.slice (some ⟨g, 0, none⟩) n c) n (flat encG (pre ++ (L1 ++ R1) ++ (L2 ++ R2) ++ post))) := by
                    show World.ownsRow _ _ _ _ _ _ _
                    simpa only [List.append_assoc] using ho5
                  have HG5 := Lib.hid (grown_trans HG2.out hg5)
                  clear ho5 hg5 HOa
                  go_wp2_with fail
                  refine (HIH.out B0 c n pre L1 R1 (L2 ++ R2 ++ post) (pre ++ (L1 ++ R1) ++ (L2 ++ R2) ++ post) _ _ _ _ (by rw [HLL1.out, HRL1.out]; omega) (by simp only [List.append_assoc]) (by rw [ha]) (by rw [ha, HLL1.out]; omega) (by rw [ha, HLL1.out, HRL1.out]; omega) (by rw [HLL1.out]; omega) (by rw [HRL1.out]; omega) HA1.out HA3.out HNb.out hn2 (HIG.out _ HG5.out) HOb.out).mono ?_
                  rintro e w6 ⟨rfl, ho6, hg6⟩
                  have HOc := Lib.hid ho6
                  have HG6 := Lib.hid (grown_trans HG5.out hg6)
                  clear ho6 hg6 HOb
                  have HOd : Hid (w6.ownsRow B0 34 5 (.slice (some ⟨g, 0, none⟩) n c) n (flat encG (pre ++ Mg.mrg lt L1 R1 ++ Mg.mrg lt L2 R2 ++ post))) := by
                    show World.ownsRow _ _ _ _ _ _ _
                    have nR2 : R2 = [] := List.eq_nil_of_length_eq_zero (by have := HRL2.out; omega)
                    have := HOc.out
                    rw [nR2] at this ⊢
                    simpa only [List.append_assoc, List.nil_append, List.append_nil, Mg.mrg_nil, Mg.nil_mrg] using this
                  rw [List.append_assoc pre, ← HM.out] at HOd
                  go_wp2
                  go_end0
                  exact ⟨rfl, HOd.out, HG6.out⟩
            · by_cases cD : d < R.length
              · try (exfalso; omega)
                all_goals
                  have qa : decide ((a : Int) + (p : Int) < (m : Int)) = true := decide_eq_true (by omega)
                  have qb : decide ((m : Int) < (m : Int) + (d : Int)) = true := decide_eq_true (by omega)
                  have qc : decide ((a : Int) < (a : Int) + (p : Int)) = false := decide_eq_false (by omega)
                  have qd : decide ((a : Int) + (p : Int) < (a : Int) + (h0 : Int)) = true := decide_eq_true (by omega)
                  have qe : decide ((a : Int) + (h0 : Int) < (m : Int) + (d : Int)) = true := decide_eq_true (by omega)
                  have qf : decide ((m : Int) + (d : Int) < (b : Int)) = true := decide_eq_true (by omega)
                  go_wp2_with fail
                  refine (rotate_int B0 g c n (pre ++ L1) L2 R1 (R2 ++ post) _ _ _ _ _ _ rfl (by rw [HPA.out]; omega) (by rw [HPA.out, HLL2.out]; omega) (by rw [HPA.out, HLL2.out, HRL1.out]; omega) (by rw [HLL2.out]; omega) (by rw [HRL1.out]; omega) HNa.out hn2 HOa.out).mono ?_
                  rintro e w5 ⟨rfl, ho5, hg5⟩
                  have HOb : Hid (w5.ownsRow B0 34 5 (.slice (some ⟨g, 0, none⟩) n c) n (flat encG (pre ++ (L1 ++ R1) ++ (L2 ++ R2) ++ post))) := by
                    show World.ownsRow _ _ _ _ _ _ _
                    simpa only [List.append_assoc] using ho5
                  have HG5 := Lib.hid (grown_trans HG2.out hg5)
                  clear ho5 hg5 HOa
                  have HOc : Hid (w5.ownsRow B0 34 5 (.slice (some ⟨g, 0, none⟩) n c) n (flat encG (pre ++ Mg.mrg lt L1 R1 ++ (L2 ++ R2 ++ post)))) := by
                    show World.ownsRow _ _ _ _ _ _ _
                    have nL1 : L1 = [] := List.eq_nil_of_length_eq_zero (by have := HLL1.out; omega)
                    have := HOb.out
                    rw [nL1] at this ⊢
                    simpa only [List.append_assoc, List.nil_append, List.append_nil, Mg.mrg_nil, Mg.nil_mrg] using this
                  go_wp2_with fail
                  refine (HIH.out B0 c n (pre ++ Mg.mrg lt L1 R1) L2 R2 post (pre ++ Mg.mrg lt L1 R1 ++ (L2 ++ R2 ++ post)) _ _ _ _ (by rw [HLL2.out, HRL2.out]; omega) (by simp only [List.append_assoc]) (by rw [HPM.out]; omega) (by rw [HPM.out, HLL2.out]; omega) (by rw [HPM.out, HLL2.out, HRL2.out]; omega) (by rw [HLL2.out]; omega) (by rw [HRL2.out]; omega) HA2.out HA4.out HNc.out hn2 (HIG.out _ HG5.out) HOc.out).mono ?_
                  rintro e w7 ⟨rfl, ho7, hg7⟩
                  have HOd := Lib.hid ho7
                  have HG7 := Lib.hid (grown_trans HG5.out hg7)
                  clear ho7 hg7 HOc
                  rw [List.append_assoc pre, ← HM.out] at HOd
                  go_wp2
                  go_end0
                  exact ⟨rfl, HOd.out, HG7.out⟩
              · try (exfalso; omega)
                all_goals
                  have qa : decide ((a : Int) + (p : Int) < (m : Int)) = true := decide_eq_true (by omega)
                  have qb : decide ((m : Int) < (m : Int) + (d : Int)) = true := decide_eq_true (by omega)
                  have qc : decide ((a : Int) < (a : Int) + (p : Int)) = false := decide_eq_false (by omega)
                  have qd : decide ((a : Int) + (p : Int) < (a : Int) + (h0 : Int)) = true := decide_eq_true (by omega)
                  have qe : decide ((a : Int) + (h0 : Int) < (m : Int) + (d : Int)) = true := decide_eq_true (by omega)
                  have qf : decide ((m : Int) + (d : Int) < (b : Int)) = false := decide_eq_false (by omega)
                  go_wp2_with fail
                  refine (rotate_int B0 g c n (pre ++ L1) L2 R1 (R2 ++ post) _ _ _ _ _ _ rfl (by rw [HPA.out]; omega) (by rw [HPA.out, HLL2.out]; omega) (by rw [HPA.out, HLL2.out, HRL1.out]; omega) (by rw [HLL2.out]; omega) (by rw [HRL1.out]; omega) HNa.out hn2 HOa.out).mono ?_
                  rintro e w5 ⟨rfl, ho5, hg5⟩
                  have HOb : Hid (w5.ownsRow B0 34 5 (.slice (some ⟨g, 0, none⟩) n c) n (flat encG (pre ++ (L1 ++ R1) ++ (L2 ++ R2) ++ post))) := by
                    show World.ownsRow _ _ _ _ _ _ _
                    simpa only [List.append_assoc] using ho5
                  have HG5 := Lib.hid (grown_trans HG2.out hg5)
                  clear ho5 hg5 HOa
                  have HOc : Hid (w5.ownsRow B0 34 5 (.slice (some ⟨g, 0, none⟩) n c) n (flat encG (pre ++ Mg.mrg lt L1 R1 ++ (L2 ++ R2 ++ post)))) := by
                    show World.ownsRow _ _ _ _ _ _ _
                    have nL1 : L1 = [] := List.eq_nil_of_length_eq_zero (by have := HLL1.out; omega)
                    have := HOb.out
                    rw [nL1] at this ⊢
                    simpa only [List.append_assoc, List.nil_append, List.append_nil, Mg.mrg_nil, Mg.nil_mrg] using this
                  have HOd : Hid (w5.ownsRow B0 34 5 (.slice (some ⟨g, 0, none⟩) n c) n (flat encG (pre ++ Mg.mrg lt L1 R1 ++ Mg.mrg lt L2 R2 ++ post))) := by
                    show World.ownsRow _ _ _ _ _ _ _
                    have nR2 : R2 = [] := List.eq_nil_of_length_eq_zero (by have := HRL2.out; omega)
                    have := HOc.out
                    rw [nR2] at this ⊢
                    simpa only [List.append_assoc, List.nil_append, List.append_nil, Mg.mrg_nil, Mg.nil_mrg] using this
                  rw [List.append_assoc pre, ← HM.out] at HOd
                  go_wp2
                  go_end0
                  exact ⟨rfl, HOd.out, HG5.out⟩
          · try (exfalso; omega)
            all_goals
              have qa : decide ((a : Int) + (p : Int) < (m : Int)) = true := decide_eq_true (by omega)
              have qb : decide ((m : Int) < (m : Int) + (d : Int)) = false := decide_eq_false (by omega)
              have qc : decide ((a : Int) < (a : Int) + (p : Int)) = true := decide_eq_true (by omega)
              have qd : decide ((a : Int) + (p : Int) < (a : Int) + (h0 : Int)) = false := decide_eq_false (by omega)
              have qe : decide ((a : Int) + (h0 : Int) < (m : Int) + (d : Int)) = true := decide_eq_true (by omega)
              have qf : decide ((m : Int) + (d : Int) < (b : Int)) = true := decide_eq_true (by omega)
              have HOb : Hid (wr.ownsRow B0 34 5 (.slice (some ⟨g, 0, none⟩) n c) n (flat encG (pre ++ (L1 ++ R1) ++ (L2 ++ R2) ++ post))) := by
                show World.ownsRow _ _ _ _ _ _ _
                have nR1 : R1 = [] := List.eq_nil_of_length_eq_zero (by have := HRL1.out; omega)
                have := HOa.out
                rw [nR1] at this ⊢
                simpa only [List.append_assoc, List.nil_append, List.append_nil] using this
              have HOc : Hid (wr.ownsRow B0 34 5 (.slice (some ⟨g, 0, none⟩) n c) n (flat encG (pre ++ Mg.mrg lt L1 R1 ++ (L2 ++ R2 ++ post)))) := by
                show World.ownsRow _ _ _ _ _ _ _
                have nR1 : R1 = [] := List.eq_nil_of_length_eq_zero (by have := HRL1.out; omega)
                have := HOb.out
                rw [nR1] at this ⊢
                simpa only [List.append_assoc, List.nil_append, List.append_nil, Mg.mrg_nil, Mg.nil_mrg] using this
              go_wp2_with fail
              refine (HIH.out B0 c n (pre ++ Mg.mrg lt L1 R1) L2 R2 post (pre ++ Mg.mrg lt L1 R1 ++ (L2 ++ R2 ++ post)) _ _ _ _ (by rw [HLL2.out, HRL2.out]; omega) (by simp only [List.append_assoc]) (by rw [HPM.out]; omega) (by rw [HPM.out, HLL2.out]; omega) (by rw [HPM.out, HLL2.out, HRL2.out]; omega) (by rw [HLL2.out]; omega) (by rw [HRL2.out]; omega) HA2.out HA4.out HNc.out hn2 (HIG.out _ HG2.out) HOc.out).mono ?_
              rintro e w7 ⟨rfl, ho7, hg7⟩
              have HOd := Lib.hid ho7
              have HG7 := Lib.hid (grown_trans HG2.out hg7)
              clear ho7 hg7 HOc
              rw [List.append_assoc pre, ← HM.out] at HOd
              go_wp2
              go_end0
              exact ⟨rfl, HOd.out, HG7.out⟩
        · by_cases cB : 0 < d
          · try (exfalso; omega)
            all_goals
              have qa : decide ((a : Int) + (p : Int) < (m : Int)) = false := decide_eq_false (by omega)
              have qb : decide ((m : Int) < (m : Int) + (d : Int)) = true := decide_eq_true (by omega)
              have qc : decide ((a : Int) < (a : Int) + (p : Int)) = true := decide_eq_true (by omega)
              have qd : decide ((a : Int) + (p : Int) < (a : Int) + (h0 : Int)) = true := decide_eq_true (by omega)
              have qe : decide ((a : Int) + (h0 : Int) < (m : Int) + (d : Int)) = false := decide_eq_false (by omega)
              have qf : decide ((m : Int) + (d : Int) < (b : Int)) = decide ((m : Int) + (d : Int) < (b : Int)) := rfl
              have HOb : Hid (wr.ownsRow B0 34 5 (.slice (some ⟨g, 0, none⟩) n c) n (flat encG (pre ++ (L1 ++ R1) ++ (L2 ++ R2) ++ post))) := by
                show World.ownsRow _ _ _ _ _ _ _
                have nL2 : L2 = [] := List.eq_nil_of_length_eq_zero (by have := HLL2.out; omega)
                have := HOa.out
                rw [nL2] at this ⊢
                simpa only [List.append_assoc, List.nil_append, List.append_nil] using this
              go_wp2_with fail
              refine (HIH.out B0 c n pre L1 R1 (L2 ++ R2 ++ post) (pre ++ (L1 ++ R1) ++ (L2 ++ R2) ++ post) _ _ _ _ (by rw [HLL1.out, HRL1.out]; omega) (by simp only [List.append_assoc]) (by rw [ha]) (by rw [ha, HLL1.out]; omega) (by rw [ha, HLL1.out, HRL1.out]; omega) (by rw [HLL1.out]; omega) (by rw [HRL1.out]; omega) HA1.out HA3.out HNb.out hn2 (HIG.out _ HG2.out) HOb.out).mono ?_
              rintro e w6 ⟨rfl, ho6, hg6⟩
              have HOc := Lib.hid ho6
              have HG6 := Lib.hid (grown_trans HG2.out hg6)
              clear ho6 hg6 HOb
              have HOd : Hid (w6.ownsRow B0 34 5 (.slice (some ⟨g, 0, none⟩) n c) n (flat encG (pre ++ Mg.mrg lt L1 R1 ++ Mg.mrg lt L2 R2 ++ post))) := by
                show World.ownsRow _ _ _ _ _ _ _
                have nL2 : L2 = [] := List.eq_nil_of_length_eq_zero (by have := HLL2.out; omega)
                have := HOc.out
                rw [nL2] at this ⊢
                simpa only [List.append_assoc, List.nil_append, List.append_nil, Mg.mrg_nil, Mg.nil_mrg] using this
              rw [List.append_assoc pre, ← HM.out] at HOd
              go_wp2
              go_end0
              exact ⟨rfl, HOd.out, HG6.out⟩
          · try (exfalso; omega)
            all_goals
              have qa : decide ((a : Int) + (p : Int) < (m : Int)) = false := decide_eq_false (by omega)
              have qb : decide ((m : Int) < (m : Int) + (d : Int)) = false := decide_eq_false (by omega)
              have qc : decide ((a : Int) < (a : Int) + (p : Int)) = true := decide_eq_true (by omega)
              have qd : decide ((a : Int) + (p : Int) < (a : Int) + (h0 : Int)) = false := decide_eq_false (by omega)
              have qe : decide ((a : Int) + (h0 : Int) < (m : Int) + (d : Int)) = false := decide_eq_false (by omega)
              have qf : decide ((m : Int) + (d : Int) < (b : Int)) = true := decide_eq_true (by omega)
              have HOb : Hid (wr.ownsRow B0 34 5 (.slice (some ⟨g, 0, none⟩) n c) n (flat encG (pre ++ (L1 ++ R1) ++ (L2 ++ R2) ++ post))) := by
                show World.ownsRow _ _ _ _ _ _ _
                have nL2 : L2 = [] := List.eq_nil_of_length_eq_zero (by have := HLL2.out; omega)
                have := HOa.out
                rw [nL2] at this ⊢
                simpa only [List.append_assoc, List.nil_append, List.append_nil] using this
              have HOc : Hid (wr.ownsRow B0 34 5 (.slice (some ⟨g, 0, none⟩) n c) n (flat encG (pre ++ Mg.mrg lt L1 R1 ++ (L2 ++ R2 ++ post)))) := by
                show World.ownsRow _ _ _ _ _ _ _
                have nR1 : R1 = [] := List.eq_nil_of_length_eq_zero (by have := HRL1.out; omega)
                have := HOb.out
                rw [nR1] at this ⊢
                simpa only [List.append_assoc, List.nil_append, List.append_nil, Mg.mrg_nil, Mg.nil_mrg] using this
              have HOd : Hid (wr.ownsRow B0 34 5 (.slice (some ⟨g, 0, none⟩) n c) n (flat encG (pre ++ Mg.mrg lt L1 R1 ++ Mg.mrg lt L2 R2 ++ post))) := by
                show World.ownsRow _ _ _ _ _ _ _
                have nL2 : L2 = [] := List.eq_nil_of_length_eq_zero (by have := HLL2.out; omega)
                have := HOc.out
                rw [nL2] at this ⊢
                simpa only [List.append_assoc, List.nil_append, List.append_nil, Mg.mrg_nil, Mg.nil_mrg] using this
              rw [List.append_assoc pre, ← HM.out] at HOd
              go_wp2
              go_end0
              exact ⟨rfl, HOd.out, HG2.out⟩

set_option maxHeartbeats 2000000 in
theorem symLt_all {I : World → Prop} {g : Nat} {lt : G5 → G5 → Bool} (S : Mg.SW lt) {cv : Value} (HCV : CmpIs I g lt cv) : ∀ N, SymLt I g lt cv N
  | 0 => fun _ _ _ _ _ _ _ _ _ _ _ _ h => absurd h (by omega)
  | N + 1 => fun B0 c n pre L R post rs x y z w hlt hrs hx hy hz hL hR hLa hRa hn hn2 hI ho => by
    have IH : SymLt I g lt cv (L.length + R.length) := fun B0 c n pre' L' R' post' rs' x y z w h => symLt_all S HCV N B0 c n pre' L' R' post' rs' x y z w (by omega)
    subst hx hy hz
    by_cases h1 : L.length = 1
    · obtain ⟨X, rfl⟩ := List.length_eq_one_iff.1 h1
      have := symMerge_one S B0 g c n pre R post rs X pre.length (pre.length + 1 + R.length) w rfl rfl hRa hrs hn hn2 hI HCV ho
      rw [List.length_singleton]
      have e : (((pre.length + 1 : Nat)) : Int) = (pre.length : Int) + 1 := by omega
      rw [e]
      exact this
    · by_cases h2 : R.length = 1
      · obtain ⟨X, rfl⟩ := List.length_eq_one_iff.1 h2
        have := symMerge_last S B0 g c n pre L post rs X pre.length (pre.length + L.length) w rfl rfl h1 hLa hrs hn hn2 hI HCV ho
        rw [List.length_singleton]
        have e : (((pre.length + L.length + 1 : Nat)) : Int) = ((pre.length + L.length : Nat) : Int) + 1 := by omega
        rw [e]
        exact this
      · exact symMerge_gen S B0 g c n pre L R post rs _ _ _ w rfl rfl rfl (by omega) (by omega) hLa hRa hrs hn hn2 IH hI HCV ho

theorem symOk {I : World → Prop} {g : Nat} {lt : G5 → G5 → Bool} (S : Mg.SW lt) {cv : Value} (HCV : CmpIs I g lt cv) : SymOk I g lt cv :=
  fun B0 c n pre L R post rs x y z w => symLt_all S HCV (L.length + R.length + 1) B0 c n pre L R post rs x y z w (by omega)

end Go.Proofs.Ytmgkdokaaoeobaa.GG

namespace Go.Proofs.Ytmgkdokaaoeobaa.GG
open Go.RowKit Go.Sort
set_option linter.unusedVariables false

set_option maxRecDepth 100000 in
set_option maxHeartbeats 2000000 in
theorem sortStable_any {I : World → Prop} {lt : G5 → G5 → Bool} (S : Mg.SW lt) {cv : Value} (B0 g c n : Nat) (L : List (G5)) (w : World) (hn : L.length = n) (hn2 : n ≤ 1000) (hI : I w) (HCV : CmpIs I g lt cv)
    (h : w.ownsRow B0 34 5 (.slice (some ⟨g, 0, none⟩) n c) n (flat encG L)) :
    Calls Try.prog 22 #[.slice (some ⟨g, 0, none⟩) n c, cv] w fun e w' => e = .returned (.tuple #[]) ∧
      w'.ownsRow B0 34 5 (.slice (some ⟨g, 0, none⟩) n c) n (flat encG (Mg.srt lt L)) ∧ w.grownBy w' (some g) := by
  have HC := Lib.hid (stableCmp_any S B0 g c n L w hn hn2 hI HCV (symOk S HCV) h)
  clear h HCV hI
  go_enter Try.func22, Try.ntmps22
  go_wp2_with fail
  refine HC.out.mono ?_
  rintro e w5 ⟨rfl, ho5, hg5⟩
  have HO5 := Lib.hid ho5; have HG5 := Lib.hid hg5
  clear ho5 hg5
  go_wp2
  go_end0
  exact ⟨rfl, HO5.out, HG5.out⟩

end Go.Proofs.Ytmgkdokaaoeobaa.GG

namespace Go.Proofs.Ytmgkdokaaoeobaa.GG
open Go.RowKit Go.Sort
set_option linter.unusedVariables false

/-- A list of groups in new memory. -/
def OwnG (w : World) (l : List G5) (n : Nat) (e : Ending) (w' : World) : Prop :=
  ∃ (g c : Nat), e = .returned (.slice (some ⟨g, 0, none⟩) n c) ∧ GRow w' w.heap.size g c n l ∧ Below w.heap.size w w'
theorem grow_len {w : World} {B n : Nat} {v : Value} {L : List G5} (h : w.ownsRow B 34 5 v n (flat encG L)) : L.length = n := by
  have := h.1
  rw [flat_length encG_len] at this
  omega
theorem encG_ones (L : List G5) : ∀ v ∈ flat encG L, v.oneCell' = true := by
  intro v hv
  obtain ⟨r, _, hr⟩ := List.mem_flatMap.1 hv
  exact encG_one r v hr

set_option maxRecDepth 100000 in
set_option maxHeartbeats 2000000 in
theorem copyOfG_any (B c n : Nat) (a : Option Addr) (L : List G5) (w : World) (hn : n ≤ 2000) (h : w.ownsRow B 34 5 (.slice a n c) n (flat encG L)) :
    Calls Try.prog 21 #[.slice a n c] w (OwnG w L n) := by
  have E0 := Lib.hid (own_lit (w := w) (e := 34) (size := 5) #[] 0 (by omega) rfl)
  have HB := Lib.hid (show Below w.heap.size w (w.alloc (.cells #[] 34)) from (Below.refl _ _).alloc (Nat.le_refl _) _)
  have HU := Lib.hid (own_below h (Nat.le_refl _) HB.out)
  have hle : w.heap.size ≤ (w.alloc (.cells #[] 34)).heap.size := by simp
  have hsm : 0 + n ≤ 1099511627776 := by omega
  have HS := Lib.hid hsm; have HLE := Lib.hid hle
  clear h hsm hle
  unfold OwnG
  go_enter Try.func21, Try.ntmps21
  go_wp2_with (at_builtin; refine wpList_appL (v := .slice (some ⟨w.heap.size, 0, none⟩) 0 0) slGrp rfl _ _ rfl rfl E0.out rfl HU.out (encG_ones L) HS.out HLE.out ?_; intro v' w2 hown2 hg2 ht2; obtain ⟨a', c', rfl⟩ := own_slice hown2; have HO := Lib.hid hown2; have HG := Lib.hid hg2; have HT := Lib.hid ht2; clear hown2 hg2 ht2)
  go_wp2
  go_ret
  obtain ⟨g2, rfl, _, _⟩ := own_addr HO.out (by
    rcases HT.out with h | h
    · rw [h]; simp [Value.ownBlock]
    · rw [h]; simp)
  refine ⟨g2, c', rfl, ?_, HB.out.grown HG.out (by simp) (fun k hk => ?_)⟩
  · have := HO.out
    rw [Nat.zero_add] at this
    simpa using this
  · simp [Value.ownBlock] at hk; omega

set_option maxRecDepth 100000 in
set_option maxHeartbeats 2000000 in
theorem cmpKey_any (r s : G5) (w : World) :
    Calls Try.prog 30 #[.agg #[.int .i64 r.1, .int .i64 r.2.1, .int .i64 r.2.2.1, .int .i64 r.2.2.2.1, .int .i64 r.2.2.2.2], .agg #[.int .i64 s.1, .int .i64 s.2.1, .int .i64 s.2.2.1, .int .i64 s.2.2.2.1, .int .i64 s.2.2.2.2]] w fun e w' => (∃ n : Int, e = .returned (.int .i64 n) ∧ (decide (n < 0) = Mg.ltK Mg.gKey r s)) ∧ Below w.heap.size w w' := by
  obtain ⟨r1, r2, r3, r4, r5⟩ := r
  obtain ⟨s1, s2, s3, s4, s5⟩ := s
  have HC := Lib.hid (fun W => Try.cmp_Compare_int r1 s1 W)
  have HD : Hid (decide (Lib.compareInt r1 s1 < 0) = Mg.ltK Mg.gKey (r1, r2, r3, r4, r5) (s1, s2, s3, s4, s5)) := by
    show _ = _
    have e : Mg.ltK Mg.gKey (r1, r2, r3, r4, r5) (s1, s2, s3, s4, s5) = decide (r1 < s1) := by rfl
    rw [e]
    unfold Lib.compareInt
    by_cases h1 : r1 < s1
    · rw [if_pos h1, decide_eq_true h1]; rfl
    · rw [if_neg h1, decide_eq_false h1]; split <;> rfl
  have HB := Lib.hid (((Below.refl w.heap.size w).alloc (Nat.le_refl _) (.cells #[.int .i64 r1, .int .i64 r2, .int .i64 r3, .int .i64 r4, .int .i64 r5] 34)).alloc (by simp) (.cells #[.int .i64 s1, .int .i64 s2, .int .i64 s3, .int .i64 s4, .int .i64 s5] 34))
  go_enter Try.func30, Try.ntmps30
  go_wp2_with fail
  refine (HC.out _).mono ?_
  rintro e w' ⟨rfl, rfl⟩
  go_wp2
  go_ret
  exact ⟨⟨_, rfl, HD.out⟩, HB.out⟩

set_option maxRecDepth 100000 in
set_option maxHeartbeats 2000000 in
theorem cmpCnt_any (r s : G5) (w : World) :
    Calls Try.prog 23 #[.agg #[.int .i64 r.1, .int .i64 r.2.1, .int .i64 r.2.2.1, .int .i64 r.2.2.2.1, .int .i64 r.2.2.2.2], .agg #[.int .i64 s.1, .int .i64 s.2.1, .int .i64 s.2.2.1, .int .i64 s.2.2.2.1, .int .i64 s.2.2.2.2]] w fun e w' => (∃ n : Int, e = .returned (.int .i64 n) ∧ (decide (n < 0) = Mg.ltK (fun g : G5 => -g.2.1) r s)) ∧ Below w.heap.size w w' := by
  obtain ⟨r1, r2, r3, r4, r5⟩ := r
  obtain ⟨s1, s2, s3, s4, s5⟩ := s
  have HC := Lib.hid (fun W => Try.cmp_Compare_int s2 r2 W)
  have HD : Hid (decide (Lib.compareInt s2 r2 < 0) = Mg.ltK (fun g : G5 => -g.2.1) (r1, r2, r3, r4, r5) (s1, s2, s3, s4, s5)) := by
    show _ = _
    have e : Mg.ltK (fun g : G5 => -g.2.1) (r1, r2, r3, r4, r5) (s1, s2, s3, s4, s5) = decide (s2 < r2) := by unfold Mg.ltK; congr 1; simp only [eq_iff_iff]; omega
    rw [e]
    unfold Lib.compareInt
    by_cases h1 : s2 < r2
    · rw [if_pos h1, decide_eq_true h1]; rfl
    · rw [if_neg h1, decide_eq_false h1]; split <;> rfl
  have HB := Lib.hid (((Below.refl w.heap.size w).alloc (Nat.le_refl _) (.cells #[.int .i64 r1, .int .i64 r2, .int .i64 r3, .int .i64 r4, .int .i64 r5] 34)).alloc (by simp) (.cells #[.int .i64 s1, .int .i64 s2, .int .i64 s3, .int .i64 s4, .int .i64 s5] 34))
  go_enter Try.func23, Try.ntmps23
  go_wp2_with fail
  refine (HC.out _).mono ?_
  rintro e w' ⟨rfl, rfl⟩
  go_wp2
  go_ret
  exact ⟨⟨_, rfl, HD.out⟩, HB.out⟩
def keyV : Value := .func (.func 30) #[] #[]
theorem keyV_is (g : Nat) : CmpIs (fun _ => True) g (Mg.ltK Mg.gKey) keyV :=
  ⟨fun _ _ _ _ => trivial, 30, #[], rfl, fun args w => by kernel_rfl, fun r s w _ => cmpKey_any r s w⟩
def cntV : Value := .func (.func 23) #[] #[]
theorem cntV_is (g : Nat) : CmpIs (fun _ => True) g (Mg.ltK fun g : G5 => -g.2.1) cntV :=
  ⟨fun _ _ _ _ => trivial, 23, #[], rfl, fun args w => by kernel_rfl, fun r s w _ => cmpCnt_any r s w⟩
theorem wpList_maxG {P : Program} {w : World} {ops : Array Oper} {rest : List Oper} {o : Oper} {a : Act} {Q : Exit → Act → World → Prop} {t : TypeId} (hgd : o.guard = none) (s y : Operand)
    (ho : o.op = .call { callee := .builtin .max, args := #[s, y], argTypes := #[t, t] }) {x z M : Int} (hs : a.eval s = .int .i64 x) (hy : a.eval y = .int .i64 z) (hM : max x z = M)
    (h : wpList P ops Q rest (a.put o.dst (.int .i64 M)) w) : wpList P ops Q (o :: rest) a w := by
  refine wpList_plain hgd fun K hK => ?_
  have e : (if z > x then z else x) = M := by rw [← hM]; omega
  unfold Oper.wp execOp
  simp only [ho, resolve, invoke, builtin, Sem.run_bind, Sem.run_pure, Result.andThen_ok, List.map_toArray, List.map_cons, List.map_nil, hs, hy, run_max_int2, e]
  exact hK _ _ h

/-- What may be joined: counts and sums in bounds. -/
def Jb (l : List G5) : Prop := ∀ g ∈ l, 1 ≤ g.2.1 ∧ g.2.1 ≤ 1000000 ∧ 0 ≤ g.2.2.1 ∧ g.2.2.1 ≤ 1000000000
theorem le_sum {f : G5 → Int} : ∀ {l : List G5}, (∀ g ∈ l, 0 ≤ f g) → (0 ≤ (l.map f).sum) ∧ ∀ g ∈ l, f g ≤ (l.map f).sum
  | [], _ => ⟨Int.le_refl _, fun g h => nomatch h⟩
  | x :: r, h => by
    obtain ⟨i1, i2⟩ := le_sum (l := r) (fun g hg => h g (List.mem_cons_of_mem _ hg))
    have hx := h x (by simp)
    rw [List.map_cons, List.sum_cons]
    refine ⟨by omega, fun g hg => ?_⟩
    rcases List.mem_cons.1 hg with rfl | hg
    · omega
    · have := i2 g hg; omega
theorem sum_le {f : G5 → Int} {M : Int} : ∀ {l : List G5}, (∀ g ∈ l, f g ≤ M) → (l.map f).sum ≤ l.length * M
  | [], _ => by simp
  | x :: r, h => by
    have i := sum_le (l := r) (fun g hg => h g (List.mem_cons_of_mem _ hg))
    have hx := h x (by simp)
    rw [List.map_cons, List.sum_cons, List.length_cons, show ((r.length + 1 : Nat) : Int) = (r.length : Int) + 1 by omega, Int.add_mul, Int.one_mul]
    omega
theorem jn_bounds {l : List G5} (h : Jb l) (hl : l.length ≤ 200) : ∀ g ∈ Mg.jn Mg.gKey Mg.gOp l, 1 ≤ g.2.1 ∧ g.2.1 ≤ 200000000 ∧ 0 ≤ g.2.2.1 ∧ g.2.2.1 ≤ 200000000000 := by
  have hp := Mg.jn_all (key := Mg.gKey) (op := Mg.gOp) (P := fun g => 1 ≤ g.2.1 ∧ 0 ≤ g.2.2.1) (fun a b ha hb => by
    unfold Mg.gOp
    simp only at ha hb ⊢
    omega) l (fun x hx => by have := h x hx; omega)
  have s1 := Mg.jn_sum (key := Mg.gKey) (op := Mg.gOp) (cnt := fun g : G5 => g.2.1) (fun a b => rfl) l
  have s2 := Mg.jn_sum (key := Mg.gKey) (op := Mg.gOp) (cnt := fun g : G5 => g.2.2.1) (fun a b => rfl) l
  have u1 := (le_sum (f := fun g : G5 => g.2.1) (l := Mg.jn Mg.gKey Mg.gOp l) (fun g hg => by have := hp g hg; omega)).2
  have u2 := (le_sum (f := fun g : G5 => g.2.2.1) (l := Mg.jn Mg.gKey Mg.gOp l) (fun g hg => (hp g hg).2)).2
  have v1 := sum_le (f := fun g : G5 => g.2.1) (M := 1000000) (l := l) (fun g hg => (h g hg).2.1)
  have v2 := sum_le (f := fun g : G5 => g.2.2.1) (M := 1000000000) (l := l) (fun g hg => (h g hg).2.2.2)
  intro g hg
  have a1 := hp g hg
  have a2 := u1 g hg
  have a3 := u2 g hg
  rw [s1] at a2
  rw [s2] at a3
  refine ⟨a1.1, ?_, a1.2, ?_⟩ <;> omega
theorem jn_take {l : List G5} {i : Nat} (hi : i < l.length) : Mg.jn Mg.gKey Mg.gOp (l.take (i + 1)) = Mg.jStep Mg.gKey Mg.gOp (Mg.jn Mg.gKey Mg.gOp (l.take i)) l[i] := by
  unfold Mg.jn
  rw [List.take_add_one, List.getElem?_eq_getElem hi, List.foldl_append]
  rfl
theorem jn_len (l : List G5) : (Mg.jn Mg.gKey Mg.gOp l).length ≤ l.length := by
  refine Mg.list_snoc (P := fun l => (Mg.jn Mg.gKey Mg.gOp l).length ≤ l.length) (Nat.le_refl _) ?_ l
  intro l x ih
  have e : Mg.jn Mg.gKey Mg.gOp (l ++ [x]) = Mg.jStep Mg.gKey Mg.gOp (Mg.jn Mg.gKey Mg.gOp l) x := by unfold Mg.jn; rw [List.foldl_append]; rfl
  rw [e, List.length_append, List.length_singleton]
  unfold Mg.jStep
  split
  · split
    · rename_i h0 _ _
      rw [List.length_append, List.length_dropLast, List.length_singleton]; omega
    · rw [List.length_append, List.length_singleton]; omega
  · rw [List.length_singleton]; omega
end Go.Proofs.Ytmgkdokaaoeobaa.GG

namespace Go.Proofs.Ytmgkdokaaoeobaa.GG
open Go.RowKit Go.Sort
set_option linter.unusedVariables false

theorem last_snoc {J : List G5} {q : Nat} (hq : J.length = q + 1) : ∃ h, J.getLast? = some h ∧ J[q]? = some h ∧ J = J.dropLast ++ [h] ∧ J.dropLast.length = q := by
  have hne : J ≠ [] := fun e => by rw [e] at hq; cases hq
  refine ⟨J.getLast hne, List.getLast?_eq_some_getLast hne, ?_, (List.dropLast_concat_getLast hne).symm, by rw [List.length_dropLast]; omega⟩
  rw [← List.getLast?_eq_some_getLast hne, List.getLast?_eq_getElem?, hq]; rfl
theorem set_last {J : List G5} {q : Nat} {h x : G5} (hq : J.dropLast.length = q) (e : J = J.dropLast ++ [h]) : J.set q x = J.dropLast ++ [x] := by
  conv => lhs; rw [e]
  rw [List.set_append, if_neg (by omega), hq, Nat.sub_self]; rfl

set_option maxRecDepth 100000 in
set_option maxHeartbeats 8000000 in
theorem joined_any (B c n : Nat) (a : Option Addr) (L : List G5) (w : World) (hn : n ≤ 200) (hJ : Jb L) (h : w.ownsRow B 34 5 (.slice a n c) n (flat encG L)) :
    Calls Try.prog 16 #[.slice a n c] w (fun e w' => ∃ m, OwnG w (Mg.jn Mg.gKey Mg.gOp (Mg.srt (Mg.ltK Mg.gKey) L)) m e w') := by
  have hl := grow_len h
  have HC := Lib.hid (copyOfG_any B c n a L w (by omega) h)
  have HSS := Lib.hid (fun B0 g c W h => sortStable_any (Mg.swK Mg.gKey) B0 g c n L W hl (by omega) trivial (keyV_is g) h)
  obtain ⟨S, hS⟩ : ∃ S, Mg.srt (Mg.ltK Mg.gKey) L = S := ⟨_, rfl⟩
  have hSl : S.length = n := by rw [← hS, Mg.srt_length]; exact hl
  have hSJ : Jb S := by rw [← hS]; exact fun x hx => hJ x (Mg.srt_mem.1 hx)
  rw [hS] at HSS
  rw [hS]
  have HSL := Lib.hid hSl; have HSJ := Lib.hid hSJ
  clear h hl hS hSl hSJ hJ
  unfold OwnG at *
  go_enter Try.func16, Try.ntmps16
  go_wp2_with fail
  refine HC.out.mono ?_
  rintro e w1 ⟨g1, c1, rfl, ho, hb⟩
  have hgw := ho.lt g1 rfl
  have E0 := own_lit (w := w1) (e := 34) (size := 5) #[] 0 (by omega) rfl
  have hba := (Below.refl w1.heap.size w1).alloc (Nat.le_refl _) (.cells #[] 34)
  have HO2 := Lib.hid (own_below ho (Nat.le_refl _) hba)
  have HE0 := Lib.hid E0
  have HB2 := Lib.hid (hb.trans (hba.mono hb.size))
  have hs1 := hb.size
  have hlt1 : g1 < w1.heap.size := hgw.2
  clear ho hb HC E0 hba
  go_wp2_with fail
  refine (HSS.out _ _ _ _ HO2.out).mono ?_
  rintro e w5 ⟨rfl, ho5, hg5⟩
  have HO5 := Lib.hid ho5
  have HB5 := Lib.hid (below_of_grown HB2.out HB2.out.size hg5 (fun k hk => by injection hk with hk; omega))
  have HT : Hid (Two w5 w.heap.size 34 5 (.slice (some ⟨g1, 0, none⟩) n c1) n (flat encG S) 34 5 (.slice (some ⟨w1.heap.size, 0, none⟩) 0 0) 0 []) :=
    ⟨ho5, own_mono (own_other HE0.out hg5 (fun k hk e => by simp [Value.ownBlock] at hk e; omega)) hs1, fun k hk e => by simp [Value.ownBlock] at hk e; omega⟩
  clear ho5 hg5 HSS HE0 HO2 HB2 hgw
  go_wp2
  go_loopw [4, 16] (fun v iv wr => ∃ (i k : Nat) (J : List G5), iv = .int .i64 i ∧ i ≤ n ∧ Mg.jn Mg.gKey Mg.gOp (S.take i) = J ∧ J.length = k ∧ Two wr w.heap.size 34 5 (.slice (some ⟨g1, 0, none⟩) n c1) n (flat encG S) 34 5 v k (flat encG J) ∧ (∃ b, v.ownBlock = some b) ∧ Below w.heap.size w wr) (fun _ iv _ => n - (intOf iv).toNat)
  case atStart => exact ⟨0, 0, [], rfl, by omega, rfl, rfl, HT.out, ⟨_, rfl⟩, HB5.out⟩
  case round =>
    obtain ⟨i, k, J, rfl, hi, hj, hk, hT, ⟨gb, hgb⟩, hb⟩ := hrel
    have HJ := Lib.hid hj; have HK := Lib.hid hk; have HT3 := Lib.hid hT; have HB3 := Lib.hid hb; have HGB := Lib.hid hgb
    have hki : k ≤ i := by
      have := jn_len (S.take i)
      rw [hj, hk, List.length_take] at this
      omega
    clear hj hk hT hb HT HB5 hgb
    obtain ⟨a2, c2, rfl⟩ := own_slice HT3.out.snd
    by_cases hlt : i < n
    case neg =>
      obtain rfl : i = n := by omega
      have h3 : decide ((i : Int) < (i : Int)) = false := by simp
      have HE : Hid (Mg.jn Mg.gKey Mg.gOp S = J) := by
        have := HJ.out
        rwa [List.take_of_length_le (by rw [HSL.out]; exact Nat.le_refl _)] at this
      obtain ⟨g2, hg2, _⟩ := own_addr HT3.out.snd (by rw [HGB.out]; simp)
      subst hg2
      go_wp2
      go_ret
      rw [HE.out]
      exact ⟨k, g2, c2, rfl, HT3.out.snd, HB3.out⟩
    have h3 : decide ((i : Int) < (n : Int)) = true := decide_eq_true (by omega)
    have hiS : i < S.length := by rw [HSL.out]; exact hlt
    have hX : S[i]? = some S[i] := List.getElem?_eq_getElem hiS
    obtain ⟨X, hXe⟩ : ∃ X, S[i] = X := ⟨_, rfl⟩
    rw [hXe] at hX
    have HST : Hid (Mg.jn Mg.gKey Mg.gOp (S.take (i + 1)) = Mg.jStep Mg.gKey Mg.gOp J X) := by show _ = _; rw [jn_take hiS, HJ.out, hXe]
    have hXb := HSJ.out X (by rw [← hXe]; exact List.getElem_mem hiS)
    have HJB := Lib.hid (fun z (hz : z ∈ J) => jn_bounds (l := S.take i) (fun y hy => HSJ.out y (List.mem_of_mem_take hy)) (by rw [List.length_take]; omega) z (by rw [HJ.out]; exact hz))
    obtain ⟨c0, c0', c0b, c0c, c0e⟩ := rec_cells HT3.out.fst hX
    obtain ⟨X1, X2, X3, X4, X5⟩ := X
    simp only at hXb
    obtain ⟨x1, x2, x3, x4⟩ := hXb
    have HXB := Lib.hid (And.intro x1 (And.intro x2 (And.intro x3 x4)))
    clear hX hXe hiS x1 x2 x3 x4
    have b1 : (i : Int) < (n : Int) := by omega
    have b2 : (0 : Int) ≤ (i : Int) := by omega
    have hk9 : k ≤ 200 := by omega
    obtain ⟨W1, hW⟩ : ∃ W1, wr.alloc (.cells #[.int .i64 X1, .int .i64 X2, .int .i64 X3, .int .i64 X4, .int .i64 X5] 34) = W1 := ⟨_, rfl⟩
    have hba := (Below.refl wr.heap.size wr).alloc (Nat.le_refl _) (.cells #[.int .i64 X1, .int .i64 X2, .int .i64 X3, .int .i64 X4, .int .i64 X5] 34)
    rw [hW] at hba
    have HT4 := Lib.hid (HT3.out.below hba)
    have HB4 := Lib.hid (HB3.out.trans (hba.mono HB3.out.size))
    have e0 : W1.cell? ⟨wr.heap.size, 0, none⟩ = some (.int .i64 X1) := by rw [← hW]; simp
    have e1 : W1.cell? ⟨wr.heap.size, 1, none⟩ = some (.int .i64 X2) := by rw [← hW]; simp
    have e2 : W1.cell? ⟨wr.heap.size, 2, none⟩ = some (.int .i64 X3) := by rw [← hW]; simp
    have e3 : W1.cell? ⟨wr.heap.size, 3, none⟩ = some (.int .i64 X4) := by rw [← hW]; simp
    have e4 : W1.cell? ⟨wr.heap.size, 4, none⟩ = some (.int .i64 X5) := by rw [← hW]; simp
    clear hba
    have hn1 : k + 1 ≤ 1099511627776 := by omega
    cases k with
    | zero =>
      have hJ0 : J = [] := List.eq_nil_of_length_eq_zero HK.out
      have HJS : Hid (Mg.jStep Mg.gKey Mg.gOp J (X1, X2, X3, X4, X5) = J ++ [(X1, X2, X3, X4, X5)]) := by show _ = _; rw [hJ0]; rfl
      have hd : decide ((-1 : Int) < 0) = true := rfl
      clear hJ0
      go_wp2_with fail
      clear hW c0 c0' c0b c0c c0e
      go_quiet (fail)
      have HT5 := Lib.hid (HT4.out.below (below_drewN (Below.refl _ _) nq))
      have HB5 := Lib.hid (HB4.out.trans ((below_drewN (Below.refl W1.heap.size W1) nq).mono HB4.out.size))
      have hbs := HB5.out.size
      have HCAT : Hid (flat encG J ++ [.int .i64 X1, .int .i64 X2, .int .i64 X3, .int .i64 X4, .int .i64 X5] = flat encG (J ++ [(X1, X2, X3, X4, X5)])) := by show _ = _; rw [flat_append, flat_one]; rfl
      go_wp2_with (at_builtin; refine wpList_app1 slGrp rfl _ _ rfl rfl HT5.out.snd [.int .i64 X1, .int .i64 X2, .int .i64 X3, .int .i64 X4, .int .i64 X5] rfl rfl (by simp) (by simp [Value.oneCell']) hn1 hbs ?_; intro v1 w9 ho4 hg4 ht4; have HT6 := Lib.hid (HT5.out.app2 ho4 hg4 ht4); have HB6 := Lib.hid (below_app HB5.out hbs HT5.out.snd (Nat.le_refl _) hg4); have HG6 : Hid (∃ b, v1.ownBlock = some b) := (by rcases ht4 with h | h; exact ⟨gb, h.trans HGB.out⟩; exact ⟨_, h⟩); clear ho4 hg4 ht4)
      go_roundw
      case rel => exact ⟨i + 1, 1, J ++ [(X1, X2, X3, X4, X5)], by go_num, by omega, by rw [HST.out, HJS.out], by rw [List.length_append, HK.out]; rfl, by rw [← HCAT.out]; exact HT6.out, HG6.out, HB6.out⟩
      case measure => simp [intOf] <;> omega
    | succ q =>
      obtain ⟨H, hl1, hl2, hl3, hl4⟩ := last_snoc HK.out
      have hHm : H ∈ J := List.mem_of_getElem? hl2
      have HHB := Lib.hid (HJB.out H hHm)
      obtain ⟨g2, hg2, _⟩ := own_addr HT4.out.snd (by rw [HGB.out]; simp)
      subst hg2
      obtain ⟨d0, d0', d0b, d0c, d0e⟩ := rec_cells HT4.out.snd hl2
      have hstep : Mg.jStep Mg.gKey Mg.gOp J (X1, X2, X3, X4, X5) = if Mg.gKey H = Mg.gKey (X1, X2, X3, X4, X5) then J.dropLast ++ [Mg.gOp H (X1, X2, X3, X4, X5)] else J ++ [(X1, X2, X3, X4, X5)] := by
        unfold Mg.jStep
        rw [hl1]
      have HSL3 := Lib.hid (fun x => set_last (x := x) hl4 hl3)
      have hq0 : decide ((q : Int) < 0) = false := by simp
      have eq1 : ((q + 1 : Nat) : Int) = (q : Int) + 1 := by omega
      have wq : IntKind.i64.wrap (q : Int) = (q : Int) := IntWalk.i64_in _ (by omega)
      have hq2 : (q : Int) < (q : Int) + 1 := by omega
      have hq3 : (0 : Int) ≤ (q : Int) := by omega
      obtain ⟨H1, H2, H3, H4, H5⟩ := H
      simp only at d0 d0' d0b d0c d0e
      have hHB := HHB.out
      simp only at hHB
      clear hl1 hl2 hl3 hl4 hHm
      by_cases hk1 : H1 = X1
      · have HJS : Hid (Mg.jStep Mg.gKey Mg.gOp J (X1, X2, X3, X4, X5) = J.set q (Mg.gOp (H1, H2, H3, H4, H5) (X1, X2, X3, X4, X5))) := by
          show _ = _
          rw [hstep, if_pos (show Mg.gKey (H1, H2, H3, H4, H5) = Mg.gKey (X1, X2, X3, X4, X5) from hk1), HSL3.out]
        have hd2 : (H1 != X1) = false := by simp [hk1]
        clear hstep HHB hk1
        go_wp2_with fail
        clear hW c0 c0' c0b c0c c0e
        go_quiet (fail)
        have HT5 := Lib.hid (HT4.out.below (below_drewN (Below.refl _ _) nq))
        have HB5 := Lib.hid (HB4.out.trans ((below_drewN (Below.refl W1.heap.size W1) nq).mono HB4.out.size))
        have e0 : (W1.drewN nq).cell? ⟨wr.heap.size, 0, none⟩ = some (.int .i64 X1) := e0
        have e1 : (W1.drewN nq).cell? ⟨wr.heap.size, 1, none⟩ = some (.int .i64 X2) := e1
        have e2 : (W1.drewN nq).cell? ⟨wr.heap.size, 2, none⟩ = some (.int .i64 X3) := e2
        have e3 : (W1.drewN nq).cell? ⟨wr.heap.size, 3, none⟩ = some (.int .i64 X4) := e3
        have e4 : (W1.drewN nq).cell? ⟨wr.heap.size, 4, none⟩ = some (.int .i64 X5) := e4
        have d0 : (W1.drewN nq).cell? ⟨g2, q * 5, none⟩ = some (.int .i64 H1) := d0
        have d0' : (W1.drewN nq).cell? ⟨g2, q * 5 + 1, none⟩ = some (.int .i64 H2) := d0'
        have d0b : (W1.drewN nq).cell? ⟨g2, q * 5 + 2, none⟩ = some (.int .i64 H3) := d0b
        have d0c : (W1.drewN nq).cell? ⟨g2, q * 5 + 3, none⟩ = some (.int .i64 H4) := d0c
        have d0e : (W1.drewN nq).cell? ⟨g2, q * 5 + 4, none⟩ = some (.int .i64 H5) := d0e
        generalize W1.drewN nq = V at HT5 HB5 e0 e1 e2 e3 e4 d0 d0' d0b d0c d0e ⊢
        have hba2 := (Below.refl V.heap.size V).alloc (Nat.le_refl _) (.cells #[.int .i64 H1, .int .i64 H2, .int .i64 H3, .int .i64 H4, .int .i64 H5] 34)
        obtain ⟨W2, hW2⟩ : ∃ W2, V.alloc (.cells #[.int .i64 H1, .int .i64 H2, .int .i64 H3, .int .i64 H4, .int .i64 H5] 34) = W2 := ⟨_, rfl⟩
        rw [hW2] at hba2
        have HT6 := Lib.hid (HT5.out.below hba2)
        have HB6 := Lib.hid (HB5.out.trans (hba2.mono HB5.out.size))
        have q0 : W2.cell? ⟨wr.heap.size, 0, none⟩ = some (.int .i64 X1) := (hba2.cell (p := ⟨wr.heap.size, 0, none⟩) (World.block_lt_of_cell? V _ e0)).trans e0
        have q1 : W2.cell? ⟨wr.heap.size, 1, none⟩ = some (.int .i64 X2) := (hba2.cell (p := ⟨wr.heap.size, 1, none⟩) (World.block_lt_of_cell? V _ e1)).trans e1
        have q2 : W2.cell? ⟨wr.heap.size, 2, none⟩ = some (.int .i64 X3) := (hba2.cell (p := ⟨wr.heap.size, 2, none⟩) (World.block_lt_of_cell? V _ e2)).trans e2
        have q3 : W2.cell? ⟨wr.heap.size, 3, none⟩ = some (.int .i64 X4) := (hba2.cell (p := ⟨wr.heap.size, 3, none⟩) (World.block_lt_of_cell? V _ e3)).trans e3
        have q4 : W2.cell? ⟨wr.heap.size, 4, none⟩ = some (.int .i64 X5) := (hba2.cell (p := ⟨wr.heap.size, 4, none⟩) (World.block_lt_of_cell? V _ e4)).trans e4
        have f0 : W2.cell? ⟨V.heap.size, 0, none⟩ = some (.int .i64 H1) := by rw [← hW2]; simp
        have f1 : W2.cell? ⟨V.heap.size, 1, none⟩ = some (.int .i64 H2) := by rw [← hW2]; simp
        have f2 : W2.cell? ⟨V.heap.size, 2, none⟩ = some (.int .i64 H3) := by rw [← hW2]; simp
        have f3 : W2.cell? ⟨V.heap.size, 3, none⟩ = some (.int .i64 H4) := by rw [← hW2]; simp
        have f4 : W2.cell? ⟨V.heap.size, 4, none⟩ = some (.int .i64 H5) := by rw [← hW2]; simp
        have hxb := HXB.out
        have v1 : IntKind.i64.wrap (H2 + X2) = H2 + X2 := IntWalk.i64_in _ (by omega)
        have v2 : IntKind.i64.wrap (H3 + X3) = H3 + X3 := IntWalk.i64_in _ (by omega)
        obtain ⟨M, hM⟩ : ∃ M, max H5 X5 = M := ⟨_, rfl⟩
        have HMX := Lib.hid hM
        have hq9 : q < q + 1 := Nat.lt_succ_self q
        have HFP := Lib.hid (flat_put encG_len J q (by rw [HK.out]; exact hq9) (Mg.gOp (H1, H2, H3, H4, H5) (X1, X2, X3, X4, X5)))
        clear hba2 hM hxb hHB
        go_wp2_with (first
          | (refine wpList_maxG rfl _ _ rfl rfl rfl HMX.out ?_)
          | (refine wpList_put slGrp rfl _ _ rfl q rfl [.int .i64 X1, .int .i64 (H2 + X2), .int .i64 (H3 + X3), .int .i64 (min H4 X4), .int .i64 M] rfl rfl (by simp [Value.oneCell']) HT6.out.snd hq9 ?_; intro w7 ho7 hg7; have HO7 := Lib.hid ho7; have HG7 := Lib.hid hg7; clear ho7 hg7))
        go_roundw
        case rel =>
          have e := HFP.out
          have HT8 := HT6.out.app2 HO7.out HG7.out (.inl rfl)
          refine ⟨i + 1, q + 1, J.set q (Mg.gOp (H1, H2, H3, H4, H5) (X1, X2, X3, X4, X5)), by go_num, by omega, by rw [HST.out, HJS.out], by rw [List.length_set]; exact HK.out, ?_, ⟨g2, rfl⟩, HB6.out.grown HG7.out HB6.out.size (fun b hb => by have := (HT6.out.snd.lt b hb).1; omega)⟩
          rw [← e]
          have e2 : encG (Mg.gOp (H1, H2, H3, H4, H5) (X1, X2, X3, X4, X5)) = [.int .i64 X1, .int .i64 (H2 + X2), .int .i64 (H3 + X3), .int .i64 (min H4 X4), .int .i64 M] := by
            unfold encG Mg.gOp
            rw [HMX.out]
          rw [e2]
          exact HT8
        case measure => simp [intOf] <;> omega
      · have HJS : Hid (Mg.jStep Mg.gKey Mg.gOp J (X1, X2, X3, X4, X5) = J ++ [(X1, X2, X3, X4, X5)]) := by
          show _ = _
          rw [hstep, if_neg (show ¬ Mg.gKey (H1, H2, H3, H4, H5) = Mg.gKey (X1, X2, X3, X4, X5) from hk1)]
        have hd2 : (H1 != X1) = true := by simp [hk1]
        clear hstep HHB hHB
        go_wp2_with fail
        clear hW c0 c0' c0b c0c c0e
        go_quiet (fail)
        clear d0 d0' d0b d0c d0e
        have HT5 := Lib.hid (HT4.out.below (below_drewN (Below.refl _ _) nq))
        have HB5 := Lib.hid (HB4.out.trans ((below_drewN (Below.refl W1.heap.size W1) nq).mono HB4.out.size))
        have hbs := HB5.out.size
        have HCAT : Hid (flat encG J ++ [.int .i64 X1, .int .i64 X2, .int .i64 X3, .int .i64 X4, .int .i64 X5] = flat encG (J ++ [(X1, X2, X3, X4, X5)])) := by show _ = _; rw [flat_append, flat_one]; rfl
        go_wp2_with (at_builtin; refine wpList_app1 slGrp rfl _ _ rfl rfl HT5.out.snd [.int .i64 X1, .int .i64 X2, .int .i64 X3, .int .i64 X4, .int .i64 X5] rfl rfl (by simp) (by simp [Value.oneCell']) hn1 hbs ?_; intro v1 w9 ho4 hg4 ht4; have HT6 := Lib.hid (HT5.out.app2 ho4 hg4 ht4); have HB6 := Lib.hid (below_app HB5.out hbs HT5.out.snd (Nat.le_refl _) hg4); have HG6 : Hid (∃ b, v1.ownBlock = some b) := (by rcases ht4 with h | h; exact ⟨gb, h.trans HGB.out⟩; exact ⟨_, h⟩); clear ho4 hg4 ht4)
        go_roundw
        case rel => exact ⟨i + 1, q + 1 + 1, J ++ [(X1, X2, X3, X4, X5)], by go_num, by omega, by rw [HST.out, HJS.out], by rw [List.length_append, HK.out]; rfl, by rw [← HCAT.out]; exact HT6.out, HG6.out, HB6.out⟩
        case measure => simp [intOf] <;> omega
end Go.Proofs.Ytmgkdokaaoeobaa.GG

namespace Go.Proofs.Ytmgkdokaaoeobaa.GG
open Go.RowKit Go.Sort
set_option linter.unusedVariables false

theorem map_take_snoc {rs : List (Int × Int)} {i : Nat} (hi : i < rs.length) : (rs.take (i + 1)).map Mg.gOne = (rs.take i).map Mg.gOne ++ [Mg.gOne (rs.getD i (0, 0))] := by
  rw [List.take_add_one, List.getElem?_eq_getElem hi, List.map_append, List.getD_eq_getElem?_getD, List.getElem?_eq_getElem hi]; rfl
theorem recs_tags {rs : List (Int × Int)} (h : okRecs rs = true) : ∀ r ∈ rs, 0 ≤ r.2 ∧ r.2 ≤ 999 := by
  intro r hr
  unfold okRecs at h
  rw [Bool.and_eq_true] at h
  have := List.all_eq_true.1 h.2 r hr
  unfold okRec at this
  rw [Bool.and_eq_true] at this
  have h2 := this.2
  simp [inB] at h2
  exact h2
theorem jb_ones {rs : List (Int × Int)} (h : okRecs rs = true) : Jb (rs.map Mg.gOne) := by
  intro g hg
  obtain ⟨r, hr, rfl⟩ := List.mem_map.1 hg
  have := recs_tags h r hr
  unfold Mg.gOne
  simp only
  omega

set_option maxRecDepth 100000 in
set_option maxHeartbeats 4000000 in
theorem groupRecords_no (a : Option Addr) (n c : Nat) (rs : List (Int × Int)) (w : World) (hn : n ≤ 9223372036854775807) (hok : okRecs rs = false) (h : Rd w a n c rs) :
    Calls Try.prog 6 #[.slice a n c] w fun e w' => e = .returned (.tuple #[.slice none 0 0, .bool false]) ∧ Below w.heap.size w w' := by
  have HV : Hid (Calls Try.prog 15 #[.slice a n c] w fun e w' => e = .returned (.bool false) ∧ Below w.heap.size w w') := by
    have := isValidRecords_any a c rs w (by rw [h.len]; exact hn) h.recs
    rwa [h.len, hok] at this
  clear h hok
  go_enter Try.func6, Try.ntmps6
  go_wp2_with fail
  refine HV.out.mono ?_
  rintro e w1 ⟨rfl, hb⟩
  have HB := Lib.hid hb
  clear hb
  go_wp2
  go_ret2
  exact ⟨rfl, HB.out⟩

set_option maxRecDepth 100000 in
set_option maxHeartbeats 4000000 in
theorem groupRecords_yes (a : Option Addr) (n c : Nat) (rs : List (Int × Int)) (w : World) (hok : okRecs rs = true) (h : Rd w a n c rs) :
    Calls Try.prog 6 #[.slice a n c] w fun e w' => ∃ m g cg, e = .returned (.tuple #[.slice (some ⟨g, 0, none⟩) m cg, .bool true]) ∧ GRow w' w.heap.size g cg m (Mg.gsOf rs) ∧ Below w.heap.size w w' := by
  have hn : n ≤ 64 := by rw [← h.len]; exact okRecs_le hok
  have HV : Hid (Calls Try.prog 15 #[.slice a n c] w fun e w' => e = .returned (.bool true) ∧ Below w.heap.size w w') := by
    have := isValidRecords_any a c rs w (by rw [h.len]; omega) h.recs
    rwa [h.len, hok] at this
  have H := Lib.hid h; have HL := Lib.hid h.len; have HOK := Lib.hid hok
  clear h hok
  go_enter Try.func6, Try.ntmps6
  go_wp2_with fail
  refine HV.out.mono ?_
  rintro e w1 ⟨rfl, hb⟩
  have E0 := own_lit (w := w1) (e := 34) (size := 5) #[] 0 (by omega) rfl
  have hba := (Below.refl w1.heap.size w1).alloc (Nat.le_refl _) (.cells #[] 34)
  have HE0 := Lib.hid E0
  have HB2 := Lib.hid (hb.trans (hba.mono hb.size))
  have HSZ := Lib.hid hb.size
  clear hb HV E0 hba
  go_wp2
  go_loopw [4, 13] (fun v iv wr => ∃ (i : Nat), iv = .int .i64 i ∧ i ≤ n ∧ wr.ownsRow w1.heap.size 34 5 v i (flat encG ((rs.take i).map Mg.gOne)) ∧ (∃ b, v.ownBlock = some b) ∧ Below w.heap.size w wr ∧ w1.heap.size ≤ wr.heap.size) (fun _ iv _ => n - (intOf iv).toNat)
  case atStart => exact ⟨0, rfl, by omega, HE0.out, ⟨_, rfl⟩, HB2.out, by simp⟩
  case round =>
    obtain ⟨i, rfl, hi, ho, ⟨gb, hgb⟩, hb, hsz⟩ := hrel
    have HO3 := Lib.hid ho; have HB3 := Lib.hid hb; have HGB := Lib.hid hgb
    clear ho hb hgb HE0 HB2
    obtain ⟨a2, c2, rfl⟩ := own_slice HO3.out
    by_cases hlt : i < n
    case neg =>
      obtain rfl : i = n := by omega
      have h3 : decide ((i : Int) < (i : Int)) = false := by simp
      rw [List.take_of_length_le (by rw [HL.out]; exact Nat.le_refl _)] at HO3
      obtain ⟨g2, hg2, _⟩ := own_addr HO3.out (by rw [HGB.out]; simp)
      subst hg2
      have HC := Lib.hid (joined_any w1.heap.size c2 i (some ⟨g2, 0, none⟩) (rs.map Mg.gOne) wr (by omega) (jb_ones HOK.out) HO3.out)
      unfold OwnG at HC
      go_wp2_with fail
      refine HC.out.mono ?_
      rintro e w5 ⟨m, g5, c5, rfl, ho5, hb5⟩
      have HO5 := Lib.hid ho5; have HB5 := Lib.hid (HB3.out.trans (hb5.mono HB3.out.size))
      have hsz5 := HB3.out.size
      clear ho5 hb5 HC
      go_wp2
      go_ret2
      exact ⟨m, g5, c5, rfl, own_mono HO5.out hsz5, HB5.out⟩
    have h3 : decide ((i : Int) < (n : Int)) = true := decide_eq_true (by omega)
    obtain ⟨b, o, rfl, c0, c1⟩ := (H.out.below (Nat.le_refl _) HB3.out).at hlt
    have HMT := Lib.hid (map_take_snoc (rs := rs) (i := i) (by rw [HL.out]; exact hlt))
    obtain ⟨⟨X, Y⟩, hX⟩ : ∃ X, rs.getD i (0, 0) = X := ⟨_, rfl⟩
    rw [hX] at c0 c1 HMT
    simp only at c0 c1
    have b1 : (i : Int) < (n : Int) := by omega
    have b2 : (0 : Int) ≤ (i : Int) := by omega
    have hba := (Below.refl wr.heap.size wr).alloc (Nat.le_refl _) (.cells #[.int .i64 X, .int .i64 Y] 43)
    obtain ⟨W1, hW⟩ : ∃ W1, wr.alloc (.cells #[.int .i64 X, .int .i64 Y] 43) = W1 := ⟨_, rfl⟩
    rw [hW] at hba
    have HO4 := Lib.hid (own_below HO3.out (Nat.le_refl _) hba)
    have HB4 := Lib.hid (HB3.out.trans (hba.mono HB3.out.size))
    have e0 : W1.cell? ⟨wr.heap.size, 0, none⟩ = some (.int .i64 X) := by rw [← hW]; simp
    have e1 : W1.cell? ⟨wr.heap.size, 1, none⟩ = some (.int .i64 Y) := by rw [← hW]; simp
    have hbs : w1.heap.size ≤ W1.heap.size := Nat.le_trans hsz hba.size
    have hn1 : i + 1 ≤ 1099511627776 := by omega
    clear hba hX HO3
    go_wp2_with (at_builtin; refine wpList_app1 slGrp rfl _ _ rfl rfl HO4.out [.int .i64 X, .int .i64 1, .int .i64 Y, .int .i64 Y, .int .i64 Y] rfl rfl (by simp) (by simp [Value.oneCell']) hn1 hbs ?_; intro v1 w9 ho4 hg4 ht4; have HO6 := Lib.hid ho4; have HB6 := Lib.hid (below_app HB4.out HB4.out.size HO4.out HSZ.out hg4); have HS6 := Lib.hid hg4.size; have HG6 : Hid (∃ b, v1.ownBlock = some b) := (by rcases ht4 with h | h; exact ⟨gb, h.trans HGB.out⟩; exact ⟨_, h⟩); clear ho4 hg4 ht4)
    go_roundw
    case rel => exact ⟨i + 1, by go_num, by omega, by rw [HMT.out, flat_append, flat_one]; exact HO6.out, HG6.out, HB6.out, Nat.le_trans hbs HS6.out⟩
    case measure => simp [intOf] <;> omega
end Go.Proofs.Ytmgkdokaaoeobaa.GG

