/- Several texts in one: lemmas and walks of the functions that the laws reach. -/
import Derived.Test.YtpdndcnhgadgoaaY3
import Derived.Test.YtpdndcnhgadgoaaY1
import Derived.Test.YtpdndcnhgadgoaaY2
import Derived.StillTailTactics
import Derived.BigRegion
import Derived.Deep.RegionHeld3
import Derived.Deep.RegionLaw
import Derived.Test.YtpdndcnhgadgoaaY0

/- Walks: the library's symmetric merge at records: the general case, and the whole. -/
namespace Go.Proofs.Ytpdndcnhgadgoaa
open Go.RowKit Go.Sort
set_option linter.unusedVariables false

/-- What the symmetric merge does, for fewer elements than N. -/
def SymLt (I : World → Prop) (g : Nat) (lt : Int × Int → Int × Int → Bool) (cv : Value) (N : Nat) : Prop :=
  ∀ (B0 c n : Nat) (pre L R post rs : List (Int × Int)) (x y z : Int) (w : World), L.length + R.length < N → rs = pre ++ L ++ R ++ post → x = (pre.length : Nat) → y = ((pre.length + L.length : Nat) : Int) → z = ((pre.length + L.length + R.length : Nat) : Int) → 0 < L.length → 0 < R.length →
    Mg.Asc lt L → Mg.Asc lt R → rs.length = n → n ≤ 1000 → I w → w.ownsRow B0 33 2 (.slice (some ⟨g, 0, none⟩) n c) n (flat encR rs) →
    Calls Try.prog 48 #[.slice (some ⟨g, 0, none⟩) n c, .int .i64 x, .int .i64 y, .int .i64 z, cv] w fun e w' => e = .returned (.tuple #[]) ∧
      w'.ownsRow B0 33 2 (.slice (some ⟨g, 0, none⟩) n c) n (flat encR (pre ++ Mg.mrg lt L R ++ post)) ∧ w.grownBy w' (some g)

/-- The rotation, its numbers as they come. -/
theorem rotate_int (B0 g c n : Nat) (pre U V post rs : List (Int × Int)) (x y z : Int) (cv : Value) (w : World) (hrs : rs = pre ++ U ++ V ++ post) (hx : x = (pre.length : Nat)) (hy : y = ((pre.length + U.length : Nat) : Int)) (hz : z = ((pre.length + U.length + V.length : Nat) : Int)) (hU : 0 < U.length) (hV : 0 < V.length) (hn : rs.length = n) (hn2 : n ≤ 1000)
    (h : w.ownsRow B0 33 2 (.slice (some ⟨g, 0, none⟩) n c) n (flat encR rs)) :
    Calls Try.prog 51 #[.slice (some ⟨g, 0, none⟩) n c, .int .i64 x, .int .i64 y, .int .i64 z, cv] w fun e w' => e = .returned (.tuple #[]) ∧
      w'.ownsRow B0 33 2 (.slice (some ⟨g, 0, none⟩) n c) n (flat encR (pre ++ V ++ U ++ post)) ∧ w.grownBy w' (some g) := by
  subst hx hy hz hrs
  exact rotate_any B0 g c n pre U V post _ _ _ cv w rfl rfl rfl hU hV hn hn2 h

theorem getD_get {l : List (Int × Int)} {i : Nat} (h : i < l.length) : l.getD i (0, 0) = l[i] := by
  rw [List.getD_eq_getElem?_getD, List.getElem?_eq_getElem h]; rfl

/-- The symmetric cut, as the loop leaves it. -/
theorem cut_of {lt : Int × Int → Int × Int → Bool} (S : Mg.SW lt) (L R : List (Int × Int)) (s h0 : Nat) (hL : Mg.Asc lt L) (hR : Mg.Asc lt R) (hs : s ≤ L.length) (hs2 : s ≤ h0) (he : h0 ≤ s + R.length)
    (h1 : 0 < s → h0 - s < R.length → lt (R.getD (h0 - s) (0, 0)) (L.getD (s - 1) (0, 0)) = false) (h2 : s < h0 → s < L.length → lt (R.getD (h0 - 1 - s) (0, 0)) (L.getD s (0, 0)) = true) :
    Mg.mrg lt L R = Mg.mrg lt (L.take s) (R.take (h0 - s)) ++ Mg.mrg lt (L.drop s) (R.drop (h0 - s)) := by
  refine Mg.mrg_cut S hL hR hs (by omega) (fun q1 q2 => ?_) (fun q1 q2 => ?_)
  · have := h1 q1 q2
    rw [getD_get q2, getD_get (by omega)] at this
    exact this
  · have := h2 (by omega) q2
    rw [getD_get (by omega), getD_get q2] at this
    have e : h0 - 1 - s = h0 - s - 1 := by omega
    simp only [e] at this
    exact this

set_option maxRecDepth 100000 in
set_option maxHeartbeats 8000000 in
theorem symMerge_gen {I : World → Prop} {lt : Int × Int → Int × Int → Bool} (S : Mg.SW lt) {cv : Value} (B0 g c n : Nat) (pre L R post rs : List (Int × Int)) (a m b : Nat) (w : World) (ha : pre.length = a) (hm : a + L.length = m) (hb : m + R.length = b) (hL1 : 2 ≤ L.length) (hR1 : 2 ≤ R.length) (hL : Mg.Asc lt L) (hR : Mg.Asc lt R) (hrs : rs = pre ++ L ++ R ++ post) (hn : rs.length = n) (hn2 : n ≤ 1000) (IH : SymLt I g lt cv (L.length + R.length)) (hI : I w) (HCV : CmpIs I g lt cv)
    (h : w.ownsRow B0 33 2 (.slice (some ⟨g, 0, none⟩) n c) n (flat encR rs)) :
    Calls Try.prog 48 #[.slice (some ⟨g, 0, none⟩) n c, .int .i64 a, .int .i64 m, .int .i64 b, cv] w fun e w' => e = .returned (.tuple #[]) ∧
      w'.ownsRow B0 33 2 (.slice (some ⟨g, 0, none⟩) n c) n (flat encR (pre ++ Mg.mrg lt L R ++ post)) ∧ w.grownBy w' (some g) := by
  have HO := Lib.hid h
  have hbn : b + post.length = n := by rw [← hn, hrs]; simp; omega
  have HRS := Lib.hid hrs
  have HNN := Lib.hid hn
  have HA := Lib.hid hL
  have HAR := Lib.hid hR
  have HIH := Lib.hid IH
  clear h hn hrs hL hR IH
  obtain ⟨h0, hh0⟩ : ∃ h0, h0 = (L.length + R.length) / 2 := ⟨_, rfl⟩
  have s0 : ((m : Int) - (a : Int) == 1) = false := by simp; omega
  have s1 : ((b : Int) - (m : Int) == 1) = false := by simp; omega
  have hh : ((a : Int) + (b : Int)) / 2 = (a : Int) + (h0 : Int) := by omega
  have hcut := Lib.hid (fun s => cut_of S L R s h0 HA.out HAR.out)
  have z0 : 1 ≤ h0 := by omega
  have z1 : h0 < L.length + R.length := by omega
  have z2 : a + h0 < b := by omega
  have z3 : L.length + R.length ≤ 2 * h0 + 1 := by omega
  have z4 : 2 * h0 ≤ L.length + R.length := by omega
  have HH := Lib.hid hh0
  clear hh0
  obtain ⟨hIg, G, cp, rfl, hcall, hcmp⟩ := HCV
  have HCM := Lib.hid hcmp; have HIG := Lib.hid (fun w' => hIg w w' hI)
  clear hcmp hIg
  by_cases hlt : h0 < L.length
  all_goals
    go_enter Try.func48, Try.ntmps48
    first
      | have q0 : decide ((a : Int) + (h0 : Int) < (m : Int)) = true := decide_eq_true (by omega)
      | have q0 : decide ((a : Int) + (h0 : Int) < (m : Int)) = false := decide_eq_false (by omega)
    go_wp2
    go_loopw [20, 21] (fun x y wr => ∃ p q : Nat, x = .int .i64 ((a : Int) + (p : Int)) ∧ y = .int .i64 ((a : Int) + (q : Int)) ∧ p ≤ q ∧ q ≤ h0 ∧ q ≤ L.length ∧ h0 ≤ p + R.length ∧ (0 < p → h0 - p < R.length → lt (R.getD (h0 - p) (0, 0)) (L.getD (p - 1) (0, 0)) = false) ∧ (q < h0 → q < L.length → lt (R.getD (h0 - 1 - q) (0, 0)) (L.getD q (0, 0)) = true) ∧ wr.ownsRow B0 33 2 (.slice (some ⟨g, 0, none⟩) n c) n (flat encR rs) ∧ w.grownBy wr (some g)) (fun x y _ => (intOf y).toNat - (intOf x).toNat)
    case atStart =>
      first
        | exact ⟨h0 - R.length, h0, by go_num, by go_num, by omega, by omega, by omega, by omega, fun h1 h2 => by omega, fun h => by omega, HO.out, grown_of_below (Below.refl w.heap.size w)⟩
        | exact ⟨0, L.length, by go_num, by go_num, by omega, by omega, by omega, by omega, fun h => by omega, fun h1 h2 => by omega, HO.out, grown_of_below (Below.refl w.heap.size w)⟩
    case round =>
      obtain ⟨p, q, rfl, rfl, hpq, hqh, hq, hpr, h1, h2, hown, hg⟩ := hrel
      have HO2 := Lib.hid hown; have HG2 := Lib.hid hg; have H1 := Lib.hid h1; have H2 := Lib.hid h2
      clear hown hg h1 h2 HO
      by_cases hlt2 : p < q
      · have q1 : decide ((a : Int) + (p : Int) < (a : Int) + (q : Int)) = true := decide_eq_true (by omega)
        obtain ⟨k, hk⟩ : ∃ k, k = (p + q) / 2 := ⟨_, rfl⟩
        have hkp : p ≤ k := by omega
        have hkq : k < q := by omega
        have hh2 : ((a : Int) + (p : Int) + ((a : Int) + (q : Int))) / 2 = (a : Int) + (k : Int) := by omega
        obtain ⟨u, hu⟩ : ∃ u, u = h0 - 1 - k := ⟨_, rfl⟩
        have hkL : k < L.length := by omega
        have huR : u < R.length := by omega
        have e1 : rs = pre ++ (L ++ R) ++ post := by rw [HRS.out]; simp only [List.append_assoc]
        have g1 : (L ++ R)[k]? = some (L.getD k (0, 0)) := by
          rw [List.getElem?_append_left hkL, List.getD_eq_getElem?_getD, List.getElem?_eq_getElem hkL]; rfl
        have g0 : (L ++ R)[L.length + u]? = some (R.getD u (0, 0)) := by
          rw [List.getElem?_append_right (by omega), Nat.add_sub_cancel_left, List.getD_eq_getElem?_getD, List.getElem?_eq_getElem huR]; rfl
        have HO3 := HO2.out
        rw [e1] at HO3
        obtain ⟨c1, c1'⟩ := rec_cells HO3 (mid_at (post := post) ha g1)
        obtain ⟨c0, c0'⟩ := rec_cells HO3 (mid_at (post := post) ha g0)
        rw [← Nat.add_assoc, hm] at c0 c0'
        obtain ⟨X, hX⟩ : ∃ X, L.getD k (0, 0) = X := ⟨_, rfl⟩
        obtain ⟨Y, hY⟩ : ∃ Y, R.getD u (0, 0) = Y := ⟨_, rfl⟩
        rw [hX] at c1 c1'
        rw [hY] at c0 c0'
        have HX := Lib.hid hX
        have HY := Lib.hid hY
        have HU := Lib.hid hu
        have HK := Lib.hid hk
        have hcast : (a : Int) + (h0 : Int) + (m : Int) - 1 - ((a : Int) + (k : Int)) = (m : Int) + (u : Int) := by omega
        clear hY hX g1 g0 HO3 e1 hk hu
        have HCK := Lib.hid (fun W hW => HCM.out Y X W (HIG.out W hW))
        have hcall := hcall (#[.agg #[.int .i64 Y.1, .int .i64 Y.2], .agg #[.int .i64 X.1, .int .i64 X.2]] ++ cp)
        obtain ⟨X1, X2⟩ := X
        obtain ⟨Y1, Y2⟩ := Y
        have t1 : ((a : Int) + (k : Int)).toNat = a + k := by omega
        have t0 : ((m : Int) + (u : Int)).toNat = m + u := by omega
        have z0 : (0 : Int) ≤ (m : Int) + (u : Int) := by omega
        have b0 : (0 : Int) ≤ (a : Int) + (k : Int) := by omega
        have b1 : (a : Int) + (k : Int) < (n : Int) := by omega
        have b2 : (m : Int) + (u : Int) < (n : Int) := by omega
        -- TAIL
        have w1 : IntKind.i64.wrap ((m : Int) + (u : Int)) = (m : Int) + (u : Int) := IntWalk.i64_in _ (by omega)
        go_wp2_with fail
        clear hh2
        go_still_tail 11, (by kernel_rfl)
        go_wp2_with fail
        refine (HCK.out _ (grown_trans HG2.out (grown_of_below (Below.refl _ _).drew))).mono ?_
        rintro e w5 ⟨⟨nn, rfl, hnn⟩, hbc⟩
        have hbw : Below wr.heap.size wr w5 := (Below.refl _ _).drew.trans hbc
        have HO5 := Lib.hid (own_below HO2.out (Nat.le_refl _) hbw)
        have HG5 := Lib.hid (grown_trans HG2.out (grown_of_below hbw))
        clear hbc hbw HO2 HG2 HCK c1 c1' c0 c0'
        cases hyx : lt (Y1, Y2) (X1, X2)
        · have hz : decide (nn < 0) = false := by rw [hnn]; exact hyx
          have HYX := Lib.hid hyx
          clear hnn hyx
          go_wp2
          go_roundw
          case rel => exact ⟨k + 1, q, by go_num, rfl, by omega, hqh, hq, by omega, fun _ _ => by rw [Nat.add_sub_cancel, HX.out, show h0 - (k + 1) = u by have := HU.out; omega, HY.out]; exact HYX.out, H2.out, HO5.out, HG5.out⟩
          case measure => simp [intOf] <;> omega
        · have hz : decide (nn < 0) = true := by rw [hnn]; exact hyx
          have HYX := Lib.hid hyx
          clear hnn hyx
          go_wp2
          go_roundw
          case rel => exact ⟨p, k, rfl, by go_num, by omega, by omega, by omega, hpr, H1.out, fun _ _ => by rw [HX.out, ← HU.out, HY.out]; exact HYX.out, HO5.out, HG5.out⟩
          case measure => simp [intOf] <;> omega
      · obtain rfl : p = q := by omega
        have q1 : decide ((a : Int) + (p : Int) < (a : Int) + (p : Int)) = false := decide_eq_false (by omega)
        obtain ⟨d, hd⟩ : ∃ d, d = h0 - p := ⟨_, rfl⟩
        have hcast : (a : Int) + (h0 : Int) + (m : Int) - ((a : Int) + (p : Int)) = (m : Int) + (d : Int) := by omega
        have hm' := hcut.out p hq hqh hpr H1.out H2.out
        rw [← hd] at hm'
        have eL := List.take_append_drop p L
        have eR := List.take_append_drop d R
        have l1 : (L.take p).length = p := by rw [List.length_take]; omega
        have l2 : (L.drop p).length = L.length - p := List.length_drop
        have l3 : (R.take d).length = d := by rw [List.length_take]; omega
        have l4 : (R.drop d).length = R.length - d := List.length_drop
        have a1 : Mg.Asc lt (L.take p) := List.Pairwise.sublist (List.take_sublist _ _) HA.out
        have a2 : Mg.Asc lt (L.drop p) := List.Pairwise.sublist (List.drop_sublist _ _) HA.out
        have a3 : Mg.Asc lt (R.take d) := List.Pairwise.sublist (List.take_sublist _ _) HAR.out
        have a4 : Mg.Asc lt (R.drop d) := List.Pairwise.sublist (List.drop_sublist _ _) HAR.out
        generalize L.take p = L1 at hm' eL l1 a1
        generalize L.drop p = L2 at hm' eL l2 a2
        generalize R.take d = R1 at hm' eR l3 a3
        generalize R.drop d = R2 at hm' eR l4 a4
        have HM := Lib.hid hm'; have HLL1 := Lib.hid l1; have HLL2 := Lib.hid l2; have HRL1 := Lib.hid l3; have HRL2 := Lib.hid l4
        have HA1 := Lib.hid a1; have HA2 := Lib.hid a2; have HA3 := Lib.hid a3; have HA4 := Lib.hid a4
        have HOa : Hid (wr.ownsRow B0 33 2 (.slice (some ⟨g, 0, none⟩) n c) n (flat encR (pre ++ L1 ++ L2 ++ R1 ++ (R2 ++ post)))) := by
          show World.ownsRow _ _ _ _ _ _ _
          have := HO2.out
          rw [HRS.out, ← eL, ← eR] at this
          simpa only [List.append_assoc] using this
        have HNa : Hid ((pre ++ L1 ++ L2 ++ R1 ++ (R2 ++ post)).length = n) := by
          show _ = _
          simp only [List.length_append]; omega
        have HNb : Hid ((pre ++ (L1 ++ R1) ++ (L2 ++ R2) ++ post).length = n) := by
          show _ = _
          simp only [List.length_append]; omega
        have hpa : (pre ++ L1).length = a + p := by rw [List.length_append]; omega
        have HPA := Lib.hid hpa
        have HPM : Hid ((pre ++ Mg.mrg lt L1 R1).length = a + h0) := by show _ = _; rw [List.length_append, Mg.mrg_length]; omega
        have HNc : Hid ((pre ++ Mg.mrg lt L1 R1 ++ (L2 ++ R2 ++ post)).length = n) := by
          show _ = _
          simp only [List.length_append, Mg.mrg_length]; omega
        have hda : d ≤ R.length := by omega
        have hpd : p + d = h0 := by omega
        clear hm' eL eR l1 l2 l3 l4 a1 a2 a3 a4 HO2 hcut HA HAR H1 H2 HRS hpa hd
        by_cases cA : p < L.length
        · by_cases cB : 0 < d
          · by_cases cC : 0 < p
            · by_cases cD : d < R.length
              · try (exfalso; omega)
                all_goals
                  have qa : decide ((a : Int) + (p : Int) < (m : Int)) = true := decide_eq_true (by omega)
                  have qb : decide ((m : Int) < (m : Int) + (d : Int)) = true := decide_eq_true (by omega)
                  have qc : decide ((a : Int) < (a : Int) + (p : Int)) = true := decide_eq_true (by omega)
                  have qd : decide ((a : Int) + (p : Int) < (a : Int) + (h0 : Int)) = true := decide_eq_true (by omega)
                  have qe : decide ((a : Int) + (h0 : Int) < (m : Int) + (d : Int)) = true := decide_eq_true (by omega)
                  have qf : decide ((m : Int) + (d : Int) < (b : Int)) = true := decide_eq_true (by omega)
                  go_wp2_with fail
                  refine (rotate_int B0 g c n (pre ++ L1) L2 R1 (R2 ++ post) _ _ _ _ _ _ rfl (by rw [HPA.out]; omega) (by rw [HPA.out, HLL2.out]; omega) (by rw [HPA.out, HLL2.out, HRL1.out]; omega) (by rw [HLL2.out]; omega) (by rw [HRL1.out]; omega) HNa.out hn2 HOa.out).mono ?_
                  rintro e w5 ⟨rfl, ho5, hg5⟩
                  have HOb : Hid (w5.ownsRow B0 33 2 (.slice (some ⟨g, 0, none⟩) n c) n (flat encR (pre ++ (L1 ++ R1) ++ (L2 ++ R2) ++ post))) := by
                    show World.ownsRow _ _ _ _ _ _ _
                    simpa only [List.append_assoc] using ho5
                  have HG5 := Lib.hid (grown_trans HG2.out hg5)
                  clear ho5 hg5 HOa
                  go_wp2_with fail
                  refine (HIH.out B0 c n pre L1 R1 (L2 ++ R2 ++ post) (pre ++ (L1 ++ R1) ++ (L2 ++ R2) ++ post) _ _ _ _ (by rw [HLL1.out, HRL1.out]; omega) (by simp only [List.append_assoc]) (by rw [ha]) (by rw [ha, HLL1.out]; omega) (by rw [ha, HLL1.out, HRL1.out]; omega) (by rw [HLL1.out]; omega) (by rw [HRL1.out]; omega) HA1.out HA3.out HNb.out hn2 (HIG.out _ HG5.out) HOb.out).mono ?_
                  rintro e w6 ⟨rfl, ho6, hg6⟩
                  have HOc := Lib.hid ho6
                  have HG6 := Lib.hid (grown_trans HG5.out hg6)
                  clear ho6 hg6 HOb
                  go_wp2_with fail
                  refine (HIH.out B0 c n (pre ++ Mg.mrg lt L1 R1) L2 R2 post (pre ++ Mg.mrg lt L1 R1 ++ (L2 ++ R2 ++ post)) _ _ _ _ (by rw [HLL2.out, HRL2.out]; omega) (by simp only [List.append_assoc]) (by rw [HPM.out]; omega) (by rw [HPM.out, HLL2.out]; omega) (by rw [HPM.out, HLL2.out, HRL2.out]; omega) (by rw [HLL2.out]; omega) (by rw [HRL2.out]; omega) HA2.out HA4.out HNc.out hn2 (HIG.out _ HG6.out) HOc.out).mono ?_
                  rintro e w7 ⟨rfl, ho7, hg7⟩
                  have HOd := Lib.hid ho7
                  have HG7 := Lib.hid (grown_trans HG6.out hg7)
                  clear ho7 hg7 HOc
                  rw [List.append_assoc pre, ← HM.out] at HOd
                  go_wp2
                  go_end0
                  exact ⟨rfl, HOd.out, HG7.out⟩
              · try (exfalso; omega)
                all_goals
                  have qa : decide ((a : Int) + (p : Int) < (m : Int)) = true := decide_eq_true (by omega)
                  have qb : decide ((m : Int) < (m : Int) + (d : Int)) = true := decide_eq_true (by omega)
                  have qc : decide ((a : Int) < (a : Int) + (p : Int)) = true := decide_eq_true (by omega)
                  have qd : decide ((a : Int) + (p : Int) < (a : Int) + (h0 : Int)) = true := decide_eq_true (by omega)
                  have qe : decide ((a : Int) + (h0 : Int) < (m : Int) + (d : Int)) = true := decide_eq_true (by omega)
                  have qf : decide ((m : Int) + (d : Int) < (b : Int)) = false := decide_eq_false (by omega)
                  go_wp2_with fail
                  refine (rotate_int B0 g c n (pre ++ L1) L2 R1 (R2 ++ post) _ _ _ _ _ _ rfl (by rw [HPA.out]; omega) (by rw [HPA.out, HLL2.out]; omega) (by rw [HPA.out, HLL2.out, HRL1.out]; omega) (by rw [HLL2.out]; omega) (by rw [HRL1.out]; omega) HNa.out hn2 HOa.out).mono ?_
                  rintro e w5 ⟨rfl, ho5, hg5⟩
                  have HOb : Hid (w5.ownsRow B0 33 2 (.slice (some ⟨g, 0, none⟩) n c) n (flat encR (pre ++ (L1 ++ R1) ++ (L2 ++ R2) ++ post))) := by
                    show World.ownsRow _ _ _ _ _ _ _
                    simpa only [List.append_assoc] using ho5
                  have HG5 := Lib.hid (grown_trans HG2.out hg5)
                  clear ho5 hg5 HOa
                  go_wp2_with fail
                  refine (HIH.out B0 c n pre L1 R1 (L2 ++ R2 ++ post) (pre ++ (L1 ++ R1) ++ (L2 ++ R2) ++ post) _ _ _ _ (by rw [HLL1.out, HRL1.out]; omega) (by simp only [List.append_assoc]) (by rw [ha]) (by rw [ha, HLL1.out]; omega) (by rw [ha, HLL1.out, HRL1.out]; omega) (by rw [HLL1.out]; omega) (by rw [HRL1.out]; omega) HA1.out HA3.out HNb.out hn2 (HIG.out _ HG5.out) HOb.out).mono ?_
                  rintro e w6 ⟨rfl, ho6, hg6⟩
                  have HOc := Lib.hid ho6
                  have HG6 := Lib.hid (grown_trans HG5.out hg6)
                  clear ho6 hg6 HOb
                  have HOd : Hid (w6.ownsRow B0 33 2 (.slice (some ⟨g, 0, none⟩) n c) n (flat encR (pre ++ Mg.mrg lt L1 R1 ++ Mg.mrg lt L2 R2 ++ post))) := by
                    show World.ownsRow _ _ _ _ _ _ _
                    have nR2 : R2 = [] := List.eq_nil_of_length_eq_zero (by have := HRL2.out; omega)
                    have := HOc.out
                    rw [nR2] at this ⊢
                    simpa only [List.append_assoc, List.nil_append, List.append_nil, Mg.mrg_nil, Mg.nil_mrg] using this
                  rw [List.append_assoc pre, ← HM.out] at HOd
                  go_wp2
                  go_end0
                  exact ⟨rfl, HOd.out, HG6.out⟩
            · by_cases cD : d < R.length
              · try (exfalso; omega)
                all_goals
                  have qa : decide ((a : Int) + (p : Int) < (m : Int)) = true := decide_eq_true (by omega)
                  have qb : decide ((m : Int) < (m : Int) + (d : Int)) = true := decide_eq_true (by omega)
                  have qc : decide ((a : Int) < (a : Int) + (p : Int)) = false := decide_eq_false (by omega)
                  have qd : decide ((a : Int) + (p : Int) < (a : Int) + (h0 : Int)) = true := decide_eq_true (by omega)
                  have qe : decide ((a : Int) + (h0 : Int) < (m : Int) + (d : Int)) = true := decide_eq_true (by omega)
                  have qf : decide ((m : Int) + (d : Int) < (b : Int)) = true := decide_eq_true (by omega)
                  go_wp2_with fail
                  refine (rotate_int B0 g c n (pre ++ L1) L2 R1 (R2 ++ post) _ _ _ _ _ _ rfl (by rw [HPA.out]; omega) (by rw [HPA.out, HLL2.out]; omega) (by rw [HPA.out, HLL2.out, HRL1.out]; omega) (by rw [HLL2.out]; omega) (by rw [HRL1.out]; omega) HNa.out hn2 HOa.out).mono ?_
                  rintro e w5 ⟨rfl, ho5, hg5⟩
                  have HOb : Hid (w5.ownsRow B0 33 2 (.slice (some ⟨g, 0, none⟩) n c) n (flat encR (pre ++ (L1 ++ R1) ++ (L2 ++ R2) ++ post))) := by
                    show World.ownsRow _ _ _ _ _ _ _
                    simpa only [List.append_assoc] using ho5
                  have HG5 := Lib.hid (grown_trans HG2.out hg5)
                  clear ho5 hg5 HOa
                  have HOc : Hid (w5.ownsRow B0 33 2 (.slice (some ⟨g, 0, none⟩) n c) n (flat encR (pre ++ Mg.mrg lt L1 R1 ++ (L2 ++ R2 ++ post)))) := by
                    show World.ownsRow _ _ _ _ _ _ _
                    have nL1 : L1 = [] := List.eq_nil_of_length_eq_zero (by have := HLL1.out; omega)
                    have := HOb.out
                    rw [nL1] at this ⊢
                    simpa only [List.append_assoc, List.nil_append, List.append_nil, Mg.mrg_nil, Mg.nil_mrg] using this
                  go_wp2_with fail
                  refine (HIH.out B0 c n (pre ++ Mg.mrg lt L1 R1) L2 R2 post (pre ++ Mg.mrg lt L1 R1 ++ (L2 ++ R2 ++ post)) _ _ _ _ (by rw [HLL2.out, HRL2.out]; omega) (by simp only [List.append_assoc]) (by rw [HPM.out]; omega) (by rw [HPM.out, HLL2.out]; omega) (by rw [HPM.out, HLL2.out, HRL2.out]; omega) (by rw [HLL2.out]; omega) (by rw [HRL2.out]; omega) HA2.out HA4.out HNc.out hn2 (HIG.out _ HG5.out) HOc.out).mono ?_
                  rintro e w7 ⟨rfl, ho7, hg7⟩
                  have HOd := Lib.hid ho7
                  have HG7 := Lib.hid (grown_trans HG5.out hg7)
                  clear ho7 hg7 HOc
                  rw [List.append_assoc pre, ← HM.out] at HOd
                  go_wp2
                  go_end0
                  exact ⟨rfl, HOd.out, HG7.out⟩
              · try (exfalso; omega)
                all_goals
                  have qa : decide ((a : Int) + (p : Int) < (m : Int)) = true := decide_eq_true (by omega)
                  have qb : decide ((m : Int) < (m : Int) + (d : Int)) = true := decide_eq_true (by omega)
                  have qc : decide ((a : Int) < (a : Int) + (p : Int)) = false := decide_eq_false (by omega)
                  have qd : decide ((a : Int) + (p : Int) < (a : Int) + (h0 : Int)) = true := decide_eq_true (by omega)
                  have qe : decide ((a : Int) + (h0 : Int) < (m : Int) + (d : Int)) = true := decide_eq_true (by omega)
                  have qf : decide ((m : Int) + (d : Int) < (b : Int)) = false := decide_eq_false (by omega)
                  go_wp2_with fail
                  refine (rotate_int B0 g c n (pre ++ L1) L2 R1 (R2 ++ post) _ _ _ _ _ _ rfl (by rw [HPA.out]; omega) (by rw [HPA.out, HLL2.out]; omega) (by rw [HPA.out, HLL2.out, HRL1.out]; omega) (by rw [HLL2.out]; omega) (by rw [HRL1.out]; omega) HNa.out hn2 HOa.out).mono ?_
                  rintro e w5 ⟨rfl, ho5, hg5⟩
                  have HOb : Hid (w5.ownsRow B0 33 2 (.slice (some ⟨g, 0, none⟩) n c) n (flat encR (pre ++ (L1 ++ R1) ++ (L2 ++ R2) ++ post))) := by
                    show World.ownsRow _ _ _ _ _ _ _
                    simpa only [List.append_assoc] using ho5
                  have HG5 := Lib.hid (grown_trans HG2.out hg5)
                  clear ho5 hg5 HOa
                  have HOc : Hid (w5.ownsRow B0 33 2 (.slice (some ⟨g, 0, none⟩) n c) n (flat encR (pre ++ Mg.mrg lt L1 R1 ++ (L2 ++ R2 ++ post)))) := by
                    show World.ownsRow _ _ _ _ _ _ _
                    have nL1 : L1 = [] := List.eq_nil_of_length_eq_zero (by have := HLL1.out; omega)
                    have := HOb.out
                    rw [nL1] at this ⊢
                    simpa only [List.append_assoc, List.nil_append, List.append_nil, Mg.mrg_nil, Mg.nil_mrg] using this
                  have HOd : Hid (w5.ownsRow B0 33 2 (.slice (some ⟨g, 0, none⟩) n c) n (flat encR (pre ++ Mg.mrg lt L1 R1 ++ Mg.mrg lt L2 R2 ++ post))) := by
                    show World.ownsRow _ _ _ _ _ _ _
                    have nR2 : R2 = [] := List.eq_nil_of_length_eq_zero (by have := HRL2.out; omega)
                    have := HOc.out
                    rw [nR2] at this ⊢
                    simpa only [List.append_assoc, List.nil_append, List.append_nil, Mg.mrg_nil, Mg.nil_mrg] using this
                  rw [List.append_assoc pre, ← HM.out] at HOd
                  go_wp2
                  go_end0
                  exact ⟨rfl, HOd.out, HG5.out⟩
          · try (exfalso; omega)
            all_goals
              have qa : decide ((a : Int) + (p : Int) < (m : Int)) = true := decide_eq_true (by omega)
              have qb : decide ((m : Int) < (m : Int) + (d : Int)) = false := decide_eq_false (by omega)
              have qc : decide ((a : Int) < (a : Int) + (p : Int)) = true := decide_eq_true (by omega)
              have qd : decide ((a : Int) + (p : Int) < (a : Int) + (h0 : Int)) = false := decide_eq_false (by omega)
              have qe : decide ((a : Int) + (h0 : Int) < (m : Int) + (d : Int)) = true := decide_eq_true (by omega)
              have qf : decide ((m : Int) + (d : Int) < (b : Int)) = true := decide_eq_true (by omega)
              have HOb : Hid (wr.ownsRow B0 33 2 (.slice (some ⟨g, 0, none⟩) n c) n (flat encR (pre ++ (L1 ++ R1) ++ (L2 ++ R2) ++ post))) := by
                show World.ownsRow _ _ _ _ _ _ _
                have nR1 : R1 = [] := List.eq_nil_of_length_eq_zero (by have := HRL1.out; omega)
                have := HOa.out
                rw [nR1] at this ⊢
                simpa only [List.append_assoc, List.nil_append, List.append_nil] using this
              have HOc : Hid (wr.ownsRow B0 33 2 (.slice (some ⟨g, 0, none⟩) n c) n (flat encR (pre ++ Mg.mrg lt L1 R1 ++ (L2 ++ R2 ++ post)))) := by
                show World.ownsRow _ _ _ _ _ _ _
                have nR1 : R1 = [] := List.eq_nil_of_length_eq_zero (by have := HRL1.out; omega)
                have := HOb.out
                rw [nR1] at this ⊢
                simpa only [List.append_assoc, List.nil_append, List.append_nil, Mg.mrg_nil, Mg.nil_mrg] using this
              go_wp2_with fail
              refine (HIH.out B0 c n (pre ++ Mg.mrg lt L1 R1) L2 R2 post (pre ++ Mg.mrg lt L1 R1 ++ (L2 ++ R2 ++ post)) _ _ _ _ (by rw [HLL2.out, HRL2.out]; omega) (by simp only [List.append_assoc]) (by rw [HPM.out]; omega) (by rw [HPM.out, HLL2.out]; omega) (by rw [HPM.out, HLL2.out, HRL2.out]; omega) (by rw [HLL2.out]; omega) (by rw [HRL2.out]; omega) HA2.out HA4.out HNc.out hn2 (HIG.out _ HG2.out) HOc.out).mono ?_
              rintro e w7 ⟨rfl, ho7, hg7⟩
              have HOd := Lib.hid ho7
              have HG7 := Lib.hid (grown_trans HG2.out hg7)
              clear ho7 hg7 HOc
              rw [List.append_assoc pre, ← HM.out] at HOd
              go_wp2
              go_end0
              exact ⟨rfl, HOd.out, HG7.out⟩
        · by_cases cB : 0 < d
          · try (exfalso; omega)
            all_goals
              have qa : decide ((a : Int) + (p : Int) < (m : Int)) = false := decide_eq_false (by omega)
              have qb : decide ((m : Int) < (m : Int) + (d : Int)) = true := decide_eq_true (by omega)
              have qc : decide ((a : Int) < (a : Int) + (p : Int)) = true := decide_eq_true (by omega)
              have qd : decide ((a : Int) + (p : Int) < (a : Int) + (h0 : Int)) = true := decide_eq_true (by omega)
              have qe : decide ((a : Int) + (h0 : Int) < (m : Int) + (d : Int)) = false := decide_eq_false (by omega)
              have qf : decide ((m : Int) + (d : Int) < (b : Int)) = decide ((m : Int) + (d : Int) < (b : Int)) := rfl
              have HOb : Hid (wr.ownsRow B0 33 2 (.slice (some ⟨g, 0, none⟩) n c) n (flat encR (pre ++ (L1 ++ R1) ++ (L2 ++ R2) ++ post))) := by
                show World.ownsRow _ _ _ _ _ _ _
                have nL2 : L2 = [] := List.eq_nil_of_length_eq_zero (by have := HLL2.out; omega)
                have := HOa.out
                rw [nL2] at this ⊢
                simpa only [List.append_assoc, List.nil_append, List.append_nil] using this
              go_wp2_with fail
              refine (HIH.out B0 c n pre L1 R1 (L2 ++ R2 ++ post) (pre ++ (L1 ++ R1) ++ (L2 ++ R2) ++ post) _ _ _ _ (by rw [HLL1.out, HRL1.out]; omega) (by simp only [List.append_assoc]) (by rw [ha]) (by rw [ha, HLL1.out]; omega) (by rw [ha, HLL1.out, HRL1.out]; omega) (by rw [HLL1.out]; omega) (by rw [HRL1.out]; omega) HA1.out HA3.out HNb.out hn2 (HIG.out _ HG2.out) HOb.out).mono ?_
              rintro e w6 ⟨rfl, ho6, hg6⟩
              have HOc := Lib.hid ho6
              have HG6 := Lib.hid (grown_trans HG2.out hg6)
              clear ho6 hg6 HOb
              have HOd : Hid (w6.ownsRow B0 33 2 (.slice (some ⟨g, 0, none⟩) n c) n (flat encR (pre ++ Mg.mrg lt L1 R1 ++ Mg.mrg lt L2 R2 ++ post))) := by
                show World.ownsRow _ _ _ _ _ _ _
                have nL2 : L2 = [] := List.eq_nil_of_length_eq_zero (by have := HLL2.out; omega)
                have := HOc.out
                rw [nL2] at this ⊢
                simpa only [List.append_assoc, List.nil_append, List.append_nil, Mg.mrg_nil, Mg.nil_mrg] using this
              rw [List.append_assoc pre, ← HM.out] at HOd
              go_wp2
              go_end0
              exact ⟨rfl, HOd.out, HG6.out⟩
          · try (exfalso; omega)
            all_goals
              have qa : decide ((a : Int) + (p : Int) < (m : Int)) = false := decide_eq_false (by omega)
              have qb : decide ((m : Int) < (m : Int) + (d : Int)) = false := decide_eq_false (by omega)
              have qc : decide ((a : Int) < (a : Int) + (p : Int)) = true := decide_eq_true (by omega)
              have qd : decide ((a : Int) + (p : Int) < (a : Int) + (h0 : Int)) = false := decide_eq_false (by omega)
              have qe : decide ((a : Int) + (h0 : Int) < (m : Int) + (d : Int)) = false := decide_eq_false (by omega)
              have qf : decide ((m : Int) + (d : Int) < (b : Int)) = true := decide_eq_true (by omega)
              have HOb : Hid (wr.ownsRow B0 33 2 (.slice (some ⟨g, 0, none⟩) n c) n (flat encR (pre ++ (L1 ++ R1) ++ (L2 ++ R2) ++ post))) := by
                show World.ownsRow _ _ _ _ _ _ _
                have nL2 : L2 = [] := List.eq_nil_of_length_eq_zero (by have := HLL2.out; omega)
                have := HOa.out
                rw [nL2] at this ⊢
                simpa only [List.append_assoc, List.nil_append, List.append_nil] using this
              have HOc : Hid (wr.ownsRow B0 33 2 (.slice (some ⟨g, 0, none⟩) n c) n (flat encR (pre ++ Mg.mrg lt L1 R1 ++ (L2 ++ R2 ++ post)))) := by
                show World.ownsRow _ _ _ _ _ _ _
                have nR1 : R1 = [] := List.eq_nil_of_length_eq_zero (by have := HRL1.out; omega)
                have := HOb.out
                rw [nR1] at this ⊢
                simpa only [List.append_assoc, List.nil_append, List.append_nil, Mg.mrg_nil, Mg.nil_mrg] using this
              have HOd : Hid (wr.ownsRow B0 33 2 (.slice (some ⟨g, 0, none⟩) n c) n (flat encR (pre ++ Mg.mrg lt L1 R1 ++ Mg.mrg lt L2 R2 ++ post))) := by
                show World.ownsRow _ _ _ _ _ _ _
                have nL2 : L2 = [] := List.eq_nil_of_length_eq_zero (by have := HLL2.out; omega)
                have := HOc.out
                rw [nL2] at this ⊢
                simpa only [List.append_assoc, List.nil_append, List.append_nil, Mg.mrg_nil, Mg.nil_mrg] using this
              rw [List.append_assoc pre, ← HM.out] at HOd
              go_wp2
              go_end0
              exact ⟨rfl, HOd.out, HG2.out⟩

set_option maxHeartbeats 2000000 in
theorem symLt_all {I : World → Prop} {g : Nat} {lt : Int × Int → Int × Int → Bool} (S : Mg.SW lt) {cv : Value} (HCV : CmpIs I g lt cv) : ∀ N, SymLt I g lt cv N
  | 0 => fun _ _ _ _ _ _ _ _ _ _ _ _ h => absurd h (by omega)
  | N + 1 => fun B0 c n pre L R post rs x y z w hlt hrs hx hy hz hL hR hLa hRa hn hn2 hI ho => by
    have IH : SymLt I g lt cv (L.length + R.length) := fun B0 c n pre' L' R' post' rs' x y z w h => symLt_all S HCV N B0 c n pre' L' R' post' rs' x y z w (by omega)
    subst hx hy hz
    by_cases h1 : L.length = 1
    · obtain ⟨X, rfl⟩ := List.length_eq_one_iff.1 h1
      have := symMerge_one S B0 g c n pre R post rs X pre.length (pre.length + 1 + R.length) w rfl rfl hRa hrs hn hn2 hI HCV ho
      rw [List.length_singleton]
      have e : (((pre.length + 1 : Nat)) : Int) = (pre.length : Int) + 1 := by omega
      rw [e]
      exact this
    · by_cases h2 : R.length = 1
      · obtain ⟨X, rfl⟩ := List.length_eq_one_iff.1 h2
        have := symMerge_last S B0 g c n pre L post rs X pre.length (pre.length + L.length) w rfl rfl h1 hLa hrs hn hn2 hI HCV ho
        rw [List.length_singleton]
        have e : (((pre.length + L.length + 1 : Nat)) : Int) = ((pre.length + L.length : Nat) : Int) + 1 := by omega
        rw [e]
        exact this
      · exact symMerge_gen S B0 g c n pre L R post rs _ _ _ w rfl rfl rfl (by omega) (by omega) hLa hRa hrs hn hn2 IH hI HCV ho

theorem symOk {I : World → Prop} {g : Nat} {lt : Int × Int → Int × Int → Bool} (S : Mg.SW lt) {cv : Value} (HCV : CmpIs I g lt cv) : SymOk I g lt cv :=
  fun B0 c n pre L R post rs x y z w => symLt_all S HCV (L.length + R.length + 1) B0 c n pre L R post rs x y z w (by omega)

end Go.Proofs.Ytpdndcnhgadgoaa

/- Walks: SortStableFunc at records; the program's 'stable' and StableSort (under the merge's contract 'SymOk'). -/
namespace Go.Proofs.Ytpdndcnhgadgoaa
open Go.RowKit Go.Sort
set_option linter.unusedVariables false

set_option maxRecDepth 100000 in
set_option maxHeartbeats 2000000 in
theorem sortStable_any {I : World → Prop} {lt : Int × Int → Int × Int → Bool} (S : Mg.SW lt) {cv : Value} (B0 g c n : Nat) (L : List (Int × Int)) (w : World) (hn : L.length = n) (hn2 : n ≤ 1000) (hI : I w) (HCV : CmpIs I g lt cv)
    (h : w.ownsRow B0 33 2 (.slice (some ⟨g, 0, none⟩) n c) n (flat encR L)) :
    Calls Try.prog 28 #[.slice (some ⟨g, 0, none⟩) n c, cv] w fun e w' => e = .returned (.tuple #[]) ∧
      w'.ownsRow B0 33 2 (.slice (some ⟨g, 0, none⟩) n c) n (flat encR (Mg.srt lt L)) ∧ w.grownBy w' (some g) := by
  have HC := Lib.hid (stableCmp_any S B0 g c n L w hn hn2 hI HCV (symOk S HCV) h)
  clear h HCV hI
  go_enter Try.func28, Try.ntmps28
  go_wp2_with fail
  refine HC.out.mono ?_
  rintro e w5 ⟨rfl, ho5, hg5⟩
  have HO5 := Lib.hid ho5; have HG5 := Lib.hid hg5
  clear ho5 hg5
  go_wp2
  go_end0
  exact ⟨rfl, HO5.out, HG5.out⟩

set_option maxRecDepth 100000 in
set_option maxHeartbeats 2000000 in
theorem copyOfR_any (a : Option Addr) (cap : Nat) (zs : List (Int × Int)) (w : World) (hlen : zs.length ≤ 1000) (h : RecsAt w a zs) (hx : NilOk a cap) :
    Calls Try.prog 20 #[.slice a zs.length cap] w (OwnR w zs zs.length) := by
  have E0 := Lib.hid (own_lit (w := w) (e := 33) (size := 2) #[] 0 (by omega) rfl)
  have HB := Lib.hid (show Below w.heap.size w (w.alloc (.cells #[] 33)) from (Below.refl _ _).alloc (Nat.le_refl _) _)
  have HU := Lib.hid (h.below (Nat.le_refl _) HB.out)
  have HX := Lib.hid hx
  have hsm : 0 + zs.length ≤ 1099511627776 := by omega
  have hle : w.heap.size ≤ (w.alloc (.cells #[] 33)).heap.size := by simp
  have HS := Lib.hid hsm; have HLE := Lib.hid hle
  clear h hsm hle hx
  unfold OwnR
  go_enter Try.func20, Try.ntmps20
  go_wp2_with (at_builtin; refine wpList_appR (v := .slice (some ⟨w.heap.size, 0, none⟩) 0 0) slRec rfl _ _ rfl rfl E0.out rfl HU.out rfl HX.out HS.out HLE.out ?_; intro v' w2 hown2 hg2 ht2; obtain ⟨a', c, rfl⟩ := own_slice hown2; have HO := Lib.hid hown2; have HG := Lib.hid hg2; have HT := Lib.hid ht2; clear hown2 hg2 ht2)
  go_wp2
  go_ret
  obtain ⟨g, rfl, _, _⟩ := own_addr HO.out (by
    rcases HT.out with h | h
    · rw [h]; simp [Value.ownBlock]
    · rw [h]; simp)
  refine ⟨g, c, rfl, ?_, HB.out.grown HG.out (by simp) (fun k hk => ?_)⟩
  · have := HO.out
    rw [Nat.zero_add] at this
    simpa using this
  · simp [Value.ownBlock] at hk; omega

end Go.Proofs.Ytpdndcnhgadgoaa

/- Plain law: merging and merge sort with the number of comparisons. No program in sight. -/
namespace Go.Proofs.Ytpdndcnhgadgoaa.Mg
set_option linter.unusedVariables false
section
variable {α : Type} (lt : α → α → Bool)

/-- The comparisons of a merge. -/
def mcnt : List α → List α → Nat
  | [], _ => 0
  | _ :: _, [] => 0
  | x :: l, y :: r => 1 + if lt y x then mcnt (x :: l) r else mcnt l (y :: r)
termination_by l r => l.length + r.length
theorem mcnt_nil (r : List α) : mcnt lt [] r = 0 := by unfold mcnt; rfl
theorem nil_mcnt (l : List α) : mcnt lt l [] = 0 := by
  cases l with
  | nil => exact mcnt_nil lt []
  | cons x l => unfold mcnt; rfl
theorem mcnt_cons (x : α) (l : List α) (y : α) (r : List α) : mcnt lt (x :: l) (y :: r) = 1 + if lt y x then mcnt lt (x :: l) r else mcnt lt l (y :: r) := by
  conv => lhs; unfold mcnt
theorem mcnt_lt {x : α} {l : List α} {y : α} {r : List α} (h : lt y x = true) : mcnt lt (x :: l) (y :: r) = 1 + mcnt lt (x :: l) r := by rw [mcnt_cons, if_pos h]
theorem mcnt_ge {x : α} {l : List α} {y : α} {r : List α} (h : lt y x = false) : mcnt lt (x :: l) (y :: r) = 1 + mcnt lt l (y :: r) := by rw [mcnt_cons, if_neg (by rw [h]; simp)]
/-- Fewer comparisons than elements, unless there is none. -/
theorem mcnt_bound : ∀ (l r : List α), mcnt lt l r < l.length + r.length ∨ l.length + r.length = 0
  | [], r => by rw [mcnt_nil, List.length_nil]; omega
  | x :: l, [] => by rw [nil_mcnt]; simp
  | x :: l, y :: r => by
    left
    cases h : lt y x
    · rw [mcnt_ge lt h]
      have := mcnt_bound l (y :: r)
      simp at this ⊢; omega
    · rw [mcnt_lt lt h]
      have := mcnt_bound (x :: l) r
      simp at this ⊢; omega
termination_by l r => l.length + r.length
theorem mcnt_le (l r : List α) : mcnt lt l r ≤ l.length + r.length := by
  rcases mcnt_bound lt l r with h | h
  · omega
  · rw [List.eq_nil_of_length_eq_zero (by omega : l.length = 0), mcnt_nil]; omega

/-- Merge sort, and its comparisons. -/
def msF : Nat → List α → List α × Nat
  | 0, l => (l, 0)
  | f + 1, l => if l.length < 2 then (l, 0) else
    let a := msF f (l.take (l.length / 2))
    let b := msF f (l.drop (l.length / 2))
    (mrg lt a.1 b.1, a.2 + b.2 + mcnt lt a.1 b.1)
def ms (l : List α) : List α × Nat := msF lt l.length l
theorem msF_fuel : ∀ (f g : Nat) (l : List α), l.length ≤ f → l.length ≤ g → msF lt f l = msF lt g l
  | 0, 0, l, _, _ => rfl
  | 0, g + 1, l, h, _ => by
    unfold msF; rw [if_pos (by omega)]
  | f + 1, 0, l, _, h => by
    unfold msF; rw [if_pos (by omega)]
  | f + 1, g + 1, l, h1, h2 => by
    unfold msF
    split
    · rfl
    · rw [msF_fuel f g (l.take (l.length / 2)) (by simp; omega) (by simp; omega), msF_fuel f g (l.drop (l.length / 2)) (by simp; omega) (by simp; omega)]
theorem ms_small {l : List α} (h : l.length < 2) : ms lt l = (l, 0) := by
  unfold ms
  rw [msF_fuel lt _ (l.length + 1) l (Nat.le_refl _) (by omega), msF, if_pos h]
theorem ms_big {l : List α} (h : 2 ≤ l.length) : ms lt l = (mrg lt (ms lt (l.take (l.length / 2))).1 (ms lt (l.drop (l.length / 2))).1, (ms lt (l.take (l.length / 2))).2 + (ms lt (l.drop (l.length / 2))).2 + mcnt lt (ms lt (l.take (l.length / 2))).1 (ms lt (l.drop (l.length / 2))).1) := by
  unfold ms
  rw [msF_fuel lt _ (l.length + 1) l (Nat.le_refl _) (by omega), msF, if_neg (by omega)]
  rw [msF_fuel lt l.length (l.take (l.length / 2)).length (l.take (l.length / 2)) (by simp; omega) (Nat.le_refl _), msF_fuel lt l.length (l.drop (l.length / 2)).length (l.drop (l.length / 2)) (by simp) (Nat.le_refl _)]
variable {lt}
theorem ms_srt (S : SW lt) : ∀ (n : Nat) (l : List α), l.length ≤ n → (ms lt l).1 = srt lt l
  | 0, l, h => by
    rw [ms_small lt (by omega), List.eq_nil_of_length_eq_zero (by omega : l.length = 0)]; rfl
  | n + 1, l, h => by
    rcases Nat.lt_or_ge l.length 2 with h2 | h2
    · rw [ms_small lt h2]
      match l, h2 with
      | [], _ => rfl
      | [x], _ => exact (srt_one x).symm
    · rw [ms_big lt h2, ms_srt S n (l.take (l.length / 2)) (by simp; omega), ms_srt S n (l.drop (l.length / 2)) (by simp; omega), srt_mrg S, List.take_append_drop]
theorem ms_bound (S : SW lt) : ∀ (k : Nat) (l : List α), l.length ≤ 2 ^ k → (ms lt l).2 ≤ k * l.length
  | 0, l, h => by
    rw [ms_small lt (by simp at h; omega)]; simp
  | k + 1, l, h => by
    rcases Nat.lt_or_ge l.length 2 with h2 | h2
    · rw [ms_small lt h2]; simp
    · rw [ms_big lt h2]
      have hp : 2 ^ (k + 1) = 2 * 2 ^ k := by rw [Nat.pow_succ]; omega
      have h1 := ms_bound S k (l.take (l.length / 2)) (by simp; omega)
      have h3 := ms_bound S k (l.drop (l.length / 2)) (by simp; omega)
      have h4 := mcnt_le lt (ms lt (l.take (l.length / 2))).1 (ms lt (l.drop (l.length / 2))).1
      rw [ms_srt S _ _ (Nat.le_refl _), ms_srt S _ _ (Nat.le_refl _), srt_length, srt_length] at h4
      rw [List.length_take, Nat.min_eq_left (by omega)] at h1 h4
      rw [List.length_drop] at h3 h4
      have e1 : k * (l.length / 2) + k * (l.length - l.length / 2) = k * l.length := by rw [← Nat.mul_add]; congr 1; omega
      rw [ms_srt S _ _ (Nat.le_refl _), ms_srt S _ _ (Nat.le_refl _)]
      rw [Nat.add_mul, Nat.one_mul]
      show (ms lt (l.take (l.length / 2))).2 + (ms lt (l.drop (l.length / 2))).2 + mcnt lt _ _ ≤ _
      omega
end
end Go.Proofs.Ytpdndcnhgadgoaa.Mg

/- Walks: the merge of two record lists: the reference's. -/
namespace Go.Proofs.Ytpdndcnhgadgoaa
open Go.RowKit Go.Sort
set_option linter.unusedVariables false

/-- The comparison by keys. -/
abbrev ltR : Int × Int → Int × Int → Bool := Mg.ltK Prod.fst

/-- What a merge gives back. -/
def MergeEnd (w : World) (L R : List (Int × Int)) (n : Nat) (e : Ending) (w' : World) : Prop :=
  ∃ (g c : Nat), e = .returned (.tuple #[.slice (some ⟨g, 0, none⟩) n c, .int .i64 ((Mg.mcnt ltR L R : Nat) : Int)]) ∧ w'.ownsRow w.heap.size 33 2 (.slice (some ⟨g, 0, none⟩) n c) n (flat encR (Mg.mrg ltR L R)) ∧ Below w.heap.size w w'

def lenV : Value → Nat | .slice _ n _ => n | _ => 0

end Go.Proofs.Ytpdndcnhgadgoaa

/- Walks: the merge of two record lists: the program's. -/
namespace Go.Proofs.Ytpdndcnhgadgoaa
open Go.RowKit Go.Sort
set_option linter.unusedVariables false

end Go.Proofs.Ytpdndcnhgadgoaa

/- Walks: the check 'all' on records; keys; the first descent. -/
namespace Go.Proofs.Ytpdndcnhgadgoaa
open Go.RowKit
set_option linter.unusedVariables false

set_option maxHeartbeats 400000 in
theorem isRecord_any (k t : Int) (w : World) :
    Calls Try.prog 19 #[.agg #[.int .i64 k, .int .i64 t]] w fun e w' => e = .returned (.bool (okRec (k, t))) ∧ Below w.heap.size w w' := by
  have HK := Lib.hid (fun w1 => isKey_any k w1)
  have HN := Lib.hid (fun w1 => in_any t 0 999 w1)
  have HE : okRec (k, t) = (okKey k && inB t 0 999) := rfl
  rw [HE]
  have HB : Hid (Below w.heap.size w (w.alloc (.cells #[.int .i64 k, .int .i64 t] 33))) := (Below.refl _ _).alloc (Nat.le_refl _) _
  clear HE
  cases h1 : okKey k
  all_goals
    rw [h1] at HK
    clear h1
    go_enter Try.func19, Try.ntmps19
    go_wp2_with (first | (go_at_call 34; refine (HK.out _).mono ?_; rintro e w' ⟨rfl, rfl⟩) | (go_at_call 27; refine (HN.out _).mono ?_; rintro e w' ⟨rfl, rfl⟩))
    go_ret
    exact ⟨rfl, HB.out⟩

/-- A function value that answers a predicate on records; it may make memory of its own. -/
def IsPredR (w : World) (hv : Value) (p : Int × Int → Bool) : Prop :=
  ∃ G cp, hv = .func (.func G) #[] cp ∧ (∀ args w, (callFunc G args).run Try.prog w = .ok (.enter G args) w) ∧ ∀ w1, Below w.heap.size w w1 → ∀ x : Int × Int, Calls Try.prog G (#[.agg #[.int .i64 x.1, .int .i64 x.2]] ++ cp) w1 fun e w' => e = .returned (.bool (p x)) ∧ Below w1.heap.size w1 w'

theorem isRecord_pred (w : World) : IsPredR w (.func (.func 19) #[] #[]) okRec :=
  ⟨_, _, rfl, fun _ _ => by kernel_rfl, fun w1 _ x => by simpa using isRecord_any x.1 x.2 w1⟩

set_option maxHeartbeats 400000 in
theorem allcR_any (pc : Nat) (hv : Value) (p : Int × Int → Bool) (w0 w : World) (hp : IsPredR w0 hv p) (hb : Below w0.heap.size w0 w) (hc : w.cell? ⟨pc, 0, none⟩ = some hv) (x : Int × Int) :
    Calls Try.prog 41 #[.agg #[.int .i64 x.1, .int .i64 x.2], .pointer (some ⟨pc, 0, none⟩)] w fun e w' => e = .returned (.bool (!p x)) ∧ Below w.heap.size w w' := by
  obtain ⟨G, cp, rfl, hcall, hp⟩ := hp
  have hsz := World.block_lt_of_cell? w _ hc
  have hb2 : Below w.heap.size w (w.alloc (.cells #[.int .i64 x.1, .int .i64 x.2] 33)) := (Below.refl _ _).alloc (Nat.le_refl _) _
  have HP := Lib.hid (hp _ (hb.trans (hb2.mono hb.size)) x)
  have HB := Lib.hid hb2
  clear hp hb hb2
  obtain ⟨k, t⟩ := x
  have hcall := hcall (#[.agg #[.int .i64 k, .int .i64 t]] ++ cp)
  go_enter Try.func41, Try.ntmps41
  go_wp2_with fail
  refine HP.out.mono ?_
  rintro e w' ⟨rfl, hb3⟩
  have HB3 := Lib.hid (HB.out.trans (hb3.mono HB.out.size))
  clear hb3
  go_wp2
  go_ret
  exact ⟨rfl, HB3.out⟩

set_option maxHeartbeats 400000 in
theorem indexFuncR_any (a : Option Addr) (cap : Nat) (zs : List (Int × Int)) (pc : Nat) (hv : Value) (p : Int × Int → Bool) (w0 w : World) (hbig : zs.length ≤ 9223372036854775807) (h : RecsAt w a zs)
    (hp : IsPredR w0 hv p) (hb : Below w0.heap.size w0 w) (hc : w.cell? ⟨pc, 0, none⟩ = some hv) :
    Calls Try.prog 46 #[.slice a zs.length cap, .func (.func 41) #[] #[.pointer (some ⟨pc, 0, none⟩)]] w
      fun e w' => (∃ n : Int, e = .returned (.int .i64 n) ∧ decide (0 ≤ n) = zs.any (fun x => !p x)) ∧ Below w.heap.size w w' := by
  have hsz := World.block_lt_of_cell? w _ hc
  have H := Lib.hid h; clear h
  have HC := Lib.hid hc; clear hc
  have HP := Lib.hid hp; clear hp
  have HB := Lib.hid hb; clear hb
  have HZ := Lib.hid hsz; clear hsz
  go_enter Try.func46, Try.ntmps46
  go_wp2
  go_loopw [8] (fun i wr => ∃ k : Nat, k ≤ zs.length ∧ i = .int .i64 k ∧ (∀ j, j < k → p (zs.getD j (0, 0)) = true) ∧ Below w.heap.size w wr) (fun i _ => zs.length - (intOf i).toNat)
  case atStart => exact ⟨0, by omega, rfl, by intro j h; omega, Below.refl _ _⟩
  case round =>
    obtain ⟨k, hk, rfl, hall, hbr⟩ := hrel
    have Hall := Lib.hid hall; clear hall
    by_cases h1 : k < zs.length
    · obtain ⟨b, off, rfl, hc1, hc2⟩ := (H.out.below (Nat.le_refl _) hbr).at h1
      have hcw : wr.cell? ⟨pc, 0, none⟩ = some hv := (hbr.cell (p := ⟨pc, 0, none⟩) HZ.out).trans HC.out
      have HQ := Lib.hid (allcR_any pc hv p w0 wr HP.out (HB.out.trans (hbr.mono HB.out.size)) hcw (zs.getD k (0, 0)))
      generalize hx : zs.getD k (0, 0) = x at hc1 hc2 HQ
      have Hx := Lib.hid hx; clear hx hcw
      have HBR := Lib.hid hbr; clear hbr
      obtain ⟨x1, x2⟩ := x
      go_wp2_with fail
      refine HQ.out.mono ?_
      rintro e w2 ⟨rfl, hb2⟩
      have HB2 := Lib.hid (HBR.out.trans (hb2.mono HBR.out.size)); clear hb2
      cases hq : p (x1, x2)
      · have HV := Lib.hid hq; clear hq
        go_wp2
        go_ret
        refine ⟨⟨_, rfl, ?_⟩, HB2.out⟩
        rw [List.any_eq_true.2 ⟨zs[k], List.getElem_mem h1, by
          have : zs[k] = (x1, x2) := by rw [← Hx.out]; simp [List.getD, h1]
          rw [this, HV.out]; rfl⟩]
        simp
      · have HV := Lib.hid hq; clear hq
        go_wp2
        go_roundw
        case rel =>
          refine ⟨k + 1, by omega, by go_num, fun j hj => ?_, HB2.out⟩
          rcases Nat.lt_succ_iff_lt_or_eq.1 hj with h | rfl
          · exact Hall.out j h
          · rw [Hx.out]; exact HV.out
        case measure => simp [intOf]; omega
    · have HBR := Lib.hid hbr; clear hbr
      go_wp2
      go_ret
      refine ⟨⟨_, rfl, ?_⟩, HBR.out⟩
      rw [List.any_eq_false.2 (fun x hx => by
        obtain ⟨j, hj, rfl⟩ := List.getElem_of_mem hx
        have := Hall.out j (by omega)
        simp only [List.getD, List.getElem?_eq_getElem hj, Option.getD_some] at this
        simp [this])]
      rfl

set_option maxHeartbeats 400000 in
theorem containsFuncR_any (a : Option Addr) (cap : Nat) (zs : List (Int × Int)) (pc : Nat) (hv : Value) (p : Int × Int → Bool) (w0 w : World) (hbig : zs.length ≤ 9223372036854775807) (h : RecsAt w a zs)
    (hp : IsPredR w0 hv p) (hb : Below w0.heap.size w0 w) (hc : w.cell? ⟨pc, 0, none⟩ = some hv) :
    Calls Try.prog 40 #[.slice a zs.length cap, .func (.func 41) #[] #[.pointer (some ⟨pc, 0, none⟩)]] w
      fun e w' => e = .returned (.bool (zs.any (fun x => !p x))) ∧ Below w.heap.size w w' := by
  have HI := Lib.hid (indexFuncR_any a cap zs pc hv p w0 w hbig h hp hb hc)
  clear h hp hb hc
  go_enter Try.func40, Try.ntmps40
  go_wp2_with fail
  refine HI.out.mono ?_
  rintro e w2 ⟨⟨n, rfl, hn⟩, hb2⟩
  have HN := Lib.hid hn; clear hn
  have HB := Lib.hid hb2; clear hb2
  go_wp2
  go_ret
  exact ⟨ret_bool HN.out, HB.out⟩

set_option maxHeartbeats 400000 in
theorem allR_any (a : Option Addr) (cap : Nat) (zs : List (Int × Int)) (hv : Value) (p : Int × Int → Bool) (w : World) (hbig : zs.length ≤ 9223372036854775807) (h : RecsAt w a zs) (hp : IsPredR w hv p) :
    Calls Try.prog 26 #[.slice a zs.length cap, hv] w fun e w' => e = .returned (.bool (zs.all p)) ∧ Below w.heap.size w w' := by
  have hb : Below w.heap.size w (w.alloc (.cells #[hv] 46)) := (Below.refl _ _).alloc (Nat.le_refl _) _
  have hc : (w.alloc (.cells #[hv] 46)).cell? ⟨w.heap.size, 0, none⟩ = some hv := by rw [World.cell?_alloc_at _ _ _ _ rfl]; rfl
  have HI := Lib.hid (containsFuncR_any a cap zs w.heap.size hv p w _ hbig (h.below (Nat.le_refl _) hb) hp hb hc)
  have HB := Lib.hid hb
  have he : (!zs.any (fun x => !p x)) = zs.all p := by rw [List.not_any_eq_all_not]; simp
  have HE := Lib.hid he; clear he
  have hmf := hmf
  obtain ⟨G, cp, rfl, _⟩ := hp
  clear h hb hc
  go_enter Try.func26, Try.ntmps26
  go_wp2_with fail
  refine HI.out.mono ?_
  rintro e w2 ⟨rfl, hb2⟩
  have HB2 := Lib.hid (HB.out.trans (hb2.mono HB.out.size)); clear hb2
  go_wp2
  go_ret
  exact ⟨ret_bool HE.out, HB2.out⟩

set_option maxHeartbeats 400000 in
theorem isValidRecords_any (a : Option Addr) (cap : Nat) (zs : List (Int × Int)) (w : World) (hbig : zs.length ≤ 9223372036854775807) (h : RecsAt w a zs) :
    Calls Try.prog 14 #[.slice a zs.length cap] w fun e w' => e = .returned (.bool (okRecs zs)) ∧ Below w.heap.size w w' := by
  have HI := Lib.hid (allR_any a cap zs _ okRec w hbig h (isRecord_pred w))
  clear h
  by_cases hl : zs.length ≤ 64
  all_goals
    go_enter Try.func14, Try.ntmps14
    go_wp2_with ((go_at_call 26; refine HI.out.mono ?_; rintro e w' ⟨rfl, hb⟩))
    go_ret
    exact ⟨ret_bool (by simp [okRecs, hl]), by first | exact hb | exact Below.refl _ _⟩

end Go.Proofs.Ytpdndcnhgadgoaa

/- Walks: the stable sort of records, of both packages; records held side by side; the draw. -/
namespace Go.Proofs.Ytpdndcnhgadgoaa
open Go.RowKit Go.Sort
set_option linter.unusedVariables false

/-- Records that can be read behind a slice. -/
structure Rd (w : World) (a : Option Addr) (n c : Nat) (rs : List (Int × Int)) : Prop where
  recs : RecsAt w a rs
  len : rs.length = n
  nil : NilOk a c
  cap : n ≤ c
theorem Rd.below {w w' : World} {B : Nat} {a : Option Addr} {n c : Nat} {rs : List (Int × Int)} (h : Rd w a n c rs) (hB : w.heap.size ≤ B) (hb : Below B w w') : Rd w' a n c rs :=
  ⟨h.recs.below hB hb, h.len, h.nil, h.cap⟩
theorem Rd.same {w w' : World} {a : Option Addr} {n c : Nat} {rs : List (Int × Int)} (h : Rd w a n c rs) (hb : Below w.heap.size w w') : Rd w' a n c rs := h.below (Nat.le_refl _) hb
theorem own_cap {w : World} {B : Nat} {e : TypeId} {size n c : Nat} {a : Option Addr} {xs : List Value} (h : w.ownsRow B e size (.slice a n c) n xs) : n ≤ c := by
  rcases h.2 with ⟨hv, hm⟩ | ⟨g, cap, cur, hv, _, _, hn, _⟩
  · omega
  · injection hv with _ _ h3; omega
theorem rd_own {w : World} {B : Nat} {e : TypeId} {n c : Nat} {a : Option Addr} {rs : List (Int × Int)} (h : w.ownsRow B e 2 (.slice a n c) n (flat encR rs)) : Rd w a n c rs :=
  ⟨recs_of_own h, by have := h.1; rw [flat_length encR_len] at this; omega, nilOk_own h, own_cap h⟩
theorem rd_nil (w : World) : Rd w none 0 0 [] := ⟨.inl rfl, rfl, fun _ => rfl, Nat.le_refl _⟩
theorem rd_some (w : World) (x : Addr) (c : Nat) : Rd w (some x) 0 c [] := ⟨.inl rfl, rfl, nilOk_some _ _, Nat.zero_le _⟩

/-- A list and a Bool, given back. -/
def RdEnd (w : World) (out : List (Int × Int)) (ok : Bool) (e : Ending) (w' : World) : Prop :=
  ∃ (a : Option Addr) (n c : Nat), e = .returned (.tuple #[.slice a n c, .bool ok]) ∧ Rd w' a n c out ∧ Below w.heap.size w w'

theorem okRecs_le {rs : List (Int × Int)} (h : okRecs rs = true) : rs.length ≤ 64 := by
  unfold okRecs at h
  simp at h
  exact h.1
def stAns (rs : List (Int × Int)) : List (Int × Int) := if okRecs rs = true then srtR rs else []

theorem Rd.at {w : World} {a : Option Addr} {n c : Nat} {rs : List (Int × Int)} (h : Rd w a n c rs) {k : Nat} (hk : k < n) :
    ∃ b off, a = some ⟨b, off, none⟩ ∧ w.cell? ⟨b, off + k * 2, none⟩ = some (.int .i64 (rs.getD k (0, 0)).1) ∧ w.cell? ⟨b, off + k * 2 + 1, none⟩ = some (.int .i64 (rs.getD k (0, 0)).2) :=
  h.recs.at (by rw [h.len]; exact hk)

set_option maxRecDepth 100000 in
set_option maxHeartbeats 2000000 in
theorem vRecords_any (a b : Option Addr) (n m c d : Nat) (L R : List (Int × Int)) (w : World) (hn : n ≤ 9223372036854775807) (hm : m ≤ 9223372036854775807) (hL : Rd w a n c L) (hR : Rd w b m d R) :
    Calls Try.prog 11 #[.slice a n c, .slice b m d] w fun e w' => e = .returned (.bool (decide (L = R))) ∧ Below w.heap.size w w' := by
  have HL := Lib.hid hL; have HR := Lib.hid hR
  clear hL hR
  by_cases hnm : n = m
  case neg =>
    have q1 : ((n : Int) != (m : Int)) = true := by simp; omega
    have HE : Hid (decide (L = R) = false) := by
      show _ = _
      refine decide_eq_false fun h => hnm ?_
      rw [← HL.out.len, ← HR.out.len, h]
    go_enter Try.func11, Try.ntmps11
    go_wp2
    go_ret
    exact ⟨ret_bool HE.out.symm, Below.refl _ _⟩
  subst hnm
  have q1 : ((n : Int) != (n : Int)) = false := by simp
  go_enter Try.func11, Try.ntmps11
  go_wp2
  go_loopw [5] (fun v wr => ∃ k : Nat, v = .int .i64 k ∧ k ≤ n ∧ Hid (∀ j, j < k → L.getD j (0, 0) = R.getD j (0, 0)) ∧ Below w.heap.size w wr) (fun v _ => n - (intOf v).toNat)
  case atStart => exact ⟨0, rfl, by omega, Lib.hid (fun j h => by omega), Below.refl _ _⟩
  case round =>
    obtain ⟨k, rfl, hk, HALL, hb⟩ := hrel
    have HB := Lib.hid hb
    clear hb
    by_cases hlt : k < n
    case neg =>
      obtain rfl : k = n := by omega
      have HE : Hid (decide (L = R) = true) := by
        show _ = _
        refine decide_eq_true (List.ext_getElem (by rw [HL.out.len, HR.out.len]) fun j h1 h2 => ?_)
        have := HALL.out j (by rw [← HL.out.len]; exact h1)
        rwa [getD_get h1, getD_get h2] at this
      have h3 : decide ((k : Int) < (k : Int)) = false := by simp
      go_wp2
      go_ret
      exact ⟨ret_bool HE.out.symm, HB.out⟩
    obtain ⟨x, o, rfl, c1, c1'⟩ := (HL.out.same HB.out).at hlt
    obtain ⟨y, p, rfl, c2, c2'⟩ := (HR.out.same HB.out).at hlt
    obtain ⟨X, hX⟩ : ∃ X, L.getD k (0, 0) = X := ⟨_, rfl⟩
    obtain ⟨Y, hY⟩ : ∃ Y, R.getD k (0, 0) = Y := ⟨_, rfl⟩
    rw [hX] at c1 c1'
    rw [hY] at c2 c2'
    have HX := Lib.hid hX; have HY := Lib.hid hY
    clear hX hY
    obtain ⟨X1, X2⟩ := X
    obtain ⟨Y1, Y2⟩ := Y
    have h3 : decide ((k : Int) < (n : Int)) = true := decide_eq_true (by omega)
    by_cases hxy : X1 = Y1 ∧ X2 = Y2
    · obtain ⟨rfl, rfl⟩ := hxy
      go_wp2_with fail
      go_quiet (fail)
      go_wp2
      go_roundw
      case rel => exact ⟨k + 1, by go_num, by omega, Lib.hid (fun j hj => by
        rcases Nat.lt_or_ge j k with h | h
        · exact HALL.out j h
        · obtain rfl : j = k := by omega
          rw [HX.out, HY.out]), below_drewN HB.out _⟩
      case measure => simp [intOf] <;> omega
    · have HE : Hid (decide (L = R) = false) := by
        show _ = _
        refine decide_eq_false fun h => hxy ?_
        have := HX.out
        rw [h, HY.out] at this
        injection this with h1 h2
        exact ⟨h1.symm, h2.symm⟩
      by_cases q1 : X1 = Y1
      · subst q1
        have q2 : (X2 == Y2) = false := by simpa using hxy
        clear hxy
        go_wp2_with fail
        go_quiet (fail)
        go_wp2
        go_ret
        exact ⟨ret_bool HE.out.symm, below_drewN HB.out _⟩
      · have q2 : (X1 == Y1) = false := by simpa using q1
        clear hxy q1
        go_wp2_with fail
        go_quiet (fail)
        go_wp2
        go_ret
        exact ⟨ret_bool HE.out.symm, below_drewN HB.out _⟩

end Go.Proofs.Ytpdndcnhgadgoaa
