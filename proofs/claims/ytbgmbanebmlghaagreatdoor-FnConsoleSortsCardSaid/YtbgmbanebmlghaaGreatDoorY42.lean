/- Several texts in one: lemmas and walks of the functions that the law reaches. -/
import Derived.Test.YtbgmbanebmlghaaGreatDoorY31
import Derived.Test.YtbgmbanebmlghaaGreatDoorY41

namespace Go.Proofs.YtbgmbanebmlghaaGreatDoor
open Go.RowKit
set_option linter.unusedVariables false

theorem nums_nil : nums [] = some [] := rfl
/-- Four cells of a block written anew. -/
def w4 (w : World) (g : Nat) (x y z v : Value) : World := (((w.setCell ⟨g, 0, none⟩ x).setCell ⟨g, 1, none⟩ y).setCell ⟨g, 2, none⟩ z).setCell ⟨g, 3, none⟩ v
theorem four_set {w : World} {g : Nat} {a b c d : Value} (x y z v : Value) (h0 : w.cell? ⟨g, 0, none⟩ = some a) (h1 : w.cell? ⟨g, 1, none⟩ = some b) (h2 : w.cell? ⟨g, 2, none⟩ = some c) (h3 : w.cell? ⟨g, 3, none⟩ = some d) :
    (w4 w g x y z v).cell? ⟨g, 0, none⟩ = some x ∧ (w4 w g x y z v).cell? ⟨g, 1, none⟩ = some y ∧ (w4 w g x y z v).cell? ⟨g, 2, none⟩ = some z ∧ (w4 w g x y z v).cell? ⟨g, 3, none⟩ = some v := by
  obtain ⟨-, -, -, s0, s1, s2⟩ := three_set x y z h0 h1 h2
  have n03 : (⟨g, 0, none⟩ : Addr) ≠ ⟨g, 3, none⟩ := by simp
  have n13 : (⟨g, 1, none⟩ : Addr) ≠ ⟨g, 3, none⟩ := by simp
  have n23 : (⟨g, 2, none⟩ : Addr) ≠ ⟨g, 3, none⟩ := by simp
  have e3 : (((w.setCell ⟨g, 0, none⟩ x).setCell ⟨g, 1, none⟩ y).setCell ⟨g, 2, none⟩ z).cell? ⟨g, 3, none⟩ = some d := by
    rw [World.cell?_setCell_other (h := n23), World.cell?_setCell_other (h := n13), World.cell?_setCell_other (h := n03)]; exact h3
  exact ⟨(World.cell?_setCell_other (h := n03.symm) ..).trans s0, (World.cell?_setCell_other (h := n13.symm) ..).trans s1, (World.cell?_setCell_other (h := n23.symm) ..).trans s2, World.cell?_setCell_same' _ _ _ (by rw [e3]; rfl)⟩
theorem four_rd {w : World} {g B n c' : Nat} {a' : Option Addr} {G : Recs} (x y z v : Value) (hr : Rd w a' n c' G) (ho : OwnE w B a' n c' G) (hg : g < B) : Rd (w4 w g x y z v) a' n c' G := by
  rcases ho with ⟨_, h2⟩ | h
  · exact ⟨.inl h2, hr.len, hr.nil, hr.cap⟩
  · exact rd_own (own_other h (grown_trans (grown_trans (grown_trans (setc_grown w g 0 x) (setc_grown _ g 1 y)) (setc_grown _ g 2 z)) (setc_grown _ g 3 v)) (fun k hk e => by injection e with e; have := (h.lt k hk).1; omega))
theorem costW_bound {w b : Nat} (hb : 0 < b) (hw : 2 ≤ w) : ∀ (n : Nat) (ns : List Nat) (p r q : Nat), ns.length ≤ n → ns.sum ≤ 64 → (Mg.costW w b ns p r q).1 ≤ p + n ∧ (Mg.costW w b ns p r q).2.1 ≤ r + 64 * n ∧ (Mg.costW w b ns p r q).2.2 ≤ q + 64 * n
  | 0, ns, p, r, q, h, _ => by rw [Mg.costW_end (by omega)]; exact ⟨by simp, by simp, by simp⟩
  | n + 1, ns, p, r, q, h, hs => by
    rcases Nat.lt_or_ge 1 ns.length with h1 | h1
    · have h2 := Mg.up_lt hw h1
      have hg : (Mg.grp w ns).sum = ns.sum := Mg.grp_sum (by omega) ns
      have b1 := Mg.blks_le hb ns
      have b2 := Mg.blks_le hb (Mg.grp w ns)
      obtain ⟨i1, i2, i3⟩ := costW_bound hb hw n (Mg.grp w ns) (p + 1) (r + Mg.blks b ns) (q + Mg.blks b (Mg.grp w ns)) (by rw [Mg.grp_len (by omega)]; omega) (by omega)
      rw [Mg.costW_go h1 hw]
      exact ⟨by omega, by omega, by omega⟩
    · rw [Mg.costW_end (by omega)]
      exact ⟨by simp, by simp, by simp⟩
theorem cost_bound (rs : Recs) (m k b : Int) : (exC rs m k b).1 ≤ 64 ∧ (exC rs m k b).2.1 ≤ 10000 ∧ (exC rs m k b).2.2.1 ≤ 10000 ∧ (exC rs m k b).2.2.2 ≤ 10000 := by
  unfold exC
  split
  · rename_i h
    unfold exOk at h
    rw [Bool.and_eq_true] at h
    have h64 := okRecs_le h.1
    obtain ⟨p1, p2, p3, p4, p5, p6⟩ := planOk_iff h.2
    have hs := Mg.lens_sum (m := m.toNat) (by omega) rs.length
    have hl : (Mg.lens m.toNat rs.length).length ≤ 64 := by
      rw [Mg.lens_len (by omega)]
      have := Mg.blkN_le (b := m.toNat) (n := rs.length) (by omega)
      unfold Mg.blkN at this
      omega
    have hb := costW_bound (w := k.toNat) (b := b.toNat) (by omega) (by omega) 64 (Mg.lens m.toNat rs.length) 0 (Mg.blkN b.toNat rs.length) (Mg.blks b.toNat (Mg.lens m.toNat rs.length)) hl (by omega)
    have b1 := Mg.blkN_le (b := b.toNat) (n := rs.length) (by omega)
    have b2 := Mg.blks_le (b := b.toNat) (by omega) (Mg.lens m.toNat rs.length)
    unfold Mg.costOf
    exact ⟨hl, by simp only; omega, by simp only; omega, by simp only; omega⟩
  · exact ⟨by simp, by simp, by simp, by simp⟩
theorem strEq {x : ByteArray} {l : List UInt8} (h : bs x = l) : (x.toList == l) = true := by rw [bs_toList, h]; simp
theorem strNe {x : ByteArray} {l : List UInt8} (h : ¬ bs x = l) : (x.toList == l) = false := by rw [bs_toList, beq_eq_false_iff_ne]; exact h

set_option maxRecDepth 100000 in
set_option maxHeartbeats 8000000 in
theorem conSort_any (a wa : Option Addr) (n c m : Nat) (rs : Recs) (xs : List ByteArray) (w : World) (hn : n ≤ 1000) (hm : xs.length = m) (hm2 : m ≤ 1048577) (hok : okRecs rs = true) (h : Rd w a n c rs) (hx : StrsAt w wa xs) (he : Env w) :
    Calls Tryz.prog 140 #[.slice a n c, .slice wa m m] w (ChEnd w (sortC rs xs)) := by
  cases xs with
  | nil =>
    obtain rfl : m = 0 := hm.symm
    clear h hx he hok
    unfold ChEnd sortC
    go_enter Tryz.func140, Tryz.ntmps140
    go_wp2
    go_ret3
    exact ⟨none, 0, 0, _, rfl, Below.refl _ _, by decide, fun L t e => nomatch e⟩
  | cons x r =>
    obtain ⟨b, off, rfl, hblt, hc0⟩ := hx.at (k := 0) rfl
    rw [Nat.add_zero] at hc0
    have HXT := Lib.hid (hx.tail (k := 1))
    simp only [List.drop_succ_cons, List.drop_zero] at HXT
    have HRN := Lib.hid (fun (a' : Option Addr) (k : Nat) (hk : r.length = k) (hs : StrsAt w a' r) => readNumbers_any a' k k r w hk (by simp at hm; omega) he hs)
    have HMS := Lib.hid (fun (W : World) (hb : Below w.heap.size w W) => implMergeSort_any a n c rs W (by omega) (h.same hb))
    have HAS := Lib.hid (fun (W : World) (hb : Below w.heap.size w W) => implAdaptive_any a n c rs W hn (h.same hb))
    have HXS := Lib.hid (fun (W : World) (hb : Below w.heap.size w W) (m k b : Int) => implExternalSort_any a n c rs m k b W (by omega) (h.same hb))
    have HE := Lib.hid he
    have HOK := Lib.hid hok
    have HRB := Lib.hid (show ∀ W, Below w.heap.size w W → W.cell? ⟨b, off, none⟩ = some (.string x) from fun W hb => (bcell hb hblt).trans hc0)
    rw [hok] at HMS
    clear h hx he hok hc0
    unfold Rd3 at HMS
    unfold AdEnd at HAS
    unfold ExEndO at HXS
    unfold RnEnd at HRN
    by_cases hr : r = []
    · subst hr
      obtain rfl : m = 1 := hm.symm
      have HR0 := Lib.hid (HRN.out (some ⟨b, off, none⟩) 0 rfl (.inl rfl))
      clear HRN HXT
      by_cases h1 : bs x = [109, 101, 114, 103, 101]
      · have HP : Hid (sortC rs [x] = some (stAns rs, numT 32 [(msC rs : Int)])) := by show sortX rs x _ = _; unfold sortX; rw [if_pos ⟨h1, rfl⟩]
        have q1 := strEq h1
        clear h1 HAS HXS
        unfold ChEnd
        go_enter Tryz.func140, Tryz.ntmps140
        go_wp2_with fail
        refine HR0.out.mono ?_
        rintro e w1 ⟨a1, m1, c1, rfl, ho1, hb1⟩
        have HB1 := Lib.hid hb1
        have HO1 := Lib.hid ho1
        have g0 := HRB.out w1 hb1
        have HE1 := Lib.hid (HE.out.below hb1)
        clear ho1 hb1
        go_wp2_with fail
        refine (HMS.out w1 HB1.out).mono ?_
        rintro e w2 ⟨a2, n2, c2, rfl, hr2, hb2⟩
        have HR2 := Lib.hid hr2; have HB2 := Lib.hid (below_tr HB1.out hb2 HB1.out.size); have HE2 := Lib.hid (HE1.out.below hb2)
        have hbn := (Below.refl w2.heap.size w2).alloc (Nat.le_refl _) (.cells #[.int .i64 ((msC rs : Nat) : Int)] 3)
        have HSP := Lib.hid (spaced_any (some ⟨w2.heap.size, 0, none⟩) 1 1 [((msC rs : Nat) : Int)] (w2.alloc (.cells #[.int .i64 ((msC rs : Nat) : Int)] 3)) rfl (by omega) (fun y hy => by simp only [List.mem_singleton] at hy; subst hy; have := And.intro (msC_le rs) (okRecs_le HOK.out); omega) (HE2.out.below hbn).tab (lit_ints w2 [((msC rs : Nat) : Int)] (by simp)))
        have HB3 := Lib.hid (below_tr HB2.out hbn HB2.out.size)
        have HR3 := Lib.hid (hr2.same hbn)
        clear hr2 hb2 hbn
        go_wp2_with fail
        refine HSP.out.mono ?_
        rintro e w3 ⟨rfl, hb3⟩
        have HB4 := Lib.hid (below_tr HB3.out hb3 HB3.out.size)
        have HR4 := Lib.hid (HR3.out.same hb3)
        clear hb3
        go_wp2
        go_ret3
        exact ⟨a2, n2, c2, _, by rw [HP.out]; rfl, HB4.out, by rw [ba_size]; exact Nat.le_trans (numT_len (k := 1) (by simp) (by omega) (fun y hy => by simp only [List.mem_singleton] at hy; subst hy; have := And.intro (msC_le rs) (okRecs_le HOK.out); omega)) (by omega), fun L t e => by rw [HP.out] at e; injection e with e; injection e with e1 e2; subst e1 e2; exact ⟨HR4.out, rfl⟩⟩
      by_cases h2 : bs x = [97, 100, 97, 112, 116, 105, 118, 101]
      · have HP : Hid (sortC rs [x] = some (adL rs, numT 32 [(adN rs : Int)])) := by show sortX rs x _ = _; unfold sortX; rw [if_neg (fun e => h1 e.1), if_pos ⟨h2, rfl⟩]
        have q1 := strNe h1
        have q2 := strEq h2
        clear h1 h2 HMS HXS
        unfold ChEnd
        go_enter Tryz.func140, Tryz.ntmps140
        go_wp2_with fail
        refine HR0.out.mono ?_
        rintro e w1 ⟨a1, m1, c1, rfl, ho1, hb1⟩
        have HB1 := Lib.hid hb1
        have HO1 := Lib.hid ho1
        have g0 := HRB.out w1 hb1
        have HE1 := Lib.hid (HE.out.below hb1)
        clear ho1 hb1
        go_wp2_with fail
        refine (HAS.out w1 HB1.out).mono ?_
        rw [HOK.out]
        rintro e w2 ⟨a2, n2, c2, rfl, hr2, hb2⟩
        have HR2 := Lib.hid hr2; have HB2 := Lib.hid (below_tr HB1.out hb2 HB1.out.size); have HE2 := Lib.hid (HE1.out.below hb2)
        have hbn := (Below.refl w2.heap.size w2).alloc (Nat.le_refl _) (.cells #[.int .i64 ((adN rs : Nat) : Int)] 3)
        have HSP := Lib.hid (spaced_any (some ⟨w2.heap.size, 0, none⟩) 1 1 [((adN rs : Nat) : Int)] (w2.alloc (.cells #[.int .i64 ((adN rs : Nat) : Int)] 3)) rfl (by omega) (fun y hy => by simp only [List.mem_singleton] at hy; subst hy; have := adN_le rs; omega) (HE2.out.below hbn).tab (lit_ints w2 [((adN rs : Nat) : Int)] (by simp)))
        have HB3 := Lib.hid (below_tr HB2.out hbn HB2.out.size)
        have HR3 := Lib.hid (hr2.same hbn)
        clear hr2 hb2 hbn
        go_wp2_with fail
        refine HSP.out.mono ?_
        rintro e w3 ⟨rfl, hb3⟩
        have HB4 := Lib.hid (below_tr HB3.out hb3 HB3.out.size)
        have HR4 := Lib.hid (HR3.out.same hb3)
        clear hb3
        go_wp2
        go_ret3
        exact ⟨a2, n2, c2, _, by rw [HP.out]; rfl, HB4.out, by rw [ba_size]; exact Nat.le_trans (numT_len (k := 1) (by simp) (by omega) (fun y hy => by simp only [List.mem_singleton] at hy; subst hy; have := adN_le rs; omega)) (by omega), fun L t e => by rw [HP.out] at e; injection e with e; injection e with e1 e2; subst e1 e2; exact ⟨HR4.out, rfl⟩⟩
      have q1 := strNe h1
      have q2 := strNe h2
      have HP : Hid (sortC rs [x] = none) := by
        show sortX rs x _ = _
        unfold sortX
        rw [if_neg (fun e => h1 e.1), if_neg (fun e => h2 e.1)]
        split <;> rfl
      rw [nums_nil] at HR0
      clear h1 h2 HMS HAS HXS
      obtain ⟨e3, q3⟩ : ∃ e3, (x.toList == [101, 120, 116, 101, 114, 110, 97, 108]) = e3 := ⟨_, rfl⟩
      unfold ChEnd
      cases e3
      all_goals
        go_enter Tryz.func140, Tryz.ntmps140
        go_wp2_with fail
        refine HR0.out.mono ?_
        rintro e w1 ⟨a1, m1, c1, rfl, ho1, hb1⟩
        have HB1 := Lib.hid hb1
        have HO1 := Lib.hid ho1
        have g0 := HRB.out w1 hb1
        have HE1 := Lib.hid (HE.out.below hb1)
        clear ho1 hb1
        have hm0 : m1 = 0 := by have := HO1.out.1; simpa using this.symm
        subst hm0
        go_wp2
        go_ret3
        exact ⟨none, 0, 0, _, by rw [HP.out]; rfl, HB1.out, by decide, fun L t e => by rw [HP.out] at e; cases e⟩
    · have hpos : 0 < r.length := List.length_pos_iff.2 hr
      simp only [List.length_cons] at hm
      have hm1 : ¬ m = 1 := by omega
      have q0 : ((m : Int) == 1) = false := by rw [beq_eq_false_iff_ne]; omega
      have b1 : (1 : Int) ≤ (m : Int) := by omega
      have b2 : (0 : Int) < (m : Int) := by omega
      have q9 : ((m : Int) == 0) = false := by rw [beq_eq_false_iff_ne]; omega
      have HR0 := Lib.hid (HRN.out (some ⟨b, off + 1, none⟩) (m - 1) (by omega) HXT.out)
      clear HRN HXT HMS HAS
      by_cases h3 : bs x = [101, 120, 116, 101, 114, 110, 97, 108]
      · have q1 : (x.toList == [109, 101, 114, 103, 101]) = false := strNe (by rw [h3]; decide)
        have q2 : (x.toList == [97, 100, 97, 112, 116, 105, 118, 101]) = false := strNe (by rw [h3]; decide)
        have q3 := strEq h3
        have HPE : Hid (sortC rs (x :: r) = extC rs (nums r)) := by
          show sortX rs x _ = _
          unfold sortX
          rw [if_neg (fun e => by rw [h3] at e; revert e; simp), if_neg (fun e => by rw [h3] at e; revert e; simp), if_pos h3]
        clear h3
        obtain ⟨NS, hNS⟩ : ∃ NS, nums r = NS := ⟨_, rfl⟩
        rw [hNS] at HR0 HPE
        clear hNS
        unfold ChEnd
        cases NS with
        | none =>
          have HP : Hid (sortC rs (x :: r) = none) := HPE.out
          go_enter Tryz.func140, Tryz.ntmps140
          go_wp2_with fail
          refine HR0.out.mono ?_
          rintro e w1 ⟨a1, m1, c1, rfl, ho1, hb1⟩
          have HB1 := Lib.hid hb1
          have HO1 := Lib.hid ho1
          have g0 := HRB.out w1 hb1
          have HE1 := Lib.hid (HE.out.below hb1)
          clear ho1 hb1
          go_wp2
          go_ret3
          exact ⟨none, 0, 0, _, by rw [HP.out]; rfl, HB1.out, by decide, fun L t e => by rw [HP.out] at e; cases e⟩
        | some ns =>
          by_cases hn3 : ns.length = 3
          · obtain ⟨p, k, q, rfl⟩ : ∃ p k q, ns = [p, k, q] := by
              match ns, hn3 with
              | [p, k, q], _ => exact ⟨p, k, q, rfl⟩
            have HX2 := Lib.hid (fun (W : World) (hb : Below w.heap.size w W) => HXS.out W hb p k q)
            have HP : Hid (sortC rs (x :: r) = if exOk rs p k q then some (exL rs p k q, costT (exC rs p k q)) else none) := HPE.out
            clear HXS HPE
            go_enter Tryz.func140, Tryz.ntmps140
            go_wp2_with fail
            refine HR0.out.mono ?_
            rintro e w1 ⟨a1, m1, c1, rfl, ho1, hb1⟩
            have HB1 := Lib.hid hb1
            have HO1 := Lib.hid ho1
            have g0 := HRB.out w1 hb1
            have HE1 := Lib.hid (HE.out.below hb1)
            clear ho1 hb1
            have hm3 : m1 = 3 := by have := HO1.out.1; simpa using this.symm
            subst hm3
            obtain ⟨g1, rfl, hg1, hg2, hcc⟩ := own_cell HO1.out (by omega)
            have d0 : w1.cell? ⟨g1, 0, none⟩ = some (.int .i64 p) := hcc 0 (by omega)
            have d1 : w1.cell? ⟨g1, 1, none⟩ = some (.int .i64 k) := hcc 1 (by omega)
            have d2 : w1.cell? ⟨g1, 2, none⟩ = some (.int .i64 q) := hcc 2 (by omega)
            clear hcc
            obtain ⟨ok, hok⟩ : ∃ ok, exOk rs p k q = ok := ⟨_, rfl⟩
            obtain ⟨⟨k0, k1, k2, k3⟩, hC⟩ : ∃ C, exC rs p k q = C := ⟨_, rfl⟩
            obtain ⟨G, hG⟩ : ∃ G, exL rs p k q = G := ⟨_, rfl⟩
            rw [hok, hC, hG] at HX2
            rw [hok, hG] at HP
            rw [hC] at HP
            simp only [costV] at HX2
            have HKB : Hid (∀ y ∈ [(k0 : Int), (k1 : Int), (k2 : Int), (k3 : Int)], -9223372036854775808 ≤ y ∧ y ≤ 9223372036854775807) := by
              have := cost_bound rs p k q
              rw [hC] at this
              intro y hy
              simp only [List.mem_cons, List.not_mem_nil, or_false] at hy
              simp only at this
              omega
            obtain ⟨zc, hzc⟩ : ∃ zc : Obj, zc = .cells #[.int .i64 0, .int .i64 0, .int .i64 0, .int .i64 0] 183 := ⟨_, rfl⟩
            have HSX : Hid (∀ W, Below w1.heap.size w1 W → (fun w' => w'.cell? ⟨g1, 0, none⟩ = some (.int .i64 p) ∧ w'.cell? ⟨g1, 1, none⟩ = some (.int .i64 k) ∧ w'.cell? ⟨g1, 2, none⟩ = some (.int .i64 q) ∧ Below w1.heap.size w1 w') W) := fun W hb => ⟨(bcell hb hg2).trans d0, (bcell hb hg2).trans d1, (bcell hb hg2).trans d2, hb⟩
            have HZ4 : Hid (Z4 (w1.alloc (.cells #[.int .i64 0, .int .i64 0, .int .i64 0, .int .i64 0] 183)).drew w1.heap.size (.int .i64 0) (.int .i64 0) (.int .i64 0) (.int .i64 0)) := ⟨(Z4.mk' w1 (.int .i64 0) (.int .i64 0) (.int .i64 0) (.int .i64 0) 183).1.drew, (Z4.mk' w1 (.int .i64 0) (.int .i64 0) (.int .i64 0) (.int .i64 0) 183).2⟩
            have bd := (Below.refl w1.heap.size w1).drew
            have hS0 := HSX.out _ bd
            have bda := ((Below.refl w1.heap.size w1).alloc (Nat.le_refl _) (.cells #[.int .i64 0, .int .i64 0, .int .i64 0, .int .i64 0] 183)).drew
            have hS1 := HSX.out _ bda
            have HBD := Lib.hid (HB1.out.trans (bd.mono HB1.out.size))
            have HBA := Lib.hid (HB1.out.trans (bda.mono HB1.out.size))
            have hA := Lib.hid bd
            have hBa := Lib.hid bda
            clear bd bda d0 d1 d2 hzc zc
            dsimp only at hS0 hS1
            go_wp2_with fail
            go_region_held3 (fun w' => w'.cell? ⟨g1, 0, none⟩ = some (.int .i64 p) ∧ w'.cell? ⟨g1, 1, none⟩ = some (.int .i64 k) ∧ w'.cell? ⟨g1, 2, none⟩ = some (.int .i64 q) ∧ Below w1.heap.size w1 w') (go_keep) (first | ((try go_split_ands); go_at_call 187; refine (HX2.out w1.drew HBD.out).mono ?_; rintro e w2 ⟨a2, n2, c2, rfl, hr2, -, hb2⟩; have hbx := hA.out.trans (hb2.mono hA.out.size); have hS := HSX.out _ hbx; have hby := hbx.alloc hbx.size (.cells #[.int .i64 0, .int .i64 0, .int .i64 0, .int .i64 0] 183); have hS2 := HSX.out _ hby; have hbz := hbx.alloc hbx.size (.cells #[.int .i64 (k0 : Int), .int .i64 (k1 : Int), .int .i64 (k2 : Int), .int .i64 (k3 : Int)] 183); have hS3 := HSX.out _ hbz) | ((try go_split_ands); go_at_call 187; refine (HX2.out _ HBA.out).mono ?_; rintro e w2 ⟨a2, n2, c2, rfl, hr2, ho2, hb2⟩; have hbx := hBa.out.trans (hb2.mono hBa.out.size); have hS := HSX.out _ hbx; obtain ⟨⟨z0, z1, z2, z3, zl⟩, zf⟩ := HZ4.out.next hb2; have hbz := setc4 (x0 := .int .i64 (k0 : Int)) (x1 := .int .i64 (k1 : Int)) (x2 := .int .i64 (k2 : Int)) (x3 := .int .i64 (k3 : Int)) hbx (Nat.le_refl _); have hS3 := HSX.out _ hbz))
            · have HBW := Lib.hid (HB1.out.trans (hbz.mono HB1.out.size))
              have HRW : Hid (Rd (w2.alloc (.cells #[.int .i64 (k0 : Int), .int .i64 (k1 : Int), .int .i64 (k2 : Int), .int .i64 (k3 : Int)] 183)) a2 n2 c2 G) := hr2.same ((Below.refl _ _).alloc (Nat.le_refl _) _)
              obtain ⟨f0, f1, f2, f3⟩ : ((w2.alloc (.cells #[.int .i64 (k0 : Int), .int .i64 (k1 : Int), .int .i64 (k2 : Int), .int .i64 (k3 : Int)] 183))).cell? ⟨w2.heap.size, 0, none⟩ = some (.int .i64 (k0 : Int)) ∧ ((w2.alloc (.cells #[.int .i64 (k0 : Int), .int .i64 (k1 : Int), .int .i64 (k2 : Int), .int .i64 (k3 : Int)] 183))).cell? ⟨w2.heap.size, 1, none⟩ = some (.int .i64 (k1 : Int)) ∧ ((w2.alloc (.cells #[.int .i64 (k0 : Int), .int .i64 (k1 : Int), .int .i64 (k2 : Int), .int .i64 (k3 : Int)] 183))).cell? ⟨w2.heap.size, 2, none⟩ = some (.int .i64 (k2 : Int)) ∧ ((w2.alloc (.cells #[.int .i64 (k0 : Int), .int .i64 (k1 : Int), .int .i64 (k2 : Int), .int .i64 (k3 : Int)] 183))).cell? ⟨w2.heap.size, 3, none⟩ = some (.int .i64 (k3 : Int)) := by refine ⟨?_, ?_, ?_, ?_⟩ <;> simp
              generalize (w2.alloc (.cells #[.int .i64 (k0 : Int), .int .i64 (k1 : Int), .int .i64 (k2 : Int), .int .i64 (k3 : Int)] 183)) = W at HBW HRW f0 f1 f2 f3 ⊢
              have hbn := (Below.refl W.heap.size W).alloc (Nat.le_refl _) (.cells #[.int .i64 (k0 : Int), .int .i64 (k1 : Int), .int .i64 (k2 : Int), .int .i64 (k3 : Int)] 3)
              have HBV := Lib.hid (below_tr HBW.out hbn HBW.out.size)
              have HRV := Lib.hid (HRW.out.same hbn)
              have HSP := Lib.hid (spaced_any (some ⟨W.heap.size, 0, none⟩) 4 4 [(k0 : Int), (k1 : Int), (k2 : Int), (k3 : Int)] (W.alloc (.cells #[.int .i64 (k0 : Int), .int .i64 (k1 : Int), .int .i64 (k2 : Int), .int .i64 (k3 : Int)] 3)) rfl (by omega) HKB.out (HE.out.below HBV.out).tab (lit_ints W [(k0 : Int), (k1 : Int), (k2 : Int), (k3 : Int)] (by simp)))
              clear hbn hS hS3 hbz hbx hb2 hr2
              go_wp2_with fail
              refine HSP.out.mono ?_
              rintro e w3 ⟨rfl, hb3⟩
              have HB4 := Lib.hid (below_tr HBV.out hb3 HBV.out.size)
              have HR4 := Lib.hid (HRV.out.same hb3)
              clear hb3
              go_wp2
              go_ret3
              refine ⟨a2, n2, c2, _, ?_, HB4.out, by rw [ba_size]; exact Nat.le_trans (numT_len (k := 4) (by simp) (by omega) HKB.out) (by omega), fun L t e => ?_⟩
              · rw [HP.out]; cases ok <;> rfl
              · rw [HP.out] at e
                cases ok
                · cases e
                · injection e with e; injection e with e1 e2; subst e1 e2; exact ⟨HR4.out, rfl⟩
            · have HBW := Lib.hid (HB1.out.trans (hbz.mono HB1.out.size))
              have HRW : Hid (Rd ((((w2.setCell ⟨w1.heap.size, 0, none⟩ (.int .i64 (k0 : Int))).setCell ⟨w1.heap.size, 1, none⟩ (.int .i64 (k1 : Int))).setCell ⟨w1.heap.size, 2, none⟩ (.int .i64 (k2 : Int))).setCell ⟨w1.heap.size, 3, none⟩ (.int .i64 (k3 : Int))) a2 n2 c2 G) := four_rd _ _ _ _ hr2 ho2 (by simp)
              obtain ⟨f0, f1, f2, f3⟩ : (((((w2.setCell ⟨w1.heap.size, 0, none⟩ (.int .i64 (k0 : Int))).setCell ⟨w1.heap.size, 1, none⟩ (.int .i64 (k1 : Int))).setCell ⟨w1.heap.size, 2, none⟩ (.int .i64 (k2 : Int))).setCell ⟨w1.heap.size, 3, none⟩ (.int .i64 (k3 : Int)))).cell? ⟨w1.heap.size, 0, none⟩ = some (.int .i64 (k0 : Int)) ∧ (((((w2.setCell ⟨w1.heap.size, 0, none⟩ (.int .i64 (k0 : Int))).setCell ⟨w1.heap.size, 1, none⟩ (.int .i64 (k1 : Int))).setCell ⟨w1.heap.size, 2, none⟩ (.int .i64 (k2 : Int))).setCell ⟨w1.heap.size, 3, none⟩ (.int .i64 (k3 : Int)))).cell? ⟨w1.heap.size, 1, none⟩ = some (.int .i64 (k1 : Int)) ∧ (((((w2.setCell ⟨w1.heap.size, 0, none⟩ (.int .i64 (k0 : Int))).setCell ⟨w1.heap.size, 1, none⟩ (.int .i64 (k1 : Int))).setCell ⟨w1.heap.size, 2, none⟩ (.int .i64 (k2 : Int))).setCell ⟨w1.heap.size, 3, none⟩ (.int .i64 (k3 : Int)))).cell? ⟨w1.heap.size, 2, none⟩ = some (.int .i64 (k2 : Int)) ∧ (((((w2.setCell ⟨w1.heap.size, 0, none⟩ (.int .i64 (k0 : Int))).setCell ⟨w1.heap.size, 1, none⟩ (.int .i64 (k1 : Int))).setCell ⟨w1.heap.size, 2, none⟩ (.int .i64 (k2 : Int))).setCell ⟨w1.heap.size, 3, none⟩ (.int .i64 (k3 : Int)))).cell? ⟨w1.heap.size, 3, none⟩ = some (.int .i64 (k3 : Int)) := four_set _ _ _ _ z0 z1 z2 z3
              generalize ((((w2.setCell ⟨w1.heap.size, 0, none⟩ (.int .i64 (k0 : Int))).setCell ⟨w1.heap.size, 1, none⟩ (.int .i64 (k1 : Int))).setCell ⟨w1.heap.size, 2, none⟩ (.int .i64 (k2 : Int))).setCell ⟨w1.heap.size, 3, none⟩ (.int .i64 (k3 : Int))) = W at HBW HRW f0 f1 f2 f3 ⊢
              have hbn := (Below.refl W.heap.size W).alloc (Nat.le_refl _) (.cells #[.int .i64 (k0 : Int), .int .i64 (k1 : Int), .int .i64 (k2 : Int), .int .i64 (k3 : Int)] 3)
              have HBV := Lib.hid (below_tr HBW.out hbn HBW.out.size)
              have HRV := Lib.hid (HRW.out.same hbn)
              have HSP := Lib.hid (spaced_any (some ⟨W.heap.size, 0, none⟩) 4 4 [(k0 : Int), (k1 : Int), (k2 : Int), (k3 : Int)] (W.alloc (.cells #[.int .i64 (k0 : Int), .int .i64 (k1 : Int), .int .i64 (k2 : Int), .int .i64 (k3 : Int)] 3)) rfl (by omega) HKB.out (HE.out.below HBV.out).tab (lit_ints W [(k0 : Int), (k1 : Int), (k2 : Int), (k3 : Int)] (by simp)))
              clear hbn hS hS3 hbz hbx hb2 hr2
              go_wp2_with fail
              refine HSP.out.mono ?_
              rintro e w3 ⟨rfl, hb3⟩
              have HB4 := Lib.hid (below_tr HBV.out hb3 HBV.out.size)
              have HR4 := Lib.hid (HRV.out.same hb3)
              clear hb3
              go_wp2
              go_ret3
              refine ⟨a2, n2, c2, _, ?_, HB4.out, by rw [ba_size]; exact Nat.le_trans (numT_len (k := 4) (by simp) (by omega) HKB.out) (by omega), fun L t e => ?_⟩
              · rw [HP.out]; cases ok <;> rfl
              · rw [HP.out] at e
                cases ok
                · cases e
                · injection e with e; injection e with e1 e2; subst e1 e2; exact ⟨HR4.out, rfl⟩
          · have HP : Hid (sortC rs (x :: r) = none) := by
              show _ = _
              rw [HPE.out]
              unfold extC
              split
              · rename_i e
                injection e with e
                subst e
                exact absurd rfl hn3
              · rfl
            clear HXS HPE
            go_enter Tryz.func140, Tryz.ntmps140
            go_wp2_with fail
            refine HR0.out.mono ?_
            rintro e w1 ⟨a1, m1, c1, rfl, ho1, hb1⟩
            have HB1 := Lib.hid hb1
            have HO1 := Lib.hid ho1
            have g0 := HRB.out w1 hb1
            have HE1 := Lib.hid (HE.out.below hb1)
            clear ho1 hb1
            have hm3 : m1 = ns.length := by have := HO1.out.1; simpa using this.symm
            have q5 : ((m1 : Int) == 3) = false := by rw [beq_eq_false_iff_ne]; omega
            clear hm3
            go_wp2
            go_ret3
            exact ⟨none, 0, 0, _, by rw [HP.out]; rfl, HB1.out, by decide, fun L t e => by rw [HP.out] at e; cases e⟩
      · have q3 := strNe h3
        obtain ⟨e1, q1⟩ : ∃ e1, (x.toList == [109, 101, 114, 103, 101]) = e1 := ⟨_, rfl⟩
        obtain ⟨e2, q2⟩ : ∃ e2, (x.toList == [97, 100, 97, 112, 116, 105, 118, 101]) = e2 := ⟨_, rfl⟩
        have HP : Hid (sortC rs (x :: r) = none) := by
          show sortX rs x r = _
          unfold sortX
          rw [if_neg (fun e => hr e.2), if_neg (fun e => hr e.2), if_neg h3]
        clear h3 HXS
        unfold ChEnd
        cases e1 <;> cases e2
        all_goals
          go_enter Tryz.func140, Tryz.ntmps140
          go_wp2_with fail
          refine HR0.out.mono ?_
          rintro e w1 ⟨a1, m1, c1, rfl, ho1, hb1⟩
          have HB1 := Lib.hid hb1
          have HO1 := Lib.hid ho1
          have g0 := HRB.out w1 hb1
          have HE1 := Lib.hid (HE.out.below hb1)
          clear ho1 hb1
          go_wp2
          go_ret3
          exact ⟨none, 0, 0, _, by rw [HP.out]; rfl, HB1.out, by decide, fun L t e => by rw [HP.out] at e; cases e⟩
end Go.Proofs.YtbgmbanebmlghaaGreatDoor

