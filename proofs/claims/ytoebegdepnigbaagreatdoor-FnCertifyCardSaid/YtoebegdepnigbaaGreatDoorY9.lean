/- Several texts in one: lemmas and walks of the functions that the laws reach. -/
import Derived.Test.YtoebegdepnigbaaGreatDoorY8
import Derived.Test.YtoebegdepnigbaaGreatDoorY2
import Derived.Deep.RegionHeld3
import Derived.Test.YtoebegdepnigbaaGreatDoorY5
import Derived.Test.YtoebegdepnigbaaGreatDoorY6

/- Walks: the permutation that sorts a list stably, of both packages. -/
namespace Go.Proofs.YtoebegdepnigbaaGreatDoor
open Go.RowKit Go.Sort
set_option linter.unusedVariables false

theorem ints_dropR {w : World} {b : Nat} {p : List Int} (h : IntsAt w (some ⟨b, 0, none⟩) p) (i : Nat) : IntsAt w (some ⟨b, i, none⟩) (p.drop i) := by
  rcases h with rfl | ⟨b', off, e, h0, h1⟩
  · exact .inl (by simp)
  · injection e with e
    injection e with e1 e2 _
    subst e1; subst e2
    refine .inr ⟨b, i, rfl, h0, fun j hj => ?_⟩
    have := h1 (i + j) (by simp at hj; omega)
    rw [Nat.zero_add] at this
    rw [this]
    simp [List.getD]
theorem ints_oneR {l : List Int} : ∀ u ∈ l.map (Value.int .i64), u.oneCell' = true := by
  intro u hu
  obtain ⟨x, _, rfl⟩ := List.mem_map.1 hu
  rfl
theorem ints_takeR {w : World} {x : Addr} {p : List Int} (h : IntsAt w (some x) p) (i : Nat) : IntsAt w (some x) (p.take i) := by
  rcases h with rfl | ⟨b', off', e, h0, h1⟩
  · exact .inl (by simp)
  · refine .inr ⟨b', off', e, h0, fun j hj => ?_⟩
    have hj2 : j < i ∧ j < p.length := by simp at hj; omega
    rw [h1 j hj2.2]
    simp [List.getD, List.getElem?_take, hj2.1]
theorem own_capR {w : World} {base : Nat} {e : TypeId} {size g n c : Nat} {xs : List Value} (h : w.ownsRow base e size (.slice (some ⟨g, 0, none⟩) n c) n xs) : n ≤ c ∧ c ≤ 9223372036854775807 := by
  rcases h.2 with ⟨h2, _⟩ | ⟨g', cap, cur, hv, _, _, hn, hm, _⟩
  · injection h2 with h2 _ _; cases h2
  · injection hv with _ _ hv
    subst hv
    exact ⟨hn, by unfold maxLen at hm; omega⟩
theorem sizeR (w : World) (o : Obj) : (w.alloc o).heap.size = w.heap.size + 1 := by simp

theorem ints_atR {l : List Int} {k : Nat} (h : k < l.length) : (l.map (Value.int .i64))[k]? = some (.int .i64 (l.getD k 0)) := by
  rw [List.getElem?_map, List.getElem?_eq_getElem h, List.getD_eq_getElem?_getD, List.getElem?_eq_getElem h]; rfl
abbrev ltP (l : List Int) : Int → Int → Bool := Mg.ltK (keyAt l)

set_option maxRecDepth 100000 in
set_option maxHeartbeats 8000000 in
theorem l3Sorting_any (ax : Option Addr) (cc n : Nat) (l : List Int) (w : World) (hl : l.length = n) (hn : n ≤ 1000) (h : IntsAt w ax l) :
    Calls Tryz.prog 36 #[.slice ax n cc] w fun e w' => ∃ (a' : Option Addr) (c' : Nat), e = .returned (.slice a' n c') ∧ w'.ownsRow w.heap.size 3 1 (.slice a' n c') n ((sortP l).map (Value.int .i64)) ∧ Below w.heap.size w w' := by
  have H := Lib.hid h
  have HLN := Lib.hid hl
  have E1 := Lib.hid (own_lit (w := w) (e := 3) (size := 1) #[] 0 (by omega) rfl)
  have D1 := Lib.hid (show Below w.heap.size w (w.alloc (.cells #[] 3)) from (Below.refl w.heap.size w).alloc (Nat.le_refl _) (.cells #[] 3))
  clear h hl
  go_enter Tryz.func36, Tryz.ntmps36
  go_wp2
  go_loopw [3, 4] (fun v i wr => ∃ (k : Nat) (p : List Int), i = .int .i64 k ∧ k ≤ n ∧ p.length = k ∧ Hid (p = Mg.srt (ltP l) (upTo k)) ∧ wr.ownsRow w.heap.size 3 1 v k (p.map (Value.int .i64)) ∧ (∃ g, v.ownBlock = some g) ∧ Below w.heap.size w wr) (fun _ i _ => n - (intOf i).toNat)
  case atStart => exact ⟨0, [], rfl, by omega, rfl, Lib.hid rfl, E1.out, ⟨_, rfl⟩, D1.out⟩
  case round =>
    obtain ⟨k, p, rfl, hk, hp, HPS, hown, ⟨g0, hg0⟩, hb⟩ := hrel
    clear E1 D1
    have HO := Lib.hid hown; have HB := Lib.hid hb; have HP := Lib.hid hp
    clear hown hb hp
    obtain ⟨a', c', rfl⟩ := own_slice HO.out
    obtain ⟨g, hga, hg1, hg2⟩ := own_addr HO.out (by rw [hg0]; simp)
    subst hga
    clear hg0 g0
    by_cases hkn : k < n
    case neg =>
      obtain rfl : k = n := by omega
      have HPF : Hid (p = sortP l) := by show _ = _; rw [HPS.out]; unfold sortP; rw [HLN.out]
      rw [HPF.out] at HO
      have h3 : decide ((k : Int) < (k : Int)) = false := by simp
      go_wp2
      go_ret
      exact ⟨_, c', rfl, HO.out, HB.out⟩
    have h3 : decide ((k : Int) < (n : Int)) = true := decide_eq_true (by omega)
    have HMEM : Hid (∀ y ∈ p, 0 ≤ y ∧ y < (k : Int)) := fun y hy => upTo_mem (Mg.srt_mem.1 (HPS.out ▸ hy))
    obtain ⟨lb, lo, rfl, hli⟩ := (H.out.below (Nat.le_refl _) HB.out).at (show k < l.length by rw [HLN.out]; exact hkn)
    obtain ⟨X, hX⟩ : ∃ X, l.getD k 0 = X := ⟨_, rfl⟩
    rw [hX] at hli
    have HX := Lib.hid hX
    clear hX
    obtain ⟨wo, rfl⟩ : ∃ wo : World, wo = wr := ⟨_, rfl⟩
    go_wp2
    go_loopw [5] (fun v wq => ∃ q : Nat, v = .int .i64 q ∧ q ≤ k ∧ Hid (∀ b ∈ p.drop q, ltP l (k : Int) b = true) ∧ Below wo.heap.size wo wq) (fun v _ => (intOf v).toNat)
    case atStart => exact ⟨k, rfl, by omega, Lib.hid (by rw [List.drop_of_length_le (by have := HP.out; omega)]; simp), Below.refl _ _⟩
    case round =>
      obtain ⟨q, rfl, hq, HDR, hbq⟩ := hrel
      have HOq := Lib.hid (own_below HO.out (Nat.le_refl _) hbq)
      have HBq := Lib.hid (HB.out.trans (hbq.mono HB.out.size))
      have HBo := Lib.hid hbq
      have hli : wr.cell? ⟨lb, lo + k, none⟩ = some (.int .i64 X) := (hbq.cell (p := ⟨lb, lo + k, none⟩) (World.block_lt_of_cell? _ _ hli)).trans hli
      clear hbq
      by_cases hgo : 0 < q ∧ ltP l (k : Int) (p.getD (q - 1) 0) = true
      · obtain ⟨hq0, hlt⟩ := hgo
        obtain ⟨m, rfl⟩ : ∃ m, q = m + 1 := ⟨q - 1, by omega⟩
        rw [Nat.add_sub_cancel] at hlt
        have hmp : m < p.length := by have := HP.out; omega
        obtain ⟨y, hy⟩ : ∃ y, p.getD m 0 = y := ⟨_, rfl⟩
        have hym := HMEM.out y (by rw [← hy]; exact II.getD_memI hmp)
        have hc := HOq.out.cellAt m (by omega)
        rw [ints_atR hmp, hy] at hc
        rw [hy] at hlt
        obtain ⟨yn, rfl⟩ := Int.eq_ofNat_of_zero_le hym.1
        obtain ⟨lb', lo', e, hly⟩ := (H.out.below (Nat.le_refl _) HBq.out).at (show yn < l.length by rw [HLN.out]; omega)
        injection e with e
        injection e with e1 e2
        subst e1 e2
        obtain ⟨Y, hY⟩ : ∃ Y, l.getD yn 0 = Y := ⟨_, rfl⟩
        rw [hY] at hly
        have hXY : X < Y := by
          have := hlt
          unfold ltP Mg.ltK keyAt at this
          rw [Int.toNat_natCast, Int.toNat_natCast, HX.out, hY] at this
          simpa using this
        have q1 : decide (X < Y) = true := decide_eq_true hXY
        have HDR2 : Hid (∀ b ∈ p.drop m, ltP l (k : Int) b = true) := fun b hb => by
          rw [List.drop_eq_getElem_cons hmp] at hb
          rcases List.mem_cons.1 hb with rfl | hb
          · rw [List.getD_eq_getElem?_getD, List.getElem?_eq_getElem hmp] at hy
            have hy2 : p[m] = (yn : Int) := hy
            rw [hy2]; exact hlt
          · exact HDR.out b hb
        have hyn : yn < n := by omega
        have hcast : ((m + 1 : Nat) : Int) = (m : Int) + 1 := by omega
        have q2 : decide (0 < (m : Int) + 1) = true := decide_eq_true (by omega)
        clear hlt hXY hy hY hym hmp HDR
        rw [hcast]
        have b1 : (m : Int) < (k : Int) := by omega
        have b2 : (0 : Int) ≤ (m : Int) := by omega
        have b3 : (yn : Int) < (n : Int) := by omega
        have w1 : IntKind.i64.wrap (m : Int) = (m : Int) := IntWalk.i64_in _ (by omega)
        go_wp2_with fail
        go_quiet (fail)
        go_wp2
        go_roundw
        case rel => exact ⟨m, by go_num, by omega, HDR2, below_drewN HBo.out _⟩
        case measure => simp [intOf] <;> omega
      have HNX : Hid (p.take q ++ [(k : Int)] ++ p.drop q = Mg.srt (ltP l) (upTo (k + 1))) := by
        show _ = _
        have h1 := II.insL_end (R := []) (Mg.swK (keyAt l)) (l := upTo k) (x := (k : Int)) (k := q) (by rw [upTo_len]; exact hq) (by rw [← HPS.out]; exact HDR.out) (fun h0 => by
          rw [← HPS.out]
          cases hx : Mg.ltK (keyAt l) (k : Int) (p.getD (q - 1) 0) with
          | false => rfl
          | true => exact absurd ⟨h0, hx⟩ hgo)
        rw [← HPS.out, List.append_nil, ← upTo_succ] at h1
        have hb0 : Mg.insSt p (k : Int) q [] = p.take q ++ (k : Int) :: p.drop q := by unfold Mg.insSt; rw [List.append_nil]
        rw [hb0] at h1
        show p.take q ++ [(k : Int)] ++ p.drop q = _
        rw [List.append_assoc]
        exact h1
      rcases Nat.eq_zero_or_pos q with h0 | h0
      case' inl =>
        have q2 : decide (0 < (q : Int)) = false := decide_eq_false (by omega)
        go_wp2_with fail
        go_quiet (fail)
        have HO3 : Hid ((wr.drewN nq).ownsRow w.heap.size 3 1 (.slice (some ⟨g, 0, none⟩) k c') k (p.map (Value.int .i64))) := HOq.out
        have HB3 := Lib.hid (below_drewN HBq.out nq)
        generalize wr.drewN nq = w3 at HO3 HB3 ⊢
      case' inr =>
        have hmp : q - 1 < p.length := by have := HP.out; omega
        obtain ⟨y, hy⟩ : ∃ y, p.getD (q - 1) 0 = y := ⟨_, rfl⟩
        have hym := HMEM.out y (by rw [← hy]; exact II.getD_memI hmp)
        have hc := HOq.out.cellAt (q - 1) (by omega)
        rw [ints_atR hmp, hy] at hc
        obtain ⟨yn, rfl⟩ := Int.eq_ofNat_of_zero_le hym.1
        obtain ⟨lb', lo', e, hly⟩ := (H.out.below (Nat.le_refl _) HBq.out).at (show yn < l.length by rw [HLN.out]; omega)
        injection e with e
        injection e with e1 e2
        subst e1 e2
        obtain ⟨Y, hY⟩ : ∃ Y, l.getD yn 0 = Y := ⟨_, rfl⟩
        rw [hY] at hly
        have hXY : ¬ X < Y := fun h => hgo ⟨h0, by
          rw [hy]
          show Mg.ltK (keyAt l) (k : Int) (yn : Int) = true
          unfold Mg.ltK keyAt
          rw [Int.toNat_natCast, Int.toNat_natCast, HX.out, hY]
          exact decide_eq_true h⟩
        have q1 : decide (X < Y) = false := decide_eq_false hXY
        have hyn : yn < n := by omega
        have q2 : decide (0 < (q : Int)) = true := decide_eq_true (by omega)
        clear hXY hy hY hym hmp
        have b1 : (q : Int) - 1 < (k : Int) := by omega
        have b2 : (0 : Int) ≤ (q : Int) - 1 := by omega
        have b3 : (yn : Int) < (n : Int) := by omega
        have t1 : ((q : Int) - 1).toNat = q - 1 := by omega
        have w1 : IntKind.i64.wrap ((q : Int) - 1) = (q : Int) - 1 := IntWalk.i64_in _ (by omega)
        go_wp2_with fail
        go_quiet (fail)
        have HO3 : Hid ((wr.drewN nq).ownsRow w.heap.size 3 1 (.slice (some ⟨g, 0, none⟩) k c') k (p.map (Value.int .i64))) := HOq.out
        have HB3 := Lib.hid (below_drewN HBq.out nq)
        clear hc hly q1 q2 b1 b2 b3 t1 w1 hyn
        generalize wr.drewN nq = w3 at HO3 HB3 ⊢
      all_goals
        clear HDR hgo HOq HBq HBo hli h0
        have hcap := (own_capR HO3.out).1
        have HI3 := Lib.hid (ints_of_own HO3.out)
        have hsz : w.heap.size ≤ w3.heap.size := HB3.out.size
        have hg3 : g < w3.heap.size := (HO3.out.lt g rfl).2
        obtain ⟨KK, k0, kn, ko, ki⟩ : ∃ KK : World → Prop, KK w3.drew ∧ (∀ W W', KK W → Below W.heap.size W W' → KK W') ∧ (∀ W, KK W → Below w3.heap.size w3 W) ∧ (∀ W, Below w3.heap.size w3 W → KK W) :=
          ⟨fun W => Below w3.heap.size w3 W, (Below.refl _ _).drew, fun W W' h hb => h.trans (hb.mono h.size), fun _ h => h, fun _ h => h⟩
        have SK := Lib.hid kn; have KO := Lib.hid ko; have KI := Lib.hid ki
        have HI := Lib.hid (fun W (h : KK W) => HI3.out.below (Nat.le_refl _) (ko W h))
        have e1 : (q : Int) ≤ (k : Int) := by omega
        have e2 : (k : Int) ≤ (c' : Int) := by omega
        have e3 : (q : Int) ≤ (c' : Int) := by omega
        have e4 : (0 : Int) ≤ (q : Int) := by omega
        have hl1 : ((p.take q).map (Value.int .i64)).length = q * 1 := by have := HP.out; simp; omega
        have hl2 : ((p.drop q).map (Value.int .i64)).length = (k - q) * 1 := by have := HP.out; simp; omega
        have HL1 := Lib.hid hl1; have HL2 := Lib.hid hl2
        have hq10 : q ≤ 1000 := by omega
        have hk9 : k ≤ 1000 := by omega
        have HPL : Hid (p.take q ++ [(k : Int)] ++ p.drop q = (p.take q ++ (k : Int) :: p.drop q)) := by show _ = _; simp
        have OL1 : Hid ((w3.drew.alloc (.cells #[] 3)).ownsRow w3.heap.size 3 1 (.slice (some ⟨w3.heap.size, 0, none⟩) 0 0) 0 []) := own_lit (w := w3.drew) (e := 3) (size := 1) #[] 0 (by omega) rfl
        have OL1b : Hid ((w3.alloc (.cells #[] 3)).drew.ownsRow w3.heap.size 3 1 (.slice (some ⟨w3.heap.size, 0, none⟩) 0 0) 0 []) := own_lit (w := w3) (e := 3) (size := 1) #[] 0 (by omega) rfl
        have OL2 : Hid (((w3.drew.alloc (.cells #[] 3)).alloc (.cells #[.int .i64 k] 3)).ownsRow w3.heap.size 3 1 (.slice (some ⟨w3.heap.size, 0, none⟩) 0 0) 0 []) := OL1.out.alloc _
        have OL2b : Hid (((w3.alloc (.cells #[] 3)).alloc (.cells #[.int .i64 k] 3)).drew.ownsRow w3.heap.size 3 1 (.slice (some ⟨w3.heap.size, 0, none⟩) 0 0) 0 []) := OL1b.out.alloc _
        have OL3 : Hid (((w3.drew.alloc (.cells #[.int .i64 k] 3)).alloc (.cells #[] 3)).ownsRow w3.heap.size 3 1 (.slice (some ⟨w3.heap.size + 1, 0, none⟩) 0 0) 0 []) := by
          have := own_lit (w := w3.drew.alloc (.cells #[.int .i64 k] 3)) (e := 3) (size := 1) #[] 0 (by omega) rfl
          rw [sizeR] at this
          exact own_mono this (Nat.le_succ _)
        have OL3b : Hid (((w3.alloc (.cells #[.int .i64 k] 3)).alloc (.cells #[] 3)).drew.ownsRow w3.heap.size 3 1 (.slice (some ⟨w3.heap.size + 1, 0, none⟩) 0 0) 0 []) := OL3.out
        have LT2 : Hid (((w3.drew.alloc (.cells #[] 3)).alloc (.cells #[.int .i64 k] 3)).heap[w3.heap.size + 1]? = some (.cells #[.int .i64 k] 3 (0, 0))) := by
          show _ = _
          have := block_new (w3.drew.alloc (.cells #[] 3)) (.cells #[.int .i64 k] 3)
          rw [sizeR] at this
          exact this
        have LT3 : Hid (((w3.drew.alloc (.cells #[.int .i64 k] 3)).alloc (.cells #[] 3)).heap[w3.heap.size]? = some (.cells #[.int .i64 k] 3 (0, 0))) :=
          (Below.heap_alloc _ _ _ (by simp)).trans (block_new w3.drew (.cells #[.int .i64 k] 3))
        clear kn ko ki hl1 hl2
        by_cases hce : c' = q
        case neg =>
          have hce2 : ¬ q = c' := fun h => hce h.symm
          go_wp2_with fail
          go_region_held3 (fun w' => KK w') (first | exact SK.out _ _ (by assumption) (by first | exact (Below.refl _ _).alloc (Nat.le_refl _) _ | exact (Below.refl _ _).drew) | assumption)
            (first
              | (refine step_appX slInt (by rfl) _ _ (by rfl) w3.heap.size (.slice (some ⟨w3.heap.size, 0, none⟩) 0 0) 0 [] _ q _ ((p.take q).map (Value.int .i64)) (by rfl) (by first | exact OL1.out | exact OL1b.out) (by rfl) HL1.out (ints_news (ints_takeR (HI.out _ (by assumption)) q)) ints_oneR (by omega) (KO.out _ (by assumption)).size ?_
                 intro v22 w22 ho22 hg22 ht22; have HB22 := Lib.hid (below_app (KO.out _ (by assumption)) (KO.out _ (by assumption)).size (by first | exact OL1.out | exact OL1b.out) (Nat.le_refl _) hg22); have hKK := KI.out _ HB22.out; have HO22 := Lib.hid ho22; clear ho22 hg22 ht22)
              | (refine step_appX slInt (by rfl) _ _ (by rfl) w3.heap.size (.slice (some ⟨w3.heap.size, 0, none⟩) 0 0) 0 [] _ q _ ((p.take q).map (Value.int .i64)) (by rfl) (by first | exact OL2.out | exact OL2b.out) (by rfl) HL1.out (ints_news (ints_takeR (HI.out _ (by assumption)) q)) ints_oneR (by omega) (KO.out _ (by assumption)).size ?_
                 intro v22 w22 ho22 hg22 ht22; have HB22 := Lib.hid (below_app (KO.out _ (by assumption)) (KO.out _ (by assumption)).size (by first | exact OL2.out | exact OL2b.out) (Nat.le_refl _) hg22); have hKK := KI.out _ HB22.out; have HO22 := Lib.hid ho22
                 have HLIT : Hid (w22.heap[w3.heap.size + 1]? = some (.cells #[.int .i64 k] 3 (0, 0))) := block_row LT2.out hg22 (fun e => by simp [Value.ownBlock] at e)
                 clear ho22 hg22 ht22)
              | (refine step_appX slInt (by rfl) _ _ (by rfl) w3.heap.size (.slice (some ⟨w3.heap.size + 1, 0, none⟩) 0 0) 0 [] _ q _ ((p.take q).map (Value.int .i64)) (by rfl) (by first | exact OL3.out | exact OL3b.out) (by rfl) HL1.out (ints_news (ints_takeR (HI.out _ (by assumption)) q)) ints_oneR (by omega) (KO.out _ (by assumption)).size ?_
                 intro v22 w22 ho22 hg22 ht22; have HB22 := Lib.hid (below_app (KO.out _ (by assumption)) (KO.out _ (by assumption)).size (by first | exact OL3.out | exact OL3b.out) (Nat.le_refl _) hg22); have hKK := KI.out _ HB22.out; have HO22 := Lib.hid ho22
                 have HLIT : Hid (w22.heap[w3.heap.size]? = some (.cells #[.int .i64 k] 3 (0, 0))) := block_row LT3.out hg22 (fun e => by simp [Value.ownBlock] at e)
                 clear ho22 hg22 ht22)
              | (refine step_appX slInt (by rfl) _ _ (by rfl) w3.heap.size v22 (0 + q) ([] ++ (p.take q).map (Value.int .i64)) _ 1 _ [.int .i64 k] (by rfl) (by first | exact HO22.out | exact HO22.out.alloc _) (by rfl) rfl (by
                   intro j u hu
                   first
                   | exact cells_new _ [.int .i64 k] _ j u hu
                   | (rw [addr_add_zero, row_cell HLIT.out j]; simpa using hu)) (by simp [Value.oneCell']) (by omega) (KO.out _ (by assumption)).size ?_
                 intro v25 w25 ho25 hg25 ht25; have HB25 := Lib.hid (below_app (KO.out _ (by assumption)) (KO.out _ (by assumption)).size (by first | exact HO22.out | exact HO22.out.alloc _) (Nat.le_refl _) hg25); have hKK2 := KI.out _ HB25.out; have HO25 := Lib.hid ho25; clear ho25 hg25 ht25)
              | (refine step_appX slInt (by rfl) _ _ (by rfl) w3.heap.size v25 (0 + q + 1) ([] ++ (p.take q).map (Value.int .i64) ++ [.int .i64 k]) _ (k - q) _ ((p.drop q).map (Value.int .i64)) (by rfl) HO25.out (by rfl) HL2.out (ints_news (ints_dropR (HI.out _ (by assumption)) q)) ints_oneR (by omega) (KO.out _ (by assumption)).size ?_
                 intro v29 w29 ho29 hg29 ht29; have HB29 := Lib.hid (below_app (KO.out _ (by assumption)) (KO.out _ (by assumption)).size HO25.out (Nat.le_refl _) hg29); have hKK3 := KI.out _ HB29.out; have HO29 := Lib.hid ho29; clear ho29 hg29 ht29))
          all_goals
            have e9 : 0 + q + 1 + (k - q) = k + 1 := by omega
            have HO9 := HO29.out
            rw [e9] at HO9
            have HO9 := own_mono HO9 hsz
            obtain ⟨a9, c9, rfl⟩ := own_slice HO9
            obtain ⟨g9, rfl, hg9, _⟩ := own_cell HO9 (by omega)
            have HOF : Hid (w29.ownsRow w.heap.size 3 1 (.slice (some ⟨g9, 0, none⟩) (k + 1) c9) (k + 1) ((p.take q ++ [(k : Int)] ++ p.drop q).map (Value.int .i64))) := by
              show World.ownsRow _ _ _ _ _ _ _
              simpa [List.map_append] using HO9
            have HLE : Hid ((p.take q ++ [(k : Int)] ++ p.drop q).length = k + 1) := by show _ = _; have := HP.out; first | (simp; done) | (simp; omega)
            have HDF := Lib.hid (HB3.out.trans (HB29.out.mono HB3.out.size))
            clear HO9 HO29
            go_wp2
            go_roundw
            case rel => exact ⟨k + 1, p.take q ++ [(k : Int)] ++ p.drop q, by go_num, by omega, HLE.out, HNX, HOF.out, ⟨g9, rfl⟩, HDF.out⟩
            case measure => simp [intOf] <;> omega
        · obtain rfl : q = k := by omega
          have HDN : Hid (p.drop q = []) := by show _ = _; exact List.drop_eq_nil_of_le (by have := HP.out; omega)
          subst hce
          have hcc : (c' : Int) ≤ (c' : Int) := by omega
          rcases Nat.eq_zero_or_pos c' with h00 | h00
          · have HC0 := Lib.hid h00
            subst h00
            go_wp2_with fail
            go_region_held3 (fun w' => KK w') (first | exact SK.out _ _ (by assumption) (by first | exact (Below.refl _ _).alloc (Nat.le_refl _) _ | exact (Below.refl _ _).drew) | assumption)
              (first
                | (refine step_appX slInt (by rfl) _ _ (by rfl) w3.heap.size (.slice (some ⟨w3.heap.size, 0, none⟩) 0 0) 0 [] _ 0 _ ((p.take 0).map (Value.int .i64)) (by rfl) (by first | exact OL1.out | exact OL1b.out) (by rfl) HL1.out (ints_news (ints_takeR (HI.out _ (by assumption)) 0)) ints_oneR (by omega) (KO.out _ (by assumption)).size ?_
                   intro v22 w22 ho22 hg22 ht22; have HB22 := Lib.hid (below_app (KO.out _ (by assumption)) (KO.out _ (by assumption)).size (by first | exact OL1.out | exact OL1b.out) (Nat.le_refl _) hg22); have hKK := KI.out _ HB22.out; have HO22 := Lib.hid ho22; clear ho22 hg22 ht22)
                | (refine step_appX slInt (by rfl) _ _ (by rfl) w3.heap.size (.slice (some ⟨w3.heap.size, 0, none⟩) 0 0) 0 [] _ 0 _ ((p.take 0).map (Value.int .i64)) (by rfl) (by first | exact OL2.out | exact OL2b.out) (by rfl) HL1.out (ints_news (ints_takeR (HI.out _ (by assumption)) 0)) ints_oneR (by omega) (KO.out _ (by assumption)).size ?_
                   intro v22 w22 ho22 hg22 ht22; have HB22 := Lib.hid (below_app (KO.out _ (by assumption)) (KO.out _ (by assumption)).size (by first | exact OL2.out | exact OL2b.out) (Nat.le_refl _) hg22); have hKK := KI.out _ HB22.out; have HO22 := Lib.hid ho22
                   have HLIT : Hid (w22.heap[w3.heap.size + 1]? = some (.cells #[.int .i64 0] 3 (0, 0))) := block_row LT2.out hg22 (fun e => by simp [Value.ownBlock] at e)
                   clear ho22 hg22 ht22)
                | (refine step_appX slInt (by rfl) _ _ (by rfl) w3.heap.size (.slice (some ⟨w3.heap.size + 1, 0, none⟩) 0 0) 0 [] _ 0 _ ((p.take 0).map (Value.int .i64)) (by rfl) (by first | exact OL3.out | exact OL3b.out) (by rfl) HL1.out (ints_news (ints_takeR (HI.out _ (by assumption)) 0)) ints_oneR (by omega) (KO.out _ (by assumption)).size ?_
                   intro v22 w22 ho22 hg22 ht22; have HB22 := Lib.hid (below_app (KO.out _ (by assumption)) (KO.out _ (by assumption)).size (by first | exact OL3.out | exact OL3b.out) (Nat.le_refl _) hg22); have hKK := KI.out _ HB22.out; have HO22 := Lib.hid ho22
                   have HLIT : Hid (w22.heap[w3.heap.size]? = some (.cells #[.int .i64 0] 3 (0, 0))) := block_row LT3.out hg22 (fun e => by simp [Value.ownBlock] at e)
                   clear ho22 hg22 ht22)
                | (refine step_appX slInt (by rfl) _ _ (by rfl) w3.heap.size v22 (0 + 0) ([] ++ (p.take 0).map (Value.int .i64)) _ 1 _ [.int .i64 0] (by rfl) (by first | exact HO22.out | exact HO22.out.alloc _) (by rfl) rfl (by
                     intro j u hu
                     first
                     | exact cells_new _ [.int .i64 0] _ j u hu
                     | (rw [addr_add_zero, row_cell HLIT.out j]; simpa using hu)) (by simp [Value.oneCell']) (by omega) (KO.out _ (by assumption)).size ?_
                   intro v25 w25 ho25 hg25 ht25; have HB25 := Lib.hid (below_app (KO.out _ (by assumption)) (KO.out _ (by assumption)).size (by first | exact HO22.out | exact HO22.out.alloc _) (Nat.le_refl _) hg25); have hKK2 := KI.out _ HB25.out; have HO25 := Lib.hid ho25; clear ho25 hg25 ht25)
                | (refine step_appX slInt (by rfl) _ _ (by rfl) w3.heap.size v25 (0 + 0 + 1) ([] ++ (p.take 0).map (Value.int .i64) ++ [.int .i64 0]) _ 0 _ [] (by rfl) HO25.out (by rfl) rfl (by intro j u hu; cases hu) (by intro u hu; cases hu) (by omega) (KO.out _ (by assumption)).size ?_
                   intro v29 w29 ho29 hg29 ht29; have HB29 := Lib.hid (below_app (KO.out _ (by assumption)) (KO.out _ (by assumption)).size HO25.out (Nat.le_refl _) hg29); have hKK3 := KI.out _ HB29.out; have HO29 := Lib.hid ho29; clear ho29 hg29 ht29))
            all_goals
              have e9 : 0 + 0 + 1 + 0 = 0 + 1 := by omega
              have HO9 := HO29.out
              rw [e9] at HO9
              have HO9 := own_mono HO9 hsz
              obtain ⟨a9, c9, rfl⟩ := own_slice HO9
              obtain ⟨g9, rfl, hg9, _⟩ := own_cell HO9 (by omega)
              have HOF : Hid (w29.ownsRow w.heap.size 3 1 (.slice (some ⟨g9, 0, none⟩) (0 + 1) c9) (0 + 1) ((p.take 0 ++ [((0 : Nat) : Int)]).map (Value.int .i64))) := by
                show World.ownsRow _ _ _ _ _ _ _
                simpa [List.map_append] using HO9
              have HLE : Hid ((p.take 0 ++ [((0 : Nat) : Int)]).length = 0 + 1) := by show _ = _; have := HP.out; first | (simp; done) | (simp; omega)
              have HDF := Lib.hid (HB3.out.trans (HB29.out.mono HB3.out.size))
              clear HO9 HO29
              go_wp2
              go_roundw
              case rel => exact ⟨0 + 1, p.take 0 ++ [((0 : Nat) : Int)], by go_num, by omega, HLE.out, Lib.hid (by have := HNX.out; rw [HDN.out, List.append_nil] at this; exact this), HOF.out, ⟨g9, rfl⟩, HDF.out⟩
              case measure => simp [intOf] <;> omega
          · have hc0 : ¬ c' = 0 := by omega
            go_wp2_with fail
            go_region_held3 (fun w' => KK w') (first | exact SK.out _ _ (by assumption) (by first | exact (Below.refl _ _).alloc (Nat.le_refl _) _ | exact (Below.refl _ _).drew) | assumption)
              (first
                | (refine step_appX slInt (by rfl) _ _ (by rfl) w3.heap.size (.slice (some ⟨w3.heap.size, 0, none⟩) 0 0) 0 [] _ c' _ ((p.take c').map (Value.int .i64)) (by rfl) (by first | exact OL1.out | exact OL1b.out) (by rfl) HL1.out (ints_news (ints_takeR (HI.out _ (by assumption)) c')) ints_oneR (by omega) (KO.out _ (by assumption)).size ?_
                   intro v22 w22 ho22 hg22 ht22; have HB22 := Lib.hid (below_app (KO.out _ (by assumption)) (KO.out _ (by assumption)).size (by first | exact OL1.out | exact OL1b.out) (Nat.le_refl _) hg22); have hKK := KI.out _ HB22.out; have HO22 := Lib.hid ho22; clear ho22 hg22 ht22)
                | (refine step_appX slInt (by rfl) _ _ (by rfl) w3.heap.size (.slice (some ⟨w3.heap.size, 0, none⟩) 0 0) 0 [] _ c' _ ((p.take c').map (Value.int .i64)) (by rfl) (by first | exact OL2.out | exact OL2b.out) (by rfl) HL1.out (ints_news (ints_takeR (HI.out _ (by assumption)) c')) ints_oneR (by omega) (KO.out _ (by assumption)).size ?_
                   intro v22 w22 ho22 hg22 ht22; have HB22 := Lib.hid (below_app (KO.out _ (by assumption)) (KO.out _ (by assumption)).size (by first | exact OL2.out | exact OL2b.out) (Nat.le_refl _) hg22); have hKK := KI.out _ HB22.out; have HO22 := Lib.hid ho22
                   have HLIT : Hid (w22.heap[w3.heap.size + 1]? = some (.cells #[.int .i64 c'] 3 (0, 0))) := block_row LT2.out hg22 (fun e => by simp [Value.ownBlock] at e)
                   clear ho22 hg22 ht22)
                | (refine step_appX slInt (by rfl) _ _ (by rfl) w3.heap.size (.slice (some ⟨w3.heap.size + 1, 0, none⟩) 0 0) 0 [] _ c' _ ((p.take c').map (Value.int .i64)) (by rfl) (by first | exact OL3.out | exact OL3b.out) (by rfl) HL1.out (ints_news (ints_takeR (HI.out _ (by assumption)) c')) ints_oneR (by omega) (KO.out _ (by assumption)).size ?_
                   intro v22 w22 ho22 hg22 ht22; have HB22 := Lib.hid (below_app (KO.out _ (by assumption)) (KO.out _ (by assumption)).size (by first | exact OL3.out | exact OL3b.out) (Nat.le_refl _) hg22); have hKK := KI.out _ HB22.out; have HO22 := Lib.hid ho22
                   have HLIT : Hid (w22.heap[w3.heap.size]? = some (.cells #[.int .i64 c'] 3 (0, 0))) := block_row LT3.out hg22 (fun e => by simp [Value.ownBlock] at e)
                   clear ho22 hg22 ht22)
                | (refine step_appX slInt (by rfl) _ _ (by rfl) w3.heap.size v22 (0 + c') ([] ++ (p.take c').map (Value.int .i64)) _ 1 _ [.int .i64 c'] (by rfl) (by first | exact HO22.out | exact HO22.out.alloc _) (by rfl) rfl (by
                     intro j u hu
                     first
                     | exact cells_new _ [.int .i64 c'] _ j u hu
                     | (rw [addr_add_zero, row_cell HLIT.out j]; simpa using hu)) (by simp [Value.oneCell']) (by omega) (KO.out _ (by assumption)).size ?_
                   intro v25 w25 ho25 hg25 ht25; have HB25 := Lib.hid (below_app (KO.out _ (by assumption)) (KO.out _ (by assumption)).size (by first | exact HO22.out | exact HO22.out.alloc _) (Nat.le_refl _) hg25); have hKK2 := KI.out _ HB25.out; have HO25 := Lib.hid ho25; clear ho25 hg25 ht25)
                | (refine step_appX slInt (by rfl) _ _ (by rfl) w3.heap.size v25 (0 + c' + 1) ([] ++ (p.take c').map (Value.int .i64) ++ [.int .i64 c']) _ 0 _ [] (by rfl) HO25.out (by rfl) rfl (by intro j u hu; cases hu) (by intro u hu; cases hu) (by omega) (KO.out _ (by assumption)).size ?_
                   intro v29 w29 ho29 hg29 ht29; have HB29 := Lib.hid (below_app (KO.out _ (by assumption)) (KO.out _ (by assumption)).size HO25.out (Nat.le_refl _) hg29); have hKK3 := KI.out _ HB29.out; have HO29 := Lib.hid ho29; clear ho29 hg29 ht29))
            all_goals
              have e9 : 0 + c' + 1 + 0 = c' + 1 := by omega
              have HO9 := HO29.out
              rw [e9] at HO9
              have HO9 := own_mono HO9 hsz
              obtain ⟨a9, c9, rfl⟩ := own_slice HO9
              obtain ⟨g9, rfl, hg9, _⟩ := own_cell HO9 (by omega)
              have HOF : Hid (w29.ownsRow w.heap.size 3 1 (.slice (some ⟨g9, 0, none⟩) (c' + 1) c9) (c' + 1) ((p.take c' ++ [(c' : Int)]).map (Value.int .i64))) := by
                show World.ownsRow _ _ _ _ _ _ _
                simpa [List.map_append] using HO9
              have HLE : Hid ((p.take c' ++ [(c' : Int)]).length = c' + 1) := by show _ = _; have := HP.out; first | (simp; done) | (simp; omega)
              have HDF := Lib.hid (HB3.out.trans (HB29.out.mono HB3.out.size))
              clear HO9 HO29
              go_wp2
              go_roundw
              case rel => exact ⟨c' + 1, p.take c' ++ [(c' : Int)], by go_num, by omega, HLE.out, Lib.hid (by have := HNX.out; rw [HDN.out, List.append_nil] at this; exact this), HOF.out, ⟨g9, rfl⟩, HDF.out⟩
              case measure => simp [intOf] <;> omega

end Go.Proofs.YtoebegdepnigbaaGreatDoor

/- Walks: the keys of records, by both packages. -/
namespace Go.Proofs.YtoebegdepnigbaaGreatDoor
open Go.RowKit
set_option linter.unusedVariables false

def keysL (rs : List (Int × Int)) : List Int := rs.map Prod.fst
theorem keysL_succ {rs : List (Int × Int)} {k : Nat} (hk : k < rs.length) : keysL (rs.take (k + 1)) = keysL (rs.take k) ++ [(rs.getD k (0, 0)).1] := by
  unfold keysL
  rw [List.take_add_one, List.map_append]
  simp [List.getD, List.getElem?_eq_getElem hk]
theorem keysL_len (rs : List (Int × Int)) : (keysL rs).length = rs.length := by simp [keysL]

set_option maxRecDepth 100000 in
set_option maxHeartbeats 400000 in
theorem keysOf_any (a : Option Addr) (cap : Nat) (zs : List (Int × Int)) (w : World) (hlen : zs.length ≤ 1048576) (h : RecsAt w a zs) :
    Calls Tryz.prog 20 #[.slice a zs.length cap] w fun e w' => ∃ a' c', e = .returned (.slice a' (keysL zs).length c') ∧ w'.ownsRow w.heap.size 3 1 (.slice a' (keysL zs).length c') (keysL zs).length ((keysL zs).map (Value.int .i64)) ∧ Below w.heap.size w w' := by
  have H := Lib.hid h; clear h
  have e1 := own_lit (w := w) (e := 3) (size := 1) #[] 0 (by omega) rfl
  have E1 := Lib.hid e1; clear e1
  go_enter Tryz.func20, Tryz.ntmps20
  go_wp2
  go_loopw [3, 5, 9] (fun v _ i wr => ∃ k : Nat, k ≤ zs.length ∧ i = .int .i64 k ∧ wr.ownsRow w.heap.size 3 1 v (keysL (zs.take k)).length ((keysL (zs.take k)).map (Value.int .i64)) ∧ Below w.heap.size w wr) (fun _ _ i _ => zs.length - (intOf i).toNat)
  case atStart => exact ⟨0, by omega, rfl, E1.out, (Below.refl _ _).alloc (Nat.le_refl _) _⟩
  case round =>
    obtain ⟨k, hk, rfl, hown, hb⟩ := hrel
    clear E1
    by_cases hlt : k < zs.length
    · obtain ⟨b, off, rfl, hc1, hc2⟩ := (H.out.below (Nat.le_refl _) hb).at hlt
      have hs := keysL_succ hlt
      have hl : (keysL (zs.take k)).length = k := by rw [keysL_len]; simp; omega
      generalize hr : zs.getD k (0, 0) = r at hc1 hc2 hs
      have HS := Lib.hid hs; clear hs
      have HR := Lib.hid hr; clear hr
      obtain ⟨x, y⟩ := r
      have HO := Lib.hid hown; clear hown
      have HB := Lib.hid hb; clear hb
      have HL := Lib.hid hl
      have hn : (keysL (zs.take k)).length + 1 ≤ 1099511627776 := by omega
      have hbs := HB.out.size
      clear hl
      go_wp2_with (at_builtin; refine wpList_app1 slInt rfl (.tmp 13) (.tmp 16) rfl rfl (HO.out.alloc _) [.int .i64 x] rfl rfl (by simp) (by simp [Value.oneCell']) hn (by simp; omega) ?_; intro v' w1 hown' hg ht)
      have HO' := Lib.hid hown'
      have HB' := Lib.hid (below_app (HB.out.alloc hbs _) (by simp; omega) (HO.out.alloc _) (Nat.le_refl _) hg)
      clear hown' hg ht hbs hn
      go_roundw
      case rel =>
        refine ⟨k + 1, by omega, by go_num, ?_, HB'.out⟩
        rw [HS.out, List.length_append, List.map_append]
        exact HO'.out
      case measure => simp [intOf]; omega
    · rw [List.take_of_length_le (by omega)] at hown
      obtain ⟨a', c', rfl⟩ := own_slice hown
      have HO := Lib.hid hown; clear hown
      have HB := Lib.hid hb; clear hb
      go_wp2
      go_ret
      exact ⟨a', c', rfl, HO.out, HB.out⟩


set_option maxRecDepth 100000 in
set_option maxHeartbeats 400000 in
theorem l24Keys_any (a : Option Addr) (cap : Nat) (zs : List (Int × Int)) (w : World) (hlen : zs.length ≤ 1048576) (h : RecsAt w a zs) :
    Calls Tryz.prog 37 #[.slice a zs.length cap] w fun e w' => ∃ a' c', e = .returned (.slice a' (keysL zs).length c') ∧ w'.ownsRow w.heap.size 3 1 (.slice a' (keysL zs).length c') (keysL zs).length ((keysL zs).map (Value.int .i64)) ∧ Below w.heap.size w w' := by
  have H := Lib.hid h; clear h
  have e1 := own_lit (w := w) (e := 3) (size := 1) #[] 0 (by omega) rfl
  have E1 := Lib.hid e1; clear e1
  go_enter Tryz.func37, Tryz.ntmps37
  go_wp2
  go_loopw [3, 4] (fun v i wr => ∃ k : Nat, k ≤ zs.length ∧ i = .int .i64 k ∧ wr.ownsRow w.heap.size 3 1 v (keysL (zs.take k)).length ((keysL (zs.take k)).map (Value.int .i64)) ∧ Below w.heap.size w wr) (fun _ i _ => zs.length - (intOf i).toNat)
  case atStart => exact ⟨0, by omega, rfl, E1.out, (Below.refl _ _).alloc (Nat.le_refl _) _⟩
  case round =>
    obtain ⟨k, hk, rfl, hown, hb⟩ := hrel
    clear E1
    by_cases hlt : k < zs.length
    · obtain ⟨b, off, rfl, hc1, hc2⟩ := (H.out.below (Nat.le_refl _) hb).at hlt
      have hs := keysL_succ hlt
      have hl : (keysL (zs.take k)).length = k := by rw [keysL_len]; simp; omega
      generalize hr : zs.getD k (0, 0) = r at hc1 hc2 hs
      have HS := Lib.hid hs; clear hs
      have HR := Lib.hid hr; clear hr
      obtain ⟨x, y⟩ := r
      have HO := Lib.hid hown; clear hown
      have HB := Lib.hid hb; clear hb
      have hn : (keysL (zs.take k)).length + 1 ≤ 1099511627776 := by omega
      have hbs := HB.out.size
      have h3 : decide ((k : Int) < (zs.length : Int)) = true := by simp; omega
      clear hl
      go_wp2_with (at_builtin; refine wpList_app1 slInt rfl (.tmp 12) (.tmp 18) rfl rfl HO.out [.int .i64 x] rfl rfl (by simp) (by simp [Value.oneCell']) hn hbs ?_; intro v' w1 hown' hg ht)
      have HO' := Lib.hid hown'
      have HB' := Lib.hid (below_app HB.out hbs HO.out (Nat.le_refl _) hg)
      clear hown' hg ht hbs hn
      go_wp2
      go_roundw
      case rel =>
        refine ⟨k + 1, by omega, by go_num, ?_, HB'.out⟩
        rw [HS.out, List.length_append, List.map_append]
        exact HO'.out
      case measure => simp [intOf] <;> omega
    · rw [List.take_of_length_le (by omega)] at hown
      obtain ⟨a', c', rfl⟩ := own_slice hown
      have HO := Lib.hid hown; clear hown
      have HB := Lib.hid hb; clear hb
      go_wp2
      go_ret
      exact ⟨a', c', rfl, HO.out, HB.out⟩

end Go.Proofs.YtoebegdepnigbaaGreatDoor

/- Walks: sorting, CertifySort, of both packages. -/
namespace Go.Proofs.YtoebegdepnigbaaGreatDoor
open Go.RowKit Go.Sort
set_option linter.unusedVariables false

theorem IntsAt.grownR {w w' : World} {row : Option Nat} {a : Option Addr} {l : List Int} (h : IntsAt w a l) (hg : w.grownBy w' row) (hne : ∀ b off, a = some ⟨b, off, none⟩ → row ≠ some b) : IntsAt w' a l := by
  rcases h with h | ⟨b, off, e, h1, h2⟩
  · exact .inl h
  · refine .inr ⟨b, off, e, Nat.lt_of_lt_of_le h1 hg.size, fun j hj => ?_⟩
    have := hg.block b h1 (Ne.symm (hne b off e))
    rw [← h2 j hj]
    simp only [World.cell?, this]

/-- The closure of 'sorting' compares places. -/
theorem sort_is (pc g : Nat) (a : Option Addr) (c : Nat) (l : List Int) (hl : l.length ≤ 1000) (hpc : pc ≠ g) (ha : ∀ b off, a = some ⟨b, off, none⟩ → b ≠ g) :
    II.CmpIs (fun x => 0 ≤ x ∧ x < (l.length : Int)) (fun W => pc < W.heap.size ∧ SortI pc a c l W) g (ltP l) (.func (.func 44) #[] #[.pointer (some ⟨pc, 0, none⟩)]) := by
  refine ⟨fun w w' ⟨h0, h1, h2⟩ hg => ⟨Nat.lt_of_lt_of_le h0 hg.size, ?_, h2.grownR hg (fun b off e he => by injection he with he; exact ha b off e he.symm)⟩, 44, #[.pointer (some ⟨pc, 0, none⟩)], rfl, fun args w => by kernel_rfl, fun r s w hr hs ⟨_, hI⟩ => ?_⟩
  · have := hg.block pc h0 (by intro e; injection e with e; exact hpc e)
    rw [← h1]
    simp only [World.cell?, this]
  · exact sortCmp_any pc a c l r s w hl hr hs hI

set_option maxRecDepth 100000 in
set_option maxHeartbeats 4000000 in
theorem sorting_any (a : Option Addr) (cc n : Nat) (l : List Int) (w : World) (hl : l.length = n) (hn : n ≤ 1000) (ha : ∀ b off, a = some ⟨b, off, none⟩ → b < w.heap.size) (h : IntsAt w a l) :
    Calls Tryz.prog 19 #[.slice a n cc] w fun e w' => ∃ (g c' : Nat), e = .returned (.slice (some ⟨g, 0, none⟩) n c') ∧ w'.ownsRow w.heap.size 3 1 (.slice (some ⟨g, 0, none⟩) n c') n ((sortP l).map (Value.int .i64)) ∧ Below w.heap.size w w' := by
  have hbx : Below w.heap.size w (w.alloc (.cells #[.slice a n cc] 26)) := (Below.refl w.heap.size w).alloc (Nat.le_refl _) _
  have HBX := Lib.hid hbx
  have hcell : (w.alloc (.cells #[.slice a n cc] 26)).cell? ⟨w.heap.size, 0, none⟩ = some (.slice a n cc) := cells_new w [.slice a n cc] 26 0 _ rfl
  have HSI : Hid (SortI w.heap.size a cc l (w.alloc (.cells #[.slice a n cc] 26))) := ⟨by rw [hl]; exact hcell, h.below (Nat.le_refl _) hbx⟩
  have hsz : (w.alloc (.cells #[.slice a n cc] 26)).heap.size = w.heap.size + 1 := by simp
  have HA := Lib.hid ha
  have HLN := Lib.hid hl
  have E0 := Lib.hid (own_lit (w := w.alloc (.cells #[.slice a n cc] 26)) (e := 3) (size := 1) #[] 0 (by omega) rfl)
  have B0 := Lib.hid (show Below (w.heap.size + 1) (w.alloc (.cells #[.slice a n cc] 26)) ((w.alloc (.cells #[.slice a n cc] 26)).alloc (.cells #[] 3)) from (Below.refl _ _).alloc (by rw [hsz]; exact Nat.le_refl _) _)
  rw [hsz] at E0
  have HSZ := Lib.hid hsz
  clear h hl hsz ha hbx
  have c0 := hcell
  clear hcell
  go_enter Tryz.func19, Tryz.ntmps19
  go_wp2_with fail
  go_loopw [3, 8] (fun v i wr => ∃ k : Nat, i = .int .i64 k ∧ k ≤ n ∧ wr.ownsRow (w.heap.size + 1) 3 1 v k ((upTo k).map (Value.int .i64)) ∧ (∃ g, v.ownBlock = some g) ∧ Below (w.heap.size + 1) (w.alloc (.cells #[.slice a n cc] 26)) wr) (fun _ i _ => n - (intOf i).toNat)
  case atStart => exact ⟨0, rfl, by omega, by first | exact E0.out | simpa using E0.out, ⟨_, rfl⟩, B0.out⟩
  case round =>
    obtain ⟨k, rfl, hk, hown, ⟨g0, hg0⟩, hb⟩ := hrel
    have HO := Lib.hid hown; have HB := Lib.hid hb
    clear hown hb E0 B0
    obtain ⟨a', c', rfl⟩ := own_slice HO.out
    obtain ⟨g, hga, hg1, hg2⟩ := own_addr HO.out (by rw [hg0]; simp)
    subst hga
    clear hg0 g0
    have hbs := HB.out.size
    rw [HSZ.out] at hbs
    by_cases hlt : k < n
    · have q1 : decide ((k : Int) < (n : Int)) = true := decide_eq_true (by omega)
      have hn40 : k + 1 ≤ 1099511627776 := by omega
      go_wp2_with (at_builtin; refine wpList_app1 slInt rfl _ _ rfl rfl HO.out [.int .i64 k] rfl rfl (by simp) (by simp [Value.oneCell']) hn40 hbs ?_; intro v' w2 hown' hg ht)
      have HO4 := Lib.hid hown'
      have HB4 := Lib.hid (below_app HB.out hbs HO.out (Nat.le_refl _) hg)
      have HT4 : Hid (∃ q, v'.ownBlock = some q) := by
        rcases ht with h | h
        · exact ⟨g, h⟩
        · exact ⟨_, h⟩
      clear hown' hg ht
      go_roundw
      case rel => exact ⟨k + 1, by go_num, by omega, by rw [upTo_succ, List.map_append]; exact HO4.out, HT4.out, HB4.out⟩
      case measure => simp [intOf] <;> omega
    obtain rfl : k = n := by omega
    have q1 : decide ((k : Int) < (k : Int)) = false := by simp
    have hbw : Below w.heap.size w wr := HBX.out.trans (HB.out.mono (Nat.le_succ _))
    have HSW : Hid (w.heap.size < wr.heap.size ∧ SortI w.heap.size a cc l wr) := by
      refine ⟨by omega, (HB.out.cell (p := ⟨w.heap.size, 0, none⟩) (by simp)).trans HSI.out.1, ?_⟩
      exact HSI.out.2.below (by rw [HSZ.out]; exact Nat.le_refl _) HB.out
    have HIS := Lib.hid (sort_is w.heap.size g a cc l (by rw [HLN.out]; exact hn) (by omega) (fun b off e he => by have := HA.out b off e; omega))
    have HSS := Lib.hid (II.sortStable_any (Mg.swK (keyAt l)) (w.heap.size + 1) g c' k (upTo k) wr (upTo_len k) hn (fun y hy => by rw [HLN.out]; exact upTo_mem hy) HSW.out HIS.out (by rw [II.flat_map]; exact HO.out))
    have HBW := Lib.hid hbw
    clear hbw HIS HSW
    go_wp2_with fail
    refine HSS.out.mono ?_
    rintro e w5 ⟨rfl, ho, hg⟩
    rw [II.flat_map] at ho
    have HO5 := Lib.hid (own_mono ho (Nat.le_succ _))
    have HB5 := Lib.hid (HBW.out.grown hg HBW.out.size (fun q hq => by injection hq with hq; omega))
    have HSP : Hid (sortP l = Mg.srt (ltP l) (upTo k)) := by show _ = _; unfold sortP; rw [HLN.out]
    clear ho hg
    go_wp2
    go_ret
    exact ⟨g, c', rfl, by rw [HSP.out]; exact HO5.out, HB5.out⟩

/-- A list of ints of the call's own and a Bool, given back. -/
def CsEnd (w : World) (out : List Int) (ok : Bool) (e : Ending) (w' : World) : Prop :=
  ∃ (a : Option Addr) (c : Nat), e = .returned (.tuple #[.slice a out.length c, .bool ok]) ∧ w'.ownsRow w.heap.size 3 1 (.slice a out.length c) out.length (out.map (Value.int .i64)) ∧ Below w.heap.size w w'
def csAns (rs : List (Int × Int)) : List Int := if okRecs rs = true then sortP (keysL rs) else []
theorem csAns_le (rs : List (Int × Int)) : (csAns rs).length ≤ 64 := by
  unfold csAns
  split
  · rename_i h; rw [sortP_len, keysL_len]; exact okRecs_le h
  · simp
theorem own_nilE (w : World) (B : Nat) (e : TypeId) (s : Nat) : w.ownsRow B e s (.slice none 0 0) 0 [] := ⟨by simp, .inl ⟨rfl, rfl⟩⟩

set_option maxRecDepth 100000 in
set_option maxHeartbeats 2000000 in
theorem implCertifySort_any (a : Option Addr) (c : Nat) (rs : List (Int × Int)) (w : World) (hbig : rs.length ≤ 9223372036854775807) (h : RecsAt w a rs) :
    Calls Tryz.prog 6 #[.slice a rs.length c] w (CsEnd w (csAns rs) (okRecs rs)) := by
  have HV := Lib.hid (isValidRecords_any a c rs w hbig h)
  have H := Lib.hid h
  clear h
  unfold CsEnd csAns
  cases hok : okRecs rs
  · rw [hok] at HV
    go_enter Tryz.func6, Tryz.ntmps6
    go_wp2_with fail
    refine HV.out.mono ?_
    rintro e w1 ⟨rfl, hb⟩
    have HB := Lib.hid hb; clear hb
    go_wp2
    go_ret2
    exact ⟨none, 0, rfl, own_nilE _ _ _ _, HB.out⟩
  · rw [hok] at HV
    have hl := okRecs_le hok
    have HKL := Lib.hid (keysL_len rs)
    go_enter Tryz.func6, Tryz.ntmps6
    go_wp2_with fail
    refine HV.out.mono ?_
    rintro e w1 ⟨rfl, hb⟩
    have HB := Lib.hid hb; clear hb
    go_wp2_with fail
    refine (keysOf_any a c rs w1 (by omega) (H.out.below (Nat.le_refl _) HB.out)).mono ?_
    rintro e w2 ⟨a2, c2, rfl, ho, hb⟩
    have HO2 := Lib.hid ho
    have HB2 := Lib.hid (HB.out.trans (hb.mono HB.out.size)); clear ho hb
    go_wp2_with fail
    refine (sorting_any a2 c2 _ (keysL rs) w2 rfl (by rw [HKL.out]; omega) (fun b off e => (HO2.out.lt b (by rw [e]; rfl)).2) (ints_of_own HO2.out)).mono ?_
    rintro e w3 ⟨g, c3, rfl, ho, hb⟩
    have HO3 := Lib.hid (own_mono ho HB2.out.size)
    have HB3 := Lib.hid (HB2.out.trans (hb.mono HB2.out.size)); clear ho hb
    have HSL := Lib.hid (sortP_len (keysL rs))
    go_wp2
    go_ret2
    exact ⟨_, c3, by rw [HSL.out]; rfl, by rw [HSL.out]; exact HO3.out, HB3.out⟩

end Go.Proofs.YtoebegdepnigbaaGreatDoor

/- Plain law: sorting stably by one key and then by another is sorting by both; digit by digit. No program in sight. -/
namespace Go.Proofs.YtoebegdepnigbaaGreatDoor.Mg
set_option linter.unusedVariables false

section
variable {α : Type}

theorem mrg_congr {lt1 lt2 : α → α → Bool} : ∀ {l r : List α}, (∀ x ∈ l, ∀ y ∈ r, lt1 y x = lt2 y x) → mrg lt1 l r = mrg lt2 l r
  | [], r, _ => by rw [mrg_nil, mrg_nil]
  | x :: l, [], _ => by rw [nil_mrg, nil_mrg]
  | x :: l, y :: r, h => by
    have i1 := mrg_congr (l := x :: l) (r := r) (fun a ha b hb => h a ha b (List.mem_cons_of_mem _ hb))
    have i2 := mrg_congr (l := l) (r := y :: r) (fun a ha b hb => h a (List.mem_cons_of_mem _ ha) b hb)
    have hxy := h x (by simp) y (by simp)
    cases hc : lt1 y x
    · rw [mrg_ge hc, mrg_ge (hxy.symm.trans hc), i2]
    · rw [mrg_lt hc, mrg_lt (hxy.symm.trans hc), i1]
termination_by l r => l.length + r.length

theorem mrg_comm {lt : α → α → Bool} (S : SW lt) : ∀ {l r : List α}, (∀ x ∈ l, ∀ y ∈ r, lt x y = true ∨ lt y x = true) → mrg lt l r = mrg lt r l
  | [], r, _ => by rw [mrg_nil, nil_mrg]
  | x :: l, [], _ => by rw [mrg_nil, nil_mrg]
  | x :: l, y :: r, h => by
    have i1 := mrg_comm S (l := x :: l) (r := r) (fun a ha b hb => h a ha b (List.mem_cons_of_mem _ hb))
    have i2 := mrg_comm S (l := l) (r := y :: r) (fun a ha b hb => h a (List.mem_cons_of_mem _ ha) b hb)
    cases hc : lt y x
    · have hd : lt x y = true := by rcases h x (by simp) y (by simp) with h | h; exact h; rw [hc] at h; cases h
      rw [mrg_ge hc, mrg_lt hd, i2]
    · rw [mrg_lt hc, mrg_ge (S.asym _ _ hc), i1]
termination_by l r => l.length + r.length

theorem asc_cut {lt : α → α → Bool} (S : SW lt) (x : α) : ∀ {A : List α}, Asc lt A → ∃ A1 A2, A = A1 ++ A2 ∧ (∀ a ∈ A1, lt x a = false) ∧ ∀ b ∈ A2, lt x b = true
  | [], _ => ⟨[], [], rfl, by simp, by simp⟩
  | a :: t, h => by
    cases hc : lt x a
    · obtain ⟨A1, A2, e, h1, h2⟩ := asc_cut S x (asc_cons.1 h).2
      refine ⟨a :: A1, A2, by rw [e]; rfl, fun b hb => ?_, h2⟩
      rcases List.mem_cons.1 hb with rfl | hb
      · exact hc
      · exact h1 b hb
    · refine ⟨[], a :: t, rfl, by simp, fun b hb => ?_⟩
      rcases List.mem_cons.1 hb with rfl | hb
      · exact hc
      · rcases S.neg x b a hc with h3 | h3
        · exact h3
        · rw [(asc_cons.1 h).1 b hb] at h3; cases h3

/-- The order by g, among equal ones by f. -/
def Lex (g f h : α → Int) : Prop := ∀ a b, h a < h b ↔ g a < g b ∨ g a = g b ∧ f a < f b

theorem srt_lex {g f h : α → Int} (H : Lex g f h) (l : List α) : srt (ltK g) (srt (ltK f) l) = srt (ltK h) l := by
  refine list_snoc (P := fun l => srt (ltK g) (srt (ltK f) l) = srt (ltK h) l) rfl ?_ l
  intro l x ih
  obtain ⟨A1, A2, e, h1, h2⟩ := asc_cut (swK f) x (srt_asc (swK f) l)
  have f1 : ∀ a ∈ A1, f a ≤ f x := fun a ha => by have := h1 a ha; simp only [ltK, decide_eq_false_iff_not] at this; omega
  have f2 : ∀ a ∈ A2, f x < f a := fun a ha => by have := h2 a ha; simpa only [ltK, decide_eq_true_eq] using this
  have e1 : srt (ltK f) (l ++ [x]) = A1 ++ ([x] ++ A2) := by
    rw [srt_snoc, e, mrg_down h2, mrg_stop h1, List.append_assoc]
  have m1 : ∀ a, a ∈ srt (ltK g) A1 → f a ≤ f x := fun a ha => f1 a (srt_mem.1 ha)
  have m2 : ∀ a, a ∈ srt (ltK g) A2 → f x < f a := fun a ha => f2 a (srt_mem.1 ha)
  have key : ∀ a b, f a ≤ f b → ltK g b a = ltK h b a := fun a b hab => by
    have hh := H b a
    simp only [ltK]
    by_cases hg : g b < g a
    · rw [decide_eq_true hg, decide_eq_true (hh.2 (.inl hg))]
    · rw [decide_eq_false hg, decide_eq_false (fun h3 => by rcases hh.1 h3 with h4 | ⟨_, h4⟩ <;> omega)]
  have c1 : mrg (ltK g) (srt (ltK g) A1) (srt (ltK g) A2) = mrg (ltK h) (srt (ltK g) A1) (srt (ltK g) A2) :=
    mrg_congr fun a ha b hb => key a b (by have := m1 a ha; have := m2 b hb; omega)
  have c2 : mrg (ltK g) [x] (srt (ltK g) A2) = mrg (ltK h) [x] (srt (ltK g) A2) :=
    mrg_congr fun a ha b hb => key a b (by rw [List.mem_singleton.1 ha]; have := m2 b hb; omega)
  have c3 : mrg (ltK h) [x] (srt (ltK g) A2) = mrg (ltK h) (srt (ltK g) A2) [x] :=
    mrg_comm (swK h) fun a ha b hb => by
      rw [List.mem_singleton.1 ha]
      have hb2 := m2 b hb
      have k1 := H x b
      have k2 := H b x
      simp only [ltK, decide_eq_true_eq]
      rcases Int.lt_trichotomy (g x) (g b) with h3 | h3 | h3
      · exact .inl (k1.2 (.inl h3))
      · exact .inl (k1.2 (.inr ⟨h3, hb2⟩))
      · exact .inr (k2.2 (.inl h3))
  have c4 : mrg (ltK g) (srt (ltK g) A1) (mrg (ltK h) [x] (srt (ltK g) A2)) = mrg (ltK h) (srt (ltK g) A1) (mrg (ltK h) [x] (srt (ltK g) A2)) :=
    mrg_congr fun a ha b hb => key a b (by
      have h3 := m1 a ha
      rcases mrg_mem.1 hb with hb | hb
      · rw [List.mem_singleton.1 hb]; exact h3
      · have := m2 b hb; omega)
  rw [e1, srt_append (swK g), srt_append (swK g), srt_one, c2, c4, c3, ← mrg_assoc (swK h), ← c1, ← srt_append (swK g), ← e, ih, srt_snoc]
end

/-- The digits of a number. -/
def dgN (B p n : Nat) : Nat := n / B ^ p % B
theorem dgN_zero (B n : Nat) : dgN B 0 n = n % B := by simp [dgN]
theorem dgN_succ (B p n : Nat) : dgN B (p + 1) n = dgN B p (n / B) := by
  unfold dgN
  rw [Nat.div_div_eq_div_mul, Nat.pow_succ, Nat.mul_comm]
theorem dgN_lt {B p n : Nat} (hB : 0 < B) : dgN B p n < B := Nat.mod_lt _ hB
theorem mod_step (B p n : Nat) : n % B ^ (p + 1) = dgN B p n * B ^ p + n % B ^ p := by
  unfold dgN
  rw [Nat.pow_succ, Nat.mod_mul, Nat.mul_comm, Nat.add_comm]
theorem lt_step {B p n m : Nat} (hB : 0 < B) : n % B ^ (p + 1) < m % B ^ (p + 1) ↔ dgN B p n < dgN B p m ∨ dgN B p n = dgN B p m ∧ n % B ^ p < m % B ^ p := by
  rw [mod_step, mod_step]
  have h1 := Nat.mod_lt n (Nat.pow_pos (n := p) hB)
  have h2 := Nat.mod_lt m (Nat.pow_pos (n := p) hB)
  generalize B ^ p = q at h1 h2 ⊢
  generalize n % q = a at h1 ⊢
  generalize m % q = b at h2 ⊢
  generalize dgN B p n = x
  generalize dgN B p m = y
  constructor
  · intro h
    rcases Nat.lt_trichotomy x y with h3 | h3 | h3
    · exact .inl h3
    · subst h3; exact .inr ⟨rfl, by omega⟩
    · have h4 : (y + 1) * q ≤ x * q := Nat.mul_le_mul_right q h3
      rw [Nat.add_mul, Nat.one_mul] at h4
      omega
  · intro h
    rcases h with h3 | ⟨h3, h4⟩
    · have h4 : (x + 1) * q ≤ y * q := Nat.mul_le_mul_right q h3
      rw [Nat.add_mul, Nat.one_mul] at h4
      omega
    · subst h3; omega

/-- A record's key, shifted; its digit; what its first digits are. -/
def nk (r : Int × Int) : Nat := (r.1 + 100000).toNat
def dgK (B p : Nat) (r : Int × Int) : Int := (dgN B p (nk r) : Nat)
def loK (B p : Nat) (r : Int × Int) : Int := (nk r % B ^ p : Nat)
theorem lex_dg {B p : Nat} (hB : 0 < B) : Lex (dgK B p) (loK B p) (loK B (p + 1)) := fun a b => by
  unfold dgK loK
  have := lt_step (B := B) (p := p) (n := nk a) (m := nk b) hB
  omega
/-- The list behind p passes. -/
def pasS (B p : Nat) (l : List (Int × Int)) : List (Int × Int) := srt (ltK (loK B p)) l
theorem pas_zero (B : Nat) (l : List (Int × Int)) : pasS B 0 l = l := by
  refine srt_of_asc ?_
  refine List.Pairwise.imp ?_ (List.pairwise_of_forall (R := fun _ _ => True) (fun _ _ => trivial))
  intro a b _
  simp [ltK, loK, Nat.mod_one]
theorem pas_succ {B p : Nat} (hB : 0 < B) (l : List (Int × Int)) : srt (ltK (dgK B p)) (pasS B p l) = pasS B (p + 1) l := srt_lex (lex_dg hB) l
theorem srt_congr {α : Type} {lt1 lt2 : α → α → Bool} {l : List α} (h : ∀ a ∈ l, ∀ b ∈ l, lt1 a b = lt2 a b) : srt lt1 l = srt lt2 l := by
  revert h
  refine list_snoc (P := fun l => (∀ a ∈ l, ∀ b ∈ l, lt1 a b = lt2 a b) → srt lt1 l = srt lt2 l) (fun _ => rfl) ?_ l
  intro l x ih h
  rw [srt_snoc, srt_snoc, ih (fun a ha b hb => h a (List.mem_append_left _ ha) b (List.mem_append_left _ hb))]
  exact mrg_congr fun a ha b hb => h b (List.mem_append_right _ hb) a (List.mem_append_left _ (srt_mem.1 ha))
/-- Enough passes sort by the key. -/
theorem pas_all {B p : Nat} {l : List (Int × Int)} (hl : ∀ r ∈ l, -100000 ≤ r.1 ∧ nk r < B ^ p) : pasS B p l = srt (ltK Prod.fst) l := by
  refine srt_congr fun a ha b hb => ?_
  have h1 := hl a ha
  have h2 := hl b hb
  have e1 : loK B p a = (nk a : Nat) := by unfold loK; rw [Nat.mod_eq_of_lt h1.2]
  have e2 : loK B p b = (nk b : Nat) := by unfold loK; rw [Nat.mod_eq_of_lt h2.2]
  unfold nk at e1 e2
  exact decide_eq_decide.2 (by omega)
theorem pas_len (B p : Nat) (l : List (Int × Int)) : (pasS B p l).length = l.length := srt_length l
theorem pas_mem {B p : Nat} {l : List (Int × Int)} {r : Int × Int} : r ∈ pasS B p l ↔ r ∈ l := srt_mem

/-- The sum of the first digits at their places. -/
def sumD (B n : Nat) : Nat → Nat
  | 0 => 0
  | k + 1 => sumD B n k + dgN B k n * B ^ k
theorem sumD_is (B n : Nat) : ∀ k, sumD B n k = n % B ^ k
  | 0 => by simp [sumD, Nat.mod_one]
  | k + 1 => by rw [sumD, sumD_is B n k, mod_step]; omega

/-- The number of digits. -/
def nd (B n : Nat) : Nat := if h : 0 < n / B ∧ 2 ≤ B then 1 + nd B (n / B) else 1
termination_by n
decreasing_by exact Nat.div_lt_self (Nat.pos_of_ne_zero (fun e => by rw [e] at h; simp at h)) h.2
theorem nd_go {B n : Nat} (h : 0 < n / B) (hB : 2 ≤ B) : nd B n = 1 + nd B (n / B) := by rw [nd, dif_pos ⟨h, hB⟩]
theorem nd_end {B n : Nat} (h : n / B = 0) : nd B n = 1 := by rw [nd, dif_neg (by omega)]
theorem nd_pow {B : Nat} (hB : 2 ≤ B) : ∀ (k n : Nat), n ≤ k → n < B ^ nd B n
  | 0, n, h => by
    have h0 : n = 0 := by omega
    subst h0
    exact Nat.pow_pos (by omega)
  | k + 1, n, h => by
    by_cases h1 : 0 < n / B
    · have h2 : n / B < n := Nat.div_lt_self (Nat.pos_of_ne_zero (fun e => by rw [e] at h1; simp at h1)) hB
      have ih := nd_pow hB k (n / B) (by omega)
      rw [nd_go h1 hB, Nat.add_comm, Nat.pow_succ]
      exact (Nat.div_lt_iff_lt_mul (by omega)).1 ih
    · have h2 : n / B = 0 := Nat.eq_zero_of_not_pos h1
      rw [nd_end h2, Nat.pow_one]
      rcases Nat.div_eq_zero_iff.1 h2 with h3 | h3
      · omega
      · exact h3
theorem nd_le {B : Nat} (hB : 2 ≤ B) : ∀ (k n : Nat), n < B ^ (k + 1) → nd B n ≤ k + 1
  | 0, n, h => by
    rw [nd_end (Nat.div_eq_of_lt (by simpa using h))]; exact Nat.le_refl _
  | k + 1, n, h => by
    by_cases h1 : 0 < n / B
    · rw [nd_go h1 hB]
      have h2 : n / B < B ^ (k + 1) := (Nat.div_lt_iff_lt_mul (by omega)).2 (by rw [← Nat.pow_succ]; exact h)
      have := nd_le hB k (n / B) h2
      omega
    · rw [nd_end (Nat.eq_zero_of_not_pos h1)]; omega
theorem nd_18 {B n : Nat} (hB : 2 ≤ B) (hn : n ≤ 200000) : nd B n ≤ 18 := by
  refine nd_le hB 17 n ?_
  have h1 : 2 ^ 18 ≤ B ^ 18 := Nat.pow_le_pow_left hB 18
  have h2 : (2 : Nat) ^ 18 = 262144 := by decide
  show n < B ^ 18
  omega
/-- The greatest key of a list, shifted. -/
def mxN : List (Int × Int) → Nat
  | [] => 0
  | r :: l => max (nk r) (mxN l)
theorem mxN_ge {l : List (Int × Int)} : ∀ r ∈ l, nk r ≤ mxN l := by
  induction l with
  | nil => intro r h; cases h
  | cons a t ih =>
    intro r h
    rcases List.mem_cons.1 h with rfl | h
    · exact Nat.le_max_left _ _
    · exact Nat.le_trans (ih r h) (Nat.le_max_right _ _)
theorem mxN_le {l : List (Int × Int)} {b : Nat} (h : ∀ r ∈ l, nk r ≤ b) : mxN l ≤ b := by
  induction l with
  | nil => exact Nat.zero_le _
  | cons a t ih => exact Nat.max_le.2 ⟨h a (by simp), ih (fun r hr => h r (List.mem_cons_of_mem _ hr))⟩
theorem mxN_is {l : List (Int × Int)} {m : Int × Int} (hm : m ∈ l) (h : ∀ r ∈ l, r.1 ≤ m.1) : mxN l = nk m := by
  refine Nat.le_antisymm (mxN_le fun r hr => ?_) (mxN_ge m hm)
  have := h r hr
  unfold nk; omega
def npL (B : Nat) (l : List (Int × Int)) : Nat := if l.isEmpty then 0 else nd B (mxN l)
theorem npL_18 {B : Nat} {l : List (Int × Int)} (hB : 2 ≤ B) (hl : ∀ r ∈ l, -100000 ≤ r.1 ∧ r.1 ≤ 100000) : npL B l ≤ 18 := by
  unfold npL
  split
  · omega
  · exact nd_18 hB (mxN_le fun r hr => by have := hl r hr; unfold nk; omega)
/-- So many passes sort by the key. -/
theorem pas_np {B : Nat} {l : List (Int × Int)} (hB : 2 ≤ B) (hl : ∀ r ∈ l, -100000 ≤ r.1 ∧ r.1 ≤ 100000) : pasS B (npL B l) l = srt (ltK Prod.fst) l := by
  refine pas_all fun r hr => ⟨(hl r hr).1, ?_⟩
  unfold npL
  rw [if_neg (by intro e; have := List.isEmpty_iff.1 e; rw [this] at hr; cases hr)]
  exact Nat.lt_of_le_of_lt (mxN_ge r hr) (nd_pow hB _ _ (Nat.le_refl _))

end Go.Proofs.YtoebegdepnigbaaGreatDoor.Mg
