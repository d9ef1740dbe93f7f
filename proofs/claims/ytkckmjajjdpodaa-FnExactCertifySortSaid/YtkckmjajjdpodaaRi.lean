/- Walks: the permutation that sorts a list stably, of both packages. -/
import Derived.Test.YtkckmjajjdpodaaRf
import Derived.Test.YtkckmjajjdpodaaPy
import Derived.Deep.RegionHeld3
namespace Go.Proofs.Ytkckmjajjdpodaa
open Go.RowKit Go.Sort
set_option linter.unusedVariables false

theorem ints_dropR {w : World} {b : Nat} {p : List Int} (h : IntsAt w (some ⟨b, 0, none⟩) p) (i : Nat) : IntsAt w (some ⟨b, i, none⟩) (p.drop i) := by
  rcases h with rfl | ⟨b', off, e, h0, h1⟩
  · exact .inl (by simp)
  · injection e with e
    injection e with e1 e2 _
    subst e1; subst e2
    refine .inr ⟨b, i, rfl, h0, fun j hj => ?_⟩
    have := h1 (i + j) (by simp at hj; omega)
    rw [Nat.zero_add] at this
    rw [this]
    simp [List.getD]
theorem ints_oneR {l : List Int} : ∀ u ∈ l.map (Value.int .i64), u.oneCell' = true := by
  intro u hu
  obtain ⟨x, _, rfl⟩ := List.mem_map.1 hu
  rfl
theorem ints_takeR {w : World} {x : Addr} {p : List Int} (h : IntsAt w (some x) p) (i : Nat) : IntsAt w (some x) (p.take i) := by
  rcases h with rfl | ⟨b', off', e, h0, h1⟩
  · exact .inl (by simp)
  · refine .inr ⟨b', off', e, h0, fun j hj => ?_⟩
    have hj2 : j < i ∧ j < p.length := by simp at hj; omega
    rw [h1 j hj2.2]
    simp [List.getD, List.getElem?_take, hj2.1]
theorem own_capR {w : World} {base : Nat} {e : TypeId} {size g n c : Nat} {xs : List Value} (h : w.ownsRow base e size (.slice (some ⟨g, 0, none⟩) n c) n xs) : n ≤ c ∧ c ≤ 9223372036854775807 := by
  rcases h.2 with ⟨h2, _⟩ | ⟨g', cap, cur, hv, _, _, hn, hm, _⟩
  · injection h2 with h2 _ _; cases h2
  · injection hv with _ _ hv
    subst hv
    exact ⟨hn, by unfold maxLen at hm; omega⟩
theorem sizeR (w : World) (o : Obj) : (w.alloc o).heap.size = w.heap.size + 1 := by simp

theorem ints_atR {l : List Int} {k : Nat} (h : k < l.length) : (l.map (Value.int .i64))[k]? = some (.int .i64 (l.getD k 0)) := by
  rw [List.getElem?_map, List.getElem?_eq_getElem h, List.getD_eq_getElem?_getD, List.getElem?_eq_getElem h]; rfl
abbrev ltP (l : List Int) : Int → Int → Bool := Mg.ltK (keyAt l)

set_option maxRecDepth 100000 in
set_option maxHeartbeats 8000000 in
theorem l3Sorting_any (ax : Option Addr) (cc n : Nat) (l : List Int) (w : World) (hl : l.length = n) (hn : n ≤ 1000) (h : IntsAt w ax l) :
    Calls Try.prog 93 #[.slice ax n cc] w fun e w' => ∃ (a' : Option Addr) (c' : Nat), e = .returned (.slice a' n c') ∧ w'.ownsRow w.heap.size 3 1 (.slice a' n c') n ((sortP l).map (Value.int .i64)) ∧ Below w.heap.size w w' := by
  have H := Lib.hid h
  have HLN := Lib.hid hl
  have E1 := Lib.hid (own_lit (w := w) (e := 3) (size := 1) #[] 0 (by omega) rfl)
  have D1 := Lib.hid (show Below w.heap.size w (w.alloc (.cells #[] 3)) from (Below.refl w.heap.size w).alloc (Nat.le_refl _) (.cells #[] 3))
  clear h hl
  go_enter Try.func93, Try.ntmps93
  go_wp2
  go_loopw [3, 4] (fun v i wr => ∃ (k : Nat) (p : List Int), i = .int .i64 k ∧ k ≤ n ∧ p.length = k ∧ Hid (p = Mg.srt (ltP l) (upTo k)) ∧ wr.ownsRow w.heap.size 3 1 v k (p.map (Value.int .i64)) ∧ (∃ g, v.ownBlock = some g) ∧ Below w.heap.size w wr) (fun _ i _ => n - (intOf i).toNat)
  case atStart => exact ⟨0, [], rfl, by omega, rfl, Lib.hid rfl, E1.out, ⟨_, rfl⟩, D1.out⟩
  case round =>
    obtain ⟨k, p, rfl, hk, hp, HPS, hown, ⟨g0, hg0⟩, hb⟩ := hrel
    clear E1 D1
    have HO := Lib.hid hown; have HB := Lib.hid hb; have HP := Lib.hid hp
    clear hown hb hp
    obtain ⟨a', c', rfl⟩ := own_slice HO.out
    obtain ⟨g, hga, hg1, hg2⟩ := own_addr HO.out (by rw [hg0]; simp)
    subst hga
    clear hg0 g0
    by_cases hkn : k < n
    case neg =>
      obtain rfl : k = n := by omega
      have HPF : Hid (p = sortP l) := by show _ = _; rw [HPS.out]; unfold sortP; rw [HLN.out]
      rw [HPF.out] at HO
      have h3 : decide ((k : Int) < (k : Int)) = false := by simp
      go_wp2
      go_ret
      exact ⟨_, c', rfl, HO.out, HB.out⟩
    have h3 : decide ((k : Int) < (n : Int)) = true := decide_eq_true (by omega)
    have HMEM : Hid (∀ y ∈ p, 0 ≤ y ∧ y < (k : Int)) := fun y hy => upTo_mem (Mg.srt_mem.1 (HPS.out ▸ hy))
    obtain ⟨lb, lo, rfl, hli⟩ := (H.out.below (Nat.le_refl _) HB.out).at (show k < l.length by rw [HLN.out]; exact hkn)
    obtain ⟨X, hX⟩ : ∃ X, l.getD k 0 = X := ⟨_, rfl⟩
    rw [hX] at hli
    have HX := Lib.hid hX
    clear hX
    obtain ⟨wo, rfl⟩ : ∃ wo : World, wo = wr := ⟨_, rfl⟩
    go_wp2
    go_loopw [5] (fun v wq => ∃ q : Nat, v = .int .i64 q ∧ q ≤ k ∧ Hid (∀ b ∈ p.drop q, ltP l (k : Int) b = true) ∧ Below wo.heap.size wo wq) (fun v _ => (intOf v).toNat)
    case atStart => exact ⟨k, rfl, by omega, Lib.hid (by rw [List.drop_of_length_le (by have := HP.out; omega)]; simp), Below.refl _ _⟩
    case round =>
      obtain ⟨q, rfl, hq, HDR, hbq⟩ := hrel
      have HOq := Lib.hid (own_below HO.out (Nat.le_refl _) hbq)
      have HBq := Lib.hid (HB.out.trans (hbq.mono HB.out.size))
      have HBo := Lib.hid hbq
      have hli : wr.cell? ⟨lb, lo + k, none⟩ = some (.int .i64 X) := (hbq.cell (p := ⟨lb, lo + k, none⟩) (World.block_lt_of_cell? _ _ hli)).trans hli
      clear hbq
      by_cases hgo : 0 < q ∧ ltP l (k : Int) (p.getD (q - 1) 0) = true
      · obtain ⟨hq0, hlt⟩ := hgo
        obtain ⟨m, rfl⟩ : ∃ m, q = m + 1 := ⟨q - 1, by omega⟩
        rw [Nat.add_sub_cancel] at hlt
        have hmp : m < p.length := by have := HP.out; omega
        obtain ⟨y, hy⟩ : ∃ y, p.getD m 0 = y := ⟨_, rfl⟩
        have hym := HMEM.out y (by rw [← hy]; exact II.getD_memI hmp)
        have hc := HOq.out.cellAt m (by omega)
        rw [ints_atR hmp, hy] at hc
        rw [hy] at hlt
        obtain ⟨yn, rfl⟩ := Int.eq_ofNat_of_zero_le hym.1
        obtain ⟨lb', lo', e, hly⟩ := (H.out.below (Nat.le_refl _) HBq.out).at (show yn < l.length by rw [HLN.out]; omega)
        injection e with e
        injection e with e1 e2
        subst e1 e2
        obtain ⟨Y, hY⟩ : ∃ Y, l.getD yn 0 = Y := ⟨_, rfl⟩
        rw [hY] at hly
        have hXY : X < Y := by
          have := hlt
          unfold ltP Mg.ltK keyAt at this
          rw [Int.toNat_natCast, Int.toNat_natCast, HX.out, hY] at this
          simpa using this
        have q1 : decide (X < Y) = true := decide_eq_true hXY
        have HDR2 : Hid (∀ b ∈ p.drop m, ltP l (k : Int) b = true) := fun b hb => by
          rw [List.drop_eq_getElem_cons hmp] at hb
          rcases List.mem_cons.1 hb with rfl | hb
          · rw [List.getD_eq_getElem?_getD, List.getElem?_eq_getElem hmp] at hy
            have hy2 : p[m] = (yn : Int) := hy
            rw [hy2]; exact hlt
          · exact HDR.out b hb
        have hyn : yn < n := by omega
        have hcast : ((m + 1 : Nat) : Int) = (m : Int) + 1 := by omega
        have q2 : decide (0 < (m : Int) + 1) = true := decide_eq_true (by omega)
        clear hlt hXY hy hY hym hmp HDR
        rw [hcast]
        have b1 : (m : Int) < (k : Int) := by omega
        have b2 : (0 : Int) ≤ (m : Int) := by omega
        have b3 : (yn : Int) < (n : Int) := by omega
        have w1 : IntKind.i64.wrap (m : Int) = (m : Int) := IntWalk.i64_in _ (by omega)
        go_wp2_with fail
        go_quiet (fail)
        go_wp2
        go_roundw
        case rel => exact ⟨m, by go_num, by omega, HDR2, below_drewN HBo.out _⟩
        case measure => simp [intOf] <;> omega
      have HNX : Hid (p.take q ++ [(k : Int)] ++ p.drop q = Mg.srt (ltP l) (upTo (k + 1))) := by
        show _ = _
        have h1 := II.insL_end (R := []) (Mg.swK (keyAt l)) (l := upTo k) (x := (k : Int)) (k := q) (by rw [upTo_len]; exact hq) (by rw [← HPS.out]; exact HDR.out) (fun h0 => by
          rw [← HPS.out]
          cases hx : Mg.ltK (keyAt l) (k : Int) (p.getD (q - 1) 0) with
          | false => rfl
          | true => exact absurd ⟨h0, hx⟩ hgo)
        rw [← HPS.out, List.append_nil, ← upTo_succ] at h1
        have hb0 : Mg.insSt p (k : Int) q [] = p.take q ++ (k : Int) :: p.drop q := by unfold Mg.insSt; rw [List.append_nil]
        rw [hb0] at h1
        show p.take q ++ [(k : Int)] ++ p.drop q = _
        rw [List.append_assoc]
        exact h1
      rcases Nat.eq_zero_or_pos q with h0 | h0
      case' inl =>
        have q2 : decide (0 < (q : Int)) = false := decide_eq_false (by omega)
        go_wp2_with fail
        go_quiet (fail)
        have HO3 : Hid ((wr.drewN nq).ownsRow w.heap.size 3 1 (.slice (some ⟨g, 0, none⟩) k c') k (p.map (Value.int .i64))) := HOq.out
        have HB3 := Lib.hid (below_drewN HBq.out nq)
        generalize wr.drewN nq = w3 at HO3 HB3 ⊢
      case' inr =>
        have hmp : q - 1 < p.length := by have := HP.out; omega
        obtain ⟨y, hy⟩ : ∃ y, p.getD (q - 1) 0 = y := ⟨_, rfl⟩
        have hym := HMEM.out y (by rw [← hy]; exact II.getD_memI hmp)
        have hc := HOq.out.cellAt (q - 1) (by omega)
        rw [ints_atR hmp, hy] at hc
        obtain ⟨yn, rfl⟩ := Int.eq_ofNat_of_zero_le hym.1
        obtain ⟨lb', lo', e, hly⟩ := (H.out.below (Nat.le_refl _) HBq.out).at (show yn < l.length by rw [HLN.out]; omega)
        injection e with e
        injection e with e1 e2
        subst e1 e2
        obtain ⟨Y, hY⟩ : ∃ Y, l.getD yn 0 = Y := ⟨_, rfl⟩
        rw [hY] at hly
        have hXY : ¬ X < Y := fun h => hgo ⟨h0, by
          rw [hy]
          show Mg.ltK (keyAt l) (k : Int) (yn : Int) = true
          unfold Mg.ltK keyAt
          rw [Int.toNat_natCast, Int.toNat_natCast, HX.out, hY]
          exact decide_eq_true h⟩
        have q1 : decide (X < Y) = false := decide_eq_false hXY
        have hyn : yn < n := by omega
        have q2 : decide (0 < (q : Int)) = true := decide_eq_true (by omega)
        clear hXY hy hY hym hmp
        have b1 : (q : Int) - 1 < (k : Int) := by omega
        have b2 : (0 : Int) ≤ (q : Int) - 1 := by omega
        have b3 : (yn : Int) < (n : Int) := by omega
        have t1 : ((q : Int) - 1).toNat = q - 1 := by omega
        have w1 : IntKind.i64.wrap ((q : Int) - 1) = (q : Int) - 1 := IntWalk.i64_in _ (by omega)
        go_wp2_with fail
        go_quiet (fail)
        have HO3 : Hid ((wr.drewN nq).ownsRow w.heap.size 3 1 (.slice (some ⟨g, 0, none⟩) k c') k (p.map (Value.int .i64))) := HOq.out
        have HB3 := Lib.hid (below_drewN HBq.out nq)
        clear hc hly q1 q2 b1 b2 b3 t1 w1 hyn
        generalize wr.drewN nq = w3 at HO3 HB3 ⊢
      all_goals
        clear HDR hgo HOq HBq HBo hli h0
        have hcap := (own_capR HO3.out).1
        have HI3 := Lib.hid (ints_of_own HO3.out)
        have hsz : w.heap.size ≤ w3.heap.size := HB3.out.size
        have hg3 : g < w3.heap.size := (HO3.out.lt g rfl).2
        obtain ⟨KK, k0, kn, ko, ki⟩ : ∃ KK : World → Prop, KK w3.drew ∧ (∀ W W', KK W → Below W.heap.size W W' → KK W') ∧ (∀ W, KK W → Below w3.heap.size w3 W) ∧ (∀ W, Below w3.heap.size w3 W → KK W) :=
          ⟨fun W => Below w3.heap.size w3 W, (Below.refl _ _).drew, fun W W' h hb => h.trans (hb.mono h.size), fun _ h => h, fun _ h => h⟩
        have SK := Lib.hid kn; have KO := Lib.hid ko; have KI := Lib.hid ki
        have HI := Lib.hid (fun W (h : KK W) => HI3.out.below (Nat.le_refl _) (ko W h))
        have e1 : (q : Int) ≤ (k : Int) := by omega
        have e2 : (k : Int) ≤ (c' : Int) := by omega
        have e3 : (q : Int) ≤ (c' : Int) := by omega
        have e4 : (0 : Int) ≤ (q : Int) := by omega
        have hl1 : ((p.take q).map (Value.int .i64)).length = q * 1 := by have := HP.out; simp; omega
        have hl2 : ((p.drop q).map (Value.int .i64)).length = (k - q) * 1 := by have := HP.out; simp; omega
        have HL1 := Lib.hid hl1; have HL2 := Lib.hid hl2
        have hq10 : q ≤ 1000 := by omega
        have hk9 : k ≤ 1000 := by omega
        have HPL : Hid (p.take q ++ [(k : Int)] ++ p.drop q = (p.take q ++ (k : Int) :: p.drop q)) := by show _ = _; simp
        have OL1 : Hid ((w3.drew.alloc (.cells #[] 3)).ownsRow w3.heap.size 3 1 (.slice (some ⟨w3.heap.size, 0, none⟩) 0 0) 0 []) := own_lit (w := w3.drew) (e := 3) (size := 1) #[] 0 (by omega) rfl
        have OL1b : Hid ((w3.alloc (.cells #[] 3)).drew.ownsRow w3.heap.size 3 1 (.slice (some ⟨w3.heap.size, 0, none⟩) 0 0) 0 []) := own_lit (w := w3) (e := 3) (size := 1) #[] 0 (by omega) rfl
        have OL2 : Hid (((w3.drew.alloc (.cells #[] 3)).alloc (.cells #[.int .i64 k] 3)).ownsRow w3.heap.size 3 1 (.slice (some ⟨w3.heap.size, 0, none⟩) 0 0) 0 []) := OL1.out.alloc _
        have OL2b : Hid (((w3.alloc (.cells #[] 3)).alloc (.cells #[.int .i64 k] 3)).drew.ownsRow w3.heap.size 3 1 (.slice (some ⟨w3.heap.size, 0, none⟩) 0 0) 0 []) := OL1b.out.alloc _
        have OL3 : Hid (((w3.drew.alloc (.cells #[.int .i64 k] 3)).alloc (.cells #[] 3)).ownsRow w3.heap.size 3 1 (.slice (some ⟨w3.heap.size + 1, 0, none⟩) 0 0) 0 []) := by
          have := own_lit (w := w3.drew.alloc (.cells #[.int .i64 k] 3)) (e := 3) (size := 1) #[] 0 (by omega) rfl
          rw [sizeR] at this
          exact own_mono this (Nat.le_succ _)
        have OL3b : Hid (((w3.alloc (.cells #[.int .i64 k] 3)).alloc (.cells #[] 3)).drew.ownsRow w3.heap.size 3 1 (.slice (some ⟨w3.heap.size + 1, 0, none⟩) 0 0) 0 []) := OL3.out
        have LT2 : Hid (((w3.drew.alloc (.cells #[] 3)).alloc (.cells #[.int .i64 k] 3)).heap[w3.heap.size + 1]? = some (.cells #[.int .i64 k] 3 (0, 0))) := by
          show _ = _
          have := block_new (w3.drew.alloc (.cells #[] 3)) (.cells #[.int .i64 k] 3)
          rw [sizeR] at this
          exact this
        have LT3 : Hid (((w3.drew.alloc (.cells #[.int .i64 k] 3)).alloc (.cells #[] 3)).heap[w3.heap.size]? = some (.cells #[.int .i64 k] 3 (0, 0))) :=
          (Below.heap_alloc _ _ _ (by simp)).trans (block_new w3.drew (.cells #[.int .i64 k] 3))
        clear kn ko ki hl1 hl2
        by_cases hce : c' = q
        case neg =>
          have hce2 : ¬ q = c' := fun h => hce h.symm
          go_wp2_with fail
          go_region_held3 (fun w' => KK w') (first | exact SK.out _ _ (by assumption) (by first | exact (Below.refl _ _).alloc (Nat.le_refl _) _ | exact (Below.refl _ _).drew) | assumption)
            (first
              | (refine step_appX slInt (by rfl) _ _ (by rfl) w3.heap.size (.slice (some ⟨w3.heap.size, 0, none⟩) 0 0) 0 [] _ q _ ((p.take q).map (Value.int .i64)) (by rfl) (by first | exact OL1.out | exact OL1b.out) (by rfl) HL1.out (ints_news (ints_takeR (HI.out _ (by assumption)) q)) ints_oneR (by omega) (KO.out _ (by assumption)).size ?_
                 intro v22 w22 ho22 hg22 ht22; have HB22 := Lib.hid (below_app (KO.out _ (by assumption)) (KO.out _ (by assumption)).size (by first | exact OL1.out | exact OL1b.out) (Nat.le_refl _) hg22); have hKK := KI.out _ HB22.out; have HO22 := Lib.hid ho22; clear ho22 hg22 ht22)
              | (refine step_appX slInt (by rfl) _ _ (by rfl) w3.heap.size (.slice (some ⟨w3.heap.size, 0, none⟩) 0 0) 0 [] _ q _ ((p.take q).map (Value.int .i64)) (by rfl) (by first | exact OL2.out | exact OL2b.out) (by rfl) HL1.out (ints_news (ints_takeR (HI.out _ (by assumption)) q)) ints_oneR (by omega) (KO.out _ (by assumption)).size ?_
                 intro v22 w22 ho22 hg22 ht22; have HB22 := Lib.hid (below_app (KO.out _ (by assumption)) (KO.out _ (by assumption)).size (by first | exact OL2.out | exact OL2b.out) (Nat.le_refl _) hg22); have hKK := KI.out _ HB22.out; have HO22 := Lib.hid ho22
                 have HLIT : Hid (w22.heap[w3.heap.size + 1]? = some (.cells #[.int .i64 k] 3 (0, 0))) := block_row LT2.out hg22 (fun e => by simp [Value.ownBlock] at e)
                 clear ho22 hg22 ht22)
              | (refine step_appX slInt (by rfl) _ _ (by rfl) w3.heap.size (.slice (some ⟨w3.heap.size + 1, 0, none⟩) 0 0) 0 [] _ q _ ((p.take q).map (Value.int .i64)) (by rfl) (by first | exact OL3.out | exact OL3b.out) (by rfl) HL1.out (ints_news (ints_takeR (HI.out _ (by assumption)) q)) ints_oneR (by omega) (KO.out _ (by assumption)).size ?_
                 intro v22 w22 ho22 hg22 ht22; have HB22 := Lib.hid (below_app (KO.out _ (by assumption)) (KO.out _ (by assumption)).size (by first | exact OL3.out | exact OL3b.out) (Nat.le_refl _) hg22); have hKK := KI.out _ HB22.out; have HO22 := Lib.hid ho22
                 have HLIT : Hid (w22.heap[w3.heap.size]? = some (.cells #[.int .i64 k] 3 (0, 0))) := block_row LT3.out hg22 (fun e => by simp [Value.ownBlock] at e)
                 clear ho22 hg22 ht22)
              | (refine step_appX slInt (by rfl) _ _ (by rfl) w3.heap.size v22 (0 + q) ([] ++ (p.take q).map (Value.int .i64)) _ 1 _ [.int .i64 k] (by rfl) (by first | exact HO22.out | exact HO22.out.alloc _) (by rfl) rfl (by
                   intro j u hu
                   first
                   | exact cells_new _ [.int .i64 k] _ j u hu
                   | (rw [addr_add_zero, row_cell HLIT.out j]; simpa using hu)) (by simp [Value.oneCell']) (by omega) (KO.out _ (by assumption)).size ?_
                 intro v25 w25 ho25 hg25 ht25; have HB25 := Lib.hid (below_app (KO.out _ (by assumption)) (KO.out _ (by assumption)).size (by first | exact HO22.out | exact HO22.out.alloc _) (Nat.le_refl _) hg25); have hKK2 := KI.out _ HB25.out; have HO25 := Lib.hid ho25; clear ho25 hg25 ht25)
              | (refine step_appX slInt (by rfl) _ _ (by rfl) w3.heap.size v25 (0 + q + 1) ([] ++ (p.take q).map (Value.int .i64) ++ [.int .i64 k]) _ (k - q) _ ((p.drop q).map (Value.int .i64)) (by rfl) HO25.out (by rfl) HL2.out (ints_news (ints_dropR (HI.out _ (by assumption)) q)) ints_oneR (by omega) (KO.out _ (by assumption)).size ?_
                 intro v29 w29 ho29 hg29 ht29; have HB29 := Lib.hid (below_app (KO.out _ (by assumption)) (KO.out _ (by assumption)).size HO25.out (Nat.le_refl _) hg29); have hKK3 := KI.out _ HB29.out; have HO29 := Lib.hid ho29; clear ho29 hg29 ht29))
          all_goals
            have e9 : 0 + q + 1 + (k - q) = k + 1 := by omega
            have HO9 := HO29.out
            rw [e9] at HO9
            have HO9 := own_mono HO9 hsz
            obtain ⟨a9, c9, rfl⟩ := own_slice HO9
            obtain ⟨g9, rfl, hg9, _⟩ := own_cell HO9 (by omega)
            have HOF : Hid (w29.ownsRow w.heap.size 3 1 (.slice (some ⟨g9, 0, none⟩) (k + 1) c9) (k + 1) ((p.take q ++ [(k : Int)] ++ p.drop q).map (Value.int .i64))) := by
              show World.ownsRow _ _ _ _ _ _ _
              simpa [List.map_append] using HO9
            have HLE : Hid ((p.take q ++ [(k : Int)] ++ p.drop q).length = k + 1) := by show _ = _; have := HP.out; first | (simp; done) | (simp; omega)
            have HDF := Lib.hid (HB3.out.trans (HB29.out.mono HB3.out.size))
            clear HO9 HO29
            go_wp2
            go_roundw
            case rel => exact ⟨k + 1, p.take q ++ [(k : Int)] ++ p.drop q, by go_num, by omega, HLE.out, HNX, HOF.out, ⟨g9, rfl⟩, HDF.out⟩
            case measure => simp [intOf] <;> omega
        · obtain rfl : q = k := by omega
          have HDN : Hid (p.drop q = []) := by show _ = _; exact List.drop_eq_nil_of_le (by have := HP.out; omega)
          subst hce
          have hcc : (c' : Int) ≤ (c' : Int) := by omega
          rcases Nat.eq_zero_or_pos c' with h00 | h00
          · have HC0 := Lib.hid h00
            subst h00
            go_wp2_with fail
            go_region_held3 (fun w' => KK w') (first | exact SK.out _ _ (by assumption) (by first | exact (Below.refl _ _).alloc (Nat.le_refl _) _ | exact (Below.refl _ _).drew) | assumption)
              (first
                | (refine step_appX slInt (by rfl) _ _ (by rfl) w3.heap.size (.slice (some ⟨w3.heap.size, 0, none⟩) 0 0) 0 [] _ 0 _ ((p.take 0).map (Value.int .i64)) (by rfl) (by first | exact OL1.out | exact OL1b.out) (by rfl) HL1.out (ints_news (ints_takeR (HI.out _ (by assumption)) 0)) ints_oneR (by omega) (KO.out _ (by assumption)).size ?_
                   intro v22 w22 ho22 hg22 ht22; have HB22 := Lib.hid (below_app (KO.out _ (by assumption)) (KO.out _ (by assumption)).size (by first | exact OL1.out | exact OL1b.out) (Nat.le_refl _) hg22); have hKK := KI.out _ HB22.out; have HO22 := Lib.hid ho22; clear ho22 hg22 ht22)
                | (refine step_appX slInt (by rfl) _ _ (by rfl) w3.heap.size (.slice (some ⟨w3.heap.size, 0, none⟩) 0 0) 0 [] _ 0 _ ((p.take 0).map (Value.int .i64)) (by rfl) (by first | exact OL2.out | exact OL2b.out) (by rfl) HL1.out (ints_news (ints_takeR (HI.out _ (by assumption)) 0)) ints_oneR (by omega) (KO.out _ (by assumption)).size ?_
                   intro v22 w22 ho22 hg22 ht22; have HB22 := Lib.hid (below_app (KO.out _ (by assumption)) (KO.out _ (by assumption)).size (by first | exact OL2.out | exact OL2b.out) (Nat.le_refl _) hg22); have hKK := KI.out _ HB22.out; have HO22 := Lib.hid ho22
                   have HLIT : Hid (w22.heap[w3.heap.size + 1]? = some (.cells #[.int .i64 0] 3 (0, 0))) := block_row LT2.out hg22 (fun e => by simp [Value.ownBlock] at e)
                   clear ho22 hg22 ht22)
                | (refine step_appX slInt (by rfl) _ _ (by rfl) w3.heap.size (.slice (some ⟨w3.heap.size + 1, 0, none⟩) 0 0) 0 [] _ 0 _ ((p.take 0).map (Value.int .i64)) (by rfl) (by first | exact OL3.out | exact OL3b.out) (by rfl) HL1.out (ints_news (ints_takeR (HI.out _ (by assumption)) 0)) ints_oneR (by omega) (KO.out _ (by assumption)).size ?_
                   intro v22 w22 ho22 hg22 ht22; have HB22 := Lib.hid (below_app (KO.out _ (by assumption)) (KO.out _ (by assumption)).size (by first | exact OL3.out | exact OL3b.out) (Nat.le_refl _) hg22); have hKK := KI.out _ HB22.out; have HO22 := Lib.hid ho22
                   have HLIT : Hid (w22.heap[w3.heap.size]? = some (.cells #[.int .i64 0] 3 (0, 0))) := block_row LT3.out hg22 (fun e => by simp [Value.ownBlock] at e)
                   clear ho22 hg22 ht22)
                | (refine step_appX slInt (by rfl) _ _ (by rfl) w3.heap.size v22 (0 + 0) ([] ++ (p.take 0).map (Value.int .i64)) _ 1 _ [.int .i64 0] (by rfl) (by first | exact HO22.out | exact HO22.out.alloc _) (by rfl) rfl (by
                     intro j u hu
                     first
                     | exact cells_new _ [.int .i64 0] _ j u hu
                     | (rw [addr_add_zero, row_cell HLIT.out j]; simpa using hu)) (by simp [Value.oneCell']) (by omega) (KO.out _ (by assumption)).size ?_
                   intro v25 w25 ho25 hg25 ht25; have HB25 := Lib.hid (below_app (KO.out _ (by assumption)) (KO.out _ (by assumption)).size (by first | exact HO22.out | exact HO22.out.alloc _) (Nat.le_refl _) hg25); have hKK2 := KI.out _ HB25.out; have HO25 := Lib.hid ho25; clear ho25 hg25 ht25)
                | (refine step_appX slInt (by rfl) _ _ (by rfl) w3.heap.size v25 (0 + 0 + 1) ([] ++ (p.take 0).map (Value.int .i64) ++ [.int .i64 0]) _ 0 _ [] (by rfl) HO25.out (by rfl) rfl (by intro j u hu; cases hu) (by intro u hu; cases hu) (by omega) (KO.out _ (by assumption)).size ?_
                   intro v29 w29 ho29 hg29 ht29; have HB29 := Lib.hid (below_app (KO.out _ (by assumption)) (KO.out _ (by assumption)).size HO25.out (Nat.le_refl _) hg29); have hKK3 := KI.out _ HB29.out; have HO29 := Lib.hid ho29; clear ho29 hg29 ht29))
            all_goals
              have e9 : 0 + 0 + 1 + 0 = 0 + 1 := by omega
              have HO9 := HO29.out
              rw [e9] at HO9
              have HO9 := own_mono HO9 hsz
              obtain ⟨a9, c9, rfl⟩ := own_slice HO9
              obtain ⟨g9, rfl, hg9, _⟩ := own_cell HO9 (by omega)
              have HOF : Hid (w29.ownsRow w.heap.size 3 1 (.slice (some ⟨g9, 0, none⟩) (0 + 1) c9) (0 + 1) ((p.take 0 ++ [((0 : Nat) : Int)]).map (Value.int .i64))) := by
                show World.ownsRow _ _ _ _ _ _ _
                simpa [List.map_append] using HO9
              have HLE : Hid ((p.take 0 ++ [((0 : Nat) : Int)]).length = 0 + 1) := by show _ = _; have := HP.out; first | (simp; done) | (simp; omega)
              have HDF := Lib.hid (HB3.out.trans (HB29.out.mono HB3.out.size))
              clear HO9 HO29
              go_wp2
              go_roundw
              case rel => exact ⟨0 + 1, p.take 0 ++ [((0 : Nat) : Int)], by go_num, by omega, HLE.out, Lib.hid (by have := HNX.out; rw [HDN.out, List.append_nil] at this; exact this), HOF.out, ⟨g9, rfl⟩, HDF.out⟩
              case measure => simp [intOf] <;> omega
          · have hc0 : ¬ c' = 0 := by omega
            go_wp2_with fail
            go_region_held3 (fun w' => KK w') (first | exact SK.out _ _ (by assumption) (by first | exact (Below.refl _ _).alloc (Nat.le_refl _) _ | exact (Below.refl _ _).drew) | assumption)
              (first
                | (refine step_appX slInt (by rfl) _ _ (by rfl) w3.heap.size (.slice (some ⟨w3.heap.size, 0, none⟩) 0 0) 0 [] _ c' _ ((p.take c').map (Value.int .i64)) (by rfl) (by first | exact OL1.out | exact OL1b.out) (by rfl) HL1.out (ints_news (ints_takeR (HI.out _ (by assumption)) c')) ints_oneR (by omega) (KO.out _ (by assumption)).size ?_
                   intro v22 w22 ho22 hg22 ht22; have HB22 := Lib.hid (below_app (KO.out _ (by assumption)) (KO.out _ (by assumption)).size (by first | exact OL1.out | exact OL1b.out) (Nat.le_refl _) hg22); have hKK := KI.out _ HB22.out; have HO22 := Lib.hid ho22; clear ho22 hg22 ht22)
                | (refine step_appX slInt (by rfl) _ _ (by rfl) w3.heap.size (.slice (some ⟨w3.heap.size, 0, none⟩) 0 0) 0 [] _ c' _ ((p.take c').map (Value.int .i64)) (by rfl) (by first | exact OL2.out | exact OL2b.out) (by rfl) HL1.out (ints_news (ints_takeR (HI.out _ (by assumption)) c')) ints_oneR (by omega) (KO.out _ (by assumption)).size ?_
                   intro v22 w22 ho22 hg22 ht22; have HB22 := Lib.hid (below_app (KO.out _ (by assumption)) (KO.out _ (by assumption)).size (by first | exact OL2.out | exact OL2b.out) (Nat.le_refl _) hg22); have hKK := KI.out _ HB22.out; have HO22 := Lib.hid ho22
                   have HLIT : Hid (w22.heap[w3.heap.size + 1]? = some (.cells #[.int .i64 c'] 3 (0, 0))) := block_row LT2.out hg22 (fun e => by simp [Value.ownBlock] at e)
                   clear ho22 hg22 ht22)
                | (refine step_appX slInt (by rfl) _ _ (by rfl) w3.heap.size (.slice (some ⟨w3.heap.size + 1, 0, none⟩) 0 0) 0 [] _ c' _ ((p.take c').map (Value.int .i64)) (by rfl) (by first | exact OL3.out | exact OL3b.out) (by rfl) HL1.out (ints_news (ints_takeR (HI.out _ (by assumption)) c')) ints_oneR (by omega) (KO.out _ (by assumption)).size ?_
                   intro v22 w22 ho22 hg22 ht22; have HB22 := Lib.hid (below_app (KO.out _ (by assumption)) (KO.out _ (by assumption)).size (by first | exact OL3.out | exact OL3b.out) (Nat.le_refl _) hg22); have hKK := KI.out _ HB22.out; have HO22 := Lib.hid ho22
                   have HLIT : Hid (w22.heap[w3.heap.size]? = some (.cells #[.int .i64 c'] 3 (0, 0))) := block_row LT3.out hg22 (fun e => by simp [Value.ownBlock] at e)
                   clear ho22 hg22 ht22)
                | (refine step_appX slInt (by rfl) _ _ (by rfl) w3.heap.size v22 (0 + c') ([] ++ (p.take c').map (Value.int .i64)) _ 1 _ [.int .i64 c'] (by rfl) (by first | exact HO22.out | exact HO22.out.alloc _) (by rfl) rfl (by
                     intro j u hu
                     first
                     | exact cells_new _ [.int .i64 c'] _ j u hu
                     | (rw [addr_add_zero, row_cell HLIT.out j]; simpa using hu)) (by simp [Value.oneCell']) (by omega) (KO.out _ (by assumption)).size ?_
                   intro v25 w25 ho25 hg25 ht25; have HB25 := Lib.hid (below_app (KO.out _ (by assumption)) (KO.out _ (by assumption)).size (by first | exact HO22.out | exact HO22.out.alloc _) (Nat.le_refl _) hg25); have hKK2 := KI.out _ HB25.out; have HO25 := Lib.hid ho25; clear ho25 hg25 ht25)
                | (refine step_appX slInt (by rfl) _ _ (by rfl) w3.heap.size v25 (0 + c' + 1) ([] ++ (p.take c').map (Value.int .i64) ++ [.int .i64 c']) _ 0 _ [] (by rfl) HO25.out (by rfl) rfl (by intro j u hu; cases hu) (by intro u hu; cases hu) (by omega) (KO.out _ (by assumption)).size ?_
                   intro v29 w29 ho29 hg29 ht29; have HB29 := Lib.hid (below_app (KO.out _ (by assumption)) (KO.out _ (by assumption)).size HO25.out (Nat.le_refl _) hg29); have hKK3 := KI.out _ HB29.out; have HO29 := Lib.hid ho29; clear ho29 hg29 ht29))
            all_goals
              have e9 : 0 + c' + 1 + 0 = c' + 1 := by omega
              have HO9 := HO29.out
              rw [e9] at HO9
              have HO9 := own_mono HO9 hsz
              obtain ⟨a9, c9, rfl⟩ := own_slice HO9
              obtain ⟨g9, rfl, hg9, _⟩ := own_cell HO9 (by omega)
              have HOF : Hid (w29.ownsRow w.heap.size 3 1 (.slice (some ⟨g9, 0, none⟩) (c' + 1) c9) (c' + 1) ((p.take c' ++ [(c' : Int)]).map (Value.int .i64))) := by
                show World.ownsRow _ _ _ _ _ _ _
                simpa [List.map_append] using HO9
              have HLE : Hid ((p.take c' ++ [(c' : Int)]).length = c' + 1) := by show _ = _; have := HP.out; first | (simp; done) | (simp; omega)
              have HDF := Lib.hid (HB3.out.trans (HB29.out.mono HB3.out.size))
              clear HO9 HO29
              go_wp2
              go_roundw
              case rel => exact ⟨c' + 1, p.take c' ++ [(c' : Int)], by go_num, by omega, HLE.out, Lib.hid (by have := HNX.out; rw [HDN.out, List.append_nil] at this; exact this), HOF.out, ⟨g9, rfl⟩, HDF.out⟩
              case measure => simp [intOf] <;> omega

end Go.Proofs.Ytkckmjajjdpodaa
