/- Several texts in one: lemmas and walks of the functions that the laws reach. -/
import Derived.Test.YtkckmjajjdpodaaY27
import Derived.Test.YtkckmjajjdpodaaY2
import Derived.Deep.RegionHeld3
import Derived.Test.YtkckmjajjdpodaaY5
import Derived.Test.YtkckmjajjdpodaaY1

/- Walks: the permutation that sorts a list stably, of both packages. -/
namespace Go.Proofs.Ytkckmjajjdpodaa
open Go.RowKit Go.Sort
set_option linter.unusedVariables false

theorem ints_dropR {w : World} {b : Nat} {p : List Int} (h : IntsAt w (some ⟨b, 0, none⟩) p) (i : Nat) : IntsAt w (some ⟨b, i, none⟩) (p.drop i) := by
  rcases h with rfl | ⟨b', off, e, h0, h1⟩
  · exact .inl (by simp)
  · injection e with e
    injection e with e1 e2 _
    subst e1; subst e2
    refine .inr ⟨b, i, rfl, h0, fun j hj => ?_⟩
    have := h1 (i + j) (by simp at hj; omega)
    rw [Nat.zero_add] at this
    rw [this]
    simp [List.getD]
theorem ints_oneR {l : List Int} : ∀ u ∈ l.map (Value.int .i64), u.oneCell' = true := by
  intro u hu
  obtain ⟨x, _, rfl⟩ := List.mem_map.1 hu
  rfl
theorem ints_takeR {w : World} {x : Addr} {p : List Int} (h : IntsAt w (some x) p) (i : Nat) : IntsAt w (some x) (p.take i) := by
  rcases h with rfl | ⟨b', off', e, h0, h1⟩
  · exact .inl (by simp)
  · refine .inr ⟨b', off', e, h0, fun j hj => ?_⟩
    have hj2 : j < i ∧ j < p.length := by simp at hj; omega
    rw [h1 j hj2.2]
    simp [List.getD, List.getElem?_take, hj2.1]
theorem own_capR {w : World} {base : Nat} {e : TypeId} {size g n c : Nat} {xs : List Value} (h : w.ownsRow base e size (.slice (some ⟨g, 0, none⟩) n c) n xs) : n ≤ c ∧ c ≤ 9223372036854775807 := by
  rcases h.2 with ⟨h2, _⟩ | ⟨g', cap, cur, hv, _, _, hn, hm, _⟩
  · injection h2 with h2 _ _; cases h2
  · injection hv with _ _ hv
    subst hv
    exact ⟨hn, by unfold maxLen at hm; omega⟩
theorem sizeR (w : World) (o : Obj) : (w.alloc o).heap.size = w.heap.size + 1 := by simp

theorem ints_atR {l : List Int} {k : Nat} (h : k < l.length) : (l.map (Value.int .i64))[k]? = some (.int .i64 (l.getD k 0)) := by
  rw [List.getElem?_map, List.getElem?_eq_getElem h, List.getD_eq_getElem?_getD, List.getElem?_eq_getElem h]; rfl
abbrev ltP (l : List Int) : Int → Int → Bool := Mg.ltK (keyAt l)

set_option maxRecDepth 100000 in
set_option maxHeartbeats 8000000 in
theorem l3Sorting_any (ax : Option Addr) (cc n : Nat) (l : List Int) (w : World) (hl : l.length = n) (hn : n ≤ 1000) (h : IntsAt w ax l) :
    Calls Try.prog 93 #[.slice ax n cc] w fun e w' => ∃ (a' : Option Addr) (c' : Nat), e = .returned (.slice a' n c') ∧ w'.ownsRow w.heap.size 3 1 (.slice a' n c') n ((sortP l).map (Value.int .i64)) ∧ Below w.heap.size w w' := by
  have H := Lib.hid h
  have HLN := Lib.hid hl
  have E1 := Lib.hid (own_lit (w := w) (e := 3) (size := 1) #[] 0 (by omega) rfl)
  have D1 := Lib.hid (show Below w.heap.size w (w.alloc (.cells #[] 3)) from (Below.refl w.heap.size w).alloc (Nat.le_refl _) (.cells #[] 3))
  clear h hl
  go_enter Try.func93, Try.ntmps93
  go_wp2
  go_loopw [3, 4] (fun v i wr => ∃ (k : Nat) (p : List Int), i = .int .i64 k ∧ k ≤ n ∧ p.length = k ∧ Hid (p = Mg.srt (ltP l) (upTo k)) ∧ wr.ownsRow w.heap.size 3 1 v k (p.map (Value.int .i64)) ∧ (∃ g, v.ownBlock = some g) ∧ Below w.heap.size w wr) (fun _ i _ => n - (intOf i).toNat)
  case atStart => exact ⟨0, [], rfl, by omega, rfl, Lib.hid rfl, E1.out, ⟨_, rfl⟩, D1.out⟩
  case round =>
    obtain ⟨k, p, rfl, hk, hp, HPS, hown, ⟨g0, hg0⟩, hb⟩ := hrel
    clear E1 D1
    have HO := Lib.hid hown; have HB := Lib.hid hb; have HP := Lib.hid hp
    clear hown hb hp
    obtain ⟨a', c', rfl⟩ := own_slice HO.out
    obtain ⟨g, hga, hg1, hg2⟩ := own_addr HO.out (by rw [hg0]; simp)
    subst hga
    clear hg0 g0
    by_cases hkn : k < n
    case neg =>
      obtain rfl : k = n := by omega
      have HPF : Hid (p = sortP l) := by show _ = _; rw [HPS.out]; unfold sortP; rw [HLN.out]
      rw [HPF.out] at HO
      have h3 : decide ((k : Int) < (k : Int)) = false := by simp
      go_wp2
      go_ret
      exact ⟨_, c', rfl, HO.out, HB.out⟩
    have h3 : decide ((k : Int) < (n : Int)) = true := decide_eq_true (by omega)
    have HMEM : Hid (∀ y ∈ p, 0 ≤ y ∧ y < (k : Int)) := fun y hy => upTo_mem (Mg.srt_mem.1 (HPS.out ▸ hy))
    obtain ⟨lb, lo, rfl, hli⟩ := (H.out.below (Nat.le_refl _) HB.out).at (show k < l.length by rw [HLN.out]; exact hkn)
    obtain ⟨X, hX⟩ : ∃ X, l.getD k 0 = X := ⟨_, rfl⟩
    rw [hX] at hli
    have HX := Lib.hid hX
    clear hX
    obtain ⟨wo, rfl⟩ : ∃ wo : World, wo = wr := ⟨_, rfl⟩
    go_wp2
    go_loopw [5] (fun v wq => ∃ q : Nat, v = .int .i64 q ∧ q ≤ k ∧ Hid (∀ b ∈ p.drop q, ltP l (k : Int) b = true) ∧ Below wo.heap.size wo wq) (fun v _ => (intOf v).toNat)
    case atStart => exact ⟨k, rfl, by omega, Lib.hid (by rw [List.drop_of_length_le (by have := HP.out; omega)]; simp), Below.refl _ _⟩
    case round =>
      obtain ⟨q, rfl, hq, HDR, hbq⟩ := hrel
      have HOq := Lib.hid (own_below HO.out (Nat.le_refl _) hbq)
      have HBq := Lib.hid (HB.out.trans (hbq.mono HB.out.size))
      have HBo := Lib.hid hbq
      have hli : wr.cell? ⟨lb, lo + k, none⟩ = some (.int .i64 X) := (hbq.cell (p := ⟨lb, lo + k, none⟩) (World.block_lt_of_cell? _ _ hli)).trans hli
      clear hbq
      by_cases hgo : 0 < q ∧ ltP l (k : Int) (p.getD (q - 1) 0) = true
      · obtain ⟨hq0, hlt⟩ := hgo
        obtain ⟨m, rfl⟩ : ∃ m, q = m + 1 := ⟨q - 1, by omega⟩
        rw [Nat.add_sub_cancel] at hlt
        have hmp : m < p.length := by have := HP.out; omega
        obtain ⟨y, hy⟩ : ∃ y, p.getD m 0 = y := ⟨_, rfl⟩
        have hym := HMEM.out y (by rw [← hy]; exact II.getD_memI hmp)
        have hc := HOq.out.cellAt m (by omega)
        rw [ints_atR hmp, hy] at hc
        rw [hy] at hlt
        obtain ⟨yn, rfl⟩ := Int.eq_ofNat_of_zero_le hym.1
        obtain ⟨lb', lo', e, hly⟩ := (H.out.below (Nat.le_refl _) HBq.out).at (show yn < l.length by rw [HLN.out]; omega)
        injection e with e
        injection e with e1 e2
        subst e1 e2
        obtain ⟨Y, hY⟩ : ∃ Y, l.getD yn 0 = Y := ⟨_, rfl⟩
        rw [hY] at hly
        have hXY : X < Y := by
          have := hlt
          unfold ltP Mg.ltK keyAt at this
          rw [Int.toNat_natCast, Int.toNat_natCast, HX.out, hY] at this
          simpa using this
        have q1 : decide (X < Y) = true := decide_eq_true hXY
        have HDR2 : Hid (∀ b ∈ p.drop m, ltP l (k : Int) b = true) := fun b hb => by
          rw [List.drop_eq_getElem_cons hmp] at hb
          rcases List.mem_cons.1 hb with rfl | hb
          · rw [List.getD_eq_getElem?_getD, List.getElem?_eq_getElem hmp] at hy
            have hy2 : p[m] = (yn : Int) := hy
            rw [hy2]; exact hlt
          · exact HDR.out b hb
        have hyn : yn < n := by omega
        have hcast : ((m + 1 : Nat) : Int) = (m : Int) + 1 := by omega
        have q2 : decide (0 < (m : Int) + 1) = true := decide_eq_true (by omega)
        clear hlt hXY hy hY hym hmp HDR
        rw [hcast]
        have b1 : (m : Int) < (k : Int) := by omega
        have b2 : (0 : Int) ≤ (m : Int) := by omega
        have b3 : (yn : Int) < (n : Int) := by omega
        have w1 : IntKind.i64.wrap (m : Int) = (m : Int) := IntWalk.i64_in _ (by omega)
        go_wp2_with fail
        go_quiet (fail)
        go_wp2
        go_roundw
        case rel => exact ⟨m, by go_num, by omega, HDR2, below_drewN HBo.out _⟩
        case measure => simp [intOf] <;> omega
      have HNX : Hid (p.take q ++ [(k : Int)] ++ p.drop q = Mg.srt (ltP l) (upTo (k + 1))) := by
        show _ = _
        have h1 := II.insL_end (R := []) (Mg.swK (keyAt l)) (l := upTo k) (x := (k : Int)) (k := q) (by rw [upTo_len]; exact hq) (by rw [← HPS.out]; exact HDR.out) (fun h0 => by
          rw [← HPS.out]
          cases hx : Mg.ltK (keyAt l) (k : Int) (p.getD (q - 1) 0) with
          | false => rfl
          | true => exact absurd ⟨h0, hx⟩ hgo)
        rw [← HPS.out, List.append_nil, ← upTo_succ] at h1
        have hb0 : Mg.insSt p (k : Int) q [] = p.take q ++ (k : Int) :: p.drop q := by unfold Mg.insSt; rw [List.append_nil]
        rw [hb0] at h1
        show p.take q ++ [(k : Int)] ++ p.drop q = _
        rw [List.append_assoc]
        exact h1
      rcases Nat.eq_zero_or_pos q with h0 | h0
      case' inl =>
        have q2 : decide (0 < (q : Int)) = false := decide_eq_false (by omega)
        go_wp2_with fail
        go_quiet (fail)
        have HO3 : Hid ((wr.drewN nq).ownsRow w.heap.size 3 1 (.slice (some ⟨g, 0, none⟩) k c') k (p.map (Value.int .i64))) := HOq.out
        have HB3 := Lib.hid (below_drewN HBq.out nq)
        generalize wr.drewN nq = w3 at HO3 HB3 ⊢
      case' inr =>
        have hmp : q - 1 < p.length := by have := HP.out; omega
        obtain ⟨y, hy⟩ : ∃ y, p.getD (q - 1) 0 = y := ⟨_, rfl⟩
        have hym := HMEM.out y (by rw [← hy]; exact II.getD_memI hmp)
        have hc := HOq.out.cellAt (q - 1) (by omega)
        rw [ints_atR hmp, hy] at hc
        obtain ⟨yn, rfl⟩ := Int.eq_ofNat_of_zero_le hym.1
        obtain ⟨lb', lo', e, hly⟩ := (H.out.below (Nat.le_refl _) HBq.out).at (show yn < l.length by rw [HLN.out]; omega)
        injection e with e
        injection e with e1 e2
        subst e1 e2
        obtain ⟨Y, hY⟩ : ∃ Y, l.getD yn 0 = Y := ⟨_, rfl⟩
        rw [hY] at hly
        have hXY : ¬ X < Y := fun h => hgo ⟨h0, by
          rw [hy]
          show Mg.ltK (keyAt l) (k : Int) (yn : Int) = true
          unfold Mg.ltK keyAt
          rw [Int.toNat_natCast, Int.toNat_natCast, HX.out, hY]
          exact decide_eq_true h⟩
        have q1 : decide (X < Y) = false := decide_eq_false hXY
        have hyn : yn < n := by omega
        have q2 : decide (0 < (q : Int)) = true := decide_eq_true (by omega)
        clear hXY hy hY hym hmp
        have b1 : (q : Int) - 1 < (k : Int) := by omega
        have b2 : (0 : Int) ≤ (q : Int) - 1 := by omega
        have b3 : (yn : Int) < (n : Int) := by omega
        have t1 : ((q : Int) - 1).toNat = q - 1 := by omega
        have w1 : IntKind.i64.wrap ((q : Int) - 1) = (q : Int) - 1 := IntWalk.i64_in _ (by omega)
        go_wp2_with fail
        go_quiet (fail)
        have HO3 : Hid ((wr.drewN nq).ownsRow w.heap.size 3 1 (.slice (some ⟨g, 0, none⟩) k c') k (p.map (Value.int .i64))) := HOq.out
        have HB3 := Lib.hid (below_drewN HBq.out nq)
        clear hc hly q1 q2 b1 b2 b3 t1 w1 hyn
        generalize wr.drewN nq = w3 at HO3 HB3 ⊢
      all_goals
        clear HDR hgo HOq HBq HBo hli h0
        have hcap := (own_capR HO3.out).1
        have HI3 := Lib.hid (ints_of_own HO3.out)
        have hsz : w.heap.size ≤ w3.heap.size := HB3.out.size
        have hg3 : g < w3.heap.size := (HO3.out.lt g rfl).2
        obtain ⟨KK, k0, kn, ko, ki⟩ : ∃ KK : World → Prop, KK w3.drew ∧ (∀ W W', KK W → Below W.heap.size W W' → KK W') ∧ (∀ W, KK W → Below w3.heap.size w3 W) ∧ (∀ W, Below w3.heap.size w3 W → KK W) :=
          ⟨fun W => Below w3.heap.size w3 W, (Below.refl _ _).drew, fun W W' h hb => h.trans (hb.mono h.size), fun _ h => h, fun _ h => h⟩
        have SK := Lib.hid kn; have KO := Lib.hid ko; have KI := Lib.hid ki
        have HI := Lib.hid (fun W (h : KK W) => HI3.out.below (Nat.le_refl _) (ko W h))
        have e1 : (q : Int) ≤ (k : Int) := by omega
        have e2 : (k : Int) ≤ (c' : Int) := by omega
        have e3 : (q : Int) ≤ (c' : Int) := by omega
        have e4 : (0 : Int) ≤ (q : Int) := by omega
        have hl1 : ((p.take q).map (Value.int .i64)).length = q * 1 := by have := HP.out; simp; omega
        have hl2 : ((p.drop q).map (Value.int .i64)).length = (k - q) * 1 := by have := HP.out; simp; omega
        have HL1 := Lib.hid hl1; have HL2 := Lib.hid hl2
        have hq10 : q ≤ 1000 := by omega
        have hk9 : k ≤ 1000 := by omega
        have HPL : Hid (p.take q ++ [(k : Int)] ++ p.drop q = (p.take q ++ (k : Int) :: p.drop q)) := by show _ = _; simp
        have OL1 : Hid ((w3.drew.alloc (.cells #[] 3)).ownsRow w3.heap.size 3 1 (.slice (some ⟨w3.heap.size, 0, none⟩) 0 0) 0 []) := own_lit (w := w3.drew) (e := 3) (size := 1) #[] 0 (by omega) rfl
        have OL1b : Hid ((w3.alloc (.cells #[] 3)).drew.ownsRow w3.heap.size 3 1 (.slice (some ⟨w3.heap.size, 0, none⟩) 0 0) 0 []) := own_lit (w := w3) (e := 3) (size := 1) #[] 0 (by omega) rfl
        have OL2 : Hid (((w3.drew.alloc (.cells #[] 3)).alloc (.cells #[.int .i64 k] 3)).ownsRow w3.heap.size 3 1 (.slice (some ⟨w3.heap.size, 0, none⟩) 0 0) 0 []) := OL1.out.alloc _
        have OL2b : Hid (((w3.alloc (.cells #[] 3)).alloc (.cells #[.int .i64 k] 3)).drew.ownsRow w3.heap.size 3 1 (.slice (some ⟨w3.heap.size, 0, none⟩) 0 0) 0 []) := OL1b.out.alloc _
        have OL3 : Hid (((w3.drew.alloc (.cells #[.int .i64 k] 3)).alloc (.cells #[] 3)).ownsRow w3.heap.size 3 1 (.slice (some ⟨w3.heap.size + 1, 0, none⟩) 0 0) 0 []) := by
          have := own_lit (w := w3.drew.alloc (.cells #[.int .i64 k] 3)) (e := 3) (size := 1) #[] 0 (by omega) rfl
          rw [sizeR] at this
          exact own_mono this (Nat.le_succ _)
        have OL3b : Hid (((w3.alloc (.cells #[.int .i64 k] 3)).alloc (.cells #[] 3)).drew.ownsRow w3.heap.size 3 1 (.slice (some ⟨w3.heap.size + 1, 0, none⟩) 0 0) 0 []) := OL3.out
        have LT2 : Hid (((w3.drew.alloc (.cells #[] 3)).alloc (.cells #[.int .i64 k] 3)).heap[w3.heap.size + 1]? = some (.cells #[.int .i64 k] 3 (0, 0))) := by
          show _ = _
          have := block_new (w3.drew.alloc (.cells #[] 3)) (.cells #[.int .i64 k] 3)
          rw [sizeR] at this
          exact this
        have LT3 : Hid (((w3.drew.alloc (.cells #[.int .i64 k] 3)).alloc (.cells #[] 3)).heap[w3.heap.size]? = some (.cells #[.int .i64 k] 3 (0, 0))) :=
          (Below.heap_alloc _ _ _ (by simp)).trans (block_new w3.drew (.cells #[.int .i64 k] 3))
        clear kn ko ki hl1 hl2
        by_cases hce : c' = q
        case neg =>
          have hce2 : ¬ q = c' := fun h => hce h.symm
          go_wp2_with fail
          go_region_held3 (fun w' => KK w') (first | exact SK.out _ _ (by assumption) (by first | exact (Below.refl _ _).alloc (Nat.le_refl _) _ | exact (Below.refl _ _).drew) | assumption)
            (first
              | (refine step_appX slInt (by rfl) _ _ (by rfl) w3.heap.size (.slice (some ⟨w3.heap.size, 0, none⟩) 0 0) 0 [] _ q _ ((p.take q).map (Value.int .i64)) (by rfl) (by first | exact OL1.out | exact OL1b.out) (by rfl) HL1.out (ints_news (ints_takeR (HI.out _ (by assumption)) q)) ints_oneR (by omega) (KO.out _ (by assumption)).size ?_
                 intro v22 w22 ho22 hg22 ht22; have HB22 := Lib.hid (below_app (KO.out _ (by assumption)) (KO.out _ (by assumption)).size (by first | exact OL1.out | exact OL1b.out) (Nat.le_refl _) hg22); have hKK := KI.out _ HB22.out; have HO22 := Lib.hid ho22; clear ho22 hg22 ht22)
              | (refine step_appX slInt (by rfl) _ _ (by rfl) w3.heap.size (.slice (some ⟨w3.heap.size, 0, none⟩) 0 0) 0 [] _ q _ ((p.take q).map (Value.int .i64)) (by rfl) (by first | exact OL2.out | exact OL2b.out) (by rfl) HL1.out (ints_news (ints_takeR (HI.out _ (by assumption)) q)) ints_oneR (by omega) (KO.out _ (by assumption)).size ?_
                 intro v22 w22 ho22 hg22 ht22; have HB22 := Lib.hid (below_app (KO.out _ (by assumption)) (KO.out _ (by assumption)).size (by first | exact OL2.out | exact OL2b.out) (Nat.le_refl _) hg22); have hKK := KI.out _ HB22.out; have HO22 := Lib.hid ho22
                 have HLIT : Hid (w22.heap[w3.heap.size + 1]? = some (.cells #[.int .i64 k] 3 (0, 0))) := block_row LT2.out hg22 (fun e => by simp [Value.ownBlock] at e)
                 clear ho22 hg22 ht22)
              | (refine step_appX slInt (by rfl) _ _ (by rfl) w3.heap.size (.slice (some ⟨w3.heap.size + 1, 0, none⟩) 0 0) 0 [] _ q _ ((p.take q).map (Value.int .i64)) (by rfl) (by first | exact OL3.out | exact OL3b.out) (by rfl) HL1.out (ints_news (ints_takeR (HI.out _ (by assumption)) q)) ints_oneR (by omega) (KO.out _ (by assumption)).size ?_
                 intro v22 w22 ho22 hg22 ht22; have HB22 := Lib.hid (below_app (KO.out _ (by assumption)) (KO.out _ (by assumption)).size (by first | exact OL3.out | exact OL3b.out) (Nat.le_refl _) hg22); have hKK := KI.out _ HB22.out; have HO22 := Lib.hid ho22
                 have HLIT : Hid (w22.heap[w3.heap.size]? = some (.cells #[.int .i64 k] 3 (0, 0))) := block_row LT3.out hg22 (fun e => by simp [Value.ownBlock] at e)
                 clear ho22 hg22 ht22)
              | (refine step_appX slInt (by rfl) _ _ (by rfl) w3.heap.size v22 (0 + q) ([] ++ (p.take q).map (Value.int .i64)) _ 1 _ [.int .i64 k] (by rfl) (by first | exact HO22.out | exact HO22.out.alloc _) (by rfl) rfl (by
                   intro j u hu
                   first
                   | exact cells_new _ [.int .i64 k] _ j u hu
                   | (rw [addr_add_zero, row_cell HLIT.out j]; simpa using hu)) (by simp [Value.oneCell']) (by omega) (KO.out _ (by assumption)).size ?_
                 intro v25 w25 ho25 hg25 ht25; have HB25 := Lib.hid (below_app (KO.out _ (by assumption)) (KO.out _ (by assumption)).size (by first | exact HO22.out | exact HO22.out.alloc _) (Nat.le_refl _) hg25); have hKK2 := KI.out _ HB25.out; have HO25 := Lib.hid ho25; clear ho25 hg25 ht25)
              | (refine step_appX slInt (by rfl) _ _ (by rfl) w3.heap.size v25 (0 + q + 1) ([] ++ (p.take q).map (Value.int .i64) ++ [.int .i64 k]) _ (k - q) _ ((p.drop q).map (Value.int .i64)) (by rfl) HO25.out (by rfl) HL2.out (ints_news (ints_dropR (HI.out _ (by assumption)) q)) ints_oneR (by omega) (KO.out _ (by assumption)).size ?_
                 intro v29 w29 ho29 hg29 ht29; have HB29 := Lib.hid (below_app (KO.out _ (by assumption)) (KO.out _ (by assumption)).size HO25.out (Nat.le_refl _) hg29); have hKK3 := KI.out _ HB29.out; have HO29 := Lib.hid ho29; clear ho29 hg29 ht29))
          all_goals
            have e9 : 0 + q + 1 + (k - q) = k + 1 := by omega
            have HO9 := HO29.out
            rw [e9] at HO9
            have HO9 := own_mono HO9 hsz
            obtain ⟨a9, c9, rfl⟩ := own_slice HO9
            obtain ⟨g9, rfl, hg9, _⟩ := own_cell HO9 (by omega)
            have HOF : Hid (w29.ownsRow w.heap.size 3 1 (.slice (some ⟨g9, 0, none⟩) (k + 1) c9) (k + 1) ((p.take q ++ [(k : Int)] ++ p.drop q).map (Value.int .i64))) := by
              show World.ownsRow _ _ _ _ _ _ _
              simpa [List.map_append] using HO9
            have HLE : Hid ((p.take q ++ [(k : Int)] ++ p.drop q).length = k + 1) := by show _ = _; have := HP.out; first | (simp; done) | (simp; omega)
            have HDF := Lib.hid (HB3.out.trans (HB29.out.mono HB3.out.size))
            clear HO9 HO29
            go_wp2
            go_roundw
            case rel => exact ⟨k + 1, p.take q ++ [(k : Int)] ++ p.drop q, by go_num, by omega, HLE.out, HNX, HOF.out, ⟨g9, rfl⟩, HDF.out⟩
            case measure => simp [intOf] <;> omega
        · obtain rfl : q = k := by omega
          have HDN : Hid (p.drop q = []) := by show _ = _; exact List.drop_eq_nil_of_le (by have := HP.out; omega)
          subst hce
          have hcc : (c' : Int) ≤ (c' : Int) := by omega
          rcases Nat.eq_zero_or_pos c' with h00 | h00
          · have HC0 := Lib.hid h00
            subst h00
            go_wp2_with fail
            go_region_held3 (fun w' => KK w') (first | exact SK.out _ _ (by assumption) (by first | exact (Below.refl _ _).alloc (Nat.le_refl _) _ | exact (Below.refl _ _).drew) | assumption)
              (first
                | (refine step_appX slInt (by rfl) _ _ (by rfl) w3.heap.size (.slice (some ⟨w3.heap.size, 0, none⟩) 0 0) 0 [] _ 0 _ ((p.take 0).map (Value.int .i64)) (by rfl) (by first | exact OL1.out | exact OL1b.out) (by rfl) HL1.out (ints_news (ints_takeR (HI.out _ (by assumption)) 0)) ints_oneR (by omega) (KO.out _ (by assumption)).size ?_
                   intro v22 w22 ho22 hg22 ht22; have HB22 := Lib.hid (below_app (KO.out _ (by assumption)) (KO.out _ (by assumption)).size (by first | exact OL1.out | exact OL1b.out) (Nat.le_refl _) hg22); have hKK := KI.out _ HB22.out; have HO22 := Lib.hid ho22; clear ho22 hg22 ht22)
                | (refine step_appX slInt (by rfl) _ _ (by rfl) w3.heap.size (.slice (some ⟨w3.heap.size, 0, none⟩) 0 0) 0 [] _ 0 _ ((p.take 0).map (Value.int .i64)) (by rfl) (by first | exact OL2.out | exact OL2b.out) (by rfl) HL1.out (ints_news (ints_takeR (HI.out _ (by assumption)) 0)) ints_oneR (by omega) (KO.out _ (by assumption)).size ?_
                   intro v22 w22 ho22 hg22 ht22; have HB22 := Lib.hid (below_app (KO.out _ (by assumption)) (KO.out _ (by assumption)).size (by first | exact OL2.out | exact OL2b.out) (Nat.le_refl _) hg22); have hKK := KI.out _ HB22.out; have HO22 := Lib.hid ho22
                   have HLIT : Hid (w22.heap[w3.heap.size + 1]? = some (.cells #[.int .i64 0] 3 (0, 0))) := block_row LT2.out hg22 (fun e => by simp [Value.ownBlock] at e)
                   clear ho22 hg22 ht22)
                | (refine step_appX slInt (by rfl) _ _ (by rfl) w3.heap.size (.slice (some ⟨w3.heap.size + 1, 0, none⟩) 0 0) 0 [] _ 0 _ ((p.take 0).map (Value.int .i64)) (by rfl) (by first | exact OL3.out | exact OL3b.out) (by rfl) HL1.out (ints_news (ints_takeR (HI.out _ (by assumption)) 0)) ints_oneR (by omega) (KO.out _ (by assumption)).size ?_
                   intro v22 w22 ho22 hg22 ht22; have HB22 := Lib.hid (below_app (KO.out _ (by assumption)) (KO.out _ (by assumption)).size (by first | exact OL3.out | exact OL3b.out) (Nat.le_refl _) hg22); have hKK := KI.out _ HB22.out; have HO22 := Lib.hid ho22
                   have HLIT : Hid (w22.heap[w3.heap.size]? = some (.cells #[.int .i64 0] 3 (0, 0))) := block_row LT3.out hg22 (fun e => by simp [Value.ownBlock] at e)
                   clear ho22 hg22 ht22)
                | (refine step_appX slInt (by rfl) _ _ (by rfl) w3.heap.size v22 (0 + 0) ([] ++ (p.take 0).map (Value.int .i64)) _ 1 _ [.int .i64 0] (by rfl) (by first | exact HO22.out | exact HO22.out.alloc _) (by rfl) rfl (by
                     intro j u hu
                     first
                     | exact cells_new _ [.int .i64 0] _ j u hu
                     | (rw [addr_add_zero, row_cell HLIT.out j]; simpa using hu)) (by simp [Value.oneCell']) (by omega) (KO.out _ (by assumption)).size ?_
                   intro v25 w25 ho25 hg25 ht25; have HB25 := Lib.hid (below_app (KO.out _ (by assumption)) (KO.out _ (by assumption)).size (by first | exact HO22.out | exact HO22.out.alloc _) (Nat.le_refl _) hg25); have hKK2 := KI.out _ HB25.out; have HO25 := Lib.hid ho25; clear ho25 hg25 ht25)
                | (refine step_appX slInt (by rfl) _ _ (by rfl) w3.heap.size v25 (0 + 0 + 1) ([] ++ (p.take 0).map (Value.int .i64) ++ [.int .i64 0]) _ 0 _ [] (by rfl) HO25.out (by rfl) rfl (by intro j u hu; cases hu) (by intro u hu; cases hu) (by omega) (KO.out _ (by assumption)).size ?_
                   intro v29 w29 ho29 hg29 ht29; have HB29 := Lib.hid (below_app (KO.out _ (by assumption)) (KO.out _ (by assumption)).size HO25.out (Nat.le_refl _) hg29); have hKK3 := KI.out _ HB29.out; have HO29 := Lib.hid ho29; clear ho29 hg29 ht29))
            all_goals
              have e9 : 0 + 0 + 1 + 0 = 0 + 1 := by omega
              have HO9 := HO29.out
              rw [e9] at HO9
              have HO9 := own_mono HO9 hsz
              obtain ⟨a9, c9, rfl⟩ := own_slice HO9
              obtain ⟨g9, rfl, hg9, _⟩ := own_cell HO9 (by omega)
              have HOF : Hid (w29.ownsRow w.heap.size 3 1 (.slice (some ⟨g9, 0, none⟩) (0 + 1) c9) (0 + 1) ((p.take 0 ++ [((0 : Nat) : Int)]).map (Value.int .i64))) := by
                show World.ownsRow _ _ _ _ _ _ _
                simpa [List.map_append] using HO9
              have HLE : Hid ((p.take 0 ++ [((0 : Nat) : Int)]).length = 0 + 1) := by show _ = _; have := HP.out; first | (simp; done) | (simp; omega)
              have HDF := Lib.hid (HB3.out.trans (HB29.out.mono HB3.out.size))
              clear HO9 HO29
              go_wp2
              go_roundw
              case rel => exact ⟨0 + 1, p.take 0 ++ [((0 : Nat) : Int)], by go_num, by omega, HLE.out, Lib.hid (by have := HNX.out; rw [HDN.out, List.append_nil] at this; exact this), HOF.out, ⟨g9, rfl⟩, HDF.out⟩
              case measure => simp [intOf] <;> omega
          · have hc0 : ¬ c' = 0 := by omega
            go_wp2_with fail
            go_region_held3 (fun w' => KK w') (first | exact SK.out _ _ (by assumption) (by first | exact (Below.refl _ _).alloc (Nat.le_refl _) _ | exact (Below.refl _ _).drew) | assumption)
              (first
                | (refine step_appX slInt (by rfl) _ _ (by rfl) w3.heap.size (.slice (some ⟨w3.heap.size, 0, none⟩) 0 0) 0 [] _ c' _ ((p.take c').map (Value.int .i64)) (by rfl) (by first | exact OL1.out | exact OL1b.out) (by rfl) HL1.out (ints_news (ints_takeR (HI.out _ (by assumption)) c')) ints_oneR (by omega) (KO.out _ (by assumption)).size ?_
                   intro v22 w22 ho22 hg22 ht22; have HB22 := Lib.hid (below_app (KO.out _ (by assumption)) (KO.out _ (by assumption)).size (by first | exact OL1.out | exact OL1b.out) (Nat.le_refl _) hg22); have hKK := KI.out _ HB22.out; have HO22 := Lib.hid ho22; clear ho22 hg22 ht22)
                | (refine step_appX slInt (by rfl) _ _ (by rfl) w3.heap.size (.slice (some ⟨w3.heap.size, 0, none⟩) 0 0) 0 [] _ c' _ ((p.take c').map (Value.int .i64)) (by rfl) (by first | exact OL2.out | exact OL2b.out) (by rfl) HL1.out (ints_news (ints_takeR (HI.out _ (by assumption)) c')) ints_oneR (by omega) (KO.out _ (by assumption)).size ?_
                   intro v22 w22 ho22 hg22 ht22; have HB22 := Lib.hid (below_app (KO.out _ (by assumption)) (KO.out _ (by assumption)).size (by first | exact OL2.out | exact OL2b.out) (Nat.le_refl _) hg22); have hKK := KI.out _ HB22.out; have HO22 := Lib.hid ho22
                   have HLIT : Hid (w22.heap[w3.heap.size + 1]? = some (.cells #[.int .i64 c'] 3 (0, 0))) := block_row LT2.out hg22 (fun e => by simp [Value.ownBlock] at e)
                   clear ho22 hg22 ht22)
                | (refine step_appX slInt (by rfl) _ _ (by rfl) w3.heap.size (.slice (some ⟨w3.heap.size + 1, 0, none⟩) 0 0) 0 [] _ c' _ ((p.take c').map (Value.int .i64)) (by rfl) (by first | exact OL3.out | exact OL3b.out) (by rfl) HL1.out (ints_news (ints_takeR (HI.out _ (by assumption)) c')) ints_oneR (by omega) (KO.out _ (by assumption)).size ?_
                   intro v22 w22 ho22 hg22 ht22; have HB22 := Lib.hid (below_app (KO.out _ (by assumption)) (KO.out _ (by assumption)).size (by first | exact OL3.out | exact OL3b.out) (Nat.le_refl _) hg22); have hKK := KI.out _ HB22.out; have HO22 := Lib.hid ho22
                   have HLIT : Hid (w22.heap[w3.heap.size]? = some (.cells #[.int .i64 c'] 3 (0, 0))) := block_row LT3.out hg22 (fun e => by simp [Value.ownBlock] at e)
                   clear ho22 hg22 ht22)
                | (refine step_appX slInt (by rfl) _ _ (by rfl) w3.heap.size v22 (0 + c') ([] ++ (p.take c').map (Value.int .i64)) _ 1 _ [.int .i64 c'] (by rfl) (by first | exact HO22.out | exact HO22.out.alloc _) (by rfl) rfl (by
                     intro j u hu
                     first
                     | exact cells_new _ [.int .i64 c'] _ j u hu
                     | (rw [addr_add_zero, row_cell HLIT.out j]; simpa using hu)) (by simp [Value.oneCell']) (by omega) (KO.out _ (by assumption)).size ?_
                   intro v25 w25 ho25 hg25 ht25; have HB25 := Lib.hid (below_app (KO.out _ (by assumption)) (KO.out _ (by assumption)).size (by first | exact HO22.out | exact HO22.out.alloc _) (Nat.le_refl _) hg25); have hKK2 := KI.out _ HB25.out; have HO25 := Lib.hid ho25; clear ho25 hg25 ht25)
                | (refine step_appX slInt (by rfl) _ _ (by rfl) w3.heap.size v25 (0 + c' + 1) ([] ++ (p.take c').map (Value.int .i64) ++ [.int .i64 c']) _ 0 _ [] (by rfl) HO25.out (by rfl) rfl (by intro j u hu; cases hu) (by intro u hu; cases hu) (by omega) (KO.out _ (by assumption)).size ?_
                   intro v29 w29 ho29 hg29 ht29; have HB29 := Lib.hid (below_app (KO.out _ (by assumption)) (KO.out _ (by assumption)).size HO25.out (Nat.le_refl _) hg29); have hKK3 := KI.out _ HB29.out; have HO29 := Lib.hid ho29; clear ho29 hg29 ht29))
            all_goals
              have e9 : 0 + c' + 1 + 0 = c' + 1 := by omega
              have HO9 := HO29.out
              rw [e9] at HO9
              have HO9 := own_mono HO9 hsz
              obtain ⟨a9, c9, rfl⟩ := own_slice HO9
              obtain ⟨g9, rfl, hg9, _⟩ := own_cell HO9 (by omega)
              have HOF : Hid (w29.ownsRow w.heap.size 3 1 (.slice (some ⟨g9, 0, none⟩) (c' + 1) c9) (c' + 1) ((p.take c' ++ [(c' : Int)]).map (Value.int .i64))) := by
                show World.ownsRow _ _ _ _ _ _ _
                simpa [List.map_append] using HO9
              have HLE : Hid ((p.take c' ++ [(c' : Int)]).length = c' + 1) := by show _ = _; have := HP.out; first | (simp; done) | (simp; omega)
              have HDF := Lib.hid (HB3.out.trans (HB29.out.mono HB3.out.size))
              clear HO9 HO29
              go_wp2
              go_roundw
              case rel => exact ⟨c' + 1, p.take c' ++ [(c' : Int)], by go_num, by omega, HLE.out, Lib.hid (by have := HNX.out; rw [HDN.out, List.append_nil] at this; exact this), HOF.out, ⟨g9, rfl⟩, HDF.out⟩
              case measure => simp [intOf] <;> omega

end Go.Proofs.Ytkckmjajjdpodaa

/- Walks: the keys of records, by both packages. -/
namespace Go.Proofs.Ytkckmjajjdpodaa
open Go.RowKit
set_option linter.unusedVariables false

def keysL (rs : List (Int × Int)) : List Int := rs.map Prod.fst
theorem keysL_succ {rs : List (Int × Int)} {k : Nat} (hk : k < rs.length) : keysL (rs.take (k + 1)) = keysL (rs.take k) ++ [(rs.getD k (0, 0)).1] := by
  unfold keysL
  rw [List.take_add_one, List.map_append]
  simp [List.getD, List.getElem?_eq_getElem hk]
theorem keysL_len (rs : List (Int × Int)) : (keysL rs).length = rs.length := by simp [keysL]

set_option maxRecDepth 100000 in
set_option maxHeartbeats 400000 in
theorem keysOf_any (a : Option Addr) (cap : Nat) (zs : List (Int × Int)) (w : World) (hlen : zs.length ≤ 1048576) (h : RecsAt w a zs) :
    Calls Try.prog 97 #[.slice a zs.length cap] w fun e w' => ∃ a' c', e = .returned (.slice a' (keysL zs).length c') ∧ w'.ownsRow w.heap.size 3 1 (.slice a' (keysL zs).length c') (keysL zs).length ((keysL zs).map (Value.int .i64)) ∧ Below w.heap.size w w' := by
  have H := Lib.hid h; clear h
  have e1 := own_lit (w := w) (e := 3) (size := 1) #[] 0 (by omega) rfl
  have E1 := Lib.hid e1; clear e1
  go_enter Try.func97, Try.ntmps97
  go_wp2
  go_loopw [3, 5, 9] (fun v _ i wr => ∃ k : Nat, k ≤ zs.length ∧ i = .int .i64 k ∧ wr.ownsRow w.heap.size 3 1 v (keysL (zs.take k)).length ((keysL (zs.take k)).map (Value.int .i64)) ∧ Below w.heap.size w wr) (fun _ _ i _ => zs.length - (intOf i).toNat)
  case atStart => exact ⟨0, by omega, rfl, E1.out, (Below.refl _ _).alloc (Nat.le_refl _) _⟩
  case round =>
    obtain ⟨k, hk, rfl, hown, hb⟩ := hrel
    clear E1
    by_cases hlt : k < zs.length
    · obtain ⟨b, off, rfl, hc1, hc2⟩ := (H.out.below (Nat.le_refl _) hb).at hlt
      have hs := keysL_succ hlt
      have hl : (keysL (zs.take k)).length = k := by rw [keysL_len]; simp; omega
      generalize hr : zs.getD k (0, 0) = r at hc1 hc2 hs
      have HS := Lib.hid hs; clear hs
      have HR := Lib.hid hr; clear hr
      obtain ⟨x, y⟩ := r
      have HO := Lib.hid hown; clear hown
      have HB := Lib.hid hb; clear hb
      have HL := Lib.hid hl
      have hn : (keysL (zs.take k)).length + 1 ≤ 1099511627776 := by omega
      have hbs := HB.out.size
      clear hl
      go_wp2_with (at_builtin; refine wpList_app1 slInt rfl (.tmp 13) (.tmp 16) rfl rfl (HO.out.alloc _) [.int .i64 x] rfl rfl (by simp) (by simp [Value.oneCell']) hn (by simp; omega) ?_; intro v' w1 hown' hg ht)
      have HO' := Lib.hid hown'
      have HB' := Lib.hid (below_app (HB.out.alloc hbs _) (by simp; omega) (HO.out.alloc _) (Nat.le_refl _) hg)
      clear hown' hg ht hbs hn
      go_roundw
      case rel =>
        refine ⟨k + 1, by omega, by go_num, ?_, HB'.out⟩
        rw [HS.out, List.length_append, List.map_append]
        exact HO'.out
      case measure => simp [intOf]; omega
    · rw [List.take_of_length_le (by omega)] at hown
      obtain ⟨a', c', rfl⟩ := own_slice hown
      have HO := Lib.hid hown; clear hown
      have HB := Lib.hid hb; clear hb
      go_wp2
      go_ret
      exact ⟨a', c', rfl, HO.out, HB.out⟩


set_option maxRecDepth 100000 in
set_option maxHeartbeats 400000 in
theorem l24Keys_any (a : Option Addr) (cap : Nat) (zs : List (Int × Int)) (w : World) (hlen : zs.length ≤ 1048576) (h : RecsAt w a zs) :
    Calls Try.prog 94 #[.slice a zs.length cap] w fun e w' => ∃ a' c', e = .returned (.slice a' (keysL zs).length c') ∧ w'.ownsRow w.heap.size 3 1 (.slice a' (keysL zs).length c') (keysL zs).length ((keysL zs).map (Value.int .i64)) ∧ Below w.heap.size w w' := by
  have H := Lib.hid h; clear h
  have e1 := own_lit (w := w) (e := 3) (size := 1) #[] 0 (by omega) rfl
  have E1 := Lib.hid e1; clear e1
  go_enter Try.func94, Try.ntmps94
  go_wp2
  go_loopw [3, 4] (fun v i wr => ∃ k : Nat, k ≤ zs.length ∧ i = .int .i64 k ∧ wr.ownsRow w.heap.size 3 1 v (keysL (zs.take k)).length ((keysL (zs.take k)).map (Value.int .i64)) ∧ Below w.heap.size w wr) (fun _ i _ => zs.length - (intOf i).toNat)
  case atStart => exact ⟨0, by omega, rfl, E1.out, (Below.refl _ _).alloc (Nat.le_refl _) _⟩
  case round =>
    obtain ⟨k, hk, rfl, hown, hb⟩ := hrel
    clear E1
    by_cases hlt : k < zs.length
    · obtain ⟨b, off, rfl, hc1, hc2⟩ := (H.out.below (Nat.le_refl _) hb).at hlt
      have hs := keysL_succ hlt
      have hl : (keysL (zs.take k)).length = k := by rw [keysL_len]; simp; omega
      generalize hr : zs.getD k (0, 0) = r at hc1 hc2 hs
      have HS := Lib.hid hs; clear hs
      have HR := Lib.hid hr; clear hr
      obtain ⟨x, y⟩ := r
      have HO := Lib.hid hown; clear hown
      have HB := Lib.hid hb; clear hb
      have hn : (keysL (zs.take k)).length + 1 ≤ 1099511627776 := by omega
      have hbs := HB.out.size
      have h3 : decide ((k : Int) < (zs.length : Int)) = true := by simp; omega
      clear hl
      go_wp2_with (at_builtin; refine wpList_app1 slInt rfl (.tmp 12) (.tmp 18) rfl rfl HO.out [.int .i64 x] rfl rfl (by simp) (by simp [Value.oneCell']) hn hbs ?_; intro v' w1 hown' hg ht)
      have HO' := Lib.hid hown'
      have HB' := Lib.hid (below_app HB.out hbs HO.out (Nat.le_refl _) hg)
      clear hown' hg ht hbs hn
      go_wp2
      go_roundw
      case rel =>
        refine ⟨k + 1, by omega, by go_num, ?_, HB'.out⟩
        rw [HS.out, List.length_append, List.map_append]
        exact HO'.out
      case measure => simp [intOf] <;> omega
    · rw [List.take_of_length_le (by omega)] at hown
      obtain ⟨a', c', rfl⟩ := own_slice hown
      have HO := Lib.hid hown; clear hown
      have HB := Lib.hid hb; clear hb
      go_wp2
      go_ret
      exact ⟨a', c', rfl, HO.out, HB.out⟩

end Go.Proofs.Ytkckmjajjdpodaa

/- Walks: sorting, CertifySort, of both packages. -/
namespace Go.Proofs.Ytkckmjajjdpodaa
open Go.RowKit Go.Sort
set_option linter.unusedVariables false

theorem IntsAt.grownR {w w' : World} {row : Option Nat} {a : Option Addr} {l : List Int} (h : IntsAt w a l) (hg : w.grownBy w' row) (hne : ∀ b off, a = some ⟨b, off, none⟩ → row ≠ some b) : IntsAt w' a l := by
  rcases h with h | ⟨b, off, e, h1, h2⟩
  · exact .inl h
  · refine .inr ⟨b, off, e, Nat.lt_of_lt_of_le h1 hg.size, fun j hj => ?_⟩
    have := hg.block b h1 (Ne.symm (hne b off e))
    rw [← h2 j hj]
    simp only [World.cell?, this]

/-- The closure of 'sorting' compares places. -/
theorem sort_is (pc g : Nat) (a : Option Addr) (c : Nat) (l : List Int) (hl : l.length ≤ 1000) (hpc : pc ≠ g) (ha : ∀ b off, a = some ⟨b, off, none⟩ → b ≠ g) :
    II.CmpIs (fun x => 0 ≤ x ∧ x < (l.length : Int)) (fun W => pc < W.heap.size ∧ SortI pc a c l W) g (ltP l) (.func (.func 154) #[] #[.pointer (some ⟨pc, 0, none⟩)]) := by
  refine ⟨fun w w' ⟨h0, h1, h2⟩ hg => ⟨Nat.lt_of_lt_of_le h0 hg.size, ?_, h2.grownR hg (fun b off e he => by injection he with he; exact ha b off e he.symm)⟩, 154, #[.pointer (some ⟨pc, 0, none⟩)], rfl, fun args w => by kernel_rfl, fun r s w hr hs ⟨_, hI⟩ => ?_⟩
  · have := hg.block pc h0 (by intro e; injection e with e; exact hpc e)
    rw [← h1]
    simp only [World.cell?, this]
  · exact sortCmp_any pc a c l r s w hl hr hs hI

set_option maxRecDepth 100000 in
set_option maxHeartbeats 4000000 in
theorem sorting_any (a : Option Addr) (cc n : Nat) (l : List Int) (w : World) (hl : l.length = n) (hn : n ≤ 1000) (ha : ∀ b off, a = some ⟨b, off, none⟩ → b < w.heap.size) (h : IntsAt w a l) :
    Calls Try.prog 96 #[.slice a n cc] w fun e w' => ∃ (g c' : Nat), e = .returned (.slice (some ⟨g, 0, none⟩) n c') ∧ w'.ownsRow w.heap.size 3 1 (.slice (some ⟨g, 0, none⟩) n c') n ((sortP l).map (Value.int .i64)) ∧ Below w.heap.size w w' := by
  have hbx : Below w.heap.size w (w.alloc (.cells #[.slice a n cc] 45)) := (Below.refl w.heap.size w).alloc (Nat.le_refl _) _
  have HBX := Lib.hid hbx
  have hcell : (w.alloc (.cells #[.slice a n cc] 45)).cell? ⟨w.heap.size, 0, none⟩ = some (.slice a n cc) := cells_new w [.slice a n cc] 45 0 _ rfl
  have HSI : Hid (SortI w.heap.size a cc l (w.alloc (.cells #[.slice a n cc] 45))) := ⟨by rw [hl]; exact hcell, h.below (Nat.le_refl _) hbx⟩
  have hsz : (w.alloc (.cells #[.slice a n cc] 45)).heap.size = w.heap.size + 1 := by simp
  have HA := Lib.hid ha
  have HLN := Lib.hid hl
  have E0 := Lib.hid (own_lit (w := w.alloc (.cells #[.slice a n cc] 45)) (e := 3) (size := 1) #[] 0 (by omega) rfl)
  have B0 := Lib.hid (show Below (w.heap.size + 1) (w.alloc (.cells #[.slice a n cc] 45)) ((w.alloc (.cells #[.slice a n cc] 45)).alloc (.cells #[] 3)) from (Below.refl _ _).alloc (by rw [hsz]; exact Nat.le_refl _) _)
  rw [hsz] at E0
  have HSZ := Lib.hid hsz
  clear h hl hsz ha hbx
  have c0 := hcell
  clear hcell
  go_enter Try.func96, Try.ntmps96
  go_wp2_with fail
  go_loopw [3, 8] (fun v i wr => ∃ k : Nat, i = .int .i64 k ∧ k ≤ n ∧ wr.ownsRow (w.heap.size + 1) 3 1 v k ((upTo k).map (Value.int .i64)) ∧ (∃ g, v.ownBlock = some g) ∧ Below (w.heap.size + 1) (w.alloc (.cells #[.slice a n cc] 45)) wr) (fun _ i _ => n - (intOf i).toNat)
  case atStart => exact ⟨0, rfl, by omega, by first | exact E0.out | simpa using E0.out, ⟨_, rfl⟩, B0.out⟩
  case round =>
    obtain ⟨k, rfl, hk, hown, ⟨g0, hg0⟩, hb⟩ := hrel
    have HO := Lib.hid hown; have HB := Lib.hid hb
    clear hown hb E0 B0
    obtain ⟨a', c', rfl⟩ := own_slice HO.out
    obtain ⟨g, hga, hg1, hg2⟩ := own_addr HO.out (by rw [hg0]; simp)
    subst hga
    clear hg0 g0
    have hbs := HB.out.size
    rw [HSZ.out] at hbs
    by_cases hlt : k < n
    · have q1 : decide ((k : Int) < (n : Int)) = true := decide_eq_true (by omega)
      have hn40 : k + 1 ≤ 1099511627776 := by omega
      go_wp2_with (at_builtin; refine wpList_app1 slInt rfl _ _ rfl rfl HO.out [.int .i64 k] rfl rfl (by simp) (by simp [Value.oneCell']) hn40 hbs ?_; intro v' w2 hown' hg ht)
      have HO4 := Lib.hid hown'
      have HB4 := Lib.hid (below_app HB.out hbs HO.out (Nat.le_refl _) hg)
      have HT4 : Hid (∃ q, v'.ownBlock = some q) := by
        rcases ht with h | h
        · exact ⟨g, h⟩
        · exact ⟨_, h⟩
      clear hown' hg ht
      go_roundw
      case rel => exact ⟨k + 1, by go_num, by omega, by rw [upTo_succ, List.map_append]; exact HO4.out, HT4.out, HB4.out⟩
      case measure => simp [intOf] <;> omega
    obtain rfl : k = n := by omega
    have q1 : decide ((k : Int) < (k : Int)) = false := by simp
    have hbw : Below w.heap.size w wr := HBX.out.trans (HB.out.mono (Nat.le_succ _))
    have HSW : Hid (w.heap.size < wr.heap.size ∧ SortI w.heap.size a cc l wr) := by
      refine ⟨by omega, (HB.out.cell (p := ⟨w.heap.size, 0, none⟩) (by simp)).trans HSI.out.1, ?_⟩
      exact HSI.out.2.below (by rw [HSZ.out]; exact Nat.le_refl _) HB.out
    have HIS := Lib.hid (sort_is w.heap.size g a cc l (by rw [HLN.out]; exact hn) (by omega) (fun b off e he => by have := HA.out b off e; omega))
    have HSS := Lib.hid (II.sortStable_any (Mg.swK (keyAt l)) (w.heap.size + 1) g c' k (upTo k) wr (upTo_len k) hn (fun y hy => by rw [HLN.out]; exact upTo_mem hy) HSW.out HIS.out (by rw [II.flat_map]; exact HO.out))
    have HBW := Lib.hid hbw
    clear hbw HIS HSW
    go_wp2_with fail
    refine HSS.out.mono ?_
    rintro e w5 ⟨rfl, ho, hg⟩
    rw [II.flat_map] at ho
    have HO5 := Lib.hid (own_mono ho (Nat.le_succ _))
    have HB5 := Lib.hid (HBW.out.grown hg HBW.out.size (fun q hq => by injection hq with hq; omega))
    have HSP : Hid (sortP l = Mg.srt (ltP l) (upTo k)) := by show _ = _; unfold sortP; rw [HLN.out]
    clear ho hg
    go_wp2
    go_ret
    exact ⟨g, c', rfl, by rw [HSP.out]; exact HO5.out, HB5.out⟩

/-- A list of ints of the call's own and a Bool, given back. -/
def CsEnd (w : World) (out : List Int) (ok : Bool) (e : Ending) (w' : World) : Prop :=
  ∃ (a : Option Addr) (c : Nat), e = .returned (.tuple #[.slice a out.length c, .bool ok]) ∧ w'.ownsRow w.heap.size 3 1 (.slice a out.length c) out.length (out.map (Value.int .i64)) ∧ Below w.heap.size w w'
def csAns (rs : List (Int × Int)) : List Int := if okRecs rs = true then sortP (keysL rs) else []
theorem csAns_le (rs : List (Int × Int)) : (csAns rs).length ≤ 64 := by
  unfold csAns
  split
  · rename_i h; rw [sortP_len, keysL_len]; exact okRecs_le h
  · simp
theorem own_nilE (w : World) (B : Nat) (e : TypeId) (s : Nat) : w.ownsRow B e s (.slice none 0 0) 0 [] := ⟨by simp, .inl ⟨rfl, rfl⟩⟩

set_option maxRecDepth 100000 in
set_option maxHeartbeats 2000000 in
theorem implCertifySort_any (a : Option Addr) (c : Nat) (rs : List (Int × Int)) (w : World) (hbig : rs.length ≤ 9223372036854775807) (h : RecsAt w a rs) :
    Calls Try.prog 30 #[.slice a rs.length c] w (CsEnd w (csAns rs) (okRecs rs)) := by
  have HV := Lib.hid (isValidRecords_any a c rs w hbig h)
  have H := Lib.hid h
  clear h
  unfold CsEnd csAns
  cases hok : okRecs rs
  · rw [hok] at HV
    go_enter Try.func30, Try.ntmps30
    go_wp2_with fail
    refine HV.out.mono ?_
    rintro e w1 ⟨rfl, hb⟩
    have HB := Lib.hid hb; clear hb
    go_wp2
    go_ret2
    exact ⟨none, 0, rfl, own_nilE _ _ _ _, HB.out⟩
  · rw [hok] at HV
    have hl := okRecs_le hok
    have HKL := Lib.hid (keysL_len rs)
    go_enter Try.func30, Try.ntmps30
    go_wp2_with fail
    refine HV.out.mono ?_
    rintro e w1 ⟨rfl, hb⟩
    have HB := Lib.hid hb; clear hb
    go_wp2_with fail
    refine (keysOf_any a c rs w1 (by omega) (H.out.below (Nat.le_refl _) HB.out)).mono ?_
    rintro e w2 ⟨a2, c2, rfl, ho, hb⟩
    have HO2 := Lib.hid ho
    have HB2 := Lib.hid (HB.out.trans (hb.mono HB.out.size)); clear ho hb
    go_wp2_with fail
    refine (sorting_any a2 c2 _ (keysL rs) w2 rfl (by rw [HKL.out]; omega) (fun b off e => (HO2.out.lt b (by rw [e]; rfl)).2) (ints_of_own HO2.out)).mono ?_
    rintro e w3 ⟨g, c3, rfl, ho, hb⟩
    have HO3 := Lib.hid (own_mono ho HB2.out.size)
    have HB3 := Lib.hid (HB2.out.trans (hb.mono HB2.out.size)); clear ho hb
    have HSL := Lib.hid (sortP_len (keysL rs))
    go_wp2
    go_ret2
    exact ⟨_, c3, by rw [HSL.out]; rfl, by rw [HSL.out]; exact HO3.out, HB3.out⟩

set_option maxRecDepth 100000 in
set_option maxHeartbeats 2000000 in
theorem specCertifySort_any (a : Option Addr) (c : Nat) (rs : List (Int × Int)) (w : World) (hbig : rs.length ≤ 9223372036854775807) (h : RecsAt w a rs) :
    Calls Try.prog 28 #[.slice a rs.length c] w (CsEnd w (csAns rs) (okRecs rs)) := by
  have HV := Lib.hid (l2Records_any a c rs w hbig h)
  have H := Lib.hid h
  clear h
  unfold CsEnd csAns
  cases hok : okRecs rs
  · rw [hok] at HV
    have E0 := Lib.hid (own_lit (w := w) (e := 3) (size := 1) #[] 0 (by omega) rfl)
    have HB := Lib.hid (show Below w.heap.size w (w.alloc (.cells #[] 3)) from (Below.refl _ _).alloc (Nat.le_refl _) _)
    go_enter Try.func28, Try.ntmps28
    go_wp2_with fail
    refine HV.out.mono ?_
    rintro e w1 ⟨rfl, rfl⟩
    go_wp2
    go_ret2
    exact ⟨some ⟨w.heap.size, 0, none⟩, 0, rfl, E0.out, HB.out⟩
  · rw [hok] at HV
    have hl := okRecs_le hok
    have HKL := Lib.hid (keysL_len rs)
    go_enter Try.func28, Try.ntmps28
    go_wp2_with fail
    refine HV.out.mono ?_
    rintro e w1 ⟨rfl, rfl⟩
    go_wp2_with fail
    refine (l24Keys_any a c rs w (by omega) H.out).mono ?_
    rintro e w2 ⟨a2, c2, rfl, ho, hb⟩
    have HO2 := Lib.hid ho
    have HB2 := Lib.hid hb; clear ho hb
    go_wp2_with fail
    refine (l3Sorting_any a2 c2 _ (keysL rs) w2 rfl (by rw [HKL.out]; omega) (ints_of_own HO2.out)).mono ?_
    rintro e w3 ⟨a3, c3, rfl, ho, hb⟩
    have HO3 := Lib.hid (own_mono ho HB2.out.size)
    have HB3 := Lib.hid (HB2.out.trans (hb.mono HB2.out.size)); clear ho hb
    have HSL := Lib.hid (sortP_len (keysL rs))
    go_wp2
    go_ret2
    exact ⟨a3, c3, by rw [HSL.out]; rfl, by rw [HSL.out]; exact HO3.out, HB3.out⟩

end Go.Proofs.Ytkckmjajjdpodaa

/- Walks: marks, comparisons and what is held, of ints and of records. -/
namespace Go.Proofs.Ytkckmjajjdpodaa
open Go.RowKit Go.Sort
set_option linter.unusedVariables false


set_option maxHeartbeats 400000 in
theorem markIntS_any (B : Nat) (a : Option Addr) (c n : Nat) (xs : List Value) (k : Int) (w : World) (hn : n ≤ 1048576) (hk0 : 0 ≤ k) (hk1 : k ≤ 1099511627776) (h : w.ownsRow B 3 1 (.slice a n c) n xs) :
    Calls Try.prog 34 #[.slice a n c, .int .i64 k] w fun e w' => e = .returned (.int .i64 (k + n)) ∧ (∃ ys, w'.ownsRow B 3 1 (.slice a n c) n ys) ∧ w.grownBy w' (Value.slice a n c).ownBlock := by
  have H := Lib.hid h; clear h
  go_enter Try.func34, Try.ntmps34
  go_wp2
  go_loopw [1, 5] (fun v i wr => ∃ j : Nat, j ≤ n ∧ i = .int .i64 j ∧ v = .int .i64 (k + j) ∧ (∃ ys, wr.ownsRow B 3 1 (.slice a n c) n ys) ∧ w.grownBy wr (Value.slice a n c).ownBlock) (fun _ i _ => n - (intOf i).toNat)
  case atStart => exact ⟨0, by omega, rfl, by simp, ⟨xs, H.out⟩, grown_refl _ _⟩
  case round =>
    obtain ⟨j, hj, rfl, rfl, ⟨ys, hown⟩, hg⟩ := hrel
    by_cases hlt : j < n
    · obtain ⟨g, rfl, _, _, hc⟩ := own_cell hown (by omega)
      have hq1 := hc j (by omega)
      obtain ⟨z, hc1⟩ : ∃ z, wr.cell? ⟨g, j, none⟩ = some z := ⟨_, by rw [hq1, List.getElem?_eq_getElem (by rw [hown.1]; omega)]⟩
      clear hq1
      have hf1 := hown.frozenAt j
      have HR := Lib.hid (hown.stored j (.int .i64 (k + j)))
      have HG := Lib.hid hg
      clear hc hown hg
      go_wp2
      go_roundw
      case rel => exact ⟨j + 1, by omega, by go_num, by go_num, ⟨_, HR.out.1⟩, grown_trans HG.out HR.out.2⟩
      case measure => simp [intOf]; omega
    · have e : j = n := by omega
      subst e
      have HO := Lib.hid hown
      have HG := Lib.hid hg
      clear hown hg
      go_wp2
      go_ret
      exact ⟨rfl, ⟨_, HO.out⟩, HG.out⟩

set_option maxHeartbeats 400000 in
theorem markRecordS_any (B : Nat) (a : Option Addr) (c : Nat) (rs : List (Int × Int)) (k : Int) (w : World) (hn : rs.length ≤ 1048576) (hk0 : 0 ≤ k) (hk1 : k ≤ 1099511627776) (h : w.ownsRow B 72 2 (.slice a rs.length c) rs.length (flat encR rs)) :
    Calls Try.prog 33 #[.slice a rs.length c, .int .i64 k] w fun e w' => e = .returned (.int .i64 (k + 2 * (rs.length : Int))) ∧ w'.ownsRow B 72 2 (.slice a rs.length c) rs.length (flat encR (mkR rs k rs.length)) ∧ w.grownBy w' (Value.slice a rs.length c).ownBlock := by
  have H := Lib.hid h; clear h
  go_enter Try.func33, Try.ntmps33
  go_wp2
  go_loopw [1, 5] (fun v i wr => ∃ j : Nat, j ≤ rs.length ∧ i = .int .i64 j ∧ v = .int .i64 (k + 2 * (j : Int)) ∧ wr.ownsRow B 72 2 (.slice a rs.length c) rs.length (flat encR (mkR rs k j)) ∧ w.grownBy wr (Value.slice a rs.length c).ownBlock) (fun _ i _ => rs.length - (intOf i).toNat)
  case atStart => exact ⟨0, by omega, rfl, by simp, by rw [mkR_zero]; exact H.out, grown_refl _ _⟩
  case round =>
    obtain ⟨j, hj, rfl, rfl, hown, hg⟩ := hrel
    by_cases hlt : j < rs.length
    · obtain ⟨g, rfl, _, _, hc⟩ := own_cell hown (by omega)
      have hL : (flat encR (mkR rs k j)).length = rs.length * 2 := by rw [flat_length encR_len, mkR_len]
      have hq1 := hc (j * 2) (by omega)
      obtain ⟨z, hc1⟩ : ∃ z, wr.cell? ⟨g, j * 2, none⟩ = some z := ⟨_, by rw [hq1, List.getElem?_eq_getElem (by omega)]⟩
      clear hq1
      have hf1 := hown.frozenAt (j * 2)
      have R1 := hown.stored (j * 2) (.int .i64 (k + 2 * (j : Int)))
      have hq2 := R1.1.cellAt (j * 2 + 1) (by omega)
      obtain ⟨z2, hc2⟩ : ∃ z2, (wr.setCell ⟨g, j * 2, none⟩ (.int .i64 (k + 2 * (j : Int)))).cell? ⟨g, j * 2 + 1, none⟩ = some z2 := ⟨_, by rw [hq2, List.getElem?_eq_getElem (by rw [List.length_set]; omega)]⟩
      clear hq2
      have hf2 := R1.1.frozenAt (j * 2 + 1)
      have R2 := R1.1.stored (j * 2 + 1) (.int .i64 (k + 2 * (j : Int) + 1))
      rw [flat_set2 encR_len _ j (by rw [mkR_len]; exact hlt) (k + 2 * (j : Int), k + 2 * (j : Int) + 1) _ _ rfl, mkR_succ hlt] at R2
      have HR := Lib.hid R2
      have HG := Lib.hid (grown_trans (grown_trans hg R1.2) R2.2)
      clear hc hown hg R1 R2 hL
      go_wp2
      go_roundw
      case rel => exact ⟨j + 1, by omega, by go_num, by go_num, HR.out.1, HG.out⟩
      case measure => simp [intOf]; omega
    · have e : j = rs.length := by omega
      subst e
      have HO := Lib.hid hown
      have HG := Lib.hid hg
      clear hown hg
      go_wp2
      go_ret
      exact ⟨rfl, HO.out, HG.out⟩

set_option maxHeartbeats 400000 in
theorem eqIntS_any (a a' : Option Addr) (cap cap' : Nat) (zs ys : List Int) (w : World) (hlen : zs.length ≤ 9223372036854775807) (hlen' : ys.length ≤ 9223372036854775807) (h : IntsAt w a zs) (h' : IntsAt w a' ys) :
    Calls Try.prog 31 #[.slice a zs.length cap, .slice a' ys.length cap'] w fun e w' => e = .returned (.bool (decide (zs = ys))) ∧ Below w.heap.size w w' := by
  have H := Lib.hid h; clear h
  have H' := Lib.hid h'; clear h'
  by_cases hl : zs.length = ys.length
  · have HL := Lib.hid hl
    have hne : ((zs.length : Int) != (ys.length : Int)) = false := by rw [hl]; simp
    clear hl
    go_enter Try.func31, Try.ntmps31
    go_wp2
    go_loopw [5] (fun i wr => ∃ k : Nat, k ≤ zs.length ∧ i = .int .i64 k ∧ (∀ j, j < k → zs.getD j 0 = ys.getD j 0) ∧ Below w.heap.size w wr) (fun i _ => zs.length - (intOf i).toNat)
    case atStart => exact ⟨0, by omega, rfl, by intro j h; omega, Below.refl _ _⟩
    case round =>
      obtain ⟨k, hk, rfl, hall, hb⟩ := hrel
      have HA := Lib.hid hall; clear hall
      have HB := Lib.hid hb; clear hb
      by_cases hlt : k < zs.length
      · obtain ⟨b, off, rfl, hc1⟩ := (H.out.below (Nat.le_refl _) HB.out).at hlt
        have hlt' : k < ys.length := by rw [← HL.out]; exact hlt
        obtain ⟨b', off', rfl, hc2⟩ := (H'.out.below (Nat.le_refl _) HB.out).at hlt'
        generalize hx : zs.getD k 0 = x at hc1
        generalize hy : ys.getD k 0 = y at hc2
        have HX := Lib.hid hx; clear hx
        have HY := Lib.hid hy; clear hy
        by_cases hxy : x = y
        · have hq : (x != y) = false := by rw [hxy]; simp
          have HQ := Lib.hid hxy; clear hxy
          go_wp2_with fail
          go_quiet (fail)
          go_wp2
          go_roundw
          case rel =>
            refine ⟨k + 1, by omega, by go_num, fun j hj => ?_, below_drewN HB.out _⟩
            rcases Nat.lt_succ_iff_lt_or_eq.1 hj with h | rfl
            · exact HA.out j h
            · rw [HX.out, HY.out, HQ.out]
          case measure => simp [intOf]; omega
        · have hq : (x != y) = true := by simpa using hxy
          have HQ := Lib.hid hxy; clear hxy
          go_wp2_with fail
          go_quiet (fail)
          go_wp2
          go_ret
          refine ⟨ret_bool ?_, below_drewN HB.out _⟩
          symm; apply decide_eq_false
          intro e
          exact HQ.out (by rw [← HX.out, ← HY.out, e])
      · go_wp2
        go_ret
        refine ⟨ret_bool ?_, HB.out⟩
        symm; apply decide_eq_true
        apply List.ext_getElem HL.out
        intro j h1 h2
        have := HA.out j (by omega)
        simpa [List.getD, h1, h2] using this
  · have hne : ((zs.length : Int) != (ys.length : Int)) = true := by simpa using (by omega : ¬ (zs.length : Int) = ys.length)
    have HL := Lib.hid hl; clear hl
    go_enter Try.func31, Try.ntmps31
    go_wp2
    go_ret
    refine ⟨ret_bool ?_, Below.refl _ _⟩
    symm; apply decide_eq_false
    intro e
    exact HL.out (by rw [e])

set_option maxHeartbeats 400000 in
theorem heldIntS_any (a : Option Addr) (c n : Nat) (xs : List Int) (k : Int) (w : World) (hn : n ≤ 1048576) (hk0 : 0 ≤ k) (hk1 : k ≤ 1099511627776) (hl : xs.length = n) (h : IntsAt w a xs) (hm : ∀ j, j < n → xs.getD j 0 = k + (j : Int)) :
    Calls Try.prog 35 #[.slice a n c, .int .i64 k] w fun e w' => e = .returned (.int .i64 (k + (n : Int))) ∧ w = w' := by
  have H := Lib.hid h; clear h
  have HM := Lib.hid hm; clear hm
  have HL := Lib.hid hl; clear hl
  go_enter Try.func35, Try.ntmps35
  go_wp2
  go_loop [1, 5] (fun v i => ∃ j : Nat, j ≤ n ∧ i = .int .i64 j ∧ v = .int .i64 (k + (j : Int))) (fun _ i => n - (intOf i).toNat)
  case atStart => exact ⟨0, by omega, rfl, by simp⟩
  case round =>
    obtain ⟨j, hj, rfl, rfl⟩ := hrel
    by_cases hlt : j < n
    · obtain ⟨b, off, rfl, hc1⟩ := H.out.at (show j < xs.length by rw [HL.out]; exact hlt)
      rw [HM.out j hlt] at hc1
      have q1 : ((k + (j : Int)) != (k + (j : Int))) = false := by simp
      go_wp2
      go_round
      case rel => exact ⟨j + 1, by omega, by go_num, by go_num⟩
      case measure => simp [intOf]; omega
    · have e : j = n := by omega
      subst e
      go_wp2
      go_ret
      exact ⟨rfl, rfl⟩

/-- Marked: what 'markIntS' leaves. -/
def mkI (n : Nat) (k : Int) (xs : List Int) (j : Nat) : List Int := (List.range n).map fun i : Nat => if i < j then k + (i : Int) else xs.getD i 0
theorem mkI_len (n : Nat) (k : Int) (xs : List Int) (j : Nat) : (mkI n k xs j).length = n := by simp [mkI]
theorem mkI_at {n j i : Nat} {k : Int} {xs : List Int} (h : i < n) : (mkI n k xs j).getD i 0 = if i < j then k + (i : Int) else xs.getD i 0 := by
  unfold mkI
  rw [List.getD_eq_getElem?_getD, List.getElem?_map, List.getElem?_range h]; rfl
theorem mkI_zero {n : Nat} {k : Int} {xs : List Int} (h : xs.length = n) : mkI n k xs 0 = xs := by
  refine List.ext_getElem (by rw [mkI_len, h]) fun i h1 h2 => ?_
  have := mkI_at (k := k) (xs := xs) (j := 0) (show i < n by rw [mkI_len] at h1; exact h1)
  rw [List.getD_eq_getElem?_getD, List.getElem?_eq_getElem h1, if_neg (by omega), List.getD_eq_getElem?_getD, List.getElem?_eq_getElem h2] at this
  exact this
theorem mkI_succ {n j : Nat} {k : Int} {xs : List Int} (h : j < n) : (mkI n k xs j).set j (k + (j : Int)) = mkI n k xs (j + 1) := by
  refine List.ext_getElem (by rw [List.length_set, mkI_len, mkI_len]) fun i h1 h2 => ?_
  have hi : i < n := by rw [mkI_len] at h2; exact h2
  have e1 := mkI_at (k := k) (xs := xs) (j := j) hi
  have e2 := mkI_at (k := k) (xs := xs) (j := j + 1) hi
  rw [List.getD_eq_getElem?_getD, List.getElem?_eq_getElem h2] at e2
  rw [List.getD_eq_getElem?_getD, List.getElem?_eq_getElem (by rw [mkI_len]; exact hi)] at e1
  rw [List.getElem_set]
  have e1 : (mkI n k xs j)[i]'(by rw [mkI_len]; exact hi) = _ := e1
  have e2 : (mkI n k xs (j + 1))[i] = _ := e2
  rw [e2]
  split
  · rename_i h; subst h; rw [if_pos (by omega)]
  · rw [e1]
    by_cases hij : i < j
    · rw [if_pos hij, if_pos (by omega)]
    · rw [if_neg hij, if_neg (by omega)]

set_option maxHeartbeats 400000 in
theorem markIntS_at (B : Nat) (a : Option Addr) (c n : Nat) (xs : List Int) (k : Int) (w : World) (hn : n ≤ 1048576) (hk0 : 0 ≤ k) (hk1 : k ≤ 1099511627776) (hl : xs.length = n) (h : w.ownsRow B 3 1 (.slice a n c) n (xs.map (Value.int .i64))) :
    Calls Try.prog 34 #[.slice a n c, .int .i64 k] w fun e w' => e = .returned (.int .i64 (k + n)) ∧ w'.ownsRow B 3 1 (.slice a n c) n ((mkI n k xs n).map (Value.int .i64)) ∧ w.grownBy w' (Value.slice a n c).ownBlock := by
  have HZ : Hid (mkI n k xs 0 = xs) := mkI_zero hl
  have HS := Lib.hid (fun j (hj : j < n) => mkI_succ (k := k) (xs := xs) hj)
  have HLN := Lib.hid (fun j => mkI_len n k xs j)
  rw [← HZ.out] at h
  have H := Lib.hid h; clear h
  go_enter Try.func34, Try.ntmps34
  go_wp2
  go_loopw [1, 5] (fun v i wr => ∃ j : Nat, j ≤ n ∧ i = .int .i64 j ∧ v = .int .i64 (k + j) ∧ wr.ownsRow B 3 1 (.slice a n c) n ((mkI n k xs j).map (Value.int .i64)) ∧ w.grownBy wr (Value.slice a n c).ownBlock) (fun _ i _ => n - (intOf i).toNat)
  case atStart => exact ⟨0, by omega, rfl, by simp, H.out, grown_refl _ _⟩
  case round =>
    obtain ⟨j, hj, rfl, rfl, hown, hg⟩ := hrel
    by_cases hlt : j < n
    · obtain ⟨g, rfl, _, _, hc⟩ := own_cell hown (by omega)
      have hq1 := hc j (by omega)
      obtain ⟨z, hc1⟩ : ∃ z, wr.cell? ⟨g, j, none⟩ = some z := ⟨_, by rw [hq1, List.getElem?_eq_getElem (by rw [hown.1]; omega)]⟩
      clear hq1
      have hf1 := hown.frozenAt j
      have hst := hown.stored j (.int .i64 (k + j))
      rw [← List.map_set, HS.out j hlt] at hst
      have HR := Lib.hid hst
      have HG := Lib.hid hg
      clear hc hown hg hst
      go_wp2
      go_roundw
      case rel => exact ⟨j + 1, by omega, by go_num, by go_num, HR.out.1, grown_trans HG.out HR.out.2⟩
      case measure => simp [intOf]; omega
    · have e : j = n := by omega
      subst e
      have HO := Lib.hid hown
      have HG := Lib.hid hg
      clear hown hg
      go_wp2
      go_ret
      exact ⟨rfl, HO.out, HG.out⟩

end Go.Proofs.Ytkckmjajjdpodaa
