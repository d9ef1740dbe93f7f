/- Several texts in one: lemmas and walks of the functions that the law reaches. -/
import Derived.Test.YtcncjedhpnaoaaaY14
import Derived.Test.YtcncjedhpnaoaaaY20
import Derived.Test.YtcncjedhpnaoaaaY21

namespace Go.Proofs.Ytcncjedhpnaoaaa
open Go.RowKit Go.Sort
set_option linter.unusedVariables false

theorem own_capH {w : World} {base : Nat} {e : TypeId} {size g n c : Nat} {xs : List Value} (h : w.ownsRow base e size (.slice (some ⟨g, 0, none⟩) n c) n xs) : n ≤ c ∧ c ≤ 9223372036854775807 := by
  rcases h.2 with ⟨h2, _⟩ | ⟨g', cap, cur, hv, _, _, hn, hm, _⟩
  · injection h2 with h2 _ _; cases h2
  · injection hv with _ _ hv
    subst hv
    exact ⟨hn, by unfold maxLen at hm; omega⟩

set_option maxRecDepth 100000 in
set_option maxHeartbeats 4000000 in
theorem permutationD_any (bc : Nat) (ac : Option Addr) (cs : List Int) (M : Int) (n : Nat) (w : World) (hn : n ≤ 10) (hM : M ≤ 1099511600000) (h : Cur w bc ac cs M) (hold : cs ≠ [] → ∀ b off, ac = some ⟨b, off, none⟩ → b < w.heap.size) :
    Calls Try.prog 33 #[.pointer (some ⟨bc, 0, none⟩), .int .i64 n] w fun e w' => ∃ (a' : Option Addr) (c' : Nat) (p : List Int), p.length = n ∧ e = .returned (.slice a' n c') ∧ w'.ownsRow w.heap.size 3 1 (.slice a' n c') n (p.map (Value.int .i64)) ∧ Drawn w w' bc ac cs (M + 2 * (n : Int)) := by
  have D0 : Hid (Drawn w w bc ac cs M) := ⟨h, grown_refl _ _, h.lt, hold⟩
  have E1 := Lib.hid (own_lit (w := w) (e := 3) (size := 1) #[] 0 (by omega) rfl)
  have D1 := Lib.hid (D0.out.below ((Below.refl w.heap.size w).alloc (Nat.le_refl _) (.cells #[] 3)))
  clear h hold D0
  go_enter Try.func33, Try.ntmps33
  go_wp2
  go_loopw [5, 6, 7] (fun v i _ wr => ∃ (k : Nat) (p : List Int), i = .int .i64 k ∧ k ≤ n ∧ p.length = k ∧ wr.ownsRow w.heap.size 3 1 v k (p.map (Value.int .i64)) ∧ (∃ g, v.ownBlock = some g) ∧ Drawn w wr bc ac cs (M + 2 * (k : Int))) (fun _ i _ _ => n - (intOf i).toNat)
  case atStart => exact ⟨0, [], rfl, by omega, rfl, E1.out, ⟨_, rfl⟩, D1.out.mono (by omega)⟩
  case round =>
    obtain ⟨k, p, rfl, hk, hp, hown, ⟨g0, hg0⟩, hD⟩ := hrel
    clear E1 D1
    have HO := Lib.hid hown; have HD := Lib.hid hD; have HP := Lib.hid hp
    clear hown hD hp
    obtain ⟨a', c', rfl⟩ := own_slice HO.out
    obtain ⟨g, hga, hg1, hg2⟩ := own_addr HO.out (by rw [hg0]; simp)
    subst hga
    clear hg0 g0
    by_cases hkn : k < n
    case neg =>
      obtain rfl : k = n := by omega
      have h3 : decide ((k : Int) < (k : Int)) = false := by simp
      go_wp2
      go_ret
      exact ⟨_, c', p, HP.out, rfl, HO.out, HD.out⟩
    have h3 : decide ((k : Int) < (n : Int)) = true := decide_eq_true (by omega)
    have hk10 : (k : Int) + 1 ≤ 60000 := by omega
    go_wp2_with fail
    refine (pick_any bc ac cs _ ((k : Int) + 1) _ ?h1 (by omega) HD.out.cur).mono ?_
    case h1 => omega
    rintro e w3 ⟨⟨r, rfl, hr0, hr1⟩, hc, hg⟩
    have HO3 := Lib.hid (HD.out.own HO.out (Nat.le_refl _) hg)
    have HD3 := Lib.hid (HD.out.step hc hg)
    clear hc hg HO HD
    obtain ⟨q, rfl⟩ := Int.eq_ofNat_of_zero_le hr0
    have hq : q ≤ k := by omega
    have hcap := (own_capH HO3.out).1
    have HI3 := Lib.hid (ints_of_own HO3.out)
    have hsz : w.heap.size ≤ w3.heap.size := HD3.out.grown.size
    have hg3 : g < w3.heap.size := (HO3.out.lt g rfl).2
    obtain ⟨KK, k0, kn, ko, ki⟩ : ∃ KK : World → Prop, KK w3.drew ∧ (∀ W W', KK W → Below W.heap.size W W' → KK W') ∧ (∀ W, KK W → Below w3.heap.size w3 W) ∧ (∀ W, Below w3.heap.size w3 W → KK W) :=
      ⟨fun W => Below w3.heap.size w3 W, (Below.refl _ _).drew, fun W W' h hb => h.trans (hb.mono h.size), fun _ h => h, fun _ h => h⟩
    have SK := Lib.hid kn; have KO := Lib.hid ko; have KI := Lib.hid ki
    have HI := Lib.hid (fun W (h : KK W) => HI3.out.below (Nat.le_refl _) (ko W h))
    have e1 : (q : Int) ≤ (k : Int) := by omega
    have e2 : (k : Int) ≤ (c' : Int) := by omega
    have e3 : (q : Int) ≤ (c' : Int) := by omega
    have e4 : (0 : Int) ≤ (q : Int) := by omega
    have hl1 : ((p.take q).map (Value.int .i64)).length = q * 1 := by have := HP.out; simp; omega
    have hl2 : ((p.drop q).map (Value.int .i64)).length = (k - q) * 1 := by have := HP.out; simp; omega
    have HL1 := Lib.hid hl1; have HL2 := Lib.hid hl2
    have hq10 : q ≤ 10 := by omega
    have hk9 : k ≤ 9 := by omega
    have HPL : Hid (p.take q ++ [(k : Int)] ++ p.drop q = (p.take q ++ (k : Int) :: p.drop q)) := by show _ = _; simp
    have OL1 : Hid ((w3.drew.alloc (.cells #[] 3)).ownsRow w3.heap.size 3 1 (.slice (some ⟨w3.heap.size, 0, none⟩) 0 0) 0 []) := own_lit (w := w3.drew) (e := 3) (size := 1) #[] 0 (by omega) rfl
    have OL1b : Hid ((w3.alloc (.cells #[] 3)).drew.ownsRow w3.heap.size 3 1 (.slice (some ⟨w3.heap.size, 0, none⟩) 0 0) 0 []) := own_lit (w := w3) (e := 3) (size := 1) #[] 0 (by omega) rfl
    have OL2 : Hid (((w3.drew.alloc (.cells #[] 3)).alloc (.cells #[.int .i64 k] 3)).ownsRow w3.heap.size 3 1 (.slice (some ⟨w3.heap.size, 0, none⟩) 0 0) 0 []) := OL1.out.alloc _
    have OL2b : Hid (((w3.alloc (.cells #[] 3)).alloc (.cells #[.int .i64 k] 3)).drew.ownsRow w3.heap.size 3 1 (.slice (some ⟨w3.heap.size, 0, none⟩) 0 0) 0 []) := OL1b.out.alloc _
    have OL3 : Hid (((w3.drew.alloc (.cells #[.int .i64 k] 3)).alloc (.cells #[] 3)).ownsRow w3.heap.size 3 1 (.slice (some ⟨w3.heap.size + 1, 0, none⟩) 0 0) 0 []) := by
      have := own_lit (w := w3.drew.alloc (.cells #[.int .i64 k] 3)) (e := 3) (size := 1) #[] 0 (by omega) rfl
      rw [size_al] at this
      exact own_mono this (Nat.le_succ _)
    have OL3b : Hid (((w3.alloc (.cells #[.int .i64 k] 3)).alloc (.cells #[] 3)).drew.ownsRow w3.heap.size 3 1 (.slice (some ⟨w3.heap.size + 1, 0, none⟩) 0 0) 0 []) := OL3.out
    have LT2 : Hid (((w3.drew.alloc (.cells #[] 3)).alloc (.cells #[.int .i64 k] 3)).heap[w3.heap.size + 1]? = some (.cells #[.int .i64 k] 3 (0, 0))) := by
      show _ = _
      have := block_new (w3.drew.alloc (.cells #[] 3)) (.cells #[.int .i64 k] 3)
      rw [size_al] at this
      exact this
    have LT3 : Hid (((w3.drew.alloc (.cells #[.int .i64 k] 3)).alloc (.cells #[] 3)).heap[w3.heap.size]? = some (.cells #[.int .i64 k] 3 (0, 0))) :=
      (Below.heap_alloc _ _ _ (by simp)).trans (block_new w3.drew (.cells #[.int .i64 k] 3))
    clear kn ko ki hl1 hl2 hr0 hr1
    by_cases hce : c' = q
    case neg =>
      have hce2 : ¬ q = c' := fun h => hce h.symm
      go_wp2_with fail
      go_region_held3 (fun w' => KK w') (first | exact SK.out _ _ (by assumption) (by first | exact (Below.refl _ _).alloc (Nat.le_refl _) _ | exact (Below.refl _ _).drew) | assumption)
        (first
          | (refine step_appX slInt (by rfl) _ _ (by rfl) w3.heap.size (.slice (some ⟨w3.heap.size, 0, none⟩) 0 0) 0 [] _ q _ ((p.take q).map (Value.int .i64)) (by rfl) (by first | exact OL1.out | exact OL1b.out) (by rfl) HL1.out (ints_news (ints_take (HI.out _ (by assumption)) q)) ints_one (by omega) (KO.out _ (by assumption)).size ?_
             intro v22 w22 ho22 hg22 ht22; have HB22 := Lib.hid (below_app (KO.out _ (by assumption)) (KO.out _ (by assumption)).size (by first | exact OL1.out | exact OL1b.out) (Nat.le_refl _) hg22); have hKK := KI.out _ HB22.out; have HO22 := Lib.hid ho22; clear ho22 hg22 ht22)
          | (refine step_appX slInt (by rfl) _ _ (by rfl) w3.heap.size (.slice (some ⟨w3.heap.size, 0, none⟩) 0 0) 0 [] _ q _ ((p.take q).map (Value.int .i64)) (by rfl) (by first | exact OL2.out | exact OL2b.out) (by rfl) HL1.out (ints_news (ints_take (HI.out _ (by assumption)) q)) ints_one (by omega) (KO.out _ (by assumption)).size ?_
             intro v22 w22 ho22 hg22 ht22; have HB22 := Lib.hid (below_app (KO.out _ (by assumption)) (KO.out _ (by assumption)).size (by first | exact OL2.out | exact OL2b.out) (Nat.le_refl _) hg22); have hKK := KI.out _ HB22.out; have HO22 := Lib.hid ho22
             have HLIT : Hid (w22.heap[w3.heap.size + 1]? = some (.cells #[.int .i64 k] 3 (0, 0))) := block_row LT2.out hg22 (fun e => by simp [Value.ownBlock] at e)
             clear ho22 hg22 ht22)
          | (refine step_appX slInt (by rfl) _ _ (by rfl) w3.heap.size (.slice (some ⟨w3.heap.size + 1, 0, none⟩) 0 0) 0 [] _ q _ ((p.take q).map (Value.int .i64)) (by rfl) (by first | exact OL3.out | exact OL3b.out) (by rfl) HL1.out (ints_news (ints_take (HI.out _ (by assumption)) q)) ints_one (by omega) (KO.out _ (by assumption)).size ?_
             intro v22 w22 ho22 hg22 ht22; have HB22 := Lib.hid (below_app (KO.out _ (by assumption)) (KO.out _ (by assumption)).size (by first | exact OL3.out | exact OL3b.out) (Nat.le_refl _) hg22); have hKK := KI.out _ HB22.out; have HO22 := Lib.hid ho22
             have HLIT : Hid (w22.heap[w3.heap.size]? = some (.cells #[.int .i64 k] 3 (0, 0))) := block_row LT3.out hg22 (fun e => by simp [Value.ownBlock] at e)
             clear ho22 hg22 ht22)
          | (refine step_appX slInt (by rfl) _ _ (by rfl) w3.heap.size v22 (0 + q) ([] ++ (p.take q).map (Value.int .i64)) _ 1 _ [.int .i64 k] (by rfl) (by first | exact HO22.out | exact HO22.out.alloc _) (by rfl) rfl (by
               intro j u hu
               first
               | exact cells_new _ [.int .i64 k] _ j u hu
               | (rw [addr_add_zero, row_cell HLIT.out j]; simpa using hu)) (by simp [Value.oneCell']) (by omega) (KO.out _ (by assumption)).size ?_
             intro v25 w25 ho25 hg25 ht25; have HB25 := Lib.hid (below_app (KO.out _ (by assumption)) (KO.out _ (by assumption)).size (by first | exact HO22.out | exact HO22.out.alloc _) (Nat.le_refl _) hg25); have hKK2 := KI.out _ HB25.out; have HO25 := Lib.hid ho25; clear ho25 hg25 ht25)
          | (refine step_appX slInt (by rfl) _ _ (by rfl) w3.heap.size v25 (0 + q + 1) ([] ++ (p.take q).map (Value.int .i64) ++ [.int .i64 k]) _ (k - q) _ ((p.drop q).map (Value.int .i64)) (by rfl) HO25.out (by rfl) HL2.out (ints_news (ints_drop0 (HI.out _ (by assumption)) q)) ints_one (by omega) (KO.out _ (by assumption)).size ?_
             intro v29 w29 ho29 hg29 ht29; have HB29 := Lib.hid (below_app (KO.out _ (by assumption)) (KO.out _ (by assumption)).size HO25.out (Nat.le_refl _) hg29); have hKK3 := KI.out _ HB29.out; have HO29 := Lib.hid ho29; clear ho29 hg29 ht29))
      all_goals
        have e9 : 0 + q + 1 + (k - q) = k + 1 := by omega
        have HO9 := HO29.out
        rw [e9] at HO9
        have HO9 := own_mono HO9 hsz
        obtain ⟨a9, c9, rfl⟩ := own_slice HO9
        obtain ⟨g9, rfl, hg9, _⟩ := own_cell HO9 (by omega)
        have HOF : Hid (w29.ownsRow w.heap.size 3 1 (.slice (some ⟨g9, 0, none⟩) (k + 1) c9) (k + 1) ((p.take q ++ [(k : Int)] ++ p.drop q).map (Value.int .i64))) := by
          show World.ownsRow _ _ _ _ _ _ _
          simpa [List.map_append] using HO9
        have HLE : Hid ((p.take q ++ [(k : Int)] ++ p.drop q).length = k + 1) := by show _ = _; have := HP.out; first | (simp; done) | (simp; omega)
        have HDF := Lib.hid (HD3.out.below HB29.out)
        clear HO9 HO29
        go_wp2
        go_roundw
        case rel => exact ⟨k + 1, p.take q ++ [(k : Int)] ++ p.drop q, by go_num, by omega, HLE.out, HOF.out, ⟨g9, rfl⟩, HDF.out.mono (by omega)⟩
        case measure => simp [intOf] <;> omega
    · obtain rfl : q = k := by omega
      have HDN : Hid (p.drop q = []) := by show _ = _; exact List.drop_eq_nil_of_le (by have := HP.out; omega)
      subst hce
      have hcc : (c' : Int) ≤ (c' : Int) := by omega
      rcases Nat.eq_zero_or_pos c' with h00 | h00
      · have HC0 := Lib.hid h00
        subst h00
        go_wp2_with fail
        go_region_held3 (fun w' => KK w') (first | exact SK.out _ _ (by assumption) (by first | exact (Below.refl _ _).alloc (Nat.le_refl _) _ | exact (Below.refl _ _).drew) | assumption)
          (first
            | (refine step_appX slInt (by rfl) _ _ (by rfl) w3.heap.size (.slice (some ⟨w3.heap.size, 0, none⟩) 0 0) 0 [] _ 0 _ ((p.take 0).map (Value.int .i64)) (by rfl) (by first | exact OL1.out | exact OL1b.out) (by rfl) HL1.out (ints_news (ints_take (HI.out _ (by assumption)) 0)) ints_one (by omega) (KO.out _ (by assumption)).size ?_
               intro v22 w22 ho22 hg22 ht22; have HB22 := Lib.hid (below_app (KO.out _ (by assumption)) (KO.out _ (by assumption)).size (by first | exact OL1.out | exact OL1b.out) (Nat.le_refl _) hg22); have hKK := KI.out _ HB22.out; have HO22 := Lib.hid ho22; clear ho22 hg22 ht22)
            | (refine step_appX slInt (by rfl) _ _ (by rfl) w3.heap.size (.slice (some ⟨w3.heap.size, 0, none⟩) 0 0) 0 [] _ 0 _ ((p.take 0).map (Value.int .i64)) (by rfl) (by first | exact OL2.out | exact OL2b.out) (by rfl) HL1.out (ints_news (ints_take (HI.out _ (by assumption)) 0)) ints_one (by omega) (KO.out _ (by assumption)).size ?_
               intro v22 w22 ho22 hg22 ht22; have HB22 := Lib.hid (below_app (KO.out _ (by assumption)) (KO.out _ (by assumption)).size (by first | exact OL2.out | exact OL2b.out) (Nat.le_refl _) hg22); have hKK := KI.out _ HB22.out; have HO22 := Lib.hid ho22
               have HLIT : Hid (w22.heap[w3.heap.size + 1]? = some (.cells #[.int .i64 0] 3 (0, 0))) := block_row LT2.out hg22 (fun e => by simp [Value.ownBlock] at e)
               clear ho22 hg22 ht22)
            | (refine step_appX slInt (by rfl) _ _ (by rfl) w3.heap.size (.slice (some ⟨w3.heap.size + 1, 0, none⟩) 0 0) 0 [] _ 0 _ ((p.take 0).map (Value.int .i64)) (by rfl) (by first | exact OL3.out | exact OL3b.out) (by rfl) HL1.out (ints_news (ints_take (HI.out _ (by assumption)) 0)) ints_one (by omega) (KO.out _ (by assumption)).size ?_
               intro v22 w22 ho22 hg22 ht22; have HB22 := Lib.hid (below_app (KO.out _ (by assumption)) (KO.out _ (by assumption)).size (by first | exact OL3.out | exact OL3b.out) (Nat.le_refl _) hg22); have hKK := KI.out _ HB22.out; have HO22 := Lib.hid ho22
               have HLIT : Hid (w22.heap[w3.heap.size]? = some (.cells #[.int .i64 0] 3 (0, 0))) := block_row LT3.out hg22 (fun e => by simp [Value.ownBlock] at e)
               clear ho22 hg22 ht22)
            | (refine step_appX slInt (by rfl) _ _ (by rfl) w3.heap.size v22 (0 + 0) ([] ++ (p.take 0).map (Value.int .i64)) _ 1 _ [.int .i64 0] (by rfl) (by first | exact HO22.out | exact HO22.out.alloc _) (by rfl) rfl (by
                 intro j u hu
                 first
                 | exact cells_new _ [.int .i64 0] _ j u hu
                 | (rw [addr_add_zero, row_cell HLIT.out j]; simpa using hu)) (by simp [Value.oneCell']) (by omega) (KO.out _ (by assumption)).size ?_
               intro v25 w25 ho25 hg25 ht25; have HB25 := Lib.hid (below_app (KO.out _ (by assumption)) (KO.out _ (by assumption)).size (by first | exact HO22.out | exact HO22.out.alloc _) (Nat.le_refl _) hg25); have hKK2 := KI.out _ HB25.out; have HO25 := Lib.hid ho25; clear ho25 hg25 ht25)
            | (refine step_appX slInt (by rfl) _ _ (by rfl) w3.heap.size v25 (0 + 0 + 1) ([] ++ (p.take 0).map (Value.int .i64) ++ [.int .i64 0]) _ 0 _ [] (by rfl) HO25.out (by rfl) rfl (by intro j u hu; cases hu) (by intro u hu; cases hu) (by omega) (KO.out _ (by assumption)).size ?_
               intro v29 w29 ho29 hg29 ht29; have HB29 := Lib.hid (below_app (KO.out _ (by assumption)) (KO.out _ (by assumption)).size HO25.out (Nat.le_refl _) hg29); have hKK3 := KI.out _ HB29.out; have HO29 := Lib.hid ho29; clear ho29 hg29 ht29))
        all_goals
          have e9 : 0 + 0 + 1 + 0 = 0 + 1 := by omega
          have HO9 := HO29.out
          rw [e9] at HO9
          have HO9 := own_mono HO9 hsz
          obtain ⟨a9, c9, rfl⟩ := own_slice HO9
          obtain ⟨g9, rfl, hg9, _⟩ := own_cell HO9 (by omega)
          have HOF : Hid (w29.ownsRow w.heap.size 3 1 (.slice (some ⟨g9, 0, none⟩) (0 + 1) c9) (0 + 1) ((p.take 0 ++ [((0 : Nat) : Int)]).map (Value.int .i64))) := by
            show World.ownsRow _ _ _ _ _ _ _
            simpa [List.map_append] using HO9
          have HLE : Hid ((p.take 0 ++ [((0 : Nat) : Int)]).length = 0 + 1) := by show _ = _; have := HP.out; first | (simp; done) | (simp; omega)
          have HDF := Lib.hid (HD3.out.below HB29.out)
          clear HO9 HO29
          go_wp2
          go_roundw
          case rel => exact ⟨0 + 1, p.take 0 ++ [((0 : Nat) : Int)], by go_num, by omega, HLE.out, HOF.out, ⟨g9, rfl⟩, HDF.out.mono (by omega)⟩
          case measure => simp [intOf] <;> omega
      · have hc0 : ¬ c' = 0 := by omega
        go_wp2_with fail
        go_region_held3 (fun w' => KK w') (first | exact SK.out _ _ (by assumption) (by first | exact (Below.refl _ _).alloc (Nat.le_refl _) _ | exact (Below.refl _ _).drew) | assumption)
          (first
            | (refine step_appX slInt (by rfl) _ _ (by rfl) w3.heap.size (.slice (some ⟨w3.heap.size, 0, none⟩) 0 0) 0 [] _ c' _ ((p.take c').map (Value.int .i64)) (by rfl) (by first | exact OL1.out | exact OL1b.out) (by rfl) HL1.out (ints_news (ints_take (HI.out _ (by assumption)) c')) ints_one (by omega) (KO.out _ (by assumption)).size ?_
               intro v22 w22 ho22 hg22 ht22; have HB22 := Lib.hid (below_app (KO.out _ (by assumption)) (KO.out _ (by assumption)).size (by first | exact OL1.out | exact OL1b.out) (Nat.le_refl _) hg22); have hKK := KI.out _ HB22.out; have HO22 := Lib.hid ho22; clear ho22 hg22 ht22)
            | (refine step_appX slInt (by rfl) _ _ (by rfl) w3.heap.size (.slice (some ⟨w3.heap.size, 0, none⟩) 0 0) 0 [] _ c' _ ((p.take c').map (Value.int .i64)) (by rfl) (by first | exact OL2.out | exact OL2b.out) (by rfl) HL1.out (ints_news (ints_take (HI.out _ (by assumption)) c')) ints_one (by omega) (KO.out _ (by assumption)).size ?_
               intro v22 w22 ho22 hg22 ht22; have HB22 := Lib.hid (below_app (KO.out _ (by assumption)) (KO.out _ (by assumption)).size (by first | exact OL2.out | exact OL2b.out) (Nat.le_refl _) hg22); have hKK := KI.out _ HB22.out; have HO22 := Lib.hid ho22
               have HLIT : Hid (w22.heap[w3.heap.size + 1]? = some (.cells #[.int .i64 c'] 3 (0, 0))) := block_row LT2.out hg22 (fun e => by simp [Value.ownBlock] at e)
               clear ho22 hg22 ht22)
            | (refine step_appX slInt (by rfl) _ _ (by rfl) w3.heap.size (.slice (some ⟨w3.heap.size + 1, 0, none⟩) 0 0) 0 [] _ c' _ ((p.take c').map (Value.int .i64)) (by rfl) (by first | exact OL3.out | exact OL3b.out) (by rfl) HL1.out (ints_news (ints_take (HI.out _ (by assumption)) c')) ints_one (by omega) (KO.out _ (by assumption)).size ?_
               intro v22 w22 ho22 hg22 ht22; have HB22 := Lib.hid (below_app (KO.out _ (by assumption)) (KO.out _ (by assumption)).size (by first | exact OL3.out | exact OL3b.out) (Nat.le_refl _) hg22); have hKK := KI.out _ HB22.out; have HO22 := Lib.hid ho22
               have HLIT : Hid (w22.heap[w3.heap.size]? = some (.cells #[.int .i64 c'] 3 (0, 0))) := block_row LT3.out hg22 (fun e => by simp [Value.ownBlock] at e)
               clear ho22 hg22 ht22)
            | (refine step_appX slInt (by rfl) _ _ (by rfl) w3.heap.size v22 (0 + c') ([] ++ (p.take c').map (Value.int .i64)) _ 1 _ [.int .i64 c'] (by rfl) (by first | exact HO22.out | exact HO22.out.alloc _) (by rfl) rfl (by
                 intro j u hu
                 first
                 | exact cells_new _ [.int .i64 c'] _ j u hu
                 | (rw [addr_add_zero, row_cell HLIT.out j]; simpa using hu)) (by simp [Value.oneCell']) (by omega) (KO.out _ (by assumption)).size ?_
               intro v25 w25 ho25 hg25 ht25; have HB25 := Lib.hid (below_app (KO.out _ (by assumption)) (KO.out _ (by assumption)).size (by first | exact HO22.out | exact HO22.out.alloc _) (Nat.le_refl _) hg25); have hKK2 := KI.out _ HB25.out; have HO25 := Lib.hid ho25; clear ho25 hg25 ht25)
            | (refine step_appX slInt (by rfl) _ _ (by rfl) w3.heap.size v25 (0 + c' + 1) ([] ++ (p.take c').map (Value.int .i64) ++ [.int .i64 c']) _ 0 _ [] (by rfl) HO25.out (by rfl) rfl (by intro j u hu; cases hu) (by intro u hu; cases hu) (by omega) (KO.out _ (by assumption)).size ?_
               intro v29 w29 ho29 hg29 ht29; have HB29 := Lib.hid (below_app (KO.out _ (by assumption)) (KO.out _ (by assumption)).size HO25.out (Nat.le_refl _) hg29); have hKK3 := KI.out _ HB29.out; have HO29 := Lib.hid ho29; clear ho29 hg29 ht29))
        all_goals
          have e9 : 0 + c' + 1 + 0 = c' + 1 := by omega
          have HO9 := HO29.out
          rw [e9] at HO9
          have HO9 := own_mono HO9 hsz
          obtain ⟨a9, c9, rfl⟩ := own_slice HO9
          obtain ⟨g9, rfl, hg9, _⟩ := own_cell HO9 (by omega)
          have HOF : Hid (w29.ownsRow w.heap.size 3 1 (.slice (some ⟨g9, 0, none⟩) (c' + 1) c9) (c' + 1) ((p.take c' ++ [(c' : Int)]).map (Value.int .i64))) := by
            show World.ownsRow _ _ _ _ _ _ _
            simpa [List.map_append] using HO9
          have HLE : Hid ((p.take c' ++ [(c' : Int)]).length = c' + 1) := by show _ = _; have := HP.out; first | (simp; done) | (simp; omega)
          have HDF := Lib.hid (HD3.out.below HB29.out)
          clear HO9 HO29
          go_wp2
          go_roundw
          case rel => exact ⟨c' + 1, p.take c' ++ [(c' : Int)], by go_num, by omega, HLE.out, HOF.out, ⟨g9, rfl⟩, HDF.out.mono (by omega)⟩
          case measure => simp [intOf] <;> omega

end Go.Proofs.Ytcncjedhpnaoaaa

