/- Walks: lists of integers and of records that the cursor draws. -/
import Derived.Test.YtkckmjajjdpodaaCv0
import Derived.Test.YtkckmjajjdpodaaWf
import Derived.Test.YtkckmjajjdpodaaWt1
namespace Go.Proofs.Ytkckmjajjdpodaa
open Go.RowKit
set_option linter.unusedVariables false

set_option maxHeartbeats 2000000 in
theorem ints_any (bc : Nat) (ac : Option Addr) (cs : List Int) (M : Int) (w : World) (hM : M ≤ 1099511600000) (h : Cur w bc ac cs M) (hold : cs ≠ [] → ∀ b off, ac = some ⟨b, off, none⟩ → b < w.heap.size) :
    Calls Try.prog 165 #[.pointer (some ⟨bc, 0, none⟩)] w fun e w' => ∃ (a' : Option Addr) (c' : Nat) (zs : List Int), e = .returned (.slice a' zs.length c') ∧ w'.ownsRow w.heap.size 3 1 (.slice a' zs.length c') zs.length (zs.map (Value.int .i64)) ∧ zs.length ≤ 24 ∧ (∀ x ∈ zs, -100000 ≤ x ∧ x ≤ 100000) ∧ Drawn w w' bc ac cs (M + 200) := by
  have D0 : Hid (Drawn w w bc ac cs M) := ⟨h, grown_refl _ _, h.lt, hold⟩
  have E1 := Lib.hid (own_lit (w := w) (e := 3) (size := 1) #[] 0 (by omega) rfl)
  have D1 := Lib.hid (D0.out.below ((Below.refl w.heap.size w).alloc (Nat.le_refl _) (.cells #[] 3)))
  clear h hold D0
  go_enter Try.func165, Try.ntmps165
  go_wp2_with fail
  refine (pick_any bc ac cs M 9 _ (by omega) (by omega) D1.out.cur).mono ?_
  rintro e w1 ⟨⟨n, rfl, hn0, hn1⟩, hc, hg⟩
  have E2 := Lib.hid (D1.out.own E1.out (Nat.le_refl _) hg)
  have D2 := Lib.hid (D1.out.step hc hg)
  clear hc hg D1 E1
  go_wp2_with fail
  refine (one_any bc ac cs (M + 2) 6 _ (by omega) (by omega) D2.out.cur).mono ?_
  rintro e w2 ⟨⟨b, rfl⟩, hc, hg⟩
  have E3 := Lib.hid (D2.out.own E2.out (Nat.le_refl _) hg)
  have D3 := Lib.hid (D2.out.step hc hg)
  clear hc hg D2 E2
  cases b
  case' true =>
    go_wp2_with fail
    refine (pick_any bc ac cs (M + 2 + 2) 24 _ (by omega) (by omega) D3.out.cur).mono ?_
    rintro e w3 ⟨⟨n2, rfl, hm0, hm1⟩, hc, hg⟩
    obtain ⟨k0, rfl⟩ := Int.eq_ofNat_of_zero_le hm0
    have hk0 : k0 ≤ 23 := by omega
    have E4 := Lib.hid (D3.out.own E3.out (Nat.le_refl _) hg)
    have D4 := Lib.hid ((D3.out.step hc hg).mono (show M + 2 + 2 + 2 ≤ M + 6 by omega))
    clear hc hg D3 E3 hm0 hm1 hn0 hn1
  case' false =>
    obtain ⟨k0, rfl⟩ := Int.eq_ofNat_of_zero_le hn0
    have hk0 : k0 ≤ 23 := by omega
    have E4 := E3
    have D4 := Lib.hid (D3.out.mono (show M + 2 + 2 ≤ M + 6 by omega))
    clear D3 E3 hn0 hn1
  all_goals
    go_wp2
    go_loopw [3, 4] (fun v i wr => ∃ (k : Nat) (zs : List Int), i = .int .i64 k ∧ zs.length + k ≤ 24 ∧ k ≤ 23 ∧ (∀ x ∈ zs, -100000 ≤ x ∧ x ≤ 100000) ∧ wr.ownsRow w.heap.size 3 1 v zs.length (zs.map (Value.int .i64)) ∧ Drawn w wr bc ac cs (M + 6 + 6 * (24 - (k : Int)))) (fun _ i _ => (intOf i).toNat)
    case atStart => exact ⟨k0, [], rfl, by simp; omega, hk0, by simp, E4.out, D4.out.mono (by omega)⟩
    case round =>
      obtain ⟨k, zs, rfl, hlen, hk, hok, hown, hD⟩ := hrel
      clear E4 D4
      have HOK := Lib.hid hok; clear hok
      have HO := Lib.hid hown; clear hown
      have HD := Lib.hid hD; clear hD
      rcases Nat.eq_zero_or_pos k with rfl | hkp
      · obtain ⟨a', c', hv⟩ := own_slice HO.out
        rw [hv] at HO
        rw [hv]
        clear hv
        go_wp2
        go_ret
        exact ⟨a', c', zs, rfl, HO.out, by omega, HOK.out, HD.out.mono (by omega)⟩
      · obtain ⟨m, rfl⟩ : ∃ m, k = m + 1 := ⟨k - 1, by omega⟩
        have hcast : ((m + 1 : Nat) : Int) = (m : Int) + 1 := by omega
        rw [hcast]
        have hn40 : zs.length + 1 ≤ 1099511627776 := by omega
        go_wp2_with fail
        refine (one_any bc ac cs _ 8 _ ?h1 (by omega) HD.out.cur).mono ?_
        case h1 => omega
        rintro e w5 ⟨⟨b, rfl⟩, hc, hg⟩
        have HO5 := Lib.hid (HD.out.own HO.out (Nat.le_refl _) hg)
        have HD5 := Lib.hid (HD.out.step hc hg)
        clear hc hg HO HD
        cases b
        · go_wp2_with fail
          refine (pick_any bc ac cs _ 7 _ ?h2 (by omega) HD5.out.cur).mono ?_
          case h2 => omega
          rintro e w6 ⟨⟨x, rfl, hx0, hx1⟩, hc, hg⟩
          have HO6 := Lib.hid (HD5.out.own HO5.out (Nat.le_refl _) hg)
          have HD6 := Lib.hid (HD5.out.step hc hg)
          have hbs := HD6.out.grown.size
          clear hc hg HO5 HD5
          go_wp2_with (at_builtin; refine wpList_app1 slInt rfl (.tmp 24) (.tmp 27) rfl rfl HO6.out [.int .i64 x] rfl rfl (by simp) (by simp [Value.oneCell']) hn40 hbs ?_; intro v' w7 hown' hg' ht)
          have HO7 := Lib.hid hown'
          have HD7 := Lib.hid (HD6.out.app HO6.out (Nat.le_refl _) hg')
          clear hown' hg' ht hbs HO6 HD6
          go_roundw
          case rel => exact ⟨m, zs ++ [x], by go_num, by simp; omega, by omega, fun y hy => by rcases List.mem_append.1 hy with h | h; exact HOK.out y h; simp at h; omega, by simpa using HO7.out, HD7.out.mono (by omega)⟩
          case measure => simp [intOf]
        · have HL : Hid (∀ W : World, IntsAt (W.alloc (.cells #[.int .i64 100000, .int .i64 (-100000), .int .i64 999, .int .i64 (-5)] 3)) (some ⟨W.heap.size, 0, none⟩) [100000, -100000, 999, -5]) := fun W => ownInts (c := 4) (n := 4) (own_lit (e := 3) (size := 1) #[.int .i64 100000, .int .i64 (-100000), .int .i64 999, .int .i64 (-5)] 4 (by omega) rfl)
          have HD5' := Lib.hid (HD5.out.below ((Below.refl _ _).alloc (Nat.le_refl _) (.cells #[.int .i64 100000, .int .i64 (-100000), .int .i64 999, .int .i64 (-5)] 3)))
          have HO5' := Lib.hid (HO5.out.alloc (.cells #[.int .i64 100000, .int .i64 (-100000), .int .i64 999, .int .i64 (-5)] 3))
          go_wp2_with fail
          refine (among_any bc ac cs _ _ 4 [100000, -100000, 999, -5] _ ?h2 (by decide) (by decide) HD5'.out.cur (HL.out w5) ?h3).mono ?_
          case h2 => omega
          case h3 => intro b off e; injection e with e; injection e with e; have := HD5.out.cur.lt; omega
          rintro e w6 ⟨⟨x, rfl, hx⟩, hc, hg⟩
          have HX : Hid (-100000 ≤ x ∧ x ≤ 100000) := by show _ ∧ _; simp at hx; omega
          have HO6 := Lib.hid (HD5'.out.own HO5'.out (Nat.le_refl _) hg)
          have HD6 := Lib.hid (HD5'.out.step hc hg)
          have hbs := HD6.out.grown.size
          clear hc hg HO5 HD5 HO5' HD5' hx HL
          go_wp2_with (at_builtin; refine wpList_app1 slInt rfl (.tmp 18) (.tmp 22) rfl rfl HO6.out [.int .i64 x] rfl rfl (by simp) (by simp [Value.oneCell']) hn40 hbs ?_; intro v' w7 hown' hg' ht)
          have HO7 := Lib.hid hown'
          have HD7 := Lib.hid (HD6.out.app HO6.out (Nat.le_refl _) hg')
          clear hown' hg' ht hbs HO6 HD6
          go_roundw
          case rel => exact ⟨m, zs ++ [x], by go_num, by simp; omega, by omega, fun y hy => by rcases List.mem_append.1 hy with h | h; exact HOK.out y h; simp at h; rw [h]; exact HX.out, by simpa using HO7.out, HD7.out.mono (by omega)⟩
          case measure => simp [intOf]

set_option maxHeartbeats 400000 in
theorem records_any (bc : Nat) (ac : Option Addr) (cs : List Int) (M : Int) (w : World) (hM : M ≤ 1099511500000) (h : Cur w bc ac cs M) (hold : cs ≠ [] → ∀ b off, ac = some ⟨b, off, none⟩ → b < w.heap.size) :
    Calls Try.prog 136 #[.pointer (some ⟨bc, 0, none⟩)] w fun e w' => ∃ (a' : Option Addr) (c' : Nat) (rs : List (Int × Int)), e = .returned (.slice a' rs.length c') ∧ w'.ownsRow w.heap.size 72 2 (.slice a' rs.length c') rs.length (flat encR rs) ∧ rs.length ≤ 24 ∧ Drawn w w' bc ac cs (M + 200) := by
  have D0 : Hid (Drawn w w bc ac cs M) := ⟨h, grown_refl _ _, h.lt, hold⟩
  have E1 := Lib.hid (own_lit (w := w) (e := 72) (size := 2) #[] 0 (by omega) rfl)
  have D1 := Lib.hid (D0.out.below ((Below.refl w.heap.size w).alloc (Nat.le_refl _) (.cells #[] 72)))
  have HZ : Hid (cs ≠ [] → ∀ b off, ac = some ⟨b, off, none⟩ → b < (w.alloc (.cells #[] 72)).heap.size) := fun h0 b off e => by have := hold h0 b off e; simp; omega
  clear h hold D0
  go_enter Try.func136, Try.ntmps136
  go_wp2_with fail
  refine (ints_any bc ac cs M _ (by omega) D1.out.cur HZ.out).mono ?_
  rintro e w1 ⟨ak, ck, zs, rfl, ho, hl, hok, hD⟩
  have HK := Lib.hid (ownInts ho)
  have HKB : Hid (∀ b off, ak = some ⟨b, off, none⟩ → w.heap.size ≠ b ∧ b < w1.heap.size) := fun b off e => by have := ho.lt b (by rw [e]; rfl); simp at this; omega
  have E2 := Lib.hid (D1.out.own E1.out (Nat.le_refl _) hD.grown)
  have D2 : Hid (Drawn w w1 bc ac cs (M + 200)) := ⟨hD.cur, grown_trans D1.out.grown hD.grown, D1.out.old⟩
  clear ho hD D1 E1 HZ hok
  go_wp2
  go_loopw [3, 5] (fun v i wr => ∃ (k : Nat) (rs : List (Int × Int)), k ≤ zs.length ∧ i = .int .i64 k ∧ rs.length = k ∧ wr.ownsRow w.heap.size 72 2 v rs.length (flat encR rs) ∧ IntsAt wr ak zs ∧ (∀ b off, ak = some ⟨b, off, none⟩ → v.ownBlock ≠ some b ∧ b < wr.heap.size) ∧ Drawn w wr bc ac cs (M + 200)) (fun _ i _ => zs.length - (intOf i).toNat)
  case atStart => exact ⟨0, [], by omega, rfl, rfl, E2.out, HK.out, fun b off e => ⟨fun e2 => by have e3 : some w.heap.size = some b := e2; injection e3 with e3; exact (HKB.out b off e).1 e3, (HKB.out b off e).2⟩, D2.out⟩
  case round =>
    obtain ⟨k, rs, hk, rfl, hrl, hown, hik, hkb, hD⟩ := hrel
    clear E2 HK HKB D2
    by_cases hlt : k < zs.length
    · obtain ⟨b, off, rfl, hcell⟩ := hik.at hlt
      have HIK := Lib.hid hik; clear hik
      have HKB := Lib.hid hkb; clear hkb
      have HRL := Lib.hid hrl
      have hn : rs.length + 1 ≤ 1099511627776 := by omega
      clear hrl
      generalize zs.getD k 0 = x at hcell
      have HO := Lib.hid hown; clear hown
      have HD := Lib.hid hD; clear hD
      have hbs := HD.out.grown.size
      go_wp2_with (at_builtin; refine wpList_app1 slRec rfl (.tmp 15) (.tmp 22) rfl rfl HO.out [.int .i64 x, .int .i64 k] rfl rfl (by simp) (by simp [Value.oneCell']) hn hbs ?_; intro v' w2 hown' hg ht)
      have HO' := Lib.hid hown'
      have HD' := Lib.hid (HD.out.app HO.out (Nat.le_refl _) hg)
      have HIK' := Lib.hid (HIK.out.grown hg (fun b' off' e e2 => (HKB.out b' off' e).1 e2))
      have HKB' : Hid (∀ b' off', some (⟨b, off, none⟩ : Addr) = some ⟨b', off', none⟩ → v'.ownBlock ≠ some b' ∧ b' < w2.heap.size) := fun b' off' e => by
        have h1 := HKB.out b' off' e
        refine ⟨fun e2 => ?_, Nat.lt_of_lt_of_le h1.2 hg.size⟩
        rcases ht with ht | ht
        · exact h1.1 (ht ▸ e2)
        · rw [ht] at e2; injection e2 with e2; omega
      clear hown' hg ht hbs hn
      go_roundw
      case rel => exact ⟨k + 1, rs ++ [(x, (k : Int))], by omega, by go_num, by simp [HRL.out], by rw [List.length_append, flat_append]; exact HO'.out, HIK'.out, HKB'.out, HD'.out⟩
      case measure => simp [intOf]; omega
    · obtain ⟨a', c', rfl⟩ := own_slice hown
      have HO := Lib.hid hown; clear hown
      have HD := Lib.hid hD; clear hD hik hkb
      go_wp2
      go_ret
      exact ⟨a', c', rs, rfl, HO.out, by omega, HD.out⟩

end Go.Proofs.Ytkckmjajjdpodaa
