/- Several texts in one: lemmas and walks of the functions that the laws reach. -/
import Derived.Test.YtpdndcnhgadgoaaY0
import Derived.Laws.AppendOwnNone
import Derived.Lib.OwnBridge
import Derived.Sort.Grow
import Derived.Deep.RegionHeld3
import Derived.Deep.AppendLies
import Derived.Deep.DrawnRows

/- Walks: lists of integers and of records that the cursor draws. -/
namespace Go.Proofs.Ytpdndcnhgadgoaa
open Go.RowKit
set_option linter.unusedVariables false

set_option maxHeartbeats 2000000 in
theorem ints_any (bc : Nat) (ac : Option Addr) (cs : List Int) (M : Int) (w : World) (hM : M ≤ 1099511600000) (h : Cur w bc ac cs M) (hold : cs ≠ [] → ∀ b off, ac = some ⟨b, off, none⟩ → b < w.heap.size) :
    Calls Try.prog 38 #[.pointer (some ⟨bc, 0, none⟩)] w fun e w' => ∃ (a' : Option Addr) (c' : Nat) (zs : List Int), e = .returned (.slice a' zs.length c') ∧ w'.ownsRow w.heap.size 3 1 (.slice a' zs.length c') zs.length (zs.map (Value.int .i64)) ∧ zs.length ≤ 24 ∧ (∀ x ∈ zs, -100000 ≤ x ∧ x ≤ 100000) ∧ Drawn w w' bc ac cs (M + 200) := by
  have D0 : Hid (Drawn w w bc ac cs M) := ⟨h, grown_refl _ _, h.lt, hold⟩
  have E1 := Lib.hid (own_lit (w := w) (e := 3) (size := 1) #[] 0 (by omega) rfl)
  have D1 := Lib.hid (D0.out.below ((Below.refl w.heap.size w).alloc (Nat.le_refl _) (.cells #[] 3)))
  clear h hold D0
  go_enter Try.func38, Try.ntmps38
  go_wp2_with fail
  refine (pick_any bc ac cs M 9 _ (by omega) (by omega) D1.out.cur).mono ?_
  rintro e w1 ⟨⟨n, rfl, hn0, hn1⟩, hc, hg⟩
  have E2 := Lib.hid (D1.out.own E1.out (Nat.le_refl _) hg)
  have D2 := Lib.hid (D1.out.step hc hg)
  clear hc hg D1 E1
  go_wp2_with fail
  refine (one_any bc ac cs (M + 2) 6 _ (by omega) (by omega) D2.out.cur).mono ?_
  rintro e w2 ⟨⟨b, rfl⟩, hc, hg⟩
  have E3 := Lib.hid (D2.out.own E2.out (Nat.le_refl _) hg)
  have D3 := Lib.hid (D2.out.step hc hg)
  clear hc hg D2 E2
  cases b
  case' true =>
    go_wp2_with fail
    refine (pick_any bc ac cs (M + 2 + 2) 24 _ (by omega) (by omega) D3.out.cur).mono ?_
    rintro e w3 ⟨⟨n2, rfl, hm0, hm1⟩, hc, hg⟩
    obtain ⟨k0, rfl⟩ := Int.eq_ofNat_of_zero_le hm0
    have hk0 : k0 ≤ 23 := by omega
    have E4 := Lib.hid (D3.out.own E3.out (Nat.le_refl _) hg)
    have D4 := Lib.hid ((D3.out.step hc hg).mono (show M + 2 + 2 + 2 ≤ M + 6 by omega))
    clear hc hg D3 E3 hm0 hm1 hn0 hn1
  case' false =>
    obtain ⟨k0, rfl⟩ := Int.eq_ofNat_of_zero_le hn0
    have hk0 : k0 ≤ 23 := by omega
    have E4 := E3
    have D4 := Lib.hid (D3.out.mono (show M + 2 + 2 ≤ M + 6 by omega))
    clear D3 E3 hn0 hn1
  all_goals
    go_wp2
    go_loopw [3, 4] (fun v i wr => ∃ (k : Nat) (zs : List Int), i = .int .i64 k ∧ zs.length + k ≤ 24 ∧ k ≤ 23 ∧ (∀ x ∈ zs, -100000 ≤ x ∧ x ≤ 100000) ∧ wr.ownsRow w.heap.size 3 1 v zs.length (zs.map (Value.int .i64)) ∧ Drawn w wr bc ac cs (M + 6 + 6 * (24 - (k : Int)))) (fun _ i _ => (intOf i).toNat)
    case atStart => exact ⟨k0, [], rfl, by simp; omega, hk0, by simp, E4.out, D4.out.mono (by omega)⟩
    case round =>
      obtain ⟨k, zs, rfl, hlen, hk, hok, hown, hD⟩ := hrel
      clear E4 D4
      have HOK := Lib.hid hok; clear hok
      have HO := Lib.hid hown; clear hown
      have HD := Lib.hid hD; clear hD
      rcases Nat.eq_zero_or_pos k with rfl | hkp
      · obtain ⟨a', c', hv⟩ := own_slice HO.out
        rw [hv] at HO
        rw [hv]
        clear hv
        go_wp2
        go_ret
        exact ⟨a', c', zs, rfl, HO.out, by omega, HOK.out, HD.out.mono (by omega)⟩
      · obtain ⟨m, rfl⟩ : ∃ m, k = m + 1 := ⟨k - 1, by omega⟩
        have hcast : ((m + 1 : Nat) : Int) = (m : Int) + 1 := by omega
        rw [hcast]
        have hn40 : zs.length + 1 ≤ 1099511627776 := by omega
        go_wp2_with fail
        refine (one_any bc ac cs _ 8 _ ?h1 (by omega) HD.out.cur).mono ?_
        case h1 => omega
        rintro e w5 ⟨⟨b, rfl⟩, hc, hg⟩
        have HO5 := Lib.hid (HD.out.own HO.out (Nat.le_refl _) hg)
        have HD5 := Lib.hid (HD.out.step hc hg)
        clear hc hg HO HD
        cases b
        · go_wp2_with fail
          refine (pick_any bc ac cs _ 7 _ ?h2 (by omega) HD5.out.cur).mono ?_
          case h2 => omega
          rintro e w6 ⟨⟨x, rfl, hx0, hx1⟩, hc, hg⟩
          have HO6 := Lib.hid (HD5.out.own HO5.out (Nat.le_refl _) hg)
          have HD6 := Lib.hid (HD5.out.step hc hg)
          have hbs := HD6.out.grown.size
          clear hc hg HO5 HD5
          go_wp2_with (at_builtin; refine wpList_app1 slInt rfl (.tmp 24) (.tmp 27) rfl rfl HO6.out [.int .i64 x] rfl rfl (by simp) (by simp [Value.oneCell']) hn40 hbs ?_; intro v' w7 hown' hg' ht)
          have HO7 := Lib.hid hown'
          have HD7 := Lib.hid (HD6.out.app HO6.out (Nat.le_refl _) hg')
          clear hown' hg' ht hbs HO6 HD6
          go_roundw
          case rel => exact ⟨m, zs ++ [x], by go_num, by simp; omega, by omega, fun y hy => by rcases List.mem_append.1 hy with h | h; exact HOK.out y h; simp at h; omega, by simpa using HO7.out, HD7.out.mono (by omega)⟩
          case measure => simp [intOf]
        · have HL : Hid (∀ W : World, IntsAt (W.alloc (.cells #[.int .i64 100000, .int .i64 (-100000), .int .i64 999, .int .i64 (-5)] 3)) (some ⟨W.heap.size, 0, none⟩) [100000, -100000, 999, -5]) := fun W => ownInts (c := 4) (n := 4) (own_lit (e := 3) (size := 1) #[.int .i64 100000, .int .i64 (-100000), .int .i64 999, .int .i64 (-5)] 4 (by omega) rfl)
          have HD5' := Lib.hid (HD5.out.below ((Below.refl _ _).alloc (Nat.le_refl _) (.cells #[.int .i64 100000, .int .i64 (-100000), .int .i64 999, .int .i64 (-5)] 3)))
          have HO5' := Lib.hid (HO5.out.alloc (.cells #[.int .i64 100000, .int .i64 (-100000), .int .i64 999, .int .i64 (-5)] 3))
          go_wp2_with fail
          refine (among_any bc ac cs _ _ 4 [100000, -100000, 999, -5] _ ?h2 (by decide) (by decide) HD5'.out.cur (HL.out w5) ?h3).mono ?_
          case h2 => omega
          case h3 => intro b off e; injection e with e; injection e with e; have := HD5.out.cur.lt; omega
          rintro e w6 ⟨⟨x, rfl, hx⟩, hc, hg⟩
          have HX : Hid (-100000 ≤ x ∧ x ≤ 100000) := by show _ ∧ _; simp at hx; omega
          have HO6 := Lib.hid (HD5'.out.own HO5'.out (Nat.le_refl _) hg)
          have HD6 := Lib.hid (HD5'.out.step hc hg)
          have hbs := HD6.out.grown.size
          clear hc hg HO5 HD5 HO5' HD5' hx HL
          go_wp2_with (at_builtin; refine wpList_app1 slInt rfl (.tmp 18) (.tmp 22) rfl rfl HO6.out [.int .i64 x] rfl rfl (by simp) (by simp [Value.oneCell']) hn40 hbs ?_; intro v' w7 hown' hg' ht)
          have HO7 := Lib.hid hown'
          have HD7 := Lib.hid (HD6.out.app HO6.out (Nat.le_refl _) hg')
          clear hown' hg' ht hbs HO6 HD6
          go_roundw
          case rel => exact ⟨m, zs ++ [x], by go_num, by simp; omega, by omega, fun y hy => by rcases List.mem_append.1 hy with h | h; exact HOK.out y h; simp at h; rw [h]; exact HX.out, by simpa using HO7.out, HD7.out.mono (by omega)⟩
          case measure => simp [intOf]

set_option maxHeartbeats 400000 in
theorem records_any (bc : Nat) (ac : Option Addr) (cs : List Int) (M : Int) (w : World) (hM : M ≤ 1099511500000) (h : Cur w bc ac cs M) (hold : cs ≠ [] → ∀ b off, ac = some ⟨b, off, none⟩ → b < w.heap.size) :
    Calls Try.prog 23 #[.pointer (some ⟨bc, 0, none⟩)] w fun e w' => ∃ (a' : Option Addr) (c' : Nat) (rs : List (Int × Int)), e = .returned (.slice a' rs.length c') ∧ w'.ownsRow w.heap.size 33 2 (.slice a' rs.length c') rs.length (flat encR rs) ∧ rs.length ≤ 24 ∧ Drawn w w' bc ac cs (M + 200) := by
  have D0 : Hid (Drawn w w bc ac cs M) := ⟨h, grown_refl _ _, h.lt, hold⟩
  have E1 := Lib.hid (own_lit (w := w) (e := 33) (size := 2) #[] 0 (by omega) rfl)
  have D1 := Lib.hid (D0.out.below ((Below.refl w.heap.size w).alloc (Nat.le_refl _) (.cells #[] 33)))
  have HZ : Hid (cs ≠ [] → ∀ b off, ac = some ⟨b, off, none⟩ → b < (w.alloc (.cells #[] 33)).heap.size) := fun h0 b off e => by have := hold h0 b off e; simp; omega
  clear h hold D0
  go_enter Try.func23, Try.ntmps23
  go_wp2_with fail
  refine (ints_any bc ac cs M _ (by omega) D1.out.cur HZ.out).mono ?_
  rintro e w1 ⟨ak, ck, zs, rfl, ho, hl, hok, hD⟩
  have HK := Lib.hid (ownInts ho)
  have HKB : Hid (∀ b off, ak = some ⟨b, off, none⟩ → w.heap.size ≠ b ∧ b < w1.heap.size) := fun b off e => by have := ho.lt b (by rw [e]; rfl); simp at this; omega
  have E2 := Lib.hid (D1.out.own E1.out (Nat.le_refl _) hD.grown)
  have D2 : Hid (Drawn w w1 bc ac cs (M + 200)) := ⟨hD.cur, grown_trans D1.out.grown hD.grown, D1.out.old⟩
  clear ho hD D1 E1 HZ hok
  go_wp2
  go_loopw [3, 5] (fun v i wr => ∃ (k : Nat) (rs : List (Int × Int)), k ≤ zs.length ∧ i = .int .i64 k ∧ rs.length = k ∧ wr.ownsRow w.heap.size 33 2 v rs.length (flat encR rs) ∧ IntsAt wr ak zs ∧ (∀ b off, ak = some ⟨b, off, none⟩ → v.ownBlock ≠ some b ∧ b < wr.heap.size) ∧ Drawn w wr bc ac cs (M + 200)) (fun _ i _ => zs.length - (intOf i).toNat)
  case atStart => exact ⟨0, [], by omega, rfl, rfl, E2.out, HK.out, fun b off e => ⟨fun e2 => by have e3 : some w.heap.size = some b := e2; injection e3 with e3; exact (HKB.out b off e).1 e3, (HKB.out b off e).2⟩, D2.out⟩
  case round =>
    obtain ⟨k, rs, hk, rfl, hrl, hown, hik, hkb, hD⟩ := hrel
    clear E2 HK HKB D2
    by_cases hlt : k < zs.length
    · obtain ⟨b, off, rfl, hcell⟩ := hik.at hlt
      have HIK := Lib.hid hik; clear hik
      have HKB := Lib.hid hkb; clear hkb
      have HRL := Lib.hid hrl
      have hn : rs.length + 1 ≤ 1099511627776 := by omega
      clear hrl
      generalize zs.getD k 0 = x at hcell
      have HO := Lib.hid hown; clear hown
      have HD := Lib.hid hD; clear hD
      have hbs := HD.out.grown.size
      go_wp2_with (at_builtin; refine wpList_app1 slRec rfl (.tmp 15) (.tmp 22) rfl rfl HO.out [.int .i64 x, .int .i64 k] rfl rfl (by simp) (by simp [Value.oneCell']) hn hbs ?_; intro v' w2 hown' hg ht)
      have HO' := Lib.hid hown'
      have HD' := Lib.hid (HD.out.app HO.out (Nat.le_refl _) hg)
      have HIK' := Lib.hid (HIK.out.grown hg (fun b' off' e e2 => (HKB.out b' off' e).1 e2))
      have HKB' : Hid (∀ b' off', some (⟨b, off, none⟩ : Addr) = some ⟨b', off', none⟩ → v'.ownBlock ≠ some b' ∧ b' < w2.heap.size) := fun b' off' e => by
        have h1 := HKB.out b' off' e
        refine ⟨fun e2 => ?_, Nat.lt_of_lt_of_le h1.2 hg.size⟩
        rcases ht with ht | ht
        · exact h1.1 (ht ▸ e2)
        · rw [ht] at e2; injection e2 with e2; omega
      clear hown' hg ht hbs hn
      go_roundw
      case rel => exact ⟨k + 1, rs ++ [(x, (k : Int))], by omega, by go_num, by simp [HRL.out], by rw [List.length_append, flat_append]; exact HO'.out, HIK'.out, HKB'.out, HD'.out⟩
      case measure => simp [intOf]; omega
    · obtain ⟨a', c', rfl⟩ := own_slice hown
      have HO := Lib.hid hown; clear hown
      have HD := Lib.hid hD; clear hD hik hkb
      go_wp2
      go_ret
      exact ⟨a', c', rs, rfl, HO.out, by omega, HD.out⟩

end Go.Proofs.Ytpdndcnhgadgoaa

/- Walks: records that may be invalid; the draw of an argument out of bytes. -/
namespace Go.Proofs.Ytpdndcnhgadgoaa
open Go.RowKit
set_option linter.unusedVariables false

theorem lit_ints (W : World) (l : List Int) (h : l.length ≤ 1000) : IntsAt (W.alloc (.cells (l.map (Value.int .i64)).toArray 3)) (some ⟨W.heap.size, 0, none⟩) l :=
  ownInts (c := l.length) (n := l.length) (base := W.heap.size) (by simpa using own_lit (w := W) (e := 3) (size := 1) (l.map (Value.int .i64)).toArray l.length (by omega) (by simp))

set_option maxHeartbeats 2000000 in
theorem anyRecords_any (bc : Nat) (ac : Option Addr) (cs : List Int) (M : Int) (w : World) (hM : M ≤ 1099511400000) (h : Cur w bc ac cs M) (hold : cs ≠ [] → ∀ b off, ac = some ⟨b, off, none⟩ → b < w.heap.size) :
    Calls Try.prog 12 #[.pointer (some ⟨bc, 0, none⟩)] w fun e w' => ∃ (a' : Option Addr) (c' : Nat) (rs : List (Int × Int)), e = .returned (.slice a' rs.length c') ∧ w'.ownsRow w.heap.size 33 2 (.slice a' rs.length c') rs.length (flat encR rs) ∧ rs.length ≤ 70 ∧ Drawn w w' bc ac cs (M + 1000) := by
  go_enter Try.func12, Try.ntmps12
  go_wp2_with fail
  refine (records_any bc ac cs M _ (by omega) h hold).mono ?_
  rintro e w1 ⟨a1, c1, rs, rfl, ho, hl, hD⟩
  have HO1 := Lib.hid ho
  have HD1 := Lib.hid hD
  clear ho hD h hold
  go_wp2_with fail
  refine (pick_any bc ac cs _ 24 _ ?h1 (by omega) HD1.out.cur).mono ?_
  case h1 => omega
  rintro e w2 ⟨⟨n, rfl, hn0, hn1⟩, hc, hg⟩
  have HO2 := Lib.hid (HD1.out.own HO1.out (Nat.le_refl _) hg)
  have HD2 := Lib.hid (HD1.out.step hc hg)
  clear hc hg HO1 HD1
  by_cases n0 : n = 0
  · subst n0
    have HD3 := Lib.hid (HD2.out.below ((Below.refl _ _).alloc (Nat.le_refl _) (.cells #[.int .i64 0, .int .i64 100001] 3)))
    have HO3 := Lib.hid (HO2.out.alloc (.cells #[.int .i64 0, .int .i64 100001] 3))
    go_wp2_with fail
    refine (among_any bc ac cs _ _ 2 [0, 100001] _ ?h2 (by decide) (by decide) HD3.out.cur (lit_ints w2 [0, 100001] (by decide)) ?h3).mono ?_
    case h2 => omega
    case h3 => intro b off e; injection e with e; injection e with e; have := HD2.out.cur.lt; omega
    rintro e w4 ⟨⟨x, rfl, hx⟩, hc, hg⟩
    have HO4 := Lib.hid (HD3.out.own HO3.out (Nat.le_refl _) hg)
    have HD4 := Lib.hid (HD3.out.step hc hg)
    clear hc hg HO2 HD2 HO3 HD3 hx
    have HD5 := Lib.hid (HD4.out.below ((Below.refl _ _).alloc (Nat.le_refl _) (.cells #[.int .i64 (-1), .int .i64 1000, .int .i64 999] 3)))
    have HO5 := Lib.hid (HO4.out.alloc (.cells #[.int .i64 (-1), .int .i64 1000, .int .i64 999] 3))
    go_wp2_with fail
    refine (among_any bc ac cs _ _ 3 [-1, 1000, 999] _ ?h4 (by decide) (by decide) HD5.out.cur (lit_ints w4 [-1, 1000, 999] (by decide)) ?h5).mono ?_
    case h4 => omega
    case h5 => intro b off e; injection e with e; injection e with e; have := HD4.out.cur.lt; omega
    rintro e w6 ⟨⟨y, rfl, hy⟩, hc, hg⟩
    have HO6 := Lib.hid (HD5.out.own HO5.out (Nat.le_refl _) hg)
    have HD6 := Lib.hid (HD5.out.step hc hg)
    have hbs := HD6.out.grown.size
    have hn40 : rs.length + 1 ≤ 1099511627776 := by omega
    clear hc hg HO4 HD4 HO5 HD5 hy
    go_wp2_with (at_builtin; refine wpList_app1 slRec rfl (.tmp 10) (.tmp 18) rfl rfl HO6.out [.int .i64 x, .int .i64 y] rfl rfl (by simp) (by simp [Value.oneCell']) hn40 hbs ?_; intro v' w7 hown' hg' ht)
    obtain ⟨a', c', hv⟩ := own_slice hown'
    have HO7 := Lib.hid hown'
    have HD7 := Lib.hid (HD6.out.app HO6.out (Nat.le_refl _) hg')
    clear hown' hg' ht hbs HO6 HD6
    rw [hv] at HO7
    rw [hv]
    clear hv
    go_wp2
    go_ret
    exact ⟨a', c', rs ++ [(x, y)], by simp, by rw [List.length_append, flat_append]; exact HO7.out, by simp; omega, HD7.out.mono (by omega)⟩
  · have q0 : (n == 0) = false := by simpa using n0
    by_cases n1 : n = 1
    · subst n1
      go_wp2
      go_loopw [3] (fun v wr => ∃ rs' : List (Int × Int), rs'.length ≤ 65 ∧ wr.ownsRow w.heap.size 33 2 v rs'.length (flat encR rs') ∧ (∃ a c, v = .slice a rs'.length c) ∧ Drawn w wr bc ac cs (M + 300 + 8 * (rs'.length : Int))) (fun v _ => 66 - (match v with | .slice _ l _ => l | _ => 0))
      case atStart => exact ⟨rs, by omega, HO2.out, own_slice HO2.out, HD2.out.mono (by omega)⟩
      case round =>
        obtain ⟨rs', hl', hown, ⟨a, c, rfl⟩, hD⟩ := hrel
        clear HO2 HD2
        have HO := Lib.hid hown; clear hown
        have HD := Lib.hid hD; clear hD
        go_wp2_with fail
        refine (pick_any bc ac cs _ 2 _ ?h6 (by omega) HD.out.cur).mono ?_
        case h6 => omega
        rintro e w3 ⟨⟨p, rfl, hp0, hp1⟩, hc, hg⟩
        have HO3 := Lib.hid (HD.out.own HO.out (Nat.le_refl _) hg)
        have HD3 := Lib.hid (HD.out.step hc hg)
        clear hc hg HO HD
        by_cases hlt : (rs'.length : Int) < 64 + p
        · go_wp2_with fail
          refine (pick_any bc ac cs _ 5 _ ?h7 (by omega) HD3.out.cur).mono ?_
          case h7 => omega
          rintro e w4 ⟨⟨x, rfl, hx0, hx1⟩, hc, hg⟩
          have HO4 := Lib.hid (HD3.out.own HO3.out (Nat.le_refl _) hg)
          have HD4 := Lib.hid (HD3.out.step hc hg)
          have hbs := HD4.out.grown.size
          have hn40 : rs'.length + 1 ≤ 1099511627776 := by omega
          clear hc hg HO3 HD3
          go_wp2_with (at_builtin; refine wpList_app1 slRec rfl (.tmp 28) (.tmp 34) rfl rfl HO4.out [.int .i64 x, .int .i64 rs'.length] rfl rfl (by simp) (by simp [Value.oneCell']) hn40 hbs ?_; intro v' w7 hown' hg' ht)
          obtain ⟨a', c', hv⟩ := own_slice hown'
          have HO7 := Lib.hid hown'
          have HD7 := Lib.hid (HD4.out.app HO4.out (Nat.le_refl _) hg')
          clear hown' hg' ht hbs HO4 HD4
          rw [hv] at HO7
          rw [hv]
          clear hv
          go_roundw
          case rel => exact ⟨rs' ++ [(x, (rs'.length : Int))], by simp; omega, by rw [List.length_append, flat_append]; exact HO7.out, ⟨a', c', by simp⟩, HD7.out.mono (by simp; omega)⟩
          case measure => simp; omega
        · go_wp2
          go_ret
          exact ⟨a, c, rs', rfl, HO3.out, by omega, HD3.out.mono (by omega)⟩
    · have q1 : (n == 1) = false := by simpa using n1
      go_wp2
      go_ret
      exact ⟨a1, c1, rs, rfl, HO2.out, by omega, HD2.out.mono (by omega)⟩

end Go.Proofs.Ytpdndcnhgadgoaa

/- General lemmas: two lists of the call's own that grow side by side. -/
namespace Go.Proofs.Ytpdndcnhgadgoaa
open Go.RowKit
set_option linter.unusedVariables false

/-- Two lists that the call owns, in two blocks. -/
structure Two (w : World) (base : Nat) (e1 : TypeId) (s1 : Nat) (v : Value) (n : Nat) (xs : List Value) (e2 : TypeId) (s2 : Nat) (u : Value) (m : Nat) (ys : List Value) : Prop where
  fst : w.ownsRow base e1 s1 v n xs
  snd : w.ownsRow base e2 s2 u m ys
  ne : ∀ k, v.ownBlock = some k → u.ownBlock ≠ some k

theorem Two.below {w w' : World} {base : Nat} {e1 e2 : TypeId} {s1 s2 n m : Nat} {v u : Value} {xs ys : List Value} (h : Two w base e1 s1 v n xs e2 s2 u m ys) (hb : Below w.heap.size w w') : Two w' base e1 s1 v n xs e2 s2 u m ys :=
  ⟨own_below h.1 (Nat.le_refl _) hb, own_below h.2 (Nat.le_refl _) hb, h.3⟩

theorem Two.app1 {w w' : World} {base : Nat} {e1 e2 : TypeId} {s1 s2 n m n' : Nat} {v u v' : Value} {xs ys xs' : List Value} (h : Two w base e1 s1 v n xs e2 s2 u m ys)
    (ho : w'.ownsRow base e1 s1 v' n' xs') (hg : w.grownBy w' v.ownBlock) (ht : v'.ownBlock = v.ownBlock ∨ v'.ownBlock = some (w.heap.size + 1)) : Two w' base e1 s1 v' n' xs' e2 s2 u m ys := by
  refine ⟨ho, ?_, ?_⟩
  · refine own_other h.2 hg fun k hk e => ?_
    exact h.3 k e hk
  · intro k hk hu
    rcases ht with ht | ht
    · rw [ht] at hk; exact h.3 k hk hu
    · rw [ht] at hk
      have := (h.2.lt k hu).2
      simp only [Option.some.injEq] at hk
      omega

theorem Two.app2 {w w' : World} {base : Nat} {e1 e2 : TypeId} {s1 s2 n m m' : Nat} {v u u' : Value} {xs ys ys' : List Value} (h : Two w base e1 s1 v n xs e2 s2 u m ys)
    (ho : w'.ownsRow base e2 s2 u' m' ys') (hg : w.grownBy w' u.ownBlock) (ht : u'.ownBlock = u.ownBlock ∨ u'.ownBlock = some (w.heap.size + 1)) : Two w' base e1 s1 v n xs e2 s2 u' m' ys' := by
  refine ⟨?_, ho, ?_⟩
  · refine own_other h.1 hg fun k hk e => ?_
    exact h.3 k hk e
  · intro k hk hu
    rcases ht with ht | ht
    · rw [ht] at hu; exact h.3 k hk hu
    · rw [ht] at hu
      have := (h.1.lt k hk).2
      simp only [Option.some.injEq] at hu
      omega

/-- 'append(s, u...)', u a list that is owned (nil too). -/
theorem wpList_appL {P : Program} {w : World} {ops : Array Oper} {rest : List Oper} {o : Oper} {a : Act} {Q : Exit → Act → World → Prop} {t e : TypeId} {z : Value} {size bytes : Nat} (T : SlT P t e z size bytes)
    (hgd : o.guard = none) (s y : Operand) (ho : o.op = .call { callee := .builtin .append, args := #[s, y], argTypes := #[t, t] })
    {base base2 : Nat} {v u : Value} {n m : Nat} {xs ys : List Value} (hs : a.eval s = v) (hown : w.ownsRow base e size v n xs) (hy : a.eval y = u) (hu : w.ownsRow base2 e size u m ys)
    (h1 : ∀ x ∈ ys, x.oneCell' = true) (hsmall : n + m ≤ 1099511627776) (hbase : base ≤ w.heap.size)
    (h : ∀ v' w', w'.ownsRow base e size v' (n + m) (xs ++ ys) → w.grownBy w' v.ownBlock → (v'.ownBlock = v.ownBlock ∨ v'.ownBlock = some w.heap.size) → wpList P ops Q rest (a.put o.dst v') w') :
    wpList P ops Q (o :: rest) a w := by
  have hl := hu.1
  rcases hu.2 with ⟨hu1, hm⟩ | ⟨g, cap, cur, hv, hg⟩
  · subst hm
    have hys : ys = [] := List.eq_nil_of_length_eq_zero (by simpa using hl)
    subst hys
    obtain ⟨i, hi, hz, hsz, hby⟩ := T.info
    refine wpList_append_own_none hgd s y t ho base e i size T.und hi v n xs hs hown (by rw [hy, hu1]) ?_
    refine h v w (by simpa using hown) ⟨rfl, rfl, rfl, Nat.le_refl _, fun _ _ _ => rfl⟩ (.inl rfl)
  · refine wpList_plain hgd fun K hK => ?_
    have hcells : ∀ j x, ys[j]? = some x → w.cell? ((⟨g, 0, none⟩ : Addr).add j) = some x := hu.cells (g := g) (by rw [hv]; rfl)
    obtain ⟨v', w', hr, h2, h3, h4⟩ := run_app_tag (P := P) w T base o.type v n xs hown ⟨g, 0, none⟩ m cap ys hl hcells h1 hsmall hbase
    unfold Oper.wp execOp
    simp only [ho, resolve, invoke, builtin, Sem.run_bind, Sem.run_pure, Result.andThen_ok, List.map_toArray, List.map_cons, List.map_nil, hs, hy, hv, hr]
    exact hK _ _ (h v' w' h2 h3 h4)

theorem own_at {w : World} {base : Nat} {e : TypeId} {a : Option Addr} {n c : Nat} {xs : List Value} (h : w.ownsRow base e 1 (.slice a n c) n xs) {i : Nat} {x : Value} (hx : xs[i]? = some x) :
    ∃ g, a = some ⟨g, 0, none⟩ ∧ w.cell? ⟨g, i, none⟩ = some x ∧ base ≤ g ∧ g < w.heap.size := by
  have hi : i < xs.length := (List.getElem?_eq_some_iff.1 hx).1
  obtain ⟨h1, h2⟩ := h
  rcases h2 with ⟨h2, h3⟩ | ⟨g, cap, cur, hv, hb, hg, hn, hc, hs, ht⟩
  · simp [h3] at h1; subst h1; simp at hi
  · simp only [Value.slice.injEq] at hv
    obtain ⟨rfl, _, rfl⟩ := hv
    refine ⟨g, rfl, ?_, hb, (Array.getElem?_eq_some_iff.1 hg).1⟩
    rw [← ht, List.getElem?_take] at hx
    split at hx
    · simp [World.cell?, hg]
      simpa using hx
    · cases hx

end Go.Proofs.Ytpdndcnhgadgoaa

/- Plain law: merging and stable sorting over a strict weak order that is a Bool function. No program in sight. -/
namespace Go.Proofs.Ytpdndcnhgadgoaa.Mg
set_option linter.unusedVariables false

structure SW {α : Type} (lt : α → α → Bool) : Prop where
  asym : ∀ a b, lt a b = true → lt b a = false
  trans : ∀ a b c, lt a b = true → lt b c = true → lt a c = true
  neg : ∀ a b c, lt a c = true → lt a b = true ∨ lt b c = true

def mrg {α : Type} (lt : α → α → Bool) (l r : List α) : List α := List.merge l r (fun x y => !lt y x)

section
variable {α : Type} {lt : α → α → Bool}

theorem mrg_nil (r : List α) : mrg lt [] r = r := by simp [mrg]
theorem nil_mrg (l : List α) : mrg lt l [] = l := by simp [mrg]
theorem mrg_cons (x : α) (l : List α) (y : α) (r : List α) : mrg lt (x :: l) (y :: r) = if lt y x then y :: mrg lt (x :: l) r else x :: mrg lt l (y :: r) := by
  unfold mrg
  rw [List.cons_merge_cons]
  cases lt y x <;> simp
theorem mrg_lt {x : α} {l : List α} {y : α} {r : List α} (h : lt y x = true) : mrg lt (x :: l) (y :: r) = y :: mrg lt (x :: l) r := by rw [mrg_cons, if_pos h]
theorem mrg_ge {x : α} {l : List α} {y : α} {r : List α} (h : lt y x = false) : mrg lt (x :: l) (y :: r) = x :: mrg lt l (y :: r) := by rw [mrg_cons, if_neg (by rw [h]; simp)]

theorem mrg_perm (l r : List α) : (mrg lt l r).Perm (l ++ r) := List.merge_perm_append _
theorem mrg_mem {l r : List α} {x : α} : x ∈ mrg lt l r ↔ x ∈ l ∨ x ∈ r := by rw [(mrg_perm l r).mem_iff, List.mem_append]
theorem mrg_length (l r : List α) : (mrg lt l r).length = l.length + r.length := by rw [(mrg_perm l r).length_eq, List.length_append]

/-- Both lists are cut in two, so that the earlier parts go ahead of the later ones. -/
theorem mrg_split : ∀ (L1 R1 L2 R2 : List α), (∀ x ∈ L1, ∀ y ∈ R2, lt y x = false) → (∀ x ∈ L2, ∀ y ∈ R1, lt y x = true) →
    mrg lt (L1 ++ L2) (R1 ++ R2) = mrg lt L1 R1 ++ mrg lt L2 R2
  | [], [], L2, R2, _, _ => by simp [mrg_nil]
  | [], y :: R1, L2, R2, h1, h2 => by
    have ih := mrg_split [] R1 L2 R2 (by simp) (fun x hx z hz => h2 x hx z (List.mem_cons_of_mem _ hz))
    simp only [List.nil_append, mrg_nil] at ih ⊢
    cases L2 with
    | nil => simp [mrg_nil]
    | cons x l =>
      rw [List.cons_append, mrg_lt (h2 x (by simp) y (by simp)), ih]; rfl
  | x :: L1, [], L2, R2, h1, h2 => by
    have ih := mrg_split L1 [] L2 R2 (fun z hz => h1 z (List.mem_cons_of_mem _ hz)) (by simp)
    simp only [List.nil_append, nil_mrg] at ih ⊢
    cases R2 with
    | nil => simp [nil_mrg]
    | cons y r =>
      rw [List.cons_append, mrg_ge (h1 x (by simp) y (by simp)), ih]; rfl
  | x :: L1, y :: R1, L2, R2, h1, h2 => by
    have ih1 := mrg_split (x :: L1) R1 L2 R2 h1 (fun z hz v hv => h2 z hz v (List.mem_cons_of_mem _ hv))
    have ih2 := mrg_split L1 (y :: R1) L2 R2 (fun z hz => h1 z (List.mem_cons_of_mem _ hz)) h2
    simp only [List.cons_append] at ih1 ih2 ⊢
    cases h : lt y x
    · rw [mrg_ge h, mrg_ge h, ih2]; rfl
    · rw [mrg_lt h, mrg_lt h, ih1]; rfl
termination_by L1 R1 => L1.length + R1.length

theorem mrg_assoc (S : SW lt) : ∀ (A B C : List α), mrg lt (mrg lt A B) C = mrg lt A (mrg lt B C)
  | [], B, C => by simp [mrg_nil]
  | a :: A, [], C => by simp [nil_mrg, mrg_nil]
  | a :: A, b :: B, [] => by simp [nil_mrg]
  | a :: A, b :: B, c :: C => by
    have i1 := mrg_assoc S (a :: A) (b :: B) C
    have i2 := mrg_assoc S (a :: A) B (c :: C)
    have i3 := mrg_assoc S A (b :: B) (c :: C)
    cases h1 : lt b a
    · cases h2 : lt c b
      · have h3 : lt c a = false := by
          cases h3 : lt c a
          · rfl
          · rcases S.neg c b a h3 with h | h
            · rw [h2] at h; cases h
            · rw [h1] at h; cases h
        rw [mrg_ge h1, mrg_ge h2, mrg_ge h3, mrg_ge h1, i3, mrg_ge h2]
      · cases h3 : lt c a
        · rw [mrg_ge h1, mrg_lt h2, mrg_ge h3, mrg_ge h3, i3, mrg_lt h2]
        · rw [mrg_lt h2, mrg_lt h3, ← i1, mrg_ge h1, mrg_lt h3]
    · cases h2 : lt c b
      · rw [mrg_lt h1, mrg_ge h2, mrg_ge h2, mrg_lt h1, i2]
      · have h3 := S.trans _ _ _ h2 h1
        rw [mrg_lt h1, mrg_lt h2, mrg_lt h2, mrg_lt h3, ← i1, mrg_lt h1]
termination_by A B C => A.length + B.length + C.length

def Asc (lt : α → α → Bool) (l : List α) : Prop := l.Pairwise fun x y => lt y x = false
theorem asc_nil : Asc lt [] := List.Pairwise.nil
theorem asc_one (x : α) : Asc lt [x] := by simp [Asc]

theorem asc_cons {x : α} {l : List α} : Asc lt (x :: l) ↔ (∀ y ∈ l, lt y x = false) ∧ Asc lt l := by simp [Asc]
theorem asc_append {l r : List α} : Asc lt (l ++ r) ↔ Asc lt l ∧ Asc lt r ∧ ∀ x ∈ l, ∀ y ∈ r, lt y x = false := by simp [Asc, List.pairwise_append]

/-- Only what stands side by side need be looked at. -/
theorem le_trans' (S : SW lt) {a b c : α} (h1 : lt b a = false) (h2 : lt c b = false) : lt c a = false := by
  cases h3 : lt c a
  · rfl
  · rcases S.neg c b a h3 with h | h
    · rw [h2] at h; cases h
    · rw [h1] at h; cases h

theorem asc_cons2 (S : SW lt) {x y : α} {l : List α} (h : lt y x = false) (hl : Asc lt (y :: l)) : Asc lt (x :: y :: l) := by
  rw [asc_cons]
  refine ⟨fun z hz => ?_, hl⟩
  rcases List.mem_cons.1 hz with rfl | hz
  · exact h
  · exact le_trans' S h ((asc_cons.1 hl).1 z hz)

theorem asc_of_side (S : SW lt) : ∀ l : List α, (∀ i, (h : i + 1 < l.length) → lt l[i + 1] l[i] = false) → Asc lt l
  | [], _ => asc_nil
  | [x], _ => asc_one x
  | x :: y :: l, h => asc_cons2 S (h 0 (by simp)) (asc_of_side S (y :: l) (fun i hi => h (i + 1) (by simpa using hi)))

theorem mrg_asc (S : SW lt) : ∀ {l r : List α}, Asc lt l → Asc lt r → Asc lt (mrg lt l r)
  | [], r, _, hr => by rw [mrg_nil]; exact hr
  | x :: l, [], hl, _ => by rw [nil_mrg]; exact hl
  | x :: l, y :: r, hl, hr => by
    cases h : lt y x
    · rw [mrg_ge h, asc_cons]
      refine ⟨fun z hz => ?_, mrg_asc S (asc_cons.1 hl).2 hr⟩
      rcases mrg_mem.1 hz with hz | hz
      · exact (asc_cons.1 hl).1 z hz
      · rcases List.mem_cons.1 hz with rfl | hz
        · exact h
        · exact le_trans' S h ((asc_cons.1 hr).1 z hz)
    · rw [mrg_lt h, asc_cons]
      refine ⟨fun z hz => ?_, mrg_asc S hl (asc_cons.1 hr).2⟩
      rcases mrg_mem.1 hz with hz | hz
      · rcases List.mem_cons.1 hz with rfl | hz
        · exact S.asym _ _ h
        · exact le_trans' S (S.asym _ _ h) ((asc_cons.1 hl).1 z hz)
      · exact (asc_cons.1 hr).1 z hz
termination_by l r => l.length + r.length

/-- Where all of l goes ahead of all of r. -/
theorem mrg_ahead {l r : List α} (h : ∀ x ∈ l, ∀ y ∈ r, lt y x = false) : mrg lt l r = l ++ r := by
  have := mrg_split (lt := lt) l [] [] r h (by simp)
  simpa [nil_mrg, mrg_nil] using this
/-- Where all of r goes ahead of all of l. -/
theorem mrg_behind {l r : List α} (h : ∀ x ∈ l, ∀ y ∈ r, lt y x = true) : mrg lt l r = r ++ l := by
  have := mrg_split (lt := lt) [] r l [] (by simp) h
  simpa [nil_mrg, mrg_nil] using this

/-- THE STABLE SORT: element after element merged in. -/
def srt (lt : α → α → Bool) (l : List α) : List α := l.foldl (fun acc x => mrg lt acc [x]) []

theorem srt_snoc (l : List α) (x : α) : srt lt (l ++ [x]) = mrg lt (srt lt l) [x] := by simp [srt]
theorem srt_nil : srt lt [] = [] := rfl
theorem srt_one (x : α) : srt lt [x] = [x] := by simp [srt, mrg_nil]

theorem list_snoc {P : List α → Prop} (h0 : P []) (h1 : ∀ l x, P l → P (l ++ [x])) (l : List α) : P l := by
  have : ∀ n (l : List α), l.length = n → P l := by
    intro n
    induction n with
    | zero => intro l hl; rw [List.eq_nil_of_length_eq_zero hl]; exact h0
    | succ n ih =>
      intro l hl
      have hne : l ≠ [] := by intro e; rw [e] at hl; simp at hl
      rw [← List.dropLast_concat_getLast hne]
      exact h1 _ _ (ih _ (by simp [hl]))
  exact this _ l rfl

theorem srt_append (S : SW lt) (a b : List α) : srt lt (a ++ b) = mrg lt (srt lt a) (srt lt b) := by
  refine list_snoc (P := fun b => srt lt (a ++ b) = mrg lt (srt lt a) (srt lt b)) ?_ ?_ b
  · rw [List.append_nil, srt_nil, nil_mrg]
  · intro l x ih
    rw [← List.append_assoc, srt_snoc, srt_snoc, ih, mrg_assoc S]

theorem srt_cons (S : SW lt) (x : α) (l : List α) : srt lt (x :: l) = mrg lt [x] (srt lt l) := by
  have := srt_append S [x] l
  rw [srt_one] at this
  exact this

theorem srt_perm (l : List α) : (srt lt l).Perm l := by
  refine list_snoc (P := fun l => (srt lt l).Perm l) (by rw [srt_nil]) ?_ l
  intro l x ih
  rw [srt_snoc]
  exact (mrg_perm _ _).trans (ih.append_right [x])
theorem srt_length (l : List α) : (srt lt l).length = l.length := (srt_perm l).length_eq
theorem srt_mem {l : List α} {x : α} : x ∈ srt lt l ↔ x ∈ l := (srt_perm l).mem_iff

theorem srt_asc (S : SW lt) (l : List α) : Asc lt (srt lt l) := by
  refine list_snoc (P := fun l => Asc lt (srt lt l)) asc_nil ?_ l
  intro l x ih
  rw [srt_snoc]; exact mrg_asc S ih (asc_one x)

theorem srt_of_asc {l : List α} (h : Asc lt l) : srt lt l = l := by
  revert h
  refine list_snoc (P := fun l => Asc lt l → srt lt l = l) (fun _ => rfl) ?_ l
  intro l x ih h
  rw [asc_append] at h
  rw [srt_snoc, ih h.1, mrg_ahead h.2.2]

theorem srt_srt (S : SW lt) (l : List α) : srt lt (srt lt l) = srt lt l := srt_of_asc (srt_asc S l)

theorem srt_mrg (S : SW lt) (a b : List α) : mrg lt (srt lt a) (srt lt b) = srt lt (a ++ b) := (srt_append S a b).symm
theorem mrg_srt (S : SW lt) {a b : List α} (ha : Asc lt a) (hb : Asc lt b) : mrg lt a b = srt lt (a ++ b) := by rw [srt_append S, srt_of_asc ha, srt_of_asc hb]

/-- One element on its way down. -/
theorem mrg_down {A B : List α} {x : α} (h : ∀ b ∈ B, lt x b = true) : mrg lt (A ++ B) [x] = mrg lt A [x] ++ B := by
  have := mrg_split (lt := lt) A [x] B [] (by simp) (by simpa using h)
  simpa [nil_mrg] using this
theorem mrg_stop {A : List α} {x : α} (h : ∀ a ∈ A, lt x a = false) : mrg lt A [x] = A ++ [x] := mrg_ahead (by simpa using h)

end

/-! ### by an integer key -/
def ltK {α : Type} (key : α → Int) (a b : α) : Bool := decide (key a < key b)
theorem swK {α : Type} (key : α → Int) : SW (ltK key) :=
  ⟨fun a b h => by simp only [ltK, decide_eq_true_eq, decide_eq_false_iff_not] at *; omega, fun a b c h1 h2 => by simp only [ltK, decide_eq_true_eq] at *; omega,
   fun a b c h => by simp only [ltK, decide_eq_true_eq] at *; omega⟩

end Go.Proofs.Ytpdndcnhgadgoaa.Mg

/- Plain law: an item put into its place in an ascending list, by steps down. No program in sight. -/
namespace Go.Proofs.Ytpdndcnhgadgoaa.Mg
set_option linter.unusedVariables false
section
variable {α : Type} {lt : α → α → Bool}

/-- x stands at place k of A, R behind. -/
def insSt (A : List α) (x : α) (k : Nat) (R : List α) : List α := A.take k ++ x :: (A.drop k ++ R)

theorem insSt_len {A : List α} {x : α} {k : Nat} {R : List α} (hk : k ≤ A.length) : (insSt A x k R).length = A.length + 1 + R.length := by
  unfold insSt
  simp only [List.length_append, List.length_cons, List.length_take, List.length_drop]
  omega
theorem insSt_top (A : List α) (x : α) (R : List α) : insSt A x A.length R = A ++ x :: R := by
  unfold insSt; simp
theorem insSt_at {A : List α} {x : α} {k : Nat} {R : List α} (hk : k ≤ A.length) : (insSt A x k R)[k]? = some x := by
  unfold insSt
  rw [List.getElem?_append_right (by rw [List.length_take]; omega), List.length_take, show k - min k A.length = 0 by omega]
  rfl
theorem insSt_before {A : List α} {x : α} {k : Nat} {R : List α} (hk : k < A.length) : (insSt A x (k + 1) R)[k]? = some A[k] := by
  unfold insSt
  rw [List.getElem?_append_left (by rw [List.length_take]; omega), List.getElem?_take_of_lt (by omega), List.getElem?_eq_getElem hk]
theorem insSt_step {A : List α} {x : α} {k : Nat} {R : List α} (hk : k < A.length) : ((insSt A x (k + 1) R).set k x).set (k + 1) A[k] = insSt A x k R := by
  unfold insSt
  have h1 : A.take (k + 1) = A.take k ++ [A[k]] := by rw [List.take_add_one, List.getElem?_eq_getElem hk]; rfl
  have h2 : A.drop k = A[k] :: A.drop (k + 1) := List.drop_eq_getElem_cons hk
  have hl : (A.take k).length = k := by rw [List.length_take]; omega
  rw [h1, h2, List.append_assoc, List.set_append, if_neg (by omega), hl, Nat.sub_self, List.set_append, if_neg (by omega), hl, show k + 1 - k = 1 by omega]
  rfl
theorem insSt_end (S : SW lt) {A : List α} {x : α} {k : Nat} {R : List α} (hA : Asc lt A) (hk : k ≤ A.length) (hd : ∀ b ∈ A.drop k, lt x b = true) (hs : ∀ (h : 0 < k), lt x (A[k - 1]'(by omega)) = false) :
    insSt A x k R = mrg lt A [x] ++ R := by
  have h1 : mrg lt A [x] = mrg lt (A.take k) [x] ++ A.drop k := by
    have := mrg_down (lt := lt) (A := A.take k) (B := A.drop k) (x := x) hd
    rwa [List.take_append_drop] at this
  have h2 : mrg lt (A.take k) [x] = A.take k ++ [x] := by
    apply mrg_stop
    intro a ha
    obtain ⟨i, hi, rfl⟩ := List.mem_take_iff_getElem.1 ha
    have hi' : i < k := by omega
    have hs' := hs (by omega)
    by_cases e : i = k - 1
    · subst e; exact hs'
    · have := List.pairwise_iff_getElem.1 hA i (k - 1) (by omega) (by omega) (by omega)
      exact le_trans' S this hs'
  unfold insSt
  rw [h1, h2]
  simp
/-- One item more that has its place. -/
theorem insSt_srt (S : SW lt) {l : List α} {x : α} {k : Nat} {R : List α} (hk : k ≤ (srt lt l).length) (hd : ∀ b ∈ (srt lt l).drop k, lt x b = true) (hs : ∀ (h : 0 < k), lt x ((srt lt l)[k - 1]'(by omega)) = false) :
    insSt (srt lt l) x k R = srt lt (l ++ [x]) ++ R := by
  rw [insSt_end S (srt_asc S l) hk hd hs, srt_snoc]

theorem asc_unique (S : SW lt) (ht : ∀ a b, lt a b = false → lt b a = false → a = b) : ∀ {l r : List α}, l.Perm r → Asc lt l → Asc lt r → l = r := by
  intro l r hp hl hr
  exact hp.eq_of_pairwise (fun a b _ _ h1 h2 => ht a b h2 h1) hl hr
end

/-- Integers: the library's sort is this one. -/
def ltI (a b : Int) : Bool := decide (a < b)
theorem swI : SW ltI := swK (fun x : Int => x)
def srtI (l : List Int) : List Int := srt ltI l
theorem merge_srtI (l : List Int) : l.mergeSort (fun x y => decide (x ≤ y)) = srtI l := by
  have h1 : (l.mergeSort (fun x y => decide (x ≤ y))).Pairwise (fun a b => decide (a ≤ b) = true) :=
    List.pairwise_mergeSort (by intro a b c; simp; omega) (by intro a b; simp; omega) l
  have h2 : Asc ltI (l.mergeSort (fun x y => decide (x ≤ y))) := by
    refine h1.imp ?_
    intro a b h
    simp [ltI] at h ⊢
    omega
  refine asc_unique swI (fun a b h1 h2 => by simp [ltI] at h1 h2; omega) ?_ h2 (srt_asc swI l)
  exact (List.mergeSort_perm _ _).trans (srt_perm l).symm
end Go.Proofs.Ytpdndcnhgadgoaa.Mg

/- General: an owned list of integers, sorted by the library; one copied. -/
namespace Go.Proofs.Ytpdndcnhgadgoaa
open Go.RowKit Go.Sort
set_option linter.unusedVariables false

theorem below_grow' {B : Nat} {w : World} (os : Array Obj) (hB : B ≤ w.heap.size) : Below B w (grow w os) :=
  ⟨rfl, rfl, rfl, by simp [grow], fun k hk => heap_grow_old w os (by omega)⟩
theorem grown_put {w : World} {g q : Nat} {ys : List Int} {os : Array Obj} : w.grownBy (grow (putRow (Value.int .i64) (Sort.ahead w q) g 0 ys.toArray) os) (some g) := by
  refine ⟨rfl, rfl, rfl, by simp, fun k hk hne => ?_⟩
  rw [heap_grow_old _ _ (by simpa using hk)]
  have : g ≠ k := fun e => hne (by rw [e])
  simp [putRow, mapBlock, Sort.ahead, Array.getElem?_modify, this]
/-- Behind the library's sort. -/
theorem own_sorted {w : World} {base g n cap q : Nat} {e : TypeId} {zs ys : List Int} {os : Array Obj} (h : w.ownsRow base e 1 (.slice (some ⟨g, 0, none⟩) n cap) n (zs.map (Value.int .i64))) (hy : ys.length = n) :
    (grow (putRow (Value.int .i64) (Sort.ahead w q) g 0 ys.toArray) os).ownsRow base e 1 (.slice (some ⟨g, 0, none⟩) n cap) n (ys.map (Value.int .i64)) := by
  have h1 := Lib.ownsRow_putRow (q := q) (k := n) h hy (Nat.le_refl _)
  rw [List.take_of_length_le (by omega)] at h1
  exact own_below h1 (Nat.le_refl _) (below_grow' os (Nat.le_refl _))
theorem own_holds {w : World} {base g n cap : Nat} {e : TypeId} {zs : List Int} (h : w.ownsRow base e 1 (.slice (some ⟨g, 0, none⟩) n cap) n (zs.map (Value.int .i64))) : Holds (Value.int .i64) w g 0 zs.toArray := by
  obtain ⟨g', c', e', _, _, _, _, _, h3⟩ := Lib.holds_of_ownsRow h (by simp)
  injection e' with e' _ _
  injection e' with e'
  injection e' with e'
  subst e'
  exact h3

theorem own_celli {w : World} {base : Nat} {e : TypeId} {g : Nat} {n c : Nat} {xs : List Value} (h : w.ownsRow base e 1 (.slice (some ⟨g, 0, none⟩) n c) n xs) {i : Nat} {x : Value} (hx : xs[i]? = some x) : w.cell? ⟨g, i, none⟩ = some x := by
  obtain ⟨g', hg, hc, _⟩ := own_at h hx
  simp only [Option.some.injEq, Addr.mk.injEq, and_true] at hg
  rw [hg]; exact hc

/-- One step down of an item that is put into its place. -/
theorem own_step {w : World} {base g n cap k : Nat} {e : TypeId} {A R : List Int} {x : Int} (hk : k < A.length) (h : w.ownsRow base e 1 (.slice (some ⟨g, 0, none⟩) n cap) n ((Mg.insSt A x (k + 1) R).map (Value.int .i64))) :
    ((w.setCell ⟨g, k, none⟩ (.int .i64 x)).setCell ⟨g, k + 1, none⟩ (.int .i64 A[k])).ownsRow base e 1 (.slice (some ⟨g, 0, none⟩) n cap) n ((Mg.insSt A x k R).map (Value.int .i64)) ∧ w.grownBy ((w.setCell ⟨g, k, none⟩ (.int .i64 x)).setCell ⟨g, k + 1, none⟩ (.int .i64 A[k])) (some g) := by
  have h1 := h.stored k (.int .i64 x)
  have h2 := h1.1.stored (k + 1) (.int .i64 A[k])
  refine ⟨?_, grown_trans h1.2 h2.2⟩
  have e1 : ((Mg.insSt A x (k + 1) R).map (Value.int .i64)).set k (.int .i64 x) = ((Mg.insSt A x (k + 1) R).set k x).map (Value.int .i64) := (List.map_set ..).symm
  have e2 : (((Mg.insSt A x (k + 1) R).set k x).map (Value.int .i64)).set (k + 1) (.int .i64 A[k]) = (((Mg.insSt A x (k + 1) R).set k x).set (k + 1) A[k]).map (Value.int .i64) := (List.map_set ..).symm
  have h3 := h2.1
  rw [e1, e2, Mg.insSt_step hk] at h3
  exact h3
theorem own_ins_cells {w : World} {base g n cap k : Nat} {e : TypeId} {A R : List Int} {x : Int} (hk : k < A.length) (h : w.ownsRow base e 1 (.slice (some ⟨g, 0, none⟩) n cap) n ((Mg.insSt A x (k + 1) R).map (Value.int .i64))) :
    w.cell? ⟨g, k, none⟩ = some (.int .i64 A[k]) ∧ w.cell? ⟨g, k + 1, none⟩ = some (.int .i64 x) ∧ w.frozen? ⟨g, k, none⟩ = false ∧ w.frozen? ⟨g, k + 1, none⟩ = false :=
  ⟨own_celli h (by rw [List.getElem?_map, Mg.insSt_before hk]; rfl), own_celli h (by rw [List.getElem?_map, Mg.insSt_at (by omega)]; rfl), h.frozenAt k, h.frozenAt (k + 1)⟩

theorem own_stepD {w : World} {base g n cap k : Nat} {e : TypeId} {A R : List Int} {x y : Int} (hk : k < A.length) (hy : A.getD k 0 = y) (h : w.ownsRow base e 1 (.slice (some ⟨g, 0, none⟩) n cap) n ((Mg.insSt A x (k + 1) R).map (Value.int .i64))) :
    ((w.setCell ⟨g, k, none⟩ (.int .i64 x)).setCell ⟨g, k + 1, none⟩ (.int .i64 y)).ownsRow base e 1 (.slice (some ⟨g, 0, none⟩) n cap) n ((Mg.insSt A x k R).map (Value.int .i64)) ∧ w.grownBy ((w.setCell ⟨g, k, none⟩ (.int .i64 x)).setCell ⟨g, k + 1, none⟩ (.int .i64 y)) (some g) := by
  have e1 : A[k] = y := by rw [← hy, List.getD_eq_getElem?_getD, List.getElem?_eq_getElem hk]; rfl
  subst e1
  exact own_step hk h
theorem own_ins_cellsD {w : World} {base g n cap k : Nat} {e : TypeId} {A R : List Int} {x : Int} (hk : k < A.length) (h : w.ownsRow base e 1 (.slice (some ⟨g, 0, none⟩) n cap) n ((Mg.insSt A x (k + 1) R).map (Value.int .i64))) :
    w.cell? ⟨g, k, none⟩ = some (.int .i64 (A.getD k 0)) ∧ w.cell? ⟨g, k + 1, none⟩ = some (.int .i64 x) ∧ w.frozen? ⟨g, k, none⟩ = false ∧ w.frozen? ⟨g, k + 1, none⟩ = false := by
  have e1 : A.getD k 0 = A[k] := by rw [List.getD_eq_getElem?_getD, List.getElem?_eq_getElem hk]; rfl
  rw [e1]
  exact own_ins_cells hk h
theorem ins_end_int {l : List Int} {x : Int} {k : Nat} {R : List Int} (hk : k ≤ l.length) (hd : ∀ b ∈ (Mg.srtI l).drop k, x < b) (hs : 0 < k → ¬ x < (Mg.srtI l).getD (k - 1) 0) : Mg.insSt (Mg.srtI l) x k R = Mg.srtI (l ++ [x]) ++ R := by
  have hl : (Mg.srtI l).length = l.length := Mg.srt_length l
  refine Mg.insSt_srt Mg.swI (lt := Mg.ltI) (by show k ≤ (Mg.srtI l).length; omega) (fun b hb => by simpa [Mg.ltI] using hd b hb) (fun h0 => ?_)
  have h1 := hs h0
  rw [List.getD_eq_getElem?_getD, List.getElem?_eq_getElem (by omega)] at h1
  unfold Mg.srtI at h1
  simpa [Mg.ltI] using h1
theorem srtI_len (l : List Int) : (Mg.srtI l).length = l.length := Mg.srt_length l
theorem srtI_start (zs : List Int) : zs = Mg.srtI (zs.take 1) ++ zs.drop 1 := by
  cases zs with
  | nil => rfl
  | cons a t => simp [Mg.srtI, Mg.srt_one]
theorem ins_start {zs : List Int} {i : Nat} (hi : i < zs.length) : Mg.srtI (zs.take i) ++ zs.drop i = Mg.insSt (Mg.srtI (zs.take i)) (zs.getD i 0) i (zs.drop (i + 1)) := by
  have hl : (Mg.srtI (zs.take i)).length = i := by rw [srtI_len, List.length_take]; omega
  have h1 := Mg.insSt_top (Mg.srtI (zs.take i)) (zs.getD i 0) (zs.drop (i + 1))
  rw [hl] at h1
  rw [h1, List.drop_eq_getElem_cons hi, List.getD_eq_getElem?_getD, List.getElem?_eq_getElem hi]
  rfl
theorem take_snoc {zs : List Int} {i : Nat} (hi : i < zs.length) : zs.take i ++ [zs.getD i 0] = zs.take (i + 1) := by
  rw [List.take_add_one, List.getElem?_eq_getElem hi, List.getD_eq_getElem?_getD, List.getElem?_eq_getElem hi]
  rfl

theorem own_addr {w : World} {base : Nat} {e : TypeId} {size : Nat} {a : Option Addr} {n c : Nat} {xs : List Value} (h : w.ownsRow base e size (.slice a n c) n xs) (hb : (Value.slice a n c).ownBlock ≠ none) : ∃ g, a = some ⟨g, 0, none⟩ ∧ base ≤ g ∧ g < w.heap.size := by
  rcases h.2 with ⟨h2, _⟩ | ⟨g, cap, cur, hv, hbs, hg, _⟩
  · injection h2 with h2 _ _
    subst h2
    exact absurd rfl hb
  · injection hv with hv _ _
    exact ⟨g, hv, hbs, (Array.getElem?_eq_some_iff.1 hg).1⟩
theorem ints_news {w : World} {x : Addr} {zs : List Int} (h : IntsAt w (some x) zs) : ∀ j u, (zs.map (Value.int .i64))[j]? = some u → w.cell? (x.add j) = some u := by
  intro j u hu
  rw [List.getElem?_map] at hu
  rcases h with rfl | ⟨b, off, e, _, h2⟩
  · simp at hu
  · injection e with e
    subst e
    by_cases hj : j < zs.length
    · rw [List.getElem?_eq_getElem hj] at hu
      have h3 := h2 j hj
      rw [List.getD_eq_getElem?_getD, List.getElem?_eq_getElem hj] at h3
      simp at hu h3
      rw [← hu, ← h3]
      unfold Addr.add
      split <;> simp_all
    · rw [List.getElem?_eq_none (by omega)] at hu; simp at hu
/-- 'append(l, x...)' where x can be read. -/
theorem wpList_appX {P : Program} {w : World} {ops : Array Oper} {rest : List Oper} {o : Oper} {a : Act} {Q : Exit → Act → World → Prop} {t e : TypeId} {z : Value} {size bytes : Nat} (T : SlT P t e z size bytes)
    (hgd : o.guard = none) (s y : Operand) (ho : o.op = .call { callee := .builtin .append, args := #[s, y], argTypes := #[t, t] })
    {base : Nat} {v : Value} {n m c : Nat} {xs ys : List Value} {ad : Addr} (hs : a.eval s = v) (hown : w.ownsRow base e size v n xs) (hy : a.eval y = .slice (some ad) m c) (hl : ys.length = m * size) (hcells : ∀ j x, ys[j]? = some x → w.cell? (ad.add j) = some x)
    (h1 : ∀ x ∈ ys, x.oneCell' = true) (hsmall : n + m ≤ 1099511627776) (hbase : base ≤ w.heap.size)
    (h : ∀ v' w', w'.ownsRow base e size v' (n + m) (xs ++ ys) → w.grownBy w' v.ownBlock → (v'.ownBlock = v.ownBlock ∨ v'.ownBlock = some w.heap.size) → wpList P ops Q rest (a.put o.dst v') w') :
    wpList P ops Q (o :: rest) a w := by
  refine wpList_plain hgd fun K hK => ?_
  obtain ⟨v', w', hr, h2, h3, h4⟩ := run_app_tag (P := P) w T base o.type v n xs hown ad m c ys hl hcells h1 hsmall hbase
  unfold Oper.wp execOp
  simp only [ho, resolve, invoke, builtin, Sem.run_bind, Sem.run_pure, Result.andThen_ok, List.map_toArray, List.map_cons, List.map_nil, hs, hy, hr]
  exact hK _ _ (h v' w' h2 h3 h4)

end Go.Proofs.Ytpdndcnhgadgoaa

/- Rows of integers written at a place in their midst; the swap of two. -/
namespace Go.Proofs.Ytpdndcnhgadgoaa
open Go.RowKit Go.Sort
set_option linter.unusedVariables false

theorem own_putAt {α : Type} [Inhabited α] {enc : α → Value} {w : World} {base : Nat} {e : TypeId} {g n cap q off : Nat} {zs ys : List α} (h : w.ownsRow base e 1 (.slice (some ⟨g, 0, none⟩) n cap) n (zs.map enc)) (hy : off + ys.length ≤ n) :
    (putRow enc (Sort.ahead w q) g off ys.toArray).ownsRow base e 1 (.slice (some ⟨g, 0, none⟩) n cap) n ((zs.take off ++ ys ++ zs.drop (off + ys.length)).map enc) := by
  have hl : zs.length = n := by have := h.1; simpa using this
  rcases h.2 with ⟨e0, _⟩ | ⟨g', cap', cur, e0, hb, hg, hn, hm, hs, ht⟩
  · cases e0
  · injection e0 with e1 _ e3
    injection e1 with e1
    injection e1 with e1
    subst e1; subst e3
    refine ⟨by simp; omega, .inr ⟨g, cap, putCells enc off ys.toArray cur, rfl, hb, ?_, hn, hm, by simpa [putCells] using hs, ?_⟩⟩
    · simp [putRow, mapBlock, Sort.ahead, Array.getElem?_modify, hg, onCells]
    · apply List.ext_getElem?
      intro j
      have hcur : ∀ j, j < n → cur[j]? = (zs[j]?).map enc := fun j hj => by
        have := congrArg (fun l : List Value => l[j]?) ht
        simp only [List.getElem?_take, Nat.mul_one, if_pos hj, Array.getElem?_toList, List.getElem?_map] at this
        exact this
      rw [List.getElem?_take, List.getElem?_map, Array.getElem?_toList]
      by_cases hj : j < n
      · have hjc : j < cur.size := by omega
        simp only [Nat.mul_one, if_pos hj, putCells, Array.getElem?_mapIdx]
        rw [hcur j hj]
        rw [List.getElem?_eq_getElem (by omega : j < zs.length)]
        simp only [Option.map_some]
        by_cases h1 : j < off
        · rw [if_neg (by omega), List.append_assoc, List.getElem?_append_left (by simp; omega), List.getElem?_take, if_pos h1, List.getElem?_eq_getElem (by omega : j < zs.length)]
          rfl
        · by_cases h2 : j < off + ys.length
          · rw [if_pos (by simp; omega), List.getElem?_append_left (by simp; omega), List.getElem?_append_right (by simp; omega)]
            have e1 : j - (zs.take off).length = j - off := by simp; omega
            rw [e1, List.getElem?_eq_getElem (by omega)]
            simp [getElem!_pos, show j - off < ys.length by omega]
          · rw [if_neg (by simp; omega), List.getElem?_append_right (by simp; omega)]
            have e1 : j - (zs.take off ++ ys).length = j - (off + ys.length) := by simp; omega
            rw [e1, List.getElem?_drop, show off + ys.length + (j - (off + ys.length)) = j by omega, List.getElem?_eq_getElem (by omega : j < zs.length)]
            rfl
      · simp only [Nat.mul_one, if_neg hj]
        rw [List.getElem?_eq_none (by simp; omega)]
        rfl

theorem grown_putAt {α : Type} [Inhabited α] {enc : α → Value} {w : World} {g q off : Nat} {ys : List α} : w.grownBy (putRow enc (Sort.ahead w q) g off ys.toArray) (some g) := by
  refine ⟨rfl, rfl, rfl, by simp [putRow, mapBlock, Sort.ahead], fun k hk hne => ?_⟩
  have : g ≠ k := fun e => hne (by rw [e])
  simp [putRow, mapBlock, Sort.ahead, Array.getElem?_modify, this]

theorem holds_part {α : Type} [Inhabited α] {enc : α → Value} {w : World} {g off : Nat} {zs : List α} (h : Holds enc w g 0 zs.toArray) : Holds enc w g off (zs.drop off).toArray := by
  intro j hj
  have hj' : off + j < zs.length := by simp at hj; omega
  have := h (off + j) (by simpa using hj')
  rw [Nat.zero_add] at this
  have e : (zs.drop off).toArray[j]! = zs.toArray[off + j]! := by
    simp [getElem!_pos, hj']
  rw [e]; exact this

theorem swp_list {d : List Int} {i k : Nat} (hi : i < d.length) (hk : k < d.length) (hne : i ≠ k) : (Sort.swp d.toArray i k) = ((d.set i (d.getD k 0)).set k (d.getD i 0)).toArray := by
  unfold Sort.swp
  simp [getElem!_pos, hi, hk, List.getD]

end Go.Proofs.Ytpdndcnhgadgoaa

/- append in a region that draws its order: at a step, any number of elements, and where the result lies. -/
namespace Go.Proofs.Ytpdndcnhgadgoaa
open Go.RowKit
set_option linter.unusedVariables false

theorem wp_appX {P : Program} {w : World} {o : Oper} {a : Act} {K : Act → World → Prop} {Q : Exit → Act → World → Prop} {t e : TypeId} {z : Value} {size bytes : Nat} (T : SlT P t e z size bytes) (s y : Operand)
    (ho : o.op = .call { callee := .builtin .append, args := #[s, y], argTypes := #[t, t] })
    (base : Nat) (v : Value) (n : Nat) (xs : List Value) (ad : Addr) (m c : Nat) (ys : List Value) (hs : a.eval s = v) (hown : w.ownsRow base e size v n xs) (hy : a.eval y = .slice (some ad) m c) (hl : ys.length = m * size)
    (hcells : ∀ j x, ys[j]? = some x → w.cell? (ad.add j) = some x) (h1 : ∀ x ∈ ys, x.oneCell' = true) (hsmall : n + m ≤ 1099511627776) (hbase : base ≤ w.heap.size)
    (h : ∀ v' w', w'.ownsRow base e size v' (n + m) (xs ++ ys) → w.grownBy w' v.ownBlock → (v'.ownBlock = v.ownBlock ∨ v'.ownBlock = some w.heap.size) → K (a.put o.dst v') w') : Oper.wp P o a w K Q := by
  obtain ⟨v', w', hr, h2, h3, h4⟩ := run_app_tag (P := P) w T base o.type v n xs hown ad m c ys hl hcells h1 hsmall hbase
  unfold Oper.wp execOp
  simp only [ho, resolve, invoke, builtin, Sem.run_bind, Sem.run_pure, Result.andThen_ok, List.map_toArray, List.map_cons, List.map_nil, hs, hy, hr]
  exact h v' w' h2 h3 h4

theorem step_appX {P : Program} {w : World} {ops : Array Oper} {o : Oper} {a : Act} {K : Act → World → Prop} {Q : Exit → Act → World → Prop} {E : Prop} {t e : TypeId} {z : Value} {size bytes : Nat} (T : SlT P t e z size bytes) (hgd : o.guard = none) (s y : Operand)
    (ho : o.op = .call { callee := .builtin .append, args := #[s, y], argTypes := #[t, t] })
    (base : Nat) (v : Value) (n : Nat) (xs : List Value) (ad : Addr) (m c : Nat) (ys : List Value) (hs : a.eval s = v) (hown : w.ownsRow base e size v n xs) (hy : a.eval y = .slice (some ad) m c) (hl : ys.length = m * size)
    (hcells : ∀ j x, ys[j]? = some x → w.cell? (ad.add j) = some x) (h1 : ∀ x ∈ ys, x.oneCell' = true) (hsmall : n + m ≤ 1099511627776) (hbase : base ≤ w.heap.size)
    (h : ∀ v' w', w'.ownsRow base e size v' (n + m) (xs ++ ys) → w.grownBy w' v.ownBlock → (v'.ownBlock = v.ownBlock ∨ v'.ownBlock = some w.heap.size) → K (a.put o.dst v') w') :
    if Region.wanted o (yielded ops a.tmps) = true then Oper.wp P o a w K Q else E := by
  have hw : Region.wanted o (yielded ops a.tmps) = true := by simp [Region.wanted, hgd]
  rw [if_pos hw]
  exact wp_appX T s y ho base v n xs ad m c ys hs hown hy hl hcells h1 hsmall hbase h

end Go.Proofs.Ytpdndcnhgadgoaa

/- append in a region that draws its order, beside rows written in their midst. -/

/- A whole element stored in a region that draws its order. -/
namespace Go.Proofs.Ytpdndcnhgadgoaa
open Go.RowKit Go.Sort
set_option linter.unusedVariables false

theorem wp_put {P : Program} {w : World} {o : Oper} {a : Act} {K : Act → World → Prop} {Q : Exit → Act → World → Prop} {t e : TypeId} {z : Value} {size bytes : Nat} (T : SlT P t e z size bytes) (x y : Operand) (hop : o.op = .store e x y)
    {α : Type} (enc : α → List Value) (hS : ∀ r, (enc r).length = size) (h1 : ∀ r, ∀ u ∈ enc r, u.oneCell' = true) (base g n cap : Nat) (rs : List α) (k : Nat) (r : α) (hx : a.eval x = .pointer (some ⟨g, k * size, none⟩)) (hv : (a.eval y).cells.toList = enc r)
    (hown : w.ownsRow base e size (.slice (some ⟨g, 0, none⟩) n cap) n (flat enc rs)) (hk : k < n) (hl : rs.length = n)
    (h : ∀ w', w'.ownsRow base e size (.slice (some ⟨g, 0, none⟩) n cap) n (flat enc (rs.set k r)) → w.grownBy w' (some g) → K (a.put o.dst undef) w') : Oper.wp P o a w K Q := by
  obtain ⟨i, hi, _, hs, _⟩ := T.info
  obtain ⟨w', hr, g1, g2⟩ := own_put hown k hk (enc r) (hS r) (P := P) (h1 r)
  rw [flat_put hS rs k (by omega) r] at g1
  have hsz : (a.eval y).cells.size = i.size := by rw [hs, ← hS r, ← hv]; simp
  unfold Oper.wp execOp
  simp only [hop, hx, Instr.storeAt, Instr.sureAddr, storeVar, sizeOf, typeInfo, hv]
  simp [hi, hsz, hr]
  exact h w' g1 g2

theorem step_put {P : Program} {w : World} {ops : Array Oper} {o : Oper} {a : Act} {K : Act → World → Prop} {Q : Exit → Act → World → Prop} {E : Prop} {t e : TypeId} {z : Value} {size bytes : Nat} (T : SlT P t e z size bytes) (hgd : o.guard = none) (x y : Operand) (hop : o.op = .store e x y)
    {α : Type} (enc : α → List Value) (hS : ∀ r, (enc r).length = size) (h1 : ∀ r, ∀ u ∈ enc r, u.oneCell' = true) (base g n cap : Nat) (rs : List α) (k : Nat) (r : α) (hx : a.eval x = .pointer (some ⟨g, k * size, none⟩)) (hv : (a.eval y).cells.toList = enc r)
    (hown : w.ownsRow base e size (.slice (some ⟨g, 0, none⟩) n cap) n (flat enc rs)) (hk : k < n) (hl : rs.length = n)
    (h : ∀ w', w'.ownsRow base e size (.slice (some ⟨g, 0, none⟩) n cap) n (flat enc (rs.set k r)) → w.grownBy w' (some g) → K (a.put o.dst undef) w') :
    if Region.wanted o (yielded ops a.tmps) = true then Oper.wp P o a w K Q else E := by
  have hw : Region.wanted o (yielded ops a.tmps) = true := by simp [Region.wanted, hgd]
  rw [if_pos hw]
  exact wp_put T x y hop enc hS h1 base g n cap rs k r hx hv hown hk hl h

theorem encR_one (r : Int × Int) : ∀ u ∈ encR r, u.oneCell' = true := by
  intro u hu
  simp [encR] at hu
  rcases hu with rfl | rfl <;> rfl

/-- The cells of an owned row of records. -/
theorem rec_cells {w : World} {base g n cap k : Nat} {e : TypeId} {d : List (Int × Int)} {r : Int × Int} (h : w.ownsRow base e 2 (.slice (some ⟨g, 0, none⟩) n cap) n (flat encR d)) (hk : d[k]? = some r) :
    w.cell? ⟨g, k * 2, none⟩ = some (.int .i64 r.1) ∧ w.cell? ⟨g, k * 2 + 1, none⟩ = some (.int .i64 r.2) := by
  have hlt : k < d.length := (List.getElem?_eq_some_iff.1 hk).1
  obtain ⟨b, off, e1, h1, h2⟩ := (recs_of_own h).at hlt
  injection e1 with e1
  injection e1 with e1 e2 _
  subst e1; subst e2
  rw [Nat.zero_add] at h1 h2
  rw [List.getD_eq_getElem?_getD, hk] at h1 h2
  exact ⟨h1, h2⟩

end Go.Proofs.Ytpdndcnhgadgoaa
