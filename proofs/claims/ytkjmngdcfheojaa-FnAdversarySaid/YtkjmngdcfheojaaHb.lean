/- Walks: facts that the cursor draws; the draw of the law FnAdversary. -/
import Derived.Test.YtkjmngdcfheojaaHa
namespace Go.Proofs.Ytkjmngdcfheojaa
open Go.RowKit Go.Sort
set_option linter.unusedVariables false

theorem Two.drawn {w0 w w' : World} {bc : Nat} {ac : Option Addr} {zs : List Int} {M : Int} {base : Nat} {e1 e2 : TypeId} {s1 s2 n m : Nat} {v u : Value} {xs ys : List Value} (h : Two w base e1 s1 v n xs e2 s2 u m ys) (hD : Drawn w0 w bc ac zs M) (hb : w0.heap.size ≤ base) (hg : w.grownBy w' (some bc)) : Two w' base e1 s1 v n xs e2 s2 u m ys :=
  ⟨hD.own h.fst hb hg, hD.own h.snd hb hg, h.ne⟩

set_option maxRecDepth 100000 in
set_option maxHeartbeats 8000000 in
theorem factsD_any (bc : Nat) (ac : Option Addr) (cs : List Int) (w : World) (h : Cur w bc ac cs 0) (hold : cs ≠ [] → ∀ b off, ac = some ⟨b, off, none⟩ → b < w.heap.size) :
    Calls Try.prog 53 #[.pointer (some ⟨bc, 0, none⟩)] w fun e w' => ∃ (n : Int) (g c' : Nat) (fs : List (Int × Int)), e = .returned (.tuple #[.int .i64 n, .slice (some ⟨g, 0, none⟩) fs.length c']) ∧ -1 ≤ n ∧ n ≤ 6 ∧ w'.ownsRow w.heap.size 32 2 (.slice (some ⟨g, 0, none⟩) fs.length c') fs.length (flat encR fs) ∧ fs.length ≤ 24 ∧ Drawn w w' bc ac cs 1000 := by
  have D0 : Hid (Drawn w w bc ac cs 0) := ⟨h, grown_refl _ _, h.lt, hold⟩
  clear h hold
  go_enter Try.func53, Try.ntmps53
  go_wp2_with fail
  refine (pick_any bc ac cs 0 4 _ (by omega) (by omega) D0.out.cur).mono ?_
  rintro e w1 ⟨⟨n0, rfl, hn0, hn1⟩, hc, hg⟩
  have D1 := Lib.hid (D0.out.step hc hg)
  clear hc hg D0
  go_wp2_with fail
  refine (one_any bc ac cs (0 + 2) 16 _ (by omega) (by omega) D1.out.cur).mono ?_
  rintro e w2 ⟨⟨b, rfl⟩, hc, hg⟩
  have D2 := Lib.hid (D1.out.step hc hg)
  clear hc hg D1
  cases b
  case true =>
    have D2' := Lib.hid (D2.out.below ((Below.refl _ _).alloc (Nat.le_refl _) (.cells #[.int .i64 1, .int .i64 0, .int .i64 6, .int .i64 (-1)] 3)))
    go_wp2_with fail
    refine (among_any bc ac cs _ _ 4 [1, 0, 6, -1] _ ?h2 (by decide) (by decide) D2'.out.cur (lit_ints w2 [1, 0, 6, -1] (by decide)) ?h3).mono ?_
    case h2 => omega
    case h3 => intro b off e; injection e with e; injection e with e; have := D2.out.cur.lt; omega
    rintro e w3 ⟨⟨n, rfl, hx⟩, hc, hg⟩
    have hn : -1 ≤ n ∧ n ≤ 6 := by simp at hx; omega
    have D3 := Lib.hid ((D2'.out.step hc hg).mono (show (0 : Int) + 2 + 2 + 2 ≤ 10 by omega))
    clear hc hg D2 D2' hx hn0 hn1
    obtain ⟨q1, q2⟩ := hn
    obtain ⟨mm, hmm⟩ : ∃ m : Nat, max n 2 = (m : Int) := ⟨(max n 2).toNat, by omega⟩
    have hm2 : 2 ≤ mm := by omega
    have hm6 : mm ≤ 6 := by omega
    have HLM := l1Most_any n 2
    rw [hmm] at HLM
    have HLM := Lib.hid HLM
    go_wp2_with fail
    refine (HLM.out _).mono ?_
    rintro e w4 ⟨rfl, rfl⟩
    have D3s : Hid (cs ≠ [] → ∀ b off, ac = some ⟨b, off, none⟩ → b < w3.heap.size) := fun h0 b off e => Nat.lt_of_lt_of_le (D3.out.old.2 h0 b off e) D3.out.grown.size
    go_wp2_with fail
    refine (permutationD_any bc ac cs _ mm _ (by omega) ?h4 D3.out.cur D3s.out).mono ?_
    case h4 => omega
    rintro e w4 ⟨ap, cp, p, hpl, rfl, ho, hD⟩
    have HPL := Lib.hid hpl
    have hsz : w.heap.size ≤ w3.heap.size := D3.out.grown.size
    have HP4 := Lib.hid (own_mono ho hsz)
    have D4 : Hid (Drawn w w4 bc ac cs 30) := ⟨hD.cur.mono (by omega), grown_trans D3.out.grown hD.grown, D3.out.old⟩
    have hsz4 : w.heap.size ≤ w4.heap.size := D4.out.grown.size
    have HL4 := own_lit (w := w4) (e := 32) (size := 2) #[] 0 (by omega) rfl
    have HT5 : Hid (Two (w4.alloc (.cells #[] 32)) w.heap.size 3 1 (.slice ap mm cp) mm (p.map (Value.int .i64)) 32 2 (.slice (some ⟨w4.heap.size, 0, none⟩) 0 0) 0 []) :=
      ⟨HP4.out.alloc _, own_mono HL4 hsz4, fun q hq e => by have := (HP4.out.lt q hq).2; simp [Value.ownBlock] at e; omega⟩
    have D5 := Lib.hid (D4.out.below ((Below.refl _ _).alloc (Nat.le_refl _) (.cells #[] 32)))
    clear ho hD HP4 D4 D3 HL4 HLM D3s hpl hmm
    go_wp2_with fail
    refine (pick_any bc ac cs _ 5 _ ?h5 (by omega) D5.out.cur).mono ?_
    case h5 => omega
    rintro e w6 ⟨⟨k0, rfl, hk0, hk1⟩, hc, hg⟩
    have HT6 := Lib.hid (HT5.out.drawn D5.out (Nat.le_refl _) hg)
    have D6 := Lib.hid (D5.out.step hc hg)
    clear hc hg HT5 D5
    obtain ⟨kk, rfl⟩ := Int.eq_ofNat_of_zero_le hk0
    go_wp2
    go_loopw [6, 7, 8, 9, 37, 46, 67] (fun v i _ _ _ _ _ wr => ∃ (k : Nat) (fs : List (Int × Int)), i = .int .i64 k ∧ k ≤ 4 ∧ fs.length + k ≤ 4 ∧ (∃ g, v.ownBlock = some g) ∧ Two wr w.heap.size 3 1 (.slice ap mm cp) mm (p.map (Value.int .i64)) 32 2 v fs.length (flat encR fs) ∧ Drawn w wr bc ac cs (40 + 20 * (4 - (k : Int)))) (fun _ i _ _ _ _ _ _ => (intOf i).toNat)
    case atStart => exact ⟨kk, [], rfl, by omega, by simp; omega, ⟨_, rfl⟩, HT6.out, D6.out.mono (by omega)⟩
    case round =>
      obtain ⟨k, fs, rfl, hk, hfk, ⟨g0, hg0⟩, hT, hD⟩ := hrel
      have HT := Lib.hid hT; have HD := Lib.hid hD; have HG0 := Lib.hid hg0
      obtain ⟨af, cf, rfl⟩ := own_slice hT.snd
      clear hT hD hg0 HT6 D6
      rcases Nat.eq_zero_or_pos k with rfl | hkp
      · have h3 : decide ((0 : Int) < ((0 : Nat) : Int)) = false := by simp
        go_wp2_with fail
        refine (pick_any bc ac cs _ 24 _ ?h6 (by omega) HD.out.cur).mono ?_
        case h6 => omega
        rintro e w7 ⟨⟨n4, rfl, hn4, hn5⟩, hc, hg⟩
        have HT7 := Lib.hid (HT.out.drawn HD.out (Nat.le_refl _) hg)
        have HD7 := Lib.hid (HD.out.step hc hg)
        clear hc hg HT HD
        obtain ⟨ga, hga, _, _⟩ := own_addr HT7.out.snd (by rw [HG0.out]; simp)
        subst hga
        by_cases c0 : n4 = 0
        · subst c0
          go_wp2
          go_loopw [6] (fun v wr => ∃ (fs : List (Int × Int)), fs.length ≤ 21 ∧ (∃ g, v.ownBlock = some g) ∧ (∃ a c, v = .slice a fs.length c) ∧ Two wr w.heap.size 3 1 (.slice ap mm cp) mm (p.map (Value.int .i64)) 32 2 v fs.length (flat encR fs) ∧ Drawn w wr bc ac cs (200 + 8 * (fs.length : Int))) (fun v _ => 22 - (match v with | .slice _ l _ => l | _ => 0))
          case atStart => exact ⟨fs, by omega, ⟨_, HG0.out⟩, ⟨_, _, rfl⟩, HT7.out, HD7.out.mono (by omega)⟩
          case round =>
            obtain ⟨fs, hfl, ⟨g0, hg0⟩, ⟨af, cf, rfl⟩, hT, hD⟩ := hrel
            have HT8 := Lib.hid hT; have HD8 := Lib.hid hD; have HG0 := Lib.hid hg0
            clear hT hD hg0 HT7 HD7
            go_wp2_with fail
            refine (pick_any bc ac cs _ 2 _ ?h7 (by omega) HD8.out.cur).mono ?_
            case h7 => omega
            rintro e w8 ⟨⟨z, rfl, hz0, hz1⟩, hc, hg⟩
            have HT9 := Lib.hid (HT8.out.drawn HD8.out (Nat.le_refl _) hg)
            have HD9 := Lib.hid (HD8.out.step hc hg)
            clear hc hg HT8 HD8
            obtain ⟨ga, hga, _, _⟩ := own_addr HT9.out.snd (by rw [HG0.out]; simp)
            subst hga
            by_cases hlt : (fs.length : Int) < 20 + z
            · have h3 : decide ((fs.length : Int) < 20 + z) = true := decide_eq_true hlt
              have hbs := HD9.out.grown.size
              have hn40 : fs.length + 1 ≤ 1099511627776 := by omega
              go_wp2_with (at_builtin; refine wpList_app1 slFact rfl _ _ rfl rfl HT9.out.snd [.int .i64 0, .int .i64 1] rfl rfl (by simp) (by simp [Value.oneCell']) hn40 hbs ?_; intro v' w7 hown' hg' ht'; have HT10 := Lib.hid (HT9.out.app2 hown' hg' ht'); have HD10 := Lib.hid (HD9.out.app HT9.out.snd (Nat.le_refl _) hg'); have HG10 : Hid (∃ g, v'.ownBlock = some g) := (by rcases ht' with h | h; exact ⟨g0, h.trans HG0.out⟩; exact ⟨_, h⟩); clear ht'; obtain ⟨a', c', hv⟩ := own_slice hown'; clear hown' hg')
              rw [hv] at HT10 HG10
              clear hv
              refine ⟨⟨fs ++ [(0, 1)], by simp; omega, HG10.out, ⟨a', c', by simp⟩, by rw [List.length_append, flat_append]; exact HT10.out, HD10.out.mono (by simp; omega)⟩, ?_⟩
              simp; omega
            · have h3 : decide ((fs.length : Int) < 20 + z) = false := decide_eq_false hlt
              have HOF := Lib.hid HT9.out.snd
              go_wp2
              go_ret2
              exact ⟨n, ga, cf, fs, rfl, q1, q2, HOF.out, by omega, HD9.out.mono (by omega)⟩
        have e0 : (n4 == 0) = false := by simpa using c0
        by_cases c1 : n4 = 1
        case neg =>
          have e1 : (n4 == 1) = false := by simpa using c1
          have HOF := Lib.hid HT7.out.snd
          go_wp2
          go_ret2
          exact ⟨n, ga, cf, fs, rfl, q1, q2, HOF.out, by omega, HD7.out.mono (by omega)⟩
        subst c1
        go_wp2_with fail
        refine (pick_any bc ac cs _ 8 _ ?h8 (by omega) HD7.out.cur).mono ?_
        case h8 => omega
        rintro e w8 ⟨⟨y0, rfl, hy0, hy1⟩, hc, hg⟩
        have HT8 := Lib.hid (HT7.out.drawn HD7.out (Nat.le_refl _) hg)
        have HD8 := Lib.hid (HD7.out.step hc hg)
        clear hc hg HT7 HD7
        go_wp2_with fail
        refine (pick_any bc ac cs _ 8 _ ?h9 (by omega) HD8.out.cur).mono ?_
        case h9 => omega
        rintro e w9 ⟨⟨y2, rfl, hy2, hy3⟩, hc, hg⟩
        have HT9 := Lib.hid (HT8.out.drawn HD8.out (Nat.le_refl _) hg)
        have HD9 := Lib.hid (HD8.out.step hc hg)
        clear hc hg HT8 HD8
        have hbs := HD9.out.grown.size
        have hn40 : fs.length + 1 ≤ 1099511627776 := by omega
        go_wp2_with (at_builtin; refine wpList_app1 slFact rfl _ _ rfl rfl HT9.out.snd [.int .i64 (y0 - 1), .int .i64 (y2 - 1)] rfl rfl (by simp) (by simp [Value.oneCell']) hn40 hbs ?_; intro v' w7 hown' hg' ht'; have HD10 := Lib.hid (HD9.out.app HT9.out.snd (Nat.le_refl _) hg'); obtain ⟨a', c', rfl⟩ := own_slice hown'; have HO10 := Lib.hid hown'; clear hown' hg' ht')
        obtain ⟨gx, hgx, _, _⟩ := own_cell HO10.out (by omega)
        subst hgx
        go_wp2
        go_ret2
        exact ⟨n, gx, c', fs ++ [(y0 - 1, y2 - 1)], by simp, q1, q2, by rw [List.length_append, flat_append]; exact HO10.out, by simp; omega, HD10.out.mono (by omega)⟩
      obtain ⟨m, rfl⟩ : ∃ m, k = m + 1 := ⟨k - 1, by omega⟩
      have hcast : ((m + 1 : Nat) : Int) = (m : Int) + 1 := by omega
      rw [hcast] at HD ⊢
      have h3 : decide ((0 : Int) < (m : Int) + 1) = true := decide_eq_true (by omega)
      go_wp2_with fail
      refine (pick_any bc ac cs _ mm _ ?h10 (by omega) HD.out.cur).mono ?_
      case h10 => omega
      rintro e w8 ⟨⟨x, rfl, hx0, hx1⟩, hc, hg⟩
      have HT8 := Lib.hid (HT.out.drawn HD.out (Nat.le_refl _) hg)
      have HD8 := Lib.hid (HD.out.step hc hg)
      clear hc hg HT HD
      go_wp2_with fail
      refine (pick_any bc ac cs _ mm _ ?h11 (by omega) HD8.out.cur).mono ?_
      case h11 => omega
      rintro e w9 ⟨⟨y, rfl, hy0, hy1⟩, hc, hg⟩
      have HT9 := Lib.hid (HT8.out.drawn HD8.out (Nat.le_refl _) hg)
      have HD9 := Lib.hid (HD8.out.step hc hg)
      clear hc hg HT8 HD8
      go_wp2_with fail
      refine (one_any bc ac cs _ 12 _ ?h12 (by omega) HD9.out.cur).mono ?_
      case h12 => omega
      rintro e w10 ⟨⟨bb, rfl⟩, hc, hg⟩
      have HT10 := Lib.hid (HT9.out.drawn HD9.out (Nat.le_refl _) hg)
      have HD10 := Lib.hid (HD9.out.step hc hg)
      clear hc hg HT9 HD9
      have hbs := HD10.out.grown.size
      have hn40 : fs.length + 1 ≤ 1099511627776 := by omega
      cases bb
      case true =>
        go_wp2_with (at_builtin; refine wpList_app1 slFact rfl _ _ rfl rfl HT10.out.snd [.int .i64 x, .int .i64 y] rfl rfl (by simp) (by simp [Value.oneCell']) hn40 hbs ?_; intro v' w7 hown' hg' ht'; have HT7 := Lib.hid (HT10.out.app2 hown' hg' ht'); have HD7 := Lib.hid (HD10.out.app HT10.out.snd (Nat.le_refl _) hg'); have HG7 : Hid (∃ g, v'.ownBlock = some g) := (by rcases ht' with h | h; exact ⟨g0, h.trans HG0.out⟩; exact ⟨_, h⟩); clear hown' hg' ht')
        try go_roundw
        case rel => exact ⟨m, fs ++ [(x, y)], by go_num, by omega, by simp; omega, HG7.out, by rw [List.length_append, flat_append]; exact HT7.out, HD7.out.mono (by omega)⟩
        case measure => simp [intOf] <;> omega
      obtain ⟨x', rfl⟩ := Int.eq_ofNat_of_zero_le hx0
      obtain ⟨y', rfl⟩ := Int.eq_ofNat_of_zero_le hy0
      have hx2 : x' < mm := by omega
      have hy2 : y' < mm := by omega
      obtain ⟨bp, fp, hap, hcx⟩ := (ints_of_own HT10.out.fst).at (k := x') (by rw [HPL.out]; exact hx2)
      obtain ⟨bp2, fp2, hap2, hcy⟩ := (ints_of_own HT10.out.fst).at (k := y') (by rw [HPL.out]; exact hy2)
      subst hap
      injection hap2 with hap2
      injection hap2 with ha1 ha2 _
      subst ha1; subst ha2
      generalize p.getD x' 0 = PX at hcx
      generalize p.getD y' 0 = PY at hcy
      have z1 : (0 : Int) ≤ (x' : Int) := by omega
      have z2 : (0 : Int) ≤ (y' : Int) := by omega
      have z3 : (x' : Int) < (mm : Int) := by omega
      have z4 : (y' : Int) < (mm : Int) := by omega
      by_cases hxy : x' = y'
      · have n1 : ((x' : Int) != (y' : Int)) = false := by rw [hxy]; simp
        clear hcx hcy
        go_wp2_with fail
        go_quiet (fail)
        have HT11 := Lib.hid (HT10.out.below (below_drewN (Below.refl _ _) nq))
        have HD11 := Lib.hid (HD10.out.below (below_drewN (Below.refl _ _) nq))
        go_wp2
        go_roundw
        case rel => exact ⟨m, fs, by go_num, by omega, by omega, ⟨_, HG0.out⟩, HT11.out, HD11.out.mono (by omega)⟩
        case measure => simp [intOf] <;> omega
      have n1 : ((x' : Int) != (y' : Int)) = true := by simp; omega
      by_cases hlt : PX < PY
      · have n2 : decide (PX < PY) = true := decide_eq_true hlt
        go_wp2_with fail
        go_quiet (fail)
        have HT11 := Lib.hid (HT10.out.below (below_drewN (Below.refl _ _) nq))
        have HD11 := Lib.hid (HD10.out.below (below_drewN (Below.refl _ _) nq))
        have hbs := HD11.out.grown.size
        generalize w10.drewN nq = w11 at HT11 HD11 hbs ⊢
        go_wp2_with (at_builtin; refine wpList_app1 slFact rfl _ _ rfl rfl HT11.out.snd [.int .i64 (x' : Int), .int .i64 (y' : Int)] rfl rfl (by simp) (by simp [Value.oneCell']) hn40 hbs ?_; intro v' w7 hown' hg' ht'; have HT7 := Lib.hid (HT11.out.app2 hown' hg' ht'); have HD7 := Lib.hid (HD11.out.app HT11.out.snd (Nat.le_refl _) hg'); have HG7 : Hid (∃ g, v'.ownBlock = some g) := (by rcases ht' with h | h; exact ⟨g0, h.trans HG0.out⟩; exact ⟨_, h⟩); clear hown' hg' ht')
        try go_roundw
        case rel => exact ⟨m, fs ++ [((x' : Int), (y' : Int))], by go_num, by omega, by simp; omega, HG7.out, by rw [List.length_append, flat_append]; exact HT7.out, HD7.out.mono (by omega)⟩
        case measure => simp [intOf] <;> omega
      · have n2 : decide (PX < PY) = false := decide_eq_false hlt
        go_wp2_with fail
        go_quiet (fail)
        have HT11 := Lib.hid (HT10.out.below (below_drewN (Below.refl _ _) nq))
        have HD11 := Lib.hid (HD10.out.below (below_drewN (Below.refl _ _) nq))
        have hbs := HD11.out.grown.size
        generalize w10.drewN nq = w11 at HT11 HD11 hbs ⊢
        go_wp2_with (at_builtin; refine wpList_app1 slFact rfl _ _ rfl rfl HT11.out.snd [.int .i64 (y' : Int), .int .i64 (x' : Int)] rfl rfl (by simp) (by simp [Value.oneCell']) hn40 hbs ?_; intro v' w7 hown' hg' ht'; have HT7 := Lib.hid (HT11.out.app2 hown' hg' ht'); have HD7 := Lib.hid (HD11.out.app HT11.out.snd (Nat.le_refl _) hg'); have HG7 : Hid (∃ g, v'.ownBlock = some g) := (by rcases ht' with h | h; exact ⟨g0, h.trans HG0.out⟩; exact ⟨_, h⟩); clear hown' hg' ht')
        try go_roundw
        case rel => exact ⟨m, fs ++ [((y' : Int), (x' : Int))], by go_num, by omega, by simp; omega, HG7.out, by rw [List.length_append, flat_append]; exact HT7.out, HD7.out.mono (by omega)⟩
        case measure => simp [intOf] <;> omega
  case false =>
    obtain ⟨n, hn2⟩ : ∃ n : Int, n = 2 + n0 := ⟨_, rfl⟩
    have hn : -1 ≤ n ∧ n ≤ 6 := by omega
    have D3 := Lib.hid (D2.out.mono (show (0 : Int) + 2 + 2 ≤ 10 by omega))
    clear D2
    go_wp2_with fail
    rw [← hn2]
    clear hn2 hn0 hn1
    obtain ⟨q1, q2⟩ := hn
    obtain ⟨mm, hmm⟩ : ∃ m : Nat, max n 2 = (m : Int) := ⟨(max n 2).toNat, by omega⟩
    have hm2 : 2 ≤ mm := by omega
    have hm6 : mm ≤ 6 := by omega
    have HLM := l1Most_any n 2
    rw [hmm] at HLM
    have HLM := Lib.hid HLM
    go_wp2_with fail
    refine (HLM.out _).mono ?_
    rintro e w4 ⟨rfl, rfl⟩
    have D3s : Hid (cs ≠ [] → ∀ b off, ac = some ⟨b, off, none⟩ → b < w2.heap.size) := fun h0 b off e => Nat.lt_of_lt_of_le (D3.out.old.2 h0 b off e) D3.out.grown.size
    go_wp2_with fail
    refine (permutationD_any bc ac cs _ mm _ (by omega) ?h4 D3.out.cur D3s.out).mono ?_
    case h4 => omega
    rintro e w4 ⟨ap, cp, p, hpl, rfl, ho, hD⟩
    have HPL := Lib.hid hpl
    have hsz : w.heap.size ≤ w2.heap.size := D3.out.grown.size
    have HP4 := Lib.hid (own_mono ho hsz)
    have D4 : Hid (Drawn w w4 bc ac cs 30) := ⟨hD.cur.mono (by omega), grown_trans D3.out.grown hD.grown, D3.out.old⟩
    have hsz4 : w.heap.size ≤ w4.heap.size := D4.out.grown.size
    have HL4 := own_lit (w := w4) (e := 32) (size := 2) #[] 0 (by omega) rfl
    have HT5 : Hid (Two (w4.alloc (.cells #[] 32)) w.heap.size 3 1 (.slice ap mm cp) mm (p.map (Value.int .i64)) 32 2 (.slice (some ⟨w4.heap.size, 0, none⟩) 0 0) 0 []) :=
      ⟨HP4.out.alloc _, own_mono HL4 hsz4, fun q hq e => by have := (HP4.out.lt q hq).2; simp [Value.ownBlock] at e; omega⟩
    have D5 := Lib.hid (D4.out.below ((Below.refl _ _).alloc (Nat.le_refl _) (.cells #[] 32)))
    clear ho hD HP4 D4 D3 HL4 HLM D3s hpl hmm
    go_wp2_with fail
    refine (pick_any bc ac cs _ 5 _ ?h5 (by omega) D5.out.cur).mono ?_
    case h5 => omega
    rintro e w6 ⟨⟨k0, rfl, hk0, hk1⟩, hc, hg⟩
    have HT6 := Lib.hid (HT5.out.drawn D5.out (Nat.le_refl _) hg)
    have D6 := Lib.hid (D5.out.step hc hg)
    clear hc hg HT5 D5
    obtain ⟨kk, rfl⟩ := Int.eq_ofNat_of_zero_le hk0
    go_wp2
    go_loopw [6, 7, 8, 9, 37, 46, 67] (fun v i _ _ _ _ _ wr => ∃ (k : Nat) (fs : List (Int × Int)), i = .int .i64 k ∧ k ≤ 4 ∧ fs.length + k ≤ 4 ∧ (∃ g, v.ownBlock = some g) ∧ Two wr w.heap.size 3 1 (.slice ap mm cp) mm (p.map (Value.int .i64)) 32 2 v fs.length (flat encR fs) ∧ Drawn w wr bc ac cs (40 + 20 * (4 - (k : Int)))) (fun _ i _ _ _ _ _ _ => (intOf i).toNat)
    case atStart => exact ⟨kk, [], rfl, by omega, by simp; omega, ⟨_, rfl⟩, HT6.out, D6.out.mono (by omega)⟩
    case round =>
      obtain ⟨k, fs, rfl, hk, hfk, ⟨g0, hg0⟩, hT, hD⟩ := hrel
      have HT := Lib.hid hT; have HD := Lib.hid hD; have HG0 := Lib.hid hg0
      obtain ⟨af, cf, rfl⟩ := own_slice hT.snd
      clear hT hD hg0 HT6 D6
      rcases Nat.eq_zero_or_pos k with rfl | hkp
      · have h3 : decide ((0 : Int) < ((0 : Nat) : Int)) = false := by simp
        go_wp2_with fail
        refine (pick_any bc ac cs _ 24 _ ?h6 (by omega) HD.out.cur).mono ?_
        case h6 => omega
        rintro e w7 ⟨⟨n4, rfl, hn4, hn5⟩, hc, hg⟩
        have HT7 := Lib.hid (HT.out.drawn HD.out (Nat.le_refl _) hg)
        have HD7 := Lib.hid (HD.out.step hc hg)
        clear hc hg HT HD
        obtain ⟨ga, hga, _, _⟩ := own_addr HT7.out.snd (by rw [HG0.out]; simp)
        subst hga
        by_cases c0 : n4 = 0
        · subst c0
          go_wp2
          go_loopw [6] (fun v wr => ∃ (fs : List (Int × Int)), fs.length ≤ 21 ∧ (∃ g, v.ownBlock = some g) ∧ (∃ a c, v = .slice a fs.length c) ∧ Two wr w.heap.size 3 1 (.slice ap mm cp) mm (p.map (Value.int .i64)) 32 2 v fs.length (flat encR fs) ∧ Drawn w wr bc ac cs (200 + 8 * (fs.length : Int))) (fun v _ => 22 - (match v with | .slice _ l _ => l | _ => 0))
          case atStart => exact ⟨fs, by omega, ⟨_, HG0.out⟩, ⟨_, _, rfl⟩, HT7.out, HD7.out.mono (by omega)⟩
          case round =>
            obtain ⟨fs, hfl, ⟨g0, hg0⟩, ⟨af, cf, rfl⟩, hT, hD⟩ := hrel
            have HT8 := Lib.hid hT; have HD8 := Lib.hid hD; have HG0 := Lib.hid hg0
            clear hT hD hg0 HT7 HD7
            go_wp2_with fail
            refine (pick_any bc ac cs _ 2 _ ?h7 (by omega) HD8.out.cur).mono ?_
            case h7 => omega
            rintro e w8 ⟨⟨z, rfl, hz0, hz1⟩, hc, hg⟩
            have HT9 := Lib.hid (HT8.out.drawn HD8.out (Nat.le_refl _) hg)
            have HD9 := Lib.hid (HD8.out.step hc hg)
            clear hc hg HT8 HD8
            obtain ⟨ga, hga, _, _⟩ := own_addr HT9.out.snd (by rw [HG0.out]; simp)
            subst hga
            by_cases hlt : (fs.length : Int) < 20 + z
            · have h3 : decide ((fs.length : Int) < 20 + z) = true := decide_eq_true hlt
              have hbs := HD9.out.grown.size
              have hn40 : fs.length + 1 ≤ 1099511627776 := by omega
              go_wp2_with (at_builtin; refine wpList_app1 slFact rfl _ _ rfl rfl HT9.out.snd [.int .i64 0, .int .i64 1] rfl rfl (by simp) (by simp [Value.oneCell']) hn40 hbs ?_; intro v' w7 hown' hg' ht'; have HT10 := Lib.hid (HT9.out.app2 hown' hg' ht'); have HD10 := Lib.hid (HD9.out.app HT9.out.snd (Nat.le_refl _) hg'); have HG10 : Hid (∃ g, v'.ownBlock = some g) := (by rcases ht' with h | h; exact ⟨g0, h.trans HG0.out⟩; exact ⟨_, h⟩); clear ht'; obtain ⟨a', c', hv⟩ := own_slice hown'; clear hown' hg')
              rw [hv] at HT10 HG10
              clear hv
              refine ⟨⟨fs ++ [(0, 1)], by simp; omega, HG10.out, ⟨a', c', by simp⟩, by rw [List.length_append, flat_append]; exact HT10.out, HD10.out.mono (by simp; omega)⟩, ?_⟩
              simp; omega
            · have h3 : decide ((fs.length : Int) < 20 + z) = false := decide_eq_false hlt
              have HOF := Lib.hid HT9.out.snd
              go_wp2
              go_ret2
              exact ⟨n, ga, cf, fs, rfl, q1, q2, HOF.out, by omega, HD9.out.mono (by omega)⟩
        have e0 : (n4 == 0) = false := by simpa using c0
        by_cases c1 : n4 = 1
        case neg =>
          have e1 : (n4 == 1) = false := by simpa using c1
          have HOF := Lib.hid HT7.out.snd
          go_wp2
          go_ret2
          exact ⟨n, ga, cf, fs, rfl, q1, q2, HOF.out, by omega, HD7.out.mono (by omega)⟩
        subst c1
        go_wp2_with fail
        refine (pick_any bc ac cs _ 8 _ ?h8 (by omega) HD7.out.cur).mono ?_
        case h8 => omega
        rintro e w8 ⟨⟨y0, rfl, hy0, hy1⟩, hc, hg⟩
        have HT8 := Lib.hid (HT7.out.drawn HD7.out (Nat.le_refl _) hg)
        have HD8 := Lib.hid (HD7.out.step hc hg)
        clear hc hg HT7 HD7
        go_wp2_with fail
        refine (pick_any bc ac cs _ 8 _ ?h9 (by omega) HD8.out.cur).mono ?_
        case h9 => omega
        rintro e w9 ⟨⟨y2, rfl, hy2, hy3⟩, hc, hg⟩
        have HT9 := Lib.hid (HT8.out.drawn HD8.out (Nat.le_refl _) hg)
        have HD9 := Lib.hid (HD8.out.step hc hg)
        clear hc hg HT8 HD8
        have hbs := HD9.out.grown.size
        have hn40 : fs.length + 1 ≤ 1099511627776 := by omega
        go_wp2_with (at_builtin; refine wpList_app1 slFact rfl _ _ rfl rfl HT9.out.snd [.int .i64 (y0 - 1), .int .i64 (y2 - 1)] rfl rfl (by simp) (by simp [Value.oneCell']) hn40 hbs ?_; intro v' w7 hown' hg' ht'; have HD10 := Lib.hid (HD9.out.app HT9.out.snd (Nat.le_refl _) hg'); obtain ⟨a', c', rfl⟩ := own_slice hown'; have HO10 := Lib.hid hown'; clear hown' hg' ht')
        obtain ⟨gx, hgx, _, _⟩ := own_cell HO10.out (by omega)
        subst hgx
        go_wp2
        go_ret2
        exact ⟨n, gx, c', fs ++ [(y0 - 1, y2 - 1)], by simp, q1, q2, by rw [List.length_append, flat_append]; exact HO10.out, by simp; omega, HD10.out.mono (by omega)⟩
      obtain ⟨m, rfl⟩ : ∃ m, k = m + 1 := ⟨k - 1, by omega⟩
      have hcast : ((m + 1 : Nat) : Int) = (m : Int) + 1 := by omega
      rw [hcast] at HD ⊢
      have h3 : decide ((0 : Int) < (m : Int) + 1) = true := decide_eq_true (by omega)
      go_wp2_with fail
      refine (pick_any bc ac cs _ mm _ ?h10 (by omega) HD.out.cur).mono ?_
      case h10 => omega
      rintro e w8 ⟨⟨x, rfl, hx0, hx1⟩, hc, hg⟩
      have HT8 := Lib.hid (HT.out.drawn HD.out (Nat.le_refl _) hg)
      have HD8 := Lib.hid (HD.out.step hc hg)
      clear hc hg HT HD
      go_wp2_with fail
      refine (pick_any bc ac cs _ mm _ ?h11 (by omega) HD8.out.cur).mono ?_
      case h11 => omega
      rintro e w9 ⟨⟨y, rfl, hy0, hy1⟩, hc, hg⟩
      have HT9 := Lib.hid (HT8.out.drawn HD8.out (Nat.le_refl _) hg)
      have HD9 := Lib.hid (HD8.out.step hc hg)
      clear hc hg HT8 HD8
      go_wp2_with fail
      refine (one_any bc ac cs _ 12 _ ?h12 (by omega) HD9.out.cur).mono ?_
      case h12 => omega
      rintro e w10 ⟨⟨bb, rfl⟩, hc, hg⟩
      have HT10 := Lib.hid (HT9.out.drawn HD9.out (Nat.le_refl _) hg)
      have HD10 := Lib.hid (HD9.out.step hc hg)
      clear hc hg HT9 HD9
      have hbs := HD10.out.grown.size
      have hn40 : fs.length + 1 ≤ 1099511627776 := by omega
      cases bb
      case true =>
        go_wp2_with (at_builtin; refine wpList_app1 slFact rfl _ _ rfl rfl HT10.out.snd [.int .i64 x, .int .i64 y] rfl rfl (by simp) (by simp [Value.oneCell']) hn40 hbs ?_; intro v' w7 hown' hg' ht'; have HT7 := Lib.hid (HT10.out.app2 hown' hg' ht'); have HD7 := Lib.hid (HD10.out.app HT10.out.snd (Nat.le_refl _) hg'); have HG7 : Hid (∃ g, v'.ownBlock = some g) := (by rcases ht' with h | h; exact ⟨g0, h.trans HG0.out⟩; exact ⟨_, h⟩); clear hown' hg' ht')
        try go_roundw
        case rel => exact ⟨m, fs ++ [(x, y)], by go_num, by omega, by simp; omega, HG7.out, by rw [List.length_append, flat_append]; exact HT7.out, HD7.out.mono (by omega)⟩
        case measure => simp [intOf] <;> omega
      obtain ⟨x', rfl⟩ := Int.eq_ofNat_of_zero_le hx0
      obtain ⟨y', rfl⟩ := Int.eq_ofNat_of_zero_le hy0
      have hx2 : x' < mm := by omega
      have hy2 : y' < mm := by omega
      obtain ⟨bp, fp, hap, hcx⟩ := (ints_of_own HT10.out.fst).at (k := x') (by rw [HPL.out]; exact hx2)
      obtain ⟨bp2, fp2, hap2, hcy⟩ := (ints_of_own HT10.out.fst).at (k := y') (by rw [HPL.out]; exact hy2)
      subst hap
      injection hap2 with hap2
      injection hap2 with ha1 ha2 _
      subst ha1; subst ha2
      generalize p.getD x' 0 = PX at hcx
      generalize p.getD y' 0 = PY at hcy
      have z1 : (0 : Int) ≤ (x' : Int) := by omega
      have z2 : (0 : Int) ≤ (y' : Int) := by omega
      have z3 : (x' : Int) < (mm : Int) := by omega
      have z4 : (y' : Int) < (mm : Int) := by omega
      by_cases hxy : x' = y'
      · have n1 : ((x' : Int) != (y' : Int)) = false := by rw [hxy]; simp
        clear hcx hcy
        go_wp2_with fail
        go_quiet (fail)
        have HT11 := Lib.hid (HT10.out.below (below_drewN (Below.refl _ _) nq))
        have HD11 := Lib.hid (HD10.out.below (below_drewN (Below.refl _ _) nq))
        go_wp2
        go_roundw
        case rel => exact ⟨m, fs, by go_num, by omega, by omega, ⟨_, HG0.out⟩, HT11.out, HD11.out.mono (by omega)⟩
        case measure => simp [intOf] <;> omega
      have n1 : ((x' : Int) != (y' : Int)) = true := by simp; omega
      by_cases hlt : PX < PY
      · have n2 : decide (PX < PY) = true := decide_eq_true hlt
        go_wp2_with fail
        go_quiet (fail)
        have HT11 := Lib.hid (HT10.out.below (below_drewN (Below.refl _ _) nq))
        have HD11 := Lib.hid (HD10.out.below (below_drewN (Below.refl _ _) nq))
        have hbs := HD11.out.grown.size
        generalize w10.drewN nq = w11 at HT11 HD11 hbs ⊢
        go_wp2_with (at_builtin; refine wpList_app1 slFact rfl _ _ rfl rfl HT11.out.snd [.int .i64 (x' : Int), .int .i64 (y' : Int)] rfl rfl (by simp) (by simp [Value.oneCell']) hn40 hbs ?_; intro v' w7 hown' hg' ht'; have HT7 := Lib.hid (HT11.out.app2 hown' hg' ht'); have HD7 := Lib.hid (HD11.out.app HT11.out.snd (Nat.le_refl _) hg'); have HG7 : Hid (∃ g, v'.ownBlock = some g) := (by rcases ht' with h | h; exact ⟨g0, h.trans HG0.out⟩; exact ⟨_, h⟩); clear hown' hg' ht')
        try go_roundw
        case rel => exact ⟨m, fs ++ [((x' : Int), (y' : Int))], by go_num, by omega, by simp; omega, HG7.out, by rw [List.length_append, flat_append]; exact HT7.out, HD7.out.mono (by omega)⟩
        case measure => simp [intOf] <;> omega
      · have n2 : decide (PX < PY) = false := decide_eq_false hlt
        go_wp2_with fail
        go_quiet (fail)
        have HT11 := Lib.hid (HT10.out.below (below_drewN (Below.refl _ _) nq))
        have HD11 := Lib.hid (HD10.out.below (below_drewN (Below.refl _ _) nq))
        have hbs := HD11.out.grown.size
        generalize w10.drewN nq = w11 at HT11 HD11 hbs ⊢
        go_wp2_with (at_builtin; refine wpList_app1 slFact rfl _ _ rfl rfl HT11.out.snd [.int .i64 (y' : Int), .int .i64 (x' : Int)] rfl rfl (by simp) (by simp [Value.oneCell']) hn40 hbs ?_; intro v' w7 hown' hg' ht'; have HT7 := Lib.hid (HT11.out.app2 hown' hg' ht'); have HD7 := Lib.hid (HD11.out.app HT11.out.snd (Nat.le_refl _) hg'); have HG7 : Hid (∃ g, v'.ownBlock = some g) := (by rcases ht' with h | h; exact ⟨g0, h.trans HG0.out⟩; exact ⟨_, h⟩); clear hown' hg' ht')
        try go_roundw
        case rel => exact ⟨m, fs ++ [((y' : Int), (x' : Int))], by go_num, by omega, by simp; omega, HG7.out, by rw [List.length_append, flat_append]; exact HT7.out, HD7.out.mono (by omega)⟩
        case measure => simp [intOf] <;> omega

end Go.Proofs.Ytkjmngdcfheojaa
