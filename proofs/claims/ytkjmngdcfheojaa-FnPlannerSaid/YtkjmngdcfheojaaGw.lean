/- Walks: two lists that are mostly of the same elements; the element of a rank; a number out of the bytes. -/
import Derived.Test.YtkjmngdcfheojaaGa
import Derived.Test.YtkjmngdcfheojaaGv
import Derived.Test.YtkjmngdcfheojaaGc
namespace Go.Proofs.Ytkjmngdcfheojaa
open Go.RowKit Go.Sort
set_option linter.unusedVariables false

set_option maxRecDepth 100000 in
set_option maxHeartbeats 2000000 in
theorem l1Own_none (w : World) : Calls Try.prog 129 #[.slice none 0 0] w (OwnEnd w [] 0) := by
  have E0 := Lib.hid (own_lit (w := w) (e := 3) (size := 1) #[] 0 (by omega) rfl)
  have HB := Lib.hid (show Below w.heap.size w (w.alloc (.cells #[] 3)) from (Below.refl _ _).alloc (Nat.le_refl _) _)
  have HU : Hid ((w.alloc (.cells #[] 3)).ownsRow w.heap.size 3 1 (.slice none 0 0) 0 []) := ⟨rfl, .inl ⟨rfl, rfl⟩⟩
  have hle : w.heap.size ≤ (w.alloc (.cells #[] 3)).heap.size := by simp
  have hsm : 0 + 0 ≤ 1099511627776 := by omega
  go_enter Try.func129, Try.ntmps129
  go_wp2_with (at_builtin; refine wpList_appL (v := .slice (some ⟨w.heap.size, 0, none⟩) 0 0) slInt rfl _ _ rfl rfl E0.out rfl HU.out (by simp) hsm hle ?_; intro v' w2 hown2 hg2 ht2; obtain ⟨a', c', rfl⟩ := own_slice hown2; have HO := Lib.hid hown2; have HG := Lib.hid hg2; have HT := Lib.hid ht2; clear hown2 hg2 ht2)
  go_wp2
  go_ret
  obtain ⟨g, rfl, _, _⟩ := own_addr HO.out (by
    rcases HT.out with h | h
    · rw [h]; simp [Value.ownBlock]
    · rw [h]; simp)
  refine ⟨g, c', rfl, ?_, HB.out.grown HG.out (by simp) (fun k hk => ?_)⟩
  · have := HO.out
    rw [Nat.zero_add] at this
    simpa using this
  · simp [Value.ownBlock] at hk; omega

theorem l1OwnG_any (a : Option Addr) (c : Nat) (zs : List Int) (w : World) (hlen : zs.length ≤ 1000) (hx : NilOr a c zs) (h : IntsAt w a zs) :
    Calls Try.prog 129 #[.slice a zs.length c] w (OwnEnd w zs zs.length) := by
  cases a with
  | some x => exact l1Own_any x c zs w hlen h
  | none =>
    obtain ⟨rfl, rfl⟩ := hx rfl
    exact l1Own_none w

set_option maxRecDepth 100000 in
set_option maxHeartbeats 4000000 in
theorem l2SortedG_any (x : Option Addr) (cap : Nat) (zs : List Int) (w : World) (hlen : zs.length ≤ 1000) (hx : NilOr x cap zs) (h : IntsAt w x zs) :
    Calls Try.prog 91 #[.slice x zs.length cap] w (OwnEnd w (Mg.srtI zs) zs.length) := by
  have H1 := Lib.hid (l1OwnG_any x cap zs w hlen hx h)
  clear h
  unfold OwnEnd at *
  go_enter Try.func91, Try.ntmps91
  go_wp2_with fail
  refine H1.out.mono ?_
  rintro e w1 ⟨g, c, rfl, ho, hb⟩
  have HO := Lib.hid ho; have HB := Lib.hid hb; clear ho hb H1
  have HS0 := Lib.hid (srtI_start zs)
  go_wp2
  go_loopw [4] (fun v wr => ∃ i : Nat, v = .int .i64 i ∧ 1 ≤ i ∧ (i ≤ zs.length ∨ i = 1) ∧ wr.ownsRow w.heap.size 3 1 (.slice (some ⟨g, 0, none⟩) zs.length c) zs.length ((Mg.srtI (zs.take i) ++ zs.drop i).map (Value.int .i64)) ∧ Below w.heap.size w wr) (fun v _ => zs.length + 1 - (intOf v).toNat)
  case atStart => exact ⟨1, rfl, by omega, .inr rfl, by rw [← HS0.out]; exact HO.out, HB.out⟩
  case round =>
    obtain ⟨i, rfl, hi1, hi2, hown, hb⟩ := hrel
    have HO2 := Lib.hid hown; have HB2 := Lib.hid hb
    clear hown hb
    by_cases hlt : i < zs.length
    case neg =>
      have HO3 := Lib.hid (show wr.ownsRow w.heap.size 3 1 (.slice (some ⟨g, 0, none⟩) zs.length c) zs.length ((Mg.srtI zs).map (Value.int .i64)) from by
        have := HO2.out
        rw [List.take_of_length_le (by omega), List.drop_of_length_le (by omega), List.append_nil] at this
        exact this)
      have h3 : decide ((i : Int) < (zs.length : Int)) = false := by simp; omega
      go_wp2
      go_ret
      exact ⟨g, c, rfl, HO3.out, HB2.out⟩
    have HI0 := Lib.hid (ins_start hlt)
    have HAL : Hid ((Mg.srtI (zs.take i)).length = i) := by show _ = _; rw [srtI_len, List.length_take]; omega
    have HEND := Lib.hid (fun (k : Nat) (hk : k ≤ i) (hd : ∀ b ∈ (Mg.srtI (zs.take i)).drop k, zs.getD i 0 < b) (hs : 0 < k → ¬ zs.getD i 0 < (Mg.srtI (zs.take i)).getD (k - 1) 0) =>
      (ins_end_int (R := zs.drop (i + 1)) (by rw [List.length_take]; omega) hd hs).trans (by rw [take_snoc hlt]))
    rw [HI0.out] at HO2
    clear HI0
    generalize Mg.srtI (zs.take i) = A at HO2 HAL HEND
    generalize zs.getD i 0 = X at HO2 HEND
    have h3 : decide ((i : Int) < (zs.length : Int)) = true := by simp; omega
    have hile : (i : Int) + 1 ≤ 9223372036854775807 := by omega
    go_wp2
    go_loopw [5] (fun v wq => ∃ k : Nat, v = .int .i64 k ∧ k ≤ i ∧ wq.ownsRow w.heap.size 3 1 (.slice (some ⟨g, 0, none⟩) zs.length c) zs.length ((Mg.insSt A X k (zs.drop (i + 1))).map (Value.int .i64)) ∧ (∀ b ∈ A.drop k, X < b) ∧ Below w.heap.size w wq) (fun v _ => (intOf v).toNat)
    case atStart => exact ⟨i, rfl, by omega, HO2.out, by rw [List.drop_of_length_le (by rw [HAL.out]; omega)]; simp, HB2.out⟩
    case round =>
      obtain ⟨k, rfl, hk, ho, hd, hb⟩ := hrel
      have HO4 := Lib.hid ho; have HB4 := Lib.hid hb; have HD := Lib.hid hd
      clear ho hb hd HO2 HB2
      by_cases hk0 : 0 < k
      case neg =>
        obtain rfl : k = 0 := by omega
        have HE := Lib.hid (HEND.out 0 (by omega) HD.out (fun h => absurd h (by omega)))
        rw [HE.out] at HO4
        rw [show ((0 : Nat) : Int) = 0 from rfl]
        go_wp2_with fail
        go_quiet (fail)
        go_wp2
        go_roundw
        case rel => exact ⟨i + 1, by go_num, by omega, by omega, HO4.out, below_drewN HB4.out _⟩
        case measure => simp [intOf] <;> omega
      obtain ⟨m, rfl⟩ : ∃ m, k = m + 1 := ⟨k - 1, by omega⟩
      have hm : m < A.length := by rw [HAL.out]; omega
      obtain ⟨c1, c2, f1, f2⟩ := own_ins_cellsD hm HO4.out
      have HDR : Hid (A.drop m = A.getD m 0 :: A.drop (m + 1)) := by
        show _ = _
        rw [List.drop_eq_getElem_cons hm, List.getD_eq_getElem?_getD, List.getElem?_eq_getElem hm]; rfl
      have HST := Lib.hid (fun (W : World) (y : Int) (hy : A.getD m 0 = y) (h : W.ownsRow w.heap.size 3 1 (.slice (some ⟨g, 0, none⟩) zs.length c) zs.length ((Mg.insSt A X (m + 1) (zs.drop (i + 1))).map (Value.int .i64))) => own_stepD hm hy h)
      have HE1 := Lib.hid (fun hs => HEND.out (m + 1) hk HD.out hs)
      obtain ⟨Y, hY⟩ : ∃ Y, A.getD m 0 = Y := ⟨_, rfl⟩
      rw [hY] at c1 HDR
      have HY := Lib.hid hY
      clear hY hm
      have hcast : ((m + 1 : Nat) : Int) = (m : Int) + 1 := by omega
      have b1 : (0 : Int) ≤ (m : Int) := by omega
      have b2 : (m : Int) + 1 < (zs.length : Int) := by omega
      have b3 : (m : Int) < (zs.length : Int) := by omega
      have hgw : w.heap.size ≤ g := ((HO4.out.lt g rfl).1)
      by_cases hyx : X < Y
      · have hz : decide (X < Y) = true := by simpa using hyx
        rw [hcast]
        go_wp2_with fail
        go_quiet (fail)
        have HYX := Lib.hid hyx
        have HS5 := Lib.hid (HST.out (wr.drewN nq) Y HY.out HO4.out)
        have HB5 := Lib.hid (below_of_grown (below_drewN HB4.out nq) HB4.out.size HS5.out.2 (fun k hk => by injection hk with hk; omega))
        go_wp2
        go_roundw
        case rel => exact ⟨m, by go_num, by omega, HS5.out.1, by
          rw [HDR.out]
          intro b hb
          rcases List.mem_cons.1 hb with rfl | hb
          · exact HYX.out
          · exact HD.out b hb, HB5.out⟩
        case measure => simp [intOf] <;> omega
      · have hz : decide (X < Y) = false := by simpa using hyx
        have HE := Lib.hid (HE1.out (fun _ => by rw [Nat.add_sub_cancel, HY.out]; omega))
        rw [HE.out] at HO4
        rw [hcast]
        go_wp2_with fail
        go_quiet (fail)
        go_wp2
        go_roundw
        case rel => exact ⟨i + 1, by go_num, by omega, by omega, HO4.out, below_drewN HB4.out _⟩
        case measure => simp [intOf] <;> omega


set_option maxRecDepth 100000 in
set_option maxHeartbeats 4000000 in
theorem drawSameElements_any (ac : Option Addr) (c : Nat) (cs : List Int) (w : World) (hl : cs.length ≤ 65537) (h : BytesAt w ac cs) :
    Calls Try.prog 44 #[.slice ac cs.length c] w fun e w' => ∃ (a1 : Option Addr) (c1 : Nat) (zs : List Int) (a2 : Option Addr) (c2 : Nat) (ys : List Int), e = .returned (.tuple #[.slice a1 zs.length c1, .slice a2 ys.length c2]) ∧
      NilOr a1 c1 zs ∧ NilOr a2 c2 ys ∧ zs.length ≤ 70 ∧ ys.length ≤ 70 ∧ IntsAt w' a1 zs ∧ IntsAt w' a2 ys ∧ Below w.heap.size w w' := by
  obtain ⟨h1, h2, h3⟩ := cur_start (c := c) hl h
  have HC := Lib.hid h1; have HO := Lib.hid h2; have HB := Lib.hid h3
  have hB1 : (w.alloc (.cells #[.slice ac cs.length c, .int .i64 0, .int .u64 0] 80)).heap.size = w.heap.size + 1 := by simp
  clear h h1 h2 h3
  go_enter Try.func44, Try.ntmps44
  go_wp2_with fail
  refine (anyInts_any w.heap.size ac cs 0 _ (by omega) HC.out (fun h0 b off e => by have := HO.out h0 b off e; simp; omega)).mono ?_
  rintro e w1 ⟨a1, c1, zs, rfl, ho, hl2, hz, hD⟩
  rw [hB1] at ho
  have HN1 := Lib.hid (nilOr_own ho)
  have HO1 := Lib.hid ho; have HZ := Lib.hid hz; have HD1 := Lib.hid hD
  clear ho hz hD
  go_wp2_with fail
  refine (l2SortedG_any a1 c1 zs w1 (by omega) HN1.out (ints_of_own HO1.out)).mono ?_
  rintro e w2 ⟨gb, cb, rfl, ho, hb⟩
  have HO2 := Lib.hid (own_below HO1.out (Nat.le_refl _) hb)
  have HS2 := Lib.hid ho
  have HLT1 := Lib.hid (fun q hq => (HO1.out.lt q hq).2)
  have HD2 := Lib.hid (HD1.out.below hb)
  have hs1 : w.heap.size + 1 ≤ w1.heap.size := by have := HD1.out.grown.size; omega
  clear ho hb HO1 HD1
  go_wp2_with fail
  refine (pick_any w.heap.size ac cs _ 5 _ ?h1 (by omega) HD2.out.cur).mono ?_
  case h1 => omega
  rintro e w3 ⟨⟨n, rfl, hn0, hn1⟩, hc, hg⟩
  have HO3 := Lib.hid (HD2.out.own HO2.out (by omega) hg)
  have HS3 := Lib.hid (HD2.out.own HS2.out (by omega) hg)
  have HD3 := Lib.hid (HD2.out.step hc hg)
  clear hc hg HO2 HS2 HD2
  have HEND : Hid (∀ W, Drawn (w.alloc (.cells #[.slice ac cs.length c, .int .i64 0, .int .u64 0] 80)) W w.heap.size ac cs 1099511400000 → Below w.heap.size w W) := fun W hW => HB.out.grown hW.grown HB.out.size (fun k hk => by injection hk with hk; omega)
  have hsl : (Mg.srtI zs).length = zs.length := srtI_len zs
  by_cases n0 : n = 0
  · subst n0
    have HD3' : Hid (Drawn w3 w3 w.heap.size ac cs (0 + 1000 + 2)) := ⟨HD3.out.cur, grown_refl _ _, HD3.out.cur.lt, fun h0 b off e => by have := HO.out h0 b off e; have := HD3.out.grown.size; omega⟩
    go_wp2_with fail
    refine (ints_any w.heap.size ac cs _ _ ?h2 HD3.out.cur HD3'.out.old.2).mono ?_
    case h2 => omega
    rintro e w4 ⟨a4, c4, ys, rfl, ho, hl4, hz4, hD⟩
    have HO4 := Lib.hid (own_other HO3.out hD.grown (fun k hk e => by injection e with e; have := (HO3.out.lt k hk).1; omega))
    have HN4 := Lib.hid (nilOr_own ho); have HI4 := Lib.hid (ints_of_own ho)
    have HDD := Lib.hid (HEND.out w4 ⟨hD.cur.mono (by omega), grown_trans HD3.out.grown hD.grown, HD3.out.old⟩)
    clear ho hz4 hD
    go_wp2
    go_ret2
    exact ⟨a1, c1, zs, a4, c4, ys, rfl, HN1.out, HN4.out, hl2, by omega, ints_of_own HO4.out, HI4.out, HDD.out⟩
  have q0 : (n == 0) = false := by simpa using n0
  have HFIN := Lib.hid (HEND.out w3 (HD3.out.mono (by omega)))
  have HNB : Hid (NilOr (some ⟨gb, 0, none⟩) cb (Mg.srtI zs)) := fun h => by cases h
  by_cases n1 : n = 1
  case neg =>
    have q1 : (n == 1) = false := by simpa using n1
    have HI3 := Lib.hid (ints_of_own HS3.out); have HI3' := Lib.hid (ints_of_own HO3.out)
    go_wp2
    go_ret2
    exact ⟨a1, c1, zs, some ⟨gb, 0, none⟩, cb, Mg.srtI zs, by rw [hsl]; rfl, HN1.out, HNB.out, hl2, by omega, HI3'.out, HI3.out, HFIN.out⟩
  subst n1
  by_cases hlen : 0 < zs.length
  case neg =>
    have hz0 : decide ((0 : Int) < (zs.length : Int)) = false := decide_eq_false (by omega)
    have HI3 := Lib.hid (ints_of_own HS3.out); have HI3' := Lib.hid (ints_of_own HO3.out)
    go_wp2
    go_ret2
    exact ⟨a1, c1, zs, some ⟨gb, 0, none⟩, cb, Mg.srtI zs, by rw [hsl]; rfl, HN1.out, HNB.out, hl2, by omega, HI3'.out, HI3.out, HFIN.out⟩
  have hz0 : decide ((0 : Int) < (zs.length : Int)) = true := decide_eq_true (by omega)
  go_wp2_with fail
  refine (pick_any w.heap.size ac cs _ _ _ ?h3 (by omega) HD3.out.cur).mono ?_
  case h3 => omega
  rintro e w4 ⟨⟨r, rfl, hr0, hr1⟩, hc, hg⟩
  have HO4 := Lib.hid (HD3.out.own HO3.out (by omega) hg)
  have HS4 := Lib.hid (HD3.out.own HS3.out (by omega) hg)
  have HD4 := Lib.hid (HD3.out.step hc hg)
  clear hc hg HO3 HS3 HD3
  obtain ⟨k, rfl⟩ := Int.eq_ofNat_of_zero_le hr0
  have hk : k < zs.length := by omega
  have hk' : k < (Mg.srtI zs).length := by omega
  have HXM : Hid (Sm40 (Mg.srtI zs)[k]) := HZ.out _ ((Mg.srt_mem (lt := Mg.ltI)).1 (List.getElem_mem hk'))
  have HCE : Hid (∀ W : World, W.ownsRow w1.heap.size 3 1 (.slice (some ⟨gb, 0, none⟩) zs.length cb) zs.length ((Mg.srtI zs).map (Value.int .i64)) → W.cell? ⟨gb, k, none⟩ = some (.int .i64 (Mg.srtI zs)[k]) ∧ W.frozen? ⟨gb, k, none⟩ = false) := fun W hW => by
    have h1 := own_celli hW (i := k) (x := .int .i64 (Mg.srtI zs)[k]) (by rw [List.getElem?_map, List.getElem?_eq_getElem hk']; rfl)
    have h2 := (own_holds hW k (by simpa using hk')).2
    rw [Nat.zero_add] at h2
    exact ⟨h1, h2⟩
  have HST : Hid (∀ (W : World) (v : Int), W.ownsRow w1.heap.size 3 1 (.slice (some ⟨gb, 0, none⟩) zs.length cb) zs.length ((Mg.srtI zs).map (Value.int .i64)) → (W.setCell ⟨gb, k, none⟩ (.int .i64 v)).ownsRow w1.heap.size 3 1 (.slice (some ⟨gb, 0, none⟩) zs.length cb) zs.length (((Mg.srtI zs).set k v).map (Value.int .i64)) ∧ W.grownBy (W.setCell ⟨gb, k, none⟩ (.int .i64 v)) (some gb)) := fun W v hW => by
    have := hW.stored k (.int .i64 v)
    rw [List.map_set]
    exact this
  obtain ⟨hgb1, hgb2⟩ := HS4.out.lt gb rfl
  generalize hX : (Mg.srtI zs)[k] = X at HXM HCE
  have HAM := Lib.hid (fun (W : World) (hb : Below w4.heap.size w4 W) => by
    have hD5 := HD4.out.below hb
    have hDA := hD5.below ((Below.refl W.heap.size W).alloc (Nat.le_refl _) (.cells #[.int .i64 0, .int .i64 1, .int .i64 (-1)] 3))
    have := among_any w.heap.size ac cs _ (some ⟨W.heap.size, 0, none⟩) 3 [0, 1, -1] (W.alloc (.cells #[.int .i64 0, .int .i64 1, .int .i64 (-1)] 3)) (by omega) (by decide) (by decide) hDA.cur (lit_ints W [0, 1, -1] (by decide)) (fun b off e => by injection e with e; injection e with e; have := hD5.cur.lt; omega)
    exact this.mono (fun e w' ⟨⟨r, he, hr⟩, hc, hg⟩ => (⟨r, he, by simp at hr; omega, hDA.own ((own_below HS4.out (Nat.le_refl _) hb).alloc _) (by omega) hg, hDA.own ((own_below HO4.out (Nat.le_refl _) hb).alloc _) (by omega) hg, HEND.out _ ((hDA.step hc hg).mono (by omega))⟩   : ∃ r : Int, e = Ending.returned (.int .i64 r) ∧ (-1 ≤ r ∧ r ≤ 1) ∧ w'.ownsRow w1.heap.size 3 1 (.slice (some ⟨gb, 0, none⟩) zs.length cb) zs.length ((Mg.srtI zs).map (Value.int .i64)) ∧ w'.ownsRow (w.heap.size + 1) 3 1 (.slice a1 zs.length c1) zs.length (zs.map (Value.int .i64)) ∧ Below w.heap.size w w')))
  have HAM2 := Lib.hid (show Calls Try.prog 93 #[.pointer (some ⟨w.heap.size, 0, none⟩), .slice (some ⟨w4.heap.size, 0, none⟩) 3 3] (w4.alloc (.cells #[.int .i64 0, .int .i64 1, .int .i64 (-1)] 3)).drew _ from HAM.out w4.drew ((Below.refl _ _).drew))
  clear HAM
  obtain ⟨x4, f4⟩ := HCE.out w4 HS4.out
  have b1 : (0 : Int) ≤ (k : Int) := by omega
  have b2 : (k : Int) < (zs.length : Int) := by omega
  obtain ⟨bx1, bx2⟩ := HXM.out
  clear hX hr0 hr1 hk'
  go_wp2_with fail
  go_region_law (first | (go_simp; go_at_call 93; refine HAM2.out.mono ?_; rintro e w5 ⟨y, rfl, ⟨hy1, hy2⟩, hos, hoo, hbe⟩; obtain ⟨x5, f5⟩ := HCE.out w5 hos; have b3 : -9223372036854775808 ≤ X + y := (by omega); have b4 : X + y ≤ 9223372036854775807 := (by omega)))
  all_goals
    have HW5 := Lib.hid (HST.out w5 (IntKind.i64.wrap (X + y)) hos)
    have HG5 := Lib.hid (own_other hoo HW5.out.2 (fun q hq e => by injection e with e; have h2 := HLT1.out q hq; have h4 := hgb1; omega))
    generalize w5.setCell { block := gb, off := k } (Value.int IntKind.i64 (IntKind.i64.wrap (X + y))) = w6 at HW5 HG5 ⊢
    have HBF := Lib.hid (below_of_grown hbe hbe.size HW5.out.2 (fun q hq => by injection hq with hq; omega))
    have HI6 := Lib.hid (ints_of_own HW5.out.1); have HI6' := Lib.hid (ints_of_own HG5.out)
    go_wp2
    go_ret2
    exact ⟨a1, c1, zs, some ⟨gb, 0, none⟩, cb, (Mg.srtI zs).set k (IntKind.i64.wrap (X + y)), by rw [List.length_set, hsl]; rfl, HN1.out, (fun h => by cases h), hl2, by rw [List.length_set, hsl]; exact hl2, HI6'.out, HI6.out, HBF.out⟩

set_option maxRecDepth 100000 in
set_option maxHeartbeats 2000000 in
theorem kthSmallest_any (a : Option Addr) (c : Nat) (zs : List Int) (k : Nat) (w : World) (hok : okList zs = true) (hk : k < zs.length) (hx : NilOr a c zs) (h : IntsAt w a zs) :
    Calls Try.prog 47 #[.slice a zs.length c, .int .i64 k] w fun e w' => e = .returned (.tuple #[.int .i64 ((Mg.srtI zs).getD k 0), .bool true]) ∧ Below w.heap.size w w' := by
  have hl := okList_len hok
  have HR : Hid (Calls Try.prog 95 #[.slice a zs.length c, .int .i64 k] w fun e w' => e = .returned (.bool true) ∧ Below w.heap.size w w') := by
    show Calls _ _ _ _ _
    have HV := isValidList_any a c zs w (by omega) h
    rw [hok] at HV
    have HV := Lib.hid HV
    have HI := in_any (k : Int) 0 ((zs.length : Int) - 1)
    rw [show inB (k : Int) 0 ((zs.length : Int) - 1) = true by simp [inB]; omega] at HI
    have HI := Lib.hid HI
    clear h hx hok
    go_enter Try.func95, Try.ntmps95
    go_wp2_with fail
    refine HV.out.mono ?_
    rintro e w1 ⟨rfl, hb⟩
    have HB := Lib.hid hb; clear hb
    go_wp2_with fail
    refine (HI.out _).mono ?_
    rintro e w2 ⟨rfl, rfl⟩
    go_wp2
    go_ret
    exact ⟨rfl, HB.out⟩
  have HS := Lib.hid (fun W (hb : Below w.heap.size w W) => sortedG_any a c zs W (by omega) hx (h.below (Nat.le_refl _) hb))
  unfold OwnEnd at HS
  have hkl : k < (Mg.srtI zs).length := by rw [srtI_len]; exact hk
  have HG : Hid (((Mg.srtI zs).map (Value.int .i64))[k]? = some (.int .i64 ((Mg.srtI zs).getD k 0))) := by
    show _ = _
    rw [List.getElem?_map, List.getD_eq_getElem?_getD, List.getElem?_eq_getElem hkl]; rfl
  generalize (Mg.srtI zs).getD k 0 = X at HG ⊢
  have b1 : (0 : Int) ≤ (k : Int) := by omega
  have b2 : (k : Int) < (zs.length : Int) := by omega
  clear h hok hkl hk
  go_enter Try.func47, Try.ntmps47
  go_wp2_with fail
  refine HR.out.mono ?_
  rintro e w1 ⟨rfl, hb⟩
  have HB1 := Lib.hid hb; clear hb
  go_wp2_with fail
  refine (HS.out _ HB1.out).mono ?_
  rintro e w2 ⟨g, c2, rfl, ho, hb⟩
  have hc := own_celli ho HG.out
  have HB2 := Lib.hid (bcg HB1.out hb); clear hb ho
  go_wp2
  go_ret2
  exact ⟨rfl, HB2.out⟩

set_option maxHeartbeats 1000000 in
theorem vAt_any (a : Option Addr) (c : Nat) (cs : List Int) (i : Nat) (w : World) (hl : cs.length ≤ 65537) (hi : i ≤ 1000) (h : BytesAt w a cs) :
    Calls Try.prog 45 #[.slice a cs.length c, .int .i64 i] w fun e w' => (∃ r : Int, e = .returned (.int .i64 r) ∧ 0 ≤ r ∧ r ≤ 255) ∧ w = w' := by
  by_cases hlt : i < cs.length
  · obtain ⟨b, off, rfl, hc, hb0, hb1⟩ := h.at hlt
    generalize cs.getD i 0 = x at hc hb0 hb1
    have h3 : decide ((i : Int) < (cs.length : Int)) = true := decide_eq_true (by omega)
    have b1 : (0 : Int) ≤ (i : Int) := by omega
    have b2 : (i : Int) < (cs.length : Int) := by omega
    clear h
    go_enter Try.func45, Try.ntmps45
    go_wp2
    go_ret
    exact ⟨⟨x, rfl, hb0, hb1⟩, rfl⟩
  · have h3 : decide ((i : Int) < (cs.length : Int)) = false := decide_eq_false (by omega)
    have b1 : (0 : Int) ≤ (i : Int) := by omega
    have b2 : (i : Int) * 7 ≤ 7000 := by omega
    have b3 : (0 : Int) ≤ (i : Int) * 7 + (cs.length : Int) := by omega
    have b4 : (i : Int) * 7 + (cs.length : Int) ≤ 100000 := by omega
    have q1 : 0 ≤ ((i : Int) * 7 + (cs.length : Int)).tmod 256 := Int.tmod_nonneg _ b3
    have q2 : ((i : Int) * 7 + (cs.length : Int)).tmod 256 ≤ 255 := by have := Int.tmod_lt_of_pos ((i : Int) * 7 + (cs.length : Int)) (b := 256) (by omega); omega
    have Q := Lib.hid (And.intro q1 q2)
    clear h q1 q2
    go_enter Try.func45, Try.ntmps45
    go_wp2
    go_ret
    exact ⟨⟨_, rfl, Q.out.1, Q.out.2⟩, rfl⟩

end Go.Proofs.Ytkjmngdcfheojaa
