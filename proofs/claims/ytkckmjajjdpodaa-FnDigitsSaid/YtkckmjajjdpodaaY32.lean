/- Several texts in one: lemmas and walks of the functions that the laws reach. -/
import Derived.Test.YtkckmjajjdpodaaY31

/- Walks: the draw of the counting sort. -/
namespace Go.Proofs.Ytkckmjajjdpodaa
open Go.RowKit Go.Sort
set_option linter.unusedVariables false

set_option maxHeartbeats 400000 in
theorem l1LeastL_any (x y : Int) (w : World) : Calls Try.prog 119 #[.int .i64 x, .int .i64 y] w fun e w' => e = .returned (.int .i64 (min x y)) ∧ w = w' := by
  by_cases h : x < y
  all_goals
    go_enter Try.func119, Try.ntmps119
    go_wp2
    go_ret
    exact ⟨ret_int (by omega), rfl⟩
set_option maxHeartbeats 400000 in
theorem l1MostL_any (x y : Int) (w : World) : Calls Try.prog 120 #[.int .i64 x, .int .i64 y] w fun e w' => e = .returned (.int .i64 (max x y)) ∧ w = w' := by
  by_cases h : y < x
  all_goals
    go_enter Try.func120, Try.ntmps120
    go_wp2
    go_ret
    exact ⟨ret_int (by omega), rfl⟩

theorem set_same {α : Type} {l : List α} {j : Nat} {y : α} (h : l[j]? = some y) : l.set j y = l := by
  refine List.ext_getElem? fun i => ?_
  rw [List.getElem?_set]
  split
  · rename_i e
    subst e
    rw [h]
    have := (List.getElem?_eq_some_iff.1 h).1
    rw [if_pos this]
  · rfl
theorem flat_setKey {K : List (Int × Int)} {i : Nat} {x y v : Int} (hi : i < K.length) (hy : (flat encR K)[i * 2 + 1]? = some (.int .i64 y)) : (flat encR K).set (i * 2) (.int .i64 v) = flat encR (K.set i (v, y)) := by
  have h := flat_set2 encR_len K i hi (v, y) (.int .i64 v) (.int .i64 y) rfl
  rw [← h]
  exact (set_same (by rw [List.getElem?_set_ne (by omega)]; exact hy)).symm

set_option maxRecDepth 100000 in
set_option maxHeartbeats 4000000 in
theorem drawCountingSort_any (ac : Option Addr) (c : Nat) (cs : List Int) (w : World) (hl : cs.length ≤ 65537) (h : BytesAt w ac cs) :
    Calls Try.prog 51 #[.slice ac cs.length c] w (CkDraw w) := by
  obtain ⟨h1, h2, h3⟩ := cur_start (c := c) hl h
  have HC := Lib.hid h1; have HO := Lib.hid h2; have HB := Lib.hid h3
  clear h h1 h2 h3
  have hsz : (w.alloc (.cells #[.slice ac cs.length c, .int .i64 0, .int .u64 0] 107)).heap.size = w.heap.size + 1 := by rw [size_al]
  unfold CkDraw
  go_enter Try.func51, Try.ntmps51
  go_wp2_with fail
  refine (anyRecords_any w.heap.size ac cs 0 _ (by omega) HC.out (fun h0 b off e => by have := HO.out h0 b off e; omega)).mono ?_
  rintro e w1 ⟨a1, c1, L, rfl, ho, hl1, hD⟩
  rw [hsz] at ho
  obtain ⟨n, hn⟩ : ∃ n, L.length = n := ⟨_, rfl⟩
  rw [hn] at ho hl1
  rw [hn]
  have HO1 := Lib.hid ho
  have HD1 := Lib.hid hD
  have HLN := Lib.hid hn
  clear ho hD HC HO hn
  go_wp2_with fail
  refine (one_any w.heap.size ac cs _ 4 _ ?h1 (by omega) HD1.out.cur).mono ?_
  case h1 => omega
  rintro e w2 ⟨⟨b, rfl⟩, hc, hg⟩
  have HO2 := Lib.hid (HD1.out.own HO1.out (by rw [hsz]; exact Nat.le_refl _) hg)
  have HD2 := Lib.hid (HD1.out.step hc hg)
  clear hc hg HD1 HO1
  cases b
  · have HMS := Lib.hid (fun (x : Int) W => l1MostL_any x 0 W)
    have HLS := Lib.hid (fun (x : Int) W => l1LeastL_any x 6 W)
    go_wp2_with fail
    go_loopw [7] (fun iv wr => ∃ (i : Nat) (K : List (Int × Int)), iv = .int .i64 i ∧ i ≤ n ∧ K.length = n ∧ wr.ownsRow (w.heap.size + 1) 72 2 (.slice a1 n c1) n (flat encR K) ∧ Drawn (w.alloc (.cells #[.slice ac cs.length c, .int .i64 0, .int .u64 0] 107)) wr w.heap.size ac cs 2000) (fun iv _ => n - (intOf iv).toNat)
    case atStart => exact ⟨0, L, rfl, by omega, HLN.out, HO2.out, HD2.out.mono (by omega)⟩
    case round =>
      obtain ⟨i, K, rfl, hi, hkl, ho, hD⟩ := hrel
      have HO3 := Lib.hid ho; have HD3 := Lib.hid hD; have HKL := Lib.hid hkl
      clear ho hD HO2 HD2 hkl HLN
      by_cases hlt : i < n
      · have q1 : decide ((i : Int) < (n : Int)) = true := decide_eq_true (by omega)
        obtain ⟨g, rfl, hg1, hg2, hc⟩ := own_cell HO3.out (by omega)
        obtain ⟨⟨x, y⟩, hX⟩ : ∃ X, K.getD i (0, 0) = X := ⟨_, rfl⟩
        have hKi : K[i]? = some (x, y) := by rw [← hX, List.getD_eq_getElem?_getD, List.getElem?_eq_getElem (by rw [HKL.out]; exact hlt)]; rfl
        obtain ⟨k1, k2⟩ := rec_cells HO3.out hKi
        have hfy : (flat encR K)[i * 2 + 1]? = some (.int .i64 y) := by
          rw [← hc (i * 2 + 1) (by omega)]; exact k2
        have hf1 := HO3.out.frozenAt (i * 2)
        have R := HO3.out.stored (i * 2) (.int .i64 (min (max x 0) 6))
        rw [flat_setKey (x := x) (by rw [HKL.out]; exact hlt) hfy] at R
        have HR := Lib.hid R.1
        have HDR := Lib.hid (HD3.out.app HO3.out (by rw [hsz]; exact Nat.le_refl _) R.2)
        have t0 : ((i : Int)).toNat = i := by omega
        have b0 : (0 : Int) ≤ (i : Int) := by omega
        have b2 : (i : Int) < (n : Int) := by omega
        clear hc hX hKi k2 hfy R HO3 HD3
        go_wp2_with fail
        refine (HMS.out _ _).mono ?_
        rintro e w5 ⟨rfl, rfl⟩
        go_wp2_with fail
        refine (HLS.out _ _).mono ?_
        rintro e w5 ⟨rfl, rfl⟩
        go_wp2_with fail
        go_roundw
        case rel => exact ⟨i + 1, _, by go_num, by omega, by rw [List.length_set]; exact HKL.out, HR.out, HDR.out⟩
        case measure => simp [intOf] <;> omega
      · have q1 : decide ((i : Int) < (n : Int)) = false := decide_eq_false (by omega)
        have HK := Lib.hid (And.intro HKL.out (And.intro HO3.out HD3.out))
        clear HO3 HD3 HKL HMS HLS
        obtain ⟨a, hK1, hK2⟩ := HK.out
        have hbn := belowNewL wr (.cells #[.int .i64 0, .int .i64 0, .int .i64 (-5), .int .i64 1, .int .i64 (-100000), .int .i64 (-100001)] 3)
        have hzr := hK2.cur.lt
        have D4 := Lib.hid (hK2.below hbn)
        have O4 := Lib.hid (own_below hK1 (Nat.le_refl _) hbn)
        clear hbn hK1 hK2 a HK
        go_wp2_with fail
        refine (pick_any w.heap.size ac cs _ 7 _ ?p1 (by omega) D4.out.cur).mono ?_
        case p1 => omega
        rintro e w5 ⟨⟨z, rfl, hz0, hz1⟩, hc, hg⟩
        have D5 := Lib.hid (D4.out.step hc hg)
        have O5 := Lib.hid (D4.out.own O4.out (by rw [hsz]; exact Nat.le_refl _) hg)
        have I5 := Lib.hid (ints_grownSL (lit_ints wr [0, 0, -5, 1, -100000, -100001] (by decide)) hg (fun b off e e2 => by injection e with e; injection e with e; injection e2 with e2; omega))
        obtain ⟨v, hv⟩ : ∃ v : Int, z.tdiv 2 = v := ⟨_, rfl⟩
        have hv2 : 0 ≤ v ∧ v ≤ 3 := by rw [← hv, Int.tdiv_eq_ediv_of_nonneg hz0]; omega
        obtain ⟨hv0, hv1⟩ := hv2
        obtain ⟨q, hq⟩ : ∃ q : Nat, (3 + v).toNat = q := ⟨_, rfl⟩
        have hq2 : 3 ≤ q ∧ q ≤ 6 := by omega
        have hyl : ([0, 0, -5, 1, -100000, -100001].take q : List Int).length = q := by simp; omega
        have AM := among_any w.heap.size ac cs _ _ 6 ([0, 0, -5, 1, -100000, -100001].take q) w5 (by omega) (by omega) (by omega) D5.out.cur (ints_takeSL I5.out q) (fun b off e => by injection e with e; injection e with e; omega)
        rw [hyl] at AM
        have HAM := Lib.hid AM
        clear AM hc hg D4 O4 I5 hz0 hz1
        go_wp2_with fail
        refine HAM.out.mono ?_
        rintro e w6 ⟨⟨x, rfl, hx⟩, hc, hg⟩
        have hx2 : -200000 ≤ x ∧ x ≤ 200000 := by
          have := List.mem_of_mem_take hx
          simp at this; omega
        have hbn := belowNewL w6 (.cells #[.int .i64 6, .int .i64 11, .int .i64 1000, .int .i64 1001, .int .i64 3, .int .i64 (-1)] 3)
        have hzr6 := hc.lt
        have D6 := Lib.hid ((D5.out.step hc hg).below hbn)
        have O6 := Lib.hid (own_below (D5.out.own O5.out (by rw [hsz]; exact Nat.le_refl _) hg) (Nat.le_refl _) hbn)
        clear hc hg hx HAM D5 O5 hbn hv hv0 hv1 hq hq2 hyl
        obtain ⟨hx3, hx4⟩ := hx2
        go_wp2_with fail
        refine (pick_any w.heap.size ac cs _ 7 _ ?p1 (by omega) D6.out.cur).mono ?_
        case p1 => omega
        rintro e w7 ⟨⟨z2, rfl, hz0, hz1⟩, hc, hg⟩
        have D7 := Lib.hid (D6.out.step hc hg)
        have O7 := Lib.hid (D6.out.own O6.out (by rw [hsz]; exact Nat.le_refl _) hg)
        have I7 := Lib.hid (ints_grownSL (lit_ints w6 [6, 11, 1000, 1001, 3, -1] (by decide)) hg (fun b off e e2 => by injection e with e; injection e with e; injection e2 with e2; omega))
        obtain ⟨v, hv⟩ : ∃ v : Int, z2.tdiv 2 = v := ⟨_, rfl⟩
        have hv2 : 0 ≤ v ∧ v ≤ 3 := by rw [← hv, Int.tdiv_eq_ediv_of_nonneg hz0]; omega
        obtain ⟨hv0, hv1⟩ := hv2
        obtain ⟨q, hq⟩ : ∃ q : Nat, (3 + v).toNat = q := ⟨_, rfl⟩
        have hq2 : 3 ≤ q ∧ q ≤ 6 := by omega
        have hyl : ([6, 11, 1000, 1001, 3, -1].take q : List Int).length = q := by simp; omega
        have AM := among_any w.heap.size ac cs _ _ 6 ([6, 11, 1000, 1001, 3, -1].take q) w7 (by omega) (by omega) (by omega) D7.out.cur (ints_takeSL I7.out q) (fun b off e => by injection e with e; injection e with e; omega)
        rw [hyl] at AM
        have HAM := Lib.hid AM
        clear AM hc hg D6 O6 I7 hz0 hz1
        go_wp2_with fail
        refine HAM.out.mono ?_
        rintro e w8 ⟨⟨u, rfl, hu⟩, hc, hg⟩
        have hu2 : -1 ≤ u ∧ u ≤ 1001 := by
          have := List.mem_of_mem_take hu
          simp at this; omega
        obtain ⟨hu3, hu4⟩ := hu2
        have D8 := Lib.hid (D7.out.step hc hg)
        have O8 := Lib.hid (D7.out.own O7.out (by rw [hsz]; exact Nat.le_refl _) hg)
        have B8 := Lib.hid (HB.out.grown D8.out.grown HB.out.size (fun k hk => by injection hk with hk; omega))
        clear hc hg hu HAM D7 O7
        go_wp2
        refine bodyPost_ret (v := .tuple #[.slice a1 n c1, .int .i64 x, .int .i64 (x + u)]) (by simp [results, Try.results51, go_sem]) rfl ?_
        exact ⟨_, _, _, _, _, _, rfl, rd_own O8.out, hl1, ⟨hx3, hx4⟩, B8.out⟩
  · have HK := Lib.hid (And.intro HLN.out (And.intro HO2.out (HD2.out.mono (show _ ≤ (2000 : Int) by omega))))
    clear HO2 HD2 HLN
    go_wp2_with fail
    obtain ⟨a, hK1, hK2⟩ := HK.out
    have hbn := belowNewL w2 (.cells #[.int .i64 0, .int .i64 0, .int .i64 (-5), .int .i64 1, .int .i64 (-100000), .int .i64 (-100001)] 3)
    have hzr := hK2.cur.lt
    have D4 := Lib.hid (hK2.below hbn)
    have O4 := Lib.hid (own_below hK1 (Nat.le_refl _) hbn)
    clear hbn hK1 hK2 a HK
    go_wp2_with fail
    refine (pick_any w.heap.size ac cs _ 7 _ ?p1 (by omega) D4.out.cur).mono ?_
    case p1 => omega
    rintro e w5 ⟨⟨z, rfl, hz0, hz1⟩, hc, hg⟩
    have D5 := Lib.hid (D4.out.step hc hg)
    have O5 := Lib.hid (D4.out.own O4.out (by rw [hsz]; exact Nat.le_refl _) hg)
    have I5 := Lib.hid (ints_grownSL (lit_ints w2 [0, 0, -5, 1, -100000, -100001] (by decide)) hg (fun b off e e2 => by injection e with e; injection e with e; injection e2 with e2; omega))
    obtain ⟨v, hv⟩ : ∃ v : Int, z.tdiv 2 = v := ⟨_, rfl⟩
    have hv2 : 0 ≤ v ∧ v ≤ 3 := by rw [← hv, Int.tdiv_eq_ediv_of_nonneg hz0]; omega
    obtain ⟨hv0, hv1⟩ := hv2
    obtain ⟨q, hq⟩ : ∃ q : Nat, (3 + v).toNat = q := ⟨_, rfl⟩
    have hq2 : 3 ≤ q ∧ q ≤ 6 := by omega
    have hyl : ([0, 0, -5, 1, -100000, -100001].take q : List Int).length = q := by simp; omega
    have AM := among_any w.heap.size ac cs _ _ 6 ([0, 0, -5, 1, -100000, -100001].take q) w5 (by omega) (by omega) (by omega) D5.out.cur (ints_takeSL I5.out q) (fun b off e => by injection e with e; injection e with e; omega)
    rw [hyl] at AM
    have HAM := Lib.hid AM
    clear AM hc hg D4 O4 I5 hz0 hz1
    go_wp2_with fail
    refine HAM.out.mono ?_
    rintro e w6 ⟨⟨x, rfl, hx⟩, hc, hg⟩
    have hx2 : -200000 ≤ x ∧ x ≤ 200000 := by
      have := List.mem_of_mem_take hx
      simp at this; omega
    have hbn := belowNewL w6 (.cells #[.int .i64 6, .int .i64 11, .int .i64 1000, .int .i64 1001, .int .i64 3, .int .i64 (-1)] 3)
    have hzr6 := hc.lt
    have D6 := Lib.hid ((D5.out.step hc hg).below hbn)
    have O6 := Lib.hid (own_below (D5.out.own O5.out (by rw [hsz]; exact Nat.le_refl _) hg) (Nat.le_refl _) hbn)
    clear hc hg hx HAM D5 O5 hbn hv hv0 hv1 hq hq2 hyl
    obtain ⟨hx3, hx4⟩ := hx2
    go_wp2_with fail
    refine (pick_any w.heap.size ac cs _ 7 _ ?p1 (by omega) D6.out.cur).mono ?_
    case p1 => omega
    rintro e w7 ⟨⟨z2, rfl, hz0, hz1⟩, hc, hg⟩
    have D7 := Lib.hid (D6.out.step hc hg)
    have O7 := Lib.hid (D6.out.own O6.out (by rw [hsz]; exact Nat.le_refl _) hg)
    have I7 := Lib.hid (ints_grownSL (lit_ints w6 [6, 11, 1000, 1001, 3, -1] (by decide)) hg (fun b off e e2 => by injection e with e; injection e with e; injection e2 with e2; omega))
    obtain ⟨v, hv⟩ : ∃ v : Int, z2.tdiv 2 = v := ⟨_, rfl⟩
    have hv2 : 0 ≤ v ∧ v ≤ 3 := by rw [← hv, Int.tdiv_eq_ediv_of_nonneg hz0]; omega
    obtain ⟨hv0, hv1⟩ := hv2
    obtain ⟨q, hq⟩ : ∃ q : Nat, (3 + v).toNat = q := ⟨_, rfl⟩
    have hq2 : 3 ≤ q ∧ q ≤ 6 := by omega
    have hyl : ([6, 11, 1000, 1001, 3, -1].take q : List Int).length = q := by simp; omega
    have AM := among_any w.heap.size ac cs _ _ 6 ([6, 11, 1000, 1001, 3, -1].take q) w7 (by omega) (by omega) (by omega) D7.out.cur (ints_takeSL I7.out q) (fun b off e => by injection e with e; injection e with e; omega)
    rw [hyl] at AM
    have HAM := Lib.hid AM
    clear AM hc hg D6 O6 I7 hz0 hz1
    go_wp2_with fail
    refine HAM.out.mono ?_
    rintro e w8 ⟨⟨u, rfl, hu⟩, hc, hg⟩
    have hu2 : -1 ≤ u ∧ u ≤ 1001 := by
      have := List.mem_of_mem_take hu
      simp at this; omega
    obtain ⟨hu3, hu4⟩ := hu2
    have D8 := Lib.hid (D7.out.step hc hg)
    have O8 := Lib.hid (D7.out.own O7.out (by rw [hsz]; exact Nat.le_refl _) hg)
    have B8 := Lib.hid (HB.out.grown D8.out.grown HB.out.size (fun k hk => by injection hk with hk; omega))
    clear hc hg hu HAM D7 O7
    go_wp2
    refine bodyPost_ret (v := .tuple #[.slice a1 n c1, .int .i64 x, .int .i64 (x + u)]) (by simp [results, Try.results51, go_sem]) rfl ?_
    exact ⟨_, _, _, _, _, _, rfl, rd_own O8.out, hl1, ⟨hx3, hx4⟩, B8.out⟩

end Go.Proofs.Ytkckmjajjdpodaa

/- The law FnDigits: its walk. -/
namespace Go.Proofs.Ytkckmjajjdpodaa
open Go.RowKit Go.Sort
set_option linter.unusedVariables false

theorem pow_step_le {B p C : Nat} (hB : 2 ≤ B) (h : B ^ (p + 1) ≤ C) : B ^ p ≤ C := Nat.le_trans (Nat.pow_le_pow_right (by omega) (by omega)) h

set_option maxRecDepth 100000 in
set_option maxHeartbeats 16000000 in
theorem lawDigits_any (ac : Option Addr) (cc : Nat) (cs : List Int) (w : World) (hbig : cs.length ≤ 9223372036854775807) (h : BytesAt w ac cs) :
    Calls Try.prog 7 #[.slice ac cs.length cc] w fun e w' => e = .returned (.bool true) ∧ Below w.heap.size w w' := by
  have HV := Lib.hid (vBigG_any ac cs.length cc w hbig)
  by_cases hl : 65536 < cs.length
  · rw [decide_eq_true hl] at HV
    clear h
    go_enter Try.func7, Try.ntmps7
    go_wp2_with (go_at_call 15; refine HV.out.mono ?_; rintro e w' ⟨rfl, rfl⟩)
    go_ret
    exact ⟨rfl, Below.refl _ _⟩
  rw [decide_eq_false hl] at HV
  have HD := Lib.hid (drawDigitOf_any ac cc cs w (by omega) h)
  have HDC := Lib.hid (fun W (hb : Below w.heap.size w W) => drawCountingSort_any ac cc cs W (by omega) (h.below (Nat.le_refl _) hb))
  clear h
  unfold DiDraw at HD
  unfold CkDraw at HDC
  go_enter Try.func7, Try.ntmps7
  go_wp2_with fail
  refine HV.out.mono ?_
  rintro e w0 ⟨rfl, rfl⟩
  go_wp2_with fail
  refine HD.out.mono ?_
  rintro e w0 ⟨k, b, p0, rfl, ⟨hk0, hk1⟩, ⟨hb0, hb1⟩, hb⟩
  have HBW := Lib.hid hb
  clear hb HD HV
  by_cases hk : k ≤ 100000
  case neg =>
    have q1 : decide (-100000 ≤ k) = true := decide_eq_true (by omega)
    have q2 : decide (k ≤ 100000) = false := decide_eq_false hk
    go_wp2_with fail
    refine (HDC.out _ HBW.out).mono ?_
    rintro e w1 ⟨a, n, c, L, lo, hi, rfl, hr, hn70, hlo, hb⟩
    have HR1 := Lib.hid hr
    have HB1 := Lib.hid (below_tr HBW.out hb HBW.out.size)
    have HCI := Lib.hid (implCountingSort_any a n c L lo hi w1 (by omega) hlo hr)
    have HCS := Lib.hid (fun W (hb : Below w1.heap.size w1 W) => specCountingSort_any a n c L lo hi W (by omega) hlo (HR1.out.same hb))
    have hcl : (ckL L lo hi).length ≤ 70 := by
      unfold ckL
      split
      · rw [srtR_len, hr.len]; exact hn70
      · simp
    have hlen := hr.len
    obtain ⟨ok, hok⟩ : ∃ ok, ckOk L lo hi = ok := ⟨_, rfl⟩
    obtain ⟨G, hG⟩ : ∃ G, ckL L lo hi = G := ⟨_, rfl⟩
    unfold RdEnd at HCI HCS
    rw [hok, hG] at HCI HCS
    rw [hG] at hcl
    clear hr hb hok hG hlo HDC HBW
    go_wp2_with fail
    refine HCI.out.mono ?_
    rintro e w2 ⟨ga, gn, gc, rfl, hx, hb⟩
    have HG2 := Lib.hid hx
    have HX2 := Lib.hid hb
    have HB2 := Lib.hid (below_tr HB1.out hb HB1.out.size)
    have HR2 := Lib.hid (HR1.out.same hb)
    have hgn : gn ≤ 70 := by rw [← hx.len]; exact hcl
    clear hx hb HCI HB1 HR1
    go_wp2_with fail
    refine (HCS.out _ HX2.out).mono ?_
    rintro e w3 ⟨ha, hn, hc, rfl, hx, hb⟩
    have HH3 := Lib.hid hx
    have HG3 := Lib.hid (HG2.out.same hb)
    have HB3 := Lib.hid (below_tr HB2.out hb HB2.out.size)
    have HR3 := Lib.hid (HR2.out.same hb)
    have hhn : hn ≤ 70 := by rw [← hx.len]; exact hcl
    have q1 : (ok != ok) = false := by simp
    have q2 : decide (G = G) = true := by simp
    clear hx hb HCS HB2 HR2 HG2 HX2
    go_wp2_with fail
    refine (vRecords_any ga ha gn hn gc hc G G _ (by omega) (by omega) HG3.out HH3.out).mono ?_
    rintro e w4 ⟨rfl, hb⟩
    have HB4 := Lib.hid (below_tr HB3.out hb HB3.out.size)
    have HR4 := Lib.hid (HR3.out.same hb)
    have HSP := Lib.hid (sortedPositions_any a n c L w4 (by omega) HR4.out)
    clear hb HG3 HH3 HB3 HR3 q1 q2 hgn hhn hcl
    go_wp2_with fail
    refine HSP.out.mono ?_
    rintro e w5 ⟨⟨pa, m, pc, q, rfl, hyes, hno⟩, hb⟩
    have HB5 := Lib.hid (below_tr HB4.out hb HB4.out.size)
    have HR5 := Lib.hid (HR4.out.same hb)
    have HYS := Lib.hid hyes; have HNO := Lib.hid hno
    have HST := Lib.hid (implStableSort_any a n c L w5 (by omega) HR5.out)
    unfold RdEnd at HST
    clear hb hyes hno HSP HB4 HR4
    go_wp2_with fail
    refine HST.out.mono ?_
    rintro e w6 ⟨sa, sn, sc, rfl, hx, hb⟩
    have HB6 := Lib.hid (below_tr HB5.out hb HB5.out.size)
    have HR6 := Lib.hid (HR5.out.same hb)
    have HS6 := Lib.hid hx
    have hbz := Lib.hid hb
    clear hx hb HST HB5 HR5
    cases hok : okRecs L
    · have hm := HNO.out hok
      have hs0 : sn = 0 := by
        have := HS6.out.len
        unfold stAns at this
        rw [hok] at this
        exact this.symm
      subst hm hs0
      clear HYS HNO HS6 hok hbz
      go_wp2_with fail
      go_loopw [22] (fun iv wr => iv = .int .i64 0 ∧ w6 = wr) (fun _ _ => 0)
      case atStart => exact ⟨rfl, rfl⟩
      case round =>
        obtain ⟨rfl, rfl⟩ := hrel
        go_wp2
        go_ret
        exact ⟨ret_bool (by first | rfl | simp), HB6.out⟩
    · obtain ⟨hm, hinv, hia⟩ := HYS.out hok
      have hst : stAns L = srtR L := by unfold stAns; rw [if_pos hok]
      rw [hst] at HS6
      have hsn : sn = n := by rw [← HS6.out.len, srtR_len]; exact hlen
      subst hm hsn
      have HI6 := Lib.hid (hia.below (Nat.le_refl _) hbz.out)
      have HIV := Lib.hid hinv
      have hql : q.length = sn := by rw [hinv.1, sortP_len, keysL_len]; exact hlen
      clear HYS HNO hok hinv hia hst hbz
      go_wp2_with fail
      go_loopw [22] (fun iv wr => ∃ i : Nat, iv = .int .i64 i ∧ i ≤ sn ∧ Below w6.heap.size w6 wr) (fun iv _ => sn - (intOf iv).toNat)
      case atStart => exact ⟨0, rfl, by omega, Below.refl _ _⟩
      case round =>
        obtain ⟨i, rfl, hi, hbr⟩ := hrel
        have HBR := Lib.hid hbr
        clear hbr
        by_cases hlt : i < sn
        · have q1 : decide ((i : Int) < (sn : Int)) = true := decide_eq_true (by omega)
          obtain ⟨j, hj, hqi, hsj⟩ := inv_use HIV.out (i := i) (by omega)
          have hj2 : j < sn := by omega
          obtain ⟨b1, o1, rfl, d1⟩ := (HI6.out.below (Nat.le_refl _) HBR.out).at (show i < q.length by omega)
          rw [List.getD_eq_getElem?_getD, hqi] at d1
          simp only [Option.getD_some] at d1
          obtain ⟨b2, o2, rfl, k1, k2⟩ := (HS6.out.same HBR.out).at hj2
          obtain ⟨b3, o3, rfl, y1, y2⟩ := (HR6.out.same HBR.out).at hlt
          have hgj : (srtR L).getD j (0, 0) = L.getD i (0, 0) := by
            rw [List.getD_eq_getElem?_getD]
            have : (srtR L)[j]? = some (L.getD i (0, 0)) := hsj
            rw [this]; rfl
          rw [hgj] at k1 k2
          generalize L.getD i (0, 0) = X at k1 k2 y1 y2
          obtain ⟨X1, X2⟩ := X
          have q3 : decide ((j : Int) < 0) = false := decide_eq_false (by omega)
          have q4 : decide ((sn : Int) ≤ (j : Int)) = false := decide_eq_false (by omega)
          have z0 : ((i : Int)).toNat = i := by omega
          have z1 : (0 : Int) ≤ (i : Int) := by omega
          have z2 : (i : Int) < (sn : Int) := by omega
          have z3 : ((j : Int)).toNat = j := by omega
          have z4 : (0 : Int) ≤ (j : Int) := by omega
          have z5 : (j : Int) < (sn : Int) := by omega
          clear hqi hsj hgj
          go_wp2_with fail
          go_quiet (fail)
          go_wp2
          go_roundw
          case rel => exact ⟨i + 1, by go_num, by omega, below_drewN HBR.out _⟩
          case measure => simp [intOf] <;> omega
        · obtain rfl : i = sn := by omega
          have q1 : decide ((i : Int) < (i : Int)) = false := by simp
          have HBE := Lib.hid (below_tr HB6.out HBR.out HB6.out.size)
          go_wp2
          go_ret
          exact ⟨ret_bool (by first | rfl | simp), HBE.out⟩
  have qk1 : decide (-100000 ≤ k) = true := decide_eq_true (by omega)
  have qk2 : decide (k ≤ 100000) = true := decide_eq_true hk
  by_cases hb2 : 2 ≤ b
  case neg =>
    have q3 : decide (2 ≤ b) = false := decide_eq_false hb2
    go_wp2_with fail
    refine (HDC.out _ HBW.out).mono ?_
    rintro e w1 ⟨a, n, c, L, lo, hi, rfl, hr, hn70, hlo, hb⟩
    have HR1 := Lib.hid hr
    have HB1 := Lib.hid (below_tr HBW.out hb HBW.out.size)
    have HCI := Lib.hid (implCountingSort_any a n c L lo hi w1 (by omega) hlo hr)
    have HCS := Lib.hid (fun W (hb : Below w1.heap.size w1 W) => specCountingSort_any a n c L lo hi W (by omega) hlo (HR1.out.same hb))
    have hcl : (ckL L lo hi).length ≤ 70 := by
      unfold ckL
      split
      · rw [srtR_len, hr.len]; exact hn70
      · simp
    have hlen := hr.len
    obtain ⟨ok, hok⟩ : ∃ ok, ckOk L lo hi = ok := ⟨_, rfl⟩
    obtain ⟨G, hG⟩ : ∃ G, ckL L lo hi = G := ⟨_, rfl⟩
    unfold RdEnd at HCI HCS
    rw [hok, hG] at HCI HCS
    rw [hG] at hcl
    clear hr hb hok hG hlo HDC HBW
    go_wp2_with fail
    refine HCI.out.mono ?_
    rintro e w2 ⟨ga, gn, gc, rfl, hx, hb⟩
    have HG2 := Lib.hid hx
    have HX2 := Lib.hid hb
    have HB2 := Lib.hid (below_tr HB1.out hb HB1.out.size)
    have HR2 := Lib.hid (HR1.out.same hb)
    have hgn : gn ≤ 70 := by rw [← hx.len]; exact hcl
    clear hx hb HCI HB1 HR1
    go_wp2_with fail
    refine (HCS.out _ HX2.out).mono ?_
    rintro e w3 ⟨ha, hn, hc, rfl, hx, hb⟩
    have HH3 := Lib.hid hx
    have HG3 := Lib.hid (HG2.out.same hb)
    have HB3 := Lib.hid (below_tr HB2.out hb HB2.out.size)
    have HR3 := Lib.hid (HR2.out.same hb)
    have hhn : hn ≤ 70 := by rw [← hx.len]; exact hcl
    have q1 : (ok != ok) = false := by simp
    have q2 : decide (G = G) = true := by simp
    clear hx hb HCS HB2 HR2 HG2 HX2
    go_wp2_with fail
    refine (vRecords_any ga ha gn hn gc hc G G _ (by omega) (by omega) HG3.out HH3.out).mono ?_
    rintro e w4 ⟨rfl, hb⟩
    have HB4 := Lib.hid (below_tr HB3.out hb HB3.out.size)
    have HR4 := Lib.hid (HR3.out.same hb)
    have HSP := Lib.hid (sortedPositions_any a n c L w4 (by omega) HR4.out)
    clear hb HG3 HH3 HB3 HR3 q1 q2 hgn hhn hcl
    go_wp2_with fail
    refine HSP.out.mono ?_
    rintro e w5 ⟨⟨pa, m, pc, q, rfl, hyes, hno⟩, hb⟩
    have HB5 := Lib.hid (below_tr HB4.out hb HB4.out.size)
    have HR5 := Lib.hid (HR4.out.same hb)
    have HYS := Lib.hid hyes; have HNO := Lib.hid hno
    have HST := Lib.hid (implStableSort_any a n c L w5 (by omega) HR5.out)
    unfold RdEnd at HST
    clear hb hyes hno HSP HB4 HR4
    go_wp2_with fail
    refine HST.out.mono ?_
    rintro e w6 ⟨sa, sn, sc, rfl, hx, hb⟩
    have HB6 := Lib.hid (below_tr HB5.out hb HB5.out.size)
    have HR6 := Lib.hid (HR5.out.same hb)
    have HS6 := Lib.hid hx
    have hbz := Lib.hid hb
    clear hx hb HST HB5 HR5
    cases hok : okRecs L
    · have hm := HNO.out hok
      have hs0 : sn = 0 := by
        have := HS6.out.len
        unfold stAns at this
        rw [hok] at this
        exact this.symm
      subst hm hs0
      clear HYS HNO HS6 hok hbz
      go_wp2_with fail
      go_loopw [22] (fun iv wr => iv = .int .i64 0 ∧ w6 = wr) (fun _ _ => 0)
      case atStart => exact ⟨rfl, rfl⟩
      case round =>
        obtain ⟨rfl, rfl⟩ := hrel
        go_wp2
        go_ret
        exact ⟨ret_bool (by first | rfl | simp), HB6.out⟩
    · obtain ⟨hm, hinv, hia⟩ := HYS.out hok
      have hst : stAns L = srtR L := by unfold stAns; rw [if_pos hok]
      rw [hst] at HS6
      have hsn : sn = n := by rw [← HS6.out.len, srtR_len]; exact hlen
      subst hm hsn
      have HI6 := Lib.hid (hia.below (Nat.le_refl _) hbz.out)
      have HIV := Lib.hid hinv
      have hql : q.length = sn := by rw [hinv.1, sortP_len, keysL_len]; exact hlen
      clear HYS HNO hok hinv hia hst hbz
      go_wp2_with fail
      go_loopw [22] (fun iv wr => ∃ i : Nat, iv = .int .i64 i ∧ i ≤ sn ∧ Below w6.heap.size w6 wr) (fun iv _ => sn - (intOf iv).toNat)
      case atStart => exact ⟨0, rfl, by omega, Below.refl _ _⟩
      case round =>
        obtain ⟨i, rfl, hi, hbr⟩ := hrel
        have HBR := Lib.hid hbr
        clear hbr
        by_cases hlt : i < sn
        · have q1 : decide ((i : Int) < (sn : Int)) = true := decide_eq_true (by omega)
          obtain ⟨j, hj, hqi, hsj⟩ := inv_use HIV.out (i := i) (by omega)
          have hj2 : j < sn := by omega
          obtain ⟨b1, o1, rfl, d1⟩ := (HI6.out.below (Nat.le_refl _) HBR.out).at (show i < q.length by omega)
          rw [List.getD_eq_getElem?_getD, hqi] at d1
          simp only [Option.getD_some] at d1
          obtain ⟨b2, o2, rfl, k1, k2⟩ := (HS6.out.same HBR.out).at hj2
          obtain ⟨b3, o3, rfl, y1, y2⟩ := (HR6.out.same HBR.out).at hlt
          have hgj : (srtR L).getD j (0, 0) = L.getD i (0, 0) := by
            rw [List.getD_eq_getElem?_getD]
            have : (srtR L)[j]? = some (L.getD i (0, 0)) := hsj
            rw [this]; rfl
          rw [hgj] at k1 k2
          generalize L.getD i (0, 0) = X at k1 k2 y1 y2
          obtain ⟨X1, X2⟩ := X
          have q3 : decide ((j : Int) < 0) = false := decide_eq_false (by omega)
          have q4 : decide ((sn : Int) ≤ (j : Int)) = false := decide_eq_false (by omega)
          have z0 : ((i : Int)).toNat = i := by omega
          have z1 : (0 : Int) ≤ (i : Int) := by omega
          have z2 : (i : Int) < (sn : Int) := by omega
          have z3 : ((j : Int)).toNat = j := by omega
          have z4 : (0 : Int) ≤ (j : Int) := by omega
          have z5 : (j : Int) < (sn : Int) := by omega
          clear hqi hsj hgj
          go_wp2_with fail
          go_quiet (fail)
          go_wp2
          go_roundw
          case rel => exact ⟨i + 1, by go_num, by omega, below_drewN HBR.out _⟩
          case measure => simp [intOf] <;> omega
        · obtain rfl : i = sn := by omega
          have q1 : decide ((i : Int) < (i : Int)) = false := by simp
          have HBE := Lib.hid (below_tr HB6.out HBR.out HB6.out.size)
          go_wp2
          go_ret
          exact ⟨ret_bool (by first | rfl | simp), HBE.out⟩
  have qb1 : decide (2 ≤ b) = true := decide_eq_true hb2
  by_cases hb3 : b ≤ 256
  case neg =>
    have q3 : decide (b ≤ 256) = false := decide_eq_false hb3
    go_wp2_with fail
    refine (HDC.out _ HBW.out).mono ?_
    rintro e w1 ⟨a, n, c, L, lo, hi, rfl, hr, hn70, hlo, hb⟩
    have HR1 := Lib.hid hr
    have HB1 := Lib.hid (below_tr HBW.out hb HBW.out.size)
    have HCI := Lib.hid (implCountingSort_any a n c L lo hi w1 (by omega) hlo hr)
    have HCS := Lib.hid (fun W (hb : Below w1.heap.size w1 W) => specCountingSort_any a n c L lo hi W (by omega) hlo (HR1.out.same hb))
    have hcl : (ckL L lo hi).length ≤ 70 := by
      unfold ckL
      split
      · rw [srtR_len, hr.len]; exact hn70
      · simp
    have hlen := hr.len
    obtain ⟨ok, hok⟩ : ∃ ok, ckOk L lo hi = ok := ⟨_, rfl⟩
    obtain ⟨G, hG⟩ : ∃ G, ckL L lo hi = G := ⟨_, rfl⟩
    unfold RdEnd at HCI HCS
    rw [hok, hG] at HCI HCS
    rw [hG] at hcl
    clear hr hb hok hG hlo HDC HBW
    go_wp2_with fail
    refine HCI.out.mono ?_
    rintro e w2 ⟨ga, gn, gc, rfl, hx, hb⟩
    have HG2 := Lib.hid hx
    have HX2 := Lib.hid hb
    have HB2 := Lib.hid (below_tr HB1.out hb HB1.out.size)
    have HR2 := Lib.hid (HR1.out.same hb)
    have hgn : gn ≤ 70 := by rw [← hx.len]; exact hcl
    clear hx hb HCI HB1 HR1
    go_wp2_with fail
    refine (HCS.out _ HX2.out).mono ?_
    rintro e w3 ⟨ha, hn, hc, rfl, hx, hb⟩
    have HH3 := Lib.hid hx
    have HG3 := Lib.hid (HG2.out.same hb)
    have HB3 := Lib.hid (below_tr HB2.out hb HB2.out.size)
    have HR3 := Lib.hid (HR2.out.same hb)
    have hhn : hn ≤ 70 := by rw [← hx.len]; exact hcl
    have q1 : (ok != ok) = false := by simp
    have q2 : decide (G = G) = true := by simp
    clear hx hb HCS HB2 HR2 HG2 HX2
    go_wp2_with fail
    refine (vRecords_any ga ha gn hn gc hc G G _ (by omega) (by omega) HG3.out HH3.out).mono ?_
    rintro e w4 ⟨rfl, hb⟩
    have HB4 := Lib.hid (below_tr HB3.out hb HB3.out.size)
    have HR4 := Lib.hid (HR3.out.same hb)
    have HSP := Lib.hid (sortedPositions_any a n c L w4 (by omega) HR4.out)
    clear hb HG3 HH3 HB3 HR3 q1 q2 hgn hhn hcl
    go_wp2_with fail
    refine HSP.out.mono ?_
    rintro e w5 ⟨⟨pa, m, pc, q, rfl, hyes, hno⟩, hb⟩
    have HB5 := Lib.hid (below_tr HB4.out hb HB4.out.size)
    have HR5 := Lib.hid (HR4.out.same hb)
    have HYS := Lib.hid hyes; have HNO := Lib.hid hno
    have HST := Lib.hid (implStableSort_any a n c L w5 (by omega) HR5.out)
    unfold RdEnd at HST
    clear hb hyes hno HSP HB4 HR4
    go_wp2_with fail
    refine HST.out.mono ?_
    rintro e w6 ⟨sa, sn, sc, rfl, hx, hb⟩
    have HB6 := Lib.hid (below_tr HB5.out hb HB5.out.size)
    have HR6 := Lib.hid (HR5.out.same hb)
    have HS6 := Lib.hid hx
    have hbz := Lib.hid hb
    clear hx hb HST HB5 HR5
    cases hok : okRecs L
    · have hm := HNO.out hok
      have hs0 : sn = 0 := by
        have := HS6.out.len
        unfold stAns at this
        rw [hok] at this
        exact this.symm
      subst hm hs0
      clear HYS HNO HS6 hok hbz
      go_wp2_with fail
      go_loopw [22] (fun iv wr => iv = .int .i64 0 ∧ w6 = wr) (fun _ _ => 0)
      case atStart => exact ⟨rfl, rfl⟩
      case round =>
        obtain ⟨rfl, rfl⟩ := hrel
        go_wp2
        go_ret
        exact ⟨ret_bool (by first | rfl | simp), HB6.out⟩
    · obtain ⟨hm, hinv, hia⟩ := HYS.out hok
      have hst : stAns L = srtR L := by unfold stAns; rw [if_pos hok]
      rw [hst] at HS6
      have hsn : sn = n := by rw [← HS6.out.len, srtR_len]; exact hlen
      subst hm hsn
      have HI6 := Lib.hid (hia.below (Nat.le_refl _) hbz.out)
      have HIV := Lib.hid hinv
      have hql : q.length = sn := by rw [hinv.1, sortP_len, keysL_len]; exact hlen
      clear HYS HNO hok hinv hia hst hbz
      go_wp2_with fail
      go_loopw [22] (fun iv wr => ∃ i : Nat, iv = .int .i64 i ∧ i ≤ sn ∧ Below w6.heap.size w6 wr) (fun iv _ => sn - (intOf iv).toNat)
      case atStart => exact ⟨0, rfl, by omega, Below.refl _ _⟩
      case round =>
        obtain ⟨i, rfl, hi, hbr⟩ := hrel
        have HBR := Lib.hid hbr
        clear hbr
        by_cases hlt : i < sn
        · have q1 : decide ((i : Int) < (sn : Int)) = true := decide_eq_true (by omega)
          obtain ⟨j, hj, hqi, hsj⟩ := inv_use HIV.out (i := i) (by omega)
          have hj2 : j < sn := by omega
          obtain ⟨b1, o1, rfl, d1⟩ := (HI6.out.below (Nat.le_refl _) HBR.out).at (show i < q.length by omega)
          rw [List.getD_eq_getElem?_getD, hqi] at d1
          simp only [Option.getD_some] at d1
          obtain ⟨b2, o2, rfl, k1, k2⟩ := (HS6.out.same HBR.out).at hj2
          obtain ⟨b3, o3, rfl, y1, y2⟩ := (HR6.out.same HBR.out).at hlt
          have hgj : (srtR L).getD j (0, 0) = L.getD i (0, 0) := by
            rw [List.getD_eq_getElem?_getD]
            have : (srtR L)[j]? = some (L.getD i (0, 0)) := hsj
            rw [this]; rfl
          rw [hgj] at k1 k2
          generalize L.getD i (0, 0) = X at k1 k2 y1 y2
          obtain ⟨X1, X2⟩ := X
          have q3 : decide ((j : Int) < 0) = false := decide_eq_false (by omega)
          have q4 : decide ((sn : Int) ≤ (j : Int)) = false := decide_eq_false (by omega)
          have z0 : ((i : Int)).toNat = i := by omega
          have z1 : (0 : Int) ≤ (i : Int) := by omega
          have z2 : (i : Int) < (sn : Int) := by omega
          have z3 : ((j : Int)).toNat = j := by omega
          have z4 : (0 : Int) ≤ (j : Int) := by omega
          have z5 : (j : Int) < (sn : Int) := by omega
          clear hqi hsj hgj
          go_wp2_with fail
          go_quiet (fail)
          go_wp2
          go_roundw
          case rel => exact ⟨i + 1, by go_num, by omega, below_drewN HBR.out _⟩
          case measure => simp [intOf] <;> omega
        · obtain rfl : i = sn := by omega
          have q1 : decide ((i : Int) < (i : Int)) = false := by simp
          have HBE := Lib.hid (below_tr HB6.out HBR.out HB6.out.size)
          go_wp2
          go_ret
          exact ⟨ret_bool (by first | rfl | simp), HBE.out⟩
  have qb2 : decide (b ≤ 256) = true := decide_eq_true hb3
  obtain ⟨B, rfl⟩ : ∃ B : Nat, b = (B : Int) := ⟨b.toNat, by omega⟩
  have hB : 2 ≤ B := by omega
  have hB2 : B ≤ 256 := by omega
  have HDO := Lib.hid (fun (p : Nat) W (hp : p ≤ 17) => digitOf_any k B p W hk0 hk hB hB2 hp)
  obtain ⟨x, hx⟩ : ∃ x : Nat, Mg.nk (k, 0) = x := ⟨_, rfl⟩
  have hxk : k + 100000 = (x : Int) := by rw [← hx]; unfold Mg.nk; simp only; omega
  have hx2 : x ≤ 200000 := by omega
  rw [hx] at HDO
  have HXK := Lib.hid hxk
  clear hx hxk hb0 hb1
  go_wp2_with fail
  go_loopw [6, 7, 8] (fun sv uv iv wr => ∃ (p s : Nat) (u : Int), iv = .int .i64 p ∧ sv = .int .i64 s ∧ uv = .int .i64 u ∧ p ≤ 18 ∧ s ≤ 200000 ∧ Hid (s = x % B ^ p) ∧ Hid (B ^ p ≤ 51200000 → u = ((B ^ p : Nat) : Int)) ∧ w0 = wr) (fun _ _ iv _ => 18 - (intOf iv).toNat)
  case atStart => exact ⟨0, 0, 1, rfl, rfl, rfl, by omega, by omega, Lib.hid (by simp [Nat.mod_one]), Lib.hid (fun _ => by simp), rfl⟩
  case round =>
    obtain ⟨p, s, u, rfl, rfl, rfl, hp, hs, HS, HU, rfl⟩ := hrel
    by_cases hlt : p ≤ 17
    · have q1 : decide ((p : Int) ≤ 17) = true := decide_eq_true (by omega)
      have HD1 := Lib.hid (HDO.out p w0 hlt)
      have hd := Mg.dgN_lt (B := B) (p := p) (n := x) (by omega)
      have hmu : ∃ X : Nat, ((Mg.dgN B p x : Nat) : Int) * u = (X : Int) ∧ X ≤ 200000 ∧ s + X = x % B ^ (p + 1) := by
        have hst := Mg.mod_step B p x
        by_cases hz : Mg.dgN B p x = 0
        · refine ⟨0, by rw [hz]; simp, by omega, ?_⟩
          rw [hst, hz, HS.out]; omega
        · have hle : B ^ p ≤ x := by
            unfold Mg.dgN at hz
            rcases Nat.lt_or_ge x (B ^ p) with h1 | h1
            · rw [Nat.div_eq_of_lt h1] at hz; simp at hz
            · exact h1
          refine ⟨Mg.dgN B p x * B ^ p, by rw [HU.out (by omega)]; simp, ?_, ?_⟩
          · have h1 : Mg.dgN B p x * B ^ p ≤ x := by
              unfold Mg.dgN
              exact Nat.le_trans (Nat.mul_le_mul_right _ (Nat.mod_le _ _)) (Nat.div_mul_le_self _ _)
            omega
          · rw [hst, HS.out]; omega
      obtain ⟨X, hX, hX2, hX3⟩ := hmu
      have hs2 : s + X ≤ 200000 := by
        rw [hX3]; exact Nat.le_trans (Nat.mod_le _ _) hx2
      have HUN : Hid (B ^ (p + 1) ≤ 51200000 → wrap64 (u * (B : Int)) = ((B ^ (p + 1) : Nat) : Int)) := fun h1 => by
        rw [HU.out (pow_step_le hB h1)]
        have h2 : ((B ^ p : Nat) : Int) * (B : Int) = ((B ^ (p + 1) : Nat) : Int) := by rw [Nat.pow_succ]; simp
        rw [h2, IntWalk.wrap64_in _ (by omega)]
      have HX3 := Lib.hid hX3
      generalize Mg.dgN B p x = d at HD1 hd hX
      have q5 : decide ((d : Int) < 0) = false := decide_eq_false (by omega)
      have q6 : ¬ B ≤ d := by omega
      have hw1 : wrap64 ((d : Int) * u) = (X : Int) := by rw [hX, IntWalk.wrap64_in _ (by omega)]
      have hw2 : IntKind.i64.wrap ((d : Int) * u) = (X : Int) := by rw [hX, IntWalk.i64_in _ (by omega)]
      clear hX hX3 HS HU hd
      go_wp2_with fail
      refine HD1.out.mono ?_
      rintro e w1 ⟨rfl, rfl⟩
      go_wp2
      go_roundw
      case rel => exact ⟨p + 1, s + X, wrap64 (u * (B : Int)), by go_num, by first | rfl | go_num, by first | rfl | (simp [IntWalk.i64_left]), by omega, hs2, HX3, HUN, (by first | rfl | trivial)⟩
      case measure => simp [intOf] <;> omega
    · obtain rfl : p = 18 := by omega
      have q1 : decide (((18 : Nat) : Int) ≤ 17) = false := by decide
      have hse : (s : Int) = k + 100000 := by
        rw [HXK.out, HS.out, Nat.mod_eq_of_lt]
        have h1 : 2 ^ 18 ≤ B ^ 18 := Nat.pow_le_pow_left hB 18
        have h2 : (2 : Nat) ^ 18 = 262144 := by decide
        omega
      have q2 : ((s : Int) != k + 100000) = false := by rw [hse]; simp
      clear hse HS HU
      go_wp2_with fail
      refine (HDC.out _ HBW.out).mono ?_
      rintro e w1 ⟨a, n, c, L, lo, hi, rfl, hr, hn70, hlo, hb⟩
      have HR1 := Lib.hid hr
      have HB1 := Lib.hid (below_tr HBW.out hb HBW.out.size)
      have HCI := Lib.hid (implCountingSort_any a n c L lo hi w1 (by omega) hlo hr)
      have HCS := Lib.hid (fun W (hb : Below w1.heap.size w1 W) => specCountingSort_any a n c L lo hi W (by omega) hlo (HR1.out.same hb))
      have hcl : (ckL L lo hi).length ≤ 70 := by
        unfold ckL
        split
        · rw [srtR_len, hr.len]; exact hn70
        · simp
      have hlen := hr.len
      obtain ⟨ok, hok⟩ : ∃ ok, ckOk L lo hi = ok := ⟨_, rfl⟩
      obtain ⟨G, hG⟩ : ∃ G, ckL L lo hi = G := ⟨_, rfl⟩
      unfold RdEnd at HCI HCS
      rw [hok, hG] at HCI HCS
      rw [hG] at hcl
      clear hr hb hok hG hlo HDC HBW
      go_wp2_with fail
      refine HCI.out.mono ?_
      rintro e w2 ⟨ga, gn, gc, rfl, hx, hb⟩
      have HG2 := Lib.hid hx
      have HX2 := Lib.hid hb
      have HB2 := Lib.hid (below_tr HB1.out hb HB1.out.size)
      have HR2 := Lib.hid (HR1.out.same hb)
      have hgn : gn ≤ 70 := by rw [← hx.len]; exact hcl
      clear hx hb HCI HB1 HR1
      go_wp2_with fail
      refine (HCS.out _ HX2.out).mono ?_
      rintro e w3 ⟨ha, hn, hc, rfl, hx, hb⟩
      have HH3 := Lib.hid hx
      have HG3 := Lib.hid (HG2.out.same hb)
      have HB3 := Lib.hid (below_tr HB2.out hb HB2.out.size)
      have HR3 := Lib.hid (HR2.out.same hb)
      have hhn : hn ≤ 70 := by rw [← hx.len]; exact hcl
      have q1 : (ok != ok) = false := by simp
      have q2 : decide (G = G) = true := by simp
      clear hx hb HCS HB2 HR2 HG2 HX2
      go_wp2_with fail
      refine (vRecords_any ga ha gn hn gc hc G G _ (by omega) (by omega) HG3.out HH3.out).mono ?_
      rintro e w4 ⟨rfl, hb⟩
      have HB4 := Lib.hid (below_tr HB3.out hb HB3.out.size)
      have HR4 := Lib.hid (HR3.out.same hb)
      have HSP := Lib.hid (sortedPositions_any a n c L w4 (by omega) HR4.out)
      clear hb HG3 HH3 HB3 HR3 q1 q2 hgn hhn hcl
      go_wp2_with fail
      refine HSP.out.mono ?_
      rintro e w5 ⟨⟨pa, m, pc, q, rfl, hyes, hno⟩, hb⟩
      have HB5 := Lib.hid (below_tr HB4.out hb HB4.out.size)
      have HR5 := Lib.hid (HR4.out.same hb)
      have HYS := Lib.hid hyes; have HNO := Lib.hid hno
      have HST := Lib.hid (implStableSort_any a n c L w5 (by omega) HR5.out)
      unfold RdEnd at HST
      clear hb hyes hno HSP HB4 HR4
      go_wp2_with fail
      refine HST.out.mono ?_
      rintro e w6 ⟨sa, sn, sc, rfl, hx, hb⟩
      have HB6 := Lib.hid (below_tr HB5.out hb HB5.out.size)
      have HR6 := Lib.hid (HR5.out.same hb)
      have HS6 := Lib.hid hx
      have hbz := Lib.hid hb
      clear hx hb HST HB5 HR5
      cases hok : okRecs L
      · have hm := HNO.out hok
        have hs0 : sn = 0 := by
          have := HS6.out.len
          unfold stAns at this
          rw [hok] at this
          exact this.symm
        subst hm hs0
        clear HYS HNO HS6 hok hbz
        go_wp2_with fail
        go_loopw [22] (fun iv wr => iv = .int .i64 0 ∧ w6 = wr) (fun _ _ => 0)
        case atStart => exact ⟨rfl, rfl⟩
        case round =>
          obtain ⟨rfl, rfl⟩ := hrel
          go_wp2
          go_ret
          exact ⟨ret_bool (by first | rfl | simp), HB6.out⟩
      · obtain ⟨hm, hinv, hia⟩ := HYS.out hok
        have hst : stAns L = srtR L := by unfold stAns; rw [if_pos hok]
        rw [hst] at HS6
        have hsn : sn = n := by rw [← HS6.out.len, srtR_len]; exact hlen
        subst hm hsn
        have HI6 := Lib.hid (hia.below (Nat.le_refl _) hbz.out)
        have HIV := Lib.hid hinv
        have hql : q.length = sn := by rw [hinv.1, sortP_len, keysL_len]; exact hlen
        clear HYS HNO hok hinv hia hst hbz
        go_wp2_with fail
        go_loopw [22] (fun iv wr => ∃ i : Nat, iv = .int .i64 i ∧ i ≤ sn ∧ Below w6.heap.size w6 wr) (fun iv _ => sn - (intOf iv).toNat)
        case atStart => exact ⟨0, rfl, by omega, Below.refl _ _⟩
        case round =>
          obtain ⟨i, rfl, hi, hbr⟩ := hrel
          have HBR := Lib.hid hbr
          clear hbr
          by_cases hlt : i < sn
          · have q1 : decide ((i : Int) < (sn : Int)) = true := decide_eq_true (by omega)
            obtain ⟨j, hj, hqi, hsj⟩ := inv_use HIV.out (i := i) (by omega)
            have hj2 : j < sn := by omega
            obtain ⟨b1, o1, rfl, d1⟩ := (HI6.out.below (Nat.le_refl _) HBR.out).at (show i < q.length by omega)
            rw [List.getD_eq_getElem?_getD, hqi] at d1
            simp only [Option.getD_some] at d1
            obtain ⟨b2, o2, rfl, k1, k2⟩ := (HS6.out.same HBR.out).at hj2
            obtain ⟨b3, o3, rfl, y1, y2⟩ := (HR6.out.same HBR.out).at hlt
            have hgj : (srtR L).getD j (0, 0) = L.getD i (0, 0) := by
              rw [List.getD_eq_getElem?_getD]
              have : (srtR L)[j]? = some (L.getD i (0, 0)) := hsj
              rw [this]; rfl
            rw [hgj] at k1 k2
            generalize L.getD i (0, 0) = X at k1 k2 y1 y2
            obtain ⟨X1, X2⟩ := X
            have q3 : decide ((j : Int) < 0) = false := decide_eq_false (by omega)
            have q4 : decide ((sn : Int) ≤ (j : Int)) = false := decide_eq_false (by omega)
            have z0 : ((i : Int)).toNat = i := by omega
            have z1 : (0 : Int) ≤ (i : Int) := by omega
            have z2 : (i : Int) < (sn : Int) := by omega
            have z3 : ((j : Int)).toNat = j := by omega
            have z4 : (0 : Int) ≤ (j : Int) := by omega
            have z5 : (j : Int) < (sn : Int) := by omega
            clear hqi hsj hgj
            go_wp2_with fail
            go_quiet (fail)
            go_wp2
            go_roundw
            case rel => exact ⟨i + 1, by go_num, by omega, below_drewN HBR.out _⟩
            case measure => simp [intOf] <;> omega
          · obtain rfl : i = sn := by omega
            have q1 : decide ((i : Int) < (i : Int)) = false := by simp
            have HBE := Lib.hid (below_tr HB6.out HBR.out HB6.out.size)
            go_wp2
            go_ret
            exact ⟨ret_bool (by first | rfl | simp), HBE.out⟩

end Go.Proofs.Ytkckmjajjdpodaa
