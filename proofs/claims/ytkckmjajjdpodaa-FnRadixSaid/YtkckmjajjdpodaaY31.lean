/- Several texts in one: lemmas and walks of the functions that the laws reach. -/
import Derived.Test.YtkckmjajjdpodaaY30
import Derived.Test.YtkckmjajjdpodaaY25

/- Walks: the counts of digits; sums; drawn keys. -/
namespace Go.Proofs.Ytkckmjajjdpodaa
open Go.RowKit Go.Sort
set_option linter.unusedVariables false

theorem sum_bump : ∀ {cs : List Int} {d : Nat}, d < cs.length → (cs.set d (cs.getD d 0 + 1)).sum = cs.sum + 1
  | [], d, h => by simp at h
  | x :: l, 0, h => by simp; omega
  | x :: l, d + 1, h => by
    have ih := sum_bump (cs := l) (d := d) (by simpa using h)
    simp only [List.set_cons_succ, List.sum_cons, List.getD_cons_succ]
    omega
theorem sum_ge : ∀ {cs : List Int} {d : Nat}, (∀ x ∈ cs, 0 ≤ x) → cs.getD d 0 ≤ cs.sum ∧ 0 ≤ cs.sum
  | [], d, _ => by simp
  | x :: l, 0, h => by
    have h1 := h x (by simp)
    have ih := sum_ge (cs := l) (d := 0) (fun y hy => h y (List.mem_cons_of_mem _ hy))
    simp only [List.sum_cons, List.getD_cons_zero]; omega
  | x :: l, d + 1, h => by
    have h1 := h x (by simp)
    have ih := sum_ge (cs := l) (d := d) (fun y hy => h y (List.mem_cons_of_mem _ hy))
    simp only [List.sum_cons, List.getD_cons_succ]; omega

set_option maxRecDepth 100000 in
set_option maxHeartbeats 4000000 in
theorem digitCounts_any (a : Option Addr) (n c B p : Nat) (L : List (Int × Int)) (w : World) (hok : okRecs L = true) (hB : 2 ≤ B) (hB2 : B ≤ 256) (hp : p ≤ 17) (h : Rd w a n c L) :
    Calls Try.prog 47 #[.slice a n c, .int .i64 B, .int .i64 p] w fun e w' => ∃ (g : Nat) (cs : List Int), e = .returned (.tuple #[.slice (some ⟨g, 0, none⟩) B B, .bool true]) ∧ IntsAt w' (some ⟨g, 0, none⟩) cs ∧ cs.length = B ∧ cs.sum = (n : Int) ∧ (∀ x ∈ cs, 0 ≤ x) ∧ Below w.heap.size w w' := by
  have hlen := h.len
  have h64 := okRecs_le hok
  have HV : Hid (Calls Try.prog 81 #[.slice a n c] w fun e w' => e = .returned (.bool true) ∧ Below w.heap.size w w') := by
    have h1 := isValidRecords_any a c L w (by omega) h.recs
    rw [hlen, hok] at h1; exact h1
  have HX := Lib.hid (fun W => isRadix_any B p W)
  rw [rxOk_nat hB hB2 hp] at HX
  have HKEY := Lib.hid (okRecs_key hok)
  have HDG := Lib.hid (fun (k : Int) W (h0 : -100000 ≤ k) (h1 : k ≤ 100000) => digit_any k B p W h0 h1 hB hB2 hp)
  have H := Lib.hid h
  have hn64 : n ≤ 64 := by omega
  have hB0 : (0 : Int) ≤ (B : Int) := by omega
  clear h hok h64
  go_enter Try.func47, Try.ntmps47
  go_wp2_with fail
  refine HV.out.mono ?_
  rintro e w1 ⟨rfl, hb⟩
  have HB := Lib.hid hb; clear hb
  go_wp2_with fail
  refine (HX.out _).mono ?_
  rintro e w2 ⟨rfl, rfl⟩
  go_wp2_with (at_make; refine wpList_mk slInt rfl _ _ rfl B rfl rfl (by omega) ?_)
  intro w2 hown hb hsz
  have HO := Lib.hid (made_ints (by simpa [Value.cells] using hown))
  have HB2 := Lib.hid (below_tr HB.out hb HB.out.size)
  have HZ : Hid ((List.replicate B (0 : Int)).length = B ∧ (List.replicate B (0 : Int)).sum = ((0 : Nat) : Int) ∧ ∀ x ∈ List.replicate B (0 : Int), 0 ≤ x) := ⟨by simp, by simp, fun x hx => by have := List.eq_of_mem_replicate hx; omega⟩
  have hgw : w.heap.size ≤ w1.heap.size := HB.out.size
  clear hown hb HV HB
  generalize w1.heap.size = g at HO hgw hsz ⊢
  go_wp2_with fail
  go_loopw [24] (fun iv wr => ∃ (k : Nat) (cs : List Int), iv = .int .i64 k ∧ k ≤ n ∧ cs.length = B ∧ Hid (cs.sum = (k : Int)) ∧ Hid (∀ x ∈ cs, 0 ≤ x) ∧ wr.ownsRow g 3 1 (.slice (some ⟨g, 0, none⟩) B B) B (ints cs) ∧ Below w.heap.size w wr) (fun iv _ => n - (intOf iv).toNat)
  case atStart => exact ⟨0, _, rfl, by omega, HZ.out.1, Lib.hid HZ.out.2.1, Lib.hid HZ.out.2.2, HO.out, HB2.out⟩
  case round =>
    obtain ⟨k, cs, rfl, hk, hcl, HSUM, HPOS, ho, hb⟩ := hrel
    have HO3 := Lib.hid ho; have HB3 := Lib.hid hb
    clear ho hb HO HB2 HZ
    by_cases hlt : k < n
    · have q1 : decide ((k : Int) < (n : Int)) = true := decide_eq_true (by omega)
      obtain ⟨b, o, rfl, c1, c2⟩ := (H.out.same HB3.out).at hlt
      obtain ⟨⟨x, y⟩, hX⟩ : ∃ X, L.getD k (0, 0) = X := ⟨_, rfl⟩
      rw [hX] at c1 c2
      have hmem : (x, y) ∈ L := by
        rw [← hX, List.getD_eq_getElem?_getD, List.getElem?_eq_getElem (by omega)]
        exact List.getElem_mem (by omega)
      have hkx := HKEY.out _ hmem
      have HD := Lib.hid (fun W => HDG.out x W hkx.1 hkx.2)
      have hd := Mg.dgN_lt (B := B) (p := p) (n := Mg.nk (x, 0)) (by omega)
      obtain ⟨d, hdd⟩ : ∃ d, Mg.dgN B p (Mg.nk (x, 0)) = d := ⟨_, rfl⟩
      rw [hdd] at HD hd
      have hbn := belowNew wr (.cells #[.int .i64 x, .int .i64 y] 72)
      have HO4 := Lib.hid (own_below HO3.out (Nat.le_refl _) hbn)
      have HB4 := Lib.hid (below_tr HB3.out hbn HB3.out.size)
      have hle := sum_ge (d := d) HPOS.out
      rw [HSUM.out] at hle
      obtain ⟨v, hv⟩ : ∃ v, cs.getD d 0 = v := ⟨_, rfl⟩
      have hv0 : 0 ≤ v := by
        rw [← hv, List.getD_eq_getElem?_getD, List.getElem?_eq_getElem (by omega)]
        exact HPOS.out _ (List.getElem_mem (by omega))
      rw [hv] at hle
      have hc1 := HO4.out.cellAt d (by omega)
      have hcv : (ints cs)[d]? = some (.int .i64 v) := by
        unfold ints
        rw [List.getElem?_map, List.getElem?_eq_getElem (by omega), ← hv, List.getD_eq_getElem?_getD, List.getElem?_eq_getElem (by omega)]; rfl
      rw [hcv] at hc1
      have hf1 := HO4.out.frozenAt d
      have R := HO4.out.stored d (.int .i64 (v + 1))
      have hset : (ints cs).set d (.int .i64 (v + 1)) = ints (cs.set d (v + 1)) := by unfold ints; rw [List.map_set]
      rw [hset] at R
      have HR := Lib.hid R.1
      have HBR := Lib.hid (HB4.out.grown R.2 HB4.out.size (fun q hq => by injection hq with hq; omega))
      have HS2 : Hid ((cs.set d (v + 1)).length = B ∧ (cs.set d (v + 1)).sum = ((k + 1 : Nat) : Int) ∧ ∀ x ∈ cs.set d (v + 1), 0 ≤ x) := by
        refine ⟨by simp [hcl], ?_, fun z hz => ?_⟩
        · rw [← hv, sum_bump (by omega), HSUM.out]; omega
        · rcases List.mem_or_eq_of_mem_set hz with h1 | h1
          · exact HPOS.out z h1
          · omega
      have t0 : ((d : Int)).toNat = d := by omega
      have b0 : (0 : Int) ≤ (d : Int) := by omega
      have b1 : (d : Int) < (B : Int) := by omega
      have t1 : ((k : Int)).toNat = k := by omega
      have b2 : (0 : Int) ≤ (k : Int) := by omega
      have b3 : (k : Int) < (n : Int) := by omega
      have hv1 := hle.1
      have e0 := row_cell (block_new wr (.cells #[.int .i64 x, .int .i64 y] 72)) 0
      clear hX hmem hkx hdd hbn HO3 HB3 hle hv hcv hset R HO4 HB4 HSUM HPOS
      go_wp2_with fail
      refine (HD.out _).mono ?_
      rintro e w5 ⟨rfl, rfl⟩
      go_wp2_with fail
      go_roundw
      case rel => exact ⟨k + 1, _, by go_num, by omega, HS2.out.1, Lib.hid HS2.out.2.1, Lib.hid HS2.out.2.2, HR.out, HBR.out⟩
      case measure => simp [intOf] <;> omega
    · obtain rfl : k = n := by omega
      have q1 : decide ((k : Int) < (k : Int)) = false := by simp
      go_wp2
      refine bodyPost_ret (v := .tuple #[.slice (some ⟨g, 0, none⟩) B B, .bool true]) (by simp [results, Try.results47, go_sem]) rfl ?_
      exact ⟨g, cs, rfl, ints_of_own HO3.out, hcl, HSUM.out, HPOS.out, HB3.out⟩

set_option maxHeartbeats 1000000 in
theorem rSum_any (a : Option Addr) (B c : Nat) (cs : List Int) (k : Nat) (w : World) (hk : k ≤ 1000) (hl : cs.length = B) (hB : B ≤ 1000) (hs : cs.sum = (k : Int)) (h0 : ∀ x ∈ cs, 0 ≤ x) (h : IntsAt w a cs) :
    Calls Try.prog 48 #[.slice a B c] w fun e w' => e = .returned (.int .i64 (k : Int)) ∧ w = w' := by
  have H := Lib.hid h; have HS := Lib.hid hs; have H0 := Lib.hid h0
  clear h hs h0
  have HT : Hid (∀ i, (cs.take i).sum ≤ (k : Int) ∧ 0 ≤ (cs.take i).sum) := fun i => by
    have h1 : (cs.take i).sum + (cs.drop i).sum = (k : Int) := by rw [← List.sum_append, List.take_append_drop, HS.out]
    have h2 := sum_ge (cs := cs.drop i) (d := 0) (fun x hx => H0.out x (List.mem_of_mem_drop hx))
    have h3 := sum_ge (cs := cs.take i) (d := 0) (fun x hx => H0.out x (List.mem_of_mem_take hx))
    omega
  go_enter Try.func48, Try.ntmps48
  go_wp2
  go_loopw [3, 4] (fun sv iv wr => ∃ (i : Nat) (s : Int), iv = .int .i64 i ∧ sv = .int .i64 s ∧ i ≤ B ∧ Hid (s = (cs.take i).sum) ∧ w = wr) (fun _ iv _ => B - (intOf iv).toNat)
  case atStart => exact ⟨0, 0, rfl, rfl, by omega, Lib.hid (by simp), rfl⟩
  case round =>
    obtain ⟨i, s, rfl, rfl, hi, HSU, rfl⟩ := hrel
    by_cases hlt : i < B
    · have q1 : decide ((i : Int) < (B : Int)) = true := decide_eq_true (by omega)
      obtain ⟨b, off, rfl, hc⟩ := H.out.at (show i < cs.length by omega)
      obtain ⟨x, hx⟩ : ∃ x, cs.getD i 0 = x := ⟨_, rfl⟩
      rw [hx] at hc
      have hnx : (cs.take (i + 1)).sum = s + x := by
        rw [List.take_succ_eq_append_getElem (by omega), List.sum_append, ← HSU.out, ← hx, List.getD_eq_getElem?_getD, List.getElem?_eq_getElem (by omega)]; simp
      have hb := HT.out (i + 1)
      rw [hnx] at hb
      obtain ⟨hb1, hb2⟩ := hb
      have HN := Lib.hid hnx.symm
      have t0 : ((i : Int)).toNat = i := by omega
      have b0 : (0 : Int) ≤ (i : Int) := by omega
      have b1 : (i : Int) < (B : Int) := by omega
      clear hnx hx
      go_wp2
      go_roundw
      case rel => exact ⟨i + 1, s + x, by go_num, by first | rfl | go_num, by omega, HN, (by first | rfl | trivial)⟩
      case measure => simp [intOf] <;> omega
    · obtain rfl : i = B := by omega
      have q1 : decide ((i : Int) < (i : Int)) = false := by simp
      have hE : s = (k : Int) := by rw [HSU.out, List.take_of_length_le (by omega), HS.out]
      have HE := Lib.hid hE
      clear hE
      go_wp2
      go_ret
      exact ⟨by rw [HE.out]; rfl, rfl⟩

set_option maxHeartbeats 400000 in
theorem drawStableSortE_any (ac : Option Addr) (c : Nat) (cs : List Int) (w : World) (hl : cs.length ≤ 65537) (h : BytesAt w ac cs) :
    Calls Try.prog 109 #[.slice ac cs.length c] w (RdDraw w) := by
  have HD := Lib.hid (drawIV_any ac c cs w hl h)
  clear h
  unfold RdDraw at *
  go_enter Try.func109, Try.ntmps109
  go_wp2_with fail
  refine HD.out.mono ?_
  rintro e w1 ⟨a, n, c, rs, rfl, h1, h2, h3⟩
  have H1 := Lib.hid h1; have H3 := Lib.hid h3
  clear h1 h3
  go_wp2
  go_ret
  exact ⟨_, _, _, _, rfl, H1.out, h2, H3.out⟩
theorem specIsValidRecordsE_any (a : Option Addr) (n cap : Nat) (rs : List (Int × Int)) (w : World) (hbig : n ≤ 9223372036854775807) (h : Rd w a n cap rs) :
    Calls Try.prog 38 #[.slice a n cap] w fun e w' => e = .returned (.bool (okRecs rs)) ∧ w = w' := by
  have hl := h.len
  subst hl
  have H := Lib.hid (l2Records_any a cap rs w hbig h.recs)
  clear h
  go_enter Try.func38, Try.ntmps38
  go_wp2_with fail
  refine H.out.mono ?_
  rintro e w1 ⟨rfl, rfl⟩
  go_wp2
  go_ret
  exact ⟨rfl, rfl⟩

set_option maxRecDepth 100000 in
set_option maxHeartbeats 1000000 in
theorem vKeys_any (ac : Option Addr) (c : Nat) (cs : List Int) (w : World) (hl : cs.length ≤ 65537) (h : BytesAt w ac cs) :
    Calls Try.prog 43 #[.slice ac cs.length c] w fun e w' => ∃ (a : Option Addr) (n c : Nat) (L : List (Int × Int)), e = .returned (.slice a n c) ∧ Rd w' a n c L ∧ okRecs L = true ∧ Below w.heap.size w w' := by
  have HD := Lib.hid (drawStableSortE_any ac c cs w hl h)
  clear h
  unfold RdDraw at HD
  go_enter Try.func43, Try.ntmps43
  go_wp2_with fail
  refine HD.out.mono ?_
  rintro e w1 ⟨a, n, c1, L, rfl, hr, hn, hb⟩
  have HR := Lib.hid hr; have HB := Lib.hid hb
  have HV := Lib.hid (specIsValidRecordsE_any a n c1 L w1 (by omega) hr)
  clear hr hb HD
  cases hok : okRecs L
  · rw [hok] at HV
    have hbn := belowNew w1 (.cells #[.int .i64 2, .int .i64 0, .int .i64 1, .int .i64 1, .int .i64 2, .int .i64 2] 72)
    have HB2 := Lib.hid (below_tr HB.out hbn HB.out.size)
    have HL : Hid (Rd (w1.alloc (.cells #[.int .i64 2, .int .i64 0, .int .i64 1, .int .i64 1, .int .i64 2, .int .i64 2] 72)) (some ⟨w1.heap.size, 0, none⟩) 3 3 [(2, 0), (1, 1), (2, 2)]) :=
      rd_own (B := w1.heap.size) (own_lit (w := w1) (e := 72) (size := 2) #[.int .i64 2, .int .i64 0, .int .i64 1, .int .i64 1, .int .i64 2, .int .i64 2] 3 (by omega) rfl)
    clear hbn hok
    go_wp2_with fail
    refine HV.out.mono ?_
    rintro e w2 ⟨rfl, rfl⟩
    go_wp2
    go_ret
    exact ⟨_, _, _, _, rfl, HL.out, by decide, HB2.out⟩
  · rw [hok] at HV
    have HOK := Lib.hid hok
    clear hok
    go_wp2_with fail
    refine HV.out.mono ?_
    rintro e w2 ⟨rfl, rfl⟩
    go_wp2
    go_ret
    exact ⟨_, _, _, _, rfl, HR.out, HOK.out, HB.out⟩

end Go.Proofs.Ytkckmjajjdpodaa

/- The law FnRadix: its walk. -/
namespace Go.Proofs.Ytkckmjajjdpodaa
open Go.RowKit Go.Sort
set_option linter.unusedVariables false

theorem okRecs_perm {L K : List (Int × Int)} (hl : K.length = L.length) (hm : ∀ r ∈ K, r ∈ L) (h : okRecs L = true) : okRecs K = true := by
  unfold okRecs at h ⊢
  simp only [Bool.and_eq_true, decide_eq_true_eq, List.all_eq_true] at h ⊢
  exact ⟨by omega, fun x hx => h.2 x (hm x hx)⟩
theorem pas_ok {B p : Nat} {L : List (Int × Int)} (h : okRecs L = true) : okRecs (Mg.pasS B p L) = true := okRecs_perm (Mg.pas_len B p L) (fun r hr => Mg.pas_mem.1 hr) h
theorem pass_is_pas {B p : Nat} {L : List (Int × Int)} (hB : 0 < B) (h : okRecs L = true) : passL B p (Mg.pasS B p L) = Mg.pasS B (p + 1) L := by
  rw [passL_valid hB (okRecs_key (pas_ok h)), Mg.pas_succ hB]
theorem pas_asc {B p : Nat} (hB : 0 < B) (L : List (Int × Int)) : Mg.Asc (Mg.ltK (Mg.dgK B p)) (Mg.pasS B (p + 1) L) := by
  rw [← Mg.pas_succ hB]; exact Mg.srt_asc (Mg.swK _) _
theorem pas_dig {B p i : Nat} (hB : 0 < B) (L : List (Int × Int)) (h : i + 1 < L.length) {x y : Int × Int} (hx : (Mg.pasS B (p + 1) L).getD i (0, 0) = x) (hy : (Mg.pasS B (p + 1) L).getD (i + 1) (0, 0) = y) : Mg.dgN B p (Mg.nk x) ≤ Mg.dgN B p (Mg.nk y) := by
  have h1 := List.pairwise_iff_getElem.1 (pas_asc (p := p) hB L) i (i + 1) (by rw [Mg.pas_len]; omega) (by rw [Mg.pas_len]; omega) (by omega)
  rw [List.getD_eq_getElem?_getD, List.getElem?_eq_getElem (by rw [Mg.pas_len]; omega)] at hx hy
  simp only [Option.getD_some] at hx hy
  rw [hx, hy] at h1
  unfold Mg.ltK Mg.dgK at h1
  simp at h1
  omega

set_option maxRecDepth 100000 in
set_option maxHeartbeats 8000000 in
theorem lawRadix_any (ac : Option Addr) (cc : Nat) (cs : List Int) (w : World) (hbig : cs.length ≤ 9223372036854775807) (h : BytesAt w ac cs) :
    Calls Try.prog 6 #[.slice ac cs.length cc] w fun e w' => e = .returned (.bool true) ∧ Below w.heap.size w w' := by
  have HV := Lib.hid (vBigG_any ac cs.length cc w hbig)
  by_cases hl : 65536 < cs.length
  · rw [decide_eq_true hl] at HV
    clear h
    go_enter Try.func6, Try.ntmps6
    go_wp2_with (go_at_call 15; refine HV.out.mono ?_; rintro e w' ⟨rfl, rfl⟩)
    go_ret
    exact ⟨rfl, Below.refl _ _⟩
  rw [decide_eq_false hl] at HV
  have HD := Lib.hid (vKeys_any ac cc cs w (by omega) h)
  have HVA := Lib.hid (fun (i : Nat) (hi : i ≤ 1000) W (hb : Below w.heap.size w W) => vAtE_any ac cc cs i W (by omega) hi (h.below (Nat.le_refl _) hb))
  clear h
  go_enter Try.func6, Try.ntmps6
  go_wp2_with fail
  refine HV.out.mono ?_
  rintro e w1 ⟨rfl, rfl⟩
  go_wp2_with fail
  refine HD.out.mono ?_
  rintro e w1 ⟨a, n, c, L, rfl, hr, hok, hb⟩
  have HR1 := Lib.hid hr; have HB1 := Lib.hid hb; have HOK := Lib.hid hok
  have hlen := hr.len
  have hn64 : n ≤ 64 := by have := okRecs_le hok; omega
  clear hr hb hok HD HV
  go_wp2_with fail
  refine (HVA.out 0 (by omega) _ HB1.out).mono ?_
  rintro e w2 ⟨⟨r, rfl, hr0, hr1⟩, rfl⟩
  obtain ⟨q, hq, hq2⟩ : ∃ q : Nat, r.tmod 255 = (q : Int) ∧ q ≤ 254 := by
    have h1 := Int.tmod_nonneg 255 hr0
    have h2 := Int.tmod_lt_of_pos r (b := 255) (by omega)
    exact ⟨(r.tmod 255).toNat, by omega, by omega⟩
  have hq' : r % 255 = (q : Int) := by rw [← hq, Int.tmod_eq_emod_of_nonneg hr0]
  obtain ⟨B, hB⟩ : ∃ B : Nat, 2 + (q : Int) = (B : Int) ∧ 2 ≤ B ∧ B ≤ 256 := ⟨2 + q, by omega, by omega, by omega⟩
  obtain ⟨hBe, hB2, hB256⟩ := hB
  have HRS := Lib.hid (fun W (hb : Below w1.heap.size w1 W) => radixSort_any a n c B L W HOK.out hB2 hB256 (HR1.out.same hb))
  have HPN := Lib.hid (fun W (hr : Rd W a n c L) => passesNeeded2_any a n c B L W HOK.out hB2 hB256 hr)
  have HST := Lib.hid (fun W (hr : Rd W a n c L) => implStableSort_any a n c L W (by omega) hr)
  unfold RdEnd stAns at HST
  rw [HOK.out, if_pos rfl] at HST
  have h18 := Mg.npL_18 (B := B) hB2 (okRecs_key HOK.out)
  have HEND : Hid (Mg.pasS B (Mg.npL B L) L = srtR L) := Mg.pas_np hB2 (okRecs_key HOK.out)
  have hsl : (srtR L).length = n := by rw [srtR_len]; exact hlen
  generalize hG : srtR L = G at HRS HST HEND hsl
  generalize hN : Mg.npL B L = N at HRS HPN h18 HEND
  clear hG hN HVA
  go_wp2_with fail
  refine (HRS.out _ (Below.refl _ _)).mono ?_
  rintro e w2 ⟨xa, xc, rfl, hx, hb⟩
  have HX2 := Lib.hid hx
  have HR2 := Lib.hid (HR1.out.same hb)
  have HB2 := Lib.hid (below_tr HB1.out hb HB1.out.size)
  clear hx hb HRS HR1 HB1
  go_wp2_with fail
  refine (HST.out _ HR2.out).mono ?_
  rintro e w3 ⟨sa, sn, sc, rfl, hx, hb⟩
  have HS3 := Lib.hid hx
  have hsn : sn = n := by rw [← hx.len]; exact hsl
  subst hsn
  have HX3 := Lib.hid (HX2.out.same hb)
  have HR3 := Lib.hid (HR2.out.same hb)
  have HB3 := Lib.hid (below_tr HB2.out hb HB2.out.size)
  clear hx hb HST HX2 HR2 HB2
  go_wp2_with fail
  refine (HPN.out _ HR3.out).mono ?_
  rintro e w4 ⟨rfl, hb⟩
  have HS4 := Lib.hid (HS3.out.same hb)
  have HX4 := Lib.hid (HX3.out.same hb)
  have HR4 := Lib.hid (HR3.out.same hb)
  have HB4 := Lib.hid (below_tr HB3.out hb HB3.out.size)
  have q1 : ((N : Int) != (N : Int)) = false := by simp
  have q2 : decide (G = G) = true := by simp
  clear hb HPN HS3 HX3 HR3 HB3
  go_wp2_with fail
  refine (vRecords_any xa sa sn sn xc sc G G _ (by omega) (by omega) HX4.out HS4.out).mono ?_
  rintro e w5 ⟨rfl, hb⟩
  have HS5 := Lib.hid (HS4.out.same hb)
  have HR5 := Lib.hid (HR4.out.same hb)
  have HB5 := Lib.hid (below_tr HB4.out hb HB4.out.size)
  clear hb HX4 HS4 HR4 HB4 q1
  have E0 := Lib.hid (own_lit (w := w5) (e := 72) (size := 2) #[] 0 (by omega) rfl)
  have hbn := belowNew w5 (.cells #[] 72)
  have HR6 := Lib.hid (HR5.out.same hbn)
  have HS6 := Lib.hid (HS5.out.same hbn)
  have HB6 := Lib.hid (below_tr HB5.out hbn HB5.out.size)
  have hs6 : (w5.alloc (.cells #[] 72)).heap.size = w5.heap.size + 1 := by simp
  have HSF : Hid (∀ b off, sa = some ⟨b, off, none⟩ → G ≠ [] → b < w5.heap.size) := fun b off e hne => by
    rcases HS5.out.recs with h1 | ⟨b', off', e', h1, _⟩
    · exact absurd h1 hne
    · rw [e'] at e; injection e with e; injection e with e; omega
  clear hbn HR5
  go_wp2_with (at_builtin; refine wpList_appR (v := .slice (some ⟨w5.heap.size, 0, none⟩) 0 0) slRec rfl _ _ rfl rfl E0.out rfl HR6.out.recs HR6.out.len HR6.out.nil (by omega) (by omega) ?_; intro v' w7 hown2 hg2 ht2; rw [Nat.zero_add] at hown2; generalize hGG : wpList _ _ _ _ _ _ = GG)
  obtain ⟨a7, c7, rfl⟩ := own_slice hown2
  have HN7 : Hid (Rd w7 a7 sn c7 (Mg.pasS B 0 L)) := by
    show Rd _ _ _ _ _
    rw [Mg.pas_zero]
    exact rd_own (B := w5.heap.size) (by simpa using hown2)
  have HB7 := Lib.hid (HB6.out.grown hg2 HB6.out.size (fun b e => by simp [Value.ownBlock] at e; have := HB5.out.size; omega))
  have HS7 : Hid (Rd w7 sa sn sc G) := by
    by_cases hne : G = []
    · exact ⟨.inl hne, HS6.out.len, HS6.out.nil, HS6.out.cap⟩
    · exact HS6.out.grown hg2 (fun b off e e2 => by simp [Value.ownBlock] at e2; have := HSF.out b off e hne; omega)
  clear hown2 hg2 ht2 E0 HR6 HS6 HB6 HS5 HB5 HSF
  subst hGG
  have HRP := Lib.hid (fun (x : Option Addr) (d p : Nat) W (hp : p ≤ 17) (hr : Rd W x sn d (Mg.pasS B p L)) => radixPass_any x sn d B p (Mg.pasS B p L) W (pas_ok HOK.out) hB2 hB256 hp hr)
  have HDC := Lib.hid (fun (x : Option Addr) (d p : Nat) W (hp : p ≤ 17) (hr : Rd W x sn d (Mg.pasS B p L)) => digitCounts_any x sn d B p (Mg.pasS B p L) W (pas_ok HOK.out) hB2 hB256 hp hr)
  have HDO := Lib.hid (fun (k : Int) (p : Nat) W (h0 : -100000 ≤ k ∧ k ≤ 100000) (hp : p ≤ 17) => digitOf_any k B p W h0.1 h0.2 hB2 hB256 hp)
  have HSM := Lib.hid (fun (x : Option Addr) (ds : List Int) W (h1 : ds.length = B) (h2 : ds.sum = (sn : Int)) (h3 : ∀ y ∈ ds, 0 ≤ y) (h4 : IntsAt W x ds) => rSum_any x B B ds sn W (by omega) h1 (by omega) h2 h3 h4)
  unfold RdEnd at HRP
  go_wp2_with fail
  go_loopw [12, 13] (fun lv iv wr => ∃ (p : Nat) (x : Option Addr) (d : Nat), iv = .int .i64 p ∧ lv = .slice x sn d ∧ p ≤ N ∧ Rd wr x sn d (Mg.pasS B p L) ∧ Rd wr sa sn sc G ∧ Below w.heap.size w wr) (fun _ iv _ => N - (intOf iv).toNat)
  case atStart => exact ⟨0, a7, c7, rfl, rfl, by omega, HN7.out, HS7.out, HB7.out⟩
  case round =>
    obtain ⟨p, x, d, rfl, rfl, hp, hr, hs, hb⟩ := hrel
    have HN := Lib.hid hr; have HS := Lib.hid hs; have HB := Lib.hid hb
    clear hr hs hb HN7 HS7 HB7
    by_cases hlt : p < N
    · have q3 : decide ((p : Int) < (N : Int)) = true := decide_eq_true (by omega)
      have hp17 : p ≤ 17 := by omega
      go_wp2_with fail
      refine (HRP.out x d p _ hp17 HN.out).mono ?_
      rintro e w8 ⟨ya, yn, yc, rfl, hy, hb⟩
      rw [pass_is_pas (by omega) HOK.out] at hy
      have hyn : yn = sn := by rw [← hy.len, Mg.pas_len]; exact hlen
      subst hyn
      have HY8 := Lib.hid hy
      have HN8 := Lib.hid (HN.out.same hb)
      have HS8 := Lib.hid (HS.out.same hb)
      have HB8 := Lib.hid (below_tr HB.out hb HB.out.size)
      clear hy hb HN HS HB
      go_wp2_with fail
      refine (HDC.out x d p _ hp17 HN8.out).mono ?_
      rintro e w9 ⟨g9, ds, rfl, hi, hdl, hds, hd0, hb⟩
      have HD9 := Lib.hid (And.intro hi (And.intro hdl (And.intro hds hd0)))
      have HY9 := Lib.hid (HY8.out.same hb)
      have HS9 := Lib.hid (HS8.out.same hb)
      have HB9 := Lib.hid (below_tr HB8.out hb HB8.out.size)
      have q4 : ((yn : Int) != (yn : Int)) = false := by simp
      have q5 : ((B : Int) != (B : Int)) = false := by simp
      clear hi hdl hds hd0 hb HY8 HN8 HS8 HB8
      go_wp2_with fail
      refine (HSM.out _ ds _ HD9.out.2.1 HD9.out.2.2.1 HD9.out.2.2.2 HD9.out.1).mono ?_
      rintro e wa ⟨rfl, rfl⟩
      clear HD9
      go_wp2_with fail
      go_loopw [18] (fun iv wq => ∃ i : Nat, iv = .int .i64 i ∧ 1 ≤ i ∧ i ≤ yn + 1 ∧ w9 = wq) (fun iv _ => yn + 1 - (intOf iv).toNat)
      case atStart => exact ⟨1, rfl, by omega, by omega, rfl⟩
      case round =>
        obtain ⟨i, rfl, hi1, hi2, rfl⟩ := hrel
        by_cases hlt2 : i < yn
        · have q6 : decide ((i : Int) < (yn : Int)) = true := decide_eq_true (by omega)
          obtain ⟨j, rfl⟩ : ∃ j, i = j + 1 := ⟨i - 1, by omega⟩
          obtain ⟨b, o, rfl, d1, d2⟩ := HY9.out.at (show j < yn by omega)
          obtain ⟨b', o', e, c1, c2⟩ := HY9.out.at (show j + 1 < yn by omega)
          injection e with e
          injection e with e1 e2
          subst e1 e2
          obtain ⟨⟨x1, x2⟩, hX⟩ : ∃ X, (Mg.pasS B (p + 1) L).getD j (0, 0) = X := ⟨_, rfl⟩
          obtain ⟨⟨y1, y2⟩, hY⟩ : ∃ X, (Mg.pasS B (p + 1) L).getD (j + 1) (0, 0) = X := ⟨_, rfl⟩
          rw [hX] at d1 d2
          rw [hY] at c1 c2
          have hdg := pas_dig (B := B) (p := p) (i := j) (by omega) L (by omega) hX hY
          have hkey := okRecs_key (pas_ok (B := B) (p := p + 1) HOK.out)
          have hx : (x1, x2) ∈ Mg.pasS B (p + 1) L := by
            rw [← hX, List.getD_eq_getElem?_getD, List.getElem?_eq_getElem (by rw [Mg.pas_len]; omega)]
            exact List.getElem_mem (by rw [Mg.pas_len]; omega)
          have hy : (y1, y2) ∈ Mg.pasS B (p + 1) L := by
            rw [← hY, List.getD_eq_getElem?_getD, List.getElem?_eq_getElem (by rw [Mg.pas_len]; omega)]
            exact List.getElem_mem (by rw [Mg.pas_len]; omega)
          have HD1 := Lib.hid (fun W => HDO.out x1 p W (hkey _ hx) hp17)
          have HD2 := Lib.hid (fun W => HDO.out y1 p W (hkey _ hy) hp17)
          have en1 : Mg.nk (x1, 0) = Mg.nk (x1, x2) := rfl
          have en2 : Mg.nk (y1, 0) = Mg.nk (y1, y2) := rfl
          rw [en1] at HD1
          rw [en2] at HD2
          generalize Mg.dgN B p (Mg.nk (x1, x2)) = u at HD1 hdg
          generalize Mg.dgN B p (Mg.nk (y1, y2)) = v at HD2 hdg
          have q7 : ¬ v < u := by omega
          have t1 : ((j : Int) + 1).toNat = j + 1 := by omega
          have t0 : ((j : Int)).toNat = j := by omega
          have b0 : (0 : Int) ≤ (j : Int) := by omega
          have b1 : (j : Int) + 1 < (yn : Int) := by omega
          have b2 : (j : Int) < (yn : Int) := by omega
          have b3 : (0 : Int) ≤ (j : Int) + 1 := by omega
          have w1 : IntKind.i64.wrap (j : Int) = (j : Int) := IntWalk.i64_in _ (by omega)
          have hcast : ((j + 1 : Nat) : Int) = (j : Int) + 1 := by omega
          rw [hcast] at q6 ⊢
          clear hX hY hdg hkey hx hy en1 en2
          go_wp2_with fail
          refine (HD1.out _).mono ?_
          rintro e wb ⟨rfl, rfl⟩
          go_wp2_with fail
          refine (HD2.out _).mono ?_
          rintro e wb ⟨rfl, rfl⟩
          go_wp2
          exact ⟨⟨j + 2, by go_num, by omega, by omega, trivial⟩, by simp [intOf] <;> omega⟩
        · have q6 : decide ((i : Int) < (yn : Int)) = false := decide_eq_false (by omega)
          go_wp2_with fail
          go_roundw
          case rel => exact ⟨p + 1, ya, yc, by go_num, rfl, by omega, HY9.out, HS9.out, HB9.out⟩
          case measure => simp [intOf] <;> omega
    · obtain rfl : p = N := by omega
      have q3 : decide ((p : Int) < (p : Int)) = false := by simp
      rw [HEND.out] at HN
      go_wp2_with fail
      refine (vRecords_any x sa sn sn d sc G G _ (by omega) (by omega) HN.out HS.out).mono ?_
      rintro e w8 ⟨rfl, hb⟩
      have HBE := Lib.hid (below_tr HB.out hb HB.out.size)
      clear hb
      go_wp2
      go_ret
      exact ⟨ret_bool (by first | rfl | simp), HBE.out⟩

end Go.Proofs.Ytkckmjajjdpodaa
