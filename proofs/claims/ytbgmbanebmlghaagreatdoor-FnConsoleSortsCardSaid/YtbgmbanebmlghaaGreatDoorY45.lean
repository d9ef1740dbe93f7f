/- Several texts in one: lemmas and walks of the functions that the law reaches. -/
import Derived.Test.YtbgmbanebmlghaaGreatDoorY18
import Derived.Test.YtbgmbanebmlghaaGreatDoorY44

namespace Go.Proofs.YtbgmbanebmlghaaGreatDoor
open Go.RowKit
set_option linter.unusedVariables false

theorem wordsC0 : wordsB ⟨#[115, 111, 114, 116, 32, 109, 101, 114, 103, 101]⟩ = [⟨#[115, 111, 114, 116]⟩, ⟨#[109, 101, 114, 103, 101]⟩] := by kernel_rfl
theorem cmdC0 : Tx.okCmd (bs ⟨#[115, 111, 114, 116, 32, 109, 101, 114, 103, 101]⟩) = true := by decide
theorem wordsC1 : wordsB ⟨#[115, 111, 114, 116, 32, 97, 100, 97, 112, 116, 105, 118, 101]⟩ = [⟨#[115, 111, 114, 116]⟩, ⟨#[97, 100, 97, 112, 116, 105, 118, 101]⟩] := by kernel_rfl
theorem cmdC1 : Tx.okCmd (bs ⟨#[115, 111, 114, 116, 32, 97, 100, 97, 112, 116, 105, 118, 101]⟩) = true := by decide
theorem wordsC2 : wordsB ⟨#[115, 111, 114, 116, 32, 101, 120, 116, 101, 114, 110, 97, 108, 32, 51, 32, 50, 32, 49]⟩ = [⟨#[115, 111, 114, 116]⟩, ⟨#[101, 120, 116, 101, 114, 110, 97, 108]⟩, ⟨#[51]⟩, ⟨#[50]⟩, ⟨#[49]⟩] := by kernel_rfl
theorem cmdC2 : Tx.okCmd (bs ⟨#[115, 111, 114, 116, 32, 101, 120, 116, 101, 114, 110, 97, 108, 32, 51, 32, 50, 32, 49]⟩) = true := by decide
theorem wordsCI : wordsB ⟨#[105, 110, 115, 101, 114, 116, 105, 111, 110]⟩ = [⟨#[105, 110, 115, 101, 114, 116, 105, 111, 110]⟩] := by kernel_rfl
theorem cmdCI : Tx.okCmd (bs ⟨#[105, 110, 115, 101, 114, 116, 105, 111, 110]⟩) = true := by decide
theorem numsC : nums [⟨#[51]⟩, ⟨#[50]⟩, ⟨#[49]⟩] = some [3, 2, 1] := by kernel_rfl
theorem notQ {zs : List Int} : (!((ba (numT 32 zs)).toList == [63])) = true := by
  have h : ((ba (numT 32 zs)).toList == [63]) = false := by
    rw [bs_toList, bs_ba, beq_eq_false_iff_ne]
    intro e
    have := numT_bytes (zs := zs) 63 (by rw [e]; simp)
    revert this; decide
  rw [h]; rfl
theorem two_txt (n : Int) : (ba (numT 32 [n, 0])).toList = (numB n ++ ⟨#[32, 48]⟩).toList := by
  rw [bs_toList, bs_toList, bs_ba, bs_add]
  unfold numT numB
  rw [if_neg (by simp)]
  show Lib.join (([] ++ [Lib.itoa n]) ++ [Lib.itoa 0]) [32] = _
  rw [join_snoc, join_snoc]
  simp [bs_ba]
  have h0 : Lib.itoa 0 = [48] := by simp [Lib.itoa, Lib.decDigits]
  rw [h0]; rfl
/-- What the sorting command of the law gives. -/
structure SrtC (line : ByteArray) (rs : Recs) (t : List UInt8) : Prop where
  cmd : Tx.okCmd (bs line) = true
  len : t.length ≤ 200
  rep : Tx.okRep t = true
  q : (!((ba t).toList == [63])) = true
  pf : ∀ (a : Option Addr) (n c : Nat) (W : World), n ≤ 1000 → Rd W a n c rs → Env W → Calls Tryz.prog 56 #[.slice a n c, .string line] W (PfEnd W (srtR rs) t)
theorem stAnsC {rs : Recs} (h : okRecs rs = true) : stAns rs = srtR rs := by unfold stAns; rw [if_pos h]
theorem srtC_of {line : ByteArray} {rs : Recs} {zs : List Int} {x : ByteArray} {xs : List ByteArray} (hok : okRecs rs = true) (hw : wordsB line = x :: xs) (hx : bs x = [115, 111, 114, 116]) (hxs : 0 < xs.length) (hl : line.size ≤ 1000) (hc : Tx.okCmd (bs line) = true) (hs : sortC rs xs = some (srtR rs, numT 32 zs)) (hz : zs.length ≤ 4) (hb : ∀ y ∈ zs, -9223372036854775808 ≤ y ∧ y ≤ 9223372036854775807) : SrtC line rs (numT 32 zs) := by
  have hlen : (numT 32 zs).length ≤ 200 := Nat.le_trans (numT_len (k := 4) hz (by omega) hb) (by omega)
  exact ⟨hc, hlen, numT_rep hlen, notQ, fun a n c W hn hr he => performSort_any a n c rs (srtR rs) _ line x xs W hw hxs hx hs hn hl hok hr he⟩
theorem srtC_0 {rs : Recs} (h : okRecs rs = true) : ∃ t, SrtC ⟨#[115, 111, 114, 116, 32, 109, 101, 114, 103, 101]⟩ rs t := by
  refine ⟨_, srtC_of h wordsC0 (by rfl) (by simp) (by decide) cmdC0 (zs := [(msC rs : Int)]) ?_ (by simp) (fun y hy => ?_)⟩
  · show sortX rs _ [] = _
    unfold sortX
    rw [if_pos ⟨by rfl, rfl⟩, stAnsC h]
  · simp only [List.mem_singleton] at hy
    have := msC_le rs; have := okRecs_le h; omega
theorem srtC_1 {rs : Recs} (h : okRecs rs = true) : ∃ t, SrtC ⟨#[115, 111, 114, 116, 32, 97, 100, 97, 112, 116, 105, 118, 101]⟩ rs t := by
  refine ⟨_, srtC_of h wordsC1 (by rfl) (by simp) (by decide) cmdC1 (zs := [(adN rs : Int)]) ?_ (by simp) (fun y hy => ?_)⟩
  · show sortX rs _ [] = _
    unfold sortX
    rw [if_neg (fun e => absurd e.1 (by decide)), if_pos ⟨by rfl, rfl⟩, adL_stC, stAnsC h]
  · simp only [List.mem_singleton] at hy
    have := adN_le rs; omega
theorem srtC_2 {rs : Recs} (h : okRecs rs = true) : ∃ t, SrtC ⟨#[115, 111, 114, 116, 32, 101, 120, 116, 101, 114, 110, 97, 108, 32, 51, 32, 50, 32, 49]⟩ rs t := by
  have hb := cost_bound rs 3 2 1
  have hok : exOk rs 3 2 1 = true := by unfold exOk; rw [h]; rfl
  refine ⟨_, srtC_of h wordsC2 (by rfl) (by simp) (by decide) cmdC2 (zs := [((exC rs 3 2 1).1 : Int), ((exC rs 3 2 1).2.1 : Int), ((exC rs 3 2 1).2.2.1 : Int), ((exC rs 3 2 1).2.2.2 : Int)]) ?_ (by simp) (fun y hy => ?_)⟩
  · show sortX rs _ _ = _
    unfold sortX
    rw [if_neg (fun e => absurd e.1 (by decide)), if_neg (fun e => absurd e.1 (by decide)), if_pos (by rfl), numsC]
    show (if exOk rs 3 2 1 then _ else _) = _
    rw [if_pos hok]
    unfold exL costT
    rw [if_pos hok]
    rfl
  · simp only [List.mem_cons, List.not_mem_nil, or_false] at hy
    omega

set_option maxRecDepth 100000 in
set_option maxHeartbeats 8000000 in
theorem lawConsoleSorts_any (ac : Option Addr) (cc : Nat) (cs : List Int) (w : World) (henv : Env w) (hbig : cs.length ≤ 9223372036854775807) (h : BytesAt w ac cs) :
    Calls Tryz.prog 3 #[.slice ac cs.length cc] w fun e w' => e = .returned (.bool true) ∧ Below w.heap.size w w' := by
  have HV := Lib.hid (vBigG_any ac cs.length cc w hbig)
  by_cases hl : 65536 < cs.length
  · rw [decide_eq_true hl] at HV
    clear h
    go_enter Tryz.func3, Tryz.ntmps3
    go_wp2_with (go_at_call 10; refine HV.out.mono ?_; rintro e w' ⟨rfl, rfl⟩)
    go_ret
    exact ⟨rfl, Below.refl _ _⟩
  rw [decide_eq_false hl] at HV
  have HD := Lib.hid (vListL_any ac cc cs w (by omega) h)
  have hcl : cs.length ≤ 65537 := by omega
  have HBY := Lib.hid h; have HE := Lib.hid henv
  clear h henv
  unfold VlEnd at HD
  go_enter Tryz.func3, Tryz.ntmps3
  go_wp2_with fail
  refine HV.out.mono ?_
  rintro e w1 ⟨rfl, rfl⟩
  go_wp2_with fail
  refine HD.out.mono ?_
  rintro e w1 ⟨a, n, c, zs, rfl, hi, hzn, hok, hb⟩
  have HI1 := Lib.hid hi; have HB1 := Lib.hid hb
  have HBY1 := Lib.hid (HBY.out.below (Nat.le_refl _) hb)
  have HE1 := Lib.hid (HE.out.below hb)
  have hn64 : n ≤ 64 := by rw [← hzn]; exact okList_lenQ hok
  have HNC : Hid (Calls Tryz.prog 12 #[.slice a n c] w1 fun e w' => ∃ a' c', e = .returned (.tuple #[.agg #[.slice a' n c', .string ⟨#[]⟩, .string ⟨#[]⟩, .int .i64 0], .bool true]) ∧ w'.ownsRow w1.heap.size 87 2 (.slice a' n c') n (flat encR (recsOf zs)) ∧ Below w1.heap.size w1 w') := by
    have := implNewConsole_any a c zs w1 (by omega) hi
    have e1 : ncRecs zs = recsOf zs := by unfold ncRecs; rw [if_pos hok]
    have e2 : (recsOf zs).length = n := by rw [recsOf, recsK_len]; exact hzn
    rwa [e1, e2, hzn, hok] at this
  have HROK := Lib.hid (okRecs_recsC hok)
  have HRL : Hid ((recsOf zs).length = n) := by show _ = _; rw [recsOf, recsK_len]; exact hzn
  generalize recsOf zs = rs at HNC HROK HRL
  clear hi hb HD HV HBY HE HI1 hok hzn
  go_wp2_with fail
  refine HNC.out.mono ?_
  rintro e w2 ⟨a2, c2, rfl, ho, hb⟩
  have hbn := (Below.refl w2.heap.size w2).alloc (Nat.le_refl _) (.cells #[.slice a2 n c2, .string ⟨#[]⟩, .string ⟨#[]⟩, .int .i64 0] 30)
  have HB2 := Lib.hid (below_tr (below_tr HB1.out hb HB1.out.size) hbn (Nat.le_trans HB1.out.size hb.size))
  have HR2 := Lib.hid ((rd_own ho).same hbn)
  have HE2 := Lib.hid ((HE1.out.below hb).below hbn)
  have HBY2 := Lib.hid ((HBY1.out.below (Nat.le_refl _) hb).below (Nat.le_refl _) hbn)
  have HL2 := Lib.hid (L4.mk' w2 (.slice a2 n c2) (.string ⟨#[]⟩) (.string ⟨#[]⟩) (.int .i64 0) 30)
  clear ho hb hbn HNC HB1 HBY1 HE1
  have HST := Lib.hid (implStableSort_any a2 n c2 rs (w2.alloc (.cells #[.slice a2 n c2, .string ⟨#[]⟩, .string ⟨#[]⟩, .int .i64 0] 30)) (by omega) HR2.out)
  rw [stAnsC HROK.out, HROK.out] at HST
  unfold RdEnd at HST
  go_wp2_with fail
  refine HST.out.mono ?_
  rintro e w3 ⟨a3, n3, c3, rfl, hr3, hb⟩
  obtain ⟨W2, hW2⟩ : ∃ W2, w2.alloc (.cells #[.slice a2 n c2, .string ⟨#[]⟩, .string ⟨#[]⟩, .int .i64 0] 30) = W2 := ⟨_, rfl⟩
  have hn3 : n3 = n := by rw [← hr3.len, show (srtR rs).length = rs.length from Mg.srt_length rs, HRL.out]
  subst hn3
  rw [hW2] at HB2 HR2 HE2 HBY2 HL2 hb
  have HR3 := Lib.hid hr3
  have HB3 := Lib.hid (below_tr HB2.out hb HB2.out.size); have HR23 := Lib.hid (HR2.out.same hb); have HE3 := Lib.hid (HE2.out.below hb); have HBY3 := Lib.hid (HBY2.out.below (Nat.le_refl _) hb); have HL3 := Lib.hid (HL2.out.next hb)
  clear hr3 hb HST HB2 HR2 HE2 HBY2 HL2 hW2
  go_wp2_with fail
  refine (vAtG_any ac cc cs 6 w3 hcl (by omega) HBY3.out).mono ?_
  rintro e w4 ⟨⟨r, rfl, hr0, hr1⟩, rfl⟩
  have hr2 : r.tmod 3 = r % 3 := Int.tmod_eq_emod_of_nonneg hr0
  obtain ⟨line, hline, t, hS⟩ : ∃ line : ByteArray, ((r % 3 = 0 ∧ line = ⟨#[115, 111, 114, 116, 32, 109, 101, 114, 103, 101]⟩) ∨ (r % 3 = 1 ∧ line = ⟨#[115, 111, 114, 116, 32, 97, 100, 97, 112, 116, 105, 118, 101]⟩) ∨ (r % 3 = 2 ∧ line = ⟨#[115, 111, 114, 116, 32, 101, 120, 116, 101, 114, 110, 97, 108, 32, 51, 32, 50, 32, 49]⟩)) ∧ ∃ t, SrtC line rs t := by
    have hm : r % 3 = 0 ∨ r % 3 = 1 ∨ r % 3 = 2 := by omega
    rcases hm with h | h | h
    · exact ⟨_, .inl ⟨h, rfl⟩, srtC_0 HROK.out⟩
    · exact ⟨_, .inr (.inl ⟨h, rfl⟩), srtC_1 HROK.out⟩
    · exact ⟨_, .inr (.inr ⟨h, rfl⟩), srtC_2 HROK.out⟩
  have HS := Lib.hid hS
  have HLS : Hid (line.size ≤ 1000) := by rcases hline with ⟨_, rfl⟩ | ⟨_, rfl⟩ | ⟨_, rfl⟩ <;> (show _ ≤ _; decide)
  obtain ⟨sok, hsok⟩ : ∃ s, s = srtR rs := ⟨_, rfl⟩
  have HLR : Hid ((srtR rs).length = n3) := HR3.out.len
  have hE1 : Tx.okE (recE line (ba t)) = true := okE_cmd hS.cmd hS.rep
  have hE0 : Tx.okE (recE line ⟨#[]⟩) = true := by have := okE_cmd (t := []) hS.cmd (by decide); exact this
  have HX := Lib.hid (execOk_any a2 n3 c2 rs (srtR rs) ⟨#[]⟩ ⟨#[]⟩ line 0 t w3 (by omega) (by decide) (by decide) HROK.out okLog_start hE0 (by decide) hS.len hE1 (by rw [HLR.out]; omega) HLS.out HR23.out HE3.out (fun W hb => hS.pf a2 n3 c2 W (by omega) (HR23.out.same hb) (HE3.out.below hb)))
  have hlg := okLog_appC (k := 0) okLog_start hE1 (by omega)
  have hps : ((⟨#[]⟩ : ByteArray) ++ encB (0 : Int).toNat line (ba t)).size ≤ 1048576 := by
    have h2 : (encB (0 : Int).toNat line (ba t)).size ≤ 302 := by
      show (encB 0 line (ba t)).size ≤ 302
      have h1 := Tx.line_len (k := 0) (by omega) hE1
      unfold encB
      rw [size_mk, List.length_append]
      simp only [List.length_singleton]
      omega
    have h3 : ((⟨#[]⟩ : ByteArray) ++ encB (0 : Int).toNat line (ba t)).size = 0 + (encB (0 : Int).toNat line (ba t)).size := size_add _ _
    omega
  have HLG : Hid (Tx.okLog (logOf ⟨#[]⟩ ((⟨#[]⟩ : ByteArray) ++ encB (0 : Int).toNat line (ba t)) 1) = true) := hlg
  obtain ⟨p1, hp1⟩ : ∃ p1, (⟨#[]⟩ : ByteArray) ++ encB (0 : Int).toNat line (ba t) = p1 := ⟨_, rfl⟩
  rw [hp1] at HX HLG hps
  have HQ := Lib.hid hS.q
  obtain ⟨tb, htb⟩ : ∃ tb, ba t = tb := ⟨_, rfl⟩
  unfold XcEnd at HX
  rw [htb] at HX HQ
  unfold conV at HX
  clear hE1 hE0 hlg hS hp1 htb hr0 hr1 HS HLS sok hsok
  obtain ⟨l0, l1, l2, l3, _⟩ := HL3.out
  rcases hline with ⟨hr3, rfl⟩ | ⟨hr3, rfl⟩ | ⟨hr3, rfl⟩
  all_goals
    have q1 : (r % 3 == 1) = decide (r % 3 = 1) := by rfl
    rw [hr3] at hr2
    clear hr3 q1
    go_wp2_with fail
    refine HX.out.mono ?_
    rintro e w5 ⟨g5, m5, c5, rfl, ho, hb⟩
    have hm5 : m5 = n3 := by
      have := ho.1
      rw [flat_length encR_len, HLR.out] at this
      omega
    subst hm5
    have hbn := (Below.refl w5.heap.size w5).alloc (Nat.le_refl _) (.cells #[.slice (some ⟨g5, 0, none⟩) m5 c5, .string ⟨#[]⟩, .string p1, .int .i64 1] 30)
    have HB5 := Lib.hid (below_tr (below_tr HB3.out hb HB3.out.size) hbn (Nat.le_trans HB3.out.size hb.size))
    have HR5 := Lib.hid ((rd_own ho).same hbn)
    have HR35 := Lib.hid ((HR3.out.same hb).same hbn)
    have HE5 := Lib.hid ((HE3.out.below hb).below hbn)
    have HL5 := Lib.hid (L4.mk' w5 (.slice (some ⟨g5, 0, none⟩) m5 c5) (.string ⟨#[]⟩) (.string p1) (.int .i64 1) 30)
    have HGP := Lib.hid (Es.gapd_sorted (keys_ascC rs))
    have hkl : (keysL (srtR rs)).length = m5 := by rw [keysL_len]; exact HLR.out
    rw [hkl] at HGP
    have hE1 : Tx.okE (recE ⟨#[105, 110, 115, 101, 114, 116, 105, 111, 110]⟩ (ba (numT 32 [((m5 - 1 : Nat) : Int), 0]))) = true := okE_cmd cmdCI (numT_rep (Nat.le_trans (numT_len (k := 2) (by simp) (by omega) (fun y hy => by simp only [List.mem_cons, List.not_mem_nil, or_false] at hy; omega)) (by omega)))
    have hE0 : Tx.okE (recE ⟨#[105, 110, 115, 101, 114, 116, 105, 111, 110]⟩ ⟨#[]⟩) = true := by have := okE_cmd (t := []) cmdCI (by decide); exact this
    have HY := Lib.hid (execOk_any (some ⟨g5, 0, none⟩) m5 c5 (srtR rs) (srtR rs) ⟨#[]⟩ p1 ⟨#[105, 110, 115, 101, 114, 116, 105, 111, 110]⟩ 1 (numT 32 [((m5 - 1 : Nat) : Int), 0]) (w5.alloc (.cells #[.slice (some ⟨g5, 0, none⟩) m5 c5, .string ⟨#[]⟩, .string p1, .int .i64 1] 30)) (by omega) (by decide) hps (okRecs_srtC HROK.out) HLG.out hE0 (by decide) (Nat.le_trans (numT_len (k := 2) (by simp) (by omega) (fun y hy => by simp only [List.mem_cons, List.not_mem_nil, or_false] at hy; omega)) (by omega)) hE1 (by rw [HLR.out]; omega) (by decide) HR5.out HE5.out
      (fun W hb => performIns_any (some ⟨g5, 0, none⟩) m5 c5 (m5 - 1) 0 (srtR rs) _ ⟨#[105, 110, 115, 101, 114, 116, 105, 111, 110]⟩ ⟨#[105, 110, 115, 101, 114, 116, 105, 111, 110]⟩ W wordsCI (by rfl) (by decide) (okList_keysC (okRecs_srtC HROK.out)) HGP.out ⟨by omega, by omega⟩ (HR5.out.same hb) (HE5.out.below hb)))
    unfold XcEnd conV at HY
    have HTX := Lib.hid (two_txt ((m5 - 1 : Nat) : Int))
    obtain ⟨p2, hp2⟩ : ∃ p2, p1 ++ encB (1 : Int).toNat ⟨#[105, 110, 115, 101, 114, 116, 105, 111, 110]⟩ (ba (numT 32 [((m5 - 1 : Nat) : Int), 0])) = p2 := ⟨_, rfl⟩
    rw [hp2] at HY
    obtain ⟨tc, htc⟩ : ∃ tc, ba (numT 32 [((m5 - 1 : Nat) : Int), 0]) = tc := ⟨_, rfl⟩
    rw [htc] at HY HTX
    clear ho hb hbn hE1 hE0 hkl hp2 htc l0 l1 l2 l3 HL3 HB3 HR3 HR23 HE3 HX HGP
    obtain ⟨l0, l1, l2, l3, _⟩ := HL5.out
    go_wp2_with fail
    refine HY.out.mono ?_
    rintro e w6 ⟨g6, m6, c6, rfl, ho, hb⟩
    have hm6 : m6 = m5 := by
      have := ho.1
      rw [flat_length encR_len, HLR.out] at this
      omega
    subst hm6
    have hbn := (Below.refl w6.heap.size w6).alloc (Nat.le_refl _) (.cells #[.slice (some ⟨g6, 0, none⟩) m6 c6, .string ⟨#[]⟩, .string p2, .int .i64 2] 30)
    have HB6 := Lib.hid (below_tr (below_tr HB5.out hb HB5.out.size) hbn (Nat.le_trans HB5.out.size hb.size))
    have HR6 := Lib.hid ((rd_own ho).same hbn)
    have HR36 := Lib.hid ((HR35.out.same hb).same hbn)
    have HR56 := Lib.hid ((HR5.out.same hb).same hbn)
    have HE6 := Lib.hid ((HE5.out.below hb).below hbn)
    have HL56 := Lib.hid ((HL5.out.next hb).next hbn)
    have HL6 := Lib.hid (L4.mk' w6 (.slice (some ⟨g6, 0, none⟩) m6 c6) (.string ⟨#[]⟩) (.string p2) (.int .i64 2) 30)
    have hbM : inB ((m6 : Int) - 1) (-999999) 999999 = true := by simp [inB]; omega
    have HFI := Lib.hid (formatInt_any ((m6 : Int) - 1) (w6.alloc (.cells #[.slice (some ⟨g6, 0, none⟩) m6 c6, .string ⟨#[]⟩, .string p2, .int .i64 2] 30)) HE6.out.tab)
    rw [hbM] at HFI
    simp only [if_true] at HFI
    clear ho hb hbn hbM HY l0 l1 l2 l3 HL5 HB5 HR35 HR5 HE5
    go_wp2_with fail
    refine HFI.out.mono ?_
    rintro e w7 ⟨rfl, hb⟩
    obtain ⟨W6, hW6⟩ : ∃ W6, w6.alloc (.cells #[.slice (some ⟨g6, 0, none⟩) m6 c6, .string ⟨#[]⟩, .string p2, .int .i64 2] 30) = W6 := ⟨_, rfl⟩
    rw [hW6] at HB6 HR6 HR36 HR56 HL56 HL6 hb
    have HB7 := Lib.hid (below_tr HB6.out hb HB6.out.size)
    obtain ⟨l0, _, _, _, _⟩ := HL56.out.next hb
    obtain ⟨m0, _, _, _, _⟩ := HL6.out.next hb
    have HR7 := Lib.hid (HR6.out.same hb); have HR37 := Lib.hid (HR36.out.same hb); have HR57 := Lib.hid (HR56.out.same hb)
    have HL57 := Lib.hid (HL56.out.next hb); have HL67 := Lib.hid (HL6.out.next hb)
    clear hb HB6 HR6 HR36 HR56 HL56 HL6 HFI HE6 hW6
    have q9 := HQ.out
    have q8 : decide (srtR rs = srtR rs) = true := by simp
    go_wp2_with fail
    refine (vRecords_any (some ⟨g5, 0, none⟩) a3 m6 m6 c5 c3 _ _ w7 (by omega) (by omega) HR57.out HR37.out).mono ?_
    rintro e w8 ⟨rfl, hb⟩
    have HB8 := Lib.hid (below_tr HB7.out hb HB7.out.size)
    have HR8 := Lib.hid (HR7.out.same hb); have HR38 := Lib.hid (HR37.out.same hb)
    obtain ⟨l0, _, _, _, _⟩ := HL57.out.next hb
    obtain ⟨m0, _, _, _, _⟩ := HL67.out.next hb
    clear hb HB7 HR7 HR37 HR57 HL57 HL67
    go_wp2_with fail
    refine (vRecords_any (some ⟨g6, 0, none⟩) a3 m6 m6 c6 c3 _ _ w8 (by omega) (by omega) HR8.out HR38.out).mono ?_
    rintro e w9 ⟨rfl, hb⟩
    have HB9 := Lib.hid (below_tr HB8.out hb HB8.out.size)
    clear hb HB8 HR8 HR38
    by_cases hz : m6 = 0
    · have q0 : ((m6 : Int) == 0) = true := by rw [hz]; rfl
      clear hz
      go_wp2
      go_ret
      exact ⟨by simp, HB9.out⟩
    · have q0 : ((m6 : Int) == 0) = false := by rw [beq_eq_false_iff_ne]; omega
      have hc : (((m6 - 1 : Nat) : Int)) = (m6 : Int) - 1 := by omega
      have a1 := add_runs (P := Tryz.prog) (a := numB ((m6 : Int) - 1)) (b := ⟨#[32, 48]⟩) (by have := numB_size (n := (m6 : Int) - 1) (by omega) (by omega); omega) (by decide)
      have htx := HTX.out
      rw [hc] at htx
      have q7 : (tc.toList == (numB ((m6 : Int) - 1) ++ ⟨#[32, 48]⟩).toList) = true := by rw [htx]; simp
      clear hz hc htx
      go_wp2
      go_ret
      exact ⟨by simp, HB9.out⟩
end Go.Proofs.YtbgmbanebmlghaaGreatDoor

