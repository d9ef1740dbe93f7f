/- Several texts in one: lemmas and walks of the functions that the law reaches. -/
import Derived.Test.YtbgmbanebmlghaaGreatDoorY35

namespace Go.Proofs.YtbgmbanebmlghaaGreatDoor
open Go.RowKit Go.Sort
set_option linter.unusedVariables false

set_option maxRecDepth 100000 in
set_option maxHeartbeats 1000000 in
theorem sortO_any (pm pw pb : Nat) (a : Option Addr) (n c : Nat) (L : List (Int × Int)) (w : World) (hok : planOk pm pw pb = true) (hn : n ≤ 64) (h : Rd w a n c L) :
    Calls Tryz.prog 247 #[.agg #[.int .i64 pm, .int .i64 pw, .int .i64 pb], .slice a n c] w (SoEndO w pm pw pb L n) := by
  obtain ⟨k1, k2, k3, k4, k5, k6⟩ := planOk_iff hok
  have hpb0 : 0 < pb := by omega
  have hlen := h.len
  obtain ⟨wa, hwa⟩ : ∃ W, W = w.alloc (.cells #[.int .i64 pm, .int .i64 pw, .int .i64 pb] 187) := ⟨_, rfl⟩
  obtain ⟨wb, hwb⟩ : ∃ W, W = wa.alloc (.cells #[.int .i64 0, .int .i64 0, .int .i64 0, .int .i64 0] 183) := ⟨_, rfl⟩
  have sa : wa.heap.size = w.heap.size + 1 := by rw [hwa]; simp
  have sb : wb.heap.size = w.heap.size + 2 := by rw [hwb]; simp; omega
  have ba : Below w.heap.size w wa := by rw [hwa]; exact belowNew _ _
  have bb : Below wa.heap.size wa wb := by rw [hwb]; exact belowNew _ _
  have ha : wa.heap[w.heap.size]? = some (.cells (planV pm pw pb) 187 (0, 0)) := by rw [hwa]; exact block_new _ _
  have hb1 : wb.heap[w.heap.size]? = some (.cells (planV pm pw pb) 187 (0, 0)) := block_below ha bb (by omega)
  have hb2 : wb.heap[w.heap.size + 1]? = some (.cells z4 183 (0, 0)) := by rw [hwb, ← sa]; exact block_new _ _
  have hR := (h.same ba).same bb
  have HB := Lib.hid (below_tr ba bb ba.size)
  have HP := Lib.hid hb1; have HZ := Lib.hid hb2
  obtain ⟨p0, p1, p2⟩ := cells3 hb1
  have HMR := Lib.hid (makeRunsO_any a n c pm L wb (by omega) (by omega) (by omega) hR)
  clear h ha hb1 hb2 ba bb hR hok
  subst hwb
  subst hwa
  unfold SoEndO
  unfold LsEndO at HMR
  go_enter Tryz.func247, Tryz.ntmps247
  go_wp2_with fail
  refine HMR.out.mono ?_
  rintro e w1 ⟨a1, n1, c1, hs1, rfl, hlo, hb⟩
  have HP1 := Lib.hid (block_below HP.out hb (by rw [sb]; omega)); have HZ1 := Lib.hid (block_below HZ.out hb (by rw [sb]; omega))
  have HB1 := Lib.hid (below_tr HB.out hb HB.out.size)
  have hs1' := hb.size
  rw [sb] at hs1'
  have HLO := Lib.hid hlo
  have hn1 : n1 = (Mg.lens pm n).length := by rw [← hlo.len, ← hlen, ← lens_runs (by omega)]; simp [lensOf]
  have hn1b : n1 ≤ 64 := by
    rw [hn1, Mg.lens_len (by omega)]
    exact Nat.le_trans (Mg.blkN_le (by omega)) hn
  have HN1 := Lib.hid hn1
  clear hn1
  have sb2 := sb
  clear hlo hb HMR HP HZ HB p0 p1 p2 sb
  go_wp2_with fail
  obtain ⟨wR, hwR⟩ : ∃ W, W = w1.drew := ⟨_, rfl⟩
  have hbR : Below w1.heap.size w1 wR := by rw [hwR]; exact (Below.refl _ _).drew
  have hszR : wR.heap.size = w1.heap.size := by rw [hwR]; rfl
  have HPR := Lib.hid (block_below HP1.out hbR (hlt_of HP1.out)); have HZR := Lib.hid (block_below HZ1.out hbR (hlt_of HZ1.out))
  have HBR := Lib.hid (below_tr HB1.out hbR HB1.out.size)
  have HLR := Lib.hid (HLO.out.same hbR)
  have HLS := Lib.hid HLR.out.ls
  have HPC : Hid (∀ W, Below wR.heap.size wR W → W.cell? ⟨w.heap.size, 0, none⟩ = some (.int .i64 pm) ∧ W.cell? ⟨w.heap.size, 1, none⟩ = some (.int .i64 pw) ∧ W.cell? ⟨w.heap.size, 2, none⟩ = some (.int .i64 pb)) := fun W hb => cells3 (block_below HPR.out hb (hlt_of HPR.out))
  have HTOT : Hid (totL (Mg.runsOf pm L) ≤ 1000) := by
    show _ ≤ _
    rw [totL_srt (Mg.runs_srt (by omega) L)]; omega
  clear HP1 HZ1 HB1 HLO
  refine wp_with_act (fun fr hfr => ?_)
  have hsz : fr.tmps.size = 60 := by rw [hfr]; rfl
  have f1 : fr.eval (.tmp 1) = .slice a n c := by rw [hfr]; rfl
  have f2 : fr.eval (.tmp 2) = .pointer (some ⟨w.heap.size, 0, none⟩) := by rw [hfr]; rfl
  have f6 : fr.eval (.tmp 6) = .slice a1 n1 c1 := by rw [hfr]; rfl
  refine wp_region_held_drew (S := fun _ => True) (by kernel_rfl) trivial (fun _ => ?_)
  rw [← hwR]
  obtain ⟨SL, hSL⟩ : ∃ l : List (Nat × Nat), l = [(0, 12), (1, 13), (2, 14), (3, 15), (4, 16), (5, 17), (6, 18), (7, 19), (8, 20), (9, 21), (10, 22), (11, 7)] := ⟨_, rfl⟩
  obtain ⟨VL, hVL⟩ : ∃ l : List (Nat × Value), l = [(0, .slice a1 n1 c1), (1, .int .i64 n1), (2, .slice a n c), (3, .int .i64 n), (4, .pointer (some ⟨w.heap.size, 2, none⟩)), (5, .int .i64 pb), (6, .int .i64 ((Mg.blkN pb n : Nat) : Int)), (7, .agg #[.int .i64 pm, .int .i64 pw, .int .i64 pb]), (8, .slice a1 n1 c1), (9, .int .i64 ((blkS pb (Mg.runsOf pm L) : Nat) : Int)), (10, .agg #[.int .i64 n1, .int .i64 0, .int .i64 ((Mg.blkN pb n : Nat) : Int), .int .i64 ((blkS pb (Mg.runsOf pm L) : Nat) : Int)])] := ⟨_, rfl⟩
  have hN1 : (SL.map Prod.fst).Nodup := by rw [hSL]; decide
  have hN2 : (SL.map Prod.snd).Nodup := by rw [hSL]; decide
  have M0 := vm_of hSL 0 rfl
  have E12 := eval_of hN2 M0 hsz rfl
  have M1 := vm_of hSL 1 rfl
  have E13 := eval_of hN2 M1 hsz rfl
  have M2 := vm_of hSL 2 rfl
  have E14 := eval_of hN2 M2 hsz rfl
  have M3 := vm_of hSL 3 rfl
  have E15 := eval_of hN2 M3 hsz rfl
  have M4 := vm_of hSL 4 rfl
  have E16 := eval_of hN2 M4 hsz rfl
  have M5 := vm_of hSL 5 rfl
  have E17 := eval_of hN2 M5 hsz rfl
  have M6 := vm_of hSL 6 rfl
  have E18 := eval_of hN2 M6 hsz rfl
  have M7 := vm_of hSL 7 rfl
  have E19 := eval_of hN2 M7 hsz rfl
  have M8 := vm_of hSL 8 rfl
  have E20 := eval_of hN2 M8 hsz rfl
  have M9 := vm_of hSL 9 rfl
  have E21 := eval_of hN2 M9 hsz rfl
  have M10 := vm_of hSL 10 rfl
  have E22 := eval_of hN2 M10 hsz rfl
  have M11 := vm_of hSL 11 rfl
  have E7 := eval_of hN2 M11 hsz rfl
  have E1 := eval_ofB hSL f1 rfl
  have E2 := eval_ofB hSL f2 rfl
  have E6 := eval_ofB hSL f6 rfl
  have VM0 := vm_of hVL 0 rfl
  have VU0 := vu_of hVL 0 rfl rfl
  have VM1 := vm_of hVL 1 rfl
  have VU1 := vu_of hVL 1 rfl rfl
  have VM2 := vm_of hVL 2 rfl
  have VU2 := vu_of hVL 2 rfl rfl
  have VM3 := vm_of hVL 3 rfl
  have VU3 := vu_of hVL 3 rfl rfl
  have VM4 := vm_of hVL 4 rfl
  have VU4 := vu_of hVL 4 rfl rfl
  have VM5 := vm_of hVL 5 rfl
  have VU5 := vu_of hVL 5 rfl rfl
  have VM6 := vm_of hVL 6 rfl
  have VU6 := vu_of hVL 6 rfl rfl
  have VM7 := vm_of hVL 7 rfl
  have VU7 := vu_of hVL 7 rfl rfl
  have VM8 := vm_of hVL 8 rfl
  have VU8 := vu_of hVL 8 rfl rfl
  have VM9 := vm_of hVL 9 rfl
  have VU9 := vu_of hVL 9 rfl rfl
  have VM10 := vm_of hVL 10 rfl
  have VU10 := vu_of hVL 10 rfl rfl
  have VN11 := vn_of hVL 11 rfl
  have VN12 := vn_of hVL 12 rfl
  have hst : fr = puts fr (x0 fr SL) SL := puts_x0 fr SL (by rw [hSL]; decide)
  clear hVL
  refine wpAnyH_inv2 (JV fr SL VL (KA wR 11 12 183 z4 #[.int .i64 n1, .int .i64 0, .int .i64 ((Mg.blkN pb n : Nat) : Int), .int .i64 ((blkS pb (Mg.runsOf pm L) : Nat) : Int)])) (by kernel_rfl) ?steps ?done _ _ ?start
  case start => exact ⟨_, hst, VOK.start _ _ _, KA.start _⟩
  case steps =>
    clear hst hSL hfr
    refine ⟨?_, ?_, ?_, ?_, ?_, ?_, ?_, ?_, ?_, ?_, ?_, ?_, ?_, trivial⟩
    all_goals
      rintro LB ac w' hs hu haf hcl ⟨x, rfl, hv, hk⟩ K hK
    · have r6 := E6 x
      rw [if_pos (by rfl)]
      refine wp_val (v := .slice a1 n1 c1) ?_ (hK _ _ (jv_set (by rw [hs]; decide) (x := upd x 0 _) (puts_set SL fr hN1 hN2 M0) (hv.val 0 _ VU0) (hk.quiet 0 _ (by decide) (by decide))))
      generalize (puts fr x SL).eval = ρ at r6 ⊢; go_simp
    · have r12 := (E12 x).trans (hv _ VM0 (haf ⟨0, .data⟩ (by simp) rfl))
      rw [if_pos (by rfl)]
      refine wp_val (v := .int .i64 n1) ?_ (hK _ _ (jv_set (by rw [hs]; decide) (x := upd x 1 _) (puts_set SL fr hN1 hN2 M1) (hv.val 1 _ VU1) (hk.quiet 1 _ (by decide) (by decide))))
      generalize (puts fr x SL).eval = ρ at r12 ⊢; go_simp
    · have r1 := E1 x
      rw [if_pos (by rfl)]
      refine wp_val (v := .slice a n c) ?_ (hK _ _ (jv_set (by rw [hs]; decide) (x := upd x 2 _) (puts_set SL fr hN1 hN2 M2) (hv.val 2 _ VU2) (hk.quiet 2 _ (by decide) (by decide))))
      generalize (puts fr x SL).eval = ρ at r1 ⊢; go_simp
    · have r14 := (E14 x).trans (hv _ VM2 (haf ⟨2, .data⟩ (by simp) rfl))
      rw [if_pos (by rfl)]
      refine wp_val (v := .int .i64 n) ?_ (hK _ _ (jv_set (by rw [hs]; decide) (x := upd x 3 _) (puts_set SL fr hN1 hN2 M3) (hv.val 3 _ VU3) (hk.quiet 3 _ (by decide) (by decide))))
      generalize (puts fr x SL).eval = ρ at r14 ⊢; go_simp
    · have r2 := E2 x
      obtain ⟨p0, p1, p2⟩ := HPC.out w' hk.1
      rw [if_pos (by rfl)]
      refine wp_val (v := .pointer (some ⟨w.heap.size, 2, none⟩)) ?_ (hK _ _ (jv_set (by rw [hs]; decide) (x := upd x 4 _) (puts_set SL fr hN1 hN2 M4) (hv.val 4 _ VU4) (hk.quiet 4 _ (by decide) (by decide))))
      generalize (puts fr x SL).eval = ρ at r2 ⊢; go_simp
    · have r16 := (E16 x).trans (hv _ VM4 (haf ⟨4, .data⟩ (by simp) rfl))
      obtain ⟨p0, p1, p2⟩ := HPC.out w' hk.1
      rw [if_pos (by rfl)]
      refine wp_val (v := .int .i64 pb) ?_ (hK _ _ (jv_set (by rw [hs]; decide) (x := upd x 5 _) (puts_set SL fr hN1 hN2 M5) (hv.val 5 _ VU5) (hk.quiet 5 _ (by decide) (by decide))))
      generalize (puts fr x SL).eval = ρ at r16 ⊢; go_simp
    · have r15 := (E15 x).trans (hv _ VM3 (haf ⟨3, .data⟩ (by simp) rfl))
      have r17 := (E17 x).trans (hv _ VM5 (haf ⟨5, .data⟩ (by simp) rfl))
      rw [if_pos (by rfl)]
      refine wp_callv (v := .int .i64 ((Mg.blkN pb n : Nat) : Int)) (G := fun w2 => Below w'.heap.size w' w2) ?_ (blocks_any n pb w' hpb0 (by omega) (by omega)) (fun e w2 h => ⟨h.1, by rw [← h.2]; exact Below.refl _ _⟩) (fun w2 hg => ?_)
      · rw [execOp_call_go]; generalize (puts fr x SL).eval = ρ at r15 r17 ⊢; go_simp
      · exact hK _ _ (jv_set (by rw [hs]; decide) (x := upd x 6 _) (puts_set SL fr hN1 hN2 M6) (hv.val 6 _ VU6) (hk.call hg 6 _ (by decide) (by decide)))
    · have r2 := E2 x
      obtain ⟨p0, p1, p2⟩ := HPC.out w' hk.1
      rw [if_pos (by rfl)]
      refine wp_val (v := .agg #[.int .i64 pm, .int .i64 pw, .int .i64 pb]) ?_ (hK _ _ (jv_set (by rw [hs]; decide) (x := upd x 7 _) (puts_set SL fr hN1 hN2 M7) (hv.val 7 _ VU7) (hk.quiet 7 _ (by decide) (by decide))))
      generalize (puts fr x SL).eval = ρ at r2 ⊢; go_simp
    · have r6 := E6 x
      obtain ⟨p0, p1, p2⟩ := HPC.out w' hk.1
      rw [if_pos (by rfl)]
      refine wp_val (v := .slice a1 n1 c1) ?_ (hK _ _ (jv_set (by rw [hs]; decide) (x := upd x 8 _) (puts_set SL fr hN1 hN2 M8) (hv.val 8 _ VU8) (hk.quiet 8 _ (by decide) (by decide))))
      generalize (puts fr x SL).eval = ρ at r6 ⊢; go_simp
    · have r19 := (E19 x).trans (hv _ VM7 (haf ⟨7, .data⟩ (by simp) rfl))
      have r20 := (E20 x).trans (hv _ VM8 (haf ⟨8, .data⟩ (by simp) rfl))
      obtain ⟨p0, p1, p2⟩ := HPC.out w' hk.1
      rw [if_pos (by rfl)]
      refine wp_callv (v := .int .i64 ((blkS pb (Mg.runsOf pm L) : Nat) : Int)) (G := fun w2 => Below w'.heap.size w' w2) ?_ (blocksOf_any pm pw pb a1 n1 c1 (Mg.runsOf pm L) w' hpb0 (by omega) (by omega) HTOT.out (HLS.out.same hk.1)) (fun e w2 h => h) (fun w2 hg => ?_)
      · rw [execOp_call_go]; generalize (puts fr x SL).eval = ρ at r19 r20 ⊢; go_simp
      · exact hK _ _ (jv_set (by rw [hs]; decide) (x := upd x 9 _) (puts_set SL fr hN1 hN2 M9) (hv.val 9 _ VU9) (hk.call hg 9 _ (by decide) (by decide)))
    · have r13 := (E13 x).trans (hv _ VM1 (haf ⟨1, .data⟩ (by simp) rfl))
      have r18 := (E18 x).trans (hv _ VM6 (haf ⟨6, .data⟩ (by simp) rfl))
      have r21 := (E21 x).trans (hv _ VM9 (haf ⟨9, .data⟩ (by simp) rfl))
      rw [if_pos (by rfl)]
      refine wp_val (v := .agg #[.int .i64 n1, .int .i64 0, .int .i64 ((Mg.blkN pb n : Nat) : Int), .int .i64 ((blkS pb (Mg.runsOf pm L) : Nat) : Int)]) ?_ (hK _ _ (jv_set (by rw [hs]; decide) (x := upd x 10 _) (puts_set SL fr hN1 hN2 M10) (hv.val 10 _ VU10) (hk.quiet 10 _ (by decide) (by decide))))
      generalize (puts fr x SL).eval = ρ at r13 r18 r21 ⊢; go_simp
    · rw [if_pos (by rfl)]
      refine wp_val (v := .pointer (some ⟨w'.heap.size, 0, none⟩)) (w' := w'.alloc (.cells z4 183)) ?_ (hK _ _ (jv_set (by rw [hs]; decide) (x := upd x 11 _) (puts_set SL fr hN1 hN2 M11) (hv.other 11 _ VN11) (hk.alloc hu (by decide))))
      go_simp
    · have r22 := (E22 x).trans (hv _ VM10 (haf ⟨10, .data⟩ (by simp) rfl))
      rw [if_pos (by rfl)]
      have hal : LB.getD 11 false = true := haf ⟨11, .data⟩ (by simp) rfl
      obtain ⟨T, eT, g1, g2, g3, g4⟩ := hk.2.1 hal
      have hh := g3 hu
      refine wp_store_row _ _ _ rfl T #[.int .i64 n1, .int .i64 0, .int .i64 ((Mg.blkN pb n : Nat) : Int), .int .i64 ((blkS pb (Mg.runsOf pm L) : Nat) : Int)] ((E7 x).trans eT) r22 _ _ hh (by kernel_rfl) rfl (by simp [Value.oneCell']) ?_
      exact hK _ _ (jv_set (by rw [hs]; decide) (x := x) rfl (hv.none 12 VN12) (hk.store hal (by decide) eT hh))
  case done =>
    rintro LB ac w2 hall ⟨x, rfl, hv, hk⟩
    have v0 : x 0 = .slice a1 n1 c1 := hv _ VM0 (hall 0 (by decide))
    have v1 : x 1 = .int .i64 n1 := hv _ VM1 (hall 1 (by decide))
    have v2 : x 2 = .slice a n c := hv _ VM2 (hall 2 (by decide))
    have v3 : x 3 = .int .i64 n := hv _ VM3 (hall 3 (by decide))
    have v4 : x 4 = .pointer (some ⟨w.heap.size, 2, none⟩) := hv _ VM4 (hall 4 (by decide))
    have v5 : x 5 = .int .i64 pb := hv _ VM5 (hall 5 (by decide))
    have v6 : x 6 = .int .i64 ((Mg.blkN pb n : Nat) : Int) := hv _ VM6 (hall 6 (by decide))
    have v7 : x 7 = .agg #[.int .i64 pm, .int .i64 pw, .int .i64 pb] := hv _ VM7 (hall 7 (by decide))
    have v8 : x 8 = .slice a1 n1 c1 := hv _ VM8 (hall 8 (by decide))
    have v9 : x 9 = .int .i64 ((blkS pb (Mg.runsOf pm L) : Nat) : Int) := hv _ VM9 (hall 9 (by decide))
    have v10 : x 10 = .agg #[.int .i64 n1, .int .i64 0, .int .i64 ((Mg.blkN pb n : Nat) : Int), .int .i64 ((blkS pb (Mg.runsOf pm L) : Nat) : Int)] := hv _ VM10 (hall 10 (by decide))
    obtain ⟨hbw, hT, -⟩ := hk
    obtain ⟨T, eT, g1, g2, g3, g4⟩ := hT (hall 11 (by decide))
    have HT := Lib.hid (g4 (hall 12 (by decide)))
    have HSV : Hid (Sv w w2 w.heap.size (w.heap.size + 1) T (planV pm pw pb) (costV n1 0 (Mg.blkN pb n) (blkS pb (Mg.runsOf pm L)))) := ⟨below_tr HBR.out hbw HBR.out.size, ⟨by omega, by omega, by omega⟩, ⟨by omega, by omega, by omega⟩, block_below HPR.out hbw (hlt_of HPR.out), block_below HZR.out hbw (hlt_of HZR.out), HT.out⟩
    have HLF : Hid (LsO w2 a1 n1 c1 (Mg.runsOf pm L) T (w.heap.size + 1)) := (LoO.apart HLR.out (.inr g1) (by rw [sb2]; omega)).same hbw
    rw [hSL]
    simp only [puts]
    rw [eT]
    clear M0 E12 M1 E13 M2 E14 M3 E15 M4 E16 M5 E17 M6 E18 M7 E19 M8 E20 M9 E21 M10 E22 M11 E7 E1 E2 E6 f1 f2 f6 VM0 VU0 VM1 VU1 VM2 VU2 VM3 VU3 VM4 VU4 VM5 VU5 VM6 VU6 VM7 VU7 VM8 VU8 VM9 VU9 VM10 VU10 VN11 VN12 hN1 hN2 hst hsz
    clear hall hv v0 v1 v2 v3 v4 v5 v6 v7 v8 v9 v10
    rw [hfr]
    simp only [Act.put, List.setIfInBounds_toArray, List.set_cons_succ, List.set_cons_zero]
    clear hfr hSL
    clear g1 g2 g3 g4 hbw hT
    have HASC0 : Hid (∀ r ∈ Mg.runsOf pm L, Mg.Asc Mg.ltF r) := Mg.runs_asc L
    have HSRT0 : Hid (Mg.srtP (Mg.runsOf pm L).flatten = Mg.srtP L) := Mg.runs_srt (by omega) L
    have hbn0 : Mg.blkN pb n ≤ 1000 := Nat.le_trans (Mg.blkN_le hpb0) (by omega)
    have hbs0 : blkS pb (Mg.runsOf pm L) ≤ 1000 := Nat.le_trans (blkS_tot hpb0 _) HTOT.out
    have HLEN : Hid (lensOf (Mg.runsOf pm L) = Mg.lens pm n) := by show _ = _; rw [lens_runs (by omega), hlen]
    generalize Mg.runsOf pm L = Rs at HSV HLF HASC0 HSRT0 hbs0 HLEN
    obtain ⟨q0, hq0⟩ : ∃ q, blkS pb Rs = q := ⟨_, rfl⟩
    obtain ⟨r0, hr0⟩ : ∃ r, Mg.blkN pb n = r := ⟨_, rfl⟩
    have HCW0 : Hid (Mg.costW pw pb (lensOf Rs) 0 r0 q0 = Mg.costW pw pb (Mg.lens pm n) 0 (Mg.blkN pb n) (Mg.blks pb (Mg.lens pm n))) := by
      show _ = _
      rw [← hq0, ← hr0, HLEN.out]; unfold blkS; rw [HLEN.out]
    rw [hq0] at HSV hbs0
    rw [hr0] at HSV hbn0
    clear hq0 hr0 HLEN HPR HZR HBR HLR HLS HPC HTOT hbR hszR hwR
    clear HT eT
    go_wp2_with fail
    go_loopw [6] (fun rv wr => ∃ (ax : Option Addr) (nx cx : Nat) (Ls : List (List (Int × Int))) (p r q : Nat), rv = .slice ax nx cx ∧ p + nx ≤ n1 ∧ r ≤ 1000 + 1000 * p ∧ q ≤ 1000 + 1000 * p ∧ Hid (Sv w wr w.heap.size (w.heap.size + 1) T (planV pm pw pb) (costV n1 p r q)) ∧ Hid (LsO wr ax nx cx Ls T (w.heap.size + 1)) ∧ Hid (∀ r ∈ Ls, Mg.Asc Mg.ltF r) ∧ Hid (Mg.srtP Ls.flatten = Mg.srtP L) ∧ Hid (Mg.costW pw pb (lensOf Ls) p r q = Mg.costW pw pb (Mg.lens pm n) 0 (Mg.blkN pb n) (Mg.blks pb (Mg.lens pm n)))) (fun rv _ => lenV rv)
    case atStart => exact ⟨a1, n1, c1, _, 0, _, _, rfl, by omega, by omega, by omega, HSV, HLF, HASC0, HSRT0, HCW0⟩
    case round =>
      obtain ⟨ax, nx, cx, Ls, p, r, q, rfl, hpn, hrb, hqb, HS, HL, HAS, HSR, HCW⟩ := hrel
      clear HSV HLF HASC0 HSRT0 HCW0
      have hlx := HL.out.ls.len
      have htot : totL Ls = n := by rw [totL_srt HSR.out, hlen]
      have HTX : Hid (totL Ls ≤ 1000) := by show _ ≤ _; omega
      have hbl : blkS pb Ls ≤ 64 := Nat.le_trans (blkS_tot hpb0 _) (by omega)
      by_cases h1 : 1 < nx
      · have g1 : decide ((1 : Int) < (nx : Int)) = true := decide_eq_true (by omega)
        obtain ⟨p0, p1, p2⟩ := cells3 HS.out.pl
        obtain ⟨c0', c1', c2', c3'⟩ := cellsQ HS.out.co
        have fz := frozen_of_row wr _ 1 _ _ HS.out.co
        clear hlx htot
        go_wp2_with fail
        clear p0 p1 p2 c0' c1' c2' c3' fz
        refine wp_with_act (fun fr hfr => ?_)
        have hsz5 : fr.tmps.size = 60 := by rw [hfr]; rfl
        have f2 : fr.eval (.tmp 2) = .pointer (some ⟨w.heap.size, 0, none⟩) := by rw [hfr]; rfl
        have f6 : fr.eval (.tmp 6) = .slice ax nx cx := by rw [hfr]; rfl
        have f7 : fr.eval (.tmp 7) = .pointer (some ⟨T, 0, none⟩) := by rw [hfr]; rfl
        refine wp_region_held_drew (S := fun _ => True) (by kernel_rfl) trivial (fun _ => ?_)
        obtain ⟨SL, hSL⟩ : ∃ l : List (Nat × Nat), l = [(0, 30), (1, 31), (2, 32), (3, 33), (4, 34), (5, 35), (6, 36)] := ⟨_, rfl⟩
        obtain ⟨VL, hVL⟩ : ∃ l : List (Nat × Value), l = [(0, .pointer (some ⟨T, 2, none⟩)), (1, .int .i64 r), (2, .agg #[.int .i64 pm, .int .i64 pw, .int .i64 pb]), (3, .slice ax nx cx), (4, .int .i64 ((blkS pb Ls : Nat) : Int)), (5, .int .i64 ((r : Int) + ((blkS pb Ls : Nat) : Int))), (6, .pointer (some ⟨T, 2, none⟩))] := ⟨_, rfl⟩
        have hN1 : (SL.map Prod.fst).Nodup := by rw [hSL]; decide
        have hN2 : (SL.map Prod.snd).Nodup := by rw [hSL]; decide
        have M0 := vm_of hSL 0 rfl
        have E30 := eval_of hN2 M0 hsz5 rfl
        have M1 := vm_of hSL 1 rfl
        have E31 := eval_of hN2 M1 hsz5 rfl
        have M2 := vm_of hSL 2 rfl
        have E32 := eval_of hN2 M2 hsz5 rfl
        have M3 := vm_of hSL 3 rfl
        have E33 := eval_of hN2 M3 hsz5 rfl
        have M4 := vm_of hSL 4 rfl
        have E34 := eval_of hN2 M4 hsz5 rfl
        have M5 := vm_of hSL 5 rfl
        have E35 := eval_of hN2 M5 hsz5 rfl
        have M6 := vm_of hSL 6 rfl
        have E36 := eval_of hN2 M6 hsz5 rfl
        have E2 := eval_ofB hSL f2 rfl
        have E6 := eval_ofB hSL f6 rfl
        have E7 := eval_ofB hSL f7 rfl
        have VM0 := vm_of hVL 0 rfl
        have VU0 := vu_of hVL 0 rfl rfl
        have VM1 := vm_of hVL 1 rfl
        have VU1 := vu_of hVL 1 rfl rfl
        have VM2 := vm_of hVL 2 rfl
        have VU2 := vu_of hVL 2 rfl rfl
        have VM3 := vm_of hVL 3 rfl
        have VU3 := vu_of hVL 3 rfl rfl
        have VM4 := vm_of hVL 4 rfl
        have VU4 := vu_of hVL 4 rfl rfl
        have VM5 := vm_of hVL 5 rfl
        have VU5 := vu_of hVL 5 rfl rfl
        have VM6 := vm_of hVL 6 rfl
        have VU6 := vu_of hVL 6 rfl rfl
        have VN7 := vn_of hVL 7 rfl
        have hst5 : fr = puts fr (x0 fr SL) SL := puts_x0 fr SL (by rw [hSL]; decide)
        clear hVL
        refine wpAnyH_inv2 (JV fr SL VL (KS (fun W => Sv w W w.heap.size (w.heap.size + 1) T (planV pm pw pb) (costV n1 (p + 1) r q) ∧ LsO W ax nx cx Ls T (w.heap.size + 1)) (fun W => Sv w W w.heap.size (w.heap.size + 1) T (planV pm pw pb) ((costV n1 (p + 1) r q).setIfInBounds 2 (.int .i64 ((r : Int) + ((blkS pb Ls : Nat) : Int)))) ∧ LsO W ax nx cx Ls T (w.heap.size + 1)) 7)) (by kernel_rfl) ?steps5 ?done5 _ _ ?start5
        case start5 => exact ⟨_, hst5, VOK.start _ _ _, KS.start ⟨(HS.out.pass).same ((Below.refl _ _).drew), (HL.out.next (grown_setN _ _ _ _)).same ((Below.refl _ _).drew)⟩⟩
        case steps5 =>
          clear hst5 hSL hfr
          refine ⟨?_, ?_, ?_, ?_, ?_, ?_, ?_, ?_, trivial⟩
          all_goals
            rintro LB ac w' hs hu haf hcl ⟨x, rfl, hv, hk⟩ K hK
          · have r7 := E7 x
            have hlast : LB.getD 7 false = false := by
              cases h : LB.getD 7 false with
              | false => rfl
              | true => exact absurd (hcl 7 _ rfl h ⟨0, .phase⟩ (by simp) rfl) (by rw [hu]; decide)
            have s0 := hk.1 hlast
            obtain ⟨p0, p1, p2⟩ := cells3 s0.1.pl
            obtain ⟨q0, q1, q2, q3⟩ := cellsQ s0.1.co
            rw [if_pos (by rfl)]
            refine wp_val (v := .pointer (some ⟨T, 2, none⟩)) ?_ (hK _ _ (jv_set (by rw [hs]; decide) (x := upd x 0 _) (puts_set SL fr hN1 hN2 M0) (hv.val 0 _ VU0) (hk.quiet 0 _ (by decide))))
            generalize (puts fr x SL).eval = ρ at r7 ⊢; go_simp
          · have r30 := (E30 x).trans (hv _ VM0 (haf ⟨0, .data⟩ (by simp) rfl))
            have hlast : LB.getD 7 false = false := by
              cases h : LB.getD 7 false with
              | false => rfl
              | true => exact absurd (hcl 7 _ rfl h ⟨1, .phase⟩ (by simp) rfl) (by rw [hu]; decide)
            have s0 := hk.1 hlast
            obtain ⟨p0, p1, p2⟩ := cells3 s0.1.pl
            obtain ⟨q0, q1, q2, q3⟩ := cellsQ s0.1.co
            rw [if_pos (by rfl)]
            refine wp_val (v := .int .i64 r) ?_ (hK _ _ (jv_set (by rw [hs]; decide) (x := upd x 1 _) (puts_set SL fr hN1 hN2 M1) (hv.val 1 _ VU1) (hk.quiet 1 _ (by decide))))
            generalize (puts fr x SL).eval = ρ at r30 ⊢; go_simp
          · have r2 := E2 x
            have hlast : LB.getD 7 false = false := by
              cases h : LB.getD 7 false with
              | false => rfl
              | true => exact absurd (hcl 7 _ rfl h ⟨2, .phase⟩ (by simp) rfl) (by rw [hu]; decide)
            have s0 := hk.1 hlast
            obtain ⟨p0, p1, p2⟩ := cells3 s0.1.pl
            obtain ⟨q0, q1, q2, q3⟩ := cellsQ s0.1.co
            rw [if_pos (by rfl)]
            refine wp_val (v := .agg #[.int .i64 pm, .int .i64 pw, .int .i64 pb]) ?_ (hK _ _ (jv_set (by rw [hs]; decide) (x := upd x 2 _) (puts_set SL fr hN1 hN2 M2) (hv.val 2 _ VU2) (hk.quiet 2 _ (by decide))))
            generalize (puts fr x SL).eval = ρ at r2 ⊢; go_simp
          · have r6 := E6 x
            have hlast : LB.getD 7 false = false := by
              cases h : LB.getD 7 false with
              | false => rfl
              | true => exact absurd (hcl 7 _ rfl h ⟨3, .phase⟩ (by simp) rfl) (by rw [hu]; decide)
            have s0 := hk.1 hlast
            obtain ⟨p0, p1, p2⟩ := cells3 s0.1.pl
            obtain ⟨q0, q1, q2, q3⟩ := cellsQ s0.1.co
            rw [if_pos (by rfl)]
            refine wp_val (v := .slice ax nx cx) ?_ (hK _ _ (jv_set (by rw [hs]; decide) (x := upd x 3 _) (puts_set SL fr hN1 hN2 M3) (hv.val 3 _ VU3) (hk.quiet 3 _ (by decide))))
            generalize (puts fr x SL).eval = ρ at r6 ⊢; go_simp
          · have r32 := (E32 x).trans (hv _ VM2 (haf ⟨2, .data⟩ (by simp) rfl))
            have r33 := (E33 x).trans (hv _ VM3 (haf ⟨3, .data⟩ (by simp) rfl))
            have hlast : LB.getD 7 false = false := by
              cases h : LB.getD 7 false with
              | false => rfl
              | true => exact absurd (hcl 7 _ rfl h ⟨4, .chain⟩ (by simp) rfl) (by rw [hu]; decide)
            have s0 := hk.1 hlast
            obtain ⟨p0, p1, p2⟩ := cells3 s0.1.pl
            obtain ⟨q0, q1, q2, q3⟩ := cellsQ s0.1.co
            rw [if_pos (by rfl)]
            refine wp_callv (v := .int .i64 ((blkS pb Ls : Nat) : Int)) (G := fun w2 => Below w'.heap.size w' w2) ?_ (blocksOf_any pm pw pb ax nx cx Ls w' hpb0 (by omega) (by omega) HTX.out s0.2.ls) (fun e w2 h => h) (fun w2 hg => ?_)
            · rw [execOp_call_go]; generalize (puts fr x SL).eval = ρ at r32 r33 ⊢; go_simp
            · exact hK _ _ (jv_set (by rw [hs]; decide) (x := upd x 4 _) (puts_set SL fr hN1 hN2 M4) (hv.val 4 _ VU4) (KS.call (w := w') hlast ⟨s0.1.same hg, s0.2.same hg⟩ 4 _ (by decide)))
          · have r31 := (E31 x).trans (hv _ VM1 (haf ⟨1, .data⟩ (by simp) rfl))
            have r34 := (E34 x).trans (hv _ VM4 (haf ⟨4, .data⟩ (by simp) rfl))
            have hlast : LB.getD 7 false = false := by
              cases h : LB.getD 7 false with
              | false => rfl
              | true => exact absurd (hcl 7 _ rfl h ⟨5, .data⟩ (by simp) rfl) (by rw [hu]; decide)
            have s0 := hk.1 hlast
            obtain ⟨p0, p1, p2⟩ := cells3 s0.1.pl
            obtain ⟨q0, q1, q2, q3⟩ := cellsQ s0.1.co
            rw [if_pos (by rfl)]
            refine wp_val (v := .int .i64 ((r : Int) + ((blkS pb Ls : Nat) : Int))) ?_ (hK _ _ (jv_set (by rw [hs]; decide) (x := upd x 5 _) (puts_set SL fr hN1 hN2 M5) (hv.val 5 _ VU5) (hk.quiet 5 _ (by decide))))
            generalize (puts fr x SL).eval = ρ at r31 r34 ⊢; go_simp; exact IntWalk.i64_in _ (by omega)
          · have r7 := E7 x
            have hlast : LB.getD 7 false = false := by
              cases h : LB.getD 7 false with
              | false => rfl
              | true => exact absurd (hcl 7 _ rfl h ⟨6, .data⟩ (by simp) rfl) (by rw [hu]; decide)
            have s0 := hk.1 hlast
            obtain ⟨p0, p1, p2⟩ := cells3 s0.1.pl
            obtain ⟨q0, q1, q2, q3⟩ := cellsQ s0.1.co
            rw [if_pos (by rfl)]
            refine wp_val (v := .pointer (some ⟨T, 2, none⟩)) ?_ (hK _ _ (jv_set (by rw [hs]; decide) (x := upd x 6 _) (puts_set SL fr hN1 hN2 M6) (hv.val 6 _ VU6) (hk.quiet 6 _ (by decide))))
            generalize (puts fr x SL).eval = ρ at r7 ⊢; go_simp
          · have r36 := (E36 x).trans (hv _ VM6 (haf ⟨6, .data⟩ (by simp) rfl))
            have r35 := (E35 x).trans (hv _ VM5 (haf ⟨5, .data⟩ (by simp) rfl))
            rw [if_pos (by rfl)]
            have s0 := hk.1 hu
            obtain ⟨q0, q1, q2, q3⟩ := cellsQ s0.1.co
            have hf : w'.frozen? ⟨T, 2, none⟩ = false := frozen_of_row w' _ 2 _ _ s0.1.co
            refine wp_skip (w' := w'.setCell ⟨T, 2, none⟩ (.int .i64 ((r : Int) + ((blkS pb Ls : Nat) : Int)))) ?_ ?_
            · generalize (puts fr x SL).eval = ρ at r36 r35 ⊢; go_simp
            exact hK _ _ (jv_set (by rw [hs]; decide) (x := x) rfl (hv.none 7 VN7) (KS.last ⟨s0.1.setc 2 _, s0.2.next (grown_setN _ _ _ _)⟩))
        case done5 =>
          rintro LB ac w2 hall ⟨x, rfl, hv, hk⟩
          have v0 : x 0 = .pointer (some ⟨T, 2, none⟩) := hv _ VM0 (hall 0 (by decide))
          have v1 : x 1 = .int .i64 r := hv _ VM1 (hall 1 (by decide))
          have v2 : x 2 = .agg #[.int .i64 pm, .int .i64 pw, .int .i64 pb] := hv _ VM2 (hall 2 (by decide))
          have v3 : x 3 = .slice ax nx cx := hv _ VM3 (hall 3 (by decide))
          have v4 : x 4 = .int .i64 ((blkS pb Ls : Nat) : Int) := hv _ VM4 (hall 4 (by decide))
          have v5 : x 5 = .int .i64 ((r : Int) + ((blkS pb Ls : Nat) : Int)) := hv _ VM5 (hall 5 (by decide))
          have v6 : x 6 = .pointer (some ⟨T, 2, none⟩) := hv _ VM6 (hall 6 (by decide))
          have hs5 := hk.2 (hall 7 (by decide))
          clear hk
          rw [hSL]
          simp only [puts]
          clear M0 E30 M1 E31 M2 E32 M3 E33 M4 E34 M5 E35 M6 E36 E2 E6 E7 f2 f6 f7 VM0 VU0 VM1 VU1 VM2 VU2 VM3 VU3 VM4 VU4 VM5 VU5 VM6 VU6 VN7 hN1 hN2 hst5 hsz5
          clear hall hv v0 v1 v2 v3 v4 v5 v6
          rw [hfr]
          simp only [Act.put, List.setIfInBounds_toArray, List.set_cons_succ, List.set_cons_zero]
          clear hfr hSL
          have HS5 : Hid (Sv w w2 w.heap.size (w.heap.size + 1) T (planV pm pw pb) (costV n1 (p + 1) (r + blkS pb Ls) q)) := hs5.1
          have HL5 := Lib.hid hs5.2
          clear hs5
          obtain ⟨p0, p1, p2⟩ := cells3 HS5.out.pl
          go_wp2_with fail
          refine (mergePassO_any ax nx cx pw Ls w2 (by omega) (by omega) (by omega) HL5.out.ls HTX.out HAS.out).mono ?_
          rintro e w6 ⟨a6, n6, c6, hs6, rfl, hlo, hb⟩
          have hT5 := hlt_of HS5.out.co; have hR5 := hlt_of HS5.out.rz
          have HS6 := Lib.hid (HS5.out.same hb)
          have HL6 := Lib.hid (hlo.apart (.inl hT5) hR5)
          have hn6 : n6 = (nx + pw - 1) / pw := by rw [← hlo.len, pass_len (by omega), HL5.out.len]
          have hn6b : n6 < nx := by rw [hn6]; exact Mg.up_lt (by omega) h1
          have HAS6 : Hid (∀ r ∈ Mg.passOf pw Ls, Mg.Asc Mg.ltF r) := Mg.pass_asc Ls
          have HSR6 : Hid (Mg.srtP (Mg.passOf pw Ls).flatten = Mg.srtP L) := (Mg.pass_srt (by omega) Ls).trans HSR.out
          have ht6 : totL (Mg.passOf pw Ls) = n := by rw [totL_srt HSR6.out, hlen]
          have HTY : Hid (totL (Mg.passOf pw Ls) ≤ 1000) := by show _ ≤ _; omega
          have hb6 : blkS pb (Mg.passOf pw Ls) ≤ 64 := Nat.le_trans (blkS_tot hpb0 _) (by omega)
          obtain ⟨r5, hr5⟩ : ∃ r5, r + blkS pb Ls = r5 := ⟨_, rfl⟩
          have HCW6 : Hid (Mg.costW pw pb (lensOf (Mg.passOf pw Ls)) (p + 1) r5 (q + blkS pb (Mg.passOf pw Ls)) = Mg.costW pw pb (Mg.lens pm n) 0 (Mg.blkN pb n) (Mg.blks pb (Mg.lens pm n))) := by
            show _ = _
            rw [← HCW.out, ← hr5]
            have e1 : lensOf (Mg.passOf pw Ls) = Mg.grp pw (lensOf Ls) := Mg.pass_lens (by omega) Ls
            unfold blkS
            rw [e1]
            exact (Mg.costW_go (by unfold lensOf; rw [List.length_map, HL5.out.len]; exact h1) (by omega)).symm
          rw [hr5] at HS6
          have hr5b : r5 ≤ 1000 + 1000 * (p + 1) := by omega
          clear hlo hb HS5 HL5 HS HL HAS HSR HCW HTX hr5 hT5 hR5 hn6 ht6 hbl p0 p1 p2
          generalize Mg.passOf pw Ls = Ls6 at HL6 HAS6 HSR6 HTY hb6 HCW6
          go_wp2_with fail
          refine wp_with_act (fun fr hfr => ?_)
          have hsz7 : fr.tmps.size = 60 := by rw [hfr]; rfl
          have f2 : fr.eval (.tmp 2) = .pointer (some ⟨w.heap.size, 0, none⟩) := by rw [hfr]; rfl
          have f6 : fr.eval (.tmp 6) = .slice a6 n6 c6 := by rw [hfr]; rfl
          have f7 : fr.eval (.tmp 7) = .pointer (some ⟨T, 0, none⟩) := by rw [hfr]; rfl
          refine wp_region_held_drew (S := fun _ => True) (by kernel_rfl) trivial (fun _ => ?_)
          obtain ⟨SL, hSL⟩ : ∃ l : List (Nat × Nat), l = [(0, 44), (1, 45), (2, 46), (3, 47), (4, 48), (5, 49), (6, 50)] := ⟨_, rfl⟩
          obtain ⟨VL, hVL⟩ : ∃ l : List (Nat × Value), l = [(0, .pointer (some ⟨T, 3, none⟩)), (1, .int .i64 q), (2, .agg #[.int .i64 pm, .int .i64 pw, .int .i64 pb]), (3, .slice a6 n6 c6), (4, .int .i64 ((blkS pb Ls6 : Nat) : Int)), (5, .int .i64 ((q : Int) + ((blkS pb Ls6 : Nat) : Int))), (6, .pointer (some ⟨T, 3, none⟩))] := ⟨_, rfl⟩
          have hN1 : (SL.map Prod.fst).Nodup := by rw [hSL]; decide
          have hN2 : (SL.map Prod.snd).Nodup := by rw [hSL]; decide
          have M0 := vm_of hSL 0 rfl
          have E44 := eval_of hN2 M0 hsz7 rfl
          have M1 := vm_of hSL 1 rfl
          have E45 := eval_of hN2 M1 hsz7 rfl
          have M2 := vm_of hSL 2 rfl
          have E46 := eval_of hN2 M2 hsz7 rfl
          have M3 := vm_of hSL 3 rfl
          have E47 := eval_of hN2 M3 hsz7 rfl
          have M4 := vm_of hSL 4 rfl
          have E48 := eval_of hN2 M4 hsz7 rfl
          have M5 := vm_of hSL 5 rfl
          have E49 := eval_of hN2 M5 hsz7 rfl
          have M6 := vm_of hSL 6 rfl
          have E50 := eval_of hN2 M6 hsz7 rfl
          have E2 := eval_ofB hSL f2 rfl
          have E6 := eval_ofB hSL f6 rfl
          have E7 := eval_ofB hSL f7 rfl
          have VM0 := vm_of hVL 0 rfl
          have VU0 := vu_of hVL 0 rfl rfl
          have VM1 := vm_of hVL 1 rfl
          have VU1 := vu_of hVL 1 rfl rfl
          have VM2 := vm_of hVL 2 rfl
          have VU2 := vu_of hVL 2 rfl rfl
          have VM3 := vm_of hVL 3 rfl
          have VU3 := vu_of hVL 3 rfl rfl
          have VM4 := vm_of hVL 4 rfl
          have VU4 := vu_of hVL 4 rfl rfl
          have VM5 := vm_of hVL 5 rfl
          have VU5 := vu_of hVL 5 rfl rfl
          have VM6 := vm_of hVL 6 rfl
          have VU6 := vu_of hVL 6 rfl rfl
          have VN7 := vn_of hVL 7 rfl
          have hst7 : fr = puts fr (x0 fr SL) SL := puts_x0 fr SL (by rw [hSL]; decide)
          clear hVL
          refine wpAnyH_inv2 (JV fr SL VL (KS (fun W => Sv w W w.heap.size (w.heap.size + 1) T (planV pm pw pb) (costV n1 (p + 1) r5 q) ∧ LsO W a6 n6 c6 Ls6 T (w.heap.size + 1)) (fun W => Sv w W w.heap.size (w.heap.size + 1) T (planV pm pw pb) ((costV n1 (p + 1) r5 q).setIfInBounds 3 (.int .i64 ((q : Int) + ((blkS pb Ls6 : Nat) : Int)))) ∧ LsO W a6 n6 c6 Ls6 T (w.heap.size + 1)) 7)) (by kernel_rfl) ?steps7 ?done7 _ _ ?start7
          case start7 => exact ⟨_, hst7, VOK.start _ _ _, KS.start ⟨HS6.out.same ((Below.refl _ _).drew), HL6.out.same ((Below.refl _ _).drew)⟩⟩
          case steps7 =>
            clear hst7 hSL hfr
            refine ⟨?_, ?_, ?_, ?_, ?_, ?_, ?_, ?_, trivial⟩
            all_goals
              rintro LB ac w' hs hu haf hcl ⟨x, rfl, hv, hk⟩ K hK
            · have r7 := E7 x
              have hlast : LB.getD 7 false = false := by
                cases h : LB.getD 7 false with
                | false => rfl
                | true => exact absurd (hcl 7 _ rfl h ⟨0, .phase⟩ (by simp) rfl) (by rw [hu]; decide)
              have s0 := hk.1 hlast
              obtain ⟨p0, p1, p2⟩ := cells3 s0.1.pl
              obtain ⟨q0, q1, q2, q3⟩ := cellsQ s0.1.co
              rw [if_pos (by rfl)]
              refine wp_val (v := .pointer (some ⟨T, 3, none⟩)) ?_ (hK _ _ (jv_set (by rw [hs]; decide) (x := upd x 0 _) (puts_set SL fr hN1 hN2 M0) (hv.val 0 _ VU0) (hk.quiet 0 _ (by decide))))
              generalize (puts fr x SL).eval = ρ at r7 ⊢; go_simp
            · have r44 := (E44 x).trans (hv _ VM0 (haf ⟨0, .data⟩ (by simp) rfl))
              have hlast : LB.getD 7 false = false := by
                cases h : LB.getD 7 false with
                | false => rfl
                | true => exact absurd (hcl 7 _ rfl h ⟨1, .phase⟩ (by simp) rfl) (by rw [hu]; decide)
              have s0 := hk.1 hlast
              obtain ⟨p0, p1, p2⟩ := cells3 s0.1.pl
              obtain ⟨q0, q1, q2, q3⟩ := cellsQ s0.1.co
              rw [if_pos (by rfl)]
              refine wp_val (v := .int .i64 q) ?_ (hK _ _ (jv_set (by rw [hs]; decide) (x := upd x 1 _) (puts_set SL fr hN1 hN2 M1) (hv.val 1 _ VU1) (hk.quiet 1 _ (by decide))))
              generalize (puts fr x SL).eval = ρ at r44 ⊢; go_simp
            · have r2 := E2 x
              have hlast : LB.getD 7 false = false := by
                cases h : LB.getD 7 false with
                | false => rfl
                | true => exact absurd (hcl 7 _ rfl h ⟨2, .phase⟩ (by simp) rfl) (by rw [hu]; decide)
              have s0 := hk.1 hlast
              obtain ⟨p0, p1, p2⟩ := cells3 s0.1.pl
              obtain ⟨q0, q1, q2, q3⟩ := cellsQ s0.1.co
              rw [if_pos (by rfl)]
              refine wp_val (v := .agg #[.int .i64 pm, .int .i64 pw, .int .i64 pb]) ?_ (hK _ _ (jv_set (by rw [hs]; decide) (x := upd x 2 _) (puts_set SL fr hN1 hN2 M2) (hv.val 2 _ VU2) (hk.quiet 2 _ (by decide))))
              generalize (puts fr x SL).eval = ρ at r2 ⊢; go_simp
            · have r6 := E6 x
              have hlast : LB.getD 7 false = false := by
                cases h : LB.getD 7 false with
                | false => rfl
                | true => exact absurd (hcl 7 _ rfl h ⟨3, .phase⟩ (by simp) rfl) (by rw [hu]; decide)
              have s0 := hk.1 hlast
              obtain ⟨p0, p1, p2⟩ := cells3 s0.1.pl
              obtain ⟨q0, q1, q2, q3⟩ := cellsQ s0.1.co
              rw [if_pos (by rfl)]
              refine wp_val (v := .slice a6 n6 c6) ?_ (hK _ _ (jv_set (by rw [hs]; decide) (x := upd x 3 _) (puts_set SL fr hN1 hN2 M3) (hv.val 3 _ VU3) (hk.quiet 3 _ (by decide))))
              generalize (puts fr x SL).eval = ρ at r6 ⊢; go_simp
            · have r46 := (E46 x).trans (hv _ VM2 (haf ⟨2, .data⟩ (by simp) rfl))
              have r47 := (E47 x).trans (hv _ VM3 (haf ⟨3, .data⟩ (by simp) rfl))
              have hlast : LB.getD 7 false = false := by
                cases h : LB.getD 7 false with
                | false => rfl
                | true => exact absurd (hcl 7 _ rfl h ⟨4, .chain⟩ (by simp) rfl) (by rw [hu]; decide)
              have s0 := hk.1 hlast
              obtain ⟨p0, p1, p2⟩ := cells3 s0.1.pl
              obtain ⟨q0, q1, q2, q3⟩ := cellsQ s0.1.co
              rw [if_pos (by rfl)]
              refine wp_callv (v := .int .i64 ((blkS pb Ls6 : Nat) : Int)) (G := fun w2 => Below w'.heap.size w' w2) ?_ (blocksOf_any pm pw pb a6 n6 c6 Ls6 w' hpb0 (by omega) (by omega) HTY.out s0.2.ls) (fun e w2 h => h) (fun w2 hg => ?_)
              · rw [execOp_call_go]; generalize (puts fr x SL).eval = ρ at r46 r47 ⊢; go_simp
              · exact hK _ _ (jv_set (by rw [hs]; decide) (x := upd x 4 _) (puts_set SL fr hN1 hN2 M4) (hv.val 4 _ VU4) (KS.call (w := w') hlast ⟨s0.1.same hg, s0.2.same hg⟩ 4 _ (by decide)))
            · have r45 := (E45 x).trans (hv _ VM1 (haf ⟨1, .data⟩ (by simp) rfl))
              have r48 := (E48 x).trans (hv _ VM4 (haf ⟨4, .data⟩ (by simp) rfl))
              have hlast : LB.getD 7 false = false := by
                cases h : LB.getD 7 false with
                | false => rfl
                | true => exact absurd (hcl 7 _ rfl h ⟨5, .data⟩ (by simp) rfl) (by rw [hu]; decide)
              have s0 := hk.1 hlast
              obtain ⟨p0, p1, p2⟩ := cells3 s0.1.pl
              obtain ⟨q0, q1, q2, q3⟩ := cellsQ s0.1.co
              rw [if_pos (by rfl)]
              refine wp_val (v := .int .i64 ((q : Int) + ((blkS pb Ls6 : Nat) : Int))) ?_ (hK _ _ (jv_set (by rw [hs]; decide) (x := upd x 5 _) (puts_set SL fr hN1 hN2 M5) (hv.val 5 _ VU5) (hk.quiet 5 _ (by decide))))
              generalize (puts fr x SL).eval = ρ at r45 r48 ⊢; go_simp; exact IntWalk.i64_in _ (by omega)
            · have r7 := E7 x
              have hlast : LB.getD 7 false = false := by
                cases h : LB.getD 7 false with
                | false => rfl
                | true => exact absurd (hcl 7 _ rfl h ⟨6, .data⟩ (by simp) rfl) (by rw [hu]; decide)
              have s0 := hk.1 hlast
              obtain ⟨p0, p1, p2⟩ := cells3 s0.1.pl
              obtain ⟨q0, q1, q2, q3⟩ := cellsQ s0.1.co
              rw [if_pos (by rfl)]
              refine wp_val (v := .pointer (some ⟨T, 3, none⟩)) ?_ (hK _ _ (jv_set (by rw [hs]; decide) (x := upd x 6 _) (puts_set SL fr hN1 hN2 M6) (hv.val 6 _ VU6) (hk.quiet 6 _ (by decide))))
              generalize (puts fr x SL).eval = ρ at r7 ⊢; go_simp
            · have r50 := (E50 x).trans (hv _ VM6 (haf ⟨6, .data⟩ (by simp) rfl))
              have r49 := (E49 x).trans (hv _ VM5 (haf ⟨5, .data⟩ (by simp) rfl))
              rw [if_pos (by rfl)]
              have s0 := hk.1 hu
              obtain ⟨q0, q1, q2, q3⟩ := cellsQ s0.1.co
              have hf : w'.frozen? ⟨T, 3, none⟩ = false := frozen_of_row w' _ 3 _ _ s0.1.co
              refine wp_skip (w' := w'.setCell ⟨T, 3, none⟩ (.int .i64 ((q : Int) + ((blkS pb Ls6 : Nat) : Int)))) ?_ ?_
              · generalize (puts fr x SL).eval = ρ at r50 r49 ⊢; go_simp
              exact hK _ _ (jv_set (by rw [hs]; decide) (x := x) rfl (hv.none 7 VN7) (KS.last ⟨s0.1.setc 3 _, s0.2.next (grown_setN _ _ _ _)⟩))
          case done7 =>
            rintro LB ac w2 hall ⟨x, rfl, hv, hk⟩
            have v0 : x 0 = .pointer (some ⟨T, 3, none⟩) := hv _ VM0 (hall 0 (by decide))
            have v1 : x 1 = .int .i64 q := hv _ VM1 (hall 1 (by decide))
            have v2 : x 2 = .agg #[.int .i64 pm, .int .i64 pw, .int .i64 pb] := hv _ VM2 (hall 2 (by decide))
            have v3 : x 3 = .slice a6 n6 c6 := hv _ VM3 (hall 3 (by decide))
            have v4 : x 4 = .int .i64 ((blkS pb Ls6 : Nat) : Int) := hv _ VM4 (hall 4 (by decide))
            have v5 : x 5 = .int .i64 ((q : Int) + ((blkS pb Ls6 : Nat) : Int)) := hv _ VM5 (hall 5 (by decide))
            have v6 : x 6 = .pointer (some ⟨T, 3, none⟩) := hv _ VM6 (hall 6 (by decide))
            have hs7 := hk.2 (hall 7 (by decide))
            clear hk
            rw [hSL]
            simp only [puts]
            clear M0 E44 M1 E45 M2 E46 M3 E47 M4 E48 M5 E49 M6 E50 E2 E6 E7 f2 f6 f7 VM0 VU0 VM1 VU1 VM2 VU2 VM3 VU3 VM4 VU4 VM5 VU5 VM6 VU6 VN7 hN1 hN2 hst7 hsz7
            clear hall hv v0 v1 v2 v3 v4 v5 v6
            rw [hfr]
            simp only [Act.put, List.setIfInBounds_toArray, List.set_cons_succ, List.set_cons_zero]
            clear hfr hSL
            have HS7 : Hid (Sv w w2 w.heap.size (w.heap.size + 1) T (planV pm pw pb) (costV n1 (p + 1) r5 (q + blkS pb Ls6))) := hs7.1
            have HL7 := Lib.hid hs7.2
            clear hs7
            go_wp2_with fail
            go_roundw
            case rel => exact ⟨a6, n6, c6, Ls6, p + 1, r5, q + blkS pb Ls6, rfl, by omega, by omega, by omega, HS7, HL7, HAS6, HSR6, HCW6⟩
            case measure => simp only [lenV] <;> omega
      · have g1 : decide ((1 : Int) < (nx : Int)) = false := decide_eq_false (by omega)
        have HCO : Hid ((n1, p, r, q) = Mg.costOf n pm pw pb) := by
          show _ = _
          unfold Mg.costOf
          rw [← HCW.out, Mg.costW_end (by unfold lensOf; rw [List.length_map, hlx]; omega), ← HN1.out]
        clear HCW hbl htot
        by_cases h0 : nx = 0
        · subst h0
          have hE : Ls = [] := List.eq_nil_of_length_eq_zero hlx
          have hO : Mg.srtP L = [] := by rw [← HSR.out, hE]; rfl
          have hn0 : n = 0 := by rw [← hlen, ← srtP_len, hO]; rfl
          have HO := Lib.hid hO; have HN0 := Lib.hid hn0
          have HS2 := Lib.hid (HS.out.same ((Below.refl _ _).drew))
          clear hE hO hn0 hlx HAS HSR HTX HL
          go_wp2_with fail
          refine wp_with_act (fun fr hfr => ?_)
          have hsz9 : fr.tmps.size = 60 := by rw [hfr]; rfl
          have f5 : fr.eval (.tmp 5) = .pointer (some ⟨w.heap.size + 1, 0, none⟩) := by rw [hfr]; rfl
          have f7 : fr.eval (.tmp 7) = .pointer (some ⟨T, 0, none⟩) := by rw [hfr]; rfl
          refine wp_region_held_drew (S := fun _ => True) (by kernel_rfl) trivial (fun _ => ?_)
          obtain ⟨SL, hSL⟩ : ∃ l : List (Nat × Nat), l = [(0, 54), (1, 55), (2, 4)] := ⟨_, rfl⟩
          obtain ⟨VL, hVL⟩ : ∃ l : List (Nat × Value), l = [(1, .agg #[.int .i64 n1, .int .i64 p, .int .i64 r, .int .i64 q])] := ⟨_, rfl⟩
          have hN1 : (SL.map Prod.fst).Nodup := by rw [hSL]; decide
          have hN2 : (SL.map Prod.snd).Nodup := by rw [hSL]; decide
          have M0 := vm_of hSL 0 rfl
          have E54 := eval_of hN2 M0 hsz9 rfl
          have M1 := vm_of hSL 1 rfl
          have E55 := eval_of hN2 M1 hsz9 rfl
          have M2 := vm_of hSL 2 rfl
          have E4 := eval_of hN2 M2 hsz9 rfl
          have E5 := eval_ofB hSL f5 rfl
          have E7 := eval_ofB hSL f7 rfl
          have VM1 := vm_of hVL 1 rfl
          have VU1 := vu_of hVL 1 rfl rfl
          have VN0 := vn_of hVL 0 rfl
          have VN2 := vn_of hVL 2 rfl
          have VN3 := vn_of hVL 3 rfl
          have hst9 : fr = puts fr (x0 fr SL) SL := puts_x0 fr SL (by rw [hSL]; decide)
          clear hVL
          refine wpAnyH_inv2 (JV fr SL VL (K9 (fun W => Sv w W w.heap.size (w.heap.size + 1) T (planV pm pw pb) (costV n1 p r q)) (fun W => ∃ Wp, Sv w Wp w.heap.size (w.heap.size + 1) T (planV pm pw pb) (costV n1 p r q) ∧ W = Wp.setRow (w.heap.size + 1) (costV n1 p r q)))) (by kernel_rfl) ?steps9 ?done9 _ _ ?start9
          case start9 => exact ⟨_, hst9, VOK.start _ _ _, K9.start HS2.out⟩
          case steps9 =>
            clear hst9 hSL hfr
            refine ⟨?_, ?_, ?_, ?_, trivial⟩
            all_goals
              rintro LB ac w' hs hu haf hcl ⟨x, rfl, hv, hk⟩ K hK
            · have hlast : LB.getD 3 false = false := by
                cases h : LB.getD 3 false with
                | false => rfl
                | true => exact absurd (hcl 3 _ rfl h ⟨0, .phase⟩ (by simp) rfl) (by rw [hu]; decide)
              have s0 := hk.1.1 hlast
              obtain ⟨q0, q1, q2, q3⟩ := cellsQ s0.co
              rw [if_pos (by rfl)]
              refine wp_val (v := .slice (some ⟨w'.heap.size, 0, none⟩) 0 0) (w' := w'.alloc (.cells #[] 87)) ?_ (hK _ _ (jv_set (by rw [hs]; decide) (x := upd x 0 _) (puts_set SL fr hN1 hN2 M0) (hv.other 0 _ VN0) (K9.alloc hk hlast (s0.same (belowNew _ _)) _)))
              go_simp
            · have r7 := E7 x
              have hlast : LB.getD 3 false = false := by
                cases h : LB.getD 3 false with
                | false => rfl
                | true => exact absurd (hcl 3 _ rfl h ⟨1, .data⟩ (by simp) rfl) (by rw [hu]; decide)
              have s0 := hk.1.1 hlast
              obtain ⟨q0, q1, q2, q3⟩ := cellsQ s0.co
              rw [if_pos (by rfl)]
              refine wp_val (v := .agg #[.int .i64 n1, .int .i64 p, .int .i64 r, .int .i64 q]) ?_ (hK _ _ (jv_set (by rw [hs]; decide) (x := upd x 1 _) (puts_set SL fr hN1 hN2 M1) (hv.val 1 _ VU1) (K9.load hk _)))
              generalize (puts fr x SL).eval = ρ at r7 ⊢; go_simp
            · have hlast : LB.getD 3 false = false := by
                cases h : LB.getD 3 false with
                | false => rfl
                | true => exact absurd (hcl 3 _ rfl h ⟨2, .chain⟩ (by simp) rfl) (by rw [hu]; decide)
              have s0 := hk.1.1 hlast
              obtain ⟨q0, q1, q2, q3⟩ := cellsQ s0.co
              rw [if_pos (by rfl)]
              have r54 := E54 x
              refine wp_val (v := x 0) ?_ (hK _ _ (jv_set (by rw [hs]; decide) (x := upd x 2 _) (puts_set SL fr hN1 hN2 M2) (hv.other 2 _ VN2) (K9.assign hk (haf ⟨0, .data⟩ (by simp) rfl))))
              generalize (puts fr x SL).eval = ρ at r54 ⊢; go_simp
            · have r5 := E5 x
              have r55 := (E55 x).trans (hv _ VM1 (haf ⟨1, .data⟩ (by simp) rfl))
              rw [if_pos (by rfl)]
              have s0 := hk.1.1 hu
              refine wp_store_row _ _ _ rfl (w.heap.size + 1) #[.int .i64 n1, .int .i64 p, .int .i64 r, .int .i64 q] r5 r55 _ _ s0.rz (by kernel_rfl) rfl (by simp [Value.oneCell']) ?_
              exact hK _ _ (jv_set (by rw [hs]; decide) (x := x) rfl (hv.none 3 VN3) (K9.last hk ⟨_, s0, rfl⟩))
          case done9 =>
            rintro LB ac w2 hall ⟨x, rfl, hv, hk⟩
            have v1 : x 1 = .agg #[.int .i64 n1, .int .i64 p, .int .i64 r, .int .i64 q] := hv _ VM1 (hall 1 (by decide))
            obtain ⟨hks, -, hx2⟩ := hk
            obtain ⟨Wp, hsv, rfl⟩ := hks.2 (hall 3 (by decide))
            obtain ⟨g, eG⟩ := hx2 (hall 2 (by decide))
            clear hks hx2
            rw [hSL]
            simp only [puts]
            rw [eG]
            clear M0 E54 M1 E55 M2 E4 E5 E7 f5 f7 VM1 VU1 VN0 VN2 VN3 hN1 hN2 hst9 hsz9
            clear hall hv v1
            rw [hfr]
            simp only [Act.put, List.setIfInBounds_toArray, List.set_cons_succ, List.set_cons_zero]
            clear hfr hSL
            have hz := setRow_heap Wp (w.heap.size + 1) _ (costV n1 p r q) _ (0, 0) hsv.rz
            obtain ⟨z0, z1, z2, z3⟩ := cellsQ hz
            have HBZ := Lib.hid (hsv.bel.grown (setRow_grown Wp (w.heap.size + 1) (costV n1 p r q)) hsv.bel.size (fun k hk => by injection hk with hk; omega))
            clear hz hsv
            generalize Wp.setRow (w.heap.size + 1) (costV n1 p r q) = wz at z0 z1 z2 z3 HBZ ⊢
            go_wp2_with fail
            refine bodyPost_ret (v := .tuple #[.slice (some g) 0 0, .agg #[.int .i64 n1, .int .i64 p, .int .i64 r, .int .i64 q]]) (by simp [results, Tryz.results247, go_sem, z0, z1, z2, z3]) rfl ?_
            exact ⟨some g, 0, (n1, p, r, q), by rw [HN0.out]; rfl, HCO.out, by rw [HN0.out, HO.out]; exact rd_some _ _ _, .inl ⟨HN0.out, HO.out⟩, HBZ.out⟩
        · obtain rfl : nx = 1 := by omega
          have hE : Ls = [Mg.srtP L] := Mg.last_run HSR.out HAS.out hlx
          obtain ⟨lb, lof, xa, d, rfl, hone⟩ := HL.out.one
          have hg0 : Ls.getD 0 [] = Mg.srtP L := by rw [hE]; rfl
          rw [hg0, srtP_len, hlen] at hone
          have HONE := Lib.hid hone
          have HSd := Lib.hid (HS.out.same ((Below.refl _ wr).drew))
          obtain ⟨hcd, -⟩ := hone wr.drew (.step (grown_of_below ((Below.refl _ _).drew)) (.inl rfl) (.refl _))
          obtain ⟨q0, q1, q2, q3⟩ := cellsQ HSd.out.co
          clear hE hg0 hone hlx HAS HSR HTX HL HS h0 h1
          go_wp2_with fail
          refine wp_with_act (fun fr hfr => ?_)
          have hsz10 : fr.tmps.size = 60 := by rw [hfr]; rfl
          have f5 : fr.eval (.tmp 5) = .pointer (some ⟨w.heap.size + 1, 0, none⟩) := by rw [hfr]; rfl
          have f6 : fr.eval (.tmp 6) = .slice (some ⟨lb, lof, none⟩) 1 cx := by rw [hfr]; rfl
          have f7 : fr.eval (.tmp 7) = .pointer (some ⟨T, 0, none⟩) := by rw [hfr]; rfl
          refine wp_region_held_drew (S := fun _ => True) (by kernel_rfl) trivial (fun _ => ?_)
          obtain ⟨SL, hSL⟩ : ∃ l : List (Nat × Nat), l = [(0, 56), (1, 57), (2, 58), (3, 59), (4, 4)] := ⟨_, rfl⟩
          obtain ⟨VL, hVL⟩ : ∃ l : List (Nat × Value), l = [(0, .slice (some ⟨lb, lof, none⟩) 1 cx), (1, .pointer (some ⟨lb, lof, none⟩)), (2, .slice xa n d), (3, .agg #[.int .i64 n1, .int .i64 p, .int .i64 r, .int .i64 q]), (4, .slice xa n d)] := ⟨_, rfl⟩
          have hN1 : (SL.map Prod.fst).Nodup := by rw [hSL]; decide
          have hN2 : (SL.map Prod.snd).Nodup := by rw [hSL]; decide
          have M0 := vm_of hSL 0 rfl
          have E56 := eval_of hN2 M0 hsz10 rfl
          have M1 := vm_of hSL 1 rfl
          have E57 := eval_of hN2 M1 hsz10 rfl
          have M2 := vm_of hSL 2 rfl
          have E58 := eval_of hN2 M2 hsz10 rfl
          have M3 := vm_of hSL 3 rfl
          have E59 := eval_of hN2 M3 hsz10 rfl
          have M4 := vm_of hSL 4 rfl
          have E4 := eval_of hN2 M4 hsz10 rfl
          have E5 := eval_ofB hSL f5 rfl
          have E6 := eval_ofB hSL f6 rfl
          have E7 := eval_ofB hSL f7 rfl
          have VM0 := vm_of hVL 0 rfl
          have VU0 := vu_of hVL 0 rfl rfl
          have VM1 := vm_of hVL 1 rfl
          have VU1 := vu_of hVL 1 rfl rfl
          have VM2 := vm_of hVL 2 rfl
          have VU2 := vu_of hVL 2 rfl rfl
          have VM3 := vm_of hVL 3 rfl
          have VU3 := vu_of hVL 3 rfl rfl
          have VM4 := vm_of hVL 4 rfl
          have VU4 := vu_of hVL 4 rfl rfl
          have VN5 := vn_of hVL 5 rfl
          have hst10 : fr = puts fr (x0 fr SL) SL := puts_x0 fr SL (by rw [hSL]; decide)
          clear hVL
          refine wpAnyH_inv2 (JV fr SL VL (KS (fun W => W = wr.drew) (fun W => W = wr.drew.setRow (w.heap.size + 1) (costV n1 p r q)) 5)) (by kernel_rfl) ?steps10 ?done10 _ _ ?start10
          case start10 => exact ⟨_, hst10, VOK.start _ _ _, KS.start rfl⟩
          case steps10 =>
            clear hst10 hSL hfr
            refine ⟨?_, ?_, ?_, ?_, ?_, ?_, trivial⟩
            all_goals
              rintro LB ac w' hs hu haf hcl ⟨x, rfl, hv, hk⟩ K hK
            · have r6 := E6 x
              have hlast : LB.getD 5 false = false := by
                cases h : LB.getD 5 false with
                | false => rfl
                | true => exact absurd (hcl 5 _ rfl h ⟨0, .phase⟩ (by simp) rfl) (by rw [hu]; decide)
              have s0 := hk.1 hlast
              subst s0
              rw [if_pos (by rfl)]
              refine wp_val (v := .slice (some ⟨lb, lof, none⟩) 1 cx) ?_ (hK _ _ (jv_set (by rw [hs]; decide) (x := upd x 0 _) (puts_set SL fr hN1 hN2 M0) (hv.val 0 _ VU0) (hk.quiet 0 _ (by decide))))
              generalize (puts fr x SL).eval = ρ at r6 ⊢; go_simp
            · have r56 := (E56 x).trans (hv _ VM0 (haf ⟨0, .data⟩ (by simp) rfl))
              have rc0 : (puts fr x SL).eval (.const (.int .i64 0)) = .int .i64 0 := rfl
              have hlast : LB.getD 5 false = false := by
                cases h : LB.getD 5 false with
                | false => rfl
                | true => exact absurd (hcl 5 _ rfl h ⟨1, .phase⟩ (by simp) rfl) (by rw [hu]; decide)
              have s0 := hk.1 hlast
              subst s0
              rw [if_pos (by rfl)]
              refine wp_val (v := .pointer (some ⟨lb, lof, none⟩)) ?_ (hK _ _ (jv_set (by rw [hs]; decide) (x := upd x 1 _) (puts_set SL fr hN1 hN2 M1) (hv.val 1 _ VU1) (hk.quiet 1 _ (by decide))))
              generalize (puts fr x SL).eval = ρ at r56 rc0 ⊢; go_simp
            · have r57 := (E57 x).trans (hv _ VM1 (haf ⟨1, .data⟩ (by simp) rfl))
              have hlast : LB.getD 5 false = false := by
                cases h : LB.getD 5 false with
                | false => rfl
                | true => exact absurd (hcl 5 _ rfl h ⟨2, .phase⟩ (by simp) rfl) (by rw [hu]; decide)
              have s0 := hk.1 hlast
              subst s0
              rw [if_pos (by rfl)]
              refine wp_val (v := .slice xa n d) ?_ (hK _ _ (jv_set (by rw [hs]; decide) (x := upd x 2 _) (puts_set SL fr hN1 hN2 M2) (hv.val 2 _ VU2) (hk.quiet 2 _ (by decide))))
              generalize (puts fr x SL).eval = ρ at r57 ⊢; go_simp
            · have r7 := E7 x
              have hlast : LB.getD 5 false = false := by
                cases h : LB.getD 5 false with
                | false => rfl
                | true => exact absurd (hcl 5 _ rfl h ⟨3, .data⟩ (by simp) rfl) (by rw [hu]; decide)
              have s0 := hk.1 hlast
              subst s0
              rw [if_pos (by rfl)]
              refine wp_val (v := .agg #[.int .i64 n1, .int .i64 p, .int .i64 r, .int .i64 q]) ?_ (hK _ _ (jv_set (by rw [hs]; decide) (x := upd x 3 _) (puts_set SL fr hN1 hN2 M3) (hv.val 3 _ VU3) (hk.quiet 3 _ (by decide))))
              generalize (puts fr x SL).eval = ρ at r7 ⊢; go_simp
            · have r58 := (E58 x).trans (hv _ VM2 (haf ⟨2, .data⟩ (by simp) rfl))
              have hlast : LB.getD 5 false = false := by
                cases h : LB.getD 5 false with
                | false => rfl
                | true => exact absurd (hcl 5 _ rfl h ⟨4, .chain⟩ (by simp) rfl) (by rw [hu]; decide)
              have s0 := hk.1 hlast
              subst s0
              rw [if_pos (by rfl)]
              refine wp_val (v := .slice xa n d) ?_ (hK _ _ (jv_set (by rw [hs]; decide) (x := upd x 4 _) (puts_set SL fr hN1 hN2 M4) (hv.val 4 _ VU4) (hk.quiet 4 _ (by decide))))
              generalize (puts fr x SL).eval = ρ at r58 ⊢; go_simp
            · have r5 := E5 x
              have r59 := (E59 x).trans (hv _ VM3 (haf ⟨3, .data⟩ (by simp) rfl))
              rw [if_pos (by rfl)]
              have s0 := hk.1 hu
              subst s0
              refine wp_store_row _ _ _ rfl (w.heap.size + 1) #[.int .i64 n1, .int .i64 p, .int .i64 r, .int .i64 q] r5 r59 _ _ HSd.out.rz (by kernel_rfl) rfl (by simp [Value.oneCell']) ?_
              exact hK _ _ (jv_set (by rw [hs]; decide) (x := x) rfl (hv.none 5 VN5) (KS.last rfl))
          case done10 =>
            rintro LB ac w2 hall ⟨x, rfl, hv, hk⟩
            have v0 : x 0 = .slice (some ⟨lb, lof, none⟩) 1 cx := hv _ VM0 (hall 0 (by decide))
            have v1 : x 1 = .pointer (some ⟨lb, lof, none⟩) := hv _ VM1 (hall 1 (by decide))
            have v2 : x 2 = .slice xa n d := hv _ VM2 (hall 2 (by decide))
            have v3 : x 3 = .agg #[.int .i64 n1, .int .i64 p, .int .i64 r, .int .i64 q] := hv _ VM3 (hall 3 (by decide))
            have v4 : x 4 = .slice xa n d := hv _ VM4 (hall 4 (by decide))
            have hww := hk.2 (hall 5 (by decide))
            subst hww
            clear hk
            rw [hSL]
            simp only [puts]
            rw [v4]
            clear M0 E56 M1 E57 M2 E58 M3 E59 M4 E4 E5 E6 E7 f5 f6 f7 VM0 VU0 VM1 VU1 VM2 VU2 VM3 VU3 VM4 VU4 VN5 hN1 hN2 hst10 hsz10
            clear hall hv v0 v1 v2 v3 v4
            rw [hfr]
            simp only [Act.put, List.setIfInBounds_toArray, List.set_cons_succ, List.set_cons_zero]
            clear hfr hSL
            have hz := setRow_heap wr.drew (w.heap.size + 1) _ (costV n1 p r q) _ (0, 0) HSd.out.rz
            obtain ⟨z0, z1, z2, z3⟩ := cellsQ hz
            have HBZ := Lib.hid (HSd.out.bel.grown (setRow_grown wr.drew (w.heap.size + 1) (costV n1 p r q)) HSd.out.bel.size (fun k hk => by injection hk with hk; omega))
            have HRZ := Lib.hid (HONE.out (wr.drew.setRow (w.heap.size + 1) (costV n1 p r q)) (.step (grown_of_below ((Below.refl _ _).drew)) (.inl rfl) (.step (setRow_grown _ _ _) (.inr rfl) (.refl _)))).2
            clear hz q0 q1 q2 q3 hcd HSd HONE
            generalize wr.drew.setRow (w.heap.size + 1) (costV n1 p r q) = wz at z0 z1 z2 z3 HBZ HRZ ⊢
            go_wp2_with fail
            refine bodyPost_ret (v := .tuple #[.slice xa n d, .agg #[.int .i64 n1, .int .i64 p, .int .i64 r, .int .i64 q]]) (by simp [results, Tryz.results247, go_sem, z0, z1, z2, z3]) rfl ?_
            exact ⟨xa, d, (n1, p, r, q), rfl, HCO.out, rd_own HRZ.out, .inr (own_mono HRZ.out (by omega)), HBZ.out⟩

end Go.Proofs.YtbgmbanebmlghaaGreatDoor

namespace Go.Proofs.YtbgmbanebmlghaaGreatDoor
open Go.RowKit Go.Sort
set_option linter.unusedVariables false
/-- A list is made (mk), a call made of it (3), its results parted (4); a block is made (7) and written (9). -/
def KP (wR : World) (mk n : Nat) (C : Array Value) (b : Nat → Bool) (x : Nat → Value) (w : World) : Prop :=
  KA wR 7 9 183 z4 C b x w ∧ (b 9 = false → b mk = true → ∃ g, x mk = .slice (some ⟨g, 0, none⟩) n n ∧ Rd w (some ⟨g, 0, none⟩) n n (List.replicate n (0, 0))) ∧
  (b 3 = true → ∃ a c, x 3 = .tuple #[.slice a n c, .agg C]) ∧ (b 4 = true → ∃ a c, x 4 = .tuple #[.slice a n c, .agg C])
theorem KP.start {wR : World} {mk n k : Nat} {C : Array Value} (x : Nat → Value) : KP wR mk n C (fun j => (Array.replicate k false).getD j false) x wR :=
  ⟨KA.start x, fun _ h => absurd ((rep_false k mk).symm.trans h) (by decide), fun h => absurd ((rep_false k 3).symm.trans h) (by decide), fun h => absurd ((rep_false k 4).symm.trans h) (by decide)⟩
theorem KP.alloc {wR w : World} {mk n : Nat} {C : Array Value} {b : Nat → Bool} {x : Nat → Value} (h : KP wR mk n C b x w) (hu : b 7 = false) (hm : mk ≠ 7) : KP wR mk n C (upd b 7 true) (upd x 7 (.pointer (some ⟨w.heap.size, 0, none⟩))) (w.alloc (.cells z4 183)) := by
  refine ⟨h.1.alloc hu (by decide), fun e9 e2 => ?_, fun e3 => ?_, fun e4 => ?_⟩
  · rw [upd_ne (by decide)] at e9
    rw [upd_ne hm] at e2
    obtain ⟨g, f1, f2⟩ := h.2.1 e9 e2
    exact ⟨g, by rw [upd_ne hm]; exact f1, f2.same (belowNew _ _)⟩
  · rw [upd_ne (by decide)] at e3 ⊢; exact h.2.2.1 e3
  · rw [upd_ne (by decide)] at e4 ⊢; exact h.2.2.2 e4
theorem KP.store {wR w : World} {mk n T : Nat} {C : Array Value} {b : Nat → Bool} {x : Nat → Value} (h : KP wR mk n C b x w) (hi : b 7 = true) (hx : x 7 = .pointer (some ⟨T, 0, none⟩)) (hT : w.heap[T]? = some (.cells z4 183 (0, 0))) : KP wR mk n C (upd b 9 true) x (w.setRow T C) :=
  ⟨h.1.store hi (by decide) hx hT, fun e9 => (by rw [upd_same] at e9; cases e9), fun e3 => (by rw [upd_ne (by decide)] at e3; exact h.2.2.1 e3), fun e4 => (by rw [upd_ne (by decide)] at e4; exact h.2.2.2 e4)⟩

end Go.Proofs.YtbgmbanebmlghaaGreatDoor

namespace Go.Proofs.YtbgmbanebmlghaaGreatDoor
open Go.RowKit Go.Sort
set_option linter.unusedVariables false
theorem setc4 {w w2 : World} {x0 x1 x2 x3 : Value} {g : Nat} (h : Below w.heap.size w w2) (hg : w.heap.size ≤ g) : Below w.heap.size w ((((w2.setCell ⟨g, 0, none⟩ x0).setCell ⟨g, 1, none⟩ x1).setCell ⟨g, 2, none⟩ x2).setCell ⟨g, 3, none⟩ x3) :=
  Below.setCell (p := ⟨g, 3, none⟩) (Below.setCell (p := ⟨g, 2, none⟩) (Below.setCell (p := ⟨g, 1, none⟩) (Below.setCell (p := ⟨g, 0, none⟩) h hg _) hg _) hg _) hg _

end Go.Proofs.YtbgmbanebmlghaaGreatDoor

namespace Go.Proofs.YtbgmbanebmlghaaGreatDoor
open Go.RowKit Go.Sort
set_option linter.unusedVariables false

def exOk (zs : List (Int × Int)) (pm pw pb : Int) : Bool := okRecs zs && planOk pm pw pb
def exL (zs : List (Int × Int)) (pm pw pb : Int) : List (Int × Int) := if exOk zs pm pw pb = true then Mg.srtP zs else []
def exC (zs : List (Int × Int)) (pm pw pb : Int) : Nat × Nat × Nat × Nat := if exOk zs pm pw pb = true then Mg.costOf zs.length pm.toNat pw.toNat pb.toNat else (0, 0, 0, 0)
/-- What ExternalSort gives back: a list that is the caller's own. -/
def ExEndO (w : World) (zs : List (Int × Int)) (pm pw pb : Int) (e : Ending) (w' : World) : Prop :=
  ∃ (a : Option Addr) (n c : Nat), e = .returned (.tuple #[.slice a n c, .agg (costV (exC zs pm pw pb).1 (exC zs pm pw pb).2.1 (exC zs pm pw pb).2.2.1 (exC zs pm pw pb).2.2.2), .bool (exOk zs pm pw pb)]) ∧ Rd w' a n c (exL zs pm pw pb) ∧ OwnE w' w.heap.size a n c (exL zs pm pw pb) ∧ Below w.heap.size w w'

set_option maxRecDepth 100000 in
set_option maxHeartbeats 1000000 in
theorem implExternalSort_any (a : Option Addr) (n c : Nat) (zs : List (Int × Int)) (pm pw pb : Int) (w : World) (hbig : n ≤ 9223372036854775807) (h : Rd w a n c zs) :
    Calls Tryz.prog 187 #[.slice a n c, .agg #[.int .i64 pm, .int .i64 pw, .int .i64 pb]] w (ExEndO w zs pm pw pb) := by
  obtain ⟨wa, hwa⟩ : ∃ W, W = w.alloc (.cells #[.int .i64 pm, .int .i64 pw, .int .i64 pb] 187) := ⟨_, rfl⟩
  obtain ⟨wb, hwb⟩ : ∃ W, W = wa.alloc (.cells #[.int .i64 0, .int .i64 0, .int .i64 0, .int .i64 0] 183) := ⟨_, rfl⟩
  have sa : wa.heap.size = w.heap.size + 1 := by rw [hwa]; simp
  have ba : Below w.heap.size w wa := by rw [hwa]; exact belowNew _ _
  have bb : Below wa.heap.size wa wb := by rw [hwb]; exact belowNew _ _
  have ha : wa.heap[w.heap.size]? = some (.cells #[.int .i64 pm, .int .i64 pw, .int .i64 pb] 187 (0, 0)) := by rw [hwa]; exact block_new _ _
  have HP := Lib.hid (block_below ha bb (by omega))
  have HZ : Hid (wb.heap[w.heap.size + 1]? = some (.cells #[.int .i64 0, .int .i64 0, .int .i64 0, .int .i64 0] 183 (0, 0))) := by show _ = _; rw [hwb, ← sa]; exact block_new _ _
  have HB := Lib.hid (below_tr ba bb ba.size)
  have HR := Lib.hid ((h.same ba).same bb)
  have hlen := h.len
  have HV : Hid (Calls Tryz.prog 52 #[.slice a n c] wb fun e w' => e = .returned (.bool (okRecs zs)) ∧ Below wb.heap.size wb w') := by
    have h1 := isValidRecords_any a c zs wb (by omega) HR.out.recs
    rw [hlen] at h1; exact h1
  clear h ha ba bb sa
  subst hwb
  subst hwa
  unfold ExEndO
  go_enter Tryz.func187, Tryz.ntmps187
  go_wp2_with fail
  refine HV.out.mono ?_
  rintro e w1 ⟨rfl, hb⟩
  have HB1 := Lib.hid (below_tr HB.out hb HB.out.size)
  have HZ1 := Lib.hid (block_below HZ.out hb (hlt_of HZ.out))
  have HP1 := Lib.hid (block_below HP.out hb (hlt_of HP.out))
  have HR1 := Lib.hid (HR.out.same hb)
  clear hb HV HB HZ HP HR
  cases hok : okRecs zs
  · have HO : Hid (exOk zs pm pw pb = false) := by show _ = _; unfold exOk; rw [hok]; rfl
    have HC : Hid (exC zs pm pw pb = (0, 0, 0, 0)) := by show _ = _; unfold exC; rw [HO.out]; rfl
    have HL : Hid (exL zs pm pw pb = []) := by show _ = _; unfold exL; rw [HO.out]; rfl
    obtain ⟨hr0, hr1, hr2, hr3⟩ := cellsQ HZ1.out
    have fr2 : ∀ o, w1.frozen? ⟨w.heap.size + 1, o, none⟩ = false := fun o => frozen_of_row _ _ o _ _ HZ1.out
    clear hok
    go_wp2
    refine bodyPost_ret (v := .tuple #[.slice none 0 0, .agg #[.int .i64 0, .int .i64 0, .int .i64 0, .int .i64 0], .bool false]) (by simp [results, Tryz.results187, go_sem, hr0, hr1, hr2, hr3]) rfl ?_
    exact ⟨none, 0, 0, by rw [HO.out, HC.out]; rfl, by rw [HL.out]; exact rd_nil _, .inl ⟨rfl, HL.out⟩, setc4 HB1.out (Nat.le_succ _)⟩
  obtain ⟨p0, p1, p2⟩ := cells3 HP1.out
  go_wp2_with fail
  refine (isValidPlan_any pm pw pb w1).mono ?_
  rintro e w2 ⟨rfl, hb⟩
  have HB2 := Lib.hid (below_tr HB1.out hb HB1.out.size)
  have HZ2 := Lib.hid (block_below HZ1.out hb (hlt_of HZ1.out))
  have HP2 := Lib.hid (block_below HP1.out hb (hlt_of HP1.out))
  have HR2 := Lib.hid (HR1.out.same hb)
  clear hb HB1 HZ1 HP1 HR1 p0 p1 p2
  cases hpl : planOk pm pw pb
  · have HO : Hid (exOk zs pm pw pb = false) := by show _ = _; unfold exOk; rw [hpl]; simp
    have HC : Hid (exC zs pm pw pb = (0, 0, 0, 0)) := by show _ = _; unfold exC; rw [HO.out]; rfl
    have HL : Hid (exL zs pm pw pb = []) := by show _ = _; unfold exL; rw [HO.out]; rfl
    obtain ⟨hr0, hr1, hr2, hr3⟩ := cellsQ HZ2.out
    have fr2 : ∀ o, w2.frozen? ⟨w.heap.size + 1, o, none⟩ = false := fun o => frozen_of_row _ _ o _ _ HZ2.out
    clear hok hpl
    go_wp2
    refine bodyPost_ret (v := .tuple #[.slice none 0 0, .agg #[.int .i64 0, .int .i64 0, .int .i64 0, .int .i64 0], .bool false]) (by simp [results, Tryz.results187, go_sem, hr0, hr1, hr2, hr3]) rfl ?_
    exact ⟨none, 0, 0, by rw [HO.out, HC.out]; rfl, by rw [HL.out]; exact rd_nil _, .inl ⟨rfl, HL.out⟩, setc4 HB2.out (Nat.le_succ _)⟩
  · have HO : Hid (exOk zs pm pw pb = true) := by show _ = _; unfold exOk; rw [hpl, hok]; rfl
    obtain ⟨s1, s2, s3, s4, s5, s6⟩ := planOk_iff hpl
    obtain ⟨m, rfl⟩ : ∃ n : Nat, pm = (n : Int) := ⟨pm.toNat, by omega⟩
    obtain ⟨u, rfl⟩ : ∃ n : Nat, pw = (n : Int) := ⟨pw.toNat, by omega⟩
    obtain ⟨b, rfl⟩ : ∃ n : Nat, pb = (n : Int) := ⟨pb.toNat, by omega⟩
    have hC0 : exC zs m u b = Mg.costOf n m u b := by unfold exC; rw [if_pos HO.out, hlen]; rfl
    obtain ⟨⟨c0, c1, c2, c3⟩, hC⟩ : ∃ C, Mg.costOf n m u b = C := ⟨_, rfl⟩
    have HC : Hid (exC zs m u b = (c0, c1, c2, c3)) := by show _ = _; rw [hC0, hC]
    have HL : Hid (exL zs m u b = Mg.srtP zs) := by show _ = _; unfold exL; rw [if_pos HO.out]
    have hn64 : n ≤ 64 := by have := okRecs_le hok; omega
    have HSO := Lib.hid (sortO_any m u b a n c zs w2 hpl hn64 HR2.out)
    unfold SoEndO at HSO
    simp only [costV] at HSO
    obtain ⟨p0, p1, p2⟩ := cells3 HP2.out
    rw [hC] at HSO
    clear hC hC0 hok hpl s1 s2 s3 s4 s5 s6
    go_wp2_with fail
    refine HSO.out.mono ?_
    rintro e w3 ⟨ar, cr, C, rfl, rfl, hrd, hown, hb⟩
    have HB3 := Lib.hid (below_tr HB2.out hb HB2.out.size)
    have HZ3 := Lib.hid (block_below HZ2.out hb (hlt_of HZ2.out))
    have hz3 := hlt_of HZ3.out
    have hs23 := hb.size
    have hs2 := HB2.out.size
    have HB2z := hlt_of HZ2.out
    have HRD := Lib.hid hrd
    have HOW := Lib.hid hown
    clear hown
    clear hb hrd HB2 HZ2 HP2 HR2 p0 p1 p2 HSO
    obtain ⟨wR, hwR⟩ : ∃ W, W = (w3.alloc (.cells #[.int .i64 c0, .int .i64 c1, .int .i64 c2, .int .i64 c3] 183)).drew := ⟨_, rfl⟩
    have hn1 := block_new w3 (.cells #[.int .i64 c0, .int .i64 c1, .int .i64 c2, .int .i64 c3] 183)
    have HTR : Hid (wR.heap[w3.heap.size]? = some (.cells #[.int .i64 c0, .int .i64 c1, .int .i64 c2, .int .i64 c3] 183 (0, 0))) := by
      show _ = _
      rw [hwR]; exact hn1
    have hBR : Below w3.heap.size w3 wR := by
      rw [hwR]
      exact (belowNew w3 _).drew
    have HZR := Lib.hid (block_below HZ3.out hBR hz3)
    have HBR := Lib.hid (below_tr HB3.out hBR HB3.out.size)
    have hRS := setRow_grown wR (w.heap.size + 1) #[.int .i64 c0, .int .i64 c1, .int .i64 c2, .int .i64 c3]
    have HRF : Hid (Rd (wR.setRow (w.heap.size + 1) #[.int .i64 c0, .int .i64 c1, .int .i64 c2, .int .i64 c3]) ar n cr (Mg.srtP zs)) := by
      have h1 := HRD.out.same hBR
      rcases HOW.out with ⟨_, h0⟩ | ho
      · rw [h0] at h1 ⊢
        exact ⟨.inl rfl, h1.len, h1.nil, h1.cap⟩
      · exact rd_own (own_other (own_below ho (Nat.le_refl _) hBR) hRS (fun k hk e => by injection e with e; have := (ho.lt k hk).1; omega))
    have HOF : Hid (OwnE (wR.setRow (w.heap.size + 1) #[.int .i64 c0, .int .i64 c1, .int .i64 c2, .int .i64 c3]) w.heap.size ar n cr (Mg.srtP zs)) := HOW.out.elim Or.inl (fun ho => .inr (own_mono (own_other (own_below ho (Nat.le_refl _) hBR) hRS (fun k hk e => by injection e with e; have := (ho.lt k hk).1; omega)) hs2))
    have HBF := Lib.hid (HBR.out.grown hRS HBR.out.size (fun k hk => by injection hk with hk; omega))
    have HZF := Lib.hid (setRow_heap wR (w.heap.size + 1) _ #[.int .i64 c0, .int .i64 c1, .int .i64 c2, .int .i64 c3] _ (0, 0) HZR.out)
    clear hn1 hBR hRS HB3 HZ3 HBR
    go_wp2_with fail
    refine wp_with_act (fun fr hfr => ?_)
    have hsz4 : fr.tmps.size = 26 := by rw [hfr]; rfl
    have f5 : fr.eval (.tmp 5) = .pointer (some ⟨w.heap.size + 1, 0, none⟩) := by rw [hfr]; rfl
    have f7 : fr.eval (.tmp 7) = .slice ar n cr := by rw [hfr]; rfl
    have f8 : fr.eval (.tmp 8) = .pointer (some ⟨w3.heap.size, 0, none⟩) := by rw [hfr]; rfl
    refine wp_region_held_drew (S := fun _ => True) (by kernel_rfl) trivial (fun _ => ?_)
    rw [← hwR]
    obtain ⟨SL, hSL⟩ : ∃ l : List (Nat × Nat), l = [(0, 24), (1, 25), (2, 4), (4, 6)] := ⟨_, rfl⟩
    obtain ⟨VL, hVL⟩ : ∃ l : List (Nat × Value), l = [(0, .slice ar n cr), (1, .agg #[.int .i64 c0, .int .i64 c1, .int .i64 c2, .int .i64 c3]), (2, .slice ar n cr), (4, .bool true)] := ⟨_, rfl⟩
    have hN1 : (SL.map Prod.fst).Nodup := by rw [hSL]; decide
    have hN2 : (SL.map Prod.snd).Nodup := by rw [hSL]; decide
    have M0 := vm_of hSL 0 rfl
    have E24 := eval_of hN2 M0 hsz4 rfl
    have M1 := vm_of hSL 1 rfl
    have E25 := eval_of hN2 M1 hsz4 rfl
    have M2 := vm_of hSL 2 rfl
    have E4 := eval_of hN2 M2 hsz4 rfl
    have M4 := vm_of hSL 4 rfl
    have E6 := eval_of hN2 M4 hsz4 rfl
    have E5 := eval_ofB hSL f5 rfl
    have E7 := eval_ofB hSL f7 rfl
    have E8 := eval_ofB hSL f8 rfl
    have VM0 := vm_of hVL 0 rfl
    have VU0 := vu_of hVL 0 rfl rfl
    have VM1 := vm_of hVL 1 rfl
    have VU1 := vu_of hVL 1 rfl rfl
    have VM2 := vm_of hVL 2 rfl
    have VU2 := vu_of hVL 2 rfl rfl
    have VM4 := vm_of hVL 4 rfl
    have VU4 := vu_of hVL 4 rfl rfl
    have VN3 := vn_of hVL 3 rfl
    have hst4 : fr = puts fr (x0 fr SL) SL := puts_x0 fr SL (by rw [hSL]; decide)
    clear hVL
    refine wpAnyH_inv2 (JV fr SL VL (KS (fun W => W = wR) (fun W => W = wR.setRow (w.heap.size + 1) #[.int .i64 c0, .int .i64 c1, .int .i64 c2, .int .i64 c3]) 3)) (by kernel_rfl) ?steps4 ?done4 _ _ ?start4
    case start4 => exact ⟨_, hst4, VOK.start _ _ _, KS.start rfl⟩
    case steps4 =>
      clear hst4 hSL hfr
      refine ⟨?_, ?_, ?_, ?_, ?_, trivial⟩
      all_goals
        rintro LB ac w' hs hu haf hcl ⟨x, rfl, hv, hk⟩ K hK
      · have r7 := E7 x
        have hlast : LB.getD 3 false = false := by
          cases h : LB.getD 3 false with
          | false => rfl
          | true => exact absurd (hcl 3 _ rfl h ⟨0, .phase⟩ (by simp) rfl) (by rw [hu]; decide)
        have s0 := hk.1 hlast
        subst s0
        obtain ⟨q0, q1, q2, q3⟩ := cellsQ HTR.out
        rw [if_pos (by rfl)]
        refine wp_val (v := .slice ar n cr) ?_ (hK _ _ (jv_set (by rw [hs]; decide) (x := upd x 0 _) (puts_set SL fr hN1 hN2 M0) (hv.val 0 _ VU0) (hk.quiet 0 _ (by decide))))
        generalize (puts fr x SL).eval = ρ at r7 ⊢; go_simp
      · have r8 := E8 x
        have hlast : LB.getD 3 false = false := by
          cases h : LB.getD 3 false with
          | false => rfl
          | true => exact absurd (hcl 3 _ rfl h ⟨1, .data⟩ (by simp) rfl) (by rw [hu]; decide)
        have s0 := hk.1 hlast
        subst s0
        obtain ⟨q0, q1, q2, q3⟩ := cellsQ HTR.out
        rw [if_pos (by rfl)]
        refine wp_val (v := .agg #[.int .i64 c0, .int .i64 c1, .int .i64 c2, .int .i64 c3]) ?_ (hK _ _ (jv_set (by rw [hs]; decide) (x := upd x 1 _) (puts_set SL fr hN1 hN2 M1) (hv.val 1 _ VU1) (hk.quiet 1 _ (by decide))))
        generalize (puts fr x SL).eval = ρ at r8 ⊢; go_simp
      · have r24 := (E24 x).trans (hv _ VM0 (haf ⟨0, .data⟩ (by simp) rfl))
        have hlast : LB.getD 3 false = false := by
          cases h : LB.getD 3 false with
          | false => rfl
          | true => exact absurd (hcl 3 _ rfl h ⟨2, .chain⟩ (by simp) rfl) (by rw [hu]; decide)
        have s0 := hk.1 hlast
        subst s0
        obtain ⟨q0, q1, q2, q3⟩ := cellsQ HTR.out
        rw [if_pos (by rfl)]
        refine wp_val (v := .slice ar n cr) ?_ (hK _ _ (jv_set (by rw [hs]; decide) (x := upd x 2 _) (puts_set SL fr hN1 hN2 M2) (hv.val 2 _ VU2) (hk.quiet 2 _ (by decide))))
        generalize (puts fr x SL).eval = ρ at r24 ⊢; go_simp
      · have r5 := E5 x
        have r25 := (E25 x).trans (hv _ VM1 (haf ⟨1, .data⟩ (by simp) rfl))
        rw [if_pos (by rfl)]
        have s0 := hk.1 hu
        subst s0
        refine wp_store_row _ _ _ rfl (w.heap.size + 1) #[.int .i64 c0, .int .i64 c1, .int .i64 c2, .int .i64 c3] r5 r25 _ _ HZR.out (by kernel_rfl) rfl (by simp [Value.oneCell']) ?_
        exact hK _ _ (jv_set (by rw [hs]; decide) (x := x) rfl (hv.none 3 VN3) (KS.last rfl))
      · rw [if_pos (by rfl)]
        refine wp_val (v := .bool true) ?_ (hK _ _ (jv_set (by rw [hs]; decide) (x := upd x 4 _) (puts_set SL fr hN1 hN2 M4) (hv.val 4 _ VU4) (hk.quiet 4 _ (by decide))))
        go_simp
    case done4 =>
      rintro LB ac w2 hall ⟨x, rfl, hv, hk⟩
      have v0 : x 0 = .slice ar n cr := hv _ VM0 (hall 0 (by decide))
      have v1 : x 1 = .agg #[.int .i64 c0, .int .i64 c1, .int .i64 c2, .int .i64 c3] := hv _ VM1 (hall 1 (by decide))
      have v2 : x 2 = .slice ar n cr := hv _ VM2 (hall 2 (by decide))
      have v4 : x 4 = .bool true := hv _ VM4 (hall 4 (by decide))
      have hww := hk.2 (hall 3 (by decide))
      subst hww
      clear hk
      rw [hSL]
      simp only [puts]
      rw [v2, v4]
      clear M0 E24 M1 E25 M2 E4 M4 E6 E5 E7 E8 f5 f7 f8 VM0 VU0 VM1 VU1 VM2 VU2 VM4 VU4 VN3 hN1 hN2 hst4 hsz4
      clear hall hv v0 v1 v2 v4
      rw [hfr]
      simp only [Act.put, List.setIfInBounds_toArray, List.set_cons_succ, List.set_cons_zero]
      clear hfr hSL
      obtain ⟨z0, z1, z2, z3⟩ := cellsQ HZF.out
      generalize wR.setRow (w.heap.size + 1) #[.int .i64 c0, .int .i64 c1, .int .i64 c2, .int .i64 c3] = wz at z0 z1 z2 z3 HBF HRF HOF ⊢
      go_wp2_with fail
      refine bodyPost_ret (v := .tuple #[.slice ar n cr, .agg #[.int .i64 c0, .int .i64 c1, .int .i64 c2, .int .i64 c3], .bool true]) (by simp [results, Tryz.results187, go_sem, z0, z1, z2, z3]) rfl ?_
      exact ⟨ar, n, cr, by rw [HO.out, HC.out]; rfl, by rw [HL.out]; exact HRF.out, by rw [HL.out]; exact HOF.out, HBF.out⟩

end Go.Proofs.YtbgmbanebmlghaaGreatDoor

