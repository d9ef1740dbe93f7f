/- Several texts in one: lemmas and walks of the functions that the laws reach. -/
import Derived.Test.YtkckmjajjdpodaaY15

/- Walks: a list is sorted by a plan: the reference's. -/
namespace Go.Proofs.Ytkckmjajjdpodaa
open Go.RowKit Go.Sort
set_option linter.unusedVariables false

set_option maxRecDepth 100000 in
set_option maxHeartbeats 1000000 in
theorem l17Sort_any (pm pw pb : Nat) (a : Option Addr) (n c : Nat) (L : List (Int × Int)) (w : World) (hok : planOk pm pw pb = true) (hn : n ≤ 64) (h : Rd w a n c L) :
    Calls Try.prog 85 #[.slice a n c, .agg #[.int .i64 pm, .int .i64 pw, .int .i64 pb]] w (SoEnd w pm pw pb L n) := by
  obtain ⟨k1, k2, k3, k4, k5, k6⟩ := planOk_iff hok
  have hpb0 : 0 < pb := by omega
  have hlen := h.len
  obtain ⟨wa, hwa⟩ : ∃ W, W = w.alloc (.cells #[.int .i64 pm, .int .i64 pw, .int .i64 pb] 26) := ⟨_, rfl⟩
  obtain ⟨wb, hwb⟩ : ∃ W, W = wa.alloc (.cells #[.int .i64 0, .int .i64 0, .int .i64 0, .int .i64 0] 30) := ⟨_, rfl⟩
  have sa : wa.heap.size = w.heap.size + 1 := by rw [hwa]; simp
  have sb : wb.heap.size = w.heap.size + 2 := by rw [hwb]; simp; omega
  have ba : Below w.heap.size w wa := by rw [hwa]; exact belowNew _ _
  have bb : Below wa.heap.size wa wb := by rw [hwb]; exact belowNew _ _
  have ha : wa.heap[w.heap.size]? = some (.cells (planV pm pw pb) 26 (0, 0)) := by rw [hwa]; exact block_new _ _
  have hb1 : wb.heap[w.heap.size]? = some (.cells (planV pm pw pb) 26 (0, 0)) := block_below ha bb (by omega)
  have hb2 : wb.heap[w.heap.size + 1]? = some (.cells z4 30 (0, 0)) := by rw [hwb, ← sa]; exact block_new _ _
  have hR := (h.same ba).same bb
  have HB := Lib.hid (below_tr ba bb ba.size)
  have HP := Lib.hid hb1; have HZ := Lib.hid hb2
  obtain ⟨p0, p1, p2⟩ := cells3 hb1
  have HMR := Lib.hid (l17Runs_any a n c pm L wb (by omega) (by omega) (by omega) hR)
  clear h ha hb1 hb2 ba bb hR hok
  subst hwb
  subst hwa
  unfold SoEnd
  unfold LsEnd at HMR
  go_enter Try.func85, Try.ntmps85
  go_wp2_with fail
  refine HMR.out.mono ?_
  rintro e w1 ⟨a1, n1, c1, hs1, rfl, hlo, hb⟩
  have HP1 := Lib.hid (block_below HP.out hb (by rw [sb]; omega)); have HZ1 := Lib.hid (block_below HZ.out hb (by rw [sb]; omega))
  have HB1 := Lib.hid (below_tr HB.out hb HB.out.size)
  have hs1' := hb.size
  rw [sb] at hs1'
  have HLO := Lib.hid hlo
  have hn1 : n1 = (Mg.lens pm n).length := by rw [← hlo.len, ← hlen, ← lens_runs (by omega)]; simp [lensOf]
  have hn1b : n1 ≤ 64 := by
    rw [hn1, Mg.lens_len (by omega)]
    exact Nat.le_trans (Mg.blkN_le (by omega)) hn
  have HN1 := Lib.hid hn1
  clear hn1
  have sb2 := sb
  clear hlo hb HMR HP HZ HB p0 p1 p2 sb
  go_wp2_with fail
  obtain ⟨wR, hwR⟩ : ∃ W, W = w1.drew := ⟨_, rfl⟩
  have hbR : Below w1.heap.size w1 wR := by rw [hwR]; exact (Below.refl _ _).drew
  have hszR : wR.heap.size = w1.heap.size := by rw [hwR]; rfl
  have HPR := Lib.hid (block_below HP1.out hbR (hlt_of HP1.out)); have HZR := Lib.hid (block_below HZ1.out hbR (hlt_of HZ1.out))
  have HBR := Lib.hid (below_tr HB1.out hbR HB1.out.size)
  have HLR := Lib.hid (HLO.out.same hbR)
  have HLS := Lib.hid HLR.out.ls
  have HPC : Hid (∀ W, Below wR.heap.size wR W → W.cell? ⟨w.heap.size, 0, none⟩ = some (.int .i64 pm) ∧ W.cell? ⟨w.heap.size, 1, none⟩ = some (.int .i64 pw) ∧ W.cell? ⟨w.heap.size, 2, none⟩ = some (.int .i64 pb)) := fun W hb => cells3 (block_below HPR.out hb (hlt_of HPR.out))
  have HTOT : Hid (totL (Mg.runsOf pm L) ≤ 1000) := by
    show _ ≤ _
    rw [totL_srt (Mg.runs_srt (by omega) L)]; omega
  clear HP1 HZ1 HB1 HLO
  refine wp_with_act (fun fr hfr => ?_)
  have hsz : fr.tmps.size = 63 := by rw [hfr]; rfl
  have f0 : fr.eval (.tmp 0) = .slice a n c := by rw [hfr]; rfl
  have f3 : fr.eval (.tmp 3) = .pointer (some ⟨w.heap.size, 0, none⟩) := by rw [hfr]; rfl
  have f6 : fr.eval (.tmp 6) = .slice a1 n1 c1 := by rw [hfr]; rfl
  refine wp_region_held_drew (S := fun _ => True) (by kernel_rfl) trivial (fun _ => ?_)
  rw [← hwR]
  obtain ⟨SL, hSL⟩ : ∃ l : List (Nat × Nat), l = [(0, 12), (1, 13), (2, 14), (3, 15), (4, 16), (5, 17), (6, 18), (7, 19), (8, 20), (9, 21), (10, 22), (11, 23), (12, 7)] := ⟨_, rfl⟩
  obtain ⟨VL, hVL⟩ : ∃ l : List (Nat × Value), l = [(0, .slice a1 n1 c1), (1, .int .i64 n1), (2, .slice a n c), (3, .int .i64 n), (4, .pointer (some ⟨w.heap.size, 2, none⟩)), (5, .int .i64 pb), (6, .int .i64 ((Mg.blkN pb n : Nat) : Int)), (7, .slice a1 n1 c1), (8, .pointer (some ⟨w.heap.size, 2, none⟩)), (9, .int .i64 pb), (10, .int .i64 ((blkS pb (Mg.runsOf pm L) : Nat) : Int)), (11, .agg #[.int .i64 n1, .int .i64 0, .int .i64 ((Mg.blkN pb n : Nat) : Int), .int .i64 ((blkS pb (Mg.runsOf pm L) : Nat) : Int)])] := ⟨_, rfl⟩
  have hN1 : (SL.map Prod.fst).Nodup := by rw [hSL]; decide
  have hN2 : (SL.map Prod.snd).Nodup := by rw [hSL]; decide
  have M0 : (0, 12) ∈ SL := by rw [hSL]; exact (.head _)
  have E12 : ∀ x, (puts fr x SL).eval (.tmp 12) = x 0 := fun x => eval_at SL fr hN2 M0 (by rw [hsz]; decide)
  have M1 : (1, 13) ∈ SL := by rw [hSL]; exact (.tail _ (.head _))
  have E13 : ∀ x, (puts fr x SL).eval (.tmp 13) = x 1 := fun x => eval_at SL fr hN2 M1 (by rw [hsz]; decide)
  have M2 : (2, 14) ∈ SL := by rw [hSL]; exact (.tail _ (.tail _ (.head _)))
  have E14 : ∀ x, (puts fr x SL).eval (.tmp 14) = x 2 := fun x => eval_at SL fr hN2 M2 (by rw [hsz]; decide)
  have M3 : (3, 15) ∈ SL := by rw [hSL]; exact (.tail _ (.tail _ (.tail _ (.head _))))
  have E15 : ∀ x, (puts fr x SL).eval (.tmp 15) = x 3 := fun x => eval_at SL fr hN2 M3 (by rw [hsz]; decide)
  have M4 : (4, 16) ∈ SL := by rw [hSL]; exact (.tail _ (.tail _ (.tail _ (.tail _ (.head _)))))
  have E16 : ∀ x, (puts fr x SL).eval (.tmp 16) = x 4 := fun x => eval_at SL fr hN2 M4 (by rw [hsz]; decide)
  have M5 : (5, 17) ∈ SL := by rw [hSL]; exact (.tail _ (.tail _ (.tail _ (.tail _ (.tail _ (.head _))))))
  have E17 : ∀ x, (puts fr x SL).eval (.tmp 17) = x 5 := fun x => eval_at SL fr hN2 M5 (by rw [hsz]; decide)
  have M6 : (6, 18) ∈ SL := by rw [hSL]; exact (.tail _ (.tail _ (.tail _ (.tail _ (.tail _ (.tail _ (.head _)))))))
  have E18 : ∀ x, (puts fr x SL).eval (.tmp 18) = x 6 := fun x => eval_at SL fr hN2 M6 (by rw [hsz]; decide)
  have M7 : (7, 19) ∈ SL := by rw [hSL]; exact (.tail _ (.tail _ (.tail _ (.tail _ (.tail _ (.tail _ (.tail _ (.head _))))))))
  have E19 : ∀ x, (puts fr x SL).eval (.tmp 19) = x 7 := fun x => eval_at SL fr hN2 M7 (by rw [hsz]; decide)
  have M8 : (8, 20) ∈ SL := by rw [hSL]; exact (.tail _ (.tail _ (.tail _ (.tail _ (.tail _ (.tail _ (.tail _ (.tail _ (.head _)))))))))
  have E20 : ∀ x, (puts fr x SL).eval (.tmp 20) = x 8 := fun x => eval_at SL fr hN2 M8 (by rw [hsz]; decide)
  have M9 : (9, 21) ∈ SL := by rw [hSL]; exact (.tail _ (.tail _ (.tail _ (.tail _ (.tail _ (.tail _ (.tail _ (.tail _ (.tail _ (.head _))))))))))
  have E21 : ∀ x, (puts fr x SL).eval (.tmp 21) = x 9 := fun x => eval_at SL fr hN2 M9 (by rw [hsz]; decide)
  have M10 : (10, 22) ∈ SL := by rw [hSL]; exact (.tail _ (.tail _ (.tail _ (.tail _ (.tail _ (.tail _ (.tail _ (.tail _ (.tail _ (.tail _ (.head _)))))))))))
  have E22 : ∀ x, (puts fr x SL).eval (.tmp 22) = x 10 := fun x => eval_at SL fr hN2 M10 (by rw [hsz]; decide)
  have M11 : (11, 23) ∈ SL := by rw [hSL]; exact (.tail _ (.tail _ (.tail _ (.tail _ (.tail _ (.tail _ (.tail _ (.tail _ (.tail _ (.tail _ (.tail _ (.head _))))))))))))
  have E23 : ∀ x, (puts fr x SL).eval (.tmp 23) = x 11 := fun x => eval_at SL fr hN2 M11 (by rw [hsz]; decide)
  have M12 : (12, 7) ∈ SL := by rw [hSL]; exact (.tail _ (.tail _ (.tail _ (.tail _ (.tail _ (.tail _ (.tail _ (.tail _ (.tail _ (.tail _ (.tail _ (.tail _ (.head _)))))))))))))
  have E7 : ∀ x, (puts fr x SL).eval (.tmp 7) = x 12 := fun x => eval_at SL fr hN2 M12 (by rw [hsz]; decide)
  have E0 : ∀ x, (puts fr x SL).eval (.tmp 0) = .slice a n c := fun x => (eval_far SL fr (by rw [hSL]; decide)).trans f0
  have E3 : ∀ x, (puts fr x SL).eval (.tmp 3) = .pointer (some ⟨w.heap.size, 0, none⟩) := fun x => (eval_far SL fr (by rw [hSL]; decide)).trans f3
  have E6 : ∀ x, (puts fr x SL).eval (.tmp 6) = .slice a1 n1 c1 := fun x => (eval_far SL fr (by rw [hSL]; decide)).trans f6
  have VM0 : (0, .slice a1 n1 c1) ∈ VL := by rw [hVL]; exact (.head _)
  have VU0 : ∀ pp ∈ VL, pp.1 = 0 → pp.2 = .slice a1 n1 c1 := by rw [hVL]; exact (List.forall_mem_cons.2 ⟨(fun _ => rfl), (List.forall_mem_cons.2 ⟨(fun e => absurd (show (1 : Nat) = 0 from e) (by decide)), (List.forall_mem_cons.2 ⟨(fun e => absurd (show (2 : Nat) = 0 from e) (by decide)), (List.forall_mem_cons.2 ⟨(fun e => absurd (show (3 : Nat) = 0 from e) (by decide)), (List.forall_mem_cons.2 ⟨(fun e => absurd (show (4 : Nat) = 0 from e) (by decide)), (List.forall_mem_cons.2 ⟨(fun e => absurd (show (5 : Nat) = 0 from e) (by decide)), (List.forall_mem_cons.2 ⟨(fun e => absurd (show (6 : Nat) = 0 from e) (by decide)), (List.forall_mem_cons.2 ⟨(fun e => absurd (show (7 : Nat) = 0 from e) (by decide)), (List.forall_mem_cons.2 ⟨(fun e => absurd (show (8 : Nat) = 0 from e) (by decide)), (List.forall_mem_cons.2 ⟨(fun e => absurd (show (9 : Nat) = 0 from e) (by decide)), (List.forall_mem_cons.2 ⟨(fun e => absurd (show (10 : Nat) = 0 from e) (by decide)), (List.forall_mem_cons.2 ⟨(fun e => absurd (show (11 : Nat) = 0 from e) (by decide)), (fun _ h => nomatch h)⟩)⟩)⟩)⟩)⟩)⟩)⟩)⟩)⟩)⟩)⟩)⟩)
  have VM1 : (1, .int .i64 n1) ∈ VL := by rw [hVL]; exact (.tail _ (.head _))
  have VU1 : ∀ pp ∈ VL, pp.1 = 1 → pp.2 = .int .i64 n1 := by rw [hVL]; exact (List.forall_mem_cons.2 ⟨(fun e => absurd (show (0 : Nat) = 1 from e) (by decide)), (List.forall_mem_cons.2 ⟨(fun _ => rfl), (List.forall_mem_cons.2 ⟨(fun e => absurd (show (2 : Nat) = 1 from e) (by decide)), (List.forall_mem_cons.2 ⟨(fun e => absurd (show (3 : Nat) = 1 from e) (by decide)), (List.forall_mem_cons.2 ⟨(fun e => absurd (show (4 : Nat) = 1 from e) (by decide)), (List.forall_mem_cons.2 ⟨(fun e => absurd (show (5 : Nat) = 1 from e) (by decide)), (List.forall_mem_cons.2 ⟨(fun e => absurd (show (6 : Nat) = 1 from e) (by decide)), (List.forall_mem_cons.2 ⟨(fun e => absurd (show (7 : Nat) = 1 from e) (by decide)), (List.forall_mem_cons.2 ⟨(fun e => absurd (show (8 : Nat) = 1 from e) (by decide)), (List.forall_mem_cons.2 ⟨(fun e => absurd (show (9 : Nat) = 1 from e) (by decide)), (List.forall_mem_cons.2 ⟨(fun e => absurd (show (10 : Nat) = 1 from e) (by decide)), (List.forall_mem_cons.2 ⟨(fun e => absurd (show (11 : Nat) = 1 from e) (by decide)), (fun _ h => nomatch h)⟩)⟩)⟩)⟩)⟩)⟩)⟩)⟩)⟩)⟩)⟩)⟩)
  have VM2 : (2, .slice a n c) ∈ VL := by rw [hVL]; exact (.tail _ (.tail _ (.head _)))
  have VU2 : ∀ pp ∈ VL, pp.1 = 2 → pp.2 = .slice a n c := by rw [hVL]; exact (List.forall_mem_cons.2 ⟨(fun e => absurd (show (0 : Nat) = 2 from e) (by decide)), (List.forall_mem_cons.2 ⟨(fun e => absurd (show (1 : Nat) = 2 from e) (by decide)), (List.forall_mem_cons.2 ⟨(fun _ => rfl), (List.forall_mem_cons.2 ⟨(fun e => absurd (show (3 : Nat) = 2 from e) (by decide)), (List.forall_mem_cons.2 ⟨(fun e => absurd (show (4 : Nat) = 2 from e) (by decide)), (List.forall_mem_cons.2 ⟨(fun e => absurd (show (5 : Nat) = 2 from e) (by decide)), (List.forall_mem_cons.2 ⟨(fun e => absurd (show (6 : Nat) = 2 from e) (by decide)), (List.forall_mem_cons.2 ⟨(fun e => absurd (show (7 : Nat) = 2 from e) (by decide)), (List.forall_mem_cons.2 ⟨(fun e => absurd (show (8 : Nat) = 2 from e) (by decide)), (List.forall_mem_cons.2 ⟨(fun e => absurd (show (9 : Nat) = 2 from e) (by decide)), (List.forall_mem_cons.2 ⟨(fun e => absurd (show (10 : Nat) = 2 from e) (by decide)), (List.forall_mem_cons.2 ⟨(fun e => absurd (show (11 : Nat) = 2 from e) (by decide)), (fun _ h => nomatch h)⟩)⟩)⟩)⟩)⟩)⟩)⟩)⟩)⟩)⟩)⟩)⟩)
  have VM3 : (3, .int .i64 n) ∈ VL := by rw [hVL]; exact (.tail _ (.tail _ (.tail _ (.head _))))
  have VU3 : ∀ pp ∈ VL, pp.1 = 3 → pp.2 = .int .i64 n := by rw [hVL]; exact (List.forall_mem_cons.2 ⟨(fun e => absurd (show (0 : Nat) = 3 from e) (by decide)), (List.forall_mem_cons.2 ⟨(fun e => absurd (show (1 : Nat) = 3 from e) (by decide)), (List.forall_mem_cons.2 ⟨(fun e => absurd (show (2 : Nat) = 3 from e) (by decide)), (List.forall_mem_cons.2 ⟨(fun _ => rfl), (List.forall_mem_cons.2 ⟨(fun e => absurd (show (4 : Nat) = 3 from e) (by decide)), (List.forall_mem_cons.2 ⟨(fun e => absurd (show (5 : Nat) = 3 from e) (by decide)), (List.forall_mem_cons.2 ⟨(fun e => absurd (show (6 : Nat) = 3 from e) (by decide)), (List.forall_mem_cons.2 ⟨(fun e => absurd (show (7 : Nat) = 3 from e) (by decide)), (List.forall_mem_cons.2 ⟨(fun e => absurd (show (8 : Nat) = 3 from e) (by decide)), (List.forall_mem_cons.2 ⟨(fun e => absurd (show (9 : Nat) = 3 from e) (by decide)), (List.forall_mem_cons.2 ⟨(fun e => absurd (show (10 : Nat) = 3 from e) (by decide)), (List.forall_mem_cons.2 ⟨(fun e => absurd (show (11 : Nat) = 3 from e) (by decide)), (fun _ h => nomatch h)⟩)⟩)⟩)⟩)⟩)⟩)⟩)⟩)⟩)⟩)⟩)⟩)
  have VM4 : (4, .pointer (some ⟨w.heap.size, 2, none⟩)) ∈ VL := by rw [hVL]; exact (.tail _ (.tail _ (.tail _ (.tail _ (.head _)))))
  have VU4 : ∀ pp ∈ VL, pp.1 = 4 → pp.2 = .pointer (some ⟨w.heap.size, 2, none⟩) := by rw [hVL]; exact (List.forall_mem_cons.2 ⟨(fun e => absurd (show (0 : Nat) = 4 from e) (by decide)), (List.forall_mem_cons.2 ⟨(fun e => absurd (show (1 : Nat) = 4 from e) (by decide)), (List.forall_mem_cons.2 ⟨(fun e => absurd (show (2 : Nat) = 4 from e) (by decide)), (List.forall_mem_cons.2 ⟨(fun e => absurd (show (3 : Nat) = 4 from e) (by decide)), (List.forall_mem_cons.2 ⟨(fun _ => rfl), (List.forall_mem_cons.2 ⟨(fun e => absurd (show (5 : Nat) = 4 from e) (by decide)), (List.forall_mem_cons.2 ⟨(fun e => absurd (show (6 : Nat) = 4 from e) (by decide)), (List.forall_mem_cons.2 ⟨(fun e => absurd (show (7 : Nat) = 4 from e) (by decide)), (List.forall_mem_cons.2 ⟨(fun e => absurd (show (8 : Nat) = 4 from e) (by decide)), (List.forall_mem_cons.2 ⟨(fun e => absurd (show (9 : Nat) = 4 from e) (by decide)), (List.forall_mem_cons.2 ⟨(fun e => absurd (show (10 : Nat) = 4 from e) (by decide)), (List.forall_mem_cons.2 ⟨(fun e => absurd (show (11 : Nat) = 4 from e) (by decide)), (fun _ h => nomatch h)⟩)⟩)⟩)⟩)⟩)⟩)⟩)⟩)⟩)⟩)⟩)⟩)
  have VM5 : (5, .int .i64 pb) ∈ VL := by rw [hVL]; exact (.tail _ (.tail _ (.tail _ (.tail _ (.tail _ (.head _))))))
  have VU5 : ∀ pp ∈ VL, pp.1 = 5 → pp.2 = .int .i64 pb := by rw [hVL]; exact (List.forall_mem_cons.2 ⟨(fun e => absurd (show (0 : Nat) = 5 from e) (by decide)), (List.forall_mem_cons.2 ⟨(fun e => absurd (show (1 : Nat) = 5 from e) (by decide)), (List.forall_mem_cons.2 ⟨(fun e => absurd (show (2 : Nat) = 5 from e) (by decide)), (List.forall_mem_cons.2 ⟨(fun e => absurd (show (3 : Nat) = 5 from e) (by decide)), (List.forall_mem_cons.2 ⟨(fun e => absurd (show (4 : Nat) = 5 from e) (by decide)), (List.forall_mem_cons.2 ⟨(fun _ => rfl), (List.forall_mem_cons.2 ⟨(fun e => absurd (show (6 : Nat) = 5 from e) (by decide)), (List.forall_mem_cons.2 ⟨(fun e => absurd (show (7 : Nat) = 5 from e) (by decide)), (List.forall_mem_cons.2 ⟨(fun e => absurd (show (8 : Nat) = 5 from e) (by decide)), (List.forall_mem_cons.2 ⟨(fun e => absurd (show (9 : Nat) = 5 from e) (by decide)), (List.forall_mem_cons.2 ⟨(fun e => absurd (show (10 : Nat) = 5 from e) (by decide)), (List.forall_mem_cons.2 ⟨(fun e => absurd (show (11 : Nat) = 5 from e) (by decide)), (fun _ h => nomatch h)⟩)⟩)⟩)⟩)⟩)⟩)⟩)⟩)⟩)⟩)⟩)⟩)
  have VM6 : (6, .int .i64 ((Mg.blkN pb n : Nat) : Int)) ∈ VL := by rw [hVL]; exact (.tail _ (.tail _ (.tail _ (.tail _ (.tail _ (.tail _ (.head _)))))))
  have VU6 : ∀ pp ∈ VL, pp.1 = 6 → pp.2 = .int .i64 ((Mg.blkN pb n : Nat) : Int) := by rw [hVL]; exact (List.forall_mem_cons.2 ⟨(fun e => absurd (show (0 : Nat) = 6 from e) (by decide)), (List.forall_mem_cons.2 ⟨(fun e => absurd (show (1 : Nat) = 6 from e) (by decide)), (List.forall_mem_cons.2 ⟨(fun e => absurd (show (2 : Nat) = 6 from e) (by decide)), (List.forall_mem_cons.2 ⟨(fun e => absurd (show (3 : Nat) = 6 from e) (by decide)), (List.forall_mem_cons.2 ⟨(fun e => absurd (show (4 : Nat) = 6 from e) (by decide)), (List.forall_mem_cons.2 ⟨(fun e => absurd (show (5 : Nat) = 6 from e) (by decide)), (List.forall_mem_cons.2 ⟨(fun _ => rfl), (List.forall_mem_cons.2 ⟨(fun e => absurd (show (7 : Nat) = 6 from e) (by decide)), (List.forall_mem_cons.2 ⟨(fun e => absurd (show (8 : Nat) = 6 from e) (by decide)), (List.forall_mem_cons.2 ⟨(fun e => absurd (show (9 : Nat) = 6 from e) (by decide)), (List.forall_mem_cons.2 ⟨(fun e => absurd (show (10 : Nat) = 6 from e) (by decide)), (List.forall_mem_cons.2 ⟨(fun e => absurd (show (11 : Nat) = 6 from e) (by decide)), (fun _ h => nomatch h)⟩)⟩)⟩)⟩)⟩)⟩)⟩)⟩)⟩)⟩)⟩)⟩)
  have VM7 : (7, .slice a1 n1 c1) ∈ VL := by rw [hVL]; exact (.tail _ (.tail _ (.tail _ (.tail _ (.tail _ (.tail _ (.tail _ (.head _))))))))
  have VU7 : ∀ pp ∈ VL, pp.1 = 7 → pp.2 = .slice a1 n1 c1 := by rw [hVL]; exact (List.forall_mem_cons.2 ⟨(fun e => absurd (show (0 : Nat) = 7 from e) (by decide)), (List.forall_mem_cons.2 ⟨(fun e => absurd (show (1 : Nat) = 7 from e) (by decide)), (List.forall_mem_cons.2 ⟨(fun e => absurd (show (2 : Nat) = 7 from e) (by decide)), (List.forall_mem_cons.2 ⟨(fun e => absurd (show (3 : Nat) = 7 from e) (by decide)), (List.forall_mem_cons.2 ⟨(fun e => absurd (show (4 : Nat) = 7 from e) (by decide)), (List.forall_mem_cons.2 ⟨(fun e => absurd (show (5 : Nat) = 7 from e) (by decide)), (List.forall_mem_cons.2 ⟨(fun e => absurd (show (6 : Nat) = 7 from e) (by decide)), (List.forall_mem_cons.2 ⟨(fun _ => rfl), (List.forall_mem_cons.2 ⟨(fun e => absurd (show (8 : Nat) = 7 from e) (by decide)), (List.forall_mem_cons.2 ⟨(fun e => absurd (show (9 : Nat) = 7 from e) (by decide)), (List.forall_mem_cons.2 ⟨(fun e => absurd (show (10 : Nat) = 7 from e) (by decide)), (List.forall_mem_cons.2 ⟨(fun e => absurd (show (11 : Nat) = 7 from e) (by decide)), (fun _ h => nomatch h)⟩)⟩)⟩)⟩)⟩)⟩)⟩)⟩)⟩)⟩)⟩)⟩)
  have VM8 : (8, .pointer (some ⟨w.heap.size, 2, none⟩)) ∈ VL := by rw [hVL]; exact (.tail _ (.tail _ (.tail _ (.tail _ (.tail _ (.tail _ (.tail _ (.tail _ (.head _)))))))))
  have VU8 : ∀ pp ∈ VL, pp.1 = 8 → pp.2 = .pointer (some ⟨w.heap.size, 2, none⟩) := by rw [hVL]; exact (List.forall_mem_cons.2 ⟨(fun e => absurd (show (0 : Nat) = 8 from e) (by decide)), (List.forall_mem_cons.2 ⟨(fun e => absurd (show (1 : Nat) = 8 from e) (by decide)), (List.forall_mem_cons.2 ⟨(fun e => absurd (show (2 : Nat) = 8 from e) (by decide)), (List.forall_mem_cons.2 ⟨(fun e => absurd (show (3 : Nat) = 8 from e) (by decide)), (List.forall_mem_cons.2 ⟨(fun e => absurd (show (4 : Nat) = 8 from e) (by decide)), (List.forall_mem_cons.2 ⟨(fun e => absurd (show (5 : Nat) = 8 from e) (by decide)), (List.forall_mem_cons.2 ⟨(fun e => absurd (show (6 : Nat) = 8 from e) (by decide)), (List.forall_mem_cons.2 ⟨(fun e => absurd (show (7 : Nat) = 8 from e) (by decide)), (List.forall_mem_cons.2 ⟨(fun _ => rfl), (List.forall_mem_cons.2 ⟨(fun e => absurd (show (9 : Nat) = 8 from e) (by decide)), (List.forall_mem_cons.2 ⟨(fun e => absurd (show (10 : Nat) = 8 from e) (by decide)), (List.forall_mem_cons.2 ⟨(fun e => absurd (show (11 : Nat) = 8 from e) (by decide)), (fun _ h => nomatch h)⟩)⟩)⟩)⟩)⟩)⟩)⟩)⟩)⟩)⟩)⟩)⟩)
  have VM9 : (9, .int .i64 pb) ∈ VL := by rw [hVL]; exact (.tail _ (.tail _ (.tail _ (.tail _ (.tail _ (.tail _ (.tail _ (.tail _ (.tail _ (.head _))))))))))
  have VU9 : ∀ pp ∈ VL, pp.1 = 9 → pp.2 = .int .i64 pb := by rw [hVL]; exact (List.forall_mem_cons.2 ⟨(fun e => absurd (show (0 : Nat) = 9 from e) (by decide)), (List.forall_mem_cons.2 ⟨(fun e => absurd (show (1 : Nat) = 9 from e) (by decide)), (List.forall_mem_cons.2 ⟨(fun e => absurd (show (2 : Nat) = 9 from e) (by decide)), (List.forall_mem_cons.2 ⟨(fun e => absurd (show (3 : Nat) = 9 from e) (by decide)), (List.forall_mem_cons.2 ⟨(fun e => absurd (show (4 : Nat) = 9 from e) (by decide)), (List.forall_mem_cons.2 ⟨(fun e => absurd (show (5 : Nat) = 9 from e) (by decide)), (List.forall_mem_cons.2 ⟨(fun e => absurd (show (6 : Nat) = 9 from e) (by decide)), (List.forall_mem_cons.2 ⟨(fun e => absurd (show (7 : Nat) = 9 from e) (by decide)), (List.forall_mem_cons.2 ⟨(fun e => absurd (show (8 : Nat) = 9 from e) (by decide)), (List.forall_mem_cons.2 ⟨(fun _ => rfl), (List.forall_mem_cons.2 ⟨(fun e => absurd (show (10 : Nat) = 9 from e) (by decide)), (List.forall_mem_cons.2 ⟨(fun e => absurd (show (11 : Nat) = 9 from e) (by decide)), (fun _ h => nomatch h)⟩)⟩)⟩)⟩)⟩)⟩)⟩)⟩)⟩)⟩)⟩)⟩)
  have VM10 : (10, .int .i64 ((blkS pb (Mg.runsOf pm L) : Nat) : Int)) ∈ VL := by rw [hVL]; exact (.tail _ (.tail _ (.tail _ (.tail _ (.tail _ (.tail _ (.tail _ (.tail _ (.tail _ (.tail _ (.head _)))))))))))
  have VU10 : ∀ pp ∈ VL, pp.1 = 10 → pp.2 = .int .i64 ((blkS pb (Mg.runsOf pm L) : Nat) : Int) := by rw [hVL]; exact (List.forall_mem_cons.2 ⟨(fun e => absurd (show (0 : Nat) = 10 from e) (by decide)), (List.forall_mem_cons.2 ⟨(fun e => absurd (show (1 : Nat) = 10 from e) (by decide)), (List.forall_mem_cons.2 ⟨(fun e => absurd (show (2 : Nat) = 10 from e) (by decide)), (List.forall_mem_cons.2 ⟨(fun e => absurd (show (3 : Nat) = 10 from e) (by decide)), (List.forall_mem_cons.2 ⟨(fun e => absurd (show (4 : Nat) = 10 from e) (by decide)), (List.forall_mem_cons.2 ⟨(fun e => absurd (show (5 : Nat) = 10 from e) (by decide)), (List.forall_mem_cons.2 ⟨(fun e => absurd (show (6 : Nat) = 10 from e) (by decide)), (List.forall_mem_cons.2 ⟨(fun e => absurd (show (7 : Nat) = 10 from e) (by decide)), (List.forall_mem_cons.2 ⟨(fun e => absurd (show (8 : Nat) = 10 from e) (by decide)), (List.forall_mem_cons.2 ⟨(fun e => absurd (show (9 : Nat) = 10 from e) (by decide)), (List.forall_mem_cons.2 ⟨(fun _ => rfl), (List.forall_mem_cons.2 ⟨(fun e => absurd (show (11 : Nat) = 10 from e) (by decide)), (fun _ h => nomatch h)⟩)⟩)⟩)⟩)⟩)⟩)⟩)⟩)⟩)⟩)⟩)⟩)
  have VM11 : (11, .agg #[.int .i64 n1, .int .i64 0, .int .i64 ((Mg.blkN pb n : Nat) : Int), .int .i64 ((blkS pb (Mg.runsOf pm L) : Nat) : Int)]) ∈ VL := by rw [hVL]; exact (.tail _ (.tail _ (.tail _ (.tail _ (.tail _ (.tail _ (.tail _ (.tail _ (.tail _ (.tail _ (.tail _ (.head _))))))))))))
  have VU11 : ∀ pp ∈ VL, pp.1 = 11 → pp.2 = .agg #[.int .i64 n1, .int .i64 0, .int .i64 ((Mg.blkN pb n : Nat) : Int), .int .i64 ((blkS pb (Mg.runsOf pm L) : Nat) : Int)] := by rw [hVL]; exact (List.forall_mem_cons.2 ⟨(fun e => absurd (show (0 : Nat) = 11 from e) (by decide)), (List.forall_mem_cons.2 ⟨(fun e => absurd (show (1 : Nat) = 11 from e) (by decide)), (List.forall_mem_cons.2 ⟨(fun e => absurd (show (2 : Nat) = 11 from e) (by decide)), (List.forall_mem_cons.2 ⟨(fun e => absurd (show (3 : Nat) = 11 from e) (by decide)), (List.forall_mem_cons.2 ⟨(fun e => absurd (show (4 : Nat) = 11 from e) (by decide)), (List.forall_mem_cons.2 ⟨(fun e => absurd (show (5 : Nat) = 11 from e) (by decide)), (List.forall_mem_cons.2 ⟨(fun e => absurd (show (6 : Nat) = 11 from e) (by decide)), (List.forall_mem_cons.2 ⟨(fun e => absurd (show (7 : Nat) = 11 from e) (by decide)), (List.forall_mem_cons.2 ⟨(fun e => absurd (show (8 : Nat) = 11 from e) (by decide)), (List.forall_mem_cons.2 ⟨(fun e => absurd (show (9 : Nat) = 11 from e) (by decide)), (List.forall_mem_cons.2 ⟨(fun e => absurd (show (10 : Nat) = 11 from e) (by decide)), (List.forall_mem_cons.2 ⟨(fun _ => rfl), (fun _ h => nomatch h)⟩)⟩)⟩)⟩)⟩)⟩)⟩)⟩)⟩)⟩)⟩)⟩)
  have VN12 : ∀ pp ∈ VL, pp.1 ≠ 12 := by rw [hVL]; exact (List.forall_mem_cons.2 ⟨(show (0 : Nat) ≠ 12 by decide), (List.forall_mem_cons.2 ⟨(show (1 : Nat) ≠ 12 by decide), (List.forall_mem_cons.2 ⟨(show (2 : Nat) ≠ 12 by decide), (List.forall_mem_cons.2 ⟨(show (3 : Nat) ≠ 12 by decide), (List.forall_mem_cons.2 ⟨(show (4 : Nat) ≠ 12 by decide), (List.forall_mem_cons.2 ⟨(show (5 : Nat) ≠ 12 by decide), (List.forall_mem_cons.2 ⟨(show (6 : Nat) ≠ 12 by decide), (List.forall_mem_cons.2 ⟨(show (7 : Nat) ≠ 12 by decide), (List.forall_mem_cons.2 ⟨(show (8 : Nat) ≠ 12 by decide), (List.forall_mem_cons.2 ⟨(show (9 : Nat) ≠ 12 by decide), (List.forall_mem_cons.2 ⟨(show (10 : Nat) ≠ 12 by decide), (List.forall_mem_cons.2 ⟨(show (11 : Nat) ≠ 12 by decide), (fun _ h => nomatch h)⟩)⟩)⟩)⟩)⟩)⟩)⟩)⟩)⟩)⟩)⟩)⟩)
  have VN13 : ∀ pp ∈ VL, pp.1 ≠ 13 := by rw [hVL]; exact (List.forall_mem_cons.2 ⟨(show (0 : Nat) ≠ 13 by decide), (List.forall_mem_cons.2 ⟨(show (1 : Nat) ≠ 13 by decide), (List.forall_mem_cons.2 ⟨(show (2 : Nat) ≠ 13 by decide), (List.forall_mem_cons.2 ⟨(show (3 : Nat) ≠ 13 by decide), (List.forall_mem_cons.2 ⟨(show (4 : Nat) ≠ 13 by decide), (List.forall_mem_cons.2 ⟨(show (5 : Nat) ≠ 13 by decide), (List.forall_mem_cons.2 ⟨(show (6 : Nat) ≠ 13 by decide), (List.forall_mem_cons.2 ⟨(show (7 : Nat) ≠ 13 by decide), (List.forall_mem_cons.2 ⟨(show (8 : Nat) ≠ 13 by decide), (List.forall_mem_cons.2 ⟨(show (9 : Nat) ≠ 13 by decide), (List.forall_mem_cons.2 ⟨(show (10 : Nat) ≠ 13 by decide), (List.forall_mem_cons.2 ⟨(show (11 : Nat) ≠ 13 by decide), (fun _ h => nomatch h)⟩)⟩)⟩)⟩)⟩)⟩)⟩)⟩)⟩)⟩)⟩)⟩)
  have hst : fr = puts fr (x0 fr SL) SL := puts_x0 fr SL (by rw [hSL]; decide)
  clear hVL
  refine wpAnyH_inv2 (JV fr SL VL (KA wR 12 13 30 z4 #[.int .i64 n1, .int .i64 0, .int .i64 ((Mg.blkN pb n : Nat) : Int), .int .i64 ((blkS pb (Mg.runsOf pm L) : Nat) : Int)])) (by kernel_rfl) ?steps ?done _ _ ?start
  case start => exact ⟨_, hst, VOK.start _ _ _, KA.start _⟩
  case steps =>
    clear hst hSL hfr
    refine ⟨?_, ?_, ?_, ?_, ?_, ?_, ?_, ?_, ?_, ?_, ?_, ?_, ?_, ?_, trivial⟩
    all_goals
      rintro LB ac w' hs hu haf hcl ⟨x, rfl, hv, hk⟩ K hK
    · have r6 := E6 x
      rw [if_pos (by rfl)]
      refine wp_val (v := .slice a1 n1 c1) ?_ (hK _ _ (jv_set (by rw [hs]; decide) (x := upd x 0 _) (puts_set SL fr hN1 hN2 M0) (hv.val 0 _ VU0) (hk.quiet 0 _ (by decide) (by decide))))
      generalize (puts fr x SL).eval = ρ at r6 ⊢; go_simp
    · have r12 := (E12 x).trans (hv _ VM0 (haf ⟨0, .data⟩ (by simp) rfl))
      rw [if_pos (by rfl)]
      refine wp_val (v := .int .i64 n1) ?_ (hK _ _ (jv_set (by rw [hs]; decide) (x := upd x 1 _) (puts_set SL fr hN1 hN2 M1) (hv.val 1 _ VU1) (hk.quiet 1 _ (by decide) (by decide))))
      generalize (puts fr x SL).eval = ρ at r12 ⊢; go_simp
    · have r0 := E0 x
      rw [if_pos (by rfl)]
      refine wp_val (v := .slice a n c) ?_ (hK _ _ (jv_set (by rw [hs]; decide) (x := upd x 2 _) (puts_set SL fr hN1 hN2 M2) (hv.val 2 _ VU2) (hk.quiet 2 _ (by decide) (by decide))))
      generalize (puts fr x SL).eval = ρ at r0 ⊢; go_simp
    · have r14 := (E14 x).trans (hv _ VM2 (haf ⟨2, .data⟩ (by simp) rfl))
      rw [if_pos (by rfl)]
      refine wp_val (v := .int .i64 n) ?_ (hK _ _ (jv_set (by rw [hs]; decide) (x := upd x 3 _) (puts_set SL fr hN1 hN2 M3) (hv.val 3 _ VU3) (hk.quiet 3 _ (by decide) (by decide))))
      generalize (puts fr x SL).eval = ρ at r14 ⊢; go_simp
    · have r3 := E3 x
      obtain ⟨p0, p1, p2⟩ := HPC.out w' hk.1
      rw [if_pos (by rfl)]
      refine wp_val (v := .pointer (some ⟨w.heap.size, 2, none⟩)) ?_ (hK _ _ (jv_set (by rw [hs]; decide) (x := upd x 4 _) (puts_set SL fr hN1 hN2 M4) (hv.val 4 _ VU4) (hk.quiet 4 _ (by decide) (by decide))))
      generalize (puts fr x SL).eval = ρ at r3 ⊢; go_simp
    · have r16 := (E16 x).trans (hv _ VM4 (haf ⟨4, .data⟩ (by simp) rfl))
      obtain ⟨p0, p1, p2⟩ := HPC.out w' hk.1
      rw [if_pos (by rfl)]
      refine wp_val (v := .int .i64 pb) ?_ (hK _ _ (jv_set (by rw [hs]; decide) (x := upd x 5 _) (puts_set SL fr hN1 hN2 M5) (hv.val 5 _ VU5) (hk.quiet 5 _ (by decide) (by decide))))
      generalize (puts fr x SL).eval = ρ at r16 ⊢; go_simp
    · have r15 := (E15 x).trans (hv _ VM3 (haf ⟨3, .data⟩ (by simp) rfl))
      have r17 := (E17 x).trans (hv _ VM5 (haf ⟨5, .data⟩ (by simp) rfl))
      rw [if_pos (by rfl)]
      refine wp_callv (v := .int .i64 ((Mg.blkN pb n : Nat) : Int)) (G := fun w2 => Below w'.heap.size w' w2) ?_ (l17Blocks_any n pb w' hpb0 (by omega) (by omega)) (fun e w2 h => ⟨h.1, by rw [← h.2]; exact Below.refl _ _⟩) (fun w2 hg => ?_)
      · rw [execOp_call_go]; generalize (puts fr x SL).eval = ρ at r15 r17 ⊢; go_simp
      · exact hK _ _ (jv_set (by rw [hs]; decide) (x := upd x 6 _) (puts_set SL fr hN1 hN2 M6) (hv.val 6 _ VU6) (hk.call hg 6 _ (by decide) (by decide)))
    · have r6 := E6 x
      obtain ⟨p0, p1, p2⟩ := HPC.out w' hk.1
      rw [if_pos (by rfl)]
      refine wp_val (v := .slice a1 n1 c1) ?_ (hK _ _ (jv_set (by rw [hs]; decide) (x := upd x 7 _) (puts_set SL fr hN1 hN2 M7) (hv.val 7 _ VU7) (hk.quiet 7 _ (by decide) (by decide))))
      generalize (puts fr x SL).eval = ρ at r6 ⊢; go_simp
    · have r3 := E3 x
      obtain ⟨p0, p1, p2⟩ := HPC.out w' hk.1
      rw [if_pos (by rfl)]
      refine wp_val (v := .pointer (some ⟨w.heap.size, 2, none⟩)) ?_ (hK _ _ (jv_set (by rw [hs]; decide) (x := upd x 8 _) (puts_set SL fr hN1 hN2 M8) (hv.val 8 _ VU8) (hk.quiet 8 _ (by decide) (by decide))))
      generalize (puts fr x SL).eval = ρ at r3 ⊢; go_simp
    · have r20 := (E20 x).trans (hv _ VM8 (haf ⟨8, .data⟩ (by simp) rfl))
      obtain ⟨p0, p1, p2⟩ := HPC.out w' hk.1
      rw [if_pos (by rfl)]
      refine wp_val (v := .int .i64 pb) ?_ (hK _ _ (jv_set (by rw [hs]; decide) (x := upd x 9 _) (puts_set SL fr hN1 hN2 M9) (hv.val 9 _ VU9) (hk.quiet 9 _ (by decide) (by decide))))
      generalize (puts fr x SL).eval = ρ at r20 ⊢; go_simp
    · have r19 := (E19 x).trans (hv _ VM7 (haf ⟨7, .data⟩ (by simp) rfl))
      have r21 := (E21 x).trans (hv _ VM9 (haf ⟨9, .data⟩ (by simp) rfl))
      rw [if_pos (by rfl)]
      refine wp_callv (v := .int .i64 ((blkS pb (Mg.runsOf pm L) : Nat) : Int)) (G := fun w2 => Below w'.heap.size w' w2) ?_ (l17RunBlocks_any pb a1 n1 c1 (Mg.runsOf pm L) w' hpb0 (by omega) (by omega) HTOT.out (HLS.out.same hk.1)) (fun e w2 h => ⟨h.1, by rw [← h.2]; exact Below.refl _ _⟩) (fun w2 hg => ?_)
      · rw [execOp_call_go]; generalize (puts fr x SL).eval = ρ at r19 r21 ⊢; go_simp
      · exact hK _ _ (jv_set (by rw [hs]; decide) (x := upd x 10 _) (puts_set SL fr hN1 hN2 M10) (hv.val 10 _ VU10) (hk.call hg 10 _ (by decide) (by decide)))
    · have r13 := (E13 x).trans (hv _ VM1 (haf ⟨1, .data⟩ (by simp) rfl))
      have r18 := (E18 x).trans (hv _ VM6 (haf ⟨6, .data⟩ (by simp) rfl))
      have r22 := (E22 x).trans (hv _ VM10 (haf ⟨10, .data⟩ (by simp) rfl))
      rw [if_pos (by rfl)]
      refine wp_val (v := .agg #[.int .i64 n1, .int .i64 0, .int .i64 ((Mg.blkN pb n : Nat) : Int), .int .i64 ((blkS pb (Mg.runsOf pm L) : Nat) : Int)]) ?_ (hK _ _ (jv_set (by rw [hs]; decide) (x := upd x 11 _) (puts_set SL fr hN1 hN2 M11) (hv.val 11 _ VU11) (hk.quiet 11 _ (by decide) (by decide))))
      generalize (puts fr x SL).eval = ρ at r13 r18 r22 ⊢; go_simp
    · rw [if_pos (by rfl)]
      refine wp_val (v := .pointer (some ⟨w'.heap.size, 0, none⟩)) (w' := w'.alloc (.cells z4 30)) ?_ (hK _ _ (jv_set (by rw [hs]; decide) (x := upd x 12 _) (puts_set SL fr hN1 hN2 M12) (hv.other 12 _ VN12) (hk.alloc hu (by decide))))
      go_simp
    · have r23 := (E23 x).trans (hv _ VM11 (haf ⟨11, .data⟩ (by simp) rfl))
      rw [if_pos (by rfl)]
      have hal : LB.getD 12 false = true := haf ⟨12, .data⟩ (by simp) rfl
      obtain ⟨T, eT, g1, g2, g3, g4⟩ := hk.2.1 hal
      have hh := g3 hu
      refine wp_store_row _ _ _ rfl T #[.int .i64 n1, .int .i64 0, .int .i64 ((Mg.blkN pb n : Nat) : Int), .int .i64 ((blkS pb (Mg.runsOf pm L) : Nat) : Int)] ((E7 x).trans eT) r23 _ _ hh (by kernel_rfl) rfl (by simp [Value.oneCell']) ?_
      exact hK _ _ (jv_set (by rw [hs]; decide) (x := x) rfl (hv.none 13 VN13) (hk.store hal (by decide) eT hh))
  case done =>
    rintro LB ac w2 hall ⟨x, rfl, hv, hk⟩
    have v0 : x 0 = .slice a1 n1 c1 := hv _ VM0 (hall 0 (by decide))
    have v1 : x 1 = .int .i64 n1 := hv _ VM1 (hall 1 (by decide))
    have v2 : x 2 = .slice a n c := hv _ VM2 (hall 2 (by decide))
    have v3 : x 3 = .int .i64 n := hv _ VM3 (hall 3 (by decide))
    have v4 : x 4 = .pointer (some ⟨w.heap.size, 2, none⟩) := hv _ VM4 (hall 4 (by decide))
    have v5 : x 5 = .int .i64 pb := hv _ VM5 (hall 5 (by decide))
    have v6 : x 6 = .int .i64 ((Mg.blkN pb n : Nat) : Int) := hv _ VM6 (hall 6 (by decide))
    have v7 : x 7 = .slice a1 n1 c1 := hv _ VM7 (hall 7 (by decide))
    have v8 : x 8 = .pointer (some ⟨w.heap.size, 2, none⟩) := hv _ VM8 (hall 8 (by decide))
    have v9 : x 9 = .int .i64 pb := hv _ VM9 (hall 9 (by decide))
    have v10 : x 10 = .int .i64 ((blkS pb (Mg.runsOf pm L) : Nat) : Int) := hv _ VM10 (hall 10 (by decide))
    have v11 : x 11 = .agg #[.int .i64 n1, .int .i64 0, .int .i64 ((Mg.blkN pb n : Nat) : Int), .int .i64 ((blkS pb (Mg.runsOf pm L) : Nat) : Int)] := hv _ VM11 (hall 11 (by decide))
    obtain ⟨hbw, hT, -⟩ := hk
    obtain ⟨T, eT, g1, g2, g3, g4⟩ := hT (hall 12 (by decide))
    have HT := Lib.hid (g4 (hall 13 (by decide)))
    have HSV : Hid (Sv w w2 w.heap.size (w.heap.size + 1) T (planV pm pw pb) (costV n1 0 (Mg.blkN pb n) (blkS pb (Mg.runsOf pm L)))) := ⟨below_tr HBR.out hbw HBR.out.size, ⟨by omega, by omega, by omega⟩, ⟨by omega, by omega, by omega⟩, block_below HPR.out hbw (hlt_of HPR.out), block_below HZR.out hbw (hlt_of HZR.out), HT.out⟩
    have HLF : Hid (LsF w2 a1 n1 c1 (Mg.runsOf pm L) T (w.heap.size + 1)) := (LoH.apart HLR.out (.inr g1) (by rw [sb2]; omega)).same hbw
    rw [hSL]
    simp only [puts]
    rw [eT]
    clear M0 E12 M1 E13 M2 E14 M3 E15 M4 E16 M5 E17 M6 E18 M7 E19 M8 E20 M9 E21 M10 E22 M11 E23 M12 E7 E0 E3 E6 f0 f3 f6 VM0 VU0 VM1 VU1 VM2 VU2 VM3 VU3 VM4 VU4 VM5 VU5 VM6 VU6 VM7 VU7 VM8 VU8 VM9 VU9 VM10 VU10 VM11 VU11 VN12 VN13 hN1 hN2 hst hsz
    clear hall hv v0 v1 v2 v3 v4 v5 v6 v7 v8 v9 v10 v11
    rw [hfr]
    simp only [Act.put, List.setIfInBounds_toArray, List.set_cons_succ, List.set_cons_zero]
    clear hfr hSL
    clear g1 g2 g3 g4 hbw hT
    have HASC0 : Hid (∀ r ∈ Mg.runsOf pm L, Mg.Asc Mg.ltF r) := Mg.runs_asc L
    have HSRT0 : Hid (Mg.srtP (Mg.runsOf pm L).flatten = Mg.srtP L) := Mg.runs_srt (by omega) L
    have hbn0 : Mg.blkN pb n ≤ 1000 := Nat.le_trans (Mg.blkN_le hpb0) (by omega)
    have hbs0 : blkS pb (Mg.runsOf pm L) ≤ 1000 := Nat.le_trans (blkS_tot hpb0 _) HTOT.out
    have HLEN : Hid (lensOf (Mg.runsOf pm L) = Mg.lens pm n) := by show _ = _; rw [lens_runs (by omega), hlen]
    generalize Mg.runsOf pm L = Rs at HSV HLF HASC0 HSRT0 hbs0 HLEN
    obtain ⟨q0, hq0⟩ : ∃ q, blkS pb Rs = q := ⟨_, rfl⟩
    obtain ⟨r0, hr0⟩ : ∃ r, Mg.blkN pb n = r := ⟨_, rfl⟩
    have HCW0 : Hid (Mg.costW pw pb (lensOf Rs) 0 r0 q0 = Mg.costW pw pb (Mg.lens pm n) 0 (Mg.blkN pb n) (Mg.blks pb (Mg.lens pm n))) := by
      show _ = _
      rw [← hq0, ← hr0, HLEN.out]; unfold blkS; rw [HLEN.out]
    rw [hq0] at HSV hbs0
    rw [hr0] at HSV hbn0
    clear hq0 hr0 HLEN HPR HZR HBR HLR HLS HPC HTOT hbR hszR hwR
    clear HT eT
    go_wp2_with fail
    go_loopw [6] (fun rv wr => ∃ (ax : Option Addr) (nx cx : Nat) (Ls : List (List (Int × Int))) (p r q : Nat), rv = .slice ax nx cx ∧ p + nx ≤ n1 ∧ r ≤ 1000 + 1000 * p ∧ q ≤ 1000 + 1000 * p ∧ Hid (Sv w wr w.heap.size (w.heap.size + 1) T (planV pm pw pb) (costV n1 p r q)) ∧ Hid (LsF wr ax nx cx Ls T (w.heap.size + 1)) ∧ Hid (∀ r ∈ Ls, Mg.Asc Mg.ltF r) ∧ Hid (Mg.srtP Ls.flatten = Mg.srtP L) ∧ Hid (Mg.costW pw pb (lensOf Ls) p r q = Mg.costW pw pb (Mg.lens pm n) 0 (Mg.blkN pb n) (Mg.blks pb (Mg.lens pm n)))) (fun rv _ => lenV rv)
    case atStart => exact ⟨a1, n1, c1, _, 0, _, _, rfl, by omega, by omega, by omega, HSV, HLF, HASC0, HSRT0, HCW0⟩
    case round =>
      obtain ⟨ax, nx, cx, Ls, p, r, q, rfl, hpn, hrb, hqb, HS, HL, HAS, HSR, HCW⟩ := hrel
      clear HSV HLF HASC0 HSRT0 HCW0
      have hlx := HL.out.ls.len
      have htot : totL Ls = n := by rw [totL_srt HSR.out, hlen]
      have HTX : Hid (totL Ls ≤ 1000) := by show _ ≤ _; omega
      have hbl : blkS pb Ls ≤ 64 := Nat.le_trans (blkS_tot hpb0 _) (by omega)
      by_cases h1 : 1 < nx
      · have g1 : decide ((1 : Int) < (nx : Int)) = true := decide_eq_true (by omega)
        clear hlx htot
        go_wp2_with fail
        refine wp_with_act (fun fr hfr => ?_)
        have hsz5 : fr.tmps.size = 63 := by rw [hfr]; rfl
        have f3 : fr.eval (.tmp 3) = .pointer (some ⟨w.heap.size, 0, none⟩) := by rw [hfr]; rfl
        have f6 : fr.eval (.tmp 6) = .slice ax nx cx := by rw [hfr]; rfl
        have f7 : fr.eval (.tmp 7) = .pointer (some ⟨T, 0, none⟩) := by rw [hfr]; rfl
        refine wp_region_held_drew (S := fun _ => True) (by kernel_rfl) trivial (fun _ => ?_)
        obtain ⟨SL, hSL⟩ : ∃ l : List (Nat × Nat), l = [(0, 27), (1, 28), (2, 29), (3, 30), (4, 31), (5, 32), (6, 33), (7, 34)] := ⟨_, rfl⟩
        obtain ⟨VL, hVL⟩ : ∃ l : List (Nat × Value), l = [(0, .pointer (some ⟨T, 2, none⟩)), (1, .int .i64 r), (2, .slice ax nx cx), (3, .pointer (some ⟨w.heap.size, 2, none⟩)), (4, .int .i64 pb), (5, .int .i64 ((blkS pb Ls : Nat) : Int)), (6, .int .i64 ((r : Int) + ((blkS pb Ls : Nat) : Int))), (7, .pointer (some ⟨T, 2, none⟩))] := ⟨_, rfl⟩
        have hN1 : (SL.map Prod.fst).Nodup := by rw [hSL]; decide
        have hN2 : (SL.map Prod.snd).Nodup := by rw [hSL]; decide
        have M0 : (0, 27) ∈ SL := by rw [hSL]; exact (.head _)
        have E27 : ∀ x, (puts fr x SL).eval (.tmp 27) = x 0 := fun x => eval_at SL fr hN2 M0 (by rw [hsz5]; decide)
        have M1 : (1, 28) ∈ SL := by rw [hSL]; exact (.tail _ (.head _))
        have E28 : ∀ x, (puts fr x SL).eval (.tmp 28) = x 1 := fun x => eval_at SL fr hN2 M1 (by rw [hsz5]; decide)
        have M2 : (2, 29) ∈ SL := by rw [hSL]; exact (.tail _ (.tail _ (.head _)))
        have E29 : ∀ x, (puts fr x SL).eval (.tmp 29) = x 2 := fun x => eval_at SL fr hN2 M2 (by rw [hsz5]; decide)
        have M3 : (3, 30) ∈ SL := by rw [hSL]; exact (.tail _ (.tail _ (.tail _ (.head _))))
        have E30 : ∀ x, (puts fr x SL).eval (.tmp 30) = x 3 := fun x => eval_at SL fr hN2 M3 (by rw [hsz5]; decide)
        have M4 : (4, 31) ∈ SL := by rw [hSL]; exact (.tail _ (.tail _ (.tail _ (.tail _ (.head _)))))
        have E31 : ∀ x, (puts fr x SL).eval (.tmp 31) = x 4 := fun x => eval_at SL fr hN2 M4 (by rw [hsz5]; decide)
        have M5 : (5, 32) ∈ SL := by rw [hSL]; exact (.tail _ (.tail _ (.tail _ (.tail _ (.tail _ (.head _))))))
        have E32 : ∀ x, (puts fr x SL).eval (.tmp 32) = x 5 := fun x => eval_at SL fr hN2 M5 (by rw [hsz5]; decide)
        have M6 : (6, 33) ∈ SL := by rw [hSL]; exact (.tail _ (.tail _ (.tail _ (.tail _ (.tail _ (.tail _ (.head _)))))))
        have E33 : ∀ x, (puts fr x SL).eval (.tmp 33) = x 6 := fun x => eval_at SL fr hN2 M6 (by rw [hsz5]; decide)
        have M7 : (7, 34) ∈ SL := by rw [hSL]; exact (.tail _ (.tail _ (.tail _ (.tail _ (.tail _ (.tail _ (.tail _ (.head _))))))))
        have E34 : ∀ x, (puts fr x SL).eval (.tmp 34) = x 7 := fun x => eval_at SL fr hN2 M7 (by rw [hsz5]; decide)
        have E3 : ∀ x, (puts fr x SL).eval (.tmp 3) = .pointer (some ⟨w.heap.size, 0, none⟩) := fun x => (eval_far SL fr (by rw [hSL]; decide)).trans f3
        have E6 : ∀ x, (puts fr x SL).eval (.tmp 6) = .slice ax nx cx := fun x => (eval_far SL fr (by rw [hSL]; decide)).trans f6
        have E7 : ∀ x, (puts fr x SL).eval (.tmp 7) = .pointer (some ⟨T, 0, none⟩) := fun x => (eval_far SL fr (by rw [hSL]; decide)).trans f7
        have VM0 : (0, .pointer (some ⟨T, 2, none⟩)) ∈ VL := by rw [hVL]; exact (.head _)
        have VU0 : ∀ pp ∈ VL, pp.1 = 0 → pp.2 = .pointer (some ⟨T, 2, none⟩) := by rw [hVL]; exact (List.forall_mem_cons.2 ⟨(fun _ => rfl), (List.forall_mem_cons.2 ⟨(fun e => absurd (show (1 : Nat) = 0 from e) (by decide)), (List.forall_mem_cons.2 ⟨(fun e => absurd (show (2 : Nat) = 0 from e) (by decide)), (List.forall_mem_cons.2 ⟨(fun e => absurd (show (3 : Nat) = 0 from e) (by decide)), (List.forall_mem_cons.2 ⟨(fun e => absurd (show (4 : Nat) = 0 from e) (by decide)), (List.forall_mem_cons.2 ⟨(fun e => absurd (show (5 : Nat) = 0 from e) (by decide)), (List.forall_mem_cons.2 ⟨(fun e => absurd (show (6 : Nat) = 0 from e) (by decide)), (List.forall_mem_cons.2 ⟨(fun e => absurd (show (7 : Nat) = 0 from e) (by decide)), (fun _ h => nomatch h)⟩)⟩)⟩)⟩)⟩)⟩)⟩)⟩)
        have VM1 : (1, .int .i64 r) ∈ VL := by rw [hVL]; exact (.tail _ (.head _))
        have VU1 : ∀ pp ∈ VL, pp.1 = 1 → pp.2 = .int .i64 r := by rw [hVL]; exact (List.forall_mem_cons.2 ⟨(fun e => absurd (show (0 : Nat) = 1 from e) (by decide)), (List.forall_mem_cons.2 ⟨(fun _ => rfl), (List.forall_mem_cons.2 ⟨(fun e => absurd (show (2 : Nat) = 1 from e) (by decide)), (List.forall_mem_cons.2 ⟨(fun e => absurd (show (3 : Nat) = 1 from e) (by decide)), (List.forall_mem_cons.2 ⟨(fun e => absurd (show (4 : Nat) = 1 from e) (by decide)), (List.forall_mem_cons.2 ⟨(fun e => absurd (show (5 : Nat) = 1 from e) (by decide)), (List.forall_mem_cons.2 ⟨(fun e => absurd (show (6 : Nat) = 1 from e) (by decide)), (List.forall_mem_cons.2 ⟨(fun e => absurd (show (7 : Nat) = 1 from e) (by decide)), (fun _ h => nomatch h)⟩)⟩)⟩)⟩)⟩)⟩)⟩)⟩)
        have VM2 : (2, .slice ax nx cx) ∈ VL := by rw [hVL]; exact (.tail _ (.tail _ (.head _)))
        have VU2 : ∀ pp ∈ VL, pp.1 = 2 → pp.2 = .slice ax nx cx := by rw [hVL]; exact (List.forall_mem_cons.2 ⟨(fun e => absurd (show (0 : Nat) = 2 from e) (by decide)), (List.forall_mem_cons.2 ⟨(fun e => absurd (show (1 : Nat) = 2 from e) (by decide)), (List.forall_mem_cons.2 ⟨(fun _ => rfl), (List.forall_mem_cons.2 ⟨(fun e => absurd (show (3 : Nat) = 2 from e) (by decide)), (List.forall_mem_cons.2 ⟨(fun e => absurd (show (4 : Nat) = 2 from e) (by decide)), (List.forall_mem_cons.2 ⟨(fun e => absurd (show (5 : Nat) = 2 from e) (by decide)), (List.forall_mem_cons.2 ⟨(fun e => absurd (show (6 : Nat) = 2 from e) (by decide)), (List.forall_mem_cons.2 ⟨(fun e => absurd (show (7 : Nat) = 2 from e) (by decide)), (fun _ h => nomatch h)⟩)⟩)⟩)⟩)⟩)⟩)⟩)⟩)
        have VM3 : (3, .pointer (some ⟨w.heap.size, 2, none⟩)) ∈ VL := by rw [hVL]; exact (.tail _ (.tail _ (.tail _ (.head _))))
        have VU3 : ∀ pp ∈ VL, pp.1 = 3 → pp.2 = .pointer (some ⟨w.heap.size, 2, none⟩) := by rw [hVL]; exact (List.forall_mem_cons.2 ⟨(fun e => absurd (show (0 : Nat) = 3 from e) (by decide)), (List.forall_mem_cons.2 ⟨(fun e => absurd (show (1 : Nat) = 3 from e) (by decide)), (List.forall_mem_cons.2 ⟨(fun e => absurd (show (2 : Nat) = 3 from e) (by decide)), (List.forall_mem_cons.2 ⟨(fun _ => rfl), (List.forall_mem_cons.2 ⟨(fun e => absurd (show (4 : Nat) = 3 from e) (by decide)), (List.forall_mem_cons.2 ⟨(fun e => absurd (show (5 : Nat) = 3 from e) (by decide)), (List.forall_mem_cons.2 ⟨(fun e => absurd (show (6 : Nat) = 3 from e) (by decide)), (List.forall_mem_cons.2 ⟨(fun e => absurd (show (7 : Nat) = 3 from e) (by decide)), (fun _ h => nomatch h)⟩)⟩)⟩)⟩)⟩)⟩)⟩)⟩)
        have VM4 : (4, .int .i64 pb) ∈ VL := by rw [hVL]; exact (.tail _ (.tail _ (.tail _ (.tail _ (.head _)))))
        have VU4 : ∀ pp ∈ VL, pp.1 = 4 → pp.2 = .int .i64 pb := by rw [hVL]; exact (List.forall_mem_cons.2 ⟨(fun e => absurd (show (0 : Nat) = 4 from e) (by decide)), (List.forall_mem_cons.2 ⟨(fun e => absurd (show (1 : Nat) = 4 from e) (by decide)), (List.forall_mem_cons.2 ⟨(fun e => absurd (show (2 : Nat) = 4 from e) (by decide)), (List.forall_mem_cons.2 ⟨(fun e => absurd (show (3 : Nat) = 4 from e) (by decide)), (List.forall_mem_cons.2 ⟨(fun _ => rfl), (List.forall_mem_cons.2 ⟨(fun e => absurd (show (5 : Nat) = 4 from e) (by decide)), (List.forall_mem_cons.2 ⟨(fun e => absurd (show (6 : Nat) = 4 from e) (by decide)), (List.forall_mem_cons.2 ⟨(fun e => absurd (show (7 : Nat) = 4 from e) (by decide)), (fun _ h => nomatch h)⟩)⟩)⟩)⟩)⟩)⟩)⟩)⟩)
        have VM5 : (5, .int .i64 ((blkS pb Ls : Nat) : Int)) ∈ VL := by rw [hVL]; exact (.tail _ (.tail _ (.tail _ (.tail _ (.tail _ (.head _))))))
        have VU5 : ∀ pp ∈ VL, pp.1 = 5 → pp.2 = .int .i64 ((blkS pb Ls : Nat) : Int) := by rw [hVL]; exact (List.forall_mem_cons.2 ⟨(fun e => absurd (show (0 : Nat) = 5 from e) (by decide)), (List.forall_mem_cons.2 ⟨(fun e => absurd (show (1 : Nat) = 5 from e) (by decide)), (List.forall_mem_cons.2 ⟨(fun e => absurd (show (2 : Nat) = 5 from e) (by decide)), (List.forall_mem_cons.2 ⟨(fun e => absurd (show (3 : Nat) = 5 from e) (by decide)), (List.forall_mem_cons.2 ⟨(fun e => absurd (show (4 : Nat) = 5 from e) (by decide)), (List.forall_mem_cons.2 ⟨(fun _ => rfl), (List.forall_mem_cons.2 ⟨(fun e => absurd (show (6 : Nat) = 5 from e) (by decide)), (List.forall_mem_cons.2 ⟨(fun e => absurd (show (7 : Nat) = 5 from e) (by decide)), (fun _ h => nomatch h)⟩)⟩)⟩)⟩)⟩)⟩)⟩)⟩)
        have VM6 : (6, .int .i64 ((r : Int) + ((blkS pb Ls : Nat) : Int))) ∈ VL := by rw [hVL]; exact (.tail _ (.tail _ (.tail _ (.tail _ (.tail _ (.tail _ (.head _)))))))
        have VU6 : ∀ pp ∈ VL, pp.1 = 6 → pp.2 = .int .i64 ((r : Int) + ((blkS pb Ls : Nat) : Int)) := by rw [hVL]; exact (List.forall_mem_cons.2 ⟨(fun e => absurd (show (0 : Nat) = 6 from e) (by decide)), (List.forall_mem_cons.2 ⟨(fun e => absurd (show (1 : Nat) = 6 from e) (by decide)), (List.forall_mem_cons.2 ⟨(fun e => absurd (show (2 : Nat) = 6 from e) (by decide)), (List.forall_mem_cons.2 ⟨(fun e => absurd (show (3 : Nat) = 6 from e) (by decide)), (List.forall_mem_cons.2 ⟨(fun e => absurd (show (4 : Nat) = 6 from e) (by decide)), (List.forall_mem_cons.2 ⟨(fun e => absurd (show (5 : Nat) = 6 from e) (by decide)), (List.forall_mem_cons.2 ⟨(fun _ => rfl), (List.forall_mem_cons.2 ⟨(fun e => absurd (show (7 : Nat) = 6 from e) (by decide)), (fun _ h => nomatch h)⟩)⟩)⟩)⟩)⟩)⟩)⟩)⟩)
        have VM7 : (7, .pointer (some ⟨T, 2, none⟩)) ∈ VL := by rw [hVL]; exact (.tail _ (.tail _ (.tail _ (.tail _ (.tail _ (.tail _ (.tail _ (.head _))))))))
        have VU7 : ∀ pp ∈ VL, pp.1 = 7 → pp.2 = .pointer (some ⟨T, 2, none⟩) := by rw [hVL]; exact (List.forall_mem_cons.2 ⟨(fun e => absurd (show (0 : Nat) = 7 from e) (by decide)), (List.forall_mem_cons.2 ⟨(fun e => absurd (show (1 : Nat) = 7 from e) (by decide)), (List.forall_mem_cons.2 ⟨(fun e => absurd (show (2 : Nat) = 7 from e) (by decide)), (List.forall_mem_cons.2 ⟨(fun e => absurd (show (3 : Nat) = 7 from e) (by decide)), (List.forall_mem_cons.2 ⟨(fun e => absurd (show (4 : Nat) = 7 from e) (by decide)), (List.forall_mem_cons.2 ⟨(fun e => absurd (show (5 : Nat) = 7 from e) (by decide)), (List.forall_mem_cons.2 ⟨(fun e => absurd (show (6 : Nat) = 7 from e) (by decide)), (List.forall_mem_cons.2 ⟨(fun _ => rfl), (fun _ h => nomatch h)⟩)⟩)⟩)⟩)⟩)⟩)⟩)⟩)
        have VN8 : ∀ pp ∈ VL, pp.1 ≠ 8 := by rw [hVL]; exact (List.forall_mem_cons.2 ⟨(show (0 : Nat) ≠ 8 by decide), (List.forall_mem_cons.2 ⟨(show (1 : Nat) ≠ 8 by decide), (List.forall_mem_cons.2 ⟨(show (2 : Nat) ≠ 8 by decide), (List.forall_mem_cons.2 ⟨(show (3 : Nat) ≠ 8 by decide), (List.forall_mem_cons.2 ⟨(show (4 : Nat) ≠ 8 by decide), (List.forall_mem_cons.2 ⟨(show (5 : Nat) ≠ 8 by decide), (List.forall_mem_cons.2 ⟨(show (6 : Nat) ≠ 8 by decide), (List.forall_mem_cons.2 ⟨(show (7 : Nat) ≠ 8 by decide), (fun _ h => nomatch h)⟩)⟩)⟩)⟩)⟩)⟩)⟩)⟩)
        have hst5 : fr = puts fr (x0 fr SL) SL := puts_x0 fr SL (by rw [hSL]; decide)
        clear hVL
        refine wpAnyH_inv2 (JV fr SL VL (KS (fun W => Sv w W w.heap.size (w.heap.size + 1) T (planV pm pw pb) (costV n1 p r q) ∧ LsF W ax nx cx Ls T (w.heap.size + 1)) (fun W => Sv w W w.heap.size (w.heap.size + 1) T (planV pm pw pb) ((costV n1 p r q).setIfInBounds 2 (.int .i64 ((r : Int) + ((blkS pb Ls : Nat) : Int)))) ∧ LsF W ax nx cx Ls T (w.heap.size + 1)) 8)) (by kernel_rfl) ?steps5 ?done5 _ _ ?start5
        case start5 => exact ⟨_, hst5, VOK.start _ _ _, KS.start ⟨HS.out.same ((Below.refl _ _).drew), HL.out.same ((Below.refl _ _).drew)⟩⟩
        case steps5 =>
          clear hst5 hSL hfr
          refine ⟨?_, ?_, ?_, ?_, ?_, ?_, ?_, ?_, ?_, trivial⟩
          all_goals
            rintro LB ac w' hs hu haf hcl ⟨x, rfl, hv, hk⟩ K hK
          · have r7 := E7 x
            have hlast : LB.getD 8 false = false := by
              cases h : LB.getD 8 false with
              | false => rfl
              | true => exact absurd (hcl 8 _ rfl h ⟨0, .phase⟩ (by simp) rfl) (by rw [hu]; decide)
            have s0 := hk.1 hlast
            obtain ⟨p0, p1, p2⟩ := cells3 s0.1.pl
            obtain ⟨q0, q1, q2, q3⟩ := cellsQ s0.1.co
            rw [if_pos (by rfl)]
            refine wp_val (v := .pointer (some ⟨T, 2, none⟩)) ?_ (hK _ _ (jv_set (by rw [hs]; decide) (x := upd x 0 _) (puts_set SL fr hN1 hN2 M0) (hv.val 0 _ VU0) (hk.quiet 0 _ (by decide))))
            generalize (puts fr x SL).eval = ρ at r7 ⊢; go_simp
          · have r27 := (E27 x).trans (hv _ VM0 (haf ⟨0, .data⟩ (by simp) rfl))
            have hlast : LB.getD 8 false = false := by
              cases h : LB.getD 8 false with
              | false => rfl
              | true => exact absurd (hcl 8 _ rfl h ⟨1, .phase⟩ (by simp) rfl) (by rw [hu]; decide)
            have s0 := hk.1 hlast
            obtain ⟨p0, p1, p2⟩ := cells3 s0.1.pl
            obtain ⟨q0, q1, q2, q3⟩ := cellsQ s0.1.co
            rw [if_pos (by rfl)]
            refine wp_val (v := .int .i64 r) ?_ (hK _ _ (jv_set (by rw [hs]; decide) (x := upd x 1 _) (puts_set SL fr hN1 hN2 M1) (hv.val 1 _ VU1) (hk.quiet 1 _ (by decide))))
            generalize (puts fr x SL).eval = ρ at r27 ⊢; go_simp
          · have r6 := E6 x
            have hlast : LB.getD 8 false = false := by
              cases h : LB.getD 8 false with
              | false => rfl
              | true => exact absurd (hcl 8 _ rfl h ⟨2, .phase⟩ (by simp) rfl) (by rw [hu]; decide)
            have s0 := hk.1 hlast
            obtain ⟨p0, p1, p2⟩ := cells3 s0.1.pl
            obtain ⟨q0, q1, q2, q3⟩ := cellsQ s0.1.co
            rw [if_pos (by rfl)]
            refine wp_val (v := .slice ax nx cx) ?_ (hK _ _ (jv_set (by rw [hs]; decide) (x := upd x 2 _) (puts_set SL fr hN1 hN2 M2) (hv.val 2 _ VU2) (hk.quiet 2 _ (by decide))))
            generalize (puts fr x SL).eval = ρ at r6 ⊢; go_simp
          · have r3 := E3 x
            have hlast : LB.getD 8 false = false := by
              cases h : LB.getD 8 false with
              | false => rfl
              | true => exact absurd (hcl 8 _ rfl h ⟨3, .phase⟩ (by simp) rfl) (by rw [hu]; decide)
            have s0 := hk.1 hlast
            obtain ⟨p0, p1, p2⟩ := cells3 s0.1.pl
            obtain ⟨q0, q1, q2, q3⟩ := cellsQ s0.1.co
            rw [if_pos (by rfl)]
            refine wp_val (v := .pointer (some ⟨w.heap.size, 2, none⟩)) ?_ (hK _ _ (jv_set (by rw [hs]; decide) (x := upd x 3 _) (puts_set SL fr hN1 hN2 M3) (hv.val 3 _ VU3) (hk.quiet 3 _ (by decide))))
            generalize (puts fr x SL).eval = ρ at r3 ⊢; go_simp
          · have r30 := (E30 x).trans (hv _ VM3 (haf ⟨3, .data⟩ (by simp) rfl))
            have hlast : LB.getD 8 false = false := by
              cases h : LB.getD 8 false with
              | false => rfl
              | true => exact absurd (hcl 8 _ rfl h ⟨4, .phase⟩ (by simp) rfl) (by rw [hu]; decide)
            have s0 := hk.1 hlast
            obtain ⟨p0, p1, p2⟩ := cells3 s0.1.pl
            obtain ⟨q0, q1, q2, q3⟩ := cellsQ s0.1.co
            rw [if_pos (by rfl)]
            refine wp_val (v := .int .i64 pb) ?_ (hK _ _ (jv_set (by rw [hs]; decide) (x := upd x 4 _) (puts_set SL fr hN1 hN2 M4) (hv.val 4 _ VU4) (hk.quiet 4 _ (by decide))))
            generalize (puts fr x SL).eval = ρ at r30 ⊢; go_simp
          · have r29 := (E29 x).trans (hv _ VM2 (haf ⟨2, .data⟩ (by simp) rfl))
            have r31 := (E31 x).trans (hv _ VM4 (haf ⟨4, .data⟩ (by simp) rfl))
            have hlast : LB.getD 8 false = false := by
              cases h : LB.getD 8 false with
              | false => rfl
              | true => exact absurd (hcl 8 _ rfl h ⟨5, .chain⟩ (by simp) rfl) (by rw [hu]; decide)
            have s0 := hk.1 hlast
            obtain ⟨p0, p1, p2⟩ := cells3 s0.1.pl
            obtain ⟨q0, q1, q2, q3⟩ := cellsQ s0.1.co
            rw [if_pos (by rfl)]
            refine wp_callv (v := .int .i64 ((blkS pb Ls : Nat) : Int)) (G := fun w2 => Below w'.heap.size w' w2) ?_ (l17RunBlocks_any pb ax nx cx Ls w' hpb0 (by omega) (by omega) HTX.out s0.2.ls) (fun e w2 h => ⟨h.1, by rw [← h.2]; exact Below.refl _ _⟩) (fun w2 hg => ?_)
            · rw [execOp_call_go]; generalize (puts fr x SL).eval = ρ at r29 r31 ⊢; go_simp
            · exact hK _ _ (jv_set (by rw [hs]; decide) (x := upd x 5 _) (puts_set SL fr hN1 hN2 M5) (hv.val 5 _ VU5) (KS.call (w := w') hlast ⟨s0.1.same hg, s0.2.same hg⟩ 5 _ (by decide)))
          · have r28 := (E28 x).trans (hv _ VM1 (haf ⟨1, .data⟩ (by simp) rfl))
            have r32 := (E32 x).trans (hv _ VM5 (haf ⟨5, .data⟩ (by simp) rfl))
            have hlast : LB.getD 8 false = false := by
              cases h : LB.getD 8 false with
              | false => rfl
              | true => exact absurd (hcl 8 _ rfl h ⟨6, .data⟩ (by simp) rfl) (by rw [hu]; decide)
            have s0 := hk.1 hlast
            obtain ⟨p0, p1, p2⟩ := cells3 s0.1.pl
            obtain ⟨q0, q1, q2, q3⟩ := cellsQ s0.1.co
            rw [if_pos (by rfl)]
            refine wp_val (v := .int .i64 ((r : Int) + ((blkS pb Ls : Nat) : Int))) ?_ (hK _ _ (jv_set (by rw [hs]; decide) (x := upd x 6 _) (puts_set SL fr hN1 hN2 M6) (hv.val 6 _ VU6) (hk.quiet 6 _ (by decide))))
            generalize (puts fr x SL).eval = ρ at r28 r32 ⊢; go_simp; exact IntWalk.i64_in _ (by omega)
          · have r7 := E7 x
            have hlast : LB.getD 8 false = false := by
              cases h : LB.getD 8 false with
              | false => rfl
              | true => exact absurd (hcl 8 _ rfl h ⟨7, .data⟩ (by simp) rfl) (by rw [hu]; decide)
            have s0 := hk.1 hlast
            obtain ⟨p0, p1, p2⟩ := cells3 s0.1.pl
            obtain ⟨q0, q1, q2, q3⟩ := cellsQ s0.1.co
            rw [if_pos (by rfl)]
            refine wp_val (v := .pointer (some ⟨T, 2, none⟩)) ?_ (hK _ _ (jv_set (by rw [hs]; decide) (x := upd x 7 _) (puts_set SL fr hN1 hN2 M7) (hv.val 7 _ VU7) (hk.quiet 7 _ (by decide))))
            generalize (puts fr x SL).eval = ρ at r7 ⊢; go_simp
          · have r34 := (E34 x).trans (hv _ VM7 (haf ⟨7, .data⟩ (by simp) rfl))
            have r33 := (E33 x).trans (hv _ VM6 (haf ⟨6, .data⟩ (by simp) rfl))
            rw [if_pos (by rfl)]
            have s0 := hk.1 hu
            obtain ⟨q0, q1, q2, q3⟩ := cellsQ s0.1.co
            have hf : w'.frozen? ⟨T, 2, none⟩ = false := frozen_of_row w' _ 2 _ _ s0.1.co
            refine wp_skip (w' := w'.setCell ⟨T, 2, none⟩ (.int .i64 ((r : Int) + ((blkS pb Ls : Nat) : Int)))) ?_ ?_
            · generalize (puts fr x SL).eval = ρ at r34 r33 ⊢; go_simp
            exact hK _ _ (jv_set (by rw [hs]; decide) (x := x) rfl (hv.none 8 VN8) (KS.last ⟨s0.1.setc 2 _, s0.2.next (grown_setN _ _ _ _)⟩))
        case done5 =>
          rintro LB ac w2 hall ⟨x, rfl, hv, hk⟩
          have v0 : x 0 = .pointer (some ⟨T, 2, none⟩) := hv _ VM0 (hall 0 (by decide))
          have v1 : x 1 = .int .i64 r := hv _ VM1 (hall 1 (by decide))
          have v2 : x 2 = .slice ax nx cx := hv _ VM2 (hall 2 (by decide))
          have v3 : x 3 = .pointer (some ⟨w.heap.size, 2, none⟩) := hv _ VM3 (hall 3 (by decide))
          have v4 : x 4 = .int .i64 pb := hv _ VM4 (hall 4 (by decide))
          have v5 : x 5 = .int .i64 ((blkS pb Ls : Nat) : Int) := hv _ VM5 (hall 5 (by decide))
          have v6 : x 6 = .int .i64 ((r : Int) + ((blkS pb Ls : Nat) : Int)) := hv _ VM6 (hall 6 (by decide))
          have v7 : x 7 = .pointer (some ⟨T, 2, none⟩) := hv _ VM7 (hall 7 (by decide))
          have hs5 := hk.2 (hall 8 (by decide))
          clear hk
          rw [hSL]
          simp only [puts]
          clear M0 E27 M1 E28 M2 E29 M3 E30 M4 E31 M5 E32 M6 E33 M7 E34 E3 E6 E7 f3 f6 f7 VM0 VU0 VM1 VU1 VM2 VU2 VM3 VU3 VM4 VU4 VM5 VU5 VM6 VU6 VM7 VU7 VN8 hN1 hN2 hst5 hsz5
          clear hall hv v0 v1 v2 v3 v4 v5 v6 v7
          rw [hfr]
          simp only [Act.put, List.setIfInBounds_toArray, List.set_cons_succ, List.set_cons_zero]
          clear hfr hSL
          have HS5 : Hid (Sv w w2 w.heap.size (w.heap.size + 1) T (planV pm pw pb) (costV n1 p (r + blkS pb Ls) q)) := hs5.1
          have HL5 := Lib.hid hs5.2
          clear hs5
          obtain ⟨p0, p1, p2⟩ := cells3 HS5.out.pl
          go_wp2_with fail
          refine (l17Pass_any ax nx cx pw Ls w2 (by omega) (by omega) (by omega) HL5.out.ls HTX.out HAS.out).mono ?_
          rintro e w6 ⟨a6, n6, c6, hs6, rfl, hlo, hb⟩
          have hT5 := hlt_of HS5.out.co; have hR5 := hlt_of HS5.out.rz
          have HS6 := Lib.hid (HS5.out.same hb)
          have HL6 := Lib.hid (hlo.apart (.inl hT5) hR5)
          have hn6 : n6 = (nx + pw - 1) / pw := by rw [← hlo.len, pass_len (by omega), HL5.out.len]
          have hn6b : n6 < nx := by rw [hn6]; exact Mg.up_lt (by omega) h1
          have HAS6 : Hid (∀ r ∈ Mg.passOf pw Ls, Mg.Asc Mg.ltF r) := Mg.pass_asc Ls
          have HSR6 : Hid (Mg.srtP (Mg.passOf pw Ls).flatten = Mg.srtP L) := (Mg.pass_srt (by omega) Ls).trans HSR.out
          have ht6 : totL (Mg.passOf pw Ls) = n := by rw [totL_srt HSR6.out, hlen]
          have HTY : Hid (totL (Mg.passOf pw Ls) ≤ 1000) := by show _ ≤ _; omega
          have hb6 : blkS pb (Mg.passOf pw Ls) ≤ 64 := Nat.le_trans (blkS_tot hpb0 _) (by omega)
          obtain ⟨r5, hr5⟩ : ∃ r5, r + blkS pb Ls = r5 := ⟨_, rfl⟩
          have HCW6 : Hid (Mg.costW pw pb (lensOf (Mg.passOf pw Ls)) (p + 1) r5 (q + blkS pb (Mg.passOf pw Ls)) = Mg.costW pw pb (Mg.lens pm n) 0 (Mg.blkN pb n) (Mg.blks pb (Mg.lens pm n))) := by
            show _ = _
            rw [← HCW.out, ← hr5]
            have e1 : lensOf (Mg.passOf pw Ls) = Mg.grp pw (lensOf Ls) := Mg.pass_lens (by omega) Ls
            unfold blkS
            rw [e1]
            exact (Mg.costW_go (by unfold lensOf; rw [List.length_map, HL5.out.len]; exact h1) (by omega)).symm
          rw [hr5] at HS6
          have hr5b : r5 ≤ 1000 + 1000 * (p + 1) := by omega
          clear hlo hb HS5 HL5 HS HL HAS HSR HCW HTX hr5 hT5 hR5 hn6 ht6 hbl p0 p1 p2
          generalize Mg.passOf pw Ls = Ls6 at HL6 HAS6 HSR6 HTY hb6 HCW6
          go_wp2_with fail
          refine wp_with_act (fun fr hfr => ?_)
          have hsz7 : fr.tmps.size = 63 := by rw [hfr]; rfl
          have f3 : fr.eval (.tmp 3) = .pointer (some ⟨w.heap.size, 0, none⟩) := by rw [hfr]; rfl
          have f6 : fr.eval (.tmp 6) = .slice a6 n6 c6 := by rw [hfr]; rfl
          have f7 : fr.eval (.tmp 7) = .pointer (some ⟨T, 0, none⟩) := by rw [hfr]; rfl
          refine wp_region_held_drew (S := fun _ => True) (by kernel_rfl) trivial (fun _ => ?_)
          obtain ⟨SL, hSL⟩ : ∃ l : List (Nat × Nat), l = [(0, 42), (1, 43), (2, 44), (3, 45), (4, 46), (5, 47), (6, 48), (7, 49)] := ⟨_, rfl⟩
          obtain ⟨VL, hVL⟩ : ∃ l : List (Nat × Value), l = [(0, .pointer (some ⟨T, 3, none⟩)), (1, .int .i64 q), (2, .slice a6 n6 c6), (3, .pointer (some ⟨w.heap.size, 2, none⟩)), (4, .int .i64 pb), (5, .int .i64 ((blkS pb Ls6 : Nat) : Int)), (6, .int .i64 ((q : Int) + ((blkS pb Ls6 : Nat) : Int))), (7, .pointer (some ⟨T, 3, none⟩))] := ⟨_, rfl⟩
          have hN1 : (SL.map Prod.fst).Nodup := by rw [hSL]; decide
          have hN2 : (SL.map Prod.snd).Nodup := by rw [hSL]; decide
          have M0 : (0, 42) ∈ SL := by rw [hSL]; exact (.head _)
          have E42 : ∀ x, (puts fr x SL).eval (.tmp 42) = x 0 := fun x => eval_at SL fr hN2 M0 (by rw [hsz7]; decide)
          have M1 : (1, 43) ∈ SL := by rw [hSL]; exact (.tail _ (.head _))
          have E43 : ∀ x, (puts fr x SL).eval (.tmp 43) = x 1 := fun x => eval_at SL fr hN2 M1 (by rw [hsz7]; decide)
          have M2 : (2, 44) ∈ SL := by rw [hSL]; exact (.tail _ (.tail _ (.head _)))
          have E44 : ∀ x, (puts fr x SL).eval (.tmp 44) = x 2 := fun x => eval_at SL fr hN2 M2 (by rw [hsz7]; decide)
          have M3 : (3, 45) ∈ SL := by rw [hSL]; exact (.tail _ (.tail _ (.tail _ (.head _))))
          have E45 : ∀ x, (puts fr x SL).eval (.tmp 45) = x 3 := fun x => eval_at SL fr hN2 M3 (by rw [hsz7]; decide)
          have M4 : (4, 46) ∈ SL := by rw [hSL]; exact (.tail _ (.tail _ (.tail _ (.tail _ (.head _)))))
          have E46 : ∀ x, (puts fr x SL).eval (.tmp 46) = x 4 := fun x => eval_at SL fr hN2 M4 (by rw [hsz7]; decide)
          have M5 : (5, 47) ∈ SL := by rw [hSL]; exact (.tail _ (.tail _ (.tail _ (.tail _ (.tail _ (.head _))))))
          have E47 : ∀ x, (puts fr x SL).eval (.tmp 47) = x 5 := fun x => eval_at SL fr hN2 M5 (by rw [hsz7]; decide)
          have M6 : (6, 48) ∈ SL := by rw [hSL]; exact (.tail _ (.tail _ (.tail _ (.tail _ (.tail _ (.tail _ (.head _)))))))
          have E48 : ∀ x, (puts fr x SL).eval (.tmp 48) = x 6 := fun x => eval_at SL fr hN2 M6 (by rw [hsz7]; decide)
          have M7 : (7, 49) ∈ SL := by rw [hSL]; exact (.tail _ (.tail _ (.tail _ (.tail _ (.tail _ (.tail _ (.tail _ (.head _))))))))
          have E49 : ∀ x, (puts fr x SL).eval (.tmp 49) = x 7 := fun x => eval_at SL fr hN2 M7 (by rw [hsz7]; decide)
          have E3 : ∀ x, (puts fr x SL).eval (.tmp 3) = .pointer (some ⟨w.heap.size, 0, none⟩) := fun x => (eval_far SL fr (by rw [hSL]; decide)).trans f3
          have E6 : ∀ x, (puts fr x SL).eval (.tmp 6) = .slice a6 n6 c6 := fun x => (eval_far SL fr (by rw [hSL]; decide)).trans f6
          have E7 : ∀ x, (puts fr x SL).eval (.tmp 7) = .pointer (some ⟨T, 0, none⟩) := fun x => (eval_far SL fr (by rw [hSL]; decide)).trans f7
          have VM0 : (0, .pointer (some ⟨T, 3, none⟩)) ∈ VL := by rw [hVL]; exact (.head _)
          have VU0 : ∀ pp ∈ VL, pp.1 = 0 → pp.2 = .pointer (some ⟨T, 3, none⟩) := by rw [hVL]; exact (List.forall_mem_cons.2 ⟨(fun _ => rfl), (List.forall_mem_cons.2 ⟨(fun e => absurd (show (1 : Nat) = 0 from e) (by decide)), (List.forall_mem_cons.2 ⟨(fun e => absurd (show (2 : Nat) = 0 from e) (by decide)), (List.forall_mem_cons.2 ⟨(fun e => absurd (show (3 : Nat) = 0 from e) (by decide)), (List.forall_mem_cons.2 ⟨(fun e => absurd (show (4 : Nat) = 0 from e) (by decide)), (List.forall_mem_cons.2 ⟨(fun e => absurd (show (5 : Nat) = 0 from e) (by decide)), (List.forall_mem_cons.2 ⟨(fun e => absurd (show (6 : Nat) = 0 from e) (by decide)), (List.forall_mem_cons.2 ⟨(fun e => absurd (show (7 : Nat) = 0 from e) (by decide)), (fun _ h => nomatch h)⟩)⟩)⟩)⟩)⟩)⟩)⟩)⟩)
          have VM1 : (1, .int .i64 q) ∈ VL := by rw [hVL]; exact (.tail _ (.head _))
          have VU1 : ∀ pp ∈ VL, pp.1 = 1 → pp.2 = .int .i64 q := by rw [hVL]; exact (List.forall_mem_cons.2 ⟨(fun e => absurd (show (0 : Nat) = 1 from e) (by decide)), (List.forall_mem_cons.2 ⟨(fun _ => rfl), (List.forall_mem_cons.2 ⟨(fun e => absurd (show (2 : Nat) = 1 from e) (by decide)), (List.forall_mem_cons.2 ⟨(fun e => absurd (show (3 : Nat) = 1 from e) (by decide)), (List.forall_mem_cons.2 ⟨(fun e => absurd (show (4 : Nat) = 1 from e) (by decide)), (List.forall_mem_cons.2 ⟨(fun e => absurd (show (5 : Nat) = 1 from e) (by decide)), (List.forall_mem_cons.2 ⟨(fun e => absurd (show (6 : Nat) = 1 from e) (by decide)), (List.forall_mem_cons.2 ⟨(fun e => absurd (show (7 : Nat) = 1 from e) (by decide)), (fun _ h => nomatch h)⟩)⟩)⟩)⟩)⟩)⟩)⟩)⟩)
          have VM2 : (2, .slice a6 n6 c6) ∈ VL := by rw [hVL]; exact (.tail _ (.tail _ (.head _)))
          have VU2 : ∀ pp ∈ VL, pp.1 = 2 → pp.2 = .slice a6 n6 c6 := by rw [hVL]; exact (List.forall_mem_cons.2 ⟨(fun e => absurd (show (0 : Nat) = 2 from e) (by decide)), (List.forall_mem_cons.2 ⟨(fun e => absurd (show (1 : Nat) = 2 from e) (by decide)), (List.forall_mem_cons.2 ⟨(fun _ => rfl), (List.forall_mem_cons.2 ⟨(fun e => absurd (show (3 : Nat) = 2 from e) (by decide)), (List.forall_mem_cons.2 ⟨(fun e => absurd (show (4 : Nat) = 2 from e) (by decide)), (List.forall_mem_cons.2 ⟨(fun e => absurd (show (5 : Nat) = 2 from e) (by decide)), (List.forall_mem_cons.2 ⟨(fun e => absurd (show (6 : Nat) = 2 from e) (by decide)), (List.forall_mem_cons.2 ⟨(fun e => absurd (show (7 : Nat) = 2 from e) (by decide)), (fun _ h => nomatch h)⟩)⟩)⟩)⟩)⟩)⟩)⟩)⟩)
          have VM3 : (3, .pointer (some ⟨w.heap.size, 2, none⟩)) ∈ VL := by rw [hVL]; exact (.tail _ (.tail _ (.tail _ (.head _))))
          have VU3 : ∀ pp ∈ VL, pp.1 = 3 → pp.2 = .pointer (some ⟨w.heap.size, 2, none⟩) := by rw [hVL]; exact (List.forall_mem_cons.2 ⟨(fun e => absurd (show (0 : Nat) = 3 from e) (by decide)), (List.forall_mem_cons.2 ⟨(fun e => absurd (show (1 : Nat) = 3 from e) (by decide)), (List.forall_mem_cons.2 ⟨(fun e => absurd (show (2 : Nat) = 3 from e) (by decide)), (List.forall_mem_cons.2 ⟨(fun _ => rfl), (List.forall_mem_cons.2 ⟨(fun e => absurd (show (4 : Nat) = 3 from e) (by decide)), (List.forall_mem_cons.2 ⟨(fun e => absurd (show (5 : Nat) = 3 from e) (by decide)), (List.forall_mem_cons.2 ⟨(fun e => absurd (show (6 : Nat) = 3 from e) (by decide)), (List.forall_mem_cons.2 ⟨(fun e => absurd (show (7 : Nat) = 3 from e) (by decide)), (fun _ h => nomatch h)⟩)⟩)⟩)⟩)⟩)⟩)⟩)⟩)
          have VM4 : (4, .int .i64 pb) ∈ VL := by rw [hVL]; exact (.tail _ (.tail _ (.tail _ (.tail _ (.head _)))))
          have VU4 : ∀ pp ∈ VL, pp.1 = 4 → pp.2 = .int .i64 pb := by rw [hVL]; exact (List.forall_mem_cons.2 ⟨(fun e => absurd (show (0 : Nat) = 4 from e) (by decide)), (List.forall_mem_cons.2 ⟨(fun e => absurd (show (1 : Nat) = 4 from e) (by decide)), (List.forall_mem_cons.2 ⟨(fun e => absurd (show (2 : Nat) = 4 from e) (by decide)), (List.forall_mem_cons.2 ⟨(fun e => absurd (show (3 : Nat) = 4 from e) (by decide)), (List.forall_mem_cons.2 ⟨(fun _ => rfl), (List.forall_mem_cons.2 ⟨(fun e => absurd (show (5 : Nat) = 4 from e) (by decide)), (List.forall_mem_cons.2 ⟨(fun e => absurd (show (6 : Nat) = 4 from e) (by decide)), (List.forall_mem_cons.2 ⟨(fun e => absurd (show (7 : Nat) = 4 from e) (by decide)), (fun _ h => nomatch h)⟩)⟩)⟩)⟩)⟩)⟩)⟩)⟩)
          have VM5 : (5, .int .i64 ((blkS pb Ls6 : Nat) : Int)) ∈ VL := by rw [hVL]; exact (.tail _ (.tail _ (.tail _ (.tail _ (.tail _ (.head _))))))
          have VU5 : ∀ pp ∈ VL, pp.1 = 5 → pp.2 = .int .i64 ((blkS pb Ls6 : Nat) : Int) := by rw [hVL]; exact (List.forall_mem_cons.2 ⟨(fun e => absurd (show (0 : Nat) = 5 from e) (by decide)), (List.forall_mem_cons.2 ⟨(fun e => absurd (show (1 : Nat) = 5 from e) (by decide)), (List.forall_mem_cons.2 ⟨(fun e => absurd (show (2 : Nat) = 5 from e) (by decide)), (List.forall_mem_cons.2 ⟨(fun e => absurd (show (3 : Nat) = 5 from e) (by decide)), (List.forall_mem_cons.2 ⟨(fun e => absurd (show (4 : Nat) = 5 from e) (by decide)), (List.forall_mem_cons.2 ⟨(fun _ => rfl), (List.forall_mem_cons.2 ⟨(fun e => absurd (show (6 : Nat) = 5 from e) (by decide)), (List.forall_mem_cons.2 ⟨(fun e => absurd (show (7 : Nat) = 5 from e) (by decide)), (fun _ h => nomatch h)⟩)⟩)⟩)⟩)⟩)⟩)⟩)⟩)
          have VM6 : (6, .int .i64 ((q : Int) + ((blkS pb Ls6 : Nat) : Int))) ∈ VL := by rw [hVL]; exact (.tail _ (.tail _ (.tail _ (.tail _ (.tail _ (.tail _ (.head _)))))))
          have VU6 : ∀ pp ∈ VL, pp.1 = 6 → pp.2 = .int .i64 ((q : Int) + ((blkS pb Ls6 : Nat) : Int)) := by rw [hVL]; exact (List.forall_mem_cons.2 ⟨(fun e => absurd (show (0 : Nat) = 6 from e) (by decide)), (List.forall_mem_cons.2 ⟨(fun e => absurd (show (1 : Nat) = 6 from e) (by decide)), (List.forall_mem_cons.2 ⟨(fun e => absurd (show (2 : Nat) = 6 from e) (by decide)), (List.forall_mem_cons.2 ⟨(fun e => absurd (show (3 : Nat) = 6 from e) (by decide)), (List.forall_mem_cons.2 ⟨(fun e => absurd (show (4 : Nat) = 6 from e) (by decide)), (List.forall_mem_cons.2 ⟨(fun e => absurd (show (5 : Nat) = 6 from e) (by decide)), (List.forall_mem_cons.2 ⟨(fun _ => rfl), (List.forall_mem_cons.2 ⟨(fun e => absurd (show (7 : Nat) = 6 from e) (by decide)), (fun _ h => nomatch h)⟩)⟩)⟩)⟩)⟩)⟩)⟩)⟩)
          have VM7 : (7, .pointer (some ⟨T, 3, none⟩)) ∈ VL := by rw [hVL]; exact (.tail _ (.tail _ (.tail _ (.tail _ (.tail _ (.tail _ (.tail _ (.head _))))))))
          have VU7 : ∀ pp ∈ VL, pp.1 = 7 → pp.2 = .pointer (some ⟨T, 3, none⟩) := by rw [hVL]; exact (List.forall_mem_cons.2 ⟨(fun e => absurd (show (0 : Nat) = 7 from e) (by decide)), (List.forall_mem_cons.2 ⟨(fun e => absurd (show (1 : Nat) = 7 from e) (by decide)), (List.forall_mem_cons.2 ⟨(fun e => absurd (show (2 : Nat) = 7 from e) (by decide)), (List.forall_mem_cons.2 ⟨(fun e => absurd (show (3 : Nat) = 7 from e) (by decide)), (List.forall_mem_cons.2 ⟨(fun e => absurd (show (4 : Nat) = 7 from e) (by decide)), (List.forall_mem_cons.2 ⟨(fun e => absurd (show (5 : Nat) = 7 from e) (by decide)), (List.forall_mem_cons.2 ⟨(fun e => absurd (show (6 : Nat) = 7 from e) (by decide)), (List.forall_mem_cons.2 ⟨(fun _ => rfl), (fun _ h => nomatch h)⟩)⟩)⟩)⟩)⟩)⟩)⟩)⟩)
          have VN8 : ∀ pp ∈ VL, pp.1 ≠ 8 := by rw [hVL]; exact (List.forall_mem_cons.2 ⟨(show (0 : Nat) ≠ 8 by decide), (List.forall_mem_cons.2 ⟨(show (1 : Nat) ≠ 8 by decide), (List.forall_mem_cons.2 ⟨(show (2 : Nat) ≠ 8 by decide), (List.forall_mem_cons.2 ⟨(show (3 : Nat) ≠ 8 by decide), (List.forall_mem_cons.2 ⟨(show (4 : Nat) ≠ 8 by decide), (List.forall_mem_cons.2 ⟨(show (5 : Nat) ≠ 8 by decide), (List.forall_mem_cons.2 ⟨(show (6 : Nat) ≠ 8 by decide), (List.forall_mem_cons.2 ⟨(show (7 : Nat) ≠ 8 by decide), (fun _ h => nomatch h)⟩)⟩)⟩)⟩)⟩)⟩)⟩)⟩)
          have hst7 : fr = puts fr (x0 fr SL) SL := puts_x0 fr SL (by rw [hSL]; decide)
          clear hVL
          refine wpAnyH_inv2 (JV fr SL VL (KS (fun W => Sv w W w.heap.size (w.heap.size + 1) T (planV pm pw pb) (costV n1 p r5 q) ∧ LsF W a6 n6 c6 Ls6 T (w.heap.size + 1)) (fun W => Sv w W w.heap.size (w.heap.size + 1) T (planV pm pw pb) ((costV n1 p r5 q).setIfInBounds 3 (.int .i64 ((q : Int) + ((blkS pb Ls6 : Nat) : Int)))) ∧ LsF W a6 n6 c6 Ls6 T (w.heap.size + 1)) 8)) (by kernel_rfl) ?steps7 ?done7 _ _ ?start7
          case start7 => exact ⟨_, hst7, VOK.start _ _ _, KS.start ⟨HS6.out.same ((Below.refl _ _).drew), HL6.out.same ((Below.refl _ _).drew)⟩⟩
          case steps7 =>
            clear hst7 hSL hfr
            refine ⟨?_, ?_, ?_, ?_, ?_, ?_, ?_, ?_, ?_, trivial⟩
            all_goals
              rintro LB ac w' hs hu haf hcl ⟨x, rfl, hv, hk⟩ K hK
            · have r7 := E7 x
              have hlast : LB.getD 8 false = false := by
                cases h : LB.getD 8 false with
                | false => rfl
                | true => exact absurd (hcl 8 _ rfl h ⟨0, .phase⟩ (by simp) rfl) (by rw [hu]; decide)
              have s0 := hk.1 hlast
              obtain ⟨p0, p1, p2⟩ := cells3 s0.1.pl
              obtain ⟨q0, q1, q2, q3⟩ := cellsQ s0.1.co
              rw [if_pos (by rfl)]
              refine wp_val (v := .pointer (some ⟨T, 3, none⟩)) ?_ (hK _ _ (jv_set (by rw [hs]; decide) (x := upd x 0 _) (puts_set SL fr hN1 hN2 M0) (hv.val 0 _ VU0) (hk.quiet 0 _ (by decide))))
              generalize (puts fr x SL).eval = ρ at r7 ⊢; go_simp
            · have r42 := (E42 x).trans (hv _ VM0 (haf ⟨0, .data⟩ (by simp) rfl))
              have hlast : LB.getD 8 false = false := by
                cases h : LB.getD 8 false with
                | false => rfl
                | true => exact absurd (hcl 8 _ rfl h ⟨1, .phase⟩ (by simp) rfl) (by rw [hu]; decide)
              have s0 := hk.1 hlast
              obtain ⟨p0, p1, p2⟩ := cells3 s0.1.pl
              obtain ⟨q0, q1, q2, q3⟩ := cellsQ s0.1.co
              rw [if_pos (by rfl)]
              refine wp_val (v := .int .i64 q) ?_ (hK _ _ (jv_set (by rw [hs]; decide) (x := upd x 1 _) (puts_set SL fr hN1 hN2 M1) (hv.val 1 _ VU1) (hk.quiet 1 _ (by decide))))
              generalize (puts fr x SL).eval = ρ at r42 ⊢; go_simp
            · have r6 := E6 x
              have hlast : LB.getD 8 false = false := by
                cases h : LB.getD 8 false with
                | false => rfl
                | true => exact absurd (hcl 8 _ rfl h ⟨2, .phase⟩ (by simp) rfl) (by rw [hu]; decide)
              have s0 := hk.1 hlast
              obtain ⟨p0, p1, p2⟩ := cells3 s0.1.pl
              obtain ⟨q0, q1, q2, q3⟩ := cellsQ s0.1.co
              rw [if_pos (by rfl)]
              refine wp_val (v := .slice a6 n6 c6) ?_ (hK _ _ (jv_set (by rw [hs]; decide) (x := upd x 2 _) (puts_set SL fr hN1 hN2 M2) (hv.val 2 _ VU2) (hk.quiet 2 _ (by decide))))
              generalize (puts fr x SL).eval = ρ at r6 ⊢; go_simp
            · have r3 := E3 x
              have hlast : LB.getD 8 false = false := by
                cases h : LB.getD 8 false with
                | false => rfl
                | true => exact absurd (hcl 8 _ rfl h ⟨3, .phase⟩ (by simp) rfl) (by rw [hu]; decide)
              have s0 := hk.1 hlast
              obtain ⟨p0, p1, p2⟩ := cells3 s0.1.pl
              obtain ⟨q0, q1, q2, q3⟩ := cellsQ s0.1.co
              rw [if_pos (by rfl)]
              refine wp_val (v := .pointer (some ⟨w.heap.size, 2, none⟩)) ?_ (hK _ _ (jv_set (by rw [hs]; decide) (x := upd x 3 _) (puts_set SL fr hN1 hN2 M3) (hv.val 3 _ VU3) (hk.quiet 3 _ (by decide))))
              generalize (puts fr x SL).eval = ρ at r3 ⊢; go_simp
            · have r45 := (E45 x).trans (hv _ VM3 (haf ⟨3, .data⟩ (by simp) rfl))
              have hlast : LB.getD 8 false = false := by
                cases h : LB.getD 8 false with
                | false => rfl
                | true => exact absurd (hcl 8 _ rfl h ⟨4, .phase⟩ (by simp) rfl) (by rw [hu]; decide)
              have s0 := hk.1 hlast
              obtain ⟨p0, p1, p2⟩ := cells3 s0.1.pl
              obtain ⟨q0, q1, q2, q3⟩ := cellsQ s0.1.co
              rw [if_pos (by rfl)]
              refine wp_val (v := .int .i64 pb) ?_ (hK _ _ (jv_set (by rw [hs]; decide) (x := upd x 4 _) (puts_set SL fr hN1 hN2 M4) (hv.val 4 _ VU4) (hk.quiet 4 _ (by decide))))
              generalize (puts fr x SL).eval = ρ at r45 ⊢; go_simp
            · have r44 := (E44 x).trans (hv _ VM2 (haf ⟨2, .data⟩ (by simp) rfl))
              have r46 := (E46 x).trans (hv _ VM4 (haf ⟨4, .data⟩ (by simp) rfl))
              have hlast : LB.getD 8 false = false := by
                cases h : LB.getD 8 false with
                | false => rfl
                | true => exact absurd (hcl 8 _ rfl h ⟨5, .chain⟩ (by simp) rfl) (by rw [hu]; decide)
              have s0 := hk.1 hlast
              obtain ⟨p0, p1, p2⟩ := cells3 s0.1.pl
              obtain ⟨q0, q1, q2, q3⟩ := cellsQ s0.1.co
              rw [if_pos (by rfl)]
              refine wp_callv (v := .int .i64 ((blkS pb Ls6 : Nat) : Int)) (G := fun w2 => Below w'.heap.size w' w2) ?_ (l17RunBlocks_any pb a6 n6 c6 Ls6 w' hpb0 (by omega) (by omega) HTY.out s0.2.ls) (fun e w2 h => ⟨h.1, by rw [← h.2]; exact Below.refl _ _⟩) (fun w2 hg => ?_)
              · rw [execOp_call_go]; generalize (puts fr x SL).eval = ρ at r44 r46 ⊢; go_simp
              · exact hK _ _ (jv_set (by rw [hs]; decide) (x := upd x 5 _) (puts_set SL fr hN1 hN2 M5) (hv.val 5 _ VU5) (KS.call (w := w') hlast ⟨s0.1.same hg, s0.2.same hg⟩ 5 _ (by decide)))
            · have r43 := (E43 x).trans (hv _ VM1 (haf ⟨1, .data⟩ (by simp) rfl))
              have r47 := (E47 x).trans (hv _ VM5 (haf ⟨5, .data⟩ (by simp) rfl))
              have hlast : LB.getD 8 false = false := by
                cases h : LB.getD 8 false with
                | false => rfl
                | true => exact absurd (hcl 8 _ rfl h ⟨6, .data⟩ (by simp) rfl) (by rw [hu]; decide)
              have s0 := hk.1 hlast
              obtain ⟨p0, p1, p2⟩ := cells3 s0.1.pl
              obtain ⟨q0, q1, q2, q3⟩ := cellsQ s0.1.co
              rw [if_pos (by rfl)]
              refine wp_val (v := .int .i64 ((q : Int) + ((blkS pb Ls6 : Nat) : Int))) ?_ (hK _ _ (jv_set (by rw [hs]; decide) (x := upd x 6 _) (puts_set SL fr hN1 hN2 M6) (hv.val 6 _ VU6) (hk.quiet 6 _ (by decide))))
              generalize (puts fr x SL).eval = ρ at r43 r47 ⊢; go_simp; exact IntWalk.i64_in _ (by omega)
            · have r7 := E7 x
              have hlast : LB.getD 8 false = false := by
                cases h : LB.getD 8 false with
                | false => rfl
                | true => exact absurd (hcl 8 _ rfl h ⟨7, .data⟩ (by simp) rfl) (by rw [hu]; decide)
              have s0 := hk.1 hlast
              obtain ⟨p0, p1, p2⟩ := cells3 s0.1.pl
              obtain ⟨q0, q1, q2, q3⟩ := cellsQ s0.1.co
              rw [if_pos (by rfl)]
              refine wp_val (v := .pointer (some ⟨T, 3, none⟩)) ?_ (hK _ _ (jv_set (by rw [hs]; decide) (x := upd x 7 _) (puts_set SL fr hN1 hN2 M7) (hv.val 7 _ VU7) (hk.quiet 7 _ (by decide))))
              generalize (puts fr x SL).eval = ρ at r7 ⊢; go_simp
            · have r49 := (E49 x).trans (hv _ VM7 (haf ⟨7, .data⟩ (by simp) rfl))
              have r48 := (E48 x).trans (hv _ VM6 (haf ⟨6, .data⟩ (by simp) rfl))
              rw [if_pos (by rfl)]
              have s0 := hk.1 hu
              obtain ⟨q0, q1, q2, q3⟩ := cellsQ s0.1.co
              have hf : w'.frozen? ⟨T, 3, none⟩ = false := frozen_of_row w' _ 3 _ _ s0.1.co
              refine wp_skip (w' := w'.setCell ⟨T, 3, none⟩ (.int .i64 ((q : Int) + ((blkS pb Ls6 : Nat) : Int)))) ?_ ?_
              · generalize (puts fr x SL).eval = ρ at r49 r48 ⊢; go_simp
              exact hK _ _ (jv_set (by rw [hs]; decide) (x := x) rfl (hv.none 8 VN8) (KS.last ⟨s0.1.setc 3 _, s0.2.next (grown_setN _ _ _ _)⟩))
          case done7 =>
            rintro LB ac w2 hall ⟨x, rfl, hv, hk⟩
            have v0 : x 0 = .pointer (some ⟨T, 3, none⟩) := hv _ VM0 (hall 0 (by decide))
            have v1 : x 1 = .int .i64 q := hv _ VM1 (hall 1 (by decide))
            have v2 : x 2 = .slice a6 n6 c6 := hv _ VM2 (hall 2 (by decide))
            have v3 : x 3 = .pointer (some ⟨w.heap.size, 2, none⟩) := hv _ VM3 (hall 3 (by decide))
            have v4 : x 4 = .int .i64 pb := hv _ VM4 (hall 4 (by decide))
            have v5 : x 5 = .int .i64 ((blkS pb Ls6 : Nat) : Int) := hv _ VM5 (hall 5 (by decide))
            have v6 : x 6 = .int .i64 ((q : Int) + ((blkS pb Ls6 : Nat) : Int)) := hv _ VM6 (hall 6 (by decide))
            have v7 : x 7 = .pointer (some ⟨T, 3, none⟩) := hv _ VM7 (hall 7 (by decide))
            have hs7 := hk.2 (hall 8 (by decide))
            clear hk
            rw [hSL]
            simp only [puts]
            clear M0 E42 M1 E43 M2 E44 M3 E45 M4 E46 M5 E47 M6 E48 M7 E49 E3 E6 E7 f3 f6 f7 VM0 VU0 VM1 VU1 VM2 VU2 VM3 VU3 VM4 VU4 VM5 VU5 VM6 VU6 VM7 VU7 VN8 hN1 hN2 hst7 hsz7
            clear hall hv v0 v1 v2 v3 v4 v5 v6 v7
            rw [hfr]
            simp only [Act.put, List.setIfInBounds_toArray, List.set_cons_succ, List.set_cons_zero]
            clear hfr hSL
            have HS7 : Hid (Sv w w2 w.heap.size (w.heap.size + 1) T (planV pm pw pb) (costV n1 p r5 (q + blkS pb Ls6))) := hs7.1
            have HL7 := Lib.hid hs7.2
            clear hs7
            obtain ⟨c0', c1', c2', c3'⟩ := cellsQ HS7.out.co
            have fz := frozen_of_row w2 _ 1 _ _ HS7.out.co
            have HS8 := Lib.hid HS7.out.pass
            have HL8 := Lib.hid (HL7.out.next (grown_setN w2 T 1 (.int .i64 ((p : Int) + 1))))
            clear HS7 HL7
            go_wp2_with fail
            go_roundw
            case rel => exact ⟨a6, n6, c6, Ls6, p + 1, r5, q + blkS pb Ls6, rfl, by omega, by omega, by omega, HS8, HL8, HAS6, HSR6, HCW6⟩
            case measure => simp only [lenV] <;> omega
      · have g1 : decide ((1 : Int) < (nx : Int)) = false := decide_eq_false (by omega)
        have HCO : Hid ((n1, p, r, q) = Mg.costOf n pm pw pb) := by
          show _ = _
          unfold Mg.costOf
          rw [← HCW.out, Mg.costW_end (by unfold lensOf; rw [List.length_map, hlx]; omega), ← HN1.out]
        clear HCW hbl htot
        by_cases h0 : nx = 0
        · subst h0
          have hE : Ls = [] := List.eq_nil_of_length_eq_zero hlx
          have hO : Mg.srtP L = [] := by rw [← HSR.out, hE]; rfl
          have hn0 : n = 0 := by rw [← hlen, ← srtP_len, hO]; rfl
          have HO := Lib.hid hO; have HN0 := Lib.hid hn0
          have HS2 := Lib.hid (HS.out.same ((Below.refl _ _).drew))
          clear hE hO hn0 hlx HAS HSR HTX HL
          go_wp2_with fail
          refine wp_with_act (fun fr hfr => ?_)
          have hsz9 : fr.tmps.size = 63 := by rw [hfr]; rfl
          have f5 : fr.eval (.tmp 5) = .pointer (some ⟨w.heap.size + 1, 0, none⟩) := by rw [hfr]; rfl
          have f7 : fr.eval (.tmp 7) = .pointer (some ⟨T, 0, none⟩) := by rw [hfr]; rfl
          refine wp_region_held_drew (S := fun _ => True) (by kernel_rfl) trivial (fun _ => ?_)
          obtain ⟨SL, hSL⟩ : ∃ l : List (Nat × Nat), l = [(0, 57), (1, 58), (2, 4)] := ⟨_, rfl⟩
          obtain ⟨VL, hVL⟩ : ∃ l : List (Nat × Value), l = [(1, .agg #[.int .i64 n1, .int .i64 p, .int .i64 r, .int .i64 q])] := ⟨_, rfl⟩
          have hN1 : (SL.map Prod.fst).Nodup := by rw [hSL]; decide
          have hN2 : (SL.map Prod.snd).Nodup := by rw [hSL]; decide
          have M0 : (0, 57) ∈ SL := by rw [hSL]; exact (.head _)
          have E57 : ∀ x, (puts fr x SL).eval (.tmp 57) = x 0 := fun x => eval_at SL fr hN2 M0 (by rw [hsz9]; decide)
          have M1 : (1, 58) ∈ SL := by rw [hSL]; exact (.tail _ (.head _))
          have E58 : ∀ x, (puts fr x SL).eval (.tmp 58) = x 1 := fun x => eval_at SL fr hN2 M1 (by rw [hsz9]; decide)
          have M2 : (2, 4) ∈ SL := by rw [hSL]; exact (.tail _ (.tail _ (.head _)))
          have E4 : ∀ x, (puts fr x SL).eval (.tmp 4) = x 2 := fun x => eval_at SL fr hN2 M2 (by rw [hsz9]; decide)
          have E5 : ∀ x, (puts fr x SL).eval (.tmp 5) = .pointer (some ⟨w.heap.size + 1, 0, none⟩) := fun x => (eval_far SL fr (by rw [hSL]; decide)).trans f5
          have E7 : ∀ x, (puts fr x SL).eval (.tmp 7) = .pointer (some ⟨T, 0, none⟩) := fun x => (eval_far SL fr (by rw [hSL]; decide)).trans f7
          have VM1 : (1, .agg #[.int .i64 n1, .int .i64 p, .int .i64 r, .int .i64 q]) ∈ VL := by rw [hVL]; exact (.head _)
          have VU1 : ∀ pp ∈ VL, pp.1 = 1 → pp.2 = .agg #[.int .i64 n1, .int .i64 p, .int .i64 r, .int .i64 q] := by rw [hVL]; exact (List.forall_mem_cons.2 ⟨(fun _ => rfl), (fun _ h => nomatch h)⟩)
          have VN0 : ∀ pp ∈ VL, pp.1 ≠ 0 := by rw [hVL]; exact (List.forall_mem_cons.2 ⟨(show (1 : Nat) ≠ 0 by decide), (fun _ h => nomatch h)⟩)
          have VN2 : ∀ pp ∈ VL, pp.1 ≠ 2 := by rw [hVL]; exact (List.forall_mem_cons.2 ⟨(show (1 : Nat) ≠ 2 by decide), (fun _ h => nomatch h)⟩)
          have VN3 : ∀ pp ∈ VL, pp.1 ≠ 3 := by rw [hVL]; exact (List.forall_mem_cons.2 ⟨(show (1 : Nat) ≠ 3 by decide), (fun _ h => nomatch h)⟩)
          have hst9 : fr = puts fr (x0 fr SL) SL := puts_x0 fr SL (by rw [hSL]; decide)
          clear hVL
          refine wpAnyH_inv2 (JV fr SL VL (K9 (fun W => Sv w W w.heap.size (w.heap.size + 1) T (planV pm pw pb) (costV n1 p r q)) (fun W => ∃ Wp, Sv w Wp w.heap.size (w.heap.size + 1) T (planV pm pw pb) (costV n1 p r q) ∧ W = Wp.setRow (w.heap.size + 1) (costV n1 p r q)))) (by kernel_rfl) ?steps9 ?done9 _ _ ?start9
          case start9 => exact ⟨_, hst9, VOK.start _ _ _, K9.start HS2.out⟩
          case steps9 =>
            clear hst9 hSL hfr
            refine ⟨?_, ?_, ?_, ?_, trivial⟩
            all_goals
              rintro LB ac w' hs hu haf hcl ⟨x, rfl, hv, hk⟩ K hK
            · have hlast : LB.getD 3 false = false := by
                cases h : LB.getD 3 false with
                | false => rfl
                | true => exact absurd (hcl 3 _ rfl h ⟨0, .phase⟩ (by simp) rfl) (by rw [hu]; decide)
              have s0 := hk.1.1 hlast
              obtain ⟨q0, q1, q2, q3⟩ := cellsQ s0.co
              rw [if_pos (by rfl)]
              refine wp_val (v := .slice (some ⟨w'.heap.size, 0, none⟩) 0 0) (w' := w'.alloc (.cells #[] 72)) ?_ (hK _ _ (jv_set (by rw [hs]; decide) (x := upd x 0 _) (puts_set SL fr hN1 hN2 M0) (hv.other 0 _ VN0) (K9.alloc hk hlast (s0.same (belowNew _ _)) _)))
              go_simp
            · have r7 := E7 x
              have hlast : LB.getD 3 false = false := by
                cases h : LB.getD 3 false with
                | false => rfl
                | true => exact absurd (hcl 3 _ rfl h ⟨1, .data⟩ (by simp) rfl) (by rw [hu]; decide)
              have s0 := hk.1.1 hlast
              obtain ⟨q0, q1, q2, q3⟩ := cellsQ s0.co
              rw [if_pos (by rfl)]
              refine wp_val (v := .agg #[.int .i64 n1, .int .i64 p, .int .i64 r, .int .i64 q]) ?_ (hK _ _ (jv_set (by rw [hs]; decide) (x := upd x 1 _) (puts_set SL fr hN1 hN2 M1) (hv.val 1 _ VU1) (K9.load hk _)))
              generalize (puts fr x SL).eval = ρ at r7 ⊢; go_simp
            · have hlast : LB.getD 3 false = false := by
                cases h : LB.getD 3 false with
                | false => rfl
                | true => exact absurd (hcl 3 _ rfl h ⟨2, .chain⟩ (by simp) rfl) (by rw [hu]; decide)
              have s0 := hk.1.1 hlast
              obtain ⟨q0, q1, q2, q3⟩ := cellsQ s0.co
              rw [if_pos (by rfl)]
              have r57 := E57 x
              refine wp_val (v := x 0) ?_ (hK _ _ (jv_set (by rw [hs]; decide) (x := upd x 2 _) (puts_set SL fr hN1 hN2 M2) (hv.other 2 _ VN2) (K9.assign hk (haf ⟨0, .data⟩ (by simp) rfl))))
              generalize (puts fr x SL).eval = ρ at r57 ⊢; go_simp
            · have r5 := E5 x
              have r58 := (E58 x).trans (hv _ VM1 (haf ⟨1, .data⟩ (by simp) rfl))
              rw [if_pos (by rfl)]
              have s0 := hk.1.1 hu
              refine wp_store_row _ _ _ rfl (w.heap.size + 1) #[.int .i64 n1, .int .i64 p, .int .i64 r, .int .i64 q] r5 r58 _ _ s0.rz (by kernel_rfl) rfl (by simp [Value.oneCell']) ?_
              exact hK _ _ (jv_set (by rw [hs]; decide) (x := x) rfl (hv.none 3 VN3) (K9.last hk ⟨_, s0, rfl⟩))
          case done9 =>
            rintro LB ac w2 hall ⟨x, rfl, hv, hk⟩
            have v1 : x 1 = .agg #[.int .i64 n1, .int .i64 p, .int .i64 r, .int .i64 q] := hv _ VM1 (hall 1 (by decide))
            obtain ⟨hks, -, hx2⟩ := hk
            obtain ⟨Wp, hsv, rfl⟩ := hks.2 (hall 3 (by decide))
            obtain ⟨g, eG⟩ := hx2 (hall 2 (by decide))
            clear hks hx2
            rw [hSL]
            simp only [puts]
            rw [eG]
            clear M0 E57 M1 E58 M2 E4 E5 E7 f5 f7 VM1 VU1 VN0 VN2 VN3 hN1 hN2 hst9 hsz9
            clear hall hv v1
            rw [hfr]
            simp only [Act.put, List.setIfInBounds_toArray, List.set_cons_succ, List.set_cons_zero]
            clear hfr hSL
            have hz := setRow_heap Wp (w.heap.size + 1) _ (costV n1 p r q) _ (0, 0) hsv.rz
            obtain ⟨z0, z1, z2, z3⟩ := cellsQ hz
            have HBZ := Lib.hid (hsv.bel.grown (setRow_grown Wp (w.heap.size + 1) (costV n1 p r q)) hsv.bel.size (fun k hk => by injection hk with hk; omega))
            clear hz hsv
            generalize Wp.setRow (w.heap.size + 1) (costV n1 p r q) = wz at z0 z1 z2 z3 HBZ ⊢
            go_wp2_with fail
            refine bodyPost_ret (v := .tuple #[.slice (some g) 0 0, .agg #[.int .i64 n1, .int .i64 p, .int .i64 r, .int .i64 q]]) (by simp [results, Try.results85, go_sem, z0, z1, z2, z3]) rfl ?_
            exact ⟨some g, 0, (n1, p, r, q), by rw [HN0.out]; rfl, HCO.out, by rw [HN0.out, HO.out]; exact rd_some _ _ _, HBZ.out⟩
        · obtain rfl : nx = 1 := by omega
          have hE : Ls = [Mg.srtP L] := Mg.last_run HSR.out HAS.out hlx
          obtain ⟨lb, lof, xa, d, rfl, hone⟩ := HL.out.one
          have hg0 : Ls.getD 0 [] = Mg.srtP L := by rw [hE]; rfl
          rw [hg0, srtP_len, hlen] at hone
          have HONE := Lib.hid hone
          have HSd := Lib.hid (HS.out.same ((Below.refl _ wr).drew))
          obtain ⟨hcd, -⟩ := hone wr.drew (.step (grown_of_below ((Below.refl _ _).drew)) (.inl rfl) (.refl _))
          obtain ⟨q0, q1, q2, q3⟩ := cellsQ HSd.out.co
          clear hE hg0 hone hlx HAS HSR HTX HL HS h0 h1
          go_wp2_with fail
          refine wp_with_act (fun fr hfr => ?_)
          have hsz10 : fr.tmps.size = 63 := by rw [hfr]; rfl
          have f5 : fr.eval (.tmp 5) = .pointer (some ⟨w.heap.size + 1, 0, none⟩) := by rw [hfr]; rfl
          have f6 : fr.eval (.tmp 6) = .slice (some ⟨lb, lof, none⟩) 1 cx := by rw [hfr]; rfl
          have f7 : fr.eval (.tmp 7) = .pointer (some ⟨T, 0, none⟩) := by rw [hfr]; rfl
          refine wp_region_held_drew (S := fun _ => True) (by kernel_rfl) trivial (fun _ => ?_)
          obtain ⟨SL, hSL⟩ : ∃ l : List (Nat × Nat), l = [(0, 59), (1, 60), (2, 61), (3, 62), (4, 4)] := ⟨_, rfl⟩
          obtain ⟨VL, hVL⟩ : ∃ l : List (Nat × Value), l = [(0, .slice (some ⟨lb, lof, none⟩) 1 cx), (1, .pointer (some ⟨lb, lof, none⟩)), (2, .slice xa n d), (3, .agg #[.int .i64 n1, .int .i64 p, .int .i64 r, .int .i64 q]), (4, .slice xa n d)] := ⟨_, rfl⟩
          have hN1 : (SL.map Prod.fst).Nodup := by rw [hSL]; decide
          have hN2 : (SL.map Prod.snd).Nodup := by rw [hSL]; decide
          have M0 : (0, 59) ∈ SL := by rw [hSL]; exact (.head _)
          have E59 : ∀ x, (puts fr x SL).eval (.tmp 59) = x 0 := fun x => eval_at SL fr hN2 M0 (by rw [hsz10]; decide)
          have M1 : (1, 60) ∈ SL := by rw [hSL]; exact (.tail _ (.head _))
          have E60 : ∀ x, (puts fr x SL).eval (.tmp 60) = x 1 := fun x => eval_at SL fr hN2 M1 (by rw [hsz10]; decide)
          have M2 : (2, 61) ∈ SL := by rw [hSL]; exact (.tail _ (.tail _ (.head _)))
          have E61 : ∀ x, (puts fr x SL).eval (.tmp 61) = x 2 := fun x => eval_at SL fr hN2 M2 (by rw [hsz10]; decide)
          have M3 : (3, 62) ∈ SL := by rw [hSL]; exact (.tail _ (.tail _ (.tail _ (.head _))))
          have E62 : ∀ x, (puts fr x SL).eval (.tmp 62) = x 3 := fun x => eval_at SL fr hN2 M3 (by rw [hsz10]; decide)
          have M4 : (4, 4) ∈ SL := by rw [hSL]; exact (.tail _ (.tail _ (.tail _ (.tail _ (.head _)))))
          have E4 : ∀ x, (puts fr x SL).eval (.tmp 4) = x 4 := fun x => eval_at SL fr hN2 M4 (by rw [hsz10]; decide)
          have E5 : ∀ x, (puts fr x SL).eval (.tmp 5) = .pointer (some ⟨w.heap.size + 1, 0, none⟩) := fun x => (eval_far SL fr (by rw [hSL]; decide)).trans f5
          have E6 : ∀ x, (puts fr x SL).eval (.tmp 6) = .slice (some ⟨lb, lof, none⟩) 1 cx := fun x => (eval_far SL fr (by rw [hSL]; decide)).trans f6
          have E7 : ∀ x, (puts fr x SL).eval (.tmp 7) = .pointer (some ⟨T, 0, none⟩) := fun x => (eval_far SL fr (by rw [hSL]; decide)).trans f7
          have VM0 : (0, .slice (some ⟨lb, lof, none⟩) 1 cx) ∈ VL := by rw [hVL]; exact (.head _)
          have VU0 : ∀ pp ∈ VL, pp.1 = 0 → pp.2 = .slice (some ⟨lb, lof, none⟩) 1 cx := by rw [hVL]; exact (List.forall_mem_cons.2 ⟨(fun _ => rfl), (List.forall_mem_cons.2 ⟨(fun e => absurd (show (1 : Nat) = 0 from e) (by decide)), (List.forall_mem_cons.2 ⟨(fun e => absurd (show (2 : Nat) = 0 from e) (by decide)), (List.forall_mem_cons.2 ⟨(fun e => absurd (show (3 : Nat) = 0 from e) (by decide)), (List.forall_mem_cons.2 ⟨(fun e => absurd (show (4 : Nat) = 0 from e) (by decide)), (fun _ h => nomatch h)⟩)⟩)⟩)⟩)⟩)
          have VM1 : (1, .pointer (some ⟨lb, lof, none⟩)) ∈ VL := by rw [hVL]; exact (.tail _ (.head _))
          have VU1 : ∀ pp ∈ VL, pp.1 = 1 → pp.2 = .pointer (some ⟨lb, lof, none⟩) := by rw [hVL]; exact (List.forall_mem_cons.2 ⟨(fun e => absurd (show (0 : Nat) = 1 from e) (by decide)), (List.forall_mem_cons.2 ⟨(fun _ => rfl), (List.forall_mem_cons.2 ⟨(fun e => absurd (show (2 : Nat) = 1 from e) (by decide)), (List.forall_mem_cons.2 ⟨(fun e => absurd (show (3 : Nat) = 1 from e) (by decide)), (List.forall_mem_cons.2 ⟨(fun e => absurd (show (4 : Nat) = 1 from e) (by decide)), (fun _ h => nomatch h)⟩)⟩)⟩)⟩)⟩)
          have VM2 : (2, .slice xa n d) ∈ VL := by rw [hVL]; exact (.tail _ (.tail _ (.head _)))
          have VU2 : ∀ pp ∈ VL, pp.1 = 2 → pp.2 = .slice xa n d := by rw [hVL]; exact (List.forall_mem_cons.2 ⟨(fun e => absurd (show (0 : Nat) = 2 from e) (by decide)), (List.forall_mem_cons.2 ⟨(fun e => absurd (show (1 : Nat) = 2 from e) (by decide)), (List.forall_mem_cons.2 ⟨(fun _ => rfl), (List.forall_mem_cons.2 ⟨(fun e => absurd (show (3 : Nat) = 2 from e) (by decide)), (List.forall_mem_cons.2 ⟨(fun e => absurd (show (4 : Nat) = 2 from e) (by decide)), (fun _ h => nomatch h)⟩)⟩)⟩)⟩)⟩)
          have VM3 : (3, .agg #[.int .i64 n1, .int .i64 p, .int .i64 r, .int .i64 q]) ∈ VL := by rw [hVL]; exact (.tail _ (.tail _ (.tail _ (.head _))))
          have VU3 : ∀ pp ∈ VL, pp.1 = 3 → pp.2 = .agg #[.int .i64 n1, .int .i64 p, .int .i64 r, .int .i64 q] := by rw [hVL]; exact (List.forall_mem_cons.2 ⟨(fun e => absurd (show (0 : Nat) = 3 from e) (by decide)), (List.forall_mem_cons.2 ⟨(fun e => absurd (show (1 : Nat) = 3 from e) (by decide)), (List.forall_mem_cons.2 ⟨(fun e => absurd (show (2 : Nat) = 3 from e) (by decide)), (List.forall_mem_cons.2 ⟨(fun _ => rfl), (List.forall_mem_cons.2 ⟨(fun e => absurd (show (4 : Nat) = 3 from e) (by decide)), (fun _ h => nomatch h)⟩)⟩)⟩)⟩)⟩)
          have VM4 : (4, .slice xa n d) ∈ VL := by rw [hVL]; exact (.tail _ (.tail _ (.tail _ (.tail _ (.head _)))))
          have VU4 : ∀ pp ∈ VL, pp.1 = 4 → pp.2 = .slice xa n d := by rw [hVL]; exact (List.forall_mem_cons.2 ⟨(fun e => absurd (show (0 : Nat) = 4 from e) (by decide)), (List.forall_mem_cons.2 ⟨(fun e => absurd (show (1 : Nat) = 4 from e) (by decide)), (List.forall_mem_cons.2 ⟨(fun e => absurd (show (2 : Nat) = 4 from e) (by decide)), (List.forall_mem_cons.2 ⟨(fun e => absurd (show (3 : Nat) = 4 from e) (by decide)), (List.forall_mem_cons.2 ⟨(fun _ => rfl), (fun _ h => nomatch h)⟩)⟩)⟩)⟩)⟩)
          have VN5 : ∀ pp ∈ VL, pp.1 ≠ 5 := by rw [hVL]; exact (List.forall_mem_cons.2 ⟨(show (0 : Nat) ≠ 5 by decide), (List.forall_mem_cons.2 ⟨(show (1 : Nat) ≠ 5 by decide), (List.forall_mem_cons.2 ⟨(show (2 : Nat) ≠ 5 by decide), (List.forall_mem_cons.2 ⟨(show (3 : Nat) ≠ 5 by decide), (List.forall_mem_cons.2 ⟨(show (4 : Nat) ≠ 5 by decide), (fun _ h => nomatch h)⟩)⟩)⟩)⟩)⟩)
          have hst10 : fr = puts fr (x0 fr SL) SL := puts_x0 fr SL (by rw [hSL]; decide)
          clear hVL
          refine wpAnyH_inv2 (JV fr SL VL (KS (fun W => W = wr.drew) (fun W => W = wr.drew.setRow (w.heap.size + 1) (costV n1 p r q)) 5)) (by kernel_rfl) ?steps10 ?done10 _ _ ?start10
          case start10 => exact ⟨_, hst10, VOK.start _ _ _, KS.start rfl⟩
          case steps10 =>
            clear hst10 hSL hfr
            refine ⟨?_, ?_, ?_, ?_, ?_, ?_, trivial⟩
            all_goals
              rintro LB ac w' hs hu haf hcl ⟨x, rfl, hv, hk⟩ K hK
            · have r6 := E6 x
              have hlast : LB.getD 5 false = false := by
                cases h : LB.getD 5 false with
                | false => rfl
                | true => exact absurd (hcl 5 _ rfl h ⟨0, .phase⟩ (by simp) rfl) (by rw [hu]; decide)
              have s0 := hk.1 hlast
              subst s0
              rw [if_pos (by rfl)]
              refine wp_val (v := .slice (some ⟨lb, lof, none⟩) 1 cx) ?_ (hK _ _ (jv_set (by rw [hs]; decide) (x := upd x 0 _) (puts_set SL fr hN1 hN2 M0) (hv.val 0 _ VU0) (hk.quiet 0 _ (by decide))))
              generalize (puts fr x SL).eval = ρ at r6 ⊢; go_simp
            · have r59 := (E59 x).trans (hv _ VM0 (haf ⟨0, .data⟩ (by simp) rfl))
              have rc0 : (puts fr x SL).eval (.const (.int .i64 0)) = .int .i64 0 := rfl
              have hlast : LB.getD 5 false = false := by
                cases h : LB.getD 5 false with
                | false => rfl
                | true => exact absurd (hcl 5 _ rfl h ⟨1, .phase⟩ (by simp) rfl) (by rw [hu]; decide)
              have s0 := hk.1 hlast
              subst s0
              rw [if_pos (by rfl)]
              refine wp_val (v := .pointer (some ⟨lb, lof, none⟩)) ?_ (hK _ _ (jv_set (by rw [hs]; decide) (x := upd x 1 _) (puts_set SL fr hN1 hN2 M1) (hv.val 1 _ VU1) (hk.quiet 1 _ (by decide))))
              generalize (puts fr x SL).eval = ρ at r59 rc0 ⊢; go_simp
            · have r60 := (E60 x).trans (hv _ VM1 (haf ⟨1, .data⟩ (by simp) rfl))
              have hlast : LB.getD 5 false = false := by
                cases h : LB.getD 5 false with
                | false => rfl
                | true => exact absurd (hcl 5 _ rfl h ⟨2, .phase⟩ (by simp) rfl) (by rw [hu]; decide)
              have s0 := hk.1 hlast
              subst s0
              rw [if_pos (by rfl)]
              refine wp_val (v := .slice xa n d) ?_ (hK _ _ (jv_set (by rw [hs]; decide) (x := upd x 2 _) (puts_set SL fr hN1 hN2 M2) (hv.val 2 _ VU2) (hk.quiet 2 _ (by decide))))
              generalize (puts fr x SL).eval = ρ at r60 ⊢; go_simp
            · have r7 := E7 x
              have hlast : LB.getD 5 false = false := by
                cases h : LB.getD 5 false with
                | false => rfl
                | true => exact absurd (hcl 5 _ rfl h ⟨3, .data⟩ (by simp) rfl) (by rw [hu]; decide)
              have s0 := hk.1 hlast
              subst s0
              rw [if_pos (by rfl)]
              refine wp_val (v := .agg #[.int .i64 n1, .int .i64 p, .int .i64 r, .int .i64 q]) ?_ (hK _ _ (jv_set (by rw [hs]; decide) (x := upd x 3 _) (puts_set SL fr hN1 hN2 M3) (hv.val 3 _ VU3) (hk.quiet 3 _ (by decide))))
              generalize (puts fr x SL).eval = ρ at r7 ⊢; go_simp
            · have r61 := (E61 x).trans (hv _ VM2 (haf ⟨2, .data⟩ (by simp) rfl))
              have hlast : LB.getD 5 false = false := by
                cases h : LB.getD 5 false with
                | false => rfl
                | true => exact absurd (hcl 5 _ rfl h ⟨4, .chain⟩ (by simp) rfl) (by rw [hu]; decide)
              have s0 := hk.1 hlast
              subst s0
              rw [if_pos (by rfl)]
              refine wp_val (v := .slice xa n d) ?_ (hK _ _ (jv_set (by rw [hs]; decide) (x := upd x 4 _) (puts_set SL fr hN1 hN2 M4) (hv.val 4 _ VU4) (hk.quiet 4 _ (by decide))))
              generalize (puts fr x SL).eval = ρ at r61 ⊢; go_simp
            · have r5 := E5 x
              have r62 := (E62 x).trans (hv _ VM3 (haf ⟨3, .data⟩ (by simp) rfl))
              rw [if_pos (by rfl)]
              have s0 := hk.1 hu
              subst s0
              refine wp_store_row _ _ _ rfl (w.heap.size + 1) #[.int .i64 n1, .int .i64 p, .int .i64 r, .int .i64 q] r5 r62 _ _ HSd.out.rz (by kernel_rfl) rfl (by simp [Value.oneCell']) ?_
              exact hK _ _ (jv_set (by rw [hs]; decide) (x := x) rfl (hv.none 5 VN5) (KS.last rfl))
          case done10 =>
            rintro LB ac w2 hall ⟨x, rfl, hv, hk⟩
            have v0 : x 0 = .slice (some ⟨lb, lof, none⟩) 1 cx := hv _ VM0 (hall 0 (by decide))
            have v1 : x 1 = .pointer (some ⟨lb, lof, none⟩) := hv _ VM1 (hall 1 (by decide))
            have v2 : x 2 = .slice xa n d := hv _ VM2 (hall 2 (by decide))
            have v3 : x 3 = .agg #[.int .i64 n1, .int .i64 p, .int .i64 r, .int .i64 q] := hv _ VM3 (hall 3 (by decide))
            have v4 : x 4 = .slice xa n d := hv _ VM4 (hall 4 (by decide))
            have hww := hk.2 (hall 5 (by decide))
            subst hww
            clear hk
            rw [hSL]
            simp only [puts]
            rw [v4]
            clear M0 E59 M1 E60 M2 E61 M3 E62 M4 E4 E5 E6 E7 f5 f6 f7 VM0 VU0 VM1 VU1 VM2 VU2 VM3 VU3 VM4 VU4 VN5 hN1 hN2 hst10 hsz10
            clear hall hv v0 v1 v2 v3 v4
            rw [hfr]
            simp only [Act.put, List.setIfInBounds_toArray, List.set_cons_succ, List.set_cons_zero]
            clear hfr hSL
            have hz := setRow_heap wr.drew (w.heap.size + 1) _ (costV n1 p r q) _ (0, 0) HSd.out.rz
            obtain ⟨z0, z1, z2, z3⟩ := cellsQ hz
            have HBZ := Lib.hid (HSd.out.bel.grown (setRow_grown wr.drew (w.heap.size + 1) (costV n1 p r q)) HSd.out.bel.size (fun k hk => by injection hk with hk; omega))
            have HRZ := Lib.hid (HONE.out (wr.drew.setRow (w.heap.size + 1) (costV n1 p r q)) (.step (grown_of_below ((Below.refl _ _).drew)) (.inl rfl) (.step (setRow_grown _ _ _) (.inr rfl) (.refl _)))).2
            clear hz q0 q1 q2 q3 hcd HSd HONE
            generalize wr.drew.setRow (w.heap.size + 1) (costV n1 p r q) = wz at z0 z1 z2 z3 HBZ HRZ ⊢
            go_wp2_with fail
            refine bodyPost_ret (v := .tuple #[.slice xa n d, .agg #[.int .i64 n1, .int .i64 p, .int .i64 r, .int .i64 q]]) (by simp [results, Try.results85, go_sem, z0, z1, z2, z3]) rfl ?_
            exact ⟨xa, d, (n1, p, r, q), rfl, HCO.out, HRZ.out, HBZ.out⟩

end Go.Proofs.Ytkckmjajjdpodaa
