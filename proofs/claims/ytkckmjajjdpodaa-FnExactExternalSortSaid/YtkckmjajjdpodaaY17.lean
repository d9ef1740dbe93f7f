/- Several texts in one: lemmas and walks of the functions that the laws reach. -/
import Derived.Test.YtkckmjajjdpodaaY16
import Derived.Test.YtkckmjajjdpodaaY0

/- Walks: the predicted cost: both packages. -/
namespace Go.Proofs.Ytkckmjajjdpodaa
open Go.RowKit Go.Sort
set_option linter.unusedVariables false

theorem rd_made {w : World} {g n : Nat} (h : w.heap[g]? = some (.cells (madeCells (Value.cells (.agg #[.int .i64 0, .int .i64 0])) (n * 2)) 72 (0, 0))) (hn : n ≤ 1000) : Rd w (some ⟨g, 0, none⟩) n n (List.replicate n (0, 0)) := by
  have e1 : (madeCells #[.int .i64 0, .int .i64 0] (n * 2)).toList = flat encR (List.replicate n ((0 : Int), (0 : Int))) := made2 encR_len (0, 0) _ _ rfl n
  have e0 : (flat encR (List.replicate n ((0 : Int), (0 : Int)))).length = n * 2 := by rw [flat_length encR_len, List.length_replicate]
  have e2 : (madeCells #[.int .i64 0, .int .i64 0] (n * 2)).size = n * 2 := by rw [← Array.length_toList, e1, e0]
  refine rd_own (B := 0) (e := 72) ⟨by rw [e0], .inr ⟨g, n, _, rfl, Nat.zero_le _, h, Nat.le_refl _, by unfold maxLen; omega, e2, ?_⟩⟩
  show ((madeCells #[.int .i64 0, .int .i64 0] (n * 2)).toList).take _ = _
  rw [e1, List.take_of_length_le (by rw [e0]; exact Nat.le_refl _)]
theorem wp_callE {P : Program} {Q : Exit → Act → World → Prop} {o : Oper} {a : Act} {w : World} {K : Act → World → Prop} {f : FuncId} {args : Array Value} {R : Ending → World → Prop} {G : Value → World → Prop} (he : (execOp a.eval o).run P w = .ok (.enter f args) w) (hc : Calls P f args w R)
    (hr : ∀ e w', R e w' → ∃ v, e = .returned v ∧ G v w') (hk : ∀ v w', G v w' → K (a.put o.dst v) w') : Oper.wp P o a w K Q := by
  unfold Oper.wp
  rw [he, Oper.upon_enter]
  refine hc.mono fun e w' h => ?_
  obtain ⟨v, rfl, g⟩ := hr e w' h
  exact hk v w' g
/-- A list is made (mk), a call made of it (3), its results parted (4); a block is made (7) and written (9). -/
def KP (wR : World) (mk n : Nat) (C : Array Value) (b : Nat → Bool) (x : Nat → Value) (w : World) : Prop :=
  KA wR 7 9 30 z4 C b x w ∧ (b 9 = false → b mk = true → ∃ g, x mk = .slice (some ⟨g, 0, none⟩) n n ∧ Rd w (some ⟨g, 0, none⟩) n n (List.replicate n (0, 0))) ∧
  (b 3 = true → ∃ a c, x 3 = .tuple #[.slice a n c, .agg C]) ∧ (b 4 = true → ∃ a c, x 4 = .tuple #[.slice a n c, .agg C])
theorem KP.start {wR : World} {mk n k : Nat} {C : Array Value} (x : Nat → Value) : KP wR mk n C (fun j => (Array.replicate k false).getD j false) x wR :=
  ⟨KA.start x, fun _ h => absurd ((rep_false k mk).symm.trans h) (by decide), fun h => absurd ((rep_false k 3).symm.trans h) (by decide), fun h => absurd ((rep_false k 4).symm.trans h) (by decide)⟩
theorem KP.go {wR w w' : World} {mk n : Nat} {C : Array Value} {b : Nat → Bool} {x : Nat → Value} (h : KP wR mk n C b x w) (k : Nat) (v : Value) (h7 : 7 ≠ k) (h9 : 9 ≠ k) (hb : Below w.heap.size w w')
    (hm : k = mk → ∃ g, v = .slice (some ⟨g, 0, none⟩) n n ∧ Rd w' (some ⟨g, 0, none⟩) n n (List.replicate n (0, 0))) (h3 : k = 3 → ∃ a c, v = .tuple #[.slice a n c, .agg C]) (h4 : k = 4 → ∃ a c, v = .tuple #[.slice a n c, .agg C]) : KP wR mk n C (upd b k true) (upd x k v) w' := by
  refine ⟨h.1.call hb k v h7 h9, fun e9 e2 => ?_, fun e3 => ?_, fun e4 => ?_⟩
  · rw [upd_ne h9] at e9
    by_cases e : k = mk
    · obtain ⟨g, f1, f2⟩ := hm e
      subst e
      exact ⟨g, by rw [upd_same]; exact f1, f2⟩
    · rw [upd_ne (Ne.symm e)] at e2
      obtain ⟨g, f1, f2⟩ := h.2.1 e9 e2
      exact ⟨g, by rw [upd_ne (Ne.symm e)]; exact f1, f2.same hb⟩
  · by_cases e : k = 3
    · obtain ⟨a, c, f⟩ := h3 e
      subst e
      exact ⟨a, c, by rw [upd_same]; exact f⟩
    · rw [upd_ne (Ne.symm e)] at e3 ⊢
      exact h.2.2.1 e3
  · by_cases e : k = 4
    · obtain ⟨a, c, f⟩ := h4 e
      subst e
      exact ⟨a, c, by rw [upd_same]; exact f⟩
    · rw [upd_ne (Ne.symm e)] at e4 ⊢
      exact h.2.2.2 e4
theorem KP.alloc {wR w : World} {mk n : Nat} {C : Array Value} {b : Nat → Bool} {x : Nat → Value} (h : KP wR mk n C b x w) (hu : b 7 = false) (hm : mk ≠ 7) : KP wR mk n C (upd b 7 true) (upd x 7 (.pointer (some ⟨w.heap.size, 0, none⟩))) (w.alloc (.cells z4 30)) := by
  refine ⟨h.1.alloc hu (by decide), fun e9 e2 => ?_, fun e3 => ?_, fun e4 => ?_⟩
  · rw [upd_ne (by decide)] at e9
    rw [upd_ne hm] at e2
    obtain ⟨g, f1, f2⟩ := h.2.1 e9 e2
    exact ⟨g, by rw [upd_ne hm]; exact f1, f2.same (belowNew _ _)⟩
  · rw [upd_ne (by decide)] at e3 ⊢; exact h.2.2.1 e3
  · rw [upd_ne (by decide)] at e4 ⊢; exact h.2.2.2 e4
theorem KP.store {wR w : World} {mk n T : Nat} {C : Array Value} {b : Nat → Bool} {x : Nat → Value} (h : KP wR mk n C b x w) (hi : b 7 = true) (hx : x 7 = .pointer (some ⟨T, 0, none⟩)) (hT : w.heap[T]? = some (.cells z4 30 (0, 0))) : KP wR mk n C (upd b 9 true) x (w.setRow T C) :=
  ⟨h.1.store hi (by decide) hx hT, fun e9 => (by rw [upd_same] at e9; cases e9), fun e3 => (by rw [upd_ne (by decide)] at e3; exact h.2.2.1 e3), fun e4 => (by rw [upd_ne (by decide)] at e4; exact h.2.2.2 e4)⟩

set_option maxRecDepth 100000 in
set_option maxHeartbeats 1000000 in
theorem predict_any (n pm pw pb : Nat) (w : World) (hok : planOk pm pw pb = true) (hn : n ≤ 64) {i0 i1 i2 i3 : Nat} (hC : Mg.costOf n pm pw pb = (i0, i1, i2, i3)) :
    Calls Try.prog 88 #[.agg #[.int .i64 pm, .int .i64 pw, .int .i64 pb], .int .i64 n] w fun e w' => e = .returned (.agg #[.int .i64 i0, .int .i64 i1, .int .i64 i2, .int .i64 i3]) ∧ Below w.heap.size w w' := by
  obtain ⟨wa, hwa⟩ : ∃ W, W = w.alloc (.cells #[.int .i64 pm, .int .i64 pw, .int .i64 pb] 26) := ⟨_, rfl⟩
  obtain ⟨wb, hwb⟩ : ∃ W, W = wa.alloc (.cells #[.int .i64 0, .int .i64 0, .int .i64 0, .int .i64 0] 30) := ⟨_, rfl⟩
  have sa : wa.heap.size = w.heap.size + 1 := by rw [hwa]; simp
  have sb : wb.heap.size = w.heap.size + 2 := by rw [hwb]; simp; omega
  have ba : Below w.heap.size w wa := by rw [hwa]; exact belowNew _ _
  have bb : Below wa.heap.size wa wb := by rw [hwb]; exact belowNew _ _
  have ha : wa.heap[w.heap.size]? = some (.cells (planV pm pw pb) 26 (0, 0)) := by rw [hwa]; exact block_new _ _
  have hb1 : wb.heap[w.heap.size]? = some (.cells (planV pm pw pb) 26 (0, 0)) := block_below ha bb (by omega)
  have hb2 : wb.heap[w.heap.size + 1]? = some (.cells z4 30 (0, 0)) := by rw [hwb, ← sa]; exact block_new _ _
  have HB := Lib.hid (below_tr ba bb ba.size)
  have HP := Lib.hid hb1; have HZ := Lib.hid hb2
  have HOK := Lib.hid hok; have HC := Lib.hid hC
  clear ha hb1 hb2 ba bb hok hC
  obtain ⟨wR, hwR⟩ : ∃ W, W = wb.drew := ⟨_, rfl⟩
  have hbR : Below wb.heap.size wb wR := by rw [hwR]; exact (Below.refl _ _).drew
  have hszR : wR.heap.size = wb.heap.size := by rw [hwR]; rfl
  have HPR := Lib.hid (block_below HP.out hbR (hlt_of HP.out)); have HZR := Lib.hid (block_below HZ.out hbR (hlt_of HZ.out))
  have HBR := Lib.hid (below_tr HB.out hbR HB.out.size)
  have HPC : Hid (∀ W, Below wR.heap.size wR W → W.cell? ⟨w.heap.size, 0, none⟩ = some (.int .i64 pm) ∧ W.cell? ⟨w.heap.size, 1, none⟩ = some (.int .i64 pw) ∧ W.cell? ⟨w.heap.size, 2, none⟩ = some (.int .i64 pb)) := fun W hb => cells3 (block_below HPR.out hb (hlt_of HPR.out))
  clear HP HZ HB hbR
  subst hwb
  subst hwa
  go_enter Try.func88, Try.ntmps88
  go_wp2_with fail
  refine wp_with_act (fun fr hfr => ?_)
  have hsz1 : fr.tmps.size = 15 := by rw [hfr]; rfl
  have f1 : fr.eval (.tmp 1) = .int .i64 n := by rw [hfr]; rfl
  have f2 : fr.eval (.tmp 2) = .pointer (some ⟨w.heap.size, 0, none⟩) := by rw [hfr]; rfl
  refine wp_region_held_drew (S := fun _ => True) (by kernel_rfl) trivial (fun _ => ?_)
  rw [← hwR]
  obtain ⟨SL, hSL⟩ : ∃ l : List (Nat × Nat), l = [(0, 8), (1, 9), (2, 10), (3, 11), (4, 7), (5, 12), (6, 13), (7, 6), (8, 5)] := ⟨_, rfl⟩
  obtain ⟨VL, hVL⟩ : ∃ l : List (Nat × Value), l = [(0, .agg #[.int .i64 pm, .int .i64 pw, .int .i64 pb]), (1, .int .i64 n), (6, .agg #[.int .i64 i0, .int .i64 i1, .int .i64 i2, .int .i64 i3])] := ⟨_, rfl⟩
  have hN1 : (SL.map Prod.fst).Nodup := by rw [hSL]; decide
  have hN2 : (SL.map Prod.snd).Nodup := by rw [hSL]; decide
  have M0 : (0, 8) ∈ SL := by rw [hSL]; exact (.head _)
  have E8 : ∀ x, (puts fr x SL).eval (.tmp 8) = x 0 := fun x => eval_at SL fr hN2 M0 (by rw [hsz1]; decide)
  have M1 : (1, 9) ∈ SL := by rw [hSL]; exact (.tail _ (.head _))
  have E9 : ∀ x, (puts fr x SL).eval (.tmp 9) = x 1 := fun x => eval_at SL fr hN2 M1 (by rw [hsz1]; decide)
  have M2 : (2, 10) ∈ SL := by rw [hSL]; exact (.tail _ (.tail _ (.head _)))
  have E10 : ∀ x, (puts fr x SL).eval (.tmp 10) = x 2 := fun x => eval_at SL fr hN2 M2 (by rw [hsz1]; decide)
  have M3 : (3, 11) ∈ SL := by rw [hSL]; exact (.tail _ (.tail _ (.tail _ (.head _))))
  have E11 : ∀ x, (puts fr x SL).eval (.tmp 11) = x 3 := fun x => eval_at SL fr hN2 M3 (by rw [hsz1]; decide)
  have M4 : (4, 7) ∈ SL := by rw [hSL]; exact (.tail _ (.tail _ (.tail _ (.tail _ (.head _)))))
  have E7 : ∀ x, (puts fr x SL).eval (.tmp 7) = x 4 := fun x => eval_at SL fr hN2 M4 (by rw [hsz1]; decide)
  have M5 : (5, 12) ∈ SL := by rw [hSL]; exact (.tail _ (.tail _ (.tail _ (.tail _ (.tail _ (.head _))))))
  have E12 : ∀ x, (puts fr x SL).eval (.tmp 12) = x 5 := fun x => eval_at SL fr hN2 M5 (by rw [hsz1]; decide)
  have M6 : (6, 13) ∈ SL := by rw [hSL]; exact (.tail _ (.tail _ (.tail _ (.tail _ (.tail _ (.tail _ (.head _)))))))
  have E13 : ∀ x, (puts fr x SL).eval (.tmp 13) = x 6 := fun x => eval_at SL fr hN2 M6 (by rw [hsz1]; decide)
  have M7 : (7, 6) ∈ SL := by rw [hSL]; exact (.tail _ (.tail _ (.tail _ (.tail _ (.tail _ (.tail _ (.tail _ (.head _))))))))
  have E6 : ∀ x, (puts fr x SL).eval (.tmp 6) = x 7 := fun x => eval_at SL fr hN2 M7 (by rw [hsz1]; decide)
  have M8 : (8, 5) ∈ SL := by rw [hSL]; exact (.tail _ (.tail _ (.tail _ (.tail _ (.tail _ (.tail _ (.tail _ (.tail _ (.head _)))))))))
  have E5 : ∀ x, (puts fr x SL).eval (.tmp 5) = x 8 := fun x => eval_at SL fr hN2 M8 (by rw [hsz1]; decide)
  have E1 : ∀ x, (puts fr x SL).eval (.tmp 1) = .int .i64 n := fun x => (eval_far SL fr (by rw [hSL]; decide)).trans f1
  have E2 : ∀ x, (puts fr x SL).eval (.tmp 2) = .pointer (some ⟨w.heap.size, 0, none⟩) := fun x => (eval_far SL fr (by rw [hSL]; decide)).trans f2
  have VM0 : (0, .agg #[.int .i64 pm, .int .i64 pw, .int .i64 pb]) ∈ VL := by rw [hVL]; exact (.head _)
  have VU0 : ∀ pp ∈ VL, pp.1 = 0 → pp.2 = .agg #[.int .i64 pm, .int .i64 pw, .int .i64 pb] := by rw [hVL]; exact (List.forall_mem_cons.2 ⟨(fun _ => rfl), (List.forall_mem_cons.2 ⟨(fun e => absurd (show (1 : Nat) = 0 from e) (by decide)), (List.forall_mem_cons.2 ⟨(fun e => absurd (show (6 : Nat) = 0 from e) (by decide)), (fun _ h => nomatch h)⟩)⟩)⟩)
  have VM1 : (1, .int .i64 n) ∈ VL := by rw [hVL]; exact (.tail _ (.head _))
  have VU1 : ∀ pp ∈ VL, pp.1 = 1 → pp.2 = .int .i64 n := by rw [hVL]; exact (List.forall_mem_cons.2 ⟨(fun e => absurd (show (0 : Nat) = 1 from e) (by decide)), (List.forall_mem_cons.2 ⟨(fun _ => rfl), (List.forall_mem_cons.2 ⟨(fun e => absurd (show (6 : Nat) = 1 from e) (by decide)), (fun _ h => nomatch h)⟩)⟩)⟩)
  have VM6 : (6, .agg #[.int .i64 i0, .int .i64 i1, .int .i64 i2, .int .i64 i3]) ∈ VL := by rw [hVL]; exact (.tail _ (.tail _ (.head _)))
  have VU6 : ∀ pp ∈ VL, pp.1 = 6 → pp.2 = .agg #[.int .i64 i0, .int .i64 i1, .int .i64 i2, .int .i64 i3] := by rw [hVL]; exact (List.forall_mem_cons.2 ⟨(fun e => absurd (show (0 : Nat) = 6 from e) (by decide)), (List.forall_mem_cons.2 ⟨(fun e => absurd (show (1 : Nat) = 6 from e) (by decide)), (List.forall_mem_cons.2 ⟨(fun _ => rfl), (fun _ h => nomatch h)⟩)⟩)⟩)
  have VN2 : ∀ pp ∈ VL, pp.1 ≠ 2 := by rw [hVL]; exact (List.forall_mem_cons.2 ⟨(show (0 : Nat) ≠ 2 by decide), (List.forall_mem_cons.2 ⟨(show (1 : Nat) ≠ 2 by decide), (List.forall_mem_cons.2 ⟨(show (6 : Nat) ≠ 2 by decide), (fun _ h => nomatch h)⟩)⟩)⟩)
  have VN3 : ∀ pp ∈ VL, pp.1 ≠ 3 := by rw [hVL]; exact (List.forall_mem_cons.2 ⟨(show (0 : Nat) ≠ 3 by decide), (List.forall_mem_cons.2 ⟨(show (1 : Nat) ≠ 3 by decide), (List.forall_mem_cons.2 ⟨(show (6 : Nat) ≠ 3 by decide), (fun _ h => nomatch h)⟩)⟩)⟩)
  have VN4 : ∀ pp ∈ VL, pp.1 ≠ 4 := by rw [hVL]; exact (List.forall_mem_cons.2 ⟨(show (0 : Nat) ≠ 4 by decide), (List.forall_mem_cons.2 ⟨(show (1 : Nat) ≠ 4 by decide), (List.forall_mem_cons.2 ⟨(show (6 : Nat) ≠ 4 by decide), (fun _ h => nomatch h)⟩)⟩)⟩)
  have VN5 : ∀ pp ∈ VL, pp.1 ≠ 5 := by rw [hVL]; exact (List.forall_mem_cons.2 ⟨(show (0 : Nat) ≠ 5 by decide), (List.forall_mem_cons.2 ⟨(show (1 : Nat) ≠ 5 by decide), (List.forall_mem_cons.2 ⟨(show (6 : Nat) ≠ 5 by decide), (fun _ h => nomatch h)⟩)⟩)⟩)
  have VN7 : ∀ pp ∈ VL, pp.1 ≠ 7 := by rw [hVL]; exact (List.forall_mem_cons.2 ⟨(show (0 : Nat) ≠ 7 by decide), (List.forall_mem_cons.2 ⟨(show (1 : Nat) ≠ 7 by decide), (List.forall_mem_cons.2 ⟨(show (6 : Nat) ≠ 7 by decide), (fun _ h => nomatch h)⟩)⟩)⟩)
  have VN8 : ∀ pp ∈ VL, pp.1 ≠ 8 := by rw [hVL]; exact (List.forall_mem_cons.2 ⟨(show (0 : Nat) ≠ 8 by decide), (List.forall_mem_cons.2 ⟨(show (1 : Nat) ≠ 8 by decide), (List.forall_mem_cons.2 ⟨(show (6 : Nat) ≠ 8 by decide), (fun _ h => nomatch h)⟩)⟩)⟩)
  have VN9 : ∀ pp ∈ VL, pp.1 ≠ 9 := by rw [hVL]; exact (List.forall_mem_cons.2 ⟨(show (0 : Nat) ≠ 9 by decide), (List.forall_mem_cons.2 ⟨(show (1 : Nat) ≠ 9 by decide), (List.forall_mem_cons.2 ⟨(show (6 : Nat) ≠ 9 by decide), (fun _ h => nomatch h)⟩)⟩)⟩)
  have hst1 : fr = puts fr (x0 fr SL) SL := puts_x0 fr SL (by rw [hSL]; decide)
  clear hVL
  refine wpAnyH_inv2 (JV fr SL VL (KP wR 2 n #[.int .i64 i0, .int .i64 i1, .int .i64 i2, .int .i64 i3])) (by kernel_rfl) ?steps1 ?done1 _ _ ?start1
  case start1 => exact ⟨_, hst1, VOK.start _ _ _, KP.start _⟩
  case steps1 =>
    clear hst1 hSL hfr
    refine ⟨?_, ?_, ?_, ?_, ?_, ?_, ?_, ?_, ?_, ?_, trivial⟩
    all_goals
      rintro LB ac w' hs hu haf hcl ⟨x, rfl, hv, hk⟩ K hK
    · have r2 := E2 x
      have hlast : LB.getD 9 false = false := by
        cases h : LB.getD 9 false with
        | false => rfl
        | true => exact absurd (hcl 9 _ rfl h ⟨0, .phase⟩ (by simp) rfl) (by rw [hu]; decide)
      obtain ⟨p0, p1, p2⟩ := HPC.out w' hk.1.1
      rw [if_pos (by rfl)]
      refine wp_val (v := .agg #[.int .i64 pm, .int .i64 pw, .int .i64 pb]) ?_ (hK _ _ (jv_set (by rw [hs]; decide) (x := upd x 0 _) (puts_set SL fr hN1 hN2 M0) (hv.val 0 _ VU0) (KP.go hk 0 _ (by decide) (by decide) (Below.refl _ _) (fun e => absurd e (by decide)) (fun e => absurd e (by decide)) (fun e => absurd e (by decide)))))
      generalize (puts fr x SL).eval = ρ at r2 ⊢; go_simp
    · have r1 := E1 x
      have hlast : LB.getD 9 false = false := by
        cases h : LB.getD 9 false with
        | false => rfl
        | true => exact absurd (hcl 9 _ rfl h ⟨1, .phase⟩ (by simp) rfl) (by rw [hu]; decide)
      obtain ⟨p0, p1, p2⟩ := HPC.out w' hk.1.1
      rw [if_pos (by rfl)]
      refine wp_val (v := .int .i64 n) ?_ (hK _ _ (jv_set (by rw [hs]; decide) (x := upd x 1 _) (puts_set SL fr hN1 hN2 M1) (hv.val 1 _ VU1) (KP.go hk 1 _ (by decide) (by decide) (Below.refl _ _) (fun e => absurd e (by decide)) (fun e => absurd e (by decide)) (fun e => absurd e (by decide)))))
      generalize (puts fr x SL).eval = ρ at r1 ⊢; go_simp
    · have r9 := (E9 x).trans (hv _ VM1 (haf ⟨1, .data⟩ (by simp) rfl))
      have hlast : LB.getD 9 false = false := by
        cases h : LB.getD 9 false with
        | false => rfl
        | true => exact absurd (hcl 9 _ rfl h ⟨2, .phase⟩ (by simp) rfl) (by rw [hu]; decide)
      obtain ⟨p0, p1, p2⟩ := HPC.out w' hk.1.1
      rw [if_pos (by rfl)]
      refine wp_mk slRec.und slRec.info slRec.small _ _ rfl n r9 r9 (by omega) (fun w3 ho hb => ?_)
      exact hK _ _ (jv_set (by rw [hs]; decide) (x := upd x 2 _) (puts_set SL fr hN1 hN2 M2) (hv.other 2 _ VN2) (KP.go hk 2 _ (by decide) (by decide) hb (fun _ => ⟨_, rfl, rd_made ho (by omega)⟩) (fun e => absurd e (by decide)) (fun e => absurd e (by decide))))
    · have r8 := (E8 x).trans (hv _ VM0 (haf ⟨0, .data⟩ (by simp) rfl))
      have hlast : LB.getD 9 false = false := by
        cases h : LB.getD 9 false with
        | false => rfl
        | true => exact absurd (hcl 9 _ rfl h ⟨3, .phase⟩ (by simp) rfl) (by rw [hu]; decide)
      obtain ⟨p0, p1, p2⟩ := HPC.out w' hk.1.1
      rw [if_pos (by rfl)]
      obtain ⟨g, eg, hrd⟩ := hk.2.1 hlast (haf ⟨2, .data⟩ (by simp) rfl)
      have rS := (E10 x).trans eg
      have hst := sort_any pm pw pb (some ⟨g, 0, none⟩) n n (List.replicate n (0, 0)) w' HOK.out hn hrd
      refine wp_callE (G := fun v w2 => (∃ a c, v = .tuple #[.slice a n c, .agg #[.int .i64 i0, .int .i64 i1, .int .i64 i2, .int .i64 i3]]) ∧ Below w'.heap.size w' w2) ?_ hst (fun e w2 h => ?_) (fun v w2 hg => ?_)
      · rw [execOp_call_go]; generalize (puts fr x SL).eval = ρ at r8 rS ⊢; go_simp
      · obtain ⟨a, c, C, e1, e2, _, e4⟩ := h
        exact ⟨_, e1, ⟨a, c, by rw [e2, HC.out]; rfl⟩, e4⟩
      · exact hK _ _ (jv_set (by rw [hs]; decide) (x := upd x 3 _) (puts_set SL fr hN1 hN2 M3) (hv.other 3 _ VN3) (KP.go hk 3 _ (by decide) (by decide) hg.2 (fun e => absurd e (by decide)) (fun _ => hg.1) (fun e => absurd e (by decide))))
    · have hlast : LB.getD 9 false = false := by
        cases h : LB.getD 9 false with
        | false => rfl
        | true => exact absurd (hcl 9 _ rfl h ⟨4, .phase⟩ (by simp) rfl) (by rw [hu]; decide)
      obtain ⟨p0, p1, p2⟩ := HPC.out w' hk.1.1
      rw [if_pos (by rfl)]
      have rS := E11 x
      refine wp_val (v := x 3) ?_ (hK _ _ (jv_set (by rw [hs]; decide) (x := upd x 4 _) (puts_set SL fr hN1 hN2 M4) (hv.other 4 _ VN4) (KP.go hk 4 _ (by decide) (by decide) (Below.refl _ _) (fun e => absurd e (by decide)) (fun e => absurd e (by decide)) (fun _ => hk.2.2.1 (haf ⟨3, .data⟩ (by simp) rfl)))))
      generalize (puts fr x SL).eval = ρ at rS ⊢; go_simp
    · have hlast : LB.getD 9 false = false := by
        cases h : LB.getD 9 false with
        | false => rfl
        | true => exact absurd (hcl 9 _ rfl h ⟨5, .phase⟩ (by simp) rfl) (by rw [hu]; decide)
      obtain ⟨p0, p1, p2⟩ := HPC.out w' hk.1.1
      rw [if_pos (by rfl)]
      obtain ⟨a4, c4, e4⟩ := hk.2.2.2 (haf ⟨4, .data⟩ (by simp) rfl)
      have rS := (E7 x).trans e4
      refine wp_val (v := .slice a4 n c4) ?_ (hK _ _ (jv_set (by rw [hs]; decide) (x := upd x 5 _) (puts_set SL fr hN1 hN2 M5) (hv.other 5 _ VN5) (KP.go hk 5 _ (by decide) (by decide) (Below.refl _ _) (fun e => absurd e (by decide)) (fun e => absurd e (by decide)) (fun e => absurd e (by decide)))))
      generalize (puts fr x SL).eval = ρ at rS ⊢; go_simp
    · have hlast : LB.getD 9 false = false := by
        cases h : LB.getD 9 false with
        | false => rfl
        | true => exact absurd (hcl 9 _ rfl h ⟨6, .data⟩ (by simp) rfl) (by rw [hu]; decide)
      obtain ⟨p0, p1, p2⟩ := HPC.out w' hk.1.1
      rw [if_pos (by rfl)]
      obtain ⟨a4, c4, e4⟩ := hk.2.2.2 (haf ⟨4, .data⟩ (by simp) rfl)
      have rS := (E7 x).trans e4
      refine wp_val (v := .agg #[.int .i64 i0, .int .i64 i1, .int .i64 i2, .int .i64 i3]) ?_ (hK _ _ (jv_set (by rw [hs]; decide) (x := upd x 6 _) (puts_set SL fr hN1 hN2 M6) (hv.val 6 _ VU6) (KP.go hk 6 _ (by decide) (by decide) (Below.refl _ _) (fun e => absurd e (by decide)) (fun e => absurd e (by decide)) (fun e => absurd e (by decide)))))
      generalize (puts fr x SL).eval = ρ at rS ⊢; go_simp
    · have hlast : LB.getD 9 false = false := by
        cases h : LB.getD 9 false with
        | false => rfl
        | true => exact absurd (hcl 9 _ rfl h ⟨7, .data⟩ (by simp) rfl) (by rw [hu]; decide)
      obtain ⟨p0, p1, p2⟩ := HPC.out w' hk.1.1
      rw [if_pos (by rfl)]
      refine wp_val (v := .pointer (some ⟨w'.heap.size, 0, none⟩)) (w' := w'.alloc (.cells z4 30)) ?_ (hK _ _ (jv_set (by rw [hs]; decide) (x := upd x 7 _) (puts_set SL fr hN1 hN2 M7) (hv.other 7 _ VN7) (KP.alloc hk hu (by decide))))
      go_simp
    · have hlast : LB.getD 9 false = false := by
        cases h : LB.getD 9 false with
        | false => rfl
        | true => exact absurd (hcl 9 _ rfl h ⟨8, .chain⟩ (by simp) rfl) (by rw [hu]; decide)
      obtain ⟨p0, p1, p2⟩ := HPC.out w' hk.1.1
      rw [if_pos (by rfl)]
      have rS := E12 x
      refine wp_val (v := x 5) ?_ (hK _ _ (jv_set (by rw [hs]; decide) (x := upd x 8 _) (puts_set SL fr hN1 hN2 M8) (hv.other 8 _ VN8) (KP.go hk 8 _ (by decide) (by decide) (Below.refl _ _) (fun e => absurd e (by decide)) (fun e => absurd e (by decide)) (fun e => absurd e (by decide)))))
      generalize (puts fr x SL).eval = ρ at rS ⊢; go_simp
    · have r13 := (E13 x).trans (hv _ VM6 (haf ⟨6, .data⟩ (by simp) rfl))
      rw [if_pos (by rfl)]
      have hal : LB.getD 7 false = true := haf ⟨7, .data⟩ (by simp) rfl
      obtain ⟨T, eT, g1, g2, g3, g4⟩ := hk.1.2.1 hal
      have hh := g3 hu
      refine wp_store_row _ _ _ rfl T #[.int .i64 i0, .int .i64 i1, .int .i64 i2, .int .i64 i3] ((E6 x).trans eT) r13 _ _ hh (by kernel_rfl) rfl (by simp [Value.oneCell']) ?_
      exact hK _ _ (jv_set (by rw [hs]; decide) (x := x) rfl (hv.none 9 VN9) (KP.store hk hal eT hh))
  case done1 =>
    rintro LB ac w2 hall ⟨x, rfl, hv, hk⟩
    have v0 : x 0 = .agg #[.int .i64 pm, .int .i64 pw, .int .i64 pb] := hv _ VM0 (hall 0 (by decide))
    have v1 : x 1 = .int .i64 n := hv _ VM1 (hall 1 (by decide))
    have v6 : x 6 = .agg #[.int .i64 i0, .int .i64 i1, .int .i64 i2, .int .i64 i3] := hv _ VM6 (hall 6 (by decide))
    obtain ⟨⟨hbw, hT, -⟩, -, -, -⟩ := hk
    obtain ⟨T, eT, g1, g2, g3, g4⟩ := hT (hall 7 (by decide))
    have HT := Lib.hid (g4 (hall 9 (by decide)))
    clear hT g3 g4
    rw [hSL]
    simp only [puts]
    rw [eT]
    clear M0 E8 M1 E9 M2 E10 M3 E11 M4 E7 M5 E12 M6 E13 M7 E6 M8 E5 E1 E2 f1 f2 VM0 VU0 VM1 VU1 VM6 VU6 VN2 VN3 VN4 VN5 VN7 VN8 VN9 hN1 hN2 hst1 hsz1
    clear hall hv v0 v1 v6
    rw [hfr]
    simp only [Act.put, List.setIfInBounds_toArray, List.set_cons_succ, List.set_cons_zero]
    clear hfr hSL
    obtain ⟨q0, q1, q2, q3⟩ := cellsQ HT.out
    have HZ2 := block_below HZR.out hbw (hlt_of HZR.out)
    obtain ⟨hr0, hr1, hr2, hr3⟩ := cellsQ HZ2
    have fr2 : ∀ o, w2.frozen? ⟨w.heap.size + 1, o, none⟩ = false := fun o => frozen_of_row w2 _ o _ _ HZ2
    have HB2 := Lib.hid (below_tr HBR.out hbw HBR.out.size)
    have tne : T ≠ w.heap.size + 1 := by omega
    clear HT HZ2 hbw HPR HZR HBR HPC
    go_wp2

    refine bodyPost_ret (v := .agg #[.int .i64 i0, .int .i64 i1, .int .i64 i2, .int .i64 i3]) (by simp [results, Try.results88, go_sem, hr0, hr1, hr2, hr3]) rfl ⟨rfl, ?_⟩
    exact Below.setCell (p := ⟨w.heap.size + 1, 3, none⟩) (Below.setCell (p := ⟨w.heap.size + 1, 2, none⟩) (Below.setCell (p := ⟨w.heap.size + 1, 1, none⟩) (Below.setCell (p := ⟨w.heap.size + 1, 0, none⟩) HB2.out (Nat.le_succ _) _) (Nat.le_succ _) _) (Nat.le_succ _) _) (Nat.le_succ _) _

set_option maxRecDepth 100000 in
set_option maxHeartbeats 1000000 in
theorem l17Predict_any (n pm pw pb : Nat) (w : World) (hok : planOk pm pw pb = true) (hn : n ≤ 64) {i0 i1 i2 i3 : Nat} (hC : Mg.costOf n pm pw pb = (i0, i1, i2, i3)) :
    Calls Try.prog 90 #[.int .i64 n, .agg #[.int .i64 pm, .int .i64 pw, .int .i64 pb]] w fun e w' => e = .returned (.agg #[.int .i64 i0, .int .i64 i1, .int .i64 i2, .int .i64 i3]) ∧ Below w.heap.size w w' := by
  obtain ⟨wa, hwa⟩ : ∃ W, W = w.alloc (.cells #[.int .i64 pm, .int .i64 pw, .int .i64 pb] 26) := ⟨_, rfl⟩
  obtain ⟨wb, hwb⟩ : ∃ W, W = wa.alloc (.cells #[.int .i64 0, .int .i64 0, .int .i64 0, .int .i64 0] 30) := ⟨_, rfl⟩
  have sa : wa.heap.size = w.heap.size + 1 := by rw [hwa]; simp
  have sb : wb.heap.size = w.heap.size + 2 := by rw [hwb]; simp; omega
  have ba : Below w.heap.size w wa := by rw [hwa]; exact belowNew _ _
  have bb : Below wa.heap.size wa wb := by rw [hwb]; exact belowNew _ _
  have ha : wa.heap[w.heap.size]? = some (.cells (planV pm pw pb) 26 (0, 0)) := by rw [hwa]; exact block_new _ _
  have hb1 : wb.heap[w.heap.size]? = some (.cells (planV pm pw pb) 26 (0, 0)) := block_below ha bb (by omega)
  have hb2 : wb.heap[w.heap.size + 1]? = some (.cells z4 30 (0, 0)) := by rw [hwb, ← sa]; exact block_new _ _
  have HB := Lib.hid (below_tr ba bb ba.size)
  have HP := Lib.hid hb1; have HZ := Lib.hid hb2
  have HOK := Lib.hid hok; have HC := Lib.hid hC
  clear ha hb1 hb2 ba bb hok hC
  obtain ⟨wR, hwR⟩ : ∃ W, W = wb.drew := ⟨_, rfl⟩
  have hbR : Below wb.heap.size wb wR := by rw [hwR]; exact (Below.refl _ _).drew
  have hszR : wR.heap.size = wb.heap.size := by rw [hwR]; rfl
  have HPR := Lib.hid (block_below HP.out hbR (hlt_of HP.out)); have HZR := Lib.hid (block_below HZ.out hbR (hlt_of HZ.out))
  have HBR := Lib.hid (below_tr HB.out hbR HB.out.size)
  have HPC : Hid (∀ W, Below wR.heap.size wR W → W.cell? ⟨w.heap.size, 0, none⟩ = some (.int .i64 pm) ∧ W.cell? ⟨w.heap.size, 1, none⟩ = some (.int .i64 pw) ∧ W.cell? ⟨w.heap.size, 2, none⟩ = some (.int .i64 pb)) := fun W hb => cells3 (block_below HPR.out hb (hlt_of HPR.out))
  clear HP HZ HB hbR
  subst hwb
  subst hwa
  go_enter Try.func90, Try.ntmps90
  go_wp2_with fail
  refine wp_with_act (fun fr hfr => ?_)
  have hsz1 : fr.tmps.size = 15 := by rw [hfr]; rfl
  have f0 : fr.eval (.tmp 0) = .int .i64 n := by rw [hfr]; rfl
  have f3 : fr.eval (.tmp 3) = .pointer (some ⟨w.heap.size, 0, none⟩) := by rw [hfr]; rfl
  refine wp_region_held_drew (S := fun _ => True) (by kernel_rfl) trivial (fun _ => ?_)
  rw [← hwR]
  obtain ⟨SL, hSL⟩ : ∃ l : List (Nat × Nat), l = [(0, 8), (1, 9), (2, 10), (3, 11), (4, 7), (5, 12), (6, 13), (7, 6), (8, 5)] := ⟨_, rfl⟩
  obtain ⟨VL, hVL⟩ : ∃ l : List (Nat × Value), l = [(0, .int .i64 n), (2, .agg #[.int .i64 pm, .int .i64 pw, .int .i64 pb]), (6, .agg #[.int .i64 i0, .int .i64 i1, .int .i64 i2, .int .i64 i3])] := ⟨_, rfl⟩
  have hN1 : (SL.map Prod.fst).Nodup := by rw [hSL]; decide
  have hN2 : (SL.map Prod.snd).Nodup := by rw [hSL]; decide
  have M0 : (0, 8) ∈ SL := by rw [hSL]; exact (.head _)
  have E8 : ∀ x, (puts fr x SL).eval (.tmp 8) = x 0 := fun x => eval_at SL fr hN2 M0 (by rw [hsz1]; decide)
  have M1 : (1, 9) ∈ SL := by rw [hSL]; exact (.tail _ (.head _))
  have E9 : ∀ x, (puts fr x SL).eval (.tmp 9) = x 1 := fun x => eval_at SL fr hN2 M1 (by rw [hsz1]; decide)
  have M2 : (2, 10) ∈ SL := by rw [hSL]; exact (.tail _ (.tail _ (.head _)))
  have E10 : ∀ x, (puts fr x SL).eval (.tmp 10) = x 2 := fun x => eval_at SL fr hN2 M2 (by rw [hsz1]; decide)
  have M3 : (3, 11) ∈ SL := by rw [hSL]; exact (.tail _ (.tail _ (.tail _ (.head _))))
  have E11 : ∀ x, (puts fr x SL).eval (.tmp 11) = x 3 := fun x => eval_at SL fr hN2 M3 (by rw [hsz1]; decide)
  have M4 : (4, 7) ∈ SL := by rw [hSL]; exact (.tail _ (.tail _ (.tail _ (.tail _ (.head _)))))
  have E7 : ∀ x, (puts fr x SL).eval (.tmp 7) = x 4 := fun x => eval_at SL fr hN2 M4 (by rw [hsz1]; decide)
  have M5 : (5, 12) ∈ SL := by rw [hSL]; exact (.tail _ (.tail _ (.tail _ (.tail _ (.tail _ (.head _))))))
  have E12 : ∀ x, (puts fr x SL).eval (.tmp 12) = x 5 := fun x => eval_at SL fr hN2 M5 (by rw [hsz1]; decide)
  have M6 : (6, 13) ∈ SL := by rw [hSL]; exact (.tail _ (.tail _ (.tail _ (.tail _ (.tail _ (.tail _ (.head _)))))))
  have E13 : ∀ x, (puts fr x SL).eval (.tmp 13) = x 6 := fun x => eval_at SL fr hN2 M6 (by rw [hsz1]; decide)
  have M7 : (7, 6) ∈ SL := by rw [hSL]; exact (.tail _ (.tail _ (.tail _ (.tail _ (.tail _ (.tail _ (.tail _ (.head _))))))))
  have E6 : ∀ x, (puts fr x SL).eval (.tmp 6) = x 7 := fun x => eval_at SL fr hN2 M7 (by rw [hsz1]; decide)
  have M8 : (8, 5) ∈ SL := by rw [hSL]; exact (.tail _ (.tail _ (.tail _ (.tail _ (.tail _ (.tail _ (.tail _ (.tail _ (.head _)))))))))
  have E5 : ∀ x, (puts fr x SL).eval (.tmp 5) = x 8 := fun x => eval_at SL fr hN2 M8 (by rw [hsz1]; decide)
  have E0 : ∀ x, (puts fr x SL).eval (.tmp 0) = .int .i64 n := fun x => (eval_far SL fr (by rw [hSL]; decide)).trans f0
  have E3 : ∀ x, (puts fr x SL).eval (.tmp 3) = .pointer (some ⟨w.heap.size, 0, none⟩) := fun x => (eval_far SL fr (by rw [hSL]; decide)).trans f3
  have VM0 : (0, .int .i64 n) ∈ VL := by rw [hVL]; exact (.head _)
  have VU0 : ∀ pp ∈ VL, pp.1 = 0 → pp.2 = .int .i64 n := by rw [hVL]; exact (List.forall_mem_cons.2 ⟨(fun _ => rfl), (List.forall_mem_cons.2 ⟨(fun e => absurd (show (2 : Nat) = 0 from e) (by decide)), (List.forall_mem_cons.2 ⟨(fun e => absurd (show (6 : Nat) = 0 from e) (by decide)), (fun _ h => nomatch h)⟩)⟩)⟩)
  have VM2 : (2, .agg #[.int .i64 pm, .int .i64 pw, .int .i64 pb]) ∈ VL := by rw [hVL]; exact (.tail _ (.head _))
  have VU2 : ∀ pp ∈ VL, pp.1 = 2 → pp.2 = .agg #[.int .i64 pm, .int .i64 pw, .int .i64 pb] := by rw [hVL]; exact (List.forall_mem_cons.2 ⟨(fun e => absurd (show (0 : Nat) = 2 from e) (by decide)), (List.forall_mem_cons.2 ⟨(fun _ => rfl), (List.forall_mem_cons.2 ⟨(fun e => absurd (show (6 : Nat) = 2 from e) (by decide)), (fun _ h => nomatch h)⟩)⟩)⟩)
  have VM6 : (6, .agg #[.int .i64 i0, .int .i64 i1, .int .i64 i2, .int .i64 i3]) ∈ VL := by rw [hVL]; exact (.tail _ (.tail _ (.head _)))
  have VU6 : ∀ pp ∈ VL, pp.1 = 6 → pp.2 = .agg #[.int .i64 i0, .int .i64 i1, .int .i64 i2, .int .i64 i3] := by rw [hVL]; exact (List.forall_mem_cons.2 ⟨(fun e => absurd (show (0 : Nat) = 6 from e) (by decide)), (List.forall_mem_cons.2 ⟨(fun e => absurd (show (2 : Nat) = 6 from e) (by decide)), (List.forall_mem_cons.2 ⟨(fun _ => rfl), (fun _ h => nomatch h)⟩)⟩)⟩)
  have VN1 : ∀ pp ∈ VL, pp.1 ≠ 1 := by rw [hVL]; exact (List.forall_mem_cons.2 ⟨(show (0 : Nat) ≠ 1 by decide), (List.forall_mem_cons.2 ⟨(show (2 : Nat) ≠ 1 by decide), (List.forall_mem_cons.2 ⟨(show (6 : Nat) ≠ 1 by decide), (fun _ h => nomatch h)⟩)⟩)⟩)
  have VN3 : ∀ pp ∈ VL, pp.1 ≠ 3 := by rw [hVL]; exact (List.forall_mem_cons.2 ⟨(show (0 : Nat) ≠ 3 by decide), (List.forall_mem_cons.2 ⟨(show (2 : Nat) ≠ 3 by decide), (List.forall_mem_cons.2 ⟨(show (6 : Nat) ≠ 3 by decide), (fun _ h => nomatch h)⟩)⟩)⟩)
  have VN4 : ∀ pp ∈ VL, pp.1 ≠ 4 := by rw [hVL]; exact (List.forall_mem_cons.2 ⟨(show (0 : Nat) ≠ 4 by decide), (List.forall_mem_cons.2 ⟨(show (2 : Nat) ≠ 4 by decide), (List.forall_mem_cons.2 ⟨(show (6 : Nat) ≠ 4 by decide), (fun _ h => nomatch h)⟩)⟩)⟩)
  have VN5 : ∀ pp ∈ VL, pp.1 ≠ 5 := by rw [hVL]; exact (List.forall_mem_cons.2 ⟨(show (0 : Nat) ≠ 5 by decide), (List.forall_mem_cons.2 ⟨(show (2 : Nat) ≠ 5 by decide), (List.forall_mem_cons.2 ⟨(show (6 : Nat) ≠ 5 by decide), (fun _ h => nomatch h)⟩)⟩)⟩)
  have VN7 : ∀ pp ∈ VL, pp.1 ≠ 7 := by rw [hVL]; exact (List.forall_mem_cons.2 ⟨(show (0 : Nat) ≠ 7 by decide), (List.forall_mem_cons.2 ⟨(show (2 : Nat) ≠ 7 by decide), (List.forall_mem_cons.2 ⟨(show (6 : Nat) ≠ 7 by decide), (fun _ h => nomatch h)⟩)⟩)⟩)
  have VN8 : ∀ pp ∈ VL, pp.1 ≠ 8 := by rw [hVL]; exact (List.forall_mem_cons.2 ⟨(show (0 : Nat) ≠ 8 by decide), (List.forall_mem_cons.2 ⟨(show (2 : Nat) ≠ 8 by decide), (List.forall_mem_cons.2 ⟨(show (6 : Nat) ≠ 8 by decide), (fun _ h => nomatch h)⟩)⟩)⟩)
  have VN9 : ∀ pp ∈ VL, pp.1 ≠ 9 := by rw [hVL]; exact (List.forall_mem_cons.2 ⟨(show (0 : Nat) ≠ 9 by decide), (List.forall_mem_cons.2 ⟨(show (2 : Nat) ≠ 9 by decide), (List.forall_mem_cons.2 ⟨(show (6 : Nat) ≠ 9 by decide), (fun _ h => nomatch h)⟩)⟩)⟩)
  have hst1 : fr = puts fr (x0 fr SL) SL := puts_x0 fr SL (by rw [hSL]; decide)
  clear hVL
  refine wpAnyH_inv2 (JV fr SL VL (KP wR 1 n #[.int .i64 i0, .int .i64 i1, .int .i64 i2, .int .i64 i3])) (by kernel_rfl) ?steps1 ?done1 _ _ ?start1
  case start1 => exact ⟨_, hst1, VOK.start _ _ _, KP.start _⟩
  case steps1 =>
    clear hst1 hSL hfr
    refine ⟨?_, ?_, ?_, ?_, ?_, ?_, ?_, ?_, ?_, ?_, trivial⟩
    all_goals
      rintro LB ac w' hs hu haf hcl ⟨x, rfl, hv, hk⟩ K hK
    · have r0 := E0 x
      have hlast : LB.getD 9 false = false := by
        cases h : LB.getD 9 false with
        | false => rfl
        | true => exact absurd (hcl 9 _ rfl h ⟨0, .phase⟩ (by simp) rfl) (by rw [hu]; decide)
      obtain ⟨p0, p1, p2⟩ := HPC.out w' hk.1.1
      rw [if_pos (by rfl)]
      refine wp_val (v := .int .i64 n) ?_ (hK _ _ (jv_set (by rw [hs]; decide) (x := upd x 0 _) (puts_set SL fr hN1 hN2 M0) (hv.val 0 _ VU0) (KP.go hk 0 _ (by decide) (by decide) (Below.refl _ _) (fun e => absurd e (by decide)) (fun e => absurd e (by decide)) (fun e => absurd e (by decide)))))
      generalize (puts fr x SL).eval = ρ at r0 ⊢; go_simp
    · have r8 := (E8 x).trans (hv _ VM0 (haf ⟨0, .data⟩ (by simp) rfl))
      have hlast : LB.getD 9 false = false := by
        cases h : LB.getD 9 false with
        | false => rfl
        | true => exact absurd (hcl 9 _ rfl h ⟨1, .phase⟩ (by simp) rfl) (by rw [hu]; decide)
      obtain ⟨p0, p1, p2⟩ := HPC.out w' hk.1.1
      rw [if_pos (by rfl)]
      refine wp_mk slRec.und slRec.info slRec.small _ _ rfl n r8 r8 (by omega) (fun w3 ho hb => ?_)
      exact hK _ _ (jv_set (by rw [hs]; decide) (x := upd x 1 _) (puts_set SL fr hN1 hN2 M1) (hv.other 1 _ VN1) (KP.go hk 1 _ (by decide) (by decide) hb (fun _ => ⟨_, rfl, rd_made ho (by omega)⟩) (fun e => absurd e (by decide)) (fun e => absurd e (by decide))))
    · have r3 := E3 x
      have hlast : LB.getD 9 false = false := by
        cases h : LB.getD 9 false with
        | false => rfl
        | true => exact absurd (hcl 9 _ rfl h ⟨2, .phase⟩ (by simp) rfl) (by rw [hu]; decide)
      obtain ⟨p0, p1, p2⟩ := HPC.out w' hk.1.1
      rw [if_pos (by rfl)]
      refine wp_val (v := .agg #[.int .i64 pm, .int .i64 pw, .int .i64 pb]) ?_ (hK _ _ (jv_set (by rw [hs]; decide) (x := upd x 2 _) (puts_set SL fr hN1 hN2 M2) (hv.val 2 _ VU2) (KP.go hk 2 _ (by decide) (by decide) (Below.refl _ _) (fun e => absurd e (by decide)) (fun e => absurd e (by decide)) (fun e => absurd e (by decide)))))
      generalize (puts fr x SL).eval = ρ at r3 ⊢; go_simp
    · have r10 := (E10 x).trans (hv _ VM2 (haf ⟨2, .data⟩ (by simp) rfl))
      have hlast : LB.getD 9 false = false := by
        cases h : LB.getD 9 false with
        | false => rfl
        | true => exact absurd (hcl 9 _ rfl h ⟨3, .phase⟩ (by simp) rfl) (by rw [hu]; decide)
      obtain ⟨p0, p1, p2⟩ := HPC.out w' hk.1.1
      rw [if_pos (by rfl)]
      obtain ⟨g, eg, hrd⟩ := hk.2.1 hlast (haf ⟨1, .data⟩ (by simp) rfl)
      have rS := (E9 x).trans eg
      have hst := l17Sort_any pm pw pb (some ⟨g, 0, none⟩) n n (List.replicate n (0, 0)) w' HOK.out hn hrd
      refine wp_callE (G := fun v w2 => (∃ a c, v = .tuple #[.slice a n c, .agg #[.int .i64 i0, .int .i64 i1, .int .i64 i2, .int .i64 i3]]) ∧ Below w'.heap.size w' w2) ?_ hst (fun e w2 h => ?_) (fun v w2 hg => ?_)
      · rw [execOp_call_go]; generalize (puts fr x SL).eval = ρ at r10 rS ⊢; go_simp
      · obtain ⟨a, c, C, e1, e2, _, e4⟩ := h
        exact ⟨_, e1, ⟨a, c, by rw [e2, HC.out]; rfl⟩, e4⟩
      · exact hK _ _ (jv_set (by rw [hs]; decide) (x := upd x 3 _) (puts_set SL fr hN1 hN2 M3) (hv.other 3 _ VN3) (KP.go hk 3 _ (by decide) (by decide) hg.2 (fun e => absurd e (by decide)) (fun _ => hg.1) (fun e => absurd e (by decide))))
    · have hlast : LB.getD 9 false = false := by
        cases h : LB.getD 9 false with
        | false => rfl
        | true => exact absurd (hcl 9 _ rfl h ⟨4, .phase⟩ (by simp) rfl) (by rw [hu]; decide)
      obtain ⟨p0, p1, p2⟩ := HPC.out w' hk.1.1
      rw [if_pos (by rfl)]
      have rS := E11 x
      refine wp_val (v := x 3) ?_ (hK _ _ (jv_set (by rw [hs]; decide) (x := upd x 4 _) (puts_set SL fr hN1 hN2 M4) (hv.other 4 _ VN4) (KP.go hk 4 _ (by decide) (by decide) (Below.refl _ _) (fun e => absurd e (by decide)) (fun e => absurd e (by decide)) (fun _ => hk.2.2.1 (haf ⟨3, .data⟩ (by simp) rfl)))))
      generalize (puts fr x SL).eval = ρ at rS ⊢; go_simp
    · have hlast : LB.getD 9 false = false := by
        cases h : LB.getD 9 false with
        | false => rfl
        | true => exact absurd (hcl 9 _ rfl h ⟨5, .phase⟩ (by simp) rfl) (by rw [hu]; decide)
      obtain ⟨p0, p1, p2⟩ := HPC.out w' hk.1.1
      rw [if_pos (by rfl)]
      obtain ⟨a4, c4, e4⟩ := hk.2.2.2 (haf ⟨4, .data⟩ (by simp) rfl)
      have rS := (E7 x).trans e4
      refine wp_val (v := .slice a4 n c4) ?_ (hK _ _ (jv_set (by rw [hs]; decide) (x := upd x 5 _) (puts_set SL fr hN1 hN2 M5) (hv.other 5 _ VN5) (KP.go hk 5 _ (by decide) (by decide) (Below.refl _ _) (fun e => absurd e (by decide)) (fun e => absurd e (by decide)) (fun e => absurd e (by decide)))))
      generalize (puts fr x SL).eval = ρ at rS ⊢; go_simp
    · have hlast : LB.getD 9 false = false := by
        cases h : LB.getD 9 false with
        | false => rfl
        | true => exact absurd (hcl 9 _ rfl h ⟨6, .data⟩ (by simp) rfl) (by rw [hu]; decide)
      obtain ⟨p0, p1, p2⟩ := HPC.out w' hk.1.1
      rw [if_pos (by rfl)]
      obtain ⟨a4, c4, e4⟩ := hk.2.2.2 (haf ⟨4, .data⟩ (by simp) rfl)
      have rS := (E7 x).trans e4
      refine wp_val (v := .agg #[.int .i64 i0, .int .i64 i1, .int .i64 i2, .int .i64 i3]) ?_ (hK _ _ (jv_set (by rw [hs]; decide) (x := upd x 6 _) (puts_set SL fr hN1 hN2 M6) (hv.val 6 _ VU6) (KP.go hk 6 _ (by decide) (by decide) (Below.refl _ _) (fun e => absurd e (by decide)) (fun e => absurd e (by decide)) (fun e => absurd e (by decide)))))
      generalize (puts fr x SL).eval = ρ at rS ⊢; go_simp
    · have hlast : LB.getD 9 false = false := by
        cases h : LB.getD 9 false with
        | false => rfl
        | true => exact absurd (hcl 9 _ rfl h ⟨7, .data⟩ (by simp) rfl) (by rw [hu]; decide)
      obtain ⟨p0, p1, p2⟩ := HPC.out w' hk.1.1
      rw [if_pos (by rfl)]
      refine wp_val (v := .pointer (some ⟨w'.heap.size, 0, none⟩)) (w' := w'.alloc (.cells z4 30)) ?_ (hK _ _ (jv_set (by rw [hs]; decide) (x := upd x 7 _) (puts_set SL fr hN1 hN2 M7) (hv.other 7 _ VN7) (KP.alloc hk hu (by decide))))
      go_simp
    · have hlast : LB.getD 9 false = false := by
        cases h : LB.getD 9 false with
        | false => rfl
        | true => exact absurd (hcl 9 _ rfl h ⟨8, .chain⟩ (by simp) rfl) (by rw [hu]; decide)
      obtain ⟨p0, p1, p2⟩ := HPC.out w' hk.1.1
      rw [if_pos (by rfl)]
      have rS := E12 x
      refine wp_val (v := x 5) ?_ (hK _ _ (jv_set (by rw [hs]; decide) (x := upd x 8 _) (puts_set SL fr hN1 hN2 M8) (hv.other 8 _ VN8) (KP.go hk 8 _ (by decide) (by decide) (Below.refl _ _) (fun e => absurd e (by decide)) (fun e => absurd e (by decide)) (fun e => absurd e (by decide)))))
      generalize (puts fr x SL).eval = ρ at rS ⊢; go_simp
    · have r13 := (E13 x).trans (hv _ VM6 (haf ⟨6, .data⟩ (by simp) rfl))
      rw [if_pos (by rfl)]
      have hal : LB.getD 7 false = true := haf ⟨7, .data⟩ (by simp) rfl
      obtain ⟨T, eT, g1, g2, g3, g4⟩ := hk.1.2.1 hal
      have hh := g3 hu
      refine wp_store_row _ _ _ rfl T #[.int .i64 i0, .int .i64 i1, .int .i64 i2, .int .i64 i3] ((E6 x).trans eT) r13 _ _ hh (by kernel_rfl) rfl (by simp [Value.oneCell']) ?_
      exact hK _ _ (jv_set (by rw [hs]; decide) (x := x) rfl (hv.none 9 VN9) (KP.store hk hal eT hh))
  case done1 =>
    rintro LB ac w2 hall ⟨x, rfl, hv, hk⟩
    have v0 : x 0 = .int .i64 n := hv _ VM0 (hall 0 (by decide))
    have v2 : x 2 = .agg #[.int .i64 pm, .int .i64 pw, .int .i64 pb] := hv _ VM2 (hall 2 (by decide))
    have v6 : x 6 = .agg #[.int .i64 i0, .int .i64 i1, .int .i64 i2, .int .i64 i3] := hv _ VM6 (hall 6 (by decide))
    obtain ⟨⟨hbw, hT, -⟩, -, -, -⟩ := hk
    obtain ⟨T, eT, g1, g2, g3, g4⟩ := hT (hall 7 (by decide))
    have HT := Lib.hid (g4 (hall 9 (by decide)))
    clear hT g3 g4
    rw [hSL]
    simp only [puts]
    rw [eT]
    clear M0 E8 M1 E9 M2 E10 M3 E11 M4 E7 M5 E12 M6 E13 M7 E6 M8 E5 E0 E3 f0 f3 VM0 VU0 VM2 VU2 VM6 VU6 VN1 VN3 VN4 VN5 VN7 VN8 VN9 hN1 hN2 hst1 hsz1
    clear hall hv v0 v2 v6
    rw [hfr]
    simp only [Act.put, List.setIfInBounds_toArray, List.set_cons_succ, List.set_cons_zero]
    clear hfr hSL
    obtain ⟨q0, q1, q2, q3⟩ := cellsQ HT.out
    have HZ2 := block_below HZR.out hbw (hlt_of HZR.out)
    obtain ⟨hr0, hr1, hr2, hr3⟩ := cellsQ HZ2
    have fr2 : ∀ o, w2.frozen? ⟨w.heap.size + 1, o, none⟩ = false := fun o => frozen_of_row w2 _ o _ _ HZ2
    have HB2 := Lib.hid (below_tr HBR.out hbw HBR.out.size)
    have tne : T ≠ w.heap.size + 1 := by omega
    clear HT HZ2 hbw HPR HZR HBR HPC
    go_wp2

    refine bodyPost_ret (v := .agg #[.int .i64 i0, .int .i64 i1, .int .i64 i2, .int .i64 i3]) (by simp [results, Try.results90, go_sem, hr0, hr1, hr2, hr3]) rfl ⟨rfl, ?_⟩
    exact Below.setCell (p := ⟨w.heap.size + 1, 3, none⟩) (Below.setCell (p := ⟨w.heap.size + 1, 2, none⟩) (Below.setCell (p := ⟨w.heap.size + 1, 1, none⟩) (Below.setCell (p := ⟨w.heap.size + 1, 0, none⟩) HB2.out (Nat.le_succ _) _) (Nat.le_succ _) _) (Nat.le_succ _) _) (Nat.le_succ _) _

end Go.Proofs.Ytkckmjajjdpodaa

/- Walks: PredictCost of both packages. -/
namespace Go.Proofs.Ytkckmjajjdpodaa
open Go.RowKit Go.Sort
set_option linter.unusedVariables false

def pcOk (k pm pw pb : Int) : Bool := inB k 0 64 && planOk pm pw pb
def pcC (k pm pw pb : Int) : Nat × Nat × Nat × Nat := if pcOk k pm pw pb = true then Mg.costOf k.toNat pm.toNat pw.toNat pb.toNat else (0, 0, 0, 0)
theorem setc4 {w w2 : World} {x0 x1 x2 x3 : Value} {g : Nat} (h : Below w.heap.size w w2) (hg : w.heap.size ≤ g) : Below w.heap.size w ((((w2.setCell ⟨g, 0, none⟩ x0).setCell ⟨g, 1, none⟩ x1).setCell ⟨g, 2, none⟩ x2).setCell ⟨g, 3, none⟩ x3) :=
  Below.setCell (p := ⟨g, 3, none⟩) (Below.setCell (p := ⟨g, 2, none⟩) (Below.setCell (p := ⟨g, 1, none⟩) (Below.setCell (p := ⟨g, 0, none⟩) h hg _) hg _) hg _) hg _

set_option maxRecDepth 100000 in
set_option maxHeartbeats 1000000 in
theorem implPredictCost_any (k pm pw pb : Int) (w : World) :
    Calls Try.prog 23 #[.int .i64 k, .agg #[.int .i64 pm, .int .i64 pw, .int .i64 pb]] w fun e w' => e = .returned (.tuple #[.agg (costV (pcC k pm pw pb).1 (pcC k pm pw pb).2.1 (pcC k pm pw pb).2.2.1 (pcC k pm pw pb).2.2.2), .bool (pcOk k pm pw pb)]) ∧ Below w.heap.size w w' := by
  obtain ⟨wa, hwa⟩ : ∃ W, W = w.alloc (.cells #[.int .i64 pm, .int .i64 pw, .int .i64 pb] 26) := ⟨_, rfl⟩
  obtain ⟨wb, hwb⟩ : ∃ W, W = wa.alloc (.cells #[.int .i64 0, .int .i64 0, .int .i64 0, .int .i64 0] 30) := ⟨_, rfl⟩
  have sa : wa.heap.size = w.heap.size + 1 := by rw [hwa]; simp
  have ba : Below w.heap.size w wa := by rw [hwa]; exact belowNew _ _
  have bb : Below wa.heap.size wa wb := by rw [hwb]; exact belowNew _ _
  have ha : wa.heap[w.heap.size]? = some (.cells #[.int .i64 pm, .int .i64 pw, .int .i64 pb] 26 (0, 0)) := by rw [hwa]; exact block_new _ _
  have HP := Lib.hid (block_below ha bb (by omega))
  have HZ : Hid (wb.heap[w.heap.size + 1]? = some (.cells #[.int .i64 0, .int .i64 0, .int .i64 0, .int .i64 0] 30 (0, 0))) := by show _ = _; rw [hwb, ← sa]; exact block_new _ _
  have HB := Lib.hid (below_tr ba bb ba.size)
  have HIN := Lib.hid (in_any k 0 64 wb)
  have HVP := Lib.hid (isValidPlan_any pm pw pb wb)
  obtain ⟨p0, p1, p2⟩ := cells3 HP.out
  clear ha ba bb sa
  subst hwb
  subst hwa
  cases hin : inB k 0 64
  · have HO : Hid (pcOk k pm pw pb = false) := by show _ = _; unfold pcOk; rw [hin]; rfl
    have HC : Hid (pcC k pm pw pb = (0, 0, 0, 0)) := by show _ = _; unfold pcC; rw [HO.out]; rfl
    rw [hin] at HIN
    clear hin
    obtain ⟨hr0, hr1, hr2, hr3⟩ := cellsQ HZ.out
    have fr2 : ∀ o, World.frozen? _ ⟨w.heap.size + 1, o, none⟩ = false := fun o => frozen_of_row _ _ o _ _ HZ.out
    go_enter Try.func23, Try.ntmps23
    go_wp2_with (go_at_call 86; refine HIN.out.mono ?_; rintro e w' ⟨rfl, rfl⟩)
    refine bodyPost_ret (v := .tuple #[.agg #[.int .i64 0, .int .i64 0, .int .i64 0, .int .i64 0], .bool false]) (by simp [results, Try.results23, go_sem, hr0, hr1, hr2, hr3]) rfl ⟨?_, HB.out⟩
    rw [HO.out, HC.out]; rfl
  rw [hin] at HIN
  cases hpl : planOk pm pw pb
  · have HO : Hid (pcOk k pm pw pb = false) := by show _ = _; unfold pcOk; rw [hpl]; simp
    have HC : Hid (pcC k pm pw pb = (0, 0, 0, 0)) := by show _ = _; unfold pcC; rw [HO.out]; rfl
    rw [hpl] at HVP
    clear hin hpl
    go_enter Try.func23, Try.ntmps23
    go_wp2_with (first | (go_at_call 86; refine HIN.out.mono ?_; rintro e w' ⟨rfl, rfl⟩) | (go_at_call 20; refine HVP.out.mono ?_; rintro e w1 ⟨rfl, hb⟩; have HB1 := Lib.hid (below_tr HB.out hb HB.out.size); have HZ1 := Lib.hid (block_below HZ.out hb (hlt_of HZ.out)); obtain ⟨hr0, hr1, hr2, hr3⟩ := cellsQ HZ1.out; have fr2 : ∀ o, w1.frozen? ⟨w.heap.size + 1, o, none⟩ = false := (fun o => frozen_of_row _ _ o _ _ HZ1.out); clear hb))
    refine bodyPost_ret (v := .tuple #[.agg #[.int .i64 0, .int .i64 0, .int .i64 0, .int .i64 0], .bool false]) (by simp [results, Try.results23, go_sem, hr0, hr1, hr2, hr3]) rfl ⟨?_, setc4 HB1.out (Nat.le_succ _)⟩
    rw [HO.out, HC.out]; rfl
  · have HO : Hid (pcOk k pm pw pb = true) := by show _ = _; unfold pcOk; rw [hpl, hin]; rfl
    have hC0 : pcC k pm pw pb = Mg.costOf k.toNat pm.toNat pw.toNat pb.toNat := by unfold pcC; rw [if_pos HO.out]
    obtain ⟨⟨i0, i1, i2, i3⟩, hC⟩ : ∃ C, Mg.costOf k.toNat pm.toNat pw.toNat pb.toNat = C := ⟨_, rfl⟩
    have HC : Hid (pcC k pm pw pb = (i0, i1, i2, i3)) := by show _ = _; rw [hC0, hC]
    obtain ⟨g1, g2⟩ := inB_iff.1 hin
    obtain ⟨s1, s2, s3, s4, s5, s6⟩ := planOk_iff hpl
    obtain ⟨n, rfl⟩ : ∃ n : Nat, k = (n : Int) := ⟨k.toNat, by omega⟩
    obtain ⟨m, rfl⟩ : ∃ n : Nat, pm = (n : Int) := ⟨pm.toNat, by omega⟩
    obtain ⟨u, rfl⟩ : ∃ n : Nat, pw = (n : Int) := ⟨pw.toNat, by omega⟩
    obtain ⟨b, rfl⟩ : ∃ n : Nat, pb = (n : Int) := ⟨pb.toNat, by omega⟩
    simp only [Int.toNat_natCast] at hC
    have HPR : Hid (∀ W, Calls Try.prog 88 #[.agg #[.int .i64 m, .int .i64 u, .int .i64 b], .int .i64 n] W fun e w' => e = .returned (.agg #[.int .i64 i0, .int .i64 i1, .int .i64 i2, .int .i64 i3]) ∧ Below W.heap.size W w') := fun W => predict_any n m u b W hpl (by omega) hC
    rw [hpl] at HVP
    clear hin hpl hC0 hC s1 s2 s3 s4 s5 s6
    go_enter Try.func23, Try.ntmps23
    go_wp2_with (first | (go_at_call 86; refine HIN.out.mono ?_; rintro e w' ⟨rfl, rfl⟩) | (go_at_call 20; refine HVP.out.mono ?_; rintro e w1 ⟨rfl, hb⟩; have HB1 := Lib.hid (below_tr HB.out hb HB.out.size); have HZ1 := Lib.hid (block_below HZ.out hb (hlt_of HZ.out)); have HP1 := Lib.hid (block_below HP.out hb (hlt_of HP.out)); obtain ⟨p3, p4, p5⟩ := cells3 HP1.out; clear hb) | (go_at_call 88; refine (HPR.out _).mono ?_; rintro e w2 ⟨rfl, hb⟩; have HB2 := Lib.hid (below_tr HB1.out hb HB1.out.size); have HZ2 := Lib.hid (block_below HZ1.out hb (hlt_of HZ1.out)); obtain ⟨hr0, hr1, hr2, hr3⟩ := cellsQ HZ2.out; have fr2 : ∀ o, w2.frozen? ⟨w.heap.size + 1, o, none⟩ = false := (fun o => frozen_of_row _ _ o _ _ HZ2.out); clear hb))
    refine bodyPost_ret (v := .tuple #[.agg #[.int .i64 i0, .int .i64 i1, .int .i64 i2, .int .i64 i3], .bool true]) (by simp [results, Try.results23, go_sem, hr0, hr1, hr2, hr3]) rfl ⟨?_, setc4 HB2.out (Nat.le_succ _)⟩
    rw [HO.out, HC.out]; rfl

set_option maxRecDepth 100000 in
set_option maxHeartbeats 1000000 in
theorem specPredictCost_any (k pm pw pb : Int) (w : World) :
    Calls Try.prog 24 #[.int .i64 k, .agg #[.int .i64 pm, .int .i64 pw, .int .i64 pb]] w fun e w' => e = .returned (.tuple #[.agg (costV (pcC k pm pw pb).1 (pcC k pm pw pb).2.1 (pcC k pm pw pb).2.2.1 (pcC k pm pw pb).2.2.2), .bool (pcOk k pm pw pb)]) ∧ Below w.heap.size w w' := by
  obtain ⟨wa, hwa⟩ : ∃ W, W = w.alloc (.cells #[.int .i64 pm, .int .i64 pw, .int .i64 pb] 26) := ⟨_, rfl⟩
  obtain ⟨wb, hwb⟩ : ∃ W, W = wa.alloc (.cells #[.int .i64 0, .int .i64 0, .int .i64 0, .int .i64 0] 30) := ⟨_, rfl⟩
  have sa : wa.heap.size = w.heap.size + 1 := by rw [hwa]; simp
  have ba : Below w.heap.size w wa := by rw [hwa]; exact belowNew _ _
  have bb : Below wa.heap.size wa wb := by rw [hwb]; exact belowNew _ _
  have ha : wa.heap[w.heap.size]? = some (.cells #[.int .i64 pm, .int .i64 pw, .int .i64 pb] 26 (0, 0)) := by rw [hwa]; exact block_new _ _
  have HP := Lib.hid (block_below ha bb (by omega))
  have HZ : Hid (wb.heap[w.heap.size + 1]? = some (.cells #[.int .i64 0, .int .i64 0, .int .i64 0, .int .i64 0] 30 (0, 0))) := by show _ = _; rw [hwb, ← sa]; exact block_new _ _
  have HB := Lib.hid (below_tr ba bb ba.size)
  have HIN := Lib.hid (l1In_any k 0 64 wb)
  have HVP := Lib.hid (l17Plan_any pm pw pb wb)
  obtain ⟨p0, p1, p2⟩ := cells3 HP.out
  clear ha ba bb sa
  subst hwb
  subst hwa
  cases hin : inB k 0 64
  · have HO : Hid (pcOk k pm pw pb = false) := by show _ = _; unfold pcOk; rw [hin]; rfl
    have HC : Hid (pcC k pm pw pb = (0, 0, 0, 0)) := by show _ = _; unfold pcC; rw [HO.out]; rfl
    rw [hin] at HIN
    clear hin
    obtain ⟨hr0, hr1, hr2, hr3⟩ := cellsQ HZ.out
    have fr2 : ∀ o, World.frozen? _ ⟨w.heap.size + 1, o, none⟩ = false := fun o => frozen_of_row _ _ o _ _ HZ.out
    go_enter Try.func24, Try.ntmps24
    go_wp2_with (go_at_call 89; refine HIN.out.mono ?_; rintro e w' ⟨rfl, rfl⟩)
    refine bodyPost_ret (v := .tuple #[.agg #[.int .i64 0, .int .i64 0, .int .i64 0, .int .i64 0], .bool false]) (by simp [results, Try.results24, go_sem, hr0, hr1, hr2, hr3]) rfl ⟨?_, HB.out⟩
    rw [HO.out, HC.out]; rfl
  rw [hin] at HIN
  cases hpl : planOk pm pw pb
  · have HO : Hid (pcOk k pm pw pb = false) := by show _ = _; unfold pcOk; rw [hpl]; simp
    have HC : Hid (pcC k pm pw pb = (0, 0, 0, 0)) := by show _ = _; unfold pcC; rw [HO.out]; rfl
    rw [hpl] at HVP
    clear hin hpl
    go_enter Try.func24, Try.ntmps24
    go_wp2_with (first | (go_at_call 89; refine HIN.out.mono ?_; rintro e w' ⟨rfl, rfl⟩) | (go_at_call 84; refine HVP.out.mono ?_; rintro e w1 ⟨rfl, hb⟩; have HB1 := Lib.hid (below_tr HB.out hb HB.out.size); have HZ1 := Lib.hid (block_below HZ.out hb (hlt_of HZ.out)); obtain ⟨hr0, hr1, hr2, hr3⟩ := cellsQ HZ1.out; have fr2 : ∀ o, w1.frozen? ⟨w.heap.size + 1, o, none⟩ = false := (fun o => frozen_of_row _ _ o _ _ HZ1.out); clear hb))
    refine bodyPost_ret (v := .tuple #[.agg #[.int .i64 0, .int .i64 0, .int .i64 0, .int .i64 0], .bool false]) (by simp [results, Try.results24, go_sem, hr0, hr1, hr2, hr3]) rfl ⟨?_, setc4 HB1.out (Nat.le_succ _)⟩
    rw [HO.out, HC.out]; rfl
  · have HO : Hid (pcOk k pm pw pb = true) := by show _ = _; unfold pcOk; rw [hpl, hin]; rfl
    have hC0 : pcC k pm pw pb = Mg.costOf k.toNat pm.toNat pw.toNat pb.toNat := by unfold pcC; rw [if_pos HO.out]
    obtain ⟨⟨i0, i1, i2, i3⟩, hC⟩ : ∃ C, Mg.costOf k.toNat pm.toNat pw.toNat pb.toNat = C := ⟨_, rfl⟩
    have HC : Hid (pcC k pm pw pb = (i0, i1, i2, i3)) := by show _ = _; rw [hC0, hC]
    obtain ⟨g1, g2⟩ := inB_iff.1 hin
    obtain ⟨s1, s2, s3, s4, s5, s6⟩ := planOk_iff hpl
    obtain ⟨n, rfl⟩ : ∃ n : Nat, k = (n : Int) := ⟨k.toNat, by omega⟩
    obtain ⟨m, rfl⟩ : ∃ n : Nat, pm = (n : Int) := ⟨pm.toNat, by omega⟩
    obtain ⟨u, rfl⟩ : ∃ n : Nat, pw = (n : Int) := ⟨pw.toNat, by omega⟩
    obtain ⟨b, rfl⟩ : ∃ n : Nat, pb = (n : Int) := ⟨pb.toNat, by omega⟩
    simp only [Int.toNat_natCast] at hC
    have HPR : Hid (∀ W, Calls Try.prog 90 #[.int .i64 n, .agg #[.int .i64 m, .int .i64 u, .int .i64 b]] W fun e w' => e = .returned (.agg #[.int .i64 i0, .int .i64 i1, .int .i64 i2, .int .i64 i3]) ∧ Below W.heap.size W w') := fun W => l17Predict_any n m u b W hpl (by omega) hC
    rw [hpl] at HVP
    clear hin hpl hC0 hC s1 s2 s3 s4 s5 s6
    go_enter Try.func24, Try.ntmps24
    go_wp2_with (first | (go_at_call 89; refine HIN.out.mono ?_; rintro e w' ⟨rfl, rfl⟩) | (go_at_call 84; refine HVP.out.mono ?_; rintro e w1 ⟨rfl, hb⟩; have HB1 := Lib.hid (below_tr HB.out hb HB.out.size); have HZ1 := Lib.hid (block_below HZ.out hb (hlt_of HZ.out)); have HP1 := Lib.hid (block_below HP.out hb (hlt_of HP.out)); obtain ⟨p3, p4, p5⟩ := cells3 HP1.out; clear hb) | (go_at_call 90; refine (HPR.out _).mono ?_; rintro e w2 ⟨rfl, hb⟩; have HB2 := Lib.hid (below_tr HB1.out hb HB1.out.size); have HZ2 := Lib.hid (block_below HZ1.out hb (hlt_of HZ1.out)); obtain ⟨hr0, hr1, hr2, hr3⟩ := cellsQ HZ2.out; have fr2 : ∀ o, w2.frozen? ⟨w.heap.size + 1, o, none⟩ = false := (fun o => frozen_of_row _ _ o _ _ HZ2.out); clear hb))
    refine bodyPost_ret (v := .tuple #[.agg #[.int .i64 i0, .int .i64 i1, .int .i64 i2, .int .i64 i3], .bool true]) (by simp [results, Try.results24, go_sem, hr0, hr1, hr2, hr3]) rfl ⟨?_, setc4 HB2.out (Nat.le_succ _)⟩
    rw [HO.out, HC.out]; rfl

end Go.Proofs.Ytkckmjajjdpodaa

/- The law FnExactPredictCost: its walk. -/
namespace Go.Proofs.Ytkckmjajjdpodaa
open Go.RowKit Go.Sort
set_option linter.unusedVariables false

theorem toDiskPlan_any (pm pw pb : Int) (w : World) :
    Calls Try.prog 55 #[.agg #[.int .i64 pm, .int .i64 pw, .int .i64 pb]] w fun e w' => e = .returned (.agg #[.int .i64 pm, .int .i64 pw, .int .i64 pb]) ∧ Below w.heap.size w w' := by
  go_enter Try.func55, Try.ntmps55
  go_wp2
  refine bodyPost_ret (v := .agg #[.int .i64 pm, .int .i64 pw, .int .i64 pb]) (by simp [results, Try.results55, go_sem]) rfl ⟨rfl, ?_⟩
  (repeat (first | exact Below.refl _ _ | assumption | refine Below.setCell ?_ (by first | omega | (simp; done) | (simp; omega)) _ | refine Below.alloc ?_ (by first | omega | (simp; done) | (simp; omega)) _ | refine Below.drew ?_ | refine below_drewN ?_ _))
theorem eqDiskCost_same (c0 c1 c2 c3 : Nat) (w : World) :
    Calls Try.prog 56 #[.agg #[.int .i64 c0, .int .i64 c1, .int .i64 c2, .int .i64 c3], .agg #[.int .i64 c0, .int .i64 c1, .int .i64 c2, .int .i64 c3]] w fun e w' => e = .returned (.bool true) ∧ Below w.heap.size w w' := by
  have HB := Lib.hid (below_tr (belowNew w (.cells #[.int .i64 c0, .int .i64 c1, .int .i64 c2, .int .i64 c3] 30)) (belowNew (w.alloc (.cells #[.int .i64 c0, .int .i64 c1, .int .i64 c2, .int .i64 c3] 30)) (.cells #[.int .i64 c0, .int .i64 c1, .int .i64 c2, .int .i64 c3] 30)) (by simp))
  have h0 : ((c0 : Int) != (c0 : Int)) = false := by simp
  have h1 : ((c1 : Int) != (c1 : Int)) = false := by simp
  have h2 : ((c2 : Int) != (c2 : Int)) = false := by simp
  have h3 : ((c3 : Int) != (c3 : Int)) = false := by simp
  go_enter Try.func56, Try.ntmps56
  go_wp2
  go_ret
  exact ⟨rfl, HB.out⟩

set_option maxRecDepth 100000 in
set_option maxHeartbeats 4000000 in
theorem lawPredictCost_any (k pm pw pb : Int) (w : World) (hpm : -9223372036854775808 ≤ pm ∧ pm ≤ 9223372036854775807) (hpw : -9223372036854775808 ≤ pw ∧ pw ≤ 9223372036854775807) (hpb : -9223372036854775808 ≤ pb ∧ pb ≤ 9223372036854775807) :
    Calls Try.prog 8 #[.int .i64 k, .agg #[.int .i64 pm, .int .i64 pw, .int .i64 pb]] w fun e w' => e = .returned (.bool true) ∧ Below w.heap.size w w' := by
  clear hpm hpw hpb
  have HT := Lib.hid (fun W => toDiskPlan_any pm pw pb W)
  have HG := Lib.hid (fun W => specPredictCost_any k pm pw pb W)
  have HI := Lib.hid (fun W => implPredictCost_any k pm pw pb W)
  generalize pcC k pm pw pb = C at HG HI
  generalize pcOk k pm pw pb = ok at HG HI
  obtain ⟨c0, c1, c2, c3⟩ := C
  unfold costV at HG HI
  have HQ := Lib.hid (fun W => eqDiskCost_same c0 c1 c2 c3 W)
  have h2 : (ok != ok) = false := by simp
  have HB0 := Lib.hid (belowNew w (.cells #[.int .i64 pm, .int .i64 pw, .int .i64 pb] 77))
  have HP0 := Lib.hid (block_new w (.cells #[.int .i64 pm, .int .i64 pw, .int .i64 pb] 77))
  go_enter Try.func8, Try.ntmps8
  go_wp2_with fail
  refine (HT.out _).mono ?_
  rintro e w1 ⟨rfl, hb⟩
  have HB1 := Lib.hid (below_tr HB0.out hb HB0.out.size)
  have HP1 := Lib.hid (block_below HP0.out hb (by simp))
  clear hb HB0 HP0
  go_wp2_with fail
  refine (HG.out _).mono ?_
  rintro e w2 ⟨rfl, hb⟩
  have HB2 := Lib.hid (below_tr HB1.out hb HB1.out.size)
  have HP2 := Lib.hid (block_below HP1.out hb (hlt_of HP1.out))
  have HB3 := Lib.hid (below_tr HB2.out (belowNew w2 (.cells #[.int .i64 c0, .int .i64 c1, .int .i64 c2, .int .i64 c3] 30)) HB2.out.size)
  have hz := hlt_of HP2.out
  obtain ⟨p0, p1, p2⟩ := cells3 HP2.out
  have HN2 := Lib.hid (block_new w2 (.cells #[.int .i64 c0, .int .i64 c1, .int .i64 c2, .int .i64 c3] 30))
  clear hb HB1 HP1 HB2 HP2
  go_wp2_with fail
  refine (HT.out _).mono ?_
  rintro e w3 ⟨rfl, hb⟩
  have HB4 := Lib.hid (below_tr HB3.out hb HB3.out.size)
  have HN3 := Lib.hid (block_below HN2.out hb (by simp))
  clear hb HB3 HN2 p0 p1 p2
  go_wp2_with fail
  refine (HI.out _).mono ?_
  rintro e w4 ⟨rfl, hb⟩
  have HB5 := Lib.hid (below_tr HB4.out hb HB4.out.size)
  have HN4 := Lib.hid (block_below HN3.out hb (hlt_of HN3.out))
  have hz4 := hlt_of HN4.out
  obtain ⟨q0, q1, q2, q3⟩ := cellsQ HN4.out
  have HB6 := Lib.hid (below_tr HB5.out (belowNew w4 (.cells #[.int .i64 c0, .int .i64 c1, .int .i64 c2, .int .i64 c3] 30)) HB5.out.size)
  clear hb HB4 HN3 HB5 HN4
  go_wp2_with fail
  refine (HQ.out _).mono ?_
  rintro e w5 ⟨rfl, hb⟩
  have HB7 := Lib.hid (below_tr HB6.out hb HB6.out.size)
  clear hb HB6
  go_wp2
  go_ret
  exact ⟨rfl, HB7.out⟩

end Go.Proofs.Ytkckmjajjdpodaa
