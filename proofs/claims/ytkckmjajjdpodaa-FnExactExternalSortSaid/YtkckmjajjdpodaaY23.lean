/- Several texts in one: lemmas and walks of the functions that the laws reach. -/
import Derived.Test.YtkckmjajjdpodaaY20
import Derived.Test.YtkckmjajjdpodaaY22
import Derived.Test.YtkckmjajjdpodaaY17
import Derived.Test.YtkckmjajjdpodaaY13

/- Walks: ExternalSort of both packages. -/
namespace Go.Proofs.Ytkckmjajjdpodaa
open Go.RowKit Go.Sort
set_option linter.unusedVariables false

def exOk (zs : List (Int × Int)) (pm pw pb : Int) : Bool := okRecs zs && planOk pm pw pb
def exL (zs : List (Int × Int)) (pm pw pb : Int) : List (Int × Int) := if exOk zs pm pw pb = true then Mg.srtP zs else []
def exC (zs : List (Int × Int)) (pm pw pb : Int) : Nat × Nat × Nat × Nat := if exOk zs pm pw pb = true then Mg.costOf zs.length pm.toNat pw.toNat pb.toNat else (0, 0, 0, 0)
/-- What ExternalSort gives back: a list that is the caller's own. -/
def ExEndO (w : World) (zs : List (Int × Int)) (pm pw pb : Int) (e : Ending) (w' : World) : Prop :=
  ∃ (a : Option Addr) (n c : Nat), e = .returned (.tuple #[.slice a n c, .agg (costV (exC zs pm pw pb).1 (exC zs pm pw pb).2.1 (exC zs pm pw pb).2.2.1 (exC zs pm pw pb).2.2.2), .bool (exOk zs pm pw pb)]) ∧ Rd w' a n c (exL zs pm pw pb) ∧ OwnE w' w.heap.size a n c (exL zs pm pw pb) ∧ Below w.heap.size w w'

set_option maxRecDepth 100000 in
set_option maxHeartbeats 1000000 in
theorem implExternalSort_any (a : Option Addr) (n c : Nat) (zs : List (Int × Int)) (pm pw pb : Int) (w : World) (hbig : n ≤ 9223372036854775807) (h : Rd w a n c zs) :
    Calls Try.prog 17 #[.slice a n c, .agg #[.int .i64 pm, .int .i64 pw, .int .i64 pb]] w (ExEndO w zs pm pw pb) := by
  obtain ⟨wa, hwa⟩ : ∃ W, W = w.alloc (.cells #[.int .i64 pm, .int .i64 pw, .int .i64 pb] 26) := ⟨_, rfl⟩
  obtain ⟨wb, hwb⟩ : ∃ W, W = wa.alloc (.cells #[.int .i64 0, .int .i64 0, .int .i64 0, .int .i64 0] 30) := ⟨_, rfl⟩
  have sa : wa.heap.size = w.heap.size + 1 := by rw [hwa]; simp
  have ba : Below w.heap.size w wa := by rw [hwa]; exact belowNew _ _
  have bb : Below wa.heap.size wa wb := by rw [hwb]; exact belowNew _ _
  have ha : wa.heap[w.heap.size]? = some (.cells #[.int .i64 pm, .int .i64 pw, .int .i64 pb] 26 (0, 0)) := by rw [hwa]; exact block_new _ _
  have HP := Lib.hid (block_below ha bb (by omega))
  have HZ : Hid (wb.heap[w.heap.size + 1]? = some (.cells #[.int .i64 0, .int .i64 0, .int .i64 0, .int .i64 0] 30 (0, 0))) := by show _ = _; rw [hwb, ← sa]; exact block_new _ _
  have HB := Lib.hid (below_tr ba bb ba.size)
  have HR := Lib.hid ((h.same ba).same bb)
  have hlen := h.len
  have HV : Hid (Calls Try.prog 81 #[.slice a n c] wb fun e w' => e = .returned (.bool (okRecs zs)) ∧ Below wb.heap.size wb w') := by
    have h1 := isValidRecords_any a c zs wb (by omega) HR.out.recs
    rw [hlen] at h1; exact h1
  clear h ha ba bb sa
  subst hwb
  subst hwa
  unfold ExEndO
  go_enter Try.func17, Try.ntmps17
  go_wp2_with fail
  refine HV.out.mono ?_
  rintro e w1 ⟨rfl, hb⟩
  have HB1 := Lib.hid (below_tr HB.out hb HB.out.size)
  have HZ1 := Lib.hid (block_below HZ.out hb (hlt_of HZ.out))
  have HP1 := Lib.hid (block_below HP.out hb (hlt_of HP.out))
  have HR1 := Lib.hid (HR.out.same hb)
  clear hb HV HB HZ HP HR
  cases hok : okRecs zs
  · have HO : Hid (exOk zs pm pw pb = false) := by show _ = _; unfold exOk; rw [hok]; rfl
    have HC : Hid (exC zs pm pw pb = (0, 0, 0, 0)) := by show _ = _; unfold exC; rw [HO.out]; rfl
    have HL : Hid (exL zs pm pw pb = []) := by show _ = _; unfold exL; rw [HO.out]; rfl
    obtain ⟨hr0, hr1, hr2, hr3⟩ := cellsQ HZ1.out
    have fr2 : ∀ o, w1.frozen? ⟨w.heap.size + 1, o, none⟩ = false := fun o => frozen_of_row _ _ o _ _ HZ1.out
    clear hok
    go_wp2
    refine bodyPost_ret (v := .tuple #[.slice none 0 0, .agg #[.int .i64 0, .int .i64 0, .int .i64 0, .int .i64 0], .bool false]) (by simp [results, Try.results17, go_sem, hr0, hr1, hr2, hr3]) rfl ?_
    exact ⟨none, 0, 0, by rw [HO.out, HC.out]; rfl, by rw [HL.out]; exact rd_nil _, .inl ⟨rfl, HL.out⟩, setc4 HB1.out (Nat.le_succ _)⟩
  obtain ⟨p0, p1, p2⟩ := cells3 HP1.out
  go_wp2_with fail
  refine (isValidPlan_any pm pw pb w1).mono ?_
  rintro e w2 ⟨rfl, hb⟩
  have HB2 := Lib.hid (below_tr HB1.out hb HB1.out.size)
  have HZ2 := Lib.hid (block_below HZ1.out hb (hlt_of HZ1.out))
  have HP2 := Lib.hid (block_below HP1.out hb (hlt_of HP1.out))
  have HR2 := Lib.hid (HR1.out.same hb)
  clear hb HB1 HZ1 HP1 HR1 p0 p1 p2
  cases hpl : planOk pm pw pb
  · have HO : Hid (exOk zs pm pw pb = false) := by show _ = _; unfold exOk; rw [hpl]; simp
    have HC : Hid (exC zs pm pw pb = (0, 0, 0, 0)) := by show _ = _; unfold exC; rw [HO.out]; rfl
    have HL : Hid (exL zs pm pw pb = []) := by show _ = _; unfold exL; rw [HO.out]; rfl
    obtain ⟨hr0, hr1, hr2, hr3⟩ := cellsQ HZ2.out
    have fr2 : ∀ o, w2.frozen? ⟨w.heap.size + 1, o, none⟩ = false := fun o => frozen_of_row _ _ o _ _ HZ2.out
    clear hok hpl
    go_wp2
    refine bodyPost_ret (v := .tuple #[.slice none 0 0, .agg #[.int .i64 0, .int .i64 0, .int .i64 0, .int .i64 0], .bool false]) (by simp [results, Try.results17, go_sem, hr0, hr1, hr2, hr3]) rfl ?_
    exact ⟨none, 0, 0, by rw [HO.out, HC.out]; rfl, by rw [HL.out]; exact rd_nil _, .inl ⟨rfl, HL.out⟩, setc4 HB2.out (Nat.le_succ _)⟩
  · have HO : Hid (exOk zs pm pw pb = true) := by show _ = _; unfold exOk; rw [hpl, hok]; rfl
    obtain ⟨s1, s2, s3, s4, s5, s6⟩ := planOk_iff hpl
    obtain ⟨m, rfl⟩ : ∃ n : Nat, pm = (n : Int) := ⟨pm.toNat, by omega⟩
    obtain ⟨u, rfl⟩ : ∃ n : Nat, pw = (n : Int) := ⟨pw.toNat, by omega⟩
    obtain ⟨b, rfl⟩ : ∃ n : Nat, pb = (n : Int) := ⟨pb.toNat, by omega⟩
    have hC0 : exC zs m u b = Mg.costOf n m u b := by unfold exC; rw [if_pos HO.out, hlen]; rfl
    obtain ⟨⟨c0, c1, c2, c3⟩, hC⟩ : ∃ C, Mg.costOf n m u b = C := ⟨_, rfl⟩
    have HC : Hid (exC zs m u b = (c0, c1, c2, c3)) := by show _ = _; rw [hC0, hC]
    have HL : Hid (exL zs m u b = Mg.srtP zs) := by show _ = _; unfold exL; rw [if_pos HO.out]
    have hn64 : n ≤ 64 := by have := okRecs_le hok; omega
    have HSO := Lib.hid (sortO_any m u b a n c zs w2 hpl hn64 HR2.out)
    unfold SoEndO at HSO
    simp only [costV] at HSO
    obtain ⟨p0, p1, p2⟩ := cells3 HP2.out
    rw [hC] at HSO
    clear hC hC0 hok hpl s1 s2 s3 s4 s5 s6
    go_wp2_with fail
    refine HSO.out.mono ?_
    rintro e w3 ⟨ar, cr, C, rfl, rfl, hrd, hown, hb⟩
    have HB3 := Lib.hid (below_tr HB2.out hb HB2.out.size)
    have HZ3 := Lib.hid (block_below HZ2.out hb (hlt_of HZ2.out))
    have hz3 := hlt_of HZ3.out
    have hs23 := hb.size
    have hs2 := HB2.out.size
    have HB2z := hlt_of HZ2.out
    have HRD := Lib.hid hrd
    have HOW := Lib.hid hown
    clear hown
    clear hb hrd HB2 HZ2 HP2 HR2 p0 p1 p2 HSO
    obtain ⟨wR, hwR⟩ : ∃ W, W = (w3.alloc (.cells #[.int .i64 c0, .int .i64 c1, .int .i64 c2, .int .i64 c3] 30)).drew := ⟨_, rfl⟩
    have hn1 := block_new w3 (.cells #[.int .i64 c0, .int .i64 c1, .int .i64 c2, .int .i64 c3] 30)
    have HTR : Hid (wR.heap[w3.heap.size]? = some (.cells #[.int .i64 c0, .int .i64 c1, .int .i64 c2, .int .i64 c3] 30 (0, 0))) := by
      show _ = _
      rw [hwR]; exact hn1
    have hBR : Below w3.heap.size w3 wR := by
      rw [hwR]
      exact (belowNew w3 _).drew
    have HZR := Lib.hid (block_below HZ3.out hBR hz3)
    have HBR := Lib.hid (below_tr HB3.out hBR HB3.out.size)
    have hRS := setRow_grown wR (w.heap.size + 1) #[.int .i64 c0, .int .i64 c1, .int .i64 c2, .int .i64 c3]
    have HRF : Hid (Rd (wR.setRow (w.heap.size + 1) #[.int .i64 c0, .int .i64 c1, .int .i64 c2, .int .i64 c3]) ar n cr (Mg.srtP zs)) := by
      have h1 := HRD.out.same hBR
      rcases HOW.out with ⟨_, h0⟩ | ho
      · rw [h0] at h1 ⊢
        exact ⟨.inl rfl, h1.len, h1.nil, h1.cap⟩
      · exact rd_own (own_other (own_below ho (Nat.le_refl _) hBR) hRS (fun k hk e => by injection e with e; have := (ho.lt k hk).1; omega))
    have HOF : Hid (OwnE (wR.setRow (w.heap.size + 1) #[.int .i64 c0, .int .i64 c1, .int .i64 c2, .int .i64 c3]) w.heap.size ar n cr (Mg.srtP zs)) := HOW.out.elim Or.inl (fun ho => .inr (own_mono (own_other (own_below ho (Nat.le_refl _) hBR) hRS (fun k hk e => by injection e with e; have := (ho.lt k hk).1; omega)) hs2))
    have HBF := Lib.hid (HBR.out.grown hRS HBR.out.size (fun k hk => by injection hk with hk; omega))
    have HZF := Lib.hid (setRow_heap wR (w.heap.size + 1) _ #[.int .i64 c0, .int .i64 c1, .int .i64 c2, .int .i64 c3] _ (0, 0) HZR.out)
    clear hn1 hBR hRS HB3 HZ3 HBR
    go_wp2_with fail
    refine wp_with_act (fun fr hfr => ?_)
    have hsz4 : fr.tmps.size = 26 := by rw [hfr]; rfl
    have f5 : fr.eval (.tmp 5) = .pointer (some ⟨w.heap.size + 1, 0, none⟩) := by rw [hfr]; rfl
    have f7 : fr.eval (.tmp 7) = .slice ar n cr := by rw [hfr]; rfl
    have f8 : fr.eval (.tmp 8) = .pointer (some ⟨w3.heap.size, 0, none⟩) := by rw [hfr]; rfl
    refine wp_region_held_drew (S := fun _ => True) (by kernel_rfl) trivial (fun _ => ?_)
    rw [← hwR]
    obtain ⟨SL, hSL⟩ : ∃ l : List (Nat × Nat), l = [(0, 24), (1, 25), (2, 4), (4, 6)] := ⟨_, rfl⟩
    obtain ⟨VL, hVL⟩ : ∃ l : List (Nat × Value), l = [(0, .slice ar n cr), (1, .agg #[.int .i64 c0, .int .i64 c1, .int .i64 c2, .int .i64 c3]), (2, .slice ar n cr), (4, .bool true)] := ⟨_, rfl⟩
    have hN1 : (SL.map Prod.fst).Nodup := by rw [hSL]; decide
    have hN2 : (SL.map Prod.snd).Nodup := by rw [hSL]; decide
    have M0 : (0, 24) ∈ SL := by rw [hSL]; exact (.head _)
    have E24 : ∀ x, (puts fr x SL).eval (.tmp 24) = x 0 := fun x => eval_at SL fr hN2 M0 (by rw [hsz4]; decide)
    have M1 : (1, 25) ∈ SL := by rw [hSL]; exact (.tail _ (.head _))
    have E25 : ∀ x, (puts fr x SL).eval (.tmp 25) = x 1 := fun x => eval_at SL fr hN2 M1 (by rw [hsz4]; decide)
    have M2 : (2, 4) ∈ SL := by rw [hSL]; exact (.tail _ (.tail _ (.head _)))
    have E4 : ∀ x, (puts fr x SL).eval (.tmp 4) = x 2 := fun x => eval_at SL fr hN2 M2 (by rw [hsz4]; decide)
    have M4 : (4, 6) ∈ SL := by rw [hSL]; exact (.tail _ (.tail _ (.tail _ (.head _))))
    have E6 : ∀ x, (puts fr x SL).eval (.tmp 6) = x 4 := fun x => eval_at SL fr hN2 M4 (by rw [hsz4]; decide)
    have E5 : ∀ x, (puts fr x SL).eval (.tmp 5) = .pointer (some ⟨w.heap.size + 1, 0, none⟩) := fun x => (eval_far SL fr (by rw [hSL]; decide)).trans f5
    have E7 : ∀ x, (puts fr x SL).eval (.tmp 7) = .slice ar n cr := fun x => (eval_far SL fr (by rw [hSL]; decide)).trans f7
    have E8 : ∀ x, (puts fr x SL).eval (.tmp 8) = .pointer (some ⟨w3.heap.size, 0, none⟩) := fun x => (eval_far SL fr (by rw [hSL]; decide)).trans f8
    have VM0 : (0, .slice ar n cr) ∈ VL := by rw [hVL]; exact (.head _)
    have VU0 : ∀ pp ∈ VL, pp.1 = 0 → pp.2 = .slice ar n cr := by rw [hVL]; exact (List.forall_mem_cons.2 ⟨(fun _ => rfl), (List.forall_mem_cons.2 ⟨(fun e => absurd (show (1 : Nat) = 0 from e) (by decide)), (List.forall_mem_cons.2 ⟨(fun e => absurd (show (2 : Nat) = 0 from e) (by decide)), (List.forall_mem_cons.2 ⟨(fun e => absurd (show (4 : Nat) = 0 from e) (by decide)), (fun _ h => nomatch h)⟩)⟩)⟩)⟩)
    have VM1 : (1, .agg #[.int .i64 c0, .int .i64 c1, .int .i64 c2, .int .i64 c3]) ∈ VL := by rw [hVL]; exact (.tail _ (.head _))
    have VU1 : ∀ pp ∈ VL, pp.1 = 1 → pp.2 = .agg #[.int .i64 c0, .int .i64 c1, .int .i64 c2, .int .i64 c3] := by rw [hVL]; exact (List.forall_mem_cons.2 ⟨(fun e => absurd (show (0 : Nat) = 1 from e) (by decide)), (List.forall_mem_cons.2 ⟨(fun _ => rfl), (List.forall_mem_cons.2 ⟨(fun e => absurd (show (2 : Nat) = 1 from e) (by decide)), (List.forall_mem_cons.2 ⟨(fun e => absurd (show (4 : Nat) = 1 from e) (by decide)), (fun _ h => nomatch h)⟩)⟩)⟩)⟩)
    have VM2 : (2, .slice ar n cr) ∈ VL := by rw [hVL]; exact (.tail _ (.tail _ (.head _)))
    have VU2 : ∀ pp ∈ VL, pp.1 = 2 → pp.2 = .slice ar n cr := by rw [hVL]; exact (List.forall_mem_cons.2 ⟨(fun e => absurd (show (0 : Nat) = 2 from e) (by decide)), (List.forall_mem_cons.2 ⟨(fun e => absurd (show (1 : Nat) = 2 from e) (by decide)), (List.forall_mem_cons.2 ⟨(fun _ => rfl), (List.forall_mem_cons.2 ⟨(fun e => absurd (show (4 : Nat) = 2 from e) (by decide)), (fun _ h => nomatch h)⟩)⟩)⟩)⟩)
    have VM4 : (4, .bool true) ∈ VL := by rw [hVL]; exact (.tail _ (.tail _ (.tail _ (.head _))))
    have VU4 : ∀ pp ∈ VL, pp.1 = 4 → pp.2 = .bool true := by rw [hVL]; exact (List.forall_mem_cons.2 ⟨(fun e => absurd (show (0 : Nat) = 4 from e) (by decide)), (List.forall_mem_cons.2 ⟨(fun e => absurd (show (1 : Nat) = 4 from e) (by decide)), (List.forall_mem_cons.2 ⟨(fun e => absurd (show (2 : Nat) = 4 from e) (by decide)), (List.forall_mem_cons.2 ⟨(fun _ => rfl), (fun _ h => nomatch h)⟩)⟩)⟩)⟩)
    have VN3 : ∀ pp ∈ VL, pp.1 ≠ 3 := by rw [hVL]; exact (List.forall_mem_cons.2 ⟨(show (0 : Nat) ≠ 3 by decide), (List.forall_mem_cons.2 ⟨(show (1 : Nat) ≠ 3 by decide), (List.forall_mem_cons.2 ⟨(show (2 : Nat) ≠ 3 by decide), (List.forall_mem_cons.2 ⟨(show (4 : Nat) ≠ 3 by decide), (fun _ h => nomatch h)⟩)⟩)⟩)⟩)
    have hst4 : fr = puts fr (x0 fr SL) SL := puts_x0 fr SL (by rw [hSL]; decide)
    clear hVL
    refine wpAnyH_inv2 (JV fr SL VL (KS (fun W => W = wR) (fun W => W = wR.setRow (w.heap.size + 1) #[.int .i64 c0, .int .i64 c1, .int .i64 c2, .int .i64 c3]) 3)) (by kernel_rfl) ?steps4 ?done4 _ _ ?start4
    case start4 => exact ⟨_, hst4, VOK.start _ _ _, KS.start rfl⟩
    case steps4 =>
      clear hst4 hSL hfr
      refine ⟨?_, ?_, ?_, ?_, ?_, trivial⟩
      all_goals
        rintro LB ac w' hs hu haf hcl ⟨x, rfl, hv, hk⟩ K hK
      · have r7 := E7 x
        have hlast : LB.getD 3 false = false := by
          cases h : LB.getD 3 false with
          | false => rfl
          | true => exact absurd (hcl 3 _ rfl h ⟨0, .phase⟩ (by simp) rfl) (by rw [hu]; decide)
        have s0 := hk.1 hlast
        subst s0
        obtain ⟨q0, q1, q2, q3⟩ := cellsQ HTR.out
        rw [if_pos (by rfl)]
        refine wp_val (v := .slice ar n cr) ?_ (hK _ _ (jv_set (by rw [hs]; decide) (x := upd x 0 _) (puts_set SL fr hN1 hN2 M0) (hv.val 0 _ VU0) (hk.quiet 0 _ (by decide))))
        generalize (puts fr x SL).eval = ρ at r7 ⊢; go_simp
      · have r8 := E8 x
        have hlast : LB.getD 3 false = false := by
          cases h : LB.getD 3 false with
          | false => rfl
          | true => exact absurd (hcl 3 _ rfl h ⟨1, .data⟩ (by simp) rfl) (by rw [hu]; decide)
        have s0 := hk.1 hlast
        subst s0
        obtain ⟨q0, q1, q2, q3⟩ := cellsQ HTR.out
        rw [if_pos (by rfl)]
        refine wp_val (v := .agg #[.int .i64 c0, .int .i64 c1, .int .i64 c2, .int .i64 c3]) ?_ (hK _ _ (jv_set (by rw [hs]; decide) (x := upd x 1 _) (puts_set SL fr hN1 hN2 M1) (hv.val 1 _ VU1) (hk.quiet 1 _ (by decide))))
        generalize (puts fr x SL).eval = ρ at r8 ⊢; go_simp
      · have r24 := (E24 x).trans (hv _ VM0 (haf ⟨0, .data⟩ (by simp) rfl))
        have hlast : LB.getD 3 false = false := by
          cases h : LB.getD 3 false with
          | false => rfl
          | true => exact absurd (hcl 3 _ rfl h ⟨2, .chain⟩ (by simp) rfl) (by rw [hu]; decide)
        have s0 := hk.1 hlast
        subst s0
        obtain ⟨q0, q1, q2, q3⟩ := cellsQ HTR.out
        rw [if_pos (by rfl)]
        refine wp_val (v := .slice ar n cr) ?_ (hK _ _ (jv_set (by rw [hs]; decide) (x := upd x 2 _) (puts_set SL fr hN1 hN2 M2) (hv.val 2 _ VU2) (hk.quiet 2 _ (by decide))))
        generalize (puts fr x SL).eval = ρ at r24 ⊢; go_simp
      · have r5 := E5 x
        have r25 := (E25 x).trans (hv _ VM1 (haf ⟨1, .data⟩ (by simp) rfl))
        rw [if_pos (by rfl)]
        have s0 := hk.1 hu
        subst s0
        refine wp_store_row _ _ _ rfl (w.heap.size + 1) #[.int .i64 c0, .int .i64 c1, .int .i64 c2, .int .i64 c3] r5 r25 _ _ HZR.out (by kernel_rfl) rfl (by simp [Value.oneCell']) ?_
        exact hK _ _ (jv_set (by rw [hs]; decide) (x := x) rfl (hv.none 3 VN3) (KS.last rfl))
      · rw [if_pos (by rfl)]
        refine wp_val (v := .bool true) ?_ (hK _ _ (jv_set (by rw [hs]; decide) (x := upd x 4 _) (puts_set SL fr hN1 hN2 M4) (hv.val 4 _ VU4) (hk.quiet 4 _ (by decide))))
        go_simp
    case done4 =>
      rintro LB ac w2 hall ⟨x, rfl, hv, hk⟩
      have v0 : x 0 = .slice ar n cr := hv _ VM0 (hall 0 (by decide))
      have v1 : x 1 = .agg #[.int .i64 c0, .int .i64 c1, .int .i64 c2, .int .i64 c3] := hv _ VM1 (hall 1 (by decide))
      have v2 : x 2 = .slice ar n cr := hv _ VM2 (hall 2 (by decide))
      have v4 : x 4 = .bool true := hv _ VM4 (hall 4 (by decide))
      have hww := hk.2 (hall 3 (by decide))
      subst hww
      clear hk
      rw [hSL]
      simp only [puts]
      rw [v2, v4]
      clear M0 E24 M1 E25 M2 E4 M4 E6 E5 E7 E8 f5 f7 f8 VM0 VU0 VM1 VU1 VM2 VU2 VM4 VU4 VN3 hN1 hN2 hst4 hsz4
      clear hall hv v0 v1 v2 v4
      rw [hfr]
      simp only [Act.put, List.setIfInBounds_toArray, List.set_cons_succ, List.set_cons_zero]
      clear hfr hSL
      obtain ⟨z0, z1, z2, z3⟩ := cellsQ HZF.out
      generalize wR.setRow (w.heap.size + 1) #[.int .i64 c0, .int .i64 c1, .int .i64 c2, .int .i64 c3] = wz at z0 z1 z2 z3 HBF HRF HOF ⊢
      go_wp2_with fail
      refine bodyPost_ret (v := .tuple #[.slice ar n cr, .agg #[.int .i64 c0, .int .i64 c1, .int .i64 c2, .int .i64 c3], .bool true]) (by simp [results, Try.results17, go_sem, z0, z1, z2, z3]) rfl ?_
      exact ⟨ar, n, cr, by rw [HO.out, HC.out]; rfl, by rw [HL.out]; exact HRF.out, by rw [HL.out]; exact HOF.out, HBF.out⟩

set_option maxRecDepth 100000 in
set_option maxHeartbeats 1000000 in
theorem specExternalSort_any (a : Option Addr) (n c : Nat) (zs : List (Int × Int)) (pm pw pb : Int) (w : World) (hbig : n ≤ 9223372036854775807) (h : Rd w a n c zs) :
    Calls Try.prog 18 #[.slice a n c, .agg #[.int .i64 pm, .int .i64 pw, .int .i64 pb]] w (ExEndO w zs pm pw pb) := by
  obtain ⟨wa, hwa⟩ : ∃ W, W = w.alloc (.cells #[.int .i64 pm, .int .i64 pw, .int .i64 pb] 26) := ⟨_, rfl⟩
  obtain ⟨wb, hwb⟩ : ∃ W, W = wa.alloc (.cells #[.int .i64 0, .int .i64 0, .int .i64 0, .int .i64 0] 30) := ⟨_, rfl⟩
  have sa : wa.heap.size = w.heap.size + 1 := by rw [hwa]; simp
  have ba : Below w.heap.size w wa := by rw [hwa]; exact belowNew _ _
  have bb : Below wa.heap.size wa wb := by rw [hwb]; exact belowNew _ _
  have ha : wa.heap[w.heap.size]? = some (.cells #[.int .i64 pm, .int .i64 pw, .int .i64 pb] 26 (0, 0)) := by rw [hwa]; exact block_new _ _
  have HP := Lib.hid (block_below ha bb (by omega))
  have HZ : Hid (wb.heap[w.heap.size + 1]? = some (.cells #[.int .i64 0, .int .i64 0, .int .i64 0, .int .i64 0] 30 (0, 0))) := by show _ = _; rw [hwb, ← sa]; exact block_new _ _
  have HB := Lib.hid (below_tr ba bb ba.size)
  have HR := Lib.hid ((h.same ba).same bb)
  have hlen := h.len
  have HV : Hid (Calls Try.prog 83 #[.slice a n c] wb fun e w' => e = .returned (.bool (okRecs zs)) ∧ Below wb.heap.size wb w') := by
    have h1 := l2Records_any a c zs wb (by omega) HR.out.recs
    rw [hlen] at h1; exact h1.mono (fun e w' h => ⟨h.1, by rw [← h.2]; exact Below.refl _ _⟩)
  clear h ha ba bb sa
  subst hwb
  subst hwa
  unfold ExEndO
  go_enter Try.func18, Try.ntmps18
  go_wp2_with fail
  refine HV.out.mono ?_
  rintro e w1 ⟨rfl, hb⟩
  have HB1 := Lib.hid (below_tr HB.out hb HB.out.size)
  have HZ1 := Lib.hid (block_below HZ.out hb (hlt_of HZ.out))
  have HP1 := Lib.hid (block_below HP.out hb (hlt_of HP.out))
  have HR1 := Lib.hid (HR.out.same hb)
  clear hb HV HB HZ HP HR
  cases hok : okRecs zs
  · have HO : Hid (exOk zs pm pw pb = false) := by show _ = _; unfold exOk; rw [hok]; rfl
    have HC : Hid (exC zs pm pw pb = (0, 0, 0, 0)) := by show _ = _; unfold exC; rw [HO.out]; rfl
    have HL : Hid (exL zs pm pw pb = []) := by show _ = _; unfold exL; rw [HO.out]; rfl
    have hz1 := block_below HZ1.out (belowNew w1 (.cells #[] 72)) (hlt_of HZ1.out)
    obtain ⟨hr0, hr1, hr2, hr3⟩ := cellsQ hz1
    have fr2 : ∀ o, World.frozen? _ ⟨w.heap.size + 1, o, none⟩ = false := fun o => frozen_of_row _ _ o _ _ hz1
    clear hz1
    clear hok
    go_wp2
    refine bodyPost_ret (v := .tuple #[.slice (some ⟨w1.heap.size, 0, none⟩) 0 0, .agg #[.int .i64 0, .int .i64 0, .int .i64 0, .int .i64 0], .bool false]) (by simp [results, Try.results18, go_sem, hr0, hr1, hr2, hr3]) rfl ?_
    exact ⟨_, 0, 0, by rw [HO.out, HC.out]; rfl, by rw [HL.out]; exact rd_some _ _ _, .inl ⟨rfl, HL.out⟩, setc4 (below_tr HB1.out (belowNew w1 (.cells #[] 72)) HB1.out.size) (Nat.le_succ _)⟩
  obtain ⟨p0, p1, p2⟩ := cells3 HP1.out
  go_wp2_with fail
  refine (l17Plan_any pm pw pb w1).mono ?_
  rintro e w2 ⟨rfl, hb⟩
  have HB2 := Lib.hid (below_tr HB1.out hb HB1.out.size)
  have HZ2 := Lib.hid (block_below HZ1.out hb (hlt_of HZ1.out))
  have HP2 := Lib.hid (block_below HP1.out hb (hlt_of HP1.out))
  have HR2 := Lib.hid (HR1.out.same hb)
  clear hb HB1 HZ1 HP1 HR1 p0 p1 p2
  cases hpl : planOk pm pw pb
  · have HO : Hid (exOk zs pm pw pb = false) := by show _ = _; unfold exOk; rw [hpl]; simp
    have HC : Hid (exC zs pm pw pb = (0, 0, 0, 0)) := by show _ = _; unfold exC; rw [HO.out]; rfl
    have HL : Hid (exL zs pm pw pb = []) := by show _ = _; unfold exL; rw [HO.out]; rfl
    have hz2 := block_below HZ2.out (belowNew w2 (.cells #[] 72)) (hlt_of HZ2.out)
    obtain ⟨hr0, hr1, hr2, hr3⟩ := cellsQ hz2
    have fr2 : ∀ o, World.frozen? _ ⟨w.heap.size + 1, o, none⟩ = false := fun o => frozen_of_row _ _ o _ _ hz2
    clear hz2
    clear hok hpl
    go_wp2
    refine bodyPost_ret (v := .tuple #[.slice (some ⟨w2.heap.size, 0, none⟩) 0 0, .agg #[.int .i64 0, .int .i64 0, .int .i64 0, .int .i64 0], .bool false]) (by simp [results, Try.results18, go_sem, hr0, hr1, hr2, hr3]) rfl ?_
    exact ⟨_, 0, 0, by rw [HO.out, HC.out]; rfl, by rw [HL.out]; exact rd_some _ _ _, .inl ⟨rfl, HL.out⟩, setc4 (below_tr HB2.out (belowNew w2 (.cells #[] 72)) HB2.out.size) (Nat.le_succ _)⟩
  · have HO : Hid (exOk zs pm pw pb = true) := by show _ = _; unfold exOk; rw [hpl, hok]; rfl
    obtain ⟨s1, s2, s3, s4, s5, s6⟩ := planOk_iff hpl
    obtain ⟨m, rfl⟩ : ∃ n : Nat, pm = (n : Int) := ⟨pm.toNat, by omega⟩
    obtain ⟨u, rfl⟩ : ∃ n : Nat, pw = (n : Int) := ⟨pw.toNat, by omega⟩
    obtain ⟨b, rfl⟩ : ∃ n : Nat, pb = (n : Int) := ⟨pb.toNat, by omega⟩
    have hC0 : exC zs m u b = Mg.costOf n m u b := by unfold exC; rw [if_pos HO.out, hlen]; rfl
    obtain ⟨⟨c0, c1, c2, c3⟩, hC⟩ : ∃ C, Mg.costOf n m u b = C := ⟨_, rfl⟩
    have HC : Hid (exC zs m u b = (c0, c1, c2, c3)) := by show _ = _; rw [hC0, hC]
    have HL : Hid (exL zs m u b = Mg.srtP zs) := by show _ = _; unfold exL; rw [if_pos HO.out]
    have hn64 : n ≤ 64 := by have := okRecs_le hok; omega
    have HSO := Lib.hid (l17SortO_any m u b a n c zs w2 hpl hn64 HR2.out)
    unfold SoEndO at HSO
    simp only [costV] at HSO
    obtain ⟨p0, p1, p2⟩ := cells3 HP2.out
    rw [hC] at HSO
    clear hC hC0 hok hpl s1 s2 s3 s4 s5 s6
    go_wp2_with fail
    refine HSO.out.mono ?_
    rintro e w3 ⟨ar, cr, C, rfl, rfl, hrd, hown, hb⟩
    have HB3 := Lib.hid (below_tr HB2.out hb HB2.out.size)
    have HZ3 := Lib.hid (block_below HZ2.out hb (hlt_of HZ2.out))
    have hz3 := hlt_of HZ3.out
    have hs23 := hb.size
    have hs2 := HB2.out.size
    have HB2z := hlt_of HZ2.out
    have HRD := Lib.hid hrd
    have HOW := Lib.hid hown
    clear hown
    clear hb hrd HB2 HZ2 HP2 HR2 p0 p1 p2 HSO
    obtain ⟨wR, hwR⟩ : ∃ W, W = (w3.alloc (.cells #[.int .i64 c0, .int .i64 c1, .int .i64 c2, .int .i64 c3] 30)).drew := ⟨_, rfl⟩
    have hn1 := block_new w3 (.cells #[.int .i64 c0, .int .i64 c1, .int .i64 c2, .int .i64 c3] 30)
    have HTR : Hid (wR.heap[w3.heap.size]? = some (.cells #[.int .i64 c0, .int .i64 c1, .int .i64 c2, .int .i64 c3] 30 (0, 0))) := by
      show _ = _
      rw [hwR]; exact hn1
    have hBR : Below w3.heap.size w3 wR := by
      rw [hwR]
      exact (belowNew w3 _).drew
    have HZR := Lib.hid (block_below HZ3.out hBR hz3)
    have HBR := Lib.hid (below_tr HB3.out hBR HB3.out.size)
    have hRS := setRow_grown wR (w.heap.size + 1) #[.int .i64 c0, .int .i64 c1, .int .i64 c2, .int .i64 c3]
    have HRF : Hid (Rd (wR.setRow (w.heap.size + 1) #[.int .i64 c0, .int .i64 c1, .int .i64 c2, .int .i64 c3]) ar n cr (Mg.srtP zs)) := by
      have h1 := HRD.out.same hBR
      rcases HOW.out with ⟨_, h0⟩ | ho
      · rw [h0] at h1 ⊢
        exact ⟨.inl rfl, h1.len, h1.nil, h1.cap⟩
      · exact rd_own (own_other (own_below ho (Nat.le_refl _) hBR) hRS (fun k hk e => by injection e with e; have := (ho.lt k hk).1; omega))
    have HOF : Hid (OwnE (wR.setRow (w.heap.size + 1) #[.int .i64 c0, .int .i64 c1, .int .i64 c2, .int .i64 c3]) w.heap.size ar n cr (Mg.srtP zs)) := HOW.out.elim Or.inl (fun ho => .inr (own_mono (own_other (own_below ho (Nat.le_refl _) hBR) hRS (fun k hk e => by injection e with e; have := (ho.lt k hk).1; omega)) hs2))
    have HBF := Lib.hid (HBR.out.grown hRS HBR.out.size (fun k hk => by injection hk with hk; omega))
    have HZF := Lib.hid (setRow_heap wR (w.heap.size + 1) _ #[.int .i64 c0, .int .i64 c1, .int .i64 c2, .int .i64 c3] _ (0, 0) HZR.out)
    clear hn1 hBR hRS HB3 HZ3 HBR
    go_wp2_with fail
    refine wp_with_act (fun fr hfr => ?_)
    have hsz4 : fr.tmps.size = 27 := by rw [hfr]; rfl
    have f5 : fr.eval (.tmp 5) = .pointer (some ⟨w.heap.size + 1, 0, none⟩) := by rw [hfr]; rfl
    have f7 : fr.eval (.tmp 7) = .slice ar n cr := by rw [hfr]; rfl
    have f8 : fr.eval (.tmp 8) = .pointer (some ⟨w3.heap.size, 0, none⟩) := by rw [hfr]; rfl
    refine wp_region_held_drew (S := fun _ => True) (by kernel_rfl) trivial (fun _ => ?_)
    rw [← hwR]
    obtain ⟨SL, hSL⟩ : ∃ l : List (Nat × Nat), l = [(0, 25), (1, 26), (2, 4), (4, 6)] := ⟨_, rfl⟩
    obtain ⟨VL, hVL⟩ : ∃ l : List (Nat × Value), l = [(0, .slice ar n cr), (1, .agg #[.int .i64 c0, .int .i64 c1, .int .i64 c2, .int .i64 c3]), (2, .slice ar n cr), (4, .bool true)] := ⟨_, rfl⟩
    have hN1 : (SL.map Prod.fst).Nodup := by rw [hSL]; decide
    have hN2 : (SL.map Prod.snd).Nodup := by rw [hSL]; decide
    have M0 : (0, 25) ∈ SL := by rw [hSL]; exact (.head _)
    have E25 : ∀ x, (puts fr x SL).eval (.tmp 25) = x 0 := fun x => eval_at SL fr hN2 M0 (by rw [hsz4]; decide)
    have M1 : (1, 26) ∈ SL := by rw [hSL]; exact (.tail _ (.head _))
    have E26 : ∀ x, (puts fr x SL).eval (.tmp 26) = x 1 := fun x => eval_at SL fr hN2 M1 (by rw [hsz4]; decide)
    have M2 : (2, 4) ∈ SL := by rw [hSL]; exact (.tail _ (.tail _ (.head _)))
    have E4 : ∀ x, (puts fr x SL).eval (.tmp 4) = x 2 := fun x => eval_at SL fr hN2 M2 (by rw [hsz4]; decide)
    have M4 : (4, 6) ∈ SL := by rw [hSL]; exact (.tail _ (.tail _ (.tail _ (.head _))))
    have E6 : ∀ x, (puts fr x SL).eval (.tmp 6) = x 4 := fun x => eval_at SL fr hN2 M4 (by rw [hsz4]; decide)
    have E5 : ∀ x, (puts fr x SL).eval (.tmp 5) = .pointer (some ⟨w.heap.size + 1, 0, none⟩) := fun x => (eval_far SL fr (by rw [hSL]; decide)).trans f5
    have E7 : ∀ x, (puts fr x SL).eval (.tmp 7) = .slice ar n cr := fun x => (eval_far SL fr (by rw [hSL]; decide)).trans f7
    have E8 : ∀ x, (puts fr x SL).eval (.tmp 8) = .pointer (some ⟨w3.heap.size, 0, none⟩) := fun x => (eval_far SL fr (by rw [hSL]; decide)).trans f8
    have VM0 : (0, .slice ar n cr) ∈ VL := by rw [hVL]; exact (.head _)
    have VU0 : ∀ pp ∈ VL, pp.1 = 0 → pp.2 = .slice ar n cr := by rw [hVL]; exact (List.forall_mem_cons.2 ⟨(fun _ => rfl), (List.forall_mem_cons.2 ⟨(fun e => absurd (show (1 : Nat) = 0 from e) (by decide)), (List.forall_mem_cons.2 ⟨(fun e => absurd (show (2 : Nat) = 0 from e) (by decide)), (List.forall_mem_cons.2 ⟨(fun e => absurd (show (4 : Nat) = 0 from e) (by decide)), (fun _ h => nomatch h)⟩)⟩)⟩)⟩)
    have VM1 : (1, .agg #[.int .i64 c0, .int .i64 c1, .int .i64 c2, .int .i64 c3]) ∈ VL := by rw [hVL]; exact (.tail _ (.head _))
    have VU1 : ∀ pp ∈ VL, pp.1 = 1 → pp.2 = .agg #[.int .i64 c0, .int .i64 c1, .int .i64 c2, .int .i64 c3] := by rw [hVL]; exact (List.forall_mem_cons.2 ⟨(fun e => absurd (show (0 : Nat) = 1 from e) (by decide)), (List.forall_mem_cons.2 ⟨(fun _ => rfl), (List.forall_mem_cons.2 ⟨(fun e => absurd (show (2 : Nat) = 1 from e) (by decide)), (List.forall_mem_cons.2 ⟨(fun e => absurd (show (4 : Nat) = 1 from e) (by decide)), (fun _ h => nomatch h)⟩)⟩)⟩)⟩)
    have VM2 : (2, .slice ar n cr) ∈ VL := by rw [hVL]; exact (.tail _ (.tail _ (.head _)))
    have VU2 : ∀ pp ∈ VL, pp.1 = 2 → pp.2 = .slice ar n cr := by rw [hVL]; exact (List.forall_mem_cons.2 ⟨(fun e => absurd (show (0 : Nat) = 2 from e) (by decide)), (List.forall_mem_cons.2 ⟨(fun e => absurd (show (1 : Nat) = 2 from e) (by decide)), (List.forall_mem_cons.2 ⟨(fun _ => rfl), (List.forall_mem_cons.2 ⟨(fun e => absurd (show (4 : Nat) = 2 from e) (by decide)), (fun _ h => nomatch h)⟩)⟩)⟩)⟩)
    have VM4 : (4, .bool true) ∈ VL := by rw [hVL]; exact (.tail _ (.tail _ (.tail _ (.head _))))
    have VU4 : ∀ pp ∈ VL, pp.1 = 4 → pp.2 = .bool true := by rw [hVL]; exact (List.forall_mem_cons.2 ⟨(fun e => absurd (show (0 : Nat) = 4 from e) (by decide)), (List.forall_mem_cons.2 ⟨(fun e => absurd (show (1 : Nat) = 4 from e) (by decide)), (List.forall_mem_cons.2 ⟨(fun e => absurd (show (2 : Nat) = 4 from e) (by decide)), (List.forall_mem_cons.2 ⟨(fun _ => rfl), (fun _ h => nomatch h)⟩)⟩)⟩)⟩)
    have VN3 : ∀ pp ∈ VL, pp.1 ≠ 3 := by rw [hVL]; exact (List.forall_mem_cons.2 ⟨(show (0 : Nat) ≠ 3 by decide), (List.forall_mem_cons.2 ⟨(show (1 : Nat) ≠ 3 by decide), (List.forall_mem_cons.2 ⟨(show (2 : Nat) ≠ 3 by decide), (List.forall_mem_cons.2 ⟨(show (4 : Nat) ≠ 3 by decide), (fun _ h => nomatch h)⟩)⟩)⟩)⟩)
    have hst4 : fr = puts fr (x0 fr SL) SL := puts_x0 fr SL (by rw [hSL]; decide)
    clear hVL
    refine wpAnyH_inv2 (JV fr SL VL (KS (fun W => W = wR) (fun W => W = wR.setRow (w.heap.size + 1) #[.int .i64 c0, .int .i64 c1, .int .i64 c2, .int .i64 c3]) 3)) (by kernel_rfl) ?steps4 ?done4 _ _ ?start4
    case start4 => exact ⟨_, hst4, VOK.start _ _ _, KS.start rfl⟩
    case steps4 =>
      clear hst4 hSL hfr
      refine ⟨?_, ?_, ?_, ?_, ?_, trivial⟩
      all_goals
        rintro LB ac w' hs hu haf hcl ⟨x, rfl, hv, hk⟩ K hK
      · have r7 := E7 x
        have hlast : LB.getD 3 false = false := by
          cases h : LB.getD 3 false with
          | false => rfl
          | true => exact absurd (hcl 3 _ rfl h ⟨0, .phase⟩ (by simp) rfl) (by rw [hu]; decide)
        have s0 := hk.1 hlast
        subst s0
        obtain ⟨q0, q1, q2, q3⟩ := cellsQ HTR.out
        rw [if_pos (by rfl)]
        refine wp_val (v := .slice ar n cr) ?_ (hK _ _ (jv_set (by rw [hs]; decide) (x := upd x 0 _) (puts_set SL fr hN1 hN2 M0) (hv.val 0 _ VU0) (hk.quiet 0 _ (by decide))))
        generalize (puts fr x SL).eval = ρ at r7 ⊢; go_simp
      · have r8 := E8 x
        have hlast : LB.getD 3 false = false := by
          cases h : LB.getD 3 false with
          | false => rfl
          | true => exact absurd (hcl 3 _ rfl h ⟨1, .data⟩ (by simp) rfl) (by rw [hu]; decide)
        have s0 := hk.1 hlast
        subst s0
        obtain ⟨q0, q1, q2, q3⟩ := cellsQ HTR.out
        rw [if_pos (by rfl)]
        refine wp_val (v := .agg #[.int .i64 c0, .int .i64 c1, .int .i64 c2, .int .i64 c3]) ?_ (hK _ _ (jv_set (by rw [hs]; decide) (x := upd x 1 _) (puts_set SL fr hN1 hN2 M1) (hv.val 1 _ VU1) (hk.quiet 1 _ (by decide))))
        generalize (puts fr x SL).eval = ρ at r8 ⊢; go_simp
      · have r25 := (E25 x).trans (hv _ VM0 (haf ⟨0, .data⟩ (by simp) rfl))
        have hlast : LB.getD 3 false = false := by
          cases h : LB.getD 3 false with
          | false => rfl
          | true => exact absurd (hcl 3 _ rfl h ⟨2, .chain⟩ (by simp) rfl) (by rw [hu]; decide)
        have s0 := hk.1 hlast
        subst s0
        obtain ⟨q0, q1, q2, q3⟩ := cellsQ HTR.out
        rw [if_pos (by rfl)]
        refine wp_val (v := .slice ar n cr) ?_ (hK _ _ (jv_set (by rw [hs]; decide) (x := upd x 2 _) (puts_set SL fr hN1 hN2 M2) (hv.val 2 _ VU2) (hk.quiet 2 _ (by decide))))
        generalize (puts fr x SL).eval = ρ at r25 ⊢; go_simp
      · have r5 := E5 x
        have r26 := (E26 x).trans (hv _ VM1 (haf ⟨1, .data⟩ (by simp) rfl))
        rw [if_pos (by rfl)]
        have s0 := hk.1 hu
        subst s0
        refine wp_store_row _ _ _ rfl (w.heap.size + 1) #[.int .i64 c0, .int .i64 c1, .int .i64 c2, .int .i64 c3] r5 r26 _ _ HZR.out (by kernel_rfl) rfl (by simp [Value.oneCell']) ?_
        exact hK _ _ (jv_set (by rw [hs]; decide) (x := x) rfl (hv.none 3 VN3) (KS.last rfl))
      · rw [if_pos (by rfl)]
        refine wp_val (v := .bool true) ?_ (hK _ _ (jv_set (by rw [hs]; decide) (x := upd x 4 _) (puts_set SL fr hN1 hN2 M4) (hv.val 4 _ VU4) (hk.quiet 4 _ (by decide))))
        go_simp
    case done4 =>
      rintro LB ac w2 hall ⟨x, rfl, hv, hk⟩
      have v0 : x 0 = .slice ar n cr := hv _ VM0 (hall 0 (by decide))
      have v1 : x 1 = .agg #[.int .i64 c0, .int .i64 c1, .int .i64 c2, .int .i64 c3] := hv _ VM1 (hall 1 (by decide))
      have v2 : x 2 = .slice ar n cr := hv _ VM2 (hall 2 (by decide))
      have v4 : x 4 = .bool true := hv _ VM4 (hall 4 (by decide))
      have hww := hk.2 (hall 3 (by decide))
      subst hww
      clear hk
      rw [hSL]
      simp only [puts]
      rw [v2, v4]
      clear M0 E25 M1 E26 M2 E4 M4 E6 E5 E7 E8 f5 f7 f8 VM0 VU0 VM1 VU1 VM2 VU2 VM4 VU4 VN3 hN1 hN2 hst4 hsz4
      clear hall hv v0 v1 v2 v4
      rw [hfr]
      simp only [Act.put, List.setIfInBounds_toArray, List.set_cons_succ, List.set_cons_zero]
      clear hfr hSL
      obtain ⟨z0, z1, z2, z3⟩ := cellsQ HZF.out
      generalize wR.setRow (w.heap.size + 1) #[.int .i64 c0, .int .i64 c1, .int .i64 c2, .int .i64 c3] = wz at z0 z1 z2 z3 HBF HRF HOF ⊢
      go_wp2_with fail
      refine bodyPost_ret (v := .tuple #[.slice ar n cr, .agg #[.int .i64 c0, .int .i64 c1, .int .i64 c2, .int .i64 c3], .bool true]) (by simp [results, Try.results18, go_sem, z0, z1, z2, z3]) rfl ?_
      exact ⟨ar, n, cr, by rw [HO.out, HC.out]; rfl, by rw [HL.out]; exact HRF.out, by rw [HL.out]; exact HOF.out, HBF.out⟩

end Go.Proofs.Ytkckmjajjdpodaa

/- Walks: numbers of blocks and of passes; the draws of plans. -/
namespace Go.Proofs.Ytkckmjajjdpodaa
open Go.RowKit Go.Sort
set_option linter.unusedVariables false

def boOk (c b : Int) : Bool := inB c 0 100000 && inB b 1 100000
def boN (c b : Int) : Nat := if boOk c b = true then Mg.blkN b.toNat c.toNat else 0
theorem boOk_iff {c b : Int} (h : boOk c b = true) : ∃ n m : Nat, c = (n : Int) ∧ b = (m : Int) ∧ n ≤ 100000 ∧ 0 < m ∧ m ≤ 100000 ∧ boN c b = Mg.blkN m n := by
  have hN : boN c b = Mg.blkN b.toNat c.toNat := by unfold boN; rw [if_pos h]
  unfold boOk at h
  rw [Bool.and_eq_true] at h
  obtain ⟨h1, h2⟩ := inB_iff.1 h.1
  obtain ⟨h3, h4⟩ := inB_iff.1 h.2
  exact ⟨c.toNat, b.toNat, by omega, by omega, by omega, by omega, by omega, hN⟩

set_option maxHeartbeats 1000000 in
theorem implBlocksOf_any (c b : Int) (w : World) : Calls Try.prog 69 #[.int .i64 c, .int .i64 b] w fun e w' => e = .returned (.tuple #[.int .i64 ((boN c b : Nat) : Int), .bool (boOk c b)]) ∧ w = w' := by
  have H1 := Lib.hid (in_any c 0 100000 w)
  have H2 := Lib.hid (in_any b 1 100000 w)
  cases hc : inB c 0 100000
  · have HO : Hid (boOk c b = false) := by show _ = _; unfold boOk; rw [hc]; rfl
    have HN : Hid (boN c b = 0) := by show _ = _; unfold boN; rw [HO.out]; rfl
    rw [hc] at H1
    clear hc
    go_enter Try.func69, Try.ntmps69
    go_wp2_with fail
    refine H1.out.mono ?_
    rintro e w1 ⟨rfl, rfl⟩
    go_wp2
    go_ret2
    exact ⟨by rw [HO.out, HN.out]; rfl, rfl⟩
  rw [hc] at H1
  cases hb : inB b 1 100000
  · have HO : Hid (boOk c b = false) := by show _ = _; unfold boOk; rw [hb]; simp
    have HN : Hid (boN c b = 0) := by show _ = _; unfold boN; rw [HO.out]; rfl
    rw [hb] at H2
    clear hc hb
    go_enter Try.func69, Try.ntmps69
    go_wp2_with fail
    refine H1.out.mono ?_
    rintro e w1 ⟨rfl, rfl⟩
    go_wp2_with fail
    refine H2.out.mono ?_
    rintro e w1 ⟨rfl, rfl⟩
    go_wp2
    go_ret2
    exact ⟨by rw [HO.out, HN.out]; rfl, rfl⟩
  · have hO : boOk c b = true := by unfold boOk; rw [hc, hb]; rfl
    have HO := Lib.hid hO
    obtain ⟨n, m, rfl, rfl, hn, hm0, hm, hN⟩ := boOk_iff hO
    have HN := Lib.hid hN
    rw [hb] at H2
    have H3 := Lib.hid (blocks_any n m w hm0 (by omega) (by omega))
    generalize Mg.blkN m n = x at H3 HN
    clear hc hb hO hN hm0 hm hn
    go_enter Try.func69, Try.ntmps69
    go_wp2_with fail
    refine H1.out.mono ?_
    rintro e w1 ⟨rfl, rfl⟩
    go_wp2_with fail
    refine H2.out.mono ?_
    rintro e w1 ⟨rfl, rfl⟩
    go_wp2_with fail
    refine H3.out.mono ?_
    rintro e w1 ⟨rfl, rfl⟩
    go_wp2
    go_ret2
    exact ⟨by rw [HO.out, HN.out]; rfl, rfl⟩
set_option maxHeartbeats 1000000 in
theorem specBlocksOf_any (c b : Int) (w : World) : Calls Try.prog 70 #[.int .i64 c, .int .i64 b] w fun e w' => e = .returned (.tuple #[.int .i64 ((boN c b : Nat) : Int), .bool (boOk c b)]) ∧ w = w' := by
  have H1 := Lib.hid (l1In_any c 0 100000 w)
  have H2 := Lib.hid (l1In_any b 1 100000 w)
  cases hc : inB c 0 100000
  · have HO : Hid (boOk c b = false) := by show _ = _; unfold boOk; rw [hc]; rfl
    have HN : Hid (boN c b = 0) := by show _ = _; unfold boN; rw [HO.out]; rfl
    rw [hc] at H1
    clear hc
    go_enter Try.func70, Try.ntmps70
    go_wp2_with fail
    refine H1.out.mono ?_
    rintro e w1 ⟨rfl, rfl⟩
    go_wp2
    go_ret2
    exact ⟨by rw [HO.out, HN.out]; rfl, rfl⟩
  rw [hc] at H1
  cases hb : inB b 1 100000
  · have HO : Hid (boOk c b = false) := by show _ = _; unfold boOk; rw [hb]; simp
    have HN : Hid (boN c b = 0) := by show _ = _; unfold boN; rw [HO.out]; rfl
    rw [hb] at H2
    clear hc hb
    go_enter Try.func70, Try.ntmps70
    go_wp2_with fail
    refine H1.out.mono ?_
    rintro e w1 ⟨rfl, rfl⟩
    go_wp2_with fail
    refine H2.out.mono ?_
    rintro e w1 ⟨rfl, rfl⟩
    go_wp2
    go_ret2
    exact ⟨by rw [HO.out, HN.out]; rfl, rfl⟩
  · have hO : boOk c b = true := by unfold boOk; rw [hc, hb]; rfl
    have HO := Lib.hid hO
    obtain ⟨n, m, rfl, rfl, hn, hm0, hm, hN⟩ := boOk_iff hO
    have HN := Lib.hid hN
    rw [hb] at H2
    have H3 := Lib.hid (l17Blocks_any n m w hm0 (by omega) (by omega))
    generalize Mg.blkN m n = x at H3 HN
    clear hc hb hO hN hm0 hm hn
    go_enter Try.func70, Try.ntmps70
    go_wp2_with fail
    refine H1.out.mono ?_
    rintro e w1 ⟨rfl, rfl⟩
    go_wp2_with fail
    refine H2.out.mono ?_
    rintro e w1 ⟨rfl, rfl⟩
    go_wp2_with fail
    refine H3.out.mono ?_
    rintro e w1 ⟨rfl, rfl⟩
    go_wp2
    go_ret2
    exact ⟨by rw [HO.out, HN.out]; rfl, rfl⟩

set_option maxHeartbeats 1000000 in
theorem passCount_any (n u : Nat) (w : World) (hn : n ≤ 100000) (hu : 2 ≤ u) (hu2 : u ≤ 16) : Calls Try.prog 92 #[.int .i64 n, .int .i64 u] w fun e w' => e = .returned (.int .i64 ((Mg.pc u n : Nat) : Int)) ∧ w = w' := by
  have h3 : (u : Int) ≠ 0 := by omega
  have h4 : ((u : Int) == 0) = false := by rw [beq_eq_false_iff_ne]; exact h3
  go_enter Try.func92, Try.ntmps92
  go_wp2
  go_loopw [0, 5] (fun nv pv wr => ∃ k p : Nat, nv = .int .i64 k ∧ pv = .int .i64 p ∧ k ≤ n ∧ p + k ≤ n + 1 ∧ p ≤ n ∧ Hid (p + Mg.pc u k = Mg.pc u n) ∧ w = wr) (fun nv _ _ => (intOf nv).toNat)
  case atStart => exact ⟨n, 0, rfl, rfl, by omega, by omega, by omega, Lib.hid (by omega), rfl⟩
  case round =>
    obtain ⟨k, p, rfl, rfl, hk, hp, hpn, HP, rfl⟩ := hrel
    by_cases h1 : 1 < k
    · have q1 : decide ((1 : Int) < (k : Int)) = true := decide_eq_true (by omega)
      have h5 := blk_eq (n := k) (b := u) (by omega)
      have h6 := blk_eqt (n := k) (b := u) (by omega)
      have hlt : Mg.blkN u k < k := Mg.up_lt hu h1
      have HX : Hid (p + 1 + Mg.pc u (Mg.blkN u k) = Mg.pc u n) := by
        show _ = _
        have h7 := HP.out
        rw [Mg.pc_go h1 hu] at h7
        unfold Mg.blkN; omega
      generalize Mg.blkN u k = x at h5 h6 hlt HX
      go_wp2
      go_roundw
      case rel => exact ⟨x, p + 1, by go_num, by go_num, by omega, by omega, by omega, HX, (by first | rfl | trivial)⟩
      case measure => simp [intOf] <;> omega
    · have q1 : decide ((1 : Int) < (k : Int)) = false := decide_eq_false (by omega)
      have hpx : Mg.pc u n = p := by
        have h7 := HP.out
        rw [Mg.pc_end (by omega)] at h7; omega
      have HPX := Lib.hid hpx
      clear hpx
      go_wp2
      go_ret
      exact ⟨by rw [HPX.out]; rfl, rfl⟩

set_option maxHeartbeats 1000000 in
theorem implPassCount_any (n u : Nat) (w : World) (hn : n ≤ 100000) (hu : 2 ≤ u) (hu2 : u ≤ 16) : Calls Try.prog 26 #[.int .i64 n, .int .i64 u] w fun e w' => e = .returned (.tuple #[.int .i64 ((Mg.pc u n : Nat) : Int), .bool true]) ∧ w = w' := by
  have H1 := Lib.hid (in_any (n : Int) 0 100000 w)
  have H2 := Lib.hid (in_any (u : Int) 2 16 w)
  rw [inB_iff.2 ⟨by omega, by omega⟩] at H1 H2
  have H3 := Lib.hid (passCount_any n u w hn hu hu2)
  generalize Mg.pc u n = x at H3
  clear hn hu hu2
  go_enter Try.func26, Try.ntmps26
  go_wp2_with fail
  refine H1.out.mono ?_
  rintro e w1 ⟨rfl, rfl⟩
  go_wp2_with fail
  refine H2.out.mono ?_
  rintro e w1 ⟨rfl, rfl⟩
  go_wp2_with fail
  refine H3.out.mono ?_
  rintro e w1 ⟨rfl, rfl⟩
  go_wp2
  go_ret2
  exact ⟨rfl, rfl⟩

set_option maxHeartbeats 1000000 in
theorem specIsValidPlan_any (pm pw pb : Int) (w : World) : Calls Try.prog 21 #[.agg #[.int .i64 pm, .int .i64 pw, .int .i64 pb]] w fun e w' => e = .returned (.bool (planOk pm pw pb)) ∧ Below w.heap.size w w' := by
  have HB := Lib.hid (belowNew w (.cells #[.int .i64 pm, .int .i64 pw, .int .i64 pb] 26))
  have HV := Lib.hid (fun W => l17Plan_any pm pw pb W)
  go_enter Try.func21, Try.ntmps21
  go_wp2_with fail
  refine (HV.out _).mono ?_
  rintro e w1 ⟨rfl, hb⟩
  have HB1 := Lib.hid (below_tr HB.out hb HB.out.size)
  clear hb HB
  go_wp2
  go_ret
  exact ⟨rfl, HB1.out⟩

end Go.Proofs.Ytkckmjajjdpodaa

/- Walks: the draws of plans. -/
namespace Go.Proofs.Ytkckmjajjdpodaa
open Go.RowKit Go.Sort
set_option linter.unusedVariables false

theorem Drawn.put {w0 w : World} {bc : Nat} {ac : Option Addr} {zs : List Int} {M : Int} (h : Drawn w0 w bc ac zs M) (T j : Nat) (v : Value) (hT : w0.heap.size ≤ T) : Drawn w0 (w.setCell ⟨T, j, none⟩ v) bc ac zs M := by
  have h1 := h.old.1
  have hg := grown_setN w T j v
  refine ⟨h.cur.app hg (fun e => by injection e with e; omega) (fun h0 b off e e2 => by have := h.old.2 h0 b off e; injection e2 with e2; omega), ⟨hg.os.trans h.grown.os, hg.tape.trans h.grown.tape, hg.output.trans h.grown.output, Nat.le_trans h.grown.size hg.size, fun k hk hne => ?_⟩, h.old⟩
  rw [hg.block k (Nat.lt_of_lt_of_le hk h.grown.size) (fun e => by injection e with e; omega)]
  exact h.grown.block k hk hne

/-- A drawn plan. -/
def PlEnd (w : World) (bc : Nat) (ac : Option Addr) (cs : List Int) (M : Int) (e : Ending) (w' : World) : Prop :=
  ∃ pm pw pb : Int, e = .returned (.agg #[.int .i64 pm, .int .i64 pw, .int .i64 pb]) ∧ (-1 ≤ pm ∧ pm ≤ 100) ∧ (-1 ≤ pw ∧ pw ≤ 100) ∧ (-1 ≤ pb ∧ pb ≤ 100) ∧ Drawn w w' bc ac cs (M + 20)

set_option maxRecDepth 100000 in
set_option maxHeartbeats 4000000 in
theorem plan_any (bc : Nat) (ac : Option Addr) (cs : List Int) (M : Int) (w : World) (hM : M ≤ 1099511400000) (h : Cur w bc ac cs M) (hold : cs ≠ [] → ∀ b off, ac = some ⟨b, off, none⟩ → b < w.heap.size) :
    Calls Try.prog 80 #[.pointer (some ⟨bc, 0, none⟩)] w (PlEnd w bc ac cs M) := by
  have hbc := h.lt
  have D0 : Hid (Drawn w w bc ac cs M) := ⟨h, grown_refl _ _, h.lt, hold⟩
  have D1 := Lib.hid (D0.out.below (belowNew w (.cells #[.int .i64 0, .int .i64 0, .int .i64 0] 26)))
  have HR1 := Lib.hid (block_new w (.cells #[.int .i64 0, .int .i64 0, .int .i64 0] 26))
  clear h hold D0
  unfold PlEnd
  go_enter Try.func80, Try.ntmps80
  go_wp2_with fail
  refine (pick_any bc ac cs M 7 _ (by omega) (by omega) D1.out.cur).mono ?_
  rintro e w1 ⟨⟨r, rfl, hr0, hr1⟩, hc, hg⟩
  have D2 := Lib.hid (D1.out.step hc hg)
  have HR2 := Lib.hid (block_row HR1.out hg (by intro e; injection e with e; omega))
  clear hc hg D1 HR1
  go_wp2_with fail
  refine (pick_any bc ac cs _ 3 _ (by omega) (by omega) D2.out.cur).mono ?_
  rintro e w2 ⟨⟨s, rfl, hs0, hs1⟩, hc, hg⟩
  have hz2 : w.heap.size < w2.heap.size := by have := hlt_of HR2.out; have := hg.size; omega
  have D3 := Lib.hid ((D2.out.step hc hg).below (belowNew w2 (.cells #[.int .i64 (1 + r), .int .i64 (2 + s), .int .i64 0] 26)))
  have HR3 := Lib.hid (block_below (block_row HR2.out hg (by intro e; injection e with e; omega)) (belowNew w2 (.cells #[.int .i64 (1 + r), .int .i64 (2 + s), .int .i64 0] 26)) hz2)
  have HP3 := Lib.hid (block_new w2 (.cells #[.int .i64 (1 + r), .int .i64 (2 + s), .int .i64 0] 26))
  obtain ⟨p0, p1, p2⟩ := cells3 HP3.out
  clear hc hg D2 HR2
  go_wp2_with fail
  refine (pick_any bc ac cs _ (1 + r) _ (by omega) (by omega) D3.out.cur).mono ?_
  rintro e w4 ⟨⟨y, rfl, hy0, hy1⟩, hc, hg⟩
  have HP4 := Lib.hid (block_row HP3.out hg (by intro e; injection e with e; omega))
  have HR4 := Lib.hid (block_row HR3.out hg (by intro e; injection e with e; omega))
  have D4 := Lib.hid ((D3.out.step hc hg).put w2.heap.size 2 (.int .i64 (1 + y)) (by omega))
  have HP5 := Lib.hid (heap_storeN HP4.out 2 (.int .i64 (1 + y)))
  have HR5 : Hid ((w4.setCell ⟨w2.heap.size, 2, none⟩ (.int .i64 (1 + y))).heap[w.heap.size]? = some (.cells #[.int .i64 0, .int .i64 0, .int .i64 0] 26 (0, 0))) := by
    show _ = _
    rw [Below.heap_setCell w4 ⟨w2.heap.size, 2, none⟩ _ w.heap.size (by show w.heap.size ≠ w2.heap.size; omega)]; exact HR4.out
  obtain ⟨p3, p4, p5⟩ := cells3 HP4.out
  have fr4 : ∀ o, w4.frozen? ⟨w2.heap.size, o, none⟩ = false := fun o => frozen_of_row _ _ o _ _ HP4.out
  clear hc hg D3 HR3 HP3 p0 p1 p2 HR4 HP4
  go_wp2_with fail
  generalize w4.setCell ⟨w2.heap.size, 2, none⟩ (.int .i64 (1 + y)) = w5 at D4 HP5 HR5 ⊢
  clear p3 p4 p5 fr4
  refine (one_any bc ac cs _ 16 _ ?h1 (by omega) D4.out.cur).mono ?_
  case h1 => omega
  rintro e w6 ⟨⟨b6, rfl⟩, hc, hg⟩
  have D6 := Lib.hid (D4.out.step hc hg)
  have HP6 := Lib.hid (block_row HP5.out hg (by intro e; injection e with e; omega))
  have HR6 := Lib.hid (block_row HR5.out hg (by intro e; injection e with e; omega))
  clear hc hg D4 HP5 HR5
  cases b6
  · obtain ⟨p0, p1, p2⟩ := cells3 HP6.out
    obtain ⟨r0, r1, r2⟩ := cells3 HR6.out
    have fr6 : ∀ o, w6.frozen? ⟨w.heap.size, o, none⟩ = false := fun o => frozen_of_row _ _ o _ _ HR6.out
    have D7 := Lib.hid (((D6.out.put w.heap.size 0 (.int .i64 (1 + r)) (Nat.le_refl _)).put w.heap.size 1 (.int .i64 (2 + s)) (Nat.le_refl _)).put w.heap.size 2 (.int .i64 (1 + y)) (Nat.le_refl _))
    clear D6 HP6 HR6
    go_wp2
    refine bodyPost_ret (v := .agg #[.int .i64 (1 + r), .int .i64 (2 + s), .int .i64 (1 + y)]) (by simp [results, Try.results80, go_sem, r0, r1, r2]) rfl ⟨1 + r, 2 + s, 1 + y, rfl, by omega, by omega, by omega, D7.out.mono (by omega)⟩
  · have D7 := Lib.hid (D6.out.below (belowNew w6 (.cells #[.int .i64 0, .int .i64 64, .int .i64 65, .int .i64 3] 3)))
    have HR7 := Lib.hid (block_below HR6.out (belowNew w6 (.cells #[.int .i64 0, .int .i64 64, .int .i64 65, .int .i64 3] 3)) (hlt_of HR6.out))
    have hz6 := hlt_of HR6.out
    clear D6 HP6 HR6
    go_wp2_with fail
    refine (among_any bc ac cs _ _ 4 [0, 64, 65, 3] _ ?h2 (by decide) (by decide) D7.out.cur (lit_ints w6 [0, 64, 65, 3] (by decide)) ?h3).mono ?_
    case h2 => omega
    case h3 => intro b off e; injection e with e; injection e with e; omega
    rintro e w8 ⟨⟨x, rfl, hx⟩, hc, hg⟩
    have D8 := Lib.hid ((D7.out.step hc hg).below (belowNew w8 (.cells #[.int .i64 1, .int .i64 2, .int .i64 16, .int .i64 17] 3)))
    have hr8 := block_row HR7.out hg (by intro e; injection e with e; omega)
    have HR8 := Lib.hid (block_below hr8 (belowNew w8 (.cells #[.int .i64 1, .int .i64 2, .int .i64 16, .int .i64 17] 3)) (hlt_of hr8))
    have hz8 := hlt_of hr8
    have hx2 : -1 ≤ x ∧ x ≤ 100 := by simp at hx; omega
    clear hc hg D7 HR7 hr8 hx
    go_wp2_with fail
    refine (among_any bc ac cs _ _ 4 [1, 2, 16, 17] _ ?h2 (by decide) (by decide) D8.out.cur (lit_ints w8 [1, 2, 16, 17] (by decide)) ?h3).mono ?_
    case h2 => omega
    case h3 => intro b off e; injection e with e; injection e with e; omega
    rintro e w9 ⟨⟨u, rfl, hu⟩, hc, hg⟩
    have D9 := Lib.hid ((D8.out.step hc hg).below (belowNew w9 (.cells #[.int .i64 0, .int .i64 1, .int .i64 3, .int .i64 4] 3)))
    have hr9 := block_row HR8.out hg (by intro e; injection e with e; omega)
    have HR9 := Lib.hid (block_below hr9 (belowNew w9 (.cells #[.int .i64 0, .int .i64 1, .int .i64 3, .int .i64 4] 3)) (hlt_of hr9))
    have hz9 := hlt_of hr9
    have hu2 : -1 ≤ u ∧ u ≤ 100 := by simp at hu; omega
    clear hc hg D8 HR8 hr9 hu
    go_wp2_with fail
    refine (among_any bc ac cs _ _ 4 [0, 1, 3, 4] _ ?h2 (by decide) (by decide) D9.out.cur (lit_ints w9 [0, 1, 3, 4] (by decide)) ?h3).mono ?_
    case h2 => omega
    case h3 => intro b off e; injection e with e; injection e with e; omega
    rintro e wa ⟨⟨v, rfl, hv⟩, hc, hg⟩
    have Da := Lib.hid (D9.out.step hc hg)
    have hra := block_row HR9.out hg (by intro e; injection e with e; omega)
    obtain ⟨r0, r1, r2⟩ := cells3 hra
    have fra : ∀ o, wa.frozen? ⟨w.heap.size, o, none⟩ = false := fun o => frozen_of_row _ _ o _ _ hra
    have hv2 : -1 ≤ v ∧ v ≤ 100 := by simp at hv; omega
    have Db := Lib.hid (((Da.out.put w.heap.size 0 (.int .i64 x) (Nat.le_refl _)).put w.heap.size 1 (.int .i64 u) (Nat.le_refl _)).put w.heap.size 2 (.int .i64 v) (Nat.le_refl _))
    clear hc hg D9 HR9 hra hv Da
    go_wp2
    refine bodyPost_ret (v := .agg #[.int .i64 x, .int .i64 u, .int .i64 v]) (by simp [results, Try.results80, go_sem, r0, r1, r2]) rfl ⟨x, u, v, rfl, hx2, hu2, hv2, Db.out.mono (by omega)⟩

end Go.Proofs.Ytkckmjajjdpodaa
