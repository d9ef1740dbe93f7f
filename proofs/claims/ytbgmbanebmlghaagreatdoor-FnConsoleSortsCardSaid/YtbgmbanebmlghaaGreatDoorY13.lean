/- Several texts in one: lemmas and walks of the functions that the law reaches. -/
import Derived.Test.YtbgmbanebmlghaaGreatDoorY11
import Derived.Test.YtbgmbanebmlghaaGreatDoorY12

namespace Go.Proofs.YtbgmbanebmlghaaGreatDoor
open Go.RowKit Go.Sort
set_option linter.unusedVariables false

set_option maxRecDepth 100000 in
set_option maxHeartbeats 8000000 in
theorem merge_any (a b : Option Addr) (ca cb n m : Nat) (L R : List (Int × Int)) (w : World) (hn : L.length = n) (hm : R.length = m) (hl : n + m ≤ 1000) (hL : RecsAt w a L) (hR : RecsAt w b R) (ha : NilOk a ca) (hb : NilOk b cb) (hca : n ≤ ca) (hcb : m ≤ cb) :
    Calls Tryz.prog 242 #[.slice a n ca, .slice b m cb] w (MergeEnd w L R (n + m)) := by
  have E0 := Lib.hid (own_lit (w := w) (e := 87) (size := 2) #[] 0 (by omega) rfl)
  have HB0 := Lib.hid (show Below w.heap.size w (w.alloc (.cells #[] 87)) from (Below.refl _ _).alloc (Nat.le_refl _) _)
  have HL0 := Lib.hid hL; have HR0 := Lib.hid hR
  have HA0 := Lib.hid ha; have HBB0 := Lib.hid hb
  have HN := Lib.hid hn; have HM := Lib.hid hm
  clear hL hR ha hb hn hm
  unfold MergeEnd
  go_enter Tryz.func242, Tryz.ntmps242
  go_wp2
  go_loopw [0, 1, 6, 7] (fun x y o k wr => ∃ (xa xb : Option Addr) (i j da db t q : Nat) (A B O : List (Int × Int)), x = .slice xa i da ∧ y = .slice xb j db ∧ k = .int .i64 q ∧ wr.ownsRow w.heap.size 87 2 o t (flat encR O) ∧ Below w.heap.size w wr ∧
      o.ownBlock ≠ none ∧ Hid (A.length = i) ∧ Hid (B.length = j) ∧ t + i + j = n + m ∧ q ≤ t ∧ i ≤ da ∧ j ≤ db ∧ Hid (O ++ Mg.mrg ltR A B = Mg.mrg ltR L R) ∧ Hid (q + Mg.mcnt ltR A B = Mg.mcnt ltR L R) ∧ Hid (RecsAt w xa A) ∧ Hid (RecsAt w xb B) ∧ Hid (NilOk xa da) ∧ Hid (NilOk xb db)) (fun x y _ _ _ => lenV x + lenV y)
  case atStart => exact ⟨a, b, n, m, ca, cb, 0, 0, L, R, [], rfl, rfl, rfl, E0.out, HB0.out, by simp [Value.ownBlock], HN, HM, by omega, by omega, hca, hcb, Lib.hid rfl, Lib.hid (by omega), HL0, HR0, HA0, HBB0⟩
  case round =>
    obtain ⟨xa, xb, i, j, da, db, t, q, A, B, O, rfl, rfl, rfl, hown, hb, hob, HAl, HBl, htm, hq, hida, hjdb, HMG, HCT, HRA, HRB, HNA, HNB⟩ := hrel
    obtain ⟨oa, oc, rfl⟩ := own_slice hown
    have HO := Lib.hid hown; have HB := Lib.hid hb; have HOB := Lib.hid hob
    clear hown hb hob E0 HB0
    have hbs := HB.out.size
    by_cases hij : 0 < i ∧ 0 < j
    case neg =>
      have HF : Hid (O ++ A ++ B = Mg.mrg ltR L R) := by
        show _ = _
        rw [← HMG.out, List.append_assoc]
        rcases Nat.eq_zero_or_pos i with h | h
        · have : A = [] := List.eq_nil_of_length_eq_zero (by rw [HAl.out]; exact h)
          subst this; rw [Mg.mrg_nil]; rfl
        · have : B = [] := List.eq_nil_of_length_eq_zero (by rw [HBl.out]; omega)
          subst this; rw [Mg.nil_mrg, List.append_nil]
      have HC9 : Hid (q = Mg.mcnt ltR L R) := by
        show _ = _
        rw [← HCT.out]
        rcases Nat.eq_zero_or_pos i with h | h
        · have : A = [] := List.eq_nil_of_length_eq_zero (by rw [HAl.out]; exact h)
          subst this; rw [Mg.mcnt_nil]; rfl
        · have : B = [] := List.eq_nil_of_length_eq_zero (by rw [HBl.out]; omega)
          subst this; rw [Mg.nil_mcnt]; rfl
      have HRA2 := Lib.hid (HRA.out.below (Nat.le_refl _) HB.out)
      by_cases hi : 0 < i
      · have q1 : decide (0 < (i : Int)) = true := decide_eq_true (by omega)
        have q2 : decide (0 < (j : Int)) = false := decide_eq_false (by omega)
        go_wp2_with (first | (at_builtin; refine wpList_appR slRec rfl _ _ rfl rfl HO.out rfl HRA2.out HAl.out HNA.out (by omega) hbs ?_; intro v' w2 hown2 hg2 ht2; obtain ⟨a', c, rfl⟩ := own_slice hown2; have HO3 := Lib.hid hown2; have HB3 := Lib.hid (below_app HB.out hbs HO.out (Nat.le_refl _) hg2); have HT3 := Lib.hid ht2; clear hown2 hg2 ht2; have hbs3 := HB3.out.size; have HRB3 := Lib.hid (HRB.out.below (Nat.le_refl _) HB3.out)) | (at_builtin; refine wpList_appR slRec rfl _ _ rfl rfl HO3.out rfl HRB3.out HBl.out HNB.out (by omega) hbs3 ?_; intro v' w4 hown2 hg2 ht2; obtain ⟨a4, c4, rfl⟩ := own_slice hown2; have HO4 := Lib.hid hown2; have HB4 := Lib.hid (below_app HB3.out hbs3 HO3.out (Nat.le_refl _) hg2); have HT4 := Lib.hid ht2; clear hown2 hg2 ht2))
        go_ret2
        obtain ⟨g, rfl, _, _⟩ := own_addr HO4.out (by
          rcases (show (Value.slice a4 (t + i + j) c4).ownBlock = (Value.slice a' (t + i) c).ownBlock ∨ (Value.slice a4 (t + i + j) c4).ownBlock = some w2.heap.size from HT4.out) with h | h
          · rw [h]
            rcases (show (Value.slice a' (t + i) c).ownBlock = (Value.slice oa t oc).ownBlock ∨ (Value.slice a' (t + i) c).ownBlock = some wr.heap.size from HT3.out) with h | h
            · rw [h]; exact HOB.out
            · rw [h]; simp
          · rw [h]; simp)
        refine ⟨g, c4, ?_, ?_, HB4.out⟩
        · rw [← HC9.out]; rfl
        · have := HO4.out
          rw [← flat_append, ← flat_append, HF.out, htm] at this
          exact this
      · have q1 : decide (0 < (i : Int)) = false := decide_eq_false (by omega)
        go_wp2_with (first | (at_builtin; refine wpList_appR slRec rfl _ _ rfl rfl HO.out rfl HRA2.out HAl.out HNA.out (by omega) hbs ?_; intro v' w2 hown2 hg2 ht2; obtain ⟨a', c, rfl⟩ := own_slice hown2; have HO3 := Lib.hid hown2; have HB3 := Lib.hid (below_app HB.out hbs HO.out (Nat.le_refl _) hg2); have HT3 := Lib.hid ht2; clear hown2 hg2 ht2; have hbs3 := HB3.out.size; have HRB3 := Lib.hid (HRB.out.below (Nat.le_refl _) HB3.out)) | (at_builtin; refine wpList_appR slRec rfl _ _ rfl rfl HO3.out rfl HRB3.out HBl.out HNB.out (by omega) hbs3 ?_; intro v' w4 hown2 hg2 ht2; obtain ⟨a4, c4, rfl⟩ := own_slice hown2; have HO4 := Lib.hid hown2; have HB4 := Lib.hid (below_app HB3.out hbs3 HO3.out (Nat.le_refl _) hg2); have HT4 := Lib.hid ht2; clear hown2 hg2 ht2))
        go_ret2
        obtain ⟨g, rfl, _, _⟩ := own_addr HO4.out (by
          rcases (show (Value.slice a4 (t + i + j) c4).ownBlock = (Value.slice a' (t + i) c).ownBlock ∨ (Value.slice a4 (t + i + j) c4).ownBlock = some w2.heap.size from HT4.out) with h | h
          · rw [h]
            rcases (show (Value.slice a' (t + i) c).ownBlock = (Value.slice oa t oc).ownBlock ∨ (Value.slice a' (t + i) c).ownBlock = some wr.heap.size from HT3.out) with h | h
            · rw [h]; exact HOB.out
            · rw [h]; simp
          · rw [h]; simp)
        refine ⟨g, c4, ?_, ?_, HB4.out⟩
        · rw [← HC9.out]; rfl
        · have := HO4.out
          rw [← flat_append, ← flat_append, HF.out, htm] at this
          exact this
    obtain ⟨hi, hj⟩ := hij
    cases A with
    | nil => exact absurd HAl.out (by simp; omega)
    | cons X A =>
    cases B with
    | nil => exact absurd HBl.out (by simp; omega)
    | cons Y B =>
    obtain ⟨pa, oa', rfl, _⟩ := recs_addr HRA.out (by simp)
    obtain ⟨pb, ob', rfl, _⟩ := recs_addr HRB.out (by simp)
    obtain ⟨c0, c1⟩ := recs_head (HRA.out.below (Nat.le_refl _) HB.out)
    obtain ⟨e0, e1⟩ := recs_head (HRB.out.below (Nat.le_refl _) HB.out)
    have q1 : decide (0 < (i : Int)) = true := decide_eq_true (by omega)
    have q2 : decide (0 < (j : Int)) = true := decide_eq_true (by omega)
    obtain ⟨X1, X2⟩ := X
    obtain ⟨Y1, Y2⟩ := Y
    have hlt : ltR (Y1, Y2) (X1, X2) = decide (Y1 < X1) := rfl
    by_cases hyx : Y1 < X1
    · have hz : decide (Y1 < X1) = true := decide_eq_true hyx
      rw [hz] at hlt
      have HMG2 : Hid (O ++ [(Y1, Y2)] ++ Mg.mrg ltR ((X1, X2) :: A) B = Mg.mrg ltR L R) := by
        show _ = _
        rw [← HMG.out, Mg.mrg_lt hlt, List.append_assoc]; rfl
      have HCT2 : Hid (q + 1 + Mg.mcnt ltR ((X1, X2) :: A) B = Mg.mcnt ltR L R) := by
        show _ = _
        rw [← HCT.out, Mg.mcnt_lt _ hlt]; omega
      have HBl2 : Hid (B.length = j - 1) := by show _ = _; have := HBl.out; rw [List.length_cons] at this; omega
      have HRB2 := Lib.hid (recs_tail HRB.out)
      clear HMG HCT hyx hlt HBl HRB
      go_wp2_with fail
      go_quiet (fail)
      have HO2 : Hid ((wr.drewN nq).ownsRow w.heap.size 87 2 (.slice oa t oc) t (flat encR O)) := HO.out
      have HB2 := Lib.hid (below_drewN HB.out nq)
      have d0 : (wr.drewN nq).cell? ⟨pb, ob', none⟩ = some (.int .i64 Y1) := e0
      have d1 : (wr.drewN nq).cell? ⟨pb, ob' + 1, none⟩ = some (.int .i64 Y2) := e1
      generalize wr.drewN nq = wq at HO2 HB2 d0 d1 ⊢
      clear c0 c1 e0 e1 HO HB hbs
      have hbs := HB2.out.size
      have hn40 : t + 1 ≤ 1099511627776 := by omega
      have HNW := Lib.hid (fun (W : World) => cells_new W [.int .i64 Y1, .int .i64 Y2] 87)
      have d0 : wq.drew.cell? ⟨pb, ob', none⟩ = some (.int .i64 Y1) := d0
      have d1 : wq.drew.cell? ⟨pb, ob' + 1, none⟩ = some (.int .i64 Y2) := d1
      have HO2a : Hid ((wq.drew.alloc (.cells #[.int .i64 Y1, .int .i64 Y2] 87)).ownsRow w.heap.size 87 2 (.slice oa t oc) t (flat encR O)) := HO2.out.alloc _
      have HB2a : Hid (Below w.heap.size w (wq.drew.alloc (.cells #[.int .i64 Y1, .int .i64 Y2] 87))) := HB2.out.drew.alloc hbs _
      have hbsa := HB2a.out.size
      have hdb1 : (1 : Int) ≤ (j : Int) := by omega
      have hdb2 : (j : Int) ≤ (db : Int) := by omega
      go_wp2_with fail
      go_region_law (first | ((try go_split_ands); refine step_appX slRec (by rfl) _ _ (by rfl) w.heap.size (.slice oa t oc) t (flat encR O) _ 1 _ [.int .i64 Y1, .int .i64 Y2] (by rfl) HO2a.out (by rfl) rfl (HNW.out wq.drew) (by simp [Value.oneCell']) hn40 hbsa ?_; intro v' w2 hown' hg ht))
      all_goals
        obtain ⟨a', c', rfl⟩ := own_slice hown'
        have HO3 := Lib.hid hown'
        have HB3 := Lib.hid (below_app HB2a.out hbsa HO2a.out (Nat.le_refl _) hg)
        have HT3 : Hid ((Value.slice a' (t + 1) c').ownBlock ≠ none) := by
          show _ ≠ _
          rcases ht with h | h
          · rw [h]; exact HOB.out
          · rw [h]; simp
        clear hown' hg ht HNW HO2a HB2a HO2 HB2 d0 d1
        go_wp2
        all_goals
          first
            | exact ⟨⟨_, _, _, _, ⟨_, _, i, j - 1, da, rfl, db - 1, rfl, t + 1, q + 1, rfl, (X1, X2) :: A, B, O ++ [(Y1, Y2)], by rw [flat_append, flat_one]; exact HO3.out, HB3.out, HT3.out, HAl, HBl2, by omega, by omega, by omega, by omega, HMG2, HCT2, HRA, HRB2, HNA, Lib.hid (nilOk_some _ _)⟩, rfl, rfl, rfl, by go_num⟩, by simp only [lenV]; omega⟩
            | exact ⟨⟨_, _, _, _, ⟨_, _, i, j - 1, da, rfl, 0, rfl, t + 1, q + 1, rfl, (X1, X2) :: A, B, O ++ [(Y1, Y2)], by rw [flat_append, flat_one]; exact HO3.out, HB3.out, HT3.out, HAl, HBl2, by omega, by omega, by omega, by omega, HMG2, HCT2, HRA, Lib.hid (.inl (List.eq_nil_of_length_eq_zero (by rw [HBl2.out]; omega))), HNA, Lib.hid (nilOk_some _ _)⟩, rfl, rfl, rfl, by go_num⟩, by simp only [lenV]; omega⟩
    · have hz : decide (Y1 < X1) = false := decide_eq_false hyx
      rw [hz] at hlt
      have HMG2 : Hid (O ++ [(X1, X2)] ++ Mg.mrg ltR A ((Y1, Y2) :: B) = Mg.mrg ltR L R) := by
        show _ = _
        rw [← HMG.out, Mg.mrg_ge hlt, List.append_assoc]; rfl
      have HCT2 : Hid (q + 1 + Mg.mcnt ltR A ((Y1, Y2) :: B) = Mg.mcnt ltR L R) := by
        show _ = _
        rw [← HCT.out, Mg.mcnt_ge _ hlt]; omega
      have HAl2 : Hid (A.length = i - 1) := by show _ = _; have := HAl.out; rw [List.length_cons] at this; omega
      have HRA2 := Lib.hid (recs_tail HRA.out)
      clear HMG HCT hyx hlt HAl HRA
      go_wp2_with fail
      go_quiet (fail)
      have HO2 : Hid ((wr.drewN nq).ownsRow w.heap.size 87 2 (.slice oa t oc) t (flat encR O)) := HO.out
      have HB2 := Lib.hid (below_drewN HB.out nq)
      have d0 : (wr.drewN nq).cell? ⟨pa, oa', none⟩ = some (.int .i64 X1) := c0
      have d1 : (wr.drewN nq).cell? ⟨pa, oa' + 1, none⟩ = some (.int .i64 X2) := c1
      generalize wr.drewN nq = wq at HO2 HB2 d0 d1 ⊢
      clear c0 c1 e0 e1 HO HB hbs
      have hbs := HB2.out.size
      have hn40 : t + 1 ≤ 1099511627776 := by omega
      have HNW := Lib.hid (fun (W : World) => cells_new W [.int .i64 X1, .int .i64 X2] 87)
      have d0 : wq.drew.cell? ⟨pa, oa', none⟩ = some (.int .i64 X1) := d0
      have d1 : wq.drew.cell? ⟨pa, oa' + 1, none⟩ = some (.int .i64 X2) := d1
      have HO2a : Hid ((wq.drew.alloc (.cells #[.int .i64 X1, .int .i64 X2] 87)).ownsRow w.heap.size 87 2 (.slice oa t oc) t (flat encR O)) := HO2.out.alloc _
      have HB2a : Hid (Below w.heap.size w (wq.drew.alloc (.cells #[.int .i64 X1, .int .i64 X2] 87))) := HB2.out.drew.alloc hbs _
      have hbsa := HB2a.out.size
      have hdb1 : (1 : Int) ≤ (i : Int) := by omega
      have hdb2 : (i : Int) ≤ (da : Int) := by omega
      go_wp2_with fail
      go_region_law (first | ((try go_split_ands); refine step_appX slRec (by rfl) _ _ (by rfl) w.heap.size (.slice oa t oc) t (flat encR O) _ 1 _ [.int .i64 X1, .int .i64 X2] (by rfl) HO2a.out (by rfl) rfl (HNW.out wq.drew) (by simp [Value.oneCell']) hn40 hbsa ?_; intro v' w2 hown' hg ht))
      all_goals
        obtain ⟨a', c', rfl⟩ := own_slice hown'
        have HO3 := Lib.hid hown'
        have HB3 := Lib.hid (below_app HB2a.out hbsa HO2a.out (Nat.le_refl _) hg)
        have HT3 : Hid ((Value.slice a' (t + 1) c').ownBlock ≠ none) := by
          show _ ≠ _
          rcases ht with h | h
          · rw [h]; exact HOB.out
          · rw [h]; simp
        clear hown' hg ht HNW HO2a HB2a HO2 HB2 d0 d1
        go_wp2
        all_goals
          first
            | exact ⟨⟨_, _, _, _, ⟨_, _, i - 1, j, da - 1, rfl, db, rfl, t + 1, q + 1, rfl, A, (Y1, Y2) :: B, O ++ [(X1, X2)], by rw [flat_append, flat_one]; exact HO3.out, HB3.out, HT3.out, HAl2, HBl, by omega, by omega, by omega, by omega, HMG2, HCT2, HRA2, HRB, Lib.hid (nilOk_some _ _), HNB⟩, rfl, rfl, rfl, by go_num⟩, by simp only [lenV]; omega⟩
            | exact ⟨⟨_, _, _, _, ⟨_, _, i - 1, j, 0, rfl, db, rfl, t + 1, q + 1, rfl, A, (Y1, Y2) :: B, O ++ [(X1, X2)], by rw [flat_append, flat_one]; exact HO3.out, HB3.out, HT3.out, HAl2, HBl, by omega, by omega, by omega, by omega, HMG2, HCT2, Lib.hid (.inl (List.eq_nil_of_length_eq_zero (by rw [HAl2.out]; omega))), HRB, Lib.hid (nilOk_some _ _), HNB⟩, rfl, rfl, rfl, by go_num⟩, by simp only [lenV]; omega⟩

end Go.Proofs.YtbgmbanebmlghaaGreatDoor

