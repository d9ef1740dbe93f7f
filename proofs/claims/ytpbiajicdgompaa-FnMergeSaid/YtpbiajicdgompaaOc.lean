/- The law FnMerge: its walk. -/
import Derived.Test.YtpbiajicdgompaaOb
namespace Go.Proofs.Ytpbiajicdgompaa
open Go.RowKit Go.Sort
set_option linter.unusedVariables false

theorem okRecs_app {L R : List (Int × Int)} (h1 : okRecs L = true) (h2 : okRecs R = true) (h3 : L.length + R.length ≤ 64) : okRecs (L ++ R) = true := by
  unfold okRecs at *
  simp only [Bool.and_eq_true, decide_eq_true_eq, List.all_append, List.length_append] at *
  exact ⟨h3, h1.2, h2.2⟩
/-- A merge is the stable sort of the concatenation. -/
theorem mg_st {L R : List (Int × Int)} (h : mgOk L R = true) : stAns (L ++ R) = Mg.mrg ltR L R ∧ okRecs (L ++ R) = true := by
  unfold mgOk upOk at h
  simp only [Bool.and_eq_true, decide_eq_true_eq] at h
  have ho := okRecs_app h.1.1.1 h.1.2.1 h.2
  refine ⟨?_, ho⟩
  unfold stAns
  rw [if_pos ho]
  exact (Mg.mrg_srt (Mg.swK Prod.fst) (upB_asc (Mg.swK Prod.fst) h.1.1.2) (upB_asc (Mg.swK Prod.fst) h.1.2.2)).symm

set_option maxRecDepth 100000 in
set_option maxHeartbeats 4000000 in
theorem lawMerge_any (ac : Option Addr) (cc : Nat) (cs : List Int) (w : World) (hbig : cs.length ≤ 9223372036854775807) (h : BytesAt w ac cs) :
    Calls Try.prog 6 #[.slice ac cs.length cc] w fun e w' => e = .returned (.bool true) ∧ Below w.heap.size w w' := by
  have HV := Lib.hid (vBigG_any ac cs.length cc w hbig)
  by_cases hl : 65536 < cs.length
  · rw [decide_eq_true hl] at HV
    clear h
    go_enter Try.func6, Try.ntmps6
    go_wp2_with (go_at_call 15; refine HV.out.mono ?_; rintro e w' ⟨rfl, rfl⟩)
    go_ret
    exact ⟨rfl, Below.refl _ _⟩
  rw [decide_eq_false hl] at HV
  have HD := Lib.hid (drawMergeSorted_any ac cc cs w (by omega) h)
  clear h
  unfold RdDraw2 at HD
  go_enter Try.func6, Try.ntmps6
  go_wp2_with fail
  refine HV.out.mono ?_
  rintro e w1 ⟨rfl, rfl⟩
  go_wp2_with fail
  refine HD.out.mono ?_
  rintro e w1 ⟨a1, n1, c1, L, b1, m1, d1, R, rfl, hr, hs, hl1, hl2, hb⟩
  have HL1 := Lib.hid hr; have HR1 := Lib.hid hs; have HB1 := Lib.hid hb
  have hll : L.length = n1 := hr.len
  have hlr : R.length = m1 := hs.len
  clear hr hs hb HD HV
  go_wp2_with fail
  refine (implMergeSorted_any a1 b1 n1 c1 m1 d1 L R w1 (by omega) (by omega) HL1.out HR1.out).mono ?_
  rintro e w2 ⟨a2, n2, c2, rfl, hr, hb⟩
  have HM2 := Lib.hid hr; have HB2 := Lib.hid (below_tr HB1.out hb HB1.out.size)
  have HL2 := Lib.hid (HL1.out.same hb); have HR2 := Lib.hid (HR1.out.same hb)
  clear hr hb HL1 HR1
  go_wp2_with fail
  refine (specMergeSorted_any a1 b1 n1 c1 m1 d1 L R w2 (by omega) (by omega) HL2.out HR2.out).mono ?_
  rintro e w3 ⟨a3, n3, c3, rfl, hr, hb⟩
  have HW3 := Lib.hid hr; have HB3 := Lib.hid (below_tr HB2.out hb HB2.out.size)
  have HL3 := Lib.hid (HL2.out.same hb); have HR3 := Lib.hid (HR2.out.same hb); have HM3 := Lib.hid (HM2.out.same hb)
  clear hr hb HL2 HR2 HM2
  have hst := mgOut_le L R
  have hn2 : n2 ≤ 140 := by rw [← HM3.out.len]; omega
  have hn3 : n3 ≤ 140 := by rw [← HW3.out.len]; omega
  have q1 : (mgOk L R != mgOk L R) = false := by simp
  have q2 : decide (mgOut L R = mgOut L R) = true := by simp
  have q3 : (((mgC L R : Nat) : Int) != ((mgC L R : Nat) : Int)) = false := by simp
  clear hst
  go_wp2_with fail
  refine (vRecords_any a2 a3 n2 n3 c2 c3 _ _ w3 (by omega) (by omega) HM3.out HW3.out).mono ?_
  rintro e w4 ⟨rfl, hb⟩
  have HB4 := Lib.hid (below_tr HB3.out hb HB3.out.size)
  have HL4 := Lib.hid (HL3.out.same hb); have HR4 := Lib.hid (HR3.out.same hb); have HM4 := Lib.hid (HM3.out.same hb)
  clear hb HL3 HR3 HM3 HW3
  cases hok : mgOk L R
  · have HE : Hid (n2 = 0) := by
      show _ = _
      rw [← HM4.out.len]; unfold mgOut; rw [hok]; rfl
    have hn20 : n2 = 0 := HE.out
    subst hn20
    clear hok q1
    go_wp2
    go_ret
    exact ⟨rfl, HB4.out⟩
  obtain ⟨hs1, hs2⟩ := mg_st hok
  have hO : mgOut L R = Mg.mrg ltR L R := by unfold mgOut; rw [if_pos hok]
  have hC : mgC L R = Mg.mcnt ltR L R := by unfold mgC; rw [if_pos hok]
  have hnn : n2 = n1 + m1 := by rw [← HM4.out.len, hO, Mg.mrg_length, hll, hlr]
  rw [hO] at HM4
  subst hnn
  have hcb := Mg.mcnt_bound ltR L R
  rw [hll, hlr, ← hC] at hcb
  have HS1 := Lib.hid hs1; have HS2 := Lib.hid hs2
  generalize hK : mgC L R = K at hcb q3
  have HK := Lib.hid hK
  clear hs1 hs2 hO hC q1 q2 q3 hok hK
  have E0 := Lib.hid (own_lit (w := w4) (e := 32) (size := 2) #[] 0 (by omega) rfl)
  have HBa := Lib.hid (show Below w4.heap.size w4 (w4.alloc (.cells #[] 32)) from (Below.refl _ _).alloc (Nat.le_refl _) _)
  have HLa := Lib.hid (HL4.out.same HBa.out)
  have hle : w4.heap.size ≤ (w4.alloc (.cells #[] 32)).heap.size := by simp
  have HLE := Lib.hid hle
  clear hle
  go_wp2_with (first
    | (at_builtin; refine wpList_appR (v := .slice (some ⟨w4.heap.size, 0, none⟩) 0 0) slRec rfl _ _ rfl rfl E0.out rfl HLa.out.recs HLa.out.len HLa.out.nil (by omega) HLE.out ?_; intro v' w5 hown2 hg2 ht2; rw [Nat.zero_add] at hown2; obtain ⟨a5, c5, rfl⟩ := own_slice hown2; have HO5 := Lib.hid hown2; have HB5 := Lib.hid (below_app HBa.out HLE.out E0.out (Nat.le_refl _) hg2); have HR5 := Lib.hid (HR4.out.same HB5.out); have hbs5 := HB5.out.size; clear hown2 hg2 ht2)
    | (at_builtin; refine wpList_appR slRec rfl _ _ rfl rfl HO5.out rfl HR5.out.recs HR5.out.len HR5.out.nil (by omega) hbs5 ?_; intro v' w6 hown2 hg2 ht2; obtain ⟨a6, c6, rfl⟩ := own_slice hown2; have HO6 := Lib.hid hown2; have HB6 := Lib.hid (below_app HB5.out hbs5 HO5.out (Nat.le_refl _) hg2); clear hown2 hg2 ht2))
  have HQ6 : Hid (Rd w6 a6 (n1 + m1) c6 (L ++ R)) := by
    have := HO6.out
    rw [show ([] : List Value) ++ flat encR L ++ flat encR R = flat encR (L ++ R) by rw [flat_append]; rfl] at this
    exact rd_own this
  have HB6b := Lib.hid (below_tr HB4.out HB6.out HB4.out.size)
  have HM6 := Lib.hid (HM4.out.same HB6.out)
  refine (implStableSort_any a6 (n1 + m1) c6 (L ++ R) w6 (by omega) HQ6.out).mono ?_
  rintro e w7 ⟨a7, n7, c7, rfl, hr, hb⟩
  rw [HS1.out] at hr
  rw [HS2.out]
  have HR7 := Lib.hid hr; have HB7 := Lib.hid (below_tr HB6b.out hb HB6b.out.size)
  have HM7 := Lib.hid (HM6.out.same hb)
  have hn7 : n7 = n1 + m1 := by rw [← hr.len, Mg.mrg_length, hll, hlr]
  clear hr hb HO6 HO5 HB6 HB5
  subst hn7
  have q2 : decide (Mg.mrg ltR L R = Mg.mrg ltR L R) = true := by simp
  go_wp2_with fail
  refine (vRecords_any a7 a2 (n1 + m1) (n1 + m1) c7 c2 _ _ w7 (by omega) (by omega) HR7.out HM7.out).mono ?_
  rintro e w8 ⟨rfl, hb⟩
  have HB8 := Lib.hid (below_tr HB7.out hb HB7.out.size)
  clear hb
  by_cases hkl : K < n1 + m1
  · have hz : decide ((K : Int) < (n1 : Int) + (m1 : Int)) = true := decide_eq_true (by omega)
    go_wp2
    go_ret
    exact ⟨rfl, HB8.out⟩
  · have hz : decide ((K : Int) < (n1 : Int) + (m1 : Int)) = false := decide_eq_false (by omega)
    have hz2 : ((n1 : Int) + (m1 : Int) == 0) = true := by simp; omega
    go_wp2
    go_ret
    exact ⟨rfl, HB8.out⟩

end Go.Proofs.Ytpbiajicdgompaa
