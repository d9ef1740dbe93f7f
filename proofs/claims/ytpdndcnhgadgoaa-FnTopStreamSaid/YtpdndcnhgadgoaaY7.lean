/- Several texts in one: lemmas and walks of the functions that the laws reach. -/
import Derived.Test.YtpdndcnhgadgoaaY5
import Derived.Test.YtpdndcnhgadgoaaY6
import Derived.Test.YtpdndcnhgadgoaaY0
import Derived.ProofKit
import Derived.OpenShut
import Derived.Deep.Slices
import Derived.Deep.Fields
import Derived.ChangeSame
import Derived.Lib.SmallJoins

/- The law FnTopStream: its walk. -/
namespace Go.Proofs.Ytpdndcnhgadgoaa
open Go.RowKit Go.Sort
set_option linter.unusedVariables false

theorem asc_upBG {lt : Int × Int → Int × Int → Bool} {l : List (Int × Int)} (h : Mg.Asc lt l) : upB lt l = true := upB_yes fun i hi => by
  have := List.pairwise_iff_getElem.1 h i (i + 1) (by omega) hi (by omega)
  simpa [List.getD_eq_getElem?_getD, List.getElem?_eq_getElem hi, List.getElem?_eq_getElem (show i < l.length by omega)] using this

theorem isTopL_topR {k : Nat} (h1 : 1 ≤ k) (h2 : k ≤ 16) {l : List (Int × Int)} (h : okRecs l = true) : isTopL (topR k l) k = true := by
  have hk : inB (k : Int) 1 16 = true := by simp [inB]; omega
  have hl := Mg.topK_len (lt := gtK) k l
  have ho : okRecs (topR k l) = true := by
    unfold okRecs at h ⊢
    simp only [Bool.and_eq_true, decide_eq_true_eq, List.all_eq_true] at h ⊢
    exact ⟨by unfold topR; omega, fun x hx => h.2 x (Mg.topK_mem hx)⟩
  unfold isTopL
  have hu : upB gtK (topR k l) = true := asc_upBG (Mg.topK_asc gtK_sw k l)
  have hd : decide (((topR k l).length : Int) ≤ (k : Int)) = true := decide_eq_true (by unfold topR; omega)
  rw [hk, ho, hu, hd]; rfl

theorem okRecs_subG {L K : List (Int × Int)} (h : okRecs L = true) (hs : K.Sublist L) : okRecs K = true := by
  unfold okRecs at h ⊢
  simp only [Bool.and_eq_true, decide_eq_true_eq, List.all_eq_true] at h ⊢
  exact ⟨Nat.le_trans hs.length_le h.1, fun x hx => h.2 x (hs.subset hx)⟩
theorem okRecs_atG {rs : List (Int × Int)} (h : okRecs rs = true) {k : Nat} (hk : k < rs.length) : okRec (rs.getD k (0, 0)) = true := by
  have hm : rs.getD k (0, 0) ∈ rs := by rw [List.getD_eq_getElem?_getD, List.getElem?_eq_getElem hk]; exact List.getElem_mem hk
  unfold okRecs at h
  simp only [Bool.and_eq_true, List.all_eq_true, decide_eq_true_eq] at h
  exact h.2 _ hm

theorem specIVT_any (a : Option Addr) (c n : Nat) (rs : List (Int × Int)) (w : World) (hn : n ≤ 9223372036854775807) (h : Rd w a n c rs) :
    Calls Try.prog 7 #[.slice a n c] w fun e w' => e = .returned (.bool (okRecs rs)) ∧ w = w' := by
  have hl := h.len
  have H : Hid (Calls Try.prog 17 #[.slice a n c] w fun e w' => e = .returned (.bool (okRecs rs)) ∧ w = w') := by
    have := l2Records_any a c rs w (by omega) h.recs
    rwa [hl] at this
  clear h
  go_enter Try.func7, Try.ntmps7
  go_wp2_with fail
  refine H.out.mono ?_
  rintro e w1 ⟨rfl, rfl⟩
  go_wp2
  go_ret
  exact ⟨rfl, rfl⟩

set_option maxRecDepth 100000 in
set_option maxHeartbeats 8000000 in
theorem lawTopStream_any (ac : Option Addr) (cc : Nat) (cs : List Int) (w : World) (hbig : cs.length ≤ 9223372036854775807) (h : BytesAt w ac cs) :
    Calls Try.prog 3 #[.slice ac cs.length cc] w fun e w' => e = .returned (.bool true) ∧ Below w.heap.size w w' := by
  have HV := Lib.hid (vBigG_any ac cs.length cc w hbig)
  by_cases hl : 65536 < cs.length
  · rw [decide_eq_true hl] at HV
    clear h
    go_enter Try.func3, Try.ntmps3
    go_wp2_with (go_at_call 4; refine HV.out.mono ?_; rintro e w' ⟨rfl, rfl⟩)
    go_ret
    exact ⟨rfl, Below.refl _ _⟩
  rw [decide_eq_false hl] at HV
  have HD := Lib.hid (drawTopRecords_any ac cc cs w (by omega) h)
  have hcl : cs.length ≤ 65537 := by omega
  have HBY := Lib.hid h
  clear h
  unfold TopDraw at HD
  go_enter Try.func3, Try.ntmps3
  go_wp2_with fail
  refine HV.out.mono ?_
  rintro e w1 ⟨rfl, rfl⟩
  go_wp2_with fail
  refine HD.out.mono ?_
  rintro e w1 ⟨a, n, c, rs, k', rfl, ho, hrl, hn70, hk0, hk17, hb⟩
  have HR1 := Lib.hid (rd_own ho); have HB1 := Lib.hid hb
  have HAD : Hid (a = none ∧ n = 0 ∧ c = 0 ∨ ∃ g, a = some ⟨g, 0, none⟩) := by
    rcases ho.2 with ⟨h2, h3⟩ | ⟨g, cap, cur, hv, _⟩
    · injection h2 with h4 h5 h6
      exact .inl ⟨h4, h3, h6⟩
    · injection hv with h4 h5 h6
      exact .inr ⟨g, h4⟩
  have HBY1 := Lib.hid (HBY.out.below (Nat.le_refl _) hb)
  clear ho hb HD HV HBY
  go_wp2_with fail
  refine (topRecords_any a n c rs k' w1 (by omega) HR1.out).mono ?_
  rintro e w2 ⟨a2, n2, c2, rfl, hr, hb⟩
  have HW2 := Lib.hid hr; have HB2 := Lib.hid (below_tr HB1.out hb HB1.out.size); have HR2 := Lib.hid (HR1.out.same hb); have HBY2 := Lib.hid (HBY1.out.below (Nat.le_refl _) hb)
  clear hr hb HR1 HB1 HBY1
  go_wp2_with fail
  refine (specIVT_any a c n rs w2 (by omega) HR2.out).mono ?_
  rintro e w3 ⟨rfl, rfl⟩
  have hn2 : n2 ≤ 16 := by
    rw [← HW2.out.len]
    split
    · rename_i hq
      have := (inB_nat (by simpa using (Bool.and_eq_true _ _ ▸ hq : _ ∧ _).2 : inB k' 1 16 = true))
      obtain ⟨m, rfl, _, _⟩ := this
      exact Nat.le_trans (Mg.topK_len _ _) (by omega)
    · simp
  by_cases hok : okRecs rs = true ∧ 1 ≤ k' ∧ k' ≤ 16
  case neg =>
    have hq : (okRecs rs && inB k' 1 16) = false := by
      rw [Bool.eq_false_iff]
      intro h
      rw [Bool.and_eq_true] at h
      exact hok ⟨h.1, by simpa [inB] using h.2⟩
    rw [hq] at HW2
    have hn20 : n2 = 0 := HW2.out.len.symm
    subst hn20
    rw [hq]
    generalize hoo : okRecs rs = p3 at *
    cases p3
    · clear hok hq
      go_wp2
      go_ret
      exact ⟨rfl, HB2.out⟩
    · have hq2 : ¬ (1 ≤ k' ∧ k' ≤ 16) := fun h => hok ⟨rfl, h⟩
      by_cases h1 : 1 ≤ k'
      · have d1 : decide (1 ≤ k') = true := decide_eq_true h1
        have d2 : decide (k' ≤ 16) = false := decide_eq_false (by omega)
        have e1 : 16 < k' := by omega
        clear hok hq hq2
        go_wp2
        go_ret
        exact ⟨rfl, HB2.out⟩
      · have d1 : decide (1 ≤ k') = false := decide_eq_false h1
        have e1 : k' < 1 := by omega
        clear hok hq hq2
        go_wp2
        go_ret
        exact ⟨rfl, HB2.out⟩
  obtain ⟨hok, hk1', hk2'⟩ := hok
  obtain ⟨k, rfl⟩ := Int.eq_ofNat_of_zero_le hk0
  have hk1 : 1 ≤ k := by omega
  have hk2 : k ≤ 16 := by omega
  have hkb : inB (k : Int) 1 16 = true := by simp [inB]; omega
  rw [hok, hkb] at HW2 ⊢
  simp only [Bool.and_self, if_true, Int.toNat_natCast] at HW2 ⊢
  have HOK := Lib.hid hok; have HKB := Lib.hid hkb
  have d1 : decide (1 ≤ (k : Int)) = true := decide_eq_true hk1'
  have d2 : decide ((k : Int) ≤ 16) = true := decide_eq_true hk2'
  have HE0 := Lib.hid (own_lit (w := w2) (e := 33) (size := 2) #[] 0 (by omega) rfl)
  have HB0 := Lib.hid ((Below.refl w2.heap.size w2).alloc (Nat.le_refl _) (.cells #[] 33))
  clear hok hkb
  go_wp2
  go_loopw [7, 8] (fun top i wr => ∃ (j : Nat) (ta : Option Addr) (tn tc : Nat), i = .int .i64 j ∧ j ≤ n ∧ top = .slice ta tn tc ∧ Hid (Rd wr ta tn tc (topR k (rs.take j))) ∧ Below w2.heap.size w2 wr) (fun _ i _ => n - (intOf i).toNat)
  case atStart => exact ⟨0, some ⟨w2.heap.size, 0, none⟩, 0, 0, rfl, by omega, rfl, Lib.hid (by rw [List.take_zero, show topR k [] = [] from Mg.topK_nil k]; exact rd_own (rs := []) HE0.out), HB0.out⟩
  case round =>
    obtain ⟨j, ta, tn, tc, rfl, hj, rfl, HTP, hb⟩ := hrel
    have HBR := Lib.hid hb
    clear hb HE0 HB0
    have htn : tn ≤ k := by rw [← HTP.out.len]; exact Mg.topK_len k _
    have bj : (0 : Int) ≤ (j : Int) := by omega
    by_cases hlt : j < n
    case pos =>
      have q1 : decide ((j : Int) < (n : Int)) = true := decide_eq_true (by omega)
      have q2 : (j : Int) < (n : Int) := by omega
      obtain ⟨b, o, rfl, e1, e2⟩ := (HR2.out.same HBR.out).at hlt
      have HX : Hid (okRec (rs.getD j (0, 0)) = true) := okRecs_atG HOK.out (by rw [hrl]; exact hlt)
      have HTK : Hid (rs.take (j + 1) = rs.take j ++ [rs.getD j (0, 0)]) := by
        show _ = _
        rw [List.take_add_one, List.getD_eq_getElem?_getD, List.getElem?_eq_getElem (by omega)]; rfl
      obtain ⟨⟨x, y⟩, hxy⟩ : ∃ z, rs.getD j (0, 0) = z := ⟨_, rfl⟩
      rw [hxy] at e1 e2 HX HTK
      clear hxy
      go_wp2_with fail
      refine (offerTop_yes ta tn tc _ k x y wr htn hk2 HTP.out (isTopL_topR hk1 hk2 (okRecs_subG HOK.out (List.take_sublist _ _))) HX.out).mono ?_
      rintro e w4 ⟨a4, n4, c4, rfl, hr, hb⟩
      have HT4 : Hid (Rd w4 a4 n4 c4 (topR k (rs.take (j + 1)))) := by
        show Rd _ _ _ _ _
        rw [HTK.out]
        have he := Mg.topK_offer gtK_sw hk1 (rs.take j) (x, y)
        have hle : Mg.offAt gtK (x, y) (topR k (rs.take j)) ≤ k := Nat.le_trans (Mg.offAt_le _ _) (Mg.topK_len k _)
        show Rd _ _ _ _ (Mg.topK gtK k _)
        rw [he]
        by_cases hc : Mg.offAt gtK (x, y) (topR k (rs.take j)) < k
        · unfold offOut at hr
          rw [if_pos hc] at hr
          rw [if_neg (by show ¬ Mg.offAt gtK (x, y) (topR k (rs.take j)) = k; omega)]
          exact hr
        · unfold offOut at hr
          rw [if_neg hc] at hr
          rw [if_pos (by show Mg.offAt gtK (x, y) (topR k (rs.take j)) = k; omega)]
          exact hr
      have HB4 := Lib.hid (below_tr HBR.out hb HBR.out.size)
      clear hr hb
      go_wp2
      go_roundw
      case rel => exact ⟨j + 1, _, _, _, by go_num, by omega, rfl, HT4, HB4.out⟩
      case measure => simp [intOf] <;> omega
    case neg =>
      have hjn : j = n := by omega
      subst hjn
      have q1 : decide ((j : Int) < (j : Int)) = false := decide_eq_false (by omega)
      have HTP2 : Hid (Rd wr ta tn tc (topR k rs)) := by
        have := HTP.out
        rw [List.take_of_length_le (by omega)] at this
        exact this
      have HR := Lib.hid (HR2.out.same HBR.out)
      have HBYR := Lib.hid (HBY2.out.below (Nat.le_refl _) HBR.out)
      have htn16 : tn ≤ 16 := by omega
      rcases HAD.out with ⟨rfl, rfl, rfl⟩ | ⟨g, rfl⟩
      · have HLR : Hid (Rd wr none 0 0 (rs.take 0)) := Lib.hid (by simpa using rd_nil wr)
        have HHR : Hid (Rd wr none 0 0 (rs.drop 0)) := HR.out
        clear HAD HTP HR HBYR
        have HLO : Hid (∀ w1, Below wr.heap.size wr w1 → Calls Try.prog 6 #[.slice none 0 0, .int .i64 k] w1 (RdB w1 (topR k (rs.take 0)) true)) := fun w1 hb => by
          have := topRecords_any none 0 0 (rs.take 0) k w1 (by omega) (HLR.out.same hb)
          rw [okRecs_subG HOK.out (List.take_sublist _ _), HKB.out] at this
          simpa using this
        have HHI : Hid (∀ w1, Below wr.heap.size wr w1 → Calls Try.prog 6 #[.slice none 0 0, .int .i64 k] w1 (RdB w1 (topR k (rs.drop 0)) true)) := fun w1 hb => by
          have := topRecords_any none 0 0 (rs.drop 0) k w1 (by omega) (HHR.out.same hb)
          rw [okRecs_subG HOK.out (List.drop_sublist _ _), HKB.out] at this
          simpa using this
        have HTD : Hid (topR k (topR k (rs.take 0) ++ topR k (rs.drop 0)) = topR k rs) := by
          have := Mg.topK_append gtK_sw k (rs.take 0) (rs.drop 0)
          rw [List.take_append_drop] at this
          exact this
        unfold RdB at HLO HHI
        go_wp2_with fail
        refine (HLO.out _ (Below.refl _ _)).mono ?_
        rintro e w5 ⟨a5, n5, c5, rfl, hr, hb⟩
        have HR5 := Lib.hid hr; have HB5 := Lib.hid hb
        have hn5 : n5 ≤ 16 := by rw [← hr.len]; exact Nat.le_trans (Mg.topK_len k _) hk2
        clear hr hb
        go_wp2_with fail
        refine (HHI.out _ HB5.out).mono ?_
        rintro e w6 ⟨a6, n6, c6, rfl, hr, hb⟩
        have HR6 := Lib.hid hr; have HB6 := Lib.hid (below_tr HB5.out hb HB5.out.size)
        have HR56 := Lib.hid (HR5.out.same hb)
        have hn6 : n6 ≤ 16 := by rw [← hr.len]; exact Nat.le_trans (Mg.topK_len k _) hk2
        clear hr hb
        have HMT := Lib.hid (mergeTops_yes a5 a6 n5 n6 c5 c6 _ _ k w6 hn5 hn6 hk2 HR56.out HR6.out (isTopL_topR hk1 hk2 (okRecs_subG HOK.out (List.take_sublist _ _))) (isTopL_topR hk1 hk2 (okRecs_subG HOK.out (List.drop_sublist _ _))))
        rw [HTD.out] at HMT
        unfold RdB at HMT
        go_wp2_with fail
        refine HMT.out.mono ?_
        rintro e w7 ⟨a7, n7, c7, rfl, hr, hb⟩
        have HR7 := Lib.hid hr; have HB7 := Lib.hid (below_tr HB6.out hb HB6.out.size)
        have hn7 : n7 ≤ 16 := by rw [← hr.len]; exact Nat.le_trans (Mg.topK_len k _) hk2
        have HB7w := Lib.hid (below_tr HBR.out HB7.out HBR.out.size)
        have HW7 := Lib.hid (HW2.out.same HB7w.out)
        have HT7 := Lib.hid (HTP2.out.same HB7.out)
        clear hr hb HR5 HR56 HR6 HB5 HB6 HLO HHI HMT
        have q8 : decide (topR k rs = topR k rs) = true := by simp
        go_wp2_with fail
        refine (vRecords_any ta a2 tn n2 tc c2 _ _ w7 (by omega) (by omega) HT7.out HW7.out).mono ?_
        rintro e w8 ⟨rfl, hb⟩
        have HB8 := Lib.hid (below_tr HB7w.out hb HB7w.out.size); have HR8 := Lib.hid (HR7.out.same hb); have HW8 := Lib.hid (HW7.out.same hb)
        clear hb HB7 HB7w HW7 HT7 HR7
        go_wp2_with fail
        refine (vRecords_any a7 a2 n7 n2 c7 c2 _ _ w8 (by omega) (by omega) HR8.out HW8.out).mono ?_
        rintro e w9 ⟨rfl, hb⟩
        have HB9 := Lib.hid (below_tr HB8.out hb HB8.out.size)
        clear hb
        go_wp2
        go_ret
        exact ⟨by simp, below_tr HB2.out HB9.out HB2.out.size⟩
      by_cases hj0 : j = 0
      · subst hj0
        have HLR : Hid (Rd wr (some ⟨g, 0, none⟩) 0 c (rs.take 0)) := rd_lo HR.out (by omega)
        have HHR : Hid (Rd wr (some ⟨g, 0, none⟩) 0 c (rs.drop 0)) := HR.out
        clear HAD HTP HR HBYR
        have HLO : Hid (∀ w1, Below wr.heap.size wr w1 → Calls Try.prog 6 #[.slice (some ⟨g, 0, none⟩) 0 c, .int .i64 k] w1 (RdB w1 (topR k (rs.take 0)) true)) := fun w1 hb => by
          have := topRecords_any (some ⟨g, 0, none⟩) 0 c (rs.take 0) k w1 (by omega) (HLR.out.same hb)
          rw [okRecs_subG HOK.out (List.take_sublist _ _), HKB.out] at this
          simpa using this
        have HHI : Hid (∀ w1, Below wr.heap.size wr w1 → Calls Try.prog 6 #[.slice (some ⟨g, 0, none⟩) 0 c, .int .i64 k] w1 (RdB w1 (topR k (rs.drop 0)) true)) := fun w1 hb => by
          have := topRecords_any (some ⟨g, 0, none⟩) 0 c (rs.drop 0) k w1 (by omega) (HHR.out.same hb)
          rw [okRecs_subG HOK.out (List.drop_sublist _ _), HKB.out] at this
          simpa using this
        have HTD : Hid (topR k (topR k (rs.take 0) ++ topR k (rs.drop 0)) = topR k rs) := by
          have := Mg.topK_append gtK_sw k (rs.take 0) (rs.drop 0)
          rw [List.take_append_drop] at this
          exact this
        unfold RdB at HLO HHI
        go_wp2_with fail
        refine (HLO.out _ (Below.refl _ _)).mono ?_
        rintro e w5 ⟨a5, n5, c5, rfl, hr, hb⟩
        have HR5 := Lib.hid hr; have HB5 := Lib.hid hb
        have hn5 : n5 ≤ 16 := by rw [← hr.len]; exact Nat.le_trans (Mg.topK_len k _) hk2
        clear hr hb
        go_wp2_with fail
        refine (HHI.out _ HB5.out).mono ?_
        rintro e w6 ⟨a6, n6, c6, rfl, hr, hb⟩
        have HR6 := Lib.hid hr; have HB6 := Lib.hid (below_tr HB5.out hb HB5.out.size)
        have HR56 := Lib.hid (HR5.out.same hb)
        have hn6 : n6 ≤ 16 := by rw [← hr.len]; exact Nat.le_trans (Mg.topK_len k _) hk2
        clear hr hb
        have HMT := Lib.hid (mergeTops_yes a5 a6 n5 n6 c5 c6 _ _ k w6 hn5 hn6 hk2 HR56.out HR6.out (isTopL_topR hk1 hk2 (okRecs_subG HOK.out (List.take_sublist _ _))) (isTopL_topR hk1 hk2 (okRecs_subG HOK.out (List.drop_sublist _ _))))
        rw [HTD.out] at HMT
        unfold RdB at HMT
        go_wp2_with fail
        refine HMT.out.mono ?_
        rintro e w7 ⟨a7, n7, c7, rfl, hr, hb⟩
        have HR7 := Lib.hid hr; have HB7 := Lib.hid (below_tr HB6.out hb HB6.out.size)
        have hn7 : n7 ≤ 16 := by rw [← hr.len]; exact Nat.le_trans (Mg.topK_len k _) hk2
        have HB7w := Lib.hid (below_tr HBR.out HB7.out HBR.out.size)
        have HW7 := Lib.hid (HW2.out.same HB7w.out)
        have HT7 := Lib.hid (HTP2.out.same HB7.out)
        clear hr hb HR5 HR56 HR6 HB5 HB6 HLO HHI HMT
        have q8 : decide (topR k rs = topR k rs) = true := by simp
        go_wp2_with fail
        refine (vRecords_any ta a2 tn n2 tc c2 _ _ w7 (by omega) (by omega) HT7.out HW7.out).mono ?_
        rintro e w8 ⟨rfl, hb⟩
        have HB8 := Lib.hid (below_tr HB7w.out hb HB7w.out.size); have HR8 := Lib.hid (HR7.out.same hb); have HW8 := Lib.hid (HW7.out.same hb)
        clear hb HB7 HB7w HW7 HT7 HR7
        go_wp2_with fail
        refine (vRecords_any a7 a2 n7 n2 c7 c2 _ _ w8 (by omega) (by omega) HR8.out HW8.out).mono ?_
        rintro e w9 ⟨rfl, hb⟩
        have HB9 := Lib.hid (below_tr HB8.out hb HB8.out.size)
        clear hb
        go_wp2
        go_ret
        exact ⟨by simp, below_tr HB2.out HB9.out HB2.out.size⟩
      have q3 : decide (0 < (j : Int)) = true := decide_eq_true (by omega)
      have q4 : ((j : Int) == 0) = false := by rw [beq_eq_false_iff_ne]; omega
      have hcap := HR.out.cap
      go_wp2_with fail
      refine (vAtP_any ac cc cs 4 wr hcl (by omega) HBYR.out).mono ?_
      rintro e w4 ⟨⟨r, rfl, hr0, hr1⟩, rfl⟩
      obtain ⟨p, hp, hpj⟩ : ∃ p : Nat, r.tmod (j : Int) = (p : Int) ∧ p < j := by
        have h1 := Int.tmod_nonneg (j : Int) hr0
        have h2 := Int.tmod_lt_of_pos r (show (0 : Int) < (j : Int) by omega)
        exact ⟨(r.tmod (j : Int)).toNat, by omega, by omega⟩
      have HLR : Hid (Rd wr (some ⟨g, 0, none⟩) p c (rs.take p)) := rd_lo HR.out (by omega)
      have HHR : Hid (Rd wr (some ⟨g, p * 2, none⟩) (j - p) (c - p) (rs.drop p)) := by
        have := rd_hi HR.out (h := p) (by omega)
        rwa [Nat.zero_add] at this
      have b1 : (0 : Int) ≤ (p : Int) := by omega
      have b2 : (p : Int) ≤ (j : Int) := by omega
      have b3 : (j : Int) ≤ (c : Int) := by omega
      have b4 : (p : Int) ≤ (c : Int) := by omega
      have b5 : ¬ c = p := by omega
      have hp2 : p ≤ j := by omega
      clear HAD HTP HR HBYR hr0 hr1
      have HLO : Hid (∀ w1, Below wr.heap.size wr w1 → Calls Try.prog 6 #[.slice (some ⟨g, 0, none⟩) p c, .int .i64 k] w1 (RdB w1 (topR k (rs.take p)) true)) := fun w1 hb => by
        have := topRecords_any (some ⟨g, 0, none⟩) p c (rs.take p) k w1 (by omega) (HLR.out.same hb)
        rw [okRecs_subG HOK.out (List.take_sublist _ _), HKB.out] at this
        simpa using this
      have HHI : Hid (∀ w1, Below wr.heap.size wr w1 → Calls Try.prog 6 #[.slice (some ⟨g, p * 2, none⟩) (j - p) (c - p), .int .i64 k] w1 (RdB w1 (topR k (rs.drop p)) true)) := fun w1 hb => by
        have := topRecords_any (some ⟨g, p * 2, none⟩) (j - p) (c - p) (rs.drop p) k w1 (by omega) (HHR.out.same hb)
        rw [okRecs_subG HOK.out (List.drop_sublist _ _), HKB.out] at this
        simpa using this
      have HTD : Hid (topR k (topR k (rs.take p) ++ topR k (rs.drop p)) = topR k rs) := by
        have := Mg.topK_append gtK_sw k (rs.take p) (rs.drop p)
        rw [List.take_append_drop] at this
        exact this
      unfold RdB at HLO HHI
      go_wp2_with fail
      refine (HLO.out _ (Below.refl _ _)).mono ?_
      rintro e w5 ⟨a5, n5, c5, rfl, hr, hb⟩
      have HR5 := Lib.hid hr; have HB5 := Lib.hid hb
      have hn5 : n5 ≤ 16 := by rw [← hr.len]; exact Nat.le_trans (Mg.topK_len k _) hk2
      clear hr hb
      go_wp2_with fail
      refine (HHI.out _ HB5.out).mono ?_
      rintro e w6 ⟨a6, n6, c6, rfl, hr, hb⟩
      have HR6 := Lib.hid hr; have HB6 := Lib.hid (below_tr HB5.out hb HB5.out.size)
      have HR56 := Lib.hid (HR5.out.same hb)
      have hn6 : n6 ≤ 16 := by rw [← hr.len]; exact Nat.le_trans (Mg.topK_len k _) hk2
      clear hr hb
      have HMT := Lib.hid (mergeTops_yes a5 a6 n5 n6 c5 c6 _ _ k w6 hn5 hn6 hk2 HR56.out HR6.out (isTopL_topR hk1 hk2 (okRecs_subG HOK.out (List.take_sublist _ _))) (isTopL_topR hk1 hk2 (okRecs_subG HOK.out (List.drop_sublist _ _))))
      rw [HTD.out] at HMT
      unfold RdB at HMT
      go_wp2_with fail
      refine HMT.out.mono ?_
      rintro e w7 ⟨a7, n7, c7, rfl, hr, hb⟩
      have HR7 := Lib.hid hr; have HB7 := Lib.hid (below_tr HB6.out hb HB6.out.size)
      have hn7 : n7 ≤ 16 := by rw [← hr.len]; exact Nat.le_trans (Mg.topK_len k _) hk2
      have HB7w := Lib.hid (below_tr HBR.out HB7.out HBR.out.size)
      have HW7 := Lib.hid (HW2.out.same HB7w.out)
      have HT7 := Lib.hid (HTP2.out.same HB7.out)
      clear hr hb HR5 HR56 HR6 HB5 HB6 HLO HHI HMT
      have q8 : decide (topR k rs = topR k rs) = true := by simp
      go_wp2_with fail
      refine (vRecords_any ta a2 tn n2 tc c2 _ _ w7 (by omega) (by omega) HT7.out HW7.out).mono ?_
      rintro e w8 ⟨rfl, hb⟩
      have HB8 := Lib.hid (below_tr HB7w.out hb HB7w.out.size); have HR8 := Lib.hid (HR7.out.same hb); have HW8 := Lib.hid (HW7.out.same hb)
      clear hb HB7 HB7w HW7 HT7 HR7
      go_wp2_with fail
      refine (vRecords_any a7 a2 n7 n2 c7 c2 _ _ w8 (by omega) (by omega) HR8.out HW8.out).mono ?_
      rintro e w9 ⟨rfl, hb⟩
      have HB9 := Lib.hid (below_tr HB8.out hb HB8.out.size)
      clear hb
      go_wp2
      go_ret
      exact ⟨by simp, below_tr HB2.out HB9.out HB2.out.size⟩

/- General: what comes in as a list of structs, read as cells. -/
namespace Go.Proofs.Ytpdndcnhgadgoaa
open Go.ChangeShapes Go.WideShapes Go.Deep Go.RowKit Go.Joins
set_option linter.unusedVariables false

section
variable {H : Type} {enc : TypeId × Value → H} {P : Program} {w : World} {base : Nat} {spare : Nat → Bool} {held : Bool}
theorem open_slice_fields {t e : TypeId} {fs : Array Field} {fuel : Nat} {cs : List Value} {x : DataW H × List MemPlace} (ht : P.underlying t = some (.slice e)) (he : P.underlying e = some (.struct fs))
    (hone : oneCellFields P fs = true) (hC : P.cellsOf e = fs.size) (h : DataW.trod enc P w base spare held fuel t cs = some x) :
    (cs = [.slice none 0 0] ∧ x = (.nil, [])) ∨
    ∃ (a : Addr) (len cap m : Nat) (D : Nat → DataW H) (Pl : Nat → List MemPlace), cs = [.slice (some a) len cap] ∧ base ≤ a.block ∧ len ≤ cap ∧ cap ≤ maxLen ∧ m = (if spare a.block then cap else len) ∧
      x = (.slice ((List.range len).map D) ((List.range (m - len)).map fun j => D (len + j)), MemPlace.row a (m * fs.size) ++ (List.range m).flatMap Pl) ∧
      ∀ i, i < m → ∃ (ys : List (DataW H × List MemPlace)) (n : Nat), D i = .agg (ys.map (·.1)) ∧ Pl i = ys.flatMap (·.2) ∧ ys.length = fs.size ∧
        ∀ (j : Nat) (f : Field), fs[j]? = some f → ∃ (v : Value) (y : DataW H × List MemPlace), w.cell? (a.add (i * fs.size + j)) = some v ∧ ys[j]? = some y ∧ DataW.trod enc P w base spare held n f.type [v] = some y := by
  rcases open_slice ht h with h0 | ⟨a, len, cap, m, n, D, Pl, hcs, hb, hl, hm, hmm, hx, hi⟩
  · exact .inl h0
  · refine .inr ⟨a, len, cap, m, D, Pl, hcs, hb, hl, hm, hmm, by rw [hC] at hx; exact hx, fun i him => ?_⟩
    obtain ⟨cs', hc, ht'⟩ := hi i him
    rw [hC] at hc
    obtain ⟨ys, n', hn', hy, hlen, hyl, hf⟩ := DataW.trod_struct he ht'
    obtain ⟨_, hcl, hat⟩ := World.cells?_some hc
    simp only [Prod.mk.injEq] at hy
    refine ⟨ys, n', hy.1, hy.2, hyl, fun j f hj => ?_⟩
    obtain ⟨ho, hk⟩ := hone_of hone j f hj
    have hjl : j < fs.size := (Array.getElem?_eq_some_iff.1 hj).1
    have hcell := hat j hjl
    have hv : cs'[j]? = some (cs'[j]'(by omega)) := List.getElem?_eq_getElem (by omega)
    have h1 := hf j f hj
    rw [ho, hk] at h1
    have hone' : (cs'.drop j).take 1 = [cs'[j]'(by omega)] := by
      rw [List.drop_eq_getElem_cons (by omega)]
      rfl
    rw [hone'] at h1
    have hys : ys[j]? = some (ys[j]'(by omega)) := List.getElem?_eq_getElem (by omega)
    refine ⟨_, _, ?_, hys, h1.trans hys⟩
    rw [← Go.Deep.add_add, hcell, hv]
end

section
variable {H : Type} {enc : TypeId × Value → H} {P : Program} {w : World} {base : Nat} {spare : Nat → Bool} {held : Bool}
theorem open_agg5 {r : Reach} {b0 : Nat} {t : TypeId} {f0 f1 f2 f3 f4 : Field} {v : Value} {d : DataW H} {p : List MemPlace} (hs : P.underlying t = some (.struct #[f0, f1, f2, f3, f4])) (hone : oneCellFields P #[f0, f1, f2, f3, f4] = true) (hC : P.cellsOf t = 5)
    (hv : Value.okWide P w r b0 t v) (h : DataW.Trod enc P w base spare held t v d p) :
    ∃ (v0 v1 v2 v3 v4 : Value) (y0 y1 y2 y3 y4 : DataW H × List MemPlace) (n : Nat), v = .agg #[v0, v1, v2, v3, v4] ∧ d = .agg [y0.1, y1.1, y2.1, y3.1, y4.1] ∧ p = y0.2 ++ (y1.2 ++ (y2.2 ++ (y3.2 ++ y4.2))) ∧
      DataW.trod enc P w base spare held n f0.type [v0] = some y0 ∧ DataW.trod enc P w base spare held n f1.type [v1] = some y1 ∧ DataW.trod enc P w base spare held n f2.type [v2] = some y2 ∧ DataW.trod enc P w base spare held n f3.type [v3] = some y3 ∧ DataW.trod enc P w base spare held n f4.type [v4] = some y4 := by
  obtain ⟨cs, rfl, hsz⟩ := okWide_struct hs hv
  obtain ⟨l⟩ := cs
  match l, hsz.trans hC with
  | [c0, c1, c2, c3, c4], _ =>
    obtain ⟨fuel, hf⟩ := h
    obtain ⟨xs, n, _, hx, _, hlen, hg⟩ := DataW.trod_struct hs hf
    obtain ⟨o0, k0⟩ := hone_of hone 0 f0 rfl
    obtain ⟨o1, k1⟩ := hone_of hone 1 f1 rfl
    obtain ⟨o2, k2⟩ := hone_of hone 2 f2 rfl
    obtain ⟨o3, k3⟩ := hone_of hone 3 f3 rfl
    obtain ⟨o4, k4⟩ := hone_of hone 4 f4 rfl
    match xs, hlen with
    | [y0, y1, y2, y3, y4], _ =>
      simp only [Prod.mk.injEq] at hx
      exact ⟨c0, c1, c2, c3, c4, y0, y1, y2, y3, y4, n, rfl, by simpa using hx.1, by simpa using hx.2, by simpa [Value.cells, o0, k0] using hg 0 f0 rfl, by simpa [Value.cells, o1, k1] using hg 1 f1 rfl, by simpa [Value.cells, o2, k2] using hg 2 f2 rfl, by simpa [Value.cells, o3, k3] using hg 3 f3 rfl, by simpa [Value.cells, o4, k4] using hg 4 f4 rfl⟩

end

section
variable {H : Type} {enc : TypeId × Value → H} {P : Program} {w : World} {base : Nat} {spare : Nat → Bool} {held : Bool}
/-- A struct by value of one cell and a struct of three. -/
theorem open_agg13 {r : Reach} {b0 : Nat} {t : TypeId} {f0 f1 g0 g1 g2 : Field} {v : Value} {d : DataW H} {p : List MemPlace} (hs : P.underlying t = some (.struct #[f0, f1])) (hs2 : P.underlying f1.type = some (.struct #[g0, g1, g2]))
    (o0 : f0.offset = 0) (o1 : f1.offset = 1) (k0 : P.cellsOf f0.type = 1) (k1 : P.cellsOf f1.type = 3) (hone : oneCellFields P #[g0, g1, g2] = true) (hC : P.cellsOf t = 4)
    (hv : Value.okWide P w r b0 t v) (h : DataW.Trod enc P w base spare held t v d p) :
    ∃ (v0 v1 v2 v3 : Value) (y0 z1 z2 z3 : DataW H × List MemPlace) (n m : Nat), v = .agg #[v0, v1, v2, v3] ∧
      DataW.trod enc P w base spare held n f0.type [v0] = some y0 ∧ DataW.trod enc P w base spare held m g0.type [v1] = some z1 ∧ DataW.trod enc P w base spare held m g1.type [v2] = some z2 ∧ DataW.trod enc P w base spare held m g2.type [v3] = some z3 := by
  obtain ⟨cs, rfl, hsz⟩ := okWide_struct hs hv
  obtain ⟨l⟩ := cs
  match l, hsz.trans hC with
  | [c0, c1, c2, c3], _ =>
    obtain ⟨fuel, hf⟩ := h
    obtain ⟨xs, n, _, hx, _, hlen, hg⟩ := DataW.trod_struct hs hf
    match xs, hlen with
    | [y0, y1], _ =>
      have h0 := hg 0 f0 rfl
      have h1 := hg 1 f1 rfl
      rw [o0, k0] at h0
      rw [o1, k1] at h1
      have h1' : DataW.trod enc P w base spare held n f1.type [c1, c2, c3] = some y1 := by simpa [Value.cells] using h1
      obtain ⟨zs, m, _, hz, _, hlen2, hg2⟩ := DataW.trod_struct hs2 h1'
      obtain ⟨p0, q0⟩ := hone_of hone 0 g0 rfl
      obtain ⟨p1, q1⟩ := hone_of hone 1 g1 rfl
      obtain ⟨p2, q2⟩ := hone_of hone 2 g2 rfl
      match zs, hlen2 with
      | [z1, z2, z3], _ =>
        exact ⟨c0, c1, c2, c3, y0, z1, z2, z3, n, m, rfl, by simpa [Value.cells] using h0, by simpa [p0, q0] using hg2 0 g0 rfl, by simpa [p1, q1] using hg2 1 g1 rfl, by simpa [p2, q2] using hg2 2 g2 rfl⟩
end

theorem recs_of_cells {w : World} {x : Addr} {len : Nat} (h : ∀ i, i < len → ∃ k t : Int, w.cell? (x.add (i * 2)) = some (.int .i64 k) ∧ w.cell? (x.add (i * 2 + 1)) = some (.int .i64 t)) :
    ∃ rs : List (Int × Int), rs.length = len ∧ RecsAt w (some x) rs := by
  by_cases h0 : len = 0
  · subst h0; exact ⟨[], rfl, .inl rfl⟩
  · obtain ⟨b, off, spot⟩ := x
    obtain ⟨k0, t0, hc0, _⟩ := h 0 (by omega)
    have hs : spot = none := by simpa [Addr.add] using World.cell?_spot hc0
    subst hs
    have hlt := World.block_lt_of_cell? w _ hc0
    have hadd : ∀ j, (⟨b, off, none⟩ : Addr).add j = ⟨b, off + j, none⟩ := fun j => by unfold Addr.add; split <;> simp_all
    have key : ∀ n, n ≤ len → ∃ rs : List (Int × Int), rs.length = n ∧ ∀ j, j < n → w.cell? ⟨b, off + j * 2, none⟩ = some (.int .i64 (rs.getD j (0, 0)).1) ∧ w.cell? ⟨b, off + j * 2 + 1, none⟩ = some (.int .i64 (rs.getD j (0, 0)).2) := by
      intro n
      induction n with
      | zero => intro _; exact ⟨[], rfl, fun j hj => by omega⟩
      | succ n ih =>
        intro hn
        obtain ⟨rs, hl, hr⟩ := ih (by omega)
        obtain ⟨k, t, hk, ht⟩ := h n (by omega)
        rw [hadd] at hk ht
        refine ⟨rs ++ [(k, t)], by simp [hl], fun j hj => ?_⟩
        by_cases e : j = n
        · subst e
          have : (rs ++ [(k, t)]).getD j (0, 0) = (k, t) := by simp [List.getD, ← hl]
          rw [this]
          exact ⟨hk, by rw [Nat.add_assoc]; exact ht⟩
        · have : (rs ++ [(k, t)]).getD j (0, 0) = rs.getD j (0, 0) := by simp [List.getD, List.getElem?_append_left (show j < rs.length by omega)]
          rw [this]
          exact hr j (by omega)
    obtain ⟨rs, hl, hr⟩ := key len (Nat.le_refl _)
    exact ⟨rs, hl, .inr ⟨b, off, rfl, by simpa [Addr.add] using hlt, fun j hj => hr j (by omega)⟩⟩

theorem int_in {n : Int} (h : (Lit.int .i64 n).wf = true) : -9223372036854775808 ≤ n ∧ n ≤ 9223372036854775807 := by
  simp only [Lit.wf, Bool.and_eq_true, decide_eq_true_eq] at h
  have e1 : IntKind.i64.min = -9223372036854775808 := by decide
  have e2 : IntKind.i64.max = 9223372036854775807 := by decide
  rw [e1, e2] at h
  exact h

end Go.Proofs.Ytpdndcnhgadgoaa
