/- Several texts in one: lemmas and walks of the functions that the laws reach. -/
import Derived.Test.YthakkkljlpimlaaY8
import Derived.Test.YthakkkljlpimlaaY10
import Derived.Test.YthakkkljlpimlaaY3
import Derived.Test.YthakkkljlpimlaaY11
import Derived.Test.YthakkkljlpimlaaY4
import Derived.Test.YthakkkljlpimlaaY0
import Derived.ProofKit
import Derived.OpenShut
import Derived.Deep.Slices
import Derived.Deep.Fields
import Derived.ChangeSame
import Derived.Lib.SmallJoins

/- NaturalRuns of both packages; the draw; the size test. -/
namespace Go.Proofs.Ythakkkljlpimlaa
open Go.RowKit
set_option linter.unusedVariables false

def nrAns (rs : List (Int × Int)) : List (Int × Int) := if okRecs rs then runsFrom (keysL rs) 0 else []

set_option maxHeartbeats 400000 in
theorem implNaturalRuns_any (a : Option Addr) (cap : Nat) (zs : List (Int × Int)) (w : World) (hbig : zs.length ≤ 9223372036854775807) (h : RecsAt w a zs) :
    Calls Try.prog 10 #[.slice a zs.length cap] w fun e w' => ∃ (a' : Option Addr) (c' : Nat), e = .returned (.tuple #[.slice a' (nrAns zs).length c', .bool (okRecs zs)]) ∧ w'.ownsRow w.heap.size 39 2 (.slice a' (nrAns zs).length c') (nrAns zs).length (flat encR (nrAns zs)) ∧ Below w.heap.size w w' := by
  have HL := Lib.hid (isValidRecords_any a cap zs w hbig h)
  have H := Lib.hid h; clear h
  cases k1 : okRecs zs
  · have HA : Hid (nrAns zs = []) := by show _ = _; simp [nrAns, k1]
    rw [k1] at HL
    clear k1
    go_enter Try.func10, Try.ntmps10
    go_wp2_with fail
    refine HL.out.mono ?_
    rintro e w1 ⟨rfl, hb⟩
    have HB := Lib.hid hb; clear hb
    go_wp2
    go_ret2
    exact ⟨none, 0, by rw [HA.out]; rfl, by rw [HA.out]; exact World.ownsRow_nil _ _ _ _, HB.out⟩
  · have hl := okRecs_len k1
    have HA : Hid (nrAns zs = runsFrom (keysL zs) 0) := by show _ = _; simp [nrAns, k1]
    rw [k1] at HL
    clear k1
    go_enter Try.func10, Try.ntmps10
    go_wp2_with fail
    refine HL.out.mono ?_
    rintro e w1 ⟨rfl, hb⟩
    have HB := Lib.hid hb; clear hb
    go_wp2_with fail
    refine (implNaturalRuns0_any a cap zs _ hl (H.out.below (Nat.le_refl _) HB.out)).mono ?_
    rintro e w2 ⟨a', c', rfl, ho, hb⟩
    have HO := Lib.hid (own_mono ho HB.out.size)
    have HB2 := Lib.hid (HB.out.trans (hb.mono HB.out.size)); clear ho hb
    go_wp2
    go_ret2
    exact ⟨a', c', by rw [HA.out]; rfl, by rw [HA.out]; exact HO.out, HB2.out⟩

set_option maxHeartbeats 400000 in
theorem vBig_any (a : Option Addr) (n c : Nat) (w : World) (hn : n ≤ 9223372036854775807) :
    Calls Try.prog 4 #[.slice a n c] w fun e w' => e = .returned (.bool (decide (65536 < n))) ∧ w = w' := by
  by_cases h : 65536 < n
  all_goals
    go_enter Try.func4, Try.ntmps4
    go_wp2
    go_ret
    exact ⟨ret_bool (by simp [h]; try omega), rfl⟩

end Go.Proofs.Ythakkkljlpimlaa

/- The law FnAdaptive: its walk. -/
namespace Go.Proofs.Ythakkkljlpimlaa
open Go.RowKit Go.Sort
set_option linter.unusedVariables false

theorem adL_st (rs : List (Int × Int)) : adL rs = stAns rs := by
  unfold adL stAns
  split
  · rw [Ad.adS_eq ltR (Mg.swK Prod.fst), (parts_ok rs).1]; rfl
  · rfl
theorem adL_ok {rs : List (Int × Int)} (h : okRecs rs = true) : okRecs (adL rs) = true := by
  rw [adL_st]
  unfold stAns
  rw [if_pos h]
  unfold okRecs at h ⊢
  simp only [Bool.and_eq_true, decide_eq_true_eq, List.all_eq_true] at h ⊢
  exact ⟨by rw [show (srtR rs).length = rs.length from Mg.srt_length rs]; exact h.1, fun x hx => h.2 x (Mg.srt_mem.1 hx)⟩
/-- A list that is a single run needs no comparison. -/
theorem adN_one {rs : List (Int × Int)} (h : (runsFrom (keysL rs) 0).length ≤ 1) : adN rs = 0 := by
  unfold adN
  split
  · exact Ad.adC_one ltR _ (by unfold partsL; rw [List.length_map]; omega)
  · rfl
/-- An ascending list is a single run. -/
theorem runs_asc {rs : List (Int × Int)} (h : Mg.Asc ltR rs) : (runsFrom (keysL rs) 0).length ≤ 1 := by
  have hk : (keysL rs).length = rs.length := keysL_len rs
  by_cases h0 : rs.length = 0
  · rw [runsFrom_end (by omega)]; simp
  have hdn : ∀ t, t + 1 < rs.length → dn (keysL rs) (t + 1) = false := fun t ht => by
    rw [dn_at ht]
    have := List.pairwise_iff_getElem.1 h t (t + 1) (by omega) ht (by omega)
    unfold ltR Mg.ltK at this
    simp only [List.getD_eq_getElem?_getD, List.getElem?_eq_getElem ht, List.getElem?_eq_getElem (show t < rs.length by omega), Option.getD_some]
    exact this
  have hd : isDn (keysL rs) 0 = false := by
    unfold isDn
    by_cases h1 : 0 + 1 < (keysL rs).length
    · rw [decide_eq_true h1, hdn 0 (by omega)]; rfl
    · rw [decide_eq_false h1]; rfl
  have he : runEnd (keysL rs) 0 = rs.length := by
    have hb := runEnd_bound (ks := keysL rs) (f := 0) (by omega)
    by_cases hlt : runEnd (keysL rs) 0 < rs.length
    · exfalso
      have hE : runEnd (keysL rs) 0 = scanF (fun t => !dn (keysL rs) t) ((keysL rs).length - (0 + 1)) (0 + 1) := by unfold runEnd; rw [hd]; rfl
      have hm := scanF_max (fun t => !dn (keysL rs) t) ((keysL rs).length - (0 + 1)) (0 + 1) (by rw [← hE]; omega)
      rw [← hE] at hm
      obtain ⟨m, hm2⟩ : ∃ m, runEnd (keysL rs) 0 = m + 1 := ⟨runEnd (keysL rs) 0 - 1, by omega⟩
      rw [hm2, hdn m (by omega)] at hm
      cases hm
    · omega
  rw [runsFrom_step (by omega : 0 < (keysL rs).length), he, runsFrom_end (by omega)]
  simp
theorem adN_sorted {rs : List (Int × Int)} : adN (adL rs) = 0 := by
  rw [adL_st]
  unfold stAns
  split
  · exact adN_one (runs_asc (Mg.srt_asc (Mg.swK Prod.fst) rs))
  · exact adN_one (by rw [runsFrom_end (by simp [keysL])]; simp)
theorem adL_again {rs : List (Int × Int)} : adL (adL rs) = adL rs := by
  cases h : okRecs rs
  · have e : adL rs = [] := by unfold adL; rw [h]; rfl
    rw [e]; unfold adL; split <;> rfl
  · have h2 := adL_ok h
    rw [adL_st (adL rs), adL_st rs]
    rw [adL_st rs] at h2
    have e1 : stAns rs = Mg.srt ltR rs := by unfold stAns; rw [if_pos h]; rfl
    have e2 : stAns (stAns rs) = Mg.srt ltR (stAns rs) := by unfold stAns at h2 ⊢; rw [if_pos h2]; rfl
    rw [e2, e1, Mg.srt_srt (Mg.swK Prod.fst)]

theorem drawAdaptive_any (ac : Option Addr) (c : Nat) (cs : List Int) (w : World) (hl : cs.length ≤ 65537) (h : BytesAt w ac cs) :
    Calls Try.prog 5 #[.slice ac cs.length c] w (RdDraw w) := by
  have HD := Lib.hid (drawIV_any ac c cs w hl h)
  clear h
  unfold RdDraw at *
  go_enter Try.func5, Try.ntmps5
  go_wp2_with fail
  refine HD.out.mono ?_
  rintro e w1 ⟨a1, n1, c1, rs, rfl, hr, h70, hb⟩
  have HR := Lib.hid hr; have HB := Lib.hid hb
  clear hr hb HD
  go_wp2
  go_ret
  exact ⟨a1, n1, c1, rs, rfl, HR.out, h70, HB.out⟩

theorem adL_len (rs : List (Int × Int)) : (adL rs).length ≤ rs.length := by
  rw [adL_st]
  unfold stAns
  split
  · exact Nat.le_of_eq (Mg.srt_length rs)
  · exact Nat.zero_le _

set_option maxRecDepth 100000 in
set_option maxHeartbeats 8000000 in
theorem lawAdaptive_any (ac : Option Addr) (cc : Nat) (cs : List Int) (w : World) (hbig : cs.length ≤ 9223372036854775807) (h : BytesAt w ac cs) :
    Calls Try.prog 3 #[.slice ac cs.length cc] w fun e w' => e = .returned (.bool true) ∧ Below w.heap.size w w' := by
  have HV := Lib.hid (vBigG_any ac cs.length cc w hbig)
  by_cases hl : 65536 < cs.length
  · rw [decide_eq_true hl] at HV
    clear h
    go_enter Try.func3, Try.ntmps3
    go_wp2_with (go_at_call 4; refine HV.out.mono ?_; rintro e w' ⟨rfl, rfl⟩)
    go_ret
    exact ⟨rfl, Below.refl _ _⟩
  rw [decide_eq_false hl] at HV
  have HD := Lib.hid (drawAdaptive_any ac cc cs w (by omega) h)
  clear h
  unfold RdDraw at HD
  go_enter Try.func3, Try.ntmps3
  go_wp2_with fail
  refine HV.out.mono ?_
  rintro e w1 ⟨rfl, rfl⟩
  go_wp2_with fail
  refine HD.out.mono ?_
  rintro e w1 ⟨a1, n1, c1, rs, rfl, hr, h70, hb⟩
  have HR1 := Lib.hid hr; have HB1 := Lib.hid hb
  have hrl : rs.length = n1 := hr.len
  clear hr hb HD HV
  have HI := Lib.hid (implAdaptive_any a1 n1 c1 rs w1 (by omega) HR1.out)
  unfold AdEnd at HI
  go_wp2_with fail
  refine HI.out.mono ?_
  rintro e w2 ⟨a2, n2, c2, rfl, hr, hb⟩
  have HS2 := Lib.hid hr; have HB2 := Lib.hid (below_tr HB1.out hb HB1.out.size); have HR2 := Lib.hid (HR1.out.same hb)
  have hn2 : n2 ≤ 70 := by rw [← hr.len]; exact Nat.le_trans (adL_len rs) (by omega)
  clear hr hb HR1 HB1 HI
  have HI := Lib.hid (specAdaptive_any a1 n1 c1 rs w2 (by omega) HR2.out)
  unfold AdEnd at HI
  go_wp2_with fail
  refine HI.out.mono ?_
  rintro e w3 ⟨a3, n3, c3, rfl, hr, hb⟩
  have HW3 := Lib.hid hr; have HB3 := Lib.hid (below_tr HB2.out hb HB2.out.size); have HR3 := Lib.hid (HR2.out.same hb); have HS3 := Lib.hid (HS2.out.same hb)
  have hn3 : n3 ≤ 70 := by rw [← hr.len]; exact Nat.le_trans (adL_len rs) (by omega)
  clear hr hb HR2 HB2 HS2 HI
  have q1 : (okRecs rs != okRecs rs) = false := by simp
  have q2 : decide (adL rs = adL rs) = true := by simp
  have q3 : (((adN rs : Nat) : Int) != ((adN rs : Nat) : Int)) = false := by simp
  go_wp2_with fail
  refine (vRecords_any a2 a3 n2 n3 c2 c3 _ _ w3 (by omega) (by omega) HS3.out HW3.out).mono ?_
  rintro e w4 ⟨rfl, hb⟩
  have HB4 := Lib.hid (below_tr HB3.out hb HB3.out.size); have HR4 := Lib.hid (HR3.out.same hb); have HS4 := Lib.hid (HS3.out.same hb)
  clear hb HR3 HS3 HB3 HW3
  have HST := Lib.hid (implStableSort_any a1 n1 c1 rs w4 (by omega) HR4.out)
  rw [← adL_st] at HST
  unfold RdEnd at HST
  go_wp2_with fail
  refine HST.out.mono ?_
  rintro e w5 ⟨a5, n5, c5, rfl, hr, hb⟩
  have HT5 := Lib.hid hr; have HB5 := Lib.hid (below_tr HB4.out hb HB4.out.size); have HR5 := Lib.hid (HR4.out.same hb); have HS5 := Lib.hid (HS4.out.same hb)
  have hn5 : n5 ≤ 70 := by rw [← hr.len]; exact Nat.le_trans (adL_len rs) (by omega)
  clear hr hb HR4 HS4 HB4 HST
  have HNR : Hid (Calls Try.prog 10 #[.slice a1 n1 c1] w5 fun e w' => ∃ (a' : Option Addr) (c' : Nat), e = .returned (.tuple #[.slice a' (nrAns rs).length c', .bool (okRecs rs)]) ∧ w'.ownsRow w5.heap.size 39 2 (.slice a' (nrAns rs).length c') (nrAns rs).length (flat encR (nrAns rs)) ∧ Below w5.heap.size w5 w') := by
    have := implNaturalRuns_any a1 c1 rs w5 (by omega) HR5.out.recs
    rwa [hrl] at this
  go_wp2_with fail
  refine HNR.out.mono ?_
  rintro e w6 ⟨a6, c6, rfl, _, hb⟩
  have HB6 := Lib.hid (below_tr HB5.out hb HB5.out.size); have HT6 := Lib.hid (HT5.out.same hb); have HS6 := Lib.hid (HS5.out.same hb)
  clear hb HR5 HS5 HB5 HT5 HNR
  have HI := Lib.hid (implAdaptive_any a2 n2 c2 (adL rs) w6 (by omega) HS6.out)
  unfold AdEnd at HI
  rw [adL_again, adN_sorted] at HI
  go_wp2_with fail
  refine HI.out.mono ?_
  rintro e w7 ⟨a7, n7, c7, rfl, hr, hb⟩
  have HA7 := Lib.hid hr; have HB7 := Lib.hid (below_tr HB6.out hb HB6.out.size); have HT7 := Lib.hid (HT6.out.same hb); have HS7 := Lib.hid (HS6.out.same hb)
  have hn7 : n7 ≤ 70 := by rw [← hr.len]; exact Nat.le_trans (adL_len rs) (by omega)
  clear hr hb HS6 HB6 HT6 HI
  have HRUN : Hid (1 < (nrAns rs).length ∨ adN rs = 0) := by
    show _ ∨ _
    by_cases h1 : 1 < (nrAns rs).length
    · exact .inl h1
    · refine .inr ?_
      cases hok : okRecs rs
      · unfold adN; rw [hok]; rfl
      · refine adN_one ?_
        unfold nrAns at h1
        rw [hok] at h1
        simpa using h1
  have HOA : Hid (okRecs rs = true → okRecs (adL rs) = true) := Lib.hid adL_ok
  obtain ⟨NR, hNR⟩ : ∃ x, (nrAns rs).length = x := ⟨_, rfl⟩
  obtain ⟨CN, hCN⟩ : ∃ x, adN rs = x := ⟨_, rfl⟩
  rw [hNR, hCN] at HRUN
  rw [hNR, hCN]
  rw [hCN] at q3
  clear hNR hCN
  cases hok : okRecs rs
  case false =>
    rcases HRUN.out with h1 | h1
    · have t1 : decide (1 < (NR : Int)) = true := decide_eq_true (by omega)
      go_wp2_with fail
      refine (vRecords_any a5 a2 n5 n2 c5 c2 _ _ w7 (by omega) (by omega) HT7.out HS7.out).mono ?_
      rintro e w8 ⟨rfl, hb⟩
      have HB8 := Lib.hid (below_tr HB7.out hb HB7.out.size); have HA8 := Lib.hid (HA7.out.same hb); have HS8 := Lib.hid (HS7.out.same hb)
      clear hb HB7 HT7 HA7 HS7
      go_wp2
      go_ret
      exact ⟨by simp, HB8.out⟩
    · subst h1
      have t0 : (((0 : Nat) : Int) == 0) = true := rfl
      by_cases h2 : 1 < NR
      · have t1 : decide (1 < (NR : Int)) = true := decide_eq_true (by omega)
        go_wp2_with fail
        refine (vRecords_any a5 a2 n5 n2 c5 c2 _ _ w7 (by omega) (by omega) HT7.out HS7.out).mono ?_
        rintro e w8 ⟨rfl, hb⟩
        have HB8 := Lib.hid (below_tr HB7.out hb HB7.out.size); have HA8 := Lib.hid (HA7.out.same hb); have HS8 := Lib.hid (HS7.out.same hb)
        clear hb HB7 HT7 HA7 HS7
        go_wp2
        go_ret
        exact ⟨by simp, HB8.out⟩
      · have t1 : decide (1 < (NR : Int)) = false := decide_eq_false (by omega)
        go_wp2_with fail
        refine (vRecords_any a5 a2 n5 n2 c5 c2 _ _ w7 (by omega) (by omega) HT7.out HS7.out).mono ?_
        rintro e w8 ⟨rfl, hb⟩
        have HB8 := Lib.hid (below_tr HB7.out hb HB7.out.size); have HA8 := Lib.hid (HA7.out.same hb); have HS8 := Lib.hid (HS7.out.same hb)
        clear hb HB7 HT7 HA7 HS7
        go_wp2
        go_ret
        exact ⟨by simp, HB8.out⟩
  case true =>
    have hoa : okRecs (adL rs) = true := HOA.out hok
    rw [hoa]
    rcases HRUN.out with h1 | h1
    · have t1 : decide (1 < (NR : Int)) = true := decide_eq_true (by omega)
      go_wp2_with fail
      refine (vRecords_any a5 a2 n5 n2 c5 c2 _ _ w7 (by omega) (by omega) HT7.out HS7.out).mono ?_
      rintro e w8 ⟨rfl, hb⟩
      have HB8 := Lib.hid (below_tr HB7.out hb HB7.out.size); have HA8 := Lib.hid (HA7.out.same hb); have HS8 := Lib.hid (HS7.out.same hb)
      clear hb HB7 HT7 HA7 HS7
      go_wp2_with fail
      refine (vRecords_any a7 a2 n7 n2 c7 c2 _ _ w8 (by omega) (by omega) HA8.out HS8.out).mono ?_
      rintro e w9 ⟨rfl, hb⟩
      have HB9 := Lib.hid (below_tr HB8.out hb HB8.out.size)
      clear hb
      go_wp2
      go_ret
      exact ⟨by simp, HB9.out⟩
    · subst h1
      have t0 : (((0 : Nat) : Int) == 0) = true := rfl
      by_cases h2 : 1 < NR
      · have t1 : decide (1 < (NR : Int)) = true := decide_eq_true (by omega)
        go_wp2_with fail
        refine (vRecords_any a5 a2 n5 n2 c5 c2 _ _ w7 (by omega) (by omega) HT7.out HS7.out).mono ?_
        rintro e w8 ⟨rfl, hb⟩
        have HB8 := Lib.hid (below_tr HB7.out hb HB7.out.size); have HA8 := Lib.hid (HA7.out.same hb); have HS8 := Lib.hid (HS7.out.same hb)
        clear hb HB7 HT7 HA7 HS7
        go_wp2_with fail
        refine (vRecords_any a7 a2 n7 n2 c7 c2 _ _ w8 (by omega) (by omega) HA8.out HS8.out).mono ?_
        rintro e w9 ⟨rfl, hb⟩
        have HB9 := Lib.hid (below_tr HB8.out hb HB8.out.size)
        clear hb
        go_wp2
        go_ret
        exact ⟨by simp, HB9.out⟩
      · have t1 : decide (1 < (NR : Int)) = false := decide_eq_false (by omega)
        go_wp2_with fail
        refine (vRecords_any a5 a2 n5 n2 c5 c2 _ _ w7 (by omega) (by omega) HT7.out HS7.out).mono ?_
        rintro e w8 ⟨rfl, hb⟩
        have HB8 := Lib.hid (below_tr HB7.out hb HB7.out.size); have HA8 := Lib.hid (HA7.out.same hb); have HS8 := Lib.hid (HS7.out.same hb)
        clear hb HB7 HT7 HA7 HS7
        go_wp2_with fail
        refine (vRecords_any a7 a2 n7 n2 c7 c2 _ _ w8 (by omega) (by omega) HA8.out HS8.out).mono ?_
        rintro e w9 ⟨rfl, hb⟩
        have HB9 := Lib.hid (below_tr HB8.out hb HB8.out.size)
        clear hb
        go_wp2
        go_ret
        exact ⟨by simp, HB9.out⟩

end Go.Proofs.Ythakkkljlpimlaa

/- General: what comes in as a list of structs, read as cells. -/
namespace Go.Proofs.Ythakkkljlpimlaa
open Go.ChangeShapes Go.WideShapes Go.Deep Go.RowKit Go.Joins
set_option linter.unusedVariables false

section
variable {H : Type} {enc : TypeId × Value → H} {P : Program} {w : World} {base : Nat} {spare : Nat → Bool} {held : Bool}
theorem open_slice_fields {t e : TypeId} {fs : Array Field} {fuel : Nat} {cs : List Value} {x : DataW H × List MemPlace} (ht : P.underlying t = some (.slice e)) (he : P.underlying e = some (.struct fs))
    (hone : oneCellFields P fs = true) (hC : P.cellsOf e = fs.size) (h : DataW.trod enc P w base spare held fuel t cs = some x) :
    (cs = [.slice none 0 0] ∧ x = (.nil, [])) ∨
    ∃ (a : Addr) (len cap m : Nat) (D : Nat → DataW H) (Pl : Nat → List MemPlace), cs = [.slice (some a) len cap] ∧ base ≤ a.block ∧ len ≤ cap ∧ cap ≤ maxLen ∧ m = (if spare a.block then cap else len) ∧
      x = (.slice ((List.range len).map D) ((List.range (m - len)).map fun j => D (len + j)), MemPlace.row a (m * fs.size) ++ (List.range m).flatMap Pl) ∧
      ∀ i, i < m → ∃ (ys : List (DataW H × List MemPlace)) (n : Nat), D i = .agg (ys.map (·.1)) ∧ Pl i = ys.flatMap (·.2) ∧ ys.length = fs.size ∧
        ∀ (j : Nat) (f : Field), fs[j]? = some f → ∃ (v : Value) (y : DataW H × List MemPlace), w.cell? (a.add (i * fs.size + j)) = some v ∧ ys[j]? = some y ∧ DataW.trod enc P w base spare held n f.type [v] = some y := by
  rcases open_slice ht h with h0 | ⟨a, len, cap, m, n, D, Pl, hcs, hb, hl, hm, hmm, hx, hi⟩
  · exact .inl h0
  · refine .inr ⟨a, len, cap, m, D, Pl, hcs, hb, hl, hm, hmm, by rw [hC] at hx; exact hx, fun i him => ?_⟩
    obtain ⟨cs', hc, ht'⟩ := hi i him
    rw [hC] at hc
    obtain ⟨ys, n', hn', hy, hlen, hyl, hf⟩ := DataW.trod_struct he ht'
    obtain ⟨_, hcl, hat⟩ := World.cells?_some hc
    simp only [Prod.mk.injEq] at hy
    refine ⟨ys, n', hy.1, hy.2, hyl, fun j f hj => ?_⟩
    obtain ⟨ho, hk⟩ := hone_of hone j f hj
    have hjl : j < fs.size := (Array.getElem?_eq_some_iff.1 hj).1
    have hcell := hat j hjl
    have hv : cs'[j]? = some (cs'[j]'(by omega)) := List.getElem?_eq_getElem (by omega)
    have h1 := hf j f hj
    rw [ho, hk] at h1
    have hone' : (cs'.drop j).take 1 = [cs'[j]'(by omega)] := by
      rw [List.drop_eq_getElem_cons (by omega)]
      rfl
    rw [hone'] at h1
    have hys : ys[j]? = some (ys[j]'(by omega)) := List.getElem?_eq_getElem (by omega)
    refine ⟨_, _, ?_, hys, h1.trans hys⟩
    rw [← Go.Deep.add_add, hcell, hv]
end

section
variable {H : Type} {enc : TypeId × Value → H} {P : Program} {w : World} {base : Nat} {spare : Nat → Bool} {held : Bool}
theorem open_agg5 {r : Reach} {b0 : Nat} {t : TypeId} {f0 f1 f2 f3 f4 : Field} {v : Value} {d : DataW H} {p : List MemPlace} (hs : P.underlying t = some (.struct #[f0, f1, f2, f3, f4])) (hone : oneCellFields P #[f0, f1, f2, f3, f4] = true) (hC : P.cellsOf t = 5)
    (hv : Value.okWide P w r b0 t v) (h : DataW.Trod enc P w base spare held t v d p) :
    ∃ (v0 v1 v2 v3 v4 : Value) (y0 y1 y2 y3 y4 : DataW H × List MemPlace) (n : Nat), v = .agg #[v0, v1, v2, v3, v4] ∧ d = .agg [y0.1, y1.1, y2.1, y3.1, y4.1] ∧ p = y0.2 ++ (y1.2 ++ (y2.2 ++ (y3.2 ++ y4.2))) ∧
      DataW.trod enc P w base spare held n f0.type [v0] = some y0 ∧ DataW.trod enc P w base spare held n f1.type [v1] = some y1 ∧ DataW.trod enc P w base spare held n f2.type [v2] = some y2 ∧ DataW.trod enc P w base spare held n f3.type [v3] = some y3 ∧ DataW.trod enc P w base spare held n f4.type [v4] = some y4 := by
  obtain ⟨cs, rfl, hsz⟩ := okWide_struct hs hv
  obtain ⟨l⟩ := cs
  match l, hsz.trans hC with
  | [c0, c1, c2, c3, c4], _ =>
    obtain ⟨fuel, hf⟩ := h
    obtain ⟨xs, n, _, hx, _, hlen, hg⟩ := DataW.trod_struct hs hf
    obtain ⟨o0, k0⟩ := hone_of hone 0 f0 rfl
    obtain ⟨o1, k1⟩ := hone_of hone 1 f1 rfl
    obtain ⟨o2, k2⟩ := hone_of hone 2 f2 rfl
    obtain ⟨o3, k3⟩ := hone_of hone 3 f3 rfl
    obtain ⟨o4, k4⟩ := hone_of hone 4 f4 rfl
    match xs, hlen with
    | [y0, y1, y2, y3, y4], _ =>
      simp only [Prod.mk.injEq] at hx
      exact ⟨c0, c1, c2, c3, c4, y0, y1, y2, y3, y4, n, rfl, by simpa using hx.1, by simpa using hx.2, by simpa [Value.cells, o0, k0] using hg 0 f0 rfl, by simpa [Value.cells, o1, k1] using hg 1 f1 rfl, by simpa [Value.cells, o2, k2] using hg 2 f2 rfl, by simpa [Value.cells, o3, k3] using hg 3 f3 rfl, by simpa [Value.cells, o4, k4] using hg 4 f4 rfl⟩

end

section
variable {H : Type} {enc : TypeId × Value → H} {P : Program} {w : World} {base : Nat} {spare : Nat → Bool} {held : Bool}
/-- A struct by value of one cell and a struct of three. -/
theorem open_agg13 {r : Reach} {b0 : Nat} {t : TypeId} {f0 f1 g0 g1 g2 : Field} {v : Value} {d : DataW H} {p : List MemPlace} (hs : P.underlying t = some (.struct #[f0, f1])) (hs2 : P.underlying f1.type = some (.struct #[g0, g1, g2]))
    (o0 : f0.offset = 0) (o1 : f1.offset = 1) (k0 : P.cellsOf f0.type = 1) (k1 : P.cellsOf f1.type = 3) (hone : oneCellFields P #[g0, g1, g2] = true) (hC : P.cellsOf t = 4)
    (hv : Value.okWide P w r b0 t v) (h : DataW.Trod enc P w base spare held t v d p) :
    ∃ (v0 v1 v2 v3 : Value) (y0 z1 z2 z3 : DataW H × List MemPlace) (n m : Nat), v = .agg #[v0, v1, v2, v3] ∧
      DataW.trod enc P w base spare held n f0.type [v0] = some y0 ∧ DataW.trod enc P w base spare held m g0.type [v1] = some z1 ∧ DataW.trod enc P w base spare held m g1.type [v2] = some z2 ∧ DataW.trod enc P w base spare held m g2.type [v3] = some z3 := by
  obtain ⟨cs, rfl, hsz⟩ := okWide_struct hs hv
  obtain ⟨l⟩ := cs
  match l, hsz.trans hC with
  | [c0, c1, c2, c3], _ =>
    obtain ⟨fuel, hf⟩ := h
    obtain ⟨xs, n, _, hx, _, hlen, hg⟩ := DataW.trod_struct hs hf
    match xs, hlen with
    | [y0, y1], _ =>
      have h0 := hg 0 f0 rfl
      have h1 := hg 1 f1 rfl
      rw [o0, k0] at h0
      rw [o1, k1] at h1
      have h1' : DataW.trod enc P w base spare held n f1.type [c1, c2, c3] = some y1 := by simpa [Value.cells] using h1
      obtain ⟨zs, m, _, hz, _, hlen2, hg2⟩ := DataW.trod_struct hs2 h1'
      obtain ⟨p0, q0⟩ := hone_of hone 0 g0 rfl
      obtain ⟨p1, q1⟩ := hone_of hone 1 g1 rfl
      obtain ⟨p2, q2⟩ := hone_of hone 2 g2 rfl
      match zs, hlen2 with
      | [z1, z2, z3], _ =>
        exact ⟨c0, c1, c2, c3, y0, z1, z2, z3, n, m, rfl, by simpa [Value.cells] using h0, by simpa [p0, q0] using hg2 0 g0 rfl, by simpa [p1, q1] using hg2 1 g1 rfl, by simpa [p2, q2] using hg2 2 g2 rfl⟩
end

theorem recs_of_cells {w : World} {x : Addr} {len : Nat} (h : ∀ i, i < len → ∃ k t : Int, w.cell? (x.add (i * 2)) = some (.int .i64 k) ∧ w.cell? (x.add (i * 2 + 1)) = some (.int .i64 t)) :
    ∃ rs : List (Int × Int), rs.length = len ∧ RecsAt w (some x) rs := by
  by_cases h0 : len = 0
  · subst h0; exact ⟨[], rfl, .inl rfl⟩
  · obtain ⟨b, off, spot⟩ := x
    obtain ⟨k0, t0, hc0, _⟩ := h 0 (by omega)
    have hs : spot = none := by simpa [Addr.add] using World.cell?_spot hc0
    subst hs
    have hlt := World.block_lt_of_cell? w _ hc0
    have hadd : ∀ j, (⟨b, off, none⟩ : Addr).add j = ⟨b, off + j, none⟩ := fun j => by unfold Addr.add; split <;> simp_all
    have key : ∀ n, n ≤ len → ∃ rs : List (Int × Int), rs.length = n ∧ ∀ j, j < n → w.cell? ⟨b, off + j * 2, none⟩ = some (.int .i64 (rs.getD j (0, 0)).1) ∧ w.cell? ⟨b, off + j * 2 + 1, none⟩ = some (.int .i64 (rs.getD j (0, 0)).2) := by
      intro n
      induction n with
      | zero => intro _; exact ⟨[], rfl, fun j hj => by omega⟩
      | succ n ih =>
        intro hn
        obtain ⟨rs, hl, hr⟩ := ih (by omega)
        obtain ⟨k, t, hk, ht⟩ := h n (by omega)
        rw [hadd] at hk ht
        refine ⟨rs ++ [(k, t)], by simp [hl], fun j hj => ?_⟩
        by_cases e : j = n
        · subst e
          have : (rs ++ [(k, t)]).getD j (0, 0) = (k, t) := by simp [List.getD, ← hl]
          rw [this]
          exact ⟨hk, by rw [Nat.add_assoc]; exact ht⟩
        · have : (rs ++ [(k, t)]).getD j (0, 0) = rs.getD j (0, 0) := by simp [List.getD, List.getElem?_append_left (show j < rs.length by omega)]
          rw [this]
          exact hr j (by omega)
    obtain ⟨rs, hl, hr⟩ := key len (Nat.le_refl _)
    exact ⟨rs, hl, .inr ⟨b, off, rfl, by simpa [Addr.add] using hlt, fun j hj => hr j (by omega)⟩⟩

theorem int_in {n : Int} (h : (Lit.int .i64 n).wf = true) : -9223372036854775808 ≤ n ∧ n ≤ 9223372036854775807 := by
  simp only [Lit.wf, Bool.and_eq_true, decide_eq_true_eq] at h
  have e1 : IntKind.i64.min = -9223372036854775808 := by decide
  have e2 : IntKind.i64.max = 9223372036854775807 := by decide
  rw [e1, e2] at h
  exact h

end Go.Proofs.Ythakkkljlpimlaa
