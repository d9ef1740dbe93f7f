/- Walks: ProfileOf of the program. -/
import Derived.Test.YtkjmngdcfheojaaSq
namespace Go.Proofs.Ytkjmngdcfheojaa
open Go.RowKit Go.Sort
set_option linter.unusedVariables false

theorem own_cap {w : World} {base : Nat} {e : TypeId} {size g n c : Nat} {xs : List Value} (h : w.ownsRow base e size (.slice (some ⟨g, 0, none⟩) n c) n xs) : n ≤ c ∧ c ≤ 9223372036854775807 := by
  rcases h.2 with ⟨h2, _⟩ | ⟨g', cap, cur, hv, _, _, hn, hm, _⟩
  · injection h2 with h2 _ _; cases h2
  · injection hv with _ _ hv
    subst hv
    exact ⟨hn, by unfold maxLen at hm; omega⟩
theorem keys_range {rs : List (Int × Int)} (h : okRecs rs = true) : ∀ x ∈ keysL rs, -100000 ≤ x ∧ x ≤ 100000 := by
  intro x hx
  unfold okRecs at h
  simp only [Bool.and_eq_true, List.all_eq_true] at h
  unfold keysL at hx
  obtain ⟨r, hr, rfl⟩ := List.mem_map.1 hx
  have := h.2 r hr
  simp [okRec, okKey, inB] at this
  omega
theorem tbl_sums (ks : List Int) (hl : ks.length ≤ 64) : ∀ k, 0 ≤ Mg.sumL ((Mg.tbl ks).take k) ∧ Mg.sumL ((Mg.tbl ks).take k) ≤ 1000000 := by
  have key : ∀ (l : List Int) (k : Nat), l.length ≤ 64 → 0 ≤ Mg.sumL ((Mg.tbl l).take k) ∧ Mg.sumL ((Mg.tbl l).take k) ≤ 64 * l.length := by
    intro l
    induction l with
    | nil => intro k _; simp [Mg.tbl, Mg.sumL]
    | cons x t ih =>
      intro k hk
      cases k with
      | zero => simp [Mg.sumL]; omega
      | succ k =>
        have h1 := ih k (by simp at hk; omega)
        have h2 : (t.countP fun y => decide (y < x)) ≤ t.length := List.countP_le_length
        have h3 : Mg.sumL ((Mg.tbl (x :: t)).take (k + 1)) = ((t.countP fun y => decide (y < x) : Nat) : Int) + Mg.sumL ((Mg.tbl t).take k) := by
          unfold Mg.sumL
          rw [Mg.tbl, List.take_succ_cons, List.foldl_cons, Mg.foldl_add]
          omega
        rw [h3]
        simp only [List.length_cons] at hk ⊢
        omega
  intro k
  have := key ks k hl
  omega

theorem bch {w0 w1 w2 : World} (h : Below w0.heap.size w0 w1) (hb : Below w1.heap.size w1 w2) : Below w0.heap.size w0 w2 := h.trans (hb.mono h.size)

def prZ : Value := .agg #[.int .i64 0, .int .i64 0, .int .i64 0, .int .i64 0, .int .i64 0]
/-- The profile of records. -/
def prV (rs : List (Int × Int)) : Value :=
  if okRecs rs = true ∧ 0 < rs.length then
    .agg #[.int .i64 (rs.length : Nat), .int .i64 ((Mg.cntP (Mg.dsc (keysL rs)) (rs.length - 1) : Nat) + 1), .int .i64 (Mg.inv (keysL rs) : Nat), .int .i64 ((Mg.cntP (Mg.oth (Mg.srtI (keysL rs))) (rs.length - 1) : Nat) + 1),
      .int .i64 ((Mg.srtI (keysL rs)).getD (rs.length - 1) 0 - (Mg.srtI (keysL rs)).getD 0 0 + 1)]
  else prZ

theorem below_five {B C : Nat} {w w1 : World} (h : Below B w w1) (hC : B ≤ C) (a b c d e : Value) : Below B w (((((w1.setCell ⟨C, 0, none⟩ a).setCell ⟨C, 1, none⟩ b).setCell ⟨C, 2, none⟩ c).setCell ⟨C, 3, none⟩ d).setCell ⟨C, 4, none⟩ e) :=
  Below.setCell (p := ⟨C, 4, none⟩) (Below.setCell (p := ⟨C, 3, none⟩) (Below.setCell (p := ⟨C, 2, none⟩) (Below.setCell (p := ⟨C, 1, none⟩) (Below.setCell (p := ⟨C, 0, none⟩) h hC _) hC _) hC _) hC _) hC _

set_option maxRecDepth 100000 in
set_option maxHeartbeats 4000000 in
theorem implProfileOf_small (a : Option Addr) (cap : Nat) (rs : List (Int × Int)) (w : World) (hbig : rs.length ≤ 9223372036854775807) (h : RecsAt w a rs) (hno : ¬ (okRecs rs = true ∧ 0 < rs.length)) :
    Calls Try.prog 50 #[.slice a rs.length cap] w fun e w' => e = .returned (.tuple #[prV rs, .bool (okRecs rs)]) ∧ Below w.heap.size w w' := by
  have HP : Hid (prV rs = prZ) := if_neg hno
  have B0 := Lib.hid (show Below w.heap.size w (w.alloc (.cells #[.int .i64 0, .int .i64 0, .int .i64 0, .int .i64 0, .int .i64 0] 71)) from (Below.refl _ _).alloc (Nat.le_refl _) _)
  have R0 := Lib.hid (block_new w (.cells #[.int .i64 0, .int .i64 0, .int .i64 0, .int .i64 0, .int .i64 0] 71))
  have HV := Lib.hid (isValidRecords_any a cap rs _ hbig (h.below (Nat.le_refl _) B0.out))
  have HZ : Hid (okRecs rs = true → (rs.length : Int) = 0) := fun e => by
    have : ¬ 0 < rs.length := fun h => hno ⟨e, h⟩
    omega
  clear h hno
  rw [HP.out]
  unfold prZ
  generalize okRecs rs = ok at HV HZ ⊢
  go_enter Try.func50, Try.ntmps50
  go_wp2_with fail
  refine HV.out.mono ?_
  rintro e w1 ⟨rfl, hb⟩
  have R1 := block_below R0.out hb (by simp)
  have r0 := row_cell R1 0
  have r1 := row_cell R1 1
  have r2 := row_cell R1 2
  have r3 := row_cell R1 3
  have r4 := row_cell R1 4
  have rf : ∀ o, w1.frozen? ⟨w.heap.size, o, none⟩ = false := fun o => frozen_of_row w1 _ o _ _ R1
  simp at r0 r1 r2 r3 r4
  have DF := Lib.hid (below_five (C := w.heap.size) (B0.out.trans (hb.mono B0.out.size)) (Nat.le_refl _) (.int .i64 0) (.int .i64 0) (.int .i64 0) (.int .i64 0) (.int .i64 0))
  clear hb R1
  cases ok
  · go_wp2
    refine bodyPost_ret (v := .tuple #[.agg #[.int .i64 0, .int .i64 0, .int .i64 0, .int .i64 0, .int .i64 0], .bool false]) (by simp [results, Try.results50, go_sem, r0, r1, r2, r3, r4]) rfl ⟨rfl, ?_⟩
    with_reducible exact DF.out
  · have hz := HZ.out rfl
    have hz2 : ((rs.length : Int) == 0) = true := by simpa using hz
    clear hz
    go_wp2
    refine bodyPost_ret (v := .tuple #[.agg #[.int .i64 0, .int .i64 0, .int .i64 0, .int .i64 0, .int .i64 0], .bool true]) (by simp [results, Try.results50, go_sem, r0, r1, r2, r3, r4]) rfl ⟨rfl, ?_⟩
    with_reducible exact DF.out

set_option maxRecDepth 100000 in
set_option maxHeartbeats 8000000 in
theorem implProfileOf_big (a : Option Addr) (cap : Nat) (rs : List (Int × Int)) (m : Nat) (w : World) (h : RecsAt w a rs) (hok : okRecs rs = true) (hm : rs.length = m + 1) :
    Calls Try.prog 50 #[.slice a (m + 1) cap] w fun e w' => e = .returned (.tuple #[prV rs, .bool (okRecs rs)]) ∧ Below w.heap.size w w' := by
  have HP0 : prV rs = _ := if_pos ⟨hok, by omega⟩
  have hl64 : m ≤ 63 := by have := okRecs_len hok; omega
  have B0 := Lib.hid (show Below w.heap.size w (w.alloc (.cells #[.int .i64 0, .int .i64 0, .int .i64 0, .int .i64 0, .int .i64 0] 71)) from (Below.refl _ _).alloc (Nat.le_refl _) _)
  have R0 := Lib.hid (block_new w (.cells #[.int .i64 0, .int .i64 0, .int .i64 0, .int .i64 0, .int .i64 0] 71))
  have HR := Lib.hid (h.below (Nat.le_refl _) B0.out)
  have HV := isValidRecords_any a cap rs _ (by omega) HR.out
  have HK0 := fun W (hb : Below (w.alloc (.cells #[.int .i64 0, .int .i64 0, .int .i64 0, .int .i64 0, .int .i64 0] 71)).heap.size (w.alloc (.cells #[.int .i64 0, .int .i64 0, .int .i64 0, .int .i64 0, .int .i64 0] 71)) W) => keysOf_any a cap rs W (by omega) (HR.out.below (Nat.le_refl _) hb)
  have HKR := Lib.hid (keys_range hok)
  have hkl : (keysL rs).length = m + 1 := by rw [keysL_len]; exact hm
  rw [hok] at HV ⊢
  rw [hm] at HV HP0 HK0
  rw [hkl] at HK0
  rw [Nat.add_sub_cancel] at HP0
  have HP := Lib.hid HP0
  have HV := Lib.hid HV
  have HK := Lib.hid HK0
  rw [HP.out]
  clear h HP HP0 HK0 hok HR hm
  have HKL := Lib.hid hkl
  generalize keysL rs = ks at HK HKR HKL hkl ⊢
  have HSL : Hid ((Mg.srtI ks).length = m + 1) := by show _ = _; rw [srtI_len]; exact hkl
  have HTS := Lib.hid (tbl_sums ks (by omega))
  have HST := Lib.hid (Mg.sum_tbl ks)
  have HTL : Hid ((Mg.tbl ks).length = m + 1) := by show _ = _; rw [Mg.tbl_len]; exact hkl
  have HDS := Lib.hid (fun x c W (h : IntsAt W (some x) ks) => by
    have := descents_any x c ks W (by omega) (by omega) h
    rw [hkl, Nat.add_sub_cancel] at this
    exact this)
  have HIV := Lib.hid (fun x c W (h1 : m + 1 ≤ c) (h2 : c ≤ 9223372036854775807) (h : IntsAt W (some x) ks) => by
    have := inversionTable_any x c ks W (by omega) (by omega) h2 h
    rw [hkl] at this
    exact this)
  have HSM := Lib.hid (fun a c W (h : IntsAt W a (Mg.tbl ks)) => by
    have := sum_any a c (m + 1) (Mg.tbl ks) W HTL.out (by omega) (fun k _ => HTS.out k) h
    rw [HST.out] at this
    exact this)
  have HSO := Lib.hid (fun x c W (h : IntsAt W (some x) ks) => by
    have := sorted_any x c ks W (by omega) h
    rw [hkl] at this
    unfold OwnEnd at this
    exact this)
  have HCL : Hid ((((Lib.compact (Mg.srtI ks)).length : Nat) : Int) = (Mg.cntP (Mg.oth (Mg.srtI ks)) m : Nat) + 1) := by
    show _ = _
    have := Mg.compact_len (Mg.srtI ks) (m + 1) (by omega) (by rw [HSL.out]; exact Nat.le_refl _)
    rw [Nat.add_sub_cancel] at this
    unfold Lib.compact
    rw [HSL.out, this]
    omega
  have HCP := Lib.hid (fun g c W (hH : Holds (Value.int .i64) W g 0 (Mg.srtI ks).toArray) (hc : m + 1 ≤ c) => by
    have := Try.slices_Compact_int g 0 c (Mg.srtI ks) W hH (by rw [HSL.out]; omega) (by rw [HSL.out]; exact hc)
    rw [HSL.out] at this
    exact this)
  have HRG : Hid (∀ j, j < m + 1 → -100000 ≤ (Mg.srtI ks).getD j 0 ∧ (Mg.srtI ks).getD j 0 ≤ 100000) := fun j hj => by
    have hj' : j < (Mg.srtI ks).length := by rw [HSL.out]; exact hj
    rw [List.getD_eq_getElem?_getD, List.getElem?_eq_getElem hj']
    exact HKR.out _ ((Mg.srt_mem (lt := Mg.ltI)).1 (List.getElem_mem hj'))
  have HAT : Hid (∀ j, j < m + 1 → ((Mg.srtI ks).map (Value.int .i64))[j]? = some (.int .i64 ((Mg.srtI ks).getD j 0))) := fun j hj => by
    have hj' : j < (Mg.srtI ks).length := by rw [HSL.out]; exact hj
    rw [List.getElem?_map, List.getD_eq_getElem?_getD, List.getElem?_eq_getElem hj']; rfl
  obtain ⟨rg1, rg2⟩ := HRG.out m (by omega)
  obtain ⟨rg3, rg4⟩ := HRG.out 0 (by omega)
  have ha1 := HAT.out m (by omega)
  have ha0 := HAT.out 0 (by omega)
  generalize (Mg.srtI ks).getD m 0 = S1 at rg1 rg2 ha1 ⊢
  generalize (Mg.srtI ks).getD 0 0 = S0 at rg3 rg4 ha0 ⊢
  have HA1 := Lib.hid ha1; have HA0 := Lib.hid ha0
  have hcd := Mg.cntP_le (Mg.dsc ks) m
  generalize Mg.cntP (Mg.dsc ks) m = D at HDS hcd ⊢
  generalize Mg.cntP (Mg.oth (Mg.srtI ks)) m = U at HCL ⊢
  generalize Mg.inv ks = V at HSM ⊢
  clear ha1 ha0 hkl HKR HRG HAT HST HTS
  go_enter Try.func50, Try.ntmps50
  go_wp2_with fail
  refine HV.out.mono ?_
  rintro e w1 ⟨rfl, hb⟩
  have HB1 := Lib.hid hb; clear hb HV
  have hne : (((m : Int) + 1) == 0) = false := by simp; omega
  go_wp2_with fail
  refine (HK.out _ HB1.out).mono ?_
  rintro e w2 ⟨a', c', rfl, ho, hb⟩
  obtain ⟨g1, rfl, hg1, hg1l, _⟩ := own_cell ho (by omega)
  have hc1 := (own_cap ho).1
  have hc1' := (own_cap ho).2
  have HI2 := Lib.hid (ints_of_own ho)
  have HB2 := Lib.hid (bch HB1.out hb)
  clear ho hb HK
  go_wp2_with fail
  refine (HSO.out _ _ _ HI2.out).mono ?_
  rintro e w3 ⟨g2, c2, rfl, ho, hb⟩
  have HI3 := Lib.hid (HI2.out.below (Nat.le_refl _) hb)
  have HO3 := Lib.hid ho
  have HB3 := Lib.hid (bch HB2.out hb)
  have hg2 : w2.heap.size ≤ g2 := (ho.lt g2 rfl).1
  have hs1 := own_celli ho HA1.out
  have hs0 := own_celli ho HA0.out
  have b1 : (0 : Int) ≤ (m : Int) := by omega
  clear ho hb HI2 HSO
  go_wp2_with fail
  go_quiet (fail)
  have HI3' := Lib.hid (HI3.out.below (Nat.le_refl _) (below_drewN (Below.refl w3.heap.size w3) nq))
  have HO3' : Hid ((w3.drewN nq).ownsRow w2.heap.size 3 1 (.slice (some ⟨g2, 0, none⟩) (m + 1) c2) (m + 1) ((Mg.srtI ks).map (Value.int .i64))) := HO3.out
  have HB3' := Lib.hid (bch HB3.out (below_drewN (Below.refl w3.heap.size w3) nq))
  have hsz3 : w2.heap.size ≤ (w3.drewN nq).heap.size := by have := (HO3.out.lt g2 rfl).2; show w2.heap.size ≤ w3.heap.size; omega
  generalize w3.drewN nq = wq at HI3' HO3' HB3' hsz3 ⊢
  clear HI3 HO3 HB3 hs1 hs0
  go_wp2_with fail
  refine (HDS.out _ _ _ HI3'.out).mono ?_
  rintro e w4 ⟨⟨a4, c4, rfl⟩, hb⟩
  have HI4 := Lib.hid (HI3'.out.below (Nat.le_refl _) hb)
  have HO4 := Lib.hid (own_below HO3'.out (Nat.le_refl _) hb)
  have HB4 := Lib.hid (bch HB3'.out hb)
  clear hb HI3' HO3' HB3' HDS
  have hd1 : (D : Int) + 1 ≤ 9223372036854775807 := by omega
  go_wp2_with fail
  refine (HIV.out _ _ _ hc1 hc1' HI4.out).mono ?_
  rintro e w5 ⟨a5, c5, rfl, ho5, hb⟩
  have HI5 := Lib.hid (ints_of_own ho5)
  have HO5 := Lib.hid (own_below HO4.out (Nat.le_refl _) hb)
  have HB5 := Lib.hid (bch HB4.out hb)
  clear hb ho5 HI4 HO4 HB4 HIV
  go_wp2_with fail
  refine (HSM.out _ _ _ HI5.out).mono ?_
  rintro e w6 ⟨rfl, hb⟩
  have HO6 := Lib.hid (own_below HO5.out (Nat.le_refl _) hb)
  have HB6 := Lib.hid (bch HB5.out hb)
  clear hb HI5 HO5 HB5 HSM
  go_wp2_with fail
  refine (HCP.out g2 c2 _ (own_holds HO6.out) (own_cap HO6.out).1).mono ?_
  rintro e w7 ⟨rfl, q, rfl⟩
  have HB7 := Lib.hid (Lib.below_putRow (enc := Value.int .i64) (q := q) (d := (Lib.compact (Mg.srtI ks) ++ List.replicate (m + 1 - (Lib.compact (Mg.srtI ks)).length) 0).toArray) HB6.out (Nat.le_trans HB2.out.size hg2))
  generalize putRow (Value.int .i64) (Sort.ahead w6 q) g2 0 (Lib.compact (Mg.srtI ks) ++ List.replicate (m + 1 - (Lib.compact (Mg.srtI ks)).length) 0).toArray = w8 at HB7 ⊢
  generalize (Lib.compact (Mg.srtI ks)).length = N at HCL ⊢
  have R1 := block_below R0.out HB7.out (by simp)
  have r0 := row_cell R1 0
  have r1 := row_cell R1 1
  have r2 := row_cell R1 2
  have r3 := row_cell R1 3
  have r4 := row_cell R1 4
  have rf : ∀ o, w8.frozen? ⟨w.heap.size, o, none⟩ = false := fun o => frozen_of_row w8 _ o _ _ R1
  simp at r0 r1 r2 r3 r4
  have DF := Lib.hid (below_five (C := w.heap.size) (B0.out.trans (HB7.out.mono B0.out.size)) (Nat.le_refl _) (.int .i64 ((m : Int) + 1)) (.int .i64 ((D : Int) + 1)) (.int .i64 V) (.int .i64 N) (.int .i64 (S1 - S0 + 1)))
  clear R1 HB6 HO6 HCP HB7 HB2 HB1
  go_wp2
  refine bodyPost_ret (v := .tuple #[.agg #[.int .i64 ((m : Int) + 1), .int .i64 ((D : Int) + 1), .int .i64 V, .int .i64 N, .int .i64 (S1 - S0 + 1)], .bool true]) (by simp [results, Try.results50, go_sem, r0, r1, r2, r3, r4]) rfl ⟨?_, ?_⟩
  · rw [HCL.out]; rfl
  · with_reducible exact DF.out

end Go.Proofs.Ytkjmngdcfheojaa
