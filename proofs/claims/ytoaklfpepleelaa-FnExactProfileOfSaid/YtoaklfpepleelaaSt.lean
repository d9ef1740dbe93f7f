/- Walks: ProfileOf of the reference. -/
import Derived.Test.YtoaklfpepleelaaSr
namespace Go.Proofs.Ytoaklfpepleelaa
open Go.RowKit Go.Sort
set_option linter.unusedVariables false

def Prow (w : World) (g : Nat) (n R V D X : Int) : Prop := w.heap[g]? = some (.cells #[.int .i64 n, .int .i64 R, .int .i64 V, .int .i64 D, .int .i64 X] 49 (0, 0))
theorem Prow.cells {w : World} {g : Nat} {n R V D X : Int} (h : Prow w g n R V D X) : w.cell? ⟨g, 0, none⟩ = some (.int .i64 n) ∧ w.cell? ⟨g, 1, none⟩ = some (.int .i64 R) ∧ w.cell? ⟨g, 2, none⟩ = some (.int .i64 V) ∧ w.cell? ⟨g, 3, none⟩ = some (.int .i64 D) ∧ w.cell? ⟨g, 4, none⟩ = some (.int .i64 X) ∧ ∀ o, w.frozen? ⟨g, o, none⟩ = false :=
  ⟨row_cell h 0, row_cell h 1, row_cell h 2, row_cell h 3, row_cell h 4, fun o => frozen_of_row w g o _ _ h⟩
theorem Prow.below {w w' : World} {g : Nat} {n R V D X : Int} (h : Prow w g n R V D X) (hb : Below w.heap.size w w') : Prow w' g n R V D X := block_below h hb (Array.getElem?_eq_some_iff.1 h).1
theorem Prow.far {w : World} {g b j : Nat} {n R V D X : Int} (h : Prow w g n R V D X) (u : Value) (hne : b ≠ g) : Prow (w.setCell ⟨b, j, none⟩ u) g n R V D X := (heap_setCell_other w ⟨b, j, none⟩ g u (fun e => hne e.symm)).trans h
theorem Prow.set1 {w : World} {g : Nat} {n R V D X : Int} (h : Prow w g n R V D X) (r : Int) : Prow (w.setCell ⟨g, 1, none⟩ (.int .i64 r)) g n r V D X := heap_setCell_same w g 1 _ _ _ h
theorem Prow.set2 {w : World} {g : Nat} {n R V D X : Int} (h : Prow w g n R V D X) (r : Int) : Prow (w.setCell ⟨g, 2, none⟩ (.int .i64 r)) g n R r D X := heap_setCell_same w g 2 _ _ _ h
theorem Prow.set3 {w : World} {g : Nat} {n R V D X : Int} (h : Prow w g n R V D X) (r : Int) : Prow (w.setCell ⟨g, 3, none⟩ (.int .i64 r)) g n R V r X := heap_setCell_same w g 3 _ _ _ h
theorem Prow.set4 {w : World} {g : Nat} {n R V D X : Int} (h : Prow w g n R V D X) (r : Int) : Prow (w.setCell ⟨g, 4, none⟩ (.int .i64 r)) g n R V D r := heap_setCell_same w g 4 _ _ _ h
theorem set_grown (w : World) (g j : Nat) (u : Value) : w.grownBy (w.setCell ⟨g, j, none⟩ u) (some g) :=
  ⟨rfl, rfl, rfl, by simp, fun k _ hk => heap_setCell_other w ⟨g, j, none⟩ k u (fun e => hk (by simp [e]))⟩

/-- The reference's state: the result's cells, the profile being filled, the sorted keys. -/
structure PS (w0 w : World) (g2 : Nat) (s : List Int) (n R V D X : Int) : Prop where
  bel : Below w0.heap.size w0 w
  res : Prow w w0.heap.size 0 0 0 0 0
  row : Prow w (w0.heap.size + 1) n R V D X
  srt : IntsAt w (some ⟨g2, 0, none⟩) s
  ne : w0.heap.size + 1 < g2
theorem PS.next {w0 w w' : World} {g2 : Nat} {s : List Int} {n R V D X : Int} (h : PS w0 w g2 s n R V D X) (hb : Below w.heap.size w w') : PS w0 w' g2 s n R V D X :=
  ⟨bch h.bel hb, h.res.below hb, h.row.below hb, h.srt.below (Nat.le_refl _) hb, h.ne⟩
theorem PS.set {w0 w : World} {g2 j : Nat} {s : List Int} {n R V D X n' R' V' D' X' : Int} (h : PS w0 w g2 s n R V D X) (u : Value) (hr : Prow (w.setCell ⟨w0.heap.size + 1, j, none⟩ u) (w0.heap.size + 1) n' R' V' D' X') : PS w0 (w.setCell ⟨w0.heap.size + 1, j, none⟩ u) g2 s n' R' V' D' X' :=
  ⟨Below.setCell (p := ⟨w0.heap.size + 1, j, none⟩) h.bel (Nat.le_succ _) _, h.res.far u (by omega), hr, h.srt.grown (set_grown w _ j u) (fun b off e e2 => by have := h.ne; injection e with e; injection e with e1 _ _; injection e2 with e2; omega), h.ne⟩
theorem PS.set1 {w0 w : World} {g2 : Nat} {s : List Int} {n R V D X : Int} (h : PS w0 w g2 s n R V D X) (r : Int) : PS w0 (w.setCell ⟨w0.heap.size + 1, 1, none⟩ (.int .i64 r)) g2 s n r V D X := h.set _ (h.row.set1 r)
theorem PS.set2 {w0 w : World} {g2 : Nat} {s : List Int} {n R V D X : Int} (h : PS w0 w g2 s n R V D X) (r : Int) : PS w0 (w.setCell ⟨w0.heap.size + 1, 2, none⟩ (.int .i64 r)) g2 s n R r D X := h.set _ (h.row.set2 r)
theorem PS.set3 {w0 w : World} {g2 : Nat} {s : List Int} {n R V D X : Int} (h : PS w0 w g2 s n R V D X) (r : Int) : PS w0 (w.setCell ⟨w0.heap.size + 1, 3, none⟩ (.int .i64 r)) g2 s n R V r X := h.set _ (h.row.set3 r)
theorem PS.set4 {w0 w : World} {g2 : Nat} {s : List Int} {n R V D X : Int} (h : PS w0 w g2 s n R V D X) (r : Int) : PS w0 (w.setCell ⟨w0.heap.size + 1, 4, none⟩ (.int .i64 r)) g2 s n R V D r := h.set _ (h.row.set4 r)
theorem PS.drewN {w0 w : World} {g2 : Nat} {s : List Int} {n R V D X : Int} (h : PS w0 w g2 s n R V D X) (q : Nat) : PS w0 (w.drewN q) g2 s n R V D X := h.next (below_drewN (Below.refl _ _) q)

theorem keys_getD (rs : List (Int × Int)) (k : Nat) : (rs.getD k (0, 0)).1 = (keysL rs).getD k 0 := by
  unfold keysL
  rw [List.getD_eq_getElem?_getD, List.getD_eq_getElem?_getD, List.getElem?_map]
  cases rs[k]? <;> rfl

set_option maxRecDepth 100000 in
set_option maxHeartbeats 8000000 in
theorem specProfileOf_big (a : Option Addr) (cap : Nat) (rs : List (Int × Int)) (m : Nat) (w : World) (h : RecsAt w a rs) (hok : okRecs rs = true) (hm : rs.length = m + 1) :
    Calls Try.prog 28 #[.slice a (m + 1) cap] w fun e w' => e = .returned (.tuple #[prV rs, .bool (okRecs rs)]) ∧ Below w.heap.size w w' := by
  have HP0 : prV rs = _ := if_pos ⟨hok, by omega⟩
  have hl64 : m ≤ 63 := by have := okRecs_len hok; omega
  have B1 := Lib.hid (show Below w.heap.size w (w.alloc (.cells #[.int .i64 0, .int .i64 0, .int .i64 0, .int .i64 0, .int .i64 0] 49)) from (Below.refl _ _).alloc (Nat.le_refl _) _)
  have B2 : Hid (Below w.heap.size w ((w.alloc (.cells #[.int .i64 0, .int .i64 0, .int .i64 0, .int .i64 0, .int .i64 0] 49)).alloc (.cells #[.int .i64 ((m : Int) + 1), .int .i64 0, .int .i64 0, .int .i64 0, .int .i64 0] 49))) := B1.out.alloc (by simp) _
  have R2 := Lib.hid (show Prow ((w.alloc (.cells #[.int .i64 0, .int .i64 0, .int .i64 0, .int .i64 0, .int .i64 0] 49)).alloc (.cells #[.int .i64 ((m : Int) + 1), .int .i64 0, .int .i64 0, .int .i64 0, .int .i64 0] 49)) w.heap.size 0 0 0 0 0 from block_row (block_new w _) (World.grownBy_alloc (w.alloc (.cells #[.int .i64 0, .int .i64 0, .int .i64 0, .int .i64 0, .int .i64 0] 49)) _ (row := none)) (by simp))
  have Q2 := show Prow ((w.alloc (.cells #[.int .i64 0, .int .i64 0, .int .i64 0, .int .i64 0, .int .i64 0] 49)).alloc (.cells #[.int .i64 ((m : Int) + 1), .int .i64 0, .int .i64 0, .int .i64 0, .int .i64 0] 49)) (w.alloc (.cells #[.int .i64 0, .int .i64 0, .int .i64 0, .int .i64 0, .int .i64 0] 49)).heap.size ((m : Int) + 1) 0 0 0 0 from block_new (w.alloc (.cells #[.int .i64 0, .int .i64 0, .int .i64 0, .int .i64 0, .int .i64 0] 49)) _
  rw [size_al] at Q2
  have Q2 := Lib.hid Q2
  have H := Lib.hid h
  have HV := l2Records_any a cap rs (w.alloc (.cells #[.int .i64 0, .int .i64 0, .int .i64 0, .int .i64 0, .int .i64 0] 49)) (by omega) (h.below (Nat.le_refl _) B1.out)
  have HK := l24Keys_any a cap rs ((w.alloc (.cells #[.int .i64 0, .int .i64 0, .int .i64 0, .int .i64 0, .int .i64 0] 49)).alloc (.cells #[.int .i64 ((m : Int) + 1), .int .i64 0, .int .i64 0, .int .i64 0, .int .i64 0] 49)) (by omega) (h.below (Nat.le_refl _) B2.out)
  have HKR := Lib.hid (keys_range hok)
  have hkl : (keysL rs).length = m + 1 := by rw [keysL_len]; exact hm
  rw [hok] at HV ⊢
  rw [hm] at HV HP0 HK
  rw [hkl] at HK
  rw [Nat.add_sub_cancel] at HP0
  have HP := Lib.hid HP0
  have HV := Lib.hid HV
  have HK := Lib.hid HK
  rw [HP.out]
  have HRA := Lib.hid (show ∀ W, Below w.heap.size w W → ∀ k, k < m + 1 → ∃ b off, a = some ⟨b, off, none⟩ ∧ W.cell? ⟨b, off + k * 2, none⟩ = some (.int .i64 ((keysL rs).getD k 0)) from fun W hb k hk => by
    obtain ⟨b, off, e, hc, _⟩ := (H.out.below (Nat.le_refl _) hb).at (show k < rs.length by omega)
    rw [keys_getD] at hc
    exact ⟨b, off, e, hc⟩)
  clear h HP HP0 hok H hm
  generalize keysL rs = ks at HK HKR HRA hkl ⊢
  have HSL : Hid ((Mg.srtI ks).length = m + 1) := by show _ = _; rw [srtI_len]; exact hkl
  have HKL := Lib.hid hkl
  have HSO := Lib.hid (fun x c W (h : IntsAt W (some x) ks) => by
    have := l2Sorted_any x c ks W (by omega) h
    rw [hkl] at this
    unfold OwnEnd at this
    exact this)
  have HRG : Hid (∀ j, j < m + 1 → -100000 ≤ (Mg.srtI ks).getD j 0 ∧ (Mg.srtI ks).getD j 0 ≤ 100000) := fun j hj => by
    have hj' : j < (Mg.srtI ks).length := by rw [HSL.out]; exact hj
    rw [List.getD_eq_getElem?_getD, List.getElem?_eq_getElem hj']
    exact HKR.out _ ((Mg.srt_mem (lt := Mg.ltI)).1 (List.getElem_mem hj'))
  have HIV := Lib.hid (fun i (hi : i < m + 1) => Mg.inv_take (ks := ks) (i := i) (by omega))
  have HCT := Lib.hid (fun i k (hk : k < i) (hi : i ≤ m + 1) (p : Int → Bool) => Mg.count_take (ks := ks) hk (by omega) p)
  have HIL := Lib.hid (fun i => (Mg.inv_le (ks.take i)))
  have HEN : Hid (Mg.inv (ks.take (m + 1)) = Mg.inv ks) := by show _ = _; rw [List.take_of_length_le (by omega)]
  have HI1 : Hid (Mg.inv (ks.take 1) = 0) := by
    show _ = _
    cases ks with
    | nil => rfl
    | cons x t => rfl
  clear hkl HKR
  go_enter Try.func28, Try.ntmps28
  go_wp2_with fail
  refine HV.out.mono ?_
  rintro e w1 ⟨rfl, rfl⟩
  have hne : (((m : Int) + 1) == 0) = false := by simp; omega
  clear HV
  go_wp2_with fail
  refine HK.out.mono ?_
  rintro e w2 ⟨a', c', rfl, ho, hb⟩
  obtain ⟨g1, rfl, hg1, hg1l, _⟩ := own_cell ho (by omega)
  have HI2 := Lib.hid (ints_of_own ho)
  have HB2 := Lib.hid (B2.out.trans (hb.mono B2.out.size))
  have R3 := Lib.hid (R2.out.below hb)
  have Q3 := Lib.hid (Q2.out.below hb)
  have hsz2 : w.heap.size + 1 < w2.heap.size := by have := hb.size; simp at this; omega
  clear ho hb HK R2 Q2
  go_wp2_with fail
  refine (HSO.out _ _ _ HI2.out).mono ?_
  rintro e w3 ⟨g2, c2, rfl, ho, hb⟩
  have hg2 : w2.heap.size ≤ g2 := (ho.lt g2 rfl).1
  have S3 : Hid (PS w w3 g2 (Mg.srtI ks) ((m : Int) + 1) 0 0 0 0) := ⟨bch HB2.out hb, R3.out.below hb, Q3.out.below hb, ints_of_own ho, by omega⟩
  clear ho hb R3 Q3 HI2 HSO HB2
  have S5 := Lib.hid ((S3.out.set1 1).set3 1)
  obtain ⟨q0, q1, q2, q3, q4, qf⟩ := S3.out.row.cells
  obtain ⟨b', o', e1, hs1⟩ := S3.out.srt.at (k := m) (by rw [HSL.out]; omega)
  injection e1 with e1
  injection e1 with e2 e3 _
  subst e2; subst e3
  obtain ⟨b', o', e1, hs0⟩ := S3.out.srt.at (k := 0) (by rw [HSL.out]; omega)
  injection e1 with e1
  injection e1 with e2 e3 _
  subst e2; subst e3
  have b1 : (0 : Int) ≤ (m : Int) := by omega
  have hgn : g2 ≠ w.heap.size + 1 := by omega
  have hgn2 : w.heap.size + 1 ≠ g2 := by omega
  go_wp2_with fail
  clear q0 q1 q2 q3 q4 qf hs1 hs0
  have S6 := Lib.hid (S5.out.next ((Below.refl _ _).drew))
  obtain ⟨q0, q1, q2, q3, q4, qf⟩ := S6.out.row.cells
  obtain ⟨b', o', e1, hs1⟩ := S6.out.srt.at (k := m) (by rw [HSL.out]; omega)
  injection e1 with e1
  injection e1 with e2 e3 _
  subst e2; subst e3
  obtain ⟨b', o', e1, hs0⟩ := S6.out.srt.at (k := 0) (by rw [HSL.out]; omega)
  injection e1 with e1
  injection e1 with e2 e3 _
  subst e2; subst e3
  obtain ⟨rg1, rg2⟩ := HRG.out m (by omega)
  obtain ⟨rg3, rg4⟩ := HRG.out 0 (by omega)
  obtain ⟨S1, hS1⟩ : ∃ x, (Mg.srtI ks).getD m 0 = x := ⟨_, rfl⟩
  obtain ⟨S0, hS0⟩ : ∃ x, (Mg.srtI ks).getD 0 0 = x := ⟨_, rfl⟩
  rw [hS1] at hs1 rg1 rg2
  rw [hS0] at hs0 rg3 rg4
  rw [Nat.zero_add] at hs1 hs0
  have HS1 := Lib.hid hS1; have HS0 := Lib.hid hS0
  clear hS1 hS0
  have S7 := Lib.hid (S6.out.set4 (S1 - S0 + 1))
  have hwm : IntKind.i64.wrap (m : Int) = (m : Int) := IntWalk.i64_in _ (by omega)
  have b2 : (m : Int) < (m : Int) + 1 := by omega
  have hw1 : IntKind.i64.wrap (S1 - S0) = S1 - S0 := IntWalk.i64_in _ (by omega)
  have hw2 : IntKind.i64.wrap (S1 - S0 + 1) = S1 - S0 + 1 := IntWalk.i64_in _ (by omega)
  go_region_law (fail)
  all_goals
    try simp only [Act.put]
    try simp
    go_wp2
    go_loopw [6] (fun v wr => ∃ j : Nat, v = .int .i64 ((j : Int) + 1) ∧ j ≤ m ∧ PS w wr g2 (Mg.srtI ks) ((m : Int) + 1) ((Mg.cntP (Mg.dsc ks) j : Nat) + 1) (Mg.inv (ks.take (j + 1)) : Nat) ((Mg.cntP (Mg.oth (Mg.srtI ks)) j : Nat) + 1) (S1 - S0 + 1)) (fun v _ => m + 1 - (intOf v).toNat)
    case atStart => exact ⟨0, rfl, by omega, by rw [HI1.out]; exact S7.out⟩
    case round =>
      obtain ⟨j, rfl, hj, hP⟩ := hrel
      have SX := Lib.hid hP; clear hP S7 S6 S5 S3 hs1 hs0 q0 q1 q2 q3 q4 qf
      obtain ⟨q0, q1, q2, q3, q4, qf⟩ := SX.out.row.cells
      by_cases hjm : j < m
      case neg =>
        obtain rfl : j = m := by omega
        obtain ⟨r0, r1, r2, r3, r4, rf⟩ := SX.out.res.cells
        have h4 : decide ((j : Int) + 1 < (j : Int) + 1) = false := by simp
        have DF := Lib.hid (below_five (C := w.heap.size) SX.out.bel (Nat.le_refl _) (.int .i64 ((j : Int) + 1)) (.int .i64 ((Mg.cntP (Mg.dsc ks) j : Nat) + 1)) (.int .i64 (Mg.inv (ks.take (j + 1)) : Nat)) (.int .i64 ((Mg.cntP (Mg.oth (Mg.srtI ks)) j : Nat) + 1)) (.int .i64 (S1 - S0 + 1)))
        go_wp2
        refine bodyPost_ret (v := .tuple #[.agg #[.int .i64 ((j : Int) + 1), .int .i64 ((Mg.cntP (Mg.dsc ks) j : Nat) + 1), .int .i64 (Mg.inv (ks.take (j + 1)) : Nat), .int .i64 ((Mg.cntP (Mg.oth (Mg.srtI ks)) j : Nat) + 1), .int .i64 (S1 - S0 + 1)], .bool true]) (by simp [results, Try.results28, go_sem, r0, r1, r2, r3, r4, q0, q1, q2, q3, q4]) rfl ⟨?_, ?_⟩
        · rw [HEN.out, HS1.out, HS0.out]; rfl
        · with_reducible exact DF.out
      obtain ⟨b, off, rfl, hk0⟩ := HRA.out _ SX.out.bel j (by omega)
      obtain ⟨b', o', e1, hk1⟩ := HRA.out _ SX.out.bel (j + 1) (by omega)
      injection e1 with e1
      injection e1 with e2 e3 _
      subst e2; subst e3
      have HD := Lib.hid (show Mg.dsc ks j = decide (ks.getD (j + 1) 0 < ks.getD j 0) from rfl)
      have HO := Lib.hid (show Mg.oth (Mg.srtI ks) j = decide ((Mg.srtI ks).getD (j + 1) 0 ≠ (Mg.srtI ks).getD j 0) from rfl)
      have HC1 := Lib.hid (show Mg.cntP (Mg.dsc ks) (j + 1) = Mg.cntP (Mg.dsc ks) j + if Mg.dsc ks j then 1 else 0 from rfl)
      have HC2 := Lib.hid (show Mg.cntP (Mg.oth (Mg.srtI ks)) (j + 1) = Mg.cntP (Mg.oth (Mg.srtI ks)) j + if Mg.oth (Mg.srtI ks) j then 1 else 0 from rfl)
      obtain ⟨p, hp⟩ : ∃ p, ks.getD j 0 = p := ⟨_, rfl⟩
      obtain ⟨q, hq⟩ : ∃ q, ks.getD (j + 1) 0 = q := ⟨_, rfl⟩
      rw [hp] at hk0 HD
      rw [hq] at hk1 HD
      have HQ := Lib.hid hq
      clear hp hq
      have HSC := Lib.hid (show ∀ W R V D, PS w W g2 (Mg.srtI ks) ((m : Int) + 1) R V D (S1 - S0 + 1) → W.cell? ⟨g2, j, none⟩ = some (.int .i64 ((Mg.srtI ks).getD j 0)) ∧ W.cell? ⟨g2, j + 1, none⟩ = some (.int .i64 ((Mg.srtI ks).getD (j + 1) 0)) from fun W R V D h => by
        obtain ⟨b1, o1, e1, h1⟩ := h.srt.at (k := j) (by rw [HSL.out]; omega)
        obtain ⟨b2, o2, e2, h2⟩ := h.srt.at (k := j + 1) (by rw [HSL.out]; omega)
        injection e1 with e1
        injection e1 with e3 e4 _
        injection e2 with e2
        injection e2 with e5 e6 _
        rw [← e3, ← e4, Nat.zero_add] at h1
        rw [← e5, ← e6, Nat.zero_add] at h2
        exact ⟨h1, h2⟩)
      generalize (Mg.srtI ks).getD j 0 = y at HSC HO
      generalize (Mg.srtI ks).getD (j + 1) 0 = z at HSC HO
      have hcd := Mg.cntP_le (Mg.dsc ks) j
      have hco := Mg.cntP_le (Mg.oth (Mg.srtI ks)) j
      obtain ⟨R0, hR0⟩ : ∃ R0 : Int, ((Mg.cntP (Mg.dsc ks) j : Nat) : Int) + 1 = R0 := ⟨_, rfl⟩
      obtain ⟨D0, hD0⟩ : ∃ D0 : Int, ((Mg.cntP (Mg.oth (Mg.srtI ks)) j : Nat) : Int) + 1 = D0 := ⟨_, rfl⟩
      rw [hR0, hD0] at SX
      rw [hR0] at q1
      rw [hD0] at q3
      have hRb : 0 ≤ R0 := by omega
      have hRb2 : R0 + 1 ≤ 9223372036854775807 := by omega
      have hDb : 0 ≤ D0 := by omega
      have hDb2 : D0 + 1 ≤ 9223372036854775807 := by omega
      have HR0 := Lib.hid hR0; have HD0 := Lib.hid hD0
      clear hR0 hD0 hcd hco
      have b3 : (0 : Int) ≤ (j : Int) := by omega
      have b4 : (j : Int) + 1 < (m : Int) + 1 := by omega
      have b5 : (j : Int) < (m : Int) + 1 := by omega
      have hw3 : IntKind.i64.wrap (j : Int) = (j : Int) := IntWalk.i64_in _ (by omega)
      have h5 : decide ((j : Int) + 1 < (m : Int) + 1) = true := by simp; omega
      by_cases hqp : q < p
      · have hz : decide (q < p) = true := by simpa using hqp
        by_cases hzy : z = y
        · have hy : decide (z ≠ y) = false := by simpa using hzy
          have hy2 : (z != y) = false := by simpa using hzy
          have HRR : Hid (((Mg.cntP (Mg.dsc ks) (j + 1) : Nat) : Int) + 1 = R0 + 1) := by show _ = _; rw [HC1.out, HD.out, hz, ← HR0.out]; simp
          have HDD : Hid (((Mg.cntP (Mg.oth (Mg.srtI ks)) (j + 1) : Nat) : Int) + 1 = D0) := by show _ = _; rw [HC2.out, HO.out, hy, ← HD0.out]; simp
          go_wp2_with fail
          go_quiet (fail)
          have S8 := Lib.hid ((SX.out.drewN nq).set1 (R0 + 1))
          clear q0 q1 q2 q3 q4 qf
          have hq8 := (SX.out.drewN nq).row.cells
          obtain ⟨q0, q1, q2, q3, q4, qf⟩ := hq8
          obtain ⟨c0, c1⟩ := HSC.out _ _ _ _ S8.out
          go_wp2_with fail
          clear q0 q1 q2 q3 q4 qf
          generalize (wr.drewN nq).setCell ⟨w.heap.size + 1, 1, none⟩ (.int .i64 (R0 + 1)) = wA at S8 c0 c1 ⊢
          go_quiet (fail)
          have S8' := Lib.hid (S8.out.drewN nq)
          obtain ⟨q0, q1, q2, q3, q4, qf⟩ := S8'.out.row.cells
          have S9 := Lib.hid S8'.out
          clear S8' c0 c1 S8 hk0 hk1
          go_wp2
          go_loopw [7] (fun v wq => ∃ k : Nat, v = .int .i64 k ∧ k ≤ j + 1 ∧ PS w wq g2 (Mg.srtI ks) ((m : Int) + 1) (R0 + 1) (((Mg.inv (ks.take (j + 1)) + ((ks.take (j + 1)).take k).countP (fun x => decide (q < x)) : Nat)) : Int) (D0) (S1 - S0 + 1)) (fun v _ => j + 1 - (intOf v).toNat)
          case atStart => exact ⟨0, rfl, by omega, S9.out⟩
          case round =>
            obtain ⟨k, rfl, hk, hP⟩ := hrel
            have SK := Lib.hid hP; clear hP S9 q0 q1 q2 q3 q4 qf
            obtain ⟨q0, q1, q2, q3, q4, qf⟩ := SK.out.row.cells
            by_cases hkj : k < j + 1
            case neg =>
              obtain rfl : k = j + 1 := by omega
              have SK2 := Lib.hid (show PS w wr g2 (Mg.srtI ks) ((m : Int) + 1) (R0 + 1) (Mg.inv (ks.take (j + 2)) : Nat) (D0) (S1 - S0 + 1) from by
                have h1 := HIV.out (j + 1) (by omega)
                rw [HQ.out] at h1
                have h2 := SK.out
                rw [List.take_of_length_le (l := ks.take (j + 1)) (by rw [List.length_take]; omega), ← h1] at h2
                exact h2)
              have hcast : ((j + 1 : Nat) : Int) = (j : Int) + 1 := by omega
              have h4 : decide ((j : Int) + 1 < (j : Int) + 1) = false := by simp
              rw [hcast]
              have hj2 : (j : Int) + 1 + 1 ≤ 9223372036854775807 := by omega
              go_wp2
              go_roundw
              case rel => exact ⟨j + 1, by go_num, by omega, by rw [HRR.out, HDD.out]; exact SK2.out⟩
              case measure => simp [intOf] <;> omega
            obtain ⟨b', o', e1, hck⟩ := HRA.out _ SK.out.bel k (by omega)
            injection e1 with e1
            injection e1 with e2 e3 _
            subst e2; subst e3
            obtain ⟨b', o', e1, hcq⟩ := HRA.out _ SK.out.bel (j + 1) (by omega)
            injection e1 with e1
            injection e1 with e2 e3 _
            subst e2; subst e3
            rw [HQ.out] at hcq
            have HN := Lib.hid (HCT.out (j + 1) k hkj (by omega) (fun x => decide (q < x)))
            have hil := HIL.out (j + 1)
            have hcl : ((ks.take (j + 1)).take k).countP (fun x => decide (q < x)) ≤ k := Nat.le_trans List.countP_le_length (by rw [List.length_take]; omega)
            have hll : (ks.take (j + 1)).length ≤ 64 := by rw [List.length_take]; omega
            have hsq : (ks.take (j + 1)).length * (ks.take (j + 1)).length ≤ 64 * 64 := Nat.mul_le_mul hll hll
            have hvb0 : ((Mg.inv (ks.take (j + 1)) + ((ks.take (j + 1)).take k).countP (fun x => decide (q < x)) : Nat) : Int) + 1 ≤ 9223372036854775807 := by omega
            obtain ⟨M0, hM0⟩ : ∃ M0 : Int, ((Mg.inv (ks.take (j + 1)) + ((ks.take (j + 1)).take k).countP (fun x => decide (q < x)) : Nat) : Int) = M0 := ⟨_, rfl⟩
            have hv0 : 0 ≤ M0 := by omega
            have HM := Lib.hid hM0
            have HNX := Lib.hid (show ((Mg.inv (ks.take (j + 1)) + ((ks.take (j + 1)).take (k + 1)).countP (fun x => decide (q < x)) : Nat) : Int) = M0 + if decide (q < ks.getD k 0) then 1 else 0 from by
              rw [HN.out, ← hM0]; split <;> omega)
            rw [hM0] at SK q2 hvb0
            clear hM0 hil hcl hll hsq HN
            generalize ks.getD k 0 = r at hck HNX
            have hkn : (k : Int) + 1 ≤ 9223372036854775807 := by omega
            have h4 : decide ((k : Int) < (j : Int) + 1) = true := by simp; omega
            have hkb : (k : Int) < (m : Int) + 1 := by omega
            have hjb : (j : Int) + 1 < (m : Int) + 1 := by omega
            by_cases hqr : q < r
            · have hz : decide (q < r) = true := by simpa using hqr
              have SY := Lib.hid (fun nq => (SK.out.drewN nq).set2 (M0 + 1))
              go_wp2_with fail
              go_quiet (fail)
              go_wp2
              go_roundw
              case rel => exact ⟨k + 1, by go_num, by omega, by rw [HNX.out, hz]; exact SY.out _⟩
              case measure => simp [intOf] <;> omega
            · have hz : decide (q < r) = false := by simpa using hqr
              go_wp2_with fail
              go_quiet (fail)
              go_wp2
              go_roundw
              case rel => exact ⟨k + 1, by go_num, by omega, by rw [HNX.out, hz]; exact (by simpa using SK.out.drewN _)⟩
              case measure => simp [intOf] <;> omega
        · have hy : decide (z ≠ y) = true := by simpa using hzy
          have hy2 : (z != y) = true := by simpa using hzy
          have HRR : Hid (((Mg.cntP (Mg.dsc ks) (j + 1) : Nat) : Int) + 1 = R0 + 1) := by show _ = _; rw [HC1.out, HD.out, hz, ← HR0.out]; simp
          have HDD : Hid (((Mg.cntP (Mg.oth (Mg.srtI ks)) (j + 1) : Nat) : Int) + 1 = D0 + 1) := by show _ = _; rw [HC2.out, HO.out, hy, ← HD0.out]; simp
          go_wp2_with fail
          go_quiet (fail)
          have S8 := Lib.hid ((SX.out.drewN nq).set1 (R0 + 1))
          clear q0 q1 q2 q3 q4 qf
          have hq8 := (SX.out.drewN nq).row.cells
          obtain ⟨q0, q1, q2, q3, q4, qf⟩ := hq8
          obtain ⟨c0, c1⟩ := HSC.out _ _ _ _ S8.out
          go_wp2_with fail
          clear q0 q1 q2 q3 q4 qf
          generalize (wr.drewN nq).setCell ⟨w.heap.size + 1, 1, none⟩ (.int .i64 (R0 + 1)) = wA at S8 c0 c1 ⊢
          go_quiet (fail)
          have S8' := Lib.hid (S8.out.drewN nq)
          obtain ⟨q0, q1, q2, q3, q4, qf⟩ := S8'.out.row.cells
          have S9 := Lib.hid (S8'.out.set3 (D0 + 1))
          clear S8' c0 c1 S8 hk0 hk1
          go_wp2
          go_loopw [7] (fun v wq => ∃ k : Nat, v = .int .i64 k ∧ k ≤ j + 1 ∧ PS w wq g2 (Mg.srtI ks) ((m : Int) + 1) (R0 + 1) (((Mg.inv (ks.take (j + 1)) + ((ks.take (j + 1)).take k).countP (fun x => decide (q < x)) : Nat)) : Int) (D0 + 1) (S1 - S0 + 1)) (fun v _ => j + 1 - (intOf v).toNat)
          case atStart => exact ⟨0, rfl, by omega, S9.out⟩
          case round =>
            obtain ⟨k, rfl, hk, hP⟩ := hrel
            have SK := Lib.hid hP; clear hP S9 q0 q1 q2 q3 q4 qf
            obtain ⟨q0, q1, q2, q3, q4, qf⟩ := SK.out.row.cells
            by_cases hkj : k < j + 1
            case neg =>
              obtain rfl : k = j + 1 := by omega
              have SK2 := Lib.hid (show PS w wr g2 (Mg.srtI ks) ((m : Int) + 1) (R0 + 1) (Mg.inv (ks.take (j + 2)) : Nat) (D0 + 1) (S1 - S0 + 1) from by
                have h1 := HIV.out (j + 1) (by omega)
                rw [HQ.out] at h1
                have h2 := SK.out
                rw [List.take_of_length_le (l := ks.take (j + 1)) (by rw [List.length_take]; omega), ← h1] at h2
                exact h2)
              have hcast : ((j + 1 : Nat) : Int) = (j : Int) + 1 := by omega
              have h4 : decide ((j : Int) + 1 < (j : Int) + 1) = false := by simp
              rw [hcast]
              have hj2 : (j : Int) + 1 + 1 ≤ 9223372036854775807 := by omega
              go_wp2
              go_roundw
              case rel => exact ⟨j + 1, by go_num, by omega, by rw [HRR.out, HDD.out]; exact SK2.out⟩
              case measure => simp [intOf] <;> omega
            obtain ⟨b', o', e1, hck⟩ := HRA.out _ SK.out.bel k (by omega)
            injection e1 with e1
            injection e1 with e2 e3 _
            subst e2; subst e3
            obtain ⟨b', o', e1, hcq⟩ := HRA.out _ SK.out.bel (j + 1) (by omega)
            injection e1 with e1
            injection e1 with e2 e3 _
            subst e2; subst e3
            rw [HQ.out] at hcq
            have HN := Lib.hid (HCT.out (j + 1) k hkj (by omega) (fun x => decide (q < x)))
            have hil := HIL.out (j + 1)
            have hcl : ((ks.take (j + 1)).take k).countP (fun x => decide (q < x)) ≤ k := Nat.le_trans List.countP_le_length (by rw [List.length_take]; omega)
            have hll : (ks.take (j + 1)).length ≤ 64 := by rw [List.length_take]; omega
            have hsq : (ks.take (j + 1)).length * (ks.take (j + 1)).length ≤ 64 * 64 := Nat.mul_le_mul hll hll
            have hvb0 : ((Mg.inv (ks.take (j + 1)) + ((ks.take (j + 1)).take k).countP (fun x => decide (q < x)) : Nat) : Int) + 1 ≤ 9223372036854775807 := by omega
            obtain ⟨M0, hM0⟩ : ∃ M0 : Int, ((Mg.inv (ks.take (j + 1)) + ((ks.take (j + 1)).take k).countP (fun x => decide (q < x)) : Nat) : Int) = M0 := ⟨_, rfl⟩
            have hv0 : 0 ≤ M0 := by omega
            have HM := Lib.hid hM0
            have HNX := Lib.hid (show ((Mg.inv (ks.take (j + 1)) + ((ks.take (j + 1)).take (k + 1)).countP (fun x => decide (q < x)) : Nat) : Int) = M0 + if decide (q < ks.getD k 0) then 1 else 0 from by
              rw [HN.out, ← hM0]; split <;> omega)
            rw [hM0] at SK q2 hvb0
            clear hM0 hil hcl hll hsq HN
            generalize ks.getD k 0 = r at hck HNX
            have hkn : (k : Int) + 1 ≤ 9223372036854775807 := by omega
            have h4 : decide ((k : Int) < (j : Int) + 1) = true := by simp; omega
            have hkb : (k : Int) < (m : Int) + 1 := by omega
            have hjb : (j : Int) + 1 < (m : Int) + 1 := by omega
            by_cases hqr : q < r
            · have hz : decide (q < r) = true := by simpa using hqr
              have SY := Lib.hid (fun nq => (SK.out.drewN nq).set2 (M0 + 1))
              go_wp2_with fail
              go_quiet (fail)
              go_wp2
              go_roundw
              case rel => exact ⟨k + 1, by go_num, by omega, by rw [HNX.out, hz]; exact SY.out _⟩
              case measure => simp [intOf] <;> omega
            · have hz : decide (q < r) = false := by simpa using hqr
              go_wp2_with fail
              go_quiet (fail)
              go_wp2
              go_roundw
              case rel => exact ⟨k + 1, by go_num, by omega, by rw [HNX.out, hz]; exact (by simpa using SK.out.drewN _)⟩
              case measure => simp [intOf] <;> omega
      · have hz : decide (q < p) = false := by simpa using hqp
        by_cases hzy : z = y
        · have hy : decide (z ≠ y) = false := by simpa using hzy
          have hy2 : (z != y) = false := by simpa using hzy
          have HRR : Hid (((Mg.cntP (Mg.dsc ks) (j + 1) : Nat) : Int) + 1 = R0) := by show _ = _; rw [HC1.out, HD.out, hz, ← HR0.out]; simp
          have HDD : Hid (((Mg.cntP (Mg.oth (Mg.srtI ks)) (j + 1) : Nat) : Int) + 1 = D0) := by show _ = _; rw [HC2.out, HO.out, hy, ← HD0.out]; simp
          go_wp2_with fail
          go_quiet (fail)
          have S8 := Lib.hid (SX.out.drewN nq)
          clear q0 q1 q2 q3 q4 qf
          have hq8 := (SX.out.drewN nq).row.cells
          obtain ⟨q0, q1, q2, q3, q4, qf⟩ := hq8
          obtain ⟨c0, c1⟩ := HSC.out _ _ _ _ S8.out
          go_wp2_with fail
          clear q0 q1 q2 q3 q4 qf
          generalize wr.drewN nq = wA at S8 c0 c1 ⊢
          go_quiet (fail)
          have S8' := Lib.hid (S8.out.drewN nq)
          obtain ⟨q0, q1, q2, q3, q4, qf⟩ := S8'.out.row.cells
          have S9 := Lib.hid S8'.out
          clear S8' c0 c1 S8 hk0 hk1
          go_wp2
          go_loopw [7] (fun v wq => ∃ k : Nat, v = .int .i64 k ∧ k ≤ j + 1 ∧ PS w wq g2 (Mg.srtI ks) ((m : Int) + 1) (R0) (((Mg.inv (ks.take (j + 1)) + ((ks.take (j + 1)).take k).countP (fun x => decide (q < x)) : Nat)) : Int) (D0) (S1 - S0 + 1)) (fun v _ => j + 1 - (intOf v).toNat)
          case atStart => exact ⟨0, rfl, by omega, S9.out⟩
          case round =>
            obtain ⟨k, rfl, hk, hP⟩ := hrel
            have SK := Lib.hid hP; clear hP S9 q0 q1 q2 q3 q4 qf
            obtain ⟨q0, q1, q2, q3, q4, qf⟩ := SK.out.row.cells
            by_cases hkj : k < j + 1
            case neg =>
              obtain rfl : k = j + 1 := by omega
              have SK2 := Lib.hid (show PS w wr g2 (Mg.srtI ks) ((m : Int) + 1) (R0) (Mg.inv (ks.take (j + 2)) : Nat) (D0) (S1 - S0 + 1) from by
                have h1 := HIV.out (j + 1) (by omega)
                rw [HQ.out] at h1
                have h2 := SK.out
                rw [List.take_of_length_le (l := ks.take (j + 1)) (by rw [List.length_take]; omega), ← h1] at h2
                exact h2)
              have hcast : ((j + 1 : Nat) : Int) = (j : Int) + 1 := by omega
              have h4 : decide ((j : Int) + 1 < (j : Int) + 1) = false := by simp
              rw [hcast]
              have hj2 : (j : Int) + 1 + 1 ≤ 9223372036854775807 := by omega
              go_wp2
              go_roundw
              case rel => exact ⟨j + 1, by go_num, by omega, by rw [HRR.out, HDD.out]; exact SK2.out⟩
              case measure => simp [intOf] <;> omega
            obtain ⟨b', o', e1, hck⟩ := HRA.out _ SK.out.bel k (by omega)
            injection e1 with e1
            injection e1 with e2 e3 _
            subst e2; subst e3
            obtain ⟨b', o', e1, hcq⟩ := HRA.out _ SK.out.bel (j + 1) (by omega)
            injection e1 with e1
            injection e1 with e2 e3 _
            subst e2; subst e3
            rw [HQ.out] at hcq
            have HN := Lib.hid (HCT.out (j + 1) k hkj (by omega) (fun x => decide (q < x)))
            have hil := HIL.out (j + 1)
            have hcl : ((ks.take (j + 1)).take k).countP (fun x => decide (q < x)) ≤ k := Nat.le_trans List.countP_le_length (by rw [List.length_take]; omega)
            have hll : (ks.take (j + 1)).length ≤ 64 := by rw [List.length_take]; omega
            have hsq : (ks.take (j + 1)).length * (ks.take (j + 1)).length ≤ 64 * 64 := Nat.mul_le_mul hll hll
            have hvb0 : ((Mg.inv (ks.take (j + 1)) + ((ks.take (j + 1)).take k).countP (fun x => decide (q < x)) : Nat) : Int) + 1 ≤ 9223372036854775807 := by omega
            obtain ⟨M0, hM0⟩ : ∃ M0 : Int, ((Mg.inv (ks.take (j + 1)) + ((ks.take (j + 1)).take k).countP (fun x => decide (q < x)) : Nat) : Int) = M0 := ⟨_, rfl⟩
            have hv0 : 0 ≤ M0 := by omega
            have HM := Lib.hid hM0
            have HNX := Lib.hid (show ((Mg.inv (ks.take (j + 1)) + ((ks.take (j + 1)).take (k + 1)).countP (fun x => decide (q < x)) : Nat) : Int) = M0 + if decide (q < ks.getD k 0) then 1 else 0 from by
              rw [HN.out, ← hM0]; split <;> omega)
            rw [hM0] at SK q2 hvb0
            clear hM0 hil hcl hll hsq HN
            generalize ks.getD k 0 = r at hck HNX
            have hkn : (k : Int) + 1 ≤ 9223372036854775807 := by omega
            have h4 : decide ((k : Int) < (j : Int) + 1) = true := by simp; omega
            have hkb : (k : Int) < (m : Int) + 1 := by omega
            have hjb : (j : Int) + 1 < (m : Int) + 1 := by omega
            by_cases hqr : q < r
            · have hz : decide (q < r) = true := by simpa using hqr
              have SY := Lib.hid (fun nq => (SK.out.drewN nq).set2 (M0 + 1))
              go_wp2_with fail
              go_quiet (fail)
              go_wp2
              go_roundw
              case rel => exact ⟨k + 1, by go_num, by omega, by rw [HNX.out, hz]; exact SY.out _⟩
              case measure => simp [intOf] <;> omega
            · have hz : decide (q < r) = false := by simpa using hqr
              go_wp2_with fail
              go_quiet (fail)
              go_wp2
              go_roundw
              case rel => exact ⟨k + 1, by go_num, by omega, by rw [HNX.out, hz]; exact (by simpa using SK.out.drewN _)⟩
              case measure => simp [intOf] <;> omega
        · have hy : decide (z ≠ y) = true := by simpa using hzy
          have hy2 : (z != y) = true := by simpa using hzy
          have HRR : Hid (((Mg.cntP (Mg.dsc ks) (j + 1) : Nat) : Int) + 1 = R0) := by show _ = _; rw [HC1.out, HD.out, hz, ← HR0.out]; simp
          have HDD : Hid (((Mg.cntP (Mg.oth (Mg.srtI ks)) (j + 1) : Nat) : Int) + 1 = D0 + 1) := by show _ = _; rw [HC2.out, HO.out, hy, ← HD0.out]; simp
          go_wp2_with fail
          go_quiet (fail)
          have S8 := Lib.hid (SX.out.drewN nq)
          clear q0 q1 q2 q3 q4 qf
          have hq8 := (SX.out.drewN nq).row.cells
          obtain ⟨q0, q1, q2, q3, q4, qf⟩ := hq8
          obtain ⟨c0, c1⟩ := HSC.out _ _ _ _ S8.out
          go_wp2_with fail
          clear q0 q1 q2 q3 q4 qf
          generalize wr.drewN nq = wA at S8 c0 c1 ⊢
          go_quiet (fail)
          have S8' := Lib.hid (S8.out.drewN nq)
          obtain ⟨q0, q1, q2, q3, q4, qf⟩ := S8'.out.row.cells
          have S9 := Lib.hid (S8'.out.set3 (D0 + 1))
          clear S8' c0 c1 S8 hk0 hk1
          go_wp2
          go_loopw [7] (fun v wq => ∃ k : Nat, v = .int .i64 k ∧ k ≤ j + 1 ∧ PS w wq g2 (Mg.srtI ks) ((m : Int) + 1) (R0) (((Mg.inv (ks.take (j + 1)) + ((ks.take (j + 1)).take k).countP (fun x => decide (q < x)) : Nat)) : Int) (D0 + 1) (S1 - S0 + 1)) (fun v _ => j + 1 - (intOf v).toNat)
          case atStart => exact ⟨0, rfl, by omega, S9.out⟩
          case round =>
            obtain ⟨k, rfl, hk, hP⟩ := hrel
            have SK := Lib.hid hP; clear hP S9 q0 q1 q2 q3 q4 qf
            obtain ⟨q0, q1, q2, q3, q4, qf⟩ := SK.out.row.cells
            by_cases hkj : k < j + 1
            case neg =>
              obtain rfl : k = j + 1 := by omega
              have SK2 := Lib.hid (show PS w wr g2 (Mg.srtI ks) ((m : Int) + 1) (R0) (Mg.inv (ks.take (j + 2)) : Nat) (D0 + 1) (S1 - S0 + 1) from by
                have h1 := HIV.out (j + 1) (by omega)
                rw [HQ.out] at h1
                have h2 := SK.out
                rw [List.take_of_length_le (l := ks.take (j + 1)) (by rw [List.length_take]; omega), ← h1] at h2
                exact h2)
              have hcast : ((j + 1 : Nat) : Int) = (j : Int) + 1 := by omega
              have h4 : decide ((j : Int) + 1 < (j : Int) + 1) = false := by simp
              rw [hcast]
              have hj2 : (j : Int) + 1 + 1 ≤ 9223372036854775807 := by omega
              go_wp2
              go_roundw
              case rel => exact ⟨j + 1, by go_num, by omega, by rw [HRR.out, HDD.out]; exact SK2.out⟩
              case measure => simp [intOf] <;> omega
            obtain ⟨b', o', e1, hck⟩ := HRA.out _ SK.out.bel k (by omega)
            injection e1 with e1
            injection e1 with e2 e3 _
            subst e2; subst e3
            obtain ⟨b', o', e1, hcq⟩ := HRA.out _ SK.out.bel (j + 1) (by omega)
            injection e1 with e1
            injection e1 with e2 e3 _
            subst e2; subst e3
            rw [HQ.out] at hcq
            have HN := Lib.hid (HCT.out (j + 1) k hkj (by omega) (fun x => decide (q < x)))
            have hil := HIL.out (j + 1)
            have hcl : ((ks.take (j + 1)).take k).countP (fun x => decide (q < x)) ≤ k := Nat.le_trans List.countP_le_length (by rw [List.length_take]; omega)
            have hll : (ks.take (j + 1)).length ≤ 64 := by rw [List.length_take]; omega
            have hsq : (ks.take (j + 1)).length * (ks.take (j + 1)).length ≤ 64 * 64 := Nat.mul_le_mul hll hll
            have hvb0 : ((Mg.inv (ks.take (j + 1)) + ((ks.take (j + 1)).take k).countP (fun x => decide (q < x)) : Nat) : Int) + 1 ≤ 9223372036854775807 := by omega
            obtain ⟨M0, hM0⟩ : ∃ M0 : Int, ((Mg.inv (ks.take (j + 1)) + ((ks.take (j + 1)).take k).countP (fun x => decide (q < x)) : Nat) : Int) = M0 := ⟨_, rfl⟩
            have hv0 : 0 ≤ M0 := by omega
            have HM := Lib.hid hM0
            have HNX := Lib.hid (show ((Mg.inv (ks.take (j + 1)) + ((ks.take (j + 1)).take (k + 1)).countP (fun x => decide (q < x)) : Nat) : Int) = M0 + if decide (q < ks.getD k 0) then 1 else 0 from by
              rw [HN.out, ← hM0]; split <;> omega)
            rw [hM0] at SK q2 hvb0
            clear hM0 hil hcl hll hsq HN
            generalize ks.getD k 0 = r at hck HNX
            have hkn : (k : Int) + 1 ≤ 9223372036854775807 := by omega
            have h4 : decide ((k : Int) < (j : Int) + 1) = true := by simp; omega
            have hkb : (k : Int) < (m : Int) + 1 := by omega
            have hjb : (j : Int) + 1 < (m : Int) + 1 := by omega
            by_cases hqr : q < r
            · have hz : decide (q < r) = true := by simpa using hqr
              have SY := Lib.hid (fun nq => (SK.out.drewN nq).set2 (M0 + 1))
              go_wp2_with fail
              go_quiet (fail)
              go_wp2
              go_roundw
              case rel => exact ⟨k + 1, by go_num, by omega, by rw [HNX.out, hz]; exact SY.out _⟩
              case measure => simp [intOf] <;> omega
            · have hz : decide (q < r) = false := by simpa using hqr
              go_wp2_with fail
              go_quiet (fail)
              go_wp2
              go_roundw
              case rel => exact ⟨k + 1, by go_num, by omega, by rw [HNX.out, hz]; exact (by simpa using SK.out.drewN _)⟩
              case measure => simp [intOf] <;> omega

end Go.Proofs.Ytoaklfpepleelaa
