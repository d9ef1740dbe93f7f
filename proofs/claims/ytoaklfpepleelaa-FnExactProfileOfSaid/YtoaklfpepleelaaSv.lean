/- Walks: ProfileOf: the reference on the empty list; the law. -/
import Derived.Test.YtoaklfpepleelaaSu
namespace Go.Proofs.Ytoaklfpepleelaa
open Go.RowKit Go.Sort
set_option linter.unusedVariables false

set_option maxRecDepth 100000 in
set_option maxHeartbeats 4000000 in
theorem specProfileOf_none (a : Option Addr) (cap : Nat) (w : World) (h : RecsAt w a []) :
    Calls Try.prog 28 #[.slice a 0 cap] w fun e w' => e = .returned (.tuple #[prZ, .bool true]) ∧ Below w.heap.size w w' := by
  have B1 := Lib.hid (show Below w.heap.size w (w.alloc (.cells #[.int .i64 0, .int .i64 0, .int .i64 0, .int .i64 0, .int .i64 0] 49)) from (Below.refl _ _).alloc (Nat.le_refl _) _)
  have B2 : Hid (Below w.heap.size w ((w.alloc (.cells #[.int .i64 0, .int .i64 0, .int .i64 0, .int .i64 0, .int .i64 0] 49)).alloc (.cells #[.int .i64 0, .int .i64 0, .int .i64 0, .int .i64 0, .int .i64 0] 49))) := B1.out.alloc (by simp) _
  have R2 := Lib.hid (show Prow ((w.alloc (.cells #[.int .i64 0, .int .i64 0, .int .i64 0, .int .i64 0, .int .i64 0] 49)).alloc (.cells #[.int .i64 0, .int .i64 0, .int .i64 0, .int .i64 0, .int .i64 0] 49)) w.heap.size 0 0 0 0 0 from block_row (block_new w _) (World.grownBy_alloc (w.alloc (.cells #[.int .i64 0, .int .i64 0, .int .i64 0, .int .i64 0, .int .i64 0] 49)) _ (row := none)) (by simp))
  have Q2 := show Prow ((w.alloc (.cells #[.int .i64 0, .int .i64 0, .int .i64 0, .int .i64 0, .int .i64 0] 49)).alloc (.cells #[.int .i64 0, .int .i64 0, .int .i64 0, .int .i64 0, .int .i64 0] 49)) (w.alloc (.cells #[.int .i64 0, .int .i64 0, .int .i64 0, .int .i64 0, .int .i64 0] 49)).heap.size 0 0 0 0 0 from block_new (w.alloc (.cells #[.int .i64 0, .int .i64 0, .int .i64 0, .int .i64 0, .int .i64 0] 49)) _
  rw [size_al] at Q2
  have HV := Lib.hid (l2Records_any a cap [] (w.alloc (.cells #[.int .i64 0, .int .i64 0, .int .i64 0, .int .i64 0, .int .i64 0] 49)) (by simp) (.inl rfl))
  obtain ⟨q0, q1, q2, q3, q4, qf⟩ := Q2.cells
  obtain ⟨r0, r1, r2, r3, r4, rf⟩ := R2.out.cells
  have hok : okRecs [] = true := rfl
  rw [hok] at HV
  have DF := Lib.hid (below_five (C := w.heap.size) B2.out (Nat.le_refl _) (.int .i64 0) (.int .i64 0) (.int .i64 0) (.int .i64 0) (.int .i64 0))
  unfold prZ
  clear h hok R2 Q2
  go_enter Try.func28, Try.ntmps28
  go_wp2_with fail
  refine HV.out.mono ?_
  rintro e w1 ⟨rfl, rfl⟩
  go_wp2
  refine bodyPost_ret (v := .tuple #[.agg #[.int .i64 0, .int .i64 0, .int .i64 0, .int .i64 0, .int .i64 0], .bool true]) (by simp [results, Try.results28, go_sem, r0, r1, r2, r3, r4]) rfl ⟨rfl, ?_⟩
  first | with_reducible exact DF.out | with_reducible exact B2.out

theorem implProfileOf_any (a : Option Addr) (cap : Nat) (rs : List (Int × Int)) (w : World) (hbig : rs.length ≤ 9223372036854775807) (h : RecsAt w a rs) :
    Calls Try.prog 30 #[.slice a rs.length cap] w fun e w' => e = .returned (.tuple #[prV rs, .bool (okRecs rs)]) ∧ Below w.heap.size w w' := by
  by_cases hh : okRecs rs = true ∧ 0 < rs.length
  · obtain ⟨m, hm⟩ : ∃ m, rs.length = m + 1 := ⟨rs.length - 1, by omega⟩
    have := implProfileOf_big a cap rs m w h hh.1 hm
    rw [hm]; exact this
  · exact implProfileOf_small a cap rs w hbig h hh
theorem specProfileOf_any (a : Option Addr) (cap : Nat) (rs : List (Int × Int)) (w : World) (hbig : rs.length ≤ 9223372036854775807) (h : RecsAt w a rs) :
    Calls Try.prog 28 #[.slice a rs.length cap] w fun e w' => e = .returned (.tuple #[prV rs, .bool (okRecs rs)]) ∧ Below w.heap.size w w' := by
  cases hok : okRecs rs
  · have := specProfileOf_bad a cap rs w hbig h hok
    rw [hok] at this
    exact this
  · cases rs with
    | nil =>
      have e : prV [] = prZ := if_neg (by simp)
      rw [e]
      exact specProfileOf_none a cap w h
    | cons r t =>
      have := specProfileOf_big a cap (r :: t) t.length w h hok rfl
      rw [hok] at this
      exact this

theorem prV_agg (rs : List (Int × Int)) : ∃ x0 x1 x2 x3 x4 : Int, prV rs = .agg #[.int .i64 x0, .int .i64 x1, .int .i64 x2, .int .i64 x3, .int .i64 x4] := by
  unfold prV
  split
  · exact ⟨_, _, _, _, _, rfl⟩
  · exact ⟨0, 0, 0, 0, 0, rfl⟩

set_option maxRecDepth 100000 in
set_option maxHeartbeats 4000000 in
theorem lawProfileOf_any (af : Option Addr) (cf : Nat) (rs : List (Int × Int)) (w : World) (bf : rs.length ≤ 9223372036854775807) (hf : RecsAt w af rs) :
    Calls Try.prog 8 #[.slice af rs.length cf] w fun e w' => e = .returned (.bool true) ∧ Below w.heap.size w w' := by
  by_cases lf : rs.length ≤ 1048576
  case' neg =>
    have HSZ := Lib.hid (szRecordS_no af cf rs 1048576 w (by omega) (by omega) (by omega) (by omega))
    clear hf
    go_enter Try.func8, Try.ntmps8
    go_wp2_with fail
    refine HSZ.out.mono ?_
    rintro e w' ⟨rfl, rfl⟩
    go_wp2
    go_ret
    exact ⟨rfl, Below.refl _ _⟩
  have Hf := Lib.hid hf; clear hf
  have HSZ := Lib.hid (szRecordS_yes af cf rs 1048576 w (by omega) (by omega) (by omega))
  have HI := Lib.hid (fun (W : World) a c h => implProfileOf_any a c rs W bf h)
  have HS := Lib.hid (fun (W : World) a c h => specProfileOf_any a c rs W bf h)
  obtain ⟨x0, x1, x2, x3, x4, hx⟩ := prV_agg rs
  rw [hx] at HI HS
  clear hx
  generalize okRecs rs = ok at HI HS
  go_enter Try.func8, Try.ntmps8
  go_wp2_with fail
  refine HSZ.out.mono ?_
  rintro e w' ⟨rfl, rfl⟩
  go_wp2_with fail
  refine (toRecordS_any _ _ rs _ lf Hf.out).mono ?_
  rintro e w1 ⟨rfl, ho, hb⟩
  have S1 := Lib.hid (ownRecs ho); have H1 := Lib.hid (Hf.out.below (Nat.le_refl _) hb); have HB1 := Lib.hid hb; clear ho hb Hf HSZ
  go_wp2_with fail
  refine (HS.out _ _ _ S1.out).mono ?_
  rintro e w2 ⟨rfl, hb⟩
  have H2 := Lib.hid (H1.out.below (Nat.le_refl _) hb); have HB2 := Lib.hid (bch HB1.out hb); clear hb H1 S1
  have R2 := block_new w2 (.cells #[.int .i64 x0, .int .i64 x1, .int .i64 x2, .int .i64 x3, .int .i64 x4] 49)
  have K2 := Lib.hid R2
  have A2 : Hid (Below w2.heap.size w2 (w2.alloc (.cells #[.int .i64 x0, .int .i64 x1, .int .i64 x2, .int .i64 x3, .int .i64 x4] 49))) := (Below.refl _ _).alloc (Nat.le_refl _) _
  have H2' := Lib.hid (H2.out.below (Nat.le_refl _) A2.out)
  have HB2' := Lib.hid (bch HB2.out A2.out)
  clear R2
  go_wp2_with fail
  refine (toRecordS_any _ _ rs _ lf H2'.out).mono ?_
  rintro e w3 ⟨rfl, ho, hb⟩
  rw [size_al] at ho
  have K3 := Lib.hid (block_below K2.out hb (by simp))
  have S3 := Lib.hid (ownRecs ho); have H3 := Lib.hid (H2'.out.below (Nat.le_refl _) hb); have HB3 := Lib.hid (bch HB2'.out hb); clear ho hb H2 H2' K2
  have hs3 : w2.heap.size < w3.heap.size := (Array.getElem?_eq_some_iff.1 K3.out).1
  go_wp2_with fail
  refine (HI.out _ _ _ S3.out).mono ?_
  rintro e w4 ⟨rfl, hb⟩
  have K4 := Lib.hid (block_below K3.out hb hs3)
  have S4 := Lib.hid (S3.out.below (Nat.le_refl _) hb); have H4 := Lib.hid (H3.out.below (Nat.le_refl _) hb); have HB4 := Lib.hid (bch HB3.out hb); clear hb H3 S3 K3
  have hs4 : w2.heap.size < w4.heap.size := (Array.getElem?_eq_some_iff.1 K4.out).1
  have A4 : Hid (Below w4.heap.size w4 (w4.alloc (.cells #[.int .i64 x0, .int .i64 x1, .int .i64 x2, .int .i64 x3, .int .i64 x4] 49))) := (Below.refl _ _).alloc (Nat.le_refl _) _
  have K4' := block_below K4.out A4.out hs4
  have k0 := row_cell K4' 0
  have k1 := row_cell K4' 1
  have k2 := row_cell K4' 2
  have k3 := row_cell K4' 3
  have k4 := row_cell K4' 4
  simp at k0 k1 k2 k3 k4
  have S4' := Lib.hid (S4.out.below (Nat.le_refl _) A4.out); have H4' := Lib.hid (H4.out.below (Nat.le_refl _) A4.out); have HB4' := Lib.hid (bch HB4.out A4.out)
  have hne4 : ¬ w4.heap.size = w2.heap.size := by omega
  have hne5 : ¬ w2.heap.size = w4.heap.size := by omega
  have EQ := Lib.hid (fun W => eqProfile_same x0 x1 x2 x3 x4 W)
  clear K4' H4 S4
  go_wp2_with fail
  refine (EQ.out _).mono ?_
  rintro e w5 ⟨rfl, hb⟩
  have S5 := Lib.hid (S4'.out.below (Nat.le_refl _) hb); have H5 := Lib.hid (H4'.out.below (Nat.le_refl _) hb); have HB5 := Lib.hid (bch HB4'.out hb); clear hb H4' S4' k0 k1 k2 k3 k4
  go_wp2_with fail
  refine (toRecordS_any _ _ rs _ lf H5.out).mono ?_
  rintro e w6 ⟨rfl, ho, hb⟩
  have S6 := Lib.hid (ownRecs ho); have X6 := Lib.hid (S5.out.below (Nat.le_refl _) hb); have HB6 := Lib.hid (bch HB5.out hb); clear ho hb H5 S5
  go_wp2_with fail
  refine (eqRecordS_any _ _ _ _ rs rs _ bf bf X6.out S6.out).mono ?_
  rintro e w7 ⟨rfl, hb⟩
  have HB7 := Lib.hid (bch HB6.out hb); clear hb
  have hdd : decide (rs = rs) = true := decide_eq_true rfl
  go_wp2
  go_ret
  exact ⟨rfl, HB7.out⟩

end Go.Proofs.Ytoaklfpepleelaa
