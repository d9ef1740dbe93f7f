/- Walks: CrashLog by both. -/
import Derived.Test.YtfdhicojnbicgaaDoorTx
import Derived.Test.YtfdhicojnbicgaaDoorKf
import Derived.Test.YtfdhicojnbicgaaDoorMa
import Derived.StillTailTactics
namespace Go.Proofs.YtfdhicojnbicgaaDoor
open Go.RowKit
set_option linter.unusedVariables false

/-- What is left of a log. -/
def crashL (d p : List UInt8) (k : Nat) (torn : Bool) : List UInt8 := if torn && decide (0 < k) then d ++ flipL (p.take k) else d ++ p.take k

set_option maxRecDepth 100000 in
set_option maxHeartbeats 4000000 in
theorem crash_no (d p : ByteArray) (n k : Int) (t : Bool) (w : World) (hd : d.size ≤ 1048576) (hp : p.size ≤ 1048576) (ht : Tab w) (h : (Tx.okLog (logOf d p n) && inB k 0 p.size) = false) :
    Calls Tryd.prog 26 #[logV d p n, .int .i64 k, .bool t] w fun e w' => e = .returned (.tuple #[.string ⟨#[]⟩, .bool false]) ∧ Below w.heap.size w w' := by
  have HT := Lib.hid ht; clear ht
  have HR := Lib.hid (fun w ht => isValidLog_any d p n w hd hp ht)
  have HIN := Lib.hid (fun w => in_any k 0 (p.size : Int) w)
  have HA := Lib.hid (L3.mk' w (.string d) (.string p) (.int .i64 n) 31)
  have HB0 := Lib.hid (below_new w (.cells #[.string d, .string p, .int .i64 n] 31))
  unfold logV at *
  cases h0 : Tx.okLog (logOf d p n)
  case' true =>
    rw [h0, Bool.true_and] at h
    rw [h] at HIN
  all_goals
    rw [h0] at HR
    clear h h0
    go_enter Tryd.func26, Tryd.ntmps26
    go_wp2_with fail
    refine (HR.out _ (HT.out.below HB0.out)).mono ?_
    rintro e w1 ⟨rfl, hb1⟩
    obtain ⟨g0, g1, g2, _⟩ := HA.out.next hb1
    have HB1 := Lib.hid (HB0.out.trans (hb1.mono HB0.out.size)); clear hb1
    go_wp2_with (go_at_call 51; refine (HIN.out _).mono ?_; rintro e w' ⟨rfl, rfl⟩)
    go_ret2
    exact ⟨rfl, HB1.out⟩

set_option maxRecDepth 100000 in
set_option maxHeartbeats 4000000 in
theorem sCrash_no (d p : ByteArray) (n k : Int) (t : Bool) (w : World) (hd : d.size ≤ 1048576) (hp : p.size ≤ 1048576) (h : (Tx.okLog (logOf d p n) && inB k 0 p.size) = false) :
    Calls Tryd.prog 25 #[logV d p n, .int .i64 k, .bool t] w fun e w' => e = .returned (.tuple #[.string ⟨#[]⟩, .bool false]) ∧ Below w.heap.size w w' := by
  have HR := Lib.hid (fun w => l25Log_any d p n w hd hp)
  have HIN := Lib.hid (fun w => l1In_any k 0 (p.size : Int) w)
  have HA := Lib.hid (L3.mk' w (.string d) (.string p) (.int .i64 n) 31)
  have HB0 := Lib.hid (below_new w (.cells #[.string d, .string p, .int .i64 n] 31))
  unfold logV at *
  cases h0 : Tx.okLog (logOf d p n)
  case' true =>
    rw [h0, Bool.true_and] at h
    rw [h] at HIN
  all_goals
    rw [h0] at HR
    clear h h0
    go_enter Tryd.func25, Tryd.ntmps25
    go_wp2_with fail
    refine (HR.out _).mono ?_
    rintro e w1 ⟨rfl, hb1⟩
    obtain ⟨g0, g1, g2, _⟩ := HA.out.next hb1
    have HB1 := Lib.hid (HB0.out.trans (hb1.mono HB0.out.size)); clear hb1
    go_wp2_with (go_at_call 48; refine (HIN.out _).mono ?_; rintro e w' ⟨rfl, rfl⟩)
    go_ret2
    exact ⟨rfl, HB1.out⟩

theorem flip_cells {w : World} {g m : Nat} {l : List UInt8} {y : Int} (hc : ∀ j b, l[j]? = some b → w.cell? ⟨g, j, none⟩ = some (.int .u8 (b.toNat : Int))) (hl : l.length = m + 1) (hy : y = ((l.getD m 0).toNat : Int)) :
    ∀ j b, (flipL l)[j]? = some b → (w.setCell ⟨g, m, none⟩ (.int .u8 (255 - y))).cell? ⟨g, j, none⟩ = some (.int .u8 (b.toNat : Int)) := by
  intro j b hb
  have h := flip_at hl hb
  have hm : w.cell? ⟨g, m, none⟩ = some (.int .u8 ((l.getD m 0).toNat : Int)) := hc m _ (by simp [List.getD, hl])
  by_cases e : j = m
  · subst e
    rw [if_pos rfl] at h
    rw [h, World.cell?_setCell_same' _ _ _ (by rw [hm]; rfl), flip_val, ← hy]
  · rw [if_neg e] at h
    rw [World.cell?_setCell_other (h := fun q => e (congrArg Addr.off q).symm)]
    exact hc j b h

theorem take_bs (p : ByteArray) (k : Nat) : bs (p.extract 0 k) = (bs p).take k := by rw [piece_bs]; simp

set_option maxRecDepth 100000 in
set_option maxHeartbeats 4000000 in
theorem crash_yes (d p : ByteArray) (n : Int) (k : Nat) (t : Bool) (w : World) (hd : d.size ≤ 1048576) (hp : p.size ≤ 1048576) (ht : Tab w) (h : Tx.okLog (logOf d p n) = true) (hk : k ≤ p.size) :
    Calls Tryd.prog 26 #[logV d p n, .int .i64 k, .bool t] w fun e w' => e = .returned (.tuple #[.string (ba (crashL (bs d) (bs p) k t)), .bool true]) ∧ Below w.heap.size w w' := by
  have HT := Lib.hid ht; clear ht
  have HR := Lib.hid (fun w ht => isValidLog_any d p n w hd hp ht)
  have hin := fun w => in_any (k : Int) 0 (p.size : Int) w
  rw [show inB (k : Int) 0 (p.size : Int) = true by simp [inB]; omega] at hin
  have HIN := Lib.hid hin
  rw [h] at HR
  have HA := Lib.hid (L3.mk' w (.string d) (.string p) (.int .i64 n) 31)
  have HB0 := Lib.hid (below_new w (.cells #[.string d, .string p, .int .i64 n] 31))
  obtain ⟨P, hP⟩ : ∃ x, x = p.extract 0 k := ⟨_, rfl⟩
  have hPb : bs P = (bs p).take k := by rw [hP, take_bs]
  have hPs : P.size = k := by rw [← bs_len, hPb, List.length_take, bs_len]; omega
  obtain ⟨X, hX⟩ : ∃ x, x = d ++ P := ⟨_, rfl⟩
  have hXb : bs X = bs d ++ (bs p).take k := by rw [hX, bs_add, hPb]
  have hXs : X.size = d.size + k := by rw [hX, size_add, hPs]
  have a1 : ∀ w, (Op.stringOp .add d P).run Tryd.prog w = .ok (.string X) w := by rw [hX]; exact add_runs (by omega) (by omega)
  have HCR : Hid (crashL (bs d) (bs p) k t = if t && decide (0 < k) then flipL (bs X) else bs X) := by
    show _ = _
    unfold crashL
    by_cases hc : (t && decide (0 < k)) = true
    · rw [if_pos hc, if_pos hc, hXb, flipL_app]
      simp at hc
      exact List.ne_nil_of_length_pos (by rw [List.length_take, bs_len]; omega)
    · rw [if_neg hc, if_neg hc, hXb]
  have hp' := hP.symm
  clear hin h hX hP hPb hXb
  have HXS := Lib.hid hXs; clear hXs
  unfold logV at *
  go_enter Tryd.func26, Tryd.ntmps26
  go_wp2_with fail
  refine (HR.out _ (HT.out.below HB0.out)).mono ?_
  rintro e w1 ⟨rfl, hb1⟩
  obtain ⟨g0, g1, g2, _⟩ := HA.out.next hb1
  have HB1 := Lib.hid (HB0.out.trans (hb1.mono HB0.out.size)); clear hb1
  go_wp2_with (go_at_call 51; refine (HIN.out _).mono ?_; rintro e w' ⟨rfl, rfl⟩)
  go_still_tail 7, (by kernel_rfl)
  refine wpList_conv rfl 9 64 5 (.tmp 26) rfl X rfl Tryd.underlying9 Tryd.underlying64 Tryd.underlying5 ?_
  intro cap w2 hcl hfr hb2 hlt
  have hcl : ∀ j b, (bs X)[j]? = some b → w2.cell? ⟨w1.heap.size, j, none⟩ = some (.int .u8 (b.toNat : Int)) := hcl
  have hfr : ∀ j, j < X.size → w2.frozen? ⟨w1.heap.size, j, none⟩ = false := hfr
  have hb2 : Below w1.heap.size w1.drew w2 := hb2
  have HB2 := Lib.hid ((Below.drew HB1.out).trans (hb2.mono HB1.out.size))
  show wpList _ _ _ _ (Act.put _ _ (.slice (some ⟨w1.heap.size, 0, none⟩) X.size cap)) w2
  have HC := Lib.hid hcl
  by_cases hc : (t && decide (0 < k)) = true
  · rw [if_pos hc] at HCR
    have ht : t = true := by revert hc; cases t <;> simp
    have hk0 : 0 < k := by revert hc; cases t <;> simp
    subst ht
    clear hc
    obtain ⟨m, hm⟩ : ∃ m, X.size = m + 1 := ⟨X.size - 1, by have := HXS.out; omega⟩
    have hml : (bs X).length = m + 1 := by rw [bs_len, hm]
    have hm2 : m ≤ 2097152 := by have := HXS.out; omega
    obtain ⟨y, hy⟩ : ∃ y : Int, y = (((bs X).getD m 0).toNat : Int) := ⟨_, rfl⟩
    have hy0 : 0 ≤ y := by rw [hy]; omega
    have hy1 : y ≤ 255 := by have := UInt8.toNat_lt ((bs X).getD m 0); omega
    have hxm : w2.cell? ⟨w1.heap.size, m, none⟩ = some (.int .u8 y) := by rw [hy]; exact hcl m _ (by simp [List.getD, hml])
    have hfm := hfr m (by omega)
    have HF := Lib.hid (flip_cells hcl hml hy)
    have HL := Lib.hid (show (flipL (bs X)).length = m + 1 by rw [flipL_len, hml])
    have HB3 := Lib.hid (Below.setCell (p := ⟨w1.heap.size, m, none⟩) HB2.out HB1.out.size (.int .u8 (255 - y)))
    rw [hm]
    clear hcl hfr hb2 hml hy hm
    go_wp2_with (refine wpList_backS rfl 64 9 5 (.tmp 45) rfl (flipL (bs X)) HL.out rfl Tryd.underlying9 Tryd.underlying64 Tryd.underlying5 HF.out rfl ?_)
    go_ret2
    exact ⟨by rw [HCR.out]; rfl, HB3.out⟩
  · rw [if_neg hc] at HCR
    have HX : Hid (X = ba (bs X)) := (ba_bs X).symm
    have HXL : Hid ((bs X).length = X.size) := bs_len X
    clear hcl hfr hb2
    cases t
    · clear hc
      go_wp2_with (refine wpList_backS rfl 64 9 5 (.tmp 45) rfl (bs X) HXL.out rfl Tryd.underlying9 Tryd.underlying64 Tryd.underlying5 HC.out HX.out ?_)
      go_ret2
      exact ⟨by rw [HCR.out, ← HX.out]; rfl, HB2.out⟩
    · have hk0 : k = 0 := by simpa using hc
      clear hc
      subst hk0
      go_wp2_with (refine wpList_backS rfl 64 9 5 (.tmp 45) rfl (bs X) HXL.out rfl Tryd.underlying9 Tryd.underlying64 Tryd.underlying5 HC.out HX.out ?_)
      go_ret2
      exact ⟨by rw [HCR.out, ← HX.out]; rfl, HB2.out⟩

set_option maxRecDepth 100000 in
set_option maxHeartbeats 4000000 in
theorem sCrash_flip (d p : ByteArray) (n : Int) (m : Nat) (w : World) (hd : d.size ≤ 1048576) (hp : p.size ≤ 1048576) (h : Tx.okLog (logOf d p n) = true) (hk : m + 1 ≤ p.size) :
    Calls Tryd.prog 25 #[logV d p n, .int .i64 ((m + 1 : Nat) : Int), .bool true] w fun e w' => e = .returned (.tuple #[.string (ba (crashL (bs d) (bs p) (m + 1) true)), .bool true]) ∧ Below w.heap.size w w' := by
  have HR := Lib.hid (fun w => l25Log_any d p n w hd hp)
  obtain ⟨k, hkm⟩ : ∃ k, k = m + 1 := ⟨_, rfl⟩
  rw [← hkm] at hk ⊢
  have hin := fun w => l1In_any (k : Int) 0 (p.size : Int) w
  rw [show inB (k : Int) 0 (p.size : Int) = true by simp [inB]; omega] at hin
  have HIN := Lib.hid hin
  rw [h] at HR
  have HA := Lib.hid (L3.mk' w (.string d) (.string p) (.int .i64 n) 31)
  have HB0 := Lib.hid (below_new w (.cells #[.string d, .string p, .int .i64 n] 31))
  obtain ⟨P, hP⟩ : ∃ x, x = p.extract 0 k := ⟨_, rfl⟩
  have hPb : bs P = (bs p).take k := by rw [hP, take_bs]
  have hPs : P.size = k := by rw [← bs_len, hPb, List.length_take, bs_len]; omega
  have hp' := hP.symm
  obtain ⟨C, hC⟩ : ∃ x, x = ba (flipL (bs P)) := ⟨_, rfl⟩
  have hCs : C.size = k := by
    rw [hC, ba_size]
    rw [flipL_len, bs_len, hPs]
  have a1 : ∀ w, (Op.stringOp .add d C).run Tryd.prog w = .ok (.string (d ++ C)) w := add_runs (by omega) (by omega)
  have HE : Hid (d ++ C = ba (crashL (bs d) (bs p) k true)) := by
    show _ = _
    apply ba_eq
    rw [bs_add, bs_ba, hC, bs_ba, hPb]
    unfold crashL
    rw [if_pos (by simp; omega)]
  have HCC := Lib.hid hC
  have HPL : Hid ((bs P).length = k) := (bs_len P).trans hPs
  clear hin h hP hPb hC
  have hml : (bs P).length = m + 1 := by rw [bs_len, hPs, hkm]
  obtain ⟨y, hy⟩ : ∃ y : Int, y = (((bs P).getD m 0).toNat : Int) := ⟨_, rfl⟩
  have hy0 : 0 ≤ y := by rw [hy]; omega
  have hy1 : y ≤ 255 := by have := UInt8.toNat_lt ((bs P).getD m 0); omega
  have hm2 : m ≤ 1048576 := by omega
  have HML := Lib.hid hml
  have HY := Lib.hid hy
  have HG : Hid ((bs P)[m]? = some ((bs P).getD m 0)) := by show _ = _; simp [List.getD, hml]
  have HFL : Hid ((flipL (bs P)).length = m + 1) := by show _ = _; rw [flipL_len, hml]
  clear hy hml
  subst hkm
  unfold logV at *
  go_enter Tryd.func25, Tryd.ntmps25
  go_wp2_with fail
  refine (HR.out _).mono ?_
  rintro e w1 ⟨rfl, hb1⟩
  obtain ⟨g0, g1, g2, ltB⟩ := HA.out.next hb1
  have HB1 := Lib.hid (HB0.out.trans (hb1.mono HB0.out.size)); clear hb1
  go_wp2_with (first | (go_at_call 48; refine (HIN.out _).mono ?_; rintro e w' ⟨rfl, rfl⟩) | (refine wpList_conv rfl 9 64 5 (.tmp 23) rfl P rfl Tryd.underlying9 Tryd.underlying64 Tryd.underlying5 ?_; intro cap w2 hcl hfr hb2 hlt; have HB2 := Lib.hid (HB1.out.trans (hb2.mono HB1.out.size)); rw [hPs]; have gd : w2.cell? ⟨w.heap.size, 0, none⟩ = some (.string d) := (bcell hb2 ltB).trans g0; have hxm : w2.cell? ⟨w1.heap.size, m, none⟩ = some (.int .u8 y) := (hcl m _ HG.out).trans (by rw [HY.out]); have hfm := hfr m (by omega); have HF := Lib.hid (flip_cells hcl HML.out HY.out); have HB3 := Lib.hid (Below.setCell (p := ⟨w1.heap.size, m, none⟩) HB2.out HB1.out.size (.int .u8 (255 - y))); clear hcl hfr hb2) | (refine wpList_backS rfl 64 9 5 (.tmp 42) rfl (flipL (bs P)) HFL.out rfl Tryd.underlying9 Tryd.underlying64 Tryd.underlying5 HF.out HCC.out ?_))
  go_ret2
  exact ⟨by rw [← HE.out]; rfl, HB3.out⟩

set_option maxRecDepth 100000 in
set_option maxHeartbeats 4000000 in
theorem sCrash_flat (d p : ByteArray) (n : Int) (k : Nat) (t : Bool) (w : World) (hd : d.size ≤ 1048576) (hp : p.size ≤ 1048576) (h : Tx.okLog (logOf d p n) = true) (hk : k ≤ p.size) (hc : (t && decide (0 < k)) = false) :
    Calls Tryd.prog 25 #[logV d p n, .int .i64 (k : Int), .bool t] w fun e w' => e = .returned (.tuple #[.string (ba (crashL (bs d) (bs p) k t)), .bool true]) ∧ Below w.heap.size w w' := by
  have HR := Lib.hid (fun w => l25Log_any d p n w hd hp)
  have hin := fun w => l1In_any (k : Int) 0 (p.size : Int) w
  rw [show inB (k : Int) 0 (p.size : Int) = true by simp [inB]; omega] at hin
  have HIN := Lib.hid hin
  rw [h] at HR
  have HA := Lib.hid (L3.mk' w (.string d) (.string p) (.int .i64 n) 31)
  have HB0 := Lib.hid (below_new w (.cells #[.string d, .string p, .int .i64 n] 31))
  obtain ⟨P, hP⟩ : ∃ x, x = p.extract 0 k := ⟨_, rfl⟩
  have hPb : bs P = (bs p).take k := by rw [hP, take_bs]
  have hPs : P.size = k := by rw [← bs_len, hPb, List.length_take, bs_len]; omega
  have hp' := hP.symm
  obtain ⟨C, hC⟩ : ∃ x, x = ba (bs P) := ⟨_, rfl⟩
  have hCs : C.size = k := by
    rw [hC, ba_size]
    rw [bs_len, hPs]
  have a1 : ∀ w, (Op.stringOp .add d C).run Tryd.prog w = .ok (.string (d ++ C)) w := add_runs (by omega) (by omega)
  have HE : Hid (d ++ C = ba (crashL (bs d) (bs p) k t)) := by
    show _ = _
    apply ba_eq
    rw [bs_add, bs_ba, hC, bs_ba, hPb]
    unfold crashL
    rw [hc]; rfl
  have HCC := Lib.hid hC
  have HPL : Hid ((bs P).length = k) := (bs_len P).trans hPs
  clear hin h hP hPb hC
  unfold logV at *
  go_enter Tryd.func25, Tryd.ntmps25
  go_wp2_with fail
  refine (HR.out _).mono ?_
  rintro e w1 ⟨rfl, hb1⟩
  obtain ⟨g0, g1, g2, ltB⟩ := HA.out.next hb1
  have HB1 := Lib.hid (HB0.out.trans (hb1.mono HB0.out.size)); clear hb1
  cases t
  case' true =>
    have hk0 : k < 1 := by
      have h2 : ¬ (0 < k) := by simpa using hc
      omega
  all_goals
    clear hc
    go_wp2_with (first | (go_at_call 48; refine (HIN.out _).mono ?_; rintro e w' ⟨rfl, rfl⟩) | (refine wpList_conv rfl 9 64 5 (.tmp 23) rfl P rfl Tryd.underlying9 Tryd.underlying64 Tryd.underlying5 ?_; intro cap w2 hcl hfr hb2 hlt; have HB2 := Lib.hid (HB1.out.trans (hb2.mono HB1.out.size)); rw [hPs]; have gd : w2.cell? ⟨w.heap.size, 0, none⟩ = some (.string d) := (bcell hb2 ltB).trans g0; have HC := Lib.hid hcl; clear hcl hfr hb2) | (refine wpList_backS rfl 64 9 5 (.tmp 42) rfl (bs P) HPL.out rfl Tryd.underlying9 Tryd.underlying64 Tryd.underlying5 HC.out HCC.out ?_))
    go_ret2
    exact ⟨by rw [← HE.out]; rfl, HB2.out⟩

end Go.Proofs.YtfdhicojnbicgaaDoor
