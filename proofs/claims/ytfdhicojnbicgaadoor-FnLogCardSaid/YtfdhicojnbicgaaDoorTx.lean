/- Walks: AppendRecord by the program. -/
import Derived.Test.YtfdhicojnbicgaaDoorTv
namespace Go.Proofs.YtfdhicojnbicgaaDoor
open Go.RowKit
set_option linter.unusedVariables false

/-- A struct of two cells that still stands. -/
structure L2 (w : World) (B : Nat) (x y : Value) : Prop where
  c0 : w.cell? ⟨B, 0, none⟩ = some x
  c1 : w.cell? ⟨B, 1, none⟩ = some y
  lt : B < w.heap.size
theorem L2.next {w w' : World} {B : Nat} {x y : Value} (h : L2 w B x y) (hb : Below w.heap.size w w') : L2 w' B x y := ⟨(bcell hb h.lt).trans h.c0, (bcell hb h.lt).trans h.c1, Nat.lt_of_lt_of_le h.lt hb.size⟩
theorem L2.mk' (w : World) (x y : Value) (t : TypeId) : L2 (w.alloc (.cells #[x, y] t)) w.heap.size x y := ⟨alloc_cell 0, alloc_cell 1, by simp⟩
/-- A block of the call's own that may be written. -/
structure Fr (w : World) (B : Nat) : Prop where
  fr : ∀ o, w.frozen? ⟨B, o, none⟩ = false
  lt : B < w.heap.size
theorem Fr.next {w w' : World} {B : Nat} (h : Fr w B) (hb : Below w.heap.size w w') : Fr w' B := ⟨fun o => (hb.frozen (p := ⟨B, o, none⟩) h.lt).trans (h.fr o), Nat.lt_of_lt_of_le h.lt hb.size⟩
theorem Fr.mk' (w : World) (cs : Array Value) (t : TypeId) : Fr (w.alloc (.cells cs t)) w.heap.size := ⟨fun o => by simp [go_sem], by simp⟩

theorem app_n {d p : ByteArray} {n : Int} (h : Tx.okLog (logOf d p n) = true) : ∃ k : Nat, n = k ∧ k ≤ 60 := by
  obtain ⟨_, _, h3, _⟩ := Tx.okLog_parts h
  exact ⟨_, h3, Tx.recs_le _⟩

set_option maxRecDepth 100000 in
set_option maxHeartbeats 4000000 in
theorem app_badlog (d p : ByteArray) (n : Int) (c r : ByteArray) (w : World) (hd : d.size ≤ 1048576) (hp : p.size ≤ 1048576) (hcs : c.size ≤ 1048576) (hrs : r.size ≤ 1048576) (ht : Tab w) (h : Tx.okLog (logOf d p n) = false) :
    Calls Tryd.prog 30 #[logV d p n, recV c r] w fun e w' => e = .returned (.tuple #[logV d p n, .int .i64 1]) ∧ Below w.heap.size w w' := by
  have HT := Lib.hid ht; clear ht
  have HR := Lib.hid (fun w ht => isValidLog_any d p n w hd hp ht)
  have hA1 := below_new w (.cells #[.string d, .string p, .int .i64 n] 31)
  have hA2 := hA1.trans ((below_new (w.alloc (.cells #[.string d, .string p, .int .i64 n] 31)) (.cells #[.string c, .string r] 27)).mono hA1.size)
  have hA3 := hA2.trans ((below_new ((w.alloc (.cells #[.string d, .string p, .int .i64 n] 31)).alloc (.cells #[.string c, .string r] 27)) (.cells #[.string ⟨#[]⟩, .string ⟨#[]⟩, .int .i64 0] 31)).mono hA2.size)
  have hl := ((L3.mk' w (.string d) (.string p) (.int .i64 n) 31).next (below_new _ (.cells #[.string c, .string r] 27))).next (below_new _ (.cells #[.string ⟨#[]⟩, .string ⟨#[]⟩, .int .i64 0] 31))
  have hc := (L2.mk' (w.alloc (.cells #[.string d, .string p, .int .i64 n] 31)) (.string c) (.string r) 27).next (below_new _ (.cells #[.string ⟨#[]⟩, .string ⟨#[]⟩, .int .i64 0] 31))
  have hz := L3.mk' ((w.alloc (.cells #[.string d, .string p, .int .i64 n] 31)).alloc (.cells #[.string c, .string r] 27)) (.string ⟨#[]⟩) (.string ⟨#[]⟩) (.int .i64 0) 31
  have hf := Fr.mk' ((w.alloc (.cells #[.string d, .string p, .int .i64 n] 31)).alloc (.cells #[.string c, .string r] 27)) #[.string ⟨#[]⟩, .string ⟨#[]⟩, .int .i64 0] 31
  have e1 : (w.alloc (.cells #[.string d, .string p, .int .i64 n] 31)).heap.size = w.heap.size + 1 := by simp
  have e2 : ((w.alloc (.cells #[.string d, .string p, .int .i64 n] 31)).alloc (.cells #[.string c, .string r] 27)).heap.size = w.heap.size + 2 := by simp
  rw [e1] at hc
  rw [e2] at hz hf
  have HL := Lib.hid hl; have HC := Lib.hid hc; have HZ := Lib.hid hz; have HF := Lib.hid hf; have HB0 := Lib.hid hA3
  clear hA1 hA2 hA3 hl hc hz hf e1 e2
  rw [h] at HR
  clear h
  unfold logV recV at *
  go_enter Tryd.func30, Tryd.ntmps30
  go_wp2_with fail
  refine (HR.out _ (HT.out.below HB0.out)).mono ?_
  rintro e w1 ⟨rfl, hb1⟩
  have HL_1 := Lib.hid (HL.out.next hb1); clear HL; have HL := HL_1; clear HL_1
  have HC_1 := Lib.hid (HC.out.next hb1); clear HC; have HC := HC_1; clear HC_1
  have HZ_1 := Lib.hid (HZ.out.next hb1); clear HZ; have HZ := HZ_1; clear HZ_1
  have HF_1 := Lib.hid (HF.out.next hb1); clear HF; have HF := HF_1; clear HF_1
  have HB1 := Lib.hid (HB0.out.trans (hb1.mono HB0.out.size)); clear hb1
  obtain ⟨l0, l1, l2, _⟩ := HL.out
  obtain ⟨q0, q1, q2, _⟩ := HZ.out
  have hf := HF.out.fr
  go_wp2
  obtain ⟨s0, s1, s2, s3, s4, s5⟩ := three_set (.string d) (.string p) (.int .i64 n) q0 q1 q2
  refine bodyPost_ret (v := .tuple #[.agg #[.string d, .string p, .int .i64 n], .int .i64 1]) (by simp [results, Tryd.results30, go_sem, s0, s1, s2, s3, s4, s5]) rfl ⟨rfl, below_three' HB1.out _ _ _⟩

set_option maxRecDepth 100000 in
set_option maxHeartbeats 4000000 in
theorem app_badrec (d p : ByteArray) (n : Int) (c r : ByteArray) (w : World) (hd : d.size ≤ 1048576) (hp : p.size ≤ 1048576) (hcs : c.size ≤ 1048576) (hrs : r.size ≤ 1048576) (ht : Tab w) (h : Tx.okLog (logOf d p n) = true) (hr : Tx.okE (recE c r) = false) :
    Calls Tryd.prog 30 #[logV d p n, recV c r] w fun e w' => e = .returned (.tuple #[logV d p n, .int .i64 1]) ∧ Below w.heap.size w w' := by
  have HT := Lib.hid ht; clear ht
  have HR := Lib.hid (fun w ht => isValidLog_any d p n w hd hp ht)
  have hA1 := below_new w (.cells #[.string d, .string p, .int .i64 n] 31)
  have hA2 := hA1.trans ((below_new (w.alloc (.cells #[.string d, .string p, .int .i64 n] 31)) (.cells #[.string c, .string r] 27)).mono hA1.size)
  have hA3 := hA2.trans ((below_new ((w.alloc (.cells #[.string d, .string p, .int .i64 n] 31)).alloc (.cells #[.string c, .string r] 27)) (.cells #[.string ⟨#[]⟩, .string ⟨#[]⟩, .int .i64 0] 31)).mono hA2.size)
  have hl := ((L3.mk' w (.string d) (.string p) (.int .i64 n) 31).next (below_new _ (.cells #[.string c, .string r] 27))).next (below_new _ (.cells #[.string ⟨#[]⟩, .string ⟨#[]⟩, .int .i64 0] 31))
  have hc := (L2.mk' (w.alloc (.cells #[.string d, .string p, .int .i64 n] 31)) (.string c) (.string r) 27).next (below_new _ (.cells #[.string ⟨#[]⟩, .string ⟨#[]⟩, .int .i64 0] 31))
  have hz := L3.mk' ((w.alloc (.cells #[.string d, .string p, .int .i64 n] 31)).alloc (.cells #[.string c, .string r] 27)) (.string ⟨#[]⟩) (.string ⟨#[]⟩) (.int .i64 0) 31
  have hf := Fr.mk' ((w.alloc (.cells #[.string d, .string p, .int .i64 n] 31)).alloc (.cells #[.string c, .string r] 27)) #[.string ⟨#[]⟩, .string ⟨#[]⟩, .int .i64 0] 31
  have e1 : (w.alloc (.cells #[.string d, .string p, .int .i64 n] 31)).heap.size = w.heap.size + 1 := by simp
  have e2 : ((w.alloc (.cells #[.string d, .string p, .int .i64 n] 31)).alloc (.cells #[.string c, .string r] 27)).heap.size = w.heap.size + 2 := by simp
  rw [e1] at hc
  rw [e2] at hz hf
  have HL := Lib.hid hl; have HC := Lib.hid hc; have HZ := Lib.hid hz; have HF := Lib.hid hf; have HB0 := Lib.hid hA3
  clear hA1 hA2 hA3 hl hc hz hf e1 e2
  have HV := Lib.hid (fun w => isValidRecord_any c r w (by omega) (by omega))
  rw [h] at HR
  rw [hr] at HV
  clear h hr
  unfold logV recV at *
  go_enter Tryd.func30, Tryd.ntmps30
  go_wp2_with fail
  refine (HR.out _ (HT.out.below HB0.out)).mono ?_
  rintro e w1 ⟨rfl, hb1⟩
  have HL_1 := Lib.hid (HL.out.next hb1); clear HL; have HL := HL_1; clear HL_1
  have HC_1 := Lib.hid (HC.out.next hb1); clear HC; have HC := HC_1; clear HC_1
  have HZ_1 := Lib.hid (HZ.out.next hb1); clear HZ; have HZ := HZ_1; clear HZ_1
  have HF_1 := Lib.hid (HF.out.next hb1); clear HF; have HF := HF_1; clear HF_1
  have HB1 := Lib.hid (HB0.out.trans (hb1.mono HB0.out.size)); clear hb1
  obtain ⟨l0, l1, l2, _⟩ := HL.out
  obtain ⟨c0, c1, _⟩ := HC.out
  go_wp2_with fail
  refine (HV.out _).mono ?_
  rintro e w2 ⟨rfl, hb2⟩
  have HL_2 := Lib.hid (HL.out.next hb2); clear HL; have HL := HL_2; clear HL_2
  have HC_2 := Lib.hid (HC.out.next hb2); clear HC; have HC := HC_2; clear HC_2
  have HZ_2 := Lib.hid (HZ.out.next hb2); clear HZ; have HZ := HZ_2; clear HZ_2
  have HF_2 := Lib.hid (HF.out.next hb2); clear HF; have HF := HF_2; clear HF_2
  have HB2 := Lib.hid (HB1.out.trans (hb2.mono HB1.out.size)); clear hb2
  clear l0 l1 l2 c0 c1
  obtain ⟨l0, l1, l2, _⟩ := HL.out
  obtain ⟨q0, q1, q2, _⟩ := HZ.out
  have hf := HF.out.fr
  go_wp2
  obtain ⟨s0, s1, s2, s3, s4, s5⟩ := three_set (.string d) (.string p) (.int .i64 n) q0 q1 q2
  refine bodyPost_ret (v := .tuple #[.agg #[.string d, .string p, .int .i64 n], .int .i64 1]) (by simp [results, Tryd.results30, go_sem, s0, s1, s2, s3, s4, s5]) rfl ⟨rfl, below_three' HB2.out _ _ _⟩

set_option maxRecDepth 100000 in
set_option maxHeartbeats 4000000 in
theorem app_full (d p : ByteArray) (n : Int) (c r : ByteArray) (w : World) (hd : d.size ≤ 1048576) (hp : p.size ≤ 1048576) (hcs : c.size ≤ 1048576) (hrs : r.size ≤ 1048576) (ht : Tab w) (h : Tx.okLog (logOf d p n) = true) (hr : Tx.okE (recE c r) = true) (hn : n = 60) :
    Calls Tryd.prog 30 #[logV d p n, recV c r] w fun e w' => e = .returned (.tuple #[logV d p n, .int .i64 2]) ∧ Below w.heap.size w w' := by
  have HT := Lib.hid ht; clear ht
  have HR := Lib.hid (fun w ht => isValidLog_any d p n w hd hp ht)
  have hA1 := below_new w (.cells #[.string d, .string p, .int .i64 n] 31)
  have hA2 := hA1.trans ((below_new (w.alloc (.cells #[.string d, .string p, .int .i64 n] 31)) (.cells #[.string c, .string r] 27)).mono hA1.size)
  have hA3 := hA2.trans ((below_new ((w.alloc (.cells #[.string d, .string p, .int .i64 n] 31)).alloc (.cells #[.string c, .string r] 27)) (.cells #[.string ⟨#[]⟩, .string ⟨#[]⟩, .int .i64 0] 31)).mono hA2.size)
  have hl := ((L3.mk' w (.string d) (.string p) (.int .i64 n) 31).next (below_new _ (.cells #[.string c, .string r] 27))).next (below_new _ (.cells #[.string ⟨#[]⟩, .string ⟨#[]⟩, .int .i64 0] 31))
  have hc := (L2.mk' (w.alloc (.cells #[.string d, .string p, .int .i64 n] 31)) (.string c) (.string r) 27).next (below_new _ (.cells #[.string ⟨#[]⟩, .string ⟨#[]⟩, .int .i64 0] 31))
  have hz := L3.mk' ((w.alloc (.cells #[.string d, .string p, .int .i64 n] 31)).alloc (.cells #[.string c, .string r] 27)) (.string ⟨#[]⟩) (.string ⟨#[]⟩) (.int .i64 0) 31
  have hf := Fr.mk' ((w.alloc (.cells #[.string d, .string p, .int .i64 n] 31)).alloc (.cells #[.string c, .string r] 27)) #[.string ⟨#[]⟩, .string ⟨#[]⟩, .int .i64 0] 31
  have e1 : (w.alloc (.cells #[.string d, .string p, .int .i64 n] 31)).heap.size = w.heap.size + 1 := by simp
  have e2 : ((w.alloc (.cells #[.string d, .string p, .int .i64 n] 31)).alloc (.cells #[.string c, .string r] 27)).heap.size = w.heap.size + 2 := by simp
  rw [e1] at hc
  rw [e2] at hz hf
  have HL := Lib.hid hl; have HC := Lib.hid hc; have HZ := Lib.hid hz; have HF := Lib.hid hf; have HB0 := Lib.hid hA3
  clear hA1 hA2 hA3 hl hc hz hf e1 e2
  have HV := Lib.hid (fun w => isValidRecord_any c r w (by omega) (by omega))
  rw [h] at HR
  rw [hr] at HV
  have hq : (n == 60) = true := by rw [hn]; rfl
  clear h hr hn
  unfold logV recV at *
  go_enter Tryd.func30, Tryd.ntmps30
  go_wp2_with fail
  refine (HR.out _ (HT.out.below HB0.out)).mono ?_
  rintro e w1 ⟨rfl, hb1⟩
  have HL_1 := Lib.hid (HL.out.next hb1); clear HL; have HL := HL_1; clear HL_1
  have HC_1 := Lib.hid (HC.out.next hb1); clear HC; have HC := HC_1; clear HC_1
  have HZ_1 := Lib.hid (HZ.out.next hb1); clear HZ; have HZ := HZ_1; clear HZ_1
  have HF_1 := Lib.hid (HF.out.next hb1); clear HF; have HF := HF_1; clear HF_1
  have HB1 := Lib.hid (HB0.out.trans (hb1.mono HB0.out.size)); clear hb1
  obtain ⟨l0, l1, l2, _⟩ := HL.out
  obtain ⟨c0, c1, _⟩ := HC.out
  go_wp2_with fail
  refine (HV.out _).mono ?_
  rintro e w2 ⟨rfl, hb2⟩
  have HL_2 := Lib.hid (HL.out.next hb2); clear HL; have HL := HL_2; clear HL_2
  have HC_2 := Lib.hid (HC.out.next hb2); clear HC; have HC := HC_2; clear HC_2
  have HZ_2 := Lib.hid (HZ.out.next hb2); clear HZ; have HZ := HZ_2; clear HZ_2
  have HF_2 := Lib.hid (HF.out.next hb2); clear HF; have HF := HF_2; clear HF_2
  have HB2 := Lib.hid (HB1.out.trans (hb2.mono HB1.out.size)); clear hb2
  clear l0 l1 l2 c0 c1
  obtain ⟨l0, l1, l2, _⟩ := HL.out
  obtain ⟨q0, q1, q2, _⟩ := HZ.out
  have hf := HF.out.fr
  go_wp2
  obtain ⟨s0, s1, s2, s3, s4, s5⟩ := three_set (.string d) (.string p) (.int .i64 n) q0 q1 q2
  refine bodyPost_ret (v := .tuple #[.agg #[.string d, .string p, .int .i64 n], .int .i64 2]) (by simp [results, Tryd.results30, go_sem, s0, s1, s2, s3, s4, s5]) rfl ⟨rfl, below_three' HB2.out _ _ _⟩

set_option maxRecDepth 100000 in
set_option maxHeartbeats 4000000 in
theorem app_ok (d p : ByteArray) (n : Int) (c r : ByteArray) (w : World) (hd : d.size ≤ 1048576) (hp : p.size ≤ 1048576) (hcs : c.size ≤ 1048576) (hrs : r.size ≤ 1048576) (ht : Tab w) (h : Tx.okLog (logOf d p n) = true) (hr : Tx.okE (recE c r) = true) (hn : n ≠ 60) :
    Calls Tryd.prog 30 #[logV d p n, recV c r] w fun e w' => e = .returned (.tuple #[logV d (p ++ encB n.toNat c r) (n + 1), .int .i64 0]) ∧ Below w.heap.size w w' := by
  obtain ⟨k, rfl, hk⟩ := app_n h
  have hk60 : k < 60 := by omega
  have HT := Lib.hid ht; clear ht
  have HR := Lib.hid (fun w ht => isValidLog_any d p (k : Int) w hd hp ht)
  have hA1 := below_new w (.cells #[.string d, .string p, .int .i64 k] 31)
  have hA2 := hA1.trans ((below_new (w.alloc (.cells #[.string d, .string p, .int .i64 k] 31)) (.cells #[.string c, .string r] 27)).mono hA1.size)
  have hA3 := hA2.trans ((below_new ((w.alloc (.cells #[.string d, .string p, .int .i64 k] 31)).alloc (.cells #[.string c, .string r] 27)) (.cells #[.string ⟨#[]⟩, .string ⟨#[]⟩, .int .i64 0] 31)).mono hA2.size)
  have hl := ((L3.mk' w (.string d) (.string p) (.int .i64 k) 31).next (below_new _ (.cells #[.string c, .string r] 27))).next (below_new _ (.cells #[.string ⟨#[]⟩, .string ⟨#[]⟩, .int .i64 0] 31))
  have hc := (L2.mk' (w.alloc (.cells #[.string d, .string p, .int .i64 k] 31)) (.string c) (.string r) 27).next (below_new _ (.cells #[.string ⟨#[]⟩, .string ⟨#[]⟩, .int .i64 0] 31))
  have hz := L3.mk' ((w.alloc (.cells #[.string d, .string p, .int .i64 k] 31)).alloc (.cells #[.string c, .string r] 27)) (.string ⟨#[]⟩) (.string ⟨#[]⟩) (.int .i64 0) 31
  have hf := Fr.mk' ((w.alloc (.cells #[.string d, .string p, .int .i64 k] 31)).alloc (.cells #[.string c, .string r] 27)) #[.string ⟨#[]⟩, .string ⟨#[]⟩, .int .i64 0] 31
  have e1 : (w.alloc (.cells #[.string d, .string p, .int .i64 k] 31)).heap.size = w.heap.size + 1 := by simp
  have e2 : ((w.alloc (.cells #[.string d, .string p, .int .i64 k] 31)).alloc (.cells #[.string c, .string r] 27)).heap.size = w.heap.size + 2 := by simp
  rw [e1] at hc
  rw [e2] at hz hf
  have HL := Lib.hid hl; have HC := Lib.hid hc; have HZ := Lib.hid hz; have HF := Lib.hid hf; have HB0 := Lib.hid hA3
  clear hA1 hA2 hA3 hl hc hz hf e1 e2
  have HV := Lib.hid (fun w => isValidRecord_any c r w (by omega) (by omega))
  have HE := Lib.hid (fun w ht => encode_yes k c r w hk60 hr ht)
  have hes : (encB k c r).size ≤ 302 := by
    have h1 := Tx.line_len (show k < 100 by omega) hr
    unfold encB
    rw [size_mk]; simp; omega
  rw [Int.toNat_natCast]
  rw [h] at HR
  rw [hr] at HV
  have hq : ((k : Int) == 60) = false := by rw [beq_eq_false_iff_ne]; exact hn
  clear h hr hn
  generalize encB k c r = R at HE hes
  have HRR : ∀ {x : Bool}, True := fun {_} => trivial
  clear HRR
  have a1 := add_runs (P := Tryd.prog) (a := p) (b := R) (by omega) (by omega)
  unfold logV recV at *
  go_enter Tryd.func30, Tryd.ntmps30
  go_wp2_with fail
  refine (HR.out _ (HT.out.below HB0.out)).mono ?_
  rintro e w1 ⟨rfl, hb1⟩
  have HL_1 := Lib.hid (HL.out.next hb1); clear HL; have HL := HL_1; clear HL_1
  have HC_1 := Lib.hid (HC.out.next hb1); clear HC; have HC := HC_1; clear HC_1
  have HZ_1 := Lib.hid (HZ.out.next hb1); clear HZ; have HZ := HZ_1; clear HZ_1
  have HF_1 := Lib.hid (HF.out.next hb1); clear HF; have HF := HF_1; clear HF_1
  have HB1 := Lib.hid (HB0.out.trans (hb1.mono HB0.out.size)); clear hb1
  obtain ⟨l0, l1, l2, _⟩ := HL.out
  obtain ⟨c0, c1, _⟩ := HC.out
  go_wp2_with fail
  refine (HV.out _).mono ?_
  rintro e w2 ⟨rfl, hb2⟩
  have HL_2 := Lib.hid (HL.out.next hb2); clear HL; have HL := HL_2; clear HL_2
  have HC_2 := Lib.hid (HC.out.next hb2); clear HC; have HC := HC_2; clear HC_2
  have HZ_2 := Lib.hid (HZ.out.next hb2); clear HZ; have HZ := HZ_2; clear HZ_2
  have HF_2 := Lib.hid (HF.out.next hb2); clear HF; have HF := HF_2; clear HF_2
  have HB2 := Lib.hid (HB1.out.trans (hb2.mono HB1.out.size)); clear hb2
  clear l0 l1 l2 c0 c1
  obtain ⟨l0, l1, l2, _⟩ := HL.out
  obtain ⟨c0, c1, _⟩ := HC.out
  go_wp2_with fail
  refine (HE.out _ (HT.out.below HB2.out)).mono ?_
  rintro e w3 ⟨rfl, hb3⟩
  have HL_3 := Lib.hid (HL.out.next hb3); clear HL; have HL := HL_3; clear HL_3
  have HC_3 := Lib.hid (HC.out.next hb3); clear HC; have HC := HC_3; clear HC_3
  have HZ_3 := Lib.hid (HZ.out.next hb3); clear HZ; have HZ := HZ_3; clear HZ_3
  have HF_3 := Lib.hid (HF.out.next hb3); clear HF; have HF := HF_3; clear HF_3
  have HB3 := Lib.hid (HB2.out.trans (hb3.mono HB2.out.size)); clear hb3
  clear l0 l1 l2 c0 c1
  obtain ⟨l0, l1, l2, _⟩ := HL.out
  obtain ⟨q0, q1, q2, _⟩ := HZ.out
  have hf := HF.out.fr
  go_wp2
  obtain ⟨s0, s1, s2, s3, s4, s5⟩ := three_set (.string d) (.string (p ++ R)) (.int .i64 ((k : Int) + 1)) q0 q1 q2
  refine bodyPost_ret (v := .tuple #[.agg #[.string d, .string (p ++ R), .int .i64 ((k : Int) + 1)], .int .i64 0]) (by simp [results, Tryd.results30, go_sem, s0, s1, s2, s3, s4, s5]) rfl ⟨rfl, below_three' HB3.out _ _ _⟩

end Go.Proofs.YtfdhicojnbicgaaDoor
