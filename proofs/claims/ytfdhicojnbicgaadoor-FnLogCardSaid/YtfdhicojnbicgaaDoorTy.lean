/- Walks: AppendRecord by the reference. -/
import Derived.Test.YtfdhicojnbicgaaDoorTx
namespace Go.Proofs.YtfdhicojnbicgaaDoor
open Go.RowKit
set_option linter.unusedVariables false

/-- The world of the region that appends a line: what lies below stands; the log's block (number B) may be written. -/
structure Ka (w0 : World) (w : World) : Prop where
  bel : Below w0.heap.size w0 w
  lt : w0.heap.size + 3 ≤ w.heap.size
  log : ∃ x y z, w.heap[w0.heap.size]? = some (.cells #[x, y, z] 31 (0, 0))
theorem Ka.drew {w0 w : World} (h : Ka w0 w) : Ka w0 w.drew := ⟨Below.drew h.1, h.2, h.3⟩
theorem Ka.next {w0 w w' : World} (h : Ka w0 w) (hb : Below w.heap.size w w') : Ka w0 w' := by
  refine ⟨h.1.trans (hb.mono (by have := h.2; omega)), Nat.le_trans h.2 hb.size, ?_⟩
  obtain ⟨x, y, z, hr⟩ := h.3
  exact ⟨x, y, z, by rw [hb.block _ (by have := h.2; omega)]; exact hr⟩
theorem Ka.set {w0 w : World} (h : Ka w0 w) (v : Value) : Ka w0 (w.setCell ⟨w0.heap.size, 1, none⟩ v) := by
  refine ⟨Below.setCell (p := ⟨w0.heap.size, 1, none⟩) h.1 (Nat.le_refl _) _, by simpa using h.2, ?_⟩
  obtain ⟨x, y, z, hr⟩ := h.3
  refine ⟨x, v, z, ?_⟩
  simp only [World.setCell, Array.getElem?_modify, if_true, hr, Option.map_some]
  try rfl
theorem set_far {w : World} {p q : Addr} {v x : Value} (h : w.cell? q = some x) (hne : p ≠ q) : (w.setCell p v).cell? q = some x := (World.cell?_setCell_other (h := hne) ..).trans h
theorem frozen_set (w : World) (p q : Addr) (v : Value) : (w.setCell p v).frozen? q = w.frozen? q := by simp [go_sem]

set_option maxRecDepth 100000 in
set_option maxHeartbeats 4000000 in
theorem sapp_badlog (d p : ByteArray) (n : Int) (c r : ByteArray) (w : World) (hd : d.size ≤ 1048576) (hp : p.size ≤ 1048576) (hcs : c.size ≤ 1048576) (hrs : r.size ≤ 1048576) (h : Tx.okLog (logOf d p n) = false) :
    Calls Tryd.prog 29 #[logV d p n, recV c r] w fun e w' => e = .returned (.tuple #[logV d p n, .int .i64 1]) ∧ Below w.heap.size w w' := by
  have HR := Lib.hid (fun w => l25Log_any d p n w hd hp)
  have hA1 := below_new w (.cells #[.string d, .string p, .int .i64 n] 31)
  have hA2 := hA1.trans ((below_new (w.alloc (.cells #[.string d, .string p, .int .i64 n] 31)) (.cells #[.string c, .string r] 27)).mono hA1.size)
  have hA3 := hA2.trans ((below_new ((w.alloc (.cells #[.string d, .string p, .int .i64 n] 31)).alloc (.cells #[.string c, .string r] 27)) (.cells #[.string ⟨#[]⟩, .string ⟨#[]⟩, .int .i64 0] 31)).mono hA2.size)
  have hl := ((L3.mk' w (.string d) (.string p) (.int .i64 n) 31).next (below_new _ (.cells #[.string c, .string r] 27))).next (below_new _ (.cells #[.string ⟨#[]⟩, .string ⟨#[]⟩, .int .i64 0] 31))
  have hc := (L2.mk' (w.alloc (.cells #[.string d, .string p, .int .i64 n] 31)) (.string c) (.string r) 27).next (below_new _ (.cells #[.string ⟨#[]⟩, .string ⟨#[]⟩, .int .i64 0] 31))
  have hz := L3.mk' ((w.alloc (.cells #[.string d, .string p, .int .i64 n] 31)).alloc (.cells #[.string c, .string r] 27)) (.string ⟨#[]⟩) (.string ⟨#[]⟩) (.int .i64 0) 31
  have hf := Fr.mk' ((w.alloc (.cells #[.string d, .string p, .int .i64 n] 31)).alloc (.cells #[.string c, .string r] 27)) #[.string ⟨#[]⟩, .string ⟨#[]⟩, .int .i64 0] 31
  have e1 : (w.alloc (.cells #[.string d, .string p, .int .i64 n] 31)).heap.size = w.heap.size + 1 := by simp
  have e2 : ((w.alloc (.cells #[.string d, .string p, .int .i64 n] 31)).alloc (.cells #[.string c, .string r] 27)).heap.size = w.heap.size + 2 := by simp
  rw [e1] at hc
  rw [e2] at hz hf
  have HL := Lib.hid hl; have HC := Lib.hid hc; have HZ := Lib.hid hz; have HF := Lib.hid hf; have HB0 := Lib.hid hA3
  clear hA1 hA2 hA3 hl hc hz hf e1 e2
  rw [h] at HR
  clear h
  unfold logV recV at *
  go_enter Tryd.func29, Tryd.ntmps29
  go_wp2_with fail
  refine (HR.out _).mono ?_
  rintro e w1 ⟨rfl, hb1⟩
  have HL_1 := Lib.hid (HL.out.next hb1); clear HL; have HL := HL_1; clear HL_1
  have HC_1 := Lib.hid (HC.out.next hb1); clear HC; have HC := HC_1; clear HC_1
  have HZ_1 := Lib.hid (HZ.out.next hb1); clear HZ; have HZ := HZ_1; clear HZ_1
  have HF_1 := Lib.hid (HF.out.next hb1); clear HF; have HF := HF_1; clear HF_1
  have HB1 := Lib.hid (HB0.out.trans (hb1.mono HB0.out.size)); clear hb1
  obtain ⟨l0, l1, l2, _⟩ := HL.out
  obtain ⟨q0, q1, q2, _⟩ := HZ.out
  have hf := HF.out.fr
  go_wp2
  obtain ⟨s0, s1, s2, s3, s4, s5⟩ := three_set (.string d) (.string p) (.int .i64 n) q0 q1 q2
  refine bodyPost_ret (v := .tuple #[.agg #[.string d, .string p, .int .i64 n], .int .i64 1]) (by simp [results, Tryd.results29, go_sem, s0, s1, s2, s3, s4, s5]) rfl ⟨rfl, below_three' HB1.out _ _ _⟩

set_option maxRecDepth 100000 in
set_option maxHeartbeats 4000000 in
theorem sapp_badrec (d p : ByteArray) (n : Int) (c r : ByteArray) (w : World) (hd : d.size ≤ 1048576) (hp : p.size ≤ 1048576) (hcs : c.size ≤ 1048576) (hrs : r.size ≤ 1048576) (h : Tx.okLog (logOf d p n) = true) (hr : Tx.okE (recE c r) = false) :
    Calls Tryd.prog 29 #[logV d p n, recV c r] w fun e w' => e = .returned (.tuple #[logV d p n, .int .i64 1]) ∧ Below w.heap.size w w' := by
  have HR := Lib.hid (fun w => l25Log_any d p n w hd hp)
  have hA1 := below_new w (.cells #[.string d, .string p, .int .i64 n] 31)
  have hA2 := hA1.trans ((below_new (w.alloc (.cells #[.string d, .string p, .int .i64 n] 31)) (.cells #[.string c, .string r] 27)).mono hA1.size)
  have hA3 := hA2.trans ((below_new ((w.alloc (.cells #[.string d, .string p, .int .i64 n] 31)).alloc (.cells #[.string c, .string r] 27)) (.cells #[.string ⟨#[]⟩, .string ⟨#[]⟩, .int .i64 0] 31)).mono hA2.size)
  have hl := ((L3.mk' w (.string d) (.string p) (.int .i64 n) 31).next (below_new _ (.cells #[.string c, .string r] 27))).next (below_new _ (.cells #[.string ⟨#[]⟩, .string ⟨#[]⟩, .int .i64 0] 31))
  have hc := (L2.mk' (w.alloc (.cells #[.string d, .string p, .int .i64 n] 31)) (.string c) (.string r) 27).next (below_new _ (.cells #[.string ⟨#[]⟩, .string ⟨#[]⟩, .int .i64 0] 31))
  have hz := L3.mk' ((w.alloc (.cells #[.string d, .string p, .int .i64 n] 31)).alloc (.cells #[.string c, .string r] 27)) (.string ⟨#[]⟩) (.string ⟨#[]⟩) (.int .i64 0) 31
  have hf := Fr.mk' ((w.alloc (.cells #[.string d, .string p, .int .i64 n] 31)).alloc (.cells #[.string c, .string r] 27)) #[.string ⟨#[]⟩, .string ⟨#[]⟩, .int .i64 0] 31
  have e1 : (w.alloc (.cells #[.string d, .string p, .int .i64 n] 31)).heap.size = w.heap.size + 1 := by simp
  have e2 : ((w.alloc (.cells #[.string d, .string p, .int .i64 n] 31)).alloc (.cells #[.string c, .string r] 27)).heap.size = w.heap.size + 2 := by simp
  rw [e1] at hc
  rw [e2] at hz hf
  have HL := Lib.hid hl; have HC := Lib.hid hc; have HZ := Lib.hid hz; have HF := Lib.hid hf; have HB0 := Lib.hid hA3
  clear hA1 hA2 hA3 hl hc hz hf e1 e2
  have HV := Lib.hid (fun w => l25Good_any c r w (by omega) (by omega))
  rw [h] at HR
  rw [hr] at HV
  clear h hr
  unfold logV recV at *
  go_enter Tryd.func29, Tryd.ntmps29
  go_wp2_with fail
  refine (HR.out _).mono ?_
  rintro e w1 ⟨rfl, hb1⟩
  have HL_1 := Lib.hid (HL.out.next hb1); clear HL; have HL := HL_1; clear HL_1
  have HC_1 := Lib.hid (HC.out.next hb1); clear HC; have HC := HC_1; clear HC_1
  have HZ_1 := Lib.hid (HZ.out.next hb1); clear HZ; have HZ := HZ_1; clear HZ_1
  have HF_1 := Lib.hid (HF.out.next hb1); clear HF; have HF := HF_1; clear HF_1
  have HB1 := Lib.hid (HB0.out.trans (hb1.mono HB0.out.size)); clear hb1
  obtain ⟨l0, l1, l2, _⟩ := HL.out
  obtain ⟨c0, c1, _⟩ := HC.out
  go_wp2_with fail
  refine (HV.out _).mono ?_
  rintro e w2 ⟨rfl, hb2⟩
  have HL_2 := Lib.hid (HL.out.next hb2); clear HL; have HL := HL_2; clear HL_2
  have HC_2 := Lib.hid (HC.out.next hb2); clear HC; have HC := HC_2; clear HC_2
  have HZ_2 := Lib.hid (HZ.out.next hb2); clear HZ; have HZ := HZ_2; clear HZ_2
  have HF_2 := Lib.hid (HF.out.next hb2); clear HF; have HF := HF_2; clear HF_2
  have HB2 := Lib.hid (HB1.out.trans (hb2.mono HB1.out.size)); clear hb2
  clear l0 l1 l2 c0 c1
  obtain ⟨l0, l1, l2, _⟩ := HL.out
  obtain ⟨q0, q1, q2, _⟩ := HZ.out
  have hf := HF.out.fr
  go_wp2
  obtain ⟨s0, s1, s2, s3, s4, s5⟩ := three_set (.string d) (.string p) (.int .i64 n) q0 q1 q2
  refine bodyPost_ret (v := .tuple #[.agg #[.string d, .string p, .int .i64 n], .int .i64 1]) (by simp [results, Tryd.results29, go_sem, s0, s1, s2, s3, s4, s5]) rfl ⟨rfl, below_three' HB2.out _ _ _⟩

set_option maxRecDepth 100000 in
set_option maxHeartbeats 4000000 in
theorem sapp_full (d p : ByteArray) (n : Int) (c r : ByteArray) (w : World) (hd : d.size ≤ 1048576) (hp : p.size ≤ 1048576) (hcs : c.size ≤ 1048576) (hrs : r.size ≤ 1048576) (h : Tx.okLog (logOf d p n) = true) (hr : Tx.okE (recE c r) = true) (hn : n = 60) :
    Calls Tryd.prog 29 #[logV d p n, recV c r] w fun e w' => e = .returned (.tuple #[logV d p n, .int .i64 2]) ∧ Below w.heap.size w w' := by
  have HR := Lib.hid (fun w => l25Log_any d p n w hd hp)
  have hA1 := below_new w (.cells #[.string d, .string p, .int .i64 n] 31)
  have hA2 := hA1.trans ((below_new (w.alloc (.cells #[.string d, .string p, .int .i64 n] 31)) (.cells #[.string c, .string r] 27)).mono hA1.size)
  have hA3 := hA2.trans ((below_new ((w.alloc (.cells #[.string d, .string p, .int .i64 n] 31)).alloc (.cells #[.string c, .string r] 27)) (.cells #[.string ⟨#[]⟩, .string ⟨#[]⟩, .int .i64 0] 31)).mono hA2.size)
  have hl := ((L3.mk' w (.string d) (.string p) (.int .i64 n) 31).next (below_new _ (.cells #[.string c, .string r] 27))).next (below_new _ (.cells #[.string ⟨#[]⟩, .string ⟨#[]⟩, .int .i64 0] 31))
  have hc := (L2.mk' (w.alloc (.cells #[.string d, .string p, .int .i64 n] 31)) (.string c) (.string r) 27).next (below_new _ (.cells #[.string ⟨#[]⟩, .string ⟨#[]⟩, .int .i64 0] 31))
  have hz := L3.mk' ((w.alloc (.cells #[.string d, .string p, .int .i64 n] 31)).alloc (.cells #[.string c, .string r] 27)) (.string ⟨#[]⟩) (.string ⟨#[]⟩) (.int .i64 0) 31
  have hf := Fr.mk' ((w.alloc (.cells #[.string d, .string p, .int .i64 n] 31)).alloc (.cells #[.string c, .string r] 27)) #[.string ⟨#[]⟩, .string ⟨#[]⟩, .int .i64 0] 31
  have e1 : (w.alloc (.cells #[.string d, .string p, .int .i64 n] 31)).heap.size = w.heap.size + 1 := by simp
  have e2 : ((w.alloc (.cells #[.string d, .string p, .int .i64 n] 31)).alloc (.cells #[.string c, .string r] 27)).heap.size = w.heap.size + 2 := by simp
  rw [e1] at hc
  rw [e2] at hz hf
  have HL := Lib.hid hl; have HC := Lib.hid hc; have HZ := Lib.hid hz; have HF := Lib.hid hf; have HB0 := Lib.hid hA3
  clear hA1 hA2 hA3 hl hc hz hf e1 e2
  have HV := Lib.hid (fun w => l25Good_any c r w (by omega) (by omega))
  rw [h] at HR
  rw [hr] at HV
  have hq : (n == 60) = true := by rw [hn]; rfl
  clear h hr hn
  unfold logV recV at *
  go_enter Tryd.func29, Tryd.ntmps29
  go_wp2_with fail
  refine (HR.out _).mono ?_
  rintro e w1 ⟨rfl, hb1⟩
  have HL_1 := Lib.hid (HL.out.next hb1); clear HL; have HL := HL_1; clear HL_1
  have HC_1 := Lib.hid (HC.out.next hb1); clear HC; have HC := HC_1; clear HC_1
  have HZ_1 := Lib.hid (HZ.out.next hb1); clear HZ; have HZ := HZ_1; clear HZ_1
  have HF_1 := Lib.hid (HF.out.next hb1); clear HF; have HF := HF_1; clear HF_1
  have HB1 := Lib.hid (HB0.out.trans (hb1.mono HB0.out.size)); clear hb1
  obtain ⟨l0, l1, l2, _⟩ := HL.out
  obtain ⟨c0, c1, _⟩ := HC.out
  go_wp2_with fail
  refine (HV.out _).mono ?_
  rintro e w2 ⟨rfl, hb2⟩
  have HL_2 := Lib.hid (HL.out.next hb2); clear HL; have HL := HL_2; clear HL_2
  have HC_2 := Lib.hid (HC.out.next hb2); clear HC; have HC := HC_2; clear HC_2
  have HZ_2 := Lib.hid (HZ.out.next hb2); clear HZ; have HZ := HZ_2; clear HZ_2
  have HF_2 := Lib.hid (HF.out.next hb2); clear HF; have HF := HF_2; clear HF_2
  have HB2 := Lib.hid (HB1.out.trans (hb2.mono HB1.out.size)); clear hb2
  clear l0 l1 l2 c0 c1
  obtain ⟨l0, l1, l2, _⟩ := HL.out
  obtain ⟨q0, q1, q2, _⟩ := HZ.out
  have hf := HF.out.fr
  go_wp2
  obtain ⟨s0, s1, s2, s3, s4, s5⟩ := three_set (.string d) (.string p) (.int .i64 n) q0 q1 q2
  refine bodyPost_ret (v := .tuple #[.agg #[.string d, .string p, .int .i64 n], .int .i64 2]) (by simp [results, Tryd.results29, go_sem, s0, s1, s2, s3, s4, s5]) rfl ⟨rfl, below_three' HB2.out _ _ _⟩

set_option maxRecDepth 100000 in
set_option maxHeartbeats 4000000 in
theorem sapp_ok (d p : ByteArray) (n : Int) (c r : ByteArray) (w : World) (hd : d.size ≤ 1048576) (hp : p.size ≤ 1048576) (hcs : c.size ≤ 1048576) (hrs : r.size ≤ 1048576) (h : Tx.okLog (logOf d p n) = true) (hr : Tx.okE (recE c r) = true) (hn : n ≠ 60) :
    Calls Tryd.prog 29 #[logV d p n, recV c r] w fun e w' => e = .returned (.tuple #[logV d (p ++ encB n.toNat c r) (n + 1), .int .i64 0]) ∧ Below w.heap.size w w' := by
  obtain ⟨k, rfl, hk⟩ := app_n h
  have hk60 : k < 60 := by omega
  have HR := Lib.hid (fun w => l25Log_any d p (k : Int) w hd hp)
  have hA1 := below_new w (.cells #[.string d, .string p, .int .i64 k] 31)
  have hA2 := hA1.trans ((below_new (w.alloc (.cells #[.string d, .string p, .int .i64 k] 31)) (.cells #[.string c, .string r] 27)).mono hA1.size)
  have hA3 := hA2.trans ((below_new ((w.alloc (.cells #[.string d, .string p, .int .i64 k] 31)).alloc (.cells #[.string c, .string r] 27)) (.cells #[.string ⟨#[]⟩, .string ⟨#[]⟩, .int .i64 0] 31)).mono hA2.size)
  have hl := ((L3.mk' w (.string d) (.string p) (.int .i64 k) 31).next (below_new _ (.cells #[.string c, .string r] 27))).next (below_new _ (.cells #[.string ⟨#[]⟩, .string ⟨#[]⟩, .int .i64 0] 31))
  have hc := (L2.mk' (w.alloc (.cells #[.string d, .string p, .int .i64 k] 31)) (.string c) (.string r) 27).next (below_new _ (.cells #[.string ⟨#[]⟩, .string ⟨#[]⟩, .int .i64 0] 31))
  have hz := L3.mk' ((w.alloc (.cells #[.string d, .string p, .int .i64 k] 31)).alloc (.cells #[.string c, .string r] 27)) (.string ⟨#[]⟩) (.string ⟨#[]⟩) (.int .i64 0) 31
  have hf := Fr.mk' ((w.alloc (.cells #[.string d, .string p, .int .i64 k] 31)).alloc (.cells #[.string c, .string r] 27)) #[.string ⟨#[]⟩, .string ⟨#[]⟩, .int .i64 0] 31
  have e1 : (w.alloc (.cells #[.string d, .string p, .int .i64 k] 31)).heap.size = w.heap.size + 1 := by simp
  have e2 : ((w.alloc (.cells #[.string d, .string p, .int .i64 k] 31)).alloc (.cells #[.string c, .string r] 27)).heap.size = w.heap.size + 2 := by simp
  rw [e1] at hc
  rw [e2] at hz hf
  have HL := Lib.hid hl; have HC := Lib.hid hc; have HZ := Lib.hid hz; have HF := Lib.hid hf; have HB0 := Lib.hid hA3
  clear hA1 hA2 hA3 hl hc hz hf e1 e2
  have HV := Lib.hid (fun w => l25Good_any c r w (by omega) (by omega))
  have hL : ∀ w, Calls Tryd.prog 50 #[.int .i64 k, recV c r] w fun e w' => e = .returned (.string (encB k c r)) ∧ Below w.heap.size w w' := fun w => by
    have h := l25Line_any (k : Int) c r w (by omega) (by omega) (by obtain ⟨⟨_, x, _⟩, _⟩ := Tx.okE_parts hr; have : c.size ≤ 90 := by rw [← bs_len]; exact x
                                                                    omega) (by obtain ⟨_, x, _⟩ := Tx.okE_parts hr; have : r.size ≤ 200 := by rw [← bs_len]; exact x
                                                                               omega)
    rw [Int.toNat_natCast] at h
    exact h
  have HE := Lib.hid hL
  have hes : (encB k c r).size ≤ 302 := by
    have h1 := Tx.line_len (show k < 100 by omega) hr
    unfold encB
    rw [size_mk]; simp; omega
  rw [Int.toNat_natCast]
  rw [h] at HR
  rw [hr] at HV
  have hq : ((k : Int) == 60) = false := by rw [beq_eq_false_iff_ne]; exact hn
  clear h hr hn hL
  generalize encB k c r = R at HE hes
  have a1 := add_runs (P := Tryd.prog) (a := p) (b := R) (by omega) (by omega)
  have hrow : ∃ x y z, (((w.alloc (.cells #[.string d, .string p, .int .i64 k] 31)).alloc (.cells #[.string c, .string r] 27)).alloc (.cells #[.string ⟨#[]⟩, .string ⟨#[]⟩, .int .i64 0] 31)).heap[w.heap.size]? = some (.cells #[x, y, z] 31 (0, 0)) :=
    ⟨.string d, .string p, .int .i64 k, by rw [Below.heap_alloc _ _ _ (by simp; omega), Below.heap_alloc _ _ _ (by simp)]; exact heap_alloc_new w _⟩
  have HKa := Lib.hid (show Ka w _ from ⟨HB0.out, by simp, hrow⟩)
  have HFl := Lib.hid (((Fr.mk' w #[.string d, .string p, .int .i64 k] 31).next (below_new _ (.cells #[.string c, .string r] 27))).next (below_new _ (.cells #[.string ⟨#[]⟩, .string ⟨#[]⟩, .int .i64 0] 31)))
  clear hrow
  unfold logV recV at *
  go_enter Tryd.func29, Tryd.ntmps29
  go_wp2_with fail
  refine (HR.out _).mono ?_
  rintro e w1 ⟨rfl, hb1⟩
  have HL_1 := Lib.hid (HL.out.next hb1); clear HL; have HL := HL_1; clear HL_1
  have HC_1 := Lib.hid (HC.out.next hb1); clear HC; have HC := HC_1; clear HC_1
  have HZ_1 := Lib.hid (HZ.out.next hb1); clear HZ; have HZ := HZ_1; clear HZ_1
  have HF_1 := Lib.hid (HF.out.next hb1); clear HF; have HF := HF_1; clear HF_1
  have HKa_1 := Lib.hid (HKa.out.next hb1); clear HKa; have HKa := HKa_1; clear HKa_1
  have HFl_1 := Lib.hid (HFl.out.next hb1); clear HFl; have HFl := HFl_1; clear HFl_1
  have HB1 := Lib.hid (HB0.out.trans (hb1.mono HB0.out.size)); clear hb1
  obtain ⟨l0, l1, l2, _⟩ := HL.out
  obtain ⟨c0, c1, _⟩ := HC.out
  go_wp2_with fail
  refine (HV.out _).mono ?_
  rintro e w2 ⟨rfl, hb2⟩
  have HL_2 := Lib.hid (HL.out.next hb2); clear HL; have HL := HL_2; clear HL_2
  have HC_2 := Lib.hid (HC.out.next hb2); clear HC; have HC := HC_2; clear HC_2
  have HZ_2 := Lib.hid (HZ.out.next hb2); clear HZ; have HZ := HZ_2; clear HZ_2
  have HF_2 := Lib.hid (HF.out.next hb2); clear HF; have HF := HF_2; clear HF_2
  have HKa_2 := Lib.hid (HKa.out.next hb2); clear HKa; have HKa := HKa_2; clear HKa_2
  have HFl_2 := Lib.hid (HFl.out.next hb2); clear HFl; have HFl := HFl_2; clear HFl_2
  have HB2 := Lib.hid (HB1.out.trans (hb2.mono HB1.out.size)); clear hb2
  clear l0 l1 l2 c0 c1
  obtain ⟨l0, l1, l2, _⟩ := HL.out
  obtain ⟨c0, c1, _⟩ := HC.out
  go_wp2_with fail
  have p1 : w2.drew.cell? ⟨w.heap.size, 1, none⟩ = some (.string p) := l1
  have HLd := Lib.hid (HL.out.next (Below.drew (Below.refl w2.heap.size w2)))
  have HCd := Lib.hid (HC.out.next (Below.drew (Below.refl w2.heap.size w2)))
  have HZd := Lib.hid (HZ.out.next (Below.drew (Below.refl w2.heap.size w2)))
  have HFd := Lib.hid (HF.out.next (Below.drew (Below.refl w2.heap.size w2)))
  have HFld := Lib.hid (HFl.out.next (Below.drew (Below.refl w2.heap.size w2)))
  have HKd := Lib.hid (HKa.out.drew)
  have hS0 : w2.drew.cell? ⟨w.heap.size, 2, none⟩ = some (.int .i64 k) ∧ w2.drew.cell? ⟨w.heap.size + 1, 0, none⟩ = some (.string c) ∧ w2.drew.cell? ⟨w.heap.size + 1, 1, none⟩ = some (.string r) ∧ Ka w w2.drew := ⟨l2, c0, c1, HKd.out⟩
  clear hS0
  go_region_law
    (first | (go_simp; go_at_call 50; refine (HE.out _).mono ?_; rintro e w3 ⟨rfl, hb3⟩; obtain ⟨m0, m1, m2, _⟩ := HLd.out.next hb3; obtain ⟨n0, n1, _⟩ := HCd.out.next hb3; have HZ3 := Lib.hid (HZd.out.next hb3); have HF3 := Lib.hid (HFd.out.next hb3); have fl := (HFld.out.next hb3).fr; have HK3 := Lib.hid (HKd.out.next hb3); have hS3 := And.intro m2 (And.intro n0 (And.intro n1 HK3.out)); have hSs : (w3.setCell ⟨w.heap.size, 1, none⟩ (.string (p ++ R))).cell? ⟨w.heap.size, 2, none⟩ = some (.int .i64 k) ∧ (w3.setCell ⟨w.heap.size, 1, none⟩ (.string (p ++ R))).cell? ⟨w.heap.size + 1, 0, none⟩ = some (.string c) ∧ (w3.setCell ⟨w.heap.size, 1, none⟩ (.string (p ++ R))).cell? ⟨w.heap.size + 1, 1, none⟩ = some (.string r) ∧ Ka w (w3.setCell ⟨w.heap.size, 1, none⟩ (.string (p ++ R))) := ⟨set_far m2 (by simp), set_far n0 (by simp), set_far n1 (by simp), HK3.out.set _⟩))
  all_goals
    have v0 := set_far (p := ⟨w.heap.size, 1, none⟩) (v := .string (p ++ R)) m0 (by simp)
    have v1 := World.cell?_setCell_same' w3 ⟨w.heap.size, 1, none⟩ (.string (p ++ R)) (by rw [m1]; rfl)
    have v2 := set_far (p := ⟨w.heap.size, 1, none⟩) (v := .string (p ++ R)) m2 (by simp)
    obtain ⟨z0, z1, z2, _⟩ := HZ3.out
    have y0 := set_far (p := ⟨w.heap.size, 1, none⟩) (v := .string (p ++ R)) z0 (by simp)
    have y1 := set_far (p := ⟨w.heap.size, 1, none⟩) (v := .string (p ++ R)) z1 (by simp)
    have y2 := set_far (p := ⟨w.heap.size, 1, none⟩) (v := .string (p ++ R)) z2 (by simp)
    have fl4 : ∀ o, (w3.setCell ⟨w.heap.size, 1, none⟩ (.string (p ++ R))).frozen? ⟨w.heap.size, o, none⟩ = false := fun o => (frozen_set _ _ _ _).trans (fl o)
    have fz4 : ∀ o, (w3.setCell ⟨w.heap.size, 1, none⟩ (.string (p ++ R))).frozen? ⟨w.heap.size + 2, o, none⟩ = false := fun o => (frozen_set _ _ _ _).trans (HF3.out.fr o)
    have HK4 := Lib.hid hSs.2.2.2
    clear hSs m0 m1 m2 n0 n1 z0 z1 z2 fl
    generalize w3.setCell ⟨w.heap.size, 1, none⟩ (.string (p ++ R)) = w4 at *
    have x0 := set_far (p := ⟨w.heap.size, 2, none⟩) (v := .int .i64 ((k : Int) + 1)) v0 (by simp)
    have x1 := set_far (p := ⟨w.heap.size, 2, none⟩) (v := .int .i64 ((k : Int) + 1)) v1 (by simp)
    have x2 := World.cell?_setCell_same' w4 ⟨w.heap.size, 2, none⟩ (.int .i64 ((k : Int) + 1)) (by rw [v2]; rfl)
    have r0 := set_far (p := ⟨w.heap.size, 2, none⟩) (v := .int .i64 ((k : Int) + 1)) y0 (by simp)
    have r1 := set_far (p := ⟨w.heap.size, 2, none⟩) (v := .int .i64 ((k : Int) + 1)) y1 (by simp)
    have r2 := set_far (p := ⟨w.heap.size, 2, none⟩) (v := .int .i64 ((k : Int) + 1)) y2 (by simp)
    have fz5 : ∀ o, (w4.setCell ⟨w.heap.size, 2, none⟩ (.int .i64 ((k : Int) + 1))).frozen? ⟨w.heap.size + 2, o, none⟩ = false := fun o => (frozen_set _ _ _ _).trans (fz4 o)
    go_wp2
    obtain ⟨s0, s1, s2, s3, s4, s5⟩ := three_set (.string d) (.string (p ++ R)) (.int .i64 ((k : Int) + 1)) r0 r1 r2
    refine bodyPost_ret (v := .tuple #[.agg #[.string d, .string (p ++ R), .int .i64 ((k : Int) + 1)], .int .i64 0]) (by simp [results, Tryd.results29, go_sem, s0, s1, s2, s3, s4, s5]) rfl ⟨rfl, below_three' (Below.setCell (p := ⟨w.heap.size, 2, none⟩) HK4.out.bel (Nat.le_refl _) _) _ _ _⟩

end Go.Proofs.YtfdhicojnbicgaaDoor
