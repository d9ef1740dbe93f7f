/- The laws FnMergeSort and FnStable: their walks. -/
import Derived.Test.YtpbiajicdgompaaNw
import Derived.Test.YtpbiajicdgompaaGa1
import Derived.Test.YtpbiajicdgompaaSz
namespace Go.Proofs.Ytpbiajicdgompaa
open Go.RowKit Go.Sort
set_option linter.unusedVariables false

/-- A list, a number and a Bool, given back. -/
def Rd3 (w : World) (out : List (Int × Int)) (k : Int) (ok : Bool) (e : Ending) (w' : World) : Prop :=
  ∃ (a : Option Addr) (n c : Nat), e = .returned (.tuple #[.slice a n c, .int .i64 k, .bool ok]) ∧ Rd w' a n c out ∧ Below w.heap.size w w'

def msC (rs : List (Int × Int)) : Nat := if okRecs rs = true then (Mg.ms ltR rs).2 else 0
theorem ms_st (rs : List (Int × Int)) : (Mg.ms ltR rs).1 = srtR rs := Mg.ms_srt (lt := ltR) (Mg.swK Prod.fst) _ rs (Nat.le_refl _)
theorem stAns_le (rs : List (Int × Int)) : (stAns rs).length ≤ rs.length := by
  unfold stAns; split
  · rw [srtR_len]; omega
  · simp
theorem msC_le (rs : List (Int × Int)) : msC rs ≤ 6 * rs.length := by
  unfold msC
  split
  · rename_i h
    exact Mg.ms_bound (lt := ltR) (Mg.swK Prod.fst) 6 rs (by have := okRecs_le h; omega)
  · omega

set_option maxRecDepth 100000 in
set_option maxHeartbeats 2000000 in
theorem implMergeSort_any (a : Option Addr) (n c : Nat) (rs : List (Int × Int)) (w : World) (hbig : n ≤ 9223372036854775807) (h : Rd w a n c rs) :
    Calls Try.prog 32 #[.slice a n c] w (Rd3 w (stAns rs) (msC rs : Nat) (okRecs rs)) := by
  have H := Lib.hid h
  obtain ⟨hr, rfl, hn, hc⟩ := h
  have HV := Lib.hid (isValidRecords_any a c rs w hbig hr)
  clear hr hn hc
  unfold Rd3 stAns msC
  cases hok : okRecs rs
  · rw [hok] at HV
    go_enter Try.func32, Try.ntmps32
    go_wp2_with fail
    refine HV.out.mono ?_
    rintro e w1 ⟨rfl, hb⟩
    have HB := Lib.hid hb; clear hb
    go_wp2
    go_ret3
    exact ⟨none, 0, 0, rfl, rd_nil _, HB.out⟩
  · rw [hok] at HV
    have hl := okRecs_le hok
    go_enter Try.func32, Try.ntmps32
    go_wp2_with fail
    refine HV.out.mono ?_
    rintro e w1 ⟨rfl, hb⟩
    have HB := Lib.hid hb; clear hb
    go_wp2_with fail
    refine (mergeSort_any a rs.length c rs w1 (by omega) (H.out.same HB.out)).mono ?_
    rintro e w2 ⟨g, c2, rfl, ho, hb⟩
    rw [ms_st] at ho
    have HO := Lib.hid (rd_own ho)
    have HB2 := Lib.hid (HB.out.trans (hb.mono HB.out.size))
    clear ho hb
    go_wp2
    go_ret3
    exact ⟨_, _, _, rfl, HO.out, HB2.out⟩

set_option maxRecDepth 100000 in
set_option maxHeartbeats 2000000 in
theorem specMergeSort_any (a : Option Addr) (n c : Nat) (rs : List (Int × Int)) (w : World) (hbig : n ≤ 9223372036854775807) (h : Rd w a n c rs) :
    Calls Try.prog 33 #[.slice a n c] w (Rd3 w (stAns rs) (msC rs : Nat) (okRecs rs)) := by
  have H := Lib.hid h
  obtain ⟨hr, rfl, hn, hc⟩ := h
  have HV := Lib.hid (l2Records_any a c rs w hbig hr)
  clear hr hn hc
  unfold Rd3 stAns msC
  cases hok : okRecs rs
  · rw [hok] at HV
    have HB := Lib.hid (show Below w.heap.size w (w.alloc (.cells #[] 32)) from (Below.refl _ _).alloc (Nat.le_refl _) _)
    go_enter Try.func33, Try.ntmps33
    go_wp2_with fail
    refine HV.out.mono ?_
    rintro e w1 ⟨rfl, rfl⟩
    go_wp2
    go_ret3
    exact ⟨_, 0, 0, rfl, rd_some _ _ _, HB.out⟩
  · rw [hok] at HV
    have hl := okRecs_le hok
    go_enter Try.func33, Try.ntmps33
    go_wp2_with fail
    refine HV.out.mono ?_
    rintro e w1 ⟨rfl, rfl⟩
    go_wp2_with fail
    refine (l5Sort_any a rs.length c rs w (by omega) H.out).mono ?_
    rintro e w2 ⟨g, c2, rfl, ho, hb⟩
    rw [ms_st] at ho
    have HO := Lib.hid (rd_own ho)
    have HB2 := Lib.hid hb
    clear ho hb
    go_wp2
    go_ret3
    exact ⟨_, _, _, rfl, HO.out, HB2.out⟩

/-- A drawn list of records. -/
def RdDraw (w : World) (e : Ending) (w' : World) : Prop :=
  ∃ (a : Option Addr) (n c : Nat) (rs : List (Int × Int)), e = .returned (.slice a n c) ∧ Rd w' a n c rs ∧ n ≤ 70 ∧ Below w.heap.size w w'
theorem drawIV_any (ac : Option Addr) (c : Nat) (cs : List Int) (w : World) (hl : cs.length ≤ 65537) (h : BytesAt w ac cs) :
    Calls Try.prog 73 #[.slice ac cs.length c] w (RdDraw w) :=
  (drawIsValidRecords_any ac c cs w hl h).mono fun e w' ⟨a', c', rs, h1, h2, h3, h4⟩ => ⟨a', rs.length, c', rs, h1, rd_own h2, h3, h4⟩

set_option maxHeartbeats 400000 in
theorem drawMergeSort_any (ac : Option Addr) (c : Nat) (cs : List Int) (w : World) (hl : cs.length ≤ 65537) (h : BytesAt w ac cs) :
    Calls Try.prog 31 #[.slice ac cs.length c] w (RdDraw w) := by
  have HD := Lib.hid (drawIV_any ac c cs w hl h)
  clear h
  unfold RdDraw at *
  go_enter Try.func31, Try.ntmps31
  go_wp2_with fail
  refine HD.out.mono ?_
  rintro e w1 ⟨a, n, c, rs, rfl, h1, h2, h3⟩
  have H1 := Lib.hid h1; have H3 := Lib.hid h3
  clear h1 h3
  go_wp2
  go_ret
  exact ⟨_, _, _, _, rfl, H1.out, h2, H3.out⟩
set_option maxHeartbeats 400000 in
theorem drawStableSort_any (ac : Option Addr) (c : Nat) (cs : List Int) (w : World) (hl : cs.length ≤ 65537) (h : BytesAt w ac cs) :
    Calls Try.prog 16 #[.slice ac cs.length c] w (RdDraw w) := by
  have HD := Lib.hid (drawIV_any ac c cs w hl h)
  clear h
  unfold RdDraw at *
  go_enter Try.func16, Try.ntmps16
  go_wp2_with fail
  refine HD.out.mono ?_
  rintro e w1 ⟨a, n, c, rs, rfl, h1, h2, h3⟩
  have H1 := Lib.hid h1; have H3 := Lib.hid h3
  clear h1 h3
  go_wp2
  go_ret
  exact ⟨_, _, _, _, rfl, H1.out, h2, H3.out⟩

theorem below_tr {B : Nat} {w w1 w2 : World} (h : Below B w w1) (hb : Below w1.heap.size w1 w2) (hB : B ≤ w1.heap.size) : Below B w w2 := h.trans (hb.mono hB)

set_option maxRecDepth 100000 in
set_option maxHeartbeats 4000000 in
theorem lawMergeSort_any (ac : Option Addr) (cc : Nat) (cs : List Int) (w : World) (hbig : cs.length ≤ 9223372036854775807) (h : BytesAt w ac cs) :
    Calls Try.prog 5 #[.slice ac cs.length cc] w fun e w' => e = .returned (.bool true) ∧ Below w.heap.size w w' := by
  have HV := Lib.hid (vBigG_any ac cs.length cc w hbig)
  by_cases hl : 65536 < cs.length
  · rw [decide_eq_true hl] at HV
    clear h
    go_enter Try.func5, Try.ntmps5
    go_wp2_with (go_at_call 15; refine HV.out.mono ?_; rintro e w' ⟨rfl, rfl⟩)
    go_ret
    exact ⟨rfl, Below.refl _ _⟩
  rw [decide_eq_false hl] at HV
  have HD := Lib.hid (drawMergeSort_any ac cc cs w (by omega) h)
  clear h
  unfold RdDraw at HD
  go_enter Try.func5, Try.ntmps5
  go_wp2_with fail
  refine HV.out.mono ?_
  rintro e w1 ⟨rfl, rfl⟩
  go_wp2_with fail
  refine HD.out.mono ?_
  rintro e w1 ⟨a1, n1, c1, rs, rfl, hr, hl70, hb⟩
  have HR1 := Lib.hid hr; have HB1 := Lib.hid hb
  clear hr hb HD HV
  have hml := msC_le rs
  rw [HR1.out.len] at hml
  have HOK := Lib.hid (rfl : okRecs rs = okRecs rs)
  go_wp2_with fail
  refine (implMergeSort_any a1 n1 c1 rs w1 (by omega) HR1.out).mono ?_
  rintro e w2 ⟨a2, n2, c2, rfl, hr, hb⟩
  have HR2 := Lib.hid hr; have HB2 := Lib.hid (below_tr HB1.out hb HB1.out.size)
  have HQ2 := Lib.hid (HR1.out.same hb)
  clear hr hb HR1
  go_wp2_with fail
  refine (specMergeSort_any a1 n1 c1 rs w2 (by omega) HQ2.out).mono ?_
  rintro e w3 ⟨a3, n3, c3, rfl, hr, hb⟩
  have HR3 := Lib.hid hr; have HB3 := Lib.hid (below_tr HB2.out hb HB2.out.size)
  have HQ3 := Lib.hid (HQ2.out.same hb); have HS3 := Lib.hid (HR2.out.same hb)
  clear hr hb HQ2 HR2
  have hst := stAns_le rs
  have hn2 : n2 ≤ 70 := by rw [← HS3.out.len]; have := HQ3.out.len; omega
  have hn3 : n3 ≤ 70 := by rw [← HR3.out.len]; have := HQ3.out.len; omega
  have q1 : (okRecs rs != okRecs rs) = false := by simp
  have q2 : decide (stAns rs = stAns rs) = true := by simp
  clear hst
  go_wp2_with fail
  refine (vRecords_any a2 a3 n2 n3 c2 c3 _ _ w3 (by omega) (by omega) HS3.out HR3.out).mono ?_
  rintro e w4 ⟨rfl, hb⟩
  have HB4 := Lib.hid (below_tr HB3.out hb HB3.out.size)
  have HQ4 := Lib.hid (HQ3.out.same hb); have HS4 := Lib.hid (HS3.out.same hb)
  clear hb HQ3 HS3 HR3
  go_wp2_with fail
  refine (implStableSort_any a1 n1 c1 rs w4 (by omega) HQ4.out).mono ?_
  rintro e w5 ⟨a5, n5, c5, rfl, hr, hb⟩
  have HR5 := Lib.hid hr; have HB5 := Lib.hid (below_tr HB4.out hb HB4.out.size)
  have HQ5 := Lib.hid (HQ4.out.same hb); have HS5 := Lib.hid (HS4.out.same hb)
  have hn5 : n5 ≤ 70 := by rw [← HR5.out.len, HS5.out.len]; exact hn2
  clear hr hb HQ4 HS4
  have q3 : (okRecs rs == okRecs rs) = true := by simp
  go_wp2_with fail
  refine (vRecords_any a5 a2 n5 n2 c5 c2 _ _ w5 (by omega) (by omega) HR5.out HS5.out).mono ?_
  rintro e w6 ⟨rfl, hb⟩
  have HB6 := Lib.hid (below_tr HB5.out hb HB5.out.size)
  clear hb
  have hz : decide (((msC rs : Nat) : Int) ≤ 6 * (n1 : Int)) = true := decide_eq_true (by omega)
  go_wp2
  go_ret
  exact ⟨rfl, HB6.out⟩

end Go.Proofs.Ytpbiajicdgompaa
