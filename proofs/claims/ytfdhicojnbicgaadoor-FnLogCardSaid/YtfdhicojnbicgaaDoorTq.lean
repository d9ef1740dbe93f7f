/- Walks of the laws' own functions on logs; the law FnExactRecoverLog. -/
import Derived.Test.YtfdhicojnbicgaaDoorTo
namespace Go.Proofs.YtfdhicojnbicgaaDoor
open Go.RowKit
set_option linter.unusedVariables false

set_option maxHeartbeats 400000 in
theorem eqLog_same (d p : ByteArray) (n : Int) (w : World) :
    Calls Tryd.prog 20 #[logV d p n, logV d p n] w fun e w' => e = .returned (.bool true) ∧ Below w.heap.size w w' := by
  have h1 : (!(d.toList == d.toList)) = false := by simp
  have h2 : (!(p.toList == p.toList)) = false := by simp
  have h3 : (n != n) = false := by simp
  unfold logV
  go_enter Tryd.func20, Tryd.ntmps20
  go_wp2
  go_ret
  exact ⟨rfl, by (repeat (first | exact Below.refl _ _ | assumption | refine Below.setCell ?_ (by first | omega | (simp; done) | (simp; omega)) _ | refine Below.alloc ?_ (by first | omega | (simp; done) | (simp; omega)) _ | refine Below.drew ?_ | refine below_drewN ?_ _))⟩

set_option maxHeartbeats 400000 in
theorem toLog_any (d p : ByteArray) (n : Int) (w : World) :
    Calls Tryd.prog 23 #[logV d p n] w fun e w' => e = .returned (logV d p n) ∧ Below w.heap.size w w' := by
  unfold logV
  go_enter Tryd.func23, Tryd.ntmps23
  go_wp2
  refine bodyPost_ret (v := .agg #[.string d, .string p, .int .i64 n]) (by simp [results, Tryd.results23, go_sem]) rfl ⟨rfl, ?_⟩
  (repeat (first | exact Below.refl _ _ | assumption | refine Below.setCell ?_ (by first | omega | (simp; done) | (simp; omega)) _ | refine Below.alloc ?_ (by first | omega | (simp; done) | (simp; omega)) _ | refine Below.drew ?_ | refine below_drewN ?_ _))

set_option maxHeartbeats 400000 in
theorem szLog_yes (d p : ByteArray) (n l : Int) (w : World) (h0 : 0 ≤ l) (h1 : l ≤ 1048576) (h : (d.size : Int) + p.size ≤ l) :
    Calls Tryd.prog 21 #[logV d p n, .int .i64 l] w fun e w' => e = .returned (.int .i64 (l - d.size - p.size)) ∧ Below w.heap.size w w' := by
  unfold logV
  go_enter Tryd.func21, Tryd.ntmps21
  go_wp2
  go_ret
  exact ⟨rfl, by (repeat (first | exact Below.refl _ _ | assumption | refine Below.setCell ?_ (by first | omega | (simp; done) | (simp; omega)) _ | refine Below.alloc ?_ (by first | omega | (simp; done) | (simp; omega)) _ | refine Below.drew ?_ | refine below_drewN ?_ _))⟩

set_option maxHeartbeats 400000 in
theorem szLog_no (d p : ByteArray) (n l : Int) (w : World) (hd : d.size ≤ 9223372036854775807) (hp : p.size ≤ 9223372036854775807) (h0 : 0 ≤ l) (h1 : l ≤ 1048576) (h : l < (d.size : Int) + p.size) :
    Calls Tryd.prog 21 #[logV d p n, .int .i64 l] w fun e w' => e = .returned (.int .i64 (-1)) ∧ Below w.heap.size w w' := by
  unfold logV
  by_cases h2 : (d.size : Int) ≤ l
  all_goals
    go_enter Tryd.func21, Tryd.ntmps21
    go_wp2
    go_ret
    exact ⟨rfl, by (repeat (first | exact Below.refl _ _ | assumption | refine Below.setCell ?_ (by first | omega | (simp; done) | (simp; omega)) _ | refine Below.alloc ?_ (by first | omega | (simp; done) | (simp; omega)) _ | refine Below.drew ?_ | refine below_drewN ?_ _))⟩

set_option maxHeartbeats 2000000 in
theorem lawRecoverLog_any (s : ByteArray) (w : World) (ht : Tab w) (hs : s.size ≤ 9223372036854775807) :
    Calls Tryd.prog 4 #[.string s] w fun e w' => e = .returned (.bool true) ∧ Below w.heap.size w w' := by
  by_cases hbig : s.size ≤ 1048576
  case neg =>
    go_enter Tryd.func4, Tryd.ntmps4
    go_wp2
    go_ret
    exact ⟨rfl, Below.refl _ _⟩
  have hGI : ∃ (d p : ByteArray) (n m : Int) (b : Bool), (∀ w, Calls Tryd.prog 18 #[.string s] w fun e w' => e = .returned (.tuple #[logV d p n, .int .i64 m, .bool b]) ∧ Below w.heap.size w w') ∧
      (∀ w, Tab w → Calls Tryd.prog 19 #[.string s] w fun e w' => e = .returned (.tuple #[logV d p n, .int .i64 m, .bool b]) ∧ Below w.heap.size w w') := by
    by_cases h : s.size ≤ 30000
    · exact ⟨_, _, _, _, _, fun w => sRecover_any s w h, fun w ht => recover_any s w h ht⟩
    · exact ⟨_, _, _, _, _, fun w => sRecover_big s w (by omega) hs, fun w _ => recover_big s w (by omega) hs⟩
  obtain ⟨d, p, n, m, b, hG, hI⟩ := hGI
  have HG := Lib.hid hG; have HI := Lib.hid hI; have HT := Lib.hid ht
  have HQ := Lib.hid (fun w => eqLog_same d p n w)
  have h1 : (m != m) = false := by simp
  have h2 : (b != b) = false := by simp
  clear hG hI ht
  unfold logV at HG HI HQ
  go_enter Tryd.func4, Tryd.ntmps4
  go_wp2_with fail
  refine (HG.out _).mono ?_
  rintro e w1 ⟨rfl, hb1⟩
  have HB1 := Lib.hid (hb1.alloc hb1.size (.cells #[.string d, .string p, .int .i64 n] 31)); 
  have hz := hb1.size
  clear hb1
  go_wp2_with fail
  refine (HI.out _ (HT.out.below HB1.out)).mono ?_
  rintro e w2 ⟨rfl, hb2⟩
  have g0 : w2.cell? ⟨w1.heap.size, 0, none⟩ = some (.string d) := (bcell hb2 (by simp)).trans (alloc_cell 0)
  have g1 : w2.cell? ⟨w1.heap.size, 1, none⟩ = some (.string p) := (bcell hb2 (by simp)).trans (alloc_cell 1)
  have g2 : w2.cell? ⟨w1.heap.size, 2, none⟩ = some (.int .i64 n) := (bcell hb2 (by simp)).trans (alloc_cell 2)
  have hz2 : w1.heap.size < w2.heap.size := by have := hb2.size; simp at this; omega
  have HB2 := Lib.hid ((HB1.out.trans (hb2.mono HB1.out.size)).alloc (HB1.out.trans (hb2.mono HB1.out.size)).size (.cells #[.string d, .string p, .int .i64 n] 31))
  clear hb2
  go_wp2_with fail
  refine (HQ.out _).mono ?_
  rintro e w3 ⟨rfl, hb3⟩
  have HB3 := Lib.hid (HB2.out.trans (hb3.mono HB2.out.size)); clear hb3
  go_wp2
  go_ret
  exact ⟨rfl, HB3.out⟩

end Go.Proofs.YtfdhicojnbicgaaDoor
