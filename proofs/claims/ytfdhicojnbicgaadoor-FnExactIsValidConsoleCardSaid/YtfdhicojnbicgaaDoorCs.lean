/- Walks: consoles compared. -/
import Derived.Test.YtfdhicojnbicgaaDoorKd
import Derived.Test.YtfdhicojnbicgaaDoorWf
namespace Go.Proofs.YtfdhicojnbicgaaDoor
open Go.RowKit
set_option linter.unusedVariables false

def eqL (d p : ByteArray) (c : Int) (d' p' : ByteArray) (c' : Int) : Bool := (d.toList == d'.toList) && (p.toList == p'.toList) && (c == c')

set_option maxHeartbeats 400000 in
theorem eqLog_any (d p : ByteArray) (c : Int) (d' p' : ByteArray) (c' : Int) (w : World) :
    Calls Tryd.prog 20 #[.agg #[.string d, .string p, .int .i64 c], .agg #[.string d', .string p', .int .i64 c']] w fun e w' => e = .returned (.bool (eqL d p c d' p' c')) ∧ Below w.heap.size w w' := by
  go_enter Tryd.func20, Tryd.ntmps20
  go_wp2
  all_goals
    go_ret
    exact ⟨ret_bool (by simp_all [eqL]), by (repeat (first | exact Below.refl _ _ | assumption | refine Below.setCell ?_ (by first | omega | (simp; done) | (simp; omega)) _ | refine Below.alloc ?_ (by first | omega | (simp; done) | (simp; omega)) _ | refine Below.drew ?_ | refine below_drewN ?_ _))⟩

def eqC (rs : List (Int × Int)) (d p : ByteArray) (c : Int) (rs' : List (Int × Int)) (d' p' : ByteArray) (c' : Int) : Bool := decide (rs = rs') && eqL d p c d' p' c'

theorem cells4 {w : World} {g : Nat} {x0 x1 x2 x3 : Value} {e : TypeId} {f : Nat × Nat} (h : w.heap[g]? = some (.cells #[x0, x1, x2, x3] e f)) :
    w.cell? ⟨g, 0, none⟩ = some x0 ∧ w.cell? ⟨g, 1, none⟩ = some x1 ∧ w.cell? ⟨g, 2, none⟩ = some x2 ∧ w.cell? ⟨g, 3, none⟩ = some x3 :=
  ⟨row_cell h 0, row_cell h 1, row_cell h 2, row_cell h 3⟩

set_option maxHeartbeats 400000 in
theorem eqConsole_any (a : Option Addr) (n : Nat) (rs : List (Int × Int)) (d p : ByteArray) (c : Int) (a' : Option Addr) (n' : Nat) (rs' : List (Int × Int)) (d' p' : ByteArray) (c' : Int) (w : World) (b1 : rs.length ≤ 9223372036854775807) (b2 : rs'.length ≤ 9223372036854775807) (h1 : RecsAt w a rs) (h2 : RecsAt w a' rs') :
    Calls Tryd.prog 40 #[.agg #[.slice a rs.length n, .string d, .string p, .int .i64 c], .agg #[.slice a' rs'.length n', .string d', .string p', .int .i64 c']] w fun e w' => e = .returned (.bool (eqC rs d p c rs' d' p' c')) ∧ Below w.heap.size w w' := by
  have HB : Hid (Below w.heap.size w ((w.alloc (.cells #[.slice a rs.length n, .string d, .string p, .int .i64 c] 60)).alloc (.cells #[.slice a' rs'.length n', .string d', .string p', .int .i64 c'] 60))) := ((Below.refl _ _).alloc (Nat.le_refl _) _).alloc (by simp) _
  have R1 := Lib.hid ((block_new w (.cells #[.slice a rs.length n, .string d, .string p, .int .i64 c] 60)))
  have R2 := Lib.hid ((block_new (w.alloc (.cells #[.slice a rs.length n, .string d, .string p, .int .i64 c] 60)) (.cells #[.slice a' rs'.length n', .string d', .string p', .int .i64 c'] 60)))
  have HE := Lib.hid (eqRecordS_any a a' n n' rs rs' _ b1 b2 (h1.below (Nat.le_refl _) HB.out) (h2.below (Nat.le_refl _) HB.out))
  clear h1 h2
  go_enter Tryd.func40, Tryd.ntmps40
  go_wp2_with fail
  refine HE.out.mono ?_
  rintro e w1 ⟨rfl, hb⟩
  have HB1 := Lib.hid (HB.out.trans (hb.mono HB.out.size))
  have Q1 := Lib.hid (block_below (block_row R1.out (World.grownBy_alloc _ _ (row := none)) (by simp)) hb (by simp; omega))
  have Q2 := Lib.hid (block_below R2.out hb (by simp))
  rw [size_al] at Q2
  clear hb
  obtain ⟨c0, c1, c2, c3⟩ := cells4 Q1.out
  obtain ⟨k0, k1, k2, k3⟩ := cells4 Q2.out
  by_cases hq : rs = rs'
  · have HQ := Lib.hid hq
    rw [decide_eq_true hq]
    clear hq
    go_wp2_with fail
    refine (eqLog_any d p c d' p' c' _).mono ?_
    rintro e w2 ⟨rfl, hb⟩
    have HB2 := Lib.hid (HB1.out.trans (hb.mono HB1.out.size))
    clear hb c0 c1 c2 c3 k0 k1 k2 k3
    cases he : eqL d p c d' p' c'
    all_goals
      have HX := Lib.hid he; clear he
      go_wp2
      go_ret
      exact ⟨ret_bool (by rw [eqC, decide_eq_true HQ.out, HX.out]; rfl), HB2.out⟩
  · have HQ := Lib.hid hq
    rw [decide_eq_false hq]
    clear hq
    go_wp2
    go_ret
    exact ⟨ret_bool (by rw [eqC, decide_eq_false HQ.out]; rfl), HB1.out⟩

end Go.Proofs.YtfdhicojnbicgaaDoor
