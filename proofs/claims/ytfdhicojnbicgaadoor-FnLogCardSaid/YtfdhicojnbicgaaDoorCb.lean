/- Walks: the arguments that the log's laws draw. -/
import Derived.Test.YtfdhicojnbicgaaDoorCz
namespace Go.Proofs.YtfdhicojnbicgaaDoor
open Go.RowKit
set_option linter.unusedVariables false

def LZ : Obj := .cells #[.string ⟨#[]⟩, .string ⟨#[]⟩, .int .i64 0] 31
def EZ : Obj := .cells #[.string ⟨#[]⟩, .string ⟨#[]⟩] 27
def KZ (ac : Option Addr) (n c : Nat) : Obj := .cells #[.slice ac n c, .int .i64 0, .int .u64 0] 91

set_option maxRecDepth 100000 in
set_option maxHeartbeats 4000000 in
theorem drawCrashLog_any (ac : Option Addr) (c : Nat) (cs : List Int) (w : World) (hl : cs.length ≤ 65537) (h : BytesAt w ac cs) :
    Calls Tryd.prog 47 #[.slice ac cs.length c] w fun e w' => (∃ (d p : ByteArray) (n k : Int) (t : Bool), e = .returned (.tuple #[logV d p n, .int .i64 k, .bool t]) ∧ d.size + p.size ≤ 4500) ∧ Below w.heap.size w w' := by
  have B0 := Lib.hid (below_new w (.cells #[.string ⟨#[]⟩, .string ⟨#[]⟩, .int .i64 0] 31))
  have D0 := Lib.hid (cur_start c hl (h.below (Nat.le_refl _) B0.out))
  have B1 : Hid (Below w.heap.size w ((w.alloc (.cells #[.string ⟨#[]⟩, .string ⟨#[]⟩, .int .i64 0] 31)).alloc (.cells #[.slice ac cs.length c, .int .i64 0, .int .u64 0] 91))) := B0.out.alloc (by simp) _
  have R0 := Lib.hid (show Lrow ((w.alloc (.cells #[.string ⟨#[]⟩, .string ⟨#[]⟩, .int .i64 0] 31)).alloc (.cells #[.slice ac cs.length c, .int .i64 0, .int .u64 0] 91)) w.heap.size ⟨#[]⟩ ⟨#[]⟩ 0 from block_row (block_new w _) (World.grownBy_alloc (w.alloc (.cells #[.string ⟨#[]⟩, .string ⟨#[]⟩, .int .i64 0] 31)) (.cells #[.slice ac cs.length c, .int .i64 0, .int .u64 0] 91) (row := none)) (by simp))
  rw [size_al] at D0
  have H1 := Lib.hid (anyLog_any (w.heap.size + 1) ac cs 0 _ (by omega) D0.out.cur D0.out.hold)
  unfold logV at *
  clear h B0
  go_enter Tryd.func47, Tryd.ntmps47
  go_wp2_with fail
  refine H1.out.mono ?_
  rintro e w1 ⟨⟨d, p, n, rfl, hs, hn0, hn1⟩, hD⟩
  have D2 := Lib.hid (D0.out.trans hD)
  have R1 := Lib.hid (R0.out.drawn hD.grown (by omega))
  have z1 : w.heap.size + 1 < w1.heap.size := by have := hD.grown.size; simp at this; omega
  clear hD H1 D0 R0
  have D3 := Lib.hid (D2.out.alloc (.cells #[.string d, .string p, .int .i64 n] 31))
  have R2 := Lib.hid (show Lrow (w1.alloc (.cells #[.string d, .string p, .int .i64 n] 31)) w.heap.size ⟨#[]⟩ ⟨#[]⟩ 0 from block_row R1.out (World.grownBy_alloc w1 (.cells #[.string d, .string p, .int .i64 n] 31) (row := none)) (by simp))
  have Q2 := Lib.hid (show Lrow (w1.alloc (.cells #[.string d, .string p, .int .i64 n] 31)) w1.heap.size d p n from block_new w1 _)
  obtain ⟨a0, a1, a2, af⟩ := Q2.out.cells
  have hps : p.size ≤ 4500 := by omega
  have H2 := Lib.hid (pick_any (w.heap.size + 1) ac cs (0 + 300) ((p.size : Int) + 3) _ (by omega) (by omega) D3.out.cur)
  clear D2 R1
  go_wp2_with fail
  refine H2.out.mono ?_
  rintro e w2 ⟨⟨q, rfl, hq0, hq1⟩, hc, hg⟩
  have D4 := Lib.hid (D3.out.step hc hg)
  have R3 := Lib.hid (R2.out.drawn hg (by omega))
  have Q3 := Lib.hid (Q2.out.drawn hg (by omega))
  have hqb : q ≤ 4503 := by omega
  clear hc hg H2 D3 R2 Q2 hq1 a0 a1 a2 af
  obtain ⟨a0, a1, a2, af⟩ := Q3.out.cells
  have c0 : w2.drew.cell? ⟨w1.heap.size, 0, none⟩ = some (.string d) := a0
  have c1 : w2.drew.cell? ⟨w1.heap.size, 1, none⟩ = some (.string p) := a1
  have c2 : w2.drew.cell? ⟨w1.heap.size, 2, none⟩ = some (.int .i64 n) := a2
  have D5 := Lib.hid (D4.out.below ((Below.refl w2.heap.size w2).drew))
  have R4 := Lib.hid R3.out.drew
  have Q4 := Lib.hid Q3.out.drew
  clear D4 R3 Q3
  obtain ⟨r0, r1, r2, rf⟩ := R4.out.cells
  go_wp2_with fail
  go_region_law
    (first
      | (go_simp; go_at_call 70; refine (one_any (w.heap.size + 1) ac cs (0 + 300 + 2) 2 _ (by omega) (by omega) D5.out.cur).mono ?_; rintro e w3 ⟨⟨b, rfl⟩, hc, hg⟩; have D6 := Lib.hid (D5.out.step hc hg); have R5 := Lib.hid (R4.out.drawn hg (by omega)); have Q5 := Lib.hid (Q4.out.drawn hg (by omega)); obtain ⟨x0, x1, x2, xf⟩ := Q5.out.cells; obtain ⟨y0, y1, y2, yf⟩ := R5.out.cells; clear hc hg))
  all_goals
    have DF := Lib.hid (below_three' (C := w.heap.size) (D6.out.fin B1.out (by omega)) (.string d) (.string p) (.int .i64 n))
    clear D5 D6 R4 Q4 R5 Q5 c0 c1 c2 r0 r1 r2 rf a0 a1 a2 af
    simp only [Act.put]
    simp
    go_wp2
    refine bodyPost_ret (v := .tuple #[.agg #[.string d, .string p, .int .i64 n], .int .i64 (q - 1), .bool b]) (by simp [results, Tryd.results47, go_sem, x0, x1, x2, y0, y1, y2]) rfl ⟨⟨d, p, n, q - 1, b, rfl, hs⟩, ?_⟩
    with_reducible exact DF.out

end Go.Proofs.YtfdhicojnbicgaaDoor
