/- Walks: the records and logs that the log's laws draw. -/
import Derived.Test.YtfdhicojnbicgaaDoorCz
namespace Go.Proofs.YtfdhicojnbicgaaDoor
open Go.RowKit
set_option linter.unusedVariables false

theorem below_two' {w w1 : World} {B C : Nat} (h : Below B w w1) (x y : Value) (hC : B ≤ C := by omega) : Below B w ((w1.setCell ⟨C, 0, none⟩ x).setCell ⟨C, 1, none⟩ y) :=
  Below.setCell (p := ⟨C, 1, none⟩) (Below.setCell (p := ⟨C, 0, none⟩) h hC _) hC _

theorem row_far3 {w : World} {k b : Nat} {o : Obj} (h : w.heap[k]? = some o) (x y z : Value) (hne : b ≠ k) : (((w.setCell ⟨b, 0, none⟩ x).setCell ⟨b, 1, none⟩ y).setCell ⟨b, 2, none⟩ z).heap[k]? = some o := by
  have f : ∀ (W : World) (j : Nat) (u : Value), (W.setCell ⟨b, j, none⟩ u).heap[k]? = W.heap[k]? := fun W j u => heap_setCell_other W ⟨b, j, none⟩ k u (fun e => hne e.symm)
  rw [f, f, f]; exact h

set_option maxRecDepth 100000 in
set_option maxHeartbeats 4000000 in
theorem drawEncodeRecord_any (ac : Option Addr) (c : Nat) (cs : List Int) (w : World) (hl : cs.length ≤ 65537) (h : BytesAt w ac cs) :
    Calls Tryd.prog 42 #[.slice ac cs.length c] w fun e w' => (∃ (k : Int) (x r : ByteArray), e = .returned (.tuple #[.int .i64 k, recV x r]) ∧ x.size ≤ 20 ∧ r.size ≤ 20) ∧ Below w.heap.size w w' := by
  have B0 := Lib.hid (below_new w (.cells #[.string ⟨#[]⟩, .string ⟨#[]⟩] 27))
  have D0 := Lib.hid (cur_start c hl (h.below (Nat.le_refl _) B0.out))
  have B1 : Hid (Below w.heap.size w ((w.alloc (.cells #[.string ⟨#[]⟩, .string ⟨#[]⟩] 27)).alloc (.cells #[.slice ac cs.length c, .int .i64 0, .int .u64 0] 91))) := B0.out.alloc (by simp) _
  have R0 := Lib.hid (block_row (block_new w (.cells #[.string ⟨#[]⟩, .string ⟨#[]⟩] 27)) (World.grownBy_alloc (w.alloc (.cells #[.string ⟨#[]⟩, .string ⟨#[]⟩] 27)) (.cells #[.slice ac cs.length c, .int .i64 0, .int .u64 0] 91) (row := none)) (by simp))
  rw [size_al] at D0
  have D1 := Lib.hid (D0.out.alloc (.cells #[.int .i64 0, .int .i64 1, .int .i64 12, .int .i64 59, .int .i64 60, .int .i64 (-1)] 3))
  have S1 := lit_intsL ((w.alloc (.cells #[.string ⟨#[]⟩, .string ⟨#[]⟩] 27)).alloc (.cells #[.slice ac cs.length c, .int .i64 0, .int .u64 0] 91)) [0, 1, 12, 59, 60, -1] (by decide)
  rw [size_al, size_al] at S1
  have H1 := Lib.hid (among_any (w.heap.size + 1) ac cs 0 (some ⟨w.heap.size + 1 + 1, 0, none⟩) 6 [0, 1, 12, 59, 60, -1] _ (by omega) (by decide) (by decide) D1.out.cur S1 (fun b off e => by injection e with e; injection e with e; omega))
  have R1 := Lib.hid (block_row R0.out (World.grownBy_alloc ((w.alloc (.cells #[.string ⟨#[]⟩, .string ⟨#[]⟩] 27)).alloc (.cells #[.slice ac cs.length c, .int .i64 0, .int .u64 0] 91)) (.cells #[.int .i64 0, .int .i64 1, .int .i64 12, .int .i64 59, .int .i64 60, .int .i64 (-1)] 3) (row := none)) (by simp))
  unfold recV at *
  clear h B0 R0 S1
  go_enter Tryd.func42, Tryd.ntmps42
  go_wp2_with fail
  refine H1.out.mono ?_
  rintro e w1 ⟨⟨k, rfl, _⟩, hc, hg⟩
  have D2 := Lib.hid (D1.out.step hc hg)
  have R2 := Lib.hid (block_drawn R1.out hg (by omega))
  clear H1 hc hg D1 R1 D0
  have H2 := Lib.hid (logRecord_any (w.heap.size + 1) ac cs (0 + 2) _ (by omega) D2.out.cur D2.out.hold)
  unfold recV at H2
  go_wp2_with fail
  refine H2.out.mono ?_
  rintro e w2 ⟨⟨x, r, rfl, hx, hr⟩, hD⟩
  have D3 := Lib.hid (D2.out.trans hD)
  have R3 := block_drawn R2.out hD.grown (by omega)
  have r0 := row_cell R3 0
  have r1 := row_cell R3 1
  have rf : ∀ o, w2.frozen? ⟨w.heap.size, o, none⟩ = false := fun o => frozen_of_row w2 _ o _ _ R3
  simp at r0 r1
  have DF := Lib.hid (below_two' (C := w.heap.size) (D3.out.fin B1.out (by omega)) (.string x) (.string r))
  clear H2 hD D2 R2 D3 R3 B1
  go_wp2
  refine bodyPost_ret (v := .tuple #[.int .i64 k, .agg #[.string x, .string r]]) (by simp [results, Tryd.results42, go_sem, r0, r1]) rfl ⟨⟨k, x, r, rfl, hx, hr⟩, ?_⟩
  with_reducible exact DF.out

set_option maxRecDepth 100000 in
set_option maxHeartbeats 8000000 in
theorem drawAppendRecord_any (ac : Option Addr) (c : Nat) (cs : List Int) (w : World) (hl : cs.length ≤ 65537) (h : BytesAt w ac cs) :
    Calls Tryd.prog 44 #[.slice ac cs.length c] w fun e w' => (∃ (d p : ByteArray) (n : Int) (x r : ByteArray), e = .returned (.tuple #[logV d p n, recV x r]) ∧ d.size + p.size ≤ 20000 ∧ x.size ≤ 20 ∧ r.size ≤ 20) ∧ Below w.heap.size w w' := by
  have B0 := Lib.hid (below_new w (.cells #[.string ⟨#[]⟩, .string ⟨#[]⟩, .int .i64 0] 31))
  have B00 : Hid (Below w.heap.size w ((w.alloc (.cells #[.string ⟨#[]⟩, .string ⟨#[]⟩, .int .i64 0] 31)).alloc (.cells #[.string ⟨#[]⟩, .string ⟨#[]⟩] 27))) := B0.out.alloc (by simp) _
  have D0 := Lib.hid (cur_start c hl (h.below (Nat.le_refl _) B00.out))
  have B1 : Hid (Below w.heap.size w (((w.alloc (.cells #[.string ⟨#[]⟩, .string ⟨#[]⟩, .int .i64 0] 31)).alloc (.cells #[.string ⟨#[]⟩, .string ⟨#[]⟩] 27)).alloc (.cells #[.slice ac cs.length c, .int .i64 0, .int .u64 0] 91))) := B00.out.alloc (by simp; omega) _
  have R0 := Lib.hid (show Lrow (((w.alloc (.cells #[.string ⟨#[]⟩, .string ⟨#[]⟩, .int .i64 0] 31)).alloc (.cells #[.string ⟨#[]⟩, .string ⟨#[]⟩] 27)).alloc (.cells #[.slice ac cs.length c, .int .i64 0, .int .u64 0] 91)) w.heap.size ⟨#[]⟩ ⟨#[]⟩ 0 from
    block_row (block_row (block_new w _) (World.grownBy_alloc (w.alloc (.cells #[.string ⟨#[]⟩, .string ⟨#[]⟩, .int .i64 0] 31)) (.cells #[.string ⟨#[]⟩, .string ⟨#[]⟩] 27) (row := none)) (by simp)) (World.grownBy_alloc _ _ (row := none)) (by simp))
  have E0 := Lib.hid (block_row (block_new (w.alloc (.cells #[.string ⟨#[]⟩, .string ⟨#[]⟩, .int .i64 0] 31)) (.cells #[.string ⟨#[]⟩, .string ⟨#[]⟩] 27)) (World.grownBy_alloc _ (.cells #[.slice ac cs.length c, .int .i64 0, .int .u64 0] 91) (row := none)) (by simp))
  rw [size_al] at E0
  rw [size_al, size_al] at D0
  have H1 := Lib.hid (anyLog_any (w.heap.size + 1 + 1) ac cs 0 _ (by omega) D0.out.cur D0.out.hold)
  unfold logV recV at *
  clear h B0 B00
  go_enter Tryd.func44, Tryd.ntmps44
  go_wp2_with fail
  refine H1.out.mono ?_
  rintro e w1 ⟨⟨d, p, n, rfl, hs, hn0, hn1⟩, hD⟩
  have D2 := Lib.hid (D0.out.trans hD)
  have R1 := Lib.hid (R0.out.drawn hD.grown (by omega))
  have E1 := Lib.hid (block_drawn E0.out hD.grown (by omega))
  have z1 : w.heap.size + 2 < w1.heap.size := by have := hD.grown.size; simp at this; omega
  clear hD H1 D0 R0 E0
  have D3 := Lib.hid (D2.out.alloc (.cells #[.string d, .string p, .int .i64 n] 31))
  have R2 := Lib.hid (show Lrow (w1.alloc (.cells #[.string d, .string p, .int .i64 n] 31)) w.heap.size ⟨#[]⟩ ⟨#[]⟩ 0 from block_row R1.out (World.grownBy_alloc w1 (.cells #[.string d, .string p, .int .i64 n] 31) (row := none)) (by simp))
  have E2 := Lib.hid (block_row E1.out (World.grownBy_alloc w1 (.cells #[.string d, .string p, .int .i64 n] 31) (row := none)) (by simp))
  have Q2 := Lib.hid (show Lrow (w1.alloc (.cells #[.string d, .string p, .int .i64 n] 31)) w1.heap.size d p n from block_new w1 _)
  have H2 := Lib.hid (one_any (w.heap.size + 1 + 1) ac cs (0 + 300) 40 _ (by omega) (by omega) D3.out.cur)
  clear D2 R1 E1
  go_wp2_with fail
  refine H2.out.mono ?_
  rintro e w2 ⟨⟨b, rfl⟩, hc, hg⟩
  have D4 := Lib.hid (D3.out.step hc hg)
  have R3 := Lib.hid (R2.out.drawn hg (by omega))
  have E3 := Lib.hid (block_drawn E2.out hg (by omega))
  have Q3 := Lib.hid (Q2.out.drawn hg (by omega))
  clear hc hg H2 D3 R2 Q2 E2
  cases b
  · have c0 : w2.drew.cell? ⟨w1.heap.size, 0, none⟩ = some (.string d) := Q3.out.cells.1
    have c1 : w2.drew.cell? ⟨w1.heap.size, 1, none⟩ = some (.string p) := Q3.out.cells.2.1
    have c2 : w2.drew.cell? ⟨w1.heap.size, 2, none⟩ = some (.int .i64 n) := Q3.out.cells.2.2.1
    have D5 := Lib.hid (D4.out.below ((Below.refl w2.heap.size w2).drew))
    have R4 := Lib.hid R3.out.drew
    have Q4 := Lib.hid Q3.out.drew
    have E4 := Lib.hid (show w2.drew.heap[w.heap.size + 1]? = some (.cells #[.string ⟨#[]⟩, .string ⟨#[]⟩] 27 (0, 0)) from E3.out)
    have H3 := Lib.hid (logRecord_any (w.heap.size + 1 + 1) ac cs (0 + 300 + 2) _ (by omega) D5.out.cur D5.out.hold)
    have hk1 : w.heap.size + 1 ≠ w.heap.size := by omega
    have hk2 : w.heap.size ≠ w.heap.size + 1 := by omega
    have hk3 : w.heap.size ≠ w1.heap.size := by omega
    have hk4 : w.heap.size + 1 ≠ w1.heap.size := by omega
    unfold recV at H3
    clear D4 R3 Q3 E3
    go_wp2_with fail
    go_region_law
      (first
        | (go_simp; go_at_call 66; refine H3.out.mono ?_; rintro e w3 ⟨⟨x, r, rfl, hx, hr⟩, hD⟩; have D6 := Lib.hid (D5.out.trans hD); have R5 := Lib.hid (R4.out.drawn hD.grown (by omega)); have Q5 := Lib.hid (Q4.out.drawn hD.grown (by omega)); have E5 := Lib.hid (block_drawn E4.out hD.grown (by omega)); obtain ⟨x0, x1, x2, xf⟩ := Q5.out.cells; obtain ⟨y0, y1, y2, yf⟩ := R5.out.cells; have v0 : w3.cell? ⟨w.heap.size + 1, 0, none⟩ = some (.string ⟨#[]⟩) := row_cell E5.out 0; have v1 : w3.cell? ⟨w.heap.size + 1, 1, none⟩ = some (.string ⟨#[]⟩) := row_cell E5.out 1; have vf : ∀ o, w3.frozen? ⟨w.heap.size + 1, o, none⟩ = false := (fun o => frozen_of_row w3 _ o _ _ E5.out); clear hD))
    all_goals
      have B5 := Lib.hid (D6.out.fin B1.out (by omega))
      have DF := Lib.hid (below_two' (C := w.heap.size + 1) (below_three' (C := w.heap.size) B5.out (.string d) (.string p) (.int .i64 n)) (.string x) (.string r))
      have DG := Lib.hid (below_three' (C := w.heap.size) (below_two' (C := w.heap.size + 1) B5.out (.string x) (.string r)) (.string d) (.string p) (.int .i64 n))
      clear D5 D6 R4 Q4 R5 Q5 c0 c1 c2 H3 B5 E4 E5
      try simp only [Act.put]
      try simp
      go_wp2
      refine bodyPost_ret (v := .tuple #[.agg #[.string d, .string p, .int .i64 n], .agg #[.string x, .string r]]) (by simp [results, Tryd.results44, go_sem, x0, x1, x2, y0, y1, y2, v0, v1]) rfl ⟨⟨d, p, n, x, r, rfl, (by omega), hx, hr⟩, ?_⟩
      first | with_reducible exact DF.out | with_reducible exact DG.out
  · obtain ⟨b0, b1, b2, bf⟩ := Q3.out.cells
    have D5 := Lib.hid (D4.out.set3 (g := w1.heap.size) (.string ⟨#[]⟩) (.string ⟨#[]⟩) (.int .i64 0) (by simp; omega))
    have R4 := Lib.hid (R3.out.far3 (b := w1.heap.size) (.string ⟨#[]⟩) (.string ⟨#[]⟩) (.int .i64 0) (by omega))
    have E4 := Lib.hid (row_far3 E3.out (b := w1.heap.size) (.string ⟨#[]⟩) (.string ⟨#[]⟩) (.int .i64 0) (by omega))
    have Q4 := Lib.hid (Q3.out.set3 (d' := ⟨#[]⟩) (p' := ⟨#[]⟩) (n' := 0))
    have H2 := Lib.hid (pick_any (w.heap.size + 1 + 1) ac cs (0 + 300 + 2) 2 _ (by omega) (by omega) D5.out.cur)
    clear D4 R3 Q3 E3
    go_wp2_with fail
    refine H2.out.mono ?_
    rintro e w3 ⟨⟨q, rfl, hq0, hq1⟩, hc, hg⟩
    have D6 := Lib.hid (D5.out.step hc hg)
    have R5 := Lib.hid (R4.out.drawn hg (by omega))
    have E5 := Lib.hid (block_drawn E4.out hg (by omega))
    have Q5 := Lib.hid (Q4.out.drawn hg (by omega))
    clear hc hg H2 D5 R4 Q4 E4 b0 b1 b2 bf
    have hq2 : 59 + q ≤ 60 := by omega
    have hq3 : 59 + q ≤ 9223372036854775807 := by omega
    have hq4 : 0 ≤ 59 + q := by omega
    obtain ⟨J, hJ⟩ := Int.eq_ofNat_of_zero_le hq4
    clear hq4 hq1
    go_wp2_with fail
    go_loopw [6] (fun k wr => ∃ (j : Nat) (d p : ByteArray) (n : Int), k = .int .i64 j ∧ j ≤ 60 ∧ Drawn (((w.alloc (.cells #[.string ⟨#[]⟩, .string ⟨#[]⟩, .int .i64 0] 31)).alloc (.cells #[.string ⟨#[]⟩, .string ⟨#[]⟩] 27)).alloc (.cells #[.slice ac cs.length c, .int .i64 0, .int .u64 0] 91)) wr (w.heap.size + 1 + 1) ac cs (0 + 300 + 2 + 2) ∧ Lrow wr w.heap.size ⟨#[]⟩ ⟨#[]⟩ 0 ∧ wr.heap[w.heap.size + 1]? = some (.cells #[.string ⟨#[]⟩, .string ⟨#[]⟩] 27 (0, 0)) ∧ Lrow wr w1.heap.size d p n ∧ d.size + p.size ≤ 302 * (60 - j) ∧ 0 ≤ n ∧ n ≤ 60 - (j : Int)) (fun k _ => (intOf k).toNat)
    case atStart => exact ⟨J, ⟨#[]⟩, ⟨#[]⟩, 0, by first | rfl | rw [hJ], by omega, D6.out, R5.out, E5.out, Q5.out, by show 0 + 0 ≤ _; omega, by omega, by omega⟩
    case round =>
      obtain ⟨j, d, p, n, rfl, hj, hD, hR, hE, hQ, hsz, hn0, hn1⟩ := hrel
      have DR := Lib.hid hD; have RR := Lib.hid hR; have EE := Lib.hid hE; have QQ := Lib.hid hQ
      clear hD hR hE hQ D6 R5 E5 Q5 hJ hq2 hq3
      by_cases hj0 : 0 < j
      case neg =>
        obtain rfl : j = 0 := by omega
        have c0 : wr.drew.cell? ⟨w1.heap.size, 0, none⟩ = some (.string d) := QQ.out.cells.1
        have c1 : wr.drew.cell? ⟨w1.heap.size, 1, none⟩ = some (.string p) := QQ.out.cells.2.1
        have c2 : wr.drew.cell? ⟨w1.heap.size, 2, none⟩ = some (.int .i64 n) := QQ.out.cells.2.2.1
        have D5 := Lib.hid (DR.out.below ((Below.refl wr.heap.size wr).drew))
        have R4 := Lib.hid RR.out.drew
        have Q4 := Lib.hid QQ.out.drew
        have E4 := Lib.hid (show wr.drew.heap[w.heap.size + 1]? = some (.cells #[.string ⟨#[]⟩, .string ⟨#[]⟩] 27 (0, 0)) from EE.out)
        have H3 := Lib.hid (logRecord_any (w.heap.size + 1 + 1) ac cs (0 + 300 + 2 + 2) _ (by omega) D5.out.cur D5.out.hold)
        have hk1 : w.heap.size + 1 ≠ w.heap.size := by omega
        have hk2 : w.heap.size ≠ w.heap.size + 1 := by omega
        have hk3 : w.heap.size ≠ w1.heap.size := by omega
        have hk4 : w.heap.size + 1 ≠ w1.heap.size := by omega
        unfold recV at H3
        clear DR RR QQ EE
        go_wp2_with fail
        go_region_law
          (first
            | (go_simp; go_at_call 66; refine H3.out.mono ?_; rintro e w3 ⟨⟨x, r, rfl, hx, hr⟩, hD⟩; have D6 := Lib.hid (D5.out.trans hD); have R5 := Lib.hid (R4.out.drawn hD.grown (by omega)); have Q5 := Lib.hid (Q4.out.drawn hD.grown (by omega)); have E5 := Lib.hid (block_drawn E4.out hD.grown (by omega)); obtain ⟨x0, x1, x2, xf⟩ := Q5.out.cells; obtain ⟨y0, y1, y2, yf⟩ := R5.out.cells; have v0 : w3.cell? ⟨w.heap.size + 1, 0, none⟩ = some (.string ⟨#[]⟩) := row_cell E5.out 0; have v1 : w3.cell? ⟨w.heap.size + 1, 1, none⟩ = some (.string ⟨#[]⟩) := row_cell E5.out 1; have vf : ∀ o, w3.frozen? ⟨w.heap.size + 1, o, none⟩ = false := (fun o => frozen_of_row w3 _ o _ _ E5.out); clear hD))
        all_goals
          have B5 := Lib.hid (D6.out.fin B1.out (by omega))
          have DF := Lib.hid (below_two' (C := w.heap.size + 1) (below_three' (C := w.heap.size) B5.out (.string d) (.string p) (.int .i64 n)) (.string x) (.string r))
          have DG := Lib.hid (below_three' (C := w.heap.size) (below_two' (C := w.heap.size + 1) B5.out (.string x) (.string r)) (.string d) (.string p) (.int .i64 n))
          clear D5 D6 R4 Q4 R5 Q5 c0 c1 c2 H3 B5 E4 E5
          try simp only [Act.put]
          try simp
          go_wp2
          refine bodyPost_ret (v := .tuple #[.agg #[.string d, .string p, .int .i64 n], .agg #[.string x, .string r]]) (by simp [results, Tryd.results44, go_sem, x0, x1, x2, y0, y1, y2, v0, v1]) rfl ⟨⟨d, p, n, x, r, rfl, (by omega), hx, hr⟩, ?_⟩
          first | with_reducible exact DF.out | with_reducible exact DG.out
      obtain ⟨b0, b1, b2, bf⟩ := QQ.out.cells
      obtain ⟨rd, rp, rn, q5, HA, hs1, hn3, hn4⟩ := sapp_grow d p n ⟨#[120]⟩ ⟨#[]⟩ (by omega) (by omega) (by decide) (by decide)
      unfold logV recV at HA
      have HA := Lib.hid HA
      go_wp2_with fail
      refine (HA.out _).mono ?_
      rintro e w5 ⟨rfl, hb⟩
      have D5 := Lib.hid (DR.out.below hb)
      have R5 := Lib.hid (RR.out.below hb)
      have E5 := Lib.hid (block_below EE.out hb (Array.getElem?_eq_some_iff.1 EE.out).1)
      have Q5 := Lib.hid (QQ.out.below hb)
      clear b0 b1 b2 bf hb HA DR RR EE QQ
      obtain ⟨b0, b1, b2, bf⟩ := Q5.out.cells
      have D6 := Lib.hid (D5.out.set3 (g := w1.heap.size) (.string rd) (.string rp) (.int .i64 rn) (by simp; omega))
      have R6 := Lib.hid (R5.out.far3 (b := w1.heap.size) (.string rd) (.string rp) (.int .i64 rn) (by omega))
      have E6 := Lib.hid (row_far3 E5.out (b := w1.heap.size) (.string rd) (.string rp) (.int .i64 rn) (by omega))
      have Q6 := Lib.hid (Q5.out.set3 (d' := rd) (p' := rp) (n' := rn))
      clear D5 R5 Q5 E5
      go_wp2
      go_roundw
      case rel => exact ⟨j - 1, rd, rp, rn, by go_num, by omega, D6.out, R6.out, E6.out, Q6.out, by omega, by omega, by omega⟩
      case measure => simp [intOf]; omega

end Go.Proofs.YtfdhicojnbicgaaDoor
