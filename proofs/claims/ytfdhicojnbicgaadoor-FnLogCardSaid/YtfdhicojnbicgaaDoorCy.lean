/- Walks: logs that the cursor draws. -/
import Derived.Test.YtfdhicojnbicgaaDoorCx
import Derived.Test.YtfdhicojnbicgaaDoorTy
import Derived.Deep.RegionHeld3
namespace Go.Proofs.YtfdhicojnbicgaaDoor
open Go.RowKit
set_option linter.unusedVariables false

theorem enc_size {n : Int} {c r : ByteArray} (h : Tx.okE (recE c r) = true) (h0 : 0 ≤ n) (h1 : n < 60) : (encB n.toNat c r).size ≤ 302 := by
  have := Tx.line_len (k := n.toNat) (by omega) h
  unfold encB
  rw [size_mk, List.length_append]
  simp
  omega

theorem sapp_grow (d p : ByteArray) (n : Int) (c r : ByteArray) (hd : d.size ≤ 1048576) (hp : p.size ≤ 1048576) (hcs : c.size ≤ 1048576) (hrs : r.size ≤ 1048576) :
    ∃ (rd rp : ByteArray) (rn q : Int), (∀ w, Calls Tryd.prog 29 #[logV d p n, recV c r] w fun e w' => e = .returned (.tuple #[logV rd rp rn, .int .i64 q]) ∧ Below w.heap.size w w') ∧ rd.size + rp.size ≤ d.size + p.size + 302 ∧ n ≤ rn ∧ rn ≤ n + 1 := by
  cases h : Tx.okLog (logOf d p n)
  · exact ⟨_, _, _, _, fun w => sapp_badlog d p n c r w hd hp hcs hrs h, by omega, by omega, by omega⟩
  · cases hr : Tx.okE (recE c r)
    · exact ⟨_, _, _, _, fun w => sapp_badrec d p n c r w hd hp hcs hrs h hr, by omega, by omega, by omega⟩
    · by_cases hn : n = 60
      · exact ⟨_, _, _, _, fun w => sapp_full d p n c r w hd hp hcs hrs h hr hn, by omega, by omega, by omega⟩
      · refine ⟨_, _, _, _, fun w => sapp_ok d p n c r w hd hp hcs hrs h hr hn, ?_, by omega, by omega⟩
        obtain ⟨k, rfl, hk⟩ := app_n h
        have := enc_size (n := k) hr (by omega) (by omega)
        rw [size_add]
        omega
theorem ssync_grow (d p : ByteArray) (n : Int) (hd : d.size ≤ 1048576) (hp : p.size ≤ 1048576) :
    ∃ (rd rp : ByteArray) (rn : Int) (b : Bool), (∀ w, Calls Tryd.prog 27 #[logV d p n] w fun e w' => e = .returned (.tuple #[logV rd rp rn, .bool b]) ∧ Below w.heap.size w w') ∧ rd.size + rp.size ≤ d.size + p.size ∧ (rn = n ∨ rn = 0) := by
  have h := fun w => sSync_any d p n w hd hp
  unfold syncV at h
  by_cases hc : Tx.okLog (logOf d p n) = true
  · rw [if_pos hc] at h
    exact ⟨_, _, _, _, h, by rw [size_add]; exact Nat.le_refl _, .inl rfl⟩
  · rw [if_neg hc] at h
    exact ⟨_, _, _, _, h, by show 0 + 0 ≤ _; omega, .inr rfl⟩

/-- A log's block. -/
def Lrow (w : World) (g : Nat) (d p : ByteArray) (n : Int) : Prop := w.heap[g]? = some (.cells #[.string d, .string p, .int .i64 n] 31 (0, 0))
theorem Lrow.cells {w : World} {g : Nat} {d p : ByteArray} {n : Int} (h : Lrow w g d p n) : w.cell? ⟨g, 0, none⟩ = some (.string d) ∧ w.cell? ⟨g, 1, none⟩ = some (.string p) ∧ w.cell? ⟨g, 2, none⟩ = some (.int .i64 n) ∧ ∀ o, w.frozen? ⟨g, o, none⟩ = false :=
  ⟨row_cell h 0, row_cell h 1, row_cell h 2, fun o => frozen_of_row w g o _ _ h⟩
theorem Lrow.drawn {w w' : World} {bc g : Nat} {d p : ByteArray} {n : Int} (h : Lrow w g d p n) (hg : w.grownBy w' (some bc)) (hne : bc ≠ g) : Lrow w' g d p n := block_drawn h hg hne
theorem Lrow.below {w w' : World} {g : Nat} {d p : ByteArray} {n : Int} (h : Lrow w g d p n) (hb : Below w.heap.size w w') : Lrow w' g d p n := block_below h hb (Array.getElem?_eq_some_iff.1 h).1
theorem Lrow.drew {w : World} {g : Nat} {d p : ByteArray} {n : Int} (h : Lrow w g d p n) : Lrow w.drew g d p n := h
theorem Lrow.set3 {w : World} {g : Nat} {d p d' p' : ByteArray} {n n' : Int} (h : Lrow w g d p n) : Lrow (((w.setCell ⟨g, 0, none⟩ (.string d')).setCell ⟨g, 1, none⟩ (.string p')).setCell ⟨g, 2, none⟩ (.int .i64 n')) g d' p' n' :=
  heap_setCell_same _ g 2 _ _ _ (heap_setCell_same _ g 1 _ _ _ (heap_setCell_same w g 0 _ _ (.string d') h))
theorem Lrow.far {w : World} {g b j : Nat} {d p : ByteArray} {n : Int} (h : Lrow w g d p n) (u : Value) (hne : b ≠ g) : Lrow (w.setCell ⟨b, j, none⟩ u) g d p n := (heap_setCell_other w ⟨b, j, none⟩ g u (fun e => hne e.symm)).trans h
theorem Lrow.far3 {w : World} {g b : Nat} {d p : ByteArray} {n : Int} (h : Lrow w g d p n) (x y z : Value) (hne : b ≠ g) : Lrow (((w.setCell ⟨b, 0, none⟩ x).setCell ⟨b, 1, none⟩ y).setCell ⟨b, 2, none⟩ z) g d p n := ((h.far x hne).far y hne).far z hne
theorem Drawn.set3 {w0 w : World} {bc : Nat} {ac : Option Addr} {zs : List Int} {M : Int} (h : Drawn w0 w bc ac zs M) {g : Nat} (x y z : Value) (hp : w0.heap.size ≤ g) : Drawn w0 (((w.setCell ⟨g, 0, none⟩ x).setCell ⟨g, 1, none⟩ y).setCell ⟨g, 2, none⟩ z) bc ac zs M := ((h.setc x hp).setc y hp).setc z hp
theorem Drawn.hold {w0 w : World} {bc : Nat} {ac : Option Addr} {zs : List Int} {M : Int} (h : Drawn w0 w bc ac zs M) : zs ≠ [] → ∀ b off, ac = some ⟨b, off, none⟩ → b < w.heap.size := fun h0 b off e => Nat.lt_of_lt_of_le (h.old.2 h0 b off e) h.grown.size
theorem Drawn.trans {w0 w w' : World} {bc : Nat} {ac : Option Addr} {zs : List Int} {M M' : Int} (h : Drawn w0 w bc ac zs M) (h' : Drawn w w' bc ac zs M') : Drawn w0 w' bc ac zs M' := ⟨h'.cur, grown_trans h.grown h'.grown, h.old⟩

set_option maxRecDepth 100000 in
set_option maxHeartbeats 6000000 in
theorem log_any (bc : Nat) (ac : Option Addr) (cs : List Int) (M : Int) (w : World) (hM : M ≤ 1099511500000) (h : Cur w bc ac cs M) (hold : cs ≠ [] → ∀ b off, ac = some ⟨b, off, none⟩ → b < w.heap.size) :
    Calls Tryd.prog 67 #[.pointer (some ⟨bc, 0, none⟩)] w fun e w' => (∃ (d p : ByteArray) (n : Int), e = .returned (logV d p n) ∧ d.size + p.size ≤ 2200 ∧ 0 ≤ n ∧ n ≤ 7) ∧ Drawn w w' bc ac cs (M + 200) := by
  have D0 : Hid (Drawn w w bc ac cs M) := ⟨h, grown_refl _ _, h.lt, hold⟩
  have hbc := h.lt
  have Z : Obj := .cells #[.string ⟨#[]⟩, .string ⟨#[]⟩, .int .i64 0] 31
  have RA := Lib.hid (Lrow.below (show Lrow (w.alloc (.cells #[.string ⟨#[]⟩, .string ⟨#[]⟩, .int .i64 0] 31)) w.heap.size ⟨#[]⟩ ⟨#[]⟩ 0 from block_new w _) (below_new _ (.cells #[.string ⟨#[]⟩, .string ⟨#[]⟩, .int .i64 0] 31)))
  have RB0 := (show Lrow ((w.alloc (.cells #[.string ⟨#[]⟩, .string ⟨#[]⟩, .int .i64 0] 31)).alloc (.cells #[.string ⟨#[]⟩, .string ⟨#[]⟩, .int .i64 0] 31)) (w.alloc (.cells #[.string ⟨#[]⟩, .string ⟨#[]⟩, .int .i64 0] 31)).heap.size ⟨#[]⟩ ⟨#[]⟩ 0 from block_new _ _)
  rw [size_al] at RB0
  have RB := Lib.hid RB0
  have D2 := Lib.hid ((D0.out.alloc (.cells #[.string ⟨#[]⟩, .string ⟨#[]⟩, .int .i64 0] 31)).alloc (.cells #[.string ⟨#[]⟩, .string ⟨#[]⟩, .int .i64 0] 31))
  have H1 := Lib.hid (pick_any bc ac cs M 7 _ (by omega) (by omega) D2.out.cur)
  clear h hold RB0 Z
  unfold logV
  go_enter Tryd.func67, Tryd.ntmps67
  go_wp2_with fail
  refine H1.out.mono ?_
  rintro e w1 ⟨⟨q, rfl, hq0, hq1⟩, hc, hg⟩
  have D3 := Lib.hid (D2.out.step hc hg)
  have RA1 := Lib.hid (RA.out.drawn hg (by omega))
  have RB1 := Lib.hid (RB.out.drawn hg (by omega))
  clear hc hg H1 D2 RA RB
  obtain ⟨j0, rfl⟩ := Int.eq_ofNat_of_zero_le hq0
  have hj0 : j0 < 7 := by omega
  clear hq0 hq1
  go_wp2_with fail
  go_loopw [4] (fun k wr => ∃ (j : Nat) (d p : ByteArray) (n : Int), k = .int .i64 j ∧ j ≤ 7 ∧ Drawn w wr bc ac cs (M + 2 + 14 * (7 - (j : Int))) ∧ Lrow wr w.heap.size ⟨#[]⟩ ⟨#[]⟩ 0 ∧ Lrow wr (w.heap.size + 1) d p n ∧ d.size + p.size ≤ 302 * (7 - j) ∧ 0 ≤ n ∧ n ≤ 7 - (j : Int)) (fun k _ => (intOf k).toNat)
  case atStart => exact ⟨j0, ⟨#[]⟩, ⟨#[]⟩, 0, rfl, by omega, D3.out.mono (by omega), RA1.out, RB1.out, by show 0 + 0 ≤ _; omega, by omega, by omega⟩
  case round =>
    obtain ⟨j, d, p, n, rfl, hj7, hD, hA, hB, hsz, hn0, hn1⟩ := hrel
    have DD := Lib.hid hD; have RA := Lib.hid hA; have RB := Lib.hid hB
    clear hD hA hB D3 RA1 RB1
    by_cases hj : 0 < j
    case neg =>
      obtain rfl : j = 0 := by omega
      obtain ⟨a0, a1, a2, af⟩ := RA.out.cells
      obtain ⟨b0, b1, b2, bf⟩ := RB.out.cells
      have DF := Lib.hid ((DD.out.set3 (g := w.heap.size) (.string d) (.string p) (.int .i64 n) (Nat.le_refl _)).mono (M' := M + 200) (by omega))
      go_wp2
      refine bodyPost_ret (v := .agg #[.string d, .string p, .int .i64 n]) (by simp [results, Tryd.results67, go_sem, a0, a1, a2, b0, b1, b2]) rfl ⟨⟨d, p, n, rfl, by omega, by omega, by omega⟩, ?_⟩
      with_reducible exact DF.out
    obtain ⟨b0, b1, b2, bf⟩ := RB.out.cells
    have c0 : wr.drew.cell? ⟨w.heap.size + 1, 0, none⟩ = some (.string d) := b0
    have c1 : wr.drew.cell? ⟨w.heap.size + 1, 1, none⟩ = some (.string p) := b1
    have c2 : wr.drew.cell? ⟨w.heap.size + 1, 2, none⟩ = some (.int .i64 n) := b2
    have DW := Lib.hid (DD.out.below ((Below.refl wr.heap.size wr).drew))
    have RAW := Lib.hid RA.out.drew
    have RBW := Lib.hid RB.out.drew
    clear RA RB
    have hdle : d.size ≤ 3000 := by omega
    have hple : p.size ≤ 3000 := by omega
    have HLR := Lib.hid (fun W (h : Cur W bc ac cs (M + 2 + 14 * (7 - (j : Int)))) hold => logRecord_any bc ac cs (M + 2 + 14 * (7 - (j : Int))) W (by omega) h hold)
    have HAP := Lib.hid (fun c r hcs hrs => sapp_grow d p n c r (by omega) (by omega) hcs hrs)
    unfold logV recV at HAP
    unfold recV at HLR
    go_wp2_with fail
    go_region_law
      (first
        | (go_simp; go_at_call 66; refine (HLR.out _ DW.out.cur DW.out.hold).mono ?_; rintro e w2 ⟨⟨c, r, rfl, hcs, hrs⟩, hD⟩; have DX := Lib.hid (DW.out.trans hD); have RAX := Lib.hid (RAW.out.drawn hD.grown (by omega)); have RBX := Lib.hid (RBW.out.drawn hD.grown (by omega)); obtain ⟨x0, x1, x2, xf⟩ := RBX.out.cells; clear hD)
        | (go_simp; go_at_call 29; obtain ⟨rd, rp, rn, q, HA, hs1, hn3, hn4⟩ := HAP.out c r (by omega) (by omega); refine (HA _).mono ?_; rintro e w3 ⟨rfl, hb⟩; have DY := Lib.hid (DX.out.below hb); have RAY := Lib.hid (RAX.out.below hb); have RBY := Lib.hid (RBX.out.below hb); obtain ⟨y0, y1, y2, yf⟩ := RBY.out.cells; clear hb HA))
    all_goals
      clear HLR HAP DX RAX RBX x0 x1 x2 xf y0 y1 y2 yf DW RAW RBW c0 c1 c2 b0 b1 b2 bf DD
      have DZ := Lib.hid (DY.out.set3 (g := w.heap.size + 1) (.string rd) (.string rp) (.int .i64 rn) (by omega))
      have RAZ := Lib.hid (RAY.out.far3 (b := w.heap.size + 1) (.string rd) (.string rp) (.int .i64 rn) (by omega))
      have RBZ := Lib.hid (RBY.out.set3 (d' := rd) (p' := rp) (n' := rn))
      have H1 := Lib.hid (one_any bc ac cs _ 4 _ (by omega) (by omega) DZ.out.cur)
      clear DY RAY RBY
      go_wp2_with fail
      refine H1.out.mono ?_
      rintro e w4 ⟨⟨b, rfl⟩, hc, hg⟩
      have D4 := Lib.hid (DZ.out.step hc hg)
      have RA4 := Lib.hid (RAZ.out.drawn hg (by omega))
      have RB4 := Lib.hid (RBZ.out.drawn hg (by omega))
      clear H1 hc hg DZ RAZ RBZ
      cases b
      · go_wp2
        go_roundw
        case rel => exact ⟨j - 1, rd, rp, rn, by go_num, by omega, D4.out.mono (by omega), RA4.out, RB4.out, by omega, by omega, by omega⟩
        case measure => simp [intOf]; omega
      · obtain ⟨d5, p5, n5, ok, HA, hs5, hn5⟩ := ssync_grow rd rp rn (by omega) (by omega)
        unfold logV at HA
        have HA := Lib.hid HA
        obtain ⟨b0, b1, b2, bf⟩ := RB4.out.cells
        go_wp2_with fail
        refine (HA.out _).mono ?_
        rintro e w5 ⟨rfl, hb⟩
        have D5 := Lib.hid (D4.out.below hb)
        have RA5 := Lib.hid (RA4.out.below hb)
        have RB5 := Lib.hid (RB4.out.below hb)
        clear b0 b1 b2 bf hb HA D4 RA4 RB4
        obtain ⟨b0, b1, b2, bf⟩ := RB5.out.cells
        have D6 := Lib.hid (D5.out.set3 (g := w.heap.size + 1) (.string d5) (.string p5) (.int .i64 n5) (by omega))
        have RA6 := Lib.hid (RA5.out.far3 (b := w.heap.size + 1) (.string d5) (.string p5) (.int .i64 n5) (by omega))
        have RB6 := Lib.hid (RB5.out.set3 (d' := d5) (p' := p5) (n' := n5))
        clear D5 RA5 RB5
        go_wp2
        go_roundw
        case rel => exact ⟨j - 1, d5, p5, n5, by go_num, by omega, D6.out.mono (by omega), RA6.out, RB6.out, by omega, by omega, by omega⟩
        case measure => simp [intOf]; omega

end Go.Proofs.YtfdhicojnbicgaaDoor
