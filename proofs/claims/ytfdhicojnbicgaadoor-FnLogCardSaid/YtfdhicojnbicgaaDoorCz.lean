/- Walks: the logs, records and texts that the log's laws draw. -/
import Derived.Test.YtfdhicojnbicgaaDoorCy
namespace Go.Proofs.YtfdhicojnbicgaaDoor
open Go.RowKit
set_option linter.unusedVariables false

theorem lit_intsL (W : World) (l : List Int) (h : l.length ≤ 1000) : IntsAt (W.alloc (.cells (l.map (Value.int .i64)).toArray 3)) (some ⟨W.heap.size, 0, none⟩) l :=
  ints_of_own (c := l.length) (n := l.length) (base := W.heap.size) (by simpa using own_lit (w := W) (e := 3) (size := 1) (l.map (Value.int .i64)).toArray l.length (by omega) (by simp))

/-- A cursor just made. -/
theorem cur_start {w : World} {ac : Option Addr} {cs : List Int} (c : Nat) (hl : cs.length ≤ 65537) (h : BytesAt w ac cs) :
    Drawn (w.alloc (.cells #[.slice ac cs.length c, .int .i64 0, .int .u64 0] 91)) (w.alloc (.cells #[.slice ac cs.length c, .int .i64 0, .int .u64 0] 91)) w.heap.size ac cs 0 := by
  have HB : Below w.heap.size w (w.alloc (.cells #[.slice ac cs.length c, .int .i64 0, .int .u64 0] 91)) := (Below.refl _ _).alloc (Nat.le_refl _) _
  have HO : cs ≠ [] → ∀ b off, ac = some ⟨b, off, none⟩ → b < w.heap.size := fun h0 b off e => by
    obtain ⟨b', off', e', hb⟩ := h.lt h0
    rw [e] at e'; injection e' with e'; injection e' with e' _; omega
  exact ⟨⟨⟨c, 0, 0, block_new w _, by omega, by omega⟩, h.below (Nat.le_refl _) HB, fun h0 b off e => by have := HO h0 b off e; omega, by omega⟩, grown_refl _ _, by simp, fun h0 b off e => by have := HO h0 b off e; simp; omega⟩
theorem Drawn.fin {w w0 w' : World} {bc : Nat} {ac : Option Addr} {zs : List Int} {M : Int} (h : Drawn w0 w' bc ac zs M) (hb : Below w.heap.size w w0) (hbc : w.heap.size ≤ bc) : Below w.heap.size w w' :=
  below_of_grown hb hb.size h.grown (fun k hk => by injection hk with hk; omega)

set_option maxHeartbeats 400000 in
theorem vBigB_any (a : Option Addr) (n c : Nat) (w : World) (hn : n ≤ 9223372036854775807) :
    Calls Tryd.prog 41 #[.slice a n c] w fun e w' => e = .returned (.bool (decide (65536 < n))) ∧ w = w' := by
  by_cases h : 65536 < n
  all_goals
    go_enter Tryd.func41, Tryd.ntmps41
    go_wp2
    go_ret
    exact ⟨ret_bool (by simp [h]; try omega), rfl⟩

set_option maxRecDepth 100000 in
set_option maxHeartbeats 4000000 in
theorem anyLog_any (bc : Nat) (ac : Option Addr) (cs : List Int) (M : Int) (w : World) (hM : M ≤ 1099511400000) (h : Cur w bc ac cs M) (hold : cs ≠ [] → ∀ b off, ac = some ⟨b, off, none⟩ → b < w.heap.size) :
    Calls Tryd.prog 71 #[.pointer (some ⟨bc, 0, none⟩)] w fun e w' => (∃ (d p : ByteArray) (n : Int), e = .returned (logV d p n) ∧ d.size + p.size ≤ 4500 ∧ 0 ≤ n ∧ n ≤ 8) ∧ Drawn w w' bc ac cs (M + 300) := by
  have D0 : Hid (Drawn w w bc ac cs M) := ⟨h, grown_refl _ _, h.lt, hold⟩
  have hbc := h.lt
  have R0 := Lib.hid (show Lrow (w.alloc (.cells #[.string ⟨#[]⟩, .string ⟨#[]⟩, .int .i64 0] 31)) w.heap.size ⟨#[]⟩ ⟨#[]⟩ 0 from block_new w _)
  have D1 := Lib.hid (D0.out.alloc (.cells #[.string ⟨#[]⟩, .string ⟨#[]⟩, .int .i64 0] 31))
  have H1 := Lib.hid (log_any bc ac cs M _ (by omega) D1.out.cur D1.out.hold)
  clear h hold
  unfold logV at *
  go_enter Tryd.func71, Tryd.ntmps71
  go_wp2_with fail
  refine H1.out.mono ?_
  rintro e w1 ⟨⟨d, p, n, rfl, hs, hn0, hn1⟩, hD⟩
  have D2 := Lib.hid (D1.out.trans hD)
  have R1 := Lib.hid (R0.out.drawn hD.grown (by omega))
  have z1 : w.heap.size < w1.heap.size := by have := hD.grown.size; simp at this; omega
  clear hD H1 D1 R0
  have D3 := Lib.hid (D2.out.alloc (.cells #[.string d, .string p, .int .i64 n] 31))
  have R2 := Lib.hid (show Lrow (w1.alloc (.cells #[.string d, .string p, .int .i64 n] 31)) w.heap.size ⟨#[]⟩ ⟨#[]⟩ 0 from block_row R1.out (World.grownBy_alloc w1 (.cells #[.string d, .string p, .int .i64 n] 31) (row := none)) (by simp))
  have Q2 := Lib.hid (show Lrow (w1.alloc (.cells #[.string d, .string p, .int .i64 n] 31)) w1.heap.size d p n from block_new w1 _)
  have H2 := Lib.hid (pick_any bc ac cs (M + 200) 24 _ (by omega) (by omega) D3.out.cur)
  clear D2 R1
  go_wp2_with fail
  refine H2.out.mono ?_
  rintro e w2 ⟨⟨q, rfl, hq0, hq1⟩, hc, hg⟩
  have D4 := Lib.hid (D3.out.step hc hg)
  have R3 := Lib.hid (R2.out.drawn hg (by omega))
  have Q3 := Lib.hid (Q2.out.drawn hg (by omega))
  have z2 : w1.heap.size < w2.heap.size := by have := hg.size; simp at this; omega
  clear hc hg H2 D3 R2 Q2
  have zne : w1.heap.size ≠ w.heap.size := by omega
  have zne' : w.heap.size ≠ w1.heap.size := by omega
  obtain ⟨a0, a1, a2, af⟩ := R3.out.cells
  obtain ⟨b0, b1, b2, bf⟩ := Q3.out.cells
  by_cases hq : q = 0
  · subst hq
    have hw : n + 1 ≤ 9223372036854775807 := by omega
    have DF := Lib.hid (((D4.out.setc (g := w1.heap.size) (j := 2) (.int .i64 (n + 1)) (by omega)).set3 (g := w.heap.size) (.string d) (.string p) (.int .i64 (n + 1)) (Nat.le_refl _)).mono (M' := M + 300) (by omega))
    clear D4 R3 Q3
    go_wp2
    refine bodyPost_ret (v := .agg #[.string d, .string p, .int .i64 (n + 1)]) (by simp [results, Tryd.results71, go_sem, a0, a1, a2, b0, b1, b2]) rfl ⟨⟨d, p, n + 1, rfl, by omega, by omega, by omega⟩, ?_⟩
    with_reducible exact DF.out
  have q1 : (q == 0) = false := by simpa using hq
  by_cases hq : q = 1
  · subst hq
    have H3 := Lib.hid (spoilt_any bc ac cs (M + 200 + 2) p ⟨#[35, 62, 10, 48, 49]⟩ _ (by omega) (by omega) (by decide) (by decide) D4.out.cur)
    go_wp2_with fail
    refine H3.out.mono ?_
    rintro e w3 ⟨⟨s, rfl, hsz⟩, hc, hg⟩
    have D5 := Lib.hid (D4.out.step hc hg)
    have R4 := Lib.hid (R3.out.drawn hg (by omega))
    have Q4 := Lib.hid (Q3.out.drawn hg (by omega))
    clear hc hg H3 D4 R3 Q3 a0 a1 a2 af b0 b1 b2 bf
    obtain ⟨a0, a1, a2, af⟩ := R4.out.cells
    obtain ⟨b0, b1, b2, bf⟩ := Q4.out.cells
    have DF := Lib.hid (((D5.out.setc (g := w1.heap.size) (j := 1) (.string s) (by omega)).set3 (g := w.heap.size) (.string d) (.string s) (.int .i64 n) (Nat.le_refl _)).mono (M' := M + 300) (by omega))
    clear D5 R4 Q4
    go_wp2
    refine bodyPost_ret (v := .agg #[.string d, .string s, .int .i64 n]) (by simp [results, Tryd.results71, go_sem, a0, a1, a2, b0, b1, b2]) rfl ⟨⟨d, s, n, rfl, by omega, by omega, by omega⟩, ?_⟩
    with_reducible exact DF.out
  have q2 : (q == 1) = false := by simpa using hq
  by_cases hq : q = 2
  · subst hq
    have e1 := add_runs (P := Tryd.prog) (a := d) (b := p) (by omega) (by omega)
    have hsz : (d ++ p).size = d.size + p.size := size_add d p
    have DF := Lib.hid (((D4.out.setc (g := w1.heap.size) (j := 0) (.string (d ++ p)) (by omega)).set3 (g := w.heap.size) (.string (d ++ p)) (.string p) (.int .i64 n) (Nat.le_refl _)).mono (M' := M + 300) (by omega))
    clear D4 R3 Q3
    go_wp2
    refine bodyPost_ret (v := .agg #[.string (d ++ p), .string p, .int .i64 n]) (by simp [results, Tryd.results71, go_sem, a0, a1, a2, b0, b1, b2]) rfl ⟨⟨d ++ p, p, n, rfl, by omega, by omega, by omega⟩, ?_⟩
    with_reducible exact DF.out
  have q3 : (q == 2) = false := by simpa using hq
  have DF := Lib.hid ((D4.out.set3 (g := w.heap.size) (.string d) (.string p) (.int .i64 n) (Nat.le_refl _)).mono (M' := M + 300) (by omega))
  clear D4 R3 Q3
  go_wp2
  refine bodyPost_ret (v := .agg #[.string d, .string p, .int .i64 n]) (by simp [results, Tryd.results71, go_sem, a0, a1, a2, b0, b1, b2]) rfl ⟨⟨d, p, n, rfl, by omega, by omega, by omega⟩, ?_⟩
  with_reducible exact DF.out

end Go.Proofs.YtfdhicojnbicgaaDoor
