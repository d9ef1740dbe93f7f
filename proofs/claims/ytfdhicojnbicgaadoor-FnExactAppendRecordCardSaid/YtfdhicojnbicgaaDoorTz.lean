/- The law FnExactAppendRecord: its walk. -/
import Derived.Test.YtfdhicojnbicgaaDoorTy
import Derived.Deep.RegionHeld3
namespace Go.Proofs.YtfdhicojnbicgaaDoor
open Go.RowKit
set_option linter.unusedVariables false

theorem L3.drew {w : World} {B : Nat} {x y z : Value} (h : L3 w B x y z) : L3 w.drew B x y z := ⟨h.c0, h.c1, h.c2, h.lt⟩
theorem L2.drew {w : World} {B : Nat} {x y : Value} (h : L2 w B x y) : L2 w.drew B x y := ⟨h.c0, h.c1, h.lt⟩
/-- What is held while two structs are copied. -/
structure Kb (w0 : World) (B : Nat) (x y z u v : Value) (w : World) : Prop where
  log : L3 w B x y z
  rcd : L2 w (B + 1) u v
  bel : Below w0.heap.size w0 w
theorem Kb.drew {w0 w : World} {B : Nat} {x y z u v : Value} (h : Kb w0 B x y z u v w) : Kb w0 B x y z u v w.drew := ⟨h.1.drew, h.2.drew, Below.drew h.3⟩
theorem Kb.next {w0 w w' : World} {B : Nat} {x y z u v : Value} (h : Kb w0 B x y z u v w) (hb : Below w.heap.size w w') : Kb w0 B x y z u v w' := ⟨h.1.next hb, h.2.next hb, h.3.trans (hb.mono h.3.size)⟩
theorem Kb.alloc {w0 w : World} {B : Nat} {x y z u v : Value} (h : Kb w0 B x y z u v w) (o : Obj) : Kb w0 B x y z u v (w.alloc o) := h.next (below_new w o)
theorem Kb.set {w0 w : World} {B : Nat} {x y z u v : Value} (h : Kb w0 B x y z u v w) {p : Addr} (s : Value) (hp : B + 1 < p.block) (h0 : w0.heap.size ≤ B) : Kb w0 B x y z u v (w.setCell p s) := by
  have e : ∀ b i, b ≤ B + 1 → (w.setCell p s).cell? ⟨b, i, none⟩ = w.cell? ⟨b, i, none⟩ := fun b i hb => World.cell?_setCell_far w p _ s (by show p.block ≠ b; omega)
  have hs : (w.setCell p s).heap.size = w.heap.size := by simp [World.setCell]
  exact ⟨⟨(e _ _ (by omega)).trans h.1.c0, (e _ _ (by omega)).trans h.1.c1, (e _ _ (by omega)).trans h.1.c2, by rw [hs]; exact h.1.lt⟩, ⟨(e _ _ (by omega)).trans h.2.c0, (e _ _ (by omega)).trans h.2.c1, by rw [hs]; exact h.2.lt⟩, Below.setCell (p := p) h.3 (by omega) s⟩
theorem Kb.al {w0 w : World} {B : Nat} {x y z u v : Value} (h : Kb w0 B x y z u v w) (o : Obj) : (w.alloc o).cell? ⟨B, 0, none⟩ = some x ∧ (w.alloc o).cell? ⟨B, 1, none⟩ = some y ∧ (w.alloc o).cell? ⟨B, 2, none⟩ = some z ∧ (w.alloc o).cell? ⟨B + 1, 0, none⟩ = some u ∧ (w.alloc o).cell? ⟨B + 1, 1, none⟩ = some v := ⟨(h.alloc o).1.c0, (h.alloc o).1.c1, (h.alloc o).1.c2, (h.alloc o).2.c0, (h.alloc o).2.c1⟩
theorem Kb.cells {w0 w : World} {B : Nat} {x y z u v : Value} (h : Kb w0 B x y z u v w) : w.cell? ⟨B, 0, none⟩ = some x ∧ w.cell? ⟨B, 1, none⟩ = some y ∧ w.cell? ⟨B, 2, none⟩ = some z ∧ w.cell? ⟨B + 1, 0, none⟩ = some u ∧ w.cell? ⟨B + 1, 1, none⟩ = some v ∧ Kb w0 B x y z u v w := ⟨h.1.c0, h.1.c1, h.1.c2, h.2.c0, h.2.c1, h⟩

structure Bq (w0 w : World) : Prop where
  out : Below w0.heap.size w0 w
theorem Bq.drew {w0 w : World} (h : Bq w0 w) : Bq w0 w.drew := ⟨Below.drew h.1⟩
theorem Bq.alloc {w0 w : World} (h : Bq w0 w) (o : Obj) : Bq w0 (w.alloc o) := ⟨h.1.alloc h.1.size o⟩
theorem Bq.next {w0 w w' : World} (h : Bq w0 w) (hb : Below w.heap.size w w') : Bq w0 w' := ⟨h.1.trans (hb.mono h.1.size)⟩
theorem Bq.set {w0 w : World} (h : Bq w0 w) {p : Addr} (v : Value) (hp : w0.heap.size ≤ p.block) : Bq w0 (w.setCell p v) := ⟨h.1.setCell hp v⟩

/-- A fresh struct of three cells, before its store. -/
structure Z3 (w : World) (g : Nat) (x y z : Value) : Prop where
  c0 : w.cell? ⟨g, 0, none⟩ = some x
  c1 : w.cell? ⟨g, 1, none⟩ = some y
  c2 : w.cell? ⟨g, 2, none⟩ = some z
  f0 : w.frozen? ⟨g, 0, none⟩ = false
  f1 : w.frozen? ⟨g, 1, none⟩ = false
  f2 : w.frozen? ⟨g, 2, none⟩ = false
  lt : g < w.heap.size
theorem Z3.mk' (w : World) (x y z : Value) (t : TypeId) : Z3 (w.alloc (.cells #[x, y, z] t)) w.heap.size x y z := by
  have hf : ∀ o, (w.alloc (.cells #[x, y, z] t)).frozen? ⟨w.heap.size, o, none⟩ = false := fun o => by
    have h : (w.alloc (.cells #[x, y, z] t)).heap[w.heap.size]? = some (.cells #[x, y, z] t (0, 0)) := heap_alloc_new w _
    unfold World.frozen?
    simp only [h]
    simp
  exact ⟨alloc_cell 0, alloc_cell 1, alloc_cell 2, hf 0, hf 1, hf 2, by simp⟩
theorem Z3.next {w w' : World} {g : Nat} {x y z : Value} (h : Z3 w g x y z) (hb : Below w.heap.size w w') : Z3 w' g x y z := by
  obtain ⟨hc, hf⟩ := stands hb
  exact ⟨(hc _ _ h.lt).trans h.c0, (hc _ _ h.lt).trans h.c1, (hc _ _ h.lt).trans h.c2, (hf _ _ h.lt).trans h.f0, (hf _ _ h.lt).trans h.f1, (hf _ _ h.lt).trans h.f2, Nat.lt_of_lt_of_le h.lt hb.size⟩
theorem Z3.drew {w : World} {g : Nat} {x y z : Value} (h : Z3 w g x y z) : Z3 w.drew g x y z := ⟨h.1, h.2, h.3, h.4, h.5, h.6, h.7⟩
theorem Z3.all {w : World} {g : Nat} {x y z : Value} (h : Z3 w g x y z) : w.cell? ⟨g, 0, none⟩ = some x ∧ w.cell? ⟨g, 1, none⟩ = some y ∧ w.cell? ⟨g, 2, none⟩ = some z ∧ w.frozen? ⟨g, 0, none⟩ = false ∧ w.frozen? ⟨g, 1, none⟩ = false ∧ w.frozen? ⟨g, 2, none⟩ = false ∧ g < w.heap.size := ⟨h.c0, h.c1, h.c2, h.f0, h.f1, h.f2, h.lt⟩

theorem L3.alloc {w : World} {B : Nat} {x y z : Value} (h : L3 w B x y z) (o : Obj) : L3 (w.alloc o) B x y z := h.next (below_new w o)
theorem L3.far {w : World} {B : Nat} {x y z : Value} (h : L3 w B x y z) {p : Addr} (s : Value) (hp : p.block ≠ B) : L3 (w.setCell p s) B x y z := by
  have e : ∀ i, (w.setCell p s).cell? ⟨B, i, none⟩ = w.cell? ⟨B, i, none⟩ := fun i => World.cell?_setCell_far w p _ s hp
  exact ⟨(e _).trans h.c0, (e _).trans h.c1, (e _).trans h.c2, by simp [World.setCell]; exact h.lt⟩
theorem Z3.stored {w : World} {g : Nat} {x y z : Value} (h : Z3 w g x y z) (u v s : Value) : L3 (((w.setCell ⟨g, 0, none⟩ u).setCell ⟨g, 1, none⟩ v).setCell ⟨g, 2, none⟩ s) g u v s := by
  have ne : ∀ i j, i ≠ j → (⟨g, i, none⟩ : Addr) ≠ ⟨g, j, none⟩ := fun i j hij q => hij (congrArg Addr.off q)
  have a0 := World.cell?_setCell_same' w ⟨g, 0, none⟩ u (by rw [h.c0]; rfl)
  have b1 : (w.setCell ⟨g, 0, none⟩ u).cell? ⟨g, 1, none⟩ = some y := (World.cell?_setCell_other (h := ne 0 1 (by decide)) ..).trans h.c1
  have b2 : (w.setCell ⟨g, 0, none⟩ u).cell? ⟨g, 2, none⟩ = some z := (World.cell?_setCell_other (h := ne 0 2 (by decide)) ..).trans h.c2
  have c1 := World.cell?_setCell_same' (w.setCell ⟨g, 0, none⟩ u) ⟨g, 1, none⟩ v (by rw [b1]; rfl)
  have c2 : ((w.setCell ⟨g, 0, none⟩ u).setCell ⟨g, 1, none⟩ v).cell? ⟨g, 2, none⟩ = some z := (World.cell?_setCell_other (h := ne 1 2 (by decide)) ..).trans b2
  have c0 : ((w.setCell ⟨g, 0, none⟩ u).setCell ⟨g, 1, none⟩ v).cell? ⟨g, 0, none⟩ = some u := (World.cell?_setCell_other (h := ne 1 0 (by decide)) ..).trans a0
  exact ⟨(World.cell?_setCell_other (h := ne 2 0 (by decide)) ..).trans c0, (World.cell?_setCell_other (h := ne 2 1 (by decide)) ..).trans c1, World.cell?_setCell_same' _ _ _ (by rw [c2]; rfl), by simp [World.setCell]; exact h.lt⟩

theorem L3.far3 {w : World} {B g : Nat} {x y z : Value} (h : L3 w B x y z) (u v s : Value) (hne : g ≠ B) : L3 (((w.setCell ⟨g, 0, none⟩ u).setCell ⟨g, 1, none⟩ v).setCell ⟨g, 2, none⟩ s) B x y z := ((h.far u hne).far v hne).far s hne
theorem Kb.set3 {w0 w : World} {B g : Nat} {x y z u v : Value} (h : Kb w0 B x y z u v w) (a b c : Value) (hp : B + 1 < g) (h0 : w0.heap.size ≤ B) : Kb w0 B x y z u v (((w.setCell ⟨g, 0, none⟩ a).setCell ⟨g, 1, none⟩ b).setCell ⟨g, 2, none⟩ c) := ((h.set (p := ⟨g, 0, none⟩) a hp h0).set (p := ⟨g, 1, none⟩) b hp h0).set (p := ⟨g, 2, none⟩) c hp h0

theorem hend_new {w0 W : World} {B g : Nat} {x y z u v a b c : Value} {t : TypeId} (hg : L3 W g a b c) (hk : Kb w0 B x y z u v W) :
    L3 (W.alloc (.cells #[a, b, c] t)) g a b c ∧ L3 (W.alloc (.cells #[a, b, c] t)) W.heap.size a b c ∧ Kb w0 B x y z u v (W.alloc (.cells #[a, b, c] t)) := ⟨hg.alloc _, L3.mk' _ _ _ _ _, hk.alloc _⟩
theorem hend_old {w0 W : World} {B g g2 : Nat} {x y z u v a b c a' b' c' : Value} (hg : L3 W g a b c) (hz : Z3 W g2 a' b' c') (hk : Kb w0 B x y z u v W) (hne : g < g2) (hlt : B + 1 < g2) (h0 : w0.heap.size ≤ B) :
    L3 (((W.setCell ⟨g2, 0, none⟩ a).setCell ⟨g2, 1, none⟩ b).setCell ⟨g2, 2, none⟩ c) g a b c ∧ L3 (((W.setCell ⟨g2, 0, none⟩ a).setCell ⟨g2, 1, none⟩ b).setCell ⟨g2, 2, none⟩ c) g2 a b c ∧ Kb w0 B x y z u v (((W.setCell ⟨g2, 0, none⟩ a).setCell ⟨g2, 1, none⟩ b).setCell ⟨g2, 2, none⟩ c) :=
  ⟨hg.far3 _ _ _ (by omega), hz.stored _ _ _, hk.set3 _ _ _ hlt h0⟩
theorem hrest_new {w0 W : World} {B : Nat} {x y z u v a b c : Value} {t : TypeId} (hk : Kb w0 B x y z u v W) :
    L3 (W.alloc (.cells #[a, b, c] t)) W.heap.size a b c ∧ Kb w0 B x y z u v (W.alloc (.cells #[a, b, c] t)) ∧ B + 1 < W.heap.size := ⟨L3.mk' _ _ _ _ _, hk.alloc _, hk.rcd.lt⟩
theorem hrest_old {w0 W : World} {B g2 : Nat} {x y z u v a b c a' b' c' : Value} (hz : Z3 W g2 a' b' c') (hk : Kb w0 B x y z u v W) (hlt : B + 1 < g2) (h0 : w0.heap.size ≤ B) :
    L3 (((W.setCell ⟨g2, 0, none⟩ a).setCell ⟨g2, 1, none⟩ b).setCell ⟨g2, 2, none⟩ c) g2 a b c ∧ Kb w0 B x y z u v (((W.setCell ⟨g2, 0, none⟩ a).setCell ⟨g2, 1, none⟩ b).setCell ⟨g2, 2, none⟩ c) ∧ B + 1 < g2 :=
  ⟨hz.stored _ _ _, hk.set3 _ _ _ hlt h0, hlt⟩

theorem app_both (d p : ByteArray) (n : Int) (c r : ByteArray) (hd : d.size ≤ 1048576) (hp : p.size ≤ 1048576) (hcs : c.size ≤ 1048576) (hrs : r.size ≤ 1048576) :
    ∃ (rd rp : ByteArray) (rn q : Int), (∀ w, Calls Tryd.prog 29 #[logV d p n, recV c r] w fun e w' => e = .returned (.tuple #[logV rd rp rn, .int .i64 q]) ∧ Below w.heap.size w w') ∧
      (∀ w, Tab w → Calls Tryd.prog 30 #[logV d p n, recV c r] w fun e w' => e = .returned (.tuple #[logV rd rp rn, .int .i64 q]) ∧ Below w.heap.size w w') := by
  cases h : Tx.okLog (logOf d p n)
  · exact ⟨_, _, _, _, fun w => sapp_badlog d p n c r w hd hp hcs hrs h, fun w ht => app_badlog d p n c r w hd hp hcs hrs ht h⟩
  · cases hr : Tx.okE (recE c r)
    · exact ⟨_, _, _, _, fun w => sapp_badrec d p n c r w hd hp hcs hrs h hr, fun w ht => app_badrec d p n c r w hd hp hcs hrs ht h hr⟩
    · by_cases hn : n = 60
      · exact ⟨_, _, _, _, fun w => sapp_full d p n c r w hd hp hcs hrs h hr hn, fun w ht => app_full d p n c r w hd hp hcs hrs ht h hr hn⟩
      · exact ⟨_, _, _, _, fun w => sapp_ok d p n c r w hd hp hcs hrs h hr hn, fun w ht => app_ok d p n c r w hd hp hcs hrs ht h hr hn⟩

set_option maxRecDepth 100000 in
set_option maxHeartbeats 6000000 in
theorem lawAppendRecord_any (d p : ByteArray) (n : Int) (c r : ByteArray) (w : World) (ht : Tab w) (hd : d.size ≤ 9223372036854775807) (hp : p.size ≤ 9223372036854775807) (hn : -9223372036854775808 ≤ n ∧ n ≤ 9223372036854775807)
    (hcs : c.size ≤ 9223372036854775807) (hrs : r.size ≤ 9223372036854775807) :
    Calls Tryd.prog 8 #[logV d p n, recV c r] w fun e w' => e = .returned (.bool true) ∧ Below w.heap.size w w' := by
  have hA1 := below_new w (.cells #[.string d, .string p, .int .i64 n] 36)
  have hA2 := hA1.trans ((below_new (w.alloc (.cells #[.string d, .string p, .int .i64 n] 36)) (.cells #[.string c, .string r] 23)).mono hA1.size)
  have hl := (L3.mk' w (.string d) (.string p) (.int .i64 n) 36).next (below_new _ (.cells #[.string c, .string r] 23))
  have hc := L2.mk' (w.alloc (.cells #[.string d, .string p, .int .i64 n] 36)) (.string c) (.string r) 23
  have e1 : (w.alloc (.cells #[.string d, .string p, .int .i64 n] 36)).heap.size = w.heap.size + 1 := by simp
  rw [e1] at hc
  have HK0 := Lib.hid (Kb.mk (w0 := w) hl hc hA2)
  have HT := Lib.hid ht
  clear hA1 hA2 hl hc e1 ht
  by_cases hl1 : (d.size : Int) + p.size ≤ 1048576
  case neg =>
    have HS := Lib.hid (fun w => szLog_no d p n 1048576 w hd hp (by omega) (by omega) (by omega))
    unfold logV recV at *
    go_enter Tryd.func8, Tryd.ntmps8
    go_wp2_with fail
    refine (HS.out _).mono ?_
    rintro e w1 ⟨rfl, hb1⟩
    have HK1 := Lib.hid (HK0.out.next hb1); clear hb1
    go_wp2
    go_ret
    exact ⟨rfl, HK1.out.bel⟩
  have HS := Lib.hid (fun w => szLog_yes d p n 1048576 w (by omega) (by omega) hl1)
  have hpos : 0 ≤ (1048576 : Int) - d.size - p.size := by omega
  by_cases hl2 : (c.size : Int) + r.size ≤ 1048576 - d.size - p.size
  case neg =>
    have HS2 := Lib.hid (fun w => szLogRecord_no c r (1048576 - d.size - p.size) w hcs hrs (by omega) (by omega) (by omega))
    unfold logV recV at *
    go_enter Tryd.func8, Tryd.ntmps8
    go_wp2_with fail
    refine (HS.out _).mono ?_
    rintro e w1 ⟨rfl, hb1⟩
    have HK1 := Lib.hid (HK0.out.next hb1); clear hb1
    obtain ⟨u0, u1, u2, u3, u4, _⟩ := HK1.out.cells
    go_wp2_with fail
    refine (HS2.out _).mono ?_
    rintro e w2 ⟨rfl, hb2⟩
    have HK2 := Lib.hid (HK1.out.next hb2); clear hb2 u0 u1 u2 u3 u4
    go_wp2
    go_ret
    exact ⟨rfl, HK2.out.bel⟩
  have HS2 := Lib.hid (fun w => szLogRecord_yes c r (1048576 - d.size - p.size) w (by omega) (by omega) hl2)
  have hpos2 : 0 ≤ (1048576 : Int) - d.size - p.size - c.size - r.size := by omega
  have HTL := Lib.hid (fun w => toLog_any d p n w)
  have HTR := Lib.hid (fun w => toLogRecord_any c r w)
  obtain ⟨rd, rp, rn, q, hG, hI⟩ := app_both d p n c r (by omega) (by omega) (by omega) (by omega)
  have HG := Lib.hid hG; have HI := Lib.hid hI
  have HQ := Lib.hid (fun w => eqLog_same rd rp rn w)
  have hqq : (q != q) = false := by simp
  clear hG hI
  unfold logV recV at *
  go_enter Tryd.func8, Tryd.ntmps8
  go_wp2_with fail
  refine (HS.out _).mono ?_
  rintro e w1 ⟨rfl, hb1⟩
  have HK1 := Lib.hid (HK0.out.next hb1); clear hb1
  obtain ⟨u0, u1, u2, u3, u4, _⟩ := HK1.out.cells
  go_wp2_with fail
  refine (HS2.out _).mono ?_
  rintro e w2 ⟨rfl, hb2⟩
  have HK2 := Lib.hid (HK1.out.next hb2); clear hb2 u0 u1 u2 u3 u4
  obtain ⟨u0, u1, u2, u3, u4, _⟩ := HK2.out.cells
  have lt0 : w.heap.size + 1 < w2.heap.size := HK2.out.rcd.lt
  have hk2 := HK2.out
  have hal := fun o => hk2.al o
  clear HK0 HK1 HK2
  go_wp2_with fail
  rename_i h0 K hK
  have HREST : ∀ {g : Nat} {W : World} {u8 u9 u10 u11 u12 u13 u14 u15 u16 u17 u18 u19 u20 u21 u22 u23 u24 u25 u26 u27 u28 u29 u30 u31 u32 u33 u34 u35 u36 u37 u38 u39 u40 u41 u42 u43 u44 : Value}, (L3 W g (.string rd) (.string rp) (.int .i64 rn) ∧ Kb w w.heap.size (.string d) (.string p) (.int .i64 n) (.string c) (.string r) W ∧ w.heap.size + 1 < g) → K { tmps := #[.agg #[.string d, .string p, .int .i64 n], .agg #[.string c, .string r], .pointer (some ⟨w.heap.size, 0, none⟩), .pointer (some ⟨w.heap.size + 1, 0, none⟩), .bool false, .int .i64 (1048576 - d.size - p.size - c.size - r.size), .pointer (some ⟨g, 0, none⟩), .int .i64 q, u8, u9, u10, u11, u12, u13, u14, u15, u16, u17, u18, u19, u20, u21, u22, u23, u24, u25, u26, u27, u28, u29, u30, u31, u32, u33, u34, u35, u36, u37, u38, u39, u40, u41, u42, u43, u44], defers := [] } W := by
    as_aux_lemma =>
      intro g W u8 u9 u10 u11 u12 u13 u14 u15 u16 u17 u18 u19 u20 u21 u22 u23 u24 u25 u26 u27 u28 u29 u30 u31 u32 u33 u34 u35 u36 u37 u38 u39 u40 u41 u42 u43 u44 ⟨hgl, hk2, hgl2⟩
      clear hal lt0 u0 u1 u2 u3 u4
      refine hK _ _ ?_
      clear hK
      have lt0 := hk2.rcd.lt
      have hglt := hgl.lt
      obtain ⟨v0, v1, v2, v3, v4, _⟩ := hk2.cells
      have hal := fun o => hk2.al o
      go_wp2_with fail
      rename_i K2 hK2
      have HEND : ∀ {g2 : Nat} {W : World} {u10 u11 u12 u13 u14 u15 u16 u17 u18 u19 u20 u21 u22 u23 u24 u25 u26 u27 u28 u29 u30 u31 u32 u33 u34 u35 u36 u37 u38 u39 u40 u41 u42 u43 u44 : Value}, (L3 W g (.string rd) (.string rp) (.int .i64 rn) ∧ L3 W g2 (.string rd) (.string rp) (.int .i64 rn) ∧ Kb w w.heap.size (.string d) (.string p) (.int .i64 n) (.string c) (.string r) W) → K2 { tmps := #[.agg #[.string d, .string p, .int .i64 n], .agg #[.string c, .string r], .pointer (some ⟨w.heap.size, 0, none⟩), .pointer (some ⟨w.heap.size + 1, 0, none⟩), .bool false, .int .i64 (1048576 - d.size - p.size - c.size - r.size), .pointer (some ⟨g, 0, none⟩), .int .i64 q, .pointer (some ⟨g2, 0, none⟩), .int .i64 q, u10, u11, u12, u13, u14, u15, u16, u17, u18, u19, u20, u21, u22, u23, u24, u25, u26, u27, u28, u29, u30, u31, u32, u33, u34, u35, u36, u37, u38, u39, u40, u41, u42, u43, u44], defers := [] } W := by
        intro g2 W u10 u11 u12 u13 u14 u15 u16 u17 u18 u19 u20 u21 u22 u23 u24 u25 u26 u27 u28 u29 u30 u31 u32 u33 u34 u35 u36 u37 u38 u39 u40 u41 u42 u43 u44 ⟨hA, hB, hk⟩
        refine hK2 _ _ ?_
        clear hK2
        obtain ⟨a0, a1, a2, _⟩ := hA
        obtain ⟨b0, b1, b2, _⟩ := hB
        have HKK := Lib.hid hk
        clear hal v0 v1 v2 v3 v4 hk2 hgl hk
        go_wp2_with (go_at_call 20; refine (HQ.out _).mono ?_; rintro e w' ⟨rfl, hb⟩; have HKE := Lib.hid (HKK.out.next hb); clear hb)
        go_ret
        exact ⟨rfl, HKE.out.bel⟩
      clear hK2
      go_region_law (first | (go_simp; go_at_call 23; refine (HTL.out _).mono ?_; rintro e w' ⟨rfl, hb⟩; have hk := Kb.next (w0 := w) (B := w.heap.size) (x := .string d) (y := .string p) (z := .int .i64 n) (u := .string c) (v := .string r) (by repeat (first | assumption | refine Kb.drew ?_ | refine Kb.alloc ?_ _ | refine Kb.set ?_ _ (by simp; omega) (Nat.le_refl _))) hb; obtain ⟨v0, v1, v2, v3, v4, _⟩ := hk.cells; have lt := hk.rcd.lt; have hal := fun o => hk.al o; have hgl := L3.next (B := g) (x := .string rd) (y := .string rp) (z := .int .i64 rn) (by repeat (first | assumption | refine L3.drew ?_ | refine L3.alloc ?_ _)) hb; have hglt := hgl.lt; (first | (have hz3 := Z3.next ‹Z3 _ _ _ _ _› hb; obtain ⟨q0, q1, q2, q3, q4, q5, _⟩ := hz3.all) | (have hz3 := Z3.next (Z3.mk' _ _ _ _ _) hb; (try dsimp only [World.drew] at hz3); obtain ⟨q0, q1, q2, q3, q4, q5, _⟩ := hz3.all) | (have hz3 := Z3.next (Z3.drew (Z3.mk' _ _ _ _ _)) hb; obtain ⟨q0, q1, q2, q3, q4, q5, _⟩ := hz3.all) | skip); clear hb) | (go_simp; go_at_call 16; refine (HTR.out _).mono ?_; rintro e w' ⟨rfl, hb⟩; have hk := Kb.next (w0 := w) (B := w.heap.size) (x := .string d) (y := .string p) (z := .int .i64 n) (u := .string c) (v := .string r) (by repeat (first | assumption | refine Kb.drew ?_ | refine Kb.alloc ?_ _ | refine Kb.set ?_ _ (by simp; omega) (Nat.le_refl _))) hb; obtain ⟨v0, v1, v2, v3, v4, _⟩ := hk.cells; have lt := hk.rcd.lt; have hal := fun o => hk.al o; have hgl := L3.next (B := g) (x := .string rd) (y := .string rp) (z := .int .i64 rn) (by repeat (first | assumption | refine L3.drew ?_ | refine L3.alloc ?_ _)) hb; have hglt := hgl.lt; (first | (have hz3 := Z3.next ‹Z3 _ _ _ _ _› hb; obtain ⟨q0, q1, q2, q3, q4, q5, _⟩ := hz3.all) | (have hz3 := Z3.next (Z3.mk' _ _ _ _ _) hb; (try dsimp only [World.drew] at hz3); obtain ⟨q0, q1, q2, q3, q4, q5, _⟩ := hz3.all) | (have hz3 := Z3.next (Z3.drew (Z3.mk' _ _ _ _ _)) hb; obtain ⟨q0, q1, q2, q3, q4, q5, _⟩ := hz3.all) | skip); clear hb) | (go_simp; go_at_call 30; refine (HI.out _ (HT.out.below (Kb.bel (w0 := w) (B := w.heap.size) (x := .string d) (y := .string p) (z := .int .i64 n) (u := .string c) (v := .string r) (by repeat (first | assumption | refine Kb.drew ?_ | refine Kb.alloc ?_ _ | refine Kb.set ?_ _ (by simp; omega) (Nat.le_refl _)))))).mono ?_; rintro e w' ⟨rfl, hb⟩; have hk := Kb.next (w0 := w) (B := w.heap.size) (x := .string d) (y := .string p) (z := .int .i64 n) (u := .string c) (v := .string r) (by repeat (first | assumption | refine Kb.drew ?_ | refine Kb.alloc ?_ _ | refine Kb.set ?_ _ (by simp; omega) (Nat.le_refl _))) hb; obtain ⟨v0, v1, v2, v3, v4, _⟩ := hk.cells; have lt := hk.rcd.lt; have hal := fun o => hk.al o; have hgl := L3.next (B := g) (x := .string rd) (y := .string rp) (z := .int .i64 rn) (by repeat (first | assumption | refine L3.drew ?_ | refine L3.alloc ?_ _)) hb; have hglt := hgl.lt; (first | (have hz3 := Z3.next ‹Z3 _ _ _ _ _› hb; obtain ⟨q0, q1, q2, q3, q4, q5, _⟩ := hz3.all) | (have hz3 := Z3.next (Z3.mk' _ _ _ _ _) hb; (try dsimp only [World.drew] at hz3); obtain ⟨q0, q1, q2, q3, q4, q5, _⟩ := hz3.all) | (have hz3 := Z3.next (Z3.drew (Z3.mk' _ _ _ _ _)) hb; obtain ⟨q0, q1, q2, q3, q4, q5, _⟩ := hz3.all) | skip); clear hb))
      all_goals show K2 _ _
      all_goals (try simp only [Act.put])
      all_goals (try simp)
      all_goals first | (refine HEND (hend_new ?_ ?_); all_goals (first | with_reducible assumption | (with_reducible refine L3.drew ?_; with_reducible assumption) | (with_reducible refine Kb.drew ?_; with_reducible assumption) | (with_reducible refine Z3.drew ?_; with_reducible assumption) | omega)) | (refine HEND (hend_old ?_ ‹Z3 _ _ _ _ _› ?_ ?_ ?_ (Nat.le_refl _)); all_goals (first | with_reducible assumption | (with_reducible refine L3.drew ?_; with_reducible assumption) | (with_reducible refine Kb.drew ?_; with_reducible assumption) | (with_reducible refine Z3.drew ?_; with_reducible assumption) | omega))
  clear hK
  go_region_law (first | (go_simp; go_at_call 23; refine (HTL.out _).mono ?_; rintro e w' ⟨rfl, hb⟩; have hk := Kb.next (w0 := w) (B := w.heap.size) (x := .string d) (y := .string p) (z := .int .i64 n) (u := .string c) (v := .string r) (by repeat (first | with_reducible assumption | with_reducible refine Kb.drew ?_ | with_reducible refine Kb.alloc ?_ _ | with_reducible refine Kb.set ?_ _ (by simp; omega) (Nat.le_refl _))) hb; obtain ⟨v0, v1, v2, v3, v4, _⟩ := hk.cells; have lt := hk.rcd.lt; have hal := fun o => hk.al o; (first | (have hz3 := Z3.next ‹Z3 _ _ _ _ _› hb; obtain ⟨q0, q1, q2, q3, q4, q5, _⟩ := hz3.all) | (have hz3 := Z3.next (Z3.mk' _ _ _ _ _) hb; (try dsimp only [World.drew] at hz3); obtain ⟨q0, q1, q2, q3, q4, q5, _⟩ := hz3.all) | (have hz3 := Z3.next (Z3.drew (Z3.mk' _ _ _ _ _)) hb; obtain ⟨q0, q1, q2, q3, q4, q5, _⟩ := hz3.all) | skip); clear hb) | (go_simp; go_at_call 16; refine (HTR.out _).mono ?_; rintro e w' ⟨rfl, hb⟩; have hk := Kb.next (w0 := w) (B := w.heap.size) (x := .string d) (y := .string p) (z := .int .i64 n) (u := .string c) (v := .string r) (by repeat (first | with_reducible assumption | with_reducible refine Kb.drew ?_ | with_reducible refine Kb.alloc ?_ _ | with_reducible refine Kb.set ?_ _ (by simp; omega) (Nat.le_refl _))) hb; obtain ⟨v0, v1, v2, v3, v4, _⟩ := hk.cells; have lt := hk.rcd.lt; have hal := fun o => hk.al o; (first | (have hz3 := Z3.next ‹Z3 _ _ _ _ _› hb; obtain ⟨q0, q1, q2, q3, q4, q5, _⟩ := hz3.all) | (have hz3 := Z3.next (Z3.mk' _ _ _ _ _) hb; (try dsimp only [World.drew] at hz3); obtain ⟨q0, q1, q2, q3, q4, q5, _⟩ := hz3.all) | (have hz3 := Z3.next (Z3.drew (Z3.mk' _ _ _ _ _)) hb; obtain ⟨q0, q1, q2, q3, q4, q5, _⟩ := hz3.all) | skip); clear hb) | (go_simp; go_at_call 29; refine (HG.out _).mono ?_; rintro e w' ⟨rfl, hb⟩; have hk := Kb.next (w0 := w) (B := w.heap.size) (x := .string d) (y := .string p) (z := .int .i64 n) (u := .string c) (v := .string r) (by repeat (first | with_reducible assumption | with_reducible refine Kb.drew ?_ | with_reducible refine Kb.alloc ?_ _ | with_reducible refine Kb.set ?_ _ (by simp; omega) (Nat.le_refl _))) hb; obtain ⟨v0, v1, v2, v3, v4, _⟩ := hk.cells; have lt := hk.rcd.lt; have hal := fun o => hk.al o; (first | (have hz3 := Z3.next ‹Z3 _ _ _ _ _› hb; obtain ⟨q0, q1, q2, q3, q4, q5, _⟩ := hz3.all) | (have hz3 := Z3.next (Z3.mk' _ _ _ _ _) hb; (try dsimp only [World.drew] at hz3); obtain ⟨q0, q1, q2, q3, q4, q5, _⟩ := hz3.all) | (have hz3 := Z3.next (Z3.drew (Z3.mk' _ _ _ _ _)) hb; obtain ⟨q0, q1, q2, q3, q4, q5, _⟩ := hz3.all) | skip); clear hb))
  all_goals show K _ _
  all_goals (try simp only [Act.put])
  all_goals (try simp)
  all_goals first | (refine HREST (hrest_new ?_); all_goals (first | with_reducible assumption | (with_reducible refine L3.drew ?_; with_reducible assumption) | (with_reducible refine Kb.drew ?_; with_reducible assumption) | (with_reducible refine Z3.drew ?_; with_reducible assumption) | omega)) | (refine HREST (hrest_old ‹Z3 _ _ _ _ _› ?_ ?_ (Nat.le_refl _)); all_goals (first | with_reducible assumption | (with_reducible refine L3.drew ?_; with_reducible assumption) | (with_reducible refine Kb.drew ?_; with_reducible assumption) | (with_reducible refine Z3.drew ?_; with_reducible assumption) | omega))

end Go.Proofs.YtfdhicojnbicgaaDoor
