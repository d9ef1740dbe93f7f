/- Several texts in one: lemmas and walks of the functions that the laws reach. -/
import Derived.Test.YthakkkljlpimlaaY0
import Derived.Test.YthakkkljlpimlaaY1
import Derived.Laws.AppendOwnNone
import Derived.Lib.OwnBridge
import Derived.Sort.Grow

/- Walks: the cursor that draws arguments out of bytes. -/
namespace Go.Proofs.Ythakkkljlpimlaa
open Go.RowKit
set_option linter.unusedVariables false

theorem addr_add (b off j : Nat) : (⟨b, off, none⟩ : Addr).add j = ⟨b, off + j, none⟩ := by unfold Addr.add; split <;> simp_all

theorem u8_bounds {n : Int} (h : (Lit.int .u8 n).wf = true) : 0 ≤ n ∧ n ≤ 255 := by
  simp [Lit.wf, IntKind.min, IntKind.max, IntKind.bits, IntKind.signed] at h
  omega

def BytesAt (w : World) (a : Option Addr) (zs : List Int) : Prop :=
  zs = [] ∨ ∃ b off, a = some ⟨b, off, none⟩ ∧ b < w.heap.size ∧ ∀ j, j < zs.length → w.cell? ⟨b, off + j, none⟩ = some (.int .u8 (zs.getD j 0)) ∧ 0 ≤ zs.getD j 0 ∧ zs.getD j 0 ≤ 255

theorem BytesAt.at {w : World} {a : Option Addr} {zs : List Int} (h : BytesAt w a zs) {k : Nat} (hk : k < zs.length) :
    ∃ b off, a = some ⟨b, off, none⟩ ∧ w.cell? ⟨b, off + k, none⟩ = some (.int .u8 (zs.getD k 0)) ∧ 0 ≤ zs.getD k 0 ∧ zs.getD k 0 ≤ 255 := by
  rcases h with rfl | ⟨b, off, h1, _, h2⟩
  · simp at hk
  · exact ⟨b, off, h1, h2 k hk⟩

theorem BytesAt.below {w w' : World} {B : Nat} {a : Option Addr} {zs : List Int} (h : BytesAt w a zs) (hB : w.heap.size ≤ B) (hb : Below B w w') : BytesAt w' a zs := by
  rcases h with h | ⟨b, off, h1, h0, h2⟩
  · exact .inl h
  · refine .inr ⟨b, off, h1, by have := hb.size; omega, fun j hj => ?_⟩
    rw [hb.cell (p := ⟨b, off + j, none⟩) (by show b < B; omega)]; exact h2 j hj

theorem BytesAt.grown {w w' : World} {row : Option Nat} {a : Option Addr} {zs : List Int} (h : BytesAt w a zs) (hg : w.grownBy w' row) (hne : zs ≠ [] → ∀ b off, a = some ⟨b, off, none⟩ → row ≠ some b) : BytesAt w' a zs := by
  by_cases hz : zs = []
  · exact .inl hz
  have hne := hne hz
  rcases h with h | ⟨b, off, h1, h0, h2⟩
  · exact .inl h
  · refine .inr ⟨b, off, h1, Nat.lt_of_lt_of_le h0 hg.size, fun j hj => ?_⟩
    have hb := hg.block b h0 (fun e => hne b off h1 e.symm)
    rw [World.cell?_of_block (w := w) (w' := w') (a := ⟨b, off + j, none⟩) hb]; exact h2 j hj

theorem bytes_of_row {w : World} {x : Addr} {len : Nat} {zs : List Int} (hl : len ≤ zs.length) (hc : ∀ i, i < zs.length → w.cell? (x.add i) = some (.int .u8 (zs.getD i 0))) (hw : ∀ n ∈ zs, (Lit.int .u8 n).wf = true) : BytesAt w (some x) (zs.take len) := by
  by_cases h0 : len = 0
  · subst h0; exact .inl (by simp)
  · obtain ⟨b, off, spot⟩ := x
    have hc0 := hc 0 (by omega)
    have hs : spot = none := by simpa [Addr.add] using World.cell?_spot hc0
    subst hs
    refine .inr ⟨b, off, rfl, World.block_lt_of_cell? w _ (by simpa [Addr.add] using hc0), fun j hj => ?_⟩
    have hj' : j < len := by simp at hj; omega
    have := hc j (by omega)
    rw [addr_add] at this
    have e : (zs.take len).getD j 0 = zs.getD j 0 := by simp [List.getD, hj']
    rw [e]
    have hm : zs.getD j 0 ∈ zs := by simp [List.getD, show j < zs.length by omega]
    have hwf := hw _ hm
    refine ⟨this, ?_⟩
    have hb := u8_bounds hwf
    omega

theorem setcell_grown (w : World) (g j : Nat) (u : Value) : w.grownBy (w.setCell ⟨g, j, none⟩ u) (some g) :=
  ⟨rfl, rfl, rfl, by simp, fun k _ hk => heap_setCell_other w ⟨g, j, none⟩ k u (fun e => hk (by simp [e]))⟩
theorem drewN_grown (w : World) (n : Nat) (row : Option Nat) : w.grownBy (w.drewN n) row := ⟨rfl, rfl, rfl, Nat.le_refl _, fun _ _ _ => rfl⟩

theorem cur_grown (w : World) (bc a b : Nat) (u v : Value) : w.grownBy ((((w.drewN a).setCell ⟨bc, 1, none⟩ u).setCell ⟨bc, 2, none⟩ v).drewN b) (some bc) :=
  grown_trans (grown_trans (grown_trans (drewN_grown w a _) (setcell_grown _ bc 1 u)) (setcell_grown _ bc 2 v)) (drewN_grown _ b _)

/-- The cursor: a block of three cells over the bytes zs; at most M choices have been read. -/
structure Cur (w : World) (bc : Nat) (ac : Option Addr) (zs : List Int) (M : Int) : Prop where
  cells : ∃ (cc : Nat) (p s : Int), w.heap[bc]? = some (.cells #[.slice ac zs.length cc, .int .i64 p, .int .u64 s] 57 (0, 0)) ∧ 0 ≤ p ∧ p ≤ M
  code : BytesAt w ac zs
  apart : zs ≠ [] → ∀ b off, ac = some ⟨b, off, none⟩ → b ≠ bc
  len : zs.length ≤ 1048576

theorem Cur.step {w W' : World} {bc : Nat} {ac : Option Addr} {zs : List Int} {M' : Int} {cc : Nat} {p' s' : Int} (hcode : BytesAt w ac zs) (hap : zs ≠ [] → ∀ b off, ac = some ⟨b, off, none⟩ → b ≠ bc) (hlen : zs.length ≤ 1048576) (hg : w.grownBy W' (some bc))
    (hr : W'.heap[bc]? = some (.cells #[.slice ac zs.length cc, .int .i64 p', .int .u64 s'] 57 (0, 0))) (h0 : 0 ≤ p') (h1 : p' ≤ M') : Cur W' bc ac zs M' :=
  ⟨⟨cc, p', s', hr, h0, h1⟩, hcode.grown hg (fun h0 b off e e2 => hap h0 b off e (by injection e2 with e2; exact e2.symm)), hap, hlen⟩

theorem cur_row {w : World} {bc cc n : Nat} {ac : Option Addr} {p s p' s' : Int} {e : TypeId} (a : Nat) (hr : w.heap[bc]? = some (.cells #[.slice ac n cc, .int .i64 p, .int .u64 s] e (0, 0))) :
    (((w.drewN a).setCell ⟨bc, 1, none⟩ (.int .i64 p')).setCell ⟨bc, 2, none⟩ (.int .u64 s')).heap[bc]? = some (.cells #[.slice ac n cc, .int .i64 p', .int .u64 s'] e (0, 0)) := by
  have h1 := heap_setCell_same (w.drewN a) bc 1 _ e (.int .i64 p') (show (w.drewN a).heap[bc]? = _ from hr)
  have h2 := heap_setCell_same _ bc 2 _ e (.int .u64 s') h1
  exact h2

theorem u64wrap_bounds (n : Int) : 0 ≤ IntKind.u64.wrap n ∧ IntKind.u64.wrap n < 18446744073709551616 := by
  simp only [IntKind.wrap, IntKind.signed, IntKind.bits, Bool.false_and, Bool.false_eq_true, if_false]
  omega

theorem seed_byte {E n : Int} (h : E = IntKind.u64.wrap n) : 0 ≤ wrap64 (bits .and .u64 (E / 1099511627776) 255) ∧ wrap64 (bits .and .u64 (E / 1099511627776) 255) ≤ 255 := by
  obtain ⟨h0, h1⟩ := u64wrap_bounds n
  rw [← h] at h0 h1
  have h2 : 0 ≤ E / 1099511627776 := by omega
  have h3 : E / 1099511627776 < 18446744073709551616 := by omega
  generalize E / 1099511627776 = F at h2 h3
  have hb := bits_and_u64_nat F.toNat 255 (by omega) (by omega)
  rw [Int.toNat_of_nonneg h2] at hb
  have e : bits .and .u64 F 255 = ((F.toNat &&& 255 : Nat) : Int) := hb
  rw [e]
  have hle : F.toNat &&& 255 ≤ 255 := Nat.and_le_right
  unfold wrap64
  omega

set_option maxRecDepth 100000 in
set_option maxHeartbeats 1000000 in
theorem next_any (bc : Nat) (ac : Option Addr) (zs : List Int) (M : Int) (w : World) (hM : M ≤ 1099511627776) (h : Cur w bc ac zs M) :
    Calls Try.prog 45 #[.pointer (some ⟨bc, 0, none⟩)] w fun e w' => (∃ r : Int, e = .returned (.int .i64 r) ∧ 0 ≤ r ∧ r ≤ 255) ∧ Cur w' bc ac zs (M + 1) ∧ w.grownBy w' (some bc) := by
  obtain ⟨⟨cc, p, s, hrow, hp0, hp1⟩, hcode, hap, hlen⟩ := h
  have c0 : w.cell? ⟨bc, 0, none⟩ = some (.slice ac zs.length cc) := row_cell hrow 0
  have c1 : w.cell? ⟨bc, 1, none⟩ = some (.int .i64 p) := row_cell hrow 1
  have c2 : w.cell? ⟨bc, 2, none⟩ = some (.int .u64 s) := row_cell hrow 2
  have f1 : w.frozen? ⟨bc, 1, none⟩ = false := frozen_of_row w bc 1 _ _ hrow
  have f2 : w.frozen? ⟨bc, 2, none⟩ = false := frozen_of_row w bc 2 _ _ hrow
  have HROW := Lib.hid hrow
  have HCODE := Lib.hid hcode
  have HAP := Lib.hid hap
  clear hrow hcode hap
  by_cases hlt : p < zs.length
  · obtain ⟨k, rfl⟩ := Int.eq_ofNat_of_zero_le hp0
    obtain ⟨b, off, rfl, hc, hb0, hb1⟩ := HCODE.out.at (show k < zs.length by omega)
    generalize zs.getD k 0 = x at hc hb0 hb1
    have hle : ((k : Int) + 1) ≤ zs.length := by omega
    go_enter Try.func45, Try.ntmps45
    go_wp2_with fail
    go_quiet (fail)
    go_wp2_with fail
    go_quiet (fail)
    go_wp2_with fail
    generalize IntKind.u64.wrap (IntKind.u64.wrap (IntKind.u64.wrap (s * 6364136223846793005) + x) + 907907) = E
    go_quiet (fail)
    go_wp2
    go_ret
    exact ⟨⟨x, rfl, hb0, hb1⟩, Cur.step HCODE.out HAP.out hlen (cur_grown w bc _ _ _ _) (cur_row _ HROW.out) (by omega) (by omega), cur_grown w bc _ _ _ _⟩
  · go_enter Try.func45, Try.ntmps45
    go_wp2_with fail
    go_quiet (fail)
    go_wp2_with fail
    generalize hE : IntKind.u64.wrap (IntKind.u64.wrap (IntKind.u64.wrap (s * 6364136223846793005)) + 907907) = E
    have HE := Lib.hid (seed_byte hE.symm)
    clear hE
    have hn : decide (p + 1 ≤ (zs.length : Int)) = false := by simp; omega
    go_quiet (fail)
    go_wp2
    go_ret
    exact ⟨⟨_, rfl, HE.out.1, HE.out.2⟩, Cur.step HCODE.out HAP.out hlen (cur_grown w bc _ _ _ _) (cur_row _ HROW.out) (by omega) (by omega), cur_grown w bc _ _ _ _⟩

set_option maxHeartbeats 400000 in
theorem pick_any (bc : Nat) (ac : Option Addr) (zs : List Int) (M n : Int) (w : World) (hM : M ≤ 1099511627000) (hn : n ≤ 60000) (h : Cur w bc ac zs M) :
    Calls Try.prog 35 #[.pointer (some ⟨bc, 0, none⟩), .int .i64 n] w fun e w' => (∃ r : Int, e = .returned (.int .i64 r) ∧ 0 ≤ r ∧ (r < n ∨ r = 0)) ∧ Cur w' bc ac zs (M + 2) ∧ w.grownBy w' (some bc) := by
  have H := Lib.hid h; clear h
  by_cases h1 : n ≤ 1
  · go_enter Try.func35, Try.ntmps35
    go_wp2
    go_ret
    have hc := H.out
    obtain ⟨⟨cc, p, s, hr, h0, h2⟩, hcode, hap, hlen⟩ := hc
    exact ⟨⟨0, rfl, by omega, by omega⟩, ⟨⟨cc, p, s, hr, h0, by omega⟩, hcode, hap, hlen⟩, grown_refl _ _⟩
  · by_cases h2 : n ≤ 200
    · go_enter Try.func35, Try.ntmps35
      go_wp2_with fail
      refine (next_any bc ac zs M _ (by omega) H.out).mono ?_
      rintro e w1 ⟨⟨r, rfl, hr0, hr1⟩, hc, hg⟩
      have HC := Lib.hid hc; clear hc
      have HG := Lib.hid hg; clear hg
      have q1 : 0 ≤ r % n := Int.emod_nonneg _ (by omega)
      have q2 : r % n < n := Int.emod_lt_of_pos _ (by omega)
      have Q := Lib.hid (And.intro q1 q2); clear q1 q2
      go_wp2
      go_ret
      obtain ⟨⟨cc, p, s, hr, h0, h2⟩, hcode, hap, hlen⟩ := HC.out
      exact ⟨⟨_, rfl, Q.out.1, .inl Q.out.2⟩, ⟨⟨cc, p, s, hr, h0, by omega⟩, hcode, hap, hlen⟩, HG.out⟩
    · go_enter Try.func35, Try.ntmps35
      go_wp2_with fail
      refine (next_any bc ac zs M _ (by omega) H.out).mono ?_
      rintro e w1 ⟨⟨r, rfl, hr0, hr1⟩, hc, hg⟩
      have HC := Lib.hid hc; clear hc
      have HG := Lib.hid hg; clear hg
      go_wp2_with fail
      refine (next_any bc ac zs (M + 1) _ (by omega) HC.out).mono ?_
      rintro e w2 ⟨⟨r2, rfl, hs0, hs1⟩, hc, hg⟩
      have HC2 := Lib.hid hc; clear hc
      have HG2 := Lib.hid (grown_trans HG.out hg); clear hg
      have q1 : 0 ≤ (r * 256 + r2) % n := Int.emod_nonneg _ (by omega)
      have q2 : (r * 256 + r2) % n < n := Int.emod_lt_of_pos _ (by omega)
      have Q := Lib.hid (And.intro q1 q2); clear q1 q2
      go_wp2
      go_ret
      obtain ⟨⟨cc, p, s, hr, h0, h2⟩, hcode, hap, hlen⟩ := HC2.out
      exact ⟨⟨_, rfl, Q.out.1, .inl Q.out.2⟩, ⟨⟨cc, p, s, hr, h0, by omega⟩, hcode, hap, hlen⟩, HG2.out⟩

set_option maxHeartbeats 400000 in
theorem one_any (bc : Nat) (ac : Option Addr) (zs : List Int) (M n : Int) (w : World) (hM : M ≤ 1099511627000) (hn : n ≤ 60000) (h : Cur w bc ac zs M) :
    Calls Try.prog 50 #[.pointer (some ⟨bc, 0, none⟩), .int .i64 n] w fun e w' => (∃ b : Bool, e = .returned (.bool b)) ∧ Cur w' bc ac zs (M + 2) ∧ w.grownBy w' (some bc) := by
  have H := Lib.hid h; clear h
  go_enter Try.func50, Try.ntmps50
  go_wp2_with fail
  refine (pick_any bc ac zs M n _ hM hn H.out).mono ?_
  rintro e w1 ⟨⟨r, rfl, hr0, hr1⟩, hc, hg⟩
  have HC := Lib.hid hc; clear hc
  have HG := Lib.hid hg; clear hg hr1
  go_wp2
  go_ret
  exact ⟨⟨_, rfl⟩, HC.out, HG.out⟩

set_option maxHeartbeats 400000 in
/-- One of some numbers: whichever. -/
theorem among_any (bc : Nat) (ac : Option Addr) (zs : List Int) (M : Int) (a : Option Addr) (c : Nat) (ys : List Int) (w : World) (hM : M ≤ 1099511627000) (hy0 : 0 < ys.length) (hy : ys.length ≤ 200) (h : Cur w bc ac zs M) (hl : IntsAt w a ys) (hap : ∀ b off, a = some ⟨b, off, none⟩ → b ≠ bc) :
    Calls Try.prog 36 #[.pointer (some ⟨bc, 0, none⟩), .slice a ys.length c] w fun e w' => (∃ r : Int, e = .returned (.int .i64 r) ∧ r ∈ ys) ∧ Cur w' bc ac zs (M + 2) ∧ w.grownBy w' (some bc) := by
  have H := Lib.hid h; clear h
  have HL := Lib.hid hl; clear hl
  have HAP := Lib.hid hap; clear hap
  go_enter Try.func36, Try.ntmps36
  go_wp2_with fail
  refine (pick_any bc ac zs M _ _ hM (by omega) H.out).mono ?_
  rintro e w1 ⟨⟨r, rfl, hr0, hr1⟩, hc, hg⟩
  have HC := Lib.hid hc; clear hc
  have HL1 := Lib.hid (HL.out.grown hg (fun b off e e2 => HAP.out b off e (by injection e2 with e2; exact e2.symm)))
  have HG := Lib.hid hg; clear hg
  obtain ⟨k, rfl⟩ := Int.eq_ofNat_of_zero_le hr0
  have hk : k < ys.length := by omega
  obtain ⟨b, off, rfl, hcell⟩ := HL1.out.at hk
  have HM : Hid (ys.getD k 0 ∈ ys) := by show _ ∈ _; simp [List.getD, hk]
  generalize ys.getD k 0 = x at hcell HM
  go_wp2
  go_ret
  exact ⟨⟨_, rfl, HM.out⟩, HC.out, HG.out⟩

end Go.Proofs.Ythakkkljlpimlaa

/- General: the cursor while other memory grows. -/
namespace Go.Proofs.Ythakkkljlpimlaa
open Go.RowKit
set_option linter.unusedVariables false

theorem Cur.mono {w : World} {bc : Nat} {ac : Option Addr} {zs : List Int} {M M' : Int} (h : Cur w bc ac zs M) (hM : M ≤ M') : Cur w bc ac zs M' := by
  obtain ⟨⟨cc, p, s, hr, h0, h1⟩, hc, ha, hl⟩ := h
  exact ⟨⟨cc, p, s, hr, h0, by omega⟩, hc, ha, hl⟩
theorem Cur.lt {w : World} {bc : Nat} {ac : Option Addr} {zs : List Int} {M : Int} (h : Cur w bc ac zs M) : bc < w.heap.size := by
  obtain ⟨⟨cc, p, s, hr, _⟩, _⟩ := h
  exact (Array.getElem?_eq_some_iff.1 hr).1
theorem Cur.below {w w' : World} {bc : Nat} {ac : Option Addr} {zs : List Int} {M : Int} (h : Cur w bc ac zs M) (hb : Below w.heap.size w w') : Cur w' bc ac zs M := by
  have hlt := h.lt
  obtain ⟨⟨cc, p, s, hr, h0, h1⟩, hc, ha, hl⟩ := h
  exact ⟨⟨cc, p, s, block_below hr hb hlt, h0, h1⟩, hc.below (Nat.le_refl _) hb, ha, hl⟩
theorem Cur.app {w w' : World} {bc : Nat} {ac : Option Addr} {zs : List Int} {M : Int} {row : Option Nat} (h : Cur w bc ac zs M) (hg : w.grownBy w' row) (hne : row ≠ some bc) (hne2 : zs ≠ [] → ∀ b off, ac = some ⟨b, off, none⟩ → row ≠ some b) : Cur w' bc ac zs M := by
  obtain ⟨⟨cc, p, s, hr, h0, h1⟩, hc, ha, hl⟩ := h
  exact ⟨⟨cc, p, s, block_row hr hg hne, h0, h1⟩, hc.grown hg hne2, ha, hl⟩
theorem BytesAt.lt {w : World} {a : Option Addr} {zs : List Int} (h : BytesAt w a zs) (h0 : zs ≠ []) : ∃ b off, a = some ⟨b, off, none⟩ ∧ b < w.heap.size := by
  rcases h with h | ⟨b, off, h1, h2, _⟩
  · exact absurd h h0
  · exact ⟨b, off, h1, h2⟩

/-- Growth by new blocks and by writes into the cursor alone, seen from an older world. -/
theorem grown_app {w0 w w' : World} {bc : Nat} {v : Value} {base : Nat} {e : TypeId} {size n : Nat} {xs : List Value} (h : w0.grownBy w (some bc)) (hown : w.ownsRow base e size v n xs) (hb : w0.heap.size ≤ base) (hg : w.grownBy w' v.ownBlock) : w0.grownBy w' (some bc) :=
  ⟨hg.os.trans h.os, hg.tape.trans h.tape, hg.output.trans h.output, Nat.le_trans h.size hg.size, fun k hk hne => (hg.block k (Nat.lt_of_lt_of_le hk h.size) (fun e => by have := (hown.lt k e.symm).1; omega)).trans (h.block k hk hne)⟩

/-- What a list being drawn and the cursor are to each other. -/
structure Drawn (w0 w : World) (bc : Nat) (ac : Option Addr) (zs : List Int) (M : Int) : Prop where
  cur : Cur w bc ac zs M
  grown : w0.grownBy w (some bc)
  old : bc < w0.heap.size ∧ (zs ≠ [] → ∀ b off, ac = some ⟨b, off, none⟩ → b < w0.heap.size)

theorem Drawn.step {w0 w w' : World} {bc : Nat} {ac : Option Addr} {zs : List Int} {M M' : Int} (h : Drawn w0 w bc ac zs M) (hc : Cur w' bc ac zs M') (hg : w.grownBy w' (some bc)) : Drawn w0 w' bc ac zs M' := ⟨hc, grown_trans h.grown hg, h.old⟩
theorem Drawn.below {w0 w w' : World} {bc : Nat} {ac : Option Addr} {zs : List Int} {M : Int} (h : Drawn w0 w bc ac zs M) (hb : Below w.heap.size w w') : Drawn w0 w' bc ac zs M := ⟨h.cur.below hb, grown_trans h.grown (grown_of_below hb), h.old⟩
theorem Drawn.mono {w0 w : World} {bc : Nat} {ac : Option Addr} {zs : List Int} {M M' : Int} (h : Drawn w0 w bc ac zs M) (hM : M ≤ M') : Drawn w0 w bc ac zs M' := ⟨h.cur.mono hM, h.grown, h.old⟩
theorem Drawn.app {w0 w w' : World} {bc : Nat} {ac : Option Addr} {zs : List Int} {M : Int} {v : Value} {base : Nat} {e : TypeId} {size n : Nat} {xs : List Value} (h : Drawn w0 w bc ac zs M) (hown : w.ownsRow base e size v n xs) (hb : w0.heap.size ≤ base) (hg : w.grownBy w' v.ownBlock) : Drawn w0 w' bc ac zs M :=
  ⟨h.cur.app hg (fun e => by have := (hown.lt bc e).1; have := h.old.1; omega) (fun h0 b off e e2 => by have := (hown.lt b e2).1; have := h.old.2 h0 b off e; omega), grown_app h.grown hown hb hg, h.old⟩
theorem Drawn.own {w0 w w' : World} {bc : Nat} {ac : Option Addr} {zs : List Int} {M : Int} {v : Value} {base : Nat} {e : TypeId} {size n : Nat} {xs : List Value} (h : Drawn w0 w bc ac zs M) (hown : w.ownsRow base e size v n xs) (hb : w0.heap.size ≤ base) (hg : w.grownBy w' (some bc)) : w'.ownsRow base e size v n xs :=
  own_other hown hg (fun k hk e => by injection e with e; have := (hown.lt k hk).1; have := h.old.1; omega)

end Go.Proofs.Ythakkkljlpimlaa

/- Walks: lists of integers and of records that the cursor draws. -/
namespace Go.Proofs.Ythakkkljlpimlaa
open Go.RowKit
set_option linter.unusedVariables false

set_option maxHeartbeats 2000000 in
theorem ints_any (bc : Nat) (ac : Option Addr) (cs : List Int) (M : Int) (w : World) (hM : M ≤ 1099511600000) (h : Cur w bc ac cs M) (hold : cs ≠ [] → ∀ b off, ac = some ⟨b, off, none⟩ → b < w.heap.size) :
    Calls Try.prog 44 #[.pointer (some ⟨bc, 0, none⟩)] w fun e w' => ∃ (a' : Option Addr) (c' : Nat) (zs : List Int), e = .returned (.slice a' zs.length c') ∧ w'.ownsRow w.heap.size 3 1 (.slice a' zs.length c') zs.length (zs.map (Value.int .i64)) ∧ zs.length ≤ 24 ∧ (∀ x ∈ zs, -100000 ≤ x ∧ x ≤ 100000) ∧ Drawn w w' bc ac cs (M + 200) := by
  have D0 : Hid (Drawn w w bc ac cs M) := ⟨h, grown_refl _ _, h.lt, hold⟩
  have E1 := Lib.hid (own_lit (w := w) (e := 3) (size := 1) #[] 0 (by omega) rfl)
  have D1 := Lib.hid (D0.out.below ((Below.refl w.heap.size w).alloc (Nat.le_refl _) (.cells #[] 3)))
  clear h hold D0
  go_enter Try.func44, Try.ntmps44
  go_wp2_with fail
  refine (pick_any bc ac cs M 9 _ (by omega) (by omega) D1.out.cur).mono ?_
  rintro e w1 ⟨⟨n, rfl, hn0, hn1⟩, hc, hg⟩
  have E2 := Lib.hid (D1.out.own E1.out (Nat.le_refl _) hg)
  have D2 := Lib.hid (D1.out.step hc hg)
  clear hc hg D1 E1
  go_wp2_with fail
  refine (one_any bc ac cs (M + 2) 6 _ (by omega) (by omega) D2.out.cur).mono ?_
  rintro e w2 ⟨⟨b, rfl⟩, hc, hg⟩
  have E3 := Lib.hid (D2.out.own E2.out (Nat.le_refl _) hg)
  have D3 := Lib.hid (D2.out.step hc hg)
  clear hc hg D2 E2
  cases b
  case' true =>
    go_wp2_with fail
    refine (pick_any bc ac cs (M + 2 + 2) 24 _ (by omega) (by omega) D3.out.cur).mono ?_
    rintro e w3 ⟨⟨n2, rfl, hm0, hm1⟩, hc, hg⟩
    obtain ⟨k0, rfl⟩ := Int.eq_ofNat_of_zero_le hm0
    have hk0 : k0 ≤ 23 := by omega
    have E4 := Lib.hid (D3.out.own E3.out (Nat.le_refl _) hg)
    have D4 := Lib.hid ((D3.out.step hc hg).mono (show M + 2 + 2 + 2 ≤ M + 6 by omega))
    clear hc hg D3 E3 hm0 hm1 hn0 hn1
  case' false =>
    obtain ⟨k0, rfl⟩ := Int.eq_ofNat_of_zero_le hn0
    have hk0 : k0 ≤ 23 := by omega
    have E4 := E3
    have D4 := Lib.hid (D3.out.mono (show M + 2 + 2 ≤ M + 6 by omega))
    clear D3 E3 hn0 hn1
  all_goals
    go_wp2
    go_loopw [3, 4] (fun v i wr => ∃ (k : Nat) (zs : List Int), i = .int .i64 k ∧ zs.length + k ≤ 24 ∧ k ≤ 23 ∧ (∀ x ∈ zs, -100000 ≤ x ∧ x ≤ 100000) ∧ wr.ownsRow w.heap.size 3 1 v zs.length (zs.map (Value.int .i64)) ∧ Drawn w wr bc ac cs (M + 6 + 6 * (24 - (k : Int)))) (fun _ i _ => (intOf i).toNat)
    case atStart => exact ⟨k0, [], rfl, by simp; omega, hk0, by simp, E4.out, D4.out.mono (by omega)⟩
    case round =>
      obtain ⟨k, zs, rfl, hlen, hk, hok, hown, hD⟩ := hrel
      clear E4 D4
      have HOK := Lib.hid hok; clear hok
      have HO := Lib.hid hown; clear hown
      have HD := Lib.hid hD; clear hD
      rcases Nat.eq_zero_or_pos k with rfl | hkp
      · obtain ⟨a', c', hv⟩ := own_slice HO.out
        rw [hv] at HO
        rw [hv]
        clear hv
        go_wp2
        go_ret
        exact ⟨a', c', zs, rfl, HO.out, by omega, HOK.out, HD.out.mono (by omega)⟩
      · obtain ⟨m, rfl⟩ : ∃ m, k = m + 1 := ⟨k - 1, by omega⟩
        have hcast : ((m + 1 : Nat) : Int) = (m : Int) + 1 := by omega
        rw [hcast]
        have hn40 : zs.length + 1 ≤ 1099511627776 := by omega
        go_wp2_with fail
        refine (one_any bc ac cs _ 8 _ ?h1 (by omega) HD.out.cur).mono ?_
        case h1 => omega
        rintro e w5 ⟨⟨b, rfl⟩, hc, hg⟩
        have HO5 := Lib.hid (HD.out.own HO.out (Nat.le_refl _) hg)
        have HD5 := Lib.hid (HD.out.step hc hg)
        clear hc hg HO HD
        cases b
        · go_wp2_with fail
          refine (pick_any bc ac cs _ 7 _ ?h2 (by omega) HD5.out.cur).mono ?_
          case h2 => omega
          rintro e w6 ⟨⟨x, rfl, hx0, hx1⟩, hc, hg⟩
          have HO6 := Lib.hid (HD5.out.own HO5.out (Nat.le_refl _) hg)
          have HD6 := Lib.hid (HD5.out.step hc hg)
          have hbs := HD6.out.grown.size
          clear hc hg HO5 HD5
          go_wp2_with (at_builtin; refine wpList_app1 slInt rfl (.tmp 24) (.tmp 27) rfl rfl HO6.out [.int .i64 x] rfl rfl (by simp) (by simp [Value.oneCell']) hn40 hbs ?_; intro v' w7 hown' hg' ht)
          have HO7 := Lib.hid hown'
          have HD7 := Lib.hid (HD6.out.app HO6.out (Nat.le_refl _) hg')
          clear hown' hg' ht hbs HO6 HD6
          go_roundw
          case rel => exact ⟨m, zs ++ [x], by go_num, by simp; omega, by omega, fun y hy => by rcases List.mem_append.1 hy with h | h; exact HOK.out y h; simp at h; omega, by simpa using HO7.out, HD7.out.mono (by omega)⟩
          case measure => simp [intOf]
        · have HL : Hid (∀ W : World, IntsAt (W.alloc (.cells #[.int .i64 100000, .int .i64 (-100000), .int .i64 999, .int .i64 (-5)] 3)) (some ⟨W.heap.size, 0, none⟩) [100000, -100000, 999, -5]) := fun W => ownInts (c := 4) (n := 4) (own_lit (e := 3) (size := 1) #[.int .i64 100000, .int .i64 (-100000), .int .i64 999, .int .i64 (-5)] 4 (by omega) rfl)
          have HD5' := Lib.hid (HD5.out.below ((Below.refl _ _).alloc (Nat.le_refl _) (.cells #[.int .i64 100000, .int .i64 (-100000), .int .i64 999, .int .i64 (-5)] 3)))
          have HO5' := Lib.hid (HO5.out.alloc (.cells #[.int .i64 100000, .int .i64 (-100000), .int .i64 999, .int .i64 (-5)] 3))
          go_wp2_with fail
          refine (among_any bc ac cs _ _ 4 [100000, -100000, 999, -5] _ ?h2 (by decide) (by decide) HD5'.out.cur (HL.out w5) ?h3).mono ?_
          case h2 => omega
          case h3 => intro b off e; injection e with e; injection e with e; have := HD5.out.cur.lt; omega
          rintro e w6 ⟨⟨x, rfl, hx⟩, hc, hg⟩
          have HX : Hid (-100000 ≤ x ∧ x ≤ 100000) := by show _ ∧ _; simp at hx; omega
          have HO6 := Lib.hid (HD5'.out.own HO5'.out (Nat.le_refl _) hg)
          have HD6 := Lib.hid (HD5'.out.step hc hg)
          have hbs := HD6.out.grown.size
          clear hc hg HO5 HD5 HO5' HD5' hx HL
          go_wp2_with (at_builtin; refine wpList_app1 slInt rfl (.tmp 18) (.tmp 22) rfl rfl HO6.out [.int .i64 x] rfl rfl (by simp) (by simp [Value.oneCell']) hn40 hbs ?_; intro v' w7 hown' hg' ht)
          have HO7 := Lib.hid hown'
          have HD7 := Lib.hid (HD6.out.app HO6.out (Nat.le_refl _) hg')
          clear hown' hg' ht hbs HO6 HD6
          go_roundw
          case rel => exact ⟨m, zs ++ [x], by go_num, by simp; omega, by omega, fun y hy => by rcases List.mem_append.1 hy with h | h; exact HOK.out y h; simp at h; rw [h]; exact HX.out, by simpa using HO7.out, HD7.out.mono (by omega)⟩
          case measure => simp [intOf]

set_option maxHeartbeats 400000 in
theorem records_any (bc : Nat) (ac : Option Addr) (cs : List Int) (M : Int) (w : World) (hM : M ≤ 1099511500000) (h : Cur w bc ac cs M) (hold : cs ≠ [] → ∀ b off, ac = some ⟨b, off, none⟩ → b < w.heap.size) :
    Calls Try.prog 34 #[.pointer (some ⟨bc, 0, none⟩)] w fun e w' => ∃ (a' : Option Addr) (c' : Nat) (rs : List (Int × Int)), e = .returned (.slice a' rs.length c') ∧ w'.ownsRow w.heap.size 42 2 (.slice a' rs.length c') rs.length (flat encR rs) ∧ rs.length ≤ 24 ∧ Drawn w w' bc ac cs (M + 200) := by
  have D0 : Hid (Drawn w w bc ac cs M) := ⟨h, grown_refl _ _, h.lt, hold⟩
  have E1 := Lib.hid (own_lit (w := w) (e := 42) (size := 2) #[] 0 (by omega) rfl)
  have D1 := Lib.hid (D0.out.below ((Below.refl w.heap.size w).alloc (Nat.le_refl _) (.cells #[] 42)))
  have HZ : Hid (cs ≠ [] → ∀ b off, ac = some ⟨b, off, none⟩ → b < (w.alloc (.cells #[] 42)).heap.size) := fun h0 b off e => by have := hold h0 b off e; simp; omega
  clear h hold D0
  go_enter Try.func34, Try.ntmps34
  go_wp2_with fail
  refine (ints_any bc ac cs M _ (by omega) D1.out.cur HZ.out).mono ?_
  rintro e w1 ⟨ak, ck, zs, rfl, ho, hl, hok, hD⟩
  have HK := Lib.hid (ownInts ho)
  have HKB : Hid (∀ b off, ak = some ⟨b, off, none⟩ → w.heap.size ≠ b ∧ b < w1.heap.size) := fun b off e => by have := ho.lt b (by rw [e]; rfl); simp at this; omega
  have E2 := Lib.hid (D1.out.own E1.out (Nat.le_refl _) hD.grown)
  have D2 : Hid (Drawn w w1 bc ac cs (M + 200)) := ⟨hD.cur, grown_trans D1.out.grown hD.grown, D1.out.old⟩
  clear ho hD D1 E1 HZ hok
  go_wp2
  go_loopw [3, 5] (fun v i wr => ∃ (k : Nat) (rs : List (Int × Int)), k ≤ zs.length ∧ i = .int .i64 k ∧ rs.length = k ∧ wr.ownsRow w.heap.size 42 2 v rs.length (flat encR rs) ∧ IntsAt wr ak zs ∧ (∀ b off, ak = some ⟨b, off, none⟩ → v.ownBlock ≠ some b ∧ b < wr.heap.size) ∧ Drawn w wr bc ac cs (M + 200)) (fun _ i _ => zs.length - (intOf i).toNat)
  case atStart => exact ⟨0, [], by omega, rfl, rfl, E2.out, HK.out, fun b off e => ⟨fun e2 => by have e3 : some w.heap.size = some b := e2; injection e3 with e3; exact (HKB.out b off e).1 e3, (HKB.out b off e).2⟩, D2.out⟩
  case round =>
    obtain ⟨k, rs, hk, rfl, hrl, hown, hik, hkb, hD⟩ := hrel
    clear E2 HK HKB D2
    by_cases hlt : k < zs.length
    · obtain ⟨b, off, rfl, hcell⟩ := hik.at hlt
      have HIK := Lib.hid hik; clear hik
      have HKB := Lib.hid hkb; clear hkb
      have HRL := Lib.hid hrl
      have hn : rs.length + 1 ≤ 1099511627776 := by omega
      clear hrl
      generalize zs.getD k 0 = x at hcell
      have HO := Lib.hid hown; clear hown
      have HD := Lib.hid hD; clear hD
      have hbs := HD.out.grown.size
      go_wp2_with (at_builtin; refine wpList_app1 slRec rfl (.tmp 15) (.tmp 22) rfl rfl HO.out [.int .i64 x, .int .i64 k] rfl rfl (by simp) (by simp [Value.oneCell']) hn hbs ?_; intro v' w2 hown' hg ht)
      have HO' := Lib.hid hown'
      have HD' := Lib.hid (HD.out.app HO.out (Nat.le_refl _) hg)
      have HIK' := Lib.hid (HIK.out.grown hg (fun b' off' e e2 => (HKB.out b' off' e).1 e2))
      have HKB' : Hid (∀ b' off', some (⟨b, off, none⟩ : Addr) = some ⟨b', off', none⟩ → v'.ownBlock ≠ some b' ∧ b' < w2.heap.size) := fun b' off' e => by
        have h1 := HKB.out b' off' e
        refine ⟨fun e2 => ?_, Nat.lt_of_lt_of_le h1.2 hg.size⟩
        rcases ht with ht | ht
        · exact h1.1 (ht ▸ e2)
        · rw [ht] at e2; injection e2 with e2; omega
      clear hown' hg ht hbs hn
      go_roundw
      case rel => exact ⟨k + 1, rs ++ [(x, (k : Int))], by omega, by go_num, by simp [HRL.out], by rw [List.length_append, flat_append]; exact HO'.out, HIK'.out, HKB'.out, HD'.out⟩
      case measure => simp [intOf]; omega
    · obtain ⟨a', c', rfl⟩ := own_slice hown
      have HO := Lib.hid hown; clear hown
      have HD := Lib.hid hD; clear hD hik hkb
      go_wp2
      go_ret
      exact ⟨a', c', rs, rfl, HO.out, by omega, HD.out⟩

end Go.Proofs.Ythakkkljlpimlaa

/- Walks: records that may be invalid; the draw of an argument out of bytes. -/
namespace Go.Proofs.Ythakkkljlpimlaa
open Go.RowKit
set_option linter.unusedVariables false

theorem lit_ints (W : World) (l : List Int) (h : l.length ≤ 1000) : IntsAt (W.alloc (.cells (l.map (Value.int .i64)).toArray 3)) (some ⟨W.heap.size, 0, none⟩) l :=
  ownInts (c := l.length) (n := l.length) (base := W.heap.size) (by simpa using own_lit (w := W) (e := 3) (size := 1) (l.map (Value.int .i64)).toArray l.length (by omega) (by simp))

set_option maxHeartbeats 2000000 in
theorem anyRecords_any (bc : Nat) (ac : Option Addr) (cs : List Int) (M : Int) (w : World) (hM : M ≤ 1099511400000) (h : Cur w bc ac cs M) (hold : cs ≠ [] → ∀ b off, ac = some ⟨b, off, none⟩ → b < w.heap.size) :
    Calls Try.prog 26 #[.pointer (some ⟨bc, 0, none⟩)] w fun e w' => ∃ (a' : Option Addr) (c' : Nat) (rs : List (Int × Int)), e = .returned (.slice a' rs.length c') ∧ w'.ownsRow w.heap.size 42 2 (.slice a' rs.length c') rs.length (flat encR rs) ∧ rs.length ≤ 70 ∧ Drawn w w' bc ac cs (M + 1000) := by
  go_enter Try.func26, Try.ntmps26
  go_wp2_with fail
  refine (records_any bc ac cs M _ (by omega) h hold).mono ?_
  rintro e w1 ⟨a1, c1, rs, rfl, ho, hl, hD⟩
  have HO1 := Lib.hid ho
  have HD1 := Lib.hid hD
  clear ho hD h hold
  go_wp2_with fail
  refine (pick_any bc ac cs _ 24 _ ?h1 (by omega) HD1.out.cur).mono ?_
  case h1 => omega
  rintro e w2 ⟨⟨n, rfl, hn0, hn1⟩, hc, hg⟩
  have HO2 := Lib.hid (HD1.out.own HO1.out (Nat.le_refl _) hg)
  have HD2 := Lib.hid (HD1.out.step hc hg)
  clear hc hg HO1 HD1
  by_cases n0 : n = 0
  · subst n0
    have HD3 := Lib.hid (HD2.out.below ((Below.refl _ _).alloc (Nat.le_refl _) (.cells #[.int .i64 0, .int .i64 100001] 3)))
    have HO3 := Lib.hid (HO2.out.alloc (.cells #[.int .i64 0, .int .i64 100001] 3))
    go_wp2_with fail
    refine (among_any bc ac cs _ _ 2 [0, 100001] _ ?h2 (by decide) (by decide) HD3.out.cur (lit_ints w2 [0, 100001] (by decide)) ?h3).mono ?_
    case h2 => omega
    case h3 => intro b off e; injection e with e; injection e with e; have := HD2.out.cur.lt; omega
    rintro e w4 ⟨⟨x, rfl, hx⟩, hc, hg⟩
    have HO4 := Lib.hid (HD3.out.own HO3.out (Nat.le_refl _) hg)
    have HD4 := Lib.hid (HD3.out.step hc hg)
    clear hc hg HO2 HD2 HO3 HD3 hx
    have HD5 := Lib.hid (HD4.out.below ((Below.refl _ _).alloc (Nat.le_refl _) (.cells #[.int .i64 (-1), .int .i64 1000, .int .i64 999] 3)))
    have HO5 := Lib.hid (HO4.out.alloc (.cells #[.int .i64 (-1), .int .i64 1000, .int .i64 999] 3))
    go_wp2_with fail
    refine (among_any bc ac cs _ _ 3 [-1, 1000, 999] _ ?h4 (by decide) (by decide) HD5.out.cur (lit_ints w4 [-1, 1000, 999] (by decide)) ?h5).mono ?_
    case h4 => omega
    case h5 => intro b off e; injection e with e; injection e with e; have := HD4.out.cur.lt; omega
    rintro e w6 ⟨⟨y, rfl, hy⟩, hc, hg⟩
    have HO6 := Lib.hid (HD5.out.own HO5.out (Nat.le_refl _) hg)
    have HD6 := Lib.hid (HD5.out.step hc hg)
    have hbs := HD6.out.grown.size
    have hn40 : rs.length + 1 ≤ 1099511627776 := by omega
    clear hc hg HO4 HD4 HO5 HD5 hy
    go_wp2_with (at_builtin; refine wpList_app1 slRec rfl (.tmp 10) (.tmp 18) rfl rfl HO6.out [.int .i64 x, .int .i64 y] rfl rfl (by simp) (by simp [Value.oneCell']) hn40 hbs ?_; intro v' w7 hown' hg' ht)
    obtain ⟨a', c', hv⟩ := own_slice hown'
    have HO7 := Lib.hid hown'
    have HD7 := Lib.hid (HD6.out.app HO6.out (Nat.le_refl _) hg')
    clear hown' hg' ht hbs HO6 HD6
    rw [hv] at HO7
    rw [hv]
    clear hv
    go_wp2
    go_ret
    exact ⟨a', c', rs ++ [(x, y)], by simp, by rw [List.length_append, flat_append]; exact HO7.out, by simp; omega, HD7.out.mono (by omega)⟩
  · have q0 : (n == 0) = false := by simpa using n0
    by_cases n1 : n = 1
    · subst n1
      go_wp2
      go_loopw [3] (fun v wr => ∃ rs' : List (Int × Int), rs'.length ≤ 65 ∧ wr.ownsRow w.heap.size 42 2 v rs'.length (flat encR rs') ∧ (∃ a c, v = .slice a rs'.length c) ∧ Drawn w wr bc ac cs (M + 300 + 8 * (rs'.length : Int))) (fun v _ => 66 - (match v with | .slice _ l _ => l | _ => 0))
      case atStart => exact ⟨rs, by omega, HO2.out, own_slice HO2.out, HD2.out.mono (by omega)⟩
      case round =>
        obtain ⟨rs', hl', hown, ⟨a, c, rfl⟩, hD⟩ := hrel
        clear HO2 HD2
        have HO := Lib.hid hown; clear hown
        have HD := Lib.hid hD; clear hD
        go_wp2_with fail
        refine (pick_any bc ac cs _ 2 _ ?h6 (by omega) HD.out.cur).mono ?_
        case h6 => omega
        rintro e w3 ⟨⟨p, rfl, hp0, hp1⟩, hc, hg⟩
        have HO3 := Lib.hid (HD.out.own HO.out (Nat.le_refl _) hg)
        have HD3 := Lib.hid (HD.out.step hc hg)
        clear hc hg HO HD
        by_cases hlt : (rs'.length : Int) < 64 + p
        · go_wp2_with fail
          refine (pick_any bc ac cs _ 5 _ ?h7 (by omega) HD3.out.cur).mono ?_
          case h7 => omega
          rintro e w4 ⟨⟨x, rfl, hx0, hx1⟩, hc, hg⟩
          have HO4 := Lib.hid (HD3.out.own HO3.out (Nat.le_refl _) hg)
          have HD4 := Lib.hid (HD3.out.step hc hg)
          have hbs := HD4.out.grown.size
          have hn40 : rs'.length + 1 ≤ 1099511627776 := by omega
          clear hc hg HO3 HD3
          go_wp2_with (at_builtin; refine wpList_app1 slRec rfl (.tmp 28) (.tmp 34) rfl rfl HO4.out [.int .i64 x, .int .i64 rs'.length] rfl rfl (by simp) (by simp [Value.oneCell']) hn40 hbs ?_; intro v' w7 hown' hg' ht)
          obtain ⟨a', c', hv⟩ := own_slice hown'
          have HO7 := Lib.hid hown'
          have HD7 := Lib.hid (HD4.out.app HO4.out (Nat.le_refl _) hg')
          clear hown' hg' ht hbs HO4 HD4
          rw [hv] at HO7
          rw [hv]
          clear hv
          go_roundw
          case rel => exact ⟨rs' ++ [(x, (rs'.length : Int))], by simp; omega, by rw [List.length_append, flat_append]; exact HO7.out, ⟨a', c', by simp⟩, HD7.out.mono (by simp; omega)⟩
          case measure => simp; omega
        · go_wp2
          go_ret
          exact ⟨a, c, rs', rfl, HO3.out, by omega, HD3.out.mono (by omega)⟩
    · have q1 : (n == 1) = false := by simpa using n1
      go_wp2
      go_ret
      exact ⟨a1, c1, rs, rfl, HO2.out, by omega, HD2.out.mono (by omega)⟩

set_option maxHeartbeats 400000 in
theorem drawIsValidRecords_any (ac : Option Addr) (c : Nat) (cs : List Int) (w : World) (hl : cs.length ≤ 65537) (h : BytesAt w ac cs) :
    Calls Try.prog 11 #[.slice ac cs.length c] w fun e w' => ∃ (a' : Option Addr) (c' : Nat) (rs : List (Int × Int)), e = .returned (.slice a' rs.length c') ∧ w'.ownsRow w.heap.size 42 2 (.slice a' rs.length c') rs.length (flat encR rs) ∧ rs.length ≤ 70 ∧ Below w.heap.size w w' := by
  have HR := Lib.hid (block_new w (.cells #[.slice ac cs.length c, .int .i64 0, .int .u64 0] 57))
  have HB : Hid (Below w.heap.size w (w.alloc (.cells #[.slice ac cs.length c, .int .i64 0, .int .u64 0] 57))) := (Below.refl _ _).alloc (Nat.le_refl _) _
  have H := Lib.hid h
  have HO : Hid (cs ≠ [] → ∀ b off, ac = some ⟨b, off, none⟩ → b < w.heap.size) := fun h0 b off e => by
    obtain ⟨b', off', e', hb⟩ := h.lt h0
    rw [e] at e'; injection e' with e'; injection e' with e' _; omega
  have HC : Hid (Cur (w.alloc (.cells #[.slice ac cs.length c, .int .i64 0, .int .u64 0] 57)) w.heap.size ac cs 0) :=
    ⟨⟨c, 0, 0, HR.out, by omega, by omega⟩, H.out.below (Nat.le_refl _) HB.out, fun h0 b off e => by have := HO.out h0 b off e; omega, by omega⟩
  clear h
  go_enter Try.func11, Try.ntmps11
  go_wp2_with fail
  refine (anyRecords_any w.heap.size ac cs 0 _ (by omega) HC.out (fun h0 b off e => by have := HO.out h0 b off e; simp; omega)).mono ?_
  rintro e w1 ⟨a', c', rs, rfl, ho, hl2, hD⟩
  have HO := Lib.hid (own_mono ho (by simp : w.heap.size ≤ _))
  have HB1 := Lib.hid (HB.out.grown hD.grown (by simp) (fun k hk => by injection hk with hk; omega))
  clear ho hD
  go_wp2
  go_ret
  exact ⟨a', c', rs, rfl, HO.out, hl2, HB1.out⟩

end Go.Proofs.Ythakkkljlpimlaa

/- General lemmas: two lists of the call's own that grow side by side. -/
namespace Go.Proofs.Ythakkkljlpimlaa
open Go.RowKit
set_option linter.unusedVariables false

/-- Two lists that the call owns, in two blocks. -/
structure Two (w : World) (base : Nat) (e1 : TypeId) (s1 : Nat) (v : Value) (n : Nat) (xs : List Value) (e2 : TypeId) (s2 : Nat) (u : Value) (m : Nat) (ys : List Value) : Prop where
  fst : w.ownsRow base e1 s1 v n xs
  snd : w.ownsRow base e2 s2 u m ys
  ne : ∀ k, v.ownBlock = some k → u.ownBlock ≠ some k

theorem Two.below {w w' : World} {base : Nat} {e1 e2 : TypeId} {s1 s2 n m : Nat} {v u : Value} {xs ys : List Value} (h : Two w base e1 s1 v n xs e2 s2 u m ys) (hb : Below w.heap.size w w') : Two w' base e1 s1 v n xs e2 s2 u m ys :=
  ⟨own_below h.1 (Nat.le_refl _) hb, own_below h.2 (Nat.le_refl _) hb, h.3⟩

theorem Two.app1 {w w' : World} {base : Nat} {e1 e2 : TypeId} {s1 s2 n m n' : Nat} {v u v' : Value} {xs ys xs' : List Value} (h : Two w base e1 s1 v n xs e2 s2 u m ys)
    (ho : w'.ownsRow base e1 s1 v' n' xs') (hg : w.grownBy w' v.ownBlock) (ht : v'.ownBlock = v.ownBlock ∨ v'.ownBlock = some (w.heap.size + 1)) : Two w' base e1 s1 v' n' xs' e2 s2 u m ys := by
  refine ⟨ho, ?_, ?_⟩
  · refine own_other h.2 hg fun k hk e => ?_
    exact h.3 k e hk
  · intro k hk hu
    rcases ht with ht | ht
    · rw [ht] at hk; exact h.3 k hk hu
    · rw [ht] at hk
      have := (h.2.lt k hu).2
      simp only [Option.some.injEq] at hk
      omega

theorem Two.app2 {w w' : World} {base : Nat} {e1 e2 : TypeId} {s1 s2 n m m' : Nat} {v u u' : Value} {xs ys ys' : List Value} (h : Two w base e1 s1 v n xs e2 s2 u m ys)
    (ho : w'.ownsRow base e2 s2 u' m' ys') (hg : w.grownBy w' u.ownBlock) (ht : u'.ownBlock = u.ownBlock ∨ u'.ownBlock = some (w.heap.size + 1)) : Two w' base e1 s1 v n xs e2 s2 u' m' ys' := by
  refine ⟨?_, ho, ?_⟩
  · refine own_other h.1 hg fun k hk e => ?_
    exact h.3 k hk e
  · intro k hk hu
    rcases ht with ht | ht
    · rw [ht] at hu; exact h.3 k hk hu
    · rw [ht] at hu
      have := (h.1.lt k hk).2
      simp only [Option.some.injEq] at hu
      omega

/-- 'append(s, u...)', u a list that is owned (nil too). -/
theorem wpList_appL {P : Program} {w : World} {ops : Array Oper} {rest : List Oper} {o : Oper} {a : Act} {Q : Exit → Act → World → Prop} {t e : TypeId} {z : Value} {size bytes : Nat} (T : SlT P t e z size bytes)
    (hgd : o.guard = none) (s y : Operand) (ho : o.op = .call { callee := .builtin .append, args := #[s, y], argTypes := #[t, t] })
    {base base2 : Nat} {v u : Value} {n m : Nat} {xs ys : List Value} (hs : a.eval s = v) (hown : w.ownsRow base e size v n xs) (hy : a.eval y = u) (hu : w.ownsRow base2 e size u m ys)
    (h1 : ∀ x ∈ ys, x.oneCell' = true) (hsmall : n + m ≤ 1099511627776) (hbase : base ≤ w.heap.size)
    (h : ∀ v' w', w'.ownsRow base e size v' (n + m) (xs ++ ys) → w.grownBy w' v.ownBlock → (v'.ownBlock = v.ownBlock ∨ v'.ownBlock = some w.heap.size) → wpList P ops Q rest (a.put o.dst v') w') :
    wpList P ops Q (o :: rest) a w := by
  have hl := hu.1
  rcases hu.2 with ⟨hu1, hm⟩ | ⟨g, cap, cur, hv, hg⟩
  · subst hm
    have hys : ys = [] := List.eq_nil_of_length_eq_zero (by simpa using hl)
    subst hys
    obtain ⟨i, hi, hz, hsz, hby⟩ := T.info
    refine wpList_append_own_none hgd s y t ho base e i size T.und hi v n xs hs hown (by rw [hy, hu1]) ?_
    refine h v w (by simpa using hown) ⟨rfl, rfl, rfl, Nat.le_refl _, fun _ _ _ => rfl⟩ (.inl rfl)
  · refine wpList_plain hgd fun K hK => ?_
    have hcells : ∀ j x, ys[j]? = some x → w.cell? ((⟨g, 0, none⟩ : Addr).add j) = some x := hu.cells (g := g) (by rw [hv]; rfl)
    obtain ⟨v', w', hr, h2, h3, h4⟩ := run_app_tag (P := P) w T base o.type v n xs hown ⟨g, 0, none⟩ m cap ys hl hcells h1 hsmall hbase
    unfold Oper.wp execOp
    simp only [ho, resolve, invoke, builtin, Sem.run_bind, Sem.run_pure, Result.andThen_ok, List.map_toArray, List.map_cons, List.map_nil, hs, hy, hv, hr]
    exact hK _ _ (h v' w' h2 h3 h4)

theorem own_at {w : World} {base : Nat} {e : TypeId} {a : Option Addr} {n c : Nat} {xs : List Value} (h : w.ownsRow base e 1 (.slice a n c) n xs) {i : Nat} {x : Value} (hx : xs[i]? = some x) :
    ∃ g, a = some ⟨g, 0, none⟩ ∧ w.cell? ⟨g, i, none⟩ = some x ∧ base ≤ g ∧ g < w.heap.size := by
  have hi : i < xs.length := (List.getElem?_eq_some_iff.1 hx).1
  obtain ⟨h1, h2⟩ := h
  rcases h2 with ⟨h2, h3⟩ | ⟨g, cap, cur, hv, hb, hg, hn, hc, hs, ht⟩
  · simp [h3] at h1; subst h1; simp at hi
  · simp only [Value.slice.injEq] at hv
    obtain ⟨rfl, _, rfl⟩ := hv
    refine ⟨g, rfl, ?_, hb, (Array.getElem?_eq_some_iff.1 hg).1⟩
    rw [← ht, List.getElem?_take] at hx
    split at hx
    · simp [World.cell?, hg]
      simpa using hx
    · cases hx

end Go.Proofs.Ythakkkljlpimlaa

/- Plain law: an item put into its place in an ascending list, by steps down. No program in sight. -/
namespace Go.Proofs.Ythakkkljlpimlaa.Mg
set_option linter.unusedVariables false
section
variable {α : Type} {lt : α → α → Bool}

/-- x stands at place k of A, R behind. -/
def insSt (A : List α) (x : α) (k : Nat) (R : List α) : List α := A.take k ++ x :: (A.drop k ++ R)

theorem insSt_len {A : List α} {x : α} {k : Nat} {R : List α} (hk : k ≤ A.length) : (insSt A x k R).length = A.length + 1 + R.length := by
  unfold insSt
  simp only [List.length_append, List.length_cons, List.length_take, List.length_drop]
  omega
theorem insSt_top (A : List α) (x : α) (R : List α) : insSt A x A.length R = A ++ x :: R := by
  unfold insSt; simp
theorem insSt_at {A : List α} {x : α} {k : Nat} {R : List α} (hk : k ≤ A.length) : (insSt A x k R)[k]? = some x := by
  unfold insSt
  rw [List.getElem?_append_right (by rw [List.length_take]; omega), List.length_take, show k - min k A.length = 0 by omega]
  rfl
theorem insSt_before {A : List α} {x : α} {k : Nat} {R : List α} (hk : k < A.length) : (insSt A x (k + 1) R)[k]? = some A[k] := by
  unfold insSt
  rw [List.getElem?_append_left (by rw [List.length_take]; omega), List.getElem?_take_of_lt (by omega), List.getElem?_eq_getElem hk]
theorem insSt_step {A : List α} {x : α} {k : Nat} {R : List α} (hk : k < A.length) : ((insSt A x (k + 1) R).set k x).set (k + 1) A[k] = insSt A x k R := by
  unfold insSt
  have h1 : A.take (k + 1) = A.take k ++ [A[k]] := by rw [List.take_add_one, List.getElem?_eq_getElem hk]; rfl
  have h2 : A.drop k = A[k] :: A.drop (k + 1) := List.drop_eq_getElem_cons hk
  have hl : (A.take k).length = k := by rw [List.length_take]; omega
  rw [h1, h2, List.append_assoc, List.set_append, if_neg (by omega), hl, Nat.sub_self, List.set_append, if_neg (by omega), hl, show k + 1 - k = 1 by omega]
  rfl
theorem insSt_end (S : SW lt) {A : List α} {x : α} {k : Nat} {R : List α} (hA : Asc lt A) (hk : k ≤ A.length) (hd : ∀ b ∈ A.drop k, lt x b = true) (hs : ∀ (h : 0 < k), lt x (A[k - 1]'(by omega)) = false) :
    insSt A x k R = mrg lt A [x] ++ R := by
  have h1 : mrg lt A [x] = mrg lt (A.take k) [x] ++ A.drop k := by
    have := mrg_down (lt := lt) (A := A.take k) (B := A.drop k) (x := x) hd
    rwa [List.take_append_drop] at this
  have h2 : mrg lt (A.take k) [x] = A.take k ++ [x] := by
    apply mrg_stop
    intro a ha
    obtain ⟨i, hi, rfl⟩ := List.mem_take_iff_getElem.1 ha
    have hi' : i < k := by omega
    have hs' := hs (by omega)
    by_cases e : i = k - 1
    · subst e; exact hs'
    · have := List.pairwise_iff_getElem.1 hA i (k - 1) (by omega) (by omega) (by omega)
      exact le_trans' S this hs'
  unfold insSt
  rw [h1, h2]
  simp
/-- One item more that has its place. -/
theorem insSt_srt (S : SW lt) {l : List α} {x : α} {k : Nat} {R : List α} (hk : k ≤ (srt lt l).length) (hd : ∀ b ∈ (srt lt l).drop k, lt x b = true) (hs : ∀ (h : 0 < k), lt x ((srt lt l)[k - 1]'(by omega)) = false) :
    insSt (srt lt l) x k R = srt lt (l ++ [x]) ++ R := by
  rw [insSt_end S (srt_asc S l) hk hd hs, srt_snoc]

theorem asc_unique (S : SW lt) (ht : ∀ a b, lt a b = false → lt b a = false → a = b) : ∀ {l r : List α}, l.Perm r → Asc lt l → Asc lt r → l = r := by
  intro l r hp hl hr
  exact hp.eq_of_pairwise (fun a b _ _ h1 h2 => ht a b h2 h1) hl hr
end

/-- Integers: the library's sort is this one. -/
def ltI (a b : Int) : Bool := decide (a < b)
theorem swI : SW ltI := swK (fun x : Int => x)
def srtI (l : List Int) : List Int := srt ltI l
theorem merge_srtI (l : List Int) : l.mergeSort (fun x y => decide (x ≤ y)) = srtI l := by
  have h1 : (l.mergeSort (fun x y => decide (x ≤ y))).Pairwise (fun a b => decide (a ≤ b) = true) :=
    List.pairwise_mergeSort (by intro a b c; simp; omega) (by intro a b; simp; omega) l
  have h2 : Asc ltI (l.mergeSort (fun x y => decide (x ≤ y))) := by
    refine h1.imp ?_
    intro a b h
    simp [ltI] at h ⊢
    omega
  refine asc_unique swI (fun a b h1 h2 => by simp [ltI] at h1 h2; omega) ?_ h2 (srt_asc swI l)
  exact (List.mergeSort_perm _ _).trans (srt_perm l).symm
end Go.Proofs.Ythakkkljlpimlaa.Mg

/- General: an owned list of integers, sorted by the library; one copied. -/
namespace Go.Proofs.Ythakkkljlpimlaa
open Go.RowKit Go.Sort
set_option linter.unusedVariables false

theorem below_grow' {B : Nat} {w : World} (os : Array Obj) (hB : B ≤ w.heap.size) : Below B w (grow w os) :=
  ⟨rfl, rfl, rfl, by simp [grow], fun k hk => heap_grow_old w os (by omega)⟩
theorem grown_put {w : World} {g q : Nat} {ys : List Int} {os : Array Obj} : w.grownBy (grow (putRow (Value.int .i64) (Sort.ahead w q) g 0 ys.toArray) os) (some g) := by
  refine ⟨rfl, rfl, rfl, by simp, fun k hk hne => ?_⟩
  rw [heap_grow_old _ _ (by simpa using hk)]
  have : g ≠ k := fun e => hne (by rw [e])
  simp [putRow, mapBlock, Sort.ahead, Array.getElem?_modify, this]
/-- Behind the library's sort. -/
theorem own_sorted {w : World} {base g n cap q : Nat} {e : TypeId} {zs ys : List Int} {os : Array Obj} (h : w.ownsRow base e 1 (.slice (some ⟨g, 0, none⟩) n cap) n (zs.map (Value.int .i64))) (hy : ys.length = n) :
    (grow (putRow (Value.int .i64) (Sort.ahead w q) g 0 ys.toArray) os).ownsRow base e 1 (.slice (some ⟨g, 0, none⟩) n cap) n (ys.map (Value.int .i64)) := by
  have h1 := Lib.ownsRow_putRow (q := q) (k := n) h hy (Nat.le_refl _)
  rw [List.take_of_length_le (by omega)] at h1
  exact own_below h1 (Nat.le_refl _) (below_grow' os (Nat.le_refl _))
theorem own_holds {w : World} {base g n cap : Nat} {e : TypeId} {zs : List Int} (h : w.ownsRow base e 1 (.slice (some ⟨g, 0, none⟩) n cap) n (zs.map (Value.int .i64))) : Holds (Value.int .i64) w g 0 zs.toArray := by
  obtain ⟨g', c', e', _, _, _, _, _, h3⟩ := Lib.holds_of_ownsRow h (by simp)
  injection e' with e' _ _
  injection e' with e'
  injection e' with e'
  subst e'
  exact h3

theorem own_celli {w : World} {base : Nat} {e : TypeId} {g : Nat} {n c : Nat} {xs : List Value} (h : w.ownsRow base e 1 (.slice (some ⟨g, 0, none⟩) n c) n xs) {i : Nat} {x : Value} (hx : xs[i]? = some x) : w.cell? ⟨g, i, none⟩ = some x := by
  obtain ⟨g', hg, hc, _⟩ := own_at h hx
  simp only [Option.some.injEq, Addr.mk.injEq, and_true] at hg
  rw [hg]; exact hc

/-- One step down of an item that is put into its place. -/
theorem own_step {w : World} {base g n cap k : Nat} {e : TypeId} {A R : List Int} {x : Int} (hk : k < A.length) (h : w.ownsRow base e 1 (.slice (some ⟨g, 0, none⟩) n cap) n ((Mg.insSt A x (k + 1) R).map (Value.int .i64))) :
    ((w.setCell ⟨g, k, none⟩ (.int .i64 x)).setCell ⟨g, k + 1, none⟩ (.int .i64 A[k])).ownsRow base e 1 (.slice (some ⟨g, 0, none⟩) n cap) n ((Mg.insSt A x k R).map (Value.int .i64)) ∧ w.grownBy ((w.setCell ⟨g, k, none⟩ (.int .i64 x)).setCell ⟨g, k + 1, none⟩ (.int .i64 A[k])) (some g) := by
  have h1 := h.stored k (.int .i64 x)
  have h2 := h1.1.stored (k + 1) (.int .i64 A[k])
  refine ⟨?_, grown_trans h1.2 h2.2⟩
  have e1 : ((Mg.insSt A x (k + 1) R).map (Value.int .i64)).set k (.int .i64 x) = ((Mg.insSt A x (k + 1) R).set k x).map (Value.int .i64) := (List.map_set ..).symm
  have e2 : (((Mg.insSt A x (k + 1) R).set k x).map (Value.int .i64)).set (k + 1) (.int .i64 A[k]) = (((Mg.insSt A x (k + 1) R).set k x).set (k + 1) A[k]).map (Value.int .i64) := (List.map_set ..).symm
  have h3 := h2.1
  rw [e1, e2, Mg.insSt_step hk] at h3
  exact h3
theorem own_ins_cells {w : World} {base g n cap k : Nat} {e : TypeId} {A R : List Int} {x : Int} (hk : k < A.length) (h : w.ownsRow base e 1 (.slice (some ⟨g, 0, none⟩) n cap) n ((Mg.insSt A x (k + 1) R).map (Value.int .i64))) :
    w.cell? ⟨g, k, none⟩ = some (.int .i64 A[k]) ∧ w.cell? ⟨g, k + 1, none⟩ = some (.int .i64 x) ∧ w.frozen? ⟨g, k, none⟩ = false ∧ w.frozen? ⟨g, k + 1, none⟩ = false :=
  ⟨own_celli h (by rw [List.getElem?_map, Mg.insSt_before hk]; rfl), own_celli h (by rw [List.getElem?_map, Mg.insSt_at (by omega)]; rfl), h.frozenAt k, h.frozenAt (k + 1)⟩

theorem own_stepD {w : World} {base g n cap k : Nat} {e : TypeId} {A R : List Int} {x y : Int} (hk : k < A.length) (hy : A.getD k 0 = y) (h : w.ownsRow base e 1 (.slice (some ⟨g, 0, none⟩) n cap) n ((Mg.insSt A x (k + 1) R).map (Value.int .i64))) :
    ((w.setCell ⟨g, k, none⟩ (.int .i64 x)).setCell ⟨g, k + 1, none⟩ (.int .i64 y)).ownsRow base e 1 (.slice (some ⟨g, 0, none⟩) n cap) n ((Mg.insSt A x k R).map (Value.int .i64)) ∧ w.grownBy ((w.setCell ⟨g, k, none⟩ (.int .i64 x)).setCell ⟨g, k + 1, none⟩ (.int .i64 y)) (some g) := by
  have e1 : A[k] = y := by rw [← hy, List.getD_eq_getElem?_getD, List.getElem?_eq_getElem hk]; rfl
  subst e1
  exact own_step hk h
theorem own_ins_cellsD {w : World} {base g n cap k : Nat} {e : TypeId} {A R : List Int} {x : Int} (hk : k < A.length) (h : w.ownsRow base e 1 (.slice (some ⟨g, 0, none⟩) n cap) n ((Mg.insSt A x (k + 1) R).map (Value.int .i64))) :
    w.cell? ⟨g, k, none⟩ = some (.int .i64 (A.getD k 0)) ∧ w.cell? ⟨g, k + 1, none⟩ = some (.int .i64 x) ∧ w.frozen? ⟨g, k, none⟩ = false ∧ w.frozen? ⟨g, k + 1, none⟩ = false := by
  have e1 : A.getD k 0 = A[k] := by rw [List.getD_eq_getElem?_getD, List.getElem?_eq_getElem hk]; rfl
  rw [e1]
  exact own_ins_cells hk h
theorem ins_end_int {l : List Int} {x : Int} {k : Nat} {R : List Int} (hk : k ≤ l.length) (hd : ∀ b ∈ (Mg.srtI l).drop k, x < b) (hs : 0 < k → ¬ x < (Mg.srtI l).getD (k - 1) 0) : Mg.insSt (Mg.srtI l) x k R = Mg.srtI (l ++ [x]) ++ R := by
  have hl : (Mg.srtI l).length = l.length := Mg.srt_length l
  refine Mg.insSt_srt Mg.swI (lt := Mg.ltI) (by show k ≤ (Mg.srtI l).length; omega) (fun b hb => by simpa [Mg.ltI] using hd b hb) (fun h0 => ?_)
  have h1 := hs h0
  rw [List.getD_eq_getElem?_getD, List.getElem?_eq_getElem (by omega)] at h1
  unfold Mg.srtI at h1
  simpa [Mg.ltI] using h1
theorem srtI_len (l : List Int) : (Mg.srtI l).length = l.length := Mg.srt_length l
theorem srtI_start (zs : List Int) : zs = Mg.srtI (zs.take 1) ++ zs.drop 1 := by
  cases zs with
  | nil => rfl
  | cons a t => simp [Mg.srtI, Mg.srt_one]
theorem ins_start {zs : List Int} {i : Nat} (hi : i < zs.length) : Mg.srtI (zs.take i) ++ zs.drop i = Mg.insSt (Mg.srtI (zs.take i)) (zs.getD i 0) i (zs.drop (i + 1)) := by
  have hl : (Mg.srtI (zs.take i)).length = i := by rw [srtI_len, List.length_take]; omega
  have h1 := Mg.insSt_top (Mg.srtI (zs.take i)) (zs.getD i 0) (zs.drop (i + 1))
  rw [hl] at h1
  rw [h1, List.drop_eq_getElem_cons hi, List.getD_eq_getElem?_getD, List.getElem?_eq_getElem hi]
  rfl
theorem take_snoc {zs : List Int} {i : Nat} (hi : i < zs.length) : zs.take i ++ [zs.getD i 0] = zs.take (i + 1) := by
  rw [List.take_add_one, List.getElem?_eq_getElem hi, List.getD_eq_getElem?_getD, List.getElem?_eq_getElem hi]
  rfl

theorem own_addr {w : World} {base : Nat} {e : TypeId} {size : Nat} {a : Option Addr} {n c : Nat} {xs : List Value} (h : w.ownsRow base e size (.slice a n c) n xs) (hb : (Value.slice a n c).ownBlock ≠ none) : ∃ g, a = some ⟨g, 0, none⟩ ∧ base ≤ g ∧ g < w.heap.size := by
  rcases h.2 with ⟨h2, _⟩ | ⟨g, cap, cur, hv, hbs, hg, _⟩
  · injection h2 with h2 _ _
    subst h2
    exact absurd rfl hb
  · injection hv with hv _ _
    exact ⟨g, hv, hbs, (Array.getElem?_eq_some_iff.1 hg).1⟩
theorem ints_news {w : World} {x : Addr} {zs : List Int} (h : IntsAt w (some x) zs) : ∀ j u, (zs.map (Value.int .i64))[j]? = some u → w.cell? (x.add j) = some u := by
  intro j u hu
  rw [List.getElem?_map] at hu
  rcases h with rfl | ⟨b, off, e, _, h2⟩
  · simp at hu
  · injection e with e
    subst e
    by_cases hj : j < zs.length
    · rw [List.getElem?_eq_getElem hj] at hu
      have h3 := h2 j hj
      rw [List.getD_eq_getElem?_getD, List.getElem?_eq_getElem hj] at h3
      simp at hu h3
      rw [← hu, ← h3]
      unfold Addr.add
      split <;> simp_all
    · rw [List.getElem?_eq_none (by omega)] at hu; simp at hu
/-- 'append(l, x...)' where x can be read. -/
theorem wpList_appX {P : Program} {w : World} {ops : Array Oper} {rest : List Oper} {o : Oper} {a : Act} {Q : Exit → Act → World → Prop} {t e : TypeId} {z : Value} {size bytes : Nat} (T : SlT P t e z size bytes)
    (hgd : o.guard = none) (s y : Operand) (ho : o.op = .call { callee := .builtin .append, args := #[s, y], argTypes := #[t, t] })
    {base : Nat} {v : Value} {n m c : Nat} {xs ys : List Value} {ad : Addr} (hs : a.eval s = v) (hown : w.ownsRow base e size v n xs) (hy : a.eval y = .slice (some ad) m c) (hl : ys.length = m * size) (hcells : ∀ j x, ys[j]? = some x → w.cell? (ad.add j) = some x)
    (h1 : ∀ x ∈ ys, x.oneCell' = true) (hsmall : n + m ≤ 1099511627776) (hbase : base ≤ w.heap.size)
    (h : ∀ v' w', w'.ownsRow base e size v' (n + m) (xs ++ ys) → w.grownBy w' v.ownBlock → (v'.ownBlock = v.ownBlock ∨ v'.ownBlock = some w.heap.size) → wpList P ops Q rest (a.put o.dst v') w') :
    wpList P ops Q (o :: rest) a w := by
  refine wpList_plain hgd fun K hK => ?_
  obtain ⟨v', w', hr, h2, h3, h4⟩ := run_app_tag (P := P) w T base o.type v n xs hown ad m c ys hl hcells h1 hsmall hbase
  unfold Oper.wp execOp
  simp only [ho, resolve, invoke, builtin, Sem.run_bind, Sem.run_pure, Result.andThen_ok, List.map_toArray, List.map_cons, List.map_nil, hs, hy, hr]
  exact hK _ _ (h v' w' h2 h3 h4)

end Go.Proofs.Ythakkkljlpimlaa

/- Rows of integers written at a place in their midst; the swap of two. -/
namespace Go.Proofs.Ythakkkljlpimlaa
open Go.RowKit Go.Sort
set_option linter.unusedVariables false

theorem own_putAt {α : Type} [Inhabited α] {enc : α → Value} {w : World} {base : Nat} {e : TypeId} {g n cap q off : Nat} {zs ys : List α} (h : w.ownsRow base e 1 (.slice (some ⟨g, 0, none⟩) n cap) n (zs.map enc)) (hy : off + ys.length ≤ n) :
    (putRow enc (Sort.ahead w q) g off ys.toArray).ownsRow base e 1 (.slice (some ⟨g, 0, none⟩) n cap) n ((zs.take off ++ ys ++ zs.drop (off + ys.length)).map enc) := by
  have hl : zs.length = n := by have := h.1; simpa using this
  rcases h.2 with ⟨e0, _⟩ | ⟨g', cap', cur, e0, hb, hg, hn, hm, hs, ht⟩
  · cases e0
  · injection e0 with e1 _ e3
    injection e1 with e1
    injection e1 with e1
    subst e1; subst e3
    refine ⟨by simp; omega, .inr ⟨g, cap, putCells enc off ys.toArray cur, rfl, hb, ?_, hn, hm, by simpa [putCells] using hs, ?_⟩⟩
    · simp [putRow, mapBlock, Sort.ahead, Array.getElem?_modify, hg, onCells]
    · apply List.ext_getElem?
      intro j
      have hcur : ∀ j, j < n → cur[j]? = (zs[j]?).map enc := fun j hj => by
        have := congrArg (fun l : List Value => l[j]?) ht
        simp only [List.getElem?_take, Nat.mul_one, if_pos hj, Array.getElem?_toList, List.getElem?_map] at this
        exact this
      rw [List.getElem?_take, List.getElem?_map, Array.getElem?_toList]
      by_cases hj : j < n
      · have hjc : j < cur.size := by omega
        simp only [Nat.mul_one, if_pos hj, putCells, Array.getElem?_mapIdx]
        rw [hcur j hj]
        rw [List.getElem?_eq_getElem (by omega : j < zs.length)]
        simp only [Option.map_some]
        by_cases h1 : j < off
        · rw [if_neg (by omega), List.append_assoc, List.getElem?_append_left (by simp; omega), List.getElem?_take, if_pos h1, List.getElem?_eq_getElem (by omega : j < zs.length)]
          rfl
        · by_cases h2 : j < off + ys.length
          · rw [if_pos (by simp; omega), List.getElem?_append_left (by simp; omega), List.getElem?_append_right (by simp; omega)]
            have e1 : j - (zs.take off).length = j - off := by simp; omega
            rw [e1, List.getElem?_eq_getElem (by omega)]
            simp [getElem!_pos, show j - off < ys.length by omega]
          · rw [if_neg (by simp; omega), List.getElem?_append_right (by simp; omega)]
            have e1 : j - (zs.take off ++ ys).length = j - (off + ys.length) := by simp; omega
            rw [e1, List.getElem?_drop, show off + ys.length + (j - (off + ys.length)) = j by omega, List.getElem?_eq_getElem (by omega : j < zs.length)]
            rfl
      · simp only [Nat.mul_one, if_neg hj]
        rw [List.getElem?_eq_none (by simp; omega)]
        rfl

theorem grown_putAt {α : Type} [Inhabited α] {enc : α → Value} {w : World} {g q off : Nat} {ys : List α} : w.grownBy (putRow enc (Sort.ahead w q) g off ys.toArray) (some g) := by
  refine ⟨rfl, rfl, rfl, by simp [putRow, mapBlock, Sort.ahead], fun k hk hne => ?_⟩
  have : g ≠ k := fun e => hne (by rw [e])
  simp [putRow, mapBlock, Sort.ahead, Array.getElem?_modify, this]

theorem holds_part {α : Type} [Inhabited α] {enc : α → Value} {w : World} {g off : Nat} {zs : List α} (h : Holds enc w g 0 zs.toArray) : Holds enc w g off (zs.drop off).toArray := by
  intro j hj
  have hj' : off + j < zs.length := by simp at hj; omega
  have := h (off + j) (by simpa using hj')
  rw [Nat.zero_add] at this
  have e : (zs.drop off).toArray[j]! = zs.toArray[off + j]! := by
    simp [getElem!_pos, hj']
  rw [e]; exact this

theorem swp_list {d : List Int} {i k : Nat} (hi : i < d.length) (hk : k < d.length) (hne : i ≠ k) : (Sort.swp d.toArray i k) = ((d.set i (d.getD k 0)).set k (d.getD i 0)).toArray := by
  unfold Sort.swp
  simp [getElem!_pos, hi, hk, List.getD]

end Go.Proofs.Ythakkkljlpimlaa

/- append in a region that draws its order, beside rows written in their midst. -/
