/- Walks: the cursor that draws arguments out of bytes. -/
import Derived.Test.YtkckmjajjdpodaaKd
import Derived.Test.YtkckmjajjdpodaaWt0
namespace Go.Proofs.Ytkckmjajjdpodaa
open Go.RowKit
set_option linter.unusedVariables false

theorem addr_add (b off j : Nat) : (⟨b, off, none⟩ : Addr).add j = ⟨b, off + j, none⟩ := by unfold Addr.add; split <;> simp_all

theorem u8_bounds {n : Int} (h : (Lit.int .u8 n).wf = true) : 0 ≤ n ∧ n ≤ 255 := by
  simp [Lit.wf, IntKind.min, IntKind.max, IntKind.bits, IntKind.signed] at h
  omega

def BytesAt (w : World) (a : Option Addr) (zs : List Int) : Prop :=
  zs = [] ∨ ∃ b off, a = some ⟨b, off, none⟩ ∧ b < w.heap.size ∧ ∀ j, j < zs.length → w.cell? ⟨b, off + j, none⟩ = some (.int .u8 (zs.getD j 0)) ∧ 0 ≤ zs.getD j 0 ∧ zs.getD j 0 ≤ 255

theorem BytesAt.at {w : World} {a : Option Addr} {zs : List Int} (h : BytesAt w a zs) {k : Nat} (hk : k < zs.length) :
    ∃ b off, a = some ⟨b, off, none⟩ ∧ w.cell? ⟨b, off + k, none⟩ = some (.int .u8 (zs.getD k 0)) ∧ 0 ≤ zs.getD k 0 ∧ zs.getD k 0 ≤ 255 := by
  rcases h with rfl | ⟨b, off, h1, _, h2⟩
  · simp at hk
  · exact ⟨b, off, h1, h2 k hk⟩

theorem BytesAt.below {w w' : World} {B : Nat} {a : Option Addr} {zs : List Int} (h : BytesAt w a zs) (hB : w.heap.size ≤ B) (hb : Below B w w') : BytesAt w' a zs := by
  rcases h with h | ⟨b, off, h1, h0, h2⟩
  · exact .inl h
  · refine .inr ⟨b, off, h1, by have := hb.size; omega, fun j hj => ?_⟩
    rw [hb.cell (p := ⟨b, off + j, none⟩) (by show b < B; omega)]; exact h2 j hj

theorem BytesAt.grown {w w' : World} {row : Option Nat} {a : Option Addr} {zs : List Int} (h : BytesAt w a zs) (hg : w.grownBy w' row) (hne : zs ≠ [] → ∀ b off, a = some ⟨b, off, none⟩ → row ≠ some b) : BytesAt w' a zs := by
  by_cases hz : zs = []
  · exact .inl hz
  have hne := hne hz
  rcases h with h | ⟨b, off, h1, h0, h2⟩
  · exact .inl h
  · refine .inr ⟨b, off, h1, Nat.lt_of_lt_of_le h0 hg.size, fun j hj => ?_⟩
    have hb := hg.block b h0 (fun e => hne b off h1 e.symm)
    rw [World.cell?_of_block (w := w) (w' := w') (a := ⟨b, off + j, none⟩) hb]; exact h2 j hj

theorem bytes_of_row {w : World} {x : Addr} {len : Nat} {zs : List Int} (hl : len ≤ zs.length) (hc : ∀ i, i < zs.length → w.cell? (x.add i) = some (.int .u8 (zs.getD i 0))) (hw : ∀ n ∈ zs, (Lit.int .u8 n).wf = true) : BytesAt w (some x) (zs.take len) := by
  by_cases h0 : len = 0
  · subst h0; exact .inl (by simp)
  · obtain ⟨b, off, spot⟩ := x
    have hc0 := hc 0 (by omega)
    have hs : spot = none := by simpa [Addr.add] using World.cell?_spot hc0
    subst hs
    refine .inr ⟨b, off, rfl, World.block_lt_of_cell? w _ (by simpa [Addr.add] using hc0), fun j hj => ?_⟩
    have hj' : j < len := by simp at hj; omega
    have := hc j (by omega)
    rw [addr_add] at this
    have e : (zs.take len).getD j 0 = zs.getD j 0 := by simp [List.getD, hj']
    rw [e]
    have hm : zs.getD j 0 ∈ zs := by simp [List.getD, show j < zs.length by omega]
    have hwf := hw _ hm
    refine ⟨this, ?_⟩
    have hb := u8_bounds hwf
    omega

theorem setcell_grown (w : World) (g j : Nat) (u : Value) : w.grownBy (w.setCell ⟨g, j, none⟩ u) (some g) :=
  ⟨rfl, rfl, rfl, by simp, fun k _ hk => heap_setCell_other w ⟨g, j, none⟩ k u (fun e => hk (by simp [e]))⟩
theorem drewN_grown (w : World) (n : Nat) (row : Option Nat) : w.grownBy (w.drewN n) row := ⟨rfl, rfl, rfl, Nat.le_refl _, fun _ _ _ => rfl⟩

theorem cur_grown (w : World) (bc a b : Nat) (u v : Value) : w.grownBy ((((w.drewN a).setCell ⟨bc, 1, none⟩ u).setCell ⟨bc, 2, none⟩ v).drewN b) (some bc) :=
  grown_trans (grown_trans (grown_trans (drewN_grown w a _) (setcell_grown _ bc 1 u)) (setcell_grown _ bc 2 v)) (drewN_grown _ b _)

/-- The cursor: a block of three cells over the bytes zs; at most M choices have been read. -/
structure Cur (w : World) (bc : Nat) (ac : Option Addr) (zs : List Int) (M : Int) : Prop where
  cells : ∃ (cc : Nat) (p s : Int), w.heap[bc]? = some (.cells #[.slice ac zs.length cc, .int .i64 p, .int .u64 s] 107 (0, 0)) ∧ 0 ≤ p ∧ p ≤ M
  code : BytesAt w ac zs
  apart : zs ≠ [] → ∀ b off, ac = some ⟨b, off, none⟩ → b ≠ bc
  len : zs.length ≤ 1048576

theorem Cur.step {w W' : World} {bc : Nat} {ac : Option Addr} {zs : List Int} {M' : Int} {cc : Nat} {p' s' : Int} (hcode : BytesAt w ac zs) (hap : zs ≠ [] → ∀ b off, ac = some ⟨b, off, none⟩ → b ≠ bc) (hlen : zs.length ≤ 1048576) (hg : w.grownBy W' (some bc))
    (hr : W'.heap[bc]? = some (.cells #[.slice ac zs.length cc, .int .i64 p', .int .u64 s'] 107 (0, 0))) (h0 : 0 ≤ p') (h1 : p' ≤ M') : Cur W' bc ac zs M' :=
  ⟨⟨cc, p', s', hr, h0, h1⟩, hcode.grown hg (fun h0 b off e e2 => hap h0 b off e (by injection e2 with e2; exact e2.symm)), hap, hlen⟩

theorem cur_row {w : World} {bc cc n : Nat} {ac : Option Addr} {p s p' s' : Int} {e : TypeId} (a : Nat) (hr : w.heap[bc]? = some (.cells #[.slice ac n cc, .int .i64 p, .int .u64 s] e (0, 0))) :
    (((w.drewN a).setCell ⟨bc, 1, none⟩ (.int .i64 p')).setCell ⟨bc, 2, none⟩ (.int .u64 s')).heap[bc]? = some (.cells #[.slice ac n cc, .int .i64 p', .int .u64 s'] e (0, 0)) := by
  have h1 := heap_setCell_same (w.drewN a) bc 1 _ e (.int .i64 p') (show (w.drewN a).heap[bc]? = _ from hr)
  have h2 := heap_setCell_same _ bc 2 _ e (.int .u64 s') h1
  exact h2

theorem u64wrap_bounds (n : Int) : 0 ≤ IntKind.u64.wrap n ∧ IntKind.u64.wrap n < 18446744073709551616 := by
  simp only [IntKind.wrap, IntKind.signed, IntKind.bits, Bool.false_and, Bool.false_eq_true, if_false]
  omega

theorem seed_byte {E n : Int} (h : E = IntKind.u64.wrap n) : 0 ≤ wrap64 (bits .and .u64 (E / 1099511627776) 255) ∧ wrap64 (bits .and .u64 (E / 1099511627776) 255) ≤ 255 := by
  obtain ⟨h0, h1⟩ := u64wrap_bounds n
  rw [← h] at h0 h1
  have h2 : 0 ≤ E / 1099511627776 := by omega
  have h3 : E / 1099511627776 < 18446744073709551616 := by omega
  generalize E / 1099511627776 = F at h2 h3
  have hb := bits_and_u64_nat F.toNat 255 (by omega) (by omega)
  rw [Int.toNat_of_nonneg h2] at hb
  have e : bits .and .u64 F 255 = ((F.toNat &&& 255 : Nat) : Int) := hb
  rw [e]
  have hle : F.toNat &&& 255 ≤ 255 := Nat.and_le_right
  unfold wrap64
  omega

set_option maxRecDepth 100000 in
set_option maxHeartbeats 1000000 in
theorem next_any (bc : Nat) (ac : Option Addr) (zs : List Int) (M : Int) (w : World) (hM : M ≤ 1099511627776) (h : Cur w bc ac zs M) :
    Calls Try.prog 150 #[.pointer (some ⟨bc, 0, none⟩)] w fun e w' => (∃ r : Int, e = .returned (.int .i64 r) ∧ 0 ≤ r ∧ r ≤ 255) ∧ Cur w' bc ac zs (M + 1) ∧ w.grownBy w' (some bc) := by
  obtain ⟨⟨cc, p, s, hrow, hp0, hp1⟩, hcode, hap, hlen⟩ := h
  have c0 : w.cell? ⟨bc, 0, none⟩ = some (.slice ac zs.length cc) := row_cell hrow 0
  have c1 : w.cell? ⟨bc, 1, none⟩ = some (.int .i64 p) := row_cell hrow 1
  have c2 : w.cell? ⟨bc, 2, none⟩ = some (.int .u64 s) := row_cell hrow 2
  have f1 : w.frozen? ⟨bc, 1, none⟩ = false := frozen_of_row w bc 1 _ _ hrow
  have f2 : w.frozen? ⟨bc, 2, none⟩ = false := frozen_of_row w bc 2 _ _ hrow
  have HROW := Lib.hid hrow
  have HCODE := Lib.hid hcode
  have HAP := Lib.hid hap
  clear hrow hcode hap
  by_cases hlt : p < zs.length
  · obtain ⟨k, rfl⟩ := Int.eq_ofNat_of_zero_le hp0
    obtain ⟨b, off, rfl, hc, hb0, hb1⟩ := HCODE.out.at (show k < zs.length by omega)
    generalize zs.getD k 0 = x at hc hb0 hb1
    have hle : ((k : Int) + 1) ≤ zs.length := by omega
    go_enter Try.func150, Try.ntmps150
    go_wp2_with fail
    go_quiet (fail)
    go_wp2_with fail
    go_quiet (fail)
    go_wp2_with fail
    generalize IntKind.u64.wrap (IntKind.u64.wrap (IntKind.u64.wrap (s * 6364136223846793005) + x) + 907907) = E
    go_quiet (fail)
    go_wp2
    go_ret
    exact ⟨⟨x, rfl, hb0, hb1⟩, Cur.step HCODE.out HAP.out hlen (cur_grown w bc _ _ _ _) (cur_row _ HROW.out) (by omega) (by omega), cur_grown w bc _ _ _ _⟩
  · go_enter Try.func150, Try.ntmps150
    go_wp2_with fail
    go_quiet (fail)
    go_wp2_with fail
    generalize hE : IntKind.u64.wrap (IntKind.u64.wrap (IntKind.u64.wrap (s * 6364136223846793005)) + 907907) = E
    have HE := Lib.hid (seed_byte hE.symm)
    clear hE
    have hn : decide (p + 1 ≤ (zs.length : Int)) = false := by simp; omega
    go_quiet (fail)
    go_wp2
    go_ret
    exact ⟨⟨_, rfl, HE.out.1, HE.out.2⟩, Cur.step HCODE.out HAP.out hlen (cur_grown w bc _ _ _ _) (cur_row _ HROW.out) (by omega) (by omega), cur_grown w bc _ _ _ _⟩

set_option maxHeartbeats 400000 in
theorem pick_any (bc : Nat) (ac : Option Addr) (zs : List Int) (M n : Int) (w : World) (hM : M ≤ 1099511627000) (hn : n ≤ 60000) (h : Cur w bc ac zs M) :
    Calls Try.prog 87 #[.pointer (some ⟨bc, 0, none⟩), .int .i64 n] w fun e w' => (∃ r : Int, e = .returned (.int .i64 r) ∧ 0 ≤ r ∧ (r < n ∨ r = 0)) ∧ Cur w' bc ac zs (M + 2) ∧ w.grownBy w' (some bc) := by
  have H := Lib.hid h; clear h
  by_cases h1 : n ≤ 1
  · go_enter Try.func87, Try.ntmps87
    go_wp2
    go_ret
    have hc := H.out
    obtain ⟨⟨cc, p, s, hr, h0, h2⟩, hcode, hap, hlen⟩ := hc
    exact ⟨⟨0, rfl, by omega, by omega⟩, ⟨⟨cc, p, s, hr, h0, by omega⟩, hcode, hap, hlen⟩, grown_refl _ _⟩
  · by_cases h2 : n ≤ 200
    · go_enter Try.func87, Try.ntmps87
      go_wp2_with fail
      refine (next_any bc ac zs M _ (by omega) H.out).mono ?_
      rintro e w1 ⟨⟨r, rfl, hr0, hr1⟩, hc, hg⟩
      have HC := Lib.hid hc; clear hc
      have HG := Lib.hid hg; clear hg
      have q1 : 0 ≤ r % n := Int.emod_nonneg _ (by omega)
      have q2 : r % n < n := Int.emod_lt_of_pos _ (by omega)
      have Q := Lib.hid (And.intro q1 q2); clear q1 q2
      go_wp2
      go_ret
      obtain ⟨⟨cc, p, s, hr, h0, h2⟩, hcode, hap, hlen⟩ := HC.out
      exact ⟨⟨_, rfl, Q.out.1, .inl Q.out.2⟩, ⟨⟨cc, p, s, hr, h0, by omega⟩, hcode, hap, hlen⟩, HG.out⟩
    · go_enter Try.func87, Try.ntmps87
      go_wp2_with fail
      refine (next_any bc ac zs M _ (by omega) H.out).mono ?_
      rintro e w1 ⟨⟨r, rfl, hr0, hr1⟩, hc, hg⟩
      have HC := Lib.hid hc; clear hc
      have HG := Lib.hid hg; clear hg
      go_wp2_with fail
      refine (next_any bc ac zs (M + 1) _ (by omega) HC.out).mono ?_
      rintro e w2 ⟨⟨r2, rfl, hs0, hs1⟩, hc, hg⟩
      have HC2 := Lib.hid hc; clear hc
      have HG2 := Lib.hid (grown_trans HG.out hg); clear hg
      have q1 : 0 ≤ (r * 256 + r2) % n := Int.emod_nonneg _ (by omega)
      have q2 : (r * 256 + r2) % n < n := Int.emod_lt_of_pos _ (by omega)
      have Q := Lib.hid (And.intro q1 q2); clear q1 q2
      go_wp2
      go_ret
      obtain ⟨⟨cc, p, s, hr, h0, h2⟩, hcode, hap, hlen⟩ := HC2.out
      exact ⟨⟨_, rfl, Q.out.1, .inl Q.out.2⟩, ⟨⟨cc, p, s, hr, h0, by omega⟩, hcode, hap, hlen⟩, HG2.out⟩

set_option maxHeartbeats 400000 in
theorem one_any (bc : Nat) (ac : Option Addr) (zs : List Int) (M n : Int) (w : World) (hM : M ≤ 1099511627000) (hn : n ≤ 60000) (h : Cur w bc ac zs M) :
    Calls Try.prog 99 #[.pointer (some ⟨bc, 0, none⟩), .int .i64 n] w fun e w' => (∃ b : Bool, e = .returned (.bool b)) ∧ Cur w' bc ac zs (M + 2) ∧ w.grownBy w' (some bc) := by
  have H := Lib.hid h; clear h
  go_enter Try.func99, Try.ntmps99
  go_wp2_with fail
  refine (pick_any bc ac zs M n _ hM hn H.out).mono ?_
  rintro e w1 ⟨⟨r, rfl, hr0, hr1⟩, hc, hg⟩
  have HC := Lib.hid hc; clear hc
  have HG := Lib.hid hg; clear hg hr1
  go_wp2
  go_ret
  exact ⟨⟨_, rfl⟩, HC.out, HG.out⟩

set_option maxHeartbeats 400000 in
/-- One of some numbers: whichever. -/
theorem among_any (bc : Nat) (ac : Option Addr) (zs : List Int) (M : Int) (a : Option Addr) (c : Nat) (ys : List Int) (w : World) (hM : M ≤ 1099511627000) (hy0 : 0 < ys.length) (hy : ys.length ≤ 200) (h : Cur w bc ac zs M) (hl : IntsAt w a ys) (hap : ∀ b off, a = some ⟨b, off, none⟩ → b ≠ bc) :
    Calls Try.prog 118 #[.pointer (some ⟨bc, 0, none⟩), .slice a ys.length c] w fun e w' => (∃ r : Int, e = .returned (.int .i64 r) ∧ r ∈ ys) ∧ Cur w' bc ac zs (M + 2) ∧ w.grownBy w' (some bc) := by
  have H := Lib.hid h; clear h
  have HL := Lib.hid hl; clear hl
  have HAP := Lib.hid hap; clear hap
  go_enter Try.func118, Try.ntmps118
  go_wp2_with fail
  refine (pick_any bc ac zs M _ _ hM (by omega) H.out).mono ?_
  rintro e w1 ⟨⟨r, rfl, hr0, hr1⟩, hc, hg⟩
  have HC := Lib.hid hc; clear hc
  have HL1 := Lib.hid (HL.out.grown hg (fun b off e e2 => HAP.out b off e (by injection e2 with e2; exact e2.symm)))
  have HG := Lib.hid hg; clear hg
  obtain ⟨k, rfl⟩ := Int.eq_ofNat_of_zero_le hr0
  have hk : k < ys.length := by omega
  obtain ⟨b, off, rfl, hcell⟩ := HL1.out.at hk
  have HM : Hid (ys.getD k 0 ∈ ys) := by show _ ∈ _; simp [List.getD, hk]
  generalize ys.getD k 0 = x at hcell HM
  go_wp2
  go_ret
  exact ⟨⟨_, rfl, HM.out⟩, HC.out, HG.out⟩

end Go.Proofs.Ytkckmjajjdpodaa
