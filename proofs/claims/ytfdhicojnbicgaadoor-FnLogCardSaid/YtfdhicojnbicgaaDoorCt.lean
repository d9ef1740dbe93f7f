/- Walks: texts that the cursor draws. -/
import Derived.Test.YtfdhicojnbicgaaDoorCv0
import Derived.Test.YtfdhicojnbicgaaDoorTj
namespace Go.Proofs.YtfdhicojnbicgaaDoor
open Go.RowKit
set_option linter.unusedVariables false

/-- Texts in a list. -/
def StrsAt (w : World) (a : Option Addr) (ss : List ByteArray) : Prop :=
  ss = [] ∨ ∃ b off, a = some ⟨b, off, none⟩ ∧ b < w.heap.size ∧ ∀ j, j < ss.length → w.cell? ⟨b, off + j, none⟩ = some (.string (ss.getD j ⟨#[]⟩))
theorem StrsAt.at {w : World} {a : Option Addr} {ss : List ByteArray} (h : StrsAt w a ss) {k : Nat} (hk : k < ss.length) :
    ∃ b off, a = some ⟨b, off, none⟩ ∧ w.cell? ⟨b, off + k, none⟩ = some (.string (ss.getD k ⟨#[]⟩)) := by
  rcases h with rfl | ⟨b, off, h1, _, h2⟩
  · simp at hk
  · exact ⟨b, off, h1, h2 k hk⟩
theorem StrsAt.grown {w w' : World} {row : Option Nat} {a : Option Addr} {ss : List ByteArray} (h : StrsAt w a ss) (hg : w.grownBy w' row) (hne : ∀ b off, a = some ⟨b, off, none⟩ → row ≠ some b) : StrsAt w' a ss := by
  rcases h with h | ⟨b, off, h1, h0, h2⟩
  · exact .inl h
  · refine .inr ⟨b, off, h1, Nat.lt_of_lt_of_le h0 hg.size, fun j hj => ?_⟩
    have hb := hg.block b h0 (fun e => hne b off h1 e.symm)
    rw [World.cell?_of_block (w := w) (w' := w') (a := ⟨b, off + j, none⟩) hb]; exact h2 j hj
theorem lit_strs (W : World) (l : List ByteArray) : StrsAt (W.alloc (.cells (l.map Value.string).toArray 9)) (some ⟨W.heap.size, 0, none⟩) l := by
  refine .inr ⟨W.heap.size, 0, rfl, by simp, fun j hj => ?_⟩
  rw [alloc_cell]
  simp [hj, List.getD]

set_option maxHeartbeats 400000 in
theorem of_any (bc : Nat) (ac : Option Addr) (zs : List Int) (M : Int) (a : Option Addr) (c : Nat) (ss : List ByteArray) (w : World) (hM : M ≤ 1099511627000) (hy0 : 0 < ss.length) (hy : ss.length ≤ 200) (h : Cur w bc ac zs M) (hl : StrsAt w a ss) (hap : ∀ b off, a = some ⟨b, off, none⟩ → b ≠ bc) :
    Calls Tryd.prog 89 #[.pointer (some ⟨bc, 0, none⟩), .slice a ss.length c] w fun e w' => (∃ s : ByteArray, e = .returned (.string s) ∧ s ∈ ss) ∧ Cur w' bc ac zs (M + 2) ∧ w.grownBy w' (some bc) := by
  have H := Lib.hid h; clear h
  have HL := Lib.hid hl; clear hl
  have HAP := Lib.hid hap; clear hap
  go_enter Tryd.func89, Tryd.ntmps89
  go_wp2_with fail
  refine (pick_any bc ac zs M _ _ hM (by omega) H.out).mono ?_
  rintro e w1 ⟨⟨r, rfl, hr0, hr1⟩, hc, hg⟩
  have HC := Lib.hid hc; clear hc
  have HL1 := Lib.hid (HL.out.grown hg (fun b off e e2 => HAP.out b off e (by injection e2 with e2; exact e2.symm)))
  have HG := Lib.hid hg; clear hg
  obtain ⟨k, rfl⟩ := Int.eq_ofNat_of_zero_le hr0
  have hk : k < ss.length := by omega
  obtain ⟨b, off, rfl, hcell⟩ := HL1.out.at hk
  have HM : Hid (ss.getD k ⟨#[]⟩ ∈ ss) := by show _ ∈ _; simp [List.getD, hk]
  generalize ss.getD k ⟨#[]⟩ = x at hcell HM
  go_wp2
  go_ret
  exact ⟨⟨_, rfl, HM.out⟩, HC.out, HG.out⟩

set_option maxRecDepth 100000 in
set_option maxHeartbeats 2000000 in
/-- A text with a byte more, less, or another one. -/
theorem spoilt_any (bc : Nat) (ac : Option Addr) (zs : List Int) (M : Int) (t wi : ByteArray) (w : World) (hM : M ≤ 1099511620000) (ht : t.size ≤ 50000) (hw0 : 1 ≤ wi.size) (hw : wi.size ≤ 200) (h : Cur w bc ac zs M) :
    Calls Tryd.prog 69 #[.pointer (some ⟨bc, 0, none⟩), .string t, .string wi] w fun e w' => (∃ s : ByteArray, e = .returned (.string s) ∧ s.size ≤ t.size + 1) ∧ Cur w' bc ac zs (M + 6) ∧ w.grownBy w' (some bc) := by
  have H := Lib.hid h; clear h
  by_cases h0 : t.size = 0
  · obtain rfl : t = ⟨#[]⟩ := by
      rw [show t = ba (bs t) from (ba_bs t).symm]
      have : bs t = [] := List.eq_nil_of_length_eq_zero (by rw [bs_len]; exact h0)
      rw [this]; rfl
    have hz : (wi.extract 0 1).size ≤ 1 := by simp; omega
    go_enter Tryd.func69, Tryd.ntmps69
    go_wp2
    go_ret
    exact ⟨⟨_, rfl, by omega⟩, H.out.mono (by omega), grown_refl _ _⟩
  · have hz : (wi.extract 0 1).size ≤ 1 := by simp; omega
    go_enter Tryd.func69, Tryd.ntmps69
    go_wp2_with fail
    · go_ret
      exact ⟨⟨_, rfl, by omega⟩, H.out.mono (by omega), grown_refl _ _⟩
    · refine (pick_any bc ac zs M _ _ (by omega) (by omega) H.out).mono ?_
      rintro e w1 ⟨⟨r, rfl, hr0, hr1⟩, hc, hg⟩
      have HC := Lib.hid hc; have HG := Lib.hid hg; clear hc hg
      obtain ⟨k, rfl⟩ := Int.eq_ofNat_of_zero_le hr0
      have hk : k < t.size := by omega
      clear hr0 hr1
      go_wp2_with fail
      refine (pick_any bc ac zs (M + 2) _ _ (by omega) (by omega) HC.out).mono ?_
      rintro e w2 ⟨⟨r, rfl, hr0, hr1⟩, hc, hg⟩
      have HC2 := Lib.hid hc; have HG2 := Lib.hid (grown_trans HG.out hg); clear hc hg HC HG
      obtain ⟨j, rfl⟩ := Int.eq_ofNat_of_zero_le hr0
      have hj : j < wi.size := by omega
      clear hr0 hr1
      have hx1 : (wi.extract j wi.size).size = wi.size - j := by simp
      have hx2 : 1 ≤ (wi.extract j wi.size).size := by omega
      go_wp2_with fail
      have hv : ((wi.extract j wi.size).extract 0 1).size ≤ 1 := by simp; omega
      generalize (wi.extract j wi.size).extract 0 1 = v at hv
      clear hx1 hx2 hz
      have s1 : (t.extract 0 k).size = k := by simp; omega
      have s2 : (t.extract k t.size).size = t.size - k := by simp
      have s3 : (t.extract (k + 1) t.size).size = t.size - (k + 1) := by simp
      have a1 := add_runs (P := Tryd.prog) (a := t.extract 0 k) (b := v) (by omega) (by omega)
      have a2 := add_runs (P := Tryd.prog) (a := t.extract 0 k ++ v) (b := t.extract k t.size) (by rw [size_add]; omega) (by omega)
      have a3 := add_runs (P := Tryd.prog) (a := t.extract 0 k ++ v) (b := t.extract (k + 1) t.size) (by rw [size_add]; omega) (by omega)
      have a4 := add_runs (P := Tryd.prog) (a := t.extract 0 k) (b := t.extract (k + 1) t.size) (by omega) (by omega)
      have z2 : Hid ((t.extract 0 k ++ v ++ t.extract k t.size).size ≤ t.size + 1) := by show _ ≤ _; rw [size_add, size_add]; omega
      have z3 : Hid ((t.extract 0 k ++ v ++ t.extract (k + 1) t.size).size ≤ t.size + 1) := by show _ ≤ _; rw [size_add, size_add]; omega
      have z4 : Hid ((t.extract 0 k ++ t.extract (k + 1) t.size).size ≤ t.size + 1) := by show _ ≤ _; rw [size_add]; omega
      clear s1 s2 s3
      refine (pick_any bc ac zs (M + 2 + 2) 3 _ (by omega) (by omega) HC2.out).mono ?_
      rintro e w3 ⟨⟨r, rfl, hr0, hr1⟩, hc, hg⟩
      have HC3 := Lib.hid (hc.mono (M' := M + 6) (by omega)); have HG3 := Lib.hid (grown_trans HG2.out hg); clear hc hg HC2 HG2
      have b1 : (0 : Int) ≤ (k : Int) + 1 := by omega
      have b2 : (k : Int) + 1 ≤ (t.size : Int) := by omega
      rcases (by omega : r = 0 ∨ r = 1 ∨ r = 2) with rfl | rfl | rfl
      · go_wp2_with fail
        go_quiet (fail)
        go_wp2
        go_ret
        exact ⟨⟨_, rfl, z2.out⟩, HC3.out.below (below_drewN (Below.refl _ _) _), grown_trans HG3.out (drewN_grown _ _ _)⟩
      · go_wp2_with fail
        go_quiet (fail)
        go_wp2
        go_ret
        exact ⟨⟨_, rfl, z3.out⟩, HC3.out.below (below_drewN (Below.refl _ _) _), grown_trans HG3.out (drewN_grown _ _ _)⟩
      · go_wp2_with fail
        go_quiet (fail)
        go_wp2
        go_ret
        exact ⟨⟨_, rfl, z4.out⟩, HC3.out.below (below_drewN (Below.refl _ _) _), grown_trans HG3.out (drewN_grown _ _ _)⟩

end Go.Proofs.YtfdhicojnbicgaaDoor
