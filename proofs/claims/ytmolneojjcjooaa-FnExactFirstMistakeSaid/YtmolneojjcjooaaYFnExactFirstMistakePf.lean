/-
  PROVED: for every input, the Go law laws.FnExactFirstMistake returns true, and its arguments read afterwards as they read before.
  Conditions: none beyond those that the given row itself bears.
-/
import Derived.Test.YtmolneojjcjooaaRows
import Derived.WalkKit
import Derived.ProofKit
import Derived.OpenShut
import Derived.ShutString
import Derived.ChangeOld
import Derived.Below
import Derived.Lib.SmallJoins
import Derived.Test.YtmolneojjcjooaaY8
import Derived.Test.YtmolneojjcjooaaY3
namespace Go.Proofs.Ytmolneojjcjooaa.fnExactFirstMistake
open Go.ChangeShapes Go.WideShapes Go.ChangeAt Go.RowKit Go.Joins
open Go.ChangeMaps (open_string shut_string)
set_option linter.unusedVariables false

theorem own : ownKnob Try.prog.godebug = none := by kernel_rfl
theorem laidOut : laidOutB Try.prog = true := by kernel_rfl

set_option maxRecDepth 100000 in
theorem lifted (os : Os) (started : os.Started) (H : Type) (enc : TypeId × Value → H) :
    ReturnsInHanded {} Try.checked os 7 .any (Rows.fnExactFirstMistakeSpec.pre6 enc Try.prog Try.f7 Rows.fnExactFirstMistakeRow.domain false) (Rows.fnExactFirstMistakeSpec.post enc Try.prog Try.f7 false true false false) := by
  refine returnsInHanded_of_change (C := Try.checked) own started (by kernel_rfl) Try.func7
    (ChangeSpec.witness6 (enc := enc) (C := Try.checked) false ⟨#[], #[.slice none 0 0, .int .i64 0], []⟩ 8 (by kernel_rfl) (by kernel_rfl) (by kernel_rfl) (by kernel_rfl)) ?_
  intro W base args ds gs before hval0 hW hcnd _
  have hval : ∀ (j : Nat) t v, Try.f7.params[j]? = some t → args[j]? = some v → Value.okWide Try.prog W .any base t v := hval0
  have hW' := hW
  obtain ⟨p, q, hA0, hV, rfl, hfz, hnd⟩ := hW
  have hA : DataW.TrodAll enc Try.prog W 0 (fun _ => true) true Try.f7.params.toList args.toList ds p := hA0
  rw [Try.params7] at hA hval
  obtain ⟨v0, vs0, d0, ds0, p0, q0, hargs, rfl, rfl, h0, r0⟩ := trodAll_cons hA
  obtain ⟨v1, vs1, d1, ds1, p1, q1, rfl, rfl, rfl, h1, r1⟩ := trodAll_cons r0
  obtain ⟨rfl, rfl, rfl⟩ := trodAll_nil r1
  obtain rfl : args = #[v0, v1] := by cases args; simp_all
  obtain ⟨rfl, rfl⟩ := trodVars_none hV
  have k0 := h0
  obtain ⟨a0, len0, cap0, rfl⟩ := okWide_slice Try.underlying22 (hval 0 22 v0 rfl rfl)
  have lt0 : ∀ x ∈ p0, x.block < W.heap.size := by obtain ⟨m, hm⟩ := k0; exact DataW.trod_lt m _ _ _ hm
  obtain ⟨z0, e0, b0, w0⟩ : ∃ rs : List Dt.Nd, rs.length = len0 ∧ rs.length ≤ 9223372036854775807 ∧ NodesAt W a0 rs := by
    obtain ⟨fuel, hf⟩ := h0
    rcases open_slice_fields Try.underlying22 Try.underlying85 (by kernel_rfl) (by kernel_rfl) hf with ⟨hcs, _⟩ | ⟨x, l, c, m, D, Pl, hcs, _, hl, hm, hmm, _, hcell⟩
    · simp [Value.cells] at hcs
      obtain ⟨rfl, rfl, rfl⟩ := hcs
      exact ⟨[], rfl, by simp, .inl rfl⟩
    · simp [Value.cells] at hcs
      obtain ⟨rfl, rfl, rfl⟩ := hcs
      unfold maxLen at hm
      obtain ⟨rs, hr, hR⟩ := nodes_of_cells (w := W) (x := x) (len := len0) (fun i hi => by
        obtain ⟨ys, n, _, _, _, hf⟩ := hcell i (by rw [hmm]; split <;> omega)
        obtain ⟨v0', y0', c0', _, t0'⟩ := hf 0 _ rfl
        obtain ⟨v1', y1', c1', _, t1'⟩ := hf 1 _ rfl
        obtain ⟨v2', y2', c2', _, t2'⟩ := hf 2 _ rfl
        obtain ⟨v3', y3', c3', _, t3'⟩ := hf 3 _ rfl
        obtain ⟨v4', y4', c4', _, t4'⟩ := hf 4 _ rfl
        obtain ⟨x0', e0', _, _⟩ := DataW.trod_int Try.underlying3 t0'
        obtain ⟨x1', e1', _, _⟩ := DataW.trod_int Try.underlying3 t1'
        obtain ⟨x2', e2', _, _⟩ := DataW.trod_int Try.underlying3 t2'
        obtain ⟨x3', e3', _, _⟩ := DataW.trod_int Try.underlying3 t3'
        simp at e0' e1' e2' e3'
        subst e0' e1' e2' e3'
        rcases open_ints Try.underlying29 Try.underlying3 (by kernel_rfl) t4' with ⟨hcs, _⟩ | ⟨x', l', c', zs, hcs, _, hl', hm', hz', _, hcell', hwz'⟩
        · simp at hcs
          subst hcs
          exact ⟨(x0', x1', x2', x3', []), c0', c1', c2', c3', none, 0, c4', .inl rfl, fun _ => rfl, Nat.zero_le _⟩
        · simp at hcs
          subst hcs
          unfold maxLen at hm'
          have hz2 : zs.length = c' := by simpa using hz'
          have e5 : (zs.take l').length = l' := by simp; omega
          exact ⟨(x0', x1', x2', x3', zs.take l'), c0', c1', c2', c3', some x', c', by show _ = some (Value.slice (some x') (zs.take l').length c'); rw [e5]; exact c4', ints_of_row (by omega) hcell', nilOk_some _ _, by show (zs.take l').length ≤ _; omega⟩)
      exact ⟨rs, hr, by omega, hR⟩
  subst e0
  have k1 := h1
  obtain ⟨a1, rfl, rfl, rfl, w1⟩ := open_int Try.underlying3 (hval 1 3 v1 rfl rfl) h1
  clear hA0 hval0
  refine (lawFirstMistake_any a0 cap0 z0 a1 W b0 w0).mono fun e W' ⟨he, bel⟩ => ?_
  subst he
  exact ⟨_, rfl, _, _, _, [], _, [], hW', trodAll_mk1 (shut_bool Try.underlying4 _), (trodAll_cons_mk (Below.trod laidOut (by kernel_rfl) (of_decide_eq_true (by kernel_rfl)) k0 bel lt0) (trodAll_cons_mk (shut_int Try.underlying3 w1) trodAll_mk0)), rfl, bel.frame _, fun h => by cases h⟩

/-- THE STATEMENT -/
theorem proved : Rows.FnExactFirstMistakeSaid :=
  OpenClaim.holds_of_wide 7 Try.f7 rfl rfl rfl rfl rfl rfl rfl ⟨rfl, rfl, rfl, rfl, rfl⟩ rfl rfl rfl rfl rfl (by kernel_rfl) Try.func7 (by kernel_rfl)
    (of_decide_eq_true (by kernel_rfl)) (by unfold Func.isWrapper; first | (rw [if_pos (by decide +kernel)]; kernel_rfl) | (rw [if_neg (by decide +kernel)]; exact ⟨rfl, rfl⟩))
    (fun os started H enc _ => lifted os started H enc)
#print axioms proved
end Go.Proofs.Ytmolneojjcjooaa.fnExactFirstMistake
