/-
  PROVED: for every input, the Go law laws.FnConsoleSorts returns true, and its arguments read afterwards as they read before.
  Conditions: none beyond those that the given row itself bears.
-/
import Derived.Test.YtbgmbanebmlghaaGreatDoorY40
import Derived.Test.YtbgmbanebmlghaaGreatDoorY45
import Derived.Test.YtbgmbanebmlghaaGreatDoorRows
import Derived.WalkKit
import Derived.ProofKit
import Derived.OpenShut
import Derived.ShutString
import Derived.ChangeOld
import Derived.Below
import Derived.Lib.SmallJoins
import Derived.Test.YtbgmbanebmlghaaGreatDoorCards
import Derived.Test.YtbgmbanebmlghaaGreatDoorTie
import Derived.SevenTiedAt
import Derived.LaidMore
import Derived.Stop.Joined
import Derived.MakeChecks
import Derived.Lib.LaidTab
namespace Go.Proofs.YtbgmbanebmlghaaGreatDoor.fnConsoleSorts
open Go.ChangeShapes Go.WideShapes Go.ChangeAt Go.RowKit Go.Joins
open Go.ChangeMaps (open_string shut_string)
set_option linter.unusedVariables false

set_option maxRecDepth 100000 in
theorem lifted (os : Os) (started : os.Started) (H : Type) (enc : TypeId × Value → H) :
    ReturnsInHanded {} Tryz.checked os 3 .any (fun w args => (Rows.fnConsoleSortsSpec.pre enc Tryz.prog Tryz.f3 [] false w args ∧ laidMetH Tryz.prog lst2 w) ∧ sizedMet enc Tryz.prog Tryz.f3 (OpenSpec.ofChange Rows.fnConsoleSortsSpec) false w args)
      (Rows.fnConsoleSortsSpec.post enc Tryz.prog Tryz.f3 false true false false) := by
  refine liftBoth (C := Tryz.checked) (X := fun w _ => laidMetH Tryz.prog lst2 w) (fun _ _ _ hh h => h.of_heap hh) own started (by kernel_rfl) Tryz.func3
    (ChangeSpec.witness_shaped (enc := enc) (C := Tryz.checked) (os := os) (X := fun w _ => laidMetH Tryz.prog lst2 w) false (World.laidAll Tryz.prog os lst2) #[.slice none 0 0] 8 (World.laidAll_os _ _ _) (shaped2 os _) (by kernel_rfl) (by kernel_rfl) (by kernel_rfl) (met2 os _)) ?_
  intro W base args ds gs before hval0 hW hcnd _ hL hSh _
  have htab := of_laid2 hL hSh
  have hval : ∀ (j : Nat) t v, Tryz.f3.params[j]? = some t → args[j]? = some v → Value.okWide Tryz.prog W .any base t v := hval0
  have hW' := hW
  obtain ⟨p, q, hA0, hV, rfl, hfz, hnd⟩ := hW
  have hA : DataW.TrodAll enc Tryz.prog W 0 (fun _ => true) true Tryz.f3.params.toList args.toList ds p := hA0
  rw [Tryz.params3] at hA hval
  obtain ⟨v0, vs0, d0, ds0, p0, q0, hargs, rfl, rfl, h0, r0⟩ := trodAll_cons hA
  obtain ⟨rfl, rfl, rfl⟩ := trodAll_nil r0
  obtain rfl : args = #[v0] := by cases args; simp_all
  obtain ⟨rfl, rfl⟩ := trodVars_none hV
  have k0 := h0
  obtain ⟨a0, len0, cap0, rfl⟩ := okWide_slice Tryz.underlying22 (hval 0 22 v0 rfl rfl)
  have lt0 : ∀ x ∈ p0, x.block < W.heap.size := by obtain ⟨m, hm⟩ := k0; exact DataW.trod_lt m _ _ _ hm
  obtain ⟨z0, e0, b0, w0⟩ : ∃ zs : List Int, zs.length = len0 ∧ zs.length ≤ 9223372036854775807 ∧ BytesAt W a0 zs := by
    obtain ⟨fuel, hf⟩ := h0
    rcases open_ints Tryz.underlying22 Tryz.underlying5 (by kernel_rfl) hf with ⟨hcs, _⟩ | ⟨x, l, c, zs, hcs, _, hl, hm, hz, _, hcell, hwz⟩
    · simp [Value.cells] at hcs
      obtain ⟨rfl, rfl, rfl⟩ := hcs
      exact ⟨[], rfl, by simp, .inl rfl⟩
    · simp [Value.cells] at hcs
      obtain ⟨rfl, rfl, rfl⟩ := hcs
      unfold maxLen at hm
      have hz' : zs.length = cap0 := by simpa using hz
      exact ⟨zs.take len0, by simp; omega, by simp; omega, bytes_of_row (by omega) hcell hwz⟩
  subst e0
  clear hA0 hval0
  refine (lawConsoleSorts_any a0 cap0 z0 W htab b0 w0).mono fun e W' ⟨he, bel⟩ => ?_
  subst he
  exact ⟨_, rfl, _, _, _, [], _, [], hW', trodAll_mk1 (shut_bool Tryz.underlying4 _), (trodAll_cons_mk (Below.trod laidOut (by kernel_rfl) (of_decide_eq_true (by kernel_rfl)) k0 bel lt0) trodAll_mk0), rfl, bel.frame _, fun h => by cases h⟩

theorem cf0 : (Rows.fnConsoleSortsRow.inPlace == Tryz.pinned.checked.prog.inPlace 3) = true := by kernel_rfl
theorem cf1 : (Rows.fnConsoleSortsRow.unfollowed == Tryz.pinned.checked.prog.unfollowed 3) = true := by kernel_rfl
theorem cf2 : (Rows.fnConsoleSortsRow.recurses == Tryz.pinned.checked.prog.recurses 3) = true := by kernel_rfl
theorem cf3 : (Rows.fnConsoleSortsRow.named == Tryz.pinned.checked.prog.varsNamed 3) = true := by kernel_rfl
theorem cfAll : joinedFacts Tryz.pinned.checked.prog 3 Tryz.f3 Rows.fnConsoleSortsSpec Rows.fnConsoleSortsRow = true := by
  unfold joinedFacts
  rw [cf0, cf1, cf2, cf3]
  kernel_rfl
/-- THE STATEMENT -/
theorem row : Rows.FnConsoleSortsSaid :=
  OpenClaim.holds_of_wide 3 Tryz.f3 rfl rfl rfl rfl rfl rfl rfl ⟨rfl, rfl, rfl, rfl, rfl⟩ rfl rfl rfl rfl rfl (by kernel_rfl) Tryz.func3 cfAll
    (of_decide_eq_true (by kernel_rfl)) (by unfold Func.isWrapper; first | (rw [if_pos (by decide +kernel)]; kernel_rfl) | (rw [if_neg (by decide +kernel)]; exact ⟨rfl, rfl⟩))
    (fun os started H enc _ => lifted os started H enc)
theorem pw : Rows.fnConsoleSortsRow.wfByText (OpenSpec.ofChange Rows.fnConsoleSortsSpec) = true := by kernel_rfl
theorem pm : Tryz.pinned.checked.prog.mainIs = some (true, "d96d6f79135354b94d2400cb8f0cdf243dbeec8717a92943267df8be2a514446".toList) := by kernel_rfl
theorem pl : true = Tryz.pinned.checked.prog.looks [] := by kernel_rfl
theorem pg : false = Rows.fnConsoleSortsRow.goesBy Tryz.pinned.checked.prog := by kernel_rfl
/-- THE TIED CARD. -/
theorem proved : Rows.FnConsoleSortsCardSaid :=
  Claim7.holds_tied_plain_at .later [] [.data, .data, .data, .data, .sentinel, .sentinel, .pinned] true (true, "d96d6f79135354b94d2400cb8f0cdf243dbeec8717a92943267df8be2a514446") true
    row (fun _ h => by cases h) pw (fun _ h => by cases h) fnConsoleSorts_row_tie rfl ⟨rfl, rfl⟩ pm rfl
    (fun f fn hf hfn => by
      obtain rfl : f = 3 := Option.some.inj ((show Tryz.prog.funcNamed "loop.example/g00907/laws.FnConsoleSorts" = some 3 by kernel_rfl).symm.trans hf) |>.symm
      obtain rfl : fn = Tryz.f3 := (Option.some.inj (Tryz.func3.symm.trans hfn)).symm
      exact ⟨pl, fun j t ht => by
        rw [Tryz.params3] at ht
        have hm : t ∈ [22] := by simpa using Array.mem_of_getElem? ht
        have hall : ([22].all fun u => !Tryz.prog.wantsStandIn u) = true := by kernel_rfl
        exact (show Tryz.prog.wantsStandIn t = false by simpa using List.all_eq_true.1 hall t hm)⟩)
    pg
#print axioms proved
end Go.Proofs.YtbgmbanebmlghaaGreatDoor.fnConsoleSorts
