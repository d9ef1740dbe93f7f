/- Several texts in one: lemmas and walks of the functions that the law reaches. -/
import Derived.Test.YtcncjedhpnaoaaaY2
import Derived.Below

namespace Go.Proofs.Ytcncjedhpnaoaaa
open Go.RowKit
set_option linter.unusedVariables false

def Dt.ctL (ns : List Dt.Nd) (k : Nat) : List Int := (List.range ns.length).map fun j => ((Dt.parN (ns.take k) j : Nat) : Int)
theorem Dt.ctL_get {ns : List Dt.Nd} {k j : Nat} (h : j < ns.length) : (Dt.ctL ns k)[j]? = some ((Dt.parN (ns.take k) j : Nat) : Int) := by simp [Dt.ctL, h]
theorem Dt.ctL_map {ns : List Dt.Nd} {k j : Nat} (h : j < ns.length) : ((Dt.ctL ns k).map (Value.int .i64))[j]? = some (.int .i64 ((Dt.parN (ns.take k) j : Nat) : Int)) := by rw [List.getElem?_map, Dt.ctL_get h]; rfl
theorem Dt.ctL_zero (ns : List Dt.Nd) : (Dt.ctL ns 0).map (Value.int .i64) = List.replicate ns.length (.int .i64 0) := by
  apply List.ext_getElem
  · simp [Dt.ctL]
  · intro i h1 h2; simp [Dt.ctL, Dt.parN]
theorem Dt.ctL_leaf {ns : List Dt.Nd} {k : Nat} (h : k < ns.length) (h0 : 0 < (ns.getD k Dt.nd0).o.length) : Dt.ctL ns (k + 1) = Dt.ctL ns k := by
  unfold Dt.ctL
  apply List.map_congr_left
  intro j _
  rw [Dt.parN_snoc h, if_neg (by omega), if_neg (by omega)]; rfl
theorem Dt.ctL_in {ns : List Dt.Nd} {k l g : Nat} (h : k < ns.length) (h0 : (ns.getD k Dt.nd0).o.length = 0) (hl : (ns.getD k Dt.nd0).l = (l : Int)) (hg : (ns.getD k Dt.nd0).g = (g : Int)) (hll : l < ns.length) (hgl : g < ns.length) (hne : l ≠ g) :
    (((Dt.ctL ns k).map (Value.int .i64)).set l (.int .i64 (((Dt.parN (ns.take k) l : Nat) : Int) + 1))).set g (.int .i64 (((Dt.parN (ns.take k) g : Nat) : Int) + 1)) = (Dt.ctL ns (k + 1)).map (Value.int .i64) := by
  apply List.ext_getElem?
  intro j
  by_cases hj : j < ns.length
  · rw [Dt.ctL_map hj, List.getElem?_set, List.getElem?_set, Dt.parN_snoc h, hl, hg]
    have e : ((Dt.ctL ns k).map (Value.int .i64)).length = ns.length := by simp [Dt.ctL]
    rw [List.length_set, e]
    by_cases e1 : g = j
    · subst e1
      rw [if_pos rfl, if_pos hj, if_neg (by omega), if_pos ⟨h0, rfl⟩]
      simp
    · rw [if_neg e1]
      by_cases e2 : l = j
      · subst e2
        rw [if_pos rfl, if_pos hj, if_pos ⟨h0, rfl⟩, if_neg (by omega)]
        simp
      · rw [if_neg e2, Dt.ctL_map hj, if_neg (by omega), if_neg (by omega)]; rfl
  · rw [List.getElem?_eq_none (by simp [Dt.ctL]; omega), List.getElem?_eq_none (by simp [Dt.ctL]; omega)]
theorem Dt.ctL_pars (ns : List Dt.Nd) : ((Dt.ctL ns ns.length).drop 1).all (fun x => decide (x = 1)) = Dt.parsOk ns := by
  unfold Dt.parsOk
  rw [Bool.eq_iff_iff, List.all_eq_true, List.all_eq_true]
  constructor
  · intro h j hj
    have hj := List.mem_range.1 hj
    have hm : ((Dt.parN ns (j + 1) : Nat) : Int) ∈ (Dt.ctL ns ns.length).drop 1 := by
      rw [List.mem_iff_getElem?]
      refine ⟨j, ?_⟩
      rw [List.getElem?_drop, Nat.add_comm, Dt.ctL_get (by omega), List.take_length]
    have := h _ hm
    simp only [decide_eq_true_eq] at this ⊢
    omega
  · intro h x hx
    obtain ⟨j, hj⟩ := List.mem_iff_getElem?.1 hx
    rw [List.getElem?_drop] at hj
    have hlt : 1 + j < ns.length := by
      have := (List.getElem?_eq_some_iff.1 hj).1
      simpa [Dt.ctL] using this
    rw [Dt.ctL_get hlt, List.take_length] at hj
    have := h j (List.mem_range.2 (by omega))
    simp only [decide_eq_true_eq] at this
    injection hj with hj
    rw [Nat.add_comm] at this
    rw [← hj, this]; rfl
theorem Dt.okTree_no1 {n : Int} {ns : List Dt.Nd} (h : inB n 1 5 = false) : Dt.okTree n ns = false := by unfold Dt.okTree; rw [h]; rfl
theorem Dt.okTree_no2 {n : Int} {ns : List Dt.Nd} (h : inB (ns.length : Int) 1 255 = false) : Dt.okTree n ns = false := by unfold Dt.okTree; rw [h]; simp
theorem Dt.okTree_no3 {m k : Nat} {ns : List Dt.Nd} (hk : k < ns.length) (h : Dt.okNode m k ns.length (ns.getD k Dt.nd0) = false) : Dt.okTree (m : Int) ns = false := by unfold Dt.okTree; rw [Int.toNat_natCast, Dt.nodesOk_no hk h]; simp
theorem Dt.okTree_yes {m : Nat} {ns : List Dt.Nd} (h1 : inB (m : Int) 1 5 = true) (h2 : inB (ns.length : Int) 1 255 = true) (h : ∀ j, j < ns.length → Dt.okNode m j ns.length (ns.getD j Dt.nd0) = true) : Dt.okTree (m : Int) ns = Dt.parsOk ns := by unfold Dt.okTree; rw [h1, h2, Int.toNat_natCast, Dt.nodesOk_yes h]; simp

theorem Dt.okNode_ne {n i size : Nat} {d : Dt.Nd} (h : Dt.okNode n i size d = true) (h0 : d.o.length = 0) : d.l ≠ d.g := by
  unfold Dt.okNode at h
  rw [if_neg (by omega)] at h
  simp only [Bool.and_eq_true] at h
  simpa using h.2.1.1

theorem ints_dropD {w : World} {b n : Nat} {zs : List Int} (h : IntsAt w (some ⟨b, 0, none⟩) zs) (i : Nat) : IntsAt w (some ⟨b, i, none⟩) (zs.drop i) := by
  rcases h with rfl | ⟨b', off, e, h1, h2⟩
  · exact .inl (by simp)
  · injection e with e; injection e with e1 e2; subst e1; subst e2
    refine .inr ⟨b, i, rfl, h1, fun j hj => ?_⟩
    have hj' : i + j < zs.length := by simp at hj; omega
    have := h2 (i + j) hj'
    rw [Nat.zero_add] at this
    rw [this]
    simp [List.getD, List.getElem?_drop]

end Go.Proofs.Ytcncjedhpnaoaaa

