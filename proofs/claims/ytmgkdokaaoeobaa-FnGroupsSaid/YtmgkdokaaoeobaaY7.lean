/- Several texts in one: lemmas and walks of the functions that the law reaches. -/
import Derived.Test.YtmgkdokaaoeobaaY6
import Derived.Deep.AppendLies
import Derived.Deep.DrawnRows
import Derived.Deep.RegionHeld3

namespace Go.Proofs.Ytmgkdokaaoeobaa
open Go.RowKit Go.Sort
set_option linter.unusedVariables false

theorem wp_put {P : Program} {w : World} {o : Oper} {a : Act} {K : Act → World → Prop} {Q : Exit → Act → World → Prop} {t e : TypeId} {z : Value} {size bytes : Nat} (T : SlT P t e z size bytes) (x y : Operand) (hop : o.op = .store e x y)
    {α : Type} (enc : α → List Value) (hS : ∀ r, (enc r).length = size) (h1 : ∀ r, ∀ u ∈ enc r, u.oneCell' = true) (base g n cap : Nat) (rs : List α) (k : Nat) (r : α) (hx : a.eval x = .pointer (some ⟨g, k * size, none⟩)) (hv : (a.eval y).cells.toList = enc r)
    (hown : w.ownsRow base e size (.slice (some ⟨g, 0, none⟩) n cap) n (flat enc rs)) (hk : k < n) (hl : rs.length = n)
    (h : ∀ w', w'.ownsRow base e size (.slice (some ⟨g, 0, none⟩) n cap) n (flat enc (rs.set k r)) → w.grownBy w' (some g) → K (a.put o.dst undef) w') : Oper.wp P o a w K Q := by
  obtain ⟨i, hi, _, hs, _⟩ := T.info
  obtain ⟨w', hr, g1, g2⟩ := own_put hown k hk (enc r) (hS r) (P := P) (h1 r)
  rw [flat_put hS rs k (by omega) r] at g1
  have hsz : (a.eval y).cells.size = i.size := by rw [hs, ← hS r, ← hv]; simp
  unfold Oper.wp execOp
  simp only [hop, hx, Instr.storeAt, Instr.sureAddr, storeVar, sizeOf, typeInfo, hv]
  simp [hi, hsz, hr]
  exact h w' g1 g2

/-- The cells of an owned row of records. -/
theorem rec_cells {w : World} {base g n cap k : Nat} {e : TypeId} {d : List (Int × Int)} {r : Int × Int} (h : w.ownsRow base e 2 (.slice (some ⟨g, 0, none⟩) n cap) n (flat encR d)) (hk : d[k]? = some r) :
    w.cell? ⟨g, k * 2, none⟩ = some (.int .i64 r.1) ∧ w.cell? ⟨g, k * 2 + 1, none⟩ = some (.int .i64 r.2) := by
  have hlt : k < d.length := (List.getElem?_eq_some_iff.1 hk).1
  obtain ⟨b, off, e1, h1, h2⟩ := (recs_of_own h).at hlt
  injection e1 with e1
  injection e1 with e1 e2 _
  subst e1; subst e2
  rw [Nat.zero_add] at h1 h2
  rw [List.getD_eq_getElem?_getD, hk] at h1 h2
  exact ⟨h1, h2⟩

end Go.Proofs.Ytmgkdokaaoeobaa

namespace Go.Proofs.Ytmgkdokaaoeobaa
open Go.RowKit Go.Sort
set_option linter.unusedVariables false
theorem take_snocR {zs : List (Int × Int)} {i : Nat} (hi : i < zs.length) : zs.take i ++ [zs.getD i (0, 0)] = zs.take (i + 1) := by
  rw [List.take_add_one, List.getElem?_eq_getElem hi, List.getD_eq_getElem?_getD, List.getElem?_eq_getElem hi]
  rfl
theorem insR_at {A R : List (Int × Int)} {x : Int × Int} {m : Nat} (hm : m < A.length) : (Mg.insSt A x (m + 1) R)[m]? = some (A.getD m (0, 0)) ∧ (Mg.insSt A x (m + 1) R)[m + 1]? = some x := by
  refine ⟨?_, Mg.insSt_at (by omega)⟩
  rw [Mg.insSt_before hm, List.getD_eq_getElem?_getD, List.getElem?_eq_getElem hm]; rfl
theorem insR_stepD {A R : List (Int × Int)} {x y : Int × Int} {m : Nat} (hm : m < A.length) (hy : A.getD m (0, 0) = y) : ((Mg.insSt A x (m + 1) R).set m x).set (m + 1) y = Mg.insSt A x m R := by
  have e1 : A[m] = y := by rw [← hy, List.getD_eq_getElem?_getD, List.getElem?_eq_getElem hm]; rfl
  rw [← e1]; exact Mg.insSt_step hm

end Go.Proofs.Ytmgkdokaaoeobaa

