/- A whole element stored in a region that draws its order. -/
import Derived.Test.YtkckmjajjdpodaaPx
import Derived.Test.YtkckmjajjdpodaaKc
namespace Go.Proofs.Ytkckmjajjdpodaa
open Go.RowKit Go.Sort
set_option linter.unusedVariables false

theorem wp_put {P : Program} {w : World} {o : Oper} {a : Act} {K : Act → World → Prop} {Q : Exit → Act → World → Prop} {t e : TypeId} {z : Value} {size bytes : Nat} (T : SlT P t e z size bytes) (x y : Operand) (hop : o.op = .store e x y)
    {α : Type} (enc : α → List Value) (hS : ∀ r, (enc r).length = size) (h1 : ∀ r, ∀ u ∈ enc r, u.oneCell' = true) (base g n cap : Nat) (rs : List α) (k : Nat) (r : α) (hx : a.eval x = .pointer (some ⟨g, k * size, none⟩)) (hv : (a.eval y).cells.toList = enc r)
    (hown : w.ownsRow base e size (.slice (some ⟨g, 0, none⟩) n cap) n (flat enc rs)) (hk : k < n) (hl : rs.length = n)
    (h : ∀ w', w'.ownsRow base e size (.slice (some ⟨g, 0, none⟩) n cap) n (flat enc (rs.set k r)) → w.grownBy w' (some g) → K (a.put o.dst undef) w') : Oper.wp P o a w K Q := by
  obtain ⟨i, hi, _, hs, _⟩ := T.info
  obtain ⟨w', hr, g1, g2⟩ := own_put hown k hk (enc r) (hS r) (P := P) (h1 r)
  rw [flat_put hS rs k (by omega) r] at g1
  have hsz : (a.eval y).cells.size = i.size := by rw [hs, ← hS r, ← hv]; simp
  unfold Oper.wp execOp
  simp only [hop, hx, Instr.storeAt, Instr.sureAddr, storeVar, sizeOf, typeInfo, hv]
  simp [hi, hsz, hr]
  exact h w' g1 g2

theorem step_put {P : Program} {w : World} {ops : Array Oper} {o : Oper} {a : Act} {K : Act → World → Prop} {Q : Exit → Act → World → Prop} {E : Prop} {t e : TypeId} {z : Value} {size bytes : Nat} (T : SlT P t e z size bytes) (hgd : o.guard = none) (x y : Operand) (hop : o.op = .store e x y)
    {α : Type} (enc : α → List Value) (hS : ∀ r, (enc r).length = size) (h1 : ∀ r, ∀ u ∈ enc r, u.oneCell' = true) (base g n cap : Nat) (rs : List α) (k : Nat) (r : α) (hx : a.eval x = .pointer (some ⟨g, k * size, none⟩)) (hv : (a.eval y).cells.toList = enc r)
    (hown : w.ownsRow base e size (.slice (some ⟨g, 0, none⟩) n cap) n (flat enc rs)) (hk : k < n) (hl : rs.length = n)
    (h : ∀ w', w'.ownsRow base e size (.slice (some ⟨g, 0, none⟩) n cap) n (flat enc (rs.set k r)) → w.grownBy w' (some g) → K (a.put o.dst undef) w') :
    if Region.wanted o (yielded ops a.tmps) = true then Oper.wp P o a w K Q else E := by
  have hw : Region.wanted o (yielded ops a.tmps) = true := by simp [Region.wanted, hgd]
  rw [if_pos hw]
  exact wp_put T x y hop enc hS h1 base g n cap rs k r hx hv hown hk hl h

theorem encR_one (r : Int × Int) : ∀ u ∈ encR r, u.oneCell' = true := by
  intro u hu
  simp [encR] at hu
  rcases hu with rfl | rfl <;> rfl

/-- The cells of an owned row of records. -/
theorem rec_cells {w : World} {base g n cap k : Nat} {e : TypeId} {d : List (Int × Int)} {r : Int × Int} (h : w.ownsRow base e 2 (.slice (some ⟨g, 0, none⟩) n cap) n (flat encR d)) (hk : d[k]? = some r) :
    w.cell? ⟨g, k * 2, none⟩ = some (.int .i64 r.1) ∧ w.cell? ⟨g, k * 2 + 1, none⟩ = some (.int .i64 r.2) := by
  have hlt : k < d.length := (List.getElem?_eq_some_iff.1 hk).1
  obtain ⟨b, off, e1, h1, h2⟩ := (recs_of_own h).at hlt
  injection e1 with e1
  injection e1 with e1 e2 _
  subst e1; subst e2
  rw [Nat.zero_add] at h1 h2
  rw [List.getD_eq_getElem?_getD, hk] at h1 h2
  exact ⟨h1, h2⟩

end Go.Proofs.Ytkckmjajjdpodaa
