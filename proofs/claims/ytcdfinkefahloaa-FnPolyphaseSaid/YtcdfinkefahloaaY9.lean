/- Several texts in one: lemmas and walks of the functions that the law reaches. -/
import Derived.Test.YtcdfinkefahloaaY5
import Derived.Deep.AppendLies
import Derived.Deep.DrawnRows
import Derived.Deep.RegionHeld3

namespace Go.Proofs.Ytcdfinkefahloaa
open Go.RowKit
set_option linter.unusedVariables false

theorem wp_appX {P : Program} {w : World} {o : Oper} {a : Act} {K : Act → World → Prop} {Q : Exit → Act → World → Prop} {t e : TypeId} {z : Value} {size bytes : Nat} (T : SlT P t e z size bytes) (s y : Operand)
    (ho : o.op = .call { callee := .builtin .append, args := #[s, y], argTypes := #[t, t] })
    (base : Nat) (v : Value) (n : Nat) (xs : List Value) (ad : Addr) (m c : Nat) (ys : List Value) (hs : a.eval s = v) (hown : w.ownsRow base e size v n xs) (hy : a.eval y = .slice (some ad) m c) (hl : ys.length = m * size)
    (hcells : ∀ j x, ys[j]? = some x → w.cell? (ad.add j) = some x) (h1 : ∀ x ∈ ys, x.oneCell' = true) (hsmall : n + m ≤ 1099511627776) (hbase : base ≤ w.heap.size)
    (h : ∀ v' w', w'.ownsRow base e size v' (n + m) (xs ++ ys) → w.grownBy w' v.ownBlock → (v'.ownBlock = v.ownBlock ∨ v'.ownBlock = some w.heap.size) → K (a.put o.dst v') w') : Oper.wp P o a w K Q := by
  obtain ⟨v', w', hr, h2, h3, h4⟩ := run_app_tag (P := P) w T base o.type v n xs hown ad m c ys hl hcells h1 hsmall hbase
  unfold Oper.wp execOp
  simp only [ho, resolve, invoke, builtin, Sem.run_bind, Sem.run_pure, Result.andThen_ok, List.map_toArray, List.map_cons, List.map_nil, hs, hy, hr]
  exact h v' w' h2 h3 h4

theorem step_appX {P : Program} {w : World} {ops : Array Oper} {o : Oper} {a : Act} {K : Act → World → Prop} {Q : Exit → Act → World → Prop} {E : Prop} {t e : TypeId} {z : Value} {size bytes : Nat} (T : SlT P t e z size bytes) (hgd : o.guard = none) (s y : Operand)
    (ho : o.op = .call { callee := .builtin .append, args := #[s, y], argTypes := #[t, t] })
    (base : Nat) (v : Value) (n : Nat) (xs : List Value) (ad : Addr) (m c : Nat) (ys : List Value) (hs : a.eval s = v) (hown : w.ownsRow base e size v n xs) (hy : a.eval y = .slice (some ad) m c) (hl : ys.length = m * size)
    (hcells : ∀ j x, ys[j]? = some x → w.cell? (ad.add j) = some x) (h1 : ∀ x ∈ ys, x.oneCell' = true) (hsmall : n + m ≤ 1099511627776) (hbase : base ≤ w.heap.size)
    (h : ∀ v' w', w'.ownsRow base e size v' (n + m) (xs ++ ys) → w.grownBy w' v.ownBlock → (v'.ownBlock = v.ownBlock ∨ v'.ownBlock = some w.heap.size) → K (a.put o.dst v') w') :
    if Region.wanted o (yielded ops a.tmps) = true then Oper.wp P o a w K Q else E := by
  have hw : Region.wanted o (yielded ops a.tmps) = true := by simp [Region.wanted, hgd]
  rw [if_pos hw]
  exact wp_appX T s y ho base v n xs ad m c ys hs hown hy hl hcells h1 hsmall hbase h

end Go.Proofs.Ytcdfinkefahloaa

