/- Several texts in one: lemmas and walks of the functions that the law reaches. -/
import Derived.Test.YtmgkdokaaoeobaaY3
import Derived.Laws.AppendOwnNone

namespace Go.Proofs.Ytmgkdokaaoeobaa
open Go.RowKit
set_option linter.unusedVariables false

/-- Two lists that the call owns, in two blocks. -/
structure Two (w : World) (base : Nat) (e1 : TypeId) (s1 : Nat) (v : Value) (n : Nat) (xs : List Value) (e2 : TypeId) (s2 : Nat) (u : Value) (m : Nat) (ys : List Value) : Prop where
  fst : w.ownsRow base e1 s1 v n xs
  snd : w.ownsRow base e2 s2 u m ys
  ne : ∀ k, v.ownBlock = some k → u.ownBlock ≠ some k

theorem Two.below {w w' : World} {base : Nat} {e1 e2 : TypeId} {s1 s2 n m : Nat} {v u : Value} {xs ys : List Value} (h : Two w base e1 s1 v n xs e2 s2 u m ys) (hb : Below w.heap.size w w') : Two w' base e1 s1 v n xs e2 s2 u m ys :=
  ⟨own_below h.1 (Nat.le_refl _) hb, own_below h.2 (Nat.le_refl _) hb, h.3⟩

theorem Two.app2 {w w' : World} {base : Nat} {e1 e2 : TypeId} {s1 s2 n m m' : Nat} {v u u' : Value} {xs ys ys' : List Value} (h : Two w base e1 s1 v n xs e2 s2 u m ys)
    (ho : w'.ownsRow base e2 s2 u' m' ys') (hg : w.grownBy w' u.ownBlock) (ht : u'.ownBlock = u.ownBlock ∨ u'.ownBlock = some (w.heap.size + 1)) : Two w' base e1 s1 v n xs e2 s2 u' m' ys' := by
  refine ⟨?_, ho, ?_⟩
  · refine own_other h.1 hg fun k hk e => ?_
    exact h.3 k hk e
  · intro k hk hu
    rcases ht with ht | ht
    · rw [ht] at hu; exact h.3 k hk hu
    · rw [ht] at hu
      have := (h.1.lt k hk).2
      simp only [Option.some.injEq] at hu
      omega

/-- 'append(s, u...)', u a list that is owned (nil too). -/
theorem wpList_appL {P : Program} {w : World} {ops : Array Oper} {rest : List Oper} {o : Oper} {a : Act} {Q : Exit → Act → World → Prop} {t e : TypeId} {z : Value} {size bytes : Nat} (T : SlT P t e z size bytes)
    (hgd : o.guard = none) (s y : Operand) (ho : o.op = .call { callee := .builtin .append, args := #[s, y], argTypes := #[t, t] })
    {base base2 : Nat} {v u : Value} {n m : Nat} {xs ys : List Value} (hs : a.eval s = v) (hown : w.ownsRow base e size v n xs) (hy : a.eval y = u) (hu : w.ownsRow base2 e size u m ys)
    (h1 : ∀ x ∈ ys, x.oneCell' = true) (hsmall : n + m ≤ 1099511627776) (hbase : base ≤ w.heap.size)
    (h : ∀ v' w', w'.ownsRow base e size v' (n + m) (xs ++ ys) → w.grownBy w' v.ownBlock → (v'.ownBlock = v.ownBlock ∨ v'.ownBlock = some w.heap.size) → wpList P ops Q rest (a.put o.dst v') w') :
    wpList P ops Q (o :: rest) a w := by
  have hl := hu.1
  rcases hu.2 with ⟨hu1, hm⟩ | ⟨g, cap, cur, hv, hg⟩
  · subst hm
    have hys : ys = [] := List.eq_nil_of_length_eq_zero (by simpa using hl)
    subst hys
    obtain ⟨i, hi, hz, hsz, hby⟩ := T.info
    refine wpList_append_own_none hgd s y t ho base e i size T.und hi v n xs hs hown (by rw [hy, hu1]) ?_
    refine h v w (by simpa using hown) ⟨rfl, rfl, rfl, Nat.le_refl _, fun _ _ _ => rfl⟩ (.inl rfl)
  · refine wpList_plain hgd fun K hK => ?_
    have hcells : ∀ j x, ys[j]? = some x → w.cell? ((⟨g, 0, none⟩ : Addr).add j) = some x := hu.cells (g := g) (by rw [hv]; rfl)
    obtain ⟨v', w', hr, h2, h3, h4⟩ := run_app_tag (P := P) w T base o.type v n xs hown ⟨g, 0, none⟩ m cap ys hl hcells h1 hsmall hbase
    unfold Oper.wp execOp
    simp only [ho, resolve, invoke, builtin, Sem.run_bind, Sem.run_pure, Result.andThen_ok, List.map_toArray, List.map_cons, List.map_nil, hs, hy, hv, hr]
    exact hK _ _ (h v' w' h2 h3 h4)

end Go.Proofs.Ytmgkdokaaoeobaa

namespace Go.Proofs.Ytmgkdokaaoeobaa
open Go.RowKit
set_option linter.unusedVariables false
/-- A part of records. -/
theorem recs_part {w : World} {b off : Nat} {rs : List (Int × Int)} (h : RecsAt w (some ⟨b, off, none⟩) rs) (k m : Nat) : RecsAt w (some ⟨b, off + k * 2, none⟩) ((rs.drop k).take m) := by
  rcases h with rfl | ⟨b', off', e, hb, h2⟩
  · exact .inl (by simp)
  · injection e with e
    injection e with e1 e2
    subst e1 e2
    refine .inr ⟨b, off + k * 2, rfl, hb, fun j hj => ?_⟩
    have hj' : j < m ∧ k + j < rs.length := by simp at hj; omega
    obtain ⟨g1, g2⟩ := h2 (k + j) hj'.2
    have e : ((rs.drop k).take m).getD j (0, 0) = rs.getD (k + j) (0, 0) := by
      simp only [List.getD_eq_getElem?_getD, List.getElem?_take, List.getElem?_drop, if_pos hj'.1]
    rw [e, show off + k * 2 + j * 2 = off + (k + j) * 2 by omega]
    exact ⟨g1, g2⟩
theorem recs_drop {w : World} {b off : Nat} {rs : List (Int × Int)} (h : RecsAt w (some ⟨b, off, none⟩) rs) (k : Nat) : RecsAt w (some ⟨b, off + k * 2, none⟩) (rs.drop k) := by
  have := recs_part h k rs.length
  rwa [List.take_of_length_le (by simp)] at this
theorem recs_take {w : World} {a : Option Addr} {rs : List (Int × Int)} (h : RecsAt w a rs) (m : Nat) : RecsAt w a (rs.take m) := by
  rcases h with rfl | ⟨b, off, e, hb, h2⟩
  · exact .inl (by simp)
  · subst e
    have := recs_part (.inr ⟨b, off, rfl, hb, h2⟩) 0 m
    simpa using this
/-- A slice without an address has no room. -/
def NilOk (a : Option Addr) (c : Nat) : Prop := a = none → c = 0
theorem nilOk_some (x : Addr) (c : Nat) : NilOk (some x) c := fun h => by cases h
theorem nilOk_own {w : World} {B : Nat} {e : TypeId} {size n c : Nat} {a : Option Addr} {xs : List Value} (h : w.ownsRow B e size (.slice a n c) n xs) : NilOk a c := by
  intro ha
  subst ha
  rcases h.2 with ⟨hv, _⟩ | ⟨g, cap, cur, hv, _⟩
  · injection hv
  · injection hv with h1; cases h1

end Go.Proofs.Ytmgkdokaaoeobaa

