/- Several texts in one: lemmas and walks of the functions that the law reaches. -/
import Derived.Test.YtaaogoajhdaekaaY7
import Derived.Test.YtaaogoajhdaekaaY8
import Derived.Lib.AppendZeros
import Derived.Lib.AppendZerosOnto

namespace Go.Proofs.Ytaaogoajhdaekaa
open Go.RowKit
set_option linter.unusedVariables false

theorem run_copyOwn {P : Program} (w : World) {t e : TypeId} {z : Value} {size bytes : Nat} (T : SlT P t e z size bytes) (ty : TypeId)
    {base g n c : Nat} {xs : List Value} (hown : w.ownsRow base e size (.slice (some ⟨g, 0, none⟩) n c) n xs)
    (i dl dc : Nat) (ad : Addr) (sl sc : Nat)
    (news : List Value) (hl : news.length = Nat.min sl dl * size) (hsrc : ∀ j v, news[j]? = some v → w.cell? (ad.add j) = some v) (h1 : ∀ v ∈ news, v.oneCell' = true) (hfit : i * size + news.length ≤ n * size) :
    ∃ w', (Builtin.copy_ #[t, t] ty #[.slice (some ⟨g, i * size, none⟩) dl dc, .slice (some ad) sl sc]).run P w = .ok (goInt (Nat.min sl dl)) w' ∧ w'.ownsRow base e size (.slice (some ⟨g, 0, none⟩) n c) n (xs.take (i * size) ++ news ++ xs.drop (i * size + news.length)) ∧ w.grownBy w' (some g) := by
  obtain ⟨inf, hi, _, hsz, _⟩ := T.info
  have hlen := hown.1
  rcases hown.2 with ⟨h2, _⟩ | ⟨g', cap, cur, hv, hb, hg, hn, hm, hsc, ht⟩
  · cases h2
  · simp only [Value.slice.injEq, Option.some.injEq, Addr.mk.injEq] at hv
    obtain ⟨⟨rfl, _, _⟩, _, rfl⟩ := hv
    have hle : n * size ≤ c * size := Nat.mul_le_mul_right _ hn
    have hr := run_copyN (P := P) w t t ty e size g (i * size) dl dc ad sl sc cur e news T.und (by rw [hi]; simp [hsz]) hg hl hsrc (by rw [hsc]; omega) h1
    have hcl : cur.toList.length = c * size := by rw [Array.length_toList, hsc]
    refine ⟨_, hr, ⟨?_, .inr ⟨g, c, _, rfl, hb, setRow_heap w g cur _ e _ hg, hn, hm, ?_, ?_⟩⟩, setRow_grownG w g _⟩
    · simp only [List.length_append, List.length_take, List.length_drop, hlen]; omega
    · simp only [List.size_toArray, List.length_append, List.length_take, List.length_drop, hcl]; omega
    · show List.take (n * size) (cur.toList.take (i * size) ++ news ++ cur.toList.drop (i * size + news.length)) = _
      rw [← ht]
      apply List.ext_getElem?
      intro j
      simp only [List.getElem?_take, List.getElem?_append, List.length_append, List.length_take, List.getElem?_drop, hcl]
      by_cases hj : j < n * size
      · rw [if_pos hj]
        by_cases h3 : j < i * size + news.length
        · have e1 : j < min (i * size) (c * size) + news.length := by omega
          have e2 : j < min (i * size) (min (n * size) (c * size)) + news.length := by omega
          rw [if_pos e1, if_pos e2]
          by_cases h4 : j < i * size
          · have a1 : j < min (i * size) (c * size) := by omega
            have a2 : j < min (i * size) (min (n * size) (c * size)) := by omega
            rw [if_pos a1, if_pos a2]
            simp only [if_pos h4, if_pos hj]
          · have a1 : ¬ j < min (i * size) (c * size) := by omega
            have a2 : ¬ j < min (i * size) (min (n * size) (c * size)) := by omega
            rw [if_neg a1, if_neg a2]
            congr 1; omega
        · have e1 : ¬ j < min (i * size) (c * size) + news.length := by omega
          have e2 : ¬ j < min (i * size) (min (n * size) (c * size)) + news.length := by omega
          rw [if_neg e1, if_neg e2, if_pos (by omega)]
          congr 1; omega
      · rw [if_neg hj]
        symm
        rw [if_neg (by omega), if_neg (by omega)]

theorem step_copyOwn {P : Program} {w : World} {ops : Array Oper} {o : Oper} {a : Act} {K : Act → World → Prop} {Q : Exit → Act → World → Prop} {E : Prop} {t e : TypeId} {z : Value} {size bytes : Nat} (T : SlT P t e z size bytes)
    (hgd : o.guard = none) (d s : Operand) (ho : o.op = .call { callee := .builtin .copy, args := #[d, s], argTypes := #[t, t] })
    {base g n c : Nat} {xs : List Value} (hown : w.ownsRow base e size (.slice (some ⟨g, 0, none⟩) n c) n xs)
    (i dl dc : Nat) (hd : a.eval d = .slice (some ⟨g, i * size, none⟩) dl dc) (ad : Addr) (sl sc : Nat) (hs : a.eval s = .slice (some ad) sl sc)
    (news : List Value) (hl : news.length = Nat.min sl dl * size) (hsrc : ∀ j v, news[j]? = some v → w.cell? (ad.add j) = some v) (h1 : ∀ v ∈ news, v.oneCell' = true) (hfit : i * size + news.length ≤ n * size)
    (hK : ∀ w', w'.ownsRow base e size (.slice (some ⟨g, 0, none⟩) n c) n (xs.take (i * size) ++ news ++ xs.drop (i * size + news.length)) → w.grownBy w' (some g) → K (a.put o.dst (goInt (Nat.min sl dl))) w') :
    if Region.wanted o (yielded ops a.tmps) = true then Oper.wp P o a w K Q else E := by
  have hw : Region.wanted o (yielded ops a.tmps) = true := by simp [Region.wanted, hgd]
  rw [if_pos hw]
  obtain ⟨w', hr, h2, h3⟩ := run_copyOwn (P := P) w T o.type hown i dl dc ad sl sc news hl hsrc h1 hfit
  unfold Oper.wp execOp
  simp only [ho, resolve, invoke, builtin, Sem.run_bind, Sem.run_pure, Result.andThen_ok, List.map_toArray, List.map_cons, List.map_nil, hd, hs, hr]
  exact hK w' h2 h3

end Go.Proofs.Ytaaogoajhdaekaa

