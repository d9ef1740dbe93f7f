/- Several texts in one: lemmas and walks of the functions that the laws reach. -/
import Derived.Test.YtkckmjajjdpodaaY1
import Derived.Test.YtkckmjajjdpodaaY5
import Derived.Test.YtkckmjajjdpodaaY2

/- Plain law: a tournament's winner, and the merge of many ascending lists. No program in sight. -/
namespace Go.Proofs.Ytkckmjajjdpodaa.Mg
set_option linter.unusedVariables false

/-- Leaf i beats leaf m: the one that is not done, the lesser key, the lesser place. -/
def beats (ks : List Int) (ds : List Bool) (i m : Nat) : Bool :=
  if ds.getD i false != ds.getD m false then ds.getD m false
  else decide (ks.getD i 0 < ks.getD m 0) || (decide (ks.getD i 0 = ks.getD m 0) && decide (i < m))

def BeatsP (d1 d2 : Bool) (x y : Int) (i m : Nat) : Prop := (d1 = d2 ∧ (x < y ∨ x = y ∧ i < m)) ∨ (d1 = false ∧ d2 = true)
theorem beats_iff (ks : List Int) (ds : List Bool) (i m : Nat) : beats ks ds i m = true ↔ BeatsP (ds.getD i false) (ds.getD m false) (ks.getD i 0) (ks.getD m 0) i m := by
  unfold beats BeatsP
  generalize ds.getD i false = d1
  generalize ds.getD m false = d2
  generalize ks.getD i 0 = x
  generalize ks.getD m 0 = y
  cases d1 <;> cases d2 <;> simp
theorem beats_no {ks : List Int} {ds : List Bool} {i m : Nat} : beats ks ds i m = false ↔ ¬ BeatsP (ds.getD i false) (ds.getD m false) (ks.getD i 0) (ks.getD m 0) i m := by
  rw [← beats_iff]; simp
theorem beats_sw (ks : List Int) (ds : List Bool) : SW (beats ks ds) where
  asym a b h := by
    rw [beats_iff] at h
    rw [beats_no]
    unfold BeatsP at *
    generalize ds.getD a false = d1 at *
    generalize ds.getD b false = d2 at *
    generalize ks.getD a 0 = x at *
    generalize ks.getD b 0 = y at *
    cases d1 <;> cases d2 <;> simp only [true_and, false_and, and_true, and_false, or_false, false_or, reduceCtorEq, not_false_eq_true] at h ⊢ <;> omega
  trans a b c h1 h2 := by
    rw [beats_iff] at *
    unfold BeatsP at *
    generalize ds.getD a false = d1 at *
    generalize ds.getD b false = d2 at *
    generalize ds.getD c false = d3 at *
    generalize ks.getD a 0 = x at *
    generalize ks.getD b 0 = y at *
    generalize ks.getD c 0 = z at *
    cases d1 <;> cases d2 <;> cases d3 <;> simp only [true_and, false_and, and_true, and_false, or_false, false_or, or_true, reduceCtorEq] at h1 h2 ⊢ <;> omega
  neg a b c h := by
    rw [beats_iff] at *
    rw [beats_iff]
    unfold BeatsP at *
    generalize ds.getD a false = d1 at *
    generalize ds.getD b false = d2 at *
    generalize ds.getD c false = d3 at *
    generalize ks.getD a 0 = x at *
    generalize ks.getD b 0 = y at *
    generalize ks.getD c 0 = z at *
    cases d1 <;> cases d2 <;> cases d3 <;> simp only [true_and, false_and, and_true, and_false, or_false, false_or, or_true, true_or, reduceCtorEq] at h ⊢ <;> omega
theorem beats_self (ks : List Int) (ds : List Bool) (i : Nat) : beats ks ds i i = false := by
  unfold beats; simp
theorem beats_tot {ks : List Int} {ds : List Bool} {i m : Nat} (h1 : beats ks ds i m = false) (h2 : beats ks ds m i = false) : i = m := by
  rw [beats_no] at h1 h2
  unfold BeatsP at *
  generalize ds.getD i false = d1 at *
  generalize ds.getD m false = d2 at *
  generalize ks.getD i 0 = x at *
  generalize ks.getD m 0 = y at *
  cases d1 <;> cases d2 <;> simp only [true_and, false_and, and_true, and_false, or_false, false_or, or_true, true_or, reduceCtorEq, not_true_eq_false] at h1 h2 <;> omega

/-- Leaf w wins among k leaves. -/
def Win (ks : List Int) (ds : List Bool) (k w : Nat) : Prop := w < k ∧ ∀ i, i < k → beats ks ds i w = false
theorem win_one {ks : List Int} {ds : List Bool} {k w v : Nat} (h1 : Win ks ds k w) (h2 : Win ks ds k v) : w = v := beats_tot (h2.2 w h1.1) (h1.2 v h2.1)

/-- Leaf i stands below node p of a tree of k leaves. -/
def Under (k p i : Nat) : Prop := ∃ s, (k + i) / 2 ^ s = p
theorem under_leaf {k p i : Nat} (hp : k ≤ p) (hi : i < k) (h : Under k p i) : p = k + i := by
  obtain ⟨s, hs⟩ := h
  cases s with
  | zero => simpa using hs.symm
  | succ s =>
    exfalso
    have h1 : (k + i) / 2 ^ (s + 1) ≤ (k + i) / 2 := by
      rw [Nat.pow_succ, Nat.mul_comm, ← Nat.div_div_eq_div_mul]
      exact Nat.div_le_self _ _
    omega
theorem under_inner {k p i : Nat} (hp : p < k) (h : Under k p i) : Under k (2 * p) i ∨ Under k (2 * p + 1) i := by
  obtain ⟨s, hs⟩ := h
  cases s with
  | zero => exfalso; simp at hs; omega
  | succ s =>
    rw [Nat.pow_succ, ← Nat.div_div_eq_div_mul] at hs
    have : (k + i) / 2 ^ s = 2 * p ∨ (k + i) / 2 ^ s = 2 * p + 1 := by omega
    rcases this with h | h
    · exact .inl ⟨s, h⟩
    · exact .inr ⟨s, h⟩
theorem under_root : ∀ (m : Nat), 0 < m → ∃ s, m / 2 ^ s = 1
  | m, hm => by
    by_cases h : m = 1
    · exact ⟨0, by simp [h]⟩
    · obtain ⟨s, hs⟩ := under_root (m / 2) (by omega)
      exact ⟨s + 1, by rw [Nat.pow_succ, Nat.mul_comm, ← Nat.div_div_eq_div_mul]; exact hs⟩
termination_by m => m
decreasing_by omega

/-- Node p's winner. -/
def NodeWin (ks : List Int) (ds : List Bool) (k p w : Nat) : Prop := w < k ∧ ∀ i, i < k → Under k p i → beats ks ds i w = false
theorem node_leaf (ks : List Int) (ds : List Bool) {k i : Nat} (hi : i < k) : NodeWin ks ds k (k + i) i :=
  ⟨hi, fun j hj hu => by
    have := under_leaf (by omega) hj hu
    obtain rfl : i = j := by omega
    exact beats_self ks ds i⟩
theorem node_inner {ks : List Int} {ds : List Bool} {k p a b : Nat} (hp : p < k) (ha : NodeWin ks ds k (2 * p) a) (hb : NodeWin ks ds k (2 * p + 1) b) :
    (beats ks ds b a = false → NodeWin ks ds k p a) ∧ (beats ks ds a b = false → NodeWin ks ds k p b) := by
  have S := beats_sw ks ds
  constructor
  · intro h
    refine ⟨ha.1, fun i hi hu => ?_⟩
    rcases under_inner hp hu with h1 | h1
    · exact ha.2 i hi h1
    · cases hx : beats ks ds i a with
      | false => rfl
      | true =>
        rcases S.neg i b a hx with h2 | h2
        · rw [hb.2 i hi h1] at h2; cases h2
        · rw [h] at h2; cases h2
  · intro h
    refine ⟨hb.1, fun i hi hu => ?_⟩
    rcases under_inner hp hu with h1 | h1
    · cases hx : beats ks ds i b with
      | false => rfl
      | true =>
        rcases S.neg i a b hx with h2 | h2
        · rw [ha.2 i hi h1] at h2; cases h2
        · rw [h] at h2; cases h2
    · exact hb.2 i hi h1
theorem node_root {ks : List Int} {ds : List Bool} {k w : Nat} (h : NodeWin ks ds k 1 w) : Win ks ds k w :=
  ⟨h.1, fun i hi => h.2 i hi (under_root (k + i) (by have := h.1; omega))⟩

/-- The winner, found. -/
def winF (ks : List Int) (ds : List Bool) : Nat → Nat
  | 0 => 0
  | k + 1 => if beats ks ds k (winF ks ds k) then k else winF ks ds k
theorem winF_win (ks : List Int) (ds : List Bool) : ∀ k, Win ks ds (k + 1) (winF ks ds (k + 1))
  | 0 => by
    have : winF ks ds 1 = 0 := by unfold winF; split <;> rfl
    rw [this]
    exact ⟨by omega, fun i hi => by
      obtain rfl : i = 0 := by omega
      exact beats_self ks ds 0⟩
  | k + 1 => by
    have ih := winF_win ks ds k
    have S := beats_sw ks ds
    rw [winF]
    cases h : beats ks ds (k + 1) (winF ks ds (k + 1)) with
    | false =>
      rw [if_neg (by simp)]
      refine ⟨by have := ih.1; omega, fun i hi => ?_⟩
      rcases Nat.lt_or_ge i (k + 1) with h1 | h1
      · exact ih.2 i h1
      · obtain rfl : i = k + 1 := by omega
        exact h
    | true =>
      rw [if_pos rfl]
      refine ⟨by omega, fun i hi => ?_⟩
      rcases Nat.lt_or_ge i (k + 1) with h1 | h1
      · cases hx : beats ks ds i (k + 1) with
        | false => rfl
        | true => have := S.trans _ _ _ hx h; rw [ih.2 i h1] at this; cases this
      · obtain rfl : i = k + 1 := by omega
        exact beats_self ks ds _
theorem winF_eq {ks : List Int} {ds : List Bool} {k w : Nat} (h : Win ks ds k w) : winF ks ds k = w := by
  obtain ⟨m, rfl⟩ : ∃ m, k = m + 1 := ⟨k - 1, by have := h.1; omega⟩
  exact win_one (winF_win ks ds m) h

/-- What is left of each list: its next key, and whether it is done. -/
def hk : List (Int × Int) → Int
  | [] => 0
  | x :: _ => x.1
def keysOf (rs : List (List (Int × Int))) : List Int := rs.map hk
def doneOf (rs : List (List (Int × Int))) : List Bool := rs.map List.isEmpty
theorem keysOf_at {rs : List (List (Int × Int))} {i : Nat} (h : i < rs.length) : (keysOf rs).getD i 0 = hk (rs.getD i []) := by
  unfold keysOf
  rw [List.getD_eq_getElem?_getD, List.getD_eq_getElem?_getD, List.getElem?_map, List.getElem?_eq_getElem h]; rfl
theorem doneOf_at {rs : List (List (Int × Int))} {i : Nat} (h : i < rs.length) : (doneOf rs).getD i false = (rs.getD i []).isEmpty := by
  unfold doneOf
  rw [List.getD_eq_getElem?_getD, List.getD_eq_getElem?_getD, List.getElem?_map, List.getElem?_eq_getElem h]; rfl

abbrev ltF : Int × Int → Int × Int → Bool := ltK Prod.fst
/-- All lists are done where the winner is. -/
theorem all_done {rs : List (List (Int × Int))} {w : Nat} (h : Win (keysOf rs) (doneOf rs) rs.length w) (hd : rs.getD w [] = []) : rs.flatten = [] := by
  rw [List.flatten_eq_nil_iff]
  intro l hl
  obtain ⟨i, hi, rfl⟩ := List.getElem_of_mem hl
  have h1 := h.2 i hi
  unfold beats at h1
  rw [doneOf_at hi, doneOf_at h.1, hd] at h1
  have e : rs.getD i [] = rs[i] := by rw [List.getD_eq_getElem?_getD, List.getElem?_eq_getElem hi]; rfl
  rw [e] at h1
  cases hx : rs[i] with
  | nil => rfl
  | cons a t => rw [hx] at h1; simp at h1

theorem asc_head {x : Int × Int} {t : List (Int × Int)} (h : Asc ltF (x :: t)) : ∀ y ∈ x :: t, ltF y x = false := by
  intro y hy
  rcases List.mem_cons.1 hy with rfl | hy
  · simp [ltF, ltK]
  · exact (asc_cons.1 h).1 y hy

/-- ONE STEP: the winner's head goes ahead of all else. -/
theorem kstep {rs : List (List (Int × Int))} {w : Nat} {x : Int × Int} {t : List (Int × Int)} (h : Win (keysOf rs) (doneOf rs) rs.length w) (hw : rs.getD w [] = x :: t) (ha : ∀ l ∈ rs, Asc ltF l) :
    srt ltF rs.flatten = x :: srt ltF (rs.set w t).flatten := by
  have S := swK (Prod.fst : Int × Int → Int)
  have hwl := h.1
  have hget : rs[w] = x :: t := by rw [← hw, List.getD_eq_getElem?_getD, List.getElem?_eq_getElem hwl]; rfl
  have e1 : rs = rs.take w ++ (x :: t) :: rs.drop (w + 1) := by
    rw [← hget, ← List.drop_eq_getElem_cons hwl, List.take_append_drop]
  have e2 : rs.set w t = rs.take w ++ t :: rs.drop (w + 1) := List.set_eq_take_append_cons_drop.trans (if_pos hwl)
  have f1 : rs.flatten = (rs.take w).flatten ++ ([x] ++ (t ++ (rs.drop (w + 1)).flatten)) := by
    conv => lhs; rw [e1]
    simp
  have f2 : (rs.set w t).flatten = (rs.take w).flatten ++ (t ++ (rs.drop (w + 1)).flatten) := by
    rw [e2]; simp
  have hd : (doneOf rs).getD w false = false := by rw [doneOf_at hwl, hw]; rfl
  have hkw : (keysOf rs).getD w 0 = x.1 := by rw [keysOf_at hwl, hw]; rfl
  have hA : ∀ y ∈ (rs.take w).flatten, ltF x y = true := by
    intro y hy
    obtain ⟨l, hl, hyl⟩ := List.mem_flatten.1 hy
    obtain ⟨i, hi, rfl⟩ := List.mem_take_iff_getElem.1 hl
    have hil : i < rs.length := by omega
    have h1 := h.2 i hil
    have e : rs.getD i [] = rs[i] := by rw [List.getD_eq_getElem?_getD, List.getElem?_eq_getElem hil]; rfl
    rw [beats_no, hd, doneOf_at hil, keysOf_at hil, hkw, e] at h1
    have hiw : i < w := by omega
    cases hx : rs[i] with
    | nil => rw [hx] at hyl; cases hyl
    | cons a s =>
      rw [hx] at h1 hyl
      have hasc := ha _ (List.getElem_mem hil)
      rw [hx] at hasc
      have h3 := asc_head hasc y hyl
      have h4 : ¬ (a.1 < x.1 ∨ a.1 = x.1 ∧ i < w) := fun q => h1 (.inl ⟨rfl, q⟩)
      simp [ltF, ltK] at h3 ⊢
      omega
  have hB : ∀ y ∈ t ++ (rs.drop (w + 1)).flatten, ltF y x = false := by
    intro y hy
    rcases List.mem_append.1 hy with hy | hy
    · have hasc := ha _ (List.getElem_mem hwl)
      rw [hget] at hasc
      exact asc_head hasc y (List.mem_cons_of_mem _ hy)
    · obtain ⟨l, hl, hyl⟩ := List.mem_flatten.1 hy
      obtain ⟨j, hj, rfl⟩ := List.mem_drop_iff_getElem.1 hl
      have hil : w + 1 + j < rs.length := by omega
      have h1 := h.2 (w + 1 + j) hil
      have e : rs.getD (w + 1 + j) [] = rs[w + 1 + j] := by rw [List.getD_eq_getElem?_getD, List.getElem?_eq_getElem hil]; rfl
      rw [beats_no, hd, doneOf_at hil, keysOf_at hil, hkw, e] at h1
      cases hx : rs[w + 1 + j] with
      | nil => rw [hx] at hyl; cases hyl
      | cons a s =>
        rw [hx] at h1 hyl
        have hasc := ha _ (List.getElem_mem hil)
        rw [hx] at hasc
        have h3 := asc_head hasc y hyl
        have h4 : ¬ (a.1 < x.1 ∨ a.1 = x.1 ∧ w + 1 + j < w) := fun q => h1 (.inl ⟨rfl, q⟩)
        simp [ltF, ltK] at h3 ⊢
        omega
  rw [f1, f2, srt_append S, srt_append S [x], srt_one, srt_append S (rs.take w).flatten]
  rw [mrg_ahead (l := [x]) (fun a hax b hb => by rw [List.mem_singleton.1 hax]; exact hB b (srt_mem.1 hb))]
  cases hs : srt ltF (rs.take w).flatten with
  | nil => rw [mrg_nil, mrg_nil]; rfl
  | cons a s =>
    rw [List.singleton_append, mrg_lt (hA a (srt_mem.1 (by rw [hs]; simp)))]

/-- The nodes above a leaf. -/
def plen : Nat → Nat
  | 0 => 0
  | p + 1 => 1 + plen ((p + 1) / 2)
decreasing_by omega
theorem plen_pos {p : Nat} (h : 0 < p) : plen p = 1 + plen (p / 2) := by
  obtain ⟨q, rfl⟩ : ∃ q, p = q + 1 := ⟨p - 1, by omega⟩
  rw [plen]
theorem plen_zero : plen 0 = 0 := by rw [plen]
theorem plen_le : ∀ (n p : Nat), p < 2 ^ n → plen p ≤ n
  | 0, p, h => by
    obtain rfl : p = 0 := by simpa using h
    rw [plen_zero]; omega
  | n + 1, p, h => by
    rcases Nat.eq_zero_or_pos p with rfl | hp
    · rw [plen_zero]; omega
    · rw [plen_pos hp]
      have := plen_le n (p / 2) (by rw [Nat.pow_succ] at h; omega)
      omega

/-- The comparisons of the merge behind its first tree. -/
def kc : Nat → List (List (Int × Int)) → Nat
  | 0, _ => 0
  | f + 1, rs => match rs.getD (winF (keysOf rs) (doneOf rs) rs.length) [] with
    | [] => 0
    | _ :: t => plen ((rs.length + winF (keysOf rs) (doneOf rs) rs.length) / 2) + kc f (rs.set (winF (keysOf rs) (doneOf rs) rs.length) t)
theorem kc_step {rs : List (List (Int × Int))} {w : Nat} {x : Int × Int} {t : List (Int × Int)} {f : Nat} (h : Win (keysOf rs) (doneOf rs) rs.length w) (hw : rs.getD w [] = x :: t) :
    kc (f + 1) rs = plen ((rs.length + w) / 2) + kc f (rs.set w t) := by
  rw [kc, winF_eq h, hw]
theorem len_step {rs : List (List (Int × Int))} {w : Nat} {x : Int × Int} {t : List (Int × Int)} (hwl : w < rs.length) (hw : rs.getD w [] = x :: t) : rs.flatten.length = (rs.set w t).flatten.length + 1 := by
  have hget : rs[w] = x :: t := by rw [← hw, List.getD_eq_getElem?_getD, List.getElem?_eq_getElem hwl]; rfl
  have e1 : rs = rs.take w ++ (x :: t) :: rs.drop (w + 1) := by
    rw [← hget, ← List.drop_eq_getElem_cons hwl, List.take_append_drop]
  have e2 : rs.set w t = rs.take w ++ t :: rs.drop (w + 1) := List.set_eq_take_append_cons_drop.trans (if_pos hwl)
  rw [e2]
  conv => lhs; rw [e1]
  simp; omega
theorem asc_step {rs : List (List (Int × Int))} {w : Nat} {x : Int × Int} {t : List (Int × Int)} (hwl : w < rs.length) (hw : rs.getD w [] = x :: t) (ha : ∀ l ∈ rs, Asc ltF l) : ∀ l ∈ rs.set w t, Asc ltF l := by
  intro l hl
  rcases List.mem_or_eq_of_mem_set hl with h | h2
  · exact ha l h
  · rw [h2]
    have hget : rs[w] = x :: t := by rw [← hw, List.getD_eq_getElem?_getD, List.getElem?_eq_getElem hwl]; rfl
    have := ha _ (List.getElem_mem hwl)
    rw [hget] at this
    exact (asc_cons.1 this).2
theorem kc_le : ∀ (f : Nat) (rs : List (List (Int × Int))), rs.length ≤ 16 → kc f rs ≤ 4 * f
  | 0, _, _ => by rw [kc]; omega
  | f + 1, rs, h => by
    rw [kc]
    split
    · omega
    · rename_i y t ht
      have h1 := kc_le f (rs.set (winF (keysOf rs) (doneOf rs) rs.length) t) (by rw [List.length_set]; exact h)
      have h2 : winF (keysOf rs) (doneOf rs) rs.length < rs.length := by
        rcases Nat.eq_zero_or_pos rs.length with h0 | h0
        · have : rs = [] := List.eq_nil_of_length_eq_zero h0
          subst this; simp at ht
        · obtain ⟨m, hm⟩ : ∃ m, rs.length = m + 1 := ⟨rs.length - 1, by omega⟩
          rw [hm]; exact (winF_win _ _ m).1
      have h3 := plen_le 4 ((rs.length + winF (keysOf rs) (doneOf rs) rs.length) / 2) (by omega)
      omega
end Go.Proofs.Ytkckmjajjdpodaa.Mg

/- Walks: rows of single values that can be read; copies; the matches of a tournament, of both packages. -/
namespace Go.Proofs.Ytkckmjajjdpodaa
open Go.RowKit Go.Sort
set_option linter.unusedVariables false

/-- Values of one cell each, behind a slice that can be read. -/
def ValsAt (w : World) (a : Option Addr) (vs : List Value) : Prop := vs = [] ∨ ∃ b off, a = some ⟨b, off, none⟩ ∧ b < w.heap.size ∧ ∀ j v, vs[j]? = some v → w.cell? ⟨b, off + j, none⟩ = some v
theorem ValsAt.below {w w' : World} {B : Nat} {a : Option Addr} {vs : List Value} (h : ValsAt w a vs) (hB : w.heap.size ≤ B) (hb : Below B w w') : ValsAt w' a vs := by
  rcases h with h | ⟨b, off, e, h1, h2⟩
  · exact .inl h
  · exact .inr ⟨b, off, e, Nat.lt_of_lt_of_le h1 hb.size, fun j v hj => (hb.cell (p := ⟨b, off + j, none⟩) (by show b < B; omega)).trans (h2 j v hj)⟩
theorem ValsAt.same {w w' : World} {a : Option Addr} {vs : List Value} (h : ValsAt w a vs) (hb : Below w.heap.size w w') : ValsAt w' a vs := h.below (Nat.le_refl _) hb
theorem ValsAt.at {w : World} {a : Option Addr} {vs : List Value} (h : ValsAt w a vs) {k : Nat} {v : Value} (hk : vs[k]? = some v) : ∃ b off, a = some ⟨b, off, none⟩ ∧ w.cell? ⟨b, off + k, none⟩ = some v := by
  rcases h with h | ⟨b, off, e, h1, h2⟩
  · subst h; simp at hk
  · exact ⟨b, off, e, h2 k v hk⟩
theorem vals_own {w : World} {B : Nat} {e : TypeId} {a : Option Addr} {n c : Nat} {vs : List Value} (h : w.ownsRow B e 1 (.slice a n c) n vs) : ValsAt w a vs := by
  rcases List.eq_nil_or_concat vs with rfl | ⟨l, x, hl⟩
  · exact .inl rfl
  · have hlen : 0 < vs.length := by rw [hl]; simp
    obtain ⟨g, rfl, _, hg, _⟩ := own_at h (List.getElem?_eq_getElem hlen)
    refine .inr ⟨g, 0, rfl, (h.lt g rfl).2, fun j v hj => ?_⟩
    obtain ⟨g', e', hc, _⟩ := own_at h hj
    injection e' with e'
    injection e' with e' _
    subst e'
    rw [Nat.zero_add]; exact hc

/-- 'append(s, u...)', u values that can be read. -/
theorem wpList_appV {P : Program} {w : World} {ops : Array Oper} {rest : List Oper} {o : Oper} {a : Act} {Q : Exit → Act → World → Prop} {t e : TypeId} {z : Value} {bytes : Nat} (T : SlT P t e z 1 bytes)
    (hgd : o.guard = none) (s y : Operand) (ho : o.op = .call { callee := .builtin .append, args := #[s, y], argTypes := #[t, t] })
    {base : Nat} {v : Value} {n m c : Nat} {xs vs : List Value} {x : Option Addr} (hs : a.eval s = v) (hown : w.ownsRow base e 1 v n xs) (hy : a.eval y = .slice x m c) (hu : ValsAt w x vs) (hm : vs.length = m) (hx : NilOk x c) (h1 : ∀ u ∈ vs, u.oneCell' = true)
    (hsmall : n + m ≤ 1099511627776) (hbase : base ≤ w.heap.size)
    (h : ∀ v' w', w'.ownsRow base e 1 v' (n + m) (xs ++ vs) → w.grownBy w' v.ownBlock → (v'.ownBlock = v.ownBlock ∨ v'.ownBlock = some w.heap.size) → wpList P ops Q rest (a.put o.dst v') w') :
    wpList P ops Q (o :: rest) a w := by
  cases x with
  | none =>
    have hr : vs = [] := by
      rcases hu with h | ⟨_, _, e, _⟩
      · exact h
      · cases e
    subst hr
    obtain rfl : c = 0 := hx rfl
    obtain rfl : m = 0 := hm.symm
    obtain ⟨i, hi, hz, hsz, hby⟩ := T.info
    refine wpList_append_own_none hgd s y t ho base e i 1 T.und hi v n xs hs hown hy ?_
    refine h v w (by simpa using hown) ⟨rfl, rfl, rfl, Nat.le_refl _, fun _ _ _ => rfl⟩ (.inl rfl)
  | some p =>
    refine wpList_plain hgd fun K hK => ?_
    obtain ⟨v', w', hr, h2, h3, h4⟩ := run_app_tag (P := P) w T base o.type v n xs hown p m c vs (by omega) (fun j u hj => by
      rcases hu with h | ⟨b, off, e, _, h2⟩
      · subst h; simp at hj
      · injection e with e
        subst e
        rw [show (⟨b, off, none⟩ : Addr).add j = ⟨b, off + j, none⟩ by unfold Addr.add; split <;> simp_all]
        exact h2 j u hj) h1 hsmall hbase
    unfold Oper.wp execOp
    simp only [ho, resolve, invoke, builtin, Sem.run_bind, Sem.run_pure, Result.andThen_ok, List.map_toArray, List.map_cons, List.map_nil, hs, hy, hr]
    exact hK _ _ (h v' w' h2 h3 h4)

theorem Try.infoBoolE : (Try.prog.info? 4).map (fun i => (i.zero, i.size, i.bytes)) = some (some (.bool false), 1, 1) := by kernel_rfl
theorem slBoolE : SlT Try.prog 163 4 (.bool false) 1 1 := ⟨Try.underlying163, info_parts Try.infoBoolE, rfl, by decide, by decide⟩

abbrev ints (l : List Int) : List Value := l.map (Value.int .i64)
abbrev bools (l : List Bool) : List Value := l.map Value.bool
theorem ints_at {l : List Int} {k : Nat} (h : k < l.length) : (ints l)[k]? = some (.int .i64 (l.getD k 0)) := by
  rw [List.getElem?_map, List.getElem?_eq_getElem h, List.getD_eq_getElem?_getD, List.getElem?_eq_getElem h]; rfl
theorem bools_at {l : List Bool} {k : Nat} (h : k < l.length) : (bools l)[k]? = some (.bool (l.getD k false)) := by
  rw [List.getElem?_map, List.getElem?_eq_getElem h, List.getD_eq_getElem?_getD, List.getElem?_eq_getElem h]; rfl
theorem ints_one' {l : List Int} : ∀ u ∈ ints l, u.oneCell' = true := by
  intro u hu; obtain ⟨x, _, rfl⟩ := List.mem_map.1 hu; rfl
theorem bools_one' {l : List Bool} : ∀ u ∈ bools l, u.oneCell' = true := by
  intro u hu; obtain ⟨x, _, rfl⟩ := List.mem_map.1 hu; rfl

/-- A row of the call's own, given back. -/
def OwnV (e : TypeId) (w : World) (vs : List Value) (n : Nat) (r : Ending) (w' : World) : Prop :=
  ∃ (g c : Nat), r = .returned (.slice (some ⟨g, 0, none⟩) n c) ∧ w'.ownsRow w.heap.size e 1 (.slice (some ⟨g, 0, none⟩) n c) n vs ∧ Below w.heap.size w w'

set_option maxRecDepth 100000 in
set_option maxHeartbeats 2000000 in
theorem copyOfI_any (a : Option Addr) (n c : Nat) (l : List Int) (w : World) (hlen : n ≤ 1000) (hl : l.length = n) (h : ValsAt w a (ints l)) (hx : NilOk a c) :
    Calls Try.prog 179 #[.slice a n c] w (OwnV 3 w (ints l) n) := by
  have E0 := Lib.hid (own_lit (w := w) (e := 3) (size := 1) #[] 0 (by omega) rfl)
  have HB := Lib.hid (show Below w.heap.size w (w.alloc (.cells #[] 3)) from (Below.refl _ _).alloc (Nat.le_refl _) _)
  have HU := Lib.hid (h.same HB.out)
  have HX := Lib.hid hx
  have HL := Lib.hid (show (ints l).length = n by simpa using hl)
  have hle : w.heap.size ≤ (w.alloc (.cells #[] 3)).heap.size := by simp
  have HLE := Lib.hid hle
  clear h hx hle hl
  unfold OwnV
  go_enter Try.func179, Try.ntmps179
  go_wp2_with (at_builtin; refine wpList_appV (v := .slice (some ⟨w.heap.size, 0, none⟩) 0 0) slInt rfl _ _ rfl rfl E0.out rfl HU.out HL.out HX.out ints_one' (by omega) HLE.out ?_; intro v' w2 hown2 hg2 ht2; rw [Nat.zero_add] at hown2; obtain ⟨a', c, rfl⟩ := own_slice hown2; have HO := Lib.hid hown2; have HG := Lib.hid hg2; have HT := Lib.hid ht2; clear hown2 hg2 ht2)
  go_wp2
  go_ret
  obtain ⟨g, rfl, _, _⟩ := own_addr HO.out (by
    rcases HT.out with h | h
    · rw [h]; simp [Value.ownBlock]
    · rw [h]; simp)
  exact ⟨g, c, rfl, HO.out, HB.out.grown HG.out (by simp) (fun k hk => by simp [Value.ownBlock] at hk; omega)⟩

set_option maxRecDepth 100000 in
set_option maxHeartbeats 2000000 in
theorem copyOfB_any (a : Option Addr) (n c : Nat) (l : List Bool) (w : World) (hlen : n ≤ 1000) (hl : l.length = n) (h : ValsAt w a (bools l)) (hx : NilOk a c) :
    Calls Try.prog 180 #[.slice a n c] w (OwnV 4 w (bools l) n) := by
  have E0 := Lib.hid (own_lit (w := w) (e := 4) (size := 1) #[] 0 (by omega) rfl)
  have HB := Lib.hid (show Below w.heap.size w (w.alloc (.cells #[] 4)) from (Below.refl _ _).alloc (Nat.le_refl _) _)
  have HU := Lib.hid (h.same HB.out)
  have HX := Lib.hid hx
  have HL := Lib.hid (show (bools l).length = n by simpa using hl)
  have hle : w.heap.size ≤ (w.alloc (.cells #[] 4)).heap.size := by simp
  have HLE := Lib.hid hle
  clear h hx hle hl
  unfold OwnV
  go_enter Try.func180, Try.ntmps180
  go_wp2_with (at_builtin; refine wpList_appV (v := .slice (some ⟨w.heap.size, 0, none⟩) 0 0) slBoolE rfl _ _ rfl rfl E0.out rfl HU.out HL.out HX.out bools_one' (by omega) HLE.out ?_; intro v' w2 hown2 hg2 ht2; rw [Nat.zero_add] at hown2; obtain ⟨a', c, rfl⟩ := own_slice hown2; have HO := Lib.hid hown2; have HG := Lib.hid hg2; have HT := Lib.hid ht2; clear hown2 hg2 ht2)
  go_wp2
  go_ret
  obtain ⟨g, rfl, _, _⟩ := own_addr HO.out (by
    rcases HT.out with h | h
    · rw [h]; simp [Value.ownBlock]
    · rw [h]; simp)
  exact ⟨g, c, rfl, HO.out, HB.out.grown HG.out (by simp) (fun k hk => by simp [Value.ownBlock] at hk; omega)⟩

set_option maxRecDepth 100000 in
set_option maxHeartbeats 2000000 in
theorem l1OwnE_any (a : Option Addr) (n c : Nat) (l : List Int) (w : World) (hlen : n ≤ 1000) (hl : l.length = n) (h : ValsAt w a (ints l)) (hx : NilOk a c) :
    Calls Try.prog 182 #[.slice a n c] w (OwnV 3 w (ints l) n) := by
  have E0 := Lib.hid (own_lit (w := w) (e := 3) (size := 1) #[] 0 (by omega) rfl)
  have HB := Lib.hid (show Below w.heap.size w (w.alloc (.cells #[] 3)) from (Below.refl _ _).alloc (Nat.le_refl _) _)
  have HU := Lib.hid (h.same HB.out)
  have HX := Lib.hid hx
  have HL := Lib.hid (show (ints l).length = n by simpa using hl)
  have hle : w.heap.size ≤ (w.alloc (.cells #[] 3)).heap.size := by simp
  have HLE := Lib.hid hle
  clear h hx hle hl
  unfold OwnV
  go_enter Try.func182, Try.ntmps182
  go_wp2_with (at_builtin; refine wpList_appV (v := .slice (some ⟨w.heap.size, 0, none⟩) 0 0) slInt rfl _ _ rfl rfl E0.out rfl HU.out HL.out HX.out ints_one' (by omega) HLE.out ?_; intro v' w2 hown2 hg2 ht2; rw [Nat.zero_add] at hown2; obtain ⟨a', c, rfl⟩ := own_slice hown2; have HO := Lib.hid hown2; have HG := Lib.hid hg2; have HT := Lib.hid ht2; clear hown2 hg2 ht2)
  go_wp2
  go_ret
  obtain ⟨g, rfl, _, _⟩ := own_addr HO.out (by
    rcases HT.out with h | h
    · rw [h]; simp [Value.ownBlock]
    · rw [h]; simp)
  exact ⟨g, c, rfl, HO.out, HB.out.grown HG.out (by simp) (fun k hk => by simp [Value.ownBlock] at hk; omega)⟩

theorem beats_val (ks : List Int) (ds : List Bool) (i m : Nat) (d1 d2 : Bool) (x y : Int) (h1 : ds.getD i false = d1) (h2 : ds.getD m false = d2) (h3 : ks.getD i 0 = x) (h4 : ks.getD m 0 = y) :
    Mg.beats ks ds i m = if d1 != d2 then d2 else decide (x < y) || (decide (x = y) && decide (i < m)) := by
  unfold Mg.beats; rw [h1, h2, h3, h4]

set_option maxRecDepth 100000 in
set_option maxHeartbeats 4000000 in
theorem beats_any (t : Nat) (ka da : Option Addr) (k kc dc : Nat) (ks : List Int) (ds : List Bool) (i m : Nat) (w : World) (hk : k ≤ 1000) (hi : i < k) (hm : m < k) (hks : ks.length = k) (hds : ds.length = k)
    (c0 : w.cell? ⟨t, 0, none⟩ = some (.slice ka k kc)) (c1 : w.cell? ⟨t, 1, none⟩ = some (.slice da k dc)) (hK : ValsAt w ka (ints ks)) (hD : ValsAt w da (bools ds)) :
    Calls Try.prog 189 #[.pointer (some ⟨t, 0, none⟩), .int .i64 i, .int .i64 m] w fun e w' => e = .returned (.bool (Mg.beats ks ds i m)) ∧ Below w.heap.size w w' := by
  obtain ⟨kb, ko, rfl, k1⟩ := hK.at (ints_at (show i < ks.length by omega))
  obtain ⟨kb', ko', e, k2⟩ := hK.at (ints_at (show m < ks.length by omega))
  injection e with e
  injection e with e1 e2
  subst e1 e2
  obtain ⟨db, d_o, rfl, d1⟩ := hD.at (bools_at (show i < ds.length by omega))
  obtain ⟨db', do', e, d2⟩ := hD.at (bools_at (show m < ds.length by omega))
  injection e with e
  injection e with e1 e2
  subst e1 e2
  obtain ⟨x, hx⟩ : ∃ x, ks.getD i 0 = x := ⟨_, rfl⟩
  obtain ⟨y, hy⟩ : ∃ y, ks.getD m 0 = y := ⟨_, rfl⟩
  obtain ⟨p, hp⟩ : ∃ p, ds.getD i false = p := ⟨_, rfl⟩
  obtain ⟨q, hq⟩ : ∃ q, ds.getD m false = q := ⟨_, rfl⟩
  have HV := Lib.hid (beats_val ks ds i m p q x y hp hq hx hy)
  rw [hx] at k1; rw [hy] at k2; rw [hp] at d1; rw [hq] at d2
  clear hx hy hp hq hK hD
  have b1 : (0 : Int) ≤ (i : Int) := by omega
  have b2 : (i : Int) < (k : Int) := by omega
  have b3 : (0 : Int) ≤ (m : Int) := by omega
  have b4 : (m : Int) < (k : Int) := by omega
  have t1 : ((i : Int)).toNat = i := by omega
  have t2 : ((m : Int)).toNat = m := by omega
  by_cases hpq : p = q
  · subst hpq
    have q1 : (p != p) = false := by simp
    rw [q1] at HV
    rcases Int.lt_trichotomy x y with h | h | h
    · have z1 : decide (x < y) = true := decide_eq_true h
      rw [z1] at HV
      clear h
      go_enter Try.func189, Try.ntmps189
      go_wp2_with fail
      go_quiet (fail)
      go_wp2_with fail
      go_quiet (fail)
      go_wp2
      go_ret
      exact ⟨ret_bool HV.out.symm, below_drewN (below_drewN (Below.refl _ _) _) _⟩
    · subst h
      have z1 : decide (x < x) = false := by simp
      have z2 : (x == x) = true := by simp
      rw [z1, decide_eq_true rfl] at HV
      go_enter Try.func189, Try.ntmps189
      go_wp2_with fail
      go_quiet (fail)
      go_wp2_with fail
      go_quiet (fail)
      go_wp2
      go_ret
      exact ⟨ret_bool (by rw [HV.out]; simp), below_drewN (below_drewN (Below.refl _ _) _) _⟩
    · have z1 : decide (x < y) = false := decide_eq_false (by omega)
      have z2 : (x == y) = false := by rw [beq_eq_false_iff_ne]; omega
      rw [z1, decide_eq_false (show ¬ x = y by omega)] at HV
      clear h
      go_enter Try.func189, Try.ntmps189
      go_wp2_with fail
      go_quiet (fail)
      go_wp2_with fail
      go_quiet (fail)
      go_wp2
      go_ret
      exact ⟨ret_bool HV.out.symm, below_drewN (below_drewN (Below.refl _ _) _) _⟩
  · cases p <;> cases q
    all_goals first | exact absurd rfl hpq | skip
    all_goals
      clear hpq
      go_enter Try.func189, Try.ntmps189
      go_wp2_with fail
      go_quiet (fail)
      go_wp2
      go_ret
      exact ⟨ret_bool (by rw [HV.out]; rfl), below_drewN (Below.refl _ _) _⟩

end Go.Proofs.Ytkckmjajjdpodaa

/- Walks: a tree of losers is played. -/
namespace Go.Proofs.Ytkckmjajjdpodaa
open Go.RowKit Go.Sort
set_option linter.unusedVariables false

theorem setE_grown (w : World) (g j : Nat) (u : Value) : w.grownBy (w.setCell ⟨g, j, none⟩ u) (some g) := setcell_grown w g j u
theorem grown_cellE {w w' : World} {row : Option Nat} {b o : Nat} (hg : w.grownBy w' row) (hb : b < w.heap.size) (hne : row ≠ some b) : w'.cell? ⟨b, o, none⟩ = w.cell? ⟨b, o, none⟩ := by
  have := hg.block b hb (Ne.symm hne)
  simp only [World.cell?, this]
theorem ValsAt.grown {w w' : World} {row : Option Nat} {a : Option Addr} {vs : List Value} (h : ValsAt w a vs) (hg : w.grownBy w' row) (hne : ∀ b off, a = some ⟨b, off, none⟩ → row ≠ some b) : ValsAt w' a vs := by
  rcases h with h | ⟨b, off, e, h1, h2⟩
  · exact .inl h
  · exact .inr ⟨b, off, e, Nat.lt_of_lt_of_le h1 hg.size, fun j v hj => (grown_cellE hg h1 (hne b off e)).trans (h2 j v hj)⟩

/-- The tree's block while it is played; nothing else of the old is written. -/
structure Pl (w wr : World) (t : Nat) (kv dv lv wv : Value) : Prop where
  row : wr.ownsRow t 165 4 (.slice (some ⟨t, 0, none⟩) 1 1) 1 [kv, dv, lv, wv]
  g : w.grownBy wr (some t)
theorem Pl.next {w wr wq : World} {t : Nat} {kv dv lv wv : Value} {row : Option Nat} (h : Pl w wr t kv dv lv wv) (hg : wr.grownBy wq row) (hne : row ≠ some t) (hnew : ∀ b, row = some b → w.heap.size ≤ b) : Pl w wq t kv dv lv wv := by
  refine ⟨own_other h.row hg (fun k hk e => ?_), hg.os.trans h.g.os, hg.tape.trans h.g.tape, hg.output.trans h.g.output, Nat.le_trans h.g.size hg.size, fun q hq hqn => ?_⟩
  · simp [Value.ownBlock] at hk; subst hk; exact hne e
  · refine (hg.block q (Nat.lt_of_lt_of_le hq h.g.size) (fun e => ?_)).trans (h.g.block q hq hqn)
    have := hnew q e.symm
    omega
theorem Pl.below {w wr wq : World} {t : Nat} {kv dv lv wv : Value} (h : Pl w wr t kv dv lv wv) (hb : Below wr.heap.size wr wq) : Pl w wq t kv dv lv wv := h.next (row := none) (grown_of_below hb) (by simp) (by intro b e; cases e)
theorem Pl.lose {w wr : World} {t : Nat} {kv dv lv wv : Value} (h : Pl w wr t kv dv lv wv) (v : Value) : Pl w (wr.setCell ⟨t, 2, none⟩ v) t kv dv v wv :=
  ⟨(h.row.stored 2 v).1, grown_trans h.g (h.row.stored 2 v).2⟩
theorem Pl.wins {w wr : World} {t : Nat} {kv dv lv wv : Value} (h : Pl w wr t kv dv lv wv) (v : Value) : Pl w (wr.setCell ⟨t, 3, none⟩ v) t kv dv lv v :=
  ⟨(h.row.stored 3 v).1, grown_trans h.g (h.row.stored 3 v).2⟩
theorem Pl.cells {w wr : World} {t : Nat} {kv dv lv wv : Value} (h : Pl w wr t kv dv lv wv) : wr.cell? ⟨t, 0, none⟩ = some kv ∧ wr.cell? ⟨t, 1, none⟩ = some dv ∧ wr.cell? ⟨t, 2, none⟩ = some lv ∧ wr.cell? ⟨t, 3, none⟩ = some wv :=
  ⟨h.row.cellAt 0 (by omega), h.row.cellAt 1 (by omega), h.row.cellAt 2 (by omega), h.row.cellAt 3 (by omega)⟩

theorem ints_set (l : List Int) (k : Nat) (x : Int) : (ints l).set k (.int .i64 x) = ints (l.set k x) := List.map_set.symm
theorem made_ints {w : World} {B : Nat} {v : Value} {n : Nat} (h : w.ownsRow B 3 1 v n (madeCells #[.int .i64 0] n).toList) : w.ownsRow B 3 1 v n (ints (List.replicate n 0)) := by
  rw [show ints (List.replicate n 0) = List.replicate n (.int .i64 0) by simp [ints], ← toList_madeCells_one]
  exact h
theorem getD_setE {l : List Int} {i j : Nat} {x : Int} (hi : i < l.length) : (l.set i x).getD j 0 = if i = j then x else l.getD j 0 := by
  simp only [List.getD_eq_getElem?_getD, List.getElem?_set, if_pos hi]
  split
  · rfl
  · rfl

set_option maxRecDepth 100000 in
set_option maxHeartbeats 8000000 in
theorem play_any (t : Nat) (ka da : Option Addr) (k kc dc : Nat) (lv wv : Value) (ks : List Int) (ds : List Bool) (w : World) (hk0 : 0 < k) (hk : k ≤ 100) (hks : ks.length = k) (hds : ds.length = k) (ht : t < w.heap.size)
    (hP : Pl w w t (.slice ka k kc) (.slice da k dc) lv wv) (hK : ValsAt w ka (ints ks)) (hD : ValsAt w da (bools ds)) (hkt : ∀ b off, ka = some ⟨b, off, none⟩ → b ≠ t) (hdt : ∀ b off, da = some ⟨b, off, none⟩ → b ≠ t) :
    Calls Try.prog 181 #[.pointer (some ⟨t, 0, none⟩)] w fun e w' => e = .returned (.tuple #[]) ∧ ∃ (win : Nat) (lv' : Value), lv'.oneCell' = true ∧ Mg.Win ks ds k win ∧ Pl w w' t (.slice ka k kc) (.slice da k dc) lv' (.int .i64 win) := by
  have HK := Lib.hid hK; have HD := Lib.hid hD; have HKT := Lib.hid hkt; have HDT := Lib.hid hdt
  obtain ⟨c0, c1, c2, c3⟩ := hP.cells
  have HP := Lib.hid hP
  clear hP hK hD hkt hdt
  go_enter Try.func181, Try.ntmps181
  go_wp2_with (at_make; refine wpList_mk slInt rfl _ _ rfl (2 * k) (by first | rfl | (show Value.int .i64 (2 * (k : Int)) = _; rw [show (2 : Int) * (k : Int) = ((2 * k : Nat) : Int) by omega])) (by first | rfl | (show Value.int .i64 (2 * (k : Int)) = _; rw [show (2 : Int) * (k : Int) = ((2 * k : Nat) : Int) by omega])) (by omega) ?_)
  intro w1 hown hb hsz
  have HO1 : Hid (∃ ws : List Int, ws.length = 2 * k ∧ w1.ownsRow w.heap.size 3 1 (.slice (some ⟨w.heap.size, 0, none⟩) (2 * k) (2 * k)) (2 * k) (ints ws)) := by
    exact ⟨List.replicate (2 * k) 0, by simp, made_ints (by simpa [Value.cells] using hown)⟩
  have HP1 := Lib.hid (HP.out.below hb)
  clear hown hb HP c0 c1 c2 c3
  go_wp2
  go_loopw [17] (fun v wr => ∃ (i : Nat) (ws : List Int), v = .int .i64 i ∧ i ≤ k ∧ ws.length = 2 * k ∧ wr.ownsRow w.heap.size 3 1 (.slice (some ⟨w.heap.size, 0, none⟩) (2 * k) (2 * k)) (2 * k) (ints ws) ∧ Hid (∀ j, j < i → ws.getD (k + j) 0 = (j : Int)) ∧ Pl w wr t (.slice ka k kc) (.slice da k dc) lv wv) (fun v _ => k - (intOf v).toNat)
  case atStart =>
    obtain ⟨ws, h1, h2⟩ := HO1.out
    exact ⟨0, ws, rfl, by omega, h1, h2, Lib.hid (fun j hj => by omega), HP1.out⟩
  case round =>
    obtain ⟨i, ws, rfl, hi, hws, ho, HALL, hp⟩ := hrel
    have HO := Lib.hid ho; have HPr := Lib.hid hp
    clear ho hp HO1 HP1
    by_cases hlt : i < k
    · have q1 : decide ((i : Int) < (k : Int)) = true := decide_eq_true (by omega)
      have hki : k + i < ws.length := by omega
      have hfz := HO.out.frozenAt (k + i)
      have hc := HO.out.cellAt (k + i) (by omega)
      rw [ints_at hki] at hc
      have t1 : ((k : Int) + (i : Int)).toNat = k + i := by omega
      have b1 : (0 : Int) ≤ (k : Int) + (i : Int) := by omega
      have b2 : (k : Int) + (i : Int) < 2 * (k : Int) := by omega
      have hst := HO.out.stored (k + i) (.int .i64 i)
      rw [ints_set] at hst
      have HS := Lib.hid hst.1
      have HP2 := Lib.hid (HPr.out.next hst.2 (by intro e; injection e with e; omega) (by intro b e; injection e with e; omega))
      clear hst
      go_wp2
      go_roundw
      case rel => exact ⟨i + 1, _, by go_num, by omega, by rw [List.length_set]; exact hws, HS.out, Lib.hid (fun j hj => by
        rw [getD_setE hki]
        split
        · omega
        · exact HALL.out j (by omega)), HP2.out⟩
      case measure => simp [intOf] <;> omega
    obtain rfl : i = k := by omega
    have q1 : decide ((i : Int) < (i : Int)) = false := by simp
    go_wp2_with (at_make; refine wpList_mk slInt rfl _ _ rfl i rfl rfl (by omega) ?_)
    intro w2 hown hb hsz
    have HL2 : Hid (∃ ls : List Int, ls.length = i ∧ w2.ownsRow w.heap.size 3 1 (.slice (some ⟨wr.heap.size, 0, none⟩) i i) i (ints ls)) := by
      exact ⟨List.replicate i 0, by simp, own_mono (made_ints (by simpa [Value.cells] using hown)) HPr.out.g.size⟩
    have hgw := (HO.out.lt w.heap.size rfl).2
    have HO2 := Lib.hid (own_below HO.out (Nat.le_refl _) hb)
    have HP2 := Lib.hid (HPr.out.below hb)
    have hfz := HP2.out.row.frozenAt 2
    obtain ⟨c0, c1, c2, c3⟩ := HP2.out.cells
    have HP3 := Lib.hid (HP2.out.lose (.slice (some ⟨wr.heap.size, 0, none⟩) i i))
    clear hown hb HO HPr
    have hgl : w.heap.size < wr.heap.size := hgw
    obtain ⟨wl, hwl⟩ : ∃ wl : World, wl = wr := ⟨_, rfl⟩
    rw [← hwl] at HP3 HL2 hgl ⊢
    have HO3 := Lib.hid (own_other HO2.out (HP2.out.row.stored 2 (.slice (some ⟨wr.heap.size, 0, none⟩) i i)).2 (fun k hk e => by simp [Value.ownBlock] at hk; injection e with e; omega))
    have HL3 : Hid (∃ ls : List Int, ls.length = i ∧ (w2.setCell ⟨t, 2, none⟩ (.slice (some ⟨wl.heap.size, 0, none⟩) i i)).ownsRow w.heap.size 3 1 (.slice (some ⟨wl.heap.size, 0, none⟩) i i) i (ints ls)) := by
      obtain ⟨ls, h1, h2⟩ := HL2.out
      exact ⟨ls, h1, own_other h2 (HP2.out.row.stored 2 (.slice (some ⟨wl.heap.size, 0, none⟩) i i)).2 (fun k hk e => by simp [Value.ownBlock] at hk; injection e with e; omega)⟩
    rw [← hwl] at HO3
    clear hwl
    go_wp2
    clear HO2 HL2 HP2 hfz c0 c1 c2 c3
    go_loopw [5] (fun v wq => ∃ (j : Nat) (ws ls : List Int), v = .int .i64 j ∧ j < i ∧ ws.length = 2 * i ∧ ls.length = i ∧ wq.ownsRow w.heap.size 3 1 (.slice (some ⟨w.heap.size, 0, none⟩) (2 * i) (2 * i)) (2 * i) (ints ws) ∧ wq.ownsRow w.heap.size 3 1 (.slice (some ⟨wl.heap.size, 0, none⟩) i i) i (ints ls) ∧ Hid (∀ p, j < p → p < 2 * i → ∃ v : Nat, ws.getD p 0 = (v : Int) ∧ Mg.NodeWin ks ds i p v) ∧ Pl w wq t (.slice ka i kc) (.slice da i dc) (.slice (some ⟨wl.heap.size, 0, none⟩) i i) wv) (fun v _ => (intOf v).toNat)
    case atStart =>
      obtain ⟨ls, h1, h2⟩ := HL3.out
      exact ⟨i - 1, ws, ls, by go_num, by omega, hws, h1, HO3.out, h2, Lib.hid (fun p h3 h4 => ⟨p - i, by rw [← HALL.out (p - i) (by omega)]; congr 1; omega, by
        have := Mg.node_leaf ks ds (k := i) (i := p - i) (by omega)
        rwa [show i + (p - i) = p by omega] at this⟩), HP3.out⟩
    case round =>
      clear HALL HO3 HL3 HP3 hws
      obtain ⟨j, ws, ls, rfl, hj, hws, hls, ho, hl, HALL, hp⟩ := hrel
      have HO := Lib.hid ho; have HL := Lib.hid hl; have HPq := Lib.hid hp
      clear ho hl hp
      by_cases hj1 : 1 ≤ j
      · have q2 : decide (1 ≤ (j : Int)) = true := decide_eq_true (by omega)
        obtain ⟨a, ha, na⟩ := HALL.out (2 * j) (by omega) (by omega)
        obtain ⟨b, hb, nb⟩ := HALL.out (2 * j + 1) (by omega) (by omega)
        have x1 := HO.out.cellAt (2 * j) (by omega)
        rw [ints_at (by omega), ha] at x1
        have x2 := HO.out.cellAt (2 * j + 1) (by omega)
        rw [ints_at (by omega), hb] at x2
        have HNI := Lib.hid (Mg.node_inner (ks := ks) (ds := ds) (k := i) (by omega) na nb)
        have hai : a < i := na.1
        have hbi : b < i := nb.1
        have hab : a ≠ b ∨ a = b := by omega
        clear ha hb na nb
        have t1 : (2 * (j : Int)).toNat = 2 * j := by omega
        have t2 : (2 * (j : Int) + 1).toNat = 2 * j + 1 := by omega
        have b1 : (0 : Int) ≤ 2 * (j : Int) := by omega
        have b2 : 2 * (j : Int) < 2 * (i : Int) := by omega
        have b3 : (0 : Int) ≤ 2 * (j : Int) + 1 := by omega
        have b4 : 2 * (j : Int) + 1 < 2 * (i : Int) := by omega
        have w1 : IntKind.i64.wrap (2 * (j : Int)) = 2 * (j : Int) := IntWalk.i64_in _ (by omega)
        have w2 : IntKind.i64.wrap (2 * (j : Int) + 1) = 2 * (j : Int) + 1 := IntWalk.i64_in _ (by omega)
        go_wp2_with fail
        go_quiet (fail)
        have HO4 := Lib.hid (own_below HO.out (Nat.le_refl _) (below_drewN (Below.refl _ wr) nq))
        have HL4 := Lib.hid (own_below HL.out (Nat.le_refl _) (below_drewN (Below.refl _ wr) nq))
        have HP4 := Lib.hid (HPq.out.below (below_drewN (Below.refl _ wr) nq))
        generalize wr.drewN nq = wx at HO4 HL4 HP4 ⊢
        clear x1 x2 HO HL HPq t1 t2 b1 b2 b3 b4 w1 w2
        have HB4 := Lib.hid (beats_any t ka da i kc dc ks ds b a wx (by omega) hbi hai hks hds HP4.out.cells.1 HP4.out.cells.2.1 (HK.out.grown HP4.out.g (fun q off e he => HKT.out q off e (by injection he with he; exact he.symm))) (HD.out.grown HP4.out.g (fun q off e he => HDT.out q off e (by injection he with he; exact he.symm))))
        go_wp2_with fail
        refine HB4.out.mono ?_
        rintro e w5 ⟨rfl, hb⟩
        have HOx := Lib.hid (own_below HO4.out (Nat.le_refl _) hb)
        have HLx := Lib.hid (own_below HL4.out (Nat.le_refl _) hb)
        have HPx := Lib.hid (HP4.out.below hb)
        obtain ⟨c0, c1, c2, c3⟩ := HPx.out.cells
        clear hb HO4 HL4 HP4 HB4
        cases hbb : Mg.beats ks ds b a
        · have HNW := Lib.hid (HNI.out.1 hbb)
          clear hbb
          have h1 := HOx.out.stored j (.int .i64 a)
          rw [ints_set] at h1
          have hl1 := own_other HLx.out h1.2 (fun k hk e => by simp [Value.ownBlock] at hk; injection e with e; omega)
          have f1 := HOx.out.frozenAt j
          have f2 := hl1.frozenAt j
          have x1 := HOx.out.cellAt j (by omega)
          rw [ints_at (by omega)] at x1
          have x2 := hl1.cellAt j (by omega)
          rw [ints_at (by omega)] at x2
          have h2 := hl1.stored j (.int .i64 b)
          rw [ints_set] at h2
          have hw2 := own_other h1.1 h2.2 (fun k hk e => by simp [Value.ownBlock] at hk; injection e with e; omega)
          have p1 := HPx.out.next h1.2 (by intro e; injection e with e; omega) (by intro b e; injection e with e; omega)
          have hc2 : (w5.setCell ⟨w.heap.size, j, none⟩ (.int .i64 a)).cell? ⟨t, 2, none⟩ = some (.slice (some ⟨wl.heap.size, 0, none⟩) i i) := p1.cells.2.2.1
          have p2 := p1.next h2.2 (by intro e; injection e with e; omega) (by intro b e; injection e with e; omega)
          have HW2 := Lib.hid hw2; have HL2 := Lib.hid h2.1; have HP2 := Lib.hid p2
          clear h1 hl1 h2 hw2 p1 p2
          go_wp2
          go_roundw
          case rel =>
            refine ⟨j - 1, _, _, by go_num, by omega, by rw [List.length_set]; exact hws, by rw [List.length_set]; exact hls, HW2.out, HL2.out, Lib.hid (fun p h1 h2 => ?_), HP2.out⟩
            rw [getD_setE (by omega)]
            split
            · rename_i h; subst h; exact ⟨_, rfl, HNW.out⟩
            · exact HALL.out p (by omega) h2
          case measure => simp [intOf] <;> omega
        · have HNW := Lib.hid (HNI.out.2 ((Mg.beats_sw ks ds).asym _ _ hbb))
          clear hbb
          have h1 := HOx.out.stored j (.int .i64 b)
          rw [ints_set] at h1
          have hl1 := own_other HLx.out h1.2 (fun k hk e => by simp [Value.ownBlock] at hk; injection e with e; omega)
          have f1 := HOx.out.frozenAt j
          have f2 := hl1.frozenAt j
          have x1 := HOx.out.cellAt j (by omega)
          rw [ints_at (by omega)] at x1
          have x2 := hl1.cellAt j (by omega)
          rw [ints_at (by omega)] at x2
          have h2 := hl1.stored j (.int .i64 a)
          rw [ints_set] at h2
          have hw2 := own_other h1.1 h2.2 (fun k hk e => by simp [Value.ownBlock] at hk; injection e with e; omega)
          have p1 := HPx.out.next h1.2 (by intro e; injection e with e; omega) (by intro b e; injection e with e; omega)
          have hc2 : (w5.setCell ⟨w.heap.size, j, none⟩ (.int .i64 b)).cell? ⟨t, 2, none⟩ = some (.slice (some ⟨wl.heap.size, 0, none⟩) i i) := p1.cells.2.2.1
          have p2 := p1.next h2.2 (by intro e; injection e with e; omega) (by intro b e; injection e with e; omega)
          have HW2 := Lib.hid hw2; have HL2 := Lib.hid h2.1; have HP2 := Lib.hid p2
          clear h1 hl1 h2 hw2 p1 p2
          go_wp2
          go_roundw
          case rel =>
            refine ⟨j - 1, _, _, by go_num, by omega, by rw [List.length_set]; exact hws, by rw [List.length_set]; exact hls, HW2.out, HL2.out, Lib.hid (fun p h1 h2 => ?_), HP2.out⟩
            rw [getD_setE (by omega)]
            split
            · rename_i h; subst h; exact ⟨_, rfl, HNW.out⟩
            · exact HALL.out p (by omega) h2
          case measure => simp [intOf] <;> omega
      · obtain rfl : j = 0 := by omega
        have q2 : decide (1 ≤ ((0 : Nat) : Int)) = false := rfl
        obtain ⟨a, ha, na⟩ := HALL.out 1 (by omega) (by omega)
        have x1 := HO.out.cellAt 1 (by omega)
        rw [ints_at (by omega), ha] at x1
        have HWIN := Lib.hid (Mg.node_root na)
        obtain ⟨c0, c1, c2, c3⟩ := HPq.out.cells
        have hfz := HPq.out.row.frozenAt 3
        have HP5 := Lib.hid (HPq.out.wins (.int .i64 a))
        have hi1 : 1 < 2 * (i : Int) := by omega
        go_wp2
        go_end0
        exact ⟨rfl, a, _, rfl, HWIN.out, HP5.out⟩

end Go.Proofs.Ytkckmjajjdpodaa

/- General lemmas: lists of records behind a slice of slices, that can be read. -/
namespace Go.Proofs.Ytkckmjajjdpodaa
open Go.RowKit Go.Sort
set_option linter.unusedVariables false

/-- The header of one list of records. -/
def HdAt (w : World) (v : Value) (L : List (Int × Int)) : Prop := ∃ (x : Option Addr) (c : Nat), v = .slice x L.length c ∧ Rd w x L.length c L
theorem HdAt.same {w w' : World} {v : Value} {L : List (Int × Int)} (h : HdAt w v L) (hb : Below w.heap.size w w') : HdAt w' v L := by
  obtain ⟨x, c, e, h⟩ := h
  exact ⟨x, c, e, h.same hb⟩
theorem hdAt_rd {w : World} {x : Option Addr} {n c : Nat} {L : List (Int × Int)} (h : Rd w x n c L) : HdAt w (.slice x n c) L := by
  have e := h.len
  subst e
  exact ⟨x, c, rfl, h⟩

/-- Headers, each of its list. -/
def Hds (w : World) (hs : List Value) (Ls : List (List (Int × Int))) : Prop := hs.length = Ls.length ∧ ∀ (j : Nat) (v : Value) (L : List (Int × Int)), hs[j]? = some v → Ls[j]? = some L → HdAt w v L
theorem Hds.same {w w' : World} {hs : List Value} {Ls : List (List (Int × Int))} (h : Hds w hs Ls) (hb : Below w.heap.size w w') : Hds w' hs Ls := ⟨h.1, fun j v L h1 h2 => (h.2 j v L h1 h2).same hb⟩
theorem hds_nil (w : World) : Hds w [] [] := ⟨rfl, fun j v L h _ => by simp at h⟩
theorem Hds.snoc {w : World} {hs : List Value} {Ls : List (List (Int × Int))} {v : Value} {L : List (Int × Int)} (h : Hds w hs Ls) (hv : HdAt w v L) : Hds w (hs ++ [v]) (Ls ++ [L]) := by
  refine ⟨by simp [h.1], fun j u M h1 h2 => ?_⟩
  rcases Nat.lt_or_ge j hs.length with hj | hj
  · rw [List.getElem?_append_left hj] at h1
    rw [List.getElem?_append_left (by rw [← h.1]; exact hj)] at h2
    exact h.2 j u M h1 h2
  · rw [List.getElem?_append_right hj] at h1
    rw [List.getElem?_append_right (by rw [← h.1]; exact hj)] at h2
    obtain ⟨i, hi⟩ : ∃ i, j - hs.length = i := ⟨_, rfl⟩
    rw [← h.1] at h2
    rw [hi] at h1 h2
    cases i with
    | zero => simp at h1 h2; subst h1 h2; exact hv
    | succ i => simp at h1
theorem Hds.part {w : World} {hs : List Value} {Ls : List (List (Int × Int))} (h : Hds w hs Ls) (i m : Nat) : Hds w ((hs.drop i).take m) ((Ls.drop i).take m) := by
  refine ⟨by simp [h.1], fun j v L h1 h2 => ?_⟩
  rw [List.getElem?_take] at h1 h2
  split at h1
  · rename_i hj
    rw [if_pos hj] at h2
    rw [List.getElem?_drop] at h1 h2
    exact h.2 _ v L h1 h2
  · cases h1
theorem hds_one {w : World} {hs : List Value} {Ls : List (List (Int × Int))} (h : Hds w hs Ls) : ∀ u ∈ hs, u.oneCell' = true := by
  intro u hu
  obtain ⟨j, hj, rfl⟩ := List.getElem_of_mem hu
  have hjl : j < Ls.length := by rw [← h.1]; exact hj
  obtain ⟨x, c, e, _⟩ := h.2 j _ _ (List.getElem?_eq_getElem hj) (List.getElem?_eq_getElem hjl)
  rw [e]; rfl

/-- Lists of records behind a slice that can be read. -/
structure LsAt (w : World) (a : Option Addr) (n c : Nat) (Ls : List (List (Int × Int))) : Prop where
  hd : ∃ hs : List Value, ValsAt w a hs ∧ Hds w hs Ls
  len : Ls.length = n
  nil : NilOk a c
  cap : n ≤ c
theorem LsAt.same {w w' : World} {a : Option Addr} {n c : Nat} {Ls : List (List (Int × Int))} (h : LsAt w a n c Ls) (hb : Below w.heap.size w w') : LsAt w' a n c Ls := by
  obtain ⟨hs, h1, h2⟩ := h.hd
  exact ⟨⟨hs, h1.same hb, h2.same hb⟩, h.len, h.nil, h.cap⟩
/-- The cell of one header. -/
theorem LsAt.at {w : World} {a : Option Addr} {n c : Nat} {Ls : List (List (Int × Int))} (h : LsAt w a n c Ls) {k : Nat} (hk : k < n) :
    ∃ (b off : Nat) (x : Option Addr) (d : Nat), a = some ⟨b, off, none⟩ ∧ w.cell? ⟨b, off + k, none⟩ = some (.slice x (Ls.getD k []).length d) ∧ Rd w x (Ls.getD k []).length d (Ls.getD k []) := by
  obtain ⟨hs, h1, h2⟩ := h.hd
  have hl := h.len
  have hkl : k < hs.length := by rw [h2.1]; omega
  have hkL : k < Ls.length := by omega
  obtain ⟨b, off, e, hc⟩ := h1.at (List.getElem?_eq_getElem hkl)
  obtain ⟨x, d, e2, hr⟩ := h2.2 k _ _ (List.getElem?_eq_getElem hkl) (List.getElem?_eq_getElem hkL)
  have eg : Ls.getD k [] = Ls[k] := by rw [List.getD_eq_getElem?_getD, List.getElem?_eq_getElem hkL]; rfl
  rw [eg]
  rw [e2] at hc
  exact ⟨b, off, x, d, e, hc, hr⟩
theorem lsAt_own {w : World} {B : Nat} {e : TypeId} {a : Option Addr} {n c : Nat} {hs : List Value} {Ls : List (List (Int × Int))} (h : w.ownsRow B e 1 (.slice a n c) n hs) (hh : Hds w hs Ls) : LsAt w a n c Ls :=
  ⟨⟨hs, vals_own h, hh⟩, by rw [← hh.1, h.1]; omega, nilOk_own h, own_cap h⟩
theorem vals_part {w : World} {b off : Nat} {vs : List Value} (h : ValsAt w (some ⟨b, off, none⟩) vs) (i m : Nat) : ValsAt w (some ⟨b, off + i, none⟩) ((vs.drop i).take m) := by
  rcases h with rfl | ⟨b', off', e, hb, h2⟩
  · exact .inl (by simp)
  · injection e with e
    injection e with e1 e2
    subst e1 e2
    refine .inr ⟨b, off + i, rfl, hb, fun j v hj => ?_⟩
    rw [List.getElem?_take] at hj
    split at hj
    · rw [List.getElem?_drop] at hj
      rw [Nat.add_assoc]
      exact h2 _ v hj
    · cases hj
theorem LsAt.part {w : World} {b off n c : Nat} {Ls : List (List (Int × Int))} (h : LsAt w (some ⟨b, off, none⟩) n c Ls) (i m : Nat) (him : i + m ≤ n) : LsAt w (some ⟨b, off + i, none⟩) m (c - i) ((Ls.drop i).take m) := by
  obtain ⟨hs, h1, h2⟩ := h.hd
  have := h.len
  have := h.cap
  exact ⟨⟨_, vals_part h1 i m, h2.part i m⟩, by rw [List.length_take, List.length_drop]; omega, nilOk_some _ _, by omega⟩
theorem lsAt_addr {w : World} {a : Option Addr} {n c : Nat} {Ls : List (List (Int × Int))} (h : LsAt w a n c Ls) (hn : 0 < n) : ∃ b off, a = some ⟨b, off, none⟩ := by
  obtain ⟨b, off, x, d, e, _⟩ := h.at hn
  exact ⟨b, off, e⟩

end Go.Proofs.Ytkckmjajjdpodaa

/- General: records given back with a number and a Bool; drawn records; what is kept. -/
namespace Go.Proofs.Ytkckmjajjdpodaa
open Go.RowKit Go.Sort
set_option linter.unusedVariables false

/-- A list, a number and a Bool, given back. -/
def Rd3 (w : World) (out : List (Int × Int)) (k : Int) (ok : Bool) (e : Ending) (w' : World) : Prop :=
  ∃ (a : Option Addr) (n c : Nat), e = .returned (.tuple #[.slice a n c, .int .i64 k, .bool ok]) ∧ Rd w' a n c out ∧ Below w.heap.size w w'

theorem stAns_le (rs : List (Int × Int)) : (stAns rs).length ≤ rs.length := by
  unfold stAns; split
  · rw [srtR_len]; omega
  · simp
/-- A drawn list of records. -/
def RdDraw (w : World) (e : Ending) (w' : World) : Prop :=
  ∃ (a : Option Addr) (n c : Nat) (rs : List (Int × Int)), e = .returned (.slice a n c) ∧ Rd w' a n c rs ∧ n ≤ 70 ∧ Below w.heap.size w w'
theorem drawIV_any (ac : Option Addr) (c : Nat) (cs : List Int) (w : World) (hl : cs.length ≤ 65537) (h : BytesAt w ac cs) :
    Calls Try.prog 125 #[.slice ac cs.length c] w (RdDraw w) :=
  (drawIsValidRecords_any ac c cs w hl h).mono fun e w' ⟨a', c', rs, h1, h2, h3, h4⟩ => ⟨a', rs.length, c', rs, h1, rd_own h2, h3, h4⟩

theorem below_tr {B : Nat} {w w1 w2 : World} (h : Below B w w1) (hb : Below w1.heap.size w1 w2) (hB : B ≤ w1.heap.size) : Below B w w2 := h.trans (hb.mono hB)

theorem rd_lo {w : World} {a : Option Addr} {n c h : Nat} {rs : List (Int × Int)} (hr : Rd w a n c rs) (hh : h ≤ n) : Rd w a h c (rs.take h) :=
  ⟨recs_take hr.recs h, by rw [List.length_take, hr.len]; omega, hr.nil, by have := hr.cap; omega⟩
theorem rd_hi {w : World} {b o n c h : Nat} {rs : List (Int × Int)} (hr : Rd w (some ⟨b, o, none⟩) n c rs) (hh : h ≤ n) : Rd w (some ⟨b, o + h * 2, none⟩) (n - h) (c - h) (rs.drop h) :=
  ⟨recs_drop hr.recs h, by rw [List.length_drop, hr.len], nilOk_some _ _, by have := hr.cap; omega⟩

theorem own_cur {w w' : World} {B bc : Nat} {e : TypeId} {size n : Nat} {v : Value} {xs : List Value} (h : w.ownsRow B e size v n xs) (hB : bc < B) (hg : w.grownBy w' (some bc)) : w'.ownsRow B e size v n xs :=
  own_other h hg (fun k hk e => by injection e with e; have := (h.lt k hk).1; omega)

end Go.Proofs.Ytkckmjajjdpodaa
