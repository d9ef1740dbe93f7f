/- Several texts in one: lemmas and walks of the functions that the law reaches. -/
import Derived.Test.YtmgkdokaaoeobaaY1
import Derived.Test.YtmgkdokaaoeobaaY7
import Derived.BigRegion

namespace Go.Proofs.Ytmgkdokaaoeobaa
open Go.RowKit Go.Sort
set_option linter.unusedVariables false
/-- A function value that compares records by the order lt, where I holds; I passes on where block g alone is written. -/
def CmpIs (I : World → Prop) (g : Nat) (lt : Int × Int → Int × Int → Bool) (cv : Value) : Prop :=
  (∀ w w', I w → World.grownBy w w' (some g) → I w') ∧ ∃ G cp, cv = .func (.func G) #[] cp ∧ (∀ args w, (callFunc G args).run Try.prog w = .ok (.enter G args) w) ∧
    ∀ (r s : Int × Int) (w : World), I w → Calls Try.prog G (#[.agg #[.int .i64 r.1, .int .i64 r.2], .agg #[.int .i64 s.1, .int .i64 s.2]] ++ cp) w fun e w' => (∃ n : Int, e = .returned (.int .i64 n) ∧ (decide (n < 0) = lt r s)) ∧ Below w.heap.size w w'

end Go.Proofs.Ytmgkdokaaoeobaa

namespace Go.Proofs.Ytmgkdokaaoeobaa
open Go.RowKit Go.Sort
set_option linter.unusedVariables false

/-- Insertion into an ascending list, by any order. -/
theorem insL_start {lt : Int × Int → Int × Int → Bool} {zs : List (Int × Int)} {i : Nat} (hi : i < zs.length) : Mg.srt lt (zs.take i) ++ zs.drop i = Mg.insSt (Mg.srt lt (zs.take i)) (zs.getD i (0, 0)) i (zs.drop (i + 1)) := by
  have hl : (Mg.srt lt (zs.take i)).length = i := by rw [Mg.srt_length, List.length_take]; omega
  have h1 := Mg.insSt_top (Mg.srt lt (zs.take i)) (zs.getD i (0, 0)) (zs.drop (i + 1))
  rw [hl] at h1
  rw [h1, List.drop_eq_getElem_cons hi, List.getD_eq_getElem?_getD, List.getElem?_eq_getElem hi]
  rfl
theorem insL_end {lt : Int × Int → Int × Int → Bool} (S : Mg.SW lt) {l : List (Int × Int)} {x : Int × Int} {k : Nat} {R : List (Int × Int)} (hk : k ≤ l.length) (hd : ∀ b ∈ (Mg.srt lt l).drop k, lt x b = true) (hs : 0 < k → lt x ((Mg.srt lt l).getD (k - 1) (0, 0)) = false) : Mg.insSt (Mg.srt lt l) x k R = Mg.srt lt (l ++ [x]) ++ R := by
  have hl : (Mg.srt lt l).length = l.length := Mg.srt_length l
  refine Mg.insSt_srt S (lt := lt) (by omega) hd (fun h0 => ?_)
  have h1 := hs h0
  rw [List.getD_eq_getElem?_getD, List.getElem?_eq_getElem (by omega)] at h1
  exact h1
theorem srtL_start (lt : Int × Int → Int × Int → Bool) (zs : List (Int × Int)) : zs = Mg.srt lt (zs.take 1) ++ zs.drop 1 := by
  cases zs with
  | nil => rfl
  | cons a t => simp [Mg.srt_one]

theorem mid_at {α : Type} {pre L post : List α} {a k : Nat} {x : α} (ha : pre.length = a) (h : L[k]? = some x) : (pre ++ L ++ post)[a + k]? = some x := by
  have hk : k < L.length := (List.getElem?_eq_some_iff.1 h).1
  rw [List.append_assoc, List.getElem?_append_right (by omega), show a + k - pre.length = k by omega, List.getElem?_append_left hk]
  exact h
theorem mid_set {α : Type} {pre L post : List α} {a k : Nat} {x : α} (ha : pre.length = a) (hk : k < L.length) : (pre ++ L ++ post).set (a + k) x = pre ++ L.set k x ++ post := by
  rw [List.append_assoc, List.set_append, if_neg (by omega), show a + k - pre.length = k by omega, List.set_append, if_pos hk, List.append_assoc]

end Go.Proofs.Ytmgkdokaaoeobaa

namespace Go.Proofs.Ytmgkdokaaoeobaa
open Go.RowKit Go.Sort
set_option linter.unusedVariables false
abbrev blkR (lt : Int × Int → Int × Int → Bool) (s : Nat) (l : List (Int × Int)) : List (Int × Int) := Mg.blk lt s l

end Go.Proofs.Ytmgkdokaaoeobaa

namespace Go.Proofs.Ytmgkdokaaoeobaa
open Go.RowKit Go.Sort
set_option linter.unusedVariables false
theorem getD_get {l : List (Int × Int)} {i : Nat} (h : i < l.length) : l.getD i (0, 0) = l[i] := by
  rw [List.getD_eq_getElem?_getD, List.getElem?_eq_getElem h]; rfl

/-- The symmetric cut, as the loop leaves it. -/
theorem cut_of {lt : Int × Int → Int × Int → Bool} (S : Mg.SW lt) (L R : List (Int × Int)) (s h0 : Nat) (hL : Mg.Asc lt L) (hR : Mg.Asc lt R) (hs : s ≤ L.length) (hs2 : s ≤ h0) (he : h0 ≤ s + R.length)
    (h1 : 0 < s → h0 - s < R.length → lt (R.getD (h0 - s) (0, 0)) (L.getD (s - 1) (0, 0)) = false) (h2 : s < h0 → s < L.length → lt (R.getD (h0 - 1 - s) (0, 0)) (L.getD s (0, 0)) = true) :
    Mg.mrg lt L R = Mg.mrg lt (L.take s) (R.take (h0 - s)) ++ Mg.mrg lt (L.drop s) (R.drop (h0 - s)) := by
  refine Mg.mrg_cut S hL hR hs (by omega) (fun q1 q2 => ?_) (fun q1 q2 => ?_)
  · have := h1 q1 q2
    rw [getD_get q2, getD_get (by omega)] at this
    exact this
  · have := h2 (by omega) q2
    rw [getD_get (by omega), getD_get q2] at this
    have e : h0 - 1 - s = h0 - s - 1 := by omega
    simp only [e] at this
    exact this

end Go.Proofs.Ytmgkdokaaoeobaa

