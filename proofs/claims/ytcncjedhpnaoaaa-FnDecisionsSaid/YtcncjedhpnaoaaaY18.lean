/- Several texts in one: lemmas and walks of the functions that the law reaches. -/
import Derived.Test.YtcncjedhpnaoaaaY11
import Derived.Test.YtcncjedhpnaoaaaY12
import Derived.BigRegion

namespace Go.Proofs.Ytcncjedhpnaoaaa
open Go.RowKit Go.Sort
set_option linter.unusedVariables false
/-- A function value that compares records by the order lt, where I holds; I passes on where block g alone is written. -/
def CmpIs (I : World → Prop) (g : Nat) (lt : Int × Int → Int × Int → Bool) (cv : Value) : Prop :=
  (∀ w w', I w → World.grownBy w w' (some g) → I w') ∧ ∃ G cp, cv = .func (.func G) #[] cp ∧ (∀ args w, (callFunc G args).run Try.prog w = .ok (.enter G args) w) ∧
    ∀ (r s : Int × Int) (w : World), I w → Calls Try.prog G (#[.agg #[.int .i64 r.1, .int .i64 r.2], .agg #[.int .i64 s.1, .int .i64 s.2]] ++ cp) w fun e w' => (∃ n : Int, e = .returned (.int .i64 n) ∧ (decide (n < 0) = lt r s)) ∧ Below w.heap.size w w'

theorem cell_far {w : World} {g i j : Nat} {v : Value} (h : i ≠ j) : (w.setCell ⟨g, i, none⟩ v).cell? ⟨g, j, none⟩ = w.cell? ⟨g, j, none⟩ := World.cell?_setCell_other _ _ _ _ (fun e => h (by injection e))

end Go.Proofs.Ytcncjedhpnaoaaa

namespace Go.Proofs.Ytcncjedhpnaoaaa
open Go.RowKit Go.Sort
set_option linter.unusedVariables false

/-- Insertion into an ascending list, by any order. -/
theorem insL_start {lt : Int × Int → Int × Int → Bool} {zs : List (Int × Int)} {i : Nat} (hi : i < zs.length) : Mg.srt lt (zs.take i) ++ zs.drop i = Mg.insSt (Mg.srt lt (zs.take i)) (zs.getD i (0, 0)) i (zs.drop (i + 1)) := by
  have hl : (Mg.srt lt (zs.take i)).length = i := by rw [Mg.srt_length, List.length_take]; omega
  have h1 := Mg.insSt_top (Mg.srt lt (zs.take i)) (zs.getD i (0, 0)) (zs.drop (i + 1))
  rw [hl] at h1
  rw [h1, List.drop_eq_getElem_cons hi, List.getD_eq_getElem?_getD, List.getElem?_eq_getElem hi]
  rfl
theorem insL_end {lt : Int × Int → Int × Int → Bool} (S : Mg.SW lt) {l : List (Int × Int)} {x : Int × Int} {k : Nat} {R : List (Int × Int)} (hk : k ≤ l.length) (hd : ∀ b ∈ (Mg.srt lt l).drop k, lt x b = true) (hs : 0 < k → lt x ((Mg.srt lt l).getD (k - 1) (0, 0)) = false) : Mg.insSt (Mg.srt lt l) x k R = Mg.srt lt (l ++ [x]) ++ R := by
  have hl : (Mg.srt lt l).length = l.length := Mg.srt_length l
  refine Mg.insSt_srt S (lt := lt) (by omega) hd (fun h0 => ?_)
  have h1 := hs h0
  rw [List.getD_eq_getElem?_getD, List.getElem?_eq_getElem (by omega)] at h1
  exact h1
theorem srtL_start (lt : Int × Int → Int × Int → Bool) (zs : List (Int × Int)) : zs = Mg.srt lt (zs.take 1) ++ zs.drop 1 := by
  cases zs with
  | nil => rfl
  | cons a t => simp [Mg.srt_one]

theorem mid_at {α : Type} {pre L post : List α} {a k : Nat} {x : α} (ha : pre.length = a) (h : L[k]? = some x) : (pre ++ L ++ post)[a + k]? = some x := by
  have hk : k < L.length := (List.getElem?_eq_some_iff.1 h).1
  rw [List.append_assoc, List.getElem?_append_right (by omega), show a + k - pre.length = k by omega, List.getElem?_append_left hk]
  exact h
theorem mid_set {α : Type} {pre L post : List α} {a k : Nat} {x : α} (ha : pre.length = a) (hk : k < L.length) : (pre ++ L ++ post).set (a + k) x = pre ++ L.set k x ++ post := by
  rw [List.append_assoc, List.set_append, if_neg (by omega), show a + k - pre.length = k by omega, List.set_append, if_pos hk, List.append_assoc]

end Go.Proofs.Ytcncjedhpnaoaaa

namespace Go.Proofs.Ytcncjedhpnaoaaa
open Go.RowKit Go.Sort
set_option linter.unusedVariables false
abbrev blkR (lt : Int × Int → Int × Int → Bool) (s : Nat) (l : List (Int × Int)) : List (Int × Int) := Mg.blk lt s l

end Go.Proofs.Ytcncjedhpnaoaaa

namespace Go.Proofs.Ytcncjedhpnaoaaa
open Go.RowKit Go.Sort
set_option linter.unusedVariables false
theorem getD_get {l : List (Int × Int)} {i : Nat} (h : i < l.length) : l.getD i (0, 0) = l[i] := by
  rw [List.getD_eq_getElem?_getD, List.getElem?_eq_getElem h]; rfl

/-- The symmetric cut, as the loop leaves it. -/
theorem cut_of {lt : Int × Int → Int × Int → Bool} (S : Mg.SW lt) (L R : List (Int × Int)) (s h0 : Nat) (hL : Mg.Asc lt L) (hR : Mg.Asc lt R) (hs : s ≤ L.length) (hs2 : s ≤ h0) (he : h0 ≤ s + R.length)
    (h1 : 0 < s → h0 - s < R.length → lt (R.getD (h0 - s) (0, 0)) (L.getD (s - 1) (0, 0)) = false) (h2 : s < h0 → s < L.length → lt (R.getD (h0 - 1 - s) (0, 0)) (L.getD s (0, 0)) = true) :
    Mg.mrg lt L R = Mg.mrg lt (L.take s) (R.take (h0 - s)) ++ Mg.mrg lt (L.drop s) (R.drop (h0 - s)) := by
  refine Mg.mrg_cut S hL hR hs (by omega) (fun q1 q2 => ?_) (fun q1 q2 => ?_)
  · have := h1 q1 q2
    rw [getD_get q2, getD_get (by omega)] at this
    exact this
  · have := h2 (by omega) q2
    rw [getD_get (by omega), getD_get q2] at this
    have e : h0 - 1 - s = h0 - s - 1 := by omega
    simp only [e] at this
    exact this

end Go.Proofs.Ytcncjedhpnaoaaa

namespace Go.Proofs.Ytcncjedhpnaoaaa
open Go.RowKit Go.Sort
set_option linter.unusedVariables false

/-- An int's cells. -/
def II.encI (x : Int) : List Value := [.int .i64 x]
theorem II.flat_map (l : List Int) : flat II.encI l = l.map (Value.int .i64) := by
  unfold flat II.encI
  induction l with
  | nil => rfl
  | cons a t ih => simp [List.flatMap_cons]; exact ih
theorem II.flat_set1 (l : List Int) (k : Nat) (x : Int) : (flat II.encI l).set k (.int .i64 x) = flat II.encI (l.set k x) := by
  rw [II.flat_map, II.flat_map, List.map_set]
theorem II.rec_cells {w : World} {base g n cap k : Nat} {e : TypeId} {d : List Int} {r : Int} (h : w.ownsRow base e 1 (.slice (some ⟨g, 0, none⟩) n cap) n (flat II.encI d)) (hk : d[k]? = some r) : w.cell? ⟨g, k, none⟩ = some (.int .i64 r) := by
  rw [II.flat_map] at h
  obtain ⟨g', e, hc, _⟩ := own_at h (i := k) (x := .int .i64 r) (by rw [List.getElem?_map, hk]; rfl)
  injection e with e
  injection e with e _
  subst e
  exact hc
theorem II.insR_at {A R : List Int} {x : Int} {m : Nat} (hm : m < A.length) : (Mg.insSt A x (m + 1) R)[m]? = some (A.getD m 0) ∧ (Mg.insSt A x (m + 1) R)[m + 1]? = some x := by
  refine ⟨?_, Mg.insSt_at (by omega)⟩
  rw [Mg.insSt_before hm, List.getD_eq_getElem?_getD, List.getElem?_eq_getElem hm]; rfl
theorem II.insR_stepD {A R : List Int} {x y : Int} {m : Nat} (hm : m < A.length) (hy : A.getD m 0 = y) : ((Mg.insSt A x (m + 1) R).set m x).set (m + 1) y = Mg.insSt A x m R := by
  have e1 : A[m] = y := by rw [← hy, List.getD_eq_getElem?_getD, List.getElem?_eq_getElem hm]; rfl
  rw [← e1]; exact Mg.insSt_step hm
theorem II.getD_memI {l : List Int} {i : Nat} (h : i < l.length) : l.getD i 0 ∈ l := by
  rw [List.getD_eq_getElem?_getD, List.getElem?_eq_getElem h]; exact List.getElem_mem h
theorem II.take_snocR {zs : List Int} {i : Nat} (hi : i < zs.length) : zs.take i ++ [zs.getD i 0] = zs.take (i + 1) := by
  rw [List.take_add_one, List.getElem?_eq_getElem hi, List.getD_eq_getElem?_getD, List.getElem?_eq_getElem hi]
  rfl
end Go.Proofs.Ytcncjedhpnaoaaa
namespace Go.Proofs.Ytcncjedhpnaoaaa.II
open Go.RowKit Go.Sort
set_option linter.unusedVariables false

/-- A function value that compares ints by the order lt, where I holds; I passes on where block g alone is written. -/
def CmpIs (D : Int → Prop) (I : World → Prop) (g : Nat) (lt : Int → Int → Bool) (cv : Value) : Prop :=
  (∀ w w', I w → World.grownBy w w' (some g) → I w') ∧ ∃ G cp, cv = .func (.func G) #[] cp ∧ (∀ args w, (callFunc G args).run Try.prog w = .ok (.enter G args) w) ∧
    ∀ (r s : Int) (w : World), D r → D s → I w → Calls Try.prog G (#[.int .i64 r, .int .i64 s] ++ cp) w fun e w' => (∃ n : Int, e = .returned (.int .i64 n) ∧ (decide (n < 0) = lt r s)) ∧ Below w.heap.size w w'

set_option maxRecDepth 100000 in
set_option maxHeartbeats 4000000 in
theorem swapRange_any (B0 g c n : Nat) (pre A M B post : List (Int)) (m a b : Nat) (cv : Value) (w : World) (hA : A.length = m) (hB : B.length = m) (ha : pre.length = a) (hb : a + m + M.length = b) (hn : (pre ++ A ++ M ++ B ++ post).length = n) (hn2 : n ≤ 1000)
    (h : w.ownsRow B0 3 1 (.slice (some ⟨g, 0, none⟩) n c) n (flat encI (pre ++ A ++ M ++ B ++ post))) :
    Calls Try.prog 79 #[.slice (some ⟨g, 0, none⟩) n c, .int .i64 a, .int .i64 b, .int .i64 m, cv] w fun e w' => e = .returned (.tuple #[]) ∧
      w'.ownsRow B0 3 1 (.slice (some ⟨g, 0, none⟩) n c) n (flat encI (pre ++ B ++ M ++ A ++ post)) ∧ w.grownBy w' (some g) := by
  rw [← Mg.swSt_zero] at h
  have HE := Lib.hid (Mg.swSt_end (pre := pre) (M := M) (post := post) hA hB)
  have HO := Lib.hid h
  have hlen : a + m + M.length + m + post.length = n := by rw [← hn]; simp only [List.length_append]; omega
  have HLL : Hid (∀ k, k ≤ m → (Mg.swSt pre A M B post k).length = n) := fun k hk => by
    unfold Mg.swSt
    simp only [List.length_append, List.length_take, List.length_drop]
    omega
  have HSP := Lib.hid (fun k (h1 : k < A.length) (h2 : k < B.length) => Mg.swSt_step (pre := pre) (M := M) (post := post) h1 h2 ha (by omega : a + A.length + M.length = b))
  clear h hn
  go_enter Try.func79, Try.ntmps79
  go_wp2
  go_loopw [10] (fun v wr => ∃ k : Nat, v = .int .i64 k ∧ k ≤ m ∧ wr.ownsRow B0 3 1 (.slice (some ⟨g, 0, none⟩) n c) n (flat encI (Mg.swSt pre A M B post k)) ∧ w.grownBy wr (some g)) (fun v _ => m - (intOf v).toNat)
  case atStart => exact ⟨0, rfl, by omega, HO.out, grown_of_below (Below.refl w.heap.size w)⟩
  case round =>
    obtain ⟨k, rfl, hk, ho, hg⟩ := hrel
    have HO2 := Lib.hid ho; have HG2 := Lib.hid hg
    clear ho hg HO
    by_cases hlt : k < m
    case neg =>
      obtain rfl : k = m := by omega
      rw [HE.out] at HO2
      go_wp2
      go_end0
      exact ⟨rfl, HO2.out, HG2.out⟩
    obtain ⟨q1, q2, hs⟩ := HSP.out k (by omega) (by omega)
    have HS := Lib.hid hs; clear hs
    have c1 := rec_cells HO2.out q1
    have c2 := rec_cells HO2.out q2
    have HL1 := Lib.hid (HLL.out k hk)
    generalize A[k] = X at c1  HS
    generalize B[k] = Y at c2  HS
    generalize Mg.swSt pre A M B post k = rs at HO2 HL1 HS
    generalize hN : Mg.swSt pre A M B post (k + 1) = rs' at HS
    have HN := Lib.hid hN
    clear hN q1 q2 HSP HLL HE
    have t1 : ((a : Int) + (k : Int)).toNat = a + k := by omega
    have t2 : ((b : Int) + (k : Int)).toNat = b + k := by omega
    have b1 : (0 : Int) ≤ (a : Int) + (k : Int) := by omega
    have b2 : (a : Int) + (k : Int) < (n : Int) := by omega
    have b3 : (0 : Int) ≤ (b : Int) + (k : Int) := by omega
    have b4 : (b : Int) + (k : Int) < (n : Int) := by omega
    have w1 : IntKind.i64.wrap ((a : Int) + (k : Int)) = (a : Int) + (k : Int) := IntWalk.i64_in _ (by omega)
    have w2 : IntKind.i64.wrap ((b : Int) + (k : Int)) = (b : Int) + (k : Int) := IntWalk.i64_in _ (by omega)
    have p1 : a + k < n := by omega
    have p2 : b + k < n := by omega
    have HO3 : Hid (wr.drew.ownsRow B0 3 1 (.slice (some ⟨g, 0, none⟩) n c) n (flat encI rs)) := HO2.out
    have d1 : wr.drew.cell? ⟨g, (a + k), none⟩ = some (.int .i64 X) := c1
    have d2 : wr.drew.cell? ⟨g, (b + k), none⟩ = some (.int .i64 Y) := c2
    clear c1  c2 
    go_wp2_with fail
    have rf : ∀ o, wr.drew.frozen? ⟨g, o, none⟩ = false := fun o => HO3.out.frozenAt o
    have o1 := HO2.out.stored (a + k) (.int .i64 Y)
    have o2 := o1.1.stored (b + k) (.int .i64 X)
    have i1 : (wr.setCell ⟨g, a + k, none⟩ (.int .i64 Y)).drew.cell? ⟨g, b + k, none⟩ = some (.int .i64 Y) := (cell_far (by omega)).trans d2
    have f1 : ∀ o, (wr.setCell ⟨g, a + k, none⟩ (.int .i64 Y)).drew.frozen? ⟨g, o, none⟩ = false := fun o => o1.1.frozenAt o
    have h4 := o2.1
    rw [flat_set1, flat_set1, HS.out] at h4
    have HO9 := Lib.hid h4
    have HG9 := Lib.hid (grown_trans HG2.out (grown_trans o1.2 o2.2))
    clear o1 o2 h4
    go_region_law (fail)
    all_goals
      rw [← HN.out] at HO9
      generalize (wr.setCell ⟨g, a + k, none⟩ (.int .i64 Y)).setCell ⟨g, b + k, none⟩ (.int .i64 X) = w9 at HO9 HG9 ⊢
      clear i1 f1 rf d1  d2  HO3 HO2 t1 t2
      go_wp2
      go_roundw
      case rel => exact ⟨k + 1, by go_num, by omega, HO9.out, grown_trans HG9.out (grown_of_below (Below.refl w9.heap.size w9).drew)⟩
      case measure => simp [intOf] <;> omega

end Go.Proofs.Ytcncjedhpnaoaaa.II

namespace Go.Proofs.Ytcncjedhpnaoaaa.II
open Go.RowKit Go.Sort
set_option linter.unusedVariables false

/-- Insertion into an ascending list, by any order. -/
theorem insL_start {lt : Int → Int → Bool} {zs : List (Int)} {i : Nat} (hi : i < zs.length) : Mg.srt lt (zs.take i) ++ zs.drop i = Mg.insSt (Mg.srt lt (zs.take i)) (zs.getD i 0) i (zs.drop (i + 1)) := by
  have hl : (Mg.srt lt (zs.take i)).length = i := by rw [Mg.srt_length, List.length_take]; omega
  have h1 := Mg.insSt_top (Mg.srt lt (zs.take i)) (zs.getD i 0) (zs.drop (i + 1))
  rw [hl] at h1
  rw [h1, List.drop_eq_getElem_cons hi, List.getD_eq_getElem?_getD, List.getElem?_eq_getElem hi]
  rfl
theorem insL_end {lt : Int → Int → Bool} (S : Mg.SW lt) {l : List (Int)} {x : Int} {k : Nat} {R : List (Int)} (hk : k ≤ l.length) (hd : ∀ b ∈ (Mg.srt lt l).drop k, lt x b = true) (hs : 0 < k → lt x ((Mg.srt lt l).getD (k - 1) 0) = false) : Mg.insSt (Mg.srt lt l) x k R = Mg.srt lt (l ++ [x]) ++ R := by
  have hl : (Mg.srt lt l).length = l.length := Mg.srt_length l
  refine Mg.insSt_srt S (lt := lt) (by omega) hd (fun h0 => ?_)
  have h1 := hs h0
  rw [List.getD_eq_getElem?_getD, List.getElem?_eq_getElem (by omega)] at h1
  exact h1
theorem srtL_start (lt : Int → Int → Bool) (zs : List (Int)) : zs = Mg.srt lt (zs.take 1) ++ zs.drop 1 := by
  cases zs with
  | nil => rfl
  | cons a t => simp [Mg.srt_one]

theorem mid_at {α : Type} {pre L post : List α} {a k : Nat} {x : α} (ha : pre.length = a) (h : L[k]? = some x) : (pre ++ L ++ post)[a + k]? = some x := by
  have hk : k < L.length := (List.getElem?_eq_some_iff.1 h).1
  rw [List.append_assoc, List.getElem?_append_right (by omega), show a + k - pre.length = k by omega, List.getElem?_append_left hk]
  exact h
theorem mid_set {α : Type} {pre L post : List α} {a k : Nat} {x : α} (ha : pre.length = a) (hk : k < L.length) : (pre ++ L ++ post).set (a + k) x = pre ++ L.set k x ++ post := by
  rw [List.append_assoc, List.set_append, if_neg (by omega), show a + k - pre.length = k by omega, List.set_append, if_pos hk, List.append_assoc]

set_option maxRecDepth 100000 in
set_option maxHeartbeats 8000000 in
theorem insertionSort_any {D : Int → Prop} {I : World → Prop} {lt : Int → Int → Bool} (S : Mg.SW lt) {cv : Value} (B0 g c n : Nat) (pre L post : List (Int)) (a b : Nat) (w : World) (ha : pre.length = a) (hb : a + L.length = b) (hn : (pre ++ L ++ post).length = n) (hn2 : n ≤ 1000) (hD : ∀ x ∈ L, D x) (hI : I w) (HCV : CmpIs D I g lt cv)
    (h : w.ownsRow B0 3 1 (.slice (some ⟨g, 0, none⟩) n c) n (flat encI (pre ++ L ++ post))) :
    Calls Try.prog 70 #[.slice (some ⟨g, 0, none⟩) n c, .int .i64 a, .int .i64 b, cv] w fun e w' => e = .returned (.tuple #[]) ∧
      w'.ownsRow B0 3 1 (.slice (some ⟨g, 0, none⟩) n c) n (flat encI (pre ++ Mg.srt lt L ++ post)) ∧ w.grownBy w' (some g) := by
  have HS0 := Lib.hid (srtL_start lt L)
  have HDD := Lib.hid hD
  clear hD
  have HO := Lib.hid h
  have hbn : b + post.length = n := by rw [← hn]; simp only [List.length_append]; omega
  clear h hn
  have HLEN := Lib.hid ha
  obtain ⟨hIg, G, cp, rfl, hcall, hcmp⟩ := HCV
  have HCM := Lib.hid hcmp; have HIG := Lib.hid (fun w' => hIg w w' hI)
  clear hcmp hIg
  go_enter Try.func70, Try.ntmps70
  go_wp2
  go_loopw [8] (fun v wr => ∃ i : Nat, v = .int .i64 ((a : Int) + (i : Int)) ∧ 1 ≤ i ∧ (i ≤ L.length ∨ i = 1) ∧ wr.ownsRow B0 3 1 (.slice (some ⟨g, 0, none⟩) n c) n (flat encI (pre ++ (Mg.srt lt (L.take i) ++ L.drop i) ++ post)) ∧ w.grownBy wr (some g)) (fun v _ => a + L.length + 1 - (intOf v).toNat)
  case atStart => exact ⟨1, by go_num, by omega, .inr rfl, by rw [← HS0.out]; exact HO.out, grown_of_below (Below.refl w.heap.size w)⟩
  case round =>
    obtain ⟨i, rfl, hi1, hi2, hown, hg⟩ := hrel
    have HO2 := Lib.hid hown; have HG2 := Lib.hid hg
    clear hown hg HO
    by_cases hlt : i < L.length
    case neg =>
      have HO3 := Lib.hid (show wr.ownsRow B0 3 1 (.slice (some ⟨g, 0, none⟩) n c) n (flat encI (pre ++ Mg.srt lt L ++ post)) from by
        have := HO2.out
        rw [List.take_of_length_le (by omega), List.drop_of_length_le (by omega), List.append_nil] at this
        exact this)
      have h3 : decide ((a : Int) + (i : Int) < (b : Int)) = false := decide_eq_false (by omega)
      go_wp2
      go_end0
      exact ⟨rfl, HO3.out, HG2.out⟩
    have HI0 := Lib.hid (insL_start (lt := lt) hlt)
    have HAL : Hid ((Mg.srt lt (L.take i)).length = i) := by show _ = _; rw [Mg.srt_length, List.length_take]; omega
    have HEND := Lib.hid (fun (k : Nat) (hk : k ≤ i) (hd : ∀ b ∈ (Mg.srt lt (L.take i)).drop k, lt (L.getD i 0) b = true) (hs : 0 < k → lt (L.getD i 0) ((Mg.srt lt (L.take i)).getD (k - 1) 0) = false) =>
      (insL_end S (R := L.drop (i + 1)) (by rw [List.length_take]; omega) hd hs).trans (by rw [take_snocR hlt]))
    rw [HI0.out] at HO2
    clear HI0
    have HDA : Hid (∀ y ∈ Mg.srt lt (L.take i), D y) := fun y hy => HDD.out y (List.mem_of_mem_take (Mg.srt_mem.1 hy))
    have HDX : Hid (D (L.getD i 0)) := HDD.out _ (getD_memI hlt)
    generalize Mg.srt lt (L.take i) = A at HO2 HAL HEND HDA
    generalize L.getD i 0 = X at HO2 HEND HDX
    have HRL : Hid (∀ k, k ≤ i → (Mg.insSt A X k (L.drop (i + 1))).length = L.length) := fun k hk => by
      rw [Mg.insSt_len (by rw [HAL.out]; exact hk), HAL.out, List.length_drop]; omega
    generalize hR : L.drop (i + 1) = R at HO2 HEND HRL
    have HR := Lib.hid hR; clear hR
    have h3 : decide ((a : Int) + (i : Int) < (b : Int)) = true := decide_eq_true (by omega)
    have hile : (a : Int) + (i : Int) + 1 ≤ 9223372036854775807 := by omega
    obtain ⟨wo, rfl⟩ : ∃ wo : World, wo = wr := ⟨_, rfl⟩
    go_wp2
    go_loopw [9] (fun v wq => ∃ k : Nat, v = .int .i64 ((a : Int) + (k : Int)) ∧ k ≤ i ∧ wq.ownsRow B0 3 1 (.slice (some ⟨g, 0, none⟩) n c) n (flat encI (pre ++ Mg.insSt A X k R ++ post)) ∧ (∀ b ∈ A.drop k, lt X b = true) ∧ w.grownBy wq (some g)) (fun v _ => (intOf v).toNat)
    case atStart => exact ⟨i, rfl, by omega, HO2.out, by rw [List.drop_of_length_le (by rw [HAL.out]; omega)]; simp, HG2.out⟩
    case round =>
      obtain ⟨k, rfl, hk, ho, hd, hg⟩ := hrel
      have HO4 := Lib.hid ho; have HG4 := Lib.hid hg; have HD := Lib.hid hd
      clear ho hg hd HO2 HG2
      by_cases hk0 : 0 < k
      case neg =>
        obtain rfl : k = 0 := by omega
        have HE := Lib.hid (HEND.out 0 (by omega) HD.out (fun h => absurd h (by omega)))
        rw [HE.out] at HO4
        have h4 : decide ((a : Int) < (a : Int) + ((0 : Nat) : Int)) = false := decide_eq_false (by omega)
        rw [show (a : Int) + ((0 : Nat) : Int) = (a : Int) by omega]
        go_wp2_with fail
        go_quiet (fail)
        go_wp2
        go_roundw
        case rel => exact ⟨i + 1, by go_num, by omega, by omega, by rw [HR.out]; exact HO4.out, grown_trans HG4.out (grown_of_below (below_drewN (Below.refl _ _) _))⟩
        case measure => simp [intOf] <;> omega
      obtain ⟨m, rfl⟩ : ∃ m, k = m + 1 := ⟨k - 1, by omega⟩
      have hm : m < A.length := by rw [HAL.out]; omega
      obtain ⟨q1, q2⟩ := insR_at (R := R) (x := X) hm
      have c1 := rec_cells HO4.out (mid_at (post := post) ha q1)
      have c2 := rec_cells HO4.out (mid_at (post := post) ha q2)
      have HDR : Hid (A.drop m = A.getD m 0 :: A.drop (m + 1)) := by
        show _ = _
        rw [List.drop_eq_getElem_cons hm, List.getD_eq_getElem?_getD, List.getElem?_eq_getElem hm]; rfl
      have HST := Lib.hid (fun (y : Int) (hy : A.getD m 0 = y) => insR_stepD (R := R) (x := X) hm hy)
      have HE1 := Lib.hid (fun hs => HEND.out (m + 1) hk HD.out hs)
      have HL1 := Lib.hid (HRL.out (m + 1) hk)
      obtain ⟨Y, hY⟩ : ∃ Y, A.getD m 0 = Y := ⟨_, rfl⟩
      rw [hY] at c1  HDR
      have HY := Lib.hid hY
      have HDY : Hid (D Y) := by show D Y; rw [← hY]; exact HDA.out _ (getD_memI hm)
      clear hY hm q1 q2
      have HCK := Lib.hid (fun W hW => HCM.out X Y W HDX.out HDY.out (HIG.out W hW))
      have hcall := hcall (#[.int .i64 X, .int .i64 Y] ++ cp)
      have hcast : (a : Int) + ((m + 1 : Nat) : Int) = (a : Int) + (m : Int) + 1 := by omega
      have t0 : ((a : Int) + (m : Int)).toNat = a + m := by omega
      have t1 : ((a : Int) + (m : Int) + 1).toNat = a + (m + 1) := by omega
      have b0 : (0 : Int) ≤ (a : Int) + (m : Int) := by omega
      have b1 : (a : Int) + (m : Int) < (n : Int) := by omega
      have b2 : (a : Int) + (m : Int) + 1 < (n : Int) := by omega
      have b3 : (0 : Int) ≤ (a : Int) + (m : Int) + 1 := by omega
      have w1 : IntKind.i64.wrap ((a : Int) + (m : Int)) = (a : Int) + (m : Int) := IntWalk.i64_in _ (by omega)
      have h5 : decide ((a : Int) < (a : Int) + (m : Int) + 1) = true := decide_eq_true (by omega)
      rw [hcast]
      go_wp2_with fail
      go_still_tail 14, (by kernel_rfl)
      go_wp2_with fail
      refine (HCK.out _ (grown_trans HG4.out (grown_of_below (Below.refl _ _).drew))).mono ?_
      rintro e w5 ⟨⟨nn, rfl, hnn⟩, hbc⟩
      have hbw : Below wr.heap.size wr w5 := (Below.refl _ _).drew.trans hbc
      have HO5 := Lib.hid (own_below HO4.out (Nat.le_refl _) hbw)
      have HG5 := Lib.hid (grown_trans HG4.out (grown_of_below hbw))
      clear hbc hbw HO4 HG4 HCK c1  c2 
      cases hyx : lt X Y
      · have hz : decide (nn < 0) = false := by rw [hnn]; exact hyx
        have HE := Lib.hid (HE1.out (fun _ => by rw [Nat.add_sub_cancel, HY.out]; exact hyx))
        rw [HE.out] at HO5
        clear hnn
        go_wp2
        go_roundw
        case rel => exact ⟨i + 1, by go_num, by omega, by omega, by rw [HR.out]; exact HO5.out, HG5.out⟩
        case measure => simp [intOf] <;> omega
      · have hz : decide (nn < 0) = true := by rw [hnn]; exact hyx
        have HYX := Lib.hid hyx
        clear hnn hyx
        have hml : m + 1 < (Mg.insSt A X (m + 1) R).length := by rw [HL1.out]; omega
        have hq1 : (pre ++ Mg.insSt A X (m + 1) R ++ post).length = n := by simp only [List.length_append]; rw [HL1.out]; omega
        have hmA : m < A.length := by rw [HAL.out]; omega
        have hrs : ((pre ++ Mg.insSt A X (m + 1) R ++ post).set (a + (m + 1)) Y).set (a + m) X = pre ++ Mg.insSt A X m R ++ post := by
          rw [mid_set ha hml, mid_set ha (by rw [List.length_set]; omega), List.set_comm _ _ (by omega), HST.out _ HY.out]
        obtain ⟨g1, g2⟩ := insR_at (R := R) (x := X) hmA
        rw [HY.out] at g1
        have d1 := rec_cells HO5.out (mid_at (post := post) ha g1)
        have d2 := rec_cells HO5.out (mid_at (post := post) ha g2)
        have d1 : w5.drew.cell? ⟨g, (a + m), none⟩ = some (.int .i64 Y) := d1
        have d2 : w5.drew.cell? ⟨g, (a + (m + 1)), none⟩ = some (.int .i64 X) := d2
        have rf : ∀ o, w5.drew.frozen? ⟨g, o, none⟩ = false := fun o => HO5.out.frozenAt o
        have o1 := HO5.out.stored (a + (m + 1)) (.int .i64 Y)
        have o2 := o1.1.stored (a + m) (.int .i64 X)
        have i1 : (w5.setCell ⟨g, a + (m + 1), none⟩ (.int .i64 Y)).drew.cell? ⟨g, a + m, none⟩ = some (.int .i64 Y) := (cell_far (by omega)).trans d1
        have f1 : ∀ o, (w5.setCell ⟨g, a + (m + 1), none⟩ (.int .i64 Y)).drew.frozen? ⟨g, o, none⟩ = false := fun o => o1.1.frozenAt o
        have h4 := o2.1
        rw [flat_set1, flat_set1, hrs] at h4
        have HO9 := Lib.hid h4
        have HG9 := Lib.hid (grown_trans HG5.out (grown_trans o1.2 o2.2))
        clear o1 o2 h4 hrs hml hq1 hmA g1 g2 HST HE1 HEND HL1
        go_wp2_with fail
        go_region_law (fail)
        all_goals
          generalize (w5.setCell ⟨g, a + (m + 1), none⟩ (.int .i64 Y)).setCell ⟨g, a + m, none⟩ (.int .i64 X) = w9 at HO9 HG9 ⊢
          clear i1 f1 rf d1  d2  HO5
          go_wp2
          go_roundw
          case rel => exact ⟨m, by go_num, by omega, HO9.out, by
            rw [HDR.out]
            intro b hb
            rcases List.mem_cons.1 hb with rfl | hb
            · exact HYX.out
            · exact HD.out b hb, grown_trans HG9.out (grown_of_below (Below.refl w9.heap.size w9).drew)⟩
          case measure => simp [intOf] <;> omega

end Go.Proofs.Ytcncjedhpnaoaaa.II

namespace Go.Proofs.Ytcncjedhpnaoaaa.II
open Go.RowKit Go.Sort
set_option linter.unusedVariables false

/-- What the symmetric merge does. -/
def SymOk (D : Int → Prop) (I : World → Prop) (g : Nat) (lt : Int → Int → Bool) (cv : Value) : Prop :=
  ∀ (B0 c n : Nat) (pre L R post rs : List (Int)) (x y z : Int) (w : World), rs = pre ++ L ++ R ++ post → x = (pre.length : Nat) → y = ((pre.length + L.length : Nat) : Int) → z = ((pre.length + L.length + R.length : Nat) : Int) → 0 < L.length → 0 < R.length →
    Mg.Asc lt L → Mg.Asc lt R → (∀ x ∈ L, D x) → (∀ x ∈ R, D x) → rs.length = n → n ≤ 1000 → I w → w.ownsRow B0 3 1 (.slice (some ⟨g, 0, none⟩) n c) n (flat encI rs) →
    Calls Try.prog 71 #[.slice (some ⟨g, 0, none⟩) n c, .int .i64 x, .int .i64 y, .int .i64 z, cv] w fun e w' => e = .returned (.tuple #[]) ∧
      w'.ownsRow B0 3 1 (.slice (some ⟨g, 0, none⟩) n c) n (flat encI (pre ++ Mg.mrg lt L R ++ post)) ∧ w.grownBy w' (some g)

/-- Insertion, its numbers as they come. -/
theorem insertionSort_int {D : Int → Prop} {I : World → Prop} {lt : Int → Int → Bool} (S : Mg.SW lt) {cv : Value} (B0 g c n : Nat) (pre L post rs : List (Int)) (x y : Int) (w : World) (hrs : rs = pre ++ L ++ post) (hx : x = (pre.length : Nat)) (hy : y = ((pre.length + L.length : Nat) : Int)) (hn : rs.length = n) (hn2 : n ≤ 1000) (hD : ∀ x ∈ L, D x) (hI : I w) (HCV : CmpIs D I g lt cv)
    (h : w.ownsRow B0 3 1 (.slice (some ⟨g, 0, none⟩) n c) n (flat encI rs)) :
    Calls Try.prog 70 #[.slice (some ⟨g, 0, none⟩) n c, .int .i64 x, .int .i64 y, cv] w fun e w' => e = .returned (.tuple #[]) ∧
      w'.ownsRow B0 3 1 (.slice (some ⟨g, 0, none⟩) n c) n (flat encI (pre ++ Mg.srt lt L ++ post)) ∧ w.grownBy w' (some g) := by
  subst hx hy hrs
  exact insertionSort_any S B0 g c n pre L post _ _ w rfl rfl hn hn2 hD hI HCV h

abbrev blkR (lt : Int → Int → Bool) (s : Nat) (l : List (Int)) : List (Int) := Mg.blk lt s l

theorem bl_mem {lt : Int → Int → Bool} {s : Nat} : ∀ (f : Nat) (l : List Int) (y : Int), y ∈ Mg.bl lt s f l ↔ y ∈ l
  | 0, _, _ => Iff.rfl
  | f + 1, l, y => by
    unfold Mg.bl
    split
    · exact Mg.srt_mem
    · rw [List.mem_append, Mg.srt_mem, bl_mem f, ← List.mem_append, List.take_append_drop]
/-- What is left of a list whose blocks are being sorted. -/
theorem dom_rest {lt : Int → Int → Bool} {D : Int → Prop} {s : Nat} {d r L : List Int} (h : d ++ blkR lt s r = blkR lt s L) (hD : ∀ x ∈ L, D x) : ∀ x ∈ r, D x := fun x hx =>
  hD x ((bl_mem _ L x).1 (show x ∈ blkR lt s L from h ▸ List.mem_append_right d ((bl_mem _ r x).2 hx)))

set_option maxRecDepth 100000 in
set_option maxHeartbeats 8000000 in
theorem stableCmp_any {D : Int → Prop} {I : World → Prop} {lt : Int → Int → Bool} (S : Mg.SW lt) {cv : Value} (B0 g c n : Nat) (L : List (Int)) (w : World) (hn : L.length = n) (hn2 : n ≤ 1000) (hD : ∀ x ∈ L, D x) (hI : I w) (HCV : CmpIs D I g lt cv) (HS : SymOk D I g lt cv)
    (h : w.ownsRow B0 3 1 (.slice (some ⟨g, 0, none⟩) n c) n (flat encI L)) :
    Calls Try.prog 55 #[.slice (some ⟨g, 0, none⟩) n c, .int .i64 n, cv] w fun e w' => e = .returned (.tuple #[]) ∧
      w'.ownsRow B0 3 1 (.slice (some ⟨g, 0, none⟩) n c) n (flat encI (Mg.srt lt L)) ∧ w.grownBy w' (some g) := by
  have HO := Lib.hid h; have HN := Lib.hid hn
  have HSY : Hid (SymOk D I g lt cv) := HS
  have HIG := Lib.hid (fun w' => HCV.1 w w' hI)
  have HCW := Lib.hid HCV
  have HDD := Lib.hid hD
  clear h hn HS HCV hD
  go_enter Try.func55, Try.ntmps55
  go_wp2
  go_loopw [7, 8] (fun x y wr => ∃ (d r : List (Int)) (a : Nat), x = .int .i64 a ∧ y = .int .i64 ((a : Int) + 20) ∧ d.length = a ∧ a + r.length = n ∧ Hid (d ++ blkR lt 20 r = blkR lt 20 L) ∧ wr.ownsRow B0 3 1 (.slice (some ⟨g, 0, none⟩) n c) n (flat encI (d ++ r)) ∧ w.grownBy wr (some g)) (fun x _ _ => n - (intOf x).toNat)
  case atStart => exact ⟨[], L, 0, rfl, by go_num, rfl, by have := HN.out; omega, Lib.hid rfl, HO.out, grown_of_below (Below.refl w.heap.size w)⟩
  case round =>
    obtain ⟨d, r, a, rfl, rfl, hd, hr, HT, hown, hg⟩ := hrel
    have HO2 := Lib.hid hown; have HG2 := Lib.hid hg; have HD := Lib.hid hd
    have HLN : Hid ((d ++ r).length = n) := by show _ = _; rw [List.length_append]; omega
    clear hown hg hd HO
    by_cases hlt : a + 20 ≤ n
    · have q1 : decide ((a : Int) + 20 ≤ (n : Int)) = true := decide_eq_true (by omega)
      have e1 := List.take_append_drop 20 r
      have l1 : (r.take 20).length = 20 := by rw [List.length_take]; omega
      have hnx := Mg.blk_next (lt := lt) (s := 20) (l := r) (by omega) (by omega)
      have hdl : (r.drop 20).length = r.length - 20 := List.length_drop
      generalize r.take 20 = r1 at e1 l1 hnx
      generalize r.drop 20 = r2 at e1 hnx hdl
      have E1 := Lib.hid e1; have L1 := Lib.hid l1; have NX := Lib.hid hnx
      have HDr : Hid (∀ x ∈ r1, D x) := fun x hx => dom_rest HT.out HDD.out x (by rw [← e1]; exact List.mem_append_left _ hx)
      clear e1 l1 hnx
      go_wp2_with fail
      refine (insertionSort_int S B0 g c n d r1 r2 _ _ _ _ (by rw [← E1.out, List.append_assoc]) (by rw [HD.out]) (by rw [HD.out, L1.out]; omega) HLN.out hn2 HDr.out (HIG.out _ HG2.out) HCW.out HO2.out).mono ?_
      rintro e w5 ⟨rfl, ho5, hg5⟩
      have HO5 := Lib.hid ho5; have HG5 := Lib.hid (grown_trans HG2.out hg5)
      clear ho5 hg5
      go_wp2
      go_roundw
      case rel => exact ⟨d ++ Mg.srt lt r1, r2, a + 20, by go_num, by go_num, by rw [List.length_append, Mg.srt_length, HD.out, L1.out], by omega, Lib.hid (by rw [← HT.out]; unfold blkR; rw [NX.out, List.append_assoc]), HO5.out, HG5.out⟩
      case measure => simp [intOf] <;> omega
    · have q1 : decide ((a : Int) + 20 ≤ (n : Int)) = false := decide_eq_false (by omega)
      have HSH := Lib.hid (Mg.blk_short (lt := lt) (s := 20) (l := r) (by omega))
      go_wp2_with fail
      refine (insertionSort_int S B0 g c n d r [] _ _ _ _ (by rw [List.append_nil]) (by rw [HD.out]) (by rw [HD.out]; omega) HLN.out hn2 (dom_rest HT.out HDD.out) (HIG.out _ HG2.out) HCW.out HO2.out).mono ?_
      rintro e w5 ⟨rfl, ho5, hg5⟩
      have HG5 := Lib.hid (grown_trans HG2.out hg5)
      have HO5 : Hid (w5.ownsRow B0 3 1 (.slice (some ⟨g, 0, none⟩) n c) n (flat encI (blkR lt 20 L))) := by
        show World.ownsRow _ _ _ _ _ _ _
        rw [← HT.out]; unfold blkR; rw [HSH.out]; rw [List.append_nil] at ho5; exact ho5
      clear ho5 hg5 HO2 HG2 HD HT HSH HLN hr q1
      go_wp2
      go_loopw [6] (fun v wr => ∃ s : Nat, v = .int .i64 s ∧ 0 < s ∧ s ≤ 2000 ∧ wr.ownsRow B0 3 1 (.slice (some ⟨g, 0, none⟩) n c) n (flat encI (blkR lt s L)) ∧ w.grownBy wr (some g)) (fun v _ => 2000 - (intOf v).toNat)
      case atStart => exact ⟨20, rfl, by omega, by omega, HO5.out, HG5.out⟩
      case round =>
        obtain ⟨s, rfl, hs0, hs1, hown, hg⟩ := hrel
        have HO6 := Lib.hid hown; have HG6 := Lib.hid hg
        clear hown hg HO5 HG5
        by_cases hsn : s < n
        case neg =>
          have q1 : decide ((s : Int) < (n : Int)) = false := decide_eq_false (by omega)
          have HO7 : Hid (wr.ownsRow B0 3 1 (.slice (some ⟨g, 0, none⟩) n c) n (flat encI (Mg.srt lt L))) := by
            show World.ownsRow _ _ _ _ _ _ _
            have := HO6.out
            unfold blkR at this
            rw [Mg.blk_short (by rw [HN.out]; omega)] at this
            exact this
          go_wp2
          go_end0
          exact ⟨rfl, HO7.out, HG6.out⟩
        have q1 : decide ((s : Int) < (n : Int)) = true := decide_eq_true (by omega)
        obtain ⟨wo, rfl⟩ : ∃ wo : World, wo = wr := ⟨_, rfl⟩
        go_wp2
        go_loopw [7, 8] (fun x y wq => ∃ (d r : List (Int)) (a : Nat), x = .int .i64 a ∧ y = .int .i64 ((a : Int) + 2 * (s : Int)) ∧ d.length = a ∧ a + r.length = n ∧ Hid (d ++ blkR lt (2 * s) r = blkR lt (2 * s) L) ∧ wq.ownsRow B0 3 1 (.slice (some ⟨g, 0, none⟩) n c) n (flat encI (d ++ blkR lt s r)) ∧ w.grownBy wq (some g)) (fun x _ _ => n - (intOf x).toNat)
        case atStart => exact ⟨[], L, 0, rfl, by go_num, rfl, by have := HN.out; omega, Lib.hid rfl, HO6.out, HG6.out⟩
        case round =>
          obtain ⟨d, r, a, rfl, rfl, hd, hr, HT, hown, hg⟩ := hrel
          have HO2 := Lib.hid hown; have HG2 := Lib.hid hg; have HD := Lib.hid hd
          have HLN : Hid ((d ++ blkR lt s r).length = n) := by show _ = _; rw [List.length_append]; unfold blkR; rw [Mg.blk_len hs0]; omega
          clear hown hg hd HO6 HG6
          by_cases hlt2 : a + 2 * s ≤ n
          · have q2 : decide ((a : Int) + 2 * (s : Int) ≤ (n : Int)) = true := decide_eq_true (by omega)
            obtain ⟨t1, t2⟩ := Mg.blk_two S (lt := lt) (s := s) (l := r) hs0 (by omega)
            have t3 := Mg.blk_next (lt := lt) (s := 2 * s) (l := r) (by omega) (by omega)
            have l1 : (Mg.srt lt (r.take s)).length = s := by rw [Mg.srt_length, List.length_take]; omega
            have l2 : (Mg.srt lt ((r.drop s).take s)).length = s := by rw [Mg.srt_length, List.length_take, List.length_drop]; omega
            have a1 := Mg.srt_asc S (r.take s)
            have a2 := Mg.srt_asc S ((r.drop s).take s)
            have l3 : (Mg.srt lt (r.take (2 * s))).length = 2 * s := by rw [Mg.srt_length, List.length_take]; omega
            have l4 : (r.drop (2 * s)).length = r.length - 2 * s := List.length_drop
            have HDa : Hid (∀ x ∈ Mg.srt lt (r.take s), D x) := fun x hx => dom_rest HT.out HDD.out x (List.mem_of_mem_take (Mg.srt_mem.1 hx))
            have HDb : Hid (∀ x ∈ Mg.srt lt ((r.drop s).take s), D x) := fun x hx => dom_rest HT.out HDD.out x (List.mem_of_mem_drop (List.mem_of_mem_take (Mg.srt_mem.1 hx)))
            generalize Mg.srt lt (r.take s) = P1 at t1 t2 l1 a1 HDa
            generalize Mg.srt lt ((r.drop s).take s) = P2 at t1 t2 l2 a2 HDb
            generalize Mg.srt lt (r.take (2 * s)) = P3 at t2 t3 l3
            generalize r.drop (2 * s) = r2 at t1 t3 l4
            have T1 := Lib.hid t1; have T2 := Lib.hid t2; have T3 := Lib.hid t3; have L1 := Lib.hid l1; have L2 := Lib.hid l2; have L3 := Lib.hid l3; have A1 := Lib.hid a1; have A2 := Lib.hid a2
            clear t1 t2 t3 l1 l2 l3 a1 a2
            go_wp2_with fail
            refine (HSY.out B0 c n d P1 P2 (blkR lt s r2) _ _ _ _ _ (by unfold blkR; rw [T1.out]; simp only [List.append_assoc]) (by rw [HD.out]) (by rw [HD.out, L1.out]; omega) (by rw [HD.out, L1.out, L2.out]; omega) (by rw [L1.out]; exact hs0) (by rw [L2.out]; exact hs0) A1.out A2.out HDa.out HDb.out HLN.out hn2 (HIG.out _ HG2.out) HO2.out).mono ?_
            rintro e w5 ⟨rfl, ho5, hg5⟩
            have HO5 := Lib.hid ho5; have HG5 := Lib.hid (grown_trans HG2.out hg5)
            clear ho5 hg5
            rw [T2.out] at HO5
            go_wp2
            go_roundw
            case rel => exact ⟨d ++ P3, r2, a + 2 * s, by go_num, by go_num, by rw [List.length_append, L3.out, HD.out], by omega, Lib.hid (by rw [← HT.out]; unfold blkR; rw [T3.out, List.append_assoc]), HO5.out, HG5.out⟩
            case measure => simp [intOf] <;> omega
          · have q2 : decide ((a : Int) + 2 * (s : Int) ≤ (n : Int)) = false := decide_eq_false (by omega)
            have t3 := Mg.blk_short (lt := lt) (s := 2 * s) (l := r) (by omega)
            have T3 := Lib.hid t3; clear t3
            by_cases hms : a + s < n
            · have q3 : decide ((a : Int) + (s : Int) < (n : Int)) = true := decide_eq_true (by omega)
              obtain ⟨t1, t2⟩ := Mg.blk_rest S (lt := lt) (s := s) (l := r) hs0 (by omega) (by omega)
              have l1 : (Mg.srt lt (r.take s)).length = s := by rw [Mg.srt_length, List.length_take]; omega
              have l2 : (Mg.srt lt (r.drop s)).length = r.length - s := by rw [Mg.srt_length, List.length_drop]
              have a1 := Mg.srt_asc S (r.take s)
              have a2 := Mg.srt_asc S (r.drop s)
              have HDa : Hid (∀ x ∈ Mg.srt lt (r.take s), D x) := fun x hx => dom_rest HT.out HDD.out x (List.mem_of_mem_take (Mg.srt_mem.1 hx))
              have HDb : Hid (∀ x ∈ Mg.srt lt (r.drop s), D x) := fun x hx => dom_rest HT.out HDD.out x (List.mem_of_mem_drop (Mg.srt_mem.1 hx))
              generalize Mg.srt lt (r.take s) = P1 at t1 t2 l1 a1 HDa
              generalize Mg.srt lt (r.drop s) = P2 at t1 t2 l2 a2 HDb
              have T1 := Lib.hid t1; have T2 := Lib.hid t2; have L1 := Lib.hid l1; have L2 := Lib.hid l2; have A1 := Lib.hid a1; have A2 := Lib.hid a2
              clear t1 t2 l1 l2 a1 a2
              go_wp2_with fail
              refine (HSY.out B0 c n d P1 P2 [] _ _ _ _ _ (by unfold blkR; rw [T1.out]; simp only [List.append_assoc, List.append_nil]) (by rw [HD.out]) (by rw [HD.out, L1.out]; omega) (by rw [HD.out, L1.out, L2.out]; omega) (by rw [L1.out]; exact hs0) (by rw [L2.out]; omega) A1.out A2.out HDa.out HDb.out HLN.out hn2 (HIG.out _ HG2.out) HO2.out).mono ?_
              rintro e w5 ⟨rfl, ho5, hg5⟩
              have HG5 := Lib.hid (grown_trans HG2.out hg5)
              have HO5 : Hid (w5.ownsRow B0 3 1 (.slice (some ⟨g, 0, none⟩) n c) n (flat encI (blkR lt (2 * s) L))) := by
                show World.ownsRow _ _ _ _ _ _ _
                rw [← HT.out]; unfold blkR; rw [T3.out, ← T2.out]; rw [List.append_nil] at ho5; exact ho5
              clear ho5 hg5
              go_wp2
              go_roundw
              case rel => exact ⟨2 * s, by go_num, by omega, by omega, HO5.out, HG5.out⟩
              case measure => simp [intOf] <;> omega
            · have q3 : decide ((a : Int) + (s : Int) < (n : Int)) = false := decide_eq_false (by omega)
              have T4 := Lib.hid (Mg.blk_short (lt := lt) (s := s) (l := r) (by omega))
              have HO5 : Hid (wr.ownsRow B0 3 1 (.slice (some ⟨g, 0, none⟩) n c) n (flat encI (blkR lt (2 * s) L))) := by
                show World.ownsRow _ _ _ _ _ _ _
                rw [← HT.out]; unfold blkR; rw [T3.out]; have := HO2.out; unfold blkR at this; rw [T4.out] at this; exact this
              go_wp2
              go_roundw
              case rel => exact ⟨2 * s, by go_num, by omega, by omega, HO5.out, HG2.out⟩
              case measure => simp [intOf] <;> omega

end Go.Proofs.Ytcncjedhpnaoaaa.II

namespace Go.Proofs.Ytcncjedhpnaoaaa.II
open Go.RowKit Go.Sort
set_option linter.unusedVariables false

set_option maxRecDepth 100000 in
set_option maxHeartbeats 8000000 in
theorem symMerge_one {D : Int → Prop} {I : World → Prop} {lt : Int → Int → Bool} (S : Mg.SW lt) {cv : Value} (B0 g c n : Nat) (pre R post rs : List (Int)) (X : Int) (a b : Nat) (w : World) (ha : pre.length = a) (hb : a + 1 + R.length = b) (hR : Mg.Asc lt R) (hrs : rs = pre ++ [X] ++ R ++ post) (hn : rs.length = n) (hn2 : n ≤ 1000) (hDX : D X) (hDR : ∀ x ∈ R, D x) (hI : I w) (HCV : CmpIs D I g lt cv)
    (h : w.ownsRow B0 3 1 (.slice (some ⟨g, 0, none⟩) n c) n (flat encI rs)) :
    Calls Try.prog 71 #[.slice (some ⟨g, 0, none⟩) n c, .int .i64 a, .int .i64 ((a : Int) + 1), .int .i64 b, cv] w fun e w' => e = .returned (.tuple #[]) ∧
      w'.ownsRow B0 3 1 (.slice (some ⟨g, 0, none⟩) n c) n (flat encI (pre ++ Mg.mrg lt [X] R ++ post)) ∧ w.grownBy w' (some g) := by
  have HO := Lib.hid h
  have hbn : b + post.length = n := by rw [← hn, hrs]; simp; omega
  have HRS := Lib.hid hrs
  have HDX := Lib.hid hDX; have HDR := Lib.hid hDR
  clear hDX hDR
  have HA := Lib.hid hR
  clear h hn hrs hR
  have s1 : (a : Int) + 1 - (a : Int) = 1 := by omega
  obtain ⟨hIg, G, cp, rfl, hcall, hcmp⟩ := HCV
  have HCM := Lib.hid hcmp; have HIG := Lib.hid (fun w' => hIg w w' hI)
  clear hcmp hIg
  go_enter Try.func71, Try.ntmps71
  go_wp2
  go_loopw [10, 11] (fun x y wr => ∃ p q : Nat, x = .int .i64 ((a : Int) + 1 + (p : Int)) ∧ y = .int .i64 ((a : Int) + 1 + (q : Int)) ∧ p ≤ q ∧ q ≤ R.length ∧ (0 < p → lt (R.getD (p - 1) 0) X = true) ∧ (q < R.length → lt (R.getD q 0) X = false) ∧ wr.ownsRow B0 3 1 (.slice (some ⟨g, 0, none⟩) n c) n (flat encI rs) ∧ w.grownBy wr (some g)) (fun x y _ => (intOf y).toNat - (intOf x).toNat)
  case atStart => exact ⟨0, R.length, by go_num, by go_num, by omega, by omega, fun h => by omega, fun h => by omega, HO.out, grown_of_below (Below.refl w.heap.size w)⟩
  case round =>
    obtain ⟨p, q, rfl, rfl, hpq, hq, h1, h2, hown, hg⟩ := hrel
    have HO2 := Lib.hid hown; have HG2 := Lib.hid hg; have H1 := Lib.hid h1; have H2 := Lib.hid h2
    clear hown hg h1 h2 HO
    by_cases hlt : p < q
    · have q1 : decide ((a : Int) + 1 + (p : Int) < (a : Int) + 1 + (q : Int)) = true := decide_eq_true (by omega)
      obtain ⟨k, hk⟩ : ∃ k, k = (p + q) / 2 := ⟨_, rfl⟩
      have hkp : p ≤ k := by omega
      have hkq : k < q := by omega
      have hh : ((a : Int) + 1 + (p : Int) + ((a : Int) + 1 + (q : Int))) / 2 = (a : Int) + 1 + (k : Int) := by omega
      have hkR : k < R.length := by omega
      have e1 : rs = pre ++ ([X] ++ R) ++ post := by rw [HRS.out]; simp only [List.append_assoc]
      have g1 : ([X] ++ R)[1 + k]? = some (R.getD k 0) := by
        rw [List.getElem?_append_right (by simp), List.length_singleton, show 1 + k - 1 = k by omega, List.getD_eq_getElem?_getD, List.getElem?_eq_getElem hkR]; rfl
      have g0 : ([X] ++ R)[0]? = some X := rfl
      have HO3 := HO2.out
      rw [e1] at HO3
      have c1 := rec_cells HO3 (mid_at (post := post) ha g1)
      have c0 := rec_cells HO3 (mid_at (post := post) ha g0)
      rw [Nat.add_zero] at c0 
      have HG : Hid (R.getD k 0 = R.getD k 0) := Lib.hid rfl
      obtain ⟨Y, hY⟩ : ∃ Y, R.getD k 0 = Y := ⟨_, rfl⟩
      rw [hY] at c1 
      have HY := Lib.hid hY
      have HDY : Hid (D Y) := by show D Y; rw [← hY]; exact HDR.out _ (getD_memI hkR)
      have HK := Lib.hid hk
      clear hY g1 g0 HO3 e1 HG hk
      have HCK := Lib.hid (fun W hW => HCM.out Y X W HDY.out HDX.out (HIG.out W hW))
      have hcall := hcall (#[.int .i64 Y, .int .i64 X] ++ cp)
      have t1 : ((a : Int) + 1 + (k : Int)).toNat = a + (1 + k) := by omega
      have b0 : (0 : Int) ≤ (a : Int) + 1 + (k : Int) := by omega
      have b1 : (a : Int) + 1 + (k : Int) < (n : Int) := by omega
      have b2 : (a : Int) < (n : Int) := by omega
      go_wp2_with fail
      clear hh
      have c0 : wr.cell? ⟨g, a, none⟩ = some (.int .i64 X) := c0
      have t0 : ((a : Int)).toNat = a := by omega
      have z0 : (0 : Int) ≤ (a : Int) := by omega
      go_still_tail 9, (by kernel_rfl)
      go_wp2_with fail
      refine (HCK.out _ (grown_trans HG2.out (grown_of_below (Below.refl _ _).drew))).mono ?_
      rintro e w5 ⟨⟨nn, rfl, hnn⟩, hbc⟩
      have hbw : Below wr.heap.size wr w5 := (Below.refl _ _).drew.trans hbc
      have HO5 := Lib.hid (own_below HO2.out (Nat.le_refl _) hbw)
      have HG5 := Lib.hid (grown_trans HG2.out (grown_of_below hbw))
      clear hbc hbw HO2 HG2 HCK c1  c0 
      cases hyx : lt Y X
      · have hz : decide (nn < 0) = false := by rw [hnn]; exact hyx
        have HYX := Lib.hid hyx
        clear hnn hyx
        go_wp2
        go_roundw
        case rel => exact ⟨p, k, rfl, by go_num, by omega, by omega, H1.out, fun _ => by rw [HY.out]; exact HYX.out, HO5.out, HG5.out⟩
        case measure => simp [intOf] <;> omega
      · have hz : decide (nn < 0) = true := by rw [hnn]; exact hyx
        have HYX := Lib.hid hyx
        clear hnn hyx
        go_wp2
        go_roundw
        case rel => exact ⟨k + 1, q, by go_num, rfl, by omega, by omega, fun _ => by rw [Nat.add_sub_cancel, HY.out]; exact HYX.out, fun hh => H2.out hh, HO5.out, HG5.out⟩
        case measure => simp [intOf] <;> omega
    · obtain rfl : p = q := by omega
      have q1 : decide ((a : Int) + 1 + (p : Int) < (a : Int) + 1 + (p : Int)) = false := decide_eq_false (by omega)
      have HM : Hid (Mg.mrg lt [X] R = Mg.upSt X R p) := by
        show _ = _
        refine Mg.mrg_one (Mg.asc_take S HA.out hq (fun h0 => ?_)) (Mg.asc_drop S HA.out (fun h0 => ?_))
        · have := H1.out h0
          rw [List.getD_eq_getElem?_getD, List.getElem?_eq_getElem (by omega)] at this
          exact this
        · have := H2.out h0
          rw [List.getD_eq_getElem?_getD, List.getElem?_eq_getElem h0] at this
          exact this
      have HO3 : Hid (wr.ownsRow B0 3 1 (.slice (some ⟨g, 0, none⟩) n c) n (flat encI (pre ++ Mg.upSt X R 0 ++ post))) := by
        show World.ownsRow _ _ _ _ _ _ _
        rw [Mg.upSt_zero]; have := HO2.out; rw [HRS.out] at this; simpa using this
      clear H1 H2 HO2
      obtain ⟨wo, rfl⟩ : ∃ wo : World, wo = wr := ⟨_, rfl⟩
      go_wp2
      go_loopw [13] (fun v wq => ∃ t : Nat, v = .int .i64 ((a : Int) + (t : Int)) ∧ t ≤ p ∧ wq.ownsRow B0 3 1 (.slice (some ⟨g, 0, none⟩) n c) n (flat encI (pre ++ Mg.upSt X R t ++ post)) ∧ w.grownBy wq (some g)) (fun v _ => a + p - (intOf v).toNat)
      case atStart => exact ⟨0, by go_num, by omega, HO3.out, HG2.out⟩
      case round =>
        obtain ⟨t, rfl, ht, hown, hg⟩ := hrel
        have HO4 := Lib.hid hown; have HG4 := Lib.hid hg
        clear hown hg HO3 HG2
        by_cases htp : t < p
        · have q3 : decide ((a : Int) + (t : Int) < (a : Int) + 1 + (p : Int) - 1) = true := decide_eq_true (by omega)
          have htR : t < R.length := by omega
          obtain ⟨g1, g2, g3⟩ := Mg.upSt_step (x := X) (pre := pre) (post := post) htR ha
          have hq1 : (pre ++ Mg.upSt X R t ++ post).length = n := by unfold Mg.upSt; simp only [List.length_append, List.length_cons, List.length_take, List.length_drop]; omega
          have d1 := rec_cells HO4.out g1
          have d2 := rec_cells HO4.out g2
          generalize R[t] = Y at d2  g3
          generalize pre ++ Mg.upSt X R t ++ post = S at HO4 hq1 g3
          have d1 : wr.drew.cell? ⟨g, (a + t), none⟩ = some (.int .i64 X) := d1
          have d2 : wr.drew.cell? ⟨g, (a + t + 1), none⟩ = some (.int .i64 Y) := d2
          have rf : ∀ o, wr.drew.frozen? ⟨g, o, none⟩ = false := fun o => HO4.out.frozenAt o
          have o1 := HO4.out.stored (a + t) (.int .i64 Y)
          have o2 := o1.1.stored (a + t + 1) (.int .i64 X)
          have i1 : (wr.setCell ⟨g, a + t, none⟩ (.int .i64 Y)).drew.cell? ⟨g, a + t + 1, none⟩ = some (.int .i64 Y) := (cell_far (by omega)).trans d2
          have f1 : ∀ o, (wr.setCell ⟨g, a + t, none⟩ (.int .i64 Y)).drew.frozen? ⟨g, o, none⟩ = false := fun o => o1.1.frozenAt o
          have h4 := o2.1
          rw [flat_set1, flat_set1, g3] at h4
          have HO9 := Lib.hid h4
          have HG9 := Lib.hid (grown_trans HG4.out (grown_trans o1.2 o2.2))
          clear o1 o2 h4 g1 g2 g3 hq1
          have t1 : ((a : Int) + (t : Int)).toNat = a + t := by omega
          have t2 : ((a : Int) + (t : Int) + 1).toNat = a + t + 1 := by omega
          have b0 : (0 : Int) ≤ (a : Int) + (t : Int) := by omega
          have b1 : (a : Int) + (t : Int) < (n : Int) := by omega
          have b2 : (0 : Int) ≤ (a : Int) + (t : Int) + 1 := by omega
          have b3 : (a : Int) + (t : Int) + 1 < (n : Int) := by omega
          have w1 : IntKind.i64.wrap ((a : Int) + (t : Int) + 1) = (a : Int) + (t : Int) + 1 := IntWalk.i64_in _ (by omega)
          go_wp2_with fail
          go_region_law (fail)
          all_goals
            generalize (wr.setCell ⟨g, a + t, none⟩ (.int .i64 Y)).setCell ⟨g, a + t + 1, none⟩ (.int .i64 X) = w9 at HO9 HG9 ⊢
            clear i1 f1 rf d1  d2  HO4
            go_wp2
            go_roundw
            case rel => exact ⟨t + 1, by go_num, by omega, HO9.out, grown_trans HG9.out (grown_of_below (Below.refl w9.heap.size w9).drew)⟩
            case measure => simp [intOf] <;> omega
        · obtain rfl : t = p := by omega
          have q3 : decide ((a : Int) + (t : Int) < (a : Int) + 1 + (t : Int) - 1) = false := decide_eq_false (by omega)
          rw [← HM.out] at HO4
          go_wp2
          refine bodyPost_ret (v := .tuple #[]) (by simp [results, Try.results71, go_sem]) rfl ⟨rfl, HO4.out, HG4.out⟩

end Go.Proofs.Ytcncjedhpnaoaaa.II

namespace Go.Proofs.Ytcncjedhpnaoaaa.II
open Go.RowKit Go.Sort
set_option linter.unusedVariables false

set_option maxRecDepth 100000 in
set_option maxHeartbeats 8000000 in
theorem symMerge_last {D : Int → Prop} {I : World → Prop} {lt : Int → Int → Bool} (S : Mg.SW lt) {cv : Value} (B0 g c n : Nat) (pre L post rs : List (Int)) (X : Int) (a m : Nat) (w : World) (ha : pre.length = a) (hm : a + L.length = m) (hL1 : L.length ≠ 1) (hL : Mg.Asc lt L) (hrs : rs = pre ++ L ++ [X] ++ post) (hn : rs.length = n) (hn2 : n ≤ 1000) (hDX : D X) (hDR : ∀ x ∈ L, D x) (hI : I w) (HCV : CmpIs D I g lt cv)
    (h : w.ownsRow B0 3 1 (.slice (some ⟨g, 0, none⟩) n c) n (flat encI rs)) :
    Calls Try.prog 71 #[.slice (some ⟨g, 0, none⟩) n c, .int .i64 a, .int .i64 m, .int .i64 ((m : Int) + 1), cv] w fun e w' => e = .returned (.tuple #[]) ∧
      w'.ownsRow B0 3 1 (.slice (some ⟨g, 0, none⟩) n c) n (flat encI (pre ++ Mg.mrg lt L [X] ++ post)) ∧ w.grownBy w' (some g) := by
  have HO := Lib.hid h
  have hbn : m + 1 + post.length = n := by rw [← hn, hrs]; simp; omega
  have HRS := Lib.hid hrs
  have HDX := Lib.hid hDX; have HDR := Lib.hid hDR
  clear hDX hDR
  have HA := Lib.hid hL
  clear h hn hrs hL
  have s1 : (m : Int) + 1 - (m : Int) = 1 := by omega
  have s0 : ((m : Int) - (a : Int) == 1) = false := by simp; omega
  have s2 : IntKind.i64.wrap ((m : Int) - (a : Int)) = (m : Int) - (a : Int) := IntWalk.i64_in _ (by omega)
  obtain ⟨hIg, G, cp, rfl, hcall, hcmp⟩ := HCV
  have HCM := Lib.hid hcmp; have HIG := Lib.hid (fun w' => hIg w w' hI)
  clear hcmp hIg
  go_enter Try.func71, Try.ntmps71
  go_wp2
  go_loopw [14, 15] (fun x y wr => ∃ p q : Nat, x = .int .i64 ((a : Int) + (p : Int)) ∧ y = .int .i64 ((a : Int) + (q : Int)) ∧ p ≤ q ∧ q ≤ L.length ∧ (0 < p → lt X (L.getD (p - 1) 0) = false) ∧ (q < L.length → lt X (L.getD q 0) = true) ∧ wr.ownsRow B0 3 1 (.slice (some ⟨g, 0, none⟩) n c) n (flat encI rs) ∧ w.grownBy wr (some g)) (fun x y _ => (intOf y).toNat - (intOf x).toNat)
  case atStart => exact ⟨0, L.length, by go_num, by go_num, by omega, by omega, fun h => by omega, fun h => by omega, HO.out, grown_of_below (Below.refl w.heap.size w)⟩
  case round =>
    obtain ⟨p, q, rfl, rfl, hpq, hq, h1, h2, hown, hg⟩ := hrel
    have HO2 := Lib.hid hown; have HG2 := Lib.hid hg; have H1 := Lib.hid h1; have H2 := Lib.hid h2
    clear hown hg h1 h2 HO
    by_cases hlt : p < q
    · have q1 : decide ((a : Int) + (p : Int) < (a : Int) + (q : Int)) = true := decide_eq_true (by omega)
      obtain ⟨k, hk⟩ : ∃ k, k = (p + q) / 2 := ⟨_, rfl⟩
      have hkp : p ≤ k := by omega
      have hkq : k < q := by omega
      have hh : ((a : Int) + (p : Int) + ((a : Int) + (q : Int))) / 2 = (a : Int) + (k : Int) := by omega
      have hkR : k < L.length := by omega
      have e1 : rs = pre ++ (L ++ [X]) ++ post := by rw [HRS.out]; simp only [List.append_assoc]
      have g1 : (L ++ [X])[k]? = some (L.getD k 0) := by
        rw [List.getElem?_append_left hkR, List.getD_eq_getElem?_getD, List.getElem?_eq_getElem hkR]; rfl
      have g0 : (L ++ [X])[L.length]? = some X := by rw [List.getElem?_append_right (Nat.le_refl _), Nat.sub_self]; rfl
      have HO3 := HO2.out
      rw [e1] at HO3
      have c1 := rec_cells HO3 (mid_at (post := post) ha g1)
      have c0 := rec_cells HO3 (mid_at (post := post) ha g0)
      rw [hm] at c0 
      obtain ⟨Y, hY⟩ : ∃ Y, L.getD k 0 = Y := ⟨_, rfl⟩
      rw [hY] at c1 
      have HY := Lib.hid hY
      have HDY : Hid (D Y) := by show D Y; rw [← hY]; exact HDR.out _ (getD_memI hkR)
      have HK := Lib.hid hk
      clear hY g1 g0 HO3 e1 hk
      have HCK := Lib.hid (fun W hW => HCM.out X Y W HDX.out HDY.out (HIG.out W hW))
      have hcall := hcall (#[.int .i64 X, .int .i64 Y] ++ cp)
      have t1 : ((a : Int) + (k : Int)).toNat = a + k := by omega
      have t0 : (m : Int).toNat = m := by omega
      have z0 : (0 : Int) ≤ (m : Int) := by omega
      have b0 : (0 : Int) ≤ (a : Int) + (k : Int) := by omega
      have b1 : (a : Int) + (k : Int) < (n : Int) := by omega
      have b2 : (m : Int) < (n : Int) := by omega
      go_wp2_with fail
      clear hh
      go_still_tail 9, (by kernel_rfl)
      go_wp2_with fail
      refine (HCK.out _ (grown_trans HG2.out (grown_of_below (Below.refl _ _).drew))).mono ?_
      rintro e w5 ⟨⟨nn, rfl, hnn⟩, hbc⟩
      have hbw : Below wr.heap.size wr w5 := (Below.refl _ _).drew.trans hbc
      have HO5 := Lib.hid (own_below HO2.out (Nat.le_refl _) hbw)
      have HG5 := Lib.hid (grown_trans HG2.out (grown_of_below hbw))
      clear hbc hbw HO2 HG2 HCK c1  c0 
      cases hyx : lt X Y
      · have hz : decide (nn < 0) = false := by rw [hnn]; exact hyx
        have HYX := Lib.hid hyx
        clear hnn hyx
        go_wp2
        go_roundw
        case rel => exact ⟨k + 1, q, by go_num, rfl, by omega, by omega, fun _ => by rw [Nat.add_sub_cancel, HY.out]; exact HYX.out, H2.out, HO5.out, HG5.out⟩
        case measure => simp [intOf] <;> omega
      · have hz : decide (nn < 0) = true := by rw [hnn]; exact hyx
        have HYX := Lib.hid hyx
        clear hnn hyx
        go_wp2
        go_roundw
        case rel => exact ⟨p, k, rfl, by go_num, by omega, by omega, fun hh => H1.out hh, fun _ => by rw [HY.out]; exact HYX.out, HO5.out, HG5.out⟩
        case measure => simp [intOf] <;> omega
    · obtain rfl : p = q := by omega
      have q1 : decide ((a : Int) + (p : Int) < (a : Int) + (p : Int)) = false := decide_eq_false (by omega)
      have HM : Hid (Mg.mrg lt L [X] = Mg.insSt L X p []) := by
        show _ = _
        have hb0 : Mg.insSt L X p [] = L.take p ++ X :: L.drop p := by unfold Mg.insSt; rw [List.append_nil]
        rw [hb0]
        refine Mg.mrg_last (Mg.asc_take' S HA.out hq (fun h0 => ?_)) (Mg.asc_drop' S HA.out (fun h0 => ?_))
        · have := H1.out h0
          rw [List.getD_eq_getElem?_getD, List.getElem?_eq_getElem (by omega)] at this
          exact this
        · have := H2.out h0
          rw [List.getD_eq_getElem?_getD, List.getElem?_eq_getElem h0] at this
          exact this
      have HO3 : Hid (wr.ownsRow B0 3 1 (.slice (some ⟨g, 0, none⟩) n c) n (flat encI (pre ++ Mg.insSt L X L.length [] ++ post))) := by
        show World.ownsRow _ _ _ _ _ _ _
        rw [Mg.insSt_top]; have := HO2.out; rw [HRS.out] at this; simpa using this
      clear H1 H2 HO2
      obtain ⟨wo, rfl⟩ : ∃ wo : World, wo = wr := ⟨_, rfl⟩
      go_wp2
      go_loopw [17] (fun v wq => ∃ t : Nat, v = .int .i64 ((a : Int) + (t : Int)) ∧ p ≤ t ∧ t ≤ L.length ∧ wq.ownsRow B0 3 1 (.slice (some ⟨g, 0, none⟩) n c) n (flat encI (pre ++ Mg.insSt L X t [] ++ post)) ∧ w.grownBy wq (some g)) (fun v _ => (intOf v).toNat)
      case atStart => exact ⟨L.length, by go_num, by omega, by omega, HO3.out, HG2.out⟩
      case round =>
        obtain ⟨t, rfl, ht, htl, hown, hg⟩ := hrel
        have HO4 := Lib.hid hown; have HG4 := Lib.hid hg
        clear hown hg HO3 HG2
        by_cases htp : p < t
        · have q3 : decide ((a : Int) + (p : Int) < (a : Int) + (t : Int)) = true := decide_eq_true (by omega)
          obtain ⟨u, rfl⟩ : ∃ u, t = u + 1 := ⟨t - 1, by omega⟩
          have hu : u < L.length := by omega
          have hsl : (Mg.insSt L X (u + 1) ([] : List (Int))).length = L.length + 1 := by rw [Mg.insSt_len htl]; rfl
          obtain ⟨i0, i0'⟩ := insR_at (R := []) (x := X) hu
          have hq1 : (pre ++ Mg.insSt L X (u + 1) [] ++ post).length = n := by simp only [List.length_append]; rw [hsl]; omega
          have d1 := rec_cells HO4.out (mid_at (post := post) ha i0)
          have d2 := rec_cells HO4.out (mid_at (post := post) ha i0')
          obtain ⟨Y, hY⟩ : ∃ Y, L.getD u 0 = Y := ⟨_, rfl⟩
          have hrs : ((pre ++ Mg.insSt L X (u + 1) [] ++ post).set (a + (u + 1)) Y).set (a + u) X = pre ++ Mg.insSt L X u [] ++ post := by
            rw [mid_set ha (by rw [hsl]; omega), mid_set ha (by rw [List.length_set, hsl]; omega), List.set_comm _ _ (by omega), insR_stepD hu hY]
          rw [hY] at d1 
          generalize pre ++ Mg.insSt L X (u + 1) [] ++ post = S at HO4 hq1 hrs
          clear hY i0 i0' hsl
          have d1 : wr.drew.cell? ⟨g, (a + u), none⟩ = some (.int .i64 Y) := d1
          have d2 : wr.drew.cell? ⟨g, (a + (u + 1)), none⟩ = some (.int .i64 X) := d2
          have rf : ∀ o, wr.drew.frozen? ⟨g, o, none⟩ = false := fun o => HO4.out.frozenAt o
          have o1 := HO4.out.stored (a + (u + 1)) (.int .i64 Y)
          have o2 := o1.1.stored (a + u) (.int .i64 X)
          have i1 : (wr.setCell ⟨g, a + (u + 1), none⟩ (.int .i64 Y)).drew.cell? ⟨g, a + u, none⟩ = some (.int .i64 Y) := (cell_far (by omega)).trans d1
          have f1 : ∀ o, (wr.setCell ⟨g, a + (u + 1), none⟩ (.int .i64 Y)).drew.frozen? ⟨g, o, none⟩ = false := fun o => o1.1.frozenAt o
          have h4 := o2.1
          rw [flat_set1, flat_set1, hrs] at h4
          have HO9 := Lib.hid h4
          have HG9 := Lib.hid (grown_trans HG4.out (grown_trans o1.2 o2.2))
          clear o1 o2 h4 hrs hq1
          have hcast : (a : Int) + ((u + 1 : Nat) : Int) = (a : Int) + (u : Int) + 1 := by omega
          have t0 : ((a : Int) + (u : Int)).toNat = a + u := by omega
          have t1 : ((a : Int) + (u : Int) + 1).toNat = a + (u + 1) := by omega
          have b0 : (0 : Int) ≤ (a : Int) + (u : Int) := by omega
          have b1 : (a : Int) + (u : Int) < (n : Int) := by omega
          have b2 : (a : Int) + (u : Int) + 1 < (n : Int) := by omega
          have b3 : (0 : Int) ≤ (a : Int) + (u : Int) + 1 := by omega
          have w1 : IntKind.i64.wrap ((a : Int) + (u : Int)) = (a : Int) + (u : Int) := IntWalk.i64_in _ (by omega)
          rw [hcast] at q3 ⊢
          go_wp2_with fail
          go_region_law (fail)
          all_goals
            generalize (wr.setCell ⟨g, a + (u + 1), none⟩ (.int .i64 Y)).setCell ⟨g, a + u, none⟩ (.int .i64 X) = w9 at HO9 HG9 ⊢
            clear i1 f1 rf d1  d2  HO4
            go_wp2
            go_roundw
            case rel => exact ⟨u, by go_num, by omega, by omega, HO9.out, grown_trans HG9.out (grown_of_below (Below.refl w9.heap.size w9).drew)⟩
            case measure => simp [intOf] <;> omega
        · obtain rfl : p = t := by omega
          rw [← HM.out] at HO4
          go_wp2
          refine bodyPost_ret (v := .tuple #[]) (by simp [results, Try.results71, go_sem]) rfl ⟨rfl, HO4.out, HG4.out⟩

end Go.Proofs.Ytcncjedhpnaoaaa.II

namespace Go.Proofs.Ytcncjedhpnaoaaa.II
open Go.RowKit Go.Sort
set_option linter.unusedVariables false

/-- The exchange of two ranges, its numbers as they come. -/
theorem swapRange_int (B0 g c n : Nat) (pre A M B post rs : List (Int)) (m : Nat) (x y z : Int) (cv : Value) (w : World) (hA : A.length = m) (hB : B.length = m) (hx : x = (pre.length : Nat)) (hy : y = ((pre.length + m + M.length : Nat) : Int)) (hz : z = (m : Nat)) (hrs : rs = pre ++ A ++ M ++ B ++ post) (hn : rs.length = n) (hn2 : n ≤ 1000)
    (h : w.ownsRow B0 3 1 (.slice (some ⟨g, 0, none⟩) n c) n (flat encI rs)) :
    Calls Try.prog 79 #[.slice (some ⟨g, 0, none⟩) n c, .int .i64 x, .int .i64 y, .int .i64 z, cv] w fun e w' => e = .returned (.tuple #[]) ∧
      w'.ownsRow B0 3 1 (.slice (some ⟨g, 0, none⟩) n c) n (flat encI (pre ++ B ++ M ++ A ++ post)) ∧ w.grownBy w' (some g) := by
  subst hx hy hz hrs
  exact swapRange_any B0 g c n pre A M B post m _ _ cv w hA hB rfl rfl hn hn2 h

set_option maxRecDepth 100000 in
set_option maxHeartbeats 8000000 in
theorem rotate_any (B0 g c n : Nat) (pre U V post : List (Int)) (a m b : Nat) (cv : Value) (w : World) (ha : pre.length = a) (hm : a + U.length = m) (hb : m + V.length = b) (hU : 0 < U.length) (hV : 0 < V.length) (hn : (pre ++ U ++ V ++ post).length = n) (hn2 : n ≤ 1000)
    (h : w.ownsRow B0 3 1 (.slice (some ⟨g, 0, none⟩) n c) n (flat encI (pre ++ U ++ V ++ post))) :
    Calls Try.prog 77 #[.slice (some ⟨g, 0, none⟩) n c, .int .i64 a, .int .i64 m, .int .i64 b, cv] w fun e w' => e = .returned (.tuple #[]) ∧
      w'.ownsRow B0 3 1 (.slice (some ⟨g, 0, none⟩) n c) n (flat encI (pre ++ V ++ U ++ post)) ∧ w.grownBy w' (some g) := by
  have HO := Lib.hid h
  have HN := Lib.hid hn
  have hbn : b + post.length = n := by rw [← hn]; simp only [List.length_append]; omega
  have u1 : IntKind.i64.wrap ((m : Int) - (a : Int)) = (U.length : Nat) := by rw [IntWalk.i64_in _ (by omega)]; omega
  have u2 : IntKind.i64.wrap ((b : Int) - (m : Int)) = (V.length : Nat) := by rw [IntWalk.i64_in _ (by omega)]; omega
  have u3 : (m : Int) - (a : Int) = (U.length : Nat) := by omega
  have u4 : (b : Int) - (m : Int) = (V.length : Nat) := by omega
  clear h hn
  go_enter Try.func77, Try.ntmps77
  go_wp2
  go_loopw [10, 11] (fun x y wr => ∃ (p' U' V' q' : List (Int)) (i j : Nat), x = .int .i64 i ∧ y = .int .i64 j ∧ U'.length = i ∧ V'.length = j ∧ 0 < i ∧ 0 < j ∧ p'.length + i = m ∧ Hid (p' ++ V' ++ U' ++ q' = pre ++ V ++ U ++ post) ∧ (p' ++ U' ++ V' ++ q').length = n ∧ wr.ownsRow B0 3 1 (.slice (some ⟨g, 0, none⟩) n c) n (flat encI (p' ++ U' ++ V' ++ q')) ∧ w.grownBy wr (some g)) (fun x y _ => (intOf x).toNat + (intOf y).toNat)
  case atStart => exact ⟨pre, U, V, post, U.length, V.length, by first | rfl | (simp only [u1, u3]), by first | rfl | (simp only [u2, u4]), rfl, rfl, hU, hV, by omega, Lib.hid rfl, HN.out, HO.out, grown_of_below (Below.refl w.heap.size w)⟩
  case round =>
    obtain ⟨p', U', V', q', i, j, rfl, rfl, hU', hV', hi, hj, hpm, HT, hlen, hown, hg⟩ := hrel
    have HO2 := Lib.hid hown; have HG2 := Lib.hid hg; have HLN := Lib.hid hlen
    have hl2 : p'.length + i + j + q'.length = n := by rw [← hlen]; simp only [List.length_append]; omega
    clear hown hg HO HN hlen u1 u2 u3 u4
    have HPM := Lib.hid hpm; have HU' := Lib.hid hU'; have HV' := Lib.hid hV'
    generalize hP : p'.length = P at hpm hl2
    have HP := Lib.hid hP
    clear hP hU' hV' hU hV
    have z1 : -9223372036854775808 ≤ (m : Int) - (i : Int) ∧ (m : Int) - (i : Int) ≤ 9223372036854775807 := by omega
    by_cases hij : i = j
    · subst hij
      have q1 : ((i : Int) != (i : Int)) = false := by simp
      go_wp2_with fail
      refine (swapRange_int B0 g c n p' U' [] V' q' _ i _ _ _ cv _ HU'.out HV'.out (by rw [HP.out]; omega) (by rw [HP.out]; simp only [List.length_nil]; omega) rfl (by simp) HLN.out hn2 HO2.out).mono ?_
      rintro e w5 ⟨rfl, ho5, hg5⟩
      have HO5 := Lib.hid ho5; have HG5 := Lib.hid (grown_trans HG2.out hg5)
      clear ho5 hg5
      rw [List.append_nil, HT.out] at HO5
      go_wp2
      go_end0
      exact ⟨rfl, HO5.out, HG5.out⟩
    have q1 : ((i : Int) != (j : Int)) = true := by simp; omega
    by_cases hgt : j < i
    · have q2 : decide ((j : Int) < (i : Int)) = true := decide_eq_true (by omega)
      have e1 : U'.take j ++ U'.drop j = U' := List.take_append_drop j U'
      have l1 : (U'.take j).length = j := by rw [List.length_take, HU'.out]; omega
      have l2 : (U'.drop j).length = i - j := by rw [List.length_drop, HU'.out]
      generalize U'.take j = U1 at e1 l1
      generalize U'.drop j = U2 at e1 l2
      have E1 := Lib.hid e1; have L1 := Lib.hid l1; have L2 := Lib.hid l2
      clear e1 l1 l2
      go_wp2_with fail
      refine (swapRange_int B0 g c n p' U1 U2 V' q' _ j _ _ _ cv _ L1.out HV'.out (by rw [HP.out]; omega) (by rw [HP.out, L2.out]; omega) rfl (by rw [← E1.out]; simp) HLN.out hn2 HO2.out).mono ?_
      rintro e w5 ⟨rfl, ho5, hg5⟩
      have HO5 := Lib.hid ho5; have HG5 := Lib.hid (grown_trans HG2.out hg5)
      clear ho5 hg5
      go_wp2
      go_roundw
      case rel => exact ⟨p' ++ V', U2, U1, q', i - j, j, by go_num, rfl, L2.out, L1.out, by omega, hj, by rw [List.length_append, HP.out, HV'.out]; omega, Lib.hid (by rw [← HT.out, ← E1.out]; simp), by rw [← HLN.out, ← E1.out]; simp only [List.length_append]; omega, HO5.out, HG5.out⟩
      case measure => simp [intOf] <;> omega
    · have q2 : decide ((j : Int) < (i : Int)) = false := decide_eq_false (by omega)
      have e1 : V'.take (j - i) ++ V'.drop (j - i) = V' := List.take_append_drop _ V'
      have l1 : (V'.take (j - i)).length = j - i := by rw [List.length_take, HV'.out]; omega
      have l2 : (V'.drop (j - i)).length = i := by rw [List.length_drop, HV'.out]; omega
      generalize V'.take (j - i) = V1 at e1 l1
      generalize V'.drop (j - i) = V2 at e1 l2
      have E1 := Lib.hid e1; have L1 := Lib.hid l1; have L2 := Lib.hid l2
      clear e1 l1 l2
      go_wp2_with fail
      refine (swapRange_int B0 g c n p' U' V1 V2 q' _ i _ _ _ cv _ HU'.out L2.out (by rw [HP.out]; omega) (by rw [HP.out, L1.out]; omega) rfl (by rw [← E1.out]; simp) HLN.out hn2 HO2.out).mono ?_
      rintro e w5 ⟨rfl, ho5, hg5⟩
      have HO5 := Lib.hid ho5; have HG5 := Lib.hid (grown_trans HG2.out hg5)
      clear ho5 hg5
      go_wp2
      go_roundw
      case rel => exact ⟨p', V2, V1, U' ++ q', i, j - i, rfl, by go_num, L2.out, L1.out, hi, by omega, by rw [HP.out]; omega, Lib.hid (by rw [← HT.out, ← E1.out]; simp), by rw [← HLN.out, ← E1.out]; simp only [List.length_append]; omega, by have := HO5.out; simpa using this, HG5.out⟩
      case measure => simp [intOf] <;> omega

end Go.Proofs.Ytcncjedhpnaoaaa.II

