/- Several texts in one: lemmas and walks of the functions that the law reaches. -/
import Derived.Test.YtcdfinkefahloaaY19
import Derived.Test.YtcdfinkefahloaaY21

namespace Go.Proofs.Ytcdfinkefahloaa
open Go.RowKit
set_option linter.unusedVariables false

namespace Ply
section
variable {α : Type} {mrg : List α → α} {z : α} {sz : α → Nat} {e : Nat} {Q : List (List α)}
def wt (sz : α → Nat) (q : List α) : Nat := (q.map sz).sum
def tot (sz : α → Nat) (Q : List (List α)) : Nat := (Q.map (wt sz)).sum
theorem sum_set {l : List Nat} {i x : Nat} (hi : i < l.length) : (l.set i x).sum + l.getD i 0 = l.sum + x := by
  induction l generalizing i with
  | nil => simp at hi
  | cons y t ih =>
    cases i with
    | zero => simp; omega
    | succ i =>
      have := ih (i := i) (by simpa using hi)
      simp only [List.set_cons_succ, List.sum_cons, List.getD_cons_succ]
      omega
theorem tot_set {i : Nat} {q : List α} (hi : i < Q.length) : tot sz (Q.set i q) + wt sz (Q.getD i []) = tot sz Q + wt sz q := by
  unfold tot
  rw [List.map_set]
  have := sum_set (l := Q.map (wt sz)) (i := i) (x := wt sz q) (by simpa using hi)
  have e1 : (Q.map (wt sz)).getD i 0 = wt sz (Q.getD i []) := by
    rw [List.getD_eq_getElem?_getD, List.getElem?_map, List.getD_eq_getElem?_getD]
    cases Q[i]? <;> rfl
  rw [e1] at this
  exact this
theorem wt_append (q r : List α) : wt sz (q ++ r) = wt sz q + wt sz r := by simp [wt]
theorem tot_tails (hne : ∀ j, j < Q.length → j ≠ e → Q.getD j [] ≠ []) : ∀ i, i ≤ Q.length → tot sz (tailsTo e Q i) + wt sz (headsTo z e Q i) = tot sz Q
  | 0, _ => by rw [tails_zero, heads_zero]; simp [wt]
  | i + 1, h => by
    have ih := tot_tails hne i (by omega)
    by_cases hie : i = e
    · subst hie; rw [tails_skip, heads_skip]; exact ih
    · cases hq : Q.getD i [] with
      | nil => exact absurd hq (hne i (by omega) hie)
      | cons y qt =>
        rw [tails_succ (by omega) hie hq, heads_succ hie hq, wt_append]
        have := tot_set (sz := sz) (Q := tailsTo e Q i) (i := i) (q := qt) (by rw [tails_len]; omega)
        rw [tails_same (.inl (Nat.le_refl _)) (by omega), hq] at this
        have e1 : wt sz (y :: qt) = sz y + wt sz qt := by simp [wt]
        have e2 : wt sz [y] = sz y := by simp [wt]
        omega
theorem tot_step (hm : ∀ xs, sz (mrg xs) = wt sz xs) (he : e < Q.length) (hne : ∀ j, j < Q.length → j ≠ e → Q.getD j [] ≠ []) : tot sz (stepF mrg z e Q) = tot sz Q ∧ wt sz (headsTo z e Q Q.length) ≤ tot sz Q := by
  have h1 := tot_tails (sz := sz) (z := z) hne Q.length (Nat.le_refl _)
  have h2 := tot_set (sz := sz) (Q := tailsTo e Q Q.length) (i := e) (q := Q.getD e [] ++ [mrg (headsTo z e Q Q.length)]) (by rw [tails_len]; exact he)
  rw [tails_same (.inr rfl) he, wt_append] at h2
  have e1 : wt sz [mrg (headsTo z e Q Q.length)] = wt sz (headsTo z e Q Q.length) := by
    have := hm (headsTo z e Q Q.length)
    simp [wt] at this ⊢
    exact this
  unfold stepF
  omega
end
end Ply

theorem rd_grownP {w w' : World} {row : Option Nat} {a : Option Addr} {n c : Nat} {L : List (Int × Int)} (h : Rd w a n c L) (hg : w.grownBy w' row) (hne : ∀ b off, a = some ⟨b, off, none⟩ → row ≠ some b) : Rd w' a n c L := ⟨h.recs.grown hg hne, h.len, h.nil, h.cap⟩

/-- A run of records in its cell. -/
def OkT (w : World) (L : List (Int × Int)) (v : Value) : Prop := Mg.Asc Mg.ltF L ∧ HdAt w v L ∧ ∀ b, v.ownBlock = some b → b < w.heap.size
theorem OkT.sh {w : World} {L : List (Int × Int)} {v : Value} (h : OkT w L v) : ∃ a n d, v = .slice a n d := by
  obtain ⟨_, ⟨x, c, e, _⟩, _⟩ := h
  exact ⟨x, _, c, e⟩
theorem okT : ElOk OkT where
  one := fun h => by obtain ⟨a, n, d, rfl⟩ := h.sh; rfl
  lt := fun h hb => h.2.2 _ hb
  kept := fun {w w' x v row} h hg hne => by
    obtain ⟨h1, ⟨a, c, e, h2⟩, h3⟩ := h
    subst e
    exact ⟨h1, ⟨a, c, rfl, rd_grownP h2 hg (fun b off e => hne b (by rw [e]; rfl))⟩, fun b hb => Nat.lt_of_lt_of_le (h3 b hb) hg.size⟩
def mrgT (xs : List (List (Int × Int))) : List (Int × Int) := Mg.srtP xs.flatten
theorem mrgT_len (xs : List (List (Int × Int))) : (mrgT xs).length = Ply.wt List.length xs := by
  unfold mrgT Ply.wt
  rw [srtP_len, List.length_flatten]
/-- A size in its cell. -/
def OkI (w : World) (x : Nat) (v : Value) : Prop := v = .int .i64 (x : Nat)
theorem OkI.sh {w : World} {x : Nat} {v : Value} (h : OkI w x v) : ∃ n : Int, v = .int .i64 n := ⟨_, h⟩
theorem okI : ElOk OkI where
  one := fun h => by unfold OkI at h; subst h; rfl
  lt := fun h hb => by unfold OkI at h; subst h; cases hb
  kept := fun h _ _ => h

set_option maxRecDepth 100000 in
set_option maxHeartbeats 4000000 in
theorem fvT (mb : Nat) : Fv OkT mrgT List.length (fun xs => Ply.wt List.length xs ≤ 1000) 23 mb := by
  refine ⟨fun w r n c xs es s hn hn0 hn8 hnc hcell hr hrm hel hfar hpre hmb hs => ?_⟩
  have hLs : LsAt w (some ⟨r, 0, none⟩) n c xs := by
    refine ⟨⟨es, ?_, hel.1.symm, fun j v L h1 h2 => (hel.2 j L v h2 h1).2.1⟩, by rw [hel.1]; exact hn, nilOk_some _ _, hnc⟩
    exact .inr ⟨r, 0, rfl, hr, fun j v hv => by rw [Nat.zero_add]; exact hcell j v hv⟩
  have hfl : xs.flatten.length ≤ 1000 := by rw [List.length_flatten]; exact hpre
  have hasc : ∀ L ∈ xs, Mg.Asc Mg.ltF L := fun L hL => by
    obtain ⟨j, hj⟩ := List.mem_iff_getElem?.1 hL
    have hj2 : j < es.length := by rw [← hel.1]; exact (List.getElem?_eq_some_iff.1 hj).1
    exact (hel.2 j L es[j] hj (List.getElem?_eq_getElem hj2)).1
  have HK := Lib.hid (kWay_any r 0 n c xs w hn0 (by omega) hLs hfl hasc)
  unfold KwEnd at HK
  have HM := Lib.hid hmb
  have hml := hmb.lt
  have HSZ : Hid (xs.flatten.length = (mrgT xs).length) := by show _ = _; unfold mrgT; rw [srtP_len]
  have HAS : Hid (Mg.Asc Mg.ltF (mrgT xs)) := Mg.srt_asc (Mg.swK _) _
  rw [← HSZ.out] at hs
  obtain ⟨N, hN⟩ : ∃ N, xs.flatten.length = N := ⟨_, rfl⟩
  have HSZ2 : Hid (N = (mrgT xs).length) := by show _ = _; rw [← hN]; exact HSZ.out
  rw [hN] at hs HK
  obtain ⟨X, hX⟩ : ∃ X, mrgT xs = X := ⟨_, rfl⟩
  have hX2 : Mg.srtP xs.flatten = X := hX
  rw [hX2] at HK
  rw [hX] at HSZ2 HAS ⊢
  rw [← HSZ2.out]
  clear hmb hLs hasc hfl hpre hel hcell hfar hN hX hX2 HSZ
  go_enter Try.func23, Try.ntmps23
  go_wp2_with fail
  refine HK.out.mono ?_
  rintro e w1 ⟨g1, c1, rfl, ho, hb⟩
  have HO := Lib.hid ho; have HB := Lib.hid hb
  have HM1 := Lib.hid (HM.out.below hb)
  have hg1 := ho.lt g1 rfl
  have cm := HM1.out.cell
  have fm := HM1.out.fr
  have HM2 := Lib.hid (HM1.out.set (s + N))
  have hgs := setcell_grown w1 mb 0 (.int .i64 ((s + N : Nat) : Int))
  have HO2 := Lib.hid (own_other ho hgs (fun k hk e => by injection hk with hk; injection e with e; have h9 : g1 = k := hk; omega))
  have HG2 := Lib.hid (grown_trans (grown_of_below (row := some mb) hb) hgs)
  have hsz := hb.size
  clear ho hb hgs HK HM
  go_wp2
  go_ret
  refine ⟨.slice (some ⟨g1, 0, none⟩) N c1, rfl, ⟨HAS.out, ⟨some ⟨g1, 0, none⟩, c1, by rw [HSZ2.out], ?_⟩, fun b hb => ?_⟩, HM2.out, HG2.out, fun b hb => ?_⟩
  · have := rd_own HO2.out
    rw [← HSZ2.out]
    exact this
  · injection hb with hb; have : g1 = b := hb; have h2 := HO2.out.lt g1 rfl; rw [← this]; exact h2.2
  · injection hb with hb; have : g1 = b := hb; omega

set_option maxRecDepth 100000 in
set_option maxHeartbeats 4000000 in
theorem fvI (mb : Nat) : Fv OkI List.sum (fun x => x) (fun xs => Ply.wt (fun x => x) xs ≤ 1000) 33 mb := by
  refine ⟨fun w r n c xs es s hn hn0 hn8 hnc hcell hr hrm hel hfar hpre hmb hs => ?_⟩
  have hpre2 : xs.sum ≤ 1000 := by
    have : Ply.wt (fun x => x) xs = xs.sum := by simp [Ply.wt]
    omega
  have hI : IntsAt w (some ⟨r, 0, none⟩) (iN xs) := by
    refine .inr ⟨r, 0, rfl, hr, fun j hj => ?_⟩
    rw [iN_len] at hj
    have hj2 : j < es.length := by rw [← hel.1]; exact hj
    have h1 : es[j] = .int .i64 (xs[j] : Nat) := hel.2 j xs[j] es[j] (List.getElem?_eq_getElem hj) (List.getElem?_eq_getElem hj2)
    rw [Nat.zero_add, hcell j es[j] (List.getElem?_eq_getElem hj2), h1, iN_get, List.getD_eq_getElem?_getD, List.getElem?_eq_getElem hj]; rfl
  have hlx : xs.length = n := by rw [hel.1]; exact hn
  have HS := Lib.hid (fun W (hW : Below w.heap.size w W) => sumN_any (some ⟨r, 0, none⟩) c n xs W hlx (by omega) (by omega) (hI.below (Nat.le_refl _) hW))
  have HSG := Lib.hid (fun W (hW : w.grownBy W (some mb)) => sumN_any (some ⟨r, 0, none⟩) c n xs W hlx (by omega) (by omega) (hI.grown hW (fun b off e e2 => by injection e with e; injection e with e _ _; injection e2 with e2; omega)))
  obtain ⟨N, hN⟩ : ∃ N, xs.sum = N := ⟨_, rfl⟩
  rw [hN] at HS HSG hs hpre2
  have HM := Lib.hid hmb
  have hml := hmb.lt
  show Calls _ _ _ _ fun e w' => ∃ v', e = .returned v' ∧ v' = .int .i64 (xs.sum : Nat) ∧ _ ∧ _ ∧ _
  rw [hN]
  clear hmb hI hel hcell hfar hpre hN hn hlx
  go_enter Try.func33, Try.ntmps33
  go_wp2_with fail
  have cm := HM.out.cell
  have fm := HM.out.fr
  have hwp : IntKind.i64.wrap ((s : Int) + (N : Int)) = (s : Int) + (N : Int) := by simp [IntKind.wrap, IntKind.bits, IntKind.signed]; omega
  go_region_law (first
    | (go_simp; go_at_call 34
       refine (HS.out w.drew (Below.refl _ _).drew).mono ?_
       rintro e w1 ⟨rfl, hb⟩
       have HB := Lib.hid hb
       have HM1 := Lib.hid (HM.out.below ((Below.refl w.heap.size w).drew.trans hb))
       have c1 := HM1.out.cell
       have f1 := HM1.out.fr
       clear hb))
  all_goals
    have HM2 := Lib.hid (HM1.out.set (s + N))
    have HG2 := Lib.hid (grown_trans (grown_of_below (row := some mb) ((Below.refl w.heap.size w).drew.trans HB.out)) (setcell_grown w1 mb 0 (.int .i64 ((s + N : Nat) : Int))))
    have HS2 := Lib.hid (HSG.out _ HG2.out)
    clear HM1 c1 f1
    go_wp2_with fail
    refine HS2.out.mono ?_
    rintro e w2 ⟨rfl, hb2⟩
    have HM3 := Lib.hid (HM2.out.below hb2)
    have HG3 := Lib.hid (grown_trans HG2.out (grown_of_below (row := some mb) hb2))
    clear hb2 HM2 HG2
    go_wp2
    go_ret
    exact ⟨_, rfl, rfl, HM3.out, HG3.out, fun b hb => by cases hb⟩
end Go.Proofs.Ytcdfinkefahloaa

namespace Go.Proofs.Ytcdfinkefahloaa.Ply
set_option linter.unusedVariables false

section
variable {β : Type} (du re : List Nat) (Ls : List β) (e0 : β)
def ldAt (i : Nat) : List β := List.replicate (du.getD i 0) e0 ++ (Ls.drop ((re.take i).sum)).take (re.getD i 0)
/-- The first i tapes are loaded. -/
def loadTo (k i : Nat) : List (List β) := (List.range k).map fun j => if j < i then ldAt du re Ls e0 j else []
end
section
variable {β : Type} {du re : List Nat} {Ls : List β} {e0 : β} {k : Nat} {sz : β → Nat}
theorem load_len (i : Nat) : (loadTo du re Ls e0 k i).length = k := by simp [loadTo]
theorem load_get {i j : Nat} (hj : j < k) : (loadTo du re Ls e0 k i).getD j [] = if j < i then ldAt du re Ls e0 j else [] := map_range_get _ _ hj
theorem load_zero : loadTo du re Ls e0 k 0 = List.replicate k [] := by
  refine ext_getD [] (by simp [loadTo]) (fun j hj => ?_)
  rw [load_len] at hj
  rw [load_get hj, if_neg (by omega), List.getD_eq_getElem?_getD, List.getElem?_replicate, if_pos hj]; rfl
theorem load_succ {i : Nat} (hi : i < k) : loadTo du re Ls e0 k (i + 1) = (loadTo du re Ls e0 k i).set i (ldAt du re Ls e0 i) := by
  refine ext_getD [] (by simp [loadTo]) (fun j hj => ?_)
  rw [load_len] at hj
  rw [load_get hj, set_getD (by rw [load_len]; exact hi), load_get hj]
  by_cases e : j = i
  · subst e; rw [if_pos rfl, if_pos (by omega)]
  · rw [if_neg e]
    by_cases h : j < i
    · rw [if_pos h, if_pos (by omega)]
    · rw [if_neg h, if_neg (by omega)]
theorem off_le {i : Nat} (h : re.sum = Ls.length) : (re.take i).sum + re.getD i 0 ≤ Ls.length := by
  rw [← h]
  by_cases hi : i < re.length
  · conv => rhs; rw [← List.take_append_drop (i + 1) re]
    rw [List.sum_append, List.take_succ_eq_append_getElem hi, List.sum_append, List.getD_eq_getElem?_getD, List.getElem?_eq_getElem hi]
    simp
  · rw [List.getD_eq_getElem?_getD, List.getElem?_eq_none (by omega), List.take_of_length_le (by omega)]; simp
theorem ld_len {i : Nat} (h : re.sum = Ls.length) : (ldAt du re Ls e0 i).length = du.getD i 0 + re.getD i 0 := by
  have := off_le (i := i) h
  unfold ldAt
  rw [List.length_append, List.length_replicate, List.length_take, List.length_drop]
  omega
theorem getD_appl {γ : Type} {l r : List γ} {j : Nat} {d : γ} (h : j < l.length) : (l ++ r).getD j d = l.getD j d := by
  rw [List.getD_eq_getElem?_getD, List.getElem?_append_left h, List.getD_eq_getElem?_getD]
theorem getD_appr {γ : Type} {l : List γ} {x : γ} {j : Nat} {d : γ} (h : j = l.length) : (l ++ [x]).getD j d = x := by
  subst h
  rw [List.getD_eq_getElem?_getD, List.getElem?_append_right (Nat.le_refl _), Nat.sub_self]; rfl
theorem load_cnt {tapes runs : Nat} (ht : 3 ≤ tapes) (hn : Ls.length = runs) (hs : re.sum = runs) (hre : (dumF tapes runs).1 = re) (hdu : (dumF tapes runs).2 = du) : cnt (loadTo du re Ls e0 tapes (tapes - 1)) = startC tapes runs := by
  refine ext_getD 0 ?_ (fun j hj => ?_)
  · rw [cnt_len, load_len]; unfold startC; simp; omega
  · rw [cnt_len, load_len] at hj
    rw [cnt_get, load_get hj]
    unfold startC
    rw [hre, hdu]
    by_cases h : j < tapes - 1
    · rw [if_pos h, ld_len (by rw [hs, hn]), getD_appl (by simpa using h), map_range_get _ _ h]; omega
    · have : j = tapes - 1 := by omega
      subst this
      rw [if_neg (by omega), getD_appr (by simp)]; rfl
theorem wt_take_drop (sz : β → Nat) (L : List β) (a b : Nat) : wt sz (L.take a) + wt sz ((L.drop a).take b) = wt sz (L.take (a + b)) := by
  rw [← wt_append, List.take_add]
theorem take_sum_succ {i : Nat} (hi : i < re.length) : (re.take (i + 1)).sum = (re.take i).sum + re.getD i 0 := by
  rw [List.take_succ_eq_append_getElem hi, List.sum_append, List.getD_eq_getElem?_getD, List.getElem?_eq_getElem hi]; simp
/-- Nothing is lost by loading. -/
theorem load_tot (he : sz e0 = 0) : ∀ i, i ≤ re.length → i ≤ k → tot sz (loadTo du re Ls e0 k i) = wt sz (Ls.take ((re.take i).sum))
  | 0, _, _ => by
    rw [load_zero]
    unfold tot
    rw [List.map_replicate]
    simp [wt]
  | i + 1, h1, h2 => by
    have ih := load_tot he i (by omega) (by omega)
    have hs := tot_set (sz := sz) (Q := loadTo du re Ls e0 k i) (i := i) (q := ldAt du re Ls e0 i) (by rw [load_len]; omega)
    rw [load_get (by omega), if_neg (by omega)] at hs
    have e1 : wt sz (ldAt du re Ls e0 i) = wt sz ((Ls.drop ((re.take i).sum)).take (re.getD i 0)) := by
      unfold ldAt
      rw [wt_append]
      have : wt sz (List.replicate (du.getD i 0) e0) = 0 := by
        unfold wt
        rw [List.map_replicate, he]
        generalize du.getD i 0 = n
        induction n with
        | zero => rfl
        | succ n ih => rw [List.replicate_succ, List.sum_cons, ih]
      omega
    have e2 : wt sz ([] : List β) = 0 := rfl
    have e3 := wt_take_drop sz Ls ((re.take i).sum) (re.getD i 0)
    rw [load_succ (by omega), take_sum_succ (by omega)]
    omega
end
section
variable {α : Type} {mrg : List α → α} {z : α} {sz : α → Nat}
/-- In a good state the other tapes are not empty, at each step of a phase. -/
theorem good_ne {f : Nat} {Q : List (List α)} (hG : GoodAt f (cnt Q)) {q : Nat} (hq : q < leF (cnt Q)) : ∀ j, j < (stepsF mrg z (emF (cnt Q)) Q q).length → j ≠ emF (cnt Q) → (stepsF mrg z (emF (cnt Q)) Q q).getD j [] ≠ [] := by
  intro j hj hne he
  rw [steps_len] at hj
  have h1 := steps_cnt (mrg := mrg) (z := z) (e := emF (cnt Q)) (Q := Q) (by have := hG.lt; rwa [cnt_len] at this) hj q
  rw [he, if_neg hne] at h1
  have h2 := hG.all j (by rw [cnt_len]; exact hj) hne
  rw [cnt_get] at h2
  have h3 : 0 = (Q.getD j []).length - q := h1
  omega
theorem steps_tot (hm : ∀ xs, sz (mrg xs) = wt sz xs) {f : Nat} {Q : List (List α)} (hG : GoodAt f (cnt Q)) : ∀ q, q ≤ leF (cnt Q) → tot sz (stepsF mrg z (emF (cnt Q)) Q q) = tot sz Q ∧ movedF mrg z sz (emF (cnt Q)) Q q ≤ q * tot sz Q
  | 0, _ => ⟨rfl, by simp [movedF]⟩
  | q + 1, h => by
    obtain ⟨h1, h2⟩ := steps_tot hm hG q (by omega)
    have hlt : emF (cnt Q) < Q.length := by have := hG.lt; rwa [cnt_len] at this
    obtain ⟨h3, h4⟩ := tot_step (mrg := mrg) (z := z) (sz := sz) hm (e := emF (cnt Q)) (Q := stepsF mrg z (emF (cnt Q)) Q q) (by rw [steps_len]; exact hlt) (good_ne hG (by omega))
    rw [h1] at h3 h4
    refine ⟨by rw [stepsF, h3], ?_⟩
    rw [movedF, hm, Nat.add_mul, Nat.one_mul]
    rw [steps_len] at h4
    omega
theorem le_100 {f : Nat} {c : List Nat} (hG : GoodAt f c) (h3 : 3 ≤ c.length) (hs : c.sum ≤ 100) : leF c ≤ 100 := by
  have key : ∀ (l : List Nat) (i : Nat), l.getD i 0 ≤ l.sum := by
    intro l
    induction l with
    | nil => intro i; simp
    | cons x t ih =>
      intro i
      cases i with
      | zero => simp
      | succ i => have := ih i; rw [List.getD_cons_succ, List.sum_cons]; omega
  obtain ⟨j, hj, hne⟩ : ∃ j, j < c.length ∧ j ≠ emF c := by
    by_cases h0 : emF c = 0
    · exact ⟨1, by omega, by omega⟩
    · exact ⟨0, by omega, by omega⟩
  have := hG.all j hj hne
  have := key c j
  omega
theorem poly_le (hm : ∀ xs, sz (mrg xs) = wt sz xs) : ∀ (f : Nat) (Q : List (List α)), good f (cnt Q) = true → 3 ≤ Q.length → (polyF mrg z sz f Q).2.2 ≤ f * (100 * tot sz Q)
  | 0, Q, h, _ => by cases h
  | f + 1, Q, h, h3 => by
    by_cases h1 : (cnt Q).sum = 1
    · rw [poly_end h1]; exact Nat.zero_le _
    · have hG := good_at h h1
      have hl := le_100 hG (by rw [cnt_len]; exact h3) (good_sum h)
      obtain ⟨h4, h5⟩ := steps_tot (mrg := mrg) (z := z) (sz := sz) hm hG (leF (cnt Q)) (Nat.le_refl _)
      have hlt : emF (cnt Q) < Q.length := by have := hG.lt; rwa [cnt_len] at this
      have hz : (Q.getD (emF (cnt Q)) []).length = 0 := by have := hG.zero; rwa [cnt_get] at this
      have ih := poly_le hm f (stepsF mrg z (emF (cnt Q)) Q (leF (cnt Q))) (by rw [steps_after hlt hz]; exact hG.next) (by rw [steps_len]; exact h3)
      rw [h4] at ih
      rw [polyF, if_neg h1]
      show movedF mrg z sz (emF (cnt Q)) Q (leF (cnt Q)) + _ ≤ _
      have h6 : leF (cnt Q) * tot sz Q ≤ 100 * tot sz Q := Nat.mul_le_mul_right _ hl
      rw [Nat.add_mul, Nat.one_mul]
      omega
end
section
variable {α : Type} {mrg : List α → α} {z : α} {sz : α → Nat}
theorem tot_flatten (Q : List (List α)) : tot sz Q = wt sz Q.flatten := by
  induction Q with
  | nil => rfl
  | cons q t ih =>
    rw [List.flatten_cons, wt_append, ← ih]
    unfold tot
    rw [List.map_cons, List.sum_cons]
theorem poly_tot (hm : ∀ xs, sz (mrg xs) = wt sz xs) : ∀ (f : Nat) (Q : List (List α)), good f (cnt Q) = true → tot sz (polyF mrg z sz f Q).1 = tot sz Q
  | 0, Q, h => by cases h
  | f + 1, Q, h => by
    by_cases h1 : (cnt Q).sum = 1
    · rw [poly_end h1]
    · have hG := good_at h h1
      obtain ⟨h4, h5⟩ := steps_tot (mrg := mrg) (z := z) (sz := sz) hm hG (leF (cnt Q)) (Nat.le_refl _)
      have hlt : emF (cnt Q) < Q.length := by have := hG.lt; rwa [cnt_len] at this
      have hz : (Q.getD (emF (cnt Q)) []).length = 0 := by have := hG.zero; rwa [cnt_get] at this
      have ih := poly_tot hm f (stepsF mrg z (emF (cnt Q)) Q (leF (cnt Q))) (by rw [steps_after hlt hz]; exact hG.next)
      rw [h4] at ih
      rw [polyF, if_neg h1]
      exact ih
end
end Go.Proofs.Ytcdfinkefahloaa.Ply

namespace Go.Proofs.Ytcdfinkefahloaa
open Go.RowKit
set_option linter.unusedVariables false

/-- A fresh queue, from block L on; its elements lie below B or from L on, each in another block. -/
structure QB {α : Type} (Ok : World → α → Value → Prop) (w : World) (B L : Nat) (e : TypeId) (q : Value) (es : List Value) (Qs : List α) : Prop where
  own : w.ownsRow L e 1 q es.length es
  ob : ∃ b, q.ownBlock = some b
  el : All2 (Ok w) Qs es
  ef : ∀ x ∈ es, ∀ b, x.ownBlock = some b → q.ownBlock ≠ some b ∧ (b < B ∨ L ≤ b)
section
variable {α : Type} {Ok : World → α → Value → Prop} {w w' : World} {B L : Nat} {tt e : TypeId} {g k c : Nat} {vs : List Value} {es : List (List Value)} {Q : List (List α)} {q : Value} {es1 : List Value} {qs : List α}
theorem QB.below (E : ElOk Ok) (h : QB Ok w B L e q es1 qs) (hb : Below w.heap.size w w') : QB Ok w' B L e q es1 qs :=
  ⟨own_below h.own (Nat.le_refl _) hb, h.ob, h.el.imp (fun x v hv ho => E.kept ho (grown_of_below (row := none) hb) (fun b _ e => nomatch e)), h.ef⟩
theorem QB.lt (h : QB Ok w B L e q es1 qs) {b : Nat} (hb : q.ownBlock = some b) : L ≤ b ∧ b < w.heap.size := h.own.lt b hb
theorem QB.app (E : ElOk Ok) (h : QB Ok w B L e q es1 qs) {y : α} {x q' : Value} (hx : Ok w y x) (hxf : ∀ b, x.ownBlock = some b → q.ownBlock ≠ some b ∧ (b < B ∨ L ≤ b)) (ho : w'.ownsRow L e 1 q' (es1.length + 1) (es1 ++ [x])) (hg : w.grownBy w' q.ownBlock)
    (ht : q'.ownBlock = q.ownBlock ∨ q'.ownBlock = some (w.heap.size + 1)) : QB Ok w' B L e q' (es1 ++ [x]) (qs ++ [y]) := by
  have hne : ∀ b, b < w.heap.size → q.ownBlock ≠ some b → q'.ownBlock ≠ some b := fun b hb hn e1 => by
    rcases ht with h1 | h1
    · exact hn (by rw [← h1]; exact e1)
    · rw [h1] at e1; injection e1 with e1; omega
  refine ⟨by rw [List.length_append]; exact ho, ?_, ?_, fun u hu b hb => ?_⟩
  · rcases ht with h1 | h1
    · exact h.ob.imp fun b hb => h1.trans hb
    · exact ⟨_, h1⟩
  · exact (h.el.imp (fun x v hv hok => E.kept hok hg (fun b hb => (h.ef v hv b hb).1))).snoc (E.kept hx hg (fun b hb => (hxf b hb).1))
  · rcases List.mem_append.1 hu with hu | hu
    · obtain ⟨y2, hy2⟩ := h.el.mem_ok hu
      exact ⟨hne b (E.lt hy2 hb) (h.ef u hu b hb).1, (h.ef u hu b hb).2⟩
    · simp at hu
      subst hu
      exact ⟨hne b (E.lt hx hb) (hxf b hb).1, (hxf b hb).2⟩
theorem QB.nil (hL : L ≤ w.heap.size) (hw : (w.alloc (.cells #[] e)).ownsRow w.heap.size e 1 q 0 []) (hq : q.ownBlock = some w.heap.size) : QB Ok (w.alloc (.cells #[] e)) B L e q [] [] :=
  ⟨own_mono hw hL, ⟨_, hq⟩, All2.nil, fun x hx => nomatch hx⟩
theorem getD_app {β : Type} {l : List β} {x z : β} {j k : Nat} (hl : l.length = k) (hj : j < k + 1) : (l ++ [x]).getD j z = if j = k then x else l.getD j z := by
  subst hl
  rw [List.getD_eq_getElem?_getD, List.getD_eq_getElem?_getD]
  by_cases h : j = l.length
  · subst h; simp
  · rw [if_neg h, List.getElem?_append_left (by omega)]
/-- A queue is set down behind the others. -/
theorem TS.snoc (E : ElOk Ok) (h : TS Ok w B tt e g k c vs es Q) (hLT : g < L ∧ ∀ i, i < k → ∀ b, (vs.getD i undef).ownBlock = some b → b < L) (hLE : ∀ i, i < k → ∀ x ∈ es.getD i [], ∀ b, x.ownBlock = some b → b < L) (hq : QB Ok w B L e q es1 qs) (hBL : B ≤ L) {g' c' : Nat} (ho : w'.ownsRow B tt 1 (.slice (some ⟨g', 0, none⟩) (k + 1) c') (k + 1) (vs ++ [q])) (hg : w.grownBy w' (some g))
    (hg' : g' = g ∨ w.heap.size ≤ g') : TS Ok w' B tt e g' (k + 1) c' (vs ++ [q]) (es ++ [es1]) (Q ++ [qs]) := by
  have gv : ∀ j, j < k + 1 → (vs ++ [q]).getD j undef = if j = k then q else vs.getD j undef := fun j hj => getD_app h.lv hj
  have ge : ∀ j, j < k + 1 → (es ++ [es1]).getD j [] = if j = k then es1 else es.getD j [] := fun j hj => getD_app h.le hj
  have gq : ∀ j, j < k + 1 → (Q ++ [qs]).getD j [] = if j = k then qs else Q.getD j [] := fun j hj => getD_app h.lq hj
  obtain ⟨l1, l2, l3⟩ := h.lt E
  obtain ⟨q0, hq0⟩ := hq.ob
  have hq1 := hq.lt hq0
  have hgB := (h.row.lt g rfl).1
  have hvq : ∀ j, j < k → ∀ b, (vs.getD j undef).ownBlock = some b → q.ownBlock ≠ some b := fun j hj b hb e1 => by
    have := hLT.2 j hj b hb
    have := (hq.lt e1).1
    omega
  have hqg : q.ownBlock ≠ some g := fun e1 => by have := (hq.lt e1).1; have := hLT.1; omega
  have hne : ∀ b, b < w.heap.size → b ≠ g → b ≠ g' := fun b hb hn => by rcases hg' with h1 | h1 <;> omega
  have hxl : ∀ x ∈ es1, ∀ b, x.ownBlock = some b → b < w.heap.size ∧ b ≠ g ∧ ∀ j, j < k → (vs.getD j undef).ownBlock ≠ some b := fun x hx b hb => by
    obtain ⟨y2, hy2⟩ := hq.el.mem_ok hx
    have h1 := E.lt hy2 hb
    have h2 := (hq.ef x hx b hb).2
    refine ⟨h1, fun e1 => ?_, fun j hj e1 => ?_⟩
    · have := hLT.1; omega
    · have := hLT.2 j hj b e1; have := (l2 j hj b e1).1; omega
  refine ⟨ho, by rw [List.length_append, h.le]; rfl, by rw [List.length_append, h.lq]; rfl, fun j hj => ?_, fun a b d ha hb hab h1 => ?_, fun j hj => ?_, fun j hj => ?_, fun j hj u hu b hb => ?_⟩
  · rw [gv j hj, ge j hj]
    by_cases e1 : j = k
    · rw [if_pos e1, if_pos e1]
      exact ((QRow.of_own hq.own).mono hBL).kept hg (fun b hb e2 => by injection e2 with e2; subst e2; exact hqg hb)
    · rw [if_neg e1, if_neg e1]
      exact (h.q j (by omega)).kept hg (fun b hb e2 => by injection e2 with e2; subst e2; exact h.row0 j (by omega) hb)
  · rw [gv a ha] at h1
    rw [gv b hb]
    by_cases e1 : a = k
    · rw [if_pos e1] at h1
      rw [if_neg (fun e => hab (e1.trans e.symm))]
      exact fun e2 => hvq b (by omega) d e2 h1
    · rw [if_neg e1] at h1
      by_cases e2 : b = k
      · rw [if_pos e2]; exact hvq a (by omega) d h1
      · rw [if_neg e2]; exact h.far a b d (by omega) (by omega) hab h1
  · rw [gv j hj]
    by_cases e1 : j = k
    · rw [if_pos e1]
      intro e2
      have := (hq.lt e2).2
      have := hne g' this (fun e3 => hqg (by rw [← e3]; exact e2))
      exact this rfl
    · rw [if_neg e1]
      intro e2
      have h2 := (l2 j (by omega) g' e2).2
      exact hne g' h2 (fun e3 => h.row0 j (by omega) (by rw [← e3]; exact e2)) rfl
  · rw [gq j hj, ge j hj]
    by_cases e1 : j = k
    · rw [if_pos e1, if_pos e1]
      exact hq.el.imp (fun x v hv hok => E.kept hok hg (fun b hb e2 => (hxl v hv b hb).2.1 (by injection e2 with e2; exact e2.symm)))
    · rw [if_neg e1, if_neg e1]
      exact (h.el j (by omega)).imp (fun x v hv hok => E.kept hok hg (fun b hb e2 => (h.elf j (by omega) v hv b hb).1 (by injection e2 with e2; exact e2.symm)))
  · have hold : b < w.heap.size ∧ b ≠ g ∧ (∀ j, j < k → (vs.getD j undef).ownBlock ≠ some b) ∧ q.ownBlock ≠ some b := by
      rw [ge j hj] at hu
      by_cases e1 : j = k
      · rw [if_pos e1] at hu
        exact ⟨(hxl u hu b hb).1, (hxl u hu b hb).2.1, (hxl u hu b hb).2.2, (hq.ef u hu b hb).1⟩
      · rw [if_neg e1] at hu
        have hj2 : j < k := by omega
        refine ⟨l3 j hj2 u hu b hb, (h.elf j hj2 u hu b hb).1, (h.elf j hj2 u hu b hb).2, fun e2 => ?_⟩
        have := hLE j hj2 u hu b hb
        have := (hq.lt e2).1
        omega
    refine ⟨hne b hold.1 hold.2.1, fun j2 hj2 => ?_⟩
    rw [gv j2 hj2]
    by_cases e1 : j2 = k
    · rw [if_pos e1]; exact hold.2.2.2
    · rw [if_neg e1]; exact hold.2.2.1 j2 (by omega)
end
/-- No tapes yet. -/
theorem ts_none {α : Type} {Ok : World → α → Value → Prop} {w : World} {B : Nat} {tt e : TypeId} {g c : Nat} (h : w.ownsRow B tt 1 (.slice (some ⟨g, 0, none⟩) 0 c) 0 []) : TS Ok w B tt e g 0 c [] [] [] :=
  ⟨h, rfl, rfl, fun i hi => by omega, fun i j b hi => by omega, fun i hi => by omega, fun i hi => by omega, fun i hi => by omega⟩
/-- The tapes one by one. -/
def loadL {β : Type} (du re : List Nat) (Ls : List β) (e0 : β) (i : Nat) : List (List β) := (List.range i).map (Ply.ldAt du re Ls e0)
theorem loadL_succ {β : Type} {du re : List Nat} {Ls : List β} {e0 : β} {i : Nat} : loadL du re Ls e0 (i + 1) = loadL du re Ls e0 i ++ [Ply.ldAt du re Ls e0 i] := by
  unfold loadL; rw [List.range_succ, List.map_append]; rfl
theorem loadL_end {β : Type} {du re : List Nat} {Ls : List β} {e0 : β} {k : Nat} : loadL du re Ls e0 k ++ [[]] = Ply.loadTo du re Ls e0 (k + 1) k := by
  unfold loadL Ply.loadTo
  rw [List.range_succ, List.map_append]
  congr 1
  · refine List.map_congr_left (fun j hj => ?_)
    rw [if_pos (List.mem_range.1 hj)]
  · simp
end Go.Proofs.Ytcdfinkefahloaa

namespace Go.Proofs.Ytcdfinkefahloaa
open Go.RowKit
set_option linter.unusedVariables false

theorem flatten_take {β : Type} {l : List (List β)} {i : Nat} (h : i < l.length) : (l.take (i + 1)).flatten = (l.take i).flatten ++ l.getD i [] := by
  rw [List.take_succ_eq_append_getElem h, List.flatten_append, List.getD_eq_getElem?_getD, List.getElem?_eq_getElem h]; simp
theorem flatten_take_le {β : Type} (l : List (List β)) (i : Nat) : (l.take i).flatten.length ≤ l.flatten.length := by
  conv => rhs; rw [← List.take_append_drop i l]
  rw [List.flatten_append, List.length_append]; omega

set_option maxRecDepth 100000 in
set_option maxHeartbeats 4000000 in
theorem merge18_any (a : Option Addr) (n c : Nat) (xs : List (List (Int × Int))) (w : World) (hn : n ≤ 1000) (h : LsAt w a n c xs) (hfl : xs.flatten.length ≤ 1000) :
    Calls Try.prog 49 #[.slice a n c] w fun e w' => ∃ (g c' : Nat), e = .returned (.slice (some ⟨g, 0, none⟩) (mrgT xs).length c') ∧ w'.ownsRow w.heap.size 32 2 (.slice (some ⟨g, 0, none⟩) (mrgT xs).length c') (mrgT xs).length (flat encR (mrgT xs)) ∧ Below w.heap.size w w' := by
  have H := Lib.hid h; have HN := Lib.hid h.len
  have HFT := Lib.hid (fun i (hi : i < n) => flatten_take (l := xs) (i := i) (by rw [h.len]; exact hi))
  have HFL := Lib.hid (fun i => Nat.le_trans (flatten_take_le xs i) hfl)
  have HEND : Hid ((xs.take n).flatten = xs.flatten) := by show _ = _; rw [List.take_of_length_le (by rw [h.len]; exact Nat.le_refl _)]
  have HML : Hid ((mrgT xs).length = xs.flatten.length) := by show _ = _; unfold mrgT; rw [srtP_len]
  have E0 := Lib.hid (own_lit (w := w) (e := 32) (size := 2) #[] 0 (by omega) rfl)
  have HBA := Lib.hid (show Below w.heap.size w (w.alloc (.cells #[] 32)) from (Below.refl _ _).alloc (Nat.le_refl _) _)
  clear h hfl
  go_enter Try.func49, Try.ntmps49
  go_wp2
  go_loopw [3, 4] (fun v iv wx => ∃ (i m : Nat), iv = .int .i64 i ∧ i ≤ n ∧ m = ((xs.take i).flatten).length ∧ wx.ownsRow w.heap.size 32 2 v m (flat encR ((xs.take i).flatten)) ∧ (∃ b, v.ownBlock = some b) ∧ Below w.heap.size w wx) (fun _ iv _ => n - (intOf iv).toNat)
  case atStart => exact ⟨0, 0, rfl, by omega, rfl, E0.out, ⟨_, rfl⟩, HBA.out⟩
  case round =>
    obtain ⟨i, m, rfl, hi, hm, ho, hob, hb⟩ := hrel
    have HO := Lib.hid ho; have HB := Lib.hid hb; have HOB := Lib.hid hob; have HM := Lib.hid hm
    have hm1000 : m ≤ 1000 := by rw [hm]; exact HFL.out i
    clear ho hob hb hm E0 HBA
    by_cases hin : i < n
    · have h3 : decide ((i : Int) < (n : Int)) = true := decide_eq_true (by omega)
      have b0 : (0 : Int) ≤ (i : Int) := by omega
      have b1 : (i : Int) < (n : Int) := by omega
      obtain ⟨b, off, x, d, rfl, hc, hrd⟩ := (H.out.same HB.out).at hin
      have HRD := Lib.hid hrd
      have HF2 := Lib.hid (HFT.out i hin)
      have hle := HFL.out (i + 1)
      rw [HF2.out, List.length_append, ← HM.out] at hle
      obtain ⟨L, hL⟩ : ∃ L, xs.getD i [] = L := ⟨_, rfl⟩
      rw [hL] at hc HRD HF2 hle
      have hsm : m + L.length ≤ 1099511627776 := by omega
      have hsz := HB.out.size
      clear hrd hL
      go_wp2_with (at_builtin; refine wpList_appR slRec rfl _ _ rfl rfl HO.out rfl HRD.out.recs rfl HRD.out.nil hsm hsz ?_; intro v' w7 hown' hg' ht'; generalize hGG : wpList _ _ _ _ _ _ = GG)
      have HO7 := Lib.hid hown'
      have HB7 := Lib.hid (HB.out.grown hg' hsz (fun b e => (HO.out.lt b e).1))
      have HOB7 : Hid (∃ b, v'.ownBlock = some b) := by
        rcases ht' with h | h
        · exact HOB.out.imp fun b hb => h.trans hb
        · exact ⟨_, h⟩
      clear hown' hg' ht'
      rw [← hGG]
      clear hGG GG
      go_wp2
      go_roundw
      case rel => exact ⟨i + 1, m + L.length, by go_num, by omega, by rw [HF2.out, List.length_append, ← HM.out], by rw [HF2.out, flat_append]; exact HO7.out, HOB7.out, HB7.out⟩
      case measure => simp [intOf] <;> omega
    · obtain rfl : i = n := by omega
      have h3 : decide ((i : Int) < (i : Int)) = false := by simp
      rw [HEND.out] at HO HM
      obtain ⟨a3, c3, rfl⟩ := own_slice HO.out
      have HS : Hid (Calls Try.prog 15 #[.slice a3 m c3] wr (OwnR wr (srtR xs.flatten) m)) := by
        have := l2Stable_any w.heap.size a3 c3 xs.flatten wr (by rw [← HM.out]; exact hm1000) (by rw [← HM.out]; exact HO.out)
        rwa [← HM.out] at this
      unfold OwnR at HS
      go_wp2_with fail
      refine HS.out.mono ?_
      rintro e w5 ⟨g5, c5, rfl, ho5, hb5⟩
      have HO5 := Lib.hid (own_mono ho5 HB.out.size); have HB5 := Lib.hid (HB.out.trans (hb5.mono HB.out.size))
      have hlen : (mrgT xs).length = m := HML.out.trans HM.out.symm
      have HLEN := Lib.hid hlen
      clear ho5 hb5 hlen HS
      go_wp2
      go_ret
      exact ⟨g5, c5, by rw [HLEN.out]; rfl, by rw [HLEN.out]; exact HO5.out, HB5.out⟩
end Go.Proofs.Ytcdfinkefahloaa

