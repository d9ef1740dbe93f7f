/- Several texts in one: lemmas and walks of the functions that the laws reach. -/
import Derived.Test.YtpdndcnhgadgoaaY1
import Derived.Test.YtpdndcnhgadgoaaY0
import Derived.Shelf.Small.Wraps
import Derived.Ground.Names2Prog
import Derived.Shelf.Slices.SearchI
import Derived.Test.YtpdndcnhgadgoaaProg
import Derived.StillTailTactics
import Derived.BigRegion
import Derived.Deep.RegionHeld3

/- General lemmas: records behind a readable slice: appended to a list of the call's own; parts of them. -/
namespace Go.Proofs.Ytpdndcnhgadgoaa
open Go.RowKit
set_option linter.unusedVariables false

theorem recs_newsN {w : World} {x : Addr} {rs : List (Int × Int)} (h : RecsAt w (some x) rs) : ∀ j u, (flat encR rs)[j]? = some u → w.cell? (x.add j) = some u := by
  intro q u hu
  have hq : q < rs.length * 2 := by
    have := (List.getElem?_eq_some_iff.1 hu).1
    rwa [flat_length encR_len] at this
  rcases h with rfl | ⟨b, off, e, _, h2⟩
  · simp at hq
  · injection e with e
    subst e
    have hk : q / 2 < rs.length := by omega
    obtain ⟨g1, g2⟩ := h2 (q / 2) hk
    have hg := flat_get encR_len rs (q / 2) (q % 2) (Nat.mod_lt _ (by omega))
    have hqe : q / 2 * 2 + q % 2 = q := by omega
    rw [hqe, hu, List.getElem?_eq_getElem hk] at hg
    rw [List.getD_eq_getElem?_getD, List.getElem?_eq_getElem hk] at g1 g2
    have hadd : (⟨b, off, none⟩ : Addr).add q = ⟨b, off + q, none⟩ := by unfold Addr.add; split <;> simp_all
    rw [hadd]
    rcases Nat.mod_two_eq_zero_or_one q with h0 | h0
    · rw [h0] at hg
      simp [encR] at hg
      rw [show off + q = off + q / 2 * 2 by omega, g1, hg]; rfl
    · rw [h0] at hg
      simp [encR] at hg
      rw [show off + q = off + q / 2 * 2 + 1 by omega, g2, hg]; rfl
theorem recs_oneN {rs : List (Int × Int)} : ∀ u ∈ flat encR rs, u.oneCell' = true := by
  intro u hu
  unfold flat at hu
  obtain ⟨r, _, hr⟩ := List.mem_flatMap.1 hu
  simp [encR] at hr
  rcases hr with rfl | rfl <;> rfl

/-- A part of records. -/
theorem recs_part {w : World} {b off : Nat} {rs : List (Int × Int)} (h : RecsAt w (some ⟨b, off, none⟩) rs) (k m : Nat) : RecsAt w (some ⟨b, off + k * 2, none⟩) ((rs.drop k).take m) := by
  rcases h with rfl | ⟨b', off', e, hb, h2⟩
  · exact .inl (by simp)
  · injection e with e
    injection e with e1 e2
    subst e1 e2
    refine .inr ⟨b, off + k * 2, rfl, hb, fun j hj => ?_⟩
    have hj' : j < m ∧ k + j < rs.length := by simp at hj; omega
    obtain ⟨g1, g2⟩ := h2 (k + j) hj'.2
    have e : ((rs.drop k).take m).getD j (0, 0) = rs.getD (k + j) (0, 0) := by
      simp only [List.getD_eq_getElem?_getD, List.getElem?_take, List.getElem?_drop, if_pos hj'.1]
    rw [e, show off + k * 2 + j * 2 = off + (k + j) * 2 by omega]
    exact ⟨g1, g2⟩
theorem recs_drop {w : World} {b off : Nat} {rs : List (Int × Int)} (h : RecsAt w (some ⟨b, off, none⟩) rs) (k : Nat) : RecsAt w (some ⟨b, off + k * 2, none⟩) (rs.drop k) := by
  have := recs_part h k rs.length
  rwa [List.take_of_length_le (by simp)] at this
theorem recs_take {w : World} {a : Option Addr} {rs : List (Int × Int)} (h : RecsAt w a rs) (m : Nat) : RecsAt w a (rs.take m) := by
  rcases h with rfl | ⟨b, off, e, hb, h2⟩
  · exact .inl (by simp)
  · subst e
    have := recs_part (.inr ⟨b, off, rfl, hb, h2⟩) 0 m
    simpa using this
theorem recs_tail {w : World} {b off : Nat} {r : Int × Int} {rs : List (Int × Int)} (h : RecsAt w (some ⟨b, off, none⟩) (r :: rs)) : RecsAt w (some ⟨b, off + 2, none⟩) rs := by
  have := recs_drop h 1
  simpa using this
theorem recs_head {w : World} {b off : Nat} {r : Int × Int} {rs : List (Int × Int)} (h : RecsAt w (some ⟨b, off, none⟩) (r :: rs)) : w.cell? ⟨b, off, none⟩ = some (.int .i64 r.1) ∧ w.cell? ⟨b, off + 1, none⟩ = some (.int .i64 r.2) := by
  rcases h with h | ⟨b', off', e, hb, h2⟩
  · cases h
  · injection e with e
    injection e with e1 e2
    subst e1 e2
    have := h2 0 (by simp)
    simpa using this
theorem recs_addr {w : World} {a : Option Addr} {rs : List (Int × Int)} (h : RecsAt w a rs) (hn : 0 < rs.length) : ∃ b off, a = some ⟨b, off, none⟩ ∧ b < w.heap.size := by
  rcases h with rfl | ⟨b, off, e, hb, _⟩
  · simp at hn
  · exact ⟨b, off, e, hb⟩

/-- A slice without an address has no room. -/
def NilOk (a : Option Addr) (c : Nat) : Prop := a = none → c = 0
theorem nilOk_some (x : Addr) (c : Nat) : NilOk (some x) c := fun h => by cases h
theorem nilOk_own {w : World} {B : Nat} {e : TypeId} {size n c : Nat} {a : Option Addr} {xs : List Value} (h : w.ownsRow B e size (.slice a n c) n xs) : NilOk a c := by
  intro ha
  subst ha
  rcases h.2 with ⟨hv, _⟩ | ⟨g, cap, cur, hv, _⟩
  · injection hv
  · injection hv with h1; cases h1

/-- 'append(s, u...)', u records that can be read. -/
theorem wpList_appR {P : Program} {w : World} {ops : Array Oper} {rest : List Oper} {o : Oper} {a : Act} {Q : Exit → Act → World → Prop} {t e : TypeId} {z : Value} {bytes : Nat} (T : SlT P t e z 2 bytes)
    (hgd : o.guard = none) (s y : Operand) (ho : o.op = .call { callee := .builtin .append, args := #[s, y], argTypes := #[t, t] })
    {base : Nat} {v : Value} {n m c : Nat} {xs : List Value} {x : Option Addr} {rs : List (Int × Int)} (hs : a.eval s = v) (hown : w.ownsRow base e 2 v n xs) (hy : a.eval y = .slice x m c) (hu : RecsAt w x rs) (hm : rs.length = m) (hx : NilOk x c)
    (hsmall : n + m ≤ 1099511627776) (hbase : base ≤ w.heap.size)
    (h : ∀ v' w', w'.ownsRow base e 2 v' (n + m) (xs ++ flat encR rs) → w.grownBy w' v.ownBlock → (v'.ownBlock = v.ownBlock ∨ v'.ownBlock = some w.heap.size) → wpList P ops Q rest (a.put o.dst v') w') :
    wpList P ops Q (o :: rest) a w := by
  cases x with
  | none =>
    have hr : rs = [] := by
      rcases hu with h | ⟨_, _, e, _⟩
      · exact h
      · cases e
    subst hr
    obtain rfl : c = 0 := hx rfl
    obtain rfl : m = 0 := hm.symm
    obtain ⟨i, hi, hz, hsz, hby⟩ := T.info
    refine wpList_append_own_none hgd s y t ho base e i 2 T.und hi v n xs hs hown hy ?_
    refine h v w (by simpa [flat] using hown) ⟨rfl, rfl, rfl, Nat.le_refl _, fun _ _ _ => rfl⟩ (.inl rfl)
  | some p =>
    refine wpList_plain hgd fun K hK => ?_
    obtain ⟨v', w', hr, h2, h3, h4⟩ := run_app_tag (P := P) w T base o.type v n xs hown p m c (flat encR rs) (by rw [flat_length encR_len, hm]) (recs_newsN hu) recs_oneN hsmall hbase
    unfold Oper.wp execOp
    simp only [ho, resolve, invoke, builtin, Sem.run_bind, Sem.run_pure, Result.andThen_ok, List.map_toArray, List.map_cons, List.map_nil, hs, hy, hr]
    exact hK _ _ (h v' w' h2 h3 h4)

end Go.Proofs.Ytpdndcnhgadgoaa

/- Walks: the test of a great code, the cursor's start. -/
namespace Go.Proofs.Ytpdndcnhgadgoaa
open Go.RowKit
set_option linter.unusedVariables false

set_option maxHeartbeats 400000 in
theorem vBigG_any (a : Option Addr) (n c : Nat) (w : World) (hn : n ≤ 9223372036854775807) :
    Calls Try.prog 4 #[.slice a n c] w fun e w' => e = .returned (.bool (decide (65536 < n))) ∧ w = w' := by
  by_cases h : 65536 < n
  all_goals
    go_enter Try.func4, Try.ntmps4
    go_wp2
    go_ret
    exact ⟨ret_bool (by simp [h]; try omega), rfl⟩

/-- The cursor at the start of a draw. -/
theorem cur_start {w : World} {ac : Option Addr} {c : Nat} {cs : List Int} (hl : cs.length ≤ 65537) (h : BytesAt w ac cs) :
    Cur (w.alloc (.cells #[.slice ac cs.length c, .int .i64 0, .int .u64 0] 40)) w.heap.size ac cs 0 ∧ (cs ≠ [] → ∀ b off, ac = some ⟨b, off, none⟩ → b < w.heap.size) ∧
      Below w.heap.size w (w.alloc (.cells #[.slice ac cs.length c, .int .i64 0, .int .u64 0] 40)) := by
  have HB : Below w.heap.size w (w.alloc (.cells #[.slice ac cs.length c, .int .i64 0, .int .u64 0] 40)) := (Below.refl _ _).alloc (Nat.le_refl _) _
  have HO : cs ≠ [] → ∀ b off, ac = some ⟨b, off, none⟩ → b < w.heap.size := fun h0 b off e => by
    obtain ⟨b', off', e', hb⟩ := h.lt h0
    rw [e] at e'; injection e' with e'; injection e' with e' _; omega
  exact ⟨⟨⟨c, 0, 0, block_new w _, by omega, by omega⟩, h.below (Nat.le_refl _) HB, fun h0 b off e => by have := HO h0 b off e; omega, by omega⟩, HO, HB⟩

end Go.Proofs.Ytpdndcnhgadgoaa

/- Walks: records arranged by the reference, stably; the draw of FirstDescent and of ProfileOf. -/
namespace Go.Proofs.Ytpdndcnhgadgoaa
open Go.RowKit Go.Sort
set_option linter.unusedVariables false

/-- Records by their keys, stably. -/
def srtR (l : List (Int × Int)) : List (Int × Int) := Mg.srt (Mg.ltK Prod.fst) l
theorem srtR_len (l : List (Int × Int)) : (srtR l).length = l.length := Mg.srt_length l
theorem srtR_start (zs : List (Int × Int)) : zs = srtR (zs.take 1) ++ zs.drop 1 := by
  cases zs with
  | nil => rfl
  | cons a t => simp [srtR, Mg.srt_one]
theorem insR_start {zs : List (Int × Int)} {i : Nat} (hi : i < zs.length) : srtR (zs.take i) ++ zs.drop i = Mg.insSt (srtR (zs.take i)) (zs.getD i (0, 0)) i (zs.drop (i + 1)) := by
  have hl : (srtR (zs.take i)).length = i := by rw [srtR_len, List.length_take]; omega
  have h1 := Mg.insSt_top (srtR (zs.take i)) (zs.getD i (0, 0)) (zs.drop (i + 1))
  rw [hl] at h1
  rw [h1, List.drop_eq_getElem_cons hi, List.getD_eq_getElem?_getD, List.getElem?_eq_getElem hi]
  rfl
theorem insR_end {l : List (Int × Int)} {x : Int × Int} {k : Nat} {R : List (Int × Int)} (hk : k ≤ l.length) (hd : ∀ b ∈ (srtR l).drop k, x.1 < b.1) (hs : 0 < k → ¬ x.1 < ((srtR l).getD (k - 1) (0, 0)).1) : Mg.insSt (srtR l) x k R = srtR (l ++ [x]) ++ R := by
  have hl : (srtR l).length = l.length := srtR_len l
  refine Mg.insSt_srt (Mg.swK Prod.fst) (lt := Mg.ltK Prod.fst) (by show k ≤ (srtR l).length; omega) (fun b hb => by simpa [Mg.ltK] using hd b hb) (fun h0 => ?_)
  have h1 := hs h0
  rw [List.getD_eq_getElem?_getD, List.getElem?_eq_getElem (by omega)] at h1
  unfold srtR at h1
  simpa [Mg.ltK] using h1
theorem take_snocR {zs : List (Int × Int)} {i : Nat} (hi : i < zs.length) : zs.take i ++ [zs.getD i (0, 0)] = zs.take (i + 1) := by
  rw [List.take_add_one, List.getElem?_eq_getElem hi, List.getD_eq_getElem?_getD, List.getElem?_eq_getElem hi]
  rfl
theorem recs_oneJ {rs : List (Int × Int)} : ∀ u ∈ flat encR rs, u.oneCell' = true := by
  intro u hu
  unfold flat at hu
  obtain ⟨r, _, hr⟩ := List.mem_flatMap.1 hu
  simp [encR] at hr
  rcases hr with rfl | rfl <;> rfl

/-- Records of the call's own, behind a call. -/
def OwnR (w : World) (l : List (Int × Int)) (n : Nat) (e : Ending) (w' : World) : Prop :=
  ∃ (g c : Nat), e = .returned (.slice (some ⟨g, 0, none⟩) n c) ∧ w'.ownsRow w.heap.size 33 2 (.slice (some ⟨g, 0, none⟩) n c) n (flat encR l) ∧ Below w.heap.size w w'

theorem insR_at {A R : List (Int × Int)} {x : Int × Int} {m : Nat} (hm : m < A.length) : (Mg.insSt A x (m + 1) R)[m]? = some (A.getD m (0, 0)) ∧ (Mg.insSt A x (m + 1) R)[m + 1]? = some x := by
  refine ⟨?_, Mg.insSt_at (by omega)⟩
  rw [Mg.insSt_before hm, List.getD_eq_getElem?_getD, List.getElem?_eq_getElem hm]; rfl
theorem insR_stepD {A R : List (Int × Int)} {x y : Int × Int} {m : Nat} (hm : m < A.length) (hy : A.getD m (0, 0) = y) : ((Mg.insSt A x (m + 1) R).set m x).set (m + 1) y = Mg.insSt A x m R := by
  have e1 : A[m] = y := by rw [← hy, List.getD_eq_getElem?_getD, List.getElem?_eq_getElem hm]; rfl
  rw [← e1]; exact Mg.insSt_step hm

end Go.Proofs.Ytpdndcnhgadgoaa

/- Plain law: rotations, the symmetric merge and the block-wise stable sort, on lists. No program in sight. -/
namespace Go.Proofs.Ytpdndcnhgadgoaa.Mg
set_option linter.unusedVariables false
section
variable {α : Type} {lt : α → α → Bool}

/-- Two elements change places. -/
theorem swap2 {P Q R : List α} {x y : α} : ((P ++ x :: (Q ++ y :: R)).set P.length y).set (P.length + 1 + Q.length) x = P ++ y :: (Q ++ x :: R) := by
  rw [List.set_append_right _ _ (Nat.le_refl _), Nat.sub_self, List.set_cons_zero]
  rw [List.set_append_right _ _ (by omega), show P.length + 1 + Q.length - P.length = Q.length + 1 by omega, List.set_cons_succ]
  rw [List.set_append_right _ _ (Nat.le_refl _), Nat.sub_self, List.set_cons_zero]
theorem at1 {P Q R : List α} {x y : α} : (P ++ x :: (Q ++ y :: R))[P.length]? = some x := by
  rw [List.getElem?_append_right (Nat.le_refl _), Nat.sub_self]; rfl
theorem at2 {P Q R : List α} {x y : α} : (P ++ x :: (Q ++ y :: R))[P.length + 1 + Q.length]? = some y := by
  rw [List.getElem?_append_right (by omega), show P.length + 1 + Q.length - P.length = Q.length + 1 by omega, List.getElem?_cons_succ, List.getElem?_append_right (Nat.le_refl _), Nat.sub_self]; rfl

/-- Two ranges of like length, the first k places changed. -/
def swSt (pre A M B post : List α) (k : Nat) : List α := pre ++ B.take k ++ (A.drop k ++ M ++ A.take k ++ (B.drop k ++ post))
theorem swSt_zero (pre A M B post : List α) : swSt pre A M B post 0 = pre ++ A ++ M ++ B ++ post := by simp [swSt]
theorem swSt_end {pre A M B post : List α} {n : Nat} (hA : A.length = n) (hB : B.length = n) : swSt pre A M B post n = pre ++ B ++ M ++ A ++ post := by
  unfold swSt
  rw [List.take_of_length_le (by omega), List.drop_eq_nil_of_le (by omega), List.take_of_length_le (by omega), List.drop_eq_nil_of_le (by omega)]
  simp
theorem swSt_form {pre A M B post : List α} {k : Nat} (hA : k < A.length) (hB : k < B.length) : swSt pre A M B post k = (pre ++ B.take k) ++ A[k] :: ((A.drop (k + 1) ++ M ++ A.take k) ++ B[k] :: (B.drop (k + 1) ++ post)) := by
  unfold swSt
  rw [List.drop_eq_getElem_cons hA, List.drop_eq_getElem_cons hB]
  simp only [List.append_assoc, List.cons_append]
theorem swSt_next {pre A M B post : List α} {k : Nat} (hA : k < A.length) (hB : k < B.length) : swSt pre A M B post (k + 1) = (pre ++ B.take k) ++ B[k] :: ((A.drop (k + 1) ++ M ++ A.take k) ++ A[k] :: (B.drop (k + 1) ++ post)) := by
  unfold swSt
  rw [List.take_add_one, List.take_add_one, List.getElem?_eq_getElem hA, List.getElem?_eq_getElem hB]
  simp only [Option.toList_some, List.append_assoc, List.cons_append, List.nil_append]
theorem swSt_step {pre A M B post : List α} {k a b : Nat} (hA : k < A.length) (hB : k < B.length) (ha : pre.length = a) (hb : a + A.length + M.length = b) :
    (swSt pre A M B post k)[a + k]? = some A[k] ∧ (swSt pre A M B post k)[b + k]? = some B[k] ∧ ((swSt pre A M B post k).set (a + k) B[k]).set (b + k) A[k] = swSt pre A M B post (k + 1) := by
  have e1 : (pre ++ B.take k).length = a + k := by simp; omega
  have e2 : (pre ++ B.take k).length + 1 + (A.drop (k + 1) ++ M ++ A.take k).length = b + k := by simp; omega
  rw [swSt_form hA hB, swSt_next hA hB, ← e1, ← e2]
  exact ⟨at1, at2, swap2⟩

/-- An element on its way up: behind k of those that go ahead of it. -/
def upSt (x : α) (R : List α) (k : Nat) : List α := R.take k ++ x :: R.drop k
theorem upSt_zero (x : α) (R : List α) : upSt x R 0 = x :: R := by simp [upSt]
theorem upSt_step {x : α} {R pre post : List α} {k a : Nat} (h : k < R.length) (ha : pre.length = a) :
    (pre ++ upSt x R k ++ post)[a + k]? = some x ∧ (pre ++ upSt x R k ++ post)[a + k + 1]? = some R[k] ∧ ((pre ++ upSt x R k ++ post).set (a + k) R[k]).set (a + k + 1) x = pre ++ upSt x R (k + 1) ++ post := by
  have e0 : pre ++ upSt x R k ++ post = (pre ++ R.take k) ++ x :: (([] : List α) ++ R[k] :: (R.drop (k + 1) ++ post)) := by
    unfold upSt
    rw [List.drop_eq_getElem_cons h]; simp only [List.append_assoc, List.cons_append, List.nil_append]
  have e1 : (pre ++ R.take k).length = a + k := by simp; omega
  have e2 : pre ++ upSt x R (k + 1) ++ post = (pre ++ R.take k) ++ R[k] :: (([] : List α) ++ x :: (R.drop (k + 1) ++ post)) := by
    unfold upSt
    rw [List.take_add_one, List.getElem?_eq_getElem h]; simp only [Option.toList_some, List.append_assoc, List.cons_append, List.nil_append]
  rw [e0, e2, ← e1]
  have h2 := at2 (P := pre ++ R.take k) (Q := []) (x := x) (y := R[k]) (R := R.drop (k + 1) ++ post)
  have h3 := swap2 (P := pre ++ R.take k) (Q := []) (x := x) (y := R[k]) (R := R.drop (k + 1) ++ post)
  simp only [List.length_nil, Nat.add_zero] at h2 h3
  exact ⟨at1, h2, h3⟩

/-- Halving: what lies ahead of the place found, and behind it. -/
theorem asc_take (S : SW lt) {R : List α} {x : α} {k : Nat} (hR : Asc lt R) (hk : k ≤ R.length) (h : ∀ (h0 : 0 < k), lt (R[k - 1]'(by omega)) x = true) : ∀ y ∈ R.take k, lt y x = true := by
  intro y hy
  obtain ⟨i, hi, rfl⟩ := List.mem_take_iff_getElem.1 hy
  have hi' : i < k := by omega
  have h1 := h (by omega)
  by_cases e : i = k - 1
  · subst e; exact h1
  · have := List.pairwise_iff_getElem.1 hR i (k - 1) (by omega) (by omega) (by omega)
    rcases S.neg _ (R[i]) _ h1 with h2 | h2
    · rw [this] at h2; cases h2
    · exact h2
theorem asc_drop (S : SW lt) {R : List α} {x : α} {k : Nat} (hR : Asc lt R) (h : ∀ (h0 : k < R.length), lt R[k] x = false) : ∀ y ∈ R.drop k, lt y x = false := by
  intro y hy
  obtain ⟨i, hi, rfl⟩ := List.mem_drop_iff_getElem.1 hy
  have h1 := h (by omega)
  by_cases e : i = 0
  · subst e; simpa using h1
  · have := List.pairwise_iff_getElem.1 hR k (k + i) (by omega) (by omega) (by omega)
    exact le_trans' S (by simpa [Nat.add_comm] using h1) (by simpa [Nat.add_comm] using this)
theorem asc_take' (S : SW lt) {R : List α} {x : α} {k : Nat} (hR : Asc lt R) (hk : k ≤ R.length) (h : ∀ (h0 : 0 < k), lt x (R[k - 1]'(by omega)) = false) : ∀ y ∈ R.take k, lt x y = false := by
  intro y hy
  obtain ⟨i, hi, rfl⟩ := List.mem_take_iff_getElem.1 hy
  have hi' : i < k := by omega
  have h1 := h (by omega)
  by_cases e : i = k - 1
  · subst e; exact h1
  · have := List.pairwise_iff_getElem.1 hR i (k - 1) (by omega) (by omega) (by omega)
    exact le_trans' S this h1
theorem asc_drop' (S : SW lt) {R : List α} {x : α} {k : Nat} (hR : Asc lt R) (h : ∀ (h0 : k < R.length), lt x R[k] = true) : ∀ y ∈ R.drop k, lt x y = true := by
  intro y hy
  obtain ⟨i, hi, rfl⟩ := List.mem_drop_iff_getElem.1 hy
  have h1 := h (by omega)
  by_cases e : i = 0
  · subst e; simpa using h1
  · have := List.pairwise_iff_getElem.1 hR k (k + i) (by omega) (by omega) (by omega)
    rcases S.neg _ (R[k + i]) _ h1 with h2 | h2
    · simpa [Nat.add_comm] using h2
    · rw [this] at h2; cases h2

/-- One element merged ahead, one behind. -/
theorem mrg_one {x : α} {R : List α} {k : Nat} (h1 : ∀ y ∈ R.take k, lt y x = true) (h2 : ∀ y ∈ R.drop k, lt y x = false) : mrg lt [x] R = upSt x R k := by
  have := mrg_split (lt := lt) [] (R.take k) [x] (R.drop k) (by simp) (by simpa using h1)
  have h3 : mrg lt [x] (R.drop k) = [x] ++ R.drop k := mrg_ahead (by simpa using h2)
  rw [List.take_append_drop, List.nil_append, mrg_nil, h3] at this
  rw [this]; rfl
theorem mrg_last {x : α} {L : List α} {k : Nat} (h1 : ∀ y ∈ L.take k, lt x y = false) (h2 : ∀ y ∈ L.drop k, lt x y = true) : mrg lt L [x] = L.take k ++ x :: L.drop k := by
  have := mrg_split (lt := lt) (L.take k) [] (L.drop k) [x] (by simpa using h1) (by simp)
  have h3 : mrg lt (L.drop k) [x] = [x] ++ L.drop k := mrg_behind (by simpa using h2)
  rw [List.take_append_drop, List.nil_append, nil_mrg, h3] at this
  rw [this]; simp

/-- THE SYMMETRIC CUT. -/
theorem mrg_cut (S : SW lt) {L R : List α} {s e : Nat} (hL : Asc lt L) (hR : Asc lt R) (hs : s ≤ L.length) (he : e ≤ R.length)
    (h1 : ∀ (h0 : 0 < s) (h2 : e < R.length), lt R[e] (L[s - 1]'(by omega)) = false) (h2 : ∀ (h0 : 0 < e) (h2 : s < L.length), lt (R[e - 1]'(by omega)) L[s] = true) :
    mrg lt L R = mrg lt (L.take s) (R.take e) ++ mrg lt (L.drop s) (R.drop e) := by
  have := mrg_split (lt := lt) (L.take s) (R.take e) (L.drop s) (R.drop e) (fun x hx y hy => ?_) (fun x hx y hy => ?_)
  · rwa [List.take_append_drop, List.take_append_drop] at this
  · have hx0 : 0 < s := by
      rcases Nat.eq_zero_or_pos s with h | h
      · subst h; simp at hx
      · exact h
    have hy0 : e < R.length := by
      rcases Nat.lt_or_ge e R.length with h | h
      · exact h
      · rw [List.drop_eq_nil_of_le h] at hy; cases hy
    have k1 := h1 hx0 hy0
    have k2 : lt y (L[s - 1]'(by omega)) = false := asc_drop S hR (fun _ => k1) y hy
    obtain ⟨i, hi, rfl⟩ := List.mem_take_iff_getElem.1 hx
    by_cases q : i = s - 1
    · subst q; exact k2
    · have := List.pairwise_iff_getElem.1 hL i (s - 1) (by omega) (by omega) (by omega)
      exact le_trans' S this k2
  · have hx0 : s < L.length := by
      rcases Nat.lt_or_ge s L.length with h | h
      · exact h
      · rw [List.drop_eq_nil_of_le h] at hx; cases hx
    have hy0 : 0 < e := by
      rcases Nat.eq_zero_or_pos e with h | h
      · subst h; simp at hy
      · exact h
    have k1 := h2 hy0 hx0
    have k2 : lt y L[s] = true := asc_take S hR he (fun _ => k1) y hy
    obtain ⟨i, hi, rfl⟩ := List.mem_drop_iff_getElem.1 hx
    by_cases q : i = 0
    · subst q; simpa using k2
    · have := List.pairwise_iff_getElem.1 hL s (s + i) (by omega) (by omega) (by omega)
      rcases S.neg _ (L[s + i]) _ k2 with h | h
      · simpa [Nat.add_comm] using h
      · rw [this] at h; cases h

/-- Sorted block by block. -/
def bl (lt : α → α → Bool) (s : Nat) : Nat → List α → List α
  | 0, l => l
  | f + 1, l => if l.length ≤ s then srt lt l else srt lt (l.take s) ++ bl lt s f (l.drop s)
def blk (lt : α → α → Bool) (s : Nat) (l : List α) : List α := bl lt s (l.length + 1) l
theorem bl_fuel {s : Nat} (hs : 0 < s) : ∀ (f g : Nat) (l : List α), l.length < f → l.length < g → bl lt s f l = bl lt s g l
  | 0, _, _, h, _ => by omega
  | _, 0, _, _, h => by omega
  | f + 1, g + 1, l, h1, h2 => by
    unfold bl
    split
    · rfl
    · rw [bl_fuel hs f g (l.drop s) (by simp; omega) (by simp; omega)]
theorem blk_short {s : Nat} {l : List α} (h : l.length ≤ s) : blk lt s l = srt lt l := by
  unfold blk bl; rw [if_pos h]
theorem blk_long {s : Nat} {l : List α} (hs : 0 < s) (h : s < l.length) : blk lt s l = srt lt (l.take s) ++ blk lt s (l.drop s) := by
  unfold blk
  rw [bl, if_neg (by omega)]
  congr 1
  exact bl_fuel hs _ _ _ (by simp; omega) (by simp)
/-- A whole block, be it the last. -/
theorem blk_next {s : Nat} {l : List α} (hs : 0 < s) (h : s ≤ l.length) : blk lt s l = srt lt (l.take s) ++ blk lt s (l.drop s) := by
  rcases Nat.lt_or_ge s l.length with h1 | h1
  · exact blk_long hs h1
  · have h2 : l.drop s = [] := List.drop_eq_nil_of_le h1
    rw [blk_short h1, h2, List.take_of_length_le h1, blk_short (by simp), srt_nil, List.append_nil]
theorem blk_length {s : Nat} (hs : 0 < s) : ∀ (n : Nat) (l : List α), l.length ≤ n → (blk lt s l).length = l.length
  | 0, l, h => by
    rw [blk_short (by omega), srt_length]
  | n + 1, l, h => by
    rcases Nat.lt_or_ge s l.length with h1 | h1
    · rw [blk_long hs h1, List.length_append, srt_length, blk_length hs n (l.drop s) (by simp; omega)]
      simp; omega
    · rw [blk_short h1, srt_length]
theorem blk_len {s : Nat} (hs : 0 < s) (l : List α) : (blk lt s l).length = l.length := blk_length hs _ l (Nat.le_refl _)
/-- Two whole blocks side by side give one of twice the size. -/
theorem blk_two (S : SW lt) {s : Nat} {l : List α} (hs : 0 < s) (h : 2 * s ≤ l.length) :
    blk lt s l = srt lt (l.take s) ++ srt lt ((l.drop s).take s) ++ blk lt s (l.drop (2 * s)) ∧ mrg lt (srt lt (l.take s)) (srt lt ((l.drop s).take s)) = srt lt (l.take (2 * s)) := by
  constructor
  · rw [blk_next hs (by omega), blk_next hs (by simp; omega), List.drop_drop, ← List.append_assoc, show s + s = 2 * s by omega]
  · rw [srt_mrg S]
    congr 1
    rw [show 2 * s = s + s by omega, List.take_add]
/-- A whole block and a shorter one behind it. -/
theorem blk_rest (S : SW lt) {s : Nat} {l : List α} (hs : 0 < s) (h : s < l.length) (h2 : l.length ≤ 2 * s) :
    blk lt s l = srt lt (l.take s) ++ srt lt (l.drop s) ∧ mrg lt (srt lt (l.take s)) (srt lt (l.drop s)) = srt lt l := by
  constructor
  · rw [blk_long hs h, blk_short (l := l.drop s) (by simp; omega)]
  · rw [srt_mrg S, List.take_append_drop]
end
end Go.Proofs.Ytpdndcnhgadgoaa.Mg

/- Contracts of the library's functions at this dump, laid by the shelf's own tool in plain words. -/
/-
  DERIVED: THE SHELF's CONTRACTS AT THIS DUMP, IN PLAIN WORDS (tools/lay-plain.mjs out of 'TryShelf.lean', which tools/lay-shelf.mjs wrote): THE SAME DECLARATIONS UNDER THE SAME NAMES: 'import', 'namespace', 'open', 'def', 'theorem' AND NOTHING ELSE: no command of the shelf's: FOR A HAND-IN. Each laying: the table of numbers ('.._ren') and one theorem, a field a fact of the dump's own or the kernel's comparison; each contract: ONE APPLICATION.
-/
namespace Go.Proofs
open Go.Shelf
def Try.lays215_ren : Go.Shelf.Ren := ⟨fun | 215 => 49 | n => n, fun | 3 => 3 | 4 => 4 | n => n, fun | n => n⟩
theorem Try.lays215 : Go.Proofs.Lays.n215 Try.prog Try.lays215_ren := {
  mixed := by kernel_rfl
  f215 := Try.func49.trans (congrArg some (by kernel_rfl))
  t3 := Try.underlying3
  a3 := Try.isAgg3
  z3 := Try.sizeOf3
  v3 := Try.zeroValue3
  t4 := Try.underlying4
  a4 := Try.isAgg4
  z4 := Try.sizeOf4
  v4 := Try.zeroValue4 }
open Go.RowKit in
/-- cmp.isNaN at int: 'x != x': false. (LAID: no walk: one application.) -/
theorem Try.cmp_isNaN_int (x : Int) (w : World) :
    Calls Try.prog 49 #[.int .i64 x] w fun e w' => e = .returned (.bool false) ∧ w' = w := Any.cmp_isNaN_int Try.lays215 x w
def Try.lays122_ren : Go.Shelf.Ren := ⟨fun | 122 => 43 | 215 => 49 | n => n, fun | 3 => 3 | 4 => 4 | n => n, fun | n => n⟩
theorem Try.lays122 : Go.Proofs.Lays.n122 Try.prog Try.lays122_ren := {
  mixed := by kernel_rfl
  f122 := Try.func43.trans (congrArg some (by kernel_rfl))
  f215 := Try.func49.trans (congrArg some (by kernel_rfl))
  t3 := Try.underlying3
  a3 := Try.isAgg3
  z3 := Try.sizeOf3
  v3 := Try.zeroValue3
  t4 := Try.underlying4
  a4 := Try.isAgg4
  z4 := Try.sizeOf4
  v4 := Try.zeroValue4 }
open Go.RowKit in
/-- cmp.Compare at int: "Compare returns -1 if x is less than y, 0 if x equals y, +1 if x is greater than y.": IT RETURNS 'Lib.compareInt x y'; the world is as it was. (LAID: no walk: one application.) -/
theorem Try.cmp_Compare_int (x y : Int) (w : World) :
    Calls Try.prog 43 #[.int .i64 x, .int .i64 y] w fun e w' => e = .returned (.int .i64 (Lib.compareInt x y)) ∧ w' = w := Any.cmp_Compare_int Try.lays122 x y w
def Try.laysNm237_ren : Go.Shelf.Ren := ⟨fun | 37 => 49 | n => n, fun | 3 => 3 | 4 => 4 | n => n, fun | n => n⟩
theorem Try.laysNm237 : Go.Proofs.Lays2.n37 Try.prog Try.laysNm237_ren := {
  mixed := by kernel_rfl
  f37 := Try.func49.trans (congrArg some (by kernel_rfl))
  t3 := Try.underlying3
  a3 := Try.isAgg3
  z3 := Try.sizeOf3
  v3 := Try.zeroValue3
  t4 := Try.underlying4
  a4 := Try.isAgg4
  z4 := Try.sizeOf4
  v4 := Try.zeroValue4 }
open Go.RowKit Go.Lib in
/-- cmp.isNaN[int]: 'x != x': false. (LAID: no walk: one application.) -/
theorem Try.cmp_isNaN_int2 (x : Int) (w : World) :
    Calls Try.prog 49 #[.int .i64 x] w fun e w' => e = .returned (.bool false) ∧ w' = w := Any.cmp_isNaN_int2 Try.laysNm237 x w
end Go.Proofs

/- Walks: the library's stable sort at records: the comparison, an exchange of two ranges. -/
namespace Go.Proofs.Ytpdndcnhgadgoaa
open Go.RowKit Go.Sort
set_option linter.unusedVariables false

set_option maxRecDepth 100000 in
set_option maxHeartbeats 2000000 in
theorem compareKeys_any (r s : Int × Int) (w : World) :
    Calls Try.prog 30 #[.agg #[.int .i64 r.1, .int .i64 r.2], .agg #[.int .i64 s.1, .int .i64 s.2]] w fun e w' => (∃ n : Int, e = .returned (.int .i64 n) ∧ (decide (n < 0) = decide (r.1 < s.1))) ∧ Below w.heap.size w w' := by
  obtain ⟨r1, r2⟩ := r
  obtain ⟨s1, s2⟩ := s
  have HC := Lib.hid (fun W => Try.cmp_Compare_int r1 s1 W)
  have HD : Hid (decide (Lib.compareInt r1 s1 < 0) = decide (r1 < s1)) := by
    show _ = _
    unfold Lib.compareInt
    by_cases h1 : r1 < s1
    · rw [if_pos h1, decide_eq_true h1]; rfl
    · rw [if_neg h1, decide_eq_false h1]; split <;> rfl
  have HB := Lib.hid (((Below.refl w.heap.size w).alloc (Nat.le_refl _) (.cells #[.int .i64 r1, .int .i64 r2] 33)).alloc (by simp) (.cells #[.int .i64 s1, .int .i64 s2] 33))
  go_enter Try.func30, Try.ntmps30
  go_wp2_with fail
  refine (HC.out _).mono ?_
  rintro e w' ⟨rfl, rfl⟩
  go_wp2
  go_ret
  exact ⟨⟨_, rfl, HD.out⟩, HB.out⟩

/-- A function value that compares records by the order lt, where I holds; I passes on where block g alone is written. -/
def CmpIs (I : World → Prop) (g : Nat) (lt : Int × Int → Int × Int → Bool) (cv : Value) : Prop :=
  (∀ w w', I w → World.grownBy w w' (some g) → I w') ∧ ∃ G cp, cv = .func (.func G) #[] cp ∧ (∀ args w, (callFunc G args).run Try.prog w = .ok (.enter G args) w) ∧
    ∀ (r s : Int × Int) (w : World), I w → Calls Try.prog G (#[.agg #[.int .i64 r.1, .int .i64 r.2], .agg #[.int .i64 s.1, .int .i64 s.2]] ++ cp) w fun e w' => (∃ n : Int, e = .returned (.int .i64 n) ∧ (decide (n < 0) = lt r s)) ∧ Below w.heap.size w w'

/-- The comparison of keys as a value. -/
def cmpV : Value := .func (.func 30) #[] #[]
theorem cmpV_is (g : Nat) : CmpIs (fun _ => True) g (Mg.ltK Prod.fst) cmpV :=
  ⟨fun _ _ _ _ => trivial, 30, #[], rfl, fun args w => by kernel_rfl, fun r s w _ => (compareKeys_any r s w).mono fun e w' ⟨⟨n, h1, h2⟩, h3⟩ => ⟨⟨n, h1, by rw [h2]; rfl⟩, h3⟩⟩

theorem cell_far {w : World} {g i j : Nat} {v : Value} (h : i ≠ j) : (w.setCell ⟨g, i, none⟩ v).cell? ⟨g, j, none⟩ = w.cell? ⟨g, j, none⟩ := World.cell?_setCell_other _ _ _ _ (fun e => h (by injection e))

set_option maxRecDepth 100000 in
set_option maxHeartbeats 4000000 in
theorem swapRange_any (B0 g c n : Nat) (pre A M B post : List (Int × Int)) (m a b : Nat) (cv : Value) (w : World) (hA : A.length = m) (hB : B.length = m) (ha : pre.length = a) (hb : a + m + M.length = b) (hn : (pre ++ A ++ M ++ B ++ post).length = n) (hn2 : n ≤ 1000)
    (h : w.ownsRow B0 33 2 (.slice (some ⟨g, 0, none⟩) n c) n (flat encR (pre ++ A ++ M ++ B ++ post))) :
    Calls Try.prog 52 #[.slice (some ⟨g, 0, none⟩) n c, .int .i64 a, .int .i64 b, .int .i64 m, cv] w fun e w' => e = .returned (.tuple #[]) ∧
      w'.ownsRow B0 33 2 (.slice (some ⟨g, 0, none⟩) n c) n (flat encR (pre ++ B ++ M ++ A ++ post)) ∧ w.grownBy w' (some g) := by
  rw [← Mg.swSt_zero] at h
  have HE := Lib.hid (Mg.swSt_end (pre := pre) (M := M) (post := post) hA hB)
  have HO := Lib.hid h
  have hlen : a + m + M.length + m + post.length = n := by rw [← hn]; simp only [List.length_append]; omega
  have HLL : Hid (∀ k, k ≤ m → (Mg.swSt pre A M B post k).length = n) := fun k hk => by
    unfold Mg.swSt
    simp only [List.length_append, List.length_take, List.length_drop]
    omega
  have HSP := Lib.hid (fun k (h1 : k < A.length) (h2 : k < B.length) => Mg.swSt_step (pre := pre) (M := M) (post := post) h1 h2 ha (by omega : a + A.length + M.length = b))
  clear h hn
  go_enter Try.func52, Try.ntmps52
  go_wp2
  go_loopw [10] (fun v wr => ∃ k : Nat, v = .int .i64 k ∧ k ≤ m ∧ wr.ownsRow B0 33 2 (.slice (some ⟨g, 0, none⟩) n c) n (flat encR (Mg.swSt pre A M B post k)) ∧ w.grownBy wr (some g)) (fun v _ => m - (intOf v).toNat)
  case atStart => exact ⟨0, rfl, by omega, HO.out, grown_of_below (Below.refl w.heap.size w)⟩
  case round =>
    obtain ⟨k, rfl, hk, ho, hg⟩ := hrel
    have HO2 := Lib.hid ho; have HG2 := Lib.hid hg
    clear ho hg HO
    by_cases hlt : k < m
    case neg =>
      obtain rfl : k = m := by omega
      rw [HE.out] at HO2
      go_wp2
      go_end0
      exact ⟨rfl, HO2.out, HG2.out⟩
    obtain ⟨q1, q2, hs⟩ := HSP.out k (by omega) (by omega)
    have HS := Lib.hid hs; clear hs
    obtain ⟨c1, c1'⟩ := rec_cells HO2.out q1
    obtain ⟨c2, c2'⟩ := rec_cells HO2.out q2
    have HL1 := Lib.hid (HLL.out k hk)
    generalize A[k] = X at c1 c1' HS
    generalize B[k] = Y at c2 c2' HS
    generalize Mg.swSt pre A M B post k = rs at HO2 HL1 HS
    generalize hN : Mg.swSt pre A M B post (k + 1) = rs' at HS
    have HN := Lib.hid hN
    clear hN q1 q2 HSP HLL HE
    obtain ⟨X1, X2⟩ := X
    obtain ⟨Y1, Y2⟩ := Y
    have t1 : ((a : Int) + (k : Int)).toNat = a + k := by omega
    have t2 : ((b : Int) + (k : Int)).toNat = b + k := by omega
    have b1 : (0 : Int) ≤ (a : Int) + (k : Int) := by omega
    have b2 : (a : Int) + (k : Int) < (n : Int) := by omega
    have b3 : (0 : Int) ≤ (b : Int) + (k : Int) := by omega
    have b4 : (b : Int) + (k : Int) < (n : Int) := by omega
    have w1 : IntKind.i64.wrap ((a : Int) + (k : Int)) = (a : Int) + (k : Int) := IntWalk.i64_in _ (by omega)
    have w2 : IntKind.i64.wrap ((b : Int) + (k : Int)) = (b : Int) + (k : Int) := IntWalk.i64_in _ (by omega)
    have p1 : a + k < n := by omega
    have p2 : b + k < n := by omega
    have HO3 : Hid (wr.drew.ownsRow B0 33 2 (.slice (some ⟨g, 0, none⟩) n c) n (flat encR rs)) := HO2.out
    have d1 : wr.drew.cell? ⟨g, (a + k) * 2, none⟩ = some (.int .i64 X1) := c1
    have d1' : wr.drew.cell? ⟨g, (a + k) * 2 + 1, none⟩ = some (.int .i64 X2) := c1'
    have d2 : wr.drew.cell? ⟨g, (b + k) * 2, none⟩ = some (.int .i64 Y1) := c2
    have d2' : wr.drew.cell? ⟨g, (b + k) * 2 + 1, none⟩ = some (.int .i64 Y2) := c2'
    clear c1 c1' c2 c2'
    go_wp2_with fail
    have rf : ∀ o, wr.drew.frozen? ⟨g, o, none⟩ = false := fun o => HO3.out.frozenAt o
    have o1 := HO2.out.stored ((a + k) * 2) (.int .i64 Y1)
    have o2 := o1.1.stored ((a + k) * 2 + 1) (.int .i64 Y2)
    have o3 := o2.1.stored ((b + k) * 2) (.int .i64 X1)
    have o4 := o3.1.stored ((b + k) * 2 + 1) (.int .i64 X2)
    have i1 : (wr.setCell ⟨g, (a + k) * 2, none⟩ (.int .i64 Y1)).drew.cell? ⟨g, (a + k) * 2 + 1, none⟩ = some (.int .i64 X2) := (cell_far (by omega)).trans d1'
    have f1 : ∀ o, (wr.setCell ⟨g, (a + k) * 2, none⟩ (.int .i64 Y1)).drew.frozen? ⟨g, o, none⟩ = false := fun o => o1.1.frozenAt o
    have i2 : ((wr.setCell ⟨g, (a + k) * 2, none⟩ (.int .i64 Y1)).setCell ⟨g, (a + k) * 2 + 1, none⟩ (.int .i64 Y2)).drew.cell? ⟨g, (b + k) * 2, none⟩ = some (.int .i64 Y1) :=
      ((cell_far (by omega)).trans (cell_far (by omega))).trans d2
    have f2 : ∀ o, ((wr.setCell ⟨g, (a + k) * 2, none⟩ (.int .i64 Y1)).setCell ⟨g, (a + k) * 2 + 1, none⟩ (.int .i64 Y2)).drew.frozen? ⟨g, o, none⟩ = false := fun o => o2.1.frozenAt o
    have i3 : (((wr.setCell ⟨g, (a + k) * 2, none⟩ (.int .i64 Y1)).setCell ⟨g, (a + k) * 2 + 1, none⟩ (.int .i64 Y2)).setCell ⟨g, (b + k) * 2, none⟩ (.int .i64 X1)).drew.cell? ⟨g, (b + k) * 2 + 1, none⟩ = some (.int .i64 Y2) :=
      (((cell_far (by omega)).trans (cell_far (by omega))).trans (cell_far (by omega))).trans d2'
    have f3 : ∀ o, (((wr.setCell ⟨g, (a + k) * 2, none⟩ (.int .i64 Y1)).setCell ⟨g, (a + k) * 2 + 1, none⟩ (.int .i64 Y2)).setCell ⟨g, (b + k) * 2, none⟩ (.int .i64 X1)).drew.frozen? ⟨g, o, none⟩ = false := fun o => o3.1.frozenAt o
    have hfl : ((((flat encR rs).set ((a + k) * 2) (.int .i64 Y1)).set ((a + k) * 2 + 1) (.int .i64 Y2)).set ((b + k) * 2) (.int .i64 X1)).set ((b + k) * 2 + 1) (.int .i64 X2) = flat encR rs' := by
      rw [flat_set2 encR_len rs (a + k) (by rw [HL1.out]; exact p1) (Y1, Y2) _ _ rfl, flat_set2 encR_len _ (b + k) (by rw [List.length_set, HL1.out]; exact p2) (X1, X2) _ _ rfl, HS.out]
    have HO9 : Hid (((((wr.setCell ⟨g, (a + k) * 2, none⟩ (.int .i64 Y1)).setCell ⟨g, (a + k) * 2 + 1, none⟩ (.int .i64 Y2)).setCell ⟨g, (b + k) * 2, none⟩ (.int .i64 X1)).setCell ⟨g, (b + k) * 2 + 1, none⟩ (.int .i64 X2)).ownsRow B0 33 2 (.slice (some ⟨g, 0, none⟩) n c) n (flat encR rs')) := by
      show World.ownsRow _ _ _ _ _ _ _
      rw [← hfl]; exact o4.1
    have HG9 := Lib.hid (grown_trans HG2.out (grown_trans o1.2 (grown_trans o2.2 (grown_trans o3.2 o4.2))))
    clear o1 o2 o3 o4 hfl
    go_region_law (fail)
    all_goals
      rw [← HN.out] at HO9
      generalize (((wr.setCell ⟨g, (a + k) * 2, none⟩ (.int .i64 Y1)).setCell ⟨g, (a + k) * 2 + 1, none⟩ (.int .i64 Y2)).setCell ⟨g, (b + k) * 2, none⟩ (.int .i64 X1)).setCell ⟨g, (b + k) * 2 + 1, none⟩ (.int .i64 X2) = w9 at HO9 HG9 ⊢
      clear i1 f1 i2 f2 i3 f3 rf d1 d1' d2 d2' HO3 HO2 t1 t2
      go_wp2
      go_roundw
      case rel => exact ⟨k + 1, by go_num, by omega, HO9.out, grown_trans HG9.out (grown_of_below (Below.refl w9.heap.size w9).drew)⟩
      case measure => simp [intOf] <;> omega

end Go.Proofs.Ytpdndcnhgadgoaa

/- Walks: the library's insertion sort at records, by the comparison of keys. -/
namespace Go.Proofs.Ytpdndcnhgadgoaa
open Go.RowKit Go.Sort
set_option linter.unusedVariables false

/-- Insertion into an ascending list, by any order. -/
theorem insL_start {lt : Int × Int → Int × Int → Bool} {zs : List (Int × Int)} {i : Nat} (hi : i < zs.length) : Mg.srt lt (zs.take i) ++ zs.drop i = Mg.insSt (Mg.srt lt (zs.take i)) (zs.getD i (0, 0)) i (zs.drop (i + 1)) := by
  have hl : (Mg.srt lt (zs.take i)).length = i := by rw [Mg.srt_length, List.length_take]; omega
  have h1 := Mg.insSt_top (Mg.srt lt (zs.take i)) (zs.getD i (0, 0)) (zs.drop (i + 1))
  rw [hl] at h1
  rw [h1, List.drop_eq_getElem_cons hi, List.getD_eq_getElem?_getD, List.getElem?_eq_getElem hi]
  rfl
theorem insL_end {lt : Int × Int → Int × Int → Bool} (S : Mg.SW lt) {l : List (Int × Int)} {x : Int × Int} {k : Nat} {R : List (Int × Int)} (hk : k ≤ l.length) (hd : ∀ b ∈ (Mg.srt lt l).drop k, lt x b = true) (hs : 0 < k → lt x ((Mg.srt lt l).getD (k - 1) (0, 0)) = false) : Mg.insSt (Mg.srt lt l) x k R = Mg.srt lt (l ++ [x]) ++ R := by
  have hl : (Mg.srt lt l).length = l.length := Mg.srt_length l
  refine Mg.insSt_srt S (lt := lt) (by omega) hd (fun h0 => ?_)
  have h1 := hs h0
  rw [List.getD_eq_getElem?_getD, List.getElem?_eq_getElem (by omega)] at h1
  exact h1
theorem srtL_start (lt : Int × Int → Int × Int → Bool) (zs : List (Int × Int)) : zs = Mg.srt lt (zs.take 1) ++ zs.drop 1 := by
  cases zs with
  | nil => rfl
  | cons a t => simp [Mg.srt_one]

theorem mid_at {α : Type} {pre L post : List α} {a k : Nat} {x : α} (ha : pre.length = a) (h : L[k]? = some x) : (pre ++ L ++ post)[a + k]? = some x := by
  have hk : k < L.length := (List.getElem?_eq_some_iff.1 h).1
  rw [List.append_assoc, List.getElem?_append_right (by omega), show a + k - pre.length = k by omega, List.getElem?_append_left hk]
  exact h
theorem mid_set {α : Type} {pre L post : List α} {a k : Nat} {x : α} (ha : pre.length = a) (hk : k < L.length) : (pre ++ L ++ post).set (a + k) x = pre ++ L.set k x ++ post := by
  rw [List.append_assoc, List.set_append, if_neg (by omega), show a + k - pre.length = k by omega, List.set_append, if_pos hk, List.append_assoc]

set_option maxRecDepth 100000 in
set_option maxHeartbeats 8000000 in
theorem insertionSort_any {I : World → Prop} {lt : Int × Int → Int × Int → Bool} (S : Mg.SW lt) {cv : Value} (B0 g c n : Nat) (pre L post : List (Int × Int)) (a b : Nat) (w : World) (ha : pre.length = a) (hb : a + L.length = b) (hn : (pre ++ L ++ post).length = n) (hn2 : n ≤ 1000) (hI : I w) (HCV : CmpIs I g lt cv)
    (h : w.ownsRow B0 33 2 (.slice (some ⟨g, 0, none⟩) n c) n (flat encR (pre ++ L ++ post))) :
    Calls Try.prog 47 #[.slice (some ⟨g, 0, none⟩) n c, .int .i64 a, .int .i64 b, cv] w fun e w' => e = .returned (.tuple #[]) ∧
      w'.ownsRow B0 33 2 (.slice (some ⟨g, 0, none⟩) n c) n (flat encR (pre ++ Mg.srt lt L ++ post)) ∧ w.grownBy w' (some g) := by
  have HS0 := Lib.hid (srtL_start lt L)
  have HO := Lib.hid h
  have hbn : b + post.length = n := by rw [← hn]; simp only [List.length_append]; omega
  clear h hn
  have HLEN := Lib.hid ha
  obtain ⟨hIg, G, cp, rfl, hcall, hcmp⟩ := HCV
  have HCM := Lib.hid hcmp; have HIG := Lib.hid (fun w' => hIg w w' hI)
  clear hcmp hIg
  go_enter Try.func47, Try.ntmps47
  go_wp2
  go_loopw [8] (fun v wr => ∃ i : Nat, v = .int .i64 ((a : Int) + (i : Int)) ∧ 1 ≤ i ∧ (i ≤ L.length ∨ i = 1) ∧ wr.ownsRow B0 33 2 (.slice (some ⟨g, 0, none⟩) n c) n (flat encR (pre ++ (Mg.srt lt (L.take i) ++ L.drop i) ++ post)) ∧ w.grownBy wr (some g)) (fun v _ => a + L.length + 1 - (intOf v).toNat)
  case atStart => exact ⟨1, by go_num, by omega, .inr rfl, by rw [← HS0.out]; exact HO.out, grown_of_below (Below.refl w.heap.size w)⟩
  case round =>
    obtain ⟨i, rfl, hi1, hi2, hown, hg⟩ := hrel
    have HO2 := Lib.hid hown; have HG2 := Lib.hid hg
    clear hown hg HO
    by_cases hlt : i < L.length
    case neg =>
      have HO3 := Lib.hid (show wr.ownsRow B0 33 2 (.slice (some ⟨g, 0, none⟩) n c) n (flat encR (pre ++ Mg.srt lt L ++ post)) from by
        have := HO2.out
        rw [List.take_of_length_le (by omega), List.drop_of_length_le (by omega), List.append_nil] at this
        exact this)
      have h3 : decide ((a : Int) + (i : Int) < (b : Int)) = false := decide_eq_false (by omega)
      go_wp2
      go_end0
      exact ⟨rfl, HO3.out, HG2.out⟩
    have HI0 := Lib.hid (insL_start (lt := lt) hlt)
    have HAL : Hid ((Mg.srt lt (L.take i)).length = i) := by show _ = _; rw [Mg.srt_length, List.length_take]; omega
    have HEND := Lib.hid (fun (k : Nat) (hk : k ≤ i) (hd : ∀ b ∈ (Mg.srt lt (L.take i)).drop k, lt (L.getD i (0, 0)) b = true) (hs : 0 < k → lt (L.getD i (0, 0)) ((Mg.srt lt (L.take i)).getD (k - 1) (0, 0)) = false) =>
      (insL_end S (R := L.drop (i + 1)) (by rw [List.length_take]; omega) hd hs).trans (by rw [take_snocR hlt]))
    rw [HI0.out] at HO2
    clear HI0
    generalize Mg.srt lt (L.take i) = A at HO2 HAL HEND
    generalize L.getD i (0, 0) = X at HO2 HEND
    have HRL : Hid (∀ k, k ≤ i → (Mg.insSt A X k (L.drop (i + 1))).length = L.length) := fun k hk => by
      rw [Mg.insSt_len (by rw [HAL.out]; exact hk), HAL.out, List.length_drop]; omega
    generalize hR : L.drop (i + 1) = R at HO2 HEND HRL
    have HR := Lib.hid hR; clear hR
    have h3 : decide ((a : Int) + (i : Int) < (b : Int)) = true := decide_eq_true (by omega)
    have hile : (a : Int) + (i : Int) + 1 ≤ 9223372036854775807 := by omega
    obtain ⟨wo, rfl⟩ : ∃ wo : World, wo = wr := ⟨_, rfl⟩
    go_wp2
    go_loopw [9] (fun v wq => ∃ k : Nat, v = .int .i64 ((a : Int) + (k : Int)) ∧ k ≤ i ∧ wq.ownsRow B0 33 2 (.slice (some ⟨g, 0, none⟩) n c) n (flat encR (pre ++ Mg.insSt A X k R ++ post)) ∧ (∀ b ∈ A.drop k, lt X b = true) ∧ w.grownBy wq (some g)) (fun v _ => (intOf v).toNat)
    case atStart => exact ⟨i, rfl, by omega, HO2.out, by rw [List.drop_of_length_le (by rw [HAL.out]; omega)]; simp, HG2.out⟩
    case round =>
      obtain ⟨k, rfl, hk, ho, hd, hg⟩ := hrel
      have HO4 := Lib.hid ho; have HG4 := Lib.hid hg; have HD := Lib.hid hd
      clear ho hg hd HO2 HG2
      by_cases hk0 : 0 < k
      case neg =>
        obtain rfl : k = 0 := by omega
        have HE := Lib.hid (HEND.out 0 (by omega) HD.out (fun h => absurd h (by omega)))
        rw [HE.out] at HO4
        have h4 : decide ((a : Int) < (a : Int) + ((0 : Nat) : Int)) = false := decide_eq_false (by omega)
        rw [show (a : Int) + ((0 : Nat) : Int) = (a : Int) by omega]
        go_wp2_with fail
        go_quiet (fail)
        go_wp2
        go_roundw
        case rel => exact ⟨i + 1, by go_num, by omega, by omega, by rw [HR.out]; exact HO4.out, grown_trans HG4.out (grown_of_below (below_drewN (Below.refl _ _) _))⟩
        case measure => simp [intOf] <;> omega
      obtain ⟨m, rfl⟩ : ∃ m, k = m + 1 := ⟨k - 1, by omega⟩
      have hm : m < A.length := by rw [HAL.out]; omega
      obtain ⟨q1, q2⟩ := insR_at (R := R) (x := X) hm
      obtain ⟨c1, c1'⟩ := rec_cells HO4.out (mid_at (post := post) ha q1)
      obtain ⟨c2, c2'⟩ := rec_cells HO4.out (mid_at (post := post) ha q2)
      have HDR : Hid (A.drop m = A.getD m (0, 0) :: A.drop (m + 1)) := by
        show _ = _
        rw [List.drop_eq_getElem_cons hm, List.getD_eq_getElem?_getD, List.getElem?_eq_getElem hm]; rfl
      have HST := Lib.hid (fun (y : Int × Int) (hy : A.getD m (0, 0) = y) => insR_stepD (R := R) (x := X) hm hy)
      have HE1 := Lib.hid (fun hs => HEND.out (m + 1) hk HD.out hs)
      have HL1 := Lib.hid (HRL.out (m + 1) hk)
      obtain ⟨Y, hY⟩ : ∃ Y, A.getD m (0, 0) = Y := ⟨_, rfl⟩
      rw [hY] at c1 c1' HDR
      have HY := Lib.hid hY
      clear hY hm q1 q2
      have HCK := Lib.hid (fun W hW => HCM.out X Y W (HIG.out W hW))
      have hcall := hcall (#[.agg #[.int .i64 X.1, .int .i64 X.2], .agg #[.int .i64 Y.1, .int .i64 Y.2]] ++ cp)
      obtain ⟨X1, X2⟩ := X
      obtain ⟨Y1, Y2⟩ := Y
      have hcast : (a : Int) + ((m + 1 : Nat) : Int) = (a : Int) + (m : Int) + 1 := by omega
      have t0 : ((a : Int) + (m : Int)).toNat = a + m := by omega
      have t1 : ((a : Int) + (m : Int) + 1).toNat = a + (m + 1) := by omega
      have b0 : (0 : Int) ≤ (a : Int) + (m : Int) := by omega
      have b1 : (a : Int) + (m : Int) < (n : Int) := by omega
      have b2 : (a : Int) + (m : Int) + 1 < (n : Int) := by omega
      have b3 : (0 : Int) ≤ (a : Int) + (m : Int) + 1 := by omega
      have w1 : IntKind.i64.wrap ((a : Int) + (m : Int)) = (a : Int) + (m : Int) := IntWalk.i64_in _ (by omega)
      have h5 : decide ((a : Int) < (a : Int) + (m : Int) + 1) = true := decide_eq_true (by omega)
      rw [hcast]
      go_wp2_with fail
      go_still_tail 14, (by kernel_rfl)
      go_wp2_with fail
      refine (HCK.out _ (grown_trans HG4.out (grown_of_below (Below.refl _ _).drew))).mono ?_
      rintro e w5 ⟨⟨nn, rfl, hnn⟩, hbc⟩
      have hbw : Below wr.heap.size wr w5 := (Below.refl _ _).drew.trans hbc
      have HO5 := Lib.hid (own_below HO4.out (Nat.le_refl _) hbw)
      have HG5 := Lib.hid (grown_trans HG4.out (grown_of_below hbw))
      clear hbc hbw HO4 HG4 HCK c1 c1' c2 c2'
      cases hyx : lt (X1, X2) (Y1, Y2)
      · have hz : decide (nn < 0) = false := by rw [hnn]; exact hyx
        have HE := Lib.hid (HE1.out (fun _ => by rw [Nat.add_sub_cancel, HY.out]; exact hyx))
        rw [HE.out] at HO5
        clear hnn
        go_wp2
        go_roundw
        case rel => exact ⟨i + 1, by go_num, by omega, by omega, by rw [HR.out]; exact HO5.out, HG5.out⟩
        case measure => simp [intOf] <;> omega
      · have hz : decide (nn < 0) = true := by rw [hnn]; exact hyx
        have HYX := Lib.hid hyx
        clear hnn hyx
        have hml : m + 1 < (Mg.insSt A (X1, X2) (m + 1) R).length := by rw [HL1.out]; omega
        have hq1 : (pre ++ Mg.insSt A (X1, X2) (m + 1) R ++ post).length = n := by simp only [List.length_append]; rw [HL1.out]; omega
        have hmA : m < A.length := by rw [HAL.out]; omega
        have hrs : ((pre ++ Mg.insSt A (X1, X2) (m + 1) R ++ post).set (a + (m + 1)) (Y1, Y2)).set (a + m) (X1, X2) = pre ++ Mg.insSt A (X1, X2) m R ++ post := by
          rw [mid_set ha hml, mid_set ha (by rw [List.length_set]; omega), List.set_comm _ _ (by omega), HST.out _ HY.out]
        obtain ⟨g1, g2⟩ := insR_at (R := R) (x := (X1, X2)) hmA
        rw [HY.out] at g1
        obtain ⟨d1, d1'⟩ := rec_cells HO5.out (mid_at (post := post) ha g1)
        obtain ⟨d2, d2'⟩ := rec_cells HO5.out (mid_at (post := post) ha g2)
        have d1 : w5.drew.cell? ⟨g, (a + m) * 2, none⟩ = some (.int .i64 Y1) := d1
        have d1' : w5.drew.cell? ⟨g, (a + m) * 2 + 1, none⟩ = some (.int .i64 Y2) := d1'
        have d2 : w5.drew.cell? ⟨g, (a + (m + 1)) * 2, none⟩ = some (.int .i64 X1) := d2
        have d2' : w5.drew.cell? ⟨g, (a + (m + 1)) * 2 + 1, none⟩ = some (.int .i64 X2) := d2'
        have rf : ∀ o, w5.drew.frozen? ⟨g, o, none⟩ = false := fun o => HO5.out.frozenAt o
        have o1 := HO5.out.stored ((a + (m + 1)) * 2) (.int .i64 Y1)
        have o2 := o1.1.stored ((a + (m + 1)) * 2 + 1) (.int .i64 Y2)
        have o3 := o2.1.stored ((a + m) * 2) (.int .i64 X1)
        have o4 := o3.1.stored ((a + m) * 2 + 1) (.int .i64 X2)
        have i1 : (w5.setCell ⟨g, (a + (m + 1)) * 2, none⟩ (.int .i64 Y1)).drew.cell? ⟨g, (a + (m + 1)) * 2 + 1, none⟩ = some (.int .i64 X2) := (cell_far (by omega)).trans d2'
        have f1 : ∀ o, (w5.setCell ⟨g, (a + (m + 1)) * 2, none⟩ (.int .i64 Y1)).drew.frozen? ⟨g, o, none⟩ = false := fun o => o1.1.frozenAt o
        have i2 : ((w5.setCell ⟨g, (a + (m + 1)) * 2, none⟩ (.int .i64 Y1)).setCell ⟨g, (a + (m + 1)) * 2 + 1, none⟩ (.int .i64 Y2)).drew.cell? ⟨g, (a + m) * 2, none⟩ = some (.int .i64 Y1) :=
          ((cell_far (by omega)).trans (cell_far (by omega))).trans d1
        have f2 : ∀ o, ((w5.setCell ⟨g, (a + (m + 1)) * 2, none⟩ (.int .i64 Y1)).setCell ⟨g, (a + (m + 1)) * 2 + 1, none⟩ (.int .i64 Y2)).drew.frozen? ⟨g, o, none⟩ = false := fun o => o2.1.frozenAt o
        have i3 : (((w5.setCell ⟨g, (a + (m + 1)) * 2, none⟩ (.int .i64 Y1)).setCell ⟨g, (a + (m + 1)) * 2 + 1, none⟩ (.int .i64 Y2)).setCell ⟨g, (a + m) * 2, none⟩ (.int .i64 X1)).drew.cell? ⟨g, (a + m) * 2 + 1, none⟩ = some (.int .i64 Y2) :=
          (((cell_far (by omega)).trans (cell_far (by omega))).trans (cell_far (by omega))).trans d1'
        have f3 : ∀ o, (((w5.setCell ⟨g, (a + (m + 1)) * 2, none⟩ (.int .i64 Y1)).setCell ⟨g, (a + (m + 1)) * 2 + 1, none⟩ (.int .i64 Y2)).setCell ⟨g, (a + m) * 2, none⟩ (.int .i64 X1)).drew.frozen? ⟨g, o, none⟩ = false := fun o => o3.1.frozenAt o
        have hfl : ((((flat encR (pre ++ Mg.insSt A (X1, X2) (m + 1) R ++ post)).set ((a + (m + 1)) * 2) (.int .i64 Y1)).set ((a + (m + 1)) * 2 + 1) (.int .i64 Y2)).set ((a + m) * 2) (.int .i64 X1)).set ((a + m) * 2 + 1) (.int .i64 X2) = flat encR (pre ++ Mg.insSt A (X1, X2) m R ++ post) := by
          rw [flat_set2 encR_len _ (a + (m + 1)) (by rw [hq1]; omega) (Y1, Y2) _ _ rfl, flat_set2 encR_len _ (a + m) (by rw [List.length_set, hq1]; omega) (X1, X2) _ _ rfl, hrs]
        have HO9 : Hid (((((w5.setCell ⟨g, (a + (m + 1)) * 2, none⟩ (.int .i64 Y1)).setCell ⟨g, (a + (m + 1)) * 2 + 1, none⟩ (.int .i64 Y2)).setCell ⟨g, (a + m) * 2, none⟩ (.int .i64 X1)).setCell ⟨g, (a + m) * 2 + 1, none⟩ (.int .i64 X2)).ownsRow B0 33 2 (.slice (some ⟨g, 0, none⟩) n c) n (flat encR (pre ++ Mg.insSt A (X1, X2) m R ++ post))) := by
          show World.ownsRow _ _ _ _ _ _ _
          rw [← hfl]; exact o4.1
        have HG9 := Lib.hid (grown_trans HG5.out (grown_trans o1.2 (grown_trans o2.2 (grown_trans o3.2 o4.2))))
        clear o1 o2 o3 o4 hfl hrs hml hq1 hmA g1 g2 HST HE1 HEND HL1
        go_wp2_with fail
        go_region_law (fail)
        all_goals
          generalize (((w5.setCell ⟨g, (a + (m + 1)) * 2, none⟩ (.int .i64 Y1)).setCell ⟨g, (a + (m + 1)) * 2 + 1, none⟩ (.int .i64 Y2)).setCell ⟨g, (a + m) * 2, none⟩ (.int .i64 X1)).setCell ⟨g, (a + m) * 2 + 1, none⟩ (.int .i64 X2) = w9 at HO9 HG9 ⊢
          clear i1 f1 i2 f2 i3 f3 rf d1 d1' d2 d2' HO5
          go_wp2
          go_roundw
          case rel => exact ⟨m, by go_num, by omega, HO9.out, by
            rw [HDR.out]
            intro b hb
            rcases List.mem_cons.1 hb with rfl | hb
            · exact HYX.out
            · exact HD.out b hb, grown_trans HG9.out (grown_of_below (Below.refl w9.heap.size w9).drew)⟩
          case measure => simp [intOf] <;> omega

end Go.Proofs.Ytpdndcnhgadgoaa
