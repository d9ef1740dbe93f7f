/- Several texts in one: lemmas and walks of the functions that the laws reach. -/
import Derived.Test.YtpdndcnhgadgoaaY4
import Derived.Test.YtpdndcnhgadgoaaY1
import Derived.Test.YtpdndcnhgadgoaaY2
import Derived.Test.YtpdndcnhgadgoaaY0
import Derived.Laws.CopyRow
import Derived.Lib.AppendZeros
import Derived.Lib.AppendZerosOnto

/- Walks: lists that ascend by a comparison, of both packages. -/
namespace Go.Proofs.Ytpdndcnhgadgoaa
open Go.RowKit Go.Sort
set_option linter.unusedVariables false

/-- Ascending, place by place. -/
def upB (lt : Int × Int → Int × Int → Bool) (l : List (Int × Int)) : Bool := (List.range (l.length - 1)).all fun i => !lt (l.getD (i + 1) (0, 0)) (l.getD i (0, 0))
theorem upB_no {lt : Int × Int → Int × Int → Bool} {l : List (Int × Int)} {i : Nat} (h : i + 1 < l.length) (hb : lt (l.getD (i + 1) (0, 0)) (l.getD i (0, 0)) = true) : upB lt l = false := by
  unfold upB
  rw [List.all_eq_false]
  exact ⟨i, List.mem_range.2 (by omega), by rw [hb]; simp⟩
theorem upB_yes {lt : Int × Int → Int × Int → Bool} {l : List (Int × Int)} (h : ∀ i, i + 1 < l.length → lt (l.getD (i + 1) (0, 0)) (l.getD i (0, 0)) = false) : upB lt l = true := by
  unfold upB
  rw [List.all_eq_true]
  intro i hi
  rw [h i (by have := List.mem_range.1 hi; omega)]; rfl
theorem upB_asc {lt : Int × Int → Int × Int → Bool} (S : Mg.SW lt) {l : List (Int × Int)} (h : upB lt l = true) : Mg.Asc lt l := by
  refine Mg.asc_of_side S l fun i hi => ?_
  unfold upB at h
  rw [List.all_eq_true] at h
  have := h i (List.mem_range.2 (by omega))
  rw [getD_get hi, getD_get (by omega)] at this
  simpa using this

set_option maxRecDepth 100000 in
set_option maxHeartbeats 4000000 in
theorem isSortedFunc_any {lt : Int × Int → Int × Int → Bool} {cv : Value} {g : Nat} (HCV : CmpIs (fun _ => True) g lt cv) (a : Option Addr) (n c : Nat) (rs : List (Int × Int)) (w : World) (hn : n ≤ 1000000) (h : Rd w a n c rs) :
    Calls Try.prog 32 #[.slice a n c, cv] w fun e w' => e = .returned (.bool (upB lt rs)) ∧ Below w.heap.size w w' := by
  obtain ⟨_, G, cp, rfl, hcall, hcmp⟩ := HCV
  have HCM := Lib.hid hcmp; have H := Lib.hid h
  clear hcmp h
  go_enter Try.func32, Try.ntmps32
  go_wp2
  go_loopw [5] (fun v wr => ∃ i : Int, v = .int .i64 i ∧ -1 ≤ i ∧ i < n ∧ Hid (∀ j : Nat, i ≤ j → j + 1 < n → lt (rs.getD (j + 1) (0, 0)) (rs.getD j (0, 0)) = false) ∧ Below w.heap.size w wr) (fun v _ => (intOf v).toNat)
  case atStart => exact ⟨(n : Int) - 1, by go_num, by omega, by omega, Lib.hid (fun j h1 h2 => by omega), Below.refl _ _⟩
  case round =>
    obtain ⟨i, rfl, hi0, hi1, HALL, hb⟩ := hrel
    have HB := Lib.hid hb
    clear hb
    by_cases hlt : 0 < i
    case neg =>
      have q1 : decide (0 < i) = false := decide_eq_false hlt
      have HE : Hid (upB lt rs = true) := upB_yes fun j hj => HALL.out j (by omega) (by rw [← H.out.len]; exact hj)
      go_wp2
      go_ret
      exact ⟨ret_bool HE.out.symm, HB.out⟩
    obtain ⟨k, rfl⟩ : ∃ k : Nat, i = (k : Int) + 1 := ⟨(i - 1).toNat, by omega⟩
    have q1 : decide (0 < (k : Int) + 1) = true := decide_eq_true (by omega)
    obtain ⟨b, o, rfl, d1, d2⟩ := (H.out.same HB.out).at (show k < n by omega)
    obtain ⟨b', o', e, c1, c2⟩ := (H.out.same HB.out).at (show k + 1 < n by omega)
    injection e with e
    injection e with e1 e2
    subst e1 e2
    obtain ⟨X, hX⟩ : ∃ X, rs.getD (k + 1) (0, 0) = X := ⟨_, rfl⟩
    obtain ⟨Y, hY⟩ : ∃ Y, rs.getD k (0, 0) = Y := ⟨_, rfl⟩
    rw [hX] at c1 c2
    rw [hY] at d1 d2
    have HX := Lib.hid hX; have HY := Lib.hid hY
    clear hX hY
    have HCK := Lib.hid (fun W => HCM.out X Y W trivial)
    have hcall := hcall (#[.agg #[.int .i64 X.1, .int .i64 X.2], .agg #[.int .i64 Y.1, .int .i64 Y.2]] ++ cp)
    obtain ⟨X1, X2⟩ := X
    obtain ⟨Y1, Y2⟩ := Y
    have t1 : ((k : Int) + 1).toNat = k + 1 := by omega
    have t0 : ((k : Int)).toNat = k := by omega
    have b0 : (0 : Int) ≤ (k : Int) := by omega
    have b1 : (k : Int) + 1 < (n : Int) := by omega
    have b2 : (k : Int) < (n : Int) := by omega
    have b3 : (0 : Int) ≤ (k : Int) + 1 := by omega
    have w1 : IntKind.i64.wrap (k : Int) = (k : Int) := IntWalk.i64_in _ (by omega)
    go_wp2_with fail
    go_still_tail 10, (by kernel_rfl)
    go_wp2_with fail
    refine (HCK.out _).mono ?_
    rintro e w5 ⟨⟨nn, rfl, hnn⟩, hbc⟩
    have HB5 := Lib.hid (HB.out.trans (((Below.refl _ _).drew.trans hbc).mono HB.out.size))
    clear hbc c1 c2 d1 d2 HCK
    cases hyx : lt (X1, X2) (Y1, Y2)
    · have hz : decide (nn < 0) = false := by rw [hnn]; exact hyx
      have HYX := Lib.hid hyx
      clear hnn hyx
      go_wp2
      go_roundw
      case rel => exact ⟨k, by go_num, by omega, by omega, Lib.hid (fun j h1 h2 => by
        rcases Nat.lt_or_ge k j with h | h
        · exact HALL.out j (by omega) h2
        · obtain rfl : j = k := by omega
          rw [HX.out, HY.out]; exact HYX.out), HB5.out⟩
      case measure => simp [intOf] <;> omega
    · have hz : decide (nn < 0) = true := by rw [hnn]; exact hyx
      have HE : Hid (upB lt rs = false) := upB_no (i := k) (by rw [H.out.len]; omega) (by rw [HX.out, HY.out]; exact hyx)
      clear hnn hyx
      go_wp2
      go_ret
      exact ⟨ret_bool HE.out.symm, HB5.out⟩

end Go.Proofs.Ytpdndcnhgadgoaa

/- Plain law of top lists: offered one by one, and merged out of two parts. No program in sight. -/
namespace Go.Proofs.Ytpdndcnhgadgoaa.Mg
set_option linter.unusedVariables false
variable {α : Type} {lt : α → α → Bool}

/-- The first k of a merge depend on the first k of either list alone. -/
theorem mrg_take : ∀ (k : Nat) (A B : List α), (mrg lt (A.take k) (B.take k)).take k = (mrg lt A B).take k
  | 0, _, _ => by simp
  | k + 1, [], B => by rw [List.take_nil, mrg_nil, mrg_nil, List.take_take, Nat.min_self]
  | k + 1, x :: A, [] => by rw [List.take_nil, nil_mrg, nil_mrg, List.take_take, Nat.min_self]
  | k + 1, x :: A, y :: B => by
    have aux : ∀ (l : List α), (l.take (k + 1)).take k = l.take k := fun l => by rw [List.take_take]; congr 1; omega
    rw [List.take_succ_cons, List.take_succ_cons]
    cases h : lt y x
    · rw [mrg_ge h, mrg_ge h, List.take_succ_cons, List.take_succ_cons]
      congr 1
      have h1 := mrg_take k A (y :: B)
      have h2 := mrg_take k (A.take k) (y :: B.take k)
      rw [List.take_take, Nat.min_self] at h2
      rw [← h1, ← h2]
      congr 2
      cases k with
      | zero => simp
      | succ k => simp [List.take_take]
    · rw [mrg_lt h, mrg_lt h, List.take_succ_cons, List.take_succ_cons]
      congr 1
      have h1 := mrg_take k (x :: A) B
      have h2 := mrg_take k (x :: A.take k) (B.take k)
      rw [List.take_take, Nat.min_self] at h2
      rw [← h1, ← h2]
      congr 2
      cases k with
      | zero => simp
      | succ k => simp [List.take_take]

/-- The top list. -/
def topK (lt : α → α → Bool) (k : Nat) (l : List α) : List α := (srt lt l).take k
theorem topK_len (k : Nat) (l : List α) : (topK lt k l).length ≤ k := by unfold topK; rw [List.length_take]; omega
theorem topK_nil (k : Nat) : topK lt k [] = [] := by simp [topK, srt_nil]
theorem topK_asc (S : SW lt) (k : Nat) (l : List α) : Asc lt (topK lt k l) := (srt_asc S l).sublist (List.take_sublist k _)
theorem topK_mem {k : Nat} {l : List α} {x : α} (h : x ∈ topK lt k l) : x ∈ l := srt_mem.1 (List.mem_of_mem_take h)

/-- Two top lists, merged. -/
theorem topK_append (S : SW lt) (k : Nat) (a b : List α) : topK lt k (topK lt k a ++ topK lt k b) = topK lt k (a ++ b) := by
  show (srt lt (topK lt k a ++ topK lt k b)).take k = (srt lt (a ++ b)).take k
  rw [srt_append S, srt_append S, srt_of_asc (topK_asc S k a), srt_of_asc (topK_asc S k b)]
  exact mrg_take k _ _
/-- One more is offered. -/
theorem topK_snoc (S : SW lt) {k : Nat} (hk : 1 ≤ k) (l : List α) (x : α) : topK lt k (l ++ [x]) = (mrg lt (topK lt k l) [x]).take k := by
  unfold topK
  rw [srt_snoc, ← mrg_take k (srt lt l) [x]]
  congr 2
  rw [List.take_of_length_le (by simpa using hk)]
/-- Where it goes: behind all that are not behind it. -/
def offAt (lt : α → α → Bool) (x : α) : List α → Nat
  | [] => 0
  | y :: r => if lt x y then 0 else offAt lt x r + 1
theorem offAt_le (x : α) : ∀ (l : List α), offAt lt x l ≤ l.length
  | [] => Nat.le_refl _
  | y :: r => by
    have := offAt_le x r
    rw [offAt]; split <;> simp <;> omega
theorem offAt_stop {x : α} : ∀ {l : List α} {i : Nat}, (∀ j y, j < i → l[j]? = some y → lt x y = false) → (i = l.length ∨ ∃ y, l[i]? = some y ∧ lt x y = true) → i ≤ l.length → offAt lt x l = i
  | [], i, _, _, hl => by simp at hl; subst hl; rfl
  | y :: r, 0, _, h, _ => by
    rcases h with h | ⟨z, h1, h2⟩
    · simp at h
    · simp at h1; subst h1; rw [offAt, if_pos h2]
  | y :: r, i + 1, h, h', hl => by
    have h0 := h 0 y (by omega) (by simp)
    rw [offAt, if_neg (by rw [h0]; decide)]
    rw [offAt_stop (l := r) (i := i) (fun j z hj hz => h (j + 1) z (by omega) (by simpa using hz)) (by
      rcases h' with h' | ⟨z, h1, h2⟩
      · left; simpa using h'
      · right; exact ⟨z, by simpa using h1, h2⟩) (by simpa using hl)]
theorem mrg_off (S : SW lt) (x : α) : ∀ {l : List α}, Asc lt l → mrg lt l [x] = l.take (offAt lt x l) ++ x :: l.drop (offAt lt x l)
  | [], _ => by simp [mrg_nil, offAt]
  | y :: r, h => by
    rw [offAt]
    cases hy : lt x y
    · rw [if_neg (by decide), mrg_ge hy, mrg_off S x (asc_cons.1 h).2]
      simp
    · rw [if_pos rfl, mrg_lt hy, nil_mrg]; simp
/-- Offered at its place; at place k it is not taken. -/
theorem topK_offer (S : SW lt) {k : Nat} (hk : 1 ≤ k) (l : List α) (x : α) :
    topK lt k (l ++ [x]) = if offAt lt x (topK lt k l) = k then topK lt k l else ((topK lt k l).take (offAt lt x (topK lt k l)) ++ x :: (topK lt k l).drop (offAt lt x (topK lt k l))).take k := by
  rw [topK_snoc S hk, mrg_off S x (topK_asc S k l)]
  split
  · rename_i h
    have hl := topK_len (lt := lt) k l
    have ho := offAt_le (lt := lt) x (topK lt k l)
    have e : (topK lt k l).length = k := by omega
    rw [h, List.take_of_length_le (by omega : (topK lt k l).length ≤ k), List.take_append, e, Nat.sub_self, List.take_zero, List.append_nil, List.take_of_length_le (by omega)]
  · rfl

end Go.Proofs.Ytpdndcnhgadgoaa.Mg

/- General: records given back with a number and a Bool; drawn records; what is kept. -/
namespace Go.Proofs.Ytpdndcnhgadgoaa
open Go.RowKit Go.Sort
set_option linter.unusedVariables false

/-- A list, a number and a Bool, given back. -/
def Rd3 (w : World) (out : List (Int × Int)) (k : Int) (ok : Bool) (e : Ending) (w' : World) : Prop :=
  ∃ (a : Option Addr) (n c : Nat), e = .returned (.tuple #[.slice a n c, .int .i64 k, .bool ok]) ∧ Rd w' a n c out ∧ Below w.heap.size w w'

theorem stAns_le (rs : List (Int × Int)) : (stAns rs).length ≤ rs.length := by
  unfold stAns; split
  · rw [srtR_len]; omega
  · simp
/-- A drawn list of records. -/
def RdDraw (w : World) (e : Ending) (w' : World) : Prop :=
  ∃ (a : Option Addr) (n c : Nat) (rs : List (Int × Int)), e = .returned (.slice a n c) ∧ Rd w' a n c rs ∧ n ≤ 70 ∧ Below w.heap.size w w'
theorem below_tr {B : Nat} {w w1 w2 : World} (h : Below B w w1) (hb : Below w1.heap.size w1 w2) (hB : B ≤ w1.heap.size) : Below B w w2 := h.trans (hb.mono hB)

theorem rd_lo {w : World} {a : Option Addr} {n c h : Nat} {rs : List (Int × Int)} (hr : Rd w a n c rs) (hh : h ≤ n) : Rd w a h c (rs.take h) :=
  ⟨recs_take hr.recs h, by rw [List.length_take, hr.len]; omega, hr.nil, by have := hr.cap; omega⟩
theorem rd_hi {w : World} {b o n c h : Nat} {rs : List (Int × Int)} (hr : Rd w (some ⟨b, o, none⟩) n c rs) (hh : h ≤ n) : Rd w (some ⟨b, o + h * 2, none⟩) (n - h) (c - h) (rs.drop h) :=
  ⟨recs_drop hr.recs h, by rw [List.length_drop, hr.len], nilOk_some _ _, by have := hr.cap; omega⟩

theorem own_cur {w w' : World} {B bc : Nat} {e : TypeId} {size n : Nat} {v : Value} {xs : List Value} (h : w.ownsRow B e size v n xs) (hB : bc < B) (hg : w.grownBy w' (some bc)) : w'.ownsRow B e size v n xs :=
  own_other h hg (fun k hk e => by injection e with e; have := (h.lt k hk).1; omega)

end Go.Proofs.Ytpdndcnhgadgoaa

/- General lemmas on owned rows: cut short, made longer within the capacity, copied into, grown for want of room. No program in sight. -/
namespace Go.Proofs.Ytpdndcnhgadgoaa
open Go.RowKit
set_option linter.unusedVariables false

theorem own_cutG {w : World} {base : Nat} {e : TypeId} {size g n c : Nat} {xs : List Value} (h : w.ownsRow base e size (.slice (some ⟨g, 0, none⟩) n c) n xs) {k : Nat} (hk : k ≤ n) : w.ownsRow base e size (.slice (some ⟨g, 0, none⟩) k c) k (xs.take (k * size)) := by
  obtain ⟨h1, h2⟩ := h
  rcases h2 with ⟨h2, _⟩ | ⟨g', cap, cur, hv, hb, hg, hn, hm, hs, ht⟩
  · cases h2
  · simp only [Value.slice.injEq, Option.some.injEq, Addr.mk.injEq] at hv
    obtain ⟨⟨rfl, _, _⟩, _, rfl⟩ := hv
    have hle : k * size ≤ n * size := Nat.mul_le_mul_right _ hk
    exact ⟨by rw [List.length_take]; omega, .inr ⟨g, c, cur, rfl, hb, hg, by omega, hm, hs, by rw [← ht, List.take_take]; congr 1; omega⟩⟩
theorem own_capG {w : World} {base : Nat} {e : TypeId} {size g n c : Nat} {xs : List Value} (h : w.ownsRow base e size (.slice (some ⟨g, 0, none⟩) n c) n xs) : n ≤ c ∧ c ≤ maxLen := by
  rcases h.2 with ⟨h2, _⟩ | ⟨g', cap, cur, hv, hb, hg, hn, hm, hs, ht⟩
  · cases h2
  · simp only [Value.slice.injEq, Option.some.injEq, Addr.mk.injEq] at hv
    obtain ⟨_, _, rfl⟩ := hv
    exact ⟨hn, hm⟩
theorem own_extG {w : World} {base : Nat} {e : TypeId} {size g n c : Nat} {xs : List Value} (h : w.ownsRow base e size (.slice (some ⟨g, 0, none⟩) n c) n xs) {k : Nat} (hk : n ≤ k) (hc : k ≤ c) : ∃ ys, w.ownsRow base e size (.slice (some ⟨g, 0, none⟩) k c) k (xs ++ ys) ∧ ys.length = (k - n) * size := by
  obtain ⟨h1, h2⟩ := h
  rcases h2 with ⟨h2, _⟩ | ⟨g', cap, cur, hv, hb, hg, hn, hm, hs, ht⟩
  · cases h2
  · simp only [Value.slice.injEq, Option.some.injEq, Addr.mk.injEq] at hv
    obtain ⟨⟨rfl, _, _⟩, _, rfl⟩ := hv
    have hle : n * size ≤ k * size := Nat.mul_le_mul_right _ hk
    have hle2 : k * size ≤ c * size := Nat.mul_le_mul_right _ hc
    have hcur : cur.toList.length = c * size := by rw [Array.length_toList, hs]
    refine ⟨(cur.toList.take (k * size)).drop (n * size), ⟨?_, .inr ⟨g, c, cur, rfl, hb, hg, hc, hm, hs, ?_⟩⟩, ?_⟩
    · rw [List.length_append, List.length_drop, List.length_take, h1, hcur]; omega
    · rw [← ht]
      have := (List.take_append_drop (n * size) (cur.toList.take (k * size))).symm
      rw [List.take_take, Nat.min_eq_left hle] at this
      exact this
    · rw [List.length_drop, List.length_take, hcur, Nat.sub_mul]; omega

theorem run_copyN {P : Program} (w : World) (dT sT ty elem : TypeId) (sz g o dLen dCap : Nat) (a : Addr) (sLen sCap : Nat) (cur : Array Value) (t : TypeId) (cs : List Value)
    (hu : P.underlying dT = some (.slice elem)) (hs : (P.info? elem).map (·.size) = some sz)
    (hg : w.heap[g]? = some (.cells cur t (0, 0))) (hn : cs.length = Nat.min sLen dLen * sz)
    (hsrc : ∀ j v, cs[j]? = some v → w.cell? (a.add j) = some v) (hfit : o + cs.length ≤ cur.size) (h1 : ∀ v ∈ cs, v.oneCell' = true) :
    (Builtin.copy_ #[dT, sT] ty #[.slice (some ⟨g, o, none⟩) dLen dCap, .slice (some a) sLen sCap]).run P w =
      .ok (goInt (Nat.min sLen dLen)) (w.setRow g (cur.toList.take o ++ cs ++ cur.toList.drop (o + cs.length)).toArray) := by
  have hl := run_loadCells_list (P := P) w a cs hsrc
  have hst := run_storeCells_at P g o t cs 0 cur w hg (by simpa using hfit) h1
  cases hq : P.info? elem with
  | none => simp [hq] at hs
  | some i =>
    have hi : i.size = sz := by simpa [hq] using hs
    simp [Builtin.copy_, run_underlying hu, Builtin.lenOf, Builtin.firstCells, sizeOf, typeInfo, hq, hi, ← hn, hl, hst]

theorem setRow_grownG (w : World) (g : Nat) (cs : Array Value) : w.grownBy (w.setRow g cs) (some g) :=
  ⟨rfl, rfl, rfl, by simp [World.setRow], fun q _ hq => by
    unfold World.setRow
    simp only
    rw [Array.getElem?_modify, if_neg (fun e => hq (by rw [e]))]⟩

/-- 'copy(d, s)' into an owned row, what is copied read beforehand. -/
theorem wpList_copyOwn {P : Program} {w : World} {ops : Array Oper} {rest : List Oper} {o : Oper} {a : Act} {Q : Exit → Act → World → Prop} {t e : TypeId} {z : Value} {size bytes : Nat} (T : SlT P t e z size bytes)
    (hgd : o.guard = none) (d s : Operand) (ho : o.op = .call { callee := .builtin .copy, args := #[d, s], argTypes := #[t, t] })
    {base g n c : Nat} {xs : List Value} (hown : w.ownsRow base e size (.slice (some ⟨g, 0, none⟩) n c) n xs)
    (i dl dc : Nat) (hd : a.eval d = .slice (some ⟨g, i * size, none⟩) dl dc) (ad : Addr) (sl sc : Nat) (hs : a.eval s = .slice (some ad) sl sc)
    (news : List Value) (hl : news.length = Nat.min sl dl * size) (hsrc : ∀ j v, news[j]? = some v → w.cell? (ad.add j) = some v) (h1 : ∀ v ∈ news, v.oneCell' = true) (hfit : i * size + news.length ≤ n * size)
    (hK : ∀ w', w'.ownsRow base e size (.slice (some ⟨g, 0, none⟩) n c) n (xs.take (i * size) ++ news ++ xs.drop (i * size + news.length)) → w.grownBy w' (some g) → wpList P ops Q rest (a.put o.dst (goInt (Nat.min sl dl))) w') :
    wpList P ops Q (o :: rest) a w := by
  refine wpList_plain hgd fun K hK' => ?_
  obtain ⟨inf, hi, _, hsz, _⟩ := T.info
  have hlen := hown.1
  rcases hown.2 with ⟨h2, _⟩ | ⟨g', cap, cur, hv, hb, hg, hn, hm, hsc, ht⟩
  · cases h2
  · simp only [Value.slice.injEq, Option.some.injEq, Addr.mk.injEq] at hv
    obtain ⟨⟨rfl, _, _⟩, _, rfl⟩ := hv
    have hle : n * size ≤ c * size := Nat.mul_le_mul_right _ hn
    have hr := run_copyN (P := P) w t t o.type e size g (i * size) dl dc ad sl sc cur e news T.und (by rw [hi]; simp [hsz]) hg hl hsrc (by rw [hsc]; omega) h1
    have hcl : cur.toList.length = c * size := by rw [Array.length_toList, hsc]
    unfold Oper.wp execOp
    simp only [ho, resolve, invoke, builtin, Sem.run_bind, Sem.run_pure, Result.andThen_ok, List.map_toArray, List.map_cons, List.map_nil, hd, hs, hr]
    refine hK' _ _ (hK _ ⟨?_, .inr ⟨g, c, _, rfl, hb, setRow_heap w g cur _ e _ hg, hn, hm, ?_, ?_⟩⟩ (setRow_grownG w g _))
    · simp only [List.length_append, List.length_take, List.length_drop, hlen]; omega
    · simp only [List.size_toArray, List.length_append, List.length_take, List.length_drop, hcl]; omega
    · show List.take (n * size) (cur.toList.take (i * size) ++ news ++ cur.toList.drop (i * size + news.length)) = _
      rw [← ht]
      apply List.ext_getElem?
      intro j
      simp only [List.getElem?_take, List.getElem?_append, List.length_append, List.length_take, List.getElem?_drop, hcl]
      by_cases hj : j < n * size
      · rw [if_pos hj]
        by_cases h3 : j < i * size + news.length
        · have e1 : j < min (i * size) (c * size) + news.length := by omega
          have e2 : j < min (i * size) (min (n * size) (c * size)) + news.length := by omega
          rw [if_pos e1, if_pos e2]
          by_cases h4 : j < i * size
          · have a1 : j < min (i * size) (c * size) := by omega
            have a2 : j < min (i * size) (min (n * size) (c * size)) := by omega
            rw [if_pos a1, if_pos a2]
            simp only [if_pos h4, if_pos hj]
          · have a1 : ¬ j < min (i * size) (c * size) := by omega
            have a2 : ¬ j < min (i * size) (min (n * size) (c * size)) := by omega
            rw [if_neg a1, if_neg a2]
            congr 1; omega
        · have e1 : ¬ j < min (i * size) (c * size) + news.length := by omega
          have e2 : ¬ j < min (i * size) (min (n * size) (c * size)) + news.length := by omega
          rw [if_neg e1, if_neg e2, if_pos (by omega)]
          congr 1; omega
      · rw [if_neg hj]
        symm
        rw [if_neg (by omega), if_neg (by omega)]

/-- 'append' for which there is no room: the result lies in a new block. -/
theorem run_app_grow {P : Program} (w : World) {t e : TypeId} {z : Value} {size bytes : Nat} (T : SlT P t e z size bytes) (base : Nat) (ty : TypeId)
    (g n cap : Nat) (xs : List Value) (hown : w.ownsRow base e size (.slice (some ⟨g, 0, none⟩) n cap) n xs)
    (a : Addr) (m c : Nat) (news : List Value) (hl : news.length = m * size) (hnews : ∀ j u, news[j]? = some u → w.cell? (a.add j) = some u) (h1 : ∀ u ∈ news, u.oneCell' = true)
    (hsmall : n + m ≤ 1099511627776) (hbase : base ≤ w.heap.size) (hroom : cap < n + m) :
    ∃ v' w', (Builtin.append_ #[t, t] ty #[.slice (some ⟨g, 0, none⟩) n cap, .slice (some a) m c]).run P w = .ok v' w' ∧ w'.ownsRow base e size v' (n + m) (xs ++ news) ∧ w.grownBy w' (some g) ∧ v'.ownBlock = some w.heap.size := by
  obtain ⟨i, hi, hz, hs, hby⟩ := T.info
  have hb47 : (n + m) * bytes ≤ 140737488355328 := by
    have := Nat.mul_le_mul hsmall T.small
    omega
  have hml : n + m ≤ maxLen := by unfold maxLen; omega
  obtain ⟨v', w', hr, g1, g2, g3⟩ := run_append_own (P := P) w base t ty e i z size bytes T.und hi hz hs hby T.cells T.pos (.slice (some ⟨g, 0, none⟩) n cap) n xs hown a m c news hl hnews h1 hml hb47 hbase
  refine ⟨v', w', hr, g1, g2, ?_⟩
  subst hs
  have hnc := (own_capG hown).1
  have holds : ∀ j u, xs[j]? = some u → w.cell? ((⟨g, 0, none⟩ : Addr).add j) = some u := hown.cells (g := g) rfl
  have hq := run_append_grow (P := P) w t ty e i z T.und hi hz ⟨g, 0, none⟩ n cap xs hown.1 holds a m c news hl hnews (by omega) (by unfold maxLen at hml; omega) (growslice_fits (by omega) (by rw [hby]; exact hb47))
  rw [hr] at hq
  injection hq with e1 _
  rw [e1]; rfl

theorem flat_takeG {α : Type} {enc : α → List Value} {S : Nat} (hS : ∀ r, (enc r).length = S) (rs : List α) (k : Nat) (hk : k ≤ rs.length) : (flat enc rs).take (k * S) = flat enc (rs.take k) := by
  conv => lhs; rw [← List.take_append_drop k rs, flat_append]
  have hl : (flat enc (rs.take k)).length = k * S := by rw [flat_length hS, List.length_take, Nat.min_eq_left hk]
  rw [← hl]; exact List.take_left
theorem flat_dropG {α : Type} {enc : α → List Value} {S : Nat} (hS : ∀ r, (enc r).length = S) (rs : List α) (k : Nat) (hk : k ≤ rs.length) : (flat enc rs).drop (k * S) = flat enc (rs.drop k) := by
  conv => lhs; rw [← List.take_append_drop k rs, flat_append]
  have hl : (flat enc (rs.take k)).length = k * S := by rw [flat_length hS, List.length_take, Nat.min_eq_left hk]
  rw [← hl]; exact List.drop_left
theorem flat_insG {α : Type} {enc : α → List Value} {S : Nat} (hS : ∀ r, (enc r).length = S) (rs : List α) (k : Nat) (hk : k ≤ rs.length) (x : α) : flat enc (rs.take k ++ x :: rs.drop k) = (flat enc rs).take (k * S) ++ enc x ++ (flat enc rs).drop (k * S) := by
  rw [flat_takeG hS rs k hk, flat_dropG hS rs k hk, flat_append]
  have : flat enc (x :: rs.drop k) = enc x ++ flat enc (rs.drop k) := by simp [flat]
  rw [this, List.append_assoc]

/-- 'append(s, y...)' for which there is no room, as a step of the walk. -/
theorem wpList_appGrow {P : Program} {w : World} {ops : Array Oper} {rest : List Oper} {o : Oper} {a : Act} {Q : Exit → Act → World → Prop} {t e : TypeId} {z : Value} {size bytes : Nat} (T : SlT P t e z size bytes)
    (hgd : o.guard = none) (s y : Operand) (ho : o.op = .call { callee := .builtin .append, args := #[s, y], argTypes := #[t, t] })
    (base g n cap : Nat) (xs : List Value) (hs : a.eval s = .slice (some ⟨g, 0, none⟩) n cap) (hown : w.ownsRow base e size (.slice (some ⟨g, 0, none⟩) n cap) n xs)
    (ad : Addr) (m c : Nat) (ys : List Value) (hy : a.eval y = .slice (some ad) m c) (hl : ys.length = m * size) (hcells : ∀ j u, ys[j]? = some u → w.cell? (ad.add j) = some u) (h1 : ∀ u ∈ ys, u.oneCell' = true)
    (hsmall : n + m ≤ 1099511627776) (hbase : base ≤ w.heap.size) (hroom : cap < n + m)
    (h : ∀ v' w', w'.ownsRow base e size v' (n + m) (xs ++ ys) → w.grownBy w' (some g) → v'.ownBlock = some w.heap.size → wpList P ops Q rest (a.put o.dst v') w') : wpList P ops Q (o :: rest) a w := by
  refine wpList_plain hgd fun K hK => ?_
  obtain ⟨v', w', hr, g1, g2, g3⟩ := run_app_grow (P := P) w T base o.type g n cap xs hown ad m c ys hl hcells h1 hsmall hbase hroom
  unfold Oper.wp execOp
  simp only [ho, resolve, invoke, builtin, Sem.run_bind, Sem.run_pure, Result.andThen_ok, List.map_toArray, List.map_cons, List.map_nil, hs, hy, hr]
  exact hK _ _ (h v' w' g1 g2 g3)

end Go.Proofs.Ytpdndcnhgadgoaa

/- Walks: top lists by the program: their order, topOf, TopRecords, isTopList.  -/
namespace Go.Proofs.Ytpdndcnhgadgoaa
open Go.RowKit Go.Sort
set_option linter.unusedVariables false

/-- Greater keys first. -/
def gtK : Int × Int → Int × Int → Bool := Mg.ltK fun r => -r.1
theorem gtK_sw : Mg.SW gtK := Mg.swK _
theorem gtK_eq (r s : Int × Int) : gtK r s = decide (s.1 < r.1) := by unfold gtK Mg.ltK; congr 1; simp only [eq_iff_iff]; omega

set_option maxHeartbeats 1000000 in
theorem topCmp_any (r s : Int × Int) (w : World) :
    Calls Try.prog 29 #[.agg #[.int .i64 r.1, .int .i64 r.2], .agg #[.int .i64 s.1, .int .i64 s.2]] w fun e w' => (∃ n : Int, e = .returned (.int .i64 n) ∧ (decide (n < 0) = gtK r s)) ∧ Below w.heap.size w w' := by
  obtain ⟨r1, r2⟩ := r
  obtain ⟨s1, s2⟩ := s
  have HC := Lib.hid (fun w => compareKeys_any (s1, s2) (r1, r2) w)
  go_enter Try.func29, Try.ntmps29
  go_wp2_with fail
  refine (HC.out _).mono ?_
  rintro e w1 ⟨⟨n, rfl, hn⟩, hb⟩
  have HN := Lib.hid hn
  have HB : Hid (Below w.heap.size w w1) := Below.trans (by (repeat (first | exact Below.refl _ _ | assumption | refine Below.setCell ?_ (by first | omega | (simp; done) | (simp; omega)) _ | refine Below.alloc ?_ (by first | omega | (simp; done) | (simp; omega)) _ | refine Below.drew ?_ | refine below_drewN ?_ _))) (hb.mono (by simp; omega))
  clear hb hn
  go_wp2
  go_ret
  exact ⟨⟨n, rfl, by rw [HN.out, gtK_eq]⟩, HB.out⟩
def topV : Value := .func (.func 29) #[] #[]
theorem topV_is (g : Nat) : CmpIs (fun _ => True) g gtK topV :=
  ⟨fun _ _ _ _ => trivial, 29, #[], rfl, fun args w => by kernel_rfl, fun r s w _ => topCmp_any r s w⟩
-- the closure of isTopList is the same text: topCmp2_any, topV2, topV2_is over impl.isTopList$1

def topR (k : Nat) (rs : List (Int × Int)) : List (Int × Int) := Mg.topK gtK k rs
theorem topR_min (k : Nat) (rs : List (Int × Int)) : topR k rs = (Mg.srt gtK rs).take (min k rs.length) := by
  unfold topR Mg.topK
  by_cases h : k ≤ rs.length
  · rw [Nat.min_eq_left h]
  · rw [Nat.min_eq_right (by omega), List.take_of_length_le (by rw [Mg.srt_length]; omega), List.take_of_length_le (by rw [Mg.srt_length]; exact Nat.le_refl _)]

set_option maxRecDepth 100000 in
set_option maxHeartbeats 2000000 in
theorem topOf_any (a : Option Addr) (cap k : Nat) (zs : List (Int × Int)) (w : World) (hlen : zs.length ≤ 1000) (hk : k ≤ 1000) (h : RecsAt w a zs) (hx : NilOk a cap) :
    Calls Try.prog 16 #[.slice a zs.length cap, .int .i64 k] w (OwnR w (topR k zs) (min k zs.length)) := by
  have HC := Lib.hid (copyOfR_any a cap zs w hlen h hx)
  have HSS := Lib.hid (fun B0 g c W h => sortStable_any gtK_sw B0 g c zs.length zs W rfl hlen trivial (topV_is g) h)
  have HT := Lib.hid (topR_min k zs)
  clear h hx
  unfold OwnR at *
  go_enter Try.func16, Try.ntmps16
  go_wp2_with fail
  refine HC.out.mono ?_
  rintro e w1 ⟨g, c, rfl, ho, hb⟩
  have HO1 := Lib.hid ho; have HB1 := Lib.hid hb
  have hgw := (ho.lt g rfl).1
  clear ho hb HC
  go_wp2_with fail
  refine (HSS.out _ _ _ _ HO1.out).mono ?_
  rintro e w5 ⟨rfl, ho5, hg5⟩
  have HO5 := Lib.hid ho5
  have HB5 := Lib.hid (below_of_grown HB1.out HB1.out.size hg5 (fun k hk => by injection hk with hk; omega))
  obtain ⟨hc1, hc2⟩ := own_capG ho5
  clear ho5 hg5 HSS
  obtain ⟨hh, hhe⟩ : ∃ hh, min k zs.length = hh := ⟨_, rfl⟩
  have HM : Hid (min (k : Int) (zs.length : Int) = (hh : Int)) := by show _ = _; omega
  have HH := Lib.hid hhe
  have b1 : hh ≤ zs.length := by omega
  have b2 : (hh : Int) ≤ (c : Int) := by omega
  have b3 : (0 : Int) ≤ (hh : Int) := by omega
  have HO6 := Lib.hid (own_cutG HO5.out b1)
  clear hhe
  go_wp2_with fail
  go_ret
  refine ⟨g, c, ?_, ?_, HB5.out⟩
  · show Ending.returned (.slice (some ⟨g, 0, none⟩) (min (k : Int) (zs.length : Int)).toNat c) = _
    rw [HM.out, HH.out]; rfl
  rw [HH.out, HT.out, HH.out]
  have := HO6.out
  rwa [flat_takeG encR_len _ _ (by rw [Mg.srt_length]; omega)] at this

end Go.Proofs.Ytpdndcnhgadgoaa

/- Walks: top lists: isTop, isTopList. -/
namespace Go.Proofs.Ytpdndcnhgadgoaa
open Go.RowKit Go.Sort
set_option linter.unusedVariables false

set_option maxHeartbeats 1000000 in
theorem topCmp2_any (r s : Int × Int) (w : World) :
    Calls Try.prog 33 #[.agg #[.int .i64 r.1, .int .i64 r.2], .agg #[.int .i64 s.1, .int .i64 s.2]] w fun e w' => (∃ n : Int, e = .returned (.int .i64 n) ∧ (decide (n < 0) = gtK r s)) ∧ Below w.heap.size w w' := by
  obtain ⟨r1, r2⟩ := r
  obtain ⟨s1, s2⟩ := s
  have HC := Lib.hid (fun w => compareKeys_any (s1, s2) (r1, r2) w)
  go_enter Try.func33, Try.ntmps33
  go_wp2_with fail
  refine (HC.out _).mono ?_
  rintro e w1 ⟨⟨n, rfl, hn⟩, hb⟩
  have HN := Lib.hid hn
  have HB : Hid (Below w.heap.size w w1) := Below.trans (by (repeat (first | exact Below.refl _ _ | assumption | refine Below.setCell ?_ (by first | omega | (simp; done) | (simp; omega)) _ | refine Below.alloc ?_ (by first | omega | (simp; done) | (simp; omega)) _ | refine Below.drew ?_ | refine below_drewN ?_ _))) (hb.mono (by simp; omega))
  clear hb hn
  go_wp2
  go_ret
  exact ⟨⟨n, rfl, by rw [HN.out, gtK_eq]⟩, HB.out⟩
def topV2 : Value := .func (.func 33) #[] #[]
theorem topV2_is (g : Nat) : CmpIs (fun _ => True) g gtK topV2 :=
  ⟨fun _ _ _ _ => trivial, 33, #[], rfl, fun args w => by kernel_rfl, fun r s w _ => topCmp2_any r s w⟩

theorem isTop_any (k : Int) (w : World) : Calls Try.prog 15 #[.int .i64 k] w fun e w' => e = .returned (.bool (inB k 1 16)) ∧ w = w' := by
  have HN := Lib.hid (fun w1 => in_any k 1 16 w1)
  go_enter Try.func15, Try.ntmps15
  go_wp2_with (go_at_call 27; refine (HN.out _).mono ?_; rintro e w' ⟨rfl, rfl⟩)
  go_ret
  exact ⟨rfl, rfl⟩

def isTopL (rs : List (Int × Int)) (k : Int) : Bool := inB k 1 16 && decide ((rs.length : Int) ≤ k) && okRecs rs && upB gtK rs

set_option maxRecDepth 100000 in
set_option maxHeartbeats 4000000 in
theorem isTopList_any (a : Option Addr) (n c : Nat) (rs : List (Int × Int)) (k : Int) (w : World) (hn : n ≤ 1000000) (h : Rd w a n c rs) :
    Calls Try.prog 18 #[.slice a n c, .int .i64 k] w fun e w' => e = .returned (.bool (isTopL rs k)) ∧ Below w.heap.size w w' := by
  have HS := Lib.hid (isSortedFunc_any (topV2_is 0) a n c rs w hn h)
  have HT := Lib.hid (fun w1 => isTop_any k w1)
  have hl := h.len
  have HV : Hid (∀ w1, Below w.heap.size w w1 → Calls Try.prog 14 #[.slice a n c] w1 fun e w' => e = .returned (.bool (okRecs rs)) ∧ Below w1.heap.size w1 w') := fun w1 hb => by
    have := isValidRecords_any a c rs w1 (by omega) (h.same hb).recs
    rwa [hl] at this
  have HE : Hid (isTopL rs k = (inB k 1 16 && decide ((n : Int) ≤ k) && okRecs rs && upB gtK rs)) := by show _ = _; unfold isTopL; rw [hl]
  clear h hl
  obtain ⟨p1, hp1⟩ : ∃ p, inB k 1 16 = p := ⟨_, rfl⟩
  obtain ⟨p3, hp3⟩ : ∃ p, okRecs rs = p := ⟨_, rfl⟩
  obtain ⟨p4, hp4⟩ : ∃ p, upB gtK rs = p := ⟨_, rfl⟩
  rw [hp1, hp3, hp4] at HE
  rw [hp1] at HT
  rw [hp3] at HV
  rw [hp4] at HS
  clear hp1 hp3 hp4
  by_cases h2 : (n : Int) ≤ k
  all_goals
    cases p1 <;> cases p3
    all_goals
      go_enter Try.func18, Try.ntmps18
      go_wp2_with (first
        | (go_at_call 32; refine HS.out.mono ?_; rintro e w1 ⟨rfl, hb1⟩; have HB1 := Lib.hid hb1; clear hb1)
        | (go_at_call 15; refine (HT.out _).mono ?_; rintro e w2 ⟨rfl, rfl⟩)
        | (go_at_call 14; refine (HV.out _ HB1.out).mono ?_; rintro e w3 ⟨rfl, hb3⟩; have HB3 := Lib.hid (below_tr HB1.out hb3 HB1.out.size); clear hb3))
      all_goals
        go_ret
        refine ⟨ret_bool (by rw [HE.out]; first | (simp [h2]; done) | (simp; omega)), by first | exact HB3.out | exact HB1.out⟩

end Go.Proofs.Ytpdndcnhgadgoaa

/- Walks: TopRecords. -/
namespace Go.Proofs.Ytpdndcnhgadgoaa
open Go.RowKit Go.Sort
set_option linter.unusedVariables false

/-- A list and a Bool, given back. -/
def RdB (w : World) (out : List (Int × Int)) (ok : Bool) (e : Ending) (w' : World) : Prop :=
  ∃ (a : Option Addr) (n c : Nat), e = .returned (.tuple #[.slice a n c, .bool ok]) ∧ Rd w' a n c out ∧ Below w.heap.size w w'

theorem inB_nat {k : Int} (h : inB k 1 16 = true) : ∃ m : Nat, k = (m : Int) ∧ 1 ≤ m ∧ m ≤ 16 := by
  have : 1 ≤ k ∧ k ≤ 16 := by simpa [inB] using h
  exact ⟨k.toNat, by omega, by omega, by omega⟩

set_option maxRecDepth 100000 in
set_option maxHeartbeats 4000000 in
theorem topRecords_any (a : Option Addr) (n c : Nat) (rs : List (Int × Int)) (k : Int) (w : World) (hn : n ≤ 1000) (h : Rd w a n c rs) :
    Calls Try.prog 6 #[.slice a n c, .int .i64 k] w (RdB w (if okRecs rs && inB k 1 16 then topR k.toNat rs else []) (okRecs rs && inB k 1 16)) := by
  have HT := Lib.hid (fun w1 => isTop_any k w1)
  have hl := h.len
  have HV : Hid (Calls Try.prog 14 #[.slice a n c] w fun e w' => e = .returned (.bool (okRecs rs)) ∧ Below w.heap.size w w') := by
    have := isValidRecords_any a c rs w (by omega) h.recs
    rwa [hl] at this
  have HO : Hid (∀ (m : Nat), m ≤ 16 → ∀ w1, Below w.heap.size w w1 → Calls Try.prog 16 #[.slice a n c, .int .i64 m] w1 (OwnR w1 (topR m rs) (min m rs.length))) := fun m hm w1 hb => by
    have := topOf_any a c m rs w1 (by omega) (by omega) (h.same hb).recs (h.same hb).nil
    rw [hl] at this
    rwa [hl]
  clear h hl
  obtain ⟨p3, hp3⟩ : ∃ p, okRecs rs = p := ⟨_, rfl⟩
  obtain ⟨p1, hp1⟩ : ∃ p, inB k 1 16 = p := ⟨_, rfl⟩
  rw [hp3] at HV
  rw [hp1] at HT
  rw [hp1, hp3]
  clear hp3
  cases p3 <;> cases p1
  case true.true =>
    obtain ⟨m, rfl, hm1, hm2⟩ := inB_nat hp1
    clear hp1
    go_enter Try.func6, Try.ntmps6
    go_wp2_with (first
      | (go_at_call 14; refine HV.out.mono ?_; rintro e w1 ⟨rfl, hb1⟩; have HB1 := Lib.hid hb1; clear hb1)
      | (go_at_call 15; refine (HT.out _).mono ?_; rintro e w2 ⟨rfl, rfl⟩)
      | (go_at_call 16; refine (HO.out m hm2 _ HB1.out).mono ?_; rintro e w3 ⟨g, c', rfl, ho, hb3⟩; have HO3 := Lib.hid ho; have HB3 := Lib.hid (below_tr HB1.out hb3 HB1.out.size); clear ho hb3))
    go_ret2
    exact ⟨_, _, _, rfl, rd_own HO3.out, HB3.out⟩
  all_goals
    clear hp1
    go_enter Try.func6, Try.ntmps6
    go_wp2_with (first
      | (go_at_call 14; refine HV.out.mono ?_; rintro e w1 ⟨rfl, hb1⟩; have HB1 := Lib.hid hb1; clear hb1)
      | (go_at_call 15; refine (HT.out _).mono ?_; rintro e w2 ⟨rfl, rfl⟩))
    go_ret2
    exact ⟨none, 0, 0, rfl, rd_nil _, HB1.out⟩

end Go.Proofs.Ytpdndcnhgadgoaa

/- 'copy' into an owned row: its run, and as a step of a region that draws its order. -/
namespace Go.Proofs.Ytpdndcnhgadgoaa
open Go.RowKit
set_option linter.unusedVariables false

theorem run_copyOwn {P : Program} (w : World) {t e : TypeId} {z : Value} {size bytes : Nat} (T : SlT P t e z size bytes) (ty : TypeId)
    {base g n c : Nat} {xs : List Value} (hown : w.ownsRow base e size (.slice (some ⟨g, 0, none⟩) n c) n xs)
    (i dl dc : Nat) (ad : Addr) (sl sc : Nat)
    (news : List Value) (hl : news.length = Nat.min sl dl * size) (hsrc : ∀ j v, news[j]? = some v → w.cell? (ad.add j) = some v) (h1 : ∀ v ∈ news, v.oneCell' = true) (hfit : i * size + news.length ≤ n * size) :
    ∃ w', (Builtin.copy_ #[t, t] ty #[.slice (some ⟨g, i * size, none⟩) dl dc, .slice (some ad) sl sc]).run P w = .ok (goInt (Nat.min sl dl)) w' ∧ w'.ownsRow base e size (.slice (some ⟨g, 0, none⟩) n c) n (xs.take (i * size) ++ news ++ xs.drop (i * size + news.length)) ∧ w.grownBy w' (some g) := by
  obtain ⟨inf, hi, _, hsz, _⟩ := T.info
  have hlen := hown.1
  rcases hown.2 with ⟨h2, _⟩ | ⟨g', cap, cur, hv, hb, hg, hn, hm, hsc, ht⟩
  · cases h2
  · simp only [Value.slice.injEq, Option.some.injEq, Addr.mk.injEq] at hv
    obtain ⟨⟨rfl, _, _⟩, _, rfl⟩ := hv
    have hle : n * size ≤ c * size := Nat.mul_le_mul_right _ hn
    have hr := run_copyN (P := P) w t t ty e size g (i * size) dl dc ad sl sc cur e news T.und (by rw [hi]; simp [hsz]) hg hl hsrc (by rw [hsc]; omega) h1
    have hcl : cur.toList.length = c * size := by rw [Array.length_toList, hsc]
    refine ⟨_, hr, ⟨?_, .inr ⟨g, c, _, rfl, hb, setRow_heap w g cur _ e _ hg, hn, hm, ?_, ?_⟩⟩, setRow_grownG w g _⟩
    · simp only [List.length_append, List.length_take, List.length_drop, hlen]; omega
    · simp only [List.size_toArray, List.length_append, List.length_take, List.length_drop, hcl]; omega
    · show List.take (n * size) (cur.toList.take (i * size) ++ news ++ cur.toList.drop (i * size + news.length)) = _
      rw [← ht]
      apply List.ext_getElem?
      intro j
      simp only [List.getElem?_take, List.getElem?_append, List.length_append, List.length_take, List.getElem?_drop, hcl]
      by_cases hj : j < n * size
      · rw [if_pos hj]
        by_cases h3 : j < i * size + news.length
        · have e1 : j < min (i * size) (c * size) + news.length := by omega
          have e2 : j < min (i * size) (min (n * size) (c * size)) + news.length := by omega
          rw [if_pos e1, if_pos e2]
          by_cases h4 : j < i * size
          · have a1 : j < min (i * size) (c * size) := by omega
            have a2 : j < min (i * size) (min (n * size) (c * size)) := by omega
            rw [if_pos a1, if_pos a2]
            simp only [if_pos h4, if_pos hj]
          · have a1 : ¬ j < min (i * size) (c * size) := by omega
            have a2 : ¬ j < min (i * size) (min (n * size) (c * size)) := by omega
            rw [if_neg a1, if_neg a2]
            congr 1; omega
        · have e1 : ¬ j < min (i * size) (c * size) + news.length := by omega
          have e2 : ¬ j < min (i * size) (min (n * size) (c * size)) + news.length := by omega
          rw [if_neg e1, if_neg e2, if_pos (by omega)]
          congr 1; omega
      · rw [if_neg hj]
        symm
        rw [if_neg (by omega), if_neg (by omega)]


theorem step_copyOwn {P : Program} {w : World} {ops : Array Oper} {o : Oper} {a : Act} {K : Act → World → Prop} {Q : Exit → Act → World → Prop} {E : Prop} {t e : TypeId} {z : Value} {size bytes : Nat} (T : SlT P t e z size bytes)
    (hgd : o.guard = none) (d s : Operand) (ho : o.op = .call { callee := .builtin .copy, args := #[d, s], argTypes := #[t, t] })
    {base g n c : Nat} {xs : List Value} (hown : w.ownsRow base e size (.slice (some ⟨g, 0, none⟩) n c) n xs)
    (i dl dc : Nat) (hd : a.eval d = .slice (some ⟨g, i * size, none⟩) dl dc) (ad : Addr) (sl sc : Nat) (hs : a.eval s = .slice (some ad) sl sc)
    (news : List Value) (hl : news.length = Nat.min sl dl * size) (hsrc : ∀ j v, news[j]? = some v → w.cell? (ad.add j) = some v) (h1 : ∀ v ∈ news, v.oneCell' = true) (hfit : i * size + news.length ≤ n * size)
    (hK : ∀ w', w'.ownsRow base e size (.slice (some ⟨g, 0, none⟩) n c) n (xs.take (i * size) ++ news ++ xs.drop (i * size + news.length)) → w.grownBy w' (some g) → K (a.put o.dst (goInt (Nat.min sl dl))) w') :
    if Region.wanted o (yielded ops a.tmps) = true then Oper.wp P o a w K Q else E := by
  have hw : Region.wanted o (yielded ops a.tmps) = true := by simp [Region.wanted, hgd]
  rw [if_pos hw]
  obtain ⟨w', hr, h2, h3⟩ := run_copyOwn (P := P) w T o.type hown i dl dc ad sl sc news hl hsrc h1 hfit
  unfold Oper.wp execOp
  simp only [ho, resolve, invoke, builtin, Sem.run_bind, Sem.run_pure, Result.andThen_ok, List.map_toArray, List.map_cons, List.map_nil, hd, hs, hr]
  exact hK w' h2 h3

/-- 'append(s, make([]T, k)...)' for which there is no room. -/
theorem run_appZG {P : Program} (w : World) {t tn e : TypeId} {z : Value} {size bytes : Nat} (T : SlT P t e z size bytes) (ty : TypeId) (kq kn : IntKind) (htn : P.underlying tn = some (.int kn))
    {base g n c : Nat} {xs : List Value} (hown : w.ownsRow base e size (.slice (some ⟨g, 0, none⟩) n c) n xs) (k : Nat) (h0 : 0 < k) (hroom : c < n + k) (hsmall : n + k ≤ 1099511627776) (hbase : base ≤ w.heap.size) :
    ∃ c' w' zs, (Builtin.append_ #[t, tn] ty #[.slice (some ⟨g, 0, none⟩) n c, .int kq k]).run P w = .ok (.slice (some ⟨w.heap.size, 0, none⟩) (n + k) c') w' ∧
      w'.ownsRow base e size (.slice (some ⟨w.heap.size, 0, none⟩) (n + k) c') (n + k) (xs ++ zs) ∧ zs.length = k * size ∧ w.grownBy w' none ∧ w.heap.size < w'.heap.size := by
  obtain ⟨i, hi, hz, hs, hby⟩ := T.info
  have hb47 : (n + k) * bytes ≤ 140737488355328 := by
    have := Nat.mul_le_mul hsmall T.small
    omega
  have hkb : k * bytes ≤ 140737488355328 := Nat.le_trans (Nat.mul_le_mul_right _ (by omega)) hb47
  have hml : n + k ≤ maxLen := by unfold maxLen; omega
  have hcells : ∀ j u, xs[j]? = some u → w.drew.cell? ((⟨g, 0, none⟩ : Addr).add j) = some u := fun j u hj => by
    have := hown.cells (g := g) rfl j u hj
    exact this
  have hr := Lib.run_append_grow_zeros (P := P) w t tn ty e i z kq kn T.und htn hi hz (some ⟨g, 0, none⟩) n c xs (run_firstCells_some w.drew i.size n ⟨g, 0, none⟩ n c xs (by rw [hs]; exact hown.1) hcells) k h0 (by rw [hs]; exact T.pos) hroom (by unfold maxLen at hml; omega) (by rw [hby]; omega) (growslice_fits (by omega) (by rw [hby]; exact hb47))
  have hge := grownCap_ge w (n + k) c e
  have hcm : grownCap w (n + k) c e ≤ maxLen := grownCap_le_maxLen w (n + k) c e hml
  refine ⟨_, _, (Builtin.zeroCells z.cells k).toList, hr, ⟨?_, .inr ⟨w.heap.size, _, _, rfl, hbase, heap_alloc_new w.drew _, hge, hcm, ?_, ?_⟩⟩, ?_, ⟨rfl, rfl, rfl, by simp, fun k hk _ => heap_alloc_old w.drew _ hk⟩, by simp⟩
  · rw [List.length_append, hown.1, Array.length_toList, size_zeroCells, T.cells, Nat.add_mul]
  · simp only [Array.size_append, List.size_toArray, size_zeroCells, T.cells, hown.1, ← Nat.add_mul]
    congr 1
    omega
  · simp only [Array.toList_append]
    have hl : (xs ++ (Builtin.zeroCells z.cells k).toList).length = (n + k) * size := by rw [List.length_append, hown.1, Array.length_toList, size_zeroCells, T.cells, Nat.add_mul]
    rw [← hl]
    exact List.take_left
  · rw [Array.length_toList, size_zeroCells, T.cells]

theorem wpList_appZG {P : Program} {w : World} {ops : Array Oper} {rest : List Oper} {o : Oper} {a : Act} {Q : Exit → Act → World → Prop} {t tn e : TypeId} {z : Value} {size bytes : Nat} (T : SlT P t e z size bytes)
    (hgd : o.guard = none) (s y : Operand) (ho : o.op = .call { callee := .builtin .append, args := #[s, y], argTypes := #[t, tn] }) (kq kn : IntKind) (htn : P.underlying tn = some (.int kn))
    {base g n c : Nat} {xs : List Value} (hs : a.eval s = .slice (some ⟨g, 0, none⟩) n c) (hown : w.ownsRow base e size (.slice (some ⟨g, 0, none⟩) n c) n xs) (k : Nat) (hy : a.eval y = .int kq k) (h0 : 0 < k) (hroom : c < n + k) (hsmall : n + k ≤ 1099511627776) (hbase : base ≤ w.heap.size)
    (h : ∀ c' w' zs, w'.ownsRow base e size (.slice (some ⟨w.heap.size, 0, none⟩) (n + k) c') (n + k) (xs ++ zs) → zs.length = k * size → w.grownBy w' none → w.heap.size < w'.heap.size → wpList P ops Q rest (a.put o.dst (.slice (some ⟨w.heap.size, 0, none⟩) (n + k) c')) w') :
    wpList P ops Q (o :: rest) a w := by
  obtain ⟨c', w', zs, hr, h1, h2, h3, h4⟩ := run_appZG (P := P) w T o.type kq kn htn hown k h0 hroom hsmall hbase
  exact Lib.wpList_append_run w hgd s y t tn ho _ _ hs hy _ _ hr (h c' w' zs h1 h2 h3 h4)

end Go.Proofs.Ytpdndcnhgadgoaa

/- Walks of the library: room for a new list (slices.Grow), two lists of records one behind the other (slices.Concat). -/
namespace Go.Proofs.Ytpdndcnhgadgoaa
open Go.RowKit
set_option linter.unusedVariables false

set_option maxRecDepth 100000 in
set_option maxHeartbeats 4000000 in
theorem growR_any (k : Nat) (K : Int) (hK : K = (k : Int)) (w : World) (hk : k ≤ 1000000) :
    Calls Try.prog 37 #[.slice none 0 0, .int .i64 K] w fun e w' => ∃ v, e = .returned v ∧ w'.ownsRow w.heap.size 33 2 v 0 [] ∧ Below w.heap.size w w' := by
  subst hK
  obtain ⟨i, hi, hz, hs, hby⟩ := (slRec).info
  by_cases h0 : k = 0
  · subst h0
    go_enter Try.func37, Try.ntmps37
    go_wp2
    go_ret
    exact ⟨_, rfl, ⟨rfl, .inl ⟨rfl, rfl⟩⟩, Below.refl _ _⟩
  · have hr := fun W => Lib.run_append_nil_zeros (P := Try.prog) W 24 3 24 33 i _ .i64 .i64 slRec.und (by kernel_rfl) hi hz k (by omega) (by rw [hs]; omega) (by omega) (by rw [hby]; omega)
    go_enter Try.func37, Try.ntmps37
    go_wp2_with (at_builtin; refine Lib.wpList_append_run _ rfl _ _ _ _ rfl _ _ rfl rfl _ _ (hr _) ?_)
    go_ret
    have hcap1 := grownCap_ge w k 0 33
    have hcap2 := grownCap_le_maxLen w k 0 33 (by unfold maxLen; omega)
    refine ⟨_, rfl, ⟨rfl, .inr ⟨w.heap.size, _, _, rfl, Nat.le_refl _, heap_alloc_new w _, Nat.zero_le _, hcap2, ?_, by simp⟩⟩, ?_⟩
    · simp only [Array.size_append, size_zeroCells]
      show k * 2 + (grownCap w k 0 33 - k) * 2 = _
      omega
    · exact ((Below.refl w.heap.size w).alloc (Nat.le_refl _) _).drew

structure CatIn (w w1 : World) (a : Option Addr) (c : Nat) (rs : List (Int × Int)) : Prop where
  recs : RecsAt w1 a rs
  nil : NilOk a c

/-- The result of slices.Concat: an owned row. -/
def CatEnd (w : World) (N : Nat) (out : List (Int × Int)) (e : Ending) (w' : World) : Prop :=
  ∃ v, e = .returned v ∧ w'.ownsRow w.heap.size 33 2 v N (flat encR out) ∧ Below w.heap.size w w'

set_option maxRecDepth 100000 in
set_option maxHeartbeats 4000000 in
theorem concatR_any (a a' : Option Addr) (n n' c c' : Nat) (rs rs' : List (Int × Int)) (vb : Nat) (w : World) (hn : rs.length = n) (hn' : rs'.length = n') (hs : n ≤ 1000) (hs' : n' ≤ 1000)
    (hvb : vb < w.heap.size) (c0 : w.cell? ⟨vb, 0, none⟩ = some (.slice a n c)) (c1 : w.cell? ⟨vb, 1, none⟩ = some (.slice a' n' c'))
    (h : RecsAt w a rs) (h' : RecsAt w a' rs') (hx : NilOk a c) (hx' : NilOk a' c') :
    Calls Try.prog 22 #[.slice (some ⟨vb, 0, none⟩) 2 2] w (CatEnd w (n + n') (rs ++ rs')) := by
  have H := Lib.hid h
  have H' := Lib.hid h'
  have HX := Lib.hid hx
  have HX' := Lib.hid hx'
  have HN := Lib.hid hn
  have HN' := Lib.hid hn'
  clear h h' hx hx' hn hn'
  unfold CatEnd
  go_enter Try.func22, Try.ntmps22
  go_wp2
  go_loopw [3, 11] (fun s v wr => wr = w ∧ ((s = .int .i64 0 ∧ v = .int .i64 0) ∨ (s = .int .i64 n ∧ v = .int .i64 1) ∨ (s = .int .i64 ((n : Int) + n') ∧ v = .int .i64 2))) (fun s v _ => 2 - (intOf v).toNat)
  case atStart => exact ⟨rfl, .inl ⟨rfl, rfl⟩⟩
  case round =>
    obtain ⟨rfl, hst⟩ := hrel
    rcases hst with ⟨rfl, rfl⟩ | ⟨rfl, rfl⟩ | ⟨rfl, rfl⟩
    · go_wp2
      go_roundw
      case rel => exact ⟨trivial, .inr (.inl ⟨by go_num, rfl⟩)⟩
      case measure => decide
    · go_wp2
      go_roundw
      case rel => exact ⟨trivial, .inr (.inr ⟨by go_num, rfl⟩)⟩
      case measure => decide
    · go_wp2_with fail
      refine (growR_any (n + n') _ (by omega) wr (by omega)).mono ?_
      rintro e w1 ⟨v, rfl, ho, hb⟩
      have HO := Lib.hid ho
      have HB := Lib.hid hb
      clear ho hb
      have d0 := (HB.out.cell (p := ⟨vb, 0, none⟩) hvb).trans c0
      have d1 := (HB.out.cell (p := ⟨vb, 1, none⟩) hvb).trans c1
      have hz := HB.out.size
      go_wp2
      go_loopw [6, 27] (fun v i w2 => ∃ (N : Nat) (zs : List (Int × Int)), N ≤ 2000 ∧ w2.cell? ⟨vb, 0, none⟩ = some (.slice a n c) ∧ w2.cell? ⟨vb, 1, none⟩ = some (.slice a' n' c') ∧ w2.ownsRow wr.heap.size 33 2 v N (flat encR zs) ∧ Below wr.heap.size wr w2 ∧ ((i = .int .i64 0 ∧ N = 0 ∧ zs = []) ∨ (i = .int .i64 1 ∧ N = n ∧ zs = rs) ∨ (i = .int .i64 2 ∧ N = n + n' ∧ zs = rs ++ rs'))) (fun _ i _ => 2 - (intOf i).toNat)
      case atStart => exact ⟨0, [], by omega, d0, d1, HO.out, HB.out, .inl ⟨rfl, rfl, rfl⟩⟩
      case round =>
        obtain ⟨N, zs, hN, e0, e1, ho, hb, hst⟩ := hrel
        have HO2 := Lib.hid ho
        have HB2 := Lib.hid hb
        clear ho hb HO HB d0 d1
        rcases hst with ⟨rfl, rfl, rfl⟩ | ⟨rfl, rfl, rfl⟩ | ⟨rfl, rfl, rfl⟩
        · have HR2 := Lib.hid (H.out.below (Nat.le_refl _) HB2.out)
          go_wp2_with (at_builtin; refine wpList_appR slRec rfl _ _ rfl rfl HO2.out rfl HR2.out HN.out HX.out (by omega) HB2.out.size ?_; intro v' w7 hown' hg' ht'; generalize hGG : wpList _ _ _ _ _ _ = GG)
          have HB8 := Lib.hid (HB2.out.grown hg' HB2.out.size (fun b e => (HO2.out.lt b e).1))
          have e2 := (HB8.out.cell (p := ⟨vb, 0, none⟩) hvb).trans c0
          have e3 := (HB8.out.cell (p := ⟨vb, 1, none⟩) hvb).trans c1
          have HO8 := Lib.hid hown'
          clear hown' hg' ht' HO2 HB2 e0 e1
          rw [← hGG]
          clear hGG GG
          go_wp2
          go_roundw
          case rel => exact ⟨_, _, by omega, e2, e3, HO8.out, HB8.out, .inr (.inl ⟨by go_num, by omega, rfl⟩)⟩
          case measure => decide
        · have HR2 := Lib.hid (H'.out.below (Nat.le_refl _) HB2.out)
          go_wp2_with (at_builtin; refine wpList_appR slRec rfl _ _ rfl rfl HO2.out rfl HR2.out HN'.out HX'.out (by omega) HB2.out.size ?_; intro v' w7 hown' hg' ht'; generalize hGG : wpList _ _ _ _ _ _ = GG)
          have HB8 := Lib.hid (HB2.out.grown hg' HB2.out.size (fun b e => (HO2.out.lt b e).1))
          have e2 := (HB8.out.cell (p := ⟨vb, 0, none⟩) hvb).trans c0
          have e3 := (HB8.out.cell (p := ⟨vb, 1, none⟩) hvb).trans c1
          have HO8 := Lib.hid hown'
          clear hown' hg' ht' HO2 HB2 e0 e1
          rw [← hGG]
          clear hGG GG
          go_wp2
          go_roundw
          case rel => exact ⟨_, zs ++ rs', by omega, e2, e3, by rw [flat_append]; exact HO8.out, HB8.out, .inr (.inr ⟨by go_num, rfl, rfl⟩)⟩
          case measure => decide
        · go_wp2
          go_ret
          exact ⟨_, rfl, HO2.out, HB2.out⟩

end Go.Proofs.Ytpdndcnhgadgoaa

/- Walks: MergeTops. -/
namespace Go.Proofs.Ytpdndcnhgadgoaa
open Go.RowKit Go.Sort
set_option linter.unusedVariables false

set_option maxRecDepth 100000 in
set_option maxHeartbeats 4000000 in
theorem mergeTops_yes (a b : Option Addr) (n m c c2 : Nat) (rs qs : List (Int × Int)) (k : Nat) (w : World) (hn : n ≤ 16) (hm : m ≤ 16) (hk : k ≤ 16) (h : Rd w a n c rs) (h' : Rd w b m c2 qs) (h1 : isTopL rs k = true) (h2 : isTopL qs k = true) :
    Calls Try.prog 10 #[.slice a n c, .slice b m c2, .int .i64 k] w (RdB w (topR k (rs ++ qs)) true) := by
  have HL : Hid (∀ w1, Below w.heap.size w w1 → Calls Try.prog 18 #[.slice a n c, .int .i64 k] w1 fun e w' => e = .returned (.bool true) ∧ Below w1.heap.size w1 w') := fun w1 hb => by
    have := isTopList_any a n c rs k w1 (by omega) (h.same hb)
    rwa [h1] at this
  have HM : Hid (∀ w1, Below w.heap.size w w1 → Calls Try.prog 18 #[.slice b m c2, .int .i64 k] w1 fun e w' => e = .returned (.bool true) ∧ Below w1.heap.size w1 w') := fun w1 hb => by
    have := isTopList_any b m c2 qs k w1 (by omega) (h'.same hb)
    rwa [h2] at this
  have HC : Hid (∀ w1, Below w.heap.size w w1 → Calls Try.prog 22 #[.slice (some ⟨w1.heap.size, 0, none⟩) 2 2] (w1.alloc (.cells #[.slice a n c, .slice b m c2] 24)) (CatEnd (w1.alloc (.cells #[.slice a n c, .slice b m c2] 24)) (n + m) (rs ++ qs))) := fun w1 hb => by
    have hb1 := hb.alloc hb.size (.cells #[.slice a n c, .slice b m c2] 24)
    exact concatR_any a b n m c c2 rs qs w1.heap.size _ h.len h'.len (by omega) (by omega) (by simp) (by simp only [World.cell?, heap_alloc_new]; rfl) (by simp only [World.cell?, heap_alloc_new]; rfl) (h.same hb1).recs (h'.same hb1).recs (h.same hb1).nil (h'.same hb1).nil
  have hlen : (rs ++ qs).length = n + m := by rw [List.length_append, h.len, h'.len]
  have HO : Hid (∀ (x : Option Addr) (cc : Nat) (w1 : World), Rd w1 x (n + m) cc (rs ++ qs) → Calls Try.prog 16 #[.slice x (n + m) cc, .int .i64 k] w1 (OwnR w1 (topR k (rs ++ qs)) (min k (n + m)))) := fun x cc w1 hr => by
    have := topOf_any x cc k (rs ++ qs) w1 (by omega) (by omega) hr.recs hr.nil
    rwa [hlen] at this
  clear h h' h1 h2
  unfold RdB
  unfold CatEnd at HC
  go_enter Try.func10, Try.ntmps10
  go_wp2_with fail
  refine (HL.out _ (Below.refl _ _)).mono ?_
  rintro e w1 ⟨rfl, hb1⟩
  have HB1 := Lib.hid hb1
  clear hb1 HL
  go_wp2_with fail
  refine (HM.out _ HB1.out).mono ?_
  rintro e w2 ⟨rfl, hb2⟩
  have HB2 := Lib.hid (below_tr HB1.out hb2 HB1.out.size)
  clear hb2 HM HB1
  go_wp2_with fail
  refine (HC.out _ HB2.out).mono ?_
  rintro e w3 ⟨v, rfl, ho, hb3⟩
  have HO3 := Lib.hid ho
  have HB3 := Lib.hid (below_tr (HB2.out.alloc HB2.out.size _) hb3 (Nat.le_trans HB2.out.size (by simp)))
  obtain ⟨x, cc, rfl⟩ := own_slice ho
  have HR3 := Lib.hid (rd_own HO3.out)
  clear ho hb3 HC HB2 HO3
  go_wp2_with fail
  refine (HO.out _ _ _ HR3.out).mono ?_
  rintro e w4 ⟨g, c', rfl, ho, hb4⟩
  have HO4 := Lib.hid (rd_own ho)
  have HB4 := Lib.hid (below_tr HB3.out hb4 HB3.out.size)
  clear ho hb4 HO HR3 HB3
  go_wp2
  go_ret2
  exact ⟨_, _, _, rfl, HO4.out, HB4.out⟩

end Go.Proofs.Ytpdndcnhgadgoaa

/- Walks: the draw of a list and of a number of places; a byte of the code. -/
namespace Go.Proofs.Ytpdndcnhgadgoaa
open Go.RowKit
set_option linter.unusedVariables false

theorem places_any (bc : Nat) (ac : Option Addr) (zs : List Int) (M : Int) (w : World) (hM : M ≤ 1099511626000) (h : Cur w bc ac zs M) (hold : zs ≠ [] → ∀ b off, ac = some ⟨b, off, none⟩ → b < w.heap.size) :
    Calls Try.prog 13 #[.pointer (some ⟨bc, 0, none⟩)] w fun e w' => (∃ r : Int, e = .returned (.int .i64 r) ∧ 0 ≤ r ∧ r ≤ 17) ∧ Cur w' bc ac zs (M + 2) ∧ w.grownBy w' (some bc) := by
  have hbw := h.lt
  have HX : Below w.heap.size w (w.alloc (.cells #[.int .i64 1, .int .i64 2, .int .i64 2, .int .i64 3, .int .i64 4, .int .i64 5, .int .i64 16, .int .i64 17, .int .i64 0] 3)) := (Below.refl _ _).alloc (Nat.le_refl _) _
  have H := Lib.hid (h.below HX)
  have HB := Lib.hid HX
  clear h HX
  go_enter Try.func13, Try.ntmps13
  go_wp2_with fail
  refine (among_any bc ac zs _ _ 9 [1, 2, 2, 3, 4, 5, 16, 17, 0] _ ?h2 (by decide) (by decide) H.out (lit_ints w [1, 2, 2, 3, 4, 5, 16, 17, 0] (by decide)) ?h3).mono ?_
  case h2 => omega
  case h3 => intro b off e; injection e with e; injection e with e; omega
  rintro e w4 ⟨⟨x, rfl, hx⟩, hc, hg⟩
  have hx2 : 0 ≤ x ∧ x ≤ 17 := by
    simp only [List.mem_cons, List.not_mem_nil, or_false] at hx
    omega
  have HX := Lib.hid hx2
  have HC := Lib.hid hc
  have HG : Hid (w.grownBy w4 (some bc)) := ⟨hg.os.trans HB.out.os, hg.tape.trans HB.out.tape, hg.output.trans HB.out.output, Nat.le_trans HB.out.size hg.size, fun k hk hq => (hg.block k (by simp; omega) hq).trans (HB.out.block k hk)⟩
  clear hx hx2 hc hg
  go_wp2
  go_ret
  exact ⟨⟨x, rfl, HX.out.1, HX.out.2⟩, HC.out, HG.out⟩

/-- A list and a number of places. -/
def TopDraw (w : World) (e : Ending) (w' : World) : Prop :=
  ∃ (a : Option Addr) (n c : Nat) (rs : List (Int × Int)) (k : Int), e = .returned (.tuple #[.slice a n c, .int .i64 k]) ∧ w'.ownsRow w.heap.size 33 2 (.slice a n c) n (flat encR rs) ∧ rs.length = n ∧ n ≤ 70 ∧ 0 ≤ k ∧ k ≤ 17 ∧ Below w.heap.size w w'

set_option maxRecDepth 100000 in
set_option maxHeartbeats 4000000 in
theorem drawTopRecords_any (ac : Option Addr) (c : Nat) (cs : List Int) (w : World) (hl : cs.length ≤ 65537) (h : BytesAt w ac cs) :
    Calls Try.prog 5 #[.slice ac cs.length c] w (TopDraw w) := by
  obtain ⟨h1, h2, h3⟩ := cur_start (c := c) hl h
  have HC := Lib.hid h1; have HO := Lib.hid h2; have HB := Lib.hid h3
  clear h h1 h2 h3
  unfold TopDraw
  go_enter Try.func5, Try.ntmps5
  go_wp2_with fail
  refine (anyRecords_any w.heap.size ac cs 0 _ (by omega) HC.out (fun h0 b off e => by have := HO.out h0 b off e; simp; omega)).mono ?_
  rintro e w1 ⟨a1, c1, L, rfl, ho, hl1, hD⟩
  have HO1 := Lib.hid (own_mono ho (by simp : w.heap.size + 1 ≤ _))
  have HD1 := Lib.hid hD
  have HB1 := Lib.hid (HB.out.grown hD.grown (by simp) (fun k hk => by injection hk with hk; omega))
  clear ho hD HC
  go_wp2_with fail
  refine (places_any w.heap.size ac cs _ _ (by omega) HD1.out.cur (fun h0 b off e => by have := HO.out h0 b off e; have := HB1.out.size; omega)).mono ?_
  rintro e w2 ⟨⟨k, rfl, hk1, hk2⟩, hc, hg⟩
  have HO2 := Lib.hid (HD1.out.own HO1.out (by simp) hg)
  have HB2 := Lib.hid (HB1.out.grown hg HB1.out.size (fun k hk => by injection hk with hk; omega))
  clear hc hg HD1 HO1 HB1
  go_wp2
  go_ret2
  exact ⟨_, _, _, L, k, rfl, own_mono HO2.out (by omega), rfl, hl1, hk1, hk2, HB2.out⟩

set_option maxHeartbeats 1000000 in
theorem vAtP_any (a : Option Addr) (c : Nat) (cs : List Int) (i : Nat) (w : World) (hl : cs.length ≤ 65537) (hi : i ≤ 1000) (h : BytesAt w a cs) :
    Calls Try.prog 9 #[.slice a cs.length c, .int .i64 i] w fun e w' => (∃ r : Int, e = .returned (.int .i64 r) ∧ 0 ≤ r ∧ r ≤ 255) ∧ w = w' := by
  by_cases hlt : i < cs.length
  · obtain ⟨b, off, rfl, hc, hb0, hb1⟩ := h.at hlt
    generalize cs.getD i 0 = x at hc hb0 hb1
    have h3 : decide ((i : Int) < (cs.length : Int)) = true := decide_eq_true (by omega)
    have b1 : (0 : Int) ≤ (i : Int) := by omega
    have b2 : (i : Int) < (cs.length : Int) := by omega
    clear h
    go_enter Try.func9, Try.ntmps9
    go_wp2
    go_ret
    exact ⟨⟨x, rfl, hb0, hb1⟩, rfl⟩
  · have h3 : decide ((i : Int) < (cs.length : Int)) = false := decide_eq_false (by omega)
    have b1 : (0 : Int) ≤ (i : Int) := by omega
    have b2 : (i : Int) * 7 ≤ 7000 := by omega
    have b3 : (0 : Int) ≤ (i : Int) * 7 + (cs.length : Int) := by omega
    have b4 : (i : Int) * 7 + (cs.length : Int) ≤ 100000 := by omega
    have q1 : 0 ≤ ((i : Int) * 7 + (cs.length : Int)).tmod 256 := Int.tmod_nonneg _ b3
    have q2 : ((i : Int) * 7 + (cs.length : Int)).tmod 256 ≤ 255 := by have := Int.tmod_lt_of_pos ((i : Int) * 7 + (cs.length : Int)) (b := 256) (by omega); omega
    have Q := Lib.hid (And.intro q1 q2)
    clear h q1 q2
    go_enter Try.func9, Try.ntmps9
    go_wp2
    go_ret
    exact ⟨⟨_, rfl, Q.out.1, Q.out.2⟩, rfl⟩

end Go.Proofs.Ytpdndcnhgadgoaa
