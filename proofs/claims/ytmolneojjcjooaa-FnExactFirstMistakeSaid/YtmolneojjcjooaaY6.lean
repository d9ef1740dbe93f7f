/- Several texts in one: lemmas and walks of the functions that the laws reach. -/
import Derived.Test.YtmolneojjcjooaaY4
import Derived.Test.YtmolneojjcjooaaY0
import Derived.Shelf.RegionOpenPlain
import Derived.Deep.LoopGhost
import Derived.Test.YtmolneojjcjooaaY1
import Derived.Test.YtmolneojjcjooaaY5
import Derived.Deep.RegionHeld3
import Derived.Deep.AppendLies
import Derived.Deep.DrawnRows

/- Rows of integers written at a place in their midst; the swap of two. -/
namespace Go.Proofs.Ytmolneojjcjooaa
open Go.RowKit Go.Sort
set_option linter.unusedVariables false

theorem own_putAt {α : Type} [Inhabited α] {enc : α → Value} {w : World} {base : Nat} {e : TypeId} {g n cap q off : Nat} {zs ys : List α} (h : w.ownsRow base e 1 (.slice (some ⟨g, 0, none⟩) n cap) n (zs.map enc)) (hy : off + ys.length ≤ n) :
    (putRow enc (Sort.ahead w q) g off ys.toArray).ownsRow base e 1 (.slice (some ⟨g, 0, none⟩) n cap) n ((zs.take off ++ ys ++ zs.drop (off + ys.length)).map enc) := by
  have hl : zs.length = n := by have := h.1; simpa using this
  rcases h.2 with ⟨e0, _⟩ | ⟨g', cap', cur, e0, hb, hg, hn, hm, hs, ht⟩
  · cases e0
  · injection e0 with e1 _ e3
    injection e1 with e1
    injection e1 with e1
    subst e1; subst e3
    refine ⟨by simp; omega, .inr ⟨g, cap, putCells enc off ys.toArray cur, rfl, hb, ?_, hn, hm, by simpa [putCells] using hs, ?_⟩⟩
    · simp [putRow, mapBlock, Sort.ahead, Array.getElem?_modify, hg, onCells]
    · apply List.ext_getElem?
      intro j
      have hcur : ∀ j, j < n → cur[j]? = (zs[j]?).map enc := fun j hj => by
        have := congrArg (fun l : List Value => l[j]?) ht
        simp only [List.getElem?_take, Nat.mul_one, if_pos hj, Array.getElem?_toList, List.getElem?_map] at this
        exact this
      rw [List.getElem?_take, List.getElem?_map, Array.getElem?_toList]
      by_cases hj : j < n
      · have hjc : j < cur.size := by omega
        simp only [Nat.mul_one, if_pos hj, putCells, Array.getElem?_mapIdx]
        rw [hcur j hj]
        rw [List.getElem?_eq_getElem (by omega : j < zs.length)]
        simp only [Option.map_some]
        by_cases h1 : j < off
        · rw [if_neg (by omega), List.append_assoc, List.getElem?_append_left (by simp; omega), List.getElem?_take, if_pos h1, List.getElem?_eq_getElem (by omega : j < zs.length)]
          rfl
        · by_cases h2 : j < off + ys.length
          · rw [if_pos (by simp; omega), List.getElem?_append_left (by simp; omega), List.getElem?_append_right (by simp; omega)]
            have e1 : j - (zs.take off).length = j - off := by simp; omega
            rw [e1, List.getElem?_eq_getElem (by omega)]
            simp [getElem!_pos, show j - off < ys.length by omega]
          · rw [if_neg (by simp; omega), List.getElem?_append_right (by simp; omega)]
            have e1 : j - (zs.take off ++ ys).length = j - (off + ys.length) := by simp; omega
            rw [e1, List.getElem?_drop, show off + ys.length + (j - (off + ys.length)) = j by omega, List.getElem?_eq_getElem (by omega : j < zs.length)]
            rfl
      · simp only [Nat.mul_one, if_neg hj]
        rw [List.getElem?_eq_none (by simp; omega)]
        rfl

theorem grown_putAt {α : Type} [Inhabited α] {enc : α → Value} {w : World} {g q off : Nat} {ys : List α} : w.grownBy (putRow enc (Sort.ahead w q) g off ys.toArray) (some g) := by
  refine ⟨rfl, rfl, rfl, by simp [putRow, mapBlock, Sort.ahead], fun k hk hne => ?_⟩
  have : g ≠ k := fun e => hne (by rw [e])
  simp [putRow, mapBlock, Sort.ahead, Array.getElem?_modify, this]

theorem holds_part {α : Type} [Inhabited α] {enc : α → Value} {w : World} {g off : Nat} {zs : List α} (h : Holds enc w g 0 zs.toArray) : Holds enc w g off (zs.drop off).toArray := by
  intro j hj
  have hj' : off + j < zs.length := by simp at hj; omega
  have := h (off + j) (by simpa using hj')
  rw [Nat.zero_add] at this
  have e : (zs.drop off).toArray[j]! = zs.toArray[off + j]! := by
    simp [getElem!_pos, hj']
  rw [e]; exact this

theorem swp_list {d : List Int} {i k : Nat} (hi : i < d.length) (hk : k < d.length) (hne : i ≠ k) : (Sort.swp d.toArray i k) = ((d.set i (d.getD k 0)).set k (d.getD i 0)).toArray := by
  unfold Sort.swp
  simp [getElem!_pos, hi, hk, List.getD]

end Go.Proofs.Ytmolneojjcjooaa

/- Plain law of permutations: the next one by the program's way and by the reference's, for up to five items; what is counted. No program in sight. -/
namespace Go.Proofs.Ytmolneojjcjooaa
set_option linter.unusedVariables false

namespace Pm

/-- The last place behind which the list rises, below k. -/
def piv (p : List Int) : Nat → Option Nat
  | 0 => none
  | k + 1 => if p.getD k 0 < p.getD (k + 1) 0 then some k else piv p k
/-- The like with equality allowed. -/
def pivE (p : List Int) : Nat → Option Nat
  | 0 => none
  | k + 1 => if p.getD k 0 ≤ p.getD (k + 1) 0 then some k else pivE p k
/-- The last place up to k with more than x. -/
def lastGt (p : List Int) (x : Int) : Nat → Nat
  | 0 => 0
  | k + 1 => if p.getD (k + 1) 0 ≤ x then lastGt p x k else k + 1
def swp (p : List Int) (i k : Nat) : List Int := (p.set i (p.getD k 0)).set k (p.getD i 0)
def turnAt (p : List Int) (i : Nat) : List Int := p.take i ++ (p.drop i).reverse
def nextI (p : List Int) : Option (List Int) :=
  match piv p (p.length - 1) with
  | none => none
  | some i => some (turnAt (swp p i (lastGt p (p.getD i 0) (p.length - 1))) (i + 1))

def insS (x : Int) : List Int → List Int
  | [] => [x]
  | y :: t => if y ≤ x then y :: insS x t else x :: y :: t
def sortS : List Int → List Int
  | [] => []
  | x :: t => insS x (sortS t)
/-- The first place with more than x. -/
def firstGt (x : Int) : List Int → Nat
  | [] => 0
  | y :: t => if y ≤ x then firstGt x t + 1 else 0
def nextS (p : List Int) : List Int :=
  match pivE p (p.length - 1) with
  | none => []
  | some i =>
    let rest := sortS (p.drop i)
    let k := firstGt (p.getD i 0) rest
    p.take i ++ [rest.getD k 0] ++ rest.take k ++ rest.drop (k + 1)

def first (n : Nat) : List Int := (List.range n).map fun (i : Nat) => (i : Int)
def runI : Nat → List Int → List (List Int)
  | 0, _ => []
  | f + 1, p => p :: (match nextI p with | none => [] | some q => runI f q)
/-- All arrangements, in order. -/
def allP (n : Nat) : List (List Int) := runI 121 (first n)

def okP (n : Nat) (p : List Int) : Bool := decide (p.length = n) && p.all (fun x => decide (0 ≤ x) && decide (x < n)) && decide (p.Nodup)
def checks (n : Nat) : Bool :=
  (allP n).all (fun p => okP n p && decide (nextS p = (nextI p).getD [])) && decide ((allP n).length ≤ 120) && decide ((allP n)[0]? = some (first n)) &&
    (List.range (allP n).length).all (fun k => decide (nextI ((allP n).getD k []) = (allP n)[k + 1]?))

theorem checks1 : checks 1 = true := by decide +kernel
theorem checks2 : checks 2 = true := by decide +kernel
theorem checks3 : checks 3 = true := by decide +kernel
theorem checks4 : checks 4 = true := by decide +kernel
theorem checks5 : checks 5 = true := by decide +kernel
theorem checks_any {n : Nat} (h1 : 1 ≤ n) (h5 : n ≤ 5) : checks n = true := by
  match n, h1, h5 with
  | 1, _, _ => exact checks1
  | 2, _, _ => exact checks2
  | 3, _, _ => exact checks3
  | 4, _, _ => exact checks4
  | 5, _, _ => exact checks5

theorem allP_ok {n : Nat} (h1 : 1 ≤ n) (h5 : n ≤ 5) {p : List Int} (hp : p ∈ allP n) : p.length = n ∧ (∀ x ∈ p, 0 ≤ x ∧ x < n) ∧ p.Nodup := by
  have h := checks_any h1 h5
  unfold checks at h
  simp only [Bool.and_eq_true, List.all_eq_true, decide_eq_true_eq] at h
  have := (h.1.1.1 p hp).1
  unfold okP at this
  simp only [Bool.and_eq_true, List.all_eq_true, decide_eq_true_eq] at this
  exact ⟨this.1.1, this.1.2, this.2⟩
theorem allP_len {n : Nat} (h1 : 1 ≤ n) (h5 : n ≤ 5) : (allP n).length ≤ 120 := by
  have h := checks_any h1 h5
  unfold checks at h
  simp only [Bool.and_eq_true, decide_eq_true_eq] at h
  exact h.1.1.2
theorem allP_first {n : Nat} (h1 : 1 ≤ n) (h5 : n ≤ 5) : (allP n)[0]? = some (first n) := by
  have h := checks_any h1 h5
  unfold checks at h
  simp only [Bool.and_eq_true, decide_eq_true_eq] at h
  exact h.1.2
theorem allP_next {n : Nat} (h1 : 1 ≤ n) (h5 : n ≤ 5) {k : Nat} {p : List Int} (hk : (allP n)[k]? = some p) : nextI p = (allP n)[k + 1]? := by
  have h := checks_any h1 h5
  unfold checks at h
  simp only [Bool.and_eq_true, List.all_eq_true, decide_eq_true_eq] at h
  have hlt : k < (allP n).length := (List.getElem?_eq_some_iff.1 hk).1
  have := h.2 k (List.mem_range.2 hlt)
  rwa [show (allP n).getD k [] = p by simp [List.getD, hk]] at this
theorem allP_nextS {n : Nat} (h1 : 1 ≤ n) (h5 : n ≤ 5) {k : Nat} {p : List Int} (hk : (allP n)[k]? = some p) : nextS p = ((allP n)[k + 1]?).getD [] := by
  have h := checks_any h1 h5
  unfold checks at h
  simp only [Bool.and_eq_true, List.all_eq_true, decide_eq_true_eq] at h
  rw [← allP_next h1 h5 hk]
  exact (h.1.1.1 p (List.mem_of_getElem? hk)).2

/-- Does an arrangement meet the facts? -/
def fits (fs : List (Int × Int)) (p : List Int) : Bool := fs.all fun f => decide (p.getD f.1.toNat 0 < p.getD f.2.toNat 0)
def cnt (n : Nat) (fs : List (Int × Int)) : Nat := (allP n).countP (fits fs)
/-- What is counted among the first k. -/
def cntTo (n : Nat) (fs : List (Int × Int)) (k : Nat) : Nat := ((allP n).take k).countP (fits fs)
theorem cntTo_zero (n : Nat) (fs : List (Int × Int)) : cntTo n fs 0 = 0 := by simp [cntTo]
theorem cntTo_succ {n : Nat} {fs : List (Int × Int)} {k : Nat} {p : List Int} (hk : (allP n)[k]? = some p) : cntTo n fs (k + 1) = cntTo n fs k + (if fits fs p then 1 else 0) := by
  unfold cntTo
  rw [List.take_add_one, hk, List.countP_append]
  simp [List.countP_cons]
theorem cntTo_end {n : Nat} {fs : List (Int × Int)} {k : Nat} (hk : (allP n)[k]? = none) : cntTo n fs k = cnt n fs := by
  unfold cntTo cnt
  rw [List.take_of_length_le (by simpa using hk)]
theorem cntTo_le (n : Nat) (fs : List (Int × Int)) (k : Nat) : cntTo n fs k ≤ k := by
  unfold cntTo
  exact Nat.le_trans List.countP_le_length (by simp; omega)

theorem fits_append (fs gs : List (Int × Int)) (p : List Int) : fits (fs ++ gs) p = (fits fs p && fits gs p) := by simp [fits]

theorem cnt_split {n : Nat} (h1 : 1 ≤ n) (h5 : n ≤ 5) (fs : List (Int × Int)) {a b : Int} (ha : 0 ≤ a ∧ a < n) (hb : 0 ≤ b ∧ b < n) (hne : a ≠ b) : cnt n (fs ++ [(a, b)]) + cnt n (fs ++ [(b, a)]) = cnt n fs := by
  unfold cnt
  have key : ∀ l : List (List Int), (∀ p ∈ l, p ∈ allP n) → l.countP (fits (fs ++ [(a, b)])) + l.countP (fits (fs ++ [(b, a)])) = l.countP (fits fs) := by
    intro l
    induction l with
    | nil => intro _; rfl
    | cons p t ih =>
      intro hl
      have hi := ih (fun q hq => hl q (List.mem_cons_of_mem _ hq))
      obtain ⟨hlen, hr, hnd⟩ := allP_ok h1 h5 (hl p List.mem_cons_self)
      have hd : p.getD a.toNat 0 ≠ p.getD b.toNat 0 := by
        intro e
        have h1 : a.toNat < p.length := by omega
        have h2 : b.toNat < p.length := by omega
        rw [List.getD_eq_getElem?_getD, List.getD_eq_getElem?_getD, List.getElem?_eq_getElem h1, List.getElem?_eq_getElem h2] at e
        simp only [Option.getD_some] at e
        rcases Nat.lt_trichotomy a.toNat b.toNat with h | h | h
        · exact (List.pairwise_iff_getElem.1 hnd _ _ h1 h2 h) e
        · omega
        · exact (List.pairwise_iff_getElem.1 hnd _ _ h2 h1 h) e.symm
      rw [List.countP_cons, List.countP_cons, List.countP_cons, fits_append, fits_append]
      have e1 : fits [(a, b)] p = decide (p.getD a.toNat 0 < p.getD b.toNat 0) := by simp [fits]
      have e2 : fits [(b, a)] p = !decide (p.getD a.toNat 0 < p.getD b.toNat 0) := by
        simp only [fits, List.all_cons, List.all_nil, Bool.and_true]
        rw [← decide_not]
        exact decide_eq_decide.2 (by omega)
      rw [e1, e2]
      cases fits fs p <;> cases decide (p.getD a.toNat 0 < p.getD b.toNat 0) <;> simp <;> omega
  exact key _ fun p hp => hp

end Pm
end Go.Proofs.Ytmolneojjcjooaa

/- Walks: the next permutation, in place. -/
namespace Go.Proofs.Ytmolneojjcjooaa
open Go.RowKit Go.Sort
set_option linter.unusedVariables false

theorem piv_lt {p : List Int} : ∀ {k i : Nat}, Pm.piv p k = some i → i < k
  | 0, _, h => by cases h
  | k + 1, i, h => by
    unfold Pm.piv at h
    split at h
    · injection h with h; omega
    · have := piv_lt h; omega

theorem own_swp {w : World} {base g cap n : Nat} {p : List Int} {k j : Nat} {X Z : Int} (hk : k < p.length) (hj : j < p.length) (hne : k ≠ j) (hX : p.getD k 0 = X) (hZ : p.getD j 0 = Z)
    (h : w.ownsRow base 3 1 (.slice (some ⟨g, 0, none⟩) n cap) n (p.map (Value.int .i64))) :
    ((w.setCell ⟨g, k, none⟩ (.int .i64 Z)).setCell ⟨g, j, none⟩ (.int .i64 X)).ownsRow base 3 1 (.slice (some ⟨g, 0, none⟩) n cap) n ((Pm.swp p k j).map (Value.int .i64)) ∧
      w.grownBy ((w.setCell ⟨g, k, none⟩ (.int .i64 Z)).setCell ⟨g, j, none⟩ (.int .i64 X)) (some g) := by
  have h1 := h.stored k (.int .i64 Z)
  have h2 := h1.1.stored j (.int .i64 X)
  refine ⟨?_, grown_trans h1.2 h2.2⟩
  have e : (Pm.swp p k j).map (Value.int .i64) = ((p.map (Value.int .i64)).set k (.int .i64 Z)).set j (.int .i64 X) := by
    unfold Pm.swp
    rw [List.map_set, List.map_set, hX, hZ]
  rw [e]
  exact h2.1

theorem rev_tail {w : World} {base g cap n : Nat} {p : List Int} {k : Nat} (h : w.ownsRow base 3 1 (.slice (some ⟨g, 0, none⟩) n cap) n (p.map (Value.int .i64))) (hk : k < n) (hn : n ≤ 2000) :
    Calls Try.prog 188 #[.slice (some ⟨g, k, none⟩) (n - k) (cap - k)] w fun e w' => e = .returned (.tuple #[]) ∧
      w'.ownsRow base 3 1 (.slice (some ⟨g, 0, none⟩) n cap) n ((Pm.turnAt p k).map (Value.int .i64)) ∧ w.grownBy w' (some g) := by
  have hl : p.length = n := by have := h.1; simpa using this
  have h1 := Try.slices_Reverse_int g k (cap - k) (p.drop k) w (holds_part (own_holds h)) (by simp; omega)
  have e1 : (p.drop k).length = n - k := by simp; omega
  rw [e1] at h1
  refine h1.mono ?_
  rintro e w' ⟨rfl, q, rfl⟩
  refine ⟨rfl, ?_, grown_putAt⟩
  have := own_putAt (q := q) (off := k) (ys := (p.drop k).reverse) h (by simp; omega)
  have e2 : p.take k ++ (p.drop k).reverse ++ p.drop (k + (p.drop k).reverse.length) = Pm.turnAt p k := by
    unfold Pm.turnAt
    have e3 : p.drop (k + (p.drop k).reverse.length) = [] := List.drop_eq_nil_of_le (by simp; omega)
    rw [e3, List.append_nil]
  rw [e2] at this
  exact this

set_option maxRecDepth 100000 in
set_option maxHeartbeats 4000000 in
theorem nextPermutation_any (base g cap m : Nat) (p : List Int) (w : World) (hp : p.length = m + 1) (hm : m ≤ 1000)
    (ho : w.ownsRow base 3 1 (.slice (some ⟨g, 0, none⟩) (m + 1) cap) (m + 1) (p.map (Value.int .i64))) :
    Calls Try.prog 154 #[.slice (some ⟨g, 0, none⟩) (m + 1) cap] w fun e w' => e = .returned (.bool (Pm.nextI p).isSome) ∧
      w'.ownsRow base 3 1 (.slice (some ⟨g, 0, none⟩) (m + 1) cap) (m + 1) (((Pm.nextI p).getD p).map (Value.int .i64)) ∧ w.grownBy w' (some g) := by
  have hcap : m + 1 ≤ cap := by
    rcases ho.2 with ⟨h2, _⟩ | ⟨g', cap', cur, hv, _, _, hn, _, _⟩
    · injection h2 with h2 _ _; cases h2
    · injection hv with _ _ hv
      subst hv
      exact hn
  have HO := Lib.hid ho; clear ho
  have HC : Hid (∀ j, j < m + 1 → w.cell? ⟨g, j, none⟩ = some (.int .i64 (p.getD j 0)) ∧ w.frozen? ⟨g, j, none⟩ = false) := fun j hj => by
    have h1 : j < p.length := by omega
    have := own_celli HO.out (i := j) (x := .int .i64 (p.getD j 0)) (by rw [List.getElem?_map, List.getD_eq_getElem?_getD, List.getElem?_eq_getElem h1]; rfl)
    have h2 := own_holds HO.out j (by simpa using h1)
    rw [Nat.zero_add] at h2
    exact ⟨this, h2.2⟩
  have HN : Hid (Pm.nextI p = match Pm.piv p m with | none => none | some i => some (Pm.turnAt (Pm.swp p i (Pm.lastGt p (p.getD i 0) m)) (i + 1))) := by
    show _ = _
    unfold Pm.nextI
    rw [hp, Nat.add_sub_cancel]
    all_goals (cases Pm.piv p m <;> rfl)
  have HL := Lib.hid hp
  go_enter Try.func154, Try.ntmps154
  go_wp2
  go_loopw [3] (fun i wr => ∃ (z : Int) (q : Nat), i = .int .i64 z ∧ wr = w.drewN q ∧ ((z = -1 ∧ Pm.piv p m = none) ∨ ∃ k : Nat, z = k ∧ k < m ∧ Pm.piv p m = Pm.piv p (k + 1))) (fun i _ => (intOf i + 1).toNat)
  case atStart =>
    cases m with
    | zero => exact ⟨-1, 0, by simp, rfl, .inl ⟨rfl, rfl⟩⟩
    | succ m => exact ⟨(m : Int), 0, by simp <;> omega, rfl, .inr ⟨m, rfl, by omega, rfl⟩⟩
  case round =>
    obtain ⟨z, q, rfl, rfl, ⟨rfl, hn⟩ | ⟨k, rfl, hk, hpk⟩⟩ := hrel
    · have HE : Hid (Pm.nextI p = none) := by show _ = _; rw [HN.out, hn]
      clear hn
      go_wp2_with fail
      go_quiet (fail)
      go_wp2
      go_ret
      rw [HE.out]
      exact ⟨rfl, HO.out, grown_of_below (below_drewN (Below.refl _ _) _)⟩
    · obtain ⟨c1, f1⟩ := HC.out k (by omega)
      obtain ⟨c2, f2⟩ := HC.out (k + 1) (by omega)
      have HP : Hid (Pm.piv p (k + 1) = if p.getD k 0 < p.getD (k + 1) 0 then some k else Pm.piv p k) := rfl
      have HPK := Lib.hid hpk; clear hpk
      have HXY : Hid (∃ X Y, p.getD k 0 = X ∧ p.getD (k + 1) 0 = Y) := ⟨_, _, rfl, rfl⟩
      obtain ⟨X, Y, hX, hY⟩ := HXY.out
      rw [hX] at c1 HP
      rw [hY] at c2 HP
      have HX := Lib.hid hX; have HY := Lib.hid hY
      clear hX hY HXY
      have b1 : (0 : Int) ≤ (k : Int) := by omega
      have b2 : (k : Int) + 1 < (m : Int) + 1 := by omega
      have b3 : (k : Int) < (m : Int) + 1 := by omega
      by_cases hXY : X < Y
      case neg =>
        have hz : decide (Y ≤ X) = true := by simp; omega
        have HE : Hid (Pm.piv p m = Pm.piv p k) := by show _ = _; rw [HPK.out, HP.out, if_neg hXY]
        clear hXY
        go_wp2_with fail
        go_quiet (fail)
        go_wp2
        go_roundw
        case rel =>
          cases k with
          | zero => exact ⟨-1, _, by simp, rfl, .inl ⟨rfl, HE.out⟩⟩
          | succ k => exact ⟨(k : Int), _, by simp <;> omega, rfl, .inr ⟨k, rfl, by omega, HE.out⟩⟩
        case measure => simp [intOf] <;> omega
      · have hz : decide (Y ≤ X) = false := by simp; omega
        have HE : Hid (Pm.piv p m = some k) := by show _ = _; rw [HPK.out, HP.out, if_pos hXY]
        have HXY := Lib.hid hXY
        clear hXY HP HPK
        go_wp2_with fail
        go_quiet (fail)
        have h0 : decide ((k : Int) < 0) = false := by simp
        clear c1 c2 f1 f2
        go_wp2
        go_loopw [4] (fun i wr => ∃ (j q2 : Nat), i = .int .i64 (j : Int) ∧ wr = w.drewN q2 ∧ k + 1 ≤ j ∧ j ≤ m ∧ Pm.lastGt p X m = Pm.lastGt p X j) (fun i _ => (intOf i).toNat)
        case atStart => exact ⟨m, _, by simp <;> omega, rfl, by omega, by omega, rfl⟩
        case round =>
          obtain ⟨j, q2, rfl, rfl, hj1, hj2, hlg⟩ := hrel
          obtain ⟨c1, f1⟩ := HC.out k (by omega)
          obtain ⟨c2, f2⟩ := HC.out j (by omega)
          rw [HX.out] at c1
          obtain ⟨i, rfl⟩ : ∃ i, j = i + 1 := ⟨j - 1, by omega⟩
          have HLG : Hid (Pm.lastGt p X m = if p.getD (i + 1) 0 ≤ X then Pm.lastGt p X i else i + 1) := hlg
          clear hlg
          obtain ⟨Z, hZ⟩ : ∃ Z, p.getD (i + 1) 0 = Z := ⟨_, rfl⟩
          rw [hZ] at c2 HLG
          have HZ := Lib.hid hZ; clear hZ
          have b4 : (0 : Int) ≤ (i : Int) + 1 := by omega
          have b5 : (i : Int) + 1 < (m : Int) + 1 := by omega
          rw [show ((i + 1 : Nat) : Int) = (i : Int) + 1 from by omega]
          by_cases hZX : Z ≤ X
          · have hz2 : decide (Z ≤ X) = true := by simpa using hZX
            have HE2 : Hid (Pm.lastGt p X m = Pm.lastGt p X i) := by show _ = _; rw [HLG.out, if_pos hZX]
            have hne : k + 1 ≤ i := by
              rcases Nat.lt_or_ge i (k + 1) with h | h
              · exfalso
                obtain rfl : i = k := by omega
                have := HZ.out; have := HY.out; have := HXY.out
                omega
              · exact h
            clear hZX
            go_wp2_with fail
            go_quiet (fail)
            go_wp2
            go_roundw
            case rel => exact ⟨i, _, by go_num, rfl, hne, by omega, HE2.out⟩
            case measure => simp [intOf] <;> omega
          · have hz2 : decide (Z ≤ X) = false := by simpa using hZX
            have HE2 : Hid (Pm.nextI p = some (Pm.turnAt (Pm.swp p k (i + 1)) (k + 1))) := by
              show _ = _
              rw [HN.out, HE.out]
              show some (Pm.turnAt (Pm.swp p k (Pm.lastGt p (p.getD k 0) m)) (k + 1)) = _
              rw [HX.out, HLG.out, if_neg hZX]
            clear hZX
            go_wp2_with fail
            go_quiet (fail)
            have hki : ¬ k = i + 1 := by omega
            have hik : ¬ i + 1 = k := by omega
            go_wp2_with fail
            have HR3 := Lib.hid (fun (W : World) (h : W.ownsRow base 3 1 (.slice (some ⟨g, 0, none⟩) (m + 1) cap) (m + 1) ((Pm.swp p k (i + 1)).map (Value.int .i64))) => rev_tail (k := k + 1) (n := m + 1) h (by omega) (by omega))
            have hl1 : k < p.length := by omega
            have hl2 : i + 1 < p.length := by omega
            have HSW := Lib.hid (fun (W : World) (h : W.ownsRow base 3 1 (.slice (some ⟨g, 0, none⟩) (m + 1) cap) (m + 1) (p.map (Value.int .i64))) => own_swp (X := X) (Z := Z) hl1 hl2 (by omega) HX.out HZ.out h)
            have hne1 : ¬ cap = k + 1 := by omega
            clear hl1 hl2 hj1 hj2
            go_region_law (fail)
            all_goals
              have H3 := Lib.hid (HSW.out (w.drewN (q2 + nq + 1)) HO.out)
              have HO3 := Lib.hid H3.out.1
              have HG3 := Lib.hid (grown_trans (grown_of_below (row := some g) (below_drewN (Below.refl w.heap.size w) (q2 + nq + 1))) H3.out.2)
              clear H3
              generalize ((w.drewN (q2 + nq + 1)).setCell { block := g, off := k } (Value.int IntKind.i64 Z)).setCell { block := g, off := i + 1 } (Value.int IntKind.i64 X) = w3 at HO3 HG3 ⊢
              have HRV0 := HR3.out w3 HO3.out
              rw [Nat.add_sub_add_right] at HRV0
              have HRV := Lib.hid HRV0
              clear HSW HR3 HO3 HC HO HRV0
              go_wp2_with fail
              refine HRV.out.mono ?_
              rintro e w4 ⟨rfl, ho4, hg4⟩
              have HO4 := Lib.hid ho4
              have HG4 := Lib.hid (grown_trans HG3.out hg4)
              clear ho4 hg4
              go_wp2
              go_ret
              rw [HE2.out]
              exact ⟨rfl, HO4.out, HG4.out⟩

end Go.Proofs.Ytmolneojjcjooaa

/- Walks: all permutations, one after the other, handed to a function value. -/
namespace Go.Proofs.Ytmolneojjcjooaa
open Go.RowKit Go.Sort
set_option linter.unusedVariables false

theorem first_succ (k : Nat) : Pm.first (k + 1) = Pm.first k ++ [(k : Int)] := by simp [Pm.first, List.range_succ]
theorem first_len (k : Nat) : (Pm.first k).length = k := by simp [Pm.first]

/-- What a function value does with the permutations of n items: 'I k' holds behind the first k of them; 'J' where it has said no. It writes block 'row' alone of what was there. -/
def Yields (w0 : World) (n : Nat) (hv : Value) (row : Option Nat) (I : Nat → World → Prop) (J : World → Prop) : Prop :=
  ∃ G cp, hv = .func (.func G) #[] cp ∧ (∀ args w, (callFunc G args).run Try.prog w = .ok (.enter G args) w) ∧
    ∀ (k : Nat) (p : List Int) (W : World) (x : Addr) (c : Nat), (Pm.allP n)[k]? = some p → I k W → w0.heap.size ≤ W.heap.size → w0.heap.size ≤ x.block → IntsAt W (some x) p →
      Calls Try.prog G (#[.slice (some x) n c] ++ cp) W fun e W' => ∃ b : Bool, e = .returned (.bool b) ∧ W.grownBy W' row ∧ (b = true → I (k + 1) W') ∧ (b = false → J W')

set_option maxRecDepth 100000 in
set_option maxHeartbeats 4000000 in
theorem permutations_any (m : Nat) (hm : m + 1 ≤ 5) (hv : Value) (row : Option Nat) (I : Nat → World → Prop) (J : World → Prop) (w : World) (hr : ∀ b, row = some b → b < w.heap.size)
    (hI : ∀ k W W' g, w.heap.size ≤ g → I k W → W.grownBy W' (some g) → I k W') (h0 : ∀ W, Below w.heap.size w W → I 0 W)
    (hy : Yields w (m + 1) hv row I J) :
    Calls Try.prog 93 #[.int .i64 ((m : Int) + 1), hv] w fun e w' => e = .returned (.tuple #[]) ∧ w.grownBy w' row ∧ (I (Pm.allP (m + 1)).length w' ∨ J w') := by
  obtain ⟨G, cp, rfl, hcall, hy⟩ := hy
  have E0 := Lib.hid (own_lit (w := w) (e := 3) (size := 1) #[] 0 (by omega) rfl)
  have B0 := Lib.hid (show Below w.heap.size w (w.alloc (.cells #[] 3)) from (Below.refl _ _).alloc (Nat.le_refl _) _)
  have HY := Lib.hid hy; have HI := Lib.hid hI; have H0 := Lib.hid h0; have HR := Lib.hid hr
  clear hy hI h0 hr
  go_enter Try.func93, Try.ntmps93
  go_wp2
  go_loopw [4, 5, 8] (fun v _ i wr => ∃ k : Nat, k ≤ m + 1 ∧ i = .int .i64 k ∧ wr.ownsRow w.heap.size 3 1 v k ((Pm.first k).map (Value.int .i64)) ∧ Below w.heap.size w wr) (fun _ _ i _ => m + 1 - (intOf i).toNat)
  case atStart => exact ⟨0, by omega, rfl, E0.out, B0.out⟩
  case round =>
    obtain ⟨k, hk, rfl, hown, hb⟩ := hrel
    obtain ⟨a', c', rfl⟩ := own_slice hown
    have HO := Lib.hid hown; have HB := Lib.hid hb
    clear hown hb E0 B0
    by_cases hlt : k < m + 1
    · have h3 : decide ((k : Int) < (m : Int) + 1) = true := by simp; omega
      have hn40 : k + 1 ≤ 1099511627776 := by omega
      have hbs := HB.out.size
      go_wp2_with (at_builtin; refine wpList_app1 slInt rfl _ _ rfl rfl HO.out [.int .i64 k] rfl rfl (by simp) (by simp [Value.oneCell']) hn40 hbs ?_; intro v' w2 hown' hg ht)
      have HO4 := Lib.hid hown'
      have HB4 := Lib.hid (below_app HB.out hbs HO.out (Nat.le_refl _) hg)
      clear hown' hg ht
      go_wp2
      go_roundw
      case rel => exact ⟨k + 1, by omega, by go_num, by rw [first_succ, List.map_append]; exact HO4.out, HB4.out⟩
      case measure => simp [intOf] <;> omega
    · obtain rfl : k = m + 1 := by omega
      have h3 : decide ((((m + 1 : Nat)) : Int) < (m : Int) + 1) = false := by simp
      obtain ⟨g, rfl, hg1, hg2, _⟩ := own_cell HO.out (by omega)
      have HI0 := Lib.hid (H0.out wr HB.out)
      have HG0 := Lib.hid (show w.grownBy wr row from grown_of_below HB.out)
      have HPF := Lib.hid (Pm.allP_first (n := m + 1) (by omega) hm)
      have HNX := Lib.hid (fun k p => Pm.allP_next (n := m + 1) (by omega) hm (k := k) (p := p))
      have HPO := Lib.hid (fun p => Pm.allP_ok (n := m + 1) (by omega) hm (p := p))
      clear HB hk
      go_wp2
      go_loopg [] (Pm.allP (m + 1)).length (fun mm wq => ∃ (k : Nat) (p : List Int), (Pm.allP (m + 1))[k]? = some p ∧ mm + k = (Pm.allP (m + 1)).length ∧ I k wq ∧ w.grownBy wq row ∧
        wq.ownsRow w.heap.size 3 1 (.slice (some ⟨g, 0, none⟩) (m + 1) c') (m + 1) (p.map (Value.int .i64)))
      case atStart => exact ⟨0, _, HPF.out, by omega, HI0.out, HG0.out, HO.out⟩
      case round =>
        obtain ⟨k, p, hkp, hmm, hik, hgr, ho⟩ := hrel
        have HKP := Lib.hid hkp; have HMM := Lib.hid hmm; have HO5 := Lib.hid ho; have HGR := Lib.hid hgr
        have hnp := HPO.out p (List.mem_of_getElem? hkp)
        have hkl : k < (Pm.allP (m + 1)).length := (List.getElem?_eq_some_iff.1 hkp).1
        have HPL : Hid (p.length = m + 1) := hnp.1
        have HYC := Lib.hid (HY.out k p wr ⟨g, 0, none⟩ c' hkp hik hgr.size hg1 (ints_of_own ho))
        have hcall := hcall (#[.slice (some ⟨g, 0, none⟩) (m + 1) c'] ++ cp)
        have HKL := Lib.hid hkl
        clear hnp hkp hmm hik hgr ho hkl HY HO
        go_wp2_with fail
        refine HYC.out.mono ?_
        rintro e w3 ⟨b, rfl, hg3, hi3, hj3⟩
        have HO6 := Lib.hid (own_other HO5.out hg3 (fun k hk => by
          injection hk with hk
          intro e
          have := HR.out _ e
          have h2 : g = k := hk
          omega))
        have HG6 := Lib.hid (grown_trans HGR.out hg3)
        cases b
        · have HJ3 := Lib.hid (hj3 rfl)
          clear hg3 hi3 hj3
          go_wp2_with fail
          go_end0
          exact ⟨rfl, HG6.out, .inr HJ3.out⟩
        · have HI3 := Lib.hid (hi3 rfl)
          have HNP := Lib.hid (nextPermutation_any w.heap.size g c' m p w3 HPL.out (by omega) HO6.out)
          have HN1 := Lib.hid (HNX.out k p HKP.out)
          clear hg3 hi3 hj3
          go_wp2_with fail
          refine HNP.out.mono ?_
          rintro e w4 ⟨rfl, ho4, hg4⟩
          have HI4 := Lib.hid (HI.out _ _ _ g hg1 HI3.out hg4)
          have HG7 := Lib.hid (show w.grownBy w4 row from ⟨hg4.os.trans HG6.out.os, hg4.tape.trans HG6.out.tape, hg4.output.trans HG6.out.output, Nat.le_trans HG6.out.size hg4.size, fun q hq hne => (hg4.block q (Nat.lt_of_lt_of_le hq HG6.out.size) (fun e => by injection e with e; omega)).trans (HG6.out.block q hq hne)⟩)
          have HO7 := Lib.hid ho4
          clear ho4 hg4
          rw [HN1.out] at HO7
          rw [HN1.out]
          cases hnx : (Pm.allP (m + 1))[k + 1]? with
          | none =>
            rw [hnx] at HO7
            have hkl2 : k + 1 = (Pm.allP (m + 1)).length := by
              have := List.getElem?_eq_none_iff.1 hnx
              have := HKL.out
              omega
            rw [hkl2] at HI4
            clear hnx
            go_wp2_with fail
            go_end0
            exact ⟨rfl, HG7.out, .inl HI4.out⟩
          | some p' =>
            rw [hnx] at HO7
            have HNX2 := Lib.hid hnx
            clear hnx
            go_wp2_with fail
            go_roundg (gk - 1)
            case measure => have := HMM.out; have := HKL.out; omega
            case rel => exact ⟨k + 1, p', HNX2.out, by have := HMM.out; have := HKL.out; omega, HI4.out, HG7.out, HO7.out⟩

end Go.Proofs.Ytmolneojjcjooaa

/- Walks: all permutations, handed to a function value that writes several blocks. -/
namespace Go.Proofs.Ytmolneojjcjooaa
open Go.RowKit Go.Sort
set_option linter.unusedVariables false

theorem ch_of_below {w w' : World} (lo hi : Nat) (h : Below w.heap.size w w') : Ch w w' lo hi := ⟨h.os, h.tape, h.output, h.size, fun k hk _ => h.block k hk⟩
theorem ch_trans {w w' w'' : World} {lo hi : Nat} (h : Ch w w' lo hi) (h2 : Ch w' w'' lo hi) : Ch w w'' lo hi :=
  ⟨h2.os.trans h.os, h2.tape.trans h.tape, h2.output.trans h.output, Nat.le_trans h.size h2.size, fun k hk hx => (h2.block k (Nat.lt_of_lt_of_le hk h.size) hx).trans (h.block k hk hx)⟩
theorem ch_far {w w' w'' : World} {lo hi g : Nat} (h : Ch w w' lo hi) (h2 : w'.grownBy w'' (some g)) (hg : w.heap.size ≤ g) : Ch w w'' lo hi :=
  ⟨h2.os.trans h.os, h2.tape.trans h.tape, h2.output.trans h.output, Nat.le_trans h.size h2.size, fun k hk hx => (h2.block k (Nat.lt_of_lt_of_le hk h.size) (fun e => by injection e with e; omega)).trans (h.block k hk hx)⟩

/-- What a function value does with the permutations of n items: 'I k' holds behind the first k of them; 'J' where it has said no. It writes the blocks from lo to hi alone of what was there. -/
def YieldsC (w0 : World) (n : Nat) (hv : Value) (lo hi : Nat) (I : Nat → World → Prop) (J : World → Prop) : Prop :=
  ∃ G cp, hv = .func (.func G) #[] cp ∧ (∀ args w, (callFunc G args).run Try.prog w = .ok (.enter G args) w) ∧
    ∀ (k : Nat) (p : List Int) (W : World) (x : Addr) (c : Nat), (Pm.allP n)[k]? = some p → I k W → w0.heap.size ≤ W.heap.size → w0.heap.size ≤ x.block → IntsAt W (some x) p →
      Calls Try.prog G (#[.slice (some x) n c] ++ cp) W fun e W' => ∃ b : Bool, e = .returned (.bool b) ∧ Ch W W' lo hi ∧ (b = true → I (k + 1) W') ∧ (b = false → J W')

set_option maxRecDepth 100000 in
set_option maxHeartbeats 4000000 in
theorem permutationsC_any (m : Nat) (hm : m + 1 ≤ 5) (hv : Value) (lo hi : Nat) (I : Nat → World → Prop) (J : World → Prop) (w : World) (hr : hi ≤ w.heap.size)
    (hI : ∀ k W W' g, w.heap.size ≤ g → I k W → W.grownBy W' (some g) → I k W') (h0 : ∀ W, Below w.heap.size w W → I 0 W)
    (hy : YieldsC w (m + 1) hv lo hi I J) :
    Calls Try.prog 93 #[.int .i64 ((m : Int) + 1), hv] w fun e w' => e = .returned (.tuple #[]) ∧ Ch w w' lo hi ∧ (I (Pm.allP (m + 1)).length w' ∨ J w') := by
  obtain ⟨G, cp, rfl, hcall, hy⟩ := hy
  have E0 := Lib.hid (own_lit (w := w) (e := 3) (size := 1) #[] 0 (by omega) rfl)
  have B0 := Lib.hid (show Below w.heap.size w (w.alloc (.cells #[] 3)) from (Below.refl _ _).alloc (Nat.le_refl _) _)
  have HY := Lib.hid hy; have HI := Lib.hid hI; have H0 := Lib.hid h0; have HR := Lib.hid hr
  clear hy hI h0 hr
  go_enter Try.func93, Try.ntmps93
  go_wp2
  go_loopw [4, 5, 8] (fun v _ i wr => ∃ k : Nat, k ≤ m + 1 ∧ i = .int .i64 k ∧ wr.ownsRow w.heap.size 3 1 v k ((Pm.first k).map (Value.int .i64)) ∧ Below w.heap.size w wr) (fun _ _ i _ => m + 1 - (intOf i).toNat)
  case atStart => exact ⟨0, by omega, rfl, E0.out, B0.out⟩
  case round =>
    obtain ⟨k, hk, rfl, hown, hb⟩ := hrel
    obtain ⟨a', c', rfl⟩ := own_slice hown
    have HO := Lib.hid hown; have HB := Lib.hid hb
    clear hown hb E0 B0
    by_cases hlt : k < m + 1
    · have h3 : decide ((k : Int) < (m : Int) + 1) = true := by simp; omega
      have hn40 : k + 1 ≤ 1099511627776 := by omega
      have hbs := HB.out.size
      go_wp2_with (at_builtin; refine wpList_app1 slInt rfl _ _ rfl rfl HO.out [.int .i64 k] rfl rfl (by simp) (by simp [Value.oneCell']) hn40 hbs ?_; intro v' w2 hown' hg ht)
      have HO4 := Lib.hid hown'
      have HB4 := Lib.hid (below_app HB.out hbs HO.out (Nat.le_refl _) hg)
      clear hown' hg ht
      go_wp2
      go_roundw
      case rel => exact ⟨k + 1, by omega, by go_num, by rw [first_succ, List.map_append]; exact HO4.out, HB4.out⟩
      case measure => simp [intOf] <;> omega
    · obtain rfl : k = m + 1 := by omega
      have h3 : decide ((((m + 1 : Nat)) : Int) < (m : Int) + 1) = false := by simp
      obtain ⟨g, rfl, hg1, hg2, _⟩ := own_cell HO.out (by omega)
      have HI0 := Lib.hid (H0.out wr HB.out)
      have HG0 := Lib.hid (ch_of_below lo hi HB.out)
      have HPF := Lib.hid (Pm.allP_first (n := m + 1) (by omega) hm)
      have HNX := Lib.hid (fun k p => Pm.allP_next (n := m + 1) (by omega) hm (k := k) (p := p))
      have HPO := Lib.hid (fun p => Pm.allP_ok (n := m + 1) (by omega) hm (p := p))
      clear HB hk
      go_wp2
      go_loopg [] (Pm.allP (m + 1)).length (fun mm wq => ∃ (k : Nat) (p : List Int), (Pm.allP (m + 1))[k]? = some p ∧ mm + k = (Pm.allP (m + 1)).length ∧ I k wq ∧ Ch w wq lo hi ∧
        wq.ownsRow w.heap.size 3 1 (.slice (some ⟨g, 0, none⟩) (m + 1) c') (m + 1) (p.map (Value.int .i64)))
      case atStart => exact ⟨0, _, HPF.out, by omega, HI0.out, HG0.out, HO.out⟩
      case round =>
        obtain ⟨k, p, hkp, hmm, hik, hgr, ho⟩ := hrel
        have HKP := Lib.hid hkp; have HMM := Lib.hid hmm; have HO5 := Lib.hid ho; have HGR := Lib.hid hgr
        have hnp := HPO.out p (List.mem_of_getElem? hkp)
        have hkl : k < (Pm.allP (m + 1)).length := (List.getElem?_eq_some_iff.1 hkp).1
        have HPL : Hid (p.length = m + 1) := hnp.1
        have HYC := Lib.hid (HY.out k p wr ⟨g, 0, none⟩ c' hkp hik hgr.size hg1 (ints_of_own ho))
        have hcall := hcall (#[.slice (some ⟨g, 0, none⟩) (m + 1) c'] ++ cp)
        have HKL := Lib.hid hkl
        clear hnp hkp hmm hik hgr ho hkl HY HO
        go_wp2_with fail
        refine HYC.out.mono ?_
        rintro e w3 ⟨b, rfl, hg3, hi3, hj3⟩
        have HO6 := Lib.hid (hg3.own HO5.out (fun k hk => .inr (by have h2 : g = k := Option.some.inj hk; have := HR.out; omega)))
        have HG6 := Lib.hid (ch_trans HGR.out hg3)
        cases b
        · have HJ3 := Lib.hid (hj3 rfl)
          clear hg3 hi3 hj3
          go_wp2_with fail
          go_end0
          exact ⟨rfl, HG6.out, .inr HJ3.out⟩
        · have HI3 := Lib.hid (hi3 rfl)
          have HNP := Lib.hid (nextPermutation_any w.heap.size g c' m p w3 HPL.out (by omega) HO6.out)
          have HN1 := Lib.hid (HNX.out k p HKP.out)
          clear hg3 hi3 hj3
          go_wp2_with fail
          refine HNP.out.mono ?_
          rintro e w4 ⟨rfl, ho4, hg4⟩
          have HI4 := Lib.hid (HI.out _ _ _ g hg1 HI3.out hg4)
          have HG7 := Lib.hid (ch_far HG6.out hg4 hg1)
          have HO7 := Lib.hid ho4
          clear ho4 hg4
          rw [HN1.out] at HO7
          rw [HN1.out]
          cases hnx : (Pm.allP (m + 1))[k + 1]? with
          | none =>
            rw [hnx] at HO7
            have hkl2 : k + 1 = (Pm.allP (m + 1)).length := by
              have := List.getElem?_eq_none_iff.1 hnx
              have := HKL.out
              omega
            rw [hkl2] at HI4
            clear hnx
            go_wp2_with fail
            go_end0
            exact ⟨rfl, HG7.out, .inl HI4.out⟩
          | some p' =>
            rw [hnx] at HO7
            have HNX2 := Lib.hid hnx
            clear hnx
            go_wp2_with fail
            go_roundg (gk - 1)
            case measure => have := HMM.out; have := HKL.out; omega
            case rel => exact ⟨k + 1, p', HNX2.out, by have := HMM.out; have := HKL.out; omega, HI4.out, HG7.out, HO7.out⟩

end Go.Proofs.Ytmolneojjcjooaa

/- Walks: what a decision tree costs: the program's way. -/
namespace Go.Proofs.Ytmolneojjcjooaa
open Go.RowKit Go.Sort
set_option linter.unusedVariables false

theorem grown_setD (W : World) (pc : Nat) (u : Value) : W.grownBy (W.setCell ⟨pc, 0, none⟩ u) (some pc) :=
  ⟨rfl, rfl, rfl, by simp, fun k _ hk => heap_setCell_other W ⟨pc, 0, none⟩ k u (fun e => hk (by simp [e]))⟩

/-- The two numbers behind the first k permutations. -/
structure DCI (w0 W : World) (b lo n : Nat) (ns : List Dt.Nd) (a : Option Addr) (c k : Nat) : Prop where
  ch : Below w0.heap.size w0 W
  cell : W.cell? ⟨b, 0, none⟩ = some (.slice a ns.length c)
  most : W.heap[lo]? = some (.cells #[.int .i64 (Dt.mostTo ns ((Pm.allP n).take k) : Nat)] 3 (0, 0))
  tot : W.heap[lo + 1]? = some (.cells #[.int .i64 (Dt.totTo ns ((Pm.allP n).take k) : Nat)] 3 (0, 0))

set_option maxHeartbeats 2000000 in
theorem dc1_any (b lo M T : Nat) (a : Option Addr) (c : Nat) (ns : List Dt.Nd) (x : Addr) (cx n : Nat) (p : List Int) (w : World) (hn : p.length = n) (hn2 : n ≤ 64) (hok : Dt.okTree (n : Int) ns = true) (hM : M ≤ 100000) (hT : T ≤ 100000) (h : NodesAt w a ns) (hx : IntsAt w (some x) p)
    (hb : w.cell? ⟨b, 0, none⟩ = some (.slice a ns.length c)) (h1 : w.heap[lo]? = some (.cells #[.int .i64 (M : Int)] 3 (0, 0))) (h2 : w.heap[lo + 1]? = some (.cells #[.int .i64 (T : Int)] 3 (0, 0))) :
    Calls Try.prog 94 #[.slice (some x) n cx, .pointer (some ⟨b, 0, none⟩), .pointer (some ⟨lo, 0, none⟩), .pointer (some ⟨lo + 1, 0, none⟩)] w fun e w' => e = .returned (.bool true) ∧ Ch w w' lo (lo + 2) ∧
      w'.heap[lo]? = some (.cells #[.int .i64 ((max M (Dt.runT ns p).2 : Nat) : Int)] 3 (0, 0)) ∧ w'.heap[lo + 1]? = some (.cells #[.int .i64 ((T + (Dt.runT ns p).2 : Nat) : Int)] 3 (0, 0)) := by
  subst hn
  obtain ⟨o1, o2, o3, o4, o5, _⟩ := Dt.okTree_iff hok
  rw [Int.toNat_natCast] at o5
  have hrl := (Dt.runT_ok (zs := p) o5 o3).2.2
  have HD := Lib.hid (decide_any a c ns (some x) cx p w hn2 hok h hx)
  clear h hx hok o5
  have s1 : lo < w.heap.size := (Array.getElem?_eq_some_iff.1 h1).1
  have s2 : lo + 1 < w.heap.size := (Array.getElem?_eq_some_iff.1 h2).1
  have H1 := Lib.hid h1; have H2 := Lib.hid h2
  clear h1 h2
  go_enter Try.func94, Try.ntmps94
  go_wp2_with fail
  refine HD.out.mono ?_
  rintro e w1 ⟨g, cg, rfl, _, hb1⟩
  have HB1 := Lib.hid hb1
  have HA := Lib.hid (block_below H1.out hb1 s1)
  have HC := Lib.hid (block_below H2.out hb1 s2)
  have e1 := row_cell HA.out 0
  have e2 := row_cell HC.out 0
  have f1 : w1.frozen? ⟨lo, 0, none⟩ = false := free_of_one HA.out
  have f2 : w1.frozen? ⟨lo + 1, 0, none⟩ = false := free_of_one HC.out
  simp at e1 e2
  generalize hR : (Dt.runT ns p).2 = R at hrl ⊢
  have HR := Lib.hid hR; clear hR
  clear hb1 hb
  go_wp2
  go_ret
  rw [HR.out]
  have hmx : max (M : Int) (R : Int) = ((max M R : Nat) : Int) := by omega
  have hsm : (T : Int) + (R : Int) = ((T + R : Nat) : Int) := by omega
  rw [hmx, hsm]
  refine ⟨rfl, ?_, ?_, ?_⟩
  · exact ((ch_of_below lo (lo + 2) HB1.out).grow (grown_setD w1 lo _) (fun k e => by injection e with e; omega)).grow (grown_setD _ (lo + 1) _) (fun k e => by injection e with e; omega)
  · exact (heap_setCell_other _ ⟨lo + 1, 0, none⟩ lo _ (by simp)).trans (heap_setCell_same w1 lo 0 _ _ _ HA.out)
  · exact heap_setCell_same _ (lo + 1) 0 _ _ _ ((heap_setCell_other _ ⟨lo, 0, none⟩ (lo + 1) _ (by simp)).trans HC.out)

theorem Dt.most_fold {n : Nat} {ns : List Dt.Nd} (h : Dt.nodesOk n ns = true) (h1 : 1 ≤ ns.length) : ∀ (ps : List (List Int)) (m0 : Nat), m0 ≤ ns.length → ps.foldl (fun m p => max m (Dt.runT ns p).2) m0 ≤ ns.length
  | [], m0, hm => hm
  | p :: ps, m0, hm => Dt.most_fold h h1 ps _ (by have := (Dt.runT_ok (zs := p) h h1).2.2; show max m0 _ ≤ _; omega)
theorem Dt.mostTo_le {n : Nat} {ns : List Dt.Nd} (h : Dt.nodesOk n ns = true) (h1 : 1 ≤ ns.length) (ps : List (List Int)) : Dt.mostTo ns ps ≤ ns.length := Dt.most_fold h h1 ps 0 (Nat.zero_le _)
theorem Dt.tot_fold {n : Nat} {ns : List Dt.Nd} (h : Dt.nodesOk n ns = true) (h1 : 1 ≤ ns.length) : ∀ (ps : List (List Int)) (m0 : Nat), ps.foldl (fun m p => m + (Dt.runT ns p).2) m0 ≤ m0 + ps.length * ns.length
  | [], m0 => by simp
  | p :: ps, m0 => by
    have h2 := (Dt.runT_ok (zs := p) h h1).2.2
    have h3 := Dt.tot_fold h h1 ps (m0 + (Dt.runT ns p).2)
    rw [List.foldl_cons, List.length_cons, Nat.add_mul]
    omega
theorem Dt.totTo_le {n : Nat} {ns : List Dt.Nd} (h : Dt.nodesOk n ns = true) (h1 : 1 ≤ ns.length) (ps : List (List Int)) : Dt.totTo ns ps ≤ ps.length * ns.length := by
  have := Dt.tot_fold h h1 ps 0
  rw [Nat.zero_add] at this
  exact this

theorem DCI.far {w0 W W' : World} {b lo n k g : Nat} {ns : List Dt.Nd} {a : Option Addr} {c : Nat} (h : DCI w0 W b lo n ns a c k) (hg : W.grownBy W' (some g)) (h1 : lo + 2 ≤ g) (h2 : w0.heap.size ≤ g) (h3 : b < lo) : DCI w0 W' b lo n ns a c k := by
  have s1 : lo < W.heap.size := (Array.getElem?_eq_some_iff.1 h.most).1
  have s2 : lo + 1 < W.heap.size := (Array.getElem?_eq_some_iff.1 h.tot).1
  refine ⟨⟨hg.os.trans h.ch.os, hg.tape.trans h.ch.tape, hg.output.trans h.ch.output, Nat.le_trans h.ch.size hg.size, fun k hk => (hg.block k (Nat.lt_of_lt_of_le hk h.ch.size) (fun e => by injection e with e; omega)).trans (h.ch.block k hk)⟩, ?_, ?_, ?_⟩
  · exact (World.cell?_of_block (w := W) (w' := W') (a := ⟨b, 0, none⟩) (hg.block b (by omega) (fun e => by injection e with e; omega))).trans h.cell
  · exact (hg.block lo s1 (fun e => by injection e with e; omega)).trans h.most
  · exact (hg.block (lo + 1) s2 (fun e => by injection e with e; omega)).trans h.tot

set_option maxHeartbeats 2000000 in
theorem dc_yields (w0 w : World) (b lo m : Nat) (ns : List Dt.Nd) (a : Option Addr) (c : Nat) (hm : m + 1 ≤ 5) (hok : Dt.okTree ((m + 1 : Nat) : Int) ns = true) (h : NodesAt w0 a ns) (hw : Below w0.heap.size w0 w) (hlo : w0.heap.size ≤ b) (hbl : b < lo) :
    YieldsC w (m + 1) (.func (.func 94) #[] #[.pointer (some ⟨b, 0, none⟩), .pointer (some ⟨lo, 0, none⟩), .pointer (some ⟨lo + 1, 0, none⟩)]) lo (lo + 2) (fun k W => DCI w0 W b lo (m + 1) ns a c k) (fun _ => False) := by
  refine ⟨_, _, rfl, fun args w => by kernel_rfl, fun k p W x cx hkp hI hsz hxb hx => ?_⟩
  obtain ⟨o1, o2, o3, o4, o5, _⟩ := Dt.okTree_iff hok
  rw [Int.toNat_natCast] at o5
  have hpn := (Pm.allP_ok (n := m + 1) (by omega) hm (List.mem_of_getElem? hkp)).1
  have hal := Pm.allP_len (n := m + 1) (by omega) hm
  have htk : ((Pm.allP (m + 1)).take k).length ≤ 120 := by rw [List.length_take]; omega
  have hM := Dt.mostTo_le o5 o3 ((Pm.allP (m + 1)).take k)
  have hT := Dt.totTo_le o5 o3 ((Pm.allP (m + 1)).take k)
  have hT2 : ((Pm.allP (m + 1)).take k).length * ns.length ≤ 120 * 255 := Nat.mul_le_mul htk o4
  have e : (Pm.allP (m + 1)).take (k + 1) = (Pm.allP (m + 1)).take k ++ [p] := by
    rw [List.take_add_one, hkp]; rfl
  refine (dc1_any b lo _ _ a c ns x cx (m + 1) p W hpn (by omega) hok (by omega) (by omega) (h.same hI.ch) hx hI.cell hI.most hI.tot).mono ?_
  rintro e' W' ⟨rfl, hc, h1, h2⟩
  refine ⟨true, rfl, hc, fun _ => ⟨hc.below hI.ch (by omega), ?_, ?_, ?_⟩, fun h => by cases h⟩
  · exact (hc.cell (World.block_lt_of_cell? W _ hI.cell) (.inl hbl)).trans hI.cell
  · rw [e, Dt.mostTo_snoc]; exact h1
  · rw [e, Dt.totTo_snoc]; exact h2

set_option maxHeartbeats 2000000 in
theorem decisionCost_any (a : Option Addr) (c : Nat) (ns : List Dt.Nd) (n : Int) (w : World) (hbig : ns.length ≤ 9223372036854775807) (h : NodesAt w a ns) :
    Calls Try.prog 41 #[.slice a ns.length c, .int .i64 n] w fun e w' => e = .returned (if Dt.okTree n ns then .tuple #[.int .i64 (Dt.mostTo ns (Pm.allP n.toNat) : Nat), .int .i64 (Dt.totTo ns (Pm.allP n.toNat) : Nat), .bool true] else .tuple #[.int .i64 0, .int .i64 0, .bool false]) ∧ Below w.heap.size w w' := by
  have HV := Lib.hid (fun (W : World) (hb : Below w.heap.size w W) => isValidDecisions_any a c ns n W hbig (h.same hb))
  have H := Lib.hid h; clear h
  cases hok : Dt.okTree n ns
  · have HK := Lib.hid hok; clear hok
    rw [if_neg (by simp)]
    go_enter Try.func41, Try.ntmps41
    go_wp2_with fail
    refine (HV.out _ (by (repeat (first | exact Below.refl _ _ | assumption | refine Below.setCell ?_ (by first | omega | (simp; done) | (simp; omega)) _ | refine Below.alloc ?_ (by first | omega | (simp; done) | (simp; omega)) _ | refine Below.drew ?_ | refine below_drewN ?_ _)))).mono ?_
    rintro e w1 ⟨rfl, hb1⟩
    rw [HK.out]
    have HB1 := Lib.hid (show Below w.heap.size w w1 from Below.trans (by (repeat (first | exact Below.refl _ _ | assumption | refine Below.setCell ?_ (by first | omega | (simp; done) | (simp; omega)) _ | refine Below.alloc ?_ (by first | omega | (simp; done) | (simp; omega)) _ | refine Below.drew ?_ | refine below_drewN ?_ _))) (hb1.mono (by simp))); clear hb1
    go_wp2
    go_ret3
    exact ⟨rfl, HB1.out⟩
  · obtain ⟨o1, o2, o3, o4, o5, _⟩ := Dt.okTree_iff hok
    obtain ⟨m, rfl⟩ : ∃ m : Nat, n = ((m + 1 : Nat) : Int) := ⟨(n - 1).toNat, by omega⟩
    have HK := Lib.hid hok; clear hok o5
    have hm : m + 1 ≤ 5 := by omega
    rw [if_pos rfl, Int.toNat_natCast]
    have hmf := hmf
    go_enter Try.func41, Try.ntmps41
    go_wp2_with fail
    refine (HV.out _ (by (repeat (first | exact Below.refl _ _ | assumption | refine Below.setCell ?_ (by first | omega | (simp; done) | (simp; omega)) _ | refine Below.alloc ?_ (by first | omega | (simp; done) | (simp; omega)) _ | refine Below.drew ?_ | refine below_drewN ?_ _)))).mono ?_
    rintro e w1 ⟨rfl, hb1⟩
    rw [HK.out]
    have u1 : w1.cell? ⟨w.heap.size, 0, none⟩ = some (.slice a ns.length c) := (hb1.cell (p := ⟨w.heap.size, 0, none⟩) (by simp)).trans (by simp [go_sem])
    have HB1 := Lib.hid (show Below w.heap.size w w1 from Below.trans (by (repeat (first | exact Below.refl _ _ | assumption | refine Below.setCell ?_ (by first | omega | (simp; done) | (simp; omega)) _ | refine Below.alloc ?_ (by first | omega | (simp; done) | (simp; omega)) _ | refine Below.drew ?_ | refine below_drewN ?_ _))) (hb1.mono (by simp)))
    have HU := Lib.hid u1
    have hlt : w.heap.size < w1.heap.size := by have := hb1.size; simp at this; omega
    clear hb1
    go_wp2_with fail
    obtain ⟨W, hW⟩ : ∃ W, W = (w1.alloc (.cells #[.int .i64 0] 3)).alloc (.cells #[.int .i64 0] 3) := ⟨_, rfl⟩
    have hWs : W.heap.size = w1.heap.size + 2 := by rw [hW]; simp
    have hb2 : Below w1.heap.size w1 W := by rw [hW]; (repeat (first | exact Below.refl _ _ | assumption | refine Below.setCell ?_ (by first | omega | (simp; done) | (simp; omega)) _ | refine Below.alloc ?_ (by first | omega | (simp; done) | (simp; omega)) _ | refine Below.drew ?_ | refine below_drewN ?_ _))
    have q1 : W.heap[w1.heap.size]? = some (.cells #[.int .i64 0] 3 (0, 0)) := by rw [hW]; exact block_below (block_new w1 _) ((Below.refl _ _).alloc (Nat.le_refl _) _) (by simp)
    have q2 : W.heap[w1.heap.size + 1]? = some (.cells #[.int .i64 0] 3 (0, 0)) := by
      rw [hW]
      have := block_new (w1.alloc (.cells #[.int .i64 0] 3)) (.cells #[.int .i64 0] 3)
      simpa using this
    rw [← hW]; clear hW
    have hbW := HB1.out.trans (hb2.mono HB1.out.size)
    have hcW := (hb2.cell (p := ⟨w.heap.size, 0, none⟩) hlt).trans HU.out
    have HP := Lib.hid (permutationsC_any m hm _ w1.heap.size (w1.heap.size + 2) (fun k W' => DCI w W' w.heap.size w1.heap.size (m + 1) ns a c k) (fun _ => False) W (by omega)
      (fun k W1 W2 g hg hi hgr => hi.far hgr (by omega) (by omega) hlt)
      (fun W' hb => ⟨hbW.trans (hb.mono hbW.size), (hb.cell (p := ⟨w.heap.size, 0, none⟩) (by show w.heap.size < _; omega)).trans hcW, by rw [List.take_zero]; exact block_below q1 hb (by omega), by rw [List.take_zero]; exact block_below q2 hb (by omega)⟩)
      (dc_yields w W w.heap.size w1.heap.size m ns a c hm HK.out H.out hbW (Nat.le_refl _) hlt))
    clear hb2 q1 q2 hbW hcW
    refine HP.out.mono ?_
    rintro e w2 ⟨rfl, _, hI | hJ⟩
    case inr => exact absurd hJ id
    have HI := Lib.hid hI.ch
    have e1 := row_cell hI.most 0
    have e2 := row_cell hI.tot 0
    rw [List.take_length] at e1 e2
    simp at e1 e2
    clear hI HP
    generalize hM : Dt.mostTo ns (Pm.allP (m + 1)) = M at e1
    generalize hT : Dt.totTo ns (Pm.allP (m + 1)) = T at e2
    have HM := Lib.hid hM; have HT := Lib.hid hT; clear hM hT
    go_wp2_with fail
    first | go_quiet (fail) | go_still_tail 3, (by kernel_rfl)
    go_wp2
    go_ret3
    rw [HM.out, HT.out]
    exact ⟨rfl, below_drewN HI.out _⟩

end Go.Proofs.Ytmolneojjcjooaa

/- append in a region that draws its order: at a step, any number of elements, and where the result lies. -/
namespace Go.Proofs.Ytmolneojjcjooaa
open Go.RowKit Go.Sort
set_option linter.unusedVariables false

theorem wp_appX {P : Program} {w : World} {o : Oper} {a : Act} {K : Act → World → Prop} {Q : Exit → Act → World → Prop} {t e : TypeId} {z : Value} {size bytes : Nat} (T : SlT P t e z size bytes) (s y : Operand)
    (ho : o.op = .call { callee := .builtin .append, args := #[s, y], argTypes := #[t, t] })
    (base : Nat) (v : Value) (n : Nat) (xs : List Value) (ad : Addr) (m c : Nat) (ys : List Value) (hs : a.eval s = v) (hown : w.ownsRow base e size v n xs) (hy : a.eval y = .slice (some ad) m c) (hl : ys.length = m * size)
    (hcells : ∀ j x, ys[j]? = some x → w.cell? (ad.add j) = some x) (h1 : ∀ x ∈ ys, x.oneCell' = true) (hsmall : n + m ≤ 1099511627776) (hbase : base ≤ w.heap.size)
    (h : ∀ v' w', w'.ownsRow base e size v' (n + m) (xs ++ ys) → w.grownBy w' v.ownBlock → (v'.ownBlock = v.ownBlock ∨ v'.ownBlock = some w.heap.size) → K (a.put o.dst v') w') : Oper.wp P o a w K Q := by
  obtain ⟨v', w', hr, h2, h3, h4⟩ := run_app_tag (P := P) w T base o.type v n xs hown ad m c ys hl hcells h1 hsmall hbase
  unfold Oper.wp execOp
  simp only [ho, resolve, invoke, builtin, Sem.run_bind, Sem.run_pure, Result.andThen_ok, List.map_toArray, List.map_cons, List.map_nil, hs, hy, hr]
  exact h v' w' h2 h3 h4

theorem step_appX {P : Program} {w : World} {ops : Array Oper} {o : Oper} {a : Act} {K : Act → World → Prop} {Q : Exit → Act → World → Prop} {E : Prop} {t e : TypeId} {z : Value} {size bytes : Nat} (T : SlT P t e z size bytes) (hgd : o.guard = none) (s y : Operand)
    (ho : o.op = .call { callee := .builtin .append, args := #[s, y], argTypes := #[t, t] })
    (base : Nat) (v : Value) (n : Nat) (xs : List Value) (ad : Addr) (m c : Nat) (ys : List Value) (hs : a.eval s = v) (hown : w.ownsRow base e size v n xs) (hy : a.eval y = .slice (some ad) m c) (hl : ys.length = m * size)
    (hcells : ∀ j x, ys[j]? = some x → w.cell? (ad.add j) = some x) (h1 : ∀ x ∈ ys, x.oneCell' = true) (hsmall : n + m ≤ 1099511627776) (hbase : base ≤ w.heap.size)
    (h : ∀ v' w', w'.ownsRow base e size v' (n + m) (xs ++ ys) → w.grownBy w' v.ownBlock → (v'.ownBlock = v.ownBlock ∨ v'.ownBlock = some w.heap.size) → K (a.put o.dst v') w') :
    if Region.wanted o (yielded ops a.tmps) = true then Oper.wp P o a w K Q else E := by
  have hw : Region.wanted o (yielded ops a.tmps) = true := by simp [Region.wanted, hgd]
  rw [if_pos hw]
  exact wp_appX T s y ho base v n xs ad m c ys hs hown hy hl hcells h1 hsmall hbase h

end Go.Proofs.Ytmolneojjcjooaa

/- Walks: the reference's first arrangement. -/
namespace Go.Proofs.Ytmolneojjcjooaa
open Go.RowKit Go.Sort
set_option linter.unusedVariables false

theorem bco {w0 w1 w2 : World} (h : Below w0.heap.size w0 w1) (hb : Below w1.heap.size w1 w2) : Below w0.heap.size w0 w2 := h.trans (hb.mono h.size)

set_option maxHeartbeats 1000000 in
theorem l23First_any (m : Nat) (hm : m ≤ 1000) (w : World) :
    Calls Try.prog 90 #[.int .i64 m] w fun e w' => ∃ a c, e = .returned (.slice a m c) ∧ w'.ownsRow w.heap.size 3 1 (.slice a m c) m ((Pm.first m).map (Value.int .i64)) ∧ Below w.heap.size w w' := by
  have E0 := Lib.hid (own_lit (w := w) (e := 3) (size := 1) #[] 0 (by omega) rfl)
  have B0 := Lib.hid (show Below w.heap.size w (w.alloc (.cells #[] 3)) from (Below.refl _ _).alloc (Nat.le_refl _) _)
  go_enter Try.func90, Try.ntmps90
  go_wp2
  go_loopw [3, 4] (fun v i wr => ∃ k : Nat, k ≤ m ∧ i = .int .i64 k ∧ wr.ownsRow w.heap.size 3 1 v k ((Pm.first k).map (Value.int .i64)) ∧ Below w.heap.size w wr) (fun _ i _ => m - (intOf i).toNat)
  case atStart => exact ⟨0, by omega, rfl, E0.out, B0.out⟩
  case round =>
    obtain ⟨k, hk, rfl, hown, hb⟩ := hrel
    obtain ⟨a', c', rfl⟩ := own_slice hown
    have HO := Lib.hid hown; have HB := Lib.hid hb
    clear hown hb E0 B0
    by_cases hlt : k < m
    · have h3 : decide ((k : Int) < (m : Int)) = true := by simp; omega
      have hn40 : k + 1 ≤ 1099511627776 := by omega
      have hbs := HB.out.size
      go_wp2_with (at_builtin; refine wpList_app1 slInt rfl _ _ rfl rfl HO.out [.int .i64 k] rfl rfl (by simp) (by simp [Value.oneCell']) hn40 hbs ?_; intro v' w2 hown' hg ht)
      have HO4 := Lib.hid hown'
      have HB4 := Lib.hid (below_app HB.out hbs HO.out (Nat.le_refl _) hg)
      clear hown' hg ht
      go_wp2
      go_roundw
      case rel => exact ⟨k + 1, by omega, by go_num, by rw [first_succ, List.map_append]; exact HO4.out, HB4.out⟩
      case measure => simp [intOf] <;> omega
    · obtain rfl : k = m := by omega
      have h3 : decide ((k : Int) < (k : Int)) = false := by simp
      go_wp2
      go_ret
      exact ⟨a', c', rfl, HO.out, HB.out⟩

theorem l1In_is {x lo hi : Int} {b : Bool} (h : inB x lo hi = b) : Hid (∀ w, Calls Try.prog 118 #[.int .i64 x, .int .i64 lo, .int .i64 hi] w fun e w' => e = .returned (.bool b) ∧ w' = w) := fun w => by
  have := l1In_any x lo hi w
  rw [h] at this
  exact this.mono (fun _ _ ⟨h1, h2⟩ => ⟨h1, h2.symm⟩)

end Go.Proofs.Ytmolneojjcjooaa
