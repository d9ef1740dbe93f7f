/- Several texts in one: lemmas and walks of the functions that the laws reach. -/
import Derived.Test.YthakkkljlpimlaaY7
import Derived.Test.YthakkkljlpimlaaY5

/- Walks of the library: an owned list of records, reversed (slices.Reverse). -/
namespace Go.Proofs.Ythakkkljlpimlaa
open Go.RowKit Go.Sort
set_option linter.unusedVariables false

/-- Reversed from both ends, i steps. -/
def rvS (L : List (Int × Int)) (i : Nat) : List (Int × Int) := (List.range L.length).map fun j => if j < i ∨ L.length ≤ j + i then L.getD (L.length - 1 - j) (0, 0) else L.getD j (0, 0)
theorem rvS_len (L : List (Int × Int)) (i : Nat) : (rvS L i).length = L.length := by simp [rvS]
theorem rvS_at {L : List (Int × Int)} {i j : Nat} (hj : j < L.length) : (rvS L i)[j]? = some (if j < i ∨ L.length ≤ j + i then L.getD (L.length - 1 - j) (0, 0) else L.getD j (0, 0)) := by
  unfold rvS
  rw [List.getElem?_map, List.getElem?_range hj]; rfl
theorem rvS_getD {L : List (Int × Int)} {i j : Nat} (hj : j < L.length) : (rvS L i).getD j (0, 0) = if j < i ∨ L.length ≤ j + i then L.getD (L.length - 1 - j) (0, 0) else L.getD j (0, 0) := by
  rw [List.getD_eq_getElem?_getD, rvS_at hj]; rfl
theorem rvS_zero (L : List (Int × Int)) : rvS L 0 = L := by
  apply List.ext_getElem?
  intro j
  by_cases hj : j < L.length
  · rw [rvS_at hj, if_neg (by omega), List.getD_eq_getElem?_getD, List.getElem?_eq_getElem hj]; rfl
  · rw [List.getElem?_eq_none (by rw [rvS_len]; omega), List.getElem?_eq_none (by omega)]
theorem rvS_end {L : List (Int × Int)} {i : Nat} (h : L.length ≤ 2 * i + 1) : rvS L i = L.reverse := by
  apply List.ext_getElem?
  intro j
  by_cases hj : j < L.length
  · rw [rvS_at hj, List.getElem?_reverse hj, List.getElem?_eq_getElem (by omega)]
    by_cases hc : j < i ∨ L.length ≤ j + i
    · rw [if_pos hc, List.getD_eq_getElem?_getD, List.getElem?_eq_getElem (by omega)]; rfl
    · rw [if_neg hc, List.getD_eq_getElem?_getD]
      have e : L.length - 1 - j = j := by omega
      simp only [e]
      rw [List.getElem?_eq_getElem hj]; rfl
  · rw [List.getElem?_eq_none (by rw [rvS_len]; omega), List.getElem?_eq_none (by simp; omega)]
theorem rvS_step {L : List (Int × Int)} {i k : Nat} (h : i < k) (hk : k + i + 1 = L.length) : ((rvS L i).set i ((rvS L i).getD k (0, 0))).set k ((rvS L i).getD i (0, 0)) = rvS L (i + 1) := by
  rw [rvS_getD (by omega), rvS_getD (by omega), if_neg (by omega), if_neg (by omega)]
  apply List.ext_getElem?
  intro j
  by_cases hj : j < L.length
  · rw [rvS_at hj, List.getElem?_set, List.getElem?_set, List.length_set, rvS_len]
    by_cases h1 : k = j
    · subst h1
      rw [if_pos rfl, if_pos hj, if_pos (by omega), show L.length - 1 - k = i by omega]
    · rw [if_neg h1]
      by_cases h2 : i = j
      · subst h2
        rw [if_pos rfl, if_pos hj, if_pos (by omega), show L.length - 1 - i = k by omega]
      · rw [if_neg h2, rvS_at hj]
        congr 1
        by_cases hc : j < i ∨ L.length ≤ j + i
        · rw [if_pos hc, if_pos (by omega)]
        · rw [if_neg hc, if_neg (by omega)]
  · rw [List.getElem?_eq_none (by simp [rvS_len]; omega), List.getElem?_eq_none (by rw [rvS_len]; omega)]

def RevEnd (B0 g n c : Nat) (L : List (Int × Int)) (w : World) (e : Ending) (w' : World) : Prop :=
  e = .returned (.tuple #[]) ∧ w'.ownsRow B0 42 2 (.slice (some ⟨g, 0, none⟩) n c) n (flat encR L.reverse) ∧ w.grownBy w' (some g)

set_option maxRecDepth 100000 in
set_option maxHeartbeats 4000000 in
theorem reverseR_any (B0 g c n : Nat) (L : List (Int × Int)) (w : World) (hn : L.length = n) (hn1 : 1 ≤ n) (hn2 : n ≤ 1000) (h : w.ownsRow B0 42 2 (.slice (some ⟨g, 0, none⟩) n c) n (flat encR L)) :
    Calls Try.prog 15 #[.slice (some ⟨g, 0, none⟩) n c] w (RevEnd B0 g n c L w) := by
  have HO : Hid (w.ownsRow B0 42 2 (.slice (some ⟨g, 0, none⟩) n c) n (flat encR (rvS L 0))) := by
    rw [rvS_zero]; exact h
  have HN := Lib.hid hn
  clear h hn
  unfold RevEnd
  go_enter Try.func15, Try.ntmps15
  go_wp2
  go_loopw [2, 3] (fun i k wr => ∃ i' k' : Nat, i = .int .i64 i' ∧ k = .int .i64 k' ∧ (k' + i' + 1 = n) ∧ wr.ownsRow B0 42 2 (.slice (some ⟨g, 0, none⟩) n c) n (flat encR (rvS L i')) ∧ w.grownBy wr (some g)) (fun i k _ => (intOf k).toNat)
  case atStart => exact ⟨0, n - 1, rfl, by go_num, by omega, HO.out, grown_of_below (Below.refl w.heap.size w)⟩
  case round =>
    obtain ⟨i, k, rfl, rfl, hik, ho, hg⟩ := hrel
    have HO2 := Lib.hid ho; have HG2 := Lib.hid hg
    clear ho hg HO
    by_cases hlt : i < k
    case neg =>
      have q1 : decide ((i : Int) < (k : Int)) = false := decide_eq_false (by omega)
      have HE := Lib.hid (rvS_end (L := L) (i := i) (by rw [HN.out]; omega))
      rw [HE.out] at HO2
      go_wp2
      go_end0
      exact ⟨rfl, HO2.out, HG2.out⟩
    have q1 : decide ((i : Int) < (k : Int)) = true := decide_eq_true (by omega)
    have hst := rvS_step (L := L) (i := i) (k := k) hlt (by rw [HN.out]; exact hik)
    have HL1 := Lib.hid ((rvS_len L i).trans HN.out)
    have q2 : (rvS L i)[i]? = some ((rvS L i).getD i (0, 0)) := by rw [List.getD_eq_getElem?_getD, List.getElem?_eq_getElem (by rw [HL1.out]; omega)]; rfl
    have q3 : (rvS L i)[k]? = some ((rvS L i).getD k (0, 0)) := by rw [List.getD_eq_getElem?_getD, List.getElem?_eq_getElem (by rw [HL1.out]; omega)]; rfl
    obtain ⟨c1, c1'⟩ := rec_cells HO2.out q2
    obtain ⟨c2, c2'⟩ := rec_cells HO2.out q3
    generalize (rvS L i).getD i (0, 0) = X at c1 c1' hst
    generalize (rvS L i).getD k (0, 0) = Y at c2 c2' hst
    have HS := Lib.hid hst
    clear q2 q3 hst
    generalize rvS L i = rs at HO2 HL1 HS
    obtain ⟨X1, X2⟩ := X
    obtain ⟨Y1, Y2⟩ := Y
    have b1 : (0 : Int) ≤ (i : Int) := by omega
    have b2 : (i : Int) < (n : Int) := by omega
    have b3 : (0 : Int) ≤ (k : Int) := by omega
    have b4 : (k : Int) < (n : Int) := by omega
    have p1 : i < n := by omega
    have p2 : k < n := by omega
    have HO3 : Hid (wr.drew.ownsRow B0 42 2 (.slice (some ⟨g, 0, none⟩) n c) n (flat encR rs)) := HO2.out
    have d1 : wr.drew.cell? ⟨g, i * 2, none⟩ = some (.int .i64 X1) := c1
    have d1' : wr.drew.cell? ⟨g, i * 2 + 1, none⟩ = some (.int .i64 X2) := c1'
    have d2 : wr.drew.cell? ⟨g, k * 2, none⟩ = some (.int .i64 Y1) := c2
    have d2' : wr.drew.cell? ⟨g, k * 2 + 1, none⟩ = some (.int .i64 Y2) := c2'
    clear c1 c1' c2 c2'
    go_wp2_with fail
    have rf : ∀ o, wr.drew.frozen? ⟨g, o, none⟩ = false := fun o => HO3.out.frozenAt o
    have o1 := HO2.out.stored (i * 2) (.int .i64 Y1)
    have o2 := o1.1.stored (i * 2 + 1) (.int .i64 Y2)
    have o3 := o2.1.stored (k * 2) (.int .i64 X1)
    have o4 := o3.1.stored (k * 2 + 1) (.int .i64 X2)
    have i1 : (wr.setCell ⟨g, i * 2, none⟩ (.int .i64 Y1)).drew.cell? ⟨g, i * 2 + 1, none⟩ = some (.int .i64 X2) := (cell_far (by omega)).trans d1'
    have f1 : ∀ o, (wr.setCell ⟨g, i * 2, none⟩ (.int .i64 Y1)).drew.frozen? ⟨g, o, none⟩ = false := fun o => o1.1.frozenAt o
    have i2 : ((wr.setCell ⟨g, i * 2, none⟩ (.int .i64 Y1)).setCell ⟨g, i * 2 + 1, none⟩ (.int .i64 Y2)).drew.cell? ⟨g, k * 2, none⟩ = some (.int .i64 Y1) :=
      ((cell_far (by omega)).trans (cell_far (by omega))).trans d2
    have f2 : ∀ o, ((wr.setCell ⟨g, i * 2, none⟩ (.int .i64 Y1)).setCell ⟨g, i * 2 + 1, none⟩ (.int .i64 Y2)).drew.frozen? ⟨g, o, none⟩ = false := fun o => o2.1.frozenAt o
    have i3 : (((wr.setCell ⟨g, i * 2, none⟩ (.int .i64 Y1)).setCell ⟨g, i * 2 + 1, none⟩ (.int .i64 Y2)).setCell ⟨g, k * 2, none⟩ (.int .i64 X1)).drew.cell? ⟨g, k * 2 + 1, none⟩ = some (.int .i64 Y2) :=
      (((cell_far (by omega)).trans (cell_far (by omega))).trans (cell_far (by omega))).trans d2'
    have f3 : ∀ o, (((wr.setCell ⟨g, i * 2, none⟩ (.int .i64 Y1)).setCell ⟨g, i * 2 + 1, none⟩ (.int .i64 Y2)).setCell ⟨g, k * 2, none⟩ (.int .i64 X1)).drew.frozen? ⟨g, o, none⟩ = false := fun o => o3.1.frozenAt o
    have hfl : ((((flat encR rs).set (i * 2) (.int .i64 Y1)).set (i * 2 + 1) (.int .i64 Y2)).set (k * 2) (.int .i64 X1)).set (k * 2 + 1) (.int .i64 X2) = flat encR (rvS L (i + 1)) := by
      rw [flat_set2 encR_len rs i (by rw [HL1.out]; exact p1) (Y1, Y2) _ _ rfl, flat_set2 encR_len _ k (by rw [List.length_set, HL1.out]; exact p2) (X1, X2) _ _ rfl, HS.out]
    have HO9 : Hid (((((wr.setCell ⟨g, i * 2, none⟩ (.int .i64 Y1)).setCell ⟨g, i * 2 + 1, none⟩ (.int .i64 Y2)).setCell ⟨g, k * 2, none⟩ (.int .i64 X1)).setCell ⟨g, k * 2 + 1, none⟩ (.int .i64 X2)).ownsRow B0 42 2 (.slice (some ⟨g, 0, none⟩) n c) n (flat encR (rvS L (i + 1)))) := by
      show World.ownsRow _ _ _ _ _ _ _
      rw [← hfl]; exact o4.1
    have HG9 := Lib.hid (grown_trans HG2.out (grown_trans o1.2 (grown_trans o2.2 (grown_trans o3.2 o4.2))))
    clear o1 o2 o3 o4 hfl
    refine wp_one ?A ((((wr.setCell ⟨g, i * 2, none⟩ (.int .i64 Y1)).setCell ⟨g, i * 2 + 1, none⟩ (.int .i64 Y2)).setCell ⟨g, k * 2, none⟩ (.int .i64 X1)).setCell ⟨g, k * 2 + 1, none⟩ (.int .i64 X2)).drew ?h1 ?h2
    case h1 =>
      go_region_law (fail)
      all_goals (refine ⟨?_, ?_⟩ <;> with_reducible rfl)
    case h2 =>
      generalize (((wr.setCell ⟨g, i * 2, none⟩ (.int .i64 Y1)).setCell ⟨g, i * 2 + 1, none⟩ (.int .i64 Y2)).setCell ⟨g, k * 2, none⟩ (.int .i64 X1)).setCell ⟨g, k * 2 + 1, none⟩ (.int .i64 X2) = w9 at HO9 HG9 ⊢
      go_wp2
      go_roundw
      case rel => exact ⟨i + 1, k - 1, by go_num, by go_num, by omega, HO9.out, grown_trans HG9.out (grown_of_below (Below.refl w9.heap.size w9).drew)⟩
      case measure => simp [intOf]; omega

end Go.Proofs.Ythakkkljlpimlaa

/- Walks: keys of records; the first descent; FirstDescent. -/
namespace Go.Proofs.Ythakkkljlpimlaa
open Go.RowKit
set_option linter.unusedVariables false

theorem rfind_some {n : Nat} {q : Nat → Bool} {m : Nat} (hm : m < n) (h : q m = true) (hall : ∀ j, j < m → q j = false) : (List.range n).find? q = some m := by
  rw [List.find?_range_eq_some]
  refine ⟨h, by simpa using hm, fun j hj => by simp [hall j hj]⟩
theorem rfind_none {n : Nat} {q : Nat → Bool} (hall : ∀ j, j < n → q j = false) : (List.range n).find? q = none := by
  rw [List.find?_range_eq_none]
  intro j hj; simp [hall j hj]

def descAt (zs : List Int) (m : Nat) : Bool := decide (zs.getD (m + 1) 0 < zs.getD m 0)
def fdesc (zs : List Int) : Int := match (List.range (zs.length - 1)).find? (descAt zs) with | some m => m | none => -1
theorem fdesc_some {zs : List Int} {m : Nat} (hm : m + 1 < zs.length) (h : descAt zs m = true) (hall : ∀ j, j < m → descAt zs j = false) : fdesc zs = m := by
  unfold fdesc; rw [rfind_some (by omega) h hall]
theorem fdesc_none {zs : List Int} (hall : ∀ j, j + 1 < zs.length → descAt zs j = false) : fdesc zs = -1 := by
  unfold fdesc; rw [rfind_none (fun j hj => hall j (by omega))]

def keysL (rs : List (Int × Int)) : List Int := rs.map Prod.fst
theorem keysL_succ {rs : List (Int × Int)} {k : Nat} (hk : k < rs.length) : keysL (rs.take (k + 1)) = keysL (rs.take k) ++ [(rs.getD k (0, 0)).1] := by
  unfold keysL
  rw [List.take_add_one, List.map_append]
  simp [List.getD, List.getElem?_eq_getElem hk]
theorem keysL_len (rs : List (Int × Int)) : (keysL rs).length = rs.length := by simp [keysL]

def fdAns (rs : List (Int × Int)) : Int × Bool := if okRecs rs then (if fdesc (keysL rs) = -1 then (-1, true) else (fdesc (keysL rs) + 1, true)) else (0, false)

theorem fdesc_range (zs : List Int) : fdesc zs = -1 ∨ 0 ≤ fdesc zs ∧ fdesc zs < zs.length := by
  unfold fdesc
  cases h : (List.range (zs.length - 1)).find? (descAt zs) with
  | none => left; rfl
  | some m =>
    right
    have := List.mem_of_find?_eq_some h
    simp at this
    simp; omega

end Go.Proofs.Ythakkkljlpimlaa

/- Natural runs: the plain functions, and the walks of both packages' loops. -/
namespace Go.Proofs.Ythakkkljlpimlaa
open Go.RowKit
set_option linter.unusedVariables false

def scanF (q : Nat → Bool) : Nat → Nat → Nat
  | 0, t => t
  | f + 1, t => if q t then scanF q f (t + 1) else t
def scanTo (q : Nat → Bool) (n t : Nat) : Nat := scanF q (n - t) t
theorem scanTo_step {q : Nat → Bool} {n t : Nat} (h : t < n) (hq : q t = true) : scanTo q n t = scanTo q n (t + 1) := by
  unfold scanTo
  rw [show n - t = (n - (t + 1)) + 1 from by omega]
  simp [scanF, hq]
theorem scanTo_stop {q : Nat → Bool} {n t : Nat} (h : n ≤ t ∨ q t = false) : scanTo q n t = t := by
  unfold scanTo
  rcases h with h | h
  · rw [show n - t = 0 from by omega]; rfl
  · cases n - t with
    | zero => rfl
    | succ f => simp [scanF, h]
theorem scanF_bound (q : Nat → Bool) : ∀ (f t : Nat), t ≤ scanF q f t ∧ scanF q f t ≤ t + f := by
  intro f
  induction f with
  | zero => intro t; simp [scanF]
  | succ f ih =>
    intro t
    simp only [scanF]
    split
    · have := ih (t + 1); omega
    · omega
theorem scanTo_bound (q : Nat → Bool) {n t : Nat} (h : t ≤ n) : t ≤ scanTo q n t ∧ scanTo q n t ≤ n := by
  have := scanF_bound q (n - t) t
  unfold scanTo; omega
theorem scanF_all (q : Nat → Bool) : ∀ (f t j : Nat), t ≤ j → j < scanF q f t → q j = true := by
  intro f
  induction f with
  | zero => intro t j h1 h2; simp [scanF] at h2; omega
  | succ f ih =>
    intro t j h1 h2
    simp only [scanF] at h2
    split at h2
    · rename_i hq
      by_cases e : j = t
      · subst e; exact hq
      · exact ih (t + 1) j (by omega) h2
    · omega
theorem scanF_max (q : Nat → Bool) : ∀ (f t : Nat), scanF q f t < t + f → q (scanF q f t) = false := by
  intro f
  induction f with
  | zero => intro t h; simp [scanF] at h
  | succ f ih =>
    intro t h
    simp only [scanF] at h ⊢
    split
    · rename_i hq
      rw [if_pos hq] at h
      exact ih (t + 1) (by omega)
    · rename_i hq; simpa using hq

def dn (ks : List Int) (t : Nat) : Bool := decide (ks.getD t 0 < ks.getD (t - 1) 0)
def isDn (ks : List Int) (f : Nat) : Bool := decide (f + 1 < ks.length) && dn ks (f + 1)
def runEnd (ks : List Int) (f : Nat) : Nat := if isDn ks f then scanTo (dn ks) ks.length (f + 1) else scanTo (fun t => !dn ks t) ks.length (f + 1)
theorem runEnd_bound {ks : List Int} {f : Nat} (h : f < ks.length) : f + 1 ≤ runEnd ks f ∧ runEnd ks f ≤ ks.length := by
  unfold runEnd; split <;> exact scanTo_bound _ (by omega)
def runsF (ks : List Int) : Nat → Nat → List (Int × Int)
  | 0, _ => []
  | g + 1, f => if f < ks.length then ((f : Int), ((runEnd ks f : Nat) : Int) - (f : Int)) :: runsF ks g (runEnd ks f) else []
def runsFrom (ks : List Int) (f : Nat) : List (Int × Int) := runsF ks (ks.length - f) f
theorem runsF_fuel (ks : List Int) : ∀ (g g' f : Nat), ks.length ≤ f + g → ks.length ≤ f + g' → runsF ks g f = runsF ks g' f := by
  intro g
  induction g with
  | zero =>
    intro g' f h1 h2
    cases g' with
    | zero => rfl
    | succ g' => simp only [runsF]; rw [if_neg (by omega)]
  | succ g ih =>
    intro g' f h1 h2
    cases g' with
    | zero => simp only [runsF]; rw [if_neg (by omega)]
    | succ g' =>
      simp only [runsF]
      by_cases hf : f < ks.length
      · rw [if_pos hf, if_pos hf]
        have := runEnd_bound hf
        rw [ih g' (runEnd ks f) (by omega) (by omega)]
      · rw [if_neg hf, if_neg hf]
theorem runsFrom_step {ks : List Int} {f : Nat} (h : f < ks.length) : runsFrom ks f = ((f : Int), ((runEnd ks f : Nat) : Int) - (f : Int)) :: runsFrom ks (runEnd ks f) := by
  unfold runsFrom
  rw [show ks.length - f = (ks.length - (f + 1)) + 1 from by omega]
  simp only [runsF]
  rw [if_pos h]
  have := runEnd_bound h
  rw [runsF_fuel ks (ks.length - (f + 1)) (ks.length - runEnd ks f) _ (by omega) (by omega)]
theorem runsFrom_end {ks : List Int} {f : Nat} (h : ks.length ≤ f) : runsFrom ks f = [] := by
  unfold runsFrom; rw [show ks.length - f = 0 from by omega]; rfl

theorem Try.infoRun : (Try.prog.info? 39).map (fun i => (i.zero, i.size, i.bytes)) = some (some (.agg #[.int .i64 0, .int .i64 0]), 2, 16) := by kernel_rfl
theorem slRun : SlT Try.prog 31 39 (.agg #[.int .i64 0, .int .i64 0]) 2 16 := ⟨Try.underlying31, info_parts Try.infoRun, rfl, by decide, by decide⟩

theorem dn_at {rs : List (Int × Int)} {m : Nat} (h : m + 1 < rs.length) : dn (keysL rs) (m + 1) = decide ((rs.getD (m + 1) (0, 0)).1 < (rs.getD m (0, 0)).1) := by
  simp [dn, keysL, List.getD, show m < rs.length by omega, h]

set_option maxRecDepth 100000 in
set_option maxHeartbeats 4000000 in
theorem implNaturalRuns0_any (a : Option Addr) (cap : Nat) (zs : List (Int × Int)) (w : World) (hl : zs.length ≤ 64) (h : RecsAt w a zs) :
    Calls Try.prog 13 #[.slice a zs.length cap] w fun e w' => ∃ (a' : Option Addr) (c' : Nat), e = .returned (.slice a' (runsFrom (keysL zs) 0).length c') ∧ w'.ownsRow w.heap.size 39 2 (.slice a' (runsFrom (keysL zs) 0).length c') (runsFrom (keysL zs) 0).length (flat encR (runsFrom (keysL zs) 0)) ∧ Below w.heap.size w w' := by
  have H := Lib.hid h; clear h
  have E1 := Lib.hid (own_lit (w := w) (e := 39) (size := 2) #[] 0 (by omega) rfl)
  have HKL := Lib.hid (keysL_len zs)
  go_enter Try.func13, Try.ntmps13
  go_wp2
  go_loopw [3, 4, 5] (fun v i _ wr => ∃ (f : Nat) (acc : List (Int × Int)), i = .int .i64 f ∧ f ≤ zs.length ∧ acc.length ≤ f ∧ acc ++ runsFrom (keysL zs) f = runsFrom (keysL zs) 0 ∧ wr.ownsRow w.heap.size 39 2 v acc.length (flat encR acc) ∧ Below w.heap.size w wr) (fun _ i _ _ => zs.length - (intOf i).toNat)
  case atStart => exact ⟨0, [], rfl, by omega, by simp, rfl, E1.out, (Below.refl _ _).alloc (Nat.le_refl _) _⟩
  case round =>
    obtain ⟨f, acc, rfl, hf, hacc, hrun, hown, hb⟩ := hrel
    clear E1
    have HO := Lib.hid hown; clear hown
    have HB := Lib.hid hb; clear hb
    have HRUN := Lib.hid hrun; clear hrun
    by_cases hlt : f < zs.length
    case neg =>
      have HE : Hid (acc = runsFrom (keysL zs) 0) := by
        have := HRUN.out
        rw [runsFrom_end (by rw [HKL.out]; omega), List.append_nil] at this
        exact this
      obtain ⟨a', c', hv⟩ := own_slice HO.out
      rw [hv] at HO
      rw [hv]
      clear hv
      go_wp2
      go_ret
      exact ⟨a', c', by rw [HE.out]; rfl, by rw [← HE.out]; exact HO.out, HB.out⟩
    obtain ⟨b, off, rfl, hf1, hf2⟩ := (H.out.below (Nat.le_refl _) HB.out).at hlt
    by_cases hd : isDn (keysL zs) f = true
    · have HDN := Lib.hid hd
      have h1 : f + 1 < zs.length := by simp only [isDn, Bool.and_eq_true, decide_eq_true_eq] at hd; rw [HKL.out] at hd; exact hd.1
      have h2 : dn (keysL zs) (f + 1) = true := by simp only [isDn, Bool.and_eq_true] at hd; exact hd.2
      rw [dn_at h1] at h2
      obtain ⟨b', off', e1, hg1, hg2⟩ := (H.out.below (Nat.le_refl _) HB.out).at h1
      simp only [Option.some.injEq, Addr.mk.injEq, and_true] at e1
      obtain ⟨rfl, rfl⟩ := e1
      clear hd
      generalize (zs.getD f (0, 0)).1 = x at hf1 h2
      generalize (zs.getD (f + 1) (0, 0)).1 = y at hg1 h2
      have hyx : decide (y < x) = true := by simpa using h2
      have h3 : decide ((f : Int) + 1 < (zs.length : Int)) = true := by simp; omega
      go_wp2_with fail
      go_quiet (fail)
      go_wp2
      clear hf1 hf2 hg1 hg2 hyx h2 h3
      have HB1 := Lib.hid (below_drewN HB.out nq)
      have HO1 : Hid ((wr.drewN nq).ownsRow w.heap.size 39 2 u3 acc.length (flat encR acc)) := HO.out
      generalize wr.drewN nq = wr1 at HB1 HO1 ⊢
      go_loopw [5] (fun t wr2 => ∃ t' : Nat, t = .int .i64 t' ∧ f + 1 ≤ t' ∧ t' ≤ zs.length ∧ scanTo (dn (keysL zs)) (keysL zs).length t' = scanTo (dn (keysL zs)) (keysL zs).length (f + 1) ∧ Below wr1.heap.size wr1 wr2) (fun t _ => zs.length - (intOf t).toNat)
      case atStart => exact ⟨f + 1, by go_num, by omega, by omega, rfl, Below.refl _ _⟩
      case round =>
        obtain ⟨t, rfl, htf, htn, hscan, hb2⟩ := hrel
        have HT := Lib.hid hscan; clear hscan
        have HB2 := Lib.hid (HB1.out.trans (hb2.mono HB1.out.size))
        have HO2 := Lib.hid (own_below HO1.out (Nat.le_refl _) hb2)
        have HB12 := Lib.hid hb2; clear hb2
        obtain ⟨m, rfl⟩ : ∃ m, t = m + 1 := ⟨t - 1, by omega⟩
        have hcast : ((m + 1 : Nat) : Int) = (m : Int) + 1 := by omega
        have HEND : ((keysL zs).length ≤ m + 1 ∨ (dn (keysL zs)) (m + 1) = false) → runEnd (keysL zs) f = m + 1 := fun hs => by rw [runEnd, if_pos HDN.out, ← HT.out]; exact scanTo_stop hs
        have HENDH := Lib.hid HEND; clear HEND
        have HFIN : Hid (runEnd (keysL zs) f = m + 1 → acc ++ [((f : Int), (m : Int) + 1 - (f : Int))] ++ runsFrom (keysL zs) (m + 1) = runsFrom (keysL zs) 0) := fun he => by
          rw [← HRUN.out, runsFrom_step (ks := keysL zs) (f := f) (by rw [HKL.out]; exact hlt), he, List.append_assoc, hcast]; rfl
        have hn40 : acc.length + 1 ≤ 1099511627776 := by omega
        by_cases ht1 : m + 1 < zs.length
        · obtain ⟨b', off', e1, hg1, hg2⟩ := (H.out.below (Nat.le_refl _) HB2.out).at ht1
          simp only [Option.some.injEq, Addr.mk.injEq, and_true] at e1
          obtain ⟨rfl, rfl⟩ := e1
          obtain ⟨b', off', e1, hm1, hm2⟩ := (H.out.below (Nat.le_refl _) HB2.out).at (show m < zs.length by omega)
          simp only [Option.some.injEq, Addr.mk.injEq, and_true] at e1
          obtain ⟨rfl, rfl⟩ := e1
          have HD := Lib.hid (dn_at ht1)
          have h3 : decide ((m : Int) + 1 < (zs.length : Int)) = true := by simp; omega
          generalize (zs.getD m (0, 0)).1 = x at hm1 HD
          generalize (zs.getD (m + 1) (0, 0)).1 = y at hg1 HD
          by_cases hyx : y < x
          · have hz : decide (y < x) = true := by simpa using hyx
            have hz2 : decide (x ≤ y) = false := by simp; omega
            have HC : Hid ((dn (keysL zs)) (m + 1) = true) := by show _ = true; simp only [HD.out]; simp; omega
            have HST := Lib.hid (scanTo_step (q := dn (keysL zs)) (n := (keysL zs).length) (t := m + 1) (by rw [HKL.out]; exact ht1) HC.out)
            rw [hcast]
            go_wp2_with fail
            go_quiet (fail)
            go_wp2
            go_roundw
            case rel => exact ⟨m + 2, by go_num, by omega, by omega, by rw [← HT.out, HST.out], below_drewN HB12.out _⟩
            case measure => simp [intOf]; omega
          · have hz : decide (y < x) = false := by simpa using hyx
            have hz2 : decide (x ≤ y) = true := by simp; omega
            have HSTOP : Hid ((keysL zs).length ≤ m + 1 ∨ (dn (keysL zs)) (m + 1) = false) := .inr (by simp only [HD.out]; simp; omega)
            have hbs := HB2.out.size
            rw [hcast]
            go_wp2_with fail
            go_quiet (fail)
            have HB3 := Lib.hid (below_drewN HB2.out nq)
            have HO3 : Hid ((wr.drewN nq).ownsRow w.heap.size 39 2 u3 acc.length (flat encR acc)) := HO2.out
            have hbs3 : w.heap.size ≤ (wr.drewN nq).heap.size := hbs
            go_wp2_with (at_builtin; refine wpList_app1 slRun rfl (.tmp 70) (.tmp 76) rfl rfl HO3.out [.int .i64 f, .int .i64 ((m : Int) + 1 - (f : Int))] rfl rfl (by simp) (by simp [Value.oneCell']) hn40 hbs3 ?_; intro v' w5 hown' hg' ht)
            have HO5 := Lib.hid hown'
            have HB5 := Lib.hid (below_app HB3.out hbs3 HO3.out (Nat.le_refl _) hg')
            clear hown' hg' ht hbs hbs3
            go_roundw
            case rel => exact ⟨m + 1, acc ++ [((f : Int), (m : Int) + 1 - (f : Int))], by go_num, by omega, by simp; omega, HFIN.out (HENDH.out HSTOP.out), by rw [List.length_append, flat_append]; exact HO5.out, HB5.out⟩
            case measure => simp [intOf]; omega
        · have h3 : decide ((m : Int) + 1 < (zs.length : Int)) = false := by simp; omega
          have HSTOP : Hid ((keysL zs).length ≤ m + 1 ∨ (dn (keysL zs)) (m + 1) = false) := .inl (by rw [HKL.out]; omega)
          have hbs := HB2.out.size
          rw [hcast]
          go_wp2_with fail
          go_quiet (fail)
          have HB3 := Lib.hid (below_drewN HB2.out nq)
          have HO3 : Hid ((wr.drewN nq).ownsRow w.heap.size 39 2 u3 acc.length (flat encR acc)) := HO2.out
          have hbs3 : w.heap.size ≤ (wr.drewN nq).heap.size := hbs
          go_wp2_with (at_builtin; refine wpList_app1 slRun rfl (.tmp 70) (.tmp 76) rfl rfl HO3.out [.int .i64 f, .int .i64 ((m : Int) + 1 - (f : Int))] rfl rfl (by simp) (by simp [Value.oneCell']) hn40 hbs3 ?_; intro v' w5 hown' hg' ht)
          have HO5 := Lib.hid hown'
          have HB5 := Lib.hid (below_app HB3.out hbs3 HO3.out (Nat.le_refl _) hg')
          clear hown' hg' ht hbs hbs3
          go_roundw
          case rel => exact ⟨m + 1, acc ++ [((f : Int), (m : Int) + 1 - (f : Int))], by go_num, by omega, by simp; omega, HFIN.out (HENDH.out HSTOP.out), by rw [List.length_append, flat_append]; exact HO5.out, HB5.out⟩
          case measure => simp [intOf]; omega
    · have hd' : isDn (keysL zs) f = false := by simpa using hd
      have HDN := Lib.hid hd'; clear hd'
      have HIF : Hid (¬ (isDn (keysL zs) f = true)) := hd
      by_cases h1 : f + 1 < zs.length
      · have h2 : dn (keysL zs) (f + 1) = false := by simp only [isDn, Bool.and_eq_true, decide_eq_true_eq, not_and] at hd; rw [HKL.out] at hd; simpa using hd h1
        rw [dn_at h1] at h2
        obtain ⟨b', off', e1, hg1, hg2⟩ := (H.out.below (Nat.le_refl _) HB.out).at h1
        simp only [Option.some.injEq, Addr.mk.injEq, and_true] at e1
        obtain ⟨rfl, rfl⟩ := e1
        clear hd
        generalize (zs.getD f (0, 0)).1 = x at hf1 h2
        generalize (zs.getD (f + 1) (0, 0)).1 = y at hg1 h2
        have h3 : decide ((f : Int) + 1 < (zs.length : Int)) = true := by simp; omega
        go_wp2_with fail
        go_quiet (fail)
        go_wp2
        clear hf1 hf2 hg1 hg2 h2 h3
        have HB1 := Lib.hid (below_drewN HB.out nq)
        have HO1 : Hid ((wr.drewN nq).ownsRow w.heap.size 39 2 u3 acc.length (flat encR acc)) := HO.out
        generalize wr.drewN nq = wr1 at HB1 HO1 ⊢
        go_loopw [5] (fun t wr2 => ∃ t' : Nat, t = .int .i64 t' ∧ f + 1 ≤ t' ∧ t' ≤ zs.length ∧ scanTo (fun t => !dn (keysL zs) t) (keysL zs).length t' = scanTo (fun t => !dn (keysL zs) t) (keysL zs).length (f + 1) ∧ Below wr1.heap.size wr1 wr2) (fun t _ => zs.length - (intOf t).toNat)
        case atStart => exact ⟨f + 1, by go_num, by omega, by omega, rfl, Below.refl _ _⟩
        case round =>
          obtain ⟨t, rfl, htf, htn, hscan, hb2⟩ := hrel
          have HT := Lib.hid hscan; clear hscan
          have HB2 := Lib.hid (HB1.out.trans (hb2.mono HB1.out.size))
          have HO2 := Lib.hid (own_below HO1.out (Nat.le_refl _) hb2)
          have HB12 := Lib.hid hb2; clear hb2
          obtain ⟨m, rfl⟩ : ∃ m, t = m + 1 := ⟨t - 1, by omega⟩
          have hcast : ((m + 1 : Nat) : Int) = (m : Int) + 1 := by omega
          have HEND : ((keysL zs).length ≤ m + 1 ∨ (fun t => !dn (keysL zs) t) (m + 1) = false) → runEnd (keysL zs) f = m + 1 := fun hs => by rw [runEnd, if_neg HIF.out, ← HT.out]; exact scanTo_stop hs
          have HENDH := Lib.hid HEND; clear HEND
          have HFIN : Hid (runEnd (keysL zs) f = m + 1 → acc ++ [((f : Int), (m : Int) + 1 - (f : Int))] ++ runsFrom (keysL zs) (m + 1) = runsFrom (keysL zs) 0) := fun he => by
            rw [← HRUN.out, runsFrom_step (ks := keysL zs) (f := f) (by rw [HKL.out]; exact hlt), he, List.append_assoc, hcast]; rfl
          have hn40 : acc.length + 1 ≤ 1099511627776 := by omega
          by_cases ht1 : m + 1 < zs.length
          · obtain ⟨b', off', e1, hg1, hg2⟩ := (H.out.below (Nat.le_refl _) HB2.out).at ht1
            simp only [Option.some.injEq, Addr.mk.injEq, and_true] at e1
            obtain ⟨rfl, rfl⟩ := e1
            obtain ⟨b', off', e1, hm1, hm2⟩ := (H.out.below (Nat.le_refl _) HB2.out).at (show m < zs.length by omega)
            simp only [Option.some.injEq, Addr.mk.injEq, and_true] at e1
            obtain ⟨rfl, rfl⟩ := e1
            have HD := Lib.hid (dn_at ht1)
            have h3 : decide ((m : Int) + 1 < (zs.length : Int)) = true := by simp; omega
            generalize (zs.getD m (0, 0)).1 = x at hm1 HD
            generalize (zs.getD (m + 1) (0, 0)).1 = y at hg1 HD
            by_cases hyx : y < x
            · have hz : decide (y < x) = true := by simpa using hyx
              have hz2 : decide (x ≤ y) = false := by simp; omega
              have HSTOP : Hid ((keysL zs).length ≤ m + 1 ∨ (fun t => !dn (keysL zs) t) (m + 1) = false) := .inr (by simp only [HD.out]; simp; omega)
              have hbs := HB2.out.size
              rw [hcast]
              go_wp2_with fail
              go_quiet (fail)
              have HB3 := Lib.hid (below_drewN HB2.out nq)
              have HO3 : Hid ((wr.drewN nq).ownsRow w.heap.size 39 2 u3 acc.length (flat encR acc)) := HO2.out
              have hbs3 : w.heap.size ≤ (wr.drewN nq).heap.size := hbs
              go_wp2_with (at_builtin; refine wpList_app1 slRun rfl (.tmp 70) (.tmp 76) rfl rfl HO3.out [.int .i64 f, .int .i64 ((m : Int) + 1 - (f : Int))] rfl rfl (by simp) (by simp [Value.oneCell']) hn40 hbs3 ?_; intro v' w5 hown' hg' ht)
              have HO5 := Lib.hid hown'
              have HB5 := Lib.hid (below_app HB3.out hbs3 HO3.out (Nat.le_refl _) hg')
              clear hown' hg' ht hbs hbs3
              go_roundw
              case rel => exact ⟨m + 1, acc ++ [((f : Int), (m : Int) + 1 - (f : Int))], by go_num, by omega, by simp; omega, HFIN.out (HENDH.out HSTOP.out), by rw [List.length_append, flat_append]; exact HO5.out, HB5.out⟩
              case measure => simp [intOf]; omega
            · have hz : decide (y < x) = false := by simpa using hyx
              have hz2 : decide (x ≤ y) = true := by simp; omega
              have HC : Hid ((fun t => !dn (keysL zs) t) (m + 1) = true) := by show _ = true; simp only [HD.out]; simp; omega
              have HST := Lib.hid (scanTo_step (q := fun t => !dn (keysL zs) t) (n := (keysL zs).length) (t := m + 1) (by rw [HKL.out]; exact ht1) HC.out)
              rw [hcast]
              go_wp2_with fail
              go_quiet (fail)
              go_wp2
              go_roundw
              case rel => exact ⟨m + 2, by go_num, by omega, by omega, by rw [← HT.out, HST.out], below_drewN HB12.out _⟩
              case measure => simp [intOf]; omega
          · have h3 : decide ((m : Int) + 1 < (zs.length : Int)) = false := by simp; omega
            have HSTOP : Hid ((keysL zs).length ≤ m + 1 ∨ (fun t => !dn (keysL zs) t) (m + 1) = false) := .inl (by rw [HKL.out]; omega)
            have hbs := HB2.out.size
            rw [hcast]
            go_wp2_with fail
            go_quiet (fail)
            have HB3 := Lib.hid (below_drewN HB2.out nq)
            have HO3 : Hid ((wr.drewN nq).ownsRow w.heap.size 39 2 u3 acc.length (flat encR acc)) := HO2.out
            have hbs3 : w.heap.size ≤ (wr.drewN nq).heap.size := hbs
            go_wp2_with (at_builtin; refine wpList_app1 slRun rfl (.tmp 70) (.tmp 76) rfl rfl HO3.out [.int .i64 f, .int .i64 ((m : Int) + 1 - (f : Int))] rfl rfl (by simp) (by simp [Value.oneCell']) hn40 hbs3 ?_; intro v' w5 hown' hg' ht)
            have HO5 := Lib.hid hown'
            have HB5 := Lib.hid (below_app HB3.out hbs3 HO3.out (Nat.le_refl _) hg')
            clear hown' hg' ht hbs hbs3
            go_roundw
            case rel => exact ⟨m + 1, acc ++ [((f : Int), (m : Int) + 1 - (f : Int))], by go_num, by omega, by simp; omega, HFIN.out (HENDH.out HSTOP.out), by rw [List.length_append, flat_append]; exact HO5.out, HB5.out⟩
            case measure => simp [intOf]; omega
      · have h3 : decide ((f : Int) + 1 < (zs.length : Int)) = false := by simp; omega
        clear hd
        go_wp2_with fail
        go_quiet (fail)
        go_wp2
        clear hf1 hf2 h3
        have HB1 := Lib.hid (below_drewN HB.out nq)
        have HO1 : Hid ((wr.drewN nq).ownsRow w.heap.size 39 2 u3 acc.length (flat encR acc)) := HO.out
        generalize wr.drewN nq = wr1 at HB1 HO1 ⊢
        go_loopw [5] (fun t wr2 => ∃ t' : Nat, t = .int .i64 t' ∧ f + 1 ≤ t' ∧ t' ≤ zs.length ∧ scanTo (fun t => !dn (keysL zs) t) (keysL zs).length t' = scanTo (fun t => !dn (keysL zs) t) (keysL zs).length (f + 1) ∧ Below wr1.heap.size wr1 wr2) (fun t _ => zs.length - (intOf t).toNat)
        case atStart => exact ⟨f + 1, by go_num, by omega, by omega, rfl, Below.refl _ _⟩
        case round =>
          obtain ⟨t, rfl, htf, htn, hscan, hb2⟩ := hrel
          have HT := Lib.hid hscan; clear hscan
          have HB2 := Lib.hid (HB1.out.trans (hb2.mono HB1.out.size))
          have HO2 := Lib.hid (own_below HO1.out (Nat.le_refl _) hb2)
          have HB12 := Lib.hid hb2; clear hb2
          obtain ⟨m, rfl⟩ : ∃ m, t = m + 1 := ⟨t - 1, by omega⟩
          have hcast : ((m + 1 : Nat) : Int) = (m : Int) + 1 := by omega
          have HEND : ((keysL zs).length ≤ m + 1 ∨ (fun t => !dn (keysL zs) t) (m + 1) = false) → runEnd (keysL zs) f = m + 1 := fun hs => by rw [runEnd, if_neg HIF.out, ← HT.out]; exact scanTo_stop hs
          have HENDH := Lib.hid HEND; clear HEND
          have HFIN : Hid (runEnd (keysL zs) f = m + 1 → acc ++ [((f : Int), (m : Int) + 1 - (f : Int))] ++ runsFrom (keysL zs) (m + 1) = runsFrom (keysL zs) 0) := fun he => by
            rw [← HRUN.out, runsFrom_step (ks := keysL zs) (f := f) (by rw [HKL.out]; exact hlt), he, List.append_assoc, hcast]; rfl
          have hn40 : acc.length + 1 ≤ 1099511627776 := by omega
          by_cases ht1 : m + 1 < zs.length
          · omega
          · have h3 : decide ((m : Int) + 1 < (zs.length : Int)) = false := by simp; omega
            have HSTOP : Hid ((keysL zs).length ≤ m + 1 ∨ (fun t => !dn (keysL zs) t) (m + 1) = false) := .inl (by rw [HKL.out]; omega)
            have hbs := HB2.out.size
            rw [hcast]
            go_wp2_with fail
            go_quiet (fail)
            have HB3 := Lib.hid (below_drewN HB2.out nq)
            have HO3 : Hid ((wr.drewN nq).ownsRow w.heap.size 39 2 u3 acc.length (flat encR acc)) := HO2.out
            have hbs3 : w.heap.size ≤ (wr.drewN nq).heap.size := hbs
            go_wp2_with (at_builtin; refine wpList_app1 slRun rfl (.tmp 70) (.tmp 76) rfl rfl HO3.out [.int .i64 f, .int .i64 ((m : Int) + 1 - (f : Int))] rfl rfl (by simp) (by simp [Value.oneCell']) hn40 hbs3 ?_; intro v' w5 hown' hg' ht)
            have HO5 := Lib.hid hown'
            have HB5 := Lib.hid (below_app HB3.out hbs3 HO3.out (Nat.le_refl _) hg')
            clear hown' hg' ht hbs hbs3
            go_roundw
            case rel => exact ⟨m + 1, acc ++ [((f : Int), (m : Int) + 1 - (f : Int))], by go_num, by omega, by simp; omega, HFIN.out (HENDH.out HSTOP.out), by rw [List.length_append, flat_append]; exact HO5.out, HB5.out⟩
            case measure => simp [intOf]; omega

end Go.Proofs.Ythakkkljlpimlaa

/- Plain law: the natural runs of a list, each turned to an ascending part, merge to the stable sort. -/
namespace Go.Proofs.Ythakkkljlpimlaa
open Go.RowKit Go.Sort
set_option linter.unusedVariables false

/-- A run, ascending. -/
def prt (p : List (Int × Int)) : List (Int × Int) := if 1 < p.length ∧ (p.getD 1 (0, 0)).1 < (p.getD 0 (0, 0)).1 then p.reverse else p
theorem prt_len (p : List (Int × Int)) : (prt p).length = p.length := by unfold prt; split <;> simp
def cutL (rs : List (Int × Int)) (f e : Nat) : List (Int × Int) := (rs.drop f).take (e - f)
theorem cutL_len {rs : List (Int × Int)} {f e : Nat} (he : e ≤ rs.length) : (cutL rs f e).length = e - f := by unfold cutL; rw [List.length_take, List.length_drop]; omega
theorem cutL_at {rs : List (Int × Int)} {f e i : Nat} (h : i < e - f) : (cutL rs f e).getD i (0, 0) = rs.getD (f + i) (0, 0) := by
  unfold cutL
  simp only [List.getD_eq_getElem?_getD, List.getElem?_take, List.getElem?_drop, if_pos h]

theorem srt_desc (p : List (Int × Int)) (h : p.Pairwise fun a b => b.1 < a.1) : Mg.srt ltR p = p.reverse := by
  refine Mg.list_snoc (P := fun p => p.Pairwise (fun a b => b.1 < a.1) → Mg.srt ltR p = p.reverse) (fun _ => rfl) (fun l x ih h => ?_) p h
  rw [List.pairwise_append] at h
  rw [Mg.srt_snoc, Mg.mrg_behind, ih h.1]
  · simp
  · intro a ha b hb
    rw [List.mem_singleton.1 hb]
    rw [Mg.srt_mem] at ha
    have := h.2.2 a ha x (by simp)
    unfold ltR Mg.ltK
    exact decide_eq_true this

theorem run_bound2 {ks : List Int} {f : Nat} (h : f < ks.length) (hd : isDn ks f = true) : f + 2 ≤ runEnd ks f := by
  have h1 : f + 1 < ks.length := by simp only [isDn, Bool.and_eq_true, decide_eq_true_eq] at hd; exact hd.1
  have h2 : dn ks (f + 1) = true := by simp only [isDn, Bool.and_eq_true] at hd; exact hd.2
  have : runEnd ks f = scanTo (dn ks) ks.length (f + 1) := by unfold runEnd; rw [hd]; rfl
  rw [this, scanTo_step h1 h2]
  exact (scanTo_bound _ (by omega)).1
theorem run_all {ks : List Int} {f j : Nat} (h : f < ks.length) (h1 : f + 1 ≤ j) (h2 : j < runEnd ks f) : dn ks j = isDn ks f := by
  cases hd : isDn ks f
  · have hE : runEnd ks f = scanF (fun t => !dn ks t) (ks.length - (f + 1)) (f + 1) := by unfold runEnd; rw [hd]; rfl
    rw [hE] at h2
    have := scanF_all _ _ _ j h1 h2
    simpa using this
  · have hE : runEnd ks f = scanF (dn ks) (ks.length - (f + 1)) (f + 1) := by unfold runEnd; rw [hd]; rfl
    rw [hE] at h2
    exact scanF_all _ _ _ j h1 h2

theorem prt_run {rs : List (Int × Int)} {f : Nat} (h : f < rs.length) : prt (cutL rs f (runEnd (keysL rs) f)) = Mg.srt ltR (cutL rs f (runEnd (keysL rs) f)) := by
  have hk : (keysL rs).length = rs.length := keysL_len rs
  have hb := runEnd_bound (ks := keysL rs) (f := f) (by omega)
  obtain ⟨e, he⟩ : ∃ e, runEnd (keysL rs) f = e := ⟨_, rfl⟩
  rw [he] at hb ⊢
  rw [hk] at hb
  have hl := cutL_len (rs := rs) (f := f) (e := e) hb.2
  have hstep : ∀ i, i + 1 < e - f → decide (((cutL rs f e).getD (i + 1) (0, 0)).1 < ((cutL rs f e).getD i (0, 0)).1) = isDn (keysL rs) f := fun i hi => by
    rw [cutL_at hi, cutL_at (by omega), show f + (i + 1) = (f + i) + 1 by omega, ← dn_at (by omega)]
    exact run_all (by omega) (by omega) (by rw [he]; omega)
  cases hd : isDn (keysL rs) f
  · rw [hd] at hstep
    have hA : Mg.Asc ltR (cutL rs f e) := Mg.asc_of_side (Mg.swK Prod.fst) _ fun i hi => by
      have := hstep i (by omega)
      simp only [List.getD_eq_getElem?_getD, List.getElem?_eq_getElem hi, List.getElem?_eq_getElem (show i < (cutL rs f e).length by omega)] at this
      exact this
    rw [Mg.srt_of_asc hA]
    unfold prt
    rw [if_neg]
    rintro ⟨h1, h2⟩
    have := hstep 0 (by omega)
    rw [decide_eq_false_iff_not] at this
    exact this h2
  · rw [hd] at hstep
    have h2 := run_bound2 (by omega) hd
    rw [he] at h2
    have hpw : ∀ (n i j : Nat), j = i + n + 1 → j < e - f → ((cutL rs f e).getD j (0, 0)).1 < ((cutL rs f e).getD i (0, 0)).1 := fun n => by
      induction n with
      | zero => intro i j hj hlt; subst hj; exact of_decide_eq_true (hstep i hlt)
      | succ n ih =>
        intro i j hj hlt
        have g1 := ih i (j - 1) (by omega) (by omega)
        have g2 := of_decide_eq_true (hstep (j - 1) (by omega))
        rw [show j - 1 + 1 = j by omega] at g2
        omega
    have hD : (cutL rs f e).Pairwise fun a b => b.1 < a.1 := List.pairwise_iff_getElem.2 fun i j hi hj hij => by
      have := hpw (j - i - 1) i j (by omega) (by omega)
      simpa only [List.getD_eq_getElem?_getD, List.getElem?_eq_getElem hi, List.getElem?_eq_getElem hj, Option.getD_some] using this
    rw [srt_desc _ hD]
    unfold prt
    rw [if_pos ⟨by omega, hpw 0 0 1 rfl (by omega)⟩]

def prtL (rs : List (Int × Int)) (x : Int × Int) : List (Int × Int) := prt ((rs.drop x.1.toNat).take x.2.toNat)
/-- The parts of a list. -/
def partsL (rs : List (Int × Int)) : List (List (Int × Int)) := (runsFrom (keysL rs) 0).map (prtL rs)

theorem runs_ok (rs : List (Int × Int)) : ∀ (n f : Nat), rs.length - f = n → f ≤ rs.length →
    (∀ x ∈ runsFrom (keysL rs) f, ∃ a b : Nat, x = ((a : Int), (b : Int)) ∧ 1 ≤ b ∧ a + b ≤ rs.length) ∧
    Ad.jall ltR ((runsFrom (keysL rs) f).map (prtL rs)) = Mg.srt ltR (rs.drop f) ∧ totP ((runsFrom (keysL rs) f).map (prtL rs)) = rs.length - f ∧ (runsFrom (keysL rs) f).length ≤ rs.length - f
  | n, f, hn, hf => by
    have hk : (keysL rs).length = rs.length := keysL_len rs
    by_cases h : f < rs.length
    · have hb := runEnd_bound (ks := keysL rs) (f := f) (by omega)
      have hp := prt_run h
      obtain ⟨e, he⟩ : ∃ e, runEnd (keysL rs) f = e := ⟨_, rfl⟩
      rw [runsFrom_step (by omega : f < (keysL rs).length)]
      rw [he] at hb hp ⊢
      rw [hk] at hb
      obtain ⟨h1, h2, h3, h4⟩ := runs_ok rs (rs.length - e) e rfl hb.2
      have hpl : prtL rs ((f : Int), (e : Int) - (f : Int)) = prt (cutL rs f e) := by
        unfold prtL cutL
        have e1 : ((f : Int), (e : Int) - (f : Int)).1.toNat = f := by simp
        have e2 : ((f : Int), (e : Int) - (f : Int)).2.toNat = e - f := by show ((e : Int) - (f : Int)).toNat = _; omega
        rw [e1, e2]
      refine ⟨fun x hx => ?_, ?_, ?_, ?_⟩
      · rcases List.mem_cons.1 hx with rfl | hx
        · exact ⟨f, e - f, by congr 1; omega, by omega, by omega⟩
        · exact h1 x hx
      · rw [List.map_cons, hpl]
        show Mg.mrg ltR _ (Ad.jall ltR _) = _
        rw [h2, hp, Mg.srt_mrg (Mg.swK Prod.fst)]
        congr 1
        unfold cutL
        have : rs.drop e = (rs.drop f).drop (e - f) := by rw [List.drop_drop]; congr 1; omega
        rw [this, List.take_append_drop]
      · rw [List.map_cons, hpl]
        show (prt (cutL rs f e)).length + totP _ = _
        rw [h3, prt_len, cutL_len hb.2]; omega
      · rw [List.length_cons]; omega
    · rw [runsFrom_end (by omega), List.drop_of_length_le (by omega)]
      exact ⟨(fun x hx => by cases hx), rfl, by show (0 : Nat) = _; omega, Nat.zero_le _⟩
  termination_by n => n
  decreasing_by all_goals omega

theorem parts_ok (rs : List (Int × Int)) : Ad.jall ltR (partsL rs) = Mg.srt ltR rs ∧ totP (partsL rs) = rs.length ∧ (partsL rs).length ≤ rs.length := by
  obtain ⟨_, a, b, c⟩ := runs_ok rs _ 0 rfl (Nat.zero_le _)
  exact ⟨a, b, by unfold partsL; rw [List.length_map]; exact c⟩

end Go.Proofs.Ythakkkljlpimlaa

/- Plain: the bounds of the adaptive merge sort's state. -/
namespace Go.Proofs.Ythakkkljlpimlaa
open Go.RowKit Go.Sort
set_option linter.unusedVariables false

theorem totP_append (a b : List (List (Int × Int))) : totP (a ++ b) = totP a + totP b := by unfold totP; simp
theorem sz_sum (ps : List (List (Int × Int))) : (Ad.sz ps).sum = ((totP ps : Nat) : Int) := by
  unfold Ad.sz totP
  induction ps with
  | nil => rfl
  | cons a t ih => simp only [List.map_cons, List.sum_cons, ih]; omega
theorem sz_nn (ps : List (List (Int × Int))) : ∀ x ∈ Ad.sz ps, 0 ≤ x := fun x hx => by
  unfold Ad.sz at hx
  obtain ⟨p, _, rfl⟩ := List.mem_map.1 hx
  omega
theorem bd_sz {ps : List (List (Int × Int))} (h : totP ps ≤ 1000) : Bd (Ad.sz ps) := ⟨sz_nn ps, by rw [sz_sum]; omega⟩

theorem fol_bound (N : Nat) : ∀ (is : List Nat) (ps : List (List (Int × Int))), totP ps ≤ N → Ad.okI is ps.length → (Ad.fol ltR is ps).2 ≤ N * is.length
  | [], ps, _, _ => Nat.zero_le _
  | k :: t, ps, h, ho => by
    have h1 := fol_bound N t (Ad.jn ltR k ps) (by rw [totP_jn ho.1]; exact h) (by rw [show (Ad.jn ltR k ps).length = ps.length - 1 from by have := Ad.jn_length ltR ho.1; omega]; exact ho.2)
    have h2 := Mg.mcnt_le ltR (ps.getD k []) (ps.getD (k + 1) [])
    have h3 := totP_two ho.1
    show _ + (Ad.fol ltR t _).2 ≤ N * (t.length + 1)
    rw [Nat.mul_add]
    omega

/-- After j pushes. -/
theorem push_info (pl : List (List (Int × Int))) (htp : totP pl ≤ 64) (hpl : pl.length ≤ 64) {j : Nat} (hj : j ≤ pl.length) :
    (Ad.idxs (Ad.sz (pl.take j))).1 = Ad.sz (Ad.pushes ltR (pl.take j)).1 ∧ (Ad.pushes ltR (pl.take j)).1.length + (Ad.idxs (Ad.sz (pl.take j))).2.length = j ∧ totP (Ad.pushes ltR (pl.take j)).1 = totP (pl.take j) ∧
      (Ad.pushes ltR (pl.take j)).2 ≤ 64 * (Ad.idxs (Ad.sz (pl.take j))).2.length := by
  have h1 := Ad.idxs_sz ltR (pl.take j)
  obtain ⟨a, b, c⟩ := idxs_ok (Ad.sz (pl.take j)) (sz_nn _)
  have hl : (pl.take j).length = j := by rw [List.length_take]; omega
  rw [h1] at b c
  rw [Ad.sz_length, Ad.sz_length, hl] at c
  rw [sz_sum, sz_sum] at b
  refine ⟨h1, c, by omega, ?_⟩
  clear h1 a b c hl
  induction j with
  | zero => rw [List.take_zero]; exact Nat.zero_le _
  | succ j ih =>
    have ih := ih (by omega)
    have he : pl.take (j + 1) = pl.take j ++ [pl.getD j []] := by rw [List.take_add_one, List.getD_eq_getElem?_getD, List.getElem?_eq_getElem (by omega)]; rfl
    have h1 := Ad.idxs_sz ltR (pl.take j)
    obtain ⟨f1, f2, f3⟩ := Ad.fol_idx ltR false _ ((Ad.pushes ltR (pl.take j)).1 ++ [pl.getD j []]) rfl
    rw [he, Ad.sz_snoc, Ad.idxs_snoc, Ad.pushes_snoc, h1, ← Ad.sz_snoc, ← f1]
    obtain ⟨a, b, c⟩ := idxs_ok (Ad.sz (pl.take j)) (sz_nn _)
    rw [h1, sz_sum, sz_sum] at b
    have hb : totP ((Ad.pushes ltR (pl.take j)).1 ++ [pl.getD j []]) ≤ 64 := by
      have e1 : totP ((Ad.pushes ltR (pl.take j)).1 ++ [pl.getD j []]) = totP (Ad.pushes ltR (pl.take j)).1 + (pl.getD j []).length := by unfold totP; simp
      have e2 : totP (pl.take (j + 1)) = totP (pl.take j) + (pl.getD j []).length := by rw [he]; unfold totP; simp
      have e3 : totP pl = totP (pl.take (j + 1)) + totP (pl.drop (j + 1)) := by
        have := totP_append (pl.take (j + 1)) (pl.drop (j + 1))
        rwa [List.take_append_drop] at this
      omega
    have h9 := fol_bound 64 _ _ hb f3
    show (Ad.pushes ltR (pl.take j)).2 + _ ≤ 64 * ((Ad.idxs (Ad.sz (pl.take j))).2 ++ _).length
    rw [List.length_append, Nat.mul_add]
    omega

theorem totP_snoc (ps : List (List (Int × Int))) (L : List (Int × Int)) : totP (ps ++ [L]) = totP ps + L.length := by unfold totP; simp
theorem totP_take (pl : List (List (Int × Int))) (j : Nat) : totP (pl.take j) ≤ totP pl := by
  have e3 : totP pl = totP (pl.take j) + totP (pl.drop j) := by
    have := totP_append (pl.take j) (pl.drop j)
    rwa [List.take_append_drop] at this
  omega

end Go.Proofs.Ythakkkljlpimlaa
