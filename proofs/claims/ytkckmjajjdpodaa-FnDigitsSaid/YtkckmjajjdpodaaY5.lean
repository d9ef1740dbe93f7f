/- Several texts in one: lemmas and walks of the functions that the laws reach. -/
import Derived.Test.YtkckmjajjdpodaaY1
import Derived.Test.YtkckmjajjdpodaaY2
import Derived.StillTailTactics
import Derived.BigRegion
import Derived.Deep.RegionHeld3
import Derived.Deep.RegionLaw
import Derived.Test.YtkckmjajjdpodaaY4

/- Plain law: merging and merge sort with the number of comparisons. No program in sight. -/
namespace Go.Proofs.Ytkckmjajjdpodaa.Mg
set_option linter.unusedVariables false
section
variable {α : Type} (lt : α → α → Bool)

/-- The comparisons of a merge. -/
def mcnt : List α → List α → Nat
  | [], _ => 0
  | _ :: _, [] => 0
  | x :: l, y :: r => 1 + if lt y x then mcnt (x :: l) r else mcnt l (y :: r)
termination_by l r => l.length + r.length
theorem mcnt_nil (r : List α) : mcnt lt [] r = 0 := by unfold mcnt; rfl
theorem nil_mcnt (l : List α) : mcnt lt l [] = 0 := by
  cases l with
  | nil => exact mcnt_nil lt []
  | cons x l => unfold mcnt; rfl
theorem mcnt_cons (x : α) (l : List α) (y : α) (r : List α) : mcnt lt (x :: l) (y :: r) = 1 + if lt y x then mcnt lt (x :: l) r else mcnt lt l (y :: r) := by
  conv => lhs; unfold mcnt
theorem mcnt_lt {x : α} {l : List α} {y : α} {r : List α} (h : lt y x = true) : mcnt lt (x :: l) (y :: r) = 1 + mcnt lt (x :: l) r := by rw [mcnt_cons, if_pos h]
theorem mcnt_ge {x : α} {l : List α} {y : α} {r : List α} (h : lt y x = false) : mcnt lt (x :: l) (y :: r) = 1 + mcnt lt l (y :: r) := by rw [mcnt_cons, if_neg (by rw [h]; simp)]
/-- Fewer comparisons than elements, unless there is none. -/
theorem mcnt_bound : ∀ (l r : List α), mcnt lt l r < l.length + r.length ∨ l.length + r.length = 0
  | [], r => by rw [mcnt_nil, List.length_nil]; omega
  | x :: l, [] => by rw [nil_mcnt]; simp
  | x :: l, y :: r => by
    left
    cases h : lt y x
    · rw [mcnt_ge lt h]
      have := mcnt_bound l (y :: r)
      simp at this ⊢; omega
    · rw [mcnt_lt lt h]
      have := mcnt_bound (x :: l) r
      simp at this ⊢; omega
termination_by l r => l.length + r.length
theorem mcnt_le (l r : List α) : mcnt lt l r ≤ l.length + r.length := by
  rcases mcnt_bound lt l r with h | h
  · omega
  · rw [List.eq_nil_of_length_eq_zero (by omega : l.length = 0), mcnt_nil]; omega

/-- Merge sort, and its comparisons. -/
def msF : Nat → List α → List α × Nat
  | 0, l => (l, 0)
  | f + 1, l => if l.length < 2 then (l, 0) else
    let a := msF f (l.take (l.length / 2))
    let b := msF f (l.drop (l.length / 2))
    (mrg lt a.1 b.1, a.2 + b.2 + mcnt lt a.1 b.1)
def ms (l : List α) : List α × Nat := msF lt l.length l
theorem msF_fuel : ∀ (f g : Nat) (l : List α), l.length ≤ f → l.length ≤ g → msF lt f l = msF lt g l
  | 0, 0, l, _, _ => rfl
  | 0, g + 1, l, h, _ => by
    unfold msF; rw [if_pos (by omega)]
  | f + 1, 0, l, _, h => by
    unfold msF; rw [if_pos (by omega)]
  | f + 1, g + 1, l, h1, h2 => by
    unfold msF
    split
    · rfl
    · rw [msF_fuel f g (l.take (l.length / 2)) (by simp; omega) (by simp; omega), msF_fuel f g (l.drop (l.length / 2)) (by simp; omega) (by simp; omega)]
theorem ms_small {l : List α} (h : l.length < 2) : ms lt l = (l, 0) := by
  unfold ms
  rw [msF_fuel lt _ (l.length + 1) l (Nat.le_refl _) (by omega), msF, if_pos h]
theorem ms_big {l : List α} (h : 2 ≤ l.length) : ms lt l = (mrg lt (ms lt (l.take (l.length / 2))).1 (ms lt (l.drop (l.length / 2))).1, (ms lt (l.take (l.length / 2))).2 + (ms lt (l.drop (l.length / 2))).2 + mcnt lt (ms lt (l.take (l.length / 2))).1 (ms lt (l.drop (l.length / 2))).1) := by
  unfold ms
  rw [msF_fuel lt _ (l.length + 1) l (Nat.le_refl _) (by omega), msF, if_neg (by omega)]
  rw [msF_fuel lt l.length (l.take (l.length / 2)).length (l.take (l.length / 2)) (by simp; omega) (Nat.le_refl _), msF_fuel lt l.length (l.drop (l.length / 2)).length (l.drop (l.length / 2)) (by simp) (Nat.le_refl _)]
variable {lt}
theorem ms_srt (S : SW lt) : ∀ (n : Nat) (l : List α), l.length ≤ n → (ms lt l).1 = srt lt l
  | 0, l, h => by
    rw [ms_small lt (by omega), List.eq_nil_of_length_eq_zero (by omega : l.length = 0)]; rfl
  | n + 1, l, h => by
    rcases Nat.lt_or_ge l.length 2 with h2 | h2
    · rw [ms_small lt h2]
      match l, h2 with
      | [], _ => rfl
      | [x], _ => exact (srt_one x).symm
    · rw [ms_big lt h2, ms_srt S n (l.take (l.length / 2)) (by simp; omega), ms_srt S n (l.drop (l.length / 2)) (by simp; omega), srt_mrg S, List.take_append_drop]
theorem ms_bound (S : SW lt) : ∀ (k : Nat) (l : List α), l.length ≤ 2 ^ k → (ms lt l).2 ≤ k * l.length
  | 0, l, h => by
    rw [ms_small lt (by simp at h; omega)]; simp
  | k + 1, l, h => by
    rcases Nat.lt_or_ge l.length 2 with h2 | h2
    · rw [ms_small lt h2]; simp
    · rw [ms_big lt h2]
      have hp : 2 ^ (k + 1) = 2 * 2 ^ k := by rw [Nat.pow_succ]; omega
      have h1 := ms_bound S k (l.take (l.length / 2)) (by simp; omega)
      have h3 := ms_bound S k (l.drop (l.length / 2)) (by simp; omega)
      have h4 := mcnt_le lt (ms lt (l.take (l.length / 2))).1 (ms lt (l.drop (l.length / 2))).1
      rw [ms_srt S _ _ (Nat.le_refl _), ms_srt S _ _ (Nat.le_refl _), srt_length, srt_length] at h4
      rw [List.length_take, Nat.min_eq_left (by omega)] at h1 h4
      rw [List.length_drop] at h3 h4
      have e1 : k * (l.length / 2) + k * (l.length - l.length / 2) = k * l.length := by rw [← Nat.mul_add]; congr 1; omega
      rw [ms_srt S _ _ (Nat.le_refl _), ms_srt S _ _ (Nat.le_refl _)]
      rw [Nat.add_mul, Nat.one_mul]
      show (ms lt (l.take (l.length / 2))).2 + (ms lt (l.drop (l.length / 2))).2 + mcnt lt _ _ ≤ _
      omega
end
end Go.Proofs.Ytkckmjajjdpodaa.Mg

/- Walks: the merge of two record lists: the reference's. -/
namespace Go.Proofs.Ytkckmjajjdpodaa
open Go.RowKit Go.Sort
set_option linter.unusedVariables false

/-- The comparison by keys. -/
abbrev ltR : Int × Int → Int × Int → Bool := Mg.ltK Prod.fst

/-- What a merge gives back. -/
def MergeEnd (w : World) (L R : List (Int × Int)) (n : Nat) (e : Ending) (w' : World) : Prop :=
  ∃ (g c : Nat), e = .returned (.tuple #[.slice (some ⟨g, 0, none⟩) n c, .int .i64 ((Mg.mcnt ltR L R : Nat) : Int)]) ∧ w'.ownsRow w.heap.size 72 2 (.slice (some ⟨g, 0, none⟩) n c) n (flat encR (Mg.mrg ltR L R)) ∧ Below w.heap.size w w'

def lenV : Value → Nat | .slice _ n _ => n | _ => 0

set_option maxRecDepth 100000 in
set_option maxHeartbeats 8000000 in
theorem l5Merge_any (a b : Option Addr) (ca cb n m : Nat) (L R : List (Int × Int)) (w : World) (hn : L.length = n) (hm : R.length = m) (hl : n + m ≤ 1000) (hL : RecsAt w a L) (hR : RecsAt w b R) (ha : NilOk a ca) (hb : NilOk b cb) (hca : n ≤ ca) (hcb : m ≤ cb) :
    Calls Try.prog 135 #[.slice a n ca, .slice b m cb] w (MergeEnd w L R (n + m)) := by
  have E0 := Lib.hid (own_lit (w := w) (e := 72) (size := 2) #[] 0 (by omega) rfl)
  have HB0 := Lib.hid (show Below w.heap.size w (w.alloc (.cells #[] 72)) from (Below.refl _ _).alloc (Nat.le_refl _) _)
  have HL0 := Lib.hid hL; have HR0 := Lib.hid hR
  have HA0 := Lib.hid ha; have HBB0 := Lib.hid hb
  have HN := Lib.hid hn; have HM := Lib.hid hm
  clear hL hR ha hb hn hm
  unfold MergeEnd
  go_enter Try.func135, Try.ntmps135
  go_wp2
  go_loopw [0, 1, 6, 7] (fun x y o k wr => ∃ (xa xb : Option Addr) (i j da db t q : Nat) (A B O : List (Int × Int)), x = .slice xa i da ∧ y = .slice xb j db ∧ k = .int .i64 q ∧ wr.ownsRow w.heap.size 72 2 o t (flat encR O) ∧ Below w.heap.size w wr ∧
      o.ownBlock ≠ none ∧ Hid (A.length = i) ∧ Hid (B.length = j) ∧ t + i + j = n + m ∧ q ≤ t ∧ i ≤ da ∧ j ≤ db ∧ Hid (O ++ Mg.mrg ltR A B = Mg.mrg ltR L R) ∧ Hid (q + Mg.mcnt ltR A B = Mg.mcnt ltR L R) ∧ Hid (RecsAt w xa A) ∧ Hid (RecsAt w xb B) ∧ Hid (NilOk xa da) ∧ Hid (NilOk xb db)) (fun x y _ _ _ => lenV x + lenV y)
  case atStart => exact ⟨a, b, n, m, ca, cb, 0, 0, L, R, [], rfl, rfl, rfl, E0.out, HB0.out, by simp [Value.ownBlock], HN, HM, by omega, by omega, hca, hcb, Lib.hid rfl, Lib.hid (by omega), HL0, HR0, HA0, HBB0⟩
  case round =>
    obtain ⟨xa, xb, i, j, da, db, t, q, A, B, O, rfl, rfl, rfl, hown, hb, hob, HAl, HBl, htm, hq, hida, hjdb, HMG, HCT, HRA, HRB, HNA, HNB⟩ := hrel
    obtain ⟨oa, oc, rfl⟩ := own_slice hown
    have HO := Lib.hid hown; have HB := Lib.hid hb; have HOB := Lib.hid hob
    clear hown hb hob E0 HB0
    have hbs := HB.out.size
    by_cases hij : 0 < i ∧ 0 < j
    case neg =>
      have HF : Hid (O ++ A ++ B = Mg.mrg ltR L R) := by
        show _ = _
        rw [← HMG.out, List.append_assoc]
        rcases Nat.eq_zero_or_pos i with h | h
        · have : A = [] := List.eq_nil_of_length_eq_zero (by rw [HAl.out]; exact h)
          subst this; rw [Mg.mrg_nil]; rfl
        · have : B = [] := List.eq_nil_of_length_eq_zero (by rw [HBl.out]; omega)
          subst this; rw [Mg.nil_mrg, List.append_nil]
      have HC9 : Hid (q = Mg.mcnt ltR L R) := by
        show _ = _
        rw [← HCT.out]
        rcases Nat.eq_zero_or_pos i with h | h
        · have : A = [] := List.eq_nil_of_length_eq_zero (by rw [HAl.out]; exact h)
          subst this; rw [Mg.mcnt_nil]; rfl
        · have : B = [] := List.eq_nil_of_length_eq_zero (by rw [HBl.out]; omega)
          subst this; rw [Mg.nil_mcnt]; rfl
      have HRA2 := Lib.hid (HRA.out.below (Nat.le_refl _) HB.out)
      by_cases hi : 0 < i
      · have q1 : decide (0 < (i : Int)) = true := decide_eq_true (by omega)
        have q2 : decide (0 < (j : Int)) = false := decide_eq_false (by omega)
        go_wp2_with (first | (at_builtin; refine wpList_appR slRec rfl _ _ rfl rfl HO.out rfl HRA2.out HAl.out HNA.out (by omega) hbs ?_; intro v' w2 hown2 hg2 ht2; obtain ⟨a', c, rfl⟩ := own_slice hown2; have HO3 := Lib.hid hown2; have HB3 := Lib.hid (below_app HB.out hbs HO.out (Nat.le_refl _) hg2); have HT3 := Lib.hid ht2; clear hown2 hg2 ht2; have hbs3 := HB3.out.size; have HRB3 := Lib.hid (HRB.out.below (Nat.le_refl _) HB3.out)) | (at_builtin; refine wpList_appR slRec rfl _ _ rfl rfl HO3.out rfl HRB3.out HBl.out HNB.out (by omega) hbs3 ?_; intro v' w4 hown2 hg2 ht2; obtain ⟨a4, c4, rfl⟩ := own_slice hown2; have HO4 := Lib.hid hown2; have HB4 := Lib.hid (below_app HB3.out hbs3 HO3.out (Nat.le_refl _) hg2); have HT4 := Lib.hid ht2; clear hown2 hg2 ht2))
        go_ret2
        obtain ⟨g, rfl, _, _⟩ := own_addr HO4.out (by
          rcases (show (Value.slice a4 (t + i + j) c4).ownBlock = (Value.slice a' (t + i) c).ownBlock ∨ (Value.slice a4 (t + i + j) c4).ownBlock = some w2.heap.size from HT4.out) with h | h
          · rw [h]
            rcases (show (Value.slice a' (t + i) c).ownBlock = (Value.slice oa t oc).ownBlock ∨ (Value.slice a' (t + i) c).ownBlock = some wr.heap.size from HT3.out) with h | h
            · rw [h]; exact HOB.out
            · rw [h]; simp
          · rw [h]; simp)
        refine ⟨g, c4, ?_, ?_, HB4.out⟩
        · rw [← HC9.out]; rfl
        · have := HO4.out
          rw [← flat_append, ← flat_append, HF.out, htm] at this
          exact this
      · have q1 : decide (0 < (i : Int)) = false := decide_eq_false (by omega)
        go_wp2_with (first | (at_builtin; refine wpList_appR slRec rfl _ _ rfl rfl HO.out rfl HRA2.out HAl.out HNA.out (by omega) hbs ?_; intro v' w2 hown2 hg2 ht2; obtain ⟨a', c, rfl⟩ := own_slice hown2; have HO3 := Lib.hid hown2; have HB3 := Lib.hid (below_app HB.out hbs HO.out (Nat.le_refl _) hg2); have HT3 := Lib.hid ht2; clear hown2 hg2 ht2; have hbs3 := HB3.out.size; have HRB3 := Lib.hid (HRB.out.below (Nat.le_refl _) HB3.out)) | (at_builtin; refine wpList_appR slRec rfl _ _ rfl rfl HO3.out rfl HRB3.out HBl.out HNB.out (by omega) hbs3 ?_; intro v' w4 hown2 hg2 ht2; obtain ⟨a4, c4, rfl⟩ := own_slice hown2; have HO4 := Lib.hid hown2; have HB4 := Lib.hid (below_app HB3.out hbs3 HO3.out (Nat.le_refl _) hg2); have HT4 := Lib.hid ht2; clear hown2 hg2 ht2))
        go_ret2
        obtain ⟨g, rfl, _, _⟩ := own_addr HO4.out (by
          rcases (show (Value.slice a4 (t + i + j) c4).ownBlock = (Value.slice a' (t + i) c).ownBlock ∨ (Value.slice a4 (t + i + j) c4).ownBlock = some w2.heap.size from HT4.out) with h | h
          · rw [h]
            rcases (show (Value.slice a' (t + i) c).ownBlock = (Value.slice oa t oc).ownBlock ∨ (Value.slice a' (t + i) c).ownBlock = some wr.heap.size from HT3.out) with h | h
            · rw [h]; exact HOB.out
            · rw [h]; simp
          · rw [h]; simp)
        refine ⟨g, c4, ?_, ?_, HB4.out⟩
        · rw [← HC9.out]; rfl
        · have := HO4.out
          rw [← flat_append, ← flat_append, HF.out, htm] at this
          exact this
    obtain ⟨hi, hj⟩ := hij
    cases A with
    | nil => exact absurd HAl.out (by simp; omega)
    | cons X A =>
    cases B with
    | nil => exact absurd HBl.out (by simp; omega)
    | cons Y B =>
    obtain ⟨pa, oa', rfl, _⟩ := recs_addr HRA.out (by simp)
    obtain ⟨pb, ob', rfl, _⟩ := recs_addr HRB.out (by simp)
    obtain ⟨c0, c1⟩ := recs_head (HRA.out.below (Nat.le_refl _) HB.out)
    obtain ⟨e0, e1⟩ := recs_head (HRB.out.below (Nat.le_refl _) HB.out)
    have q1 : decide (0 < (i : Int)) = true := decide_eq_true (by omega)
    have q2 : decide (0 < (j : Int)) = true := decide_eq_true (by omega)
    obtain ⟨X1, X2⟩ := X
    obtain ⟨Y1, Y2⟩ := Y
    have hlt : ltR (Y1, Y2) (X1, X2) = decide (Y1 < X1) := rfl
    by_cases hyx : Y1 < X1
    · have hz : decide (Y1 < X1) = true := decide_eq_true hyx
      rw [hz] at hlt
      have HMG2 : Hid (O ++ [(Y1, Y2)] ++ Mg.mrg ltR ((X1, X2) :: A) B = Mg.mrg ltR L R) := by
        show _ = _
        rw [← HMG.out, Mg.mrg_lt hlt, List.append_assoc]; rfl
      have HCT2 : Hid (q + 1 + Mg.mcnt ltR ((X1, X2) :: A) B = Mg.mcnt ltR L R) := by
        show _ = _
        rw [← HCT.out, Mg.mcnt_lt _ hlt]; omega
      have HBl2 : Hid (B.length = j - 1) := by show _ = _; have := HBl.out; rw [List.length_cons] at this; omega
      have HRB2 := Lib.hid (recs_tail HRB.out)
      clear HMG HCT hyx hlt HBl HRB
      go_wp2_with fail
      go_quiet (fail)
      have HO2 : Hid ((wr.drewN nq).ownsRow w.heap.size 72 2 (.slice oa t oc) t (flat encR O)) := HO.out
      have HB2 := Lib.hid (below_drewN HB.out nq)
      have d0 : (wr.drewN nq).cell? ⟨pb, ob', none⟩ = some (.int .i64 Y1) := e0
      have d1 : (wr.drewN nq).cell? ⟨pb, ob' + 1, none⟩ = some (.int .i64 Y2) := e1
      generalize wr.drewN nq = wq at HO2 HB2 d0 d1 ⊢
      clear c0 c1 e0 e1 HO HB hbs
      have hbs := HB2.out.size
      have hn40 : t + 1 ≤ 1099511627776 := by omega
      go_wp2_with (at_builtin; refine wpList_app1 slRec rfl _ _ rfl rfl HO2.out [.int .i64 Y1, .int .i64 Y2] rfl rfl (by simp) (by simp [Value.oneCell']) hn40 hbs ?_; intro v' w2 hown' hg ht)
      obtain ⟨a', c', rfl⟩ := own_slice hown'
      have HO3 := Lib.hid hown'
      have HB3 := Lib.hid (below_app HB2.out hbs HO2.out (Nat.le_refl _) hg)
      have HT3 : Hid ((Value.slice a' (t + 1) c').ownBlock ≠ none) := by
        show _ ≠ _
        rcases ht with h | h
        · rw [h]; exact HOB.out
        · rw [h]; simp
      clear hown' hg ht
      go_wp2
      go_roundw
      case rel => exact ⟨_, _, i, j - 1, da, db - 1, t + 1, q + 1, (X1, X2) :: A, B, O ++ [(Y1, Y2)], rfl, rfl, by go_num, by rw [flat_append, flat_one]; exact HO3.out, HB3.out, HT3.out, HAl, HBl2, by omega, by omega, by omega, by omega, HMG2, HCT2, HRA, by
        refine Lib.hid ?_
        split
        · have : B = [] := List.eq_nil_of_length_eq_zero (by rw [HBl2.out]; omega)
          subst this; exact .inl rfl
        · exact HRB2.out, HNA, by
        refine Lib.hid ?_
        split <;> exact nilOk_some _ _⟩
      case measure => simp only [lenV]; omega
    · have hz : decide (Y1 < X1) = false := decide_eq_false hyx
      rw [hz] at hlt
      have HMG2 : Hid (O ++ [(X1, X2)] ++ Mg.mrg ltR A ((Y1, Y2) :: B) = Mg.mrg ltR L R) := by
        show _ = _
        rw [← HMG.out, Mg.mrg_ge hlt, List.append_assoc]; rfl
      have HCT2 : Hid (q + 1 + Mg.mcnt ltR A ((Y1, Y2) :: B) = Mg.mcnt ltR L R) := by
        show _ = _
        rw [← HCT.out, Mg.mcnt_ge _ hlt]; omega
      have HAl2 : Hid (A.length = i - 1) := by show _ = _; have := HAl.out; rw [List.length_cons] at this; omega
      have HRA2 := Lib.hid (recs_tail HRA.out)
      clear HMG HCT hyx hlt HAl HRA
      go_wp2_with fail
      go_quiet (fail)
      have HO2 : Hid ((wr.drewN nq).ownsRow w.heap.size 72 2 (.slice oa t oc) t (flat encR O)) := HO.out
      have HB2 := Lib.hid (below_drewN HB.out nq)
      have d0 : (wr.drewN nq).cell? ⟨pa, oa', none⟩ = some (.int .i64 X1) := c0
      have d1 : (wr.drewN nq).cell? ⟨pa, oa' + 1, none⟩ = some (.int .i64 X2) := c1
      generalize wr.drewN nq = wq at HO2 HB2 d0 d1 ⊢
      clear c0 c1 e0 e1 HO HB hbs
      have hbs := HB2.out.size
      have hn40 : t + 1 ≤ 1099511627776 := by omega
      go_wp2_with (at_builtin; refine wpList_app1 slRec rfl _ _ rfl rfl HO2.out [.int .i64 X1, .int .i64 X2] rfl rfl (by simp) (by simp [Value.oneCell']) hn40 hbs ?_; intro v' w2 hown' hg ht)
      obtain ⟨a', c', rfl⟩ := own_slice hown'
      have HO3 := Lib.hid hown'
      have HB3 := Lib.hid (below_app HB2.out hbs HO2.out (Nat.le_refl _) hg)
      have HT3 : Hid ((Value.slice a' (t + 1) c').ownBlock ≠ none) := by
        show _ ≠ _
        rcases ht with h | h
        · rw [h]; exact HOB.out
        · rw [h]; simp
      clear hown' hg ht
      go_wp2
      go_roundw
      case rel => exact ⟨_, _, i - 1, j, da - 1, db, t + 1, q + 1, A, (Y1, Y2) :: B, O ++ [(X1, X2)], rfl, rfl, by go_num, by rw [flat_append, flat_one]; exact HO3.out, HB3.out, HT3.out, HAl2, HBl, by omega, by omega, by omega, by omega, HMG2, HCT2, by
        refine Lib.hid ?_
        split
        · have : A = [] := List.eq_nil_of_length_eq_zero (by rw [HAl2.out]; omega)
          subst this; exact .inl rfl
        · exact HRA2.out, HRB, by
        refine Lib.hid ?_
        split <;> exact nilOk_some _ _, HNB⟩
      case measure => simp only [lenV]; omega

end Go.Proofs.Ytkckmjajjdpodaa

/- Walks: the merge of two record lists: the program's. -/
namespace Go.Proofs.Ytkckmjajjdpodaa
open Go.RowKit Go.Sort
set_option linter.unusedVariables false

set_option maxRecDepth 100000 in
set_option maxHeartbeats 8000000 in
theorem merge_any (a b : Option Addr) (ca cb n m : Nat) (L R : List (Int × Int)) (w : World) (hn : L.length = n) (hm : R.length = m) (hl : n + m ≤ 1000) (hL : RecsAt w a L) (hR : RecsAt w b R) (ha : NilOk a ca) (hb : NilOk b cb) (hca : n ≤ ca) (hcb : m ≤ cb) :
    Calls Try.prog 129 #[.slice a n ca, .slice b m cb] w (MergeEnd w L R (n + m)) := by
  have E0 := Lib.hid (own_lit (w := w) (e := 72) (size := 2) #[] 0 (by omega) rfl)
  have HB0 := Lib.hid (show Below w.heap.size w (w.alloc (.cells #[] 72)) from (Below.refl _ _).alloc (Nat.le_refl _) _)
  have HL0 := Lib.hid hL; have HR0 := Lib.hid hR
  have HA0 := Lib.hid ha; have HBB0 := Lib.hid hb
  have HN := Lib.hid hn; have HM := Lib.hid hm
  clear hL hR ha hb hn hm
  unfold MergeEnd
  go_enter Try.func129, Try.ntmps129
  go_wp2
  go_loopw [0, 1, 6, 7] (fun x y o k wr => ∃ (xa xb : Option Addr) (i j da db t q : Nat) (A B O : List (Int × Int)), x = .slice xa i da ∧ y = .slice xb j db ∧ k = .int .i64 q ∧ wr.ownsRow w.heap.size 72 2 o t (flat encR O) ∧ Below w.heap.size w wr ∧
      o.ownBlock ≠ none ∧ Hid (A.length = i) ∧ Hid (B.length = j) ∧ t + i + j = n + m ∧ q ≤ t ∧ i ≤ da ∧ j ≤ db ∧ Hid (O ++ Mg.mrg ltR A B = Mg.mrg ltR L R) ∧ Hid (q + Mg.mcnt ltR A B = Mg.mcnt ltR L R) ∧ Hid (RecsAt w xa A) ∧ Hid (RecsAt w xb B) ∧ Hid (NilOk xa da) ∧ Hid (NilOk xb db)) (fun x y _ _ _ => lenV x + lenV y)
  case atStart => exact ⟨a, b, n, m, ca, cb, 0, 0, L, R, [], rfl, rfl, rfl, E0.out, HB0.out, by simp [Value.ownBlock], HN, HM, by omega, by omega, hca, hcb, Lib.hid rfl, Lib.hid (by omega), HL0, HR0, HA0, HBB0⟩
  case round =>
    obtain ⟨xa, xb, i, j, da, db, t, q, A, B, O, rfl, rfl, rfl, hown, hb, hob, HAl, HBl, htm, hq, hida, hjdb, HMG, HCT, HRA, HRB, HNA, HNB⟩ := hrel
    obtain ⟨oa, oc, rfl⟩ := own_slice hown
    have HO := Lib.hid hown; have HB := Lib.hid hb; have HOB := Lib.hid hob
    clear hown hb hob E0 HB0
    have hbs := HB.out.size
    by_cases hij : 0 < i ∧ 0 < j
    case neg =>
      have HF : Hid (O ++ A ++ B = Mg.mrg ltR L R) := by
        show _ = _
        rw [← HMG.out, List.append_assoc]
        rcases Nat.eq_zero_or_pos i with h | h
        · have : A = [] := List.eq_nil_of_length_eq_zero (by rw [HAl.out]; exact h)
          subst this; rw [Mg.mrg_nil]; rfl
        · have : B = [] := List.eq_nil_of_length_eq_zero (by rw [HBl.out]; omega)
          subst this; rw [Mg.nil_mrg, List.append_nil]
      have HC9 : Hid (q = Mg.mcnt ltR L R) := by
        show _ = _
        rw [← HCT.out]
        rcases Nat.eq_zero_or_pos i with h | h
        · have : A = [] := List.eq_nil_of_length_eq_zero (by rw [HAl.out]; exact h)
          subst this; rw [Mg.mcnt_nil]; rfl
        · have : B = [] := List.eq_nil_of_length_eq_zero (by rw [HBl.out]; omega)
          subst this; rw [Mg.nil_mcnt]; rfl
      have HRA2 := Lib.hid (HRA.out.below (Nat.le_refl _) HB.out)
      by_cases hi : 0 < i
      · have q1 : decide (0 < (i : Int)) = true := decide_eq_true (by omega)
        have q2 : decide (0 < (j : Int)) = false := decide_eq_false (by omega)
        go_wp2_with (first | (at_builtin; refine wpList_appR slRec rfl _ _ rfl rfl HO.out rfl HRA2.out HAl.out HNA.out (by omega) hbs ?_; intro v' w2 hown2 hg2 ht2; obtain ⟨a', c, rfl⟩ := own_slice hown2; have HO3 := Lib.hid hown2; have HB3 := Lib.hid (below_app HB.out hbs HO.out (Nat.le_refl _) hg2); have HT3 := Lib.hid ht2; clear hown2 hg2 ht2; have hbs3 := HB3.out.size; have HRB3 := Lib.hid (HRB.out.below (Nat.le_refl _) HB3.out)) | (at_builtin; refine wpList_appR slRec rfl _ _ rfl rfl HO3.out rfl HRB3.out HBl.out HNB.out (by omega) hbs3 ?_; intro v' w4 hown2 hg2 ht2; obtain ⟨a4, c4, rfl⟩ := own_slice hown2; have HO4 := Lib.hid hown2; have HB4 := Lib.hid (below_app HB3.out hbs3 HO3.out (Nat.le_refl _) hg2); have HT4 := Lib.hid ht2; clear hown2 hg2 ht2))
        go_ret2
        obtain ⟨g, rfl, _, _⟩ := own_addr HO4.out (by
          rcases (show (Value.slice a4 (t + i + j) c4).ownBlock = (Value.slice a' (t + i) c).ownBlock ∨ (Value.slice a4 (t + i + j) c4).ownBlock = some w2.heap.size from HT4.out) with h | h
          · rw [h]
            rcases (show (Value.slice a' (t + i) c).ownBlock = (Value.slice oa t oc).ownBlock ∨ (Value.slice a' (t + i) c).ownBlock = some wr.heap.size from HT3.out) with h | h
            · rw [h]; exact HOB.out
            · rw [h]; simp
          · rw [h]; simp)
        refine ⟨g, c4, ?_, ?_, HB4.out⟩
        · rw [← HC9.out]; rfl
        · have := HO4.out
          rw [← flat_append, ← flat_append, HF.out, htm] at this
          exact this
      · have q1 : decide (0 < (i : Int)) = false := decide_eq_false (by omega)
        go_wp2_with (first | (at_builtin; refine wpList_appR slRec rfl _ _ rfl rfl HO.out rfl HRA2.out HAl.out HNA.out (by omega) hbs ?_; intro v' w2 hown2 hg2 ht2; obtain ⟨a', c, rfl⟩ := own_slice hown2; have HO3 := Lib.hid hown2; have HB3 := Lib.hid (below_app HB.out hbs HO.out (Nat.le_refl _) hg2); have HT3 := Lib.hid ht2; clear hown2 hg2 ht2; have hbs3 := HB3.out.size; have HRB3 := Lib.hid (HRB.out.below (Nat.le_refl _) HB3.out)) | (at_builtin; refine wpList_appR slRec rfl _ _ rfl rfl HO3.out rfl HRB3.out HBl.out HNB.out (by omega) hbs3 ?_; intro v' w4 hown2 hg2 ht2; obtain ⟨a4, c4, rfl⟩ := own_slice hown2; have HO4 := Lib.hid hown2; have HB4 := Lib.hid (below_app HB3.out hbs3 HO3.out (Nat.le_refl _) hg2); have HT4 := Lib.hid ht2; clear hown2 hg2 ht2))
        go_ret2
        obtain ⟨g, rfl, _, _⟩ := own_addr HO4.out (by
          rcases (show (Value.slice a4 (t + i + j) c4).ownBlock = (Value.slice a' (t + i) c).ownBlock ∨ (Value.slice a4 (t + i + j) c4).ownBlock = some w2.heap.size from HT4.out) with h | h
          · rw [h]
            rcases (show (Value.slice a' (t + i) c).ownBlock = (Value.slice oa t oc).ownBlock ∨ (Value.slice a' (t + i) c).ownBlock = some wr.heap.size from HT3.out) with h | h
            · rw [h]; exact HOB.out
            · rw [h]; simp
          · rw [h]; simp)
        refine ⟨g, c4, ?_, ?_, HB4.out⟩
        · rw [← HC9.out]; rfl
        · have := HO4.out
          rw [← flat_append, ← flat_append, HF.out, htm] at this
          exact this
    obtain ⟨hi, hj⟩ := hij
    cases A with
    | nil => exact absurd HAl.out (by simp; omega)
    | cons X A =>
    cases B with
    | nil => exact absurd HBl.out (by simp; omega)
    | cons Y B =>
    obtain ⟨pa, oa', rfl, _⟩ := recs_addr HRA.out (by simp)
    obtain ⟨pb, ob', rfl, _⟩ := recs_addr HRB.out (by simp)
    obtain ⟨c0, c1⟩ := recs_head (HRA.out.below (Nat.le_refl _) HB.out)
    obtain ⟨e0, e1⟩ := recs_head (HRB.out.below (Nat.le_refl _) HB.out)
    have q1 : decide (0 < (i : Int)) = true := decide_eq_true (by omega)
    have q2 : decide (0 < (j : Int)) = true := decide_eq_true (by omega)
    obtain ⟨X1, X2⟩ := X
    obtain ⟨Y1, Y2⟩ := Y
    have hlt : ltR (Y1, Y2) (X1, X2) = decide (Y1 < X1) := rfl
    by_cases hyx : Y1 < X1
    · have hz : decide (Y1 < X1) = true := decide_eq_true hyx
      rw [hz] at hlt
      have HMG2 : Hid (O ++ [(Y1, Y2)] ++ Mg.mrg ltR ((X1, X2) :: A) B = Mg.mrg ltR L R) := by
        show _ = _
        rw [← HMG.out, Mg.mrg_lt hlt, List.append_assoc]; rfl
      have HCT2 : Hid (q + 1 + Mg.mcnt ltR ((X1, X2) :: A) B = Mg.mcnt ltR L R) := by
        show _ = _
        rw [← HCT.out, Mg.mcnt_lt _ hlt]; omega
      have HBl2 : Hid (B.length = j - 1) := by show _ = _; have := HBl.out; rw [List.length_cons] at this; omega
      have HRB2 := Lib.hid (recs_tail HRB.out)
      clear HMG HCT hyx hlt HBl HRB
      go_wp2_with fail
      go_quiet (fail)
      have HO2 : Hid ((wr.drewN nq).ownsRow w.heap.size 72 2 (.slice oa t oc) t (flat encR O)) := HO.out
      have HB2 := Lib.hid (below_drewN HB.out nq)
      have d0 : (wr.drewN nq).cell? ⟨pb, ob', none⟩ = some (.int .i64 Y1) := e0
      have d1 : (wr.drewN nq).cell? ⟨pb, ob' + 1, none⟩ = some (.int .i64 Y2) := e1
      generalize wr.drewN nq = wq at HO2 HB2 d0 d1 ⊢
      clear c0 c1 e0 e1 HO HB hbs
      have hbs := HB2.out.size
      have hn40 : t + 1 ≤ 1099511627776 := by omega
      have HNW := Lib.hid (fun (W : World) => cells_new W [.int .i64 Y1, .int .i64 Y2] 72)
      have d0 : wq.drew.cell? ⟨pb, ob', none⟩ = some (.int .i64 Y1) := d0
      have d1 : wq.drew.cell? ⟨pb, ob' + 1, none⟩ = some (.int .i64 Y2) := d1
      have HO2a : Hid ((wq.drew.alloc (.cells #[.int .i64 Y1, .int .i64 Y2] 72)).ownsRow w.heap.size 72 2 (.slice oa t oc) t (flat encR O)) := HO2.out.alloc _
      have HB2a : Hid (Below w.heap.size w (wq.drew.alloc (.cells #[.int .i64 Y1, .int .i64 Y2] 72))) := HB2.out.drew.alloc hbs _
      have hbsa := HB2a.out.size
      have hdb1 : (1 : Int) ≤ (j : Int) := by omega
      have hdb2 : (j : Int) ≤ (db : Int) := by omega
      go_wp2_with fail
      go_region_law (first | ((try go_split_ands); refine step_appX slRec (by rfl) _ _ (by rfl) w.heap.size (.slice oa t oc) t (flat encR O) _ 1 _ [.int .i64 Y1, .int .i64 Y2] (by rfl) HO2a.out (by rfl) rfl (HNW.out wq.drew) (by simp [Value.oneCell']) hn40 hbsa ?_; intro v' w2 hown' hg ht))
      all_goals
        obtain ⟨a', c', rfl⟩ := own_slice hown'
        have HO3 := Lib.hid hown'
        have HB3 := Lib.hid (below_app HB2a.out hbsa HO2a.out (Nat.le_refl _) hg)
        have HT3 : Hid ((Value.slice a' (t + 1) c').ownBlock ≠ none) := by
          show _ ≠ _
          rcases ht with h | h
          · rw [h]; exact HOB.out
          · rw [h]; simp
        clear hown' hg ht HNW HO2a HB2a HO2 HB2 d0 d1
        go_wp2
        all_goals
          first
            | exact ⟨⟨_, _, _, _, ⟨_, _, i, j - 1, da, rfl, db - 1, rfl, t + 1, q + 1, rfl, (X1, X2) :: A, B, O ++ [(Y1, Y2)], by rw [flat_append, flat_one]; exact HO3.out, HB3.out, HT3.out, HAl, HBl2, by omega, by omega, by omega, by omega, HMG2, HCT2, HRA, HRB2, HNA, Lib.hid (nilOk_some _ _)⟩, rfl, rfl, rfl, by go_num⟩, by simp only [lenV]; omega⟩
            | exact ⟨⟨_, _, _, _, ⟨_, _, i, j - 1, da, rfl, 0, rfl, t + 1, q + 1, rfl, (X1, X2) :: A, B, O ++ [(Y1, Y2)], by rw [flat_append, flat_one]; exact HO3.out, HB3.out, HT3.out, HAl, HBl2, by omega, by omega, by omega, by omega, HMG2, HCT2, HRA, Lib.hid (.inl (List.eq_nil_of_length_eq_zero (by rw [HBl2.out]; omega))), HNA, Lib.hid (nilOk_some _ _)⟩, rfl, rfl, rfl, by go_num⟩, by simp only [lenV]; omega⟩
    · have hz : decide (Y1 < X1) = false := decide_eq_false hyx
      rw [hz] at hlt
      have HMG2 : Hid (O ++ [(X1, X2)] ++ Mg.mrg ltR A ((Y1, Y2) :: B) = Mg.mrg ltR L R) := by
        show _ = _
        rw [← HMG.out, Mg.mrg_ge hlt, List.append_assoc]; rfl
      have HCT2 : Hid (q + 1 + Mg.mcnt ltR A ((Y1, Y2) :: B) = Mg.mcnt ltR L R) := by
        show _ = _
        rw [← HCT.out, Mg.mcnt_ge _ hlt]; omega
      have HAl2 : Hid (A.length = i - 1) := by show _ = _; have := HAl.out; rw [List.length_cons] at this; omega
      have HRA2 := Lib.hid (recs_tail HRA.out)
      clear HMG HCT hyx hlt HAl HRA
      go_wp2_with fail
      go_quiet (fail)
      have HO2 : Hid ((wr.drewN nq).ownsRow w.heap.size 72 2 (.slice oa t oc) t (flat encR O)) := HO.out
      have HB2 := Lib.hid (below_drewN HB.out nq)
      have d0 : (wr.drewN nq).cell? ⟨pa, oa', none⟩ = some (.int .i64 X1) := c0
      have d1 : (wr.drewN nq).cell? ⟨pa, oa' + 1, none⟩ = some (.int .i64 X2) := c1
      generalize wr.drewN nq = wq at HO2 HB2 d0 d1 ⊢
      clear c0 c1 e0 e1 HO HB hbs
      have hbs := HB2.out.size
      have hn40 : t + 1 ≤ 1099511627776 := by omega
      have HNW := Lib.hid (fun (W : World) => cells_new W [.int .i64 X1, .int .i64 X2] 72)
      have d0 : wq.drew.cell? ⟨pa, oa', none⟩ = some (.int .i64 X1) := d0
      have d1 : wq.drew.cell? ⟨pa, oa' + 1, none⟩ = some (.int .i64 X2) := d1
      have HO2a : Hid ((wq.drew.alloc (.cells #[.int .i64 X1, .int .i64 X2] 72)).ownsRow w.heap.size 72 2 (.slice oa t oc) t (flat encR O)) := HO2.out.alloc _
      have HB2a : Hid (Below w.heap.size w (wq.drew.alloc (.cells #[.int .i64 X1, .int .i64 X2] 72))) := HB2.out.drew.alloc hbs _
      have hbsa := HB2a.out.size
      have hdb1 : (1 : Int) ≤ (i : Int) := by omega
      have hdb2 : (i : Int) ≤ (da : Int) := by omega
      go_wp2_with fail
      go_region_law (first | ((try go_split_ands); refine step_appX slRec (by rfl) _ _ (by rfl) w.heap.size (.slice oa t oc) t (flat encR O) _ 1 _ [.int .i64 X1, .int .i64 X2] (by rfl) HO2a.out (by rfl) rfl (HNW.out wq.drew) (by simp [Value.oneCell']) hn40 hbsa ?_; intro v' w2 hown' hg ht))
      all_goals
        obtain ⟨a', c', rfl⟩ := own_slice hown'
        have HO3 := Lib.hid hown'
        have HB3 := Lib.hid (below_app HB2a.out hbsa HO2a.out (Nat.le_refl _) hg)
        have HT3 : Hid ((Value.slice a' (t + 1) c').ownBlock ≠ none) := by
          show _ ≠ _
          rcases ht with h | h
          · rw [h]; exact HOB.out
          · rw [h]; simp
        clear hown' hg ht HNW HO2a HB2a HO2 HB2 d0 d1
        go_wp2
        all_goals
          first
            | exact ⟨⟨_, _, _, _, ⟨_, _, i - 1, j, da - 1, rfl, db, rfl, t + 1, q + 1, rfl, A, (Y1, Y2) :: B, O ++ [(X1, X2)], by rw [flat_append, flat_one]; exact HO3.out, HB3.out, HT3.out, HAl2, HBl, by omega, by omega, by omega, by omega, HMG2, HCT2, HRA2, HRB, Lib.hid (nilOk_some _ _), HNB⟩, rfl, rfl, rfl, by go_num⟩, by simp only [lenV]; omega⟩
            | exact ⟨⟨_, _, _, _, ⟨_, _, i - 1, j, 0, rfl, db, rfl, t + 1, q + 1, rfl, A, (Y1, Y2) :: B, O ++ [(X1, X2)], by rw [flat_append, flat_one]; exact HO3.out, HB3.out, HT3.out, HAl2, HBl, by omega, by omega, by omega, by omega, HMG2, HCT2, Lib.hid (.inl (List.eq_nil_of_length_eq_zero (by rw [HAl2.out]; omega))), HRB, Lib.hid (nilOk_some _ _), HNB⟩, rfl, rfl, rfl, by go_num⟩, by simp only [lenV]; omega⟩

end Go.Proofs.Ytkckmjajjdpodaa

/- Walks: the check 'all' on records; keys; the first descent. -/
namespace Go.Proofs.Ytkckmjajjdpodaa
open Go.RowKit
set_option linter.unusedVariables false

set_option maxHeartbeats 400000 in
theorem isRecord_any (k t : Int) (w : World) :
    Calls Try.prog 147 #[.agg #[.int .i64 k, .int .i64 t]] w fun e w' => e = .returned (.bool (okRec (k, t))) ∧ Below w.heap.size w w' := by
  have HK := Lib.hid (fun w1 => isKey_any k w1)
  have HN := Lib.hid (fun w1 => in_any t 0 999 w1)
  have HE : okRec (k, t) = (okKey k && inB t 0 999) := rfl
  rw [HE]
  have HB : Hid (Below w.heap.size w (w.alloc (.cells #[.int .i64 k, .int .i64 t] 72))) := (Below.refl _ _).alloc (Nat.le_refl _) _
  clear HE
  cases h1 : okKey k
  all_goals
    rw [h1] at HK
    clear h1
    go_enter Try.func147, Try.ntmps147
    go_wp2_with (first | (go_at_call 115; refine (HK.out _).mono ?_; rintro e w' ⟨rfl, rfl⟩) | (go_at_call 86; refine (HN.out _).mono ?_; rintro e w' ⟨rfl, rfl⟩))
    go_ret
    exact ⟨rfl, HB.out⟩

/-- A function value that answers a predicate on records; it may make memory of its own. -/
def IsPredR (w : World) (hv : Value) (p : Int × Int → Bool) : Prop :=
  ∃ G cp, hv = .func (.func G) #[] cp ∧ (∀ args w, (callFunc G args).run Try.prog w = .ok (.enter G args) w) ∧ ∀ w1, Below w.heap.size w w1 → ∀ x : Int × Int, Calls Try.prog G (#[.agg #[.int .i64 x.1, .int .i64 x.2]] ++ cp) w1 fun e w' => e = .returned (.bool (p x)) ∧ Below w1.heap.size w1 w'

theorem isRecord_pred (w : World) : IsPredR w (.func (.func 147) #[] #[]) okRec :=
  ⟨_, _, rfl, fun _ _ => by kernel_rfl, fun w1 _ x => by simpa using isRecord_any x.1 x.2 w1⟩

set_option maxHeartbeats 400000 in
theorem allcR_any (pc : Nat) (hv : Value) (p : Int × Int → Bool) (w0 w : World) (hp : IsPredR w0 hv p) (hb : Below w0.heap.size w0 w) (hc : w.cell? ⟨pc, 0, none⟩ = some hv) (x : Int × Int) :
    Calls Try.prog 162 #[.agg #[.int .i64 x.1, .int .i64 x.2], .pointer (some ⟨pc, 0, none⟩)] w fun e w' => e = .returned (.bool (!p x)) ∧ Below w.heap.size w w' := by
  obtain ⟨G, cp, rfl, hcall, hp⟩ := hp
  have hsz := World.block_lt_of_cell? w _ hc
  have hb2 : Below w.heap.size w (w.alloc (.cells #[.int .i64 x.1, .int .i64 x.2] 72)) := (Below.refl _ _).alloc (Nat.le_refl _) _
  have HP := Lib.hid (hp _ (hb.trans (hb2.mono hb.size)) x)
  have HB := Lib.hid hb2
  clear hp hb hb2
  obtain ⟨k, t⟩ := x
  have hcall := hcall (#[.agg #[.int .i64 k, .int .i64 t]] ++ cp)
  go_enter Try.func162, Try.ntmps162
  go_wp2_with fail
  refine HP.out.mono ?_
  rintro e w' ⟨rfl, hb3⟩
  have HB3 := Lib.hid (HB.out.trans (hb3.mono HB.out.size))
  clear hb3
  go_wp2
  go_ret
  exact ⟨rfl, HB3.out⟩

set_option maxHeartbeats 400000 in
theorem indexFuncR_any (a : Option Addr) (cap : Nat) (zs : List (Int × Int)) (pc : Nat) (hv : Value) (p : Int × Int → Bool) (w0 w : World) (hbig : zs.length ≤ 9223372036854775807) (h : RecsAt w a zs)
    (hp : IsPredR w0 hv p) (hb : Below w0.heap.size w0 w) (hc : w.cell? ⟨pc, 0, none⟩ = some hv) :
    Calls Try.prog 176 #[.slice a zs.length cap, .func (.func 162) #[] #[.pointer (some ⟨pc, 0, none⟩)]] w
      fun e w' => (∃ n : Int, e = .returned (.int .i64 n) ∧ decide (0 ≤ n) = zs.any (fun x => !p x)) ∧ Below w.heap.size w w' := by
  have hsz := World.block_lt_of_cell? w _ hc
  have H := Lib.hid h; clear h
  have HC := Lib.hid hc; clear hc
  have HP := Lib.hid hp; clear hp
  have HB := Lib.hid hb; clear hb
  have HZ := Lib.hid hsz; clear hsz
  go_enter Try.func176, Try.ntmps176
  go_wp2
  go_loopw [8] (fun i wr => ∃ k : Nat, k ≤ zs.length ∧ i = .int .i64 k ∧ (∀ j, j < k → p (zs.getD j (0, 0)) = true) ∧ Below w.heap.size w wr) (fun i _ => zs.length - (intOf i).toNat)
  case atStart => exact ⟨0, by omega, rfl, by intro j h; omega, Below.refl _ _⟩
  case round =>
    obtain ⟨k, hk, rfl, hall, hbr⟩ := hrel
    have Hall := Lib.hid hall; clear hall
    by_cases h1 : k < zs.length
    · obtain ⟨b, off, rfl, hc1, hc2⟩ := (H.out.below (Nat.le_refl _) hbr).at h1
      have hcw : wr.cell? ⟨pc, 0, none⟩ = some hv := (hbr.cell (p := ⟨pc, 0, none⟩) HZ.out).trans HC.out
      have HQ := Lib.hid (allcR_any pc hv p w0 wr HP.out (HB.out.trans (hbr.mono HB.out.size)) hcw (zs.getD k (0, 0)))
      generalize hx : zs.getD k (0, 0) = x at hc1 hc2 HQ
      have Hx := Lib.hid hx; clear hx hcw
      have HBR := Lib.hid hbr; clear hbr
      obtain ⟨x1, x2⟩ := x
      go_wp2_with fail
      refine HQ.out.mono ?_
      rintro e w2 ⟨rfl, hb2⟩
      have HB2 := Lib.hid (HBR.out.trans (hb2.mono HBR.out.size)); clear hb2
      cases hq : p (x1, x2)
      · have HV := Lib.hid hq; clear hq
        go_wp2
        go_ret
        refine ⟨⟨_, rfl, ?_⟩, HB2.out⟩
        rw [List.any_eq_true.2 ⟨zs[k], List.getElem_mem h1, by
          have : zs[k] = (x1, x2) := by rw [← Hx.out]; simp [List.getD, h1]
          rw [this, HV.out]; rfl⟩]
        simp
      · have HV := Lib.hid hq; clear hq
        go_wp2
        go_roundw
        case rel =>
          refine ⟨k + 1, by omega, by go_num, fun j hj => ?_, HB2.out⟩
          rcases Nat.lt_succ_iff_lt_or_eq.1 hj with h | rfl
          · exact Hall.out j h
          · rw [Hx.out]; exact HV.out
        case measure => simp [intOf]; omega
    · have HBR := Lib.hid hbr; clear hbr
      go_wp2
      go_ret
      refine ⟨⟨_, rfl, ?_⟩, HBR.out⟩
      rw [List.any_eq_false.2 (fun x hx => by
        obtain ⟨j, hj, rfl⟩ := List.getElem_of_mem hx
        have := Hall.out j (by omega)
        simp only [List.getD, List.getElem?_eq_getElem hj, Option.getD_some] at this
        simp [this])]
      rfl

set_option maxHeartbeats 400000 in
theorem containsFuncR_any (a : Option Addr) (cap : Nat) (zs : List (Int × Int)) (pc : Nat) (hv : Value) (p : Int × Int → Bool) (w0 w : World) (hbig : zs.length ≤ 9223372036854775807) (h : RecsAt w a zs)
    (hp : IsPredR w0 hv p) (hb : Below w0.heap.size w0 w) (hc : w.cell? ⟨pc, 0, none⟩ = some hv) :
    Calls Try.prog 161 #[.slice a zs.length cap, .func (.func 162) #[] #[.pointer (some ⟨pc, 0, none⟩)]] w
      fun e w' => e = .returned (.bool (zs.any (fun x => !p x))) ∧ Below w.heap.size w w' := by
  have HI := Lib.hid (indexFuncR_any a cap zs pc hv p w0 w hbig h hp hb hc)
  clear h hp hb hc
  go_enter Try.func161, Try.ntmps161
  go_wp2_with fail
  refine HI.out.mono ?_
  rintro e w2 ⟨⟨n, rfl, hn⟩, hb2⟩
  have HN := Lib.hid hn; clear hn
  have HB := Lib.hid hb2; clear hb2
  go_wp2
  go_ret
  exact ⟨ret_bool HN.out, HB.out⟩

set_option maxHeartbeats 400000 in
theorem allR_any (a : Option Addr) (cap : Nat) (zs : List (Int × Int)) (hv : Value) (p : Int × Int → Bool) (w : World) (hbig : zs.length ≤ 9223372036854775807) (h : RecsAt w a zs) (hp : IsPredR w hv p) :
    Calls Try.prog 121 #[.slice a zs.length cap, hv] w fun e w' => e = .returned (.bool (zs.all p)) ∧ Below w.heap.size w w' := by
  have hb : Below w.heap.size w (w.alloc (.cells #[hv] 135)) := (Below.refl _ _).alloc (Nat.le_refl _) _
  have hc : (w.alloc (.cells #[hv] 135)).cell? ⟨w.heap.size, 0, none⟩ = some hv := by rw [World.cell?_alloc_at _ _ _ _ rfl]; rfl
  have HI := Lib.hid (containsFuncR_any a cap zs w.heap.size hv p w _ hbig (h.below (Nat.le_refl _) hb) hp hb hc)
  have HB := Lib.hid hb
  have he : (!zs.any (fun x => !p x)) = zs.all p := by rw [List.not_any_eq_all_not]; simp
  have HE := Lib.hid he; clear he
  have hmf := hmf
  obtain ⟨G, cp, rfl, _⟩ := hp
  clear h hb hc
  go_enter Try.func121, Try.ntmps121
  go_wp2_with fail
  refine HI.out.mono ?_
  rintro e w2 ⟨rfl, hb2⟩
  have HB2 := Lib.hid (HB.out.trans (hb2.mono HB.out.size)); clear hb2
  go_wp2
  go_ret
  exact ⟨ret_bool HE.out, HB2.out⟩

set_option maxHeartbeats 400000 in
theorem isValidRecords_any (a : Option Addr) (cap : Nat) (zs : List (Int × Int)) (w : World) (hbig : zs.length ≤ 9223372036854775807) (h : RecsAt w a zs) :
    Calls Try.prog 81 #[.slice a zs.length cap] w fun e w' => e = .returned (.bool (okRecs zs)) ∧ Below w.heap.size w w' := by
  have HI := Lib.hid (allR_any a cap zs _ okRec w hbig h (isRecord_pred w))
  clear h
  by_cases hl : zs.length ≤ 64
  all_goals
    go_enter Try.func81, Try.ntmps81
    go_wp2_with ((go_at_call 121; refine HI.out.mono ?_; rintro e w' ⟨rfl, hb⟩))
    go_ret
    exact ⟨ret_bool (by simp [okRecs, hl]), by first | exact hb | exact Below.refl _ _⟩

end Go.Proofs.Ytkckmjajjdpodaa

/- Walks: the stable sort of records, of both packages; records held side by side; the draw. -/
namespace Go.Proofs.Ytkckmjajjdpodaa
open Go.RowKit Go.Sort
set_option linter.unusedVariables false

/-- Records that can be read behind a slice. -/
structure Rd (w : World) (a : Option Addr) (n c : Nat) (rs : List (Int × Int)) : Prop where
  recs : RecsAt w a rs
  len : rs.length = n
  nil : NilOk a c
  cap : n ≤ c
theorem Rd.below {w w' : World} {B : Nat} {a : Option Addr} {n c : Nat} {rs : List (Int × Int)} (h : Rd w a n c rs) (hB : w.heap.size ≤ B) (hb : Below B w w') : Rd w' a n c rs :=
  ⟨h.recs.below hB hb, h.len, h.nil, h.cap⟩
theorem Rd.same {w w' : World} {a : Option Addr} {n c : Nat} {rs : List (Int × Int)} (h : Rd w a n c rs) (hb : Below w.heap.size w w') : Rd w' a n c rs := h.below (Nat.le_refl _) hb
theorem own_cap {w : World} {B : Nat} {e : TypeId} {size n c : Nat} {a : Option Addr} {xs : List Value} (h : w.ownsRow B e size (.slice a n c) n xs) : n ≤ c := by
  rcases h.2 with ⟨hv, hm⟩ | ⟨g, cap, cur, hv, _, _, hn, _⟩
  · omega
  · injection hv with _ _ h3; omega
theorem rd_own {w : World} {B : Nat} {e : TypeId} {n c : Nat} {a : Option Addr} {rs : List (Int × Int)} (h : w.ownsRow B e 2 (.slice a n c) n (flat encR rs)) : Rd w a n c rs :=
  ⟨recs_of_own h, by have := h.1; rw [flat_length encR_len] at this; omega, nilOk_own h, own_cap h⟩
theorem rd_nil (w : World) : Rd w none 0 0 [] := ⟨.inl rfl, rfl, fun _ => rfl, Nat.le_refl _⟩
theorem rd_some (w : World) (x : Addr) (c : Nat) : Rd w (some x) 0 c [] := ⟨.inl rfl, rfl, nilOk_some _ _, Nat.zero_le _⟩

/-- A list and a Bool, given back. -/
def RdEnd (w : World) (out : List (Int × Int)) (ok : Bool) (e : Ending) (w' : World) : Prop :=
  ∃ (a : Option Addr) (n c : Nat), e = .returned (.tuple #[.slice a n c, .bool ok]) ∧ Rd w' a n c out ∧ Below w.heap.size w w'

theorem okRecs_le {rs : List (Int × Int)} (h : okRecs rs = true) : rs.length ≤ 64 := by
  unfold okRecs at h
  simp at h
  exact h.1
def stAns (rs : List (Int × Int)) : List (Int × Int) := if okRecs rs = true then srtR rs else []

set_option maxRecDepth 100000 in
set_option maxHeartbeats 2000000 in
theorem implStableSort_any (a : Option Addr) (n c : Nat) (rs : List (Int × Int)) (w : World) (hbig : n ≤ 9223372036854775807) (h : Rd w a n c rs) :
    Calls Try.prog 25 #[.slice a n c] w (RdEnd w (stAns rs) (okRecs rs)) := by
  obtain ⟨hr, rfl, hn, hc⟩ := h
  have HV := Lib.hid (isValidRecords_any a c rs w hbig hr)
  have HR := Lib.hid hr; have HN := Lib.hid hn
  clear hr hn
  unfold RdEnd stAns
  cases hok : okRecs rs
  · rw [hok] at HV
    go_enter Try.func25, Try.ntmps25
    go_wp2_with fail
    refine HV.out.mono ?_
    rintro e w1 ⟨rfl, hb⟩
    have HB := Lib.hid hb; clear hb
    go_wp2
    go_ret2
    exact ⟨none, 0, 0, rfl, rd_nil _, HB.out⟩
  · rw [hok] at HV
    have hl := okRecs_le hok
    go_enter Try.func25, Try.ntmps25
    go_wp2_with fail
    refine HV.out.mono ?_
    rintro e w1 ⟨rfl, hb⟩
    have HB := Lib.hid hb; clear hb
    go_wp2_with fail
    refine (stable_any a c rs w1 (by omega) (HR.out.below (Nat.le_refl _) HB.out) HN.out).mono ?_
    rintro e w2 ⟨g, c2, rfl, ho, hb⟩
    have HO := Lib.hid (rd_own ho)
    have HB2 := Lib.hid (HB.out.trans (hb.mono HB.out.size))
    clear ho hb
    go_wp2
    go_ret2
    exact ⟨_, _, _, rfl, HO.out, HB2.out⟩

theorem Rd.at {w : World} {a : Option Addr} {n c : Nat} {rs : List (Int × Int)} (h : Rd w a n c rs) {k : Nat} (hk : k < n) :
    ∃ b off, a = some ⟨b, off, none⟩ ∧ w.cell? ⟨b, off + k * 2, none⟩ = some (.int .i64 (rs.getD k (0, 0)).1) ∧ w.cell? ⟨b, off + k * 2 + 1, none⟩ = some (.int .i64 (rs.getD k (0, 0)).2) :=
  h.recs.at (by rw [h.len]; exact hk)

set_option maxRecDepth 100000 in
set_option maxHeartbeats 2000000 in
theorem vRecords_any (a b : Option Addr) (n m c d : Nat) (L R : List (Int × Int)) (w : World) (hn : n ≤ 9223372036854775807) (hm : m ≤ 9223372036854775807) (hL : Rd w a n c L) (hR : Rd w b m d R) :
    Calls Try.prog 19 #[.slice a n c, .slice b m d] w fun e w' => e = .returned (.bool (decide (L = R))) ∧ Below w.heap.size w w' := by
  have HL := Lib.hid hL; have HR := Lib.hid hR
  clear hL hR
  by_cases hnm : n = m
  case neg =>
    have q1 : ((n : Int) != (m : Int)) = true := by simp; omega
    have HE : Hid (decide (L = R) = false) := by
      show _ = _
      refine decide_eq_false fun h => hnm ?_
      rw [← HL.out.len, ← HR.out.len, h]
    go_enter Try.func19, Try.ntmps19
    go_wp2
    go_ret
    exact ⟨ret_bool HE.out.symm, Below.refl _ _⟩
  subst hnm
  have q1 : ((n : Int) != (n : Int)) = false := by simp
  go_enter Try.func19, Try.ntmps19
  go_wp2
  go_loopw [5] (fun v wr => ∃ k : Nat, v = .int .i64 k ∧ k ≤ n ∧ Hid (∀ j, j < k → L.getD j (0, 0) = R.getD j (0, 0)) ∧ Below w.heap.size w wr) (fun v _ => n - (intOf v).toNat)
  case atStart => exact ⟨0, rfl, by omega, Lib.hid (fun j h => by omega), Below.refl _ _⟩
  case round =>
    obtain ⟨k, rfl, hk, HALL, hb⟩ := hrel
    have HB := Lib.hid hb
    clear hb
    by_cases hlt : k < n
    case neg =>
      obtain rfl : k = n := by omega
      have HE : Hid (decide (L = R) = true) := by
        show _ = _
        refine decide_eq_true (List.ext_getElem (by rw [HL.out.len, HR.out.len]) fun j h1 h2 => ?_)
        have := HALL.out j (by rw [← HL.out.len]; exact h1)
        rwa [getD_get h1, getD_get h2] at this
      have h3 : decide ((k : Int) < (k : Int)) = false := by simp
      go_wp2
      go_ret
      exact ⟨ret_bool HE.out.symm, HB.out⟩
    obtain ⟨x, o, rfl, c1, c1'⟩ := (HL.out.same HB.out).at hlt
    obtain ⟨y, p, rfl, c2, c2'⟩ := (HR.out.same HB.out).at hlt
    obtain ⟨X, hX⟩ : ∃ X, L.getD k (0, 0) = X := ⟨_, rfl⟩
    obtain ⟨Y, hY⟩ : ∃ Y, R.getD k (0, 0) = Y := ⟨_, rfl⟩
    rw [hX] at c1 c1'
    rw [hY] at c2 c2'
    have HX := Lib.hid hX; have HY := Lib.hid hY
    clear hX hY
    obtain ⟨X1, X2⟩ := X
    obtain ⟨Y1, Y2⟩ := Y
    have h3 : decide ((k : Int) < (n : Int)) = true := decide_eq_true (by omega)
    by_cases hxy : X1 = Y1 ∧ X2 = Y2
    · obtain ⟨rfl, rfl⟩ := hxy
      go_wp2_with fail
      go_quiet (fail)
      go_wp2
      go_roundw
      case rel => exact ⟨k + 1, by go_num, by omega, Lib.hid (fun j hj => by
        rcases Nat.lt_or_ge j k with h | h
        · exact HALL.out j h
        · obtain rfl : j = k := by omega
          rw [HX.out, HY.out]), below_drewN HB.out _⟩
      case measure => simp [intOf] <;> omega
    · have HE : Hid (decide (L = R) = false) := by
        show _ = _
        refine decide_eq_false fun h => hxy ?_
        have := HX.out
        rw [h, HY.out] at this
        injection this with h1 h2
        exact ⟨h1.symm, h2.symm⟩
      by_cases q1 : X1 = Y1
      · subst q1
        have q2 : (X2 == Y2) = false := by simpa using hxy
        clear hxy
        go_wp2_with fail
        go_quiet (fail)
        go_wp2
        go_ret
        exact ⟨ret_bool HE.out.symm, below_drewN HB.out _⟩
      · have q2 : (X1 == Y1) = false := by simpa using q1
        clear hxy q1
        go_wp2_with fail
        go_quiet (fail)
        go_wp2
        go_ret
        exact ⟨ret_bool HE.out.symm, below_drewN HB.out _⟩

end Go.Proofs.Ytkckmjajjdpodaa
