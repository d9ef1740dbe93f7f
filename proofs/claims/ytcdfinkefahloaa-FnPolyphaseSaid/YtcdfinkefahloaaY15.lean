/- Several texts in one: lemmas and walks of the functions that the law reaches. -/
import Derived.Test.YtcdfinkefahloaaY2
import Derived.Test.YtcdfinkefahloaaY13

namespace Go.Proofs.Ytcdfinkefahloaa
open Go.RowKit
set_option linter.unusedVariables false

/-- Counts as the program's integers. -/
def iN (cs : List Nat) : List Int := cs.map fun (n : Nat) => (n : Int)
theorem iN_len (cs : List Nat) : (iN cs).length = cs.length := by simp [iN]
theorem iN_get (cs : List Nat) (j : Nat) : (iN cs).getD j 0 = ((cs.getD j 0 : Nat) : Int) := by
  unfold iN
  rw [List.getD_eq_getElem?_getD, List.getElem?_map, List.getD_eq_getElem?_getD]
  cases cs[j]? <;> rfl
theorem iN_snoc (cs : List Nat) (n : Nat) : iN (cs ++ [n]) = iN cs ++ [(n : Int)] := by simp [iN]
theorem iN_take (cs : List Nat) (k : Nat) : (iN cs).take k = iN (cs.take k) := by simp [iN, List.map_take]
theorem iN_set (cs : List Nat) (k n : Nat) : iN (cs.set k n) = (iN cs).set k (n : Int) := by simp [iN, List.map_set]
theorem sumL_iN (cs : List Nat) : Mg.sumL (iN cs) = ((cs.sum : Nat) : Int) := by
  have key : ∀ (cs : List Nat) (a : Int), (iN cs).foldl (· + ·) a = a + ((cs.sum : Nat) : Int) := by
    intro cs
    induction cs with
    | nil => intro a; simp [iN]
    | cons x t ih =>
      intro a
      have : iN (x :: t) = (x : Int) :: iN t := rfl
      rw [this, List.foldl_cons, ih, List.sum_cons]; omega
  have := key cs 0
  unfold Mg.sumL
  rw [this]; omega
theorem sum_take_le (cs : List Nat) (k : Nat) : (cs.take k).sum ≤ cs.sum := by
  conv => rhs; rw [← List.take_append_drop k cs, List.sum_append]
  omega
theorem drop_cons {cs : List Nat} {i : Nat} (h : i < cs.length) : cs.drop i = cs.getD i 0 :: cs.drop (i + 1) := by
  rw [List.drop_eq_getElem_cons h, List.getD_eq_getElem?_getD, List.getElem?_eq_getElem h]; rfl

theorem sumN_any (a : Option Addr) (cap n : Nat) (cs : List Nat) (w : World) (hn : cs.length = n) (hlen : n ≤ 1000) (hs : cs.sum ≤ 1000000) (h : IntsAt w a (iN cs)) :
    Calls Try.prog 34 #[.slice a n cap] w fun e w' => e = .returned (.int .i64 (cs.sum : Nat)) ∧ Below w.heap.size w w' := by
  have := sum_any a cap n (iN cs) w (by rw [iN_len]; exact hn) hlen (fun k hk => by
    rw [iN_take, sumL_iN]
    have := sum_take_le cs k
    omega) h
  rwa [sumL_iN] at this

set_option maxRecDepth 100000 in
set_option maxHeartbeats 2000000 in
theorem phase_any (a : Option Addr) (cap n : Nat) (cs : List Nat) (w : World) (hn : cs.length = n) (hlen : n ≤ 1000) (hs : ∀ x ∈ cs, x ≤ 1000000) (h : IntsAt w a (iN cs)) :
    Calls Try.prog 41 #[.slice a n cap] w fun e w' => e = .returned (.tuple #[.int .i64 (Ply.phaseF cs).1, .int .i64 (Ply.phaseF cs).2.1, .bool (Ply.phaseF cs).2.2]) ∧ Below w.heap.size w w' := by
  have H := Lib.hid h; have HN := Lib.hid hn
  have HX : Hid (∀ i, cs.getD i 0 ≤ 1000000) := fun i => by
    rw [List.getD_eq_getElem?_getD]
    cases hi : cs[i]? with
    | none => simp
    | some x => exact hs x (List.mem_of_getElem? hi)
  obtain ⟨R1, R2, R3, hR⟩ : ∃ R1 R2 R3, Ply.phaseF cs = (R1, R2, R3) := ⟨_, _, _, rfl⟩
  rw [hR]
  have HR := Lib.hid hR
  clear h hn hs hR
  go_enter Try.func41, Try.ntmps41
  go_wp2
  go_loopw [5, 6, 11] (fun ev lv iv wr => ∃ (i le : Nat) (em : Int), ev = .int .i64 em ∧ lv = .int .i64 le ∧ iv = .int .i64 i ∧ i ≤ n ∧ -1 ≤ em ∧ em < i ∧ le ≤ 1000000 ∧ Below w.heap.size w wr ∧ Ply.phI (cs.drop i) i em le = (R1, R2, R3)) (fun _ _ iv _ => n - (intOf iv).toNat)
  case atStart => exact ⟨0, 0, -1, rfl, rfl, rfl, by omega, by omega, by omega, by omega, Below.refl _ _, HR.out⟩
  case round =>
    obtain ⟨i, le, em, rfl, rfl, rfl, hi, hem, hemi, hle, hb, hph⟩ := hrel
    have HB := Lib.hid hb; have HP := Lib.hid hph
    clear hb hph
    by_cases hin : i < n
    · have h3 : decide ((i : Int) < (n : Int)) = true := decide_eq_true (by omega)
      obtain ⟨b, o, rfl, c0⟩ := (H.out.below (Nat.le_refl _) HB.out).at (k := i) (by rw [iN_len, HN.out]; exact hin)
      rw [iN_get] at c0
      have hdr := drop_cons (cs := cs) (i := i) (by rw [HN.out]; exact hin)
      rw [hdr] at HP
      have hx := HX.out i
      generalize cs.getD i 0 = x at c0 HP hx
      have b0 : (0 : Int) ≤ (i : Int) := by omega
      have b1 : (i : Int) < (n : Int) := by omega
      clear hdr
      by_cases h0 : x = 0
      · subst h0
        by_cases he : 0 ≤ em
        · have hr := HP.out
          unfold Ply.phI at hr
          rw [if_pos ⟨rfl, he⟩] at hr
          injection hr with r1 hr
          injection hr with r2 r3
          subst r1; subst r2; subst r3
          have he2 : decide ((0 : Int) ≤ em) = true := decide_eq_true he
          clear HP HR
          go_wp2
          go_ret3
          exact ⟨rfl, HB.out⟩
        · have hr := HP.out
          unfold Ply.phI at hr
          rw [if_neg (fun h => he h.2), if_pos rfl] at hr
          have HP2 := Lib.hid hr
          have he2 : decide ((0 : Int) ≤ em) = false := decide_eq_false he
          clear hr HP
          go_wp2
          go_roundw
          case rel => exact ⟨i + 1, le, i, rfl, rfl, by go_num, by omega, by omega, by omega, hle, HB.out, HP2.out⟩
          case measure => simp [intOf] <;> omega
      · have hr := HP.out
        unfold Ply.phI at hr
        rw [if_neg (fun h => h0 h.1), if_neg h0] at hr
        have hx0 : ¬ (x : Int) = 0 := by omega
        have hx1 : ((x : Int) == 0) = false := by simpa using h0
        by_cases hc : le = 0 ∨ x < le
        · rw [if_pos hc] at hr
          have HP2 := Lib.hid hr
          clear hr HP
          by_cases hl0 : le = 0
          · subst hl0
            clear hc
            go_wp2
            go_roundw
            case rel => exact ⟨i + 1, x, em, rfl, rfl, by go_num, by omega, by omega, by omega, hx, HB.out, HP2.out⟩
            case measure => simp [intOf] <;> omega
          · have hlt : x < le := hc.resolve_left hl0
            have hl1 : decide ((x : Int) < (le : Int)) = true := decide_eq_true (by omega)
            have hl2 : ((le : Int) == 0) = false := by simpa using hl0
            clear hc
            go_wp2
            go_roundw
            case rel => exact ⟨i + 1, x, em, rfl, rfl, by go_num, by omega, by omega, by omega, hx, HB.out, HP2.out⟩
            case measure => simp [intOf] <;> omega
        · rw [if_neg hc] at hr
          have HP2 := Lib.hid hr
          have hl0 : ¬ le = 0 := fun h => hc (.inl h)
          have hlt : ¬ x < le := fun h => hc (.inr h)
          have hl1 : decide ((x : Int) < (le : Int)) = false := decide_eq_false (by omega)
          have hl2 : ((le : Int) == 0) = false := by simpa using hl0
          clear hr HP hc
          go_wp2
          go_roundw
          case rel => exact ⟨i + 1, le, em, rfl, rfl, by go_num, by omega, by omega, by omega, hle, HB.out, HP2.out⟩
          case measure => simp [intOf] <;> omega
    · obtain rfl : i = n := by omega
      have h3 : decide ((i : Int) < (i : Int)) = false := by simp
      have hr := HP.out
      rw [List.drop_of_length_le (by rw [HN.out]; exact Nat.le_refl _)] at hr
      have hr2 : ((em, le, decide (0 ≤ em)) : Int × Nat × Bool) = (R1, R2, R3) := hr
      injection hr2 with r1 hr2
      injection hr2 with r2 r3
      subst r1; subst r2
      have HR3 := Lib.hid r3
      clear hr r3 HP HR
      go_wp2
      go_ret3
      exact ⟨by rw [← HR3.out]; rfl, HB.out⟩
end Go.Proofs.Ytcdfinkefahloaa

