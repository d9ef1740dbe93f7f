/- Plain: the profile of valid records is fit for the choice of a method. -/
import Derived.Test.YtkjmngdcfheojaaJa
import Derived.Test.YtkjmngdcfheojaaSr
import Derived.Test.YtkjmngdcfheojaaPp
namespace Go.Proofs.Ytkjmngdcfheojaa
open Go.RowKit Go.Sort
set_option linter.unusedVariables false

theorem implProfileOf_both (a : Option Addr) (cap : Nat) (rs : List (Int × Int)) (w : World) (hbig : rs.length ≤ 9223372036854775807) (h : RecsAt w a rs) :
    Calls Try.prog 50 #[.slice a rs.length cap] w fun e w' => e = .returned (.tuple #[prV rs, .bool (okRecs rs)]) ∧ Below w.heap.size w w' := by
  by_cases hh : okRecs rs = true ∧ 0 < rs.length
  · obtain ⟨m, hm⟩ : ∃ m, rs.length = m + 1 := ⟨rs.length - 1, by omega⟩
    have := implProfileOf_big a cap rs m w h hh.1 hm
    rw [hm]; exact this
  · exact implProfileOf_small a cap rs w hbig h hh

theorem dsc_descAt (ks : List Int) (j : Nat) : Mg.dsc ks j = descAt ks j := rfl
theorem fdesc_asc (ks : List Int) : fdesc ks = -1 ↔ Mg.cntP (Mg.dsc ks) (ks.length - 1) = 0 := by
  rw [Mg.cntP_zero]
  constructor
  · intro h j hj
    unfold fdesc at h
    cases hf : (List.range (ks.length - 1)).find? (descAt ks) with
    | none =>
      rw [List.find?_range_eq_none] at hf
      have := hf j hj
      simpa [dsc_descAt] using this
    | some m => rw [hf] at h; simp at h <;> omega
  · intro h
    exact fdesc_none (fun j hj => h j (by omega))

theorem choose_cost {c r v d g m : Int} (h : okProf c r v d g = true) (hm : inB m 1 64 = true) :
    (chooseAns c r v d g m).2.2 = true ∧ 0 ≤ (chooseAns c r v d g m).2.1 ∧ ((chooseAns c r v d g m).1 = 0 ↔ r ≤ 1) := by
  obtain ⟨h0, h1, h2, h3, h4, h5, h6, h7, h8, h9⟩ := okProf_range h
  obtain ⟨m0, m1⟩ := inB_iff.1 hm
  have u1 := (passes_bound 2 (by omega) r.toNat r (Nat.le_refl _)).1
  have u2 := (passes_bound 2 (by omega) ((c + m - 1) / m).toNat ((c + m - 1) / m) (Nat.le_refl _)).1
  have u3 : 0 ≤ c * passes r 2 := Int.mul_nonneg h0 u1
  have u4 : 0 ≤ 2 * c * (1 + passes ((c + m - 1) / m) 2) := Int.mul_nonneg (by omega) (by omega)
  unfold chooseAns
  rw [h, hm]
  simp only [Bool.and_self, if_true]
  split
  · exact ⟨rfl, by show (0 : Int) ≤ 0; omega, ⟨fun _ => by assumption, fun _ => rfl⟩⟩
  split
  · exact ⟨rfl, by show (0 : Int) ≤ v + c; omega, ⟨fun e => by simp at e, fun e => by contradiction⟩⟩
  split
  · exact ⟨rfl, by show (0 : Int) ≤ c + g; omega, ⟨fun e => by simp at e, fun e => by contradiction⟩⟩
  split
  · exact ⟨rfl, u3, ⟨fun e => by simp at e, fun e => by contradiction⟩⟩
  · exact ⟨rfl, u4, ⟨fun e => by simp at e, fun e => by contradiction⟩⟩

/-- The profile of valid records. -/
theorem prof_fit (rs : List (Int × Int)) (hok : okRecs rs = true) :
    ∃ c r v d g : Int, prV rs = .agg #[.int .i64 c, .int .i64 r, .int .i64 v, .int .i64 d, .int .i64 g] ∧ okProf c r v d g = true ∧ (r ≤ 1 ↔ (fdAns rs).1 = -1) ∧ (v = 0 ↔ (fdAns rs).1 = -1) ∧ (fdAns rs).2 = true := by
  have hl := okRecs_len hok
  have hfd : (fdAns rs).1 = -1 ↔ Mg.cntP (Mg.dsc (keysL rs)) ((keysL rs).length - 1) = 0 := by
    rw [← fdesc_asc]
    unfold fdAns
    rw [hok]
    rcases fdesc_range (keysL rs) with h | h
    · simp [h]
    · simp only [if_true]
      rw [if_neg (by omega)]
      simp only
      omega
  have hf2 : (fdAns rs).2 = true := by
    unfold fdAns; rw [hok]; simp only [if_true]; split <;> rfl
  have hkl := keysL_len rs
  by_cases hn : 0 < rs.length
  · have hinv := Mg.inv_two (keysL rs)
    have hid := Mg.inv_dsc (keysL rs)
    have hor := Mg.oth_range (s := Mg.srtI (keysL rs)) (Mg.srt_asc Mg.swI _) (rs.length - 1) (by rw [srtI_len, hkl]; omega)
    have hd := Mg.cntP_le (Mg.dsc (keysL rs)) (rs.length - 1)
    have hu := Mg.cntP_le (Mg.oth (Mg.srtI (keysL rs))) (rs.length - 1)
    have hrg : ∀ j, j < rs.length → -100000 ≤ (Mg.srtI (keysL rs)).getD j 0 ∧ (Mg.srtI (keysL rs)).getD j 0 ≤ 100000 := fun j hj => by
      have hj' : j < (Mg.srtI (keysL rs)).length := by rw [srtI_len, hkl]; exact hj
      rw [List.getD_eq_getElem?_getD, List.getElem?_eq_getElem hj']
      exact keys_range hok _ ((Mg.srt_mem (lt := Mg.ltI)).1 (List.getElem_mem hj'))
    have g1 := hrg (rs.length - 1) (by omega)
    have g0 := hrg 0 hn
    rw [hkl] at hinv hid hfd
    refine ⟨_, _, _, _, _, if_pos ⟨hok, hn⟩, ?_, ?_, ?_, hf2⟩
    · generalize Mg.cntP (Mg.dsc (keysL rs)) (rs.length - 1) = D at *
      generalize Mg.cntP (Mg.oth (Mg.srtI (keysL rs))) (rs.length - 1) = U at *
      generalize Mg.inv (keysL rs) = V at *
      generalize (Mg.srtI (keysL rs)).getD (rs.length - 1) 0 = S1 at *
      generalize (Mg.srtI (keysL rs)).getD 0 0 = S0 at *
      have e2 : ((rs.length : Nat) : Int) * ((rs.length : Nat) - 1 : Int) = ((rs.length * (rs.length - 1) : Nat) : Int) := by
        rw [Int.natCast_mul, Int.natCast_sub (by omega)]; rfl
      have e3 : (V : Int) ≤ ((rs.length : Nat) : Int) * (((rs.length : Nat) : Int) - 1) / 2 := by
        rw [e2]; omega
      unfold okProf
      rw [if_neg (by omega)]
      have a1 : inB ((rs.length : Nat) : Int) 0 64 = true := inB_iff.2 ⟨by omega, by omega⟩
      have a2 : inB ((D : Int) + 1) 1 (rs.length : Nat) = true := inB_iff.2 ⟨by omega, by omega⟩
      have a3 : inB ((U : Int) + 1) 1 (rs.length : Nat) = true := inB_iff.2 ⟨by omega, by omega⟩
      have a4 : inB (V : Int) 0 (((rs.length : Nat) : Int) * (((rs.length : Nat) : Int) - 1) / 2) = true := inB_iff.2 ⟨by omega, e3⟩
      have a5 : inB (S1 - S0 + 1) ((U : Int) + 1) 200001 = true := inB_iff.2 ⟨by omega, by omega⟩
      have a6 : (decide ((V : Int) = 0) == decide ((D : Int) + 1 = 1)) = true := by
        by_cases q : V = 0
        · rw [decide_eq_true (by omega), decide_eq_true (by have := hid.1 q; omega)]; rfl
        · rw [decide_eq_false (by omega), decide_eq_false (by intro e; exact q (hid.2 (by omega)))]; rfl
      rw [a1, a2, a3, a4, a5, a6]; rfl
    · rw [hfd]; omega
    · rw [hfd, ← hid]; omega
  · have hz : rs = [] := List.eq_nil_of_length_eq_zero (by omega)
    subst hz
    refine ⟨0, 0, 0, 0, 0, if_neg (by simp), by decide, ?_, ?_, hf2⟩
    · rw [hfd]; simp [keysL, Mg.cntP]
    · rw [hfd]; simp [keysL, Mg.cntP]

end Go.Proofs.Ytkjmngdcfheojaa
