/- Several texts in one: lemmas and walks of the functions that the law reaches. -/
import Derived.Test.YtbgmbanebmlghaaGreatDoorY34
import Derived.Lib.AtoiErrMem

namespace Go.Proofs.YtbgmbanebmlghaaGreatDoor
open Go.RowKit
set_option linter.unusedVariables false

/-- What is asked of the package-level variables. -/
structure Env (w : World) : Prop where
  tab : Tab w
  mx : ∃ m, w.cell? ⟨0, 0, none⟩ = some (.int .i64 m)
  sy : ∃ t p, w.cell? ⟨4, 0, none⟩ = some (.iface t p)
theorem Env.below {w w' : World} (h : Env w) (hb : Below w.heap.size w w') : Env w' := by
  obtain ⟨m, hm⟩ := h.mx
  obtain ⟨t, p, hs⟩ := h.sy
  exact ⟨h.tab.below hb, ⟨m, (bcell hb (World.block_lt_of_cell? w _ hm)).trans hm⟩, ⟨t, p, (bcell hb (World.block_lt_of_cell? w _ hs)).trans hs⟩⟩

set_option maxHeartbeats 400000 in
theorem formatInt_any (n : Int) (w : World) (ht : Tab w) :
    Calls Tryz.prog 16 #[.int .i64 n] w fun e w' => e = .returned (.tuple #[.string (if inB n (-999999) 999999 then numB n else ⟨#[]⟩), .bool (inB n (-999999) 999999)]) ∧ Below w.heap.size w w' := by
  have HI := Lib.hid (fun w => in_any n (-999999) 999999 w)
  have HB := Lib.hid (fun (h : inB n (-999999) 999999 = true) => itoaB_any n w (by simp only [inB, Bool.and_eq_true, decide_eq_true_eq] at h; omega) (by simp only [inB, Bool.and_eq_true, decide_eq_true_eq] at h; omega) ht)
  cases h : inB n (-999999) 999999
  all_goals rw [h] at HI
  case false =>
    clear h
    go_enter Tryz.func16, Tryz.ntmps16
    go_wp2_with fail
    refine (HI.out _).mono ?_
    rintro e w1 ⟨rfl, rfl⟩
    go_wp2
    go_ret2
    exact ⟨rfl, Below.refl _ _⟩
  have HC := Lib.hid (HB.out h)
  clear h
  go_enter Tryz.func16, Tryz.ntmps16
  go_wp2_with fail
  refine (HI.out _).mono ?_
  rintro e w1 ⟨rfl, rfl⟩
  go_wp2_with fail
  refine HC.out.mono ?_
  rintro e w1 ⟨rfl, hb⟩
  have HB1 := Lib.hid hb; clear hb
  go_wp2
  go_ret2
  exact ⟨rfl, HB1.out⟩

theorem atoi_err_any (s : ByteArray) (w : World) (hl : s.size ≤ 18) (h : Lib.atoi (bs s) = none) (he : Env w) :
    Calls Tryz.prog 189 #[.string s] w fun e w' => ∃ t p, e = .returned (.tuple #[.int .i64 0, .iface t p]) ∧ Below w.heap.size w w' := by
  obtain ⟨t, p, hs⟩ := he.sy
  refine (Tryz.strconv_Atoi_err s hl h _ w hs (.inr ⟨t, p, rfl⟩)).mono ?_
  rintro e w' ⟨N, rfl, _, _, hb⟩
  exact ⟨_, _, rfl, hb⟩
theorem atoi_ok_any (s : ByteArray) (n : Int) (w : World) (hl : s.size ≤ 18) (h : Lib.atoi (bs s) = some n) :
    Calls Tryz.prog 189 #[.string s] w fun e w' => e = .returned (.tuple #[.int .i64 n, .nilIface]) ∧ Below w.heap.size w w' := by
  refine (Tryz.strconv_Atoi s n hl h w).mono ?_
  rintro e w' ⟨rfl, t, rfl⟩
  exact ⟨rfl, Lib.bytesWorld_below _ _ _⟩

end Go.Proofs.YtbgmbanebmlghaaGreatDoor

namespace Go.Proofs.YtbgmbanebmlghaaGreatDoor
open Go.RowKit
set_option linter.unusedVariables false

theorem atoi_itoa (k : Int) : Lib.atoi (Lib.itoa k) = some k := by
  unfold Lib.itoa
  split
  · have h := Cf.decFrom_digits k.natAbs
    obtain ⟨d, t, hd, _⟩ := Cf.digits_cons k.natAbs
    rw [hd] at h ⊢
    have e : Lib.atoi (45 :: d :: t) = (Lib.decNat (d :: t)).map fun (m : Nat) => -(m : Int) := rfl
    rw [e]
    rename_i hk _
    rw [show Lib.decNat (d :: t) = some k.natAbs from h, Option.map_some, Int.ofNat_natAbs_of_nonpos (by omega), Int.neg_neg]
  · rename_i hk
    rw [Cf.atoi_digits, Int.toNat_of_nonneg (by omega)]
theorem itoa_len7 {k : Int} (h1 : -999999 ≤ k) (h2 : k ≤ 999999) : (Lib.itoa k).length ≤ 7 := by
  unfold Lib.itoa
  split
  · have := Tx.digits_len 5 k.natAbs (by omega)
    rw [List.length_cons]; omega
  · have := Tx.digits_len 5 k.toNat (by omega)
    omega
/-- The number of a text, if it is a number's own text. -/
def pNum (s : List UInt8) : Option Int := match Lib.atoi s with
  | some n => if -999999 ≤ n ∧ n ≤ 999999 ∧ Lib.itoa n = s then some n else none
  | none => none
theorem pNum_itoa {k : Int} (h1 : -999999 ≤ k) (h2 : k ≤ 999999) : pNum (Lib.itoa k) = some k := by
  unfold pNum
  rw [atoi_itoa]
  exact if_pos ⟨h1, h2, rfl⟩
theorem pNum_some {s : List UInt8} {n : Int} (h : pNum s = some n) : -999999 ≤ n ∧ n ≤ 999999 ∧ Lib.itoa n = s := by
  unfold pNum at h
  split at h
  · split at h
    · rename_i hc
      injection h with h
      subst h; exact hc
    · cases h
  · cases h
/-- What reading a number says, exactly. -/
def RdX (s : ByteArray) (n : Int) (ok : Bool) : Prop := (-999999 ≤ n ∧ n ≤ 999999) ∧ (ok = true → bs s = Lib.itoa n) ∧ (ok = false → n = 0) ∧ ∀ k : Int, -999999 ≤ k → k ≤ 999999 → bs s = Lib.itoa k → n = k ∧ ok = true
theorem RdX.eq {s : ByteArray} {n : Int} {ok : Bool} (h : RdX s n ok) : n = (pNum (bs s)).getD 0 ∧ ok = (pNum (bs s)).isSome := by
  obtain ⟨⟨h1, h2⟩, h3, h4, h5⟩ := h
  cases ok with
  | true =>
    have e := h3 rfl
    rw [e, pNum_itoa h1 h2]
    exact ⟨rfl, rfl⟩
  | false =>
    cases hp : pNum (bs s) with
    | none => exact ⟨h4 rfl, rfl⟩
    | some k =>
      obtain ⟨k1, k2, k3⟩ := pNum_some hp
      have := (h5 k k1 k2 k3.symm).2
      cases this

def PxEnd (s : ByteArray) (w : World) (e : Ending) (w' : World) : Prop := ∃ (n : Int) (ok : Bool), e = .returned (.tuple #[.int .i64 n, .bool ok]) ∧ RdX s n ok ∧ Below w.heap.size w w'
set_option maxRecDepth 100000 in
set_option maxHeartbeats 2000000 in
theorem parseIntX_any (s : ByteArray) (w : World) (he : Env w) :
    Calls Tryz.prog 142 #[.string s] w (PxEnd s w) := by
  by_cases hs : s.size ≤ 7
  case neg =>
    have HR : Hid (RdX s 0 false) := ⟨by omega, (fun h => by cases h), fun _ => rfl, fun k h1 h2 hd => by
      have := itoa_len7 h1 h2
      rw [← hd, bs_len] at this; omega⟩
    have q : decide ((7 : Int) < (s.size : Int)) = true := decide_eq_true (by omega)
    go_enter Tryz.func142, Tryz.ntmps142
    go_wp2
    go_ret2
    exact ⟨0, false, rfl, HR.out, Below.refl _ _⟩
  have q : decide ((7 : Int) < (s.size : Int)) = false := decide_eq_false (by omega)
  have HE := Lib.hid he
  cases ha : Lib.atoi (bs s) with
  | none =>
    have HR : Hid (RdX s 0 false) := ⟨by omega, (fun h => by cases h), fun _ => rfl, fun k h1 h2 hd => by
      have := atoi_itoa k
      rw [← hd, ha] at this; cases this⟩
    have HA := Lib.hid (atoi_err_any s w (by omega) ha he)
    have HF := Lib.hid (fun w ht => formatInt_any 0 w ht)
    clear ha he
    go_enter Tryz.func142, Tryz.ntmps142
    go_wp2_with fail
    refine HA.out.mono ?_
    rintro e w1 ⟨t, p, rfl, hb⟩
    have HB := Lib.hid hb
    have HT := Lib.hid (HE.out.tab.below hb)
    clear hb
    go_wp2_with fail
    refine (HF.out _ HT.out).mono ?_
    rintro e w2 ⟨rfl, hb⟩
    have HB2 := Lib.hid (below_trI HB.out hb HB.out.size)
    clear hb
    go_wp2
    go_ret2
    exact ⟨0, false, rfl, HR.out, HB2.out⟩
  | some n =>
    have HA := Lib.hid (atoi_ok_any s n w (by omega) ha)
    have HF := Lib.hid (fun w ht => formatInt_any n w ht)
    cases hin : inB n (-999999) 999999
    all_goals rw [hin] at HF
    case false =>
      have HR : Hid (RdX s 0 false) := ⟨by omega, (fun h => by cases h), fun _ => rfl, fun k h1 h2 hd => by
        have := atoi_itoa k
        rw [← hd, ha] at this
        injection this with this
        subst this
        simp [inB] at hin; omega⟩
      clear ha he hin
      go_enter Tryz.func142, Tryz.ntmps142
      go_wp2_with fail
      refine HA.out.mono ?_
      rintro e w1 ⟨rfl, hb⟩
      have HB := Lib.hid hb
      have HT := Lib.hid (HE.out.tab.below hb)
      clear hb
      go_wp2_with fail
      refine (HF.out _ HT.out).mono ?_
      rintro e w2 ⟨rfl, hb⟩
      have HB2 := Lib.hid (below_trI HB.out hb HB.out.size)
      clear hb
      go_wp2
      go_ret2
      exact ⟨0, false, rfl, HR.out, HB2.out⟩
    have hrng : -999999 ≤ n ∧ n ≤ 999999 := by simp only [inB, Bool.and_eq_true, decide_eq_true_eq] at hin; omega
    have HRt : Hid (((numB n).toList == s.toList) = true → RdX s n true) := fun hq => ⟨hrng, fun _ => by
      have e := beq_iff_eq.1 hq
      rw [bs_toList, bs_toList] at e
      exact e.symm, (fun h => by cases h), fun k h1 h2 hd => by
      have := atoi_itoa k
      rw [← hd, ha] at this
      injection this with this
      exact ⟨this, rfl⟩⟩
    have HRf : Hid (((numB n).toList == s.toList) = false → RdX s 0 false) := fun hq => ⟨by omega, (fun h => by cases h), fun _ => rfl, fun k h1 h2 hd => by
      exfalso
      have := atoi_itoa k
      rw [← hd, ha] at this
      injection this with this
      have e : numB n = s := by
        unfold numB
        rw [← ba_bs s, hd, this]
      rw [e] at hq
      simp at hq⟩
    clear ha he hin hrng
    cases hq : ((numB n).toList == s.toList)
    case false =>
      have HR := Lib.hid (HRf.out hq)
      have hq2 : (!((numB n).toList == s.toList)) = true := by rw [hq]; rfl
      clear HRt HRf
      go_enter Tryz.func142, Tryz.ntmps142
      go_wp2_with fail
      refine HA.out.mono ?_
      rintro e w1 ⟨rfl, hb⟩
      have HB := Lib.hid hb
      have HT := Lib.hid (HE.out.tab.below hb)
      clear hb
      go_wp2_with fail
      refine (HF.out _ HT.out).mono ?_
      rintro e w2 ⟨rfl, hb⟩
      have HB2 := Lib.hid (below_trI HB.out hb HB.out.size)
      clear hb
      go_wp2
      go_ret2
      exact ⟨0, false, rfl, HR.out, HB2.out⟩
    · have HR := Lib.hid (HRt.out hq)
      have hq2 : (!((numB n).toList == s.toList)) = false := by rw [hq]; rfl
      clear HRt HRf
      go_enter Tryz.func142, Tryz.ntmps142
      go_wp2_with fail
      refine HA.out.mono ?_
      rintro e w1 ⟨rfl, hb⟩
      have HB := Lib.hid hb
      have HT := Lib.hid (HE.out.tab.below hb)
      clear hb
      go_wp2_with fail
      refine (HF.out _ HT.out).mono ?_
      rintro e w2 ⟨rfl, hb⟩
      have HB2 := Lib.hid (below_trI HB.out hb HB.out.size)
      clear hb
      go_wp2
      go_ret2
      exact ⟨n, true, rfl, HR.out, HB2.out⟩

theorem parseX_any (s : ByteArray) (w : World) (he : Env w) :
    Calls Tryz.prog 142 #[.string s] w fun e w' => e = .returned (.tuple #[.int .i64 ((pNum (bs s)).getD 0), .bool (pNum (bs s)).isSome]) ∧ Below w.heap.size w w' := by
  refine (parseIntX_any s w he).mono ?_
  rintro e w' ⟨n, ok, rfl, hr, hb⟩
  obtain ⟨rfl, rfl⟩ := hr.eq
  exact ⟨rfl, hb⟩
end Go.Proofs.YtbgmbanebmlghaaGreatDoor

