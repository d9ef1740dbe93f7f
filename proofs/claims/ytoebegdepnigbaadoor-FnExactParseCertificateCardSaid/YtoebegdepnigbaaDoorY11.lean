/- Several texts in one: lemmas and walks of the functions that the laws reach. -/
import Derived.Test.YtoebegdepnigbaaDoorY10
import Derived.Test.YtoebegdepnigbaaDoorY9
import Derived.Test.YtoebegdepnigbaaDoorY4
import Derived.Test.YtoebegdepnigbaaDoorY7
import Derived.Stop.LaidErr
import Derived.Handed
import Derived.Shelf.Vars
import Derived.Test.YtoebegdepnigbaaDoorRows
import Derived.Lay
import Derived.LaidMore
import Derived.Stop.Joined
import Derived.MakeChecks
import Derived.Lib.LaidTab

/- Walks: a number out of a text, by the reference. -/
namespace Go.Proofs.YtoebegdepnigbaaDoor
open Go.RowKit
set_option linter.unusedVariables false

theorem decFrom_bound : ∀ (l : List UInt8) (m v : Nat), Lib.decFrom m l = some v → v < (m + 1) * 10 ^ l.length
  | [], m, v, h => by simp only [Lib.decFrom] at h; injection h with h; simp; omega
  | b :: l, m, v, h => by
    rw [Lib.decFrom.eq_2] at h
    cases hb : Lib.digitVal b with
    | none => rw [hb] at h; simp at h
    | some d =>
      rw [hb] at h
      simp only at h
      have ih := decFrom_bound l _ _ h
      have hd : d ≤ 9 := by
        unfold Lib.digitVal at hb
        split at hb
        · injection hb with hb; omega
        · cases hb
      rw [List.length_cons, Nat.pow_succ]
      have h1 : (m * 10 + d + 1) * 10 ^ l.length ≤ ((m + 1) * 10) * 10 ^ l.length := Nat.mul_le_mul_right _ (by omega)
      have h2 : ((m + 1) * 10) * 10 ^ l.length = (m + 1) * (10 ^ l.length * 10) := by rw [Nat.mul_assoc, Nat.mul_comm 10]
      omega
theorem digitVal_iff (b : UInt8) : Lib.digitVal b = if 48 ≤ b.toNat ∧ b.toNat ≤ 57 then some (b.toNat - 48) else none := rfl

theorem take_get {u : ByteArray} {k : Nat} (hk : k < u.size) : (bs u).take (k + 1) = (bs u).take k ++ [u[k]] := bs_take u k hk
theorem decFrom_snoc {l : List UInt8} {v : Nat} {b : UInt8} (h : Lib.decFrom 0 l = some v) (hb : 48 ≤ b.toNat ∧ b.toNat ≤ 57) : Lib.decFrom 0 (l ++ [b]) = some (v * 10 + (b.toNat - 48)) := by
  rw [Cf.decFrom_app _ _ _ _ h, Lib.decFrom.eq_2, digitVal_iff, if_pos hb]; rfl
theorem mem_at {u : ByteArray} {k : Nat} (hk : k < u.size) : u[k] ∈ bs u := by
  have : (bs u)[k]? = some u[k] := by
    have h := take_get hk
    have h2 := congrArg (fun l => l[k]?) h
    have hl : ((bs u).take k).length = k := by rw [List.length_take, bs_len]; omega
    rw [List.getElem?_append_right (by omega), hl, Nat.sub_self] at h2
    rw [List.getElem?_take, if_pos (by omega)] at h2
    simpa using h2
  exact List.mem_of_getElem? this
def RdU (s u : ByteArray) (neg : Bool) : Prop := ∀ k : Nat, k ≤ 999999 → bs s = Lib.decDigits k → u = s ∧ neg = false
theorem rd_none {s u : ByteArray} {neg : Bool} (hu : RdU s u neg) (h : ¬ (1 ≤ u.size ∧ u.size ≤ 6)) : RdNum s 0 false := ⟨by omega, fun k hk hd => by
  obtain ⟨rfl, _⟩ := hu k hk hd
  exfalso
  have h1 := Tx.digits_len 5 k (by omega)
  have h2 := Tx.digits_pos k
  rw [← hd, bs_len] at h1 h2
  omega⟩
theorem rd_bad {s u : ByteArray} {neg : Bool} (hu : RdU s u neg) {k : Nat} (hk : k < u.size) (h : ¬ (48 ≤ u[k].toNat ∧ u[k].toNat ≤ 57)) : RdNum s 0 false := ⟨by omega, fun q hq hd => by
  obtain ⟨rfl, _⟩ := hu q hq hd
  exfalso
  have := mem_at hk
  rw [hd] at this
  exact h (Tx.digits_range q _ this)⟩
theorem rd_val {s u : ByteArray} {neg : Bool} (hu : RdU s u neg) {v : Nat} (hv : Lib.decFrom 0 (bs u) = some v) {k : Nat} (hk : k ≤ 999999) (hd : bs s = Lib.decDigits k) : v = k ∧ neg = false := by
  obtain ⟨rfl, e⟩ := hu k hk hd
  rw [hd, Cf.decFrom_digits] at hv
  exact ⟨(Option.some.inj hv).symm, e⟩
theorem rd_end {s u : ByteArray} {neg : Bool} (hu : RdU s u neg) {v : Nat} (hv : Lib.decFrom 0 (bs u) = some v) (hs : v ≤ 999999) : RdNum s (if neg then -(v : Int) else v) true := by
  refine ⟨by split <;> omega, fun k hk hd => ?_⟩
  obtain ⟨e1, e2⟩ := rd_val hu hv hk hd
  rw [e2, e1]; exact ⟨rfl, rfl⟩
theorem rd_ne {s u : ByteArray} {neg : Bool} (hu : RdU s u neg) {v : Nat} (hv : Lib.decFrom 0 (bs u) = some v) (h : ((numB (if neg then -(v : Int) else v)).toList == s.toList) = false) : RdNum s 0 false := ⟨by omega, fun k hk hd => by
  exfalso
  obtain ⟨e1, e2⟩ := rd_val hu hv hk hd
  rw [e2, e1] at h
  have e : numB (k : Int) = s := by
    unfold numB
    rw [itoa_nat, ← hd, ba_bs]
  rw [if_neg (by decide), e] at h
  simp at h⟩
theorem dec_le {u : ByteArray} (h6 : u.size ≤ 6) {k v : Nat} (hk : k ≤ u.size) (h : Lib.decFrom 0 ((bs u).take k) = some v) : v ≤ 999999 := by
  have h1 := decFrom_bound _ _ _ h
  have h2 : ((bs u).take k).length ≤ 6 := by rw [List.length_take]; omega
  have h3 : 10 ^ ((bs u).take k).length ≤ 10 ^ 6 := Nat.pow_le_pow_right (by decide) h2
  omega

set_option maxRecDepth 100000 in
set_option maxHeartbeats 4000000 in
theorem l1Read_neg (s : ByteArray) (w : World) (hs : s.size ≤ 1048576) (h1 : 1 < s.size) (h0 : (s[0]'(by omega)).toNat = 45) :
    Calls Tryd.prog 45 #[.string s] w (PiEnd s w) := by
  have q45 : (((s[0]'(by omega)).toNat : Int) == 45) = true := by simp; omega
  obtain ⟨u, hu⟩ : ∃ u, s.extract 1 s.size = u := ⟨_, rfl⟩
  have hul : u.size = s.size - 1 := by rw [← hu, ByteArray.size_extract]; omega
  have HU : Hid (RdU s u true) := fun k hk hd => by
    exfalso
    have hm := mem_at (u := s) (k := 0) (by omega)
    rw [hd] at hm
    have := Tx.digits_range k _ hm
    omega
  have HI := Lib.hid (fun w => l1In_any (u.size : Int) 1 6 w)
  have q9 : decide ((u.size : Int) < (s.size : Int)) = true := decide_eq_true (by omega)
  have q10 : u.size < s.size := by omega
  clear hul
  by_cases h16 : 1 ≤ u.size ∧ u.size ≤ 6
  case neg =>
    have HR := Lib.hid (rd_none HU.out h16)
    have q1 : inB (u.size : Int) 1 6 = false := by simp only [inB, Bool.and_eq_false_iff, decide_eq_false_iff_not]; omega
    rw [q1] at HI
    clear h16 q1
    go_enter Tryd.func45, Tryd.ntmps45
    go_wp2_with fail
    refine (HI.out _).mono ?_
    rintro e w1 ⟨rfl, rfl⟩
    go_wp2
    go_ret2
    exact ⟨0, false, rfl, HR.out, Below.refl _ _⟩
  have q1 : inB (u.size : Int) 1 6 = true := by simp only [inB, Bool.and_eq_true, decide_eq_true_eq]; omega
  rw [q1] at HI
  obtain ⟨u1, u6⟩ := h16
  clear q1
  go_enter Tryd.func45, Tryd.ntmps45
  go_wp2_with fail
  refine (HI.out _).mono ?_
  rintro e w1 ⟨rfl, rfl⟩
  go_wp2
  go_loop [5, 6] (fun n i => ∃ k v : Nat, k ≤ u.size ∧ n = .int .i64 v ∧ i = .int .i64 k ∧ Hid (Lib.decFrom 0 ((bs u).take k) = some v)) (fun _ i => u.size - (intOf i).toNat)
  case atStart => exact ⟨0, 0, by omega, rfl, rfl, Lib.hid (by simp [Lib.decFrom])⟩
  case round =>
    obtain ⟨k, v, hk, rfl, rfl, HV⟩ := hrel
    have hv := dec_le u6 hk HV.out
    by_cases hlt : k < u.size
    · have hb256 : u[k].toNat < 256 := UInt8.toNat_lt _
      have q2 : decide ((k : Int) < (u.size : Int)) = true := decide_eq_true (by omega)
      have b0 : (0 : Int) ≤ (k : Int) := by omega
      by_cases hdg : 48 ≤ u[k].toNat ∧ u[k].toNat ≤ 57
      · obtain ⟨d0, d1⟩ := hdg
        have HV2 : Hid (Lib.decFrom 0 ((bs u).take (k + 1)) = some (v * 10 + (u[k].toNat - 48))) := by
          show _ = _
          rw [take_get hlt]; exact decFrom_snoc HV.out ⟨d0, d1⟩
        have q3 : decide ((u[k].toNat : Int) < 48) = false := decide_eq_false (by omega)
        have q4 : decide ((57 : Int) < (u[k].toNat : Int)) = false := decide_eq_false (by omega)
        have q5 : IntKind.u8.wrap ((u[k].toNat : Int) - 48) = (u[k].toNat : Int) - 48 := IntWalk.u8_in _ (by omega)
        have q6 : IntKind.i64.wrap ((u[k].toNat : Int) - 48) = (u[k].toNat : Int) - 48 := IntWalk.i64_in _ (by omega)
        have q7 : 10 * (v : Int) + ((u[k].toNat : Int) - 48) = ((v * 10 + (u[k].toNat - 48) : Nat) : Int) := by omega
        go_wp2
        go_round
        case rel => exact ⟨k + 1, v * 10 + (u[k].toNat - 48), by omega, by first | (rw [q7]; done) | (congr 1; omega) | go_num, by go_num, HV2⟩
        case measure => simp [intOf]; omega
      · have HR := Lib.hid (rd_bad HU.out hlt hdg)
        by_cases hd0 : u[k].toNat < 48
        all_goals
          go_wp2
          go_ret2
          exact ⟨0, false, rfl, HR.out, Below.refl _ _⟩
    · obtain rfl : k = u.size := by omega
      have hva : Lib.decFrom 0 (bs u) = some v := by have h := HV.out; rw [bs_all] at h; exact h
      have q2 : decide ((u.size : Int) < (u.size : Int)) = false := decide_eq_false (by omega)
      have HN := Lib.hid (fun w => l1NumB_any (-(v : Int)) w (by omega) (by omega))
      have HRt := Lib.hid (rd_end HU.out hva hv)
      have HRf := Lib.hid (fun h => rd_ne (neg := true) HU.out hva h)
      clear HV hva
      cases hq : ((numB (-(v : Int))).toList == s.toList)
      case false =>
        have hq2 : (!((numB (-(v : Int))).toList == s.toList)) = true := by rw [hq]; rfl
        have HR := Lib.hid (HRf.out hq)
        go_wp2_with fail
        refine (HN.out _).mono ?_
        rintro e w2 ⟨rfl, m, rfl⟩
        go_wp2
        go_ret2
        exact ⟨0, false, rfl, HR.out, below_drewN (Below.refl _ _) _⟩
      · have hq2 : (!((numB (-(v : Int))).toList == s.toList)) = false := by rw [hq]; rfl
        go_wp2_with fail
        refine (HN.out _).mono ?_
        rintro e w2 ⟨rfl, m, rfl⟩
        go_wp2
        go_ret2
        exact ⟨_, true, rfl, HRt.out, below_drewN (Below.refl _ _) _⟩

set_option maxRecDepth 100000 in
set_option maxHeartbeats 4000000 in
theorem l1Read_pos (s : ByteArray) (w : World) (hs : s.size ≤ 1048576) (h1 : 1 < s.size) (h0 : (s[0]'(by omega)).toNat ≠ 45) :
    Calls Tryd.prog 45 #[.string s] w (PiEnd s w) := by
  have q45 : (((s[0]'(by omega)).toNat : Int) == 45) = false := by rw [beq_eq_false_iff_ne]; omega
  have HU : Hid (RdU s s false) := fun k hk hd => ⟨rfl, rfl⟩
  have HI := Lib.hid (fun w => l1In_any (s.size : Int) 1 6 w)
  by_cases h16 : 1 ≤ s.size ∧ s.size ≤ 6
  case neg =>
    have HR := Lib.hid (rd_none HU.out h16)
    have q1 : inB (s.size : Int) 1 6 = false := by simp only [inB, Bool.and_eq_false_iff, decide_eq_false_iff_not]; omega
    rw [q1] at HI
    clear h16 q1
    go_enter Tryd.func45, Tryd.ntmps45
    go_wp2_with fail
    refine (HI.out _).mono ?_
    rintro e w1 ⟨rfl, rfl⟩
    go_wp2
    go_ret2
    exact ⟨0, false, rfl, HR.out, Below.refl _ _⟩
  have q1 : inB (s.size : Int) 1 6 = true := by simp only [inB, Bool.and_eq_true, decide_eq_true_eq]; omega
  rw [q1] at HI
  obtain ⟨u1, u6⟩ := h16
  clear q1
  go_enter Tryd.func45, Tryd.ntmps45
  go_wp2_with fail
  refine (HI.out _).mono ?_
  rintro e w1 ⟨rfl, rfl⟩
  go_wp2
  go_loop [5, 6] (fun n i => ∃ k v : Nat, k ≤ s.size ∧ n = .int .i64 v ∧ i = .int .i64 k ∧ Hid (Lib.decFrom 0 ((bs s).take k) = some v)) (fun _ i => s.size - (intOf i).toNat)
  case atStart => exact ⟨0, 0, by omega, rfl, rfl, Lib.hid (by simp [Lib.decFrom])⟩
  case round =>
    obtain ⟨k, v, hk, rfl, rfl, HV⟩ := hrel
    have hv := dec_le u6 hk HV.out
    by_cases hlt : k < s.size
    · have hb256 : s[k].toNat < 256 := UInt8.toNat_lt _
      have q2 : decide ((k : Int) < (s.size : Int)) = true := decide_eq_true (by omega)
      have b0 : (0 : Int) ≤ (k : Int) := by omega
      by_cases hdg : 48 ≤ s[k].toNat ∧ s[k].toNat ≤ 57
      · obtain ⟨d0, d1⟩ := hdg
        have HV2 : Hid (Lib.decFrom 0 ((bs s).take (k + 1)) = some (v * 10 + (s[k].toNat - 48))) := by
          show _ = _
          rw [take_get hlt]; exact decFrom_snoc HV.out ⟨d0, d1⟩
        have q3 : decide ((s[k].toNat : Int) < 48) = false := decide_eq_false (by omega)
        have q4 : decide ((57 : Int) < (s[k].toNat : Int)) = false := decide_eq_false (by omega)
        have q5 : IntKind.u8.wrap ((s[k].toNat : Int) - 48) = (s[k].toNat : Int) - 48 := IntWalk.u8_in _ (by omega)
        have q6 : IntKind.i64.wrap ((s[k].toNat : Int) - 48) = (s[k].toNat : Int) - 48 := IntWalk.i64_in _ (by omega)
        have q7 : 10 * (v : Int) + ((s[k].toNat : Int) - 48) = ((v * 10 + (s[k].toNat - 48) : Nat) : Int) := by omega
        go_wp2
        go_round
        case rel => exact ⟨k + 1, v * 10 + (s[k].toNat - 48), by omega, by first | (rw [q7]; done) | (congr 1; omega) | go_num, by go_num, HV2⟩
        case measure => simp [intOf]; omega
      · have HR := Lib.hid (rd_bad HU.out hlt hdg)
        by_cases hd0 : s[k].toNat < 48
        all_goals
          go_wp2
          go_ret2
          exact ⟨0, false, rfl, HR.out, Below.refl _ _⟩
    · obtain rfl : k = s.size := by omega
      have hva : Lib.decFrom 0 (bs s) = some v := by have h := HV.out; rw [bs_all] at h; exact h
      have q2 : decide ((s.size : Int) < (s.size : Int)) = false := decide_eq_false (by omega)
      have q9 : decide ((s.size : Int) < (s.size : Int)) = false := decide_eq_false (by omega)
      have HN := Lib.hid (fun w => l1NumB_any (v : Int) w (by omega) (by omega))
      have HRt := Lib.hid (rd_end HU.out hva hv)
      have HRf := Lib.hid (fun h => rd_ne (neg := false) HU.out hva h)
      clear HV hva
      cases hq : ((numB (v : Int)).toList == s.toList)
      case false =>
        have hq2 : (!((numB (v : Int)).toList == s.toList)) = true := by rw [hq]; rfl
        have HR := Lib.hid (HRf.out hq)
        go_wp2_with fail
        refine (HN.out _).mono ?_
        rintro e w2 ⟨rfl, m, rfl⟩
        go_wp2
        go_ret2
        exact ⟨0, false, rfl, HR.out, below_drewN (Below.refl _ _) _⟩
      · have hq2 : (!((numB (v : Int)).toList == s.toList)) = false := by rw [hq]; rfl
        go_wp2_with fail
        refine (HN.out _).mono ?_
        rintro e w2 ⟨rfl, m, rfl⟩
        go_wp2
        go_ret2
        exact ⟨_, true, rfl, HRt.out, below_drewN (Below.refl _ _) _⟩

set_option maxRecDepth 100000 in
set_option maxHeartbeats 4000000 in
theorem l1Read_one (s : ByteArray) (w : World) (hs : s.size ≤ 1048576) (h1 : ¬ 1 < s.size) :
    Calls Tryd.prog 45 #[.string s] w (PiEnd s w) := by
  have HU : Hid (RdU s s false) := fun k hk hd => ⟨rfl, rfl⟩
  have HI := Lib.hid (fun w => l1In_any (s.size : Int) 1 6 w)
  by_cases h16 : 1 ≤ s.size ∧ s.size ≤ 6
  case neg =>
    have HR := Lib.hid (rd_none HU.out h16)
    have q1 : inB (s.size : Int) 1 6 = false := by simp only [inB, Bool.and_eq_false_iff, decide_eq_false_iff_not]; omega
    rw [q1] at HI
    clear h16 q1
    go_enter Tryd.func45, Tryd.ntmps45
    go_wp2_with fail
    refine (HI.out _).mono ?_
    rintro e w1 ⟨rfl, rfl⟩
    go_wp2
    go_ret2
    exact ⟨0, false, rfl, HR.out, Below.refl _ _⟩
  have q1 : inB (s.size : Int) 1 6 = true := by simp only [inB, Bool.and_eq_true, decide_eq_true_eq]; omega
  rw [q1] at HI
  obtain ⟨u1, u6⟩ := h16
  clear q1
  go_enter Tryd.func45, Tryd.ntmps45
  go_wp2_with fail
  refine (HI.out _).mono ?_
  rintro e w1 ⟨rfl, rfl⟩
  go_wp2
  go_loop [5, 6] (fun n i => ∃ k v : Nat, k ≤ s.size ∧ n = .int .i64 v ∧ i = .int .i64 k ∧ Hid (Lib.decFrom 0 ((bs s).take k) = some v)) (fun _ i => s.size - (intOf i).toNat)
  case atStart => exact ⟨0, 0, by omega, rfl, rfl, Lib.hid (by simp [Lib.decFrom])⟩
  case round =>
    obtain ⟨k, v, hk, rfl, rfl, HV⟩ := hrel
    have hv := dec_le u6 hk HV.out
    by_cases hlt : k < s.size
    · have hb256 : s[k].toNat < 256 := UInt8.toNat_lt _
      have q2 : decide ((k : Int) < (s.size : Int)) = true := decide_eq_true (by omega)
      have b0 : (0 : Int) ≤ (k : Int) := by omega
      by_cases hdg : 48 ≤ s[k].toNat ∧ s[k].toNat ≤ 57
      · obtain ⟨d0, d1⟩ := hdg
        have HV2 : Hid (Lib.decFrom 0 ((bs s).take (k + 1)) = some (v * 10 + (s[k].toNat - 48))) := by
          show _ = _
          rw [take_get hlt]; exact decFrom_snoc HV.out ⟨d0, d1⟩
        have q3 : decide ((s[k].toNat : Int) < 48) = false := decide_eq_false (by omega)
        have q4 : decide ((57 : Int) < (s[k].toNat : Int)) = false := decide_eq_false (by omega)
        have q5 : IntKind.u8.wrap ((s[k].toNat : Int) - 48) = (s[k].toNat : Int) - 48 := IntWalk.u8_in _ (by omega)
        have q6 : IntKind.i64.wrap ((s[k].toNat : Int) - 48) = (s[k].toNat : Int) - 48 := IntWalk.i64_in _ (by omega)
        have q7 : 10 * (v : Int) + ((s[k].toNat : Int) - 48) = ((v * 10 + (s[k].toNat - 48) : Nat) : Int) := by omega
        go_wp2
        go_round
        case rel => exact ⟨k + 1, v * 10 + (s[k].toNat - 48), by omega, by first | (rw [q7]; done) | (congr 1; omega) | go_num, by go_num, HV2⟩
        case measure => simp [intOf]; omega
      · have HR := Lib.hid (rd_bad HU.out hlt hdg)
        by_cases hd0 : s[k].toNat < 48
        all_goals
          go_wp2
          go_ret2
          exact ⟨0, false, rfl, HR.out, Below.refl _ _⟩
    · obtain rfl : k = s.size := by omega
      have hva : Lib.decFrom 0 (bs s) = some v := by have h := HV.out; rw [bs_all] at h; exact h
      have q2 : decide ((s.size : Int) < (s.size : Int)) = false := decide_eq_false (by omega)
      have q9 : decide ((s.size : Int) < (s.size : Int)) = false := decide_eq_false (by omega)
      have HN := Lib.hid (fun w => l1NumB_any (v : Int) w (by omega) (by omega))
      have HRt := Lib.hid (rd_end HU.out hva hv)
      have HRf := Lib.hid (fun h => rd_ne (neg := false) HU.out hva h)
      clear HV hva
      cases hq : ((numB (v : Int)).toList == s.toList)
      case false =>
        have hq2 : (!((numB (v : Int)).toList == s.toList)) = true := by rw [hq]; rfl
        have HR := Lib.hid (HRf.out hq)
        go_wp2_with fail
        refine (HN.out _).mono ?_
        rintro e w2 ⟨rfl, m, rfl⟩
        go_wp2
        go_ret2
        exact ⟨0, false, rfl, HR.out, below_drewN (Below.refl _ _) _⟩
      · have hq2 : (!((numB (v : Int)).toList == s.toList)) = false := by rw [hq]; rfl
        go_wp2_with fail
        refine (HN.out _).mono ?_
        rintro e w2 ⟨rfl, m, rfl⟩
        go_wp2
        go_ret2
        exact ⟨_, true, rfl, HRt.out, below_drewN (Below.refl _ _) _⟩

theorem l1Read_any (s : ByteArray) (w : World) (hs : s.size ≤ 1048576) : Calls Tryd.prog 45 #[.string s] w (PiEnd s w) := by
  by_cases h1 : 1 < s.size
  · by_cases h0 : (s[0]'(by omega)).toNat = 45
    · exact l1Read_neg s w hs h1 h0
    · exact l1Read_pos s w hs h1 h0
  · exact l1Read_one s w hs h1

end Go.Proofs.YtoebegdepnigbaaDoor

/- Walks: a certificate out of its text, by the reference. -/
namespace Go.Proofs.YtoebegdepnigbaaDoor
open Go.RowKit
set_option linter.unusedVariables false

theorem splitL_le (c : UInt8) : ∀ (s : List UInt8), ∀ x ∈ splitL c s, x.length ≤ s.length
  | [], x, h => by simp [splitL] at h; subst h; simp
  | y :: t, x, h => by
    rw [splitL] at h
    split at h
    · rcases List.mem_cons.1 h with rfl | h
      · simp
      · have := splitL_le c t x h; simp; omega
    · split at h
      · rename_i e
        exact absurd e (Cf.splitL_ne c t)
      · rename_i hd r e
        rcases List.mem_cons.1 h with rfl | h
        · have := splitL_le c t hd (by rw [e]; simp); simp; omega
        · have := splitL_le c t x (by rw [e]; exact List.mem_cons_of_mem _ h); simp; omega
theorem pcAt_own {w : World} {base g n c : Nat} {P : List (List UInt8)} (h : w.ownsRow base 9 1 (.slice (some ⟨g, 0, none⟩) n c) n (P.map strL)) : PcAt g (P.map ba) w :=
  ⟨(h.lt g rfl).2, fun j x hx => by have := own_strs h j x hx; rwa [Nat.zero_add] at this⟩

set_option maxRecDepth 100000 in
set_option maxHeartbeats 8000000 in
theorem sParseCertificate_any (s : ByteArray) (a : Option Addr) (c : Nat) (rs : List (Int × Int)) (w : World) (hs : s.size ≤ 1048576) (hl1 : rs.length ≤ 9223372036854775807) (hR : RecsAt w a rs) :
    Calls Tryd.prog 18 #[.string s, .slice a rs.length c] w (PcEnd rs s w) := by
  have HV := Lib.hid (fun w h => l2Records_any a c rs w hl1 h)
  have HR := Lib.hid hR
  have E1 := Lib.hid (own_lit (w := w) (e := 3) (size := 1) #[] 0 (by omega) rfl)
  have HB1 := Lib.hid (below_newI w (.cells #[] 3))
  have HR1 := Lib.hid (HR.out.below (Nat.le_refl _) HB1.out)
  clear hR
  cases hok : okRecs rs
  all_goals rw [hok] at HV
  case false =>
    have HP : Hid (PAns rs s [] false) := .inr ⟨rfl, rfl, fun cs h1 h2 => by rw [(fcOk_parts h1).1] at hok; cases hok⟩
    clear hok
    go_enter Tryd.func18, Tryd.ntmps18
    go_wp2_with fail
    refine (HV.out _ HR1.out).mono ?_
    rintro e w1 ⟨rfl, rfl⟩
    go_wp2
    go_ret2
    exact ⟨_, 0, [], false, rfl, E1.out, HP.out, HB1.out⟩
  by_cases h4 : s.size ≤ 4000
  case neg =>
    have HP : Hid (PAns rs s [] false) := .inr ⟨rfl, rfl, fun cs h1 h2 => by
      obtain ⟨l, l1, l2, l3, _⟩ := text_facts h1 h2
      have e := congrArg List.length l3
      have := Tx.digits_len 5 (Tx.sumL l) (Nat.lt_trans (Tx.sumL_lt _) (by omega))
      unfold Tx.sealL at e
      rw [bs_len] at e
      simp only [List.length_append, List.length_cons] at e
      omega⟩
    have q4 : decide ((4000 : Int) < (s.size : Int)) = true := decide_eq_true (by omega)
    clear hok
    go_enter Tryd.func18, Tryd.ntmps18
    go_wp2_with fail
    refine (HV.out _ HR1.out).mono ?_
    rintro e w1 ⟨rfl, rfl⟩
    go_wp2
    go_ret2
    exact ⟨_, 0, [], false, rfl, E1.out, HP.out, HB1.out⟩
  have q4 : decide ((4000 : Int) < (s.size : Int)) = false := decide_eq_false (by omega)
  have h64 := recs_len64 hok
  clear hok
  have HS1 := Lib.hid (fun w => l1Split_any s 32 32 w (by omega) rfl)
  obtain ⟨W1, hW1⟩ : ∃ W1, splitL 32 (bs s) = W1 := ⟨_, rfl⟩
  have hW1l : W1.length ≤ s.size + 1 := by rw [← hW1, ← bs_len]; exact splitL_len 32 (bs s)
  have hW1n : W1 ≠ [] := by rw [← hW1]; exact Cf.splitL_ne _ _
  obtain ⟨n1, hn1⟩ : ∃ n1, W1.length = n1 + 1 := ⟨W1.length - 1, by have := List.length_pos_iff.2 hW1n; omega⟩
  obtain ⟨wl, hwl⟩ : ∃ wl, W1[n1]? = some wl := ⟨W1[n1], List.getElem?_eq_getElem (by omega)⟩
  have hwll : wl.length ≤ 4000 := by
    have h1 := splitL_le 32 (bs s) wl (by rw [hW1]; exact List.mem_of_getElem? hwl)
    rw [bs_len] at h1; omega
  have HS2 := Lib.hid (fun w => l1Split_any (ba wl) 35 35 w (by rw [ba_size]; omega) rfl)
  obtain ⟨R2, hR2, _⟩ := splitL_head 35 wl
  rw [show bs (ba wl) = wl from rfl, hR2] at HS2
  have hul : (Tx.upto 35 wl).length ≤ 4000 := Nat.le_trans (Tx.upto_len 35 wl) hwll
  have HS3 := Lib.hid (fun w => l1Split_any (ba (Tx.upto 35 wl)) 44 44 w (by rw [ba_size]; omega) rfl)
  rw [show bs (ba (Tx.upto 35 wl)) = Tx.upto 35 wl from rfl] at HS3
  obtain ⟨P, hP⟩ : ∃ P, splitL 44 (Tx.upto 35 wl) = P := ⟨_, rfl⟩
  have hPl : P.length ≤ 4001 := by rw [← hP]; have := splitL_len 44 (Tx.upto 35 wl); omega
  have hPx : Hid (∀ x ∈ P, x.length ≤ 4000) := fun x hx => by rw [← hP] at hx; exact Nat.le_trans (splitL_le 44 _ x hx) hul
  have hP0 : 0 < P.length := by rw [← hP]; exact List.length_pos_iff.2 (Cf.splitL_ne _ _)
  have HPC : Hid (∀ cs, fcOk rs cs = true → fcText rs cs = s → cs.length = rs.length ∧ (cs ≠ [] → P = cs.map Lib.itoa)) := fun cs h1 h2 => by
    refine ⟨(fcOk_parts h1).2.1, fun hne => ?_⟩
    have e1 : bs s = Cf.textC rs.length (fprint (keysL rs) 7).toNat cs := by rw [← h2]; rfl
    obtain ⟨r, hr⟩ := Cf.last_text rs.length (fprint (keysL rs) 7).toNat cs
    rw [← e1, hW1] at hr
    have e2 : W1[n1]? = some (Cf.ordT cs ++ 35 :: Lib.decDigits (Tx.sumL (Cf.bodyC rs.length (fprint (keysL rs) 7).toNat cs))) := by
      rw [hr] at hn1 ⊢
      have : n1 = r.length := by simp at hn1; omega
      rw [this]; simp
    rw [hwl] at e2
    have e3 := Option.some.inj e2
    rw [← hP, e3, Tx.upto_app _ (Cf.ordT_not cs 35 (by decide) (by decide) (by decide))]
    exact Cf.pieces_ord hne
  rw [hW1] at HS1
  rw [hP] at HS3
  have hn1b : n1 ≤ 4000 := by omega
  have HN1 := Lib.hid hn1
  have HWL := Lib.hid hwl
  have HUP : Hid ((strL (Tx.upto 35 wl)) = .string (ba (Tx.upto 35 wl))) := rfl
  generalize Tx.upto 35 wl = up at HS2 HS3 HUP
  clear hW1 hW1l hW1n hR2 hP hul hwl hn1 hwll
  unfold SplitEnd at HS1 HS2 HS3
  rw [HN1.out] at HS1
  go_enter Tryd.func18, Tryd.ntmps18
  go_wp2_with fail
  refine (HV.out _ HR1.out).mono ?_
  rintro e w1 ⟨rfl, rfl⟩
  go_wp2_with fail
  refine (HS1.out _).mono ?_
  rintro e w2 ⟨a2, c2, rfl, ho2, hb2⟩
  obtain ⟨g2, rfl, cl2, _, _⟩ := own_at (i := n1) (x := strL wl) ho2 (by rw [List.getElem?_map, HWL.out]; rfl)
  have HB2 := Lib.hid (below_trI HB1.out hb2 HB1.out.size)
  have HE2 := Lib.hid (own_below E1.out (Nat.le_refl _) hb2)
  have cl2 : w2.cell? ⟨g2, n1, none⟩ = some (.string (ba wl)) := cl2
  clear ho2 hb2 HS1
  have t1 : (((n1 + 1 : Nat) : Int) - 1) = (n1 : Int) := by omega
  have t2 : IntKind.i64.wrap (((n1 + 1 : Nat) : Int) - 1) = (n1 : Int) := by rw [t1]; exact IntWalk.i64_in _ (by omega)
  have t3 : ((n1 : Int)).toNat = n1 := by omega
  have t4 : (0 : Int) ≤ (n1 : Int) := by omega
  go_wp2_with fail
  refine (HS2.out _).mono ?_
  rintro e w3 ⟨a3, c3, rfl, ho3, hb3⟩
  obtain ⟨g3, rfl, cl3, _, _⟩ := own_at (i := 0) (x := strL up) ho3 (by simp)
  rw [HUP.out] at cl3
  have HB3 := Lib.hid (below_trI HB2.out hb3 HB2.out.size)
  have HE3 := Lib.hid (own_below HE2.out (Nat.le_refl _) hb3)
  have q0 : (0 : Int) < ((up :: R2).length : Int) := by simp <;> omega
  clear ho3 hb3 HS2 cl2 HB2 HE2 t1 t2 t3 t4
  generalize (up :: R2).length = n3 at q0
  go_wp2_with fail
  refine (HS3.out _).mono ?_
  rintro e w4 ⟨a4, c4, rfl, ho4, hb4⟩
  obtain ⟨p0, hp0⟩ : ∃ x, P[0]? = some x := ⟨P[0], List.getElem?_eq_getElem hP0⟩
  obtain ⟨g4, rfl, _, hg4, _⟩ := own_at (i := 0) (x := strL p0) ho4 (by rw [List.getElem?_map, hp0]; rfl)
  have HPA := Lib.hid (pcAt_own ho4)
  have HB4 := Lib.hid (below_trI HB3.out hb4 HB3.out.size)
  have HE4 := Lib.hid (own_below HE3.out (Nat.le_refl _) hb4)
  have hg0 : w.heap.size < g4 := by
    have h1 := HB3.out.size
    have h2 := (HE3.out.lt w.heap.size rfl).2
    omega
  clear ho4 hb4 HS3 cl3 HB3 HE3 hp0 q0 HB1 E1 HV HR1
  have HBASE : Hid (w.heap.size ≤ w.heap.size) := Nat.le_refl _
  go_wp2_with fail
  go_loopw [6, 9] (fun ov iv wr => ∃ (k : Nat) (outs : List Int), k ≤ P.length ∧ iv = .int .i64 k ∧ outs.length = k ∧ Hid (∀ cs, fcOk rs cs = true → fcText rs cs = s → outs = cs.take k) ∧
      wr.ownsRow w.heap.size 3 1 ov outs.length (outs.map (Value.int .i64)) ∧ ov.ownBlock ≠ some g4 ∧ PcAt g4 (P.map ba) wr ∧ Below w.heap.size w wr) (fun _ iv _ => P.length - (intOf iv).toNat)
  case atStart => exact ⟨0, [], by omega, rfl, rfl, Lib.hid (fun cs h1 h2 => by simp), HE4.out, by simp [Value.ownBlock]; omega, HPA.out, HB4.out⟩
  case round =>
    obtain ⟨k, outs, hk, rfl, hok, HALLk, hown, hne, hpa, hb⟩ := hrel
    clear HPA HB4 HE4
    have HO := Lib.hid hown
    have HNE := Lib.hid hne
    have HPA := Lib.hid hpa
    have HB := Lib.hid hb
    clear hown hne hpa hb
    by_cases hr0 : rs.length = 0
    · have HALL : Hid (∀ cs, fcOk rs cs = true → fcText rs cs = s → outs = cs) := fun cs h1 h2 => by
        have e1 := HALLk.out cs h1 h2
        have hz : cs = [] := List.eq_nil_of_length_eq_zero (by have := (HPC.out cs h1 h2).1; omega)
        rw [e1, hz]; simp
      have hol0 : outs.length ≤ 4001 := by omega
      have qr : decide ((0 : Int) < (rs.length : Int)) = false := decide_eq_false (by omega)
      have qr2 : ¬ 0 < rs.length := by omega
      have b0 : (0 : Int) ≤ (k : Int) := by omega
      have ho := HO.out
      clear HALLk hok hr0
      obtain ⟨ao, co, rfl⟩ := own_slice ho
      clear ho
      by_cases hlt : k < P.length
      · have q2 : decide ((k : Int) < (P.length : Int)) = true := decide_eq_true (by omega)
        have HFC := Lib.hid (sFormatCertificate_any a c rs (ao) (co) outs (wr) hl1 (by omega) (HR.out.below (Nat.le_refl _) HB.out) (ownInts HO.out))
        unfold FfEnd at HFC
        obtain ⟨tx, htx⟩ : ∃ tx, (if fcOk rs outs = true then fcText rs outs else ⟨#[]⟩) = tx := ⟨_, rfl⟩
        rw [htx] at HFC
        have HTX : Hid (fcOk rs outs = true → tx = fcText rs outs) := fun h => by rw [← htx, if_pos h]
        clear htx
        cases hfo : fcOk rs outs
        all_goals rw [hfo] at HFC
        case false =>
          have HP : Hid (PAns rs s [] false) := .inr ⟨rfl, rfl, fun cs h1 h2 => by have := HALL.out cs h1 h2; rw [← this, hfo] at h1; cases h1⟩
          clear hfo
          go_wp2_with fail
          refine HFC.out.mono ?_
          rintro e w5 ⟨rfl, hb5⟩
          have HB5 := Lib.hid (below_trI HB.out hb5 HB.out.size)
          have HZ5 := Lib.hid (own_mono (own_lit (w := w5) (e := 3) (size := 1) #[] 0 (by omega) rfl) HB5.out.size)
          have HB6 := Lib.hid (below_trI HB5.out (below_newI w5 (.cells #[] 3)) HB5.out.size)
          clear hb5
          go_wp2
          go_ret2
          exact ⟨_, 0, [], false, rfl, HZ5.out, HP.out, HB6.out⟩
        have HX := Lib.hid (HTX.out hfo)
        cases hq : (tx.toList == s.toList)
        case true.false =>
          have HP : Hid (PAns rs s [] false) := .inr ⟨rfl, rfl, fun cs h1 h2 => by
            have := HALL.out cs h1 h2
            rw [HX.out, this, h2] at hq
            simp at hq⟩
          have hq2 : (!(tx.toList == s.toList)) = true := by rw [hq]; rfl
          clear hfo
          go_wp2_with fail
          refine HFC.out.mono ?_
          rintro e w5 ⟨rfl, hb5⟩
          have HB5 := Lib.hid (below_trI HB.out hb5 HB.out.size)
          have HZ5 := Lib.hid (own_mono (own_lit (w := w5) (e := 3) (size := 1) #[] 0 (by omega) rfl) HB5.out.size)
          have HB6 := Lib.hid (below_trI HB5.out (below_newI w5 (.cells #[] 3)) HB5.out.size)
          clear hb5
          go_wp2
          go_ret2
          exact ⟨_, 0, [], false, rfl, HZ5.out, HP.out, HB6.out⟩
        have HP : Hid (PAns rs s outs true) := .inl ⟨rfl, hfo, by
          rw [← HX.out, ← ba_bs s, ← ba_bs tx]
          rw [beq_iff_eq, bs_toList, bs_toList] at hq
          rw [hq]⟩
        have hq2 : (!(tx.toList == s.toList)) = false := by rw [hq]; rfl
        clear hfo
        go_wp2_with fail
        refine HFC.out.mono ?_
        rintro e w5 ⟨rfl, hb5⟩
        have HB5 := Lib.hid (below_trI HB.out hb5 HB.out.size)
        have HO5 := Lib.hid (own_below HO.out (Nat.le_refl _) hb5)
        clear hb5
        go_wp2
        go_ret2
        exact ⟨ao, co, outs, true, rfl, HO5.out, HP.out, HB5.out⟩

      · have q2 : decide ((k : Int) < (P.length : Int)) = false := decide_eq_false (by omega)
        have HFC := Lib.hid (sFormatCertificate_any a c rs (ao) (co) outs (wr) hl1 (by omega) (HR.out.below (Nat.le_refl _) HB.out) (ownInts HO.out))
        unfold FfEnd at HFC
        obtain ⟨tx, htx⟩ : ∃ tx, (if fcOk rs outs = true then fcText rs outs else ⟨#[]⟩) = tx := ⟨_, rfl⟩
        rw [htx] at HFC
        have HTX : Hid (fcOk rs outs = true → tx = fcText rs outs) := fun h => by rw [← htx, if_pos h]
        clear htx
        cases hfo : fcOk rs outs
        all_goals rw [hfo] at HFC
        case false =>
          have HP : Hid (PAns rs s [] false) := .inr ⟨rfl, rfl, fun cs h1 h2 => by have := HALL.out cs h1 h2; rw [← this, hfo] at h1; cases h1⟩
          clear hfo
          go_wp2_with fail
          refine HFC.out.mono ?_
          rintro e w5 ⟨rfl, hb5⟩
          have HB5 := Lib.hid (below_trI HB.out hb5 HB.out.size)
          have HZ5 := Lib.hid (own_mono (own_lit (w := w5) (e := 3) (size := 1) #[] 0 (by omega) rfl) HB5.out.size)
          have HB6 := Lib.hid (below_trI HB5.out (below_newI w5 (.cells #[] 3)) HB5.out.size)
          clear hb5
          go_wp2
          go_ret2
          exact ⟨_, 0, [], false, rfl, HZ5.out, HP.out, HB6.out⟩
        have HX := Lib.hid (HTX.out hfo)
        cases hq : (tx.toList == s.toList)
        case true.false =>
          have HP : Hid (PAns rs s [] false) := .inr ⟨rfl, rfl, fun cs h1 h2 => by
            have := HALL.out cs h1 h2
            rw [HX.out, this, h2] at hq
            simp at hq⟩
          have hq2 : (!(tx.toList == s.toList)) = true := by rw [hq]; rfl
          clear hfo
          go_wp2_with fail
          refine HFC.out.mono ?_
          rintro e w5 ⟨rfl, hb5⟩
          have HB5 := Lib.hid (below_trI HB.out hb5 HB.out.size)
          have HZ5 := Lib.hid (own_mono (own_lit (w := w5) (e := 3) (size := 1) #[] 0 (by omega) rfl) HB5.out.size)
          have HB6 := Lib.hid (below_trI HB5.out (below_newI w5 (.cells #[] 3)) HB5.out.size)
          clear hb5
          go_wp2
          go_ret2
          exact ⟨_, 0, [], false, rfl, HZ5.out, HP.out, HB6.out⟩
        have HP : Hid (PAns rs s outs true) := .inl ⟨rfl, hfo, by
          rw [← HX.out, ← ba_bs s, ← ba_bs tx]
          rw [beq_iff_eq, bs_toList, bs_toList] at hq
          rw [hq]⟩
        have hq2 : (!(tx.toList == s.toList)) = false := by rw [hq]; rfl
        clear hfo
        go_wp2_with fail
        refine HFC.out.mono ?_
        rintro e w5 ⟨rfl, hb5⟩
        have HB5 := Lib.hid (below_trI HB.out hb5 HB.out.size)
        have HO5 := Lib.hid (own_below HO.out (Nat.le_refl _) hb5)
        clear hb5
        go_wp2
        go_ret2
        exact ⟨ao, co, outs, true, rfl, HO5.out, HP.out, HB5.out⟩

    have qr : decide ((0 : Int) < (rs.length : Int)) = true := decide_eq_true (by omega)
    have qr2 : 0 < rs.length := by omega
    by_cases hlt : k < P.length
    · have hc1 : wr.cell? ⟨g4, k, none⟩ = some (.string (ba P[k])) := HPA.out.at_ k (ba P[k]) (by rw [List.getElem?_map, List.getElem?_eq_getElem hlt]; rfl)
      have HPI := Lib.hid (l1Read_any (ba P[k]) wr (by rw [ba_size]; have := hPx.out P[k] (List.getElem_mem hlt); omega))
      have HLK : Hid (∀ cs : List Int, P = cs.map Lib.itoa → ∃ hk2 : k < cs.length, P[k] = Lib.itoa cs[k]) := fun cs h => by
        have hlen := congrArg List.length h
        simp only [List.length_map] at hlen
        have hk2 : k < cs.length := by omega
        refine ⟨hk2, ?_⟩
        have := congrArg (fun l => l[k]?) h
        simp only [List.getElem?_map, List.getElem?_eq_getElem hlt, List.getElem?_eq_getElem hk2, Option.map_some] at this
        exact Option.some.inj this
      obtain ⟨xl, hxl⟩ : ∃ xl, P[k] = xl := ⟨_, rfl⟩
      rw [hxl] at hc1 HPI HLK
      obtain ⟨x, hx⟩ : ∃ x, ba xl = x := ⟨_, rfl⟩
      have HXB : Hid (bs x = xl) := by show _ = _; rw [← hx]; rfl
      rw [hx] at hc1 HPI
      clear hx hxl
      have q2 : decide ((k : Int) < (P.length : Int)) = true := decide_eq_true (by omega)
      have b0 : (0 : Int) ≤ (k : Int) := by omega
      go_wp2_with fail
      refine HPI.out.mono ?_
      rintro e w5 ⟨n, fine, rfl, hrd, hb5⟩
      have HO5 := Lib.hid (own_below HO.out (Nat.le_refl _) hb5)
      have HPA5 := Lib.hid (HPA.out.next hb5)
      have HB5 := Lib.hid (below_trI HB.out hb5 HB.out.size)
      have hbs : w.heap.size ≤ w5.heap.size := HB5.out.size
      have HALL5 : Hid (∀ cs, fcOk rs cs = true → fcText rs cs = s → outs ++ [n] = cs.take (k + 1) ∧ fine = true) := fun cs h1 h2 => by
        have e1 := HALLk.out cs h1 h2
        obtain ⟨g1, g2⟩ := HPC.out cs h1 h2
        have hcne : cs ≠ [] := fun e => by rw [e] at g1; simp at g1; omega
        obtain ⟨hk2, e3⟩ := HLK.out cs (g2 hcne)
        have hr := perm_range (fcOk_parts h1).2.2 cs[k] (List.getElem_mem hk2)
        have e4 := hrd.2 cs[k].toNat (by omega) (by rw [HXB.out, e3, itoa_toNat hr.1])
        refine ⟨?_, e4.2⟩
        rw [e1, e4.1, List.take_add_one, List.getElem?_eq_getElem hk2, Int.toNat_of_nonneg hr.1]
        rfl
      have hn1 : outs.length + 1 ≤ 1099511627776 := by omega
      clear hb5 hrd HO HPA HB HPI HLK hc1
      cases fine
      case false =>
        have HP : Hid (PAns rs s [] false) := .inr ⟨rfl, rfl, fun cs h1 h2 => by have := (HALL5.out cs h1 h2).2; cases this⟩
        have HZ5 := Lib.hid (own_mono (own_lit (w := w5) (e := 3) (size := 1) #[] 0 (by omega) rfl) HB5.out.size)
        have HB6 := Lib.hid (below_trI HB5.out (below_newI w5 (.cells #[] 3)) HB5.out.size)
        go_wp2
        go_ret2
        exact ⟨_, 0, [], false, rfl, HZ5.out, HP.out, HB6.out⟩
      go_wp2_with (at_builtin; refine wpList_app1 slInt rfl (.tmp 58) (.tmp 60) rfl rfl HO5.out [.int .i64 n] rfl rfl (by simp) (by simp [Value.oneCell']) hn1 hbs ?_; intro v' w6 hown6 hg6 ht6)
      have HO6 := Lib.hid hown6
      have HB6 := Lib.hid (below_app HB5.out HB5.out.size HO5.out HBASE.out hg6)
      have HPA6 := Lib.hid (HPA5.out.grown hg6 HNE.out)
      have HNE6 : Hid (v'.ownBlock ≠ some g4) := by
        show _ ≠ _
        rcases ht6 with h | h
        · rw [h]; exact HNE.out
        · rw [h]
          have := HPA5.out.lt
          intro e
          have := Option.some.inj e
          omega
      clear hown6 hg6 ht6
      go_wp2
      go_roundw
      case rel =>
        refine ⟨k + 1, outs ++ [n], by omega, by go_num, by simp; omega, Lib.hid (fun cs h1 h2 => (HALL5.out cs h1 h2).1), ?_, HNE6.out, HPA6.out, HB6.out⟩
        rw [List.length_append, List.map_append]
        exact HO6.out
      case measure => simp [intOf]; omega
    · obtain rfl : k = P.length := by omega
      have HALL : Hid (∀ cs, fcOk rs cs = true → fcText rs cs = s → outs = cs) := fun cs h1 h2 => by
        have e1 := HALLk.out cs h1 h2
        obtain ⟨g1, g2⟩ := HPC.out cs h1 h2
        have hcne : cs ≠ [] := fun e => by rw [e] at g1; simp at g1; omega
        have hlen := congrArg List.length (g2 hcne)
        simp only [List.length_map] at hlen
        rw [e1, hlen, List.take_length]
      have hol0 : outs.length ≤ 4001 := by omega
      have q2 : decide ((P.length : Int) < (P.length : Int)) = false := decide_eq_false (by omega)
      have ho := HO.out
      clear HALLk hok hk hlt
      obtain ⟨ao, co, rfl⟩ := own_slice ho
      clear ho
      have HFC := Lib.hid (sFormatCertificate_any a c rs (ao) (co) outs (wr) hl1 (by omega) (HR.out.below (Nat.le_refl _) HB.out) (ownInts HO.out))
      unfold FfEnd at HFC
      obtain ⟨tx, htx⟩ : ∃ tx, (if fcOk rs outs = true then fcText rs outs else ⟨#[]⟩) = tx := ⟨_, rfl⟩
      rw [htx] at HFC
      have HTX : Hid (fcOk rs outs = true → tx = fcText rs outs) := fun h => by rw [← htx, if_pos h]
      clear htx
      cases hfo : fcOk rs outs
      all_goals rw [hfo] at HFC
      case false =>
        have HP : Hid (PAns rs s [] false) := .inr ⟨rfl, rfl, fun cs h1 h2 => by have := HALL.out cs h1 h2; rw [← this, hfo] at h1; cases h1⟩
        clear hfo
        go_wp2_with fail
        refine HFC.out.mono ?_
        rintro e w5 ⟨rfl, hb5⟩
        have HB5 := Lib.hid (below_trI HB.out hb5 HB.out.size)
        have HZ5 := Lib.hid (own_mono (own_lit (w := w5) (e := 3) (size := 1) #[] 0 (by omega) rfl) HB5.out.size)
        have HB6 := Lib.hid (below_trI HB5.out (below_newI w5 (.cells #[] 3)) HB5.out.size)
        clear hb5
        go_wp2
        go_ret2
        exact ⟨_, 0, [], false, rfl, HZ5.out, HP.out, HB6.out⟩
      have HX := Lib.hid (HTX.out hfo)
      cases hq : (tx.toList == s.toList)
      case true.false =>
        have HP : Hid (PAns rs s [] false) := .inr ⟨rfl, rfl, fun cs h1 h2 => by
          have := HALL.out cs h1 h2
          rw [HX.out, this, h2] at hq
          simp at hq⟩
        have hq2 : (!(tx.toList == s.toList)) = true := by rw [hq]; rfl
        clear hfo
        go_wp2_with fail
        refine HFC.out.mono ?_
        rintro e w5 ⟨rfl, hb5⟩
        have HB5 := Lib.hid (below_trI HB.out hb5 HB.out.size)
        have HZ5 := Lib.hid (own_mono (own_lit (w := w5) (e := 3) (size := 1) #[] 0 (by omega) rfl) HB5.out.size)
        have HB6 := Lib.hid (below_trI HB5.out (below_newI w5 (.cells #[] 3)) HB5.out.size)
        clear hb5
        go_wp2
        go_ret2
        exact ⟨_, 0, [], false, rfl, HZ5.out, HP.out, HB6.out⟩
      have HP : Hid (PAns rs s outs true) := .inl ⟨rfl, hfo, by
        rw [← HX.out, ← ba_bs s, ← ba_bs tx]
        rw [beq_iff_eq, bs_toList, bs_toList] at hq
        rw [hq]⟩
      have hq2 : (!(tx.toList == s.toList)) = false := by rw [hq]; rfl
      clear hfo
      go_wp2_with fail
      refine HFC.out.mono ?_
      rintro e w5 ⟨rfl, hb5⟩
      have HB5 := Lib.hid (below_trI HB.out hb5 HB.out.size)
      have HO5 := Lib.hid (own_below HO.out (Nat.le_refl _) hb5)
      clear hb5
      go_wp2
      go_ret2
      exact ⟨ao, co, outs, true, rfl, HO5.out, HP.out, HB5.out⟩

end Go.Proofs.YtoebegdepnigbaaDoor

/- The law FnExactParseCertificate: its walk. -/
namespace Go.Proofs.YtoebegdepnigbaaDoor
open Go.RowKit
set_option linter.unusedVariables false

theorem IntsAt.grownP {w w' : World} {row : Option Nat} {a : Option Addr} {l : List Int} (h : IntsAt w a l) (hg : w.grownBy w' row) (hne : ∀ b off, a = some ⟨b, off, none⟩ → row ≠ some b) : IntsAt w' a l := by
  rcases h with h | ⟨b, off, e, h1, h2⟩
  · exact .inl h
  · refine .inr ⟨b, off, e, Nat.lt_of_lt_of_le h1 hg.size, fun j hj => ?_⟩
    have := hg.block b h1 (Ne.symm (hne b off e))
    rw [← h2 j hj]
    simp only [World.cell?, this]


/-- What stands while ParseCertificate's answer is looked at: the argument, its copy x, the answer g, the reference's answer. -/
structure PcK (w W : World) (a : Option Addr) (zs : List (Int × Int)) (Bx Bg : Nat) (ax : Option Addr) (cx : Nat) (xs : List (Int × Int)) (ag : Option Addr) (cg m : Nat) (gs : List Int) (aw : Option Addr) (ws : List Int) : Prop where
  b : Below w.heap.size w W
  h : RecsAt W a zs
  ox : W.ownsRow Bx 56 2 (.slice ax xs.length cx) xs.length (flat encR xs)
  og : W.ownsRow Bg 3 1 (.slice ag m cg) m (gs.map (Value.int .i64))
  hw : IntsAt W aw ws
  wl : ∀ b off, aw = some ⟨b, off, none⟩ → b < Bx
  xl : ∀ k, (Value.slice ax xs.length cx).ownBlock = some k → k < Bg
  xb : w.heap.size ≤ Bx
  gb : Bx ≤ Bg
theorem PcK.below {w W W' : World} {a : Option Addr} {zs : List (Int × Int)} {Bx Bg : Nat} {ax : Option Addr} {cx : Nat} {xs : List (Int × Int)} {ag : Option Addr} {cg m : Nat} {gs : List Int} {aw : Option Addr} {ws : List Int} (s : PcK w W a zs Bx Bg ax cx xs ag cg m gs aw ws) (hb : Below W.heap.size W W') : PcK w W' a zs Bx Bg ax cx xs ag cg m gs aw ws :=
  ⟨s.b.trans (hb.mono s.b.size), s.h.below (Nat.le_refl _) hb, own_below s.ox (Nat.le_refl _) hb, own_below s.og (Nat.le_refl _) hb, s.hw.below (Nat.le_refl _) hb, s.wl, s.xl, s.xb, s.gb⟩

theorem PcK.markX {w W W' : World} {a : Option Addr} {zs : List (Int × Int)} {Bx Bg : Nat} {ax : Option Addr} {cx : Nat} {xs xs' : List (Int × Int)} {ag : Option Addr} {cg m : Nat} {gs : List Int} {aw : Option Addr} {ws : List Int} (s : PcK w W a zs Bx Bg ax cx xs ag cg m gs aw ws) (h0 : RecsAt w a zs) (hl : xs'.length = xs.length)
    (ho : W'.ownsRow Bx 56 2 (.slice ax xs.length cx) xs.length (flat encR xs')) (hg : W.grownBy W' (Value.slice ax xs.length cx).ownBlock) : PcK w W' a zs Bx Bg ax cx xs' ag cg m gs aw ws := by
  have hb := s.b.grown hg s.b.size (fun k hk => by have := (s.ox.lt k hk).1; have := s.xb; omega)
  refine ⟨hb, h0.below (Nat.le_refl _) hb, by rw [hl]; exact ho, own_other s.og hg (fun k hk e => ?_), s.hw.grownP hg (fun b off e e2 => ?_), s.wl, by rw [hl]; exact s.xl, s.xb, s.gb⟩
  · have h1 := s.xl k e
    have h2 := (s.og.lt k hk).1
    omega
  · have h1 := s.wl b off e
    have h2 := (s.ox.lt b e2).1
    omega
theorem PcK.markG {w W W' : World} {a : Option Addr} {zs : List (Int × Int)} {Bx Bg : Nat} {ax : Option Addr} {cx : Nat} {xs : List (Int × Int)} {ag : Option Addr} {cg m : Nat} {gs gs' : List Int} {aw : Option Addr} {ws : List Int} (s : PcK w W a zs Bx Bg ax cx xs ag cg m gs aw ws) (h0 : RecsAt w a zs)
    (ho : W'.ownsRow Bg 3 1 (.slice ag m cg) m (gs'.map (Value.int .i64))) (hg : W.grownBy W' (Value.slice ag m cg).ownBlock) : PcK w W' a zs Bx Bg ax cx xs ag cg m gs' aw ws := by
  have hb := s.b.grown hg s.b.size (fun k hk => by have := (s.og.lt k hk).1; have := s.xb; have := s.gb; omega)
  refine ⟨hb, h0.below (Nat.le_refl _) hb, own_other s.ox hg (fun k hk e => ?_), ho, s.hw.grownP hg (fun b off e e2 => ?_), s.wl, s.xl, s.xb, s.gb⟩
  · have h1 := s.xl k hk
    have h2 := (s.og.lt k e).1
    omega
  · have h1 := s.wl b off e
    have h2 := (s.og.lt b e2).1
    have := s.gb
    omega

set_option maxRecDepth 100000 in
set_option maxHeartbeats 8000000 in
theorem lawParseCertificate_any (s : ByteArray) (azs : Option Addr) (czs : Nat) (zs : List (Int × Int)) (w : World) (henv : Env w) (hsz : s.size ≤ 9223372036854775807) (bzs : zs.length ≤ 9223372036854775807) (hzs : RecsAt w azs zs) :
    Calls Tryd.prog 5 #[.string s, .slice azs zs.length czs] w fun e w' => e = .returned (.bool true) ∧ Below w.heap.size w w' := by
  by_cases hs1 : s.size ≤ 1048576
  case neg =>
    have qs : decide ((1048576 : Int) < (s.size : Int)) = true := decide_eq_true (by omega)
    go_enter Tryd.func5, Tryd.ntmps5
    go_wp2
    go_ret
    exact ⟨rfl, Below.refl _ _⟩
  have qs : decide ((1048576 : Int) < (s.size : Int)) = false := decide_eq_false (by omega)
  have HE := Lib.hid henv; clear henv
  by_cases hl : zs.length ≤ 1048576
  case neg =>
    have HZ := Lib.hid (szRecordS_no azs czs zs 1048576 w bzs (by omega) (by omega) (by omega))
    clear hzs
    go_enter Tryd.func5, Tryd.ntmps5
    go_wp2_with fail
    refine HZ.out.mono ?_
    rintro e w1 ⟨rfl, rfl⟩
    go_wp2
    go_ret
    exact ⟨rfl, Below.refl _ _⟩
  have HZ := Lib.hid (szRecordS_yes azs czs zs 1048576 w (by omega) (by omega) (by omega))
  have H := Lib.hid hzs; clear hzs
  have hpos : decide ((1048576 : Int) - (zs.length : Int) < 0) = false := decide_eq_false (by omega)
  go_enter Tryd.func5, Tryd.ntmps5
  go_wp2_with fail
  refine HZ.out.mono ?_
  rintro e w1 ⟨rfl, rfl⟩
  go_wp2_with fail
  refine (toRecordS_any _ _ zs _ hl H.out).mono ?_
  rintro e w1 ⟨rfl, ho, hb⟩
  have HS1 := Lib.hid (ownRecs ho)
  have HB1 := Lib.hid hb
  clear ho hb HZ
  go_wp2_with fail
  refine (sParseCertificate_any s _ _ zs _ hs1 bzs HS1.out).mono ?_
  rintro e w2 ⟨aw, cw, ws, okw, rfl, ho, hpw, hb⟩
  have HWL := Lib.hid hpw.len
  have HPW := Lib.hid hpw
  have HW2 := Lib.hid (ints_of_own ho)
  have HWl : Hid (∀ b off, aw = some ⟨b, off, none⟩ → b < w2.heap.size) := fun b off e => (ho.lt b (by rw [e]; rfl)).2
  have HB2 := Lib.hid (HB1.out.trans (hb.mono HB1.out.size))
  clear ho hb HS1 HB1 hpw
  go_wp2_with fail
  refine (toRecordS_any _ _ zs _ hl (H.out.below (Nat.le_refl _) HB2.out)).mono ?_
  rintro e w3 ⟨rfl, ho, hb⟩
  have OX3 := Lib.hid ho
  have HW3 := Lib.hid (HW2.out.below (Nat.le_refl _) hb)
  have HB3 := Lib.hid (HB2.out.trans (hb.mono HB2.out.size))
  have HXL : Hid (∀ k, (Value.slice (some ⟨w2.heap.size, 0, none⟩) zs.length zs.length).ownBlock = some k → k < w3.heap.size) := fun k hk => (ho.lt k hk).2
  have HZ23 := Lib.hid hb.size
  clear ho hb HW2
  go_wp2_with fail
  refine (parseCertificate_any s _ _ zs _ hs1 bzs (HE.out.below HB3.out) (ownRecs OX3.out)).mono ?_
  rintro e w4 ⟨ag, cg, gs, okg, rfl, ho, hpg, hb⟩
  obtain ⟨rfl, rfl⟩ := PAns.unique HPW.out hpg
  clear hpg
  have S4 : Hid (PcK w w4 azs zs w2.heap.size w3.heap.size (some ⟨w2.heap.size, 0, none⟩) zs.length zs ag cg ws.length ws aw ws) := by
    have hb4 := HB3.out.trans (hb.mono HB3.out.size)
    exact ⟨hb4, H.out.below (Nat.le_refl _) hb4, own_below OX3.out (Nat.le_refl _) hb, ho, HW3.out.below (Nat.le_refl _) hb, HWl.out, HXL.out, HB2.out.size, HZ23.out⟩
  clear ho hb HW3 OX3 HB3
  have q0 : (okw != okw) = false := by simp
  have q1 : decide (ws = ws) = true := by simp
  have nbw : ws.length ≤ 9223372036854775807 := by have := HWL.out; omega
  go_wp2_with fail
  refine (eqIntS_any _ _ _ _ ws ws _ nbw nbw (ints_of_own S4.out.og) S4.out.hw).mono ?_
  rintro e w5 ⟨rfl, hb⟩
  have S5 := Lib.hid (S4.out.below hb)
  clear hb S4
  go_wp2_with fail
  refine (toRecordS_any _ _ zs _ hl S5.out.h).mono ?_
  rintro e w6 ⟨rfl, ho, hb⟩
  have S6 := Lib.hid (S5.out.below hb)
  have HY6 := Lib.hid (ownRecs ho)
  clear hb ho S5
  have q2 : decide (zs = zs) = true := by simp
  go_wp2_with fail
  refine (eqRecordS_any _ _ _ _ zs zs _ bzs bzs (ownRecs S6.out.ox) HY6.out).mono ?_
  rintro e w7 ⟨rfl, hb⟩
  have S7 := Lib.hid (S6.out.below hb)
  clear hb S6 HY6
  go_wp2_with fail
  refine (markRecordS_any _ _ _ zs 1 _ hl (by omega) (by omega) S7.out.ox).mono ?_
  rintro e w8 ⟨rfl, ho, hg⟩
  have S8 := Lib.hid (S7.out.markX H.out (by rw [mkR_len]) ho hg)
  clear ho hg S7
  have hk1 : decide (1 + 2 * (zs.length : Int) < 0) = false := decide_eq_false (by omega)
  go_wp2_with fail
  refine (eqIntS_any _ _ _ _ ws ws _ nbw nbw (ints_of_own S8.out.og) S8.out.hw).mono ?_
  rintro e w9 ⟨rfl, hb⟩
  have S9 := Lib.hid (S8.out.below hb)
  clear hb S8
  go_wp2_with fail
  refine (markIntS_at _ _ _ ws.length ws 1 _ (by have := HWL.out; omega) (by omega) (by omega) rfl S9.out.og).mono ?_
  rintro e w10 ⟨rfl, ho, hg⟩
  have S10 := Lib.hid (S9.out.markG H.out ho hg)
  clear ho hg S9
  have HMI : Hid (∀ j, j < ws.length → (mkI ws.length 1 ws ws.length).getD j 0 = 1 + (j : Int)) := fun j hj => by rw [mkI_at hj, if_pos hj]
  go_wp2_with fail
  refine (heldIntS_any _ _ ws.length _ 1 _ (by have := HWL.out; omega) (by omega) (by omega) (mkI_len _ _ _ _) (ints_of_own S10.out.og) HMI.out).mono ?_
  rintro e w11 ⟨rfl, rfl⟩
  have hk2 : decide (1 + (ws.length : Int) < 0) = false := decide_eq_false (by omega)
  have hk3 : (1 + (ws.length : Int) != 1 + (ws.length : Int)) = false := by simp
  go_wp2_with fail
  refine (toRecordS_any _ _ zs _ hl S10.out.h).mono ?_
  rintro e w12 ⟨rfl, ho, hb⟩
  have S12 := Lib.hid (S10.out.below hb)
  have HY12 := Lib.hid (ownRecs ho)
  clear hb ho S10
  go_wp2_with fail
  refine (parseCertificate_any s _ _ zs _ hs1 bzs (HE.out.below S12.out.b) HY12.out).mono ?_
  rintro e w13 ⟨ah, ch, gs2, okg2, rfl, ho, hph, hb⟩
  obtain ⟨rfl, rfl⟩ := PAns.unique HPW.out hph
  clear hph
  have S13 := Lib.hid (S12.out.below hb)
  have HH13 := Lib.hid (ints_of_own ho)
  clear hb ho S12 HY12
  go_wp2_with fail
  refine (eqIntS_any _ _ _ _ ws ws _ nbw nbw HH13.out S13.out.hw).mono ?_
  rintro e w14 ⟨rfl, hb⟩
  have S14 := Lib.hid (S13.out.below hb)
  clear hb S13 HH13
  go_wp2_with fail
  refine (heldIntS_any _ _ ws.length _ 1 _ (by have := HWL.out; omega) (by omega) (by omega) (mkI_len _ _ _ _) (ints_of_own S14.out.og) HMI.out).mono ?_
  rintro e w15 ⟨rfl, rfl⟩
  go_wp2
  go_ret
  exact ⟨rfl, S14.out.b⟩

end Go.Proofs.YtoebegdepnigbaaDoor

/- From the row's conditions to the facts on the package-level variables; the wrap that keeps both the listed tables and the world's shape. -/
namespace Go.Proofs.YtoebegdepnigbaaDoor
open Go.RowKit Go.Shelf
set_option linter.unusedVariables false

theorem laidMet_tail {P : Program} {x : String × DataW Unit} {r : List (String × DataW Unit)} {W : World} (h : laidMet P (x :: r) W) : laidMet P r W := by
  obtain ⟨n, d⟩ := x
  obtain ⟨ps, ⟨g, t, cs, f, p, q, _, _, _, _, hr, rfl⟩, hn, hm⟩ := h
  exact ⟨q, hr, (List.nodup_append.1 hn).2.1, fun b off hb => hm b off (List.mem_append_right _ hb)⟩

theorem gES : Tryd.prog.globalNamed "strconv.ErrSyntax" = some 2 := by kernel_rfl
theorem gEST : (Tryd.prog.globals[2]?).map (·.type) = some 87 := by kernel_rfl
theorem cellsES : Tryd.prog.cellsOf 159 = 1 := by kernel_rfl
theorem cellsStr : Tryd.prog.cellsOf 9 = 1 := by kernel_rfl
theorem starES : "*" ++ "errors.errorString" = "*errors.errorString" := by decide
theorem rowES (u : TypeId) (h : Tryd.prog.typeName? 3 u = some "*errors.errorString") : u = 157 :=
  typeName_ptr_named (nm := "errors.errorString") (by rw [starES]; kernel_rfl) (by kernel_rfl) (by decide) u (by rw [starES]; exact h)

theorem syn_of_laid {r : List (String × DataW Unit)} {W : World} {text : List UInt8} (h : laidMet Tryd.prog (("strconv.ErrSyntax", .iface "*errors.errorString" (.ptr (.agg [.lit (.string text)]))) :: r) W) : ∃ t p, W.cell? ⟨2, 0, none⟩ = some (.iface t p) := by
  obtain ⟨a0, s0, hv0, -, -, -⟩ := laid_sentinel h gES gEST Tryd.underlying87 rowES Tryd.underlying157 Tryd.underlying159 rfl rfl Tryd.underlying9 cellsES cellsStr
  exact ⟨_, _, by have h0 := World.var?_cell gES hv0 0; simpa using h0⟩
theorem tab_of_head {r : List (String × DataW Unit)} {W : World} (h : laidMet Tryd.prog (("internal/strconv.uint64pow10", Rows.laid_internal_strconv_uint64pow10) :: r) W) : Tab W := by
  obtain ⟨ps, h, _⟩ := h
  rw [pow_datum] at h
  have hg : Tryd.prog.globalNamed "internal/strconv.uint64pow10" = some 1 := by kernel_rfl
  have hty : (Tryd.prog.globals[1]?).map (·.type) = some 132 := by kernel_rfl
  exact tabIs_of_vars hg hty Tryd.underlying132 Tryd.underlying106 (by kernel_rfl) (by kernel_rfl) h
theorem env_of_laid {W : World} {a b d e : String × DataW Unit} {text : List UInt8} {r : List (String × DataW Unit)}
    (h : laidMet Tryd.prog (a :: b :: ("internal/strconv.uint64pow10", Rows.laid_internal_strconv_uint64pow10) :: d :: e :: ("strconv.ErrSyntax", .iface "*errors.errorString" (.ptr (.agg [.lit (.string text)]))) :: r) W) (hs : W.ShapedOpen Tryd.prog) : Env W :=
  ⟨tab_of_head (laidMet_tail (laidMet_tail h)), Tryd.laysM145.s1_3 W hs, syn_of_laid (laidMet_tail (laidMet_tail (laidMet_tail (laidMet_tail (laidMet_tail h)))))⟩

theorem liftBoth {H : Type} {enc : TypeId × Value → H} {a : Assume} {C : Checked} {os : Os} {f : FuncId} {fn : Func} {s : ChangeSpec} {conds : List PathCond} {apart fresh handsOn again : Bool} {X : World → Array Value → Prop}
    (hX : ∀ (w w' : World) (args : Array Value), w.heap = w'.heap → X w args → X w' args)
    (own : ownKnob C.prog.godebug = none) (started : os.Started) (noInit : C.prog.inits.idxOf? f = none) (hfn : C.prog.funcs[f]? = some fn)
    (witness : ∃ (w : World) (tape : Tape) (i : Input), w.os = os ∧ (w.forCall tape i).Shaped C.prog ∧ i.vars = [] ∧ Input.okWide C.prog (w.forCall tape i) .any w.heap.size f i ∧
      ((s.pre enc C.prog fn conds apart (w.forCall tape i).memory i.args ∧ X (w.forCall tape i).memory i.args) ∧ sizedMet enc C.prog fn (OpenSpec.ofChange s) apart (w.forCall tape i).memory i.args) ∧ a.holds C.prog (lone (Frame.enter C.prog f i.args .normal) [] (w.forCall tape i)))
    (contract : ∀ (W : World) (base : Nat) (args : Array Value) (ds gs : List (DataW H)) (before : List MemPlace),
      (∀ (j : Nat) t v, fn.params[j]? = some t → args[j]? = some v → Value.okWide C.prog W .any base t v) →
      DataW.Whole enc C.prog fn.params.toList s.vars apart W args.toList ds gs before →
      conds.all (PathCond.test C.prog ⟨fn.params.toList, ds, s.plain.varTypes C.prog, gs⟩) = true →
      (DataW.weightsEach C.prog (fn.params.toList ++ s.plain.varTypes C.prog) (ds ++ gs)).all (· ≤ reachBytes) = true → X W args → W.ShapedOpen C.prog →
      a.holds C.prog (lone (Frame.enter C.prog f args .normal) [] W) →
      Calls C.prog f args W fun e W' => ∃ v, e = .returned v ∧ s.post enc C.prog fn apart fresh handsOn again W args v W') :
    ReturnsInHanded a C os f .any (fun w args => (s.pre enc C.prog fn conds apart w args ∧ X w args) ∧ sizedMet enc C.prog fn (OpenSpec.ofChange s) apart w args) (s.post enc C.prog fn apart fresh handsOn again) := by
  refine returnsInHanded_of_calls own started noInit witness ?_
  intro w tape i _ hsh _ hok hpre hholds
  obtain ⟨_, _, _, fn', hfn', _, _, _, _, hval⟩ := hok
  have e : fn' = fn := Option.some.inj (hfn'.symm.trans hfn)
  subst e
  obtain ⟨⟨⟨ds, gs, before, hw, hc⟩, hx⟩, hz⟩ := hpre
  have hw' := DataW.Whole.of_heap (w' := w.forCall tape i) (by rfl) hw
  refine (contract (w.forCall tape i) w.heap.size i.args ds gs before hval hw' hc (hz.weights hw) (hX _ _ _ (by rfl) hx) hsh hholds).mono fun e W' ⟨v, he, hp⟩ => ?_
  subst he
  exact ChangeSpec.post_blind hp

end Go.Proofs.YtoebegdepnigbaaDoor

/- The package-level tables that the rows list, as the program's start lays them: the condition can be met, and what it gives. -/
namespace Go.Proofs.YtoebegdepnigbaaDoor
open Go.RowKit
def lst2 : List (String × DataW Unit) := [("math/bits.deBruijn32tab", Rows.laid_math_bits_deBruijn32tab), ("math/bits.deBruijn64tab", Rows.laid_math_bits_deBruijn64tab), ("internal/strconv.uint64pow10", Rows.laid_internal_strconv_uint64pow10), ("unicode/utf8.acceptRanges", Rows.laid_unicode_utf8_acceptRanges), ("strconv.ErrRange", Rows.laid_strconv_ErrRange), ("strconv.ErrSyntax", Rows.laid_strconv_ErrSyntax), ("unicode/utf8.first", Rows.laid_unicode_utf8_first)]
theorem met2 (os : Os) (args : Array Value) : laidMetH Tryd.prog lst2 ((World.laidAll Tryd.prog os lst2).forCall (fun _ _ => 0) ⟨#[], args, []⟩).memory := by
  rw [MakeChecks.laidMetH_plain _ _ _ (by kernel_rfl)]; exact laidMet_laidAll _ (by kernel_rfl) (by kernel_rfl)
theorem shaped2 (os : Os) (args : Array Value) : ((World.laidAll Tryd.prog os lst2).forCall (fun _ _ => 0) ⟨#[], args, []⟩).Shaped Tryd.prog := World.shaped_of_ZipB (by kernel_rfl) (by kernel_rfl)
theorem of_laid2 {W : World} (h : laidMetH Tryd.prog lst2 W) (hs : W.ShapedOpen Tryd.prog) : Env W := by
  rw [MakeChecks.laidMetH_plain _ _ _ (by kernel_rfl)] at h
  exact env_of_laid h hs

end Go.Proofs.YtoebegdepnigbaaDoor
