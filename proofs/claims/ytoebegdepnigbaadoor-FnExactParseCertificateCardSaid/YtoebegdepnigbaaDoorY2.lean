/- Several texts in one: lemmas and walks of the functions that the laws reach. -/
import Derived.Test.YtoebegdepnigbaaDoorY0
import Derived.Test.YtoebegdepnigbaaDoorY1
import Derived.IntWalk
import Derived.Lib.AppendIntMem
import Derived.Deep.RegionHeld3

/- Walks on texts: printable bytes, bytes that stand in a text, records, checksums. -/
namespace Go.Proofs.YtoebegdepnigbaaDoor
open Go.RowKit
set_option linter.unusedVariables false

def bs (s : ByteArray) : List UInt8 := s.data.toList
theorem bs_len (s : ByteArray) : (bs s).length = s.size := by unfold bs; rw [Array.length_toList]; rfl
theorem bs_take (s : ByteArray) (k : Nat) (h : k < s.size) : (bs s).take (k + 1) = (bs s).take k ++ [s[k]] := by
  rw [List.take_succ_eq_append_getElem (by rw [bs_len]; exact h)]; rfl
theorem bs_all (s : ByteArray) : (bs s).take s.size = bs s := by rw [← bs_len, List.take_length]
theorem bs_mk (l : List UInt8) : bs ⟨l.toArray⟩ = l := rfl
theorem bs_add (a b : ByteArray) : bs (a ++ b) = bs a ++ bs b := by unfold bs; rw [ByteArray.data_append]; simp
theorem bs_toList (s : ByteArray) : s.toList = bs s := ByteArray.toList_eq s

theorem all_no {s : ByteArray} {p : UInt8 → Bool} {k : Nat} (hk : k < s.size) (h : p s[k] = false) : (bs s).all p = false := by
  rw [List.all_eq_false]
  refine ⟨s[k], ?_, by simp [h]⟩
  have : (bs s)[k]'(by rw [bs_len]; exact hk) = s[k] := rfl
  rw [← this]; exact List.getElem_mem _
theorem all_yes {s : ByteArray} {p : UInt8 → Bool} {k : Nat} (hk : ¬ k < s.size) (hle : k ≤ s.size) (h : ((bs s).take k).all p = true) : (bs s).all p = true := by
  obtain rfl : k = s.size := by omega
  rwa [bs_all] at h
theorem all_next {s : ByteArray} {p : UInt8 → Bool} {k : Nat} (hk : k < s.size) (h : ((bs s).take k).all p = true) (h2 : p s[k] = true) : ((bs s).take (k + 1)).all p = true := by
  rw [bs_take s k hk, List.all_append, h]; simp [h2]

set_option maxHeartbeats 400000 in
theorem isPrintable_any (s : ByteArray) (w : World) (hs : s.size ≤ 9223372036854775807) :
    Calls Tryd.prog 124 #[.string s] w fun e w' => e = .returned (.bool ((bs s).all Tx.prn)) ∧ w = w' := by
  go_enter Tryd.func124, Tryd.ntmps124
  go_wp2
  go_loop [6] (fun i => ∃ k : Nat, k ≤ s.size ∧ i = .int .i64 k ∧ ((bs s).take k).all Tx.prn = true) (fun i => s.size - (intOf i).toNat)
  case atStart => exact ⟨0, by omega, rfl, by simp⟩
  case round =>
    obtain ⟨k, hk, rfl, hall⟩ := hrel
    have Hall := Lib.hid hall; clear hall
    by_cases h1 : k < s.size
    · by_cases h2 : s[k].toNat < 32
      · go_wp2
        go_ret
        exact ⟨ret_bool (by rw [all_no h1 (by simp [Tx.prn]; omega)]), rfl⟩
      · by_cases h3 : s[k].toNat ≤ 126
        · go_wp2
          go_round
          case rel => exact ⟨k + 1, by omega, by go_num, all_next h1 Hall.out (by simp [Tx.prn]; omega)⟩
          case measure => simp [intOf]; omega
        · go_wp2
          go_ret
          exact ⟨ret_bool (by rw [all_no h1 (by simp [Tx.prn]; omega)]), rfl⟩
    · go_wp2
      go_ret
      exact ⟨ret_bool (all_yes h1 hk Hall.out).symm, rfl⟩

set_option maxHeartbeats 400000 in
theorem l1Stands_any (s : ByteArray) (c : UInt8) (n : Int) (w : World) (hs : s.size ≤ 9223372036854775807) (hn : n = (c.toNat : Int)) :
    Calls Tryd.prog 119 #[.string s, .int .u8 n] w fun e w' => e = .returned (.bool (decide (c ∈ bs s))) ∧ w = w' := by
  have HN := Lib.hid hn; clear hn
  go_enter Tryd.func119, Tryd.ntmps119
  go_wp2
  go_loop [5] (fun i => ∃ k : Nat, k ≤ s.size ∧ i = .int .i64 k ∧ c ∉ (bs s).take k) (fun i => s.size - (intOf i).toNat)
  case atStart => exact ⟨0, by omega, rfl, by simp⟩
  case round =>
    obtain ⟨k, hk, rfl, hall⟩ := hrel
    have Hall := Lib.hid hall; clear hall
    by_cases h1 : k < s.size
    · by_cases h2 : s[k] = c
      · have hb : ((s[k].toNat : Int) == n) = true := by rw [HN.out, h2]; simp
        have H2 := Lib.hid h2; clear h2
        go_wp2
        go_ret
        refine ⟨ret_bool ?_, rfl⟩
        symm; apply decide_eq_true
        rw [← H2.out]
        have : (bs s)[k]'(by rw [bs_len]; exact h1) = s[k] := rfl
        rw [← this]; exact List.getElem_mem _
      · have hb : ((s[k].toNat : Int) == n) = false := by
          rw [HN.out, beq_eq_false_iff_ne]
          intro e
          exact h2 (UInt8.toNat_inj.1 (by omega))
        have H2 := Lib.hid h2; clear h2
        go_wp2
        go_round
        case rel =>
          refine ⟨k + 1, by omega, by go_num, ?_⟩
          rw [bs_take s k h1, List.mem_append]
          rintro (h | h)
          · exact Hall.out h
          · exact H2.out (List.mem_singleton.1 h).symm
        case measure => simp [intOf]; omega
    · go_wp2
      go_ret
      refine ⟨ret_bool ?_, rfl⟩
      symm; apply decide_eq_false
      obtain rfl : k = s.size := by omega
      rw [← bs_all]; exact Hall.out

def plB (b : UInt8) : Bool := Tx.prn b && b != 35

set_option maxHeartbeats 400000 in
theorem l25Plain_any (s : ByteArray) (m : Int) (w : World) (hs : s.size ≤ 9223372036854775807) :
    Calls Tryd.prog 118 #[.string s, .int .i64 m] w fun e w' => e = .returned (.bool (decide ((s.size : Int) ≤ m) && (bs s).all plB)) ∧ w = w' := by
  go_enter Tryd.func118, Tryd.ntmps118
  go_wp2
  go_loop [5] (fun i => ∃ k : Nat, k ≤ s.size ∧ i = .int .i64 k ∧ ((bs s).take k).all plB = true) (fun i => s.size - (intOf i).toNat)
  case atStart => exact ⟨0, by omega, rfl, by simp⟩
  case round =>
    obtain ⟨k, hk, rfl, hall⟩ := hrel
    have Hall := Lib.hid hall; clear hall
    by_cases h1 : k < s.size
    · have hlt : s[k].toNat < 256 := UInt8.toNat_lt _
      have HP := Lib.hid (l1In_any (s[k].toNat : Int) 32 126)
      by_cases h2 : 32 ≤ s[k].toNat ∧ s[k].toNat ≤ 126
      · have hin : inB (s[k].toNat : Int) 32 126 = true := by simp [inB]; omega
        rw [hin] at HP
        have H2 := Lib.hid h2; clear h2 hin
        by_cases h3 : s[k] = 35
        · have hb : ((s[k].toNat : Int) == 35) = true := by rw [h3]; rfl
          have H3 := Lib.hid h3; clear h3
          go_wp2_with fail
          refine (HP.out _).mono ?_
          rintro e w' ⟨rfl, rfl⟩
          go_wp2
          go_ret
          exact ⟨ret_bool (by rw [all_no h1 (by rw [H3.out]; rfl)]; simp), rfl⟩
        · have hb : ((s[k].toNat : Int) == 35) = false := by
            rw [beq_eq_false_iff_ne]
            intro e
            exact h3 (UInt8.toNat_inj.1 (by have : (35 : UInt8).toNat = 35 := rfl; omega))
          have H3 := Lib.hid h3; clear h3
          go_wp2_with fail
          refine (HP.out _).mono ?_
          rintro e w' ⟨rfl, rfl⟩
          go_wp2
          go_round
          case rel => exact ⟨k + 1, by omega, by go_num, all_next h1 Hall.out (by simp [plB, Tx.prn, H2.out, H3.out])⟩
          case measure => simp [intOf]; omega
      · have hin : inB (s[k].toNat : Int) 32 126 = false := by simp [inB]; omega
        rw [hin] at HP
        have H2 := Lib.hid h2; clear h2 hin
        go_wp2_with fail
        refine (HP.out _).mono ?_
        rintro e w' ⟨rfl, rfl⟩
        go_wp2
        go_ret
        exact ⟨ret_bool (by rw [all_no h1 (by have := H2.out; simp [plB, Tx.prn]; omega)]; simp), rfl⟩
    · go_wp2
      go_ret
      exact ⟨ret_bool (by rw [all_yes h1 hk Hall.out]; simp), rfl⟩

theorem ret_str {a b : ByteArray} (h : a = b) : Ending.returned (.string a) = .returned (.string b) := by rw [h]

theorem below_drewN' {B : Nat} {w : World} {n : Nat} : Below B w (w.drewN n) := below_drewN (Below.refl _ _) n

theorem ba_eq {a b : ByteArray} (h : bs a = bs b) : a = b := by
  ext1; apply Array.ext'; exact h

/-- A text that an operation has made, its bytes told. -/
theorem add_runs {P : Program} {a b : ByteArray} (ha : a.size ≤ 4000000000000000000) (hb : b.size ≤ 4000000000000000000) : ∀ w, (Op.stringOp .add a b).run P w = .ok (.string (a ++ b)) w := fun w => run_string_add_sum w a b (by omega)

theorem size_mk (l : List UInt8) : (ByteArray.mk l.toArray).size = l.length := by
  show l.toArray.size = _
  simp
theorem size_add (a b : ByteArray) : (a ++ b).size = a.size + b.size := ByteArray.size_append


/-- A text of a record, as a struct of two texts. -/
def recV (c r : ByteArray) : Value := .agg #[.string c, .string r]
def recE (c r : ByteArray) : Tx.Rec := (bs c, bs r)

theorem stands_eq {c : UInt8} {l : List UInt8} : (decide (c ∈ l)) = l.any (· == c) := by
  rw [Bool.eq_iff_iff]
  simp

theorem l25Good_eq (c r : ByteArray) : Tx.okE (recE c r) = (!(c.toList == []) && (decide ((c.size : Int) ≤ 90) && (bs c).all plB) && !decide ((62 : UInt8) ∈ bs c) && (decide ((r.size : Int) ≤ 200) && (bs r).all plB)) := by
  rw [Bool.eq_iff_iff]
  simp only [Tx.okE, Tx.okCmd, Tx.okRep, recE, bs_toList, Bool.and_eq_true, decide_eq_true_eq, List.all_eq_true, bne_iff_ne, Bool.not_eq_true', beq_eq_false_iff_ne, decide_eq_false_iff_not, plB, bs_len]
  constructor
  · rintro ⟨⟨⟨h1, h2⟩, h3⟩, h4, h5⟩
    refine ⟨⟨⟨fun e => ?_, by omega, fun b hb => ⟨(h3 b hb).1.1, (h3 b hb).1.2⟩⟩, fun hm => (h3 _ hm).2 rfl⟩, by omega, h5⟩
    have : c.size = 0 := by rw [← bs_len, e]; rfl
    omega
  · rintro ⟨⟨⟨h1, h2, h3⟩, h4⟩, h5, h6⟩
    refine ⟨⟨⟨?_, by omega⟩, fun b hb => ⟨h3 b hb, fun e => h4 (e ▸ hb)⟩⟩, by omega, h6⟩
    have : (bs c).length ≠ 0 := fun e => h1 (List.eq_nil_of_length_eq_zero e)
    rw [bs_len] at this
    omega

set_option maxRecDepth 100000 in
set_option maxHeartbeats 400000 in
theorem l25Good_any (c r : ByteArray) (w : World) (hc : c.size ≤ 1000000000000000000) (hr : r.size ≤ 1000000000000000000) :
    Calls Tryd.prog 107 #[recV c r] w fun e w' => e = .returned (.bool (Tx.okE (recE c r))) ∧ Below w.heap.size w w' := by
  have HE := Lib.hid (l25Good_eq c r)
  have H1 := Lib.hid (fun w => l25Plain_any c 90 w (by omega))
  have H2 := Lib.hid (fun w => l1Stands_any c 62 62 w (by omega) rfl)
  have H3 := Lib.hid (fun w => l25Plain_any r 200 w (by omega))
  unfold recV
  cases h0 : c.toList == []
  case' true => 
    have HB : Hid (Below w.heap.size w (w.alloc (.cells #[.string c, .string r] 112))) := (Below.refl _ _).alloc (Nat.le_refl _) _
    rw [h0] at HE
    go_enter Tryd.func107, Tryd.ntmps107
    go_wp2_with fail
    go_ret
    exact ⟨ret_bool (by rw [HE.out]; rfl), HB.out⟩
  have HB : Hid (Below w.heap.size w (w.alloc (.cells #[.string c, .string r] 112))) := (Below.refl _ _).alloc (Nat.le_refl _) _
  rw [h0] at HE
  cases h1 : (decide ((c.size : Int) ≤ 90) && (bs c).all plB)
  all_goals rw [h1] at HE H1
  all_goals cases h2 : decide ((62 : UInt8) ∈ bs c)
  all_goals rw [h2] at HE H2
  all_goals clear h1 h2
  all_goals
    go_enter Tryd.func107, Tryd.ntmps107
    go_wp2_with (first | (go_at_call 118; (with_reducible refine (H1.out _).mono ?_); rintro e w' ⟨rfl, rfl⟩) | (go_at_call 118; (with_reducible refine (H3.out _).mono ?_); rintro e w' ⟨rfl, rfl⟩) | (go_at_call 119; (with_reducible refine (H2.out _).mono ?_); rintro e w' ⟨rfl, rfl⟩))
    go_ret
    exact ⟨ret_bool (by rw [HE.out]; simp), HB.out⟩

end Go.Proofs.YtoebegdepnigbaaDoor

/- Walks on texts: numerals by the reference, checksums. -/
namespace Go.Proofs.YtoebegdepnigbaaDoor
open Go.RowKit
set_option linter.unusedVariables false

theorem sumL_next {s : ByteArray} {k : Nat} (hk : k < s.size) : Tx.sumL ((bs s).take (k + 1)) = (41 * Tx.sumL ((bs s).take k) + s[k].toNat + 1) % 999979 := by
  rw [bs_take s k hk]; simp [Tx.sumL, List.foldl_append, Tx.sumStep]

set_option maxHeartbeats 400000 in
theorem l1Sum_any (s : ByteArray) (w : World) (hs : s.size ≤ 9223372036854775807) :
    Calls Tryd.prog 51 #[.string s] w fun e w' => e = .returned (.int .i64 (Tx.sumL (bs s) : Nat)) ∧ w = w' := by
  go_enter Tryd.func51, Tryd.ntmps51
  go_wp2
  go_loop [3, 4] (fun h i => ∃ k : Nat, k ≤ s.size ∧ i = .int .i64 k ∧ h = .int .i64 (Tx.sumL ((bs s).take k) : Nat)) (fun _ i => s.size - (intOf i).toNat)
  case atStart => exact ⟨0, by omega, rfl, rfl⟩
  case round =>
    obtain ⟨k, hk, rfl, rfl⟩ := hrel
    by_cases h1 : k < s.size
    · have hlt : s[k].toNat < 256 := UInt8.toNat_lt _
      have hh := Tx.sumL_lt ((bs s).take k)
      have HN := Lib.hid (sumL_next h1)
      generalize Tx.sumL ((bs s).take k) = h at hh HN
      go_wp2
      go_round
      case rel => exact ⟨k + 1, by omega, by go_num, by rw [HN.out]; go_num⟩
      case measure => simp [intOf]; omega
    · obtain rfl : k = s.size := by omega
      have HE := Lib.hid (congrArg Tx.sumL (bs_all s))
      go_wp2
      go_ret
      exact ⟨ret_int (by rw [HE.out]), rfl⟩

def digs : ByteArray := ⟨#[48, 49, 50, 51, 52, 53, 54, 55, 56, 57]⟩
theorem dig_one : ∀ k : Nat, k < 10 → digs.extract k (k + 1) = ⟨#[UInt8.ofNat (48 + k)]⟩ := by decide
theorem num_small {n : Int} (h0 : 0 ≤ n) (h : n < 10) : (ByteArray.mk (Lib.decDigits n.toNat).toArray) = digs.extract n.toNat (n.toNat + 1) := by
  rw [dig_one _ (by omega), Lib.decDigits, dif_pos (by omega)]
theorem num_big {n : Int} (h : 10 ≤ n) : (ByteArray.mk (Lib.decDigits n.toNat).toArray) = ⟨(Lib.decDigits (n / 10).toNat).toArray⟩ ++ digs.extract (n % 10).toNat ((n % 10).toNat + 1) := by
  rw [dig_one _ (by omega), Lib.decDigits, dif_neg (by omega)]
  have e1 : n.toNat / 10 = (n / 10).toNat := by omega
  have e2 : n.toNat % 10 = (n % 10).toNat := by omega
  rw [e1, e2]
  ext1
  simp [ByteArray.data_append]

set_option maxRecDepth 100000 in
set_option maxHeartbeats 400000 in
theorem l1Num_any (b : Nat) : ∀ (n : Int) (w : World), n ≤ b → 0 ≤ n → n ≤ 9000000000000000000 →
    Calls Tryd.prog 25 #[.int .i64 n] w fun e w' => e = .returned (.string ⟨(Lib.decDigits n.toNat).toArray⟩) ∧ ∃ m, w' = w.drewN m := by
  induction b with
  | zero =>
    intro n w hb h0 _
    have h9 : n < 10 := by omega
    have HN := Lib.hid (num_small h0 h9)
    go_enter Tryd.func25, Tryd.ntmps25
    go_wp2
    go_ret
    exact ⟨ret_str (by rw [HN.out, show (n + 1).toNat = n.toNat + 1 by omega]; rfl), 0, rfl⟩
  | succ b ih =>
    intro n w hb h0 hm
    by_cases h9 : n < 10
    · have HN := Lib.hid (num_small h0 h9)
      go_enter Tryd.func25, Tryd.ntmps25
      go_wp2
      go_ret
      exact ⟨ret_str (by rw [HN.out, show (n + 1).toNat = n.toNat + 1 by omega]; rfl), 0, rfl⟩
    · have HN := Lib.hid (num_big (by omega : 10 ≤ n))
      have IH := Lib.hid (fun w => ih (n / 10) w (by omega) (by omega) (by omega))
      have d1 : 0 ≤ n % 10 := by omega
      have d2 : n % 10 ≤ 9 := by omega
      go_enter Tryd.func25, Tryd.ntmps25
      go_wp2_with fail
      have s1 : IntKind.i64.wrap (n % 10 + 1) = n % 10 + 1 := IntWalk.i64_in _ (by omega)
      have s3 : n.tdiv 10 = n / 10 := Int.tdiv_eq_ediv_of_nonneg h0
      have s4 : n.tmod 10 = n % 10 := Int.tmod_eq_emod_of_nonneg h0
      have hadd : ∀ w, (Op.stringOp .add ⟨(Lib.decDigits (n / 10).toNat).toArray⟩ ((ByteArray.mk #[48, 49, 50, 51, 52, 53, 54, 55, 56, 57]).extract (n % 10).toNat (n % 10 + 1).toNat)).run Tryd.prog w = .ok (.string (⟨(Lib.decDigits (n / 10).toNat).toArray⟩ ++ (ByteArray.mk #[48, 49, 50, 51, 52, 53, 54, 55, 56, 57]).extract (n % 10).toNat (n % 10 + 1).toNat)) w := fun w => by
        refine run_string_add_sum w _ _ ?_
        have e1 : (ByteArray.mk (Lib.decDigits (n / 10).toNat).toArray).size = (Lib.decDigits (n / 10).toNat).length := by
          show (Lib.decDigits (n / 10).toNat).toArray.size = _
          simp
        have e2 := Tx.digits_len 18 (n / 10).toNat (by omega)
        have e3 : ((ByteArray.mk #[48, 49, 50, 51, 52, 53, 54, 55, 56, 57]).extract (n % 10).toNat (n % 10 + 1).toNat).size ≤ 10 := by
          rw [ByteArray.size_extract]
          have : (ByteArray.mk #[48, 49, 50, 51, 52, 53, 54, 55, 56, 57]).size = 10 := rfl
          omega
        omega
      go_quiet ((go_at_call 25; exact Calls.quiet_of (IH.out _)))
      go_wp2
      go_ret
      exact ⟨ret_str (by rw [HN.out, show (n % 10 + 1).toNat = (n % 10).toNat + 1 by omega]; rfl), _, rfl⟩

set_option maxRecDepth 100000 in
set_option maxHeartbeats 400000 in
theorem l1Seal_any (s : ByteArray) (w : World) (hs : s.size ≤ 1000000000000000000) :
    Calls Tryd.prog 26 #[.string s] w fun e w' => e = .returned (.string ⟨(Tx.sealL (bs s)).toArray⟩) ∧ ∃ m, w' = w.drewN m := by
  have h1 := Tx.sumL_lt (bs s)
  have HS := Lib.hid (l1Sum_any s w (by omega))
  have hn := l1Num_any 1000000 (Tx.sumL (bs s) : Nat) w (by omega) (by omega) (by omega)
  rw [Int.toNat_natCast] at hn
  have HN := Lib.hid hn; clear hn
  have h2 := Tx.digits_len 5 (Tx.sumL (bs s)) (by omega)
  have h3 : (ByteArray.mk (Lib.decDigits (Tx.sumL (bs s))).toArray).size ≤ 6 := by rw [size_mk]; exact h2
  have HE : Hid (Tx.sealL (bs s) = bs s ++ 35 :: Lib.decDigits (Tx.sumL (bs s))) := rfl
  have a1 := add_runs (P := Tryd.prog) (a := s) (b := ⟨#[35]⟩) (by omega) (by decide)
  have a2 := add_runs (P := Tryd.prog) (a := s ++ ⟨#[35]⟩) (b := ⟨(Lib.decDigits (Tx.sumL (bs s))).toArray⟩) (by rw [size_add]; have : (ByteArray.mk #[35]).size = 1 := rfl; omega) (by omega)
  go_enter Tryd.func26, Tryd.ntmps26
  go_wp2_with fail
  refine HS.out.mono ?_
  rintro e w' ⟨rfl, rfl⟩
  go_wp2_with fail
  refine HN.out.mono ?_
  rintro e w' ⟨rfl, m, rfl⟩
  go_wp2
  go_ret
  exact ⟨ret_str (ba_eq (by show _ = Tx.sealL (bs s); rw [HE.out, bs_add, bs_add]; simp [bs])), m, rfl⟩

end Go.Proofs.YtoebegdepnigbaaDoor

/- Walks on texts: the program's record check, checksums, encodings. -/
namespace Go.Proofs.YtoebegdepnigbaaDoor
open Go.RowKit
set_option linter.unusedVariables false

theorem okRec_eq (c r : ByteArray) : Tx.okE (recE c r) = (inB (c.size : Int) 1 90 && (bs c).all Tx.prn && !(Lib.containsAny (bs c) [35, 62]) && decide ((r.size : Int) ≤ 200) && (bs r).all Tx.prn && !decide ((35 : UInt8) ∈ bs r)) := by
  rw [Bool.eq_iff_iff, Tx.containsAny_mem]
  simp only [Tx.okE, Tx.okCmd, Tx.okRep, recE, Bool.and_eq_true, decide_eq_true_eq, List.all_eq_true, bne_iff_ne, Bool.not_eq_true', decide_eq_false_iff_not, bs_len, inB_iff, List.any_eq_false]
  constructor
  · rintro ⟨⟨⟨h1, h2⟩, h3⟩, h4, h5⟩
    refine ⟨⟨⟨⟨⟨by omega, fun b hb => (h3 b hb).1.1⟩, fun b hb => ?_⟩, by omega⟩, fun b hb => (h5 b hb).1⟩, fun hm => (h5 _ hm).2 rfl⟩
    have := h3 b hb
    simp; exact ⟨this.1.2, this.2⟩
  · rintro ⟨⟨⟨⟨⟨h1, h2⟩, h3⟩, h4⟩, h5⟩, h6⟩
    refine ⟨⟨by omega, fun b hb => ?_⟩, by omega, fun b hb => ⟨h5 b hb, fun e => h6 (e ▸ hb)⟩⟩
    have := h3 b hb
    simp at this
    exact ⟨⟨h2 b hb, this.1⟩, this.2⟩

theorem bcell {W w1 : World} {B : Nat} (hb : Below B W w1) {b o : Nat} (h : b < B) : w1.cell? ⟨b, o, none⟩ = W.cell? ⟨b, o, none⟩ := hb.cell (p := ⟨b, o, none⟩) h
theorem alloc_cell {w : World} {cs : Array Value} {t : TypeId} (o : Nat) : (w.alloc (.cells cs t)).cell? ⟨w.heap.size, o, none⟩ = cs[o]? := by rw [World.cell?_alloc_at _ _ _ _ rfl]

set_option maxRecDepth 100000 in
set_option maxHeartbeats 1000000 in
theorem isValidRecord_any (c r : ByteArray) (w : World) (hc : c.size ≤ 4000000000) (hr : r.size ≤ 4000000000) :
    Calls Tryd.prog 123 #[recV c r] w fun e w' => e = .returned (.bool (Tx.okE (recE c r))) ∧ Below w.heap.size w w' := by
  have HE := Lib.hid (okRec_eq c r)
  have H0 := Lib.hid (fun w => in_any (c.size : Int) 1 90 w)
  have H1 := Lib.hid (fun w => isPrintable_any c w (by omega))
  have H3 := Lib.hid (fun w => isPrintable_any r w (by omega))
  have H4 := Lib.hid (fun w => Tryd.strings_Contains_one r 35 w)
  have e4 : decide (0 ≤ Lib.indexByte r.data.toList 35) = decide ((35 : UInt8) ∈ bs r) := Tx.indexByte_mem 35 (bs r)
  rw [e4] at H4
  have H2 : Hid ((bs c).all Tx.prn = true → ∀ w, Calls Tryd.prog 125 #[.string c, .string ⟨#[35, 62]⟩] w fun e w' => e = .returned (.bool (Lib.containsAny (bs c) [35, 62])) ∧ Below w.heap.size w w') := fun hall w =>
    Tryd.strings_ContainsAny_laid c ⟨#[35, 62]⟩ w (by omega) (by decide) (fun j b hj => by
      have := List.all_eq_true.1 hall b (List.mem_of_getElem? hj)
      simp [Tx.prn] at this; omega) (fun j b hj => by
      have hm := List.mem_of_getElem? hj
      have e : (ByteArray.mk #[35, 62]).data.toList = [35, 62] := rfl
      rw [e] at hm
      simp at hm
      rcases hm with rfl | rfl <;> decide)
  have HB : Hid (Below w.heap.size w (w.alloc (.cells #[.string c, .string r] 112))) := (Below.refl _ _).alloc (Nat.le_refl _) _
  clear e4
  unfold recV
  cases h0 : inB (c.size : Int) 1 90
  case' false =>
    rw [h0] at H0 HE
    by_cases h5 : (r.size : Int) ≤ 200
    all_goals
      go_enter Tryd.func123, Tryd.ntmps123
      go_wp2_with (go_at_call 54; refine (H0.out _).mono ?_; rintro e w' ⟨rfl, rfl⟩)
      go_ret
      exact ⟨ret_bool (by rw [HE.out]; rfl), HB.out⟩
  rw [h0] at H0 HE
  cases h1 : (bs c).all Tx.prn
  case' false =>
    rw [h1] at H1 HE
    go_enter Tryd.func123, Tryd.ntmps123
    go_wp2_with (first | (go_at_call 54; refine (H0.out _).mono ?_; rintro e w' ⟨rfl, rfl⟩) | (go_at_call 124; (with_reducible refine (H1.out _).mono ?_); rintro e w' ⟨rfl, rfl⟩))
    go_ret
    exact ⟨ret_bool (by rw [HE.out]; rfl), HB.out⟩
  rw [h1] at H1 HE
  have H2 := Lib.hid (H2.out h1)
  cases h2 : Lib.containsAny (bs c) [35, 62]
  all_goals rw [h2] at H2 HE
  all_goals clear h0 h1 h2
  case' true =>
    go_enter Tryd.func123, Tryd.ntmps123
    go_wp2_with (first | (go_at_call 54; refine (H0.out _).mono ?_; rintro e w' ⟨rfl, rfl⟩) | (go_at_call 124; (with_reducible refine (H1.out _).mono ?_); rintro e w' ⟨rfl, rfl⟩))
    refine (H2.out _).mono ?_
    rintro e w1 ⟨rfl, hb1⟩
    have HB1 := Lib.hid (HB.out.trans (hb1.mono HB.out.size))
    clear hb1
    go_wp2
    go_ret
    exact ⟨ret_bool (by rw [HE.out]; simp), HB1.out⟩
  by_cases h5 : (r.size : Int) ≤ 200
  case' neg =>
    rw [decide_eq_false h5] at HE
    go_enter Tryd.func123, Tryd.ntmps123
    go_wp2_with (first | (go_at_call 54; refine (H0.out _).mono ?_; rintro e w' ⟨rfl, rfl⟩) | (go_at_call 124; (with_reducible refine (H1.out _).mono ?_); rintro e w' ⟨rfl, rfl⟩))
    refine (H2.out _).mono ?_
    rintro e w1 ⟨rfl, hb1⟩
    have hcell : w1.cell? ⟨w.heap.size, 1, none⟩ = some (.string r) := (bcell hb1 (by simp)).trans (alloc_cell 1)
    have HB1 := Lib.hid (HB.out.trans (hb1.mono HB.out.size))
    clear hb1
    go_wp2
    go_ret
    exact ⟨ret_bool (by rw [HE.out]; simp), HB1.out⟩
  rw [decide_eq_true h5] at HE
  cases h6 : (bs r).all Tx.prn
  all_goals rw [h6] at H3 HE
  all_goals cases h7 : decide ((35 : UInt8) ∈ bs r)
  all_goals rw [h7] at H4 HE
  all_goals clear h6 h7
  all_goals
    go_enter Tryd.func123, Tryd.ntmps123
    go_wp2_with (first | (go_at_call 54; refine (H0.out _).mono ?_; rintro e w' ⟨rfl, rfl⟩) | (go_at_call 124; (with_reducible refine (H1.out _).mono ?_); rintro e w' ⟨rfl, rfl⟩))
    refine (H2.out _).mono ?_
    rintro e w1 ⟨rfl, hb1⟩
    have hcell : w1.cell? ⟨w.heap.size, 1, none⟩ = some (.string r) := (bcell hb1 (by simp)).trans (alloc_cell 1)
    have HB1 := Lib.hid (HB.out.trans (hb1.mono HB.out.size))
    clear hb1
    go_wp2_with (first | (go_at_call 124; (with_reducible refine (H3.out _).mono ?_); rintro e w' ⟨rfl, rfl⟩) | (go_at_call 57; (with_reducible refine (H4.out _).mono ?_); rintro e w' ⟨rfl, rfl⟩))
    go_ret
    exact ⟨ret_bool (by rw [HE.out]; simp), HB1.out⟩

end Go.Proofs.YtoebegdepnigbaaDoor

/- Walks on texts: the program's checksums and encodings, and the reference's. -/
namespace Go.Proofs.YtoebegdepnigbaaDoor
open Go.RowKit
set_option linter.unusedVariables false

theorem ret_v2 {a b c d : Value} (h : a = b) (k : c = d) : Ending.returned (.tuple #[a, c]) = .returned (.tuple #[b, d]) := by rw [h, k]
theorem ret_v3 {a b c d x y : Value} (h : a = b) (k : c = d) (l : x = y) : Ending.returned (.tuple #[a, c, x]) = .returned (.tuple #[b, d, y]) := by rw [h, k, l]

/-- The table that the library's numerals are read off. -/
def Tab (w : World) : Prop := Lib.TabIs Tryd.prog w "internal/strconv.uint64pow10" .u64 Lib.pow10Tab
theorem Tab.below {w w' : World} (h : Tab w) (hb : Below w.heap.size w w') : Tab w' := by
  unfold Tab Lib.TabIs World.var? at *
  cases hg : Tryd.prog.globalNamed "internal/strconv.uint64pow10" with
  | none => rw [hg] at h; simp at h
  | some g =>
    rw [hg] at h
    simp only [Option.bind_some] at h ⊢
    have hlt : g < w.heap.size := by
      rcases Nat.lt_or_ge g w.heap.size with h1 | h1
      · exact h1
      · rw [Array.getElem?_eq_none h1] at h; simp at h
    rw [hb.block g hlt]; exact h

theorem itoa_nat (n : Nat) : Lib.itoa (n : Int) = Lib.decDigits n := by
  unfold Lib.itoa
  rw [if_neg (by omega), Int.toNat_natCast]

theorem itoa_any (n : Int) (w : World) (h0 : 0 ≤ n) (h1 : n ≤ 9223372036854775807) (ht : Tab w) :
    Calls Tryd.prog 32 #[.int .i64 n] w fun e w' => e = .returned (.string ⟨(Lib.decDigits n.toNat).toArray⟩) ∧ Below w.heap.size w w' :=
  (Tryd.strconv_Itoa n (by omega) h1 w ht).mono fun e w' ⟨he, k, os, hw⟩ => ⟨by rw [he]; congr 3; have := itoa_nat n.toNat; rw [Int.toNat_of_nonneg h0] at this; rw [this], by rw [hw]; exact Lib.below_grow _ _ (Nat.le_refl _) _ _⟩

set_option maxHeartbeats 400000 in
theorem checksum_ok (s : ByteArray) (w : World) (hs : s.size ≤ 4000) :
    Calls Tryd.prog 56 #[.string s] w fun e w' => e = .returned (.tuple #[.int .i64 (Tx.sumL (bs s) : Nat), .bool true]) ∧ w = w' := by
  go_enter Tryd.func56, Tryd.ntmps56
  go_wp2
  go_loop [4, 11] (fun h i => ∃ k : Nat, k ≤ s.size ∧ i = .int .i64 k ∧ h = .int .i64 (Tx.sumL ((bs s).take k) : Nat)) (fun _ i => s.size - (intOf i).toNat)
  case atStart => exact ⟨0, by omega, rfl, rfl⟩
  case round =>
    obtain ⟨k, hk, rfl, rfl⟩ := hrel
    by_cases h1 : k < s.size
    · have hlt : s[k].toNat < 256 := UInt8.toNat_lt _
      have hh := Tx.sumL_lt ((bs s).take k)
      have HN := Lib.hid (sumL_next h1)
      generalize Tx.sumL ((bs s).take k) = h at hh HN
      go_wp2
      go_round
      case rel => exact ⟨k + 1, by omega, by go_num, by rw [HN.out]; go_num⟩
      case measure => simp [intOf]; omega
    · obtain rfl : k = s.size := by omega
      have HE := Lib.hid (congrArg Tx.sumL (bs_all s))
      go_wp2
      go_ret2
      exact ⟨ret_v2 (by show Value.int .i64 _ = _; rw [HE.out]) rfl, rfl⟩

set_option maxRecDepth 100000 in
set_option maxHeartbeats 400000 in
theorem appendChecksum_ok (s : ByteArray) (w : World) (hs : s.size ≤ 3000) (hn : (35 : UInt8) ∉ bs s) (ht : Tab w) :
    Calls Tryd.prog 35 #[.string s] w fun e w' => e = .returned (.tuple #[.string ⟨(Tx.sealL (bs s)).toArray⟩, .bool true]) ∧ Below w.heap.size w w' := by
  have h1 := Tx.sumL_lt (bs s)
  have HS := Lib.hid (checksum_ok s w (by omega))
  have hq := itoa_any (Tx.sumL (bs s) : Nat) w (by omega) (by omega) ht
  rw [Int.toNat_natCast] at hq
  have HN := Lib.hid hq; clear hq
  have h2 := Tx.digits_len 5 (Tx.sumL (bs s)) (by omega)
  have h3 : (ByteArray.mk (Lib.decDigits (Tx.sumL (bs s))).toArray).size ≤ 6 := by rw [size_mk]; exact h2
  have HE : Hid (Tx.sealL (bs s) = bs s ++ 35 :: Lib.decDigits (Tx.sumL (bs s))) := rfl
  have h35 : (ByteArray.mk #[35]).size = 1 := rfl
  have a1 := add_runs (P := Tryd.prog) (a := s) (b := ⟨#[35]⟩) (by omega) (by decide)
  have a2 := add_runs (P := Tryd.prog) (a := s ++ ⟨#[35]⟩) (b := ⟨(Lib.decDigits (Tx.sumL (bs s))).toArray⟩) (by rw [size_add]; omega) (by omega)
  have h4 : (s ++ ⟨#[35]⟩ ++ (ByteArray.mk (Lib.decDigits (Tx.sumL (bs s))).toArray)).size ≤ 4000 := by rw [size_add, size_add]; omega
  have e4 : decide (0 ≤ Lib.indexByte s.data.toList 35) = false := by
    rw [show decide (0 ≤ Lib.indexByte s.data.toList 35) = decide ((35 : UInt8) ∈ bs s) from Tx.indexByte_mem 35 (bs s)]; exact decide_eq_false hn
  have hc := fun w => Tryd.strings_Contains_one s 35 w
  rw [e4] at hc
  have HC := Lib.hid hc; clear hc e4 h35
  go_enter Tryd.func35, Tryd.ntmps35
  go_wp2_with fail
  refine HS.out.mono ?_
  rintro e w' ⟨rfl, rfl⟩
  go_wp2_with fail
  refine HN.out.mono ?_
  rintro e w1 ⟨rfl, hb1⟩
  have HB1 := Lib.hid hb1; clear hb1
  go_wp2_with fail
  refine (HC.out _).mono ?_
  rintro e w' ⟨rfl, rfl⟩
  go_wp2_with fail
  go_ret2
  exact ⟨ret_v2 (by show Value.string _ = _; rw [show (s ++ { data := #[35] } ++ (ByteArray.mk (Lib.decDigits (Tx.sumL (bs s))).toArray)) = ⟨(Tx.sealL (bs s)).toArray⟩ from ba_eq (by show _ = Tx.sealL (bs s); rw [HE.out, bs_add, bs_add]; simp [bs])]) rfl, HB1.out⟩

end Go.Proofs.YtoebegdepnigbaaDoor

/- Walks on texts: the program's EncodeRecord. -/
namespace Go.Proofs.YtoebegdepnigbaaDoor
open Go.RowKit
set_option linter.unusedVariables false

/-- The world of a region that holds a struct of two texts in block B: what lies below B stands, the table too. -/
structure Kp (w0 : World) (B : Nat) (w : World) : Prop where
  bel : Below B w0 w
  lt : B + 1 ≤ w.heap.size
  tab : Tab w
theorem Kp.drew {w0 : World} {B : Nat} {w : World} (h : Kp w0 B w) : Kp w0 B w.drew := ⟨Below.drew h.1, h.2, h.3⟩
theorem Kp.next {w0 : World} {B : Nat} {w w' : World} (h : Kp w0 B w) (hb : Below w.heap.size w w') : Kp w0 B w' :=
  ⟨h.1.trans (hb.mono (Nat.le_trans (Nat.le_succ _) h.2)), Nat.le_trans h.2 hb.size, h.3.below hb⟩
theorem keep_drew {w0 wx : World} {B : Nat} {c r : Value} (h0 : wx.cell? ⟨B, 0, none⟩ = some c) (h1 : wx.cell? ⟨B, 1, none⟩ = some r) (hk : Kp w0 B wx) : wx.drew.cell? ⟨B, 0, none⟩ = some c ∧ wx.drew.cell? ⟨B, 1, none⟩ = some r ∧ Kp w0 B wx.drew := ⟨h0, h1, hk.drew⟩
theorem keep_next {w0 wx w' : World} {B : Nat} {c r : Value} (h0 : wx.cell? ⟨B, 0, none⟩ = some c) (h1 : wx.cell? ⟨B, 1, none⟩ = some r) (hk : Kp w0 B wx) (hb : Below wx.heap.size wx w') : w'.cell? ⟨B, 0, none⟩ = some c ∧ w'.cell? ⟨B, 1, none⟩ = some r ∧ Kp w0 B w' :=
  ⟨(bcell hb hk.2).trans h0, (bcell hb hk.2).trans h1, hk.next hb⟩

def encB (k : Nat) (c r : ByteArray) : ByteArray := ⟨(Tx.lineE k (recE c r) ++ [10]).toArray⟩

theorem enc_eq {k : Nat} {c r : ByteArray} : (ByteArray.mk (Tx.sealL (bs ((((ByteArray.mk (Lib.decDigits k).toArray) ++ ⟨#[32]⟩) ++ c ++ ⟨#[62]⟩) ++ r))).toArray) ++ ⟨#[10]⟩ = encB k c r := by
  apply ba_eq
  rw [bs_add]
  have e : bs ((((ByteArray.mk (Lib.decDigits k).toArray) ++ ⟨#[32]⟩) ++ c ++ ⟨#[62]⟩) ++ r) = Tx.body k (recE c r) := by
    rw [bs_add, bs_add, bs_add, bs_add]
    show Lib.decDigits k ++ [32] ++ bs c ++ [62] ++ bs r = Lib.decDigits k ++ 32 :: (bs c ++ 62 :: bs r)
    simp
  rw [e]
  rfl

set_option maxHeartbeats 400000 in
theorem encode_no (k : Int) (c r : ByteArray) (w : World) (hc : c.size ≤ 4000000000) (hr : r.size ≤ 4000000000) (h : (inB k 0 59 && Tx.okE (recE c r)) = false) :
    Calls Tryd.prog 120 #[.int .i64 k, recV c r] w fun e w' => e = .returned (.tuple #[.string ⟨#[]⟩, .bool false]) ∧ Below w.heap.size w w' := by
  have HB : Hid (Below w.heap.size w (w.alloc (.cells #[.string c, .string r] 112))) := (Below.refl _ _).alloc (Nat.le_refl _) _
  have H0 := Lib.hid (fun w => in_any k 0 59 w)
  have H1 := Lib.hid (fun w => isValidRecord_any c r w hc hr)
  unfold recV at *
  cases h0 : inB k 0 59
  case' true =>
    rw [h0] at H0 h
    rw [Bool.true_and] at h
    rw [h] at H1
    clear h h0
    go_enter Tryd.func120, Tryd.ntmps120
    go_wp2_with (go_at_call 54; refine (H0.out _).mono ?_; rintro e w' ⟨rfl, rfl⟩)
    refine (H1.out _).mono ?_
    rintro e w1 ⟨rfl, hb1⟩
    have HB1 := Lib.hid (HB.out.trans (hb1.mono HB.out.size)); clear hb1
    go_wp2
    go_ret2
    exact ⟨rfl, HB1.out⟩
  rw [h0] at H0
  clear h h0
  go_enter Tryd.func120, Tryd.ntmps120
  go_wp2_with (go_at_call 54; refine (H0.out _).mono ?_; rintro e w' ⟨rfl, rfl⟩)
  go_ret2
  exact ⟨rfl, HB.out⟩

set_option maxRecDepth 100000 in
set_option maxHeartbeats 1600000 in
theorem encode_yes (k : Nat) (c r : ByteArray) (w : World) (hk : k < 60) (ho : Tx.okE (recE c r) = true) (ht : Tab w) :
    Calls Tryd.prog 120 #[.int .i64 k, recV c r] w fun e w' => e = .returned (.tuple #[.string (encB k c r), .bool true]) ∧ Below w.heap.size w w' := by
  obtain ⟨⟨_, c90, _⟩, r200, _⟩ := Tx.okE_parts ho
  have hc : c.size ≤ 90 := by rw [← bs_len]; exact c90
  have hr : r.size ≤ 200 := by rw [← bs_len]; exact r200
  clear c90 r200
  have HB : Hid (Below w.heap.size w (w.alloc (.cells #[.string c, .string r] 112))) := (Below.refl _ _).alloc (Nat.le_refl _) _
  have h0 : inB (k : Int) 0 59 = true := by simp [inB]; omega
  have H0 := Lib.hid (fun w => in_any (k : Int) 0 59 w)
  have H1 := Lib.hid (fun w => isValidRecord_any c r w (by omega) (by omega))
  rw [h0] at H0
  rw [ho] at H1
  have hkd := Tx.digits_len 1 k (by omega)
  have hks : (ByteArray.mk (Lib.decDigits k).toArray).size ≤ 2 := by rw [size_mk]; exact hkd
  have h35 : (35 : UInt8) ∉ bs ((((ByteArray.mk (Lib.decDigits k).toArray) ++ ⟨#[32]⟩) ++ c ++ ⟨#[62]⟩) ++ r) := by
    have e : bs ((((ByteArray.mk (Lib.decDigits k).toArray) ++ ⟨#[32]⟩) ++ c ++ ⟨#[62]⟩) ++ r) = Tx.body k (recE c r) := by
      rw [bs_add, bs_add, bs_add, bs_add]
      show Lib.decDigits k ++ [32] ++ bs c ++ [62] ++ bs r = Lib.decDigits k ++ 32 :: (bs c ++ 62 :: bs r)
      simp
    rw [e]; exact Tx.body_no35 ho
  have z1 : (ByteArray.mk #[32]).size = 1 := rfl
  have z2 : (ByteArray.mk #[62]).size = 1 := rfl
  have z3 : (ByteArray.mk #[10]).size = 1 := rfl
  have hsz : ((((ByteArray.mk (Lib.decDigits k).toArray) ++ ⟨#[32]⟩) ++ c ++ ⟨#[62]⟩) ++ r).size ≤ 3000 := by rw [size_add, size_add, size_add, size_add]; omega
  have a1 := add_runs (P := Tryd.prog) (a := ⟨(Lib.decDigits k).toArray⟩) (b := ⟨#[32]⟩) (by omega) (by decide)
  have a2 := add_runs (P := Tryd.prog) (a := ⟨(Lib.decDigits k).toArray⟩ ++ ⟨#[32]⟩) (b := c) (by rw [size_add]; omega) (by omega)
  have a3 := add_runs (P := Tryd.prog) (a := ⟨(Lib.decDigits k).toArray⟩ ++ ⟨#[32]⟩ ++ c) (b := ⟨#[62]⟩) (by rw [size_add, size_add]; omega) (by decide)
  have a4 := add_runs (P := Tryd.prog) (a := ⟨(Lib.decDigits k).toArray⟩ ++ ⟨#[32]⟩ ++ c ++ ⟨#[62]⟩) (b := r) (by rw [size_add, size_add, size_add]; omega) (by omega)
  have a5 := add_runs (P := Tryd.prog) (a := ⟨(Tx.sealL (bs ((((ByteArray.mk (Lib.decDigits k).toArray) ++ ⟨#[32]⟩) ++ c ++ ⟨#[62]⟩) ++ r))).toArray⟩) (b := ⟨#[10]⟩) (by
    rw [size_mk]
    have := Tx.digits_len 5 (Tx.sumL (bs ((((ByteArray.mk (Lib.decDigits k).toArray) ++ ⟨#[32]⟩) ++ c ++ ⟨#[62]⟩) ++ r))) (Nat.lt_trans (Tx.sumL_lt _) (by omega))
    have e := bs_len ((((ByteArray.mk (Lib.decDigits k).toArray) ++ ⟨#[32]⟩) ++ c ++ ⟨#[62]⟩) ++ r)
    unfold Tx.sealL
    simp only [List.length_append, List.length_cons]
    omega) (by decide)
  have HA := Lib.hid (fun w (h : Tab w) => appendChecksum_ok _ w hsz h35 h)
  have HI := Lib.hid (fun w (h : Tab w) => by simpa using itoa_any (k : Int) w (by omega) (by omega) h)
  have HE := Lib.hid (enc_eq (k := k) (c := c) (r := r))
  have hc0 : (w.alloc (.cells #[.string c, .string r] 112)).cell? ⟨w.heap.size, 0, none⟩ = some (.string c) := alloc_cell 0
  have hc1 : (w.alloc (.cells #[.string c, .string r] 112)).cell? ⟨w.heap.size, 1, none⟩ = some (.string r) := alloc_cell 1
  have HC0 := Lib.hid hc0; have HC1 := Lib.hid hc1; clear hc0 hc1
  have HT := Lib.hid (Tab.below ht HB.out)
  clear ht h0 ho h35 hkd z1 z2 z3 hsz
  unfold recV at *
  go_enter Tryd.func120, Tryd.ntmps120
  go_wp2_with (go_at_call 54; refine (H0.out _).mono ?_; rintro e w' ⟨rfl, rfl⟩)
  refine (H1.out _).mono ?_
  rintro e w1 ⟨rfl, hb1⟩
  have g0 : w1.cell? ⟨w.heap.size, 0, none⟩ = some (.string c) := (bcell hb1 (by simp)).trans HC0.out
  have g1 : w1.cell? ⟨w.heap.size, 1, none⟩ = some (.string r) := (bcell hb1 (by simp)).trans HC1.out
  have gk : Kp w w.heap.size w1 := ⟨HB.out.trans (hb1.mono HB.out.size), by have := hb1.size; simp at this; omega, HT.out.below hb1⟩
  clear hb1
  go_wp2_with fail
  have hS0 := keep_drew g0 g1 gk
  go_region_held3 (fun w' => w'.cell? ⟨w.heap.size, 0, none⟩ = some (.string c) ∧ w'.cell? ⟨w.heap.size, 1, none⟩ = some (.string r) ∧ Kp w w.heap.size w') (go_keep)
    (first | ((try go_split_ands); go_at_call 32; refine (HI.out _ ?_).mono ?_; (exact Kp.tab (w0 := w) (B := w.heap.size) (by assumption)); rintro e w' ⟨rfl, hb⟩; have hS := keep_next (c := .string c) (r := .string r) (by assumption) (by assumption) (by assumption) hb) | ((try go_split_ands); go_at_call 35; refine (HA.out _ ?_).mono ?_; (exact Kp.tab (w0 := w) (B := w.heap.size) (by assumption)); rintro e w' ⟨rfl, hb⟩; have hS := keep_next (c := .string c) (r := .string r) (by assumption) (by assumption) (by assumption) hb))
  go_wp2
  go_ret2
  rename_i hk1
  exact ⟨ret_v2 (by show Value.string _ = _; rw [HE.out]) rfl, hk1.2.2.bel⟩

set_option maxRecDepth 100000 in
set_option maxHeartbeats 1600000 in
theorem l25Line_any (k : Int) (c r : ByteArray) (w : World) (hk0 : 0 ≤ k) (hk : k ≤ 1000000) (hc : c.size ≤ 1000000) (hr : r.size ≤ 1000000) :
    Calls Tryd.prog 108 #[.int .i64 k, recV c r] w fun e w' => e = .returned (.string (encB k.toNat c r)) ∧ Below w.heap.size w w' := by
  have HB : Hid (Below w.heap.size w (w.alloc (.cells #[.string c, .string r] 112))) := (Below.refl _ _).alloc (Nat.le_refl _) _
  have hkd := Tx.digits_len 6 k.toNat (by omega)
  have hks : (ByteArray.mk (Lib.decDigits k.toNat).toArray).size ≤ 7 := by rw [size_mk]; exact hkd
  have z1 : (ByteArray.mk #[32]).size = 1 := rfl
  have z2 : (ByteArray.mk #[62]).size = 1 := rfl
  have hsz : ((((ByteArray.mk (Lib.decDigits k.toNat).toArray) ++ ⟨#[32]⟩) ++ c ++ ⟨#[62]⟩) ++ r).size ≤ 3000000 := by rw [size_add, size_add, size_add, size_add]; omega
  have a1 := add_runs (P := Tryd.prog) (a := ⟨(Lib.decDigits k.toNat).toArray⟩) (b := ⟨#[32]⟩) (by omega) (by decide)
  have a2 := add_runs (P := Tryd.prog) (a := ⟨(Lib.decDigits k.toNat).toArray⟩ ++ ⟨#[32]⟩) (b := c) (by rw [size_add]; omega) (by omega)
  have a3 := add_runs (P := Tryd.prog) (a := ⟨(Lib.decDigits k.toNat).toArray⟩ ++ ⟨#[32]⟩ ++ c) (b := ⟨#[62]⟩) (by rw [size_add, size_add]; omega) (by decide)
  have a4 := add_runs (P := Tryd.prog) (a := ⟨(Lib.decDigits k.toNat).toArray⟩ ++ ⟨#[32]⟩ ++ c ++ ⟨#[62]⟩) (b := r) (by rw [size_add, size_add, size_add]; omega) (by omega)
  have a5 := add_runs (P := Tryd.prog) (a := ⟨(Tx.sealL (bs ((((ByteArray.mk (Lib.decDigits k.toNat).toArray) ++ ⟨#[32]⟩) ++ c ++ ⟨#[62]⟩) ++ r))).toArray⟩) (b := ⟨#[10]⟩) (by
    rw [size_mk]
    have := Tx.digits_len 5 (Tx.sumL (bs ((((ByteArray.mk (Lib.decDigits k.toNat).toArray) ++ ⟨#[32]⟩) ++ c ++ ⟨#[62]⟩) ++ r))) (Nat.lt_trans (Tx.sumL_lt _) (by omega))
    have e := bs_len ((((ByteArray.mk (Lib.decDigits k.toNat).toArray) ++ ⟨#[32]⟩) ++ c ++ ⟨#[62]⟩) ++ r)
    unfold Tx.sealL
    simp only [List.length_append, List.length_cons]
    omega) (by decide)
  have HA := Lib.hid (fun w => l1Seal_any _ w (by omega : ((((ByteArray.mk (Lib.decDigits k.toNat).toArray) ++ ⟨#[32]⟩) ++ c ++ ⟨#[62]⟩) ++ r).size ≤ 1000000000000000000))
  have HI := Lib.hid (fun w => l1Num_any 1000000 k w (by omega) hk0 (by omega))
  have HE := Lib.hid (enc_eq (k := k.toNat) (c := c) (r := r))
  have hc0 : (w.alloc (.cells #[.string c, .string r] 112)).cell? ⟨w.heap.size, 0, none⟩ = some (.string c) := alloc_cell 0
  have hc1 : (w.alloc (.cells #[.string c, .string r] 112)).cell? ⟨w.heap.size, 1, none⟩ = some (.string r) := alloc_cell 1
  clear hkd z1 z2 hsz
  unfold recV at *
  go_enter Tryd.func108, Tryd.ntmps108
  go_wp2_with fail
  go_quiet ((first | (go_at_call 25; exact Calls.quiet_of (HI.out _)) | (go_at_call 26; exact Calls.quiet_of (HA.out _))))
  go_wp2
  go_ret
  exact ⟨ret_str HE.out, below_drewN HB.out _⟩

end Go.Proofs.YtoebegdepnigbaaDoor

/- Walks on texts: cutting at one byte; a record off the head of a text. -/
namespace Go.Proofs.YtoebegdepnigbaaDoor
open Go.RowKit
set_option linter.unusedVariables false

def ba (l : List UInt8) : ByteArray := ⟨l.toArray⟩
theorem bs_ba (l : List UInt8) : bs (ba l) = l := rfl
theorem ba_bs (s : ByteArray) : ba (bs s) = s := ba_eq rfl
theorem ba_size (l : List UInt8) : (ba l).size = l.length := size_mk l

theorem index_split {s a b : ByteArray} {c : UInt8} (ha : bs a = Tx.upto c (bs s)) (hb : bs b = Tx.past c (bs s)) (hm : c ∈ bs s) :
    Lib.indexByte s.data.toList c = (a.size : Int) ∧ a.size < s.size ∧ s.extract 0 a.size = a ∧ s.extract (a.size + 1) s.size = b := by
  obtain ⟨x, y, hxy, hn⟩ := Tx.parts hm
  have e1 := Tx.upto_app y hn
  have e2 := Tx.past_app y hn
  rw [hxy, e1] at ha
  rw [hxy, e2] at hb
  have hl : a.size = x.length := by rw [← bs_len, ha]
  have hs : s.size = x.length + 1 + y.length := by rw [← bs_len, hxy]; simp; omega
  refine ⟨?_, by omega, ?_, ?_⟩
  · show Lib.indexByte (bs s) c = _
    rw [hxy, Tx.indexByte_in y hn, hl]
  · apply ba_eq
    rw [ha]
    unfold bs
    rw [Lib.extract_data]
    show ((bs s).drop 0).take (a.size - 0) = x
    rw [hxy, hl]; simp
  · apply ba_eq
    rw [hb]
    unfold bs
    rw [Lib.extract_data]
    show ((bs s).drop (a.size + 1)).take (s.size - (a.size + 1)) = y
    rw [hxy, hl, hs]
    rw [List.drop_append, List.drop_of_length_le (by omega)]
    simp

theorem index_none {s a b : ByteArray} {c : UInt8} (ha : bs a = Tx.upto c (bs s)) (hb : bs b = Tx.past c (bs s)) (hm : c ∉ bs s) :
    Lib.indexByte s.data.toList c = -1 ∧ a = s ∧ b = ⟨#[]⟩ := by
  refine ⟨Tx.indexByte_out hm, ba_eq (by rw [ha, Tx.upto_none hm]), ba_eq (by rw [hb, Tx.past_none hm]; rfl)⟩

set_option maxRecDepth 100000 in
set_option maxHeartbeats 400000 in
theorem litecut_any (s a b : ByteArray) (c : UInt8) (d : Bool) (w : World) (hs : s.size ≤ 4000000000000000000) (ha : bs a = Tx.upto c (bs s)) (hb : bs b = Tx.past c (bs s)) (hd : decide (c ∈ bs s) = d) :
    Calls Tryd.prog 63 #[.string s, .string ⟨#[c]⟩] w fun e w' => e = .returned (.tuple #[.string a, .string b, .bool d]) ∧ ∃ n, w' = w.drewN n := by
  have h1 := fun w => Tryd.stringslite_Index_one s c w
  by_cases hm : c ∈ bs s
  · obtain ⟨e1, e2, e3, e4⟩ := index_split ha hb hm
    rw [e1] at h1
    have H1 := Lib.hid h1
    have E3 := Lib.hid e3
    have E4 := Lib.hid e4
    have hD := Lib.hid (hd.symm.trans (decide_eq_true hm))
    clear h1 e1 e3 e4 hd hm ha hb
    go_enter Tryd.func63, Tryd.ntmps63
    go_wp2_with fail
    refine (H1.out _).mono ?_
    rintro e w' ⟨rfl, rfl⟩
    go_wp2_with fail
    have hsm : ((ByteArray.mk #[c]).size : Int) = 1 := rfl
    go_quiet (fail)
    go_wp2
    go_ret3
    exact ⟨ret_v3 (by show Value.string _ = _; first | rw [E3.out] | (congr 1; exact E3.out)) (by show Value.string _ = _; first | rw [E4.out] | (congr 1; exact E4.out)) (by rw [hD.out]; rfl), _, rfl⟩
  · obtain ⟨e1, e2, e3⟩ := index_none ha hb hm
    rw [e1] at h1
    have H1 := Lib.hid h1
    have hD := Lib.hid (hd.symm.trans (decide_eq_false hm))
    subst e2
    subst e3
    clear h1 e1 hd hm ha hb
    go_enter Tryd.func63, Tryd.ntmps63
    go_wp2_with fail
    refine (H1.out _).mono ?_
    rintro e w' ⟨rfl, rfl⟩
    go_wp2_with fail
    go_ret3
    exact ⟨ret_v3 rfl rfl (by rw [hD.out]; rfl), 0, rfl⟩

set_option maxHeartbeats 400000 in
theorem cut1_any (s a b : ByteArray) (c : UInt8) (d : Bool) (w : World) (hs : s.size ≤ 4000000000000000000) (ha : bs a = Tx.upto c (bs s)) (hb : bs b = Tx.past c (bs s)) (hd : decide (c ∈ bs s) = d) :
    Calls Tryd.prog 47 #[.string s, .string ⟨#[c]⟩] w fun e w' => e = .returned (.tuple #[.string a, .string b, .bool d]) ∧ ∃ n, w' = w.drewN n := by
  have H := Lib.hid (fun w => litecut_any s a b c d w hs ha hb hd)
  clear ha hb hd
  go_enter Tryd.func47, Tryd.ntmps47
  go_wp2_with fail
  refine (H.out _).mono ?_
  rintro e w' ⟨rfl, n, rfl⟩
  go_wp2
  go_ret3
  exact ⟨rfl, n, rfl⟩

/-- What stood before a call still stands, cell for cell and mark for mark. -/
theorem stands {W w1 : World} {B : Nat} (hb : Below B W w1) : (∀ b o, b < B → w1.cell? ⟨b, o, none⟩ = W.cell? ⟨b, o, none⟩) ∧ (∀ b o, b < B → w1.frozen? ⟨b, o, none⟩ = W.frozen? ⟨b, o, none⟩) :=
  ⟨fun b o h => hb.cell (p := ⟨b, o, none⟩) h, fun b o h => hb.frozen (p := ⟨b, o, none⟩) h⟩

theorem two_set {w : World} {B : Nat} {a b : Value} (x y : Value) (h0 : w.cell? ⟨B, 0, none⟩ = some a) (h1 : w.cell? ⟨B, 1, none⟩ = some b) :
    (w.setCell ⟨B, 0, none⟩ x).cell? ⟨B, 0, none⟩ = some x ∧ ((w.setCell ⟨B, 0, none⟩ x).setCell ⟨B, 1, none⟩ y).cell? ⟨B, 0, none⟩ = some x ∧ ((w.setCell ⟨B, 0, none⟩ x).setCell ⟨B, 1, none⟩ y).cell? ⟨B, 1, none⟩ = some y := by
  have e0 := World.cell?_setCell_same' w ⟨B, 0, none⟩ x (by rw [h0]; rfl)
  have ne : (⟨B, 0, none⟩ : Addr) ≠ ⟨B, 1, none⟩ := by simp
  have e1 : (w.setCell ⟨B, 0, none⟩ x).cell? ⟨B, 1, none⟩ = some b := (World.cell?_setCell_other (h := ne) ..).trans h1
  exact ⟨e0, (World.cell?_setCell_other (h := ne.symm) ..).trans e0, World.cell?_setCell_same' _ _ _ (by rw [e1]; rfl)⟩

theorem below_two {w w1 : World} {B : Nat} (h : Below B w w1) (x y : Value) : Below B w ((w1.setCell ⟨B, 0, none⟩ x).setCell ⟨B, 1, none⟩ y) :=
  Below.setCell (p := ⟨B, 1, none⟩) (Below.setCell (p := ⟨B, 0, none⟩) h (Nat.le_refl _) _) (Nat.le_refl _) _

def zRec : Value := .agg #[.string ⟨#[]⟩, .string ⟨#[]⟩]

theorem step_no {k : Nat} {s : ByteArray} (h : (10 : UInt8) ∉ bs s) : Tx.step k (bs s) = none := by unfold Tx.step; rw [if_neg h]
theorem step_dec {k : Nat} {s : ByteArray} (h : (10 : UInt8) ∈ bs s) : Tx.step k (bs s) = (Tx.dec k (Tx.upto 10 (bs s))).map fun e => (e, (Tx.upto 10 (bs s)).length + 1) := by unfold Tx.step; rw [if_pos h]

theorem enc_cmp {k : Nat} {line c r : ByteArray} : ((encB k c r).toList == (line ++ ⟨#[10]⟩).toList) = (Tx.lineE k (recE c r) == bs line) := by
  rw [Bool.eq_iff_iff, beq_iff_eq, beq_iff_eq, bs_toList, bs_toList, bs_add]
  show Tx.lineE k (recE c r) ++ [10] = bs line ++ [10] ↔ _
  rw [List.append_left_inj]

set_option maxRecDepth 100000 in
set_option maxHeartbeats 1600000 in
theorem decode_none (k : Nat) (s : ByteArray) (w : World) (hs : s.size ≤ 4000000000) (hk : k ≤ 60) (ht : Tab w) (h : Tx.step k (bs s) = none) :
    Calls Tryd.prog 109 #[.int .i64 k, .string s] w fun e w' => e = .returned (.tuple #[zRec, .int .i64 0, .bool false]) ∧ Below w.heap.size w w' := by
  obtain ⟨line, hline⟩ : ∃ l, bs l = Tx.upto 10 (bs s) := ⟨ba _, rfl⟩
  obtain ⟨rst, hrst⟩ : ∃ l, bs l = Tx.past 10 (bs s) := ⟨ba _, rfl⟩
  have hls : line.size ≤ s.size := by rw [← bs_len, ← bs_len, hline]; exact Tx.upto_len _ _
  have HC1 := Lib.hid (fun w => cut1_any s line rst 10 _ w (by omega) hline hrst rfl)
  unfold zRec
  by_cases hm : (10 : UInt8) ∈ bs s
  case' neg =>
    rw [decide_eq_false hm] at HC1
    clear hm h hline hrst
    go_enter Tryd.func109, Tryd.ntmps109
    go_wp2_with fail
    refine (HC1.out _).mono ?_
    rintro e w' ⟨rfl, n, rfl⟩
    go_wp2
    refine bodyPost_ret (v := .tuple #[.agg #[.string ⟨#[]⟩, .string ⟨#[]⟩], .int .i64 0, .bool false]) (by simp [results, Tryd.results109, go_sem]) rfl ⟨rfl, ?_⟩
    (repeat (first | exact Below.refl _ _ | assumption | refine Below.setCell ?_ (by first | omega | (simp; done) | (simp; omega)) _ | refine Below.alloc ?_ (by first | omega | (simp; done) | (simp; omega)) _ | refine Below.drew ?_ | refine below_drewN ?_ _))
  rw [decide_eq_true hm] at HC1
  rw [step_dec hm, Option.map_eq_none_iff, ← hline] at h
  clear hm
  by_cases hlong : line.size ≤ 4000
  case' neg =>
    clear h hline hrst
    go_enter Tryd.func109, Tryd.ntmps109
    go_wp2_with fail
    refine (HC1.out _).mono ?_
    rintro e w' ⟨rfl, n, rfl⟩
    go_wp2
    refine bodyPost_ret (v := .tuple #[.agg #[.string ⟨#[]⟩, .string ⟨#[]⟩], .int .i64 0, .bool false]) (by simp [results, Tryd.results109, go_sem]) rfl ⟨rfl, ?_⟩
    (repeat (first | exact Below.refl _ _ | assumption | refine Below.setCell ?_ (by first | omega | (simp; done) | (simp; omega)) _ | refine Below.alloc ?_ (by first | omega | (simp; done) | (simp; omega)) _ | refine Below.drew ?_ | refine below_drewN ?_ _))
  obtain ⟨t, ht1⟩ : ∃ l, bs l = Tx.upto 35 (bs line) := ⟨ba _, rfl⟩
  obtain ⟨t2, ht2⟩ : ∃ l, bs l = Tx.past 35 (bs line) := ⟨ba _, rfl⟩
  obtain ⟨u1, hu1⟩ : ∃ l, bs l = Tx.upto 32 (bs t) := ⟨ba _, rfl⟩
  obtain ⟨both, hu2⟩ : ∃ l, bs l = Tx.past 32 (bs t) := ⟨ba _, rfl⟩
  obtain ⟨c, hc⟩ : ∃ l, bs l = Tx.upto 62 (bs both) := ⟨ba _, rfl⟩
  obtain ⟨r, hr⟩ : ∃ l, bs l = Tx.past 62 (bs both) := ⟨ba _, rfl⟩
  have z1 : t.size ≤ 4000 := by have := Tx.upto_len 35 (bs line); rw [← ht1, bs_len, bs_len] at this; omega
  have pl : ∀ (x : UInt8) (l : List UInt8), (Tx.past x l).length ≤ l.length := fun x l => by rw [Tx.past_drop]; simp
  have z2 : both.size ≤ 4000 := by have := pl 32 (bs t); rw [← hu2, bs_len, bs_len] at this; omega
  have z3 : c.size ≤ 4000 := by have := Tx.upto_len 62 (bs both); rw [← hc, bs_len, bs_len] at this; omega
  have z4 : r.size ≤ 4000 := by have := pl 62 (bs both); rw [← hr, bs_len, bs_len] at this; omega
  have hP : Tx.decP (bs line) = recE c r := by unfold Tx.decP recE; rw [hc, hr, hu2, ht1]
  have HC2 := Lib.hid (fun w => cut1_any line t t2 35 _ w (by omega) ht1 ht2 rfl)
  have HC3 := Lib.hid (fun w => cut1_any t u1 both 32 _ w (by omega) hu1 hu2 rfl)
  have HC4 := Lib.hid (fun w => cut1_any both c r 62 _ w (by omega) hc hr rfl)
  have a5 := add_runs (P := Tryd.prog) (a := line) (b := ⟨#[10]⟩) (by omega) (by decide)
  have hen : ∃ (R : ByteArray) (b : Bool), (b = false ∨ (!(R.toList == (line ++ ⟨#[10]⟩).toList)) = true) ∧ ∀ w, Tab w → Calls Tryd.prog 120 #[.int .i64 k, recV c r] w fun e w' => e = .returned (.tuple #[.string R, .bool b]) ∧ Below w.heap.size w w' := by
    unfold Tx.dec at h
    split at h
    · cases h
    · rename_i hcond
      rw [hP] at hcond
      cases h0 : inB (k : Int) 0 59 && Tx.okE (recE c r)
      · exact ⟨_, false, .inl rfl, fun w _ => encode_no k c r w (by omega) (by omega) h0⟩
      · rw [Bool.and_eq_true] at h0
        have hk60 : k < 60 := by have := inB_iff.1 h0.1; omega
        refine ⟨_, true, .inr ?_, fun w ht => encode_yes k c r w hk60 h0.2 ht⟩
        rw [enc_cmp]
        simp only [hk60, h0.2, decide_true, Bool.and_true, Bool.true_and] at hcond
        simpa using hcond
  obtain ⟨R, b, hcase, hE⟩ := hen
  have HE := Lib.hid hE
  have HTB := Lib.hid ht
  clear hE ht h hP hc hr hu1 hu2 ht1 ht2 hline hrst pl
  unfold recV at HE
  have hb2 : b = false ∨ b = true := by cases b <;> simp
  rcases hcase with rfl | hne
  case' inr => rcases hb2 with rfl | rfl
  all_goals
    go_enter Tryd.func109, Tryd.ntmps109
    go_wp2_with fail
    refine (HC1.out _).mono ?_
    rintro e w' ⟨rfl, n1, rfl⟩
    go_wp2_with fail
    refine (HC2.out _).mono ?_
    rintro e w' ⟨rfl, n2, rfl⟩
    go_wp2_with fail
    refine (HC3.out _).mono ?_
    rintro e w' ⟨rfl, n3, rfl⟩
    go_wp2_with fail
    refine (HC4.out _).mono ?_
    rintro e w' ⟨rfl, n4, rfl⟩
    go_wp2_with fail
    refine (HE.out _ (HTB.out.below (by (repeat (first | exact Below.refl _ _ | assumption | refine Below.setCell ?_ (by first | omega | (simp; done) | (simp; omega)) _ | refine Below.alloc ?_ (by first | omega | (simp; done) | (simp; omega)) _ | refine Below.drew ?_ | refine below_drewN ?_ _))))).mono ?_
    rintro e w1 ⟨rfl, hb1⟩
    have HB1 := Lib.hid (show Below w.heap.size w w1 from Below.trans (by (repeat (first | exact Below.refl _ _ | assumption | refine Below.setCell ?_ (by first | omega | (simp; done) | (simp; omega)) _ | refine Below.alloc ?_ (by first | omega | (simp; done) | (simp; omega)) _ | refine Below.drew ?_ | refine below_drewN ?_ _))) (hb1.mono (by simp; omega)))
    obtain ⟨hcl, hfr⟩ := stands hb1
    have hz := hb1.size
    clear hb1
    go_wp2
    obtain ⟨s0, s1, s2⟩ := two_set (w := w1) (B := w.heap.size) (.string ⟨#[]⟩) (.string ⟨#[]⟩) (a := .string ⟨#[]⟩) (b := .string ⟨#[]⟩) (by rw [hcl _ _ (by simp; omega)]; simp [go_sem]) (by rw [hcl _ _ (by simp; omega)]; simp [go_sem])
    refine bodyPost_ret (v := .tuple #[.agg #[.string ⟨#[]⟩, .string ⟨#[]⟩], .int .i64 0, .bool false]) (by simp [results, Tryd.results109, go_sem, s1, s2]) rfl ⟨rfl, ?_⟩
    exact below_two HB1.out _ _

def recVE (e : Tx.Rec) : Value := recV (ba e.1) (ba e.2)

set_option maxRecDepth 100000 in
set_option maxHeartbeats 1600000 in
theorem decode_some (k : Nat) (s : ByteArray) (e0 : Tx.Rec) (l : Nat) (w : World) (hs : s.size ≤ 4000000000) (ht : Tab w) (h : Tx.step k (bs s) = some (e0, l)) :
    Calls Tryd.prog 109 #[.int .i64 k, .string s] w fun e w' => e = .returned (.tuple #[recVE e0, .int .i64 l, .bool true]) ∧ Below w.heap.size w w' := by
  obtain ⟨hk, ho, hl, tl, htl⟩ := Tx.step_iff.1 h
  have hno := Tx.line_no10 (k := k) ho
  obtain ⟨line, hline⟩ : ∃ x, bs x = Tx.lineE k e0 := ⟨ba _, rfl⟩
  obtain ⟨rst, hrst⟩ : ∃ x, bs x = tl := ⟨ba _, rfl⟩
  have hm : (10 : UInt8) ∈ bs s := by rw [htl]; simp
  have hlen : line.size ≤ 301 := by rw [← bs_len, hline]; exact Tx.line_len (by omega) ho
  have hl1 : (l : Int) = (line.size : Int) + 1 := by rw [hl, ← hline, bs_len]; omega
  have HC1 := Lib.hid (fun w => cut1_any s line rst 10 true w (by omega) (by rw [hline, htl, Tx.upto_app _ hno]) (by rw [hrst, htl, Tx.past_app _ hno]) (decide_eq_true hm))
  obtain ⟨c, hc⟩ : ∃ x, bs x = e0.1 := ⟨ba _, rfl⟩
  obtain ⟨r, hr⟩ : ∃ x, bs x = e0.2 := ⟨ba _, rfl⟩
  have hre : recE c r = e0 := by unfold recE; rw [hc, hr]
  have hP := Tx.decP_line (k := k) ho
  obtain ⟨t, ht1⟩ : ∃ l, bs l = Tx.upto 35 (bs line) := ⟨ba _, rfl⟩
  obtain ⟨t2, ht2⟩ : ∃ l, bs l = Tx.past 35 (bs line) := ⟨ba _, rfl⟩
  obtain ⟨u1, hu1⟩ : ∃ l, bs l = Tx.upto 32 (bs t) := ⟨ba _, rfl⟩
  obtain ⟨both, hu2⟩ : ∃ l, bs l = Tx.past 32 (bs t) := ⟨ba _, rfl⟩
  have hc2 : bs c = Tx.upto 62 (bs both) := by rw [hc, ← hP]; unfold Tx.decP; rw [hu2, ht1, hline]
  have hr2 : bs r = Tx.past 62 (bs both) := by rw [hr, ← hP]; unfold Tx.decP; rw [hu2, ht1, hline]
  have z1 : t.size ≤ 4000 := by have := Tx.upto_len 35 (bs line); rw [← ht1, bs_len, bs_len] at this; omega
  have pl : ∀ (x : UInt8) (l : List UInt8), (Tx.past x l).length ≤ l.length := fun x l => by rw [Tx.past_drop]; simp
  have z2 : both.size ≤ 4000 := by have := pl 32 (bs t); rw [← hu2, bs_len, bs_len] at this; omega
  have HC2 := Lib.hid (fun w => cut1_any line t t2 35 _ w (by omega) ht1 ht2 rfl)
  have HC3 := Lib.hid (fun w => cut1_any t u1 both 32 _ w (by omega) hu1 hu2 rfl)
  have HC4 := Lib.hid (fun w => cut1_any both c r 62 _ w (by omega) hc2 hr2 rfl)
  have a5 := add_runs (P := Tryd.prog) (a := line) (b := ⟨#[10]⟩) (by omega) (by decide)
  have ho' : Tx.okE (recE c r) = true := by rw [hre]; exact ho
  have HE := Lib.hid (fun w ht => encode_yes k c r w hk ho' ht)
  have hne : ((encB k c r).toList == (line ++ ⟨#[10]⟩).toList) = true := by rw [enc_cmp, hre, hline]; simp
  have hq : (!((encB k c r).toList == (line ++ ⟨#[10]⟩).toList)) = false := by rw [hne]; rfl
  have HV : Hid (recVE e0 = .agg #[.string c, .string r]) := by
    show recV (ba e0.1) (ba e0.2) = _
    rw [← hc, ← hr, ba_bs, ba_bs]; rfl
  have HTB := Lib.hid ht
  have HL1 := Lib.hid hl1
  generalize encB k c r = R at HE hne hq
  clear ht h hP hc hr hc2 hr2 hu1 hu2 ht1 ht2 hline hrst pl hm hno htl hl ho ho' hre hl1
  unfold recV at HE
  go_enter Tryd.func109, Tryd.ntmps109
  go_wp2_with fail
  refine (HC1.out _).mono ?_
  rintro e w' ⟨rfl, n1, rfl⟩
  go_wp2_with fail
  refine (HC2.out _).mono ?_
  rintro e w' ⟨rfl, n2, rfl⟩
  go_wp2_with fail
  refine (HC3.out _).mono ?_
  rintro e w' ⟨rfl, n3, rfl⟩
  go_wp2_with fail
  refine (HC4.out _).mono ?_
  rintro e w' ⟨rfl, n4, rfl⟩
  go_wp2_with fail
  refine (HE.out _ (HTB.out.below (by (repeat (first | exact Below.refl _ _ | assumption | refine Below.setCell ?_ (by first | omega | (simp; done) | (simp; omega)) _ | refine Below.alloc ?_ (by first | omega | (simp; done) | (simp; omega)) _ | refine Below.drew ?_ | refine below_drewN ?_ _))))).mono ?_
  rintro e w1 ⟨rfl, hb1⟩
  have HB1 := Lib.hid (show Below w.heap.size w w1 from Below.trans (by (repeat (first | exact Below.refl _ _ | assumption | refine Below.setCell ?_ (by first | omega | (simp; done) | (simp; omega)) _ | refine Below.alloc ?_ (by first | omega | (simp; done) | (simp; omega)) _ | refine Below.drew ?_ | refine below_drewN ?_ _))) (hb1.mono (by simp; omega)))
  obtain ⟨hcl, hfr⟩ := stands hb1
  have hz := hb1.size
  clear hb1
  go_wp2
  obtain ⟨s0, s1, s2⟩ := two_set (w := w1) (B := w.heap.size) (.string c) (.string r) (a := .string ⟨#[]⟩) (b := .string ⟨#[]⟩) (by rw [hcl _ _ (by simp; omega)]; simp [go_sem]) (by rw [hcl _ _ (by simp; omega)]; simp [go_sem])
  refine bodyPost_ret (v := .tuple #[.agg #[.string c, .string r], .int .i64 ((line.size : Int) + 1), .bool true]) (by simp [results, Tryd.results109, go_sem, s1, s2]) rfl ⟨by rw [HV.out, HL1.out], ?_⟩
  exact below_two HB1.out _ _

end Go.Proofs.YtoebegdepnigbaaDoor
