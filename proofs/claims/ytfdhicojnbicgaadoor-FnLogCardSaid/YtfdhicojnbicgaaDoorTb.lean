/- Walks on texts: printable bytes, bytes that stand in a text, records, checksums. -/
import Derived.Test.YtfdhicojnbicgaaDoorW0
import Derived.Test.YtfdhicojnbicgaaDoorTa
import Derived.Test.YtfdhicojnbicgaaDoorSh
namespace Go.Proofs.YtfdhicojnbicgaaDoor
open Go.RowKit
set_option linter.unusedVariables false

def bs (s : ByteArray) : List UInt8 := s.data.toList
theorem bs_len (s : ByteArray) : (bs s).length = s.size := by unfold bs; rw [Array.length_toList]; rfl
theorem bs_take (s : ByteArray) (k : Nat) (h : k < s.size) : (bs s).take (k + 1) = (bs s).take k ++ [s[k]] := by
  rw [List.take_succ_eq_append_getElem (by rw [bs_len]; exact h)]; rfl
theorem bs_all (s : ByteArray) : (bs s).take s.size = bs s := by rw [← bs_len, List.take_length]
theorem bs_mk (l : List UInt8) : bs ⟨l.toArray⟩ = l := rfl
theorem bs_add (a b : ByteArray) : bs (a ++ b) = bs a ++ bs b := by unfold bs; rw [ByteArray.data_append]; simp
theorem bs_toList (s : ByteArray) : s.toList = bs s := ByteArray.toList_eq s

theorem all_no {s : ByteArray} {p : UInt8 → Bool} {k : Nat} (hk : k < s.size) (h : p s[k] = false) : (bs s).all p = false := by
  rw [List.all_eq_false]
  refine ⟨s[k], ?_, by simp [h]⟩
  have : (bs s)[k]'(by rw [bs_len]; exact hk) = s[k] := rfl
  rw [← this]; exact List.getElem_mem _
theorem all_yes {s : ByteArray} {p : UInt8 → Bool} {k : Nat} (hk : ¬ k < s.size) (hle : k ≤ s.size) (h : ((bs s).take k).all p = true) : (bs s).all p = true := by
  obtain rfl : k = s.size := by omega
  rwa [bs_all] at h
theorem all_next {s : ByteArray} {p : UInt8 → Bool} {k : Nat} (hk : k < s.size) (h : ((bs s).take k).all p = true) (h2 : p s[k] = true) : ((bs s).take (k + 1)).all p = true := by
  rw [bs_take s k hk, List.all_append, h]; simp [h2]

set_option maxHeartbeats 400000 in
theorem isPrintable_any (s : ByteArray) (w : World) (hs : s.size ≤ 9223372036854775807) :
    Calls Tryd.prog 72 #[.string s] w fun e w' => e = .returned (.bool ((bs s).all Tx.prn)) ∧ w = w' := by
  go_enter Tryd.func72, Tryd.ntmps72
  go_wp2
  go_loop [6] (fun i => ∃ k : Nat, k ≤ s.size ∧ i = .int .i64 k ∧ ((bs s).take k).all Tx.prn = true) (fun i => s.size - (intOf i).toNat)
  case atStart => exact ⟨0, by omega, rfl, by simp⟩
  case round =>
    obtain ⟨k, hk, rfl, hall⟩ := hrel
    have Hall := Lib.hid hall; clear hall
    by_cases h1 : k < s.size
    · by_cases h2 : s[k].toNat < 32
      · go_wp2
        go_ret
        exact ⟨ret_bool (by rw [all_no h1 (by simp [Tx.prn]; omega)]), rfl⟩
      · by_cases h3 : s[k].toNat ≤ 126
        · go_wp2
          go_round
          case rel => exact ⟨k + 1, by omega, by go_num, all_next h1 Hall.out (by simp [Tx.prn]; omega)⟩
          case measure => simp [intOf]; omega
        · go_wp2
          go_ret
          exact ⟨ret_bool (by rw [all_no h1 (by simp [Tx.prn]; omega)]), rfl⟩
    · go_wp2
      go_ret
      exact ⟨ret_bool (all_yes h1 hk Hall.out).symm, rfl⟩

set_option maxHeartbeats 400000 in
theorem l1Stands_any (s : ByteArray) (c : UInt8) (n : Int) (w : World) (hs : s.size ≤ 9223372036854775807) (hn : n = (c.toNat : Int)) :
    Calls Tryd.prog 76 #[.string s, .int .u8 n] w fun e w' => e = .returned (.bool (decide (c ∈ bs s))) ∧ w = w' := by
  have HN := Lib.hid hn; clear hn
  go_enter Tryd.func76, Tryd.ntmps76
  go_wp2
  go_loop [5] (fun i => ∃ k : Nat, k ≤ s.size ∧ i = .int .i64 k ∧ c ∉ (bs s).take k) (fun i => s.size - (intOf i).toNat)
  case atStart => exact ⟨0, by omega, rfl, by simp⟩
  case round =>
    obtain ⟨k, hk, rfl, hall⟩ := hrel
    have Hall := Lib.hid hall; clear hall
    by_cases h1 : k < s.size
    · by_cases h2 : s[k] = c
      · have hb : ((s[k].toNat : Int) == n) = true := by rw [HN.out, h2]; simp
        have H2 := Lib.hid h2; clear h2
        go_wp2
        go_ret
        refine ⟨ret_bool ?_, rfl⟩
        symm; apply decide_eq_true
        rw [← H2.out]
        have : (bs s)[k]'(by rw [bs_len]; exact h1) = s[k] := rfl
        rw [← this]; exact List.getElem_mem _
      · have hb : ((s[k].toNat : Int) == n) = false := by
          rw [HN.out, beq_eq_false_iff_ne]
          intro e
          exact h2 (UInt8.toNat_inj.1 (by omega))
        have H2 := Lib.hid h2; clear h2
        go_wp2
        go_round
        case rel =>
          refine ⟨k + 1, by omega, by go_num, ?_⟩
          rw [bs_take s k h1, List.mem_append]
          rintro (h | h)
          · exact Hall.out h
          · exact H2.out (List.mem_singleton.1 h).symm
        case measure => simp [intOf]; omega
    · go_wp2
      go_ret
      refine ⟨ret_bool ?_, rfl⟩
      symm; apply decide_eq_false
      obtain rfl : k = s.size := by omega
      rw [← bs_all]; exact Hall.out

def plB (b : UInt8) : Bool := Tx.prn b && b != 35

set_option maxHeartbeats 400000 in
theorem l25Plain_any (s : ByteArray) (m : Int) (w : World) (hs : s.size ≤ 9223372036854775807) :
    Calls Tryd.prog 75 #[.string s, .int .i64 m] w fun e w' => e = .returned (.bool (decide ((s.size : Int) ≤ m) && (bs s).all plB)) ∧ w = w' := by
  go_enter Tryd.func75, Tryd.ntmps75
  go_wp2
  go_loop [5] (fun i => ∃ k : Nat, k ≤ s.size ∧ i = .int .i64 k ∧ ((bs s).take k).all plB = true) (fun i => s.size - (intOf i).toNat)
  case atStart => exact ⟨0, by omega, rfl, by simp⟩
  case round =>
    obtain ⟨k, hk, rfl, hall⟩ := hrel
    have Hall := Lib.hid hall; clear hall
    by_cases h1 : k < s.size
    · have hlt : s[k].toNat < 256 := UInt8.toNat_lt _
      have HP := Lib.hid (l1In_any (s[k].toNat : Int) 32 126)
      by_cases h2 : 32 ≤ s[k].toNat ∧ s[k].toNat ≤ 126
      · have hin : inB (s[k].toNat : Int) 32 126 = true := by simp [inB]; omega
        rw [hin] at HP
        have H2 := Lib.hid h2; clear h2 hin
        by_cases h3 : s[k] = 35
        · have hb : ((s[k].toNat : Int) == 35) = true := by rw [h3]; rfl
          have H3 := Lib.hid h3; clear h3
          go_wp2_with fail
          refine (HP.out _).mono ?_
          rintro e w' ⟨rfl, rfl⟩
          go_wp2
          go_ret
          exact ⟨ret_bool (by rw [all_no h1 (by rw [H3.out]; rfl)]; simp), rfl⟩
        · have hb : ((s[k].toNat : Int) == 35) = false := by
            rw [beq_eq_false_iff_ne]
            intro e
            exact h3 (UInt8.toNat_inj.1 (by have : (35 : UInt8).toNat = 35 := rfl; omega))
          have H3 := Lib.hid h3; clear h3
          go_wp2_with fail
          refine (HP.out _).mono ?_
          rintro e w' ⟨rfl, rfl⟩
          go_wp2
          go_round
          case rel => exact ⟨k + 1, by omega, by go_num, all_next h1 Hall.out (by simp [plB, Tx.prn, H2.out, H3.out])⟩
          case measure => simp [intOf]; omega
      · have hin : inB (s[k].toNat : Int) 32 126 = false := by simp [inB]; omega
        rw [hin] at HP
        have H2 := Lib.hid h2; clear h2 hin
        go_wp2_with fail
        refine (HP.out _).mono ?_
        rintro e w' ⟨rfl, rfl⟩
        go_wp2
        go_ret
        exact ⟨ret_bool (by rw [all_no h1 (by have := H2.out; simp [plB, Tx.prn]; omega)]; simp), rfl⟩
    · go_wp2
      go_ret
      exact ⟨ret_bool (by rw [all_yes h1 hk Hall.out]; simp), rfl⟩

theorem ret_str {a b : ByteArray} (h : a = b) : Ending.returned (.string a) = .returned (.string b) := by rw [h]

theorem below_drewN' {B : Nat} {w : World} {n : Nat} : Below B w (w.drewN n) := below_drewN (Below.refl _ _) n

theorem ba_eq {a b : ByteArray} (h : bs a = bs b) : a = b := by
  ext1; apply Array.ext'; exact h

/-- A text that an operation has made, its bytes told. -/
theorem add_runs {P : Program} {a b : ByteArray} (ha : a.size ≤ 4000000000000000000) (hb : b.size ≤ 4000000000000000000) : ∀ w, (Op.stringOp .add a b).run P w = .ok (.string (a ++ b)) w := fun w => run_string_add_sum w a b (by omega)

theorem size_mk (l : List UInt8) : (ByteArray.mk l.toArray).size = l.length := by
  show l.toArray.size = _
  simp
theorem size_add (a b : ByteArray) : (a ++ b).size = a.size + b.size := ByteArray.size_append


/-- A text of a record, as a struct of two texts. -/
def recV (c r : ByteArray) : Value := .agg #[.string c, .string r]
def recE (c r : ByteArray) : Tx.Rec := (bs c, bs r)

theorem stands_eq {c : UInt8} {l : List UInt8} : (decide (c ∈ l)) = l.any (· == c) := by
  rw [Bool.eq_iff_iff]
  simp

theorem l25Good_eq (c r : ByteArray) : Tx.okE (recE c r) = (!(c.toList == []) && (decide ((c.size : Int) ≤ 90) && (bs c).all plB) && !decide ((62 : UInt8) ∈ bs c) && (decide ((r.size : Int) ≤ 200) && (bs r).all plB)) := by
  rw [Bool.eq_iff_iff]
  simp only [Tx.okE, Tx.okCmd, Tx.okRep, recE, bs_toList, Bool.and_eq_true, decide_eq_true_eq, List.all_eq_true, bne_iff_ne, Bool.not_eq_true', beq_eq_false_iff_ne, decide_eq_false_iff_not, plB, bs_len]
  constructor
  · rintro ⟨⟨⟨h1, h2⟩, h3⟩, h4, h5⟩
    refine ⟨⟨⟨fun e => ?_, by omega, fun b hb => ⟨(h3 b hb).1.1, (h3 b hb).1.2⟩⟩, fun hm => (h3 _ hm).2 rfl⟩, by omega, h5⟩
    have : c.size = 0 := by rw [← bs_len, e]; rfl
    omega
  · rintro ⟨⟨⟨h1, h2, h3⟩, h4⟩, h5, h6⟩
    refine ⟨⟨⟨?_, by omega⟩, fun b hb => ⟨h3 b hb, fun e => h4 (e ▸ hb)⟩⟩, by omega, h6⟩
    have : (bs c).length ≠ 0 := fun e => h1 (List.eq_nil_of_length_eq_zero e)
    rw [bs_len] at this
    omega

set_option maxRecDepth 100000 in
set_option maxHeartbeats 400000 in
theorem l25Good_any (c r : ByteArray) (w : World) (hc : c.size ≤ 1000000000000000000) (hr : r.size ≤ 1000000000000000000) :
    Calls Tryd.prog 49 #[recV c r] w fun e w' => e = .returned (.bool (Tx.okE (recE c r))) ∧ Below w.heap.size w w' := by
  have HE := Lib.hid (l25Good_eq c r)
  have H1 := Lib.hid (fun w => l25Plain_any c 90 w (by omega))
  have H2 := Lib.hid (fun w => l1Stands_any c 62 62 w (by omega) rfl)
  have H3 := Lib.hid (fun w => l25Plain_any r 200 w (by omega))
  unfold recV
  cases h0 : c.toList == []
  case' true => 
    have HB : Hid (Below w.heap.size w (w.alloc (.cells #[.string c, .string r] 27))) := (Below.refl _ _).alloc (Nat.le_refl _) _
    rw [h0] at HE
    go_enter Tryd.func49, Tryd.ntmps49
    go_wp2_with fail
    go_ret
    exact ⟨ret_bool (by rw [HE.out]; rfl), HB.out⟩
  have HB : Hid (Below w.heap.size w (w.alloc (.cells #[.string c, .string r] 27))) := (Below.refl _ _).alloc (Nat.le_refl _) _
  rw [h0] at HE
  cases h1 : (decide ((c.size : Int) ≤ 90) && (bs c).all plB)
  all_goals rw [h1] at HE H1
  all_goals cases h2 : decide ((62 : UInt8) ∈ bs c)
  all_goals rw [h2] at HE H2
  all_goals clear h1 h2
  all_goals
    go_enter Tryd.func49, Tryd.ntmps49
    go_wp2_with (first | (go_at_call 75; (with_reducible refine (H1.out _).mono ?_); rintro e w' ⟨rfl, rfl⟩) | (go_at_call 75; (with_reducible refine (H3.out _).mono ?_); rintro e w' ⟨rfl, rfl⟩) | (go_at_call 76; (with_reducible refine (H2.out _).mono ?_); rintro e w' ⟨rfl, rfl⟩))
    go_ret
    exact ⟨ret_bool (by rw [HE.out]; simp), HB.out⟩

end Go.Proofs.YtfdhicojnbicgaaDoor
