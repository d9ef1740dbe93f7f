/- Walks on texts: numerals by the reference, checksums. -/
import Derived.Test.YtfdhicojnbicgaaDoorTb
import Derived.IntWalk
namespace Go.Proofs.YtfdhicojnbicgaaDoor
open Go.RowKit
set_option linter.unusedVariables false

theorem sumL_next {s : ByteArray} {k : Nat} (hk : k < s.size) : Tx.sumL ((bs s).take (k + 1)) = (41 * Tx.sumL ((bs s).take k) + s[k].toNat + 1) % 999979 := by
  rw [bs_take s k hk]; simp [Tx.sumL, List.foldl_append, Tx.sumStep]

set_option maxHeartbeats 400000 in
theorem l1Sum_any (s : ByteArray) (w : World) (hs : s.size ≤ 9223372036854775807) :
    Calls Tryd.prog 93 #[.string s] w fun e w' => e = .returned (.int .i64 (Tx.sumL (bs s) : Nat)) ∧ w = w' := by
  go_enter Tryd.func93, Tryd.ntmps93
  go_wp2
  go_loop [3, 4] (fun h i => ∃ k : Nat, k ≤ s.size ∧ i = .int .i64 k ∧ h = .int .i64 (Tx.sumL ((bs s).take k) : Nat)) (fun _ i => s.size - (intOf i).toNat)
  case atStart => exact ⟨0, by omega, rfl, rfl⟩
  case round =>
    obtain ⟨k, hk, rfl, rfl⟩ := hrel
    by_cases h1 : k < s.size
    · have hlt : s[k].toNat < 256 := UInt8.toNat_lt _
      have hh := Tx.sumL_lt ((bs s).take k)
      have HN := Lib.hid (sumL_next h1)
      generalize Tx.sumL ((bs s).take k) = h at hh HN
      go_wp2
      go_round
      case rel => exact ⟨k + 1, by omega, by go_num, by rw [HN.out]; go_num⟩
      case measure => simp [intOf]; omega
    · obtain rfl : k = s.size := by omega
      have HE := Lib.hid (congrArg Tx.sumL (bs_all s))
      go_wp2
      go_ret
      exact ⟨ret_int (by rw [HE.out]), rfl⟩

def digs : ByteArray := ⟨#[48, 49, 50, 51, 52, 53, 54, 55, 56, 57]⟩
theorem dig_one : ∀ k : Nat, k < 10 → digs.extract k (k + 1) = ⟨#[UInt8.ofNat (48 + k)]⟩ := by decide
theorem num_small {n : Int} (h0 : 0 ≤ n) (h : n < 10) : (ByteArray.mk (Lib.decDigits n.toNat).toArray) = digs.extract n.toNat (n.toNat + 1) := by
  rw [dig_one _ (by omega), Lib.decDigits, dif_pos (by omega)]
theorem num_big {n : Int} (h : 10 ≤ n) : (ByteArray.mk (Lib.decDigits n.toNat).toArray) = ⟨(Lib.decDigits (n / 10).toNat).toArray⟩ ++ digs.extract (n % 10).toNat ((n % 10).toNat + 1) := by
  rw [dig_one _ (by omega), Lib.decDigits, dif_neg (by omega)]
  have e1 : n.toNat / 10 = (n / 10).toNat := by omega
  have e2 : n.toNat % 10 = (n % 10).toNat := by omega
  rw [e1, e2]
  ext1
  simp [ByteArray.data_append]

set_option maxRecDepth 100000 in
set_option maxHeartbeats 400000 in
theorem l1Num_any (b : Nat) : ∀ (n : Int) (w : World), n ≤ b → 0 ≤ n → n ≤ 9000000000000000000 →
    Calls Tryd.prog 78 #[.int .i64 n] w fun e w' => e = .returned (.string ⟨(Lib.decDigits n.toNat).toArray⟩) ∧ ∃ m, w' = w.drewN m := by
  induction b with
  | zero =>
    intro n w hb h0 _
    have h9 : n < 10 := by omega
    have HN := Lib.hid (num_small h0 h9)
    go_enter Tryd.func78, Tryd.ntmps78
    go_wp2
    go_ret
    exact ⟨ret_str (by rw [HN.out, show (n + 1).toNat = n.toNat + 1 by omega]; rfl), 0, rfl⟩
  | succ b ih =>
    intro n w hb h0 hm
    by_cases h9 : n < 10
    · have HN := Lib.hid (num_small h0 h9)
      go_enter Tryd.func78, Tryd.ntmps78
      go_wp2
      go_ret
      exact ⟨ret_str (by rw [HN.out, show (n + 1).toNat = n.toNat + 1 by omega]; rfl), 0, rfl⟩
    · have HN := Lib.hid (num_big (by omega : 10 ≤ n))
      have IH := Lib.hid (fun w => ih (n / 10) w (by omega) (by omega) (by omega))
      have d1 : 0 ≤ n % 10 := by omega
      have d2 : n % 10 ≤ 9 := by omega
      go_enter Tryd.func78, Tryd.ntmps78
      go_wp2_with fail
      have s1 : IntKind.i64.wrap (n % 10 + 1) = n % 10 + 1 := IntWalk.i64_in _ (by omega)
      have s3 : n.tdiv 10 = n / 10 := Int.tdiv_eq_ediv_of_nonneg h0
      have s4 : n.tmod 10 = n % 10 := Int.tmod_eq_emod_of_nonneg h0
      have hadd : ∀ w, (Op.stringOp .add ⟨(Lib.decDigits (n / 10).toNat).toArray⟩ ((ByteArray.mk #[48, 49, 50, 51, 52, 53, 54, 55, 56, 57]).extract (n % 10).toNat (n % 10 + 1).toNat)).run Tryd.prog w = .ok (.string (⟨(Lib.decDigits (n / 10).toNat).toArray⟩ ++ (ByteArray.mk #[48, 49, 50, 51, 52, 53, 54, 55, 56, 57]).extract (n % 10).toNat (n % 10 + 1).toNat)) w := fun w => by
        refine run_string_add_sum w _ _ ?_
        have e1 : (ByteArray.mk (Lib.decDigits (n / 10).toNat).toArray).size = (Lib.decDigits (n / 10).toNat).length := by
          show (Lib.decDigits (n / 10).toNat).toArray.size = _
          simp
        have e2 := Tx.digits_len 18 (n / 10).toNat (by omega)
        have e3 : ((ByteArray.mk #[48, 49, 50, 51, 52, 53, 54, 55, 56, 57]).extract (n % 10).toNat (n % 10 + 1).toNat).size ≤ 10 := by
          rw [ByteArray.size_extract]
          have : (ByteArray.mk #[48, 49, 50, 51, 52, 53, 54, 55, 56, 57]).size = 10 := rfl
          omega
        omega
      go_quiet ((go_at_call 78; exact Calls.quiet_of (IH.out _)))
      go_wp2
      go_ret
      exact ⟨ret_str (by rw [HN.out, show (n % 10 + 1).toNat = (n % 10).toNat + 1 by omega]; rfl), _, rfl⟩

set_option maxRecDepth 100000 in
set_option maxHeartbeats 400000 in
theorem l1Seal_any (s : ByteArray) (w : World) (hs : s.size ≤ 1000000000000000000) :
    Calls Tryd.prog 77 #[.string s] w fun e w' => e = .returned (.string ⟨(Tx.sealL (bs s)).toArray⟩) ∧ ∃ m, w' = w.drewN m := by
  have h1 := Tx.sumL_lt (bs s)
  have HS := Lib.hid (l1Sum_any s w (by omega))
  have hn := l1Num_any 1000000 (Tx.sumL (bs s) : Nat) w (by omega) (by omega) (by omega)
  rw [Int.toNat_natCast] at hn
  have HN := Lib.hid hn; clear hn
  have h2 := Tx.digits_len 5 (Tx.sumL (bs s)) (by omega)
  have h3 : (ByteArray.mk (Lib.decDigits (Tx.sumL (bs s))).toArray).size ≤ 6 := by rw [size_mk]; exact h2
  have HE : Hid (Tx.sealL (bs s) = bs s ++ 35 :: Lib.decDigits (Tx.sumL (bs s))) := rfl
  have a1 := add_runs (P := Tryd.prog) (a := s) (b := ⟨#[35]⟩) (by omega) (by decide)
  have a2 := add_runs (P := Tryd.prog) (a := s ++ ⟨#[35]⟩) (b := ⟨(Lib.decDigits (Tx.sumL (bs s))).toArray⟩) (by rw [size_add]; have : (ByteArray.mk #[35]).size = 1 := rfl; omega) (by omega)
  go_enter Tryd.func77, Tryd.ntmps77
  go_wp2_with fail
  refine HS.out.mono ?_
  rintro e w' ⟨rfl, rfl⟩
  go_wp2_with fail
  refine HN.out.mono ?_
  rintro e w' ⟨rfl, m, rfl⟩
  go_wp2
  go_ret
  exact ⟨ret_str (ba_eq (by show _ = Tx.sealL (bs s); rw [HE.out, bs_add, bs_add]; simp [bs])), m, rfl⟩

end Go.Proofs.YtfdhicojnbicgaaDoor
