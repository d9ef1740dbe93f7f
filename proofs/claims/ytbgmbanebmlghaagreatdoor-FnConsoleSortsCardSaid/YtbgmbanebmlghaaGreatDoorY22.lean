/- Several texts in one: lemmas and walks of the functions that the law reaches. -/
import Derived.Test.YtbgmbanebmlghaaGreatDoorY20
import Derived.Lib.AppendIntMem

namespace Go.Proofs.YtbgmbanebmlghaaGreatDoor
open Go.RowKit
set_option linter.unusedVariables false

theorem ret_v2 {a b c d : Value} (h : a = b) (k : c = d) : Ending.returned (.tuple #[a, c]) = .returned (.tuple #[b, d]) := by rw [h, k]
theorem ret_v3 {a b c d x y : Value} (h : a = b) (k : c = d) (l : x = y) : Ending.returned (.tuple #[a, c, x]) = .returned (.tuple #[b, d, y]) := by rw [h, k, l]

/-- The table that the library's numerals are read off. -/
def Tab (w : World) : Prop := Lib.TabIs Tryz.prog w "internal/strconv.uint64pow10" .u64 Lib.pow10Tab
theorem Tab.below {w w' : World} (h : Tab w) (hb : Below w.heap.size w w') : Tab w' := by
  unfold Tab Lib.TabIs World.var? at *
  cases hg : Tryz.prog.globalNamed "internal/strconv.uint64pow10" with
  | none => rw [hg] at h; simp at h
  | some g =>
    rw [hg] at h
    simp only [Option.bind_some] at h ⊢
    have hlt : g < w.heap.size := by
      rcases Nat.lt_or_ge g w.heap.size with h1 | h1
      · exact h1
      · rw [Array.getElem?_eq_none h1] at h; simp at h
    rw [hb.block g hlt]; exact h

theorem itoa_nat (n : Nat) : Lib.itoa (n : Int) = Lib.decDigits n := by
  unfold Lib.itoa
  rw [if_neg (by omega), Int.toNat_natCast]

theorem itoa_any (n : Int) (w : World) (h0 : 0 ≤ n) (h1 : n ≤ 9223372036854775807) (ht : Tab w) :
    Calls Tryz.prog 60 #[.int .i64 n] w fun e w' => e = .returned (.string ⟨(Lib.decDigits n.toNat).toArray⟩) ∧ Below w.heap.size w w' :=
  (Tryz.strconv_Itoa n (by omega) h1 w ht).mono fun e w' ⟨he, k, os, hw⟩ => ⟨by rw [he]; congr 3; have := itoa_nat n.toNat; rw [Int.toNat_of_nonneg h0] at this; rw [this], by rw [hw]; exact Lib.below_grow _ _ (Nat.le_refl _) _ _⟩

set_option maxHeartbeats 400000 in
theorem checksum_ok (s : ByteArray) (w : World) (hs : s.size ≤ 4000) :
    Calls Tryz.prog 204 #[.string s] w fun e w' => e = .returned (.tuple #[.int .i64 (Tx.sumL (bs s) : Nat), .bool true]) ∧ w = w' := by
  go_enter Tryz.func204, Tryz.ntmps204
  go_wp2
  go_loop [4, 11] (fun h i => ∃ k : Nat, k ≤ s.size ∧ i = .int .i64 k ∧ h = .int .i64 (Tx.sumL ((bs s).take k) : Nat)) (fun _ i => s.size - (intOf i).toNat)
  case atStart => exact ⟨0, by omega, rfl, rfl⟩
  case round =>
    obtain ⟨k, hk, rfl, rfl⟩ := hrel
    by_cases h1 : k < s.size
    · have hlt : s[k].toNat < 256 := UInt8.toNat_lt _
      have hh := Tx.sumL_lt ((bs s).take k)
      have HN := Lib.hid (sumL_next h1)
      generalize Tx.sumL ((bs s).take k) = h at hh HN
      go_wp2
      go_round
      case rel => exact ⟨k + 1, by omega, by go_num, by rw [HN.out]; go_num⟩
      case measure => simp [intOf]; omega
    · obtain rfl : k = s.size := by omega
      have HE := Lib.hid (congrArg Tx.sumL (bs_all s))
      go_wp2
      go_ret2
      exact ⟨ret_v2 (by show Value.int .i64 _ = _; rw [HE.out]) rfl, rfl⟩

set_option maxRecDepth 100000 in
set_option maxHeartbeats 400000 in
theorem appendChecksum_ok (s : ByteArray) (w : World) (hs : s.size ≤ 3000) (hn : (35 : UInt8) ∉ bs s) (ht : Tab w) :
    Calls Tryz.prog 153 #[.string s] w fun e w' => e = .returned (.tuple #[.string ⟨(Tx.sealL (bs s)).toArray⟩, .bool true]) ∧ Below w.heap.size w w' := by
  have h1 := Tx.sumL_lt (bs s)
  have HS := Lib.hid (checksum_ok s w (by omega))
  have hq := itoa_any (Tx.sumL (bs s) : Nat) w (by omega) (by omega) ht
  rw [Int.toNat_natCast] at hq
  have HN := Lib.hid hq; clear hq
  have h2 := Tx.digits_len 5 (Tx.sumL (bs s)) (by omega)
  have h3 : (ByteArray.mk (Lib.decDigits (Tx.sumL (bs s))).toArray).size ≤ 6 := by rw [size_mk]; exact h2
  have HE : Hid (Tx.sealL (bs s) = bs s ++ 35 :: Lib.decDigits (Tx.sumL (bs s))) := rfl
  have h35 : (ByteArray.mk #[35]).size = 1 := rfl
  have a1 := add_runs (P := Tryz.prog) (a := s) (b := ⟨#[35]⟩) (by omega) (by decide)
  have a2 := add_runs (P := Tryz.prog) (a := s ++ ⟨#[35]⟩) (b := ⟨(Lib.decDigits (Tx.sumL (bs s))).toArray⟩) (by rw [size_add]; omega) (by omega)
  have h4 : (s ++ ⟨#[35]⟩ ++ (ByteArray.mk (Lib.decDigits (Tx.sumL (bs s))).toArray)).size ≤ 4000 := by rw [size_add, size_add]; omega
  have e4 : decide (0 ≤ Lib.indexByte s.data.toList 35) = false := by
    rw [show decide (0 ≤ Lib.indexByte s.data.toList 35) = decide ((35 : UInt8) ∈ bs s) from Tx.indexByte_mem 35 (bs s)]; exact decide_eq_false hn
  have hc := fun w => Tryz.strings_Contains_one s 35 w
  rw [e4] at hc
  have HC := Lib.hid hc; clear hc e4 h35
  go_enter Tryz.func153, Tryz.ntmps153
  go_wp2_with fail
  refine HS.out.mono ?_
  rintro e w' ⟨rfl, rfl⟩
  go_wp2_with fail
  refine HN.out.mono ?_
  rintro e w1 ⟨rfl, hb1⟩
  have HB1 := Lib.hid hb1; clear hb1
  go_wp2_with fail
  refine (HC.out _).mono ?_
  rintro e w' ⟨rfl, rfl⟩
  go_wp2_with fail
  go_ret2
  exact ⟨ret_v2 (by show Value.string _ = _; rw [show (s ++ { data := #[35] } ++ (ByteArray.mk (Lib.decDigits (Tx.sumL (bs s))).toArray)) = ⟨(Tx.sealL (bs s)).toArray⟩ from ba_eq (by show _ = Tx.sealL (bs s); rw [HE.out, bs_add, bs_add]; simp [bs])]) rfl, HB1.out⟩

end Go.Proofs.YtbgmbanebmlghaaGreatDoor

