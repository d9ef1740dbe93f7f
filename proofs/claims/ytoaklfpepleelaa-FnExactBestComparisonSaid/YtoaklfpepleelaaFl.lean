/- Walks: the laws ConsistentOrders, AdversaryAnswer, BestComparison. -/
import Derived.Test.YtoaklfpepleelaaFk
namespace Go.Proofs.Ytoaklfpepleelaa
open Go.RowKit Go.Sort
set_option linter.unusedVariables false

set_option maxRecDepth 100000 in
set_option maxHeartbeats 2000000 in
theorem lawConsistentOrders_any (n : Int) (af : Option Addr) (cf : Nat) (fs : List (Int × Int)) (w : World) (bf : fs.length ≤ 9223372036854775807) (hf : RecsAt w af fs) :
    Calls Try.prog 3 #[.int .i64 n, .slice af fs.length cf] w fun e w' => e = .returned (.bool true) ∧ Below w.heap.size w w' := by
  by_cases lf : fs.length ≤ 1048576
  case' neg =>
    have HSZ := Lib.hid (szFactS_no af cf fs 1048576 w (by omega) (by omega) (by omega) (by omega))
    clear hf
    go_enter Try.func3, Try.ntmps3
    go_wp2_with fail
    refine HSZ.out.mono ?_
    rintro e w' ⟨rfl, rfl⟩
    go_wp2
    go_ret
    exact ⟨rfl, Below.refl _ _⟩
  have Hf := Lib.hid hf; clear hf
  have HSZ := Lib.hid (szFactS_yes af cf fs 1048576 w (by omega) (by omega) (by omega))
  go_enter Try.func3, Try.ntmps3
  go_wp2_with fail
  refine HSZ.out.mono ?_
  rintro e w' ⟨rfl, rfl⟩
  go_wp2_with fail
  refine (toFactS_any _ _ fs _ lf Hf.out).mono ?_
  rintro e w1 ⟨rfl, ho, hb⟩
  have S1 := Lib.hid (ownFacts ho); have H1 := Lib.hid (Hf.out.below (Nat.le_refl _) hb); have HB1 := Lib.hid hb; clear ho hb Hf HSZ
  go_wp2_with fail
  refine (specConsistentOrders_any n _ _ fs _ bf S1.out).mono ?_
  rintro e w2 ⟨rfl, hb⟩
  have H2 := Lib.hid (H1.out.below (Nat.le_refl _) hb); have HB2 := Lib.hid (bco HB1.out hb); clear hb H1 S1
  go_wp2_with fail
  refine (toFactS_any _ _ fs _ lf H2.out).mono ?_
  rintro e w3 ⟨rfl, ho, hb⟩
  have S3 := Lib.hid (ownFacts ho); have H3 := Lib.hid (H2.out.below (Nat.le_refl _) hb); have HB3 := Lib.hid (bco HB2.out hb); clear ho hb H2
  go_wp2_with fail
  refine (implConsistentOrders_any n _ _ fs _ bf S3.out).mono ?_
  rintro e w4 ⟨rfl, hb⟩
  have S4 := Lib.hid (S3.out.below (Nat.le_refl _) hb); have H4 := Lib.hid (H3.out.below (Nat.le_refl _) hb); have HB4 := Lib.hid (bco HB3.out hb); clear hb H3 S3
  go_wp2_with fail
  refine (toFactS_any _ _ fs _ lf H4.out).mono ?_
  rintro e w5 ⟨rfl, ho, hb⟩
  have S5 := Lib.hid (ownFacts ho); have X5 := Lib.hid (S4.out.below (Nat.le_refl _) hb); have HB5 := Lib.hid (bco HB4.out hb); clear ho hb H4 S4
  go_wp2_with fail
  refine (eqFactS_any _ _ _ _ fs fs _ bf bf X5.out S5.out).mono ?_
  rintro e w6 ⟨rfl, hb⟩
  have HB6 := Lib.hid (bco HB5.out hb); clear hb
  have hdd : decide (fs = fs) = true := decide_eq_true rfl
  go_wp2
  go_ret
  exact ⟨rfl, HB6.out⟩

set_option maxRecDepth 100000 in
set_option maxHeartbeats 2000000 in
theorem lawAdversaryAnswer_any (n : Int) (af : Option Addr) (cf : Nat) (fs : List (Int × Int)) (x : Int) (y : Int) (w : World) (bf : fs.length ≤ 9223372036854775807) (hf : RecsAt w af fs) :
    Calls Try.prog 4 #[.int .i64 n, .slice af fs.length cf, .int .i64 x, .int .i64 y] w fun e w' => e = .returned (.bool true) ∧ Below w.heap.size w w' := by
  by_cases lf : fs.length ≤ 1048576
  case' neg =>
    have HSZ := Lib.hid (szFactS_no af cf fs 1048576 w (by omega) (by omega) (by omega) (by omega))
    clear hf
    go_enter Try.func4, Try.ntmps4
    go_wp2_with fail
    refine HSZ.out.mono ?_
    rintro e w' ⟨rfl, rfl⟩
    go_wp2
    go_ret
    exact ⟨rfl, Below.refl _ _⟩
  have Hf := Lib.hid hf; clear hf
  have HSZ := Lib.hid (szFactS_yes af cf fs 1048576 w (by omega) (by omega) (by omega))
  go_enter Try.func4, Try.ntmps4
  go_wp2_with fail
  refine HSZ.out.mono ?_
  rintro e w' ⟨rfl, rfl⟩
  go_wp2_with fail
  refine (toFactS_any _ _ fs _ lf Hf.out).mono ?_
  rintro e w1 ⟨rfl, ho, hb⟩
  have S1 := Lib.hid (ownFacts ho); have H1 := Lib.hid (Hf.out.below (Nat.le_refl _) hb); have HB1 := Lib.hid hb; clear ho hb Hf HSZ
  go_wp2_with fail
  refine (specAdversaryAnswer_any n _ _ fs x y _ bf S1.out).mono ?_
  rintro e w2 ⟨rfl, hb⟩
  have H2 := Lib.hid (H1.out.below (Nat.le_refl _) hb); have HB2 := Lib.hid (bco HB1.out hb); clear hb H1 S1
  go_wp2_with fail
  refine (toFactS_any _ _ fs _ lf H2.out).mono ?_
  rintro e w3 ⟨rfl, ho, hb⟩
  have S3 := Lib.hid (ownFacts ho); have H3 := Lib.hid (H2.out.below (Nat.le_refl _) hb); have HB3 := Lib.hid (bco HB2.out hb); clear ho hb H2
  go_wp2_with fail
  refine (implAdversaryAnswer_any n _ _ fs x y _ bf S3.out).mono ?_
  rintro e w4 ⟨rfl, hb⟩
  have S4 := Lib.hid (S3.out.below (Nat.le_refl _) hb); have H4 := Lib.hid (H3.out.below (Nat.le_refl _) hb); have HB4 := Lib.hid (bco HB3.out hb); clear hb H3 S3
  go_wp2_with fail
  refine (toFactS_any _ _ fs _ lf H4.out).mono ?_
  rintro e w5 ⟨rfl, ho, hb⟩
  have S5 := Lib.hid (ownFacts ho); have X5 := Lib.hid (S4.out.below (Nat.le_refl _) hb); have HB5 := Lib.hid (bco HB4.out hb); clear ho hb H4 S4
  go_wp2_with fail
  refine (eqFactS_any _ _ _ _ fs fs _ bf bf X5.out S5.out).mono ?_
  rintro e w6 ⟨rfl, hb⟩
  have HB6 := Lib.hid (bco HB5.out hb); clear hb
  have hdd : decide (fs = fs) = true := decide_eq_true rfl
  go_wp2
  go_ret
  exact ⟨rfl, HB6.out⟩

set_option maxRecDepth 100000 in
set_option maxHeartbeats 2000000 in
theorem lawBestComparison_any (n : Int) (af : Option Addr) (cf : Nat) (fs : List (Int × Int)) (w : World) (bf : fs.length ≤ 9223372036854775807) (hf : RecsAt w af fs) :
    Calls Try.prog 6 #[.int .i64 n, .slice af fs.length cf] w fun e w' => e = .returned (.bool true) ∧ Below w.heap.size w w' := by
  by_cases lf : fs.length ≤ 1048576
  case' neg =>
    have HSZ := Lib.hid (szFactS_no af cf fs 1048576 w (by omega) (by omega) (by omega) (by omega))
    clear hf
    go_enter Try.func6, Try.ntmps6
    go_wp2_with fail
    refine HSZ.out.mono ?_
    rintro e w' ⟨rfl, rfl⟩
    go_wp2
    go_ret
    exact ⟨rfl, Below.refl _ _⟩
  have Hf := Lib.hid hf; clear hf
  have HSZ := Lib.hid (szFactS_yes af cf fs 1048576 w (by omega) (by omega) (by omega))
  obtain ⟨q0, q1, q2, q3, HQ⟩ : ∃ q0 q1 q2 q3, bcE n fs = .tuple #[.int .i64 q0, .int .i64 q1, .int .i64 q2, .bool q3] := ⟨_, _, _, _, rfl⟩
  have HI := Lib.hid (fun W a c h => implBestComparison_any n a c fs W bf h)
  have HS := Lib.hid (fun W a c h => specBestComparison_any n a c fs W bf h)
  rw [HQ] at HI HS
  clear HQ
  go_enter Try.func6, Try.ntmps6
  go_wp2_with fail
  refine HSZ.out.mono ?_
  rintro e w' ⟨rfl, rfl⟩
  go_wp2_with fail
  refine (toFactS_any _ _ fs _ lf Hf.out).mono ?_
  rintro e w1 ⟨rfl, ho, hb⟩
  have S1 := Lib.hid (ownFacts ho); have H1 := Lib.hid (Hf.out.below (Nat.le_refl _) hb); have HB1 := Lib.hid hb; clear ho hb Hf HSZ
  go_wp2_with fail
  refine (HS.out _ _ _ S1.out).mono ?_
  rintro e w2 ⟨rfl, hb⟩
  have H2 := Lib.hid (H1.out.below (Nat.le_refl _) hb); have HB2 := Lib.hid (bco HB1.out hb); clear hb H1 S1
  go_wp2_with fail
  refine (toFactS_any _ _ fs _ lf H2.out).mono ?_
  rintro e w3 ⟨rfl, ho, hb⟩
  have S3 := Lib.hid (ownFacts ho); have H3 := Lib.hid (H2.out.below (Nat.le_refl _) hb); have HB3 := Lib.hid (bco HB2.out hb); clear ho hb H2
  go_wp2_with fail
  refine (HI.out _ _ _ S3.out).mono ?_
  rintro e w4 ⟨rfl, hb⟩
  have S4 := Lib.hid (S3.out.below (Nat.le_refl _) hb); have H4 := Lib.hid (H3.out.below (Nat.le_refl _) hb); have HB4 := Lib.hid (bco HB3.out hb); clear hb H3 S3
  go_wp2_with fail
  refine (toFactS_any _ _ fs _ lf H4.out).mono ?_
  rintro e w5 ⟨rfl, ho, hb⟩
  have S5 := Lib.hid (ownFacts ho); have X5 := Lib.hid (S4.out.below (Nat.le_refl _) hb); have HB5 := Lib.hid (bco HB4.out hb); clear ho hb H4 S4
  go_wp2_with fail
  refine (eqFactS_any _ _ _ _ fs fs _ bf bf X5.out S5.out).mono ?_
  rintro e w6 ⟨rfl, hb⟩
  have HB6 := Lib.hid (bco HB5.out hb); clear hb
  have hdd : decide (fs = fs) = true := decide_eq_true rfl
  go_wp2
  go_ret
  exact ⟨rfl, HB6.out⟩

end Go.Proofs.Ytoaklfpepleelaa
