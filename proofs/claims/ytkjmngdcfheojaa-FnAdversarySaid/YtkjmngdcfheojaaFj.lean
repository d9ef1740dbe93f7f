/- Walks: BestComparison of both packages, AdversaryAnswer of the reference. -/
import Derived.Test.YtkjmngdcfheojaaFi
import Derived.Test.YtkjmngdcfheojaaBc
namespace Go.Proofs.Ytkjmngdcfheojaa
open Go.RowKit Go.Sort
set_option linter.unusedVariables false

theorem wpList_max {P : Program} {w : World} {ops : Array Oper} {rest : List Oper} {o : Oper} {a : Act} {Q : Exit → Act → World → Prop} {t : TypeId} (hgd : o.guard = none) (s y : Operand)
    (ho : o.op = .call { callee := .builtin .max, args := #[s, y], argTypes := #[t, t] }) {x z M : Int} (hs : a.eval s = .int .i64 x) (hy : a.eval y = .int .i64 z) (hM : max x z = M)
    (h : wpList P ops Q rest (a.put o.dst (.int .i64 M)) w) : wpList P ops Q (o :: rest) a w := by
  refine wpList_plain hgd fun K hK => ?_
  have e : (if z > x then z else x) = M := by rw [← hM]; omega
  unfold Oper.wp execOp
  simp only [ho, resolve, invoke, builtin, Sem.run_bind, Sem.run_pure, Result.andThen_ok, List.map_toArray, List.map_cons, List.map_nil, hs, hy, run_max_int2, e]
  exact hK _ _ h

def bcOk (n : Int) (fs : List (Int × Int)) : Bool := okFacts n fs && (n != 1) && decide (0 < Pm.cnt n.toNat fs)
def bcV (n : Int) (fs : List (Int × Int)) : Pm.BS := if bcOk n fs then Pm.best n.toNat fs else (0, 0, 0)
def bcE (n : Int) (fs : List (Int × Int)) : Value := .tuple #[.int .i64 (bcV n fs).1, .int .i64 (bcV n fs).2.1, .int .i64 (bcV n fs).2.2, .bool (bcOk n fs)]
theorem bcE_no {n : Int} {fs : List (Int × Int)} (h : bcOk n fs = false) : bcE n fs = .tuple #[.int .i64 0, .int .i64 0, .int .i64 0, .bool false] := by
  unfold bcE bcV; rw [h]; rfl
theorem bcE_yes {n : Int} {fs : List (Int × Int)} (h : bcOk n fs = true) : bcE n fs = .tuple #[.int .i64 (Pm.best n.toNat fs).1, .int .i64 (Pm.best n.toNat fs).2.1, .int .i64 (Pm.best n.toNat fs).2.2, .bool true] := by
  unfold bcE bcV; rw [h]; rfl

set_option maxRecDepth 100000 in
set_option maxHeartbeats 4000000 in
theorem implBestComparison_any (n : Int) (a : Option Addr) (c : Nat) (fs : List (Int × Int)) (w : World) (hbig : fs.length ≤ 9223372036854775807) (h : RecsAt w a fs) :
    Calls Try.prog 17 #[.int .i64 n, .slice a fs.length c] w fun e w' => e = .returned (bcE n fs) ∧ Below w.heap.size w w' := by
  have HA := Lib.hid (areFacts_any a c n fs w hbig h)
  cases h1 : okFacts n fs
  · have HV := Lib.hid (bcE_no (n := n) (fs := fs) (by simp [bcOk, h1]))
    rw [HV.out]
    rw [h1] at HA
    clear h1 h
    go_enter Try.func17, Try.ntmps17
    go_wp2_with fail
    refine HA.out.mono ?_
    rintro e w1 ⟨rfl, hb⟩
    have HB1 := Lib.hid hb; clear hb
    go_wp2
    refine bodyPost_ret (v := .tuple #[.int .i64 0, .int .i64 0, .int .i64 0, .bool false]) (by simp [results, Try.results17, go_sem]) rfl ⟨rfl, HB1.out⟩
  rw [h1] at HA
  obtain ⟨m, rfl, hm, hl, hf⟩ := okFacts_in h1
  cases m with
  | zero =>
    have HV := Lib.hid (bcE_no (n := ((0 : Nat) : Int) + 1) (fs := fs) (by simp [bcOk]))
    rw [HV.out]
    rw [show ((0 : Nat) : Int) + 1 = 1 from rfl] at HA ⊢
    clear h1 h hf
    go_enter Try.func17, Try.ntmps17
    go_wp2_with fail
    refine HA.out.mono ?_
    rintro e w1 ⟨rfl, hb⟩
    have HB1 := Lib.hid hb; clear hb
    go_wp2
    refine bodyPost_ret (v := .tuple #[.int .i64 0, .int .i64 0, .int .i64 0, .bool false]) (by simp [results, Try.results17, go_sem]) rfl ⟨rfl, HB1.out⟩
  | succ m =>
  have hn1 : (((m + 1 : Nat) : Int) + 1 == 1) = false := by simp; omega
  have HC := consistent_none (m + 1) hm a c fs
  have HC := Lib.hid (fun W (hb : Below w.heap.size w W) => consistent_none (m + 1) hm a c fs W (by omega) (h.below (Nat.le_refl _) hb) (fun f hff => (hf f hff).1))
  have HOK : Hid (bcOk (((m + 1 : Nat) : Int) + 1) fs = decide (0 < Pm.cnt (m + 1 + 1) fs)) := by
    show _ = _
    unfold bcOk
    rw [h1, show (((m + 1 : Nat) : Int) + 1).toNat = m + 1 + 1 by omega]
    simp; omega
  by_cases hz : 0 < Pm.cnt (m + 1 + 1) fs
  case neg =>
    have HV := Lib.hid (bcE_no (n := ((m + 1 : Nat) : Int) + 1) (fs := fs) (by rw [HOK.out]; simpa using hz))
    rw [HV.out]
    have hz0 : Pm.cnt (m + 1 + 1) fs = 0 := by omega
    rw [hz0] at HC
    clear h1 h hf hz hz0
    go_enter Try.func17, Try.ntmps17
    go_wp2_with fail
    refine HA.out.mono ?_
    rintro e w1 ⟨rfl, hb⟩
    have HB1 := Lib.hid hb; clear hb
    go_wp2_with fail
    refine (HC.out _ HB1.out).mono ?_
    rintro e w2 ⟨rfl, hb⟩
    have HB2 := Lib.hid (bco HB1.out hb); clear hb
    go_wp2
    refine bodyPost_ret (v := .tuple #[.int .i64 0, .int .i64 0, .int .i64 0, .bool false]) (by simp [results, Try.results17, go_sem]) rfl ⟨rfl, HB2.out⟩
  have HV := Lib.hid (bcE_yes (n := ((m + 1 : Nat) : Int) + 1) (fs := fs) (by rw [HOK.out]; simpa using hz))
  rw [HV.out, show (((m + 1 : Nat) : Int) + 1).toNat = m + 1 + 1 by omega]
  have hz2 : (((Pm.cnt (m + 1 + 1) fs : Nat) : Int) == 0) = false := by simp; omega
  have H1 := Lib.hid (fun (x y : Int) W (hb : Below w.heap.size w W) (hxy : InF (m + 1 + 1) (x, y)) => consistent_one (m + 1) hm a c fs x y w W hbig h hb (fun f hff => (hf f hff).1) hxy)
  have HBST : Hid (Pm.best (m + 1 + 1) fs = (Pm.prs (m + 1 + 1) (m + 1 + 1) (m + 1 + 1 + 1)).foldl (Pm.stI (Pm.wst (m + 1 + 1) fs)) (-1, 0, 0)) := rfl
  rw [HBST.out]
  generalize Pm.cnt (m + 1 + 1) fs = N at HC hz2
  have HWS : Hid (∀ p : Nat × Nat, Pm.wst (m + 1 + 1) fs p = max ((Pm.cnt (m + 1 + 1) (fs ++ [((p.1 : Int), (p.2 : Int))]) : Nat) : Int) ((Pm.cnt (m + 1 + 1) (fs ++ [((p.2 : Int), (p.1 : Int))]) : Nat) : Int)) := fun _ => rfl
  generalize Pm.wst (m + 1 + 1) fs = WS at HWS ⊢
  obtain ⟨n, hn⟩ : ∃ n, n = m + 1 + 1 := ⟨_, rfl⟩
  have hnc : (((m + 1 : Nat) : Int) + 1) = (n : Int) := by omega
  rw [hnc] at hn1 HA ⊢
  rw [hnc] at HC H1
  rw [← hn] at H1 HWS ⊢
  have hn5 : n ≤ 5 := by omega
  have hn2 : 2 ≤ n := by omega
  clear h1 h hf hz HOK HV HBST hn hnc hm
  go_enter Try.func17, Try.ntmps17
  go_wp2_with fail
  refine HA.out.mono ?_
  rintro e w1 ⟨rfl, hb⟩
  have HB1 := Lib.hid hb; clear hb
  go_wp2_with fail
  refine (HC.out _ HB1.out).mono ?_
  rintro e w2 ⟨rfl, hb⟩
  have HB2 := Lib.hid (bco HB1.out hb); clear hb HB1 HA HC
  go_wp2
  go_loopw [8, 9, 10, 11, 12, 13, 29] (fun x y l _ _ _ i wr => ∃ (k : Nat) (s : Pm.BS), i = .int .i64 k ∧ k ≤ n ∧ x = .int .i64 s.1 ∧ y = .int .i64 s.2.1 ∧ l = .int .i64 s.2.2 ∧ s = (Pm.prs n k (k + 1)).foldl (Pm.stI WS) (-1, 0, 0) ∧ Below w.heap.size w wr) (fun _ _ _ _ _ _ i _ => n - (intOf i).toNat)
  case atStart => exact ⟨0, (-1, 0, 0), rfl, by omega, rfl, rfl, rfl, by rw [Pm.prs_zero]; rfl, HB2.out⟩
  case round =>
    obtain ⟨k, s, rfl, hk, rfl, rfl, rfl, hs, hb⟩ := hrel
    have HS := Lib.hid hs; have HB := Lib.hid hb
    obtain ⟨X, Y, L⟩ := s
    clear hs hb HB2
    by_cases hkn : k < n
    case neg =>
      obtain rfl : k = n := by omega
      have h3 : decide ((k : Int) < (k : Int)) = false := by simp
      go_wp2
      rw [← HS.out]
      refine bodyPost_ret (v := .tuple #[.int .i64 X, .int .i64 Y, .int .i64 L, .bool true]) (by simp [results, Try.results17, go_sem]) rfl ⟨rfl, HB.out⟩
    have h3 : decide ((k : Int) < (n : Int)) = true := by simp; omega
    have HROW := Lib.hid (Pm.prs_row (n := n) hkn)
    have HBD : Hid (∀ W, Below wr.heap.size wr W → Below w.heap.size w W) := fun W hb => HB.out.trans (hb.mono HB.out.size)
    have hk64 : (k : Int) + 1 ≤ 9223372036854775807 := by omega
    go_wp2
    go_loopw [8, 9, 10, 12, 13] (fun x y l bb _ wq => ∃ (b : Nat) (s : Pm.BS), bb = .int .i64 b ∧ k + 1 ≤ b ∧ b ≤ n ∧ x = .int .i64 s.1 ∧ y = .int .i64 s.2.1 ∧ l = .int .i64 s.2.2 ∧ s = (Pm.prs n k b).foldl (Pm.stI WS) (-1, 0, 0) ∧ Below wr.heap.size wr wq) (fun _ _ _ bb _ _ => n - (intOf bb).toNat)
    case atStart => exact ⟨k + 1, (X, Y, L), by go_num, by omega, by omega, rfl, rfl, rfl, HS.out, Below.refl _ _⟩
    case round =>
      obtain ⟨b, s, rfl, hb1, hb2, rfl, rfl, rfl, hs, hb⟩ := hrel
      have HS2 := Lib.hid hs; have HB3 := Lib.hid hb
      obtain ⟨X2, Y2, L2⟩ := s
      clear hs hb
      by_cases hbn : b < n
      case neg =>
        obtain rfl : b = n := by omega
        have h4 : decide ((b : Int) < (b : Int)) = false := by simp
        have HB4 := Lib.hid (HBD.out _ HB3.out)
        go_wp2
        go_roundw
        case rel => exact ⟨k + 1, (X2, Y2, L2), by go_num, by omega, rfl, rfl, rfl, by rw [HROW.out]; exact HS2.out, HB4.out⟩
        case measure => simp [intOf] <;> omega
      have h4 : decide ((b : Int) < (n : Int)) = true := by simp; omega
      have HNX := Lib.hid (Pm.prs_next (n := n) hb1)
      have HB4 := Lib.hid (HBD.out _ HB3.out)
      have HW1 := Lib.hid (H1.out (k : Int) (b : Int) _ HB4.out ⟨by simp, by simp; omega, by simp, by simp; omega⟩)
      have HW2 := Lib.hid (fun W (hb : Below w.heap.size w W) => H1.out (b : Int) (k : Int) W hb ⟨by simp, by simp; omega, by simp, by simp; omega⟩)
      have HWE := Lib.hid (HWS.out (k, b))
      generalize Pm.cnt n (fs ++ [((k : Int), (b : Int))]) = N1 at HW1 HWE
      generalize Pm.cnt n (fs ++ [((b : Int), (k : Int))]) = N2 at HW2 HWE
      have hb64 : (b : Int) + 1 ≤ 9223372036854775807 := by omega
      go_wp2_with fail
      refine HW1.out.mono ?_
      rintro e w4 ⟨rfl, hb⟩
      have HB5 := Lib.hid (bco HB4.out hb)
      have HB5' := Lib.hid (bco HB3.out hb); clear hb
      go_wp2_with fail
      refine (HW2.out _ HB5.out).mono ?_
      rintro e w5 ⟨rfl, hb⟩
      have HB6 := Lib.hid (bco HB5'.out hb); clear hb
      have HSTP : Hid ((Pm.prs n k (b + 1)).foldl (Pm.stI WS) (-1, 0, 0) = Pm.stI WS (X2, Y2, L2) (k, b)) := by
        show _ = _
        rw [HNX.out, List.foldl_append, ← HS2.out]; rfl
      have HUP : Hid (∀ M, WS (k, b) = M → (X2 < 0 ∨ M < L2) → Pm.stI WS (X2, Y2, L2) (k, b) = ((k : Int), (b : Int), M)) := fun M hM hc => by
        unfold Pm.stI
        rw [hM]
        exact if_pos hc
      have HNO : Hid (∀ M, WS (k, b) = M → ¬ (X2 < 0 ∨ M < L2) → Pm.stI WS (X2, Y2, L2) (k, b) = (X2, Y2, L2)) := fun M hM hc => by
        unfold Pm.stI
        rw [hM]
        exact if_neg hc
      clear HW1 HW2 HNX HS2
      obtain ⟨M, hM⟩ : ∃ M : Int, max (N1 : Int) (N2 : Int) = M := ⟨_, rfl⟩
      have HM : Hid (WS (k, b) = M) := HWE.out.trans hM
      have HMX := Lib.hid hM
      clear hM HWE
      by_cases hx : X2 < 0
      · have hx1 : decide (X2 < 0) = true := by simpa using hx
        have HU := Lib.hid (HUP.out _ HM.out (.inl hx))
        clear HUP HNO HWS hx
        go_wp2_with (refine wpList_max rfl _ _ rfl rfl rfl HMX.out ?_)
        go_roundw
        case rel => exact ⟨b + 1, ((k : Int), (b : Int), M), by go_num, by omega, by omega, rfl, rfl, rfl, by rw [HSTP.out, HU.out], HB6.out⟩
        case measure => simp [intOf] <;> omega
      · have hx1 : decide (X2 < 0) = false := by simpa using hx
        by_cases hl : M < L2
        · have hl1 : decide (M < L2) = true := by simpa using hl
          have HU := Lib.hid (HUP.out _ HM.out (.inr hl))
          clear HUP HNO HWS hx hl
          go_wp2_with (refine wpList_max rfl _ _ rfl rfl rfl HMX.out ?_)
          go_roundw
          case rel => exact ⟨b + 1, ((k : Int), (b : Int), M), by go_num, by omega, by omega, rfl, rfl, rfl, by rw [HSTP.out, HU.out], HB6.out⟩
          case measure => simp [intOf] <;> omega
        · have hl1 : decide (M < L2) = false := by simpa using hl
          have HU := Lib.hid (HNO.out _ HM.out (fun h => h.elim hx hl))
          clear HUP HNO HWS hx hl
          go_wp2_with (refine wpList_max rfl _ _ rfl rfl rfl HMX.out ?_)
          go_roundw
          case rel => exact ⟨b + 1, (X2, Y2, L2), by go_num, by omega, by omega, rfl, rfl, rfl, by rw [HSTP.out, HU.out], HB6.out⟩
          case measure => simp [intOf] <;> omega

end Go.Proofs.Ytkjmngdcfheojaa
