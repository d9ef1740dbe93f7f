/- Several texts in one: lemmas and walks of the functions that the laws reach. -/
import Derived.Test.YtoebegdepnigbaaDoorY8
import Derived.Test.YtoebegdepnigbaaDoorY4

/- Walks: the text of a certificate, by the reference. -/
namespace Go.Proofs.YtoebegdepnigbaaDoor
open Go.RowKit
set_option linter.unusedVariables false

def ordK (cs : List Int) (k : Nat) : List UInt8 := Lib.join ((cs.take k).map Lib.itoa) [44]
theorem ordK_succ {cs : List Int} {k : Nat} (hk : k < cs.length) : ordK cs (k + 1) = (if k = 0 then [] else ordK cs k ++ [44]) ++ Lib.itoa (cs.getD k 0) := by
  unfold ordK
  rw [itoas_succ hk, join_snoc]
  by_cases h0 : k = 0
  · subst h0; simp
  · have hne : ((cs.take k).map Lib.itoa) ≠ [] := by
      intro e
      have := congrArg List.length e
      simp only [List.length_map, List.length_take, List.length_nil] at this; omega
    rw [if_neg h0, if_neg hne]
theorem ordK_len {cs : List Int} (h : okPerm cs = true) (k : Nat) : (ordK cs k).length ≤ 1400 := by
  have h64 := okPerm_len h
  have hl := join_le [44] (by simp) (m := 20) (xs := (cs.take k).map Lib.itoa) (fun x hx => by
    obtain ⟨n, hn, rfl⟩ := List.mem_map.1 hx
    have := perm_range h n (List.mem_of_mem_take hn)
    exact itoa_len n (by omega) (by omega))
  unfold ordK
  rw [List.length_map, List.length_take] at hl
  have : min k cs.length * (20 + 1) ≤ 64 * 21 := Nat.mul_le_mul (by omega) (by omega)
  omega
theorem ordK_ne {cs : List Int} (hp : 0 < cs.length) : ordK cs cs.length ≠ [] := by
  intro e
  have h := ordK_succ (cs := cs) (k := cs.length - 1) (by omega)
  rw [show cs.length - 1 + 1 = cs.length by omega, e] at h
  have h2 := congrArg List.length h
  have h3 : 1 ≤ (Lib.itoa (cs.getD (cs.length - 1) 0)).length := by
    unfold Lib.itoa
    split
    · simp
    · exact Tx.digits_pos _
  rw [List.length_append] at h2
  simp only [List.length_nil] at h2
  omega
theorem ordT_eq {cs : List Int} : Cf.ordT cs = if cs.length = 0 then [45] else ordK cs cs.length := by
  unfold Cf.ordT ordK
  rw [List.take_length]
  by_cases h : cs = []
  · subst h; rfl
  · rw [if_neg h, if_neg (by have := List.length_pos_iff.2 h; omega)]
set_option maxRecDepth 100000 in
set_option maxHeartbeats 8000000 in
theorem sFormatCertificate_any (a : Option Addr) (c : Nat) (rs : List (Int × Int)) (b : Option Addr) (d : Nat) (cs : List Int) (w : World) (hl1 : rs.length ≤ 9223372036854775807) (hl2 : cs.length ≤ 9223372036854775807) (hR : RecsAt w a rs) (hI : IntsAt w b cs) :
    Calls Tryd.prog 7 #[.slice a rs.length c, .slice b cs.length d] w fun e w' => e = .returned (FfEnd rs cs) ∧ Below w.heap.size w w' := by
  have HV := Lib.hid (l2Records_any a c rs w hl1 hR)
  have HP := Lib.hid (fun w h => l3Good_any b d cs w hl2 h)
  have HR := Lib.hid hR
  have HI := Lib.hid hI
  clear hR hI
  unfold FfEnd fcOk fcText
  cases h1 : okRecs rs
  all_goals rw [h1] at HV
  case false =>
    clear h1
    go_enter Tryd.func7, Tryd.ntmps7
    go_wp2_with fail
    refine HV.out.mono ?_
    rintro e w1 ⟨rfl, rfl⟩
    go_wp2
    go_ret2
    exact ⟨rfl, Below.refl _ _⟩
  by_cases h2 : cs.length = rs.length
  case neg =>
    have q2 : ((cs.length : Int) != (rs.length : Int)) = true := by simp; omega
    have e2 : decide (cs.length = rs.length) = false := decide_eq_false h2
    rw [e2]
    clear h1 e2
    go_enter Tryd.func7, Tryd.ntmps7
    go_wp2_with fail
    refine HV.out.mono ?_
    rintro e w1 ⟨rfl, rfl⟩
    go_wp2
    go_ret2
    exact ⟨rfl, Below.refl _ _⟩
  have q2 : ((cs.length : Int) != (rs.length : Int)) = false := by simp; omega
  have e2 : decide (cs.length = rs.length) = true := decide_eq_true h2
  rw [e2]
  have HQ2 := Lib.hid h2; clear h2
  cases h3 : okPerm cs
  all_goals rw [h3] at HP
  case false =>
    clear h1 e2 h3
    go_enter Tryd.func7, Tryd.ntmps7
    go_wp2_with fail
    refine HV.out.mono ?_
    rintro e w1 ⟨rfl, rfl⟩
    go_wp2_with fail
    refine (HP.out _ HI.out).mono ?_
    rintro e w2 ⟨rfl, hb⟩
    have HB2 := Lib.hid hb; clear hb
    go_wp2
    go_ret2
    exact ⟨rfl, HB2.out⟩
  have h64 := recs_len64 h1
  have hkl := keysL_len rs
  obtain ⟨hf0, hf1⟩ := fprint_bound 7 (keysL rs)
  have HOP := Lib.hid h3
  have HKO := Lib.hid (fun w h => l24Keys_any a c rs w (by omega) h)
  have HFP := Lib.hid (fun a cap w h => l24Print_any a cap (keysL rs) 7 w (recs_keys h1) (by omega) (by omega) h)
  have HNB := Lib.hid (fun z w => l1NumB_any z w)
  have hN20 : (numB (rs.length : Int)).size ≤ 20 := numB_size (by omega) (by omega)
  have hK20 : (numB (fprint (keysL rs) 7)).size ≤ 20 := numB_size (by omega) (by omega)
  have HBS : Hid (∀ O : ByteArray, bs O = Cf.ordT cs → _) := Lib.hid fun O h => body_sums (n := rs.length) (k := (fprint (keysL rs) 7).toNat) (cs := cs) (N := numB (rs.length : Int)) (K := numB (fprint (keysL rs) 7)) (O := O) (itoa_ofNat _) (itoa_toNat hf0) h

  clear e2 q2 h1 h3 hkl
  have q2 : ((cs.length : Int) != (rs.length : Int)) = false := by have := HQ2.out; simp; omega
  generalize fprint (keysL rs) 7 = f at HFP hK20 HBS hf0 hf1 ⊢
  have f1 : -1000000 ≤ f := by omega
  have f2 : f ≤ 1000000 := by omega
  have l1 : -1000000 ≤ (rs.length : Int) := by omega
  have l2 : (rs.length : Int) ≤ 1000000 := by omega
  have z1 : (ByteArray.mk #[115, 111, 114, 116, 101, 100, 32]).size = 7 := rfl
  have z2 : (ByteArray.mk #[32, 107, 101, 121, 32]).size = 5 := rfl
  have z3 : (ByteArray.mk #[32, 111, 114, 100, 101, 114, 32]).size = 7 := rfl
  have a1 := add_runs (P := Tryd.prog) (a := ⟨#[115, 111, 114, 116, 101, 100, 32]⟩) (b := numB (rs.length : Int)) (by decide) (by omega)
  have a2 := add_runs (P := Tryd.prog) (a := ⟨#[115, 111, 114, 116, 101, 100, 32]⟩ ++ numB (rs.length : Int)) (b := ⟨#[32, 107, 101, 121, 32]⟩) (by rw [size_add]; omega) (by decide)
  have a3 := add_runs (P := Tryd.prog) (a := ⟨#[115, 111, 114, 116, 101, 100, 32]⟩ ++ numB (rs.length : Int) ++ ⟨#[32, 107, 101, 121, 32]⟩) (b := numB f) (by rw [size_add, size_add]; omega) (by omega)
  have a4 := add_runs (P := Tryd.prog) (a := ⟨#[115, 111, 114, 116, 101, 100, 32]⟩ ++ numB (rs.length : Int) ++ ⟨#[32, 107, 101, 121, 32]⟩ ++ numB f) (b := ⟨#[32, 111, 114, 100, 101, 114, 32]⟩) (by rw [size_add, size_add, size_add]; omega) (by decide)
  obtain ⟨P, hP⟩ : ∃ P : ByteArray, ⟨#[115, 111, 114, 116, 101, 100, 32]⟩ ++ numB (rs.length : Int) ++ ⟨#[32, 107, 101, 121, 32]⟩ ++ numB f ++ ⟨#[32, 111, 114, 100, 101, 114, 32]⟩ = P := ⟨_, rfl⟩
  rw [hP] at a4
  have hPs : P.size ≤ 1000 := by rw [← hP, size_add, size_add, size_add, size_add]; omega
  have A5 := Lib.hid (fun (O : ByteArray) (hO : O.size ≤ 1400) => add_runs (P := Tryd.prog) (a := P) (b := O) (by omega) (by omega))
  have HAC := Lib.hid (fun (O : ByteArray) (hO : O.size ≤ 1400) w => l1Seal_any (P ++ O) w (by rw [size_add]; omega))
  have HE : Hid (∀ O : ByteArray, bs O = Cf.ordT cs → Value.string ⟨(Tx.sealL (bs (P ++ O))).toArray⟩ = Value.string (ba (Cf.textC rs.length f.toNat cs))) := fun O hO => by
    rw [← hP, HBS.out O hO]; rfl
  clear hP hPs
  clear z1 z2 z3 HBS
  go_enter Tryd.func7, Tryd.ntmps7
  go_wp2_with fail
  refine HV.out.mono ?_
  rintro e w1 ⟨rfl, rfl⟩
  go_wp2_with fail
  refine (HP.out _ HI.out).mono ?_
  rintro e w2 ⟨rfl, hb⟩
  have HB2 := Lib.hid hb
  have HI2 := Lib.hid (HI.out.below (Nat.le_refl _) hb)
  have HR2 := Lib.hid (HR.out.below (Nat.le_refl _) hb)
  clear hb
  go_wp2
  go_loopw [6, 7] (fun s i wr => ∃ (k : Nat) (u : ByteArray), k ≤ cs.length ∧ s = .string u ∧ i = .int .i64 k ∧ Hid (bs u = ordK cs k) ∧ ∃ q, wr = w2.drewN q) (fun _ i _ => cs.length - (intOf i).toNat)
  case atStart => exact ⟨0, ⟨#[]⟩, by omega, rfl, rfl, Lib.hid (by simp [ordK, Lib.join, bs]), 0, rfl⟩
  case round =>
    obtain ⟨k, u, hk, rfl, rfl, HU, q, rfl⟩ := hrel
    have husz : u.size ≤ 1400 := by rw [← bs_len, HU.out]; exact ordK_len HOP.out k
    by_cases hlt : k < cs.length
    · obtain ⟨ib, io, rfl, c1⟩ := (HI2.out.below (Nat.le_refl _) (below_drewN (Below.refl _ w2) q)).at hlt
      have hr := perm_range HOP.out _ (show cs.getD k 0 ∈ cs by rw [List.getD_eq_getElem?_getD, List.getElem?_eq_getElem hlt]; exact List.getElem_mem hlt)
      have hs := ordK_succ hlt
      rw [← HU.out] at hs
      obtain ⟨x, hX⟩ : ∃ x, cs.getD k 0 = x := ⟨_, rfl⟩
      rw [hX] at c1 hr hs
      clear hX
      have x1 : -1000000 ≤ x := by have := hr.1; omega
      have x2 : x ≤ 1000000 := by have := hr.2; omega
      have hx20 : (numB x).size ≤ 20 := numB_size (by omega) (by omega)
      have z2 : (ByteArray.mk #[44]).size = 1 := rfl
      have b1 : (0 : Int) ≤ (k : Int) := by omega
      have q1 : decide ((k : Int) < (cs.length : Int)) = true := decide_eq_true (by omega)
      clear hr
      by_cases h0 : k = 0
      · have q2 : decide ((0 : Int) < (k : Int)) = false := decide_eq_false (by omega)
        have q3 : ¬ 0 < k := by omega
        have HEE : Hid (bs (u ++ numB x) = ordK cs (k + 1)) := by
          show _ = _
          have hu0 : bs u = [] := by rw [HU.out, h0]; simp [ordK, Lib.join]
          rw [hs, if_pos h0, bs_add, hu0]
          rfl
        have e1 := add_runs (P := Tryd.prog) (a := u) (b := numB x) (by omega) (by omega)
        clear hs h0 z2 a1 a2 a3 a4
        go_wp2_with fail
        refine (HNB.out _ _ x1 x2).mono ?_
        rintro e w4 ⟨rfl, m, rfl⟩
        go_wp2
        go_roundw
        case rel => exact ⟨k + 1, _, by omega, rfl, by go_num, HEE, q + m, by first | rfl | simp⟩
        case measure => simp [intOf]; omega
      · have q2 : decide ((0 : Int) < (k : Int)) = true := decide_eq_true (by omega)
        have q3 : 0 < k := by omega
        have HEE : Hid (bs ((u ++ ⟨#[44]⟩) ++ numB x) = ordK cs (k + 1)) := by
          show _ = _
          rw [hs, if_neg h0, bs_add, bs_add, HU.out]
          rfl
        have e0 := add_runs (P := Tryd.prog) (a := u) (b := ⟨#[44]⟩) (by omega) (by decide)
        have e1 := add_runs (P := Tryd.prog) (a := u ++ ⟨#[44]⟩) (b := numB x) (by rw [size_add]; omega) (by omega)
        clear hs h0 z2 a1 a2 a3 a4
        go_wp2_with fail
        refine (HNB.out _ _ x1 x2).mono ?_
        rintro e w4 ⟨rfl, m, rfl⟩
        go_wp2
        go_roundw
        case rel => exact ⟨k + 1, _, by omega, rfl, by go_num, HEE, q + m, by first | rfl | simp⟩
        case measure => simp [intOf]; omega
    · obtain rfl : k = cs.length := by omega
      have q1 : decide ((cs.length : Int) < (cs.length : Int)) = false := decide_eq_false (by omega)
      by_cases h0 : cs.length = 0
      · have hu : u = ⟨#[]⟩ := by
          rw [← ba_bs u, HU.out]
          unfold ordK
          rw [h0]; rfl
        have hO : bs (ByteArray.mk #[45]) = Cf.ordT cs := by rw [ordT_eq, if_pos h0]; rfl
        have HO := Lib.hid hO
        have a5 := A5.out ⟨#[45]⟩ (by decide)
        subst hu
        clear hO h0
        go_wp2_with fail
        refine (HNB.out _ _ l1 l2).mono ?_
        rintro e w4 ⟨rfl, m, rfl⟩
        go_wp2_with fail
        refine (HKO.out _ (HR2.out.below (Nat.le_refl _) (by first | exact below_drewN (Below.refl _ w2) _ | exact below_drewN (below_drewN (Below.refl _ w2) _) _))).mono ?_
        rintro e w5 ⟨ka, kc, rfl, ho, hb⟩
        have HKI := Lib.hid (ownInts ho)
        have HB5 := Lib.hid (below_trI (B := w.heap.size) (w := w) (by first | exact below_drewN HB2.out _ | exact below_drewN (below_drewN HB2.out _) _) hb (by have := HB2.out.size; simpa using this))
        clear ho hb
        go_wp2_with fail
        refine (HFP.out _ _ _ HKI.out).mono ?_
        rintro e w6 ⟨rfl, rfl⟩
        go_wp2_with fail
        refine (HNB.out _ _ f1 f2).mono ?_
        rintro e w7 ⟨rfl, m2, rfl⟩
        go_wp2_with fail
        refine (HAC.out ⟨#[45]⟩ (by decide) _).mono ?_
        rintro e w8 ⟨rfl, m3, rfl⟩
        go_wp2
        go_ret2
        exact ⟨ret_v2 ((HE.out ⟨#[45]⟩ HO.out).trans rfl) rfl, by first | exact below_drewN HB5.out _ | exact below_drewN (below_drewN HB5.out _) _⟩
      · have hO : bs u = Cf.ordT cs := by rw [ordT_eq, if_neg h0, HU.out]
        have HO := Lib.hid hO
        have hue : u.toList.isEmpty = false := by
          rw [bs_toList, HU.out]
          cases hq : ordK cs cs.length with
          | nil => exact absurd hq (ordK_ne (by omega))
          | cons x l => rfl
        have a5 := A5.out u husz
        clear hO h0
        go_wp2_with fail
        refine (HNB.out _ _ l1 l2).mono ?_
        rintro e w4 ⟨rfl, m, rfl⟩
        go_wp2_with fail
        refine (HKO.out _ (HR2.out.below (Nat.le_refl _) (by first | exact below_drewN (Below.refl _ w2) _ | exact below_drewN (below_drewN (Below.refl _ w2) _) _))).mono ?_
        rintro e w5 ⟨ka, kc, rfl, ho, hb⟩
        have HKI := Lib.hid (ownInts ho)
        have HB5 := Lib.hid (below_trI (B := w.heap.size) (w := w) (by first | exact below_drewN HB2.out _ | exact below_drewN (below_drewN HB2.out _) _) hb (by have := HB2.out.size; simpa using this))
        clear ho hb
        go_wp2_with fail
        refine (HFP.out _ _ _ HKI.out).mono ?_
        rintro e w6 ⟨rfl, rfl⟩
        go_wp2_with fail
        refine (HNB.out _ _ f1 f2).mono ?_
        rintro e w7 ⟨rfl, m2, rfl⟩
        go_wp2_with fail
        refine (HAC.out u husz _).mono ?_
        rintro e w8 ⟨rfl, m3, rfl⟩
        go_wp2
        go_ret2
        exact ⟨ret_v2 ((HE.out u HO.out).trans rfl) rfl, by first | exact below_drewN HB5.out _ | exact below_drewN (below_drewN HB5.out _) _⟩

end Go.Proofs.YtoebegdepnigbaaDoor

/- The law FnExactFormatCertificate: its walk. -/
namespace Go.Proofs.YtoebegdepnigbaaDoor
open Go.RowKit
set_option linter.unusedVariables false

set_option maxRecDepth 100000 in
set_option maxHeartbeats 4000000 in
theorem lawFormatCertificate_any (a : Option Addr) (c : Nat) (rs : List (Int × Int)) (b : Option Addr) (d : Nat) (cs : List Int) (w : World) (ht : Tab w) (b1 : rs.length ≤ 9223372036854775807) (h1 : RecsAt w a rs) (b2 : cs.length ≤ 9223372036854775807) (h2 : IntsAt w b cs) :
    Calls Tryd.prog 3 #[.slice a rs.length c, .slice b cs.length d] w fun e w' => e = .returned (.bool true) ∧ Below w.heap.size w w' := by
  have HT := Lib.hid ht
  have HR := Lib.hid h1
  have HI := Lib.hid h2
  clear ht h1 h2
  by_cases hl2 : cs.length ≤ 1048576
  case neg =>
    go_enter Tryd.func3, Tryd.ntmps3
    go_wp2
    go_ret
    exact ⟨rfl, Below.refl _ _⟩
  by_cases hl1 : rs.length ≤ 1048576
  case neg =>
    have HS := Lib.hid (fun w => szRecordS_no a c rs 1048576 w b1 (by omega) (by omega) (by omega))
    go_enter Tryd.func3, Tryd.ntmps3
    go_wp2_with fail
    refine (HS.out _).mono ?_
    rintro e w1 ⟨rfl, rfl⟩
    go_wp2
    go_ret
    exact ⟨rfl, Below.refl _ _⟩
  have HS := Lib.hid (fun w => szRecordS_yes a c rs 1048576 w (by omega) (by omega) (by omega))
  have hpos : 0 ≤ (1048576 : Int) - rs.length := by omega
  have HG := Lib.hid (fun a c b d w h h' => sFormatCertificate_any a c rs b d cs w (by omega) (by omega) h h')
  have HF := Lib.hid (fun a c b d w ht h h' => formatCertificate_any a c rs b d cs w (by omega) (by omega) ht h h')
  unfold FfEnd at HG HF
  generalize (if fcOk rs cs = true then fcText rs cs else ⟨#[]⟩) = tx at HG HF
  generalize fcOk rs cs = ok at HG HF
  have hbb : (ok != ok) = false := by simp
  have htt : (!(tx.toList == tx.toList)) = false := by simp
  go_enter Tryd.func3, Tryd.ntmps3
  go_wp2_with fail
  refine (HS.out _).mono ?_
  rintro e w1 ⟨rfl, rfl⟩
  go_wp2_with fail
  refine (toRecordS_any a c rs _ hl1 HR.out).mono ?_
  rintro e w1 ⟨rfl, ho, hb⟩
  have HO1 := Lib.hid (ownRecs ho)
  have HB1 := Lib.hid hb
  clear ho hb
  go_wp2_with fail
  refine (toIntS_any b d cs _ hl2 (HI.out.below (Nat.le_refl _) HB1.out)).mono ?_
  rintro e w2 ⟨rfl, ho, hb⟩
  have HO2 := Lib.hid (ownInts ho)
  have HP2 := Lib.hid (HO1.out.below (Nat.le_refl _) hb)
  have HB2 := Lib.hid (below_trI HB1.out hb HB1.out.size)
  clear ho hb
  go_wp2_with fail
  refine (HG.out _ _ _ _ _ HP2.out HO2.out).mono ?_
  rintro e w3 ⟨rfl, hb⟩
  have HB3 := Lib.hid (below_trI HB2.out hb HB2.out.size)
  clear hb HO1 HO2 HP2 HB1 HB2
  go_wp2_with fail
  refine (toRecordS_any a c rs _ hl1 (HR.out.below (Nat.le_refl _) HB3.out)).mono ?_
  rintro e w4 ⟨rfl, ho, hb⟩
  have HO4 := Lib.hid (ownRecs ho)
  have HB4 := Lib.hid (below_trI HB3.out hb HB3.out.size)
  clear ho hb HB3
  go_wp2_with fail
  refine (toIntS_any b d cs _ hl2 (HI.out.below (Nat.le_refl _) HB4.out)).mono ?_
  rintro e w5 ⟨rfl, ho, hb⟩
  have HQ5 := Lib.hid (ownInts ho)
  have HP5 := Lib.hid (HO4.out.below (Nat.le_refl _) hb)
  have HB5 := Lib.hid (below_trI HB4.out hb HB4.out.size)
  clear ho hb HB4 HO4
  go_wp2_with fail
  refine (HF.out _ _ _ _ _ (HT.out.below HB5.out) HP5.out HQ5.out).mono ?_
  rintro e w6 ⟨rfl, hb⟩
  have HQ6 := Lib.hid (HQ5.out.below (Nat.le_refl _) hb)
  have HP6 := Lib.hid (HP5.out.below (Nat.le_refl _) hb)
  have HB6 := Lib.hid (below_trI HB5.out hb HB5.out.size)
  clear hb HB5 HQ5 HP5
  go_wp2_with fail
  refine (toRecordS_any a c rs _ hl1 (HR.out.below (Nat.le_refl _) HB6.out)).mono ?_
  rintro e w7 ⟨rfl, ho, hb⟩
  have HR7 := Lib.hid (ownRecs ho)
  have HQ7 := Lib.hid (HQ6.out.below (Nat.le_refl _) hb)
  have HP7 := Lib.hid (HP6.out.below (Nat.le_refl _) hb)
  have HB7 := Lib.hid (below_trI HB6.out hb HB6.out.size)
  clear ho hb HB6 HQ6 HP6
  go_wp2_with fail
  refine (eqRecordS_any _ _ _ _ rs rs _ b1 b1 HP7.out HR7.out).mono ?_
  rintro e w8 ⟨rfl, hb⟩
  have HQ8 := Lib.hid (HQ7.out.below (Nat.le_refl _) hb)
  have HB8 := Lib.hid (below_trI HB7.out hb HB7.out.size)
  clear hb HB7 HQ7 HP7 HR7
  go_wp2_with fail
  refine (toIntS_any b d cs _ hl2 (HI.out.below (Nat.le_refl _) HB8.out)).mono ?_
  rintro e w9 ⟨rfl, ho, hb⟩
  have HI9 := Lib.hid (ownInts ho)
  have HQ9 := Lib.hid (HQ8.out.below (Nat.le_refl _) hb)
  have HB9 := Lib.hid (below_trI HB8.out hb HB8.out.size)
  clear ho hb HB8 HQ8
  go_wp2_with fail
  refine (eqIntS_any _ _ _ _ cs cs _ b2 b2 HQ9.out HI9.out).mono ?_
  rintro e w10 ⟨rfl, hb⟩
  have HB10 := Lib.hid (below_trI HB9.out hb HB9.out.size)
  clear hb
  go_wp2
  go_ret
  exact ⟨rfl, HB10.out⟩

end Go.Proofs.YtoebegdepnigbaaDoor
