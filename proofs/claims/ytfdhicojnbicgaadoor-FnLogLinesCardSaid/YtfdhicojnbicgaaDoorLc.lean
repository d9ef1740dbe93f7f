/- The law of log lines: an encoded record, read alone; a recovered log, synchronized. -/
import Derived.Test.YtfdhicojnbicgaaDoorLb
import Derived.Test.YtfdhicojnbicgaaDoorCc
import Derived.Test.YtfdhicojnbicgaaDoorCd
namespace Go.Proofs.YtfdhicojnbicgaaDoor
open Go.RowKit
set_option linter.unusedVariables false

/-- What is read of one encoded record. -/
theorem enc_read (k : Int) (c r : ByteArray) (h : encOk k c r = true) : (((rcR (encT k c r)).length : Nat) : Int) = (if k = 0 then 1 else 0) ∧ (decide (0 < (Tx.total (rcR (encT k c r)) : Int))) = decide (k = 0) := by
  obtain ⟨j, rfl, hj, ho⟩ := enc_parts h
  have hs := encT_size (k := (j : Int)) (c := c) (r := r)
  rw [rcR_ok (by omega)]
  unfold encT
  rw [if_pos h, Int.toNat_natCast, encB_bs, Tx.rd_line ho hj]
  by_cases h0 : j = 0
  · subst h0
    refine ⟨rfl, ?_⟩
    rw [if_pos rfl, Tx.total_cons]
    simp
    omega
  · rw [if_neg h0, if_neg (by omega)]
    refine ⟨rfl, ?_⟩
    rw [Tx.total_nil]
    simp
    omega

set_option maxRecDepth 100000 in
set_option maxHeartbeats 8000000 in
theorem lawLogLines_any (ac : Option Addr) (cc : Nat) (cs : List Int) (w : World) (ht : Tab w) (hbig : cs.length ≤ 9223372036854775807) (h : BytesAt w ac cs) :
    Calls Tryd.prog 11 #[.slice ac cs.length cc] w fun e w' => e = .returned (.bool true) ∧ Below w.heap.size w w' := by
  have HT := Lib.hid ht; clear ht
  have HV := Lib.hid (vBigB_any ac cs.length cc w hbig)
  by_cases hb65 : 65536 < cs.length
  · rw [decide_eq_true hb65] at HV
    clear hb65 h
    go_enter Tryd.func11, Tryd.ntmps11
    go_wp2_with fail
    refine HV.out.mono ?_
    rintro e w1 ⟨rfl, rfl⟩
    go_wp2
    go_ret
    exact ⟨rfl, Below.refl _ _⟩
  rw [decide_eq_false hb65] at HV
  have HD := Lib.hid (drawEncodeRecord_any ac cc cs w (by omega) h)
  have HDR := Lib.hid (fun W (hb : Below w.heap.size w W) => drawRecoverLog_any ac cc cs W (by omega) (h.below (Nat.le_refl _) hb))
  unfold recV at HD
  clear h hb65
  go_enter Tryd.func11, Tryd.ntmps11
  go_wp2_with fail
  refine HV.out.mono ?_
  rintro e w1 ⟨rfl, rfl⟩
  clear HV
  go_wp2_with fail
  refine HD.out.mono ?_
  rintro e w1 ⟨⟨k, c, r, rfl, hcs, hrs⟩, hb⟩
  clear HD
  have HB1 := Lib.hid (bnx hb (below_new w1 (.cells #[.string c, .string r] 27)))
  have HL1 := Lib.hid (L2.mk' w1 (.string c) (.string r) 27)
  clear hb
  have HE := Lib.hid (fun w ht => encode_all k c r w (by omega) (by omega) ht)
  have HS := Lib.hid (fun w => sEncode_all k c r w (by omega) (by omega))
  have HX := Lib.hid (enc_read k c r)
  have HTS := Lib.hid (encT_size (k := k) (c := c) (r := r))
  have HNO := Lib.hid (show encOk k c r = false → encT k c r = ⟨#[]⟩ from fun h => by unfold encT; rw [h]; rfl)
  unfold recV at HE HS
  generalize encT k c r = T at HE HS HX HTS HNO
  generalize encOk k c r = ok at HE HS HX HNO
  obtain ⟨u0, u1, _⟩ := HL1.out
  go_wp2_with fail
  refine (HE.out _ (HT.out.below HB1.out)).mono ?_
  rintro e w2 ⟨rfl, hb⟩
  have HB2 := Lib.hid (bnx HB1.out hb)
  have HL2 := Lib.hid (HL1.out.next hb)
  clear hb HB1 HL1 u0 u1 HE
  obtain ⟨u0, u1, _⟩ := HL2.out
  go_wp2_with fail
  refine (HS.out _).mono ?_
  rintro e w3 ⟨rfl, hb⟩
  have HB3 := Lib.hid (bnx HB2.out hb)
  clear hb HB2 HL2 u0 u1 HS
  have hne : (!(T.toList == T.toList)) = false := by simp
  have hbb : (!(ok == ok)) = false := by simp
  go_wp2_with fail
  refine (HDR.out _ HB3.out).mono ?_
  rintro e w4 ⟨⟨S, rfl, hS⟩, hb⟩
  have HB4 := Lib.hid (bnx HB3.out hb)
  clear hb HB3 HDR
  have HR := Lib.hid (fun w ht => recover_all S w (by omega) ht)
  have HRS := Lib.hid (fun w => sRecover_all S w (by omega))
  have HY := Lib.hid (fun w ht => sync_any (rcD S) ⟨#[]⟩ ((rcR S).length : Nat) w (Nat.le_trans (rcD_size S) (by omega)) (by decide) ht)
  have HI := Lib.hid (fun w ht => isValidLog_any (rcD S) ⟨#[]⟩ ((rcR S).length : Nat) w (Nat.le_trans (rcD_size S) (by omega)) (by decide) ht)
  rw [rc_okLog] at HI HY
  unfold syncV at HY
  rw [rc_okLog, if_pos rfl, show rcD S ++ (⟨#[]⟩ : ByteArray) = rcD S from ba_eq (by rw [bs_add]; exact List.append_nil _)] at HY
  generalize rcD S = R at HR HRS HY HI
  generalize Tx.total (rcR S) = E at HR HRS
  generalize ((rcR S).length : Nat) = L at HR HRS HY HI
  generalize rcOk S = told at HR HRS
  have HRT := Lib.hid (fun w ht => recover_all T w (by have := HTS.out; omega) ht)
  have hRR : (R.toList == R.toList) = true := by simp
  generalize rcD T = RT at HRT
  generalize (((rcR T).length : Nat) : Int) = LT at HRT HX
  generalize Tx.total (rcR T) = ET at HRT HX
  generalize rcOk T = toldT at HRT
  unfold logV at *
  go_wp2_with fail
  refine (HR.out _ (HT.out.below HB4.out)).mono ?_
  rintro e w5 ⟨rfl, hb⟩
  have HB5 := Lib.hid (bnx (bnx HB4.out hb) (below_new w5 (.cells #[.string R, .string ⟨#[]⟩, .int .i64 (L : Nat)] 31)))
  have HM5 := Lib.hid (L3.mk' w5 (.string R) (.string ⟨#[]⟩) (.int .i64 (L : Nat)) 31)
  clear hb HB4 HR
  go_wp2_with fail
  refine (HRS.out _).mono ?_
  rintro e w6 ⟨rfl, hb⟩
  have HB6 := Lib.hid (bnx (bnx HB5.out hb) (below_new w6 (.cells #[.string R, .string ⟨#[]⟩, .int .i64 (L : Nat)] 31)))
  have HM6 := Lib.hid ((HM5.out.next hb).next (below_new w6 (.cells #[.string R, .string ⟨#[]⟩, .int .i64 (L : Nat)] 31)))
  have HN6 := Lib.hid (L3.mk' w6 (.string R) (.string ⟨#[]⟩) (.int .i64 (L : Nat)) 31)
  clear hb HB5 HRS HM5
  obtain ⟨u0, u1, u2, _⟩ := HM6.out
  obtain ⟨v0, v1, v2, _⟩ := HN6.out
  have htt : (!(told == told)) = false := by simp
  go_wp2_with fail
  refine (HRT.out _ (HT.out.below HB6.out)).mono ?_
  rintro e w7 ⟨rfl, hb⟩
  have HB7 := Lib.hid (bnx (bnx HB6.out hb) (below_new w7 (.cells #[.string RT, .string ⟨#[]⟩, .int .i64 LT] 31)))
  have HM7 := Lib.hid ((HM6.out.next hb).next (below_new w7 (.cells #[.string RT, .string ⟨#[]⟩, .int .i64 LT] 31)))
  have HX7 := Lib.hid (L3.mk' w7 (.string RT) (.string ⟨#[]⟩) (.int .i64 LT) 31)
  clear hb HB6 HM6 HRT HN6 u0 u1 u2 v0 v1 v2
  obtain ⟨u0, u1, u2, _⟩ := HM7.out
  obtain ⟨v0, v1, v2, _⟩ := HX7.out
  cases ok
  · obtain rfl := HNO.out rfl
    clear HX HNO HTS
    go_wp2_with fail
    refine (HY.out _ (HT.out.below HB7.out)).mono ?_
    rintro e w8 ⟨rfl, hb⟩
    have HB8 := Lib.hid (bnx (bnx HB7.out hb) (below_new w8 (.cells #[.string R, .string ⟨#[]⟩, .int .i64 (L : Nat)] 31)))
    have HM8 := Lib.hid ((HM7.out.next hb).next (below_new w8 (.cells #[.string R, .string ⟨#[]⟩, .int .i64 (L : Nat)] 31)))
    have HS8 := Lib.hid (L3.mk' w8 (.string R) (.string ⟨#[]⟩) (.int .i64 (L : Nat)) 31)
    clear hb HB7 HM7 HY HX7 u0 u1 u2 v0 v1 v2
    obtain ⟨u0, u1, u2, _⟩ := HM8.out
    obtain ⟨v0, v1, v2, _⟩ := HS8.out
    cases told
    · go_wp2
      go_ret
      exact ⟨ret_bool (by first | rfl | simp), HB8.out⟩
    · go_wp2_with fail
      refine (HI.out _ (HT.out.below HB8.out)).mono ?_
      rintro e w9 ⟨rfl, hb⟩
      have HB9 := Lib.hid (bnx HB8.out hb)
      clear hb HB8 HI
      go_wp2
      go_ret
      exact ⟨ret_bool (by first | rfl | simp), HB9.out⟩
  obtain ⟨hlt, hdt⟩ := HX.out rfl
  clear HX HNO HTS
  by_cases hk : k = 0
  · subst hk
    rw [if_pos rfl] at hlt
    subst hlt
    rw [decide_eq_true (rfl : (0 : Int) = 0)] at hdt
    obtain ⟨X, rfl⟩ : ∃ X, ET = X + 1 := ⟨ET - 1, by simp at hdt; omega⟩
    clear hdt
    have hz : (0 : Int) < ((X + 1 : Nat) : Int) := by omega
    go_wp2_with fail
    refine (HY.out _ (HT.out.below HB7.out)).mono ?_
    rintro e w8 ⟨rfl, hb⟩
    have HB8 := Lib.hid (bnx (bnx HB7.out hb) (below_new w8 (.cells #[.string R, .string ⟨#[]⟩, .int .i64 (L : Nat)] 31)))
    have HM8 := Lib.hid ((HM7.out.next hb).next (below_new w8 (.cells #[.string R, .string ⟨#[]⟩, .int .i64 (L : Nat)] 31)))
    have HS8 := Lib.hid (L3.mk' w8 (.string R) (.string ⟨#[]⟩) (.int .i64 (L : Nat)) 31)
    clear hb HB7 HM7 HY HX7 u0 u1 u2 v0 v1 v2
    obtain ⟨u0, u1, u2, _⟩ := HM8.out
    obtain ⟨v0, v1, v2, _⟩ := HS8.out
    cases told
    · go_wp2
      go_ret
      exact ⟨ret_bool (by first | rfl | simp), HB8.out⟩
    · go_wp2_with fail
      refine (HI.out _ (HT.out.below HB8.out)).mono ?_
      rintro e w9 ⟨rfl, hb⟩
      have HB9 := Lib.hid (bnx HB8.out hb)
      clear hb HB8 HI
      go_wp2
      go_ret
      exact ⟨ret_bool (by first | rfl | simp), HB9.out⟩
  · rw [if_neg hk] at hlt
    subst hlt
    rw [decide_eq_false hk] at hdt
    obtain rfl : ET = 0 := by simp at hdt; omega
    clear hdt
    have hk2 : (k == 0) = false := by simpa using hk
    go_wp2_with fail
    refine (HY.out _ (HT.out.below HB7.out)).mono ?_
    rintro e w8 ⟨rfl, hb⟩
    have HB8 := Lib.hid (bnx (bnx HB7.out hb) (below_new w8 (.cells #[.string R, .string ⟨#[]⟩, .int .i64 (L : Nat)] 31)))
    have HM8 := Lib.hid ((HM7.out.next hb).next (below_new w8 (.cells #[.string R, .string ⟨#[]⟩, .int .i64 (L : Nat)] 31)))
    have HS8 := Lib.hid (L3.mk' w8 (.string R) (.string ⟨#[]⟩) (.int .i64 (L : Nat)) 31)
    clear hb HB7 HM7 HY HX7 u0 u1 u2 v0 v1 v2
    obtain ⟨u0, u1, u2, _⟩ := HM8.out
    obtain ⟨v0, v1, v2, _⟩ := HS8.out
    cases told
    · go_wp2
      go_ret
      exact ⟨ret_bool (by first | rfl | simp), HB8.out⟩
    · go_wp2_with fail
      refine (HI.out _ (HT.out.below HB8.out)).mono ?_
      rintro e w9 ⟨rfl, hb⟩
      have HB9 := Lib.hid (bnx HB8.out hb)
      clear hb HB8 HI
      go_wp2
      go_ret
      exact ⟨ret_bool (by first | rfl | simp), HB9.out⟩

end Go.Proofs.YtfdhicojnbicgaaDoor
