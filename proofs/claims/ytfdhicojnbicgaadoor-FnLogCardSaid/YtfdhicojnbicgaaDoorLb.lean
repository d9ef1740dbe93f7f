/- The law of crash recovery: what is recovered behind a crash. -/
import Derived.Test.YtfdhicojnbicgaaDoorCb
import Derived.Test.YtfdhicojnbicgaaDoorLa
namespace Go.Proofs.YtfdhicojnbicgaaDoor
open Go.RowKit
set_option linter.unusedVariables false

theorem bnx {w w1 w2 : World} (h : Below w.heap.size w w1) (hb : Below w1.heap.size w1 w2) : Below w.heap.size w w2 := h.trans (hb.mono h.size)

theorem rcD_size (s : ByteArray) : (rcD s).size ≤ s.size := by
  unfold rcD
  rw [ByteArray.size_extract]
  omega

theorem bnxd {w w1 : World} (h : Below w.heap.size w w1) : Below w.heap.size w w1.drew := Below.drew h

/-- A log's cells and two lists of records, in a world that grows. -/
structure LL (w0 w : World) (gl gm : Nat) (d p : ByteArray) (n : Int) (md mp : ByteArray) (mn : Int) (a1 a2 : Option Addr) (r1 r2 : List Tx.Rec) : Prop where
  bel : Below w0.heap.size w0 w
  log : L3 w gl (.string d) (.string p) (.int .i64 n)
  got : L3 w gm (.string md) (.string mp) (.int .i64 mn)
  h1 : LrAt w a1 r1
  h2 : LrAt w a2 r2
theorem LL.next {w0 w w' : World} {gl gm : Nat} {d p : ByteArray} {n : Int} {md mp : ByteArray} {mn : Int} {a1 a2 : Option Addr} {r1 r2 : List Tx.Rec} (s : LL w0 w gl gm d p n md mp mn a1 a2 r1 r2) (hb : Below w.heap.size w w') : LL w0 w' gl gm d p n md mp mn a1 a2 r1 r2 :=
  ⟨bnx s.bel hb, s.log.next hb, s.got.next hb, s.h1.below (Nat.le_refl _) hb, s.h2.below (Nat.le_refl _) hb⟩

set_option maxRecDepth 100000 in
set_option maxHeartbeats 8000000 in
theorem lawCrashRecovery_any (ac : Option Addr) (cc : Nat) (cs : List Int) (w : World) (ht : Tab w) (hbig : cs.length ≤ 9223372036854775807) (h : BytesAt w ac cs) :
    Calls Tryd.prog 13 #[.slice ac cs.length cc] w fun e w' => e = .returned (.bool true) ∧ Below w.heap.size w w' := by
  have HT := Lib.hid ht; clear ht
  have HV := Lib.hid (vBigB_any ac cs.length cc w hbig)
  by_cases hb65 : 65536 < cs.length
  · rw [decide_eq_true hb65] at HV
    clear hb65 h
    go_enter Tryd.func13, Tryd.ntmps13
    go_wp2_with fail
    refine HV.out.mono ?_
    rintro e w1 ⟨rfl, rfl⟩
    go_wp2
    go_ret
    exact ⟨rfl, Below.refl _ _⟩
  rw [decide_eq_false hb65] at HV
  have HD := Lib.hid (drawCrashLog_any ac cc cs w (by omega) h)
  unfold logV at HD
  clear h hb65
  go_enter Tryd.func13, Tryd.ntmps13
  go_wp2_with fail
  refine HV.out.mono ?_
  rintro e w1 ⟨rfl, rfl⟩
  clear HV
  go_wp2_with fail
  refine HD.out.mono ?_
  rintro e w1 ⟨⟨d, p, n, k, t, rfl, hs⟩, hb⟩
  clear HD
  have HB1 := Lib.hid (bnx hb (below_new w1 (.cells #[.string d, .string p, .int .i64 n] 31)))
  have HL1 := Lib.hid (L3.mk' w1 (.string d) (.string p) (.int .i64 n) 31)
  clear hb
  obtain ⟨u0, u1, u2, _⟩ := HL1.out
  have HC := Lib.hid (fun w ht => crash_all d p n k t w (by omega) (by omega) ht)
  have HS := Lib.hid (fun w => sCrash_all d p n k t w (by omega) (by omega))
  have HX := Lib.hid (fun (h : crOk d p n k = true) => cr_law (t := t) h)
  have HO := Lib.hid (fun w => sLogRecords_any d p n w (by omega) (by omega))
  have HN := Lib.hid (show crOk d p n k = false → crT d p n k t = ⟨#[]⟩ from fun h => by unfold crT; rw [h]; rfl)
  have hol := lrecs_len d p n
  generalize crT d p n k t = T at HC HS HX HN
  generalize crOk d p n k = ok at HC HS HX HN
  generalize lrecs d p n = old at HX HO hol
  generalize Tx.okLog (logOf d p n) = okl at HO
  unfold logV LRsEnd at *
  go_wp2_with fail
  refine (HC.out _ (HT.out.below HB1.out)).mono ?_
  rintro e w2 ⟨rfl, hb⟩
  have HB2 := Lib.hid (bnx HB1.out hb)
  have HL2 := Lib.hid (HL1.out.next hb)
  clear hb HB1 HL1 u0 u1 u2 HC
  obtain ⟨u0, u1, u2, _⟩ := HL2.out
  go_wp2_with fail
  refine (HS.out _).mono ?_
  rintro e w3 ⟨rfl, hb⟩
  have HB3 := Lib.hid (bnx HB2.out hb)
  have HL3 := Lib.hid (HL2.out.next hb)
  clear hb HB2 HL2 u0 u1 u2 HS
  have hne : (!(T.toList == T.toList)) = false := by simp
  cases ok
  · obtain rfl := HN.out rfl
    clear HX HO HN hne
    go_wp2
    go_ret
    exact ⟨rfl, HB3.out⟩
  obtain ⟨hT, hend, i, hi⟩ := HX.out rfl
  have HPX := Lib.hid (show ∀ j, j < (old.take i).length → (old.take i).getD j ([], []) = old.getD j ([], []) from fun j h => by
    rw [List.getD_eq_getElem?_getD, List.getD_eq_getElem?_getD, List.getElem?_take_of_lt (by rw [List.length_take] at h; omega)])
  have hq3 : (old.take i).length ≤ old.length := by rw [List.length_take]; omega
  generalize old.take i = tk at hi HPX hq3
  have HR := Lib.hid (fun w ht => recover_all T w (by omega) ht)
  have hk : rcOk T = true := decide_eq_true hT
  have htot := rc_total (s := T)
  have HM := Lib.hid (fun w ht => logRecords_any (rcD T) ⟨#[]⟩ ((rcR T).length : Nat) w (Nat.le_trans (rcD_size T) (by omega)) (by decide) ht)
  have HI := Lib.hid (fun w ht => isValidLog_any (rcD T) ⟨#[]⟩ ((rcR T).length : Nat) w (Nat.le_trans (rcD_size T) (by omega)) (by decide) ht)
  rw [rc_okLog] at HM HI
  rw [rc_lrecs, hi] at HM
  rw [hk] at HR
  have HDD := Lib.hid (show rcD T = T.extract 0 (Tx.total (rcR T)) from rfl)
  generalize rcD T = R at HR HM HI HDD
  generalize Tx.total (rcR T) = E at HR hend htot HDD
  generalize ((rcR T).length : Nat) = L at HR HM HI
  unfold logV LRsEnd at *
  clear HX HN hi hk
  go_wp2_with fail
  refine (HR.out _ (HT.out.below HB3.out)).mono ?_
  rintro e w4 ⟨rfl, hb⟩
  have HB4 := Lib.hid (bnx (bnx HB3.out hb) (below_new w4 (.cells #[.string R, .string ⟨#[]⟩, .int .i64 (L : Nat)] 31)))
  have HL4 := Lib.hid ((HL3.out.next hb).next (below_new w4 (.cells #[.string R, .string ⟨#[]⟩, .int .i64 (L : Nat)] 31)))
  have HM4 := Lib.hid (L3.mk' w4 (.string R) (.string ⟨#[]⟩) (.int .i64 (L : Nat)) 31)
  clear hb HB3 HL3 HR
  obtain ⟨u0, u1, u2, _⟩ := HM4.out
  go_wp2_with fail
  refine (HM.out _ (HT.out.below HB4.out)).mono ?_
  rintro e w5 ⟨a1, c1, rfl, ho, hb⟩
  have H1 := Lib.hid (lr_of_own ho)
  have HB5 := Lib.hid (bnx HB4.out hb)
  have HL5 := Lib.hid (HL4.out.next hb)
  have HM5 := Lib.hid (HM4.out.next hb)
  clear hb HB4 HL4 HM4 HM ho u0 u1 u2
  obtain ⟨u0, u1, u2, _⟩ := HL5.out
  go_wp2_with fail
  refine (HO.out _).mono ?_
  rintro e w6 ⟨a2, c2, rfl, ho, hb⟩
  have SS : Hid (LL w w6 w1.heap.size w4.heap.size d p n R ⟨#[]⟩ (L : Nat) a1 a2 tk old) := ⟨bnx HB5.out hb, HL5.out.next hb, HM5.out.next hb, H1.out.below (Nat.le_refl _) hb, lr_of_own ho⟩
  clear hb ho HB5 HL5 HM5 H1 HO u0 u1 u2
  have hq1 : decide ((T.size : Int) < (E : Int)) = false := by simp; omega
  have hq2 : decide ((E : Int) < (d.size : Int)) = false := by simp; omega
  have hq4 : decide ((old.length : Int) < (tk.length : Int)) = false := by simp; omega
  have hq5 : tk.length ≤ 60 := by omega
  obtain ⟨u0, u1, u2, _⟩ := SS.out.log
  go_wp2_with fail
  have hw6 : Hid (Below w.heap.size w w6) := SS.out.bel
  clear u0 u1 u2
  go_loopw [17] (fun k wr => ∃ j : Nat, k = .int .i64 j ∧ j ≤ tk.length ∧ Below w6.heap.size w6 wr) (fun k _ => tk.length - (intOf k).toNat)
  case atStart => exact ⟨0, rfl, by omega, Below.refl _ _⟩
  case round =>
    obtain ⟨j, rfl, hj, hb⟩ := hrel
    have SX := Lib.hid (SS.out.next hb)
    have HBX := Lib.hid hb
    clear hb
    by_cases hlt : j < tk.length
    case pos =>
      have hlt2 : j < old.length := by omega
      obtain ⟨b1, o1, rfl, c10, c11⟩ := SX.out.h1.at hlt
      obtain ⟨b2, o2, rfl, c20, c21⟩ := SX.out.h2.at hlt2
      rw [HPX.out j hlt] at c10 c11
      generalize ba (old.getD j ([], [])).1 = x at c10 c20
      generalize ba (old.getD j ([], [])).2 = y at c11 c21
      have qx : (x.toList == x.toList) = true := by simp
      have qy : (y.toList == y.toList) = true := by simp
      have hjn : (j : Int) + 1 ≤ 9223372036854775807 := by omega
      go_wp2_with fail
      go_quiet (fail)
      go_wp2
      go_roundw
      case rel => exact ⟨j + 1, by go_num, by omega, below_drewN HBX.out _⟩
      case measure => simp [intOf]; omega
    case neg =>
      obtain rfl : j = tk.length := by omega
      have WX := Lib.hid (bnx SS.out.bel HBX.out)
      have MD := Lib.hid (SX.out.got.next ((Below.refl wr.heap.size wr).drew))
      have WD := Lib.hid (bnxd WX.out)
      obtain ⟨g0, g1, g2, _⟩ := MD.out
      have qr : (R.toList == (T.extract 0 E).toList) = true := by rw [← HDD.out]; simp
      have hE0 : (0 : Int) ≤ (E : Int) := by omega
      have hE1 : (E : Int) ≤ (T.size : Int) := by omega
      go_wp2_with fail
      go_region_law
        (first
          | (go_simp; go_at_call 24; refine (HI.out _ (HT.out.below WD.out)).mono ?_; rintro e w8 ⟨rfl, hb⟩; have WE := Lib.hid (bnx WD.out hb); have ME := Lib.hid (MD.out.next hb); obtain ⟨k0, k1, k2, _⟩ := ME.out; clear hb))
      all_goals
        try simp only [Act.put]
        try simp
        go_wp2
        go_ret
        exact ⟨ret_bool (by first | rfl | simp), WE.out⟩

end Go.Proofs.YtfdhicojnbicgaaDoor
