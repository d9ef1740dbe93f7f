/- The law of logs: a record appended. -/
import Derived.Test.YtfdhicojnbicgaaDoorLb
import Derived.Test.YtfdhicojnbicgaaDoorCc
namespace Go.Proofs.YtfdhicojnbicgaaDoor
open Go.RowKit
set_option linter.unusedVariables false

/-- The cells of the law's log, its record and the two answers. -/
structure Gd (w0 w : World) (gl ge gm gw : Nat) (d p : Value) (n : Value) (c r : Value) (p2 n2 : Value) : Prop where
  bel : Below w0.heap.size w0 w
  l : L3 w gl d p n
  e : L2 w ge c r
  m : L3 w gm d p2 n2
  t : L3 w gw d p2 n2
theorem Gd.next {w0 w w' : World} {gl ge gm gw : Nat} {d p n c r p2 n2 : Value} (s : Gd w0 w gl ge gm gw d p n c r p2 n2) (hb : Below w.heap.size w w') : Gd w0 w' gl ge gm gw d p n c r p2 n2 :=
  ⟨bnx s.bel hb, s.l.next hb, s.e.next hb, s.m.next hb, s.t.next hb⟩
theorem Gd.drew {w0 w : World} {gl ge gm gw : Nat} {d p n c r p2 n2 : Value} (s : Gd w0 w gl ge gm gw d p n c r p2 n2) : Gd w0 w.drew gl ge gm gw d p n c r p2 n2 := s.next ((Below.refl _ _).drew)

/-- The same, with the lists of records, the log read back and the log synchronized. -/
structure Hd (w0 w : World) (ge gm gb gs : Nat) (c r d p2 n2 x : Value) (a1 a2 : Option Addr) (r1 r2 : List Tx.Rec) : Prop where
  bel : Below w0.heap.size w0 w
  e : L2 w ge c r
  m : L3 w gm d p2 n2
  b : L3 w gb x (.string ⟨#[]⟩) n2
  s : L3 w gs x (.string ⟨#[]⟩) n2
  h1 : LrAt w a1 r1
  h2 : LrAt w a2 r2
theorem Hd.next {w0 w w' : World} {ge gm gb gs : Nat} {c r d p2 n2 x : Value} {a1 a2 : Option Addr} {r1 r2 : List Tx.Rec} (s : Hd w0 w ge gm gb gs c r d p2 n2 x a1 a2 r1 r2) (hb : Below w.heap.size w w') : Hd w0 w' ge gm gb gs c r d p2 n2 x a1 a2 r1 r2 :=
  ⟨bnx s.bel hb, s.e.next hb, s.m.next hb, s.b.next hb, s.s.next hb, s.h1.below (Nat.le_refl _) hb, s.h2.below (Nat.le_refl _) hb⟩

/-- What the law says of an append that is done. -/
def AppDone (d p : ByteArray) (n : Int) (c r p2 : ByteArray) (n2 : Int) : Prop :=
  Tx.okLog (logOf d p2 n2) = true ∧ lrecs d p2 n2 = lrecs d p n ++ [recE c r] ∧ (lrecs d p n).length < 60 ∧ (d ++ p2).size ≤ 30000 ∧ Tx.total (rcR (d ++ p2)) = (d ++ p2).size ∧ n2 = (((lrecs d p n).length + 1 : Nat) : Int) ∧ (((rcR (d ++ p2)).length : Nat) : Int) = n2
theorem app_both (d p : ByteArray) (n : Int) (c r : ByteArray) (hd : d.size ≤ 1048576) (hp : p.size ≤ 1048576) (hcs : c.size ≤ 1048576) (hrs : r.size ≤ 1048576) :
    ∃ (p2 : ByteArray) (n2 q : Int), (∀ w, Tab w → Calls Tryd.prog 30 #[logV d p n, recV c r] w fun e w' => e = .returned (.tuple #[logV d p2 n2, .int .i64 q]) ∧ Below w.heap.size w w') ∧ (∀ w, Calls Tryd.prog 29 #[logV d p n, recV c r] w fun e w' => e = .returned (.tuple #[logV d p2 n2, .int .i64 q]) ∧ Below w.heap.size w w') ∧
      (((q = 1 ∨ q = 2) ∧ p2 = p ∧ n2 = n) ∨ (q = 0 ∧ AppDone d p n c r p2 n2)) := by
  rcases app_cases d p n c r hd hp hcs hrs with ⟨q, hq, HA, HAS⟩ | ⟨k, rfl, hk, hol, hoe, HA, HAS⟩
  · exact ⟨p, n, q, HA, HAS, .inl ⟨hq, rfl, rfl⟩⟩
  · refine ⟨_, _, 0, HA, HAS, .inr ⟨rfl, ?_⟩⟩
    obtain ⟨h1, h2, h3, h4, h5⟩ := app_lrecs hol hoe rfl hk
    have e1 := Tx.okLog_parts h1
    refine ⟨h1, h2, by omega, h4, ?_, by omega, ?_⟩
    · rw [rcR_ok h4]; exact h5
    · rw [rcR_ok h4]
      have := e1.2.2.1
      unfold Tx.recsOf at this
      rw [List.length_map] at this
      rw [bs_add]
      exact this.symm

set_option maxHeartbeats 400000 in
theorem sIsValidRecord_any (c r : ByteArray) (w : World) (hc : c.size ≤ 4000000000) (hr : r.size ≤ 4000000000) :
    Calls Tryd.prog 46 #[recV c r] w fun e w' => e = .returned (.bool (Tx.okE (recE c r))) ∧ Below w.heap.size w w' := by
  have HB : Hid (Below w.heap.size w (w.alloc (.cells #[.string c, .string r] 27))) := (Below.refl _ _).alloc (Nat.le_refl _) _
  have H := Lib.hid (fun w => l25Good_any c r w (by omega) (by omega))
  unfold recV at *
  go_enter Tryd.func46, Tryd.ntmps46
  go_wp2_with fail
  refine (H.out _).mono ?_
  rintro e w1 ⟨rfl, hb1⟩
  have HB1 := Lib.hid (HB.out.trans (hb1.mono HB.out.size)); clear hb1
  go_wp2
  go_ret
  exact ⟨rfl, HB1.out⟩

set_option maxRecDepth 100000 in
set_option maxHeartbeats 8000000 in
theorem lawLog_small (ac : Option Addr) (cc : Nat) (cs : List Int) (w : World) (ht : Tab w) (hbig : cs.length ≤ 65536) (h : BytesAt w ac cs) :
    Calls Tryd.prog 12 #[.slice ac cs.length cc] w fun e w' => e = .returned (.bool true) ∧ Below w.heap.size w w' := by
  have HT := Lib.hid ht; clear ht
  have HV := Lib.hid (vBigB_any ac cs.length cc w (by omega))
  rw [decide_eq_false (by omega)] at HV
  have HD := Lib.hid (drawAppendRecord_any ac cc cs w (by omega) h)
  unfold recV logV at HD
  clear h hbig
  go_enter Tryd.func12, Tryd.ntmps12
  go_wp2_with fail
  refine HV.out.mono ?_
  rintro e w1 ⟨rfl, rfl⟩
  clear HV
  go_wp2_with fail
  refine HD.out.mono ?_
  rintro e w1 ⟨⟨d, p, n, c, r, rfl, hs, hcs, hrs⟩, hb⟩
  clear HD
  have HB1 := Lib.hid (bnx (bnx hb (below_new w1 (.cells #[.string d, .string p, .int .i64 n] 31))) (below_new _ (.cells #[.string c, .string r] 27)))
  have HL1 := Lib.hid ((L3.mk' w1 (.string d) (.string p) (.int .i64 n) 31).next (below_new _ (.cells #[.string c, .string r] 27)))
  have HE1 := Lib.hid (L2.mk' (w1.alloc (.cells #[.string d, .string p, .int .i64 n] 31)) (.string c) (.string r) 27)
  rw [size_al] at HE1
  clear hb
  have HI := Lib.hid (fun w ht => isValidLog_any d p n w (by omega) (by omega) ht)
  have HIS := Lib.hid (fun w => sIsValidLog_any d p n w (by omega) (by omega))
  have HR := Lib.hid (fun w => isValidRecord_any c r w (by omega) (by omega))
  have HRS := Lib.hid (fun w => sIsValidRecord_any c r w (by omega) (by omega))
  have HOLD := Lib.hid (fun w ht => logRecords_any d p n w (by omega) (by omega) ht)
  obtain ⟨p2, n2, q, HA, HAS, HQ⟩ := app_both d p n c r (by omega) (by omega) (by omega) (by omega)
  have HQ := Lib.hid HQ
  have HA := Lib.hid HA
  have HAS := Lib.hid HAS
  unfold logV at HI HIS HOLD HA HAS
  unfold recV at HR HRS HA HAS
  obtain ⟨u0, u1, u2, _⟩ := HL1.out
  obtain ⟨v0, v1, _⟩ := HE1.out
  generalize Tx.okLog (logOf d p n) = okl at HI HIS HOLD
  generalize Tx.okE (recE c r) = oke at HR HRS
  have hbb1 : (!(okl == okl)) = false := by simp
  have hbb2 : (!(oke == oke)) = false := by simp
  have hdd : (d.toList == d.toList) = true := by simp
  have hpp : (p2.toList == p2.toList) = true := by simp
  have hqq : (!(q == q)) = false := by simp
  go_wp2_with fail
  refine (HA.out _ (HT.out.below HB1.out)).mono ?_
  rintro e w2 ⟨rfl, hb⟩
  have hbn := below_new w2 (.cells #[.string d, .string p2, .int .i64 n2] 31)
  have HB2 := Lib.hid (bnx (bnx HB1.out hb) hbn)
  have HL2 := Lib.hid ((HL1.out.next hb).next hbn)
  have HE2 := Lib.hid ((HE1.out.next hb).next hbn)
  have HM2 := Lib.hid (L3.mk' w2 (.string d) (.string p2) (.int .i64 n2) 31)
  clear hb hbn HB1 HL1 HE1 u0 u1 u2 v0 v1
  obtain ⟨u0, u1, u2, _⟩ := HL2.out
  obtain ⟨v0, v1, _⟩ := HE2.out
  go_wp2_with fail
  refine (HAS.out _).mono ?_
  rintro e w3 ⟨rfl, hb⟩
  have hbn := below_new w3 (.cells #[.string d, .string p2, .int .i64 n2] 31)
  have G3 : Hid (Gd w (w3.alloc (.cells #[.string d, .string p2, .int .i64 n2] 31)) w1.heap.size (w1.heap.size + 1) w2.heap.size w3.heap.size (.string d) (.string p) (.int .i64 n) (.string c) (.string r) (.string p2) (.int .i64 n2)) :=
    ⟨bnx (bnx HB2.out hb) hbn, (HL2.out.next hb).next hbn, (HE2.out.next hb).next hbn, (HM2.out.next hb).next hbn, L3.mk' w3 (.string d) (.string p2) (.int .i64 n2) 31⟩
  clear hb hbn HB2 HL2 HE2 HM2 u0 u1 u2 v0 v1 HA HAS
  obtain ⟨KK, k0, kall, knext, kout⟩ : ∃ KK : World → Prop, KK (w3.alloc (.cells #[.string d, .string p2, .int .i64 n2] 31)).drew ∧ (∀ w', KK w' → w'.cell? ⟨w1.heap.size, 0, none⟩ = some (.string d) ∧ w'.cell? ⟨w1.heap.size, 1, none⟩ = some (.string p) ∧ w'.cell? ⟨w1.heap.size, 2, none⟩ = some (.int .i64 n) ∧ w'.cell? ⟨w1.heap.size + 1, 0, none⟩ = some (.string c) ∧ w'.cell? ⟨w1.heap.size + 1, 1, none⟩ = some (.string r) ∧ w'.cell? ⟨w2.heap.size, 0, none⟩ = some (.string d) ∧ w'.cell? ⟨w2.heap.size, 1, none⟩ = some (.string p2) ∧ w'.cell? ⟨w2.heap.size, 2, none⟩ = some (.int .i64 n2) ∧ w'.cell? ⟨w3.heap.size, 0, none⟩ = some (.string d) ∧ w'.cell? ⟨w3.heap.size, 1, none⟩ = some (.string p2) ∧ w'.cell? ⟨w3.heap.size, 2, none⟩ = some (.int .i64 n2) ∧ KK w') ∧ (∀ w' w'', KK w' → Below w'.heap.size w' w'' → KK w'') ∧ (∀ w', KK w' → Gd w w' w1.heap.size (w1.heap.size + 1) w2.heap.size w3.heap.size (.string d) (.string p) (.int .i64 n) (.string c) (.string r) (.string p2) (.int .i64 n2)) :=
    ⟨_, G3.out.drew, fun _ h => ⟨h.l.c0, h.l.c1, h.l.c2, h.e.c0, h.e.c1, h.m.c0, h.m.c1, h.m.c2, h.t.c0, h.t.c1, h.t.c2, h⟩, fun _ _ h hb => h.next hb, fun _ h => h⟩
  clear G3
  have k1 := kall _ k0
  have hkall := Lib.hid kall; have hknext := Lib.hid knext; have hkout := Lib.hid kout
  clear kall knext kout k0
  go_wp2_with fail
  go_region_held3 (fun w' => w'.cell? ⟨w1.heap.size, 0, none⟩ = some (.string d) ∧ w'.cell? ⟨w1.heap.size, 1, none⟩ = some (.string p) ∧ w'.cell? ⟨w1.heap.size, 2, none⟩ = some (.int .i64 n) ∧ w'.cell? ⟨w1.heap.size + 1, 0, none⟩ = some (.string c) ∧ w'.cell? ⟨w1.heap.size + 1, 1, none⟩ = some (.string r) ∧ w'.cell? ⟨w2.heap.size, 0, none⟩ = some (.string d) ∧ w'.cell? ⟨w2.heap.size, 1, none⟩ = some (.string p2) ∧ w'.cell? ⟨w2.heap.size, 2, none⟩ = some (.int .i64 n2) ∧ w'.cell? ⟨w3.heap.size, 0, none⟩ = some (.string d) ∧ w'.cell? ⟨w3.heap.size, 1, none⟩ = some (.string p2) ∧ w'.cell? ⟨w3.heap.size, 2, none⟩ = some (.int .i64 n2) ∧ KK w') (go_keep)
    (first
      | ((try go_split_ands); go_at_call 24; refine (HI.out _ (HT.out.below (hkout.out _ (by assumption)).bel)).mono ?_; rintro e w' ⟨rfl, hb⟩; have hk := hknext.out _ _ (by assumption) hb; have hS := hkall.out _ hk; clear hb)
      | ((try go_split_ands); go_at_call 22; refine (HIS.out _).mono ?_; rintro e w' ⟨rfl, hb⟩; have hk := hknext.out _ _ (by assumption) hb; have hS := hkall.out _ hk; clear hb)
      | ((try go_split_ands); go_at_call 45; refine (HR.out _).mono ?_; rintro e w' ⟨rfl, hb⟩; have hk := hknext.out _ _ (by assumption) hb; have hS := hkall.out _ hk; clear hb)
      | ((try go_split_ands); go_at_call 46; refine (HRS.out _).mono ?_; rintro e w' ⟨rfl, hb⟩; have hk := hknext.out _ _ (by assumption) hb; have hS := hkall.out _ hk; clear hb))
  have G8 := Lib.hid (hkout.out _ hk)
  generalize w' = w8 at G8 ⊢
  clear hk hS hkall hknext hkout HI HIS HR HRS
  obtain ⟨u0, u1, u2, _⟩ := G8.out.l
  obtain ⟨x0, x1, x2, _⟩ := G8.out.m
  rcases HQ.out with ⟨hq, rfl, rfl⟩ | ⟨rfl, hdone⟩
  · have hq0 : (q == 0) = false := by simp; omega
    go_wp2
    go_ret
    exact ⟨ret_bool (by first | rfl | simp), G8.out.bel⟩
  obtain ⟨hok, hall, hl60, hsz, htot, hn2, hcnt⟩ := hdone
  obtain ⟨X, hX⟩ : ∃ X, X = d ++ p2 := ⟨_, rfl⟩
  have e1 := add_runs (P := Tryd.prog) (a := d) (b := p2) (by have := size_add d p2; omega) (by have := size_add d p2; omega)
  have hpz : p2.size ≤ 1048576 := by have := size_add d p2; omega
  rw [← hX] at e1 hsz htot hcnt
  have HNEW := Lib.hid (fun w ht => logRecords_any d p2 n2 w (by omega) hpz ht)
  have HREC := Lib.hid (fun w ht => recover_all X w (by omega) ht)
  have HSY := Lib.hid (fun w ht => sync_any d p2 n2 w (by omega) hpz ht)
  have HIV := Lib.hid (fun w ht => isValidLog_any d p2 n2 w (by omega) hpz ht)
  unfold syncV at HSY
  rw [hok, if_pos rfl, ← hX] at HSY
  rw [hok] at HNEW HIV
  rw [hall] at HNEW
  rw [htot, hcnt, show rcOk X = true from decide_eq_true hsz, show rcD X = X from by unfold rcD; rw [htot]; exact ba_eq (by rw [take_bs, ← bs_len, List.take_length])] at HREC
  generalize lrecs d p n = old at HOLD HNEW hl60 hn2
  unfold logV LRsEnd at *
  obtain ⟨all, hal⟩ : ∃ all, all = old ++ [recE c r] := ⟨_, rfl⟩
  have hlen : all.length = old.length + 1 := by rw [hal]; simp
  have HAL : Hid (∀ j, j < old.length → all.getD j ([], []) = old.getD j ([], [])) := fun j h => by rw [hal, List.getD_eq_getElem?_getD, List.getD_eq_getElem?_getD, List.getElem?_append_left h]
  have HLAST : Hid (all.getD old.length ([], []) = recE c r) := by show _ = _; rw [hal, List.getD_eq_getElem?_getD]; simp
  rw [← hal] at HNEW
  clear hal hok hall htot hcnt HQ hpz
  have HLEN := Lib.hid hlen
  have hXX : (X.toList == X.toList) = true := by simp
  have hle : (all.length : Int) = (old.length : Int) + 1 := by rw [hlen]; simp
  have hnl : (n2 == (old.length : Int) + 1) = true := by simpa using hn2
  have hnl2 : (n2 != (old.length : Int) + 1) = false := by simpa using hn2
  clear hn2 hlen
  go_wp2_with fail
  refine (HNEW.out _ (HT.out.below G8.out.bel)).mono ?_
  rintro e w9 ⟨a1, c1, rfl, ho, hb⟩
  have H1 := Lib.hid (lr_of_own ho)
  have G9 := Lib.hid (G8.out.next hb)
  clear hb ho G8 HNEW u0 u1 u2 x0 x1 x2
  obtain ⟨u0, u1, u2, _⟩ := G9.out.l
  go_wp2_with fail
  refine (HOLD.out _ (HT.out.below G9.out.bel)).mono ?_
  rintro e w10 ⟨a2, c2, rfl, ho, hb⟩
  have H2 := Lib.hid (lr_of_own ho)
  have H1' := Lib.hid (H1.out.below (Nat.le_refl _) hb)
  have G10 := Lib.hid (G9.out.next hb)
  clear hb ho G9 HOLD H1 u0 u1 u2
  obtain ⟨x0, x1, x2, _⟩ := G10.out.m
  have HX := Lib.hid hX; clear hX
  go_wp2_with fail
  refine (HREC.out _ (HT.out.below G10.out.bel)).mono ?_
  rintro e wr0 ⟨rfl, hb⟩
  have hbn := below_new wr0 (.cells #[.string X, .string ⟨#[]⟩, .int .i64 n2] 31)
  have H1 := Lib.hid ((H1'.out.below (Nat.le_refl _) hb).below (Nat.le_refl _) hbn)
  have H2' := Lib.hid ((H2.out.below (Nat.le_refl _) hb).below (Nat.le_refl _) hbn)
  have G11 := Lib.hid ((G10.out.next hb).next hbn)
  have HBK := Lib.hid (L3.mk' wr0 (.string X) (.string ⟨#[]⟩) (.int .i64 n2) 31)
  clear hb hbn H1' H2 G10 HREC x0 x1 x2
  obtain ⟨x0, x1, x2, _⟩ := G11.out.m
  go_wp2_with fail
  refine (HSY.out _ (HT.out.below G11.out.bel)).mono ?_
  rintro e ws0 ⟨rfl, hb⟩
  have hbn := below_new ws0 (.cells #[.string X, .string ⟨#[]⟩, .int .i64 n2] 31)
  have HD0 : Hid (Hd w (ws0.alloc (.cells #[.string X, .string ⟨#[]⟩, .int .i64 n2] 31)) (w1.heap.size + 1) w2.heap.size wr0.heap.size ws0.heap.size (.string c) (.string r) (.string d) (.string p2) (.int .i64 n2) (.string X) a1 a2 all old) :=
    ⟨bnx (bnx G11.out.bel hb) hbn, (G11.out.e.next hb).next hbn, (G11.out.m.next hb).next hbn, (HBK.out.next hb).next hbn, L3.mk' ws0 (.string X) (.string ⟨#[]⟩) (.int .i64 n2) 31, (H1.out.below (Nat.le_refl _) hb).below (Nat.le_refl _) hbn, (H2'.out.below (Nat.le_refl _) hb).below (Nat.le_refl _) hbn⟩
  clear hb hbn H1 H2' G11 HSY HBK x0 x1 x2
  obtain ⟨x0, x1, x2, _⟩ := HD0.out.m
  go_wp2_with fail
  go_loopw [18] (fun k wr => ∃ j : Nat, k = .int .i64 j ∧ j ≤ old.length ∧ Below (ws0.alloc (.cells #[.string X, .string ⟨#[]⟩, .int .i64 n2] 31)).heap.size (ws0.alloc (.cells #[.string X, .string ⟨#[]⟩, .int .i64 n2] 31)) wr) (fun k _ => old.length - (intOf k).toNat)
  case atStart => exact ⟨0, rfl, by omega, Below.refl _ _⟩
  case round =>
    obtain ⟨j, rfl, hj, hb⟩ := hrel
    have SX := Lib.hid (HD0.out.next hb)
    have HBX := Lib.hid hb
    clear hb
    by_cases hlt : j < old.length
    case pos =>
      obtain ⟨b1, o1, rfl, c10, c11⟩ := SX.out.h1.at (show j < all.length by have := HLEN.out; omega)
      obtain ⟨b2, o2, rfl, c20, c21⟩ := SX.out.h2.at hlt
      rw [HAL.out j hlt] at c10 c11
      generalize ba (old.getD j ([], [])).1 = x at c10 c20
      generalize ba (old.getD j ([], [])).2 = y at c11 c21
      have qx : (x.toList == x.toList) = true := by simp
      have qy : (y.toList == y.toList) = true := by simp
      have hjn : (j : Int) + 1 ≤ 9223372036854775807 := by omega
      have hja : j < all.length := by have := HLEN.out; omega
      go_wp2_with fail
      go_quiet (fail)
      go_wp2
      go_roundw
      case rel => exact ⟨j + 1, by go_num, by omega, below_drewN HBX.out _⟩
      case measure => simp [intOf]; omega
    case neg =>
      obtain rfl : j = old.length := by omega
      obtain ⟨b1, o1, rfl, c10, c11⟩ := SX.out.h1.at (show old.length < all.length by have := HLEN.out; omega)
      rw [HLAST.out] at c10 c11
      rw [show ba (recE c r).1 = c from ba_bs c] at c10
      rw [show ba (recE c r).2 = r from ba_bs r] at c11
      have hs2 : ((X.size : Int) == ((d ++ p2).size : Int)) = true := by rw [HX.out]; simp
      have hs3 : ((X.size : Int) == (d.size : Int) + (p2.size : Int)) = true := by rw [HX.out, size_add]; simp
      have hk0 : ∀ w', Hd w w' (w1.heap.size + 1) w2.heap.size wr0.heap.size ws0.heap.size (.string c) (.string r) (.string d) (.string p2) (.int .i64 n2) (.string X) (some ⟨b1, o1, none⟩) a2 all old → w'.cell? ⟨b1, o1 + old.length * 2, none⟩ = some (.string c) ∧ w'.cell? ⟨b1, o1 + old.length * 2 + 1, none⟩ = some (.string r) ∧ w'.cell? ⟨w1.heap.size + 1, 0, none⟩ = some (.string c) ∧ w'.cell? ⟨w1.heap.size + 1, 1, none⟩ = some (.string r) ∧ w'.cell? ⟨w2.heap.size, 0, none⟩ = some (.string d) ∧ w'.cell? ⟨w2.heap.size, 1, none⟩ = some (.string p2) ∧ w'.cell? ⟨w2.heap.size, 2, none⟩ = some (.int .i64 n2) ∧ w'.cell? ⟨wr0.heap.size, 0, none⟩ = some (.string X) ∧ w'.cell? ⟨wr0.heap.size, 1, none⟩ = some (.string ⟨#[]⟩) ∧ w'.cell? ⟨wr0.heap.size, 2, none⟩ = some (.int .i64 n2) ∧ w'.cell? ⟨ws0.heap.size, 0, none⟩ = some (.string X) ∧ w'.cell? ⟨ws0.heap.size, 1, none⟩ = some (.string ⟨#[]⟩) ∧ w'.cell? ⟨ws0.heap.size, 2, none⟩ = some (.int .i64 n2) := fun w' h => by
        obtain ⟨b', o', e', q1, q2⟩ := h.h1.at (show old.length < all.length by have := HLEN.out; omega)
        injection e' with e'
        injection e' with eb eo _
        subst eb; subst eo
        rw [HLAST.out] at q1 q2
        rw [show ba (recE c r).1 = c from ba_bs c] at q1
        rw [show ba (recE c r).2 = r from ba_bs r] at q2
        exact ⟨q1, q2, h.e.c0, h.e.c1, h.m.c0, h.m.c1, h.m.c2, h.b.c0, h.b.c1, h.b.c2, h.s.c0, h.s.c1, h.s.c2⟩
      obtain ⟨KK, k0, kall, knext, kout⟩ : ∃ KK : World → Prop, KK wr.drew ∧ (∀ w', KK w' → w'.cell? ⟨b1, o1 + old.length * 2, none⟩ = some (.string c) ∧ w'.cell? ⟨b1, o1 + old.length * 2 + 1, none⟩ = some (.string r) ∧ w'.cell? ⟨w1.heap.size + 1, 0, none⟩ = some (.string c) ∧ w'.cell? ⟨w1.heap.size + 1, 1, none⟩ = some (.string r) ∧ w'.cell? ⟨w2.heap.size, 0, none⟩ = some (.string d) ∧ w'.cell? ⟨w2.heap.size, 1, none⟩ = some (.string p2) ∧ w'.cell? ⟨w2.heap.size, 2, none⟩ = some (.int .i64 n2) ∧ w'.cell? ⟨wr0.heap.size, 0, none⟩ = some (.string X) ∧ w'.cell? ⟨wr0.heap.size, 1, none⟩ = some (.string ⟨#[]⟩) ∧ w'.cell? ⟨wr0.heap.size, 2, none⟩ = some (.int .i64 n2) ∧ w'.cell? ⟨ws0.heap.size, 0, none⟩ = some (.string X) ∧ w'.cell? ⟨ws0.heap.size, 1, none⟩ = some (.string ⟨#[]⟩) ∧ w'.cell? ⟨ws0.heap.size, 2, none⟩ = some (.int .i64 n2) ∧ KK w') ∧ (∀ w' w'', KK w' → Below w'.heap.size w' w'' → KK w'') ∧ (∀ w', KK w' → Below w.heap.size w w') :=
        ⟨fun w' => Hd w w' (w1.heap.size + 1) w2.heap.size wr0.heap.size ws0.heap.size (.string c) (.string r) (.string d) (.string p2) (.int .i64 n2) (.string X) (some ⟨b1, o1, none⟩) a2 all old, SX.out.next ((Below.refl _ _).drew), fun w' h => by
          obtain ⟨q0, q1, q2, q3, q4, q5, q6, q7, q8, q9, q10, q11, q12⟩ := hk0 w' h
          exact ⟨q0, q1, q2, q3, q4, q5, q6, q7, q8, q9, q10, q11, q12, h⟩, fun _ _ h hb => Hd.next h hb, fun _ h => Hd.bel h⟩
      clear hk0
      have k1 := kall _ k0
      have hkall := Lib.hid kall; have hknext := Lib.hid knext; have hkout := Lib.hid kout
      clear kall knext kout k0 x0 x1 x2 SX HBX
      have hcc : (c.toList == c.toList) = true := by simp
      have hrr : (r.toList == r.toList) = true := by simp
      have hla : old.length < all.length := by have := HLEN.out; omega
      have hi0 : (0 : Int) ≤ (old.length : Int) := by omega
      have hi1 : (old.length : Int) < (all.length : Int) := by omega
      have hi2 : (old.length : Int) ≤ (all.length : Int) := by omega
      have hi3 : (old.length : Int) < (old.length : Int) + 1 := by omega
      have hi4 : ((old.length : Int) + 1).toNat = old.length + 1 := by omega
      go_wp2_with fail
      go_region_held3 (fun w' => w'.cell? ⟨b1, o1 + old.length * 2, none⟩ = some (.string c) ∧ w'.cell? ⟨b1, o1 + old.length * 2 + 1, none⟩ = some (.string r) ∧ w'.cell? ⟨w1.heap.size + 1, 0, none⟩ = some (.string c) ∧ w'.cell? ⟨w1.heap.size + 1, 1, none⟩ = some (.string r) ∧ w'.cell? ⟨w2.heap.size, 0, none⟩ = some (.string d) ∧ w'.cell? ⟨w2.heap.size, 1, none⟩ = some (.string p2) ∧ w'.cell? ⟨w2.heap.size, 2, none⟩ = some (.int .i64 n2) ∧ w'.cell? ⟨wr0.heap.size, 0, none⟩ = some (.string X) ∧ w'.cell? ⟨wr0.heap.size, 1, none⟩ = some (.string ⟨#[]⟩) ∧ w'.cell? ⟨wr0.heap.size, 2, none⟩ = some (.int .i64 n2) ∧ w'.cell? ⟨ws0.heap.size, 0, none⟩ = some (.string X) ∧ w'.cell? ⟨ws0.heap.size, 1, none⟩ = some (.string ⟨#[]⟩) ∧ w'.cell? ⟨ws0.heap.size, 2, none⟩ = some (.int .i64 n2) ∧ KK w') (go_keep)
        (first
          | ((try go_split_ands); go_at_call 24; refine (HIV.out _ (HT.out.below (hkout.out _ (by assumption)))).mono ?_; rintro e w' ⟨rfl, hb⟩; have hk := hknext.out _ _ (by assumption) hb; have hS := hkall.out _ hk; clear hb))
      have HF := Lib.hid (hkout.out _ hk)
      clear hk hS hkall hknext hkout
      go_wp2
      go_ret
      exact ⟨ret_bool (by first | rfl | simp), HF.out⟩

set_option maxRecDepth 100000 in
theorem lawLog_any (ac : Option Addr) (cc : Nat) (cs : List Int) (w : World) (ht : Tab w) (hbig : cs.length ≤ 9223372036854775807) (h : BytesAt w ac cs) :
    Calls Tryd.prog 12 #[.slice ac cs.length cc] w fun e w' => e = .returned (.bool true) ∧ Below w.heap.size w w' := by
  by_cases hb65 : 65536 < cs.length
  · have HV := Lib.hid (vBigB_any ac cs.length cc w hbig)
    rw [decide_eq_true hb65] at HV
    clear hb65 h
    go_enter Tryd.func12, Tryd.ntmps12
    go_wp2_with fail
    refine HV.out.mono ?_
    rintro e w1 ⟨rfl, rfl⟩
    go_wp2
    go_ret
    exact ⟨rfl, Below.refl _ _⟩
  · exact lawLog_small ac cc cs w ht (by omega) h

end Go.Proofs.YtfdhicojnbicgaaDoor
