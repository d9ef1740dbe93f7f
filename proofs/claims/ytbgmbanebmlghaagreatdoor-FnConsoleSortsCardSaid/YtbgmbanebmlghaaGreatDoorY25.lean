/- Several texts in one: lemmas and walks of the functions that the law reaches. -/
import Derived.Test.YtbgmbanebmlghaaGreatDoorY22
import Derived.Deep.RegionHeld3

namespace Go.Proofs.YtbgmbanebmlghaaGreatDoor
open Go.RowKit
set_option linter.unusedVariables false

/-- The world of a region that holds a struct of two texts in block B: what lies below B stands, the table too. -/
structure Kp (w0 : World) (B : Nat) (w : World) : Prop where
  bel : Below B w0 w
  lt : B + 1 ≤ w.heap.size
  tab : Tab w
theorem Kp.drew {w0 : World} {B : Nat} {w : World} (h : Kp w0 B w) : Kp w0 B w.drew := ⟨Below.drew h.1, h.2, h.3⟩
theorem Kp.next {w0 : World} {B : Nat} {w w' : World} (h : Kp w0 B w) (hb : Below w.heap.size w w') : Kp w0 B w' :=
  ⟨h.1.trans (hb.mono (Nat.le_trans (Nat.le_succ _) h.2)), Nat.le_trans h.2 hb.size, h.3.below hb⟩
theorem keep_drew {w0 wx : World} {B : Nat} {c r : Value} (h0 : wx.cell? ⟨B, 0, none⟩ = some c) (h1 : wx.cell? ⟨B, 1, none⟩ = some r) (hk : Kp w0 B wx) : wx.drew.cell? ⟨B, 0, none⟩ = some c ∧ wx.drew.cell? ⟨B, 1, none⟩ = some r ∧ Kp w0 B wx.drew := ⟨h0, h1, hk.drew⟩
theorem keep_next {w0 wx w' : World} {B : Nat} {c r : Value} (h0 : wx.cell? ⟨B, 0, none⟩ = some c) (h1 : wx.cell? ⟨B, 1, none⟩ = some r) (hk : Kp w0 B wx) (hb : Below wx.heap.size wx w') : w'.cell? ⟨B, 0, none⟩ = some c ∧ w'.cell? ⟨B, 1, none⟩ = some r ∧ Kp w0 B w' :=
  ⟨(bcell hb hk.2).trans h0, (bcell hb hk.2).trans h1, hk.next hb⟩

def encB (k : Nat) (c r : ByteArray) : ByteArray := ⟨(Tx.lineE k (recE c r) ++ [10]).toArray⟩

theorem enc_eq {k : Nat} {c r : ByteArray} : (ByteArray.mk (Tx.sealL (bs ((((ByteArray.mk (Lib.decDigits k).toArray) ++ ⟨#[32]⟩) ++ c ++ ⟨#[62]⟩) ++ r))).toArray) ++ ⟨#[10]⟩ = encB k c r := by
  apply ba_eq
  rw [bs_add]
  have e : bs ((((ByteArray.mk (Lib.decDigits k).toArray) ++ ⟨#[32]⟩) ++ c ++ ⟨#[62]⟩) ++ r) = Tx.body k (recE c r) := by
    rw [bs_add, bs_add, bs_add, bs_add]
    show Lib.decDigits k ++ [32] ++ bs c ++ [62] ++ bs r = Lib.decDigits k ++ 32 :: (bs c ++ 62 :: bs r)
    simp
  rw [e]
  rfl

set_option maxHeartbeats 400000 in
theorem encode_no (k : Int) (c r : ByteArray) (w : World) (hc : c.size ≤ 4000000000) (hr : r.size ≤ 4000000000) (h : (inB k 0 59 && Tx.okE (recE c r)) = false) :
    Calls Tryz.prog 104 #[.int .i64 k, recV c r] w fun e w' => e = .returned (.tuple #[.string ⟨#[]⟩, .bool false]) ∧ Below w.heap.size w w' := by
  have HB : Hid (Below w.heap.size w (w.alloc (.cells #[.string c, .string r] 68))) := (Below.refl _ _).alloc (Nat.le_refl _) _
  have H0 := Lib.hid (fun w => in_any k 0 59 w)
  have H1 := Lib.hid (fun w => isValidRecord_any c r w hc hr)
  unfold recV at *
  cases h0 : inB k 0 59
  case' true =>
    rw [h0] at H0 h
    rw [Bool.true_and] at h
    rw [h] at H1
    clear h h0
    go_enter Tryz.func104, Tryz.ntmps104
    go_wp2_with (go_at_call 59; refine (H0.out _).mono ?_; rintro e w' ⟨rfl, rfl⟩)
    refine (H1.out _).mono ?_
    rintro e w1 ⟨rfl, hb1⟩
    have HB1 := Lib.hid (HB.out.trans (hb1.mono HB.out.size)); clear hb1
    go_wp2
    go_ret2
    exact ⟨rfl, HB1.out⟩
  rw [h0] at H0
  clear h h0
  go_enter Tryz.func104, Tryz.ntmps104
  go_wp2_with (go_at_call 59; refine (H0.out _).mono ?_; rintro e w' ⟨rfl, rfl⟩)
  go_ret2
  exact ⟨rfl, HB.out⟩

set_option maxRecDepth 100000 in
set_option maxHeartbeats 1600000 in
theorem encode_yes (k : Nat) (c r : ByteArray) (w : World) (hk : k < 60) (ho : Tx.okE (recE c r) = true) (ht : Tab w) :
    Calls Tryz.prog 104 #[.int .i64 k, recV c r] w fun e w' => e = .returned (.tuple #[.string (encB k c r), .bool true]) ∧ Below w.heap.size w w' := by
  obtain ⟨⟨_, c90, _⟩, r200, _⟩ := Tx.okE_parts ho
  have hc : c.size ≤ 90 := by rw [← bs_len]; exact c90
  have hr : r.size ≤ 200 := by rw [← bs_len]; exact r200
  clear c90 r200
  have HB : Hid (Below w.heap.size w (w.alloc (.cells #[.string c, .string r] 68))) := (Below.refl _ _).alloc (Nat.le_refl _) _
  have h0 : inB (k : Int) 0 59 = true := by simp [inB]; omega
  have H0 := Lib.hid (fun w => in_any (k : Int) 0 59 w)
  have H1 := Lib.hid (fun w => isValidRecord_any c r w (by omega) (by omega))
  rw [h0] at H0
  rw [ho] at H1
  have hkd := Tx.digits_len 1 k (by omega)
  have hks : (ByteArray.mk (Lib.decDigits k).toArray).size ≤ 2 := by rw [size_mk]; exact hkd
  have h35 : (35 : UInt8) ∉ bs ((((ByteArray.mk (Lib.decDigits k).toArray) ++ ⟨#[32]⟩) ++ c ++ ⟨#[62]⟩) ++ r) := by
    have e : bs ((((ByteArray.mk (Lib.decDigits k).toArray) ++ ⟨#[32]⟩) ++ c ++ ⟨#[62]⟩) ++ r) = Tx.body k (recE c r) := by
      rw [bs_add, bs_add, bs_add, bs_add]
      show Lib.decDigits k ++ [32] ++ bs c ++ [62] ++ bs r = Lib.decDigits k ++ 32 :: (bs c ++ 62 :: bs r)
      simp
    rw [e]; exact Tx.body_no35 ho
  have z1 : (ByteArray.mk #[32]).size = 1 := rfl
  have z2 : (ByteArray.mk #[62]).size = 1 := rfl
  have z3 : (ByteArray.mk #[10]).size = 1 := rfl
  have hsz : ((((ByteArray.mk (Lib.decDigits k).toArray) ++ ⟨#[32]⟩) ++ c ++ ⟨#[62]⟩) ++ r).size ≤ 3000 := by rw [size_add, size_add, size_add, size_add]; omega
  have a1 := add_runs (P := Tryz.prog) (a := ⟨(Lib.decDigits k).toArray⟩) (b := ⟨#[32]⟩) (by omega) (by decide)
  have a2 := add_runs (P := Tryz.prog) (a := ⟨(Lib.decDigits k).toArray⟩ ++ ⟨#[32]⟩) (b := c) (by rw [size_add]; omega) (by omega)
  have a3 := add_runs (P := Tryz.prog) (a := ⟨(Lib.decDigits k).toArray⟩ ++ ⟨#[32]⟩ ++ c) (b := ⟨#[62]⟩) (by rw [size_add, size_add]; omega) (by decide)
  have a4 := add_runs (P := Tryz.prog) (a := ⟨(Lib.decDigits k).toArray⟩ ++ ⟨#[32]⟩ ++ c ++ ⟨#[62]⟩) (b := r) (by rw [size_add, size_add, size_add]; omega) (by omega)
  have a5 := add_runs (P := Tryz.prog) (a := ⟨(Tx.sealL (bs ((((ByteArray.mk (Lib.decDigits k).toArray) ++ ⟨#[32]⟩) ++ c ++ ⟨#[62]⟩) ++ r))).toArray⟩) (b := ⟨#[10]⟩) (by
    rw [size_mk]
    have := Tx.digits_len 5 (Tx.sumL (bs ((((ByteArray.mk (Lib.decDigits k).toArray) ++ ⟨#[32]⟩) ++ c ++ ⟨#[62]⟩) ++ r))) (Nat.lt_trans (Tx.sumL_lt _) (by omega))
    have e := bs_len ((((ByteArray.mk (Lib.decDigits k).toArray) ++ ⟨#[32]⟩) ++ c ++ ⟨#[62]⟩) ++ r)
    unfold Tx.sealL
    simp only [List.length_append, List.length_cons]
    omega) (by decide)
  have HA := Lib.hid (fun w (h : Tab w) => appendChecksum_ok _ w hsz h35 h)
  have HI := Lib.hid (fun w (h : Tab w) => by simpa using itoa_any (k : Int) w (by omega) (by omega) h)
  have HE := Lib.hid (enc_eq (k := k) (c := c) (r := r))
  have hc0 : (w.alloc (.cells #[.string c, .string r] 68)).cell? ⟨w.heap.size, 0, none⟩ = some (.string c) := alloc_cell 0
  have hc1 : (w.alloc (.cells #[.string c, .string r] 68)).cell? ⟨w.heap.size, 1, none⟩ = some (.string r) := alloc_cell 1
  have HC0 := Lib.hid hc0; have HC1 := Lib.hid hc1; clear hc0 hc1
  have HT := Lib.hid (Tab.below ht HB.out)
  clear ht h0 ho h35 hkd z1 z2 z3 hsz
  unfold recV at *
  go_enter Tryz.func104, Tryz.ntmps104
  go_wp2_with (go_at_call 59; refine (H0.out _).mono ?_; rintro e w' ⟨rfl, rfl⟩)
  refine (H1.out _).mono ?_
  rintro e w1 ⟨rfl, hb1⟩
  have g0 : w1.cell? ⟨w.heap.size, 0, none⟩ = some (.string c) := (bcell hb1 (by simp)).trans HC0.out
  have g1 : w1.cell? ⟨w.heap.size, 1, none⟩ = some (.string r) := (bcell hb1 (by simp)).trans HC1.out
  have gk : Kp w w.heap.size w1 := ⟨HB.out.trans (hb1.mono HB.out.size), by have := hb1.size; simp at this; omega, HT.out.below hb1⟩
  clear hb1
  go_wp2_with fail
  have hS0 := keep_drew g0 g1 gk
  go_region_held3 (fun w' => w'.cell? ⟨w.heap.size, 0, none⟩ = some (.string c) ∧ w'.cell? ⟨w.heap.size, 1, none⟩ = some (.string r) ∧ Kp w w.heap.size w') (go_keep)
    (first | ((try go_split_ands); go_at_call 60; refine (HI.out _ ?_).mono ?_; (exact Kp.tab (w0 := w) (B := w.heap.size) (by assumption)); rintro e w' ⟨rfl, hb⟩; have hS := keep_next (c := .string c) (r := .string r) (by assumption) (by assumption) (by assumption) hb) | ((try go_split_ands); go_at_call 153; refine (HA.out _ ?_).mono ?_; (exact Kp.tab (w0 := w) (B := w.heap.size) (by assumption)); rintro e w' ⟨rfl, hb⟩; have hS := keep_next (c := .string c) (r := .string r) (by assumption) (by assumption) (by assumption) hb))
  go_wp2
  go_ret2
  rename_i hk1
  exact ⟨ret_v2 (by show Value.string _ = _; rw [HE.out]) rfl, hk1.2.2.bel⟩

end Go.Proofs.YtbgmbanebmlghaaGreatDoor

namespace Go.Proofs.YtbgmbanebmlghaaGreatDoor
open Go.RowKit
set_option linter.unusedVariables false

def ba (l : List UInt8) : ByteArray := ⟨l.toArray⟩
theorem bs_ba (l : List UInt8) : bs (ba l) = l := rfl
theorem ba_bs (s : ByteArray) : ba (bs s) = s := ba_eq rfl
theorem ba_size (l : List UInt8) : (ba l).size = l.length := size_mk l

theorem index_split {s a b : ByteArray} {c : UInt8} (ha : bs a = Tx.upto c (bs s)) (hb : bs b = Tx.past c (bs s)) (hm : c ∈ bs s) :
    Lib.indexByte s.data.toList c = (a.size : Int) ∧ a.size < s.size ∧ s.extract 0 a.size = a ∧ s.extract (a.size + 1) s.size = b := by
  obtain ⟨x, y, hxy, hn⟩ := Tx.parts hm
  have e1 := Tx.upto_app y hn
  have e2 := Tx.past_app y hn
  rw [hxy, e1] at ha
  rw [hxy, e2] at hb
  have hl : a.size = x.length := by rw [← bs_len, ha]
  have hs : s.size = x.length + 1 + y.length := by rw [← bs_len, hxy]; simp; omega
  refine ⟨?_, by omega, ?_, ?_⟩
  · show Lib.indexByte (bs s) c = _
    rw [hxy, Tx.indexByte_in y hn, hl]
  · apply ba_eq
    rw [ha]
    unfold bs
    rw [Lib.extract_data]
    show ((bs s).drop 0).take (a.size - 0) = x
    rw [hxy, hl]; simp
  · apply ba_eq
    rw [hb]
    unfold bs
    rw [Lib.extract_data]
    show ((bs s).drop (a.size + 1)).take (s.size - (a.size + 1)) = y
    rw [hxy, hl, hs]
    rw [List.drop_append, List.drop_of_length_le (by omega)]
    simp

theorem index_none {s a b : ByteArray} {c : UInt8} (ha : bs a = Tx.upto c (bs s)) (hb : bs b = Tx.past c (bs s)) (hm : c ∉ bs s) :
    Lib.indexByte s.data.toList c = -1 ∧ a = s ∧ b = ⟨#[]⟩ := by
  refine ⟨Tx.indexByte_out hm, ba_eq (by rw [ha, Tx.upto_none hm]), ba_eq (by rw [hb, Tx.past_none hm]; rfl)⟩

set_option maxRecDepth 100000 in
set_option maxHeartbeats 400000 in
theorem litecut_any (s a b : ByteArray) (c : UInt8) (d : Bool) (w : World) (hs : s.size ≤ 4000000000000000000) (ha : bs a = Tx.upto c (bs s)) (hb : bs b = Tx.past c (bs s)) (hd : decide (c ∈ bs s) = d) :
    Calls Tryz.prog 231 #[.string s, .string ⟨#[c]⟩] w fun e w' => e = .returned (.tuple #[.string a, .string b, .bool d]) ∧ ∃ n, w' = w.drewN n := by
  have h1 := fun w => Tryz.stringslite_Index_one s c w
  by_cases hm : c ∈ bs s
  · obtain ⟨e1, e2, e3, e4⟩ := index_split ha hb hm
    rw [e1] at h1
    have H1 := Lib.hid h1
    have E3 := Lib.hid e3
    have E4 := Lib.hid e4
    have hD := Lib.hid (hd.symm.trans (decide_eq_true hm))
    clear h1 e1 e3 e4 hd hm ha hb
    go_enter Tryz.func231, Tryz.ntmps231
    go_wp2_with fail
    refine (H1.out _).mono ?_
    rintro e w' ⟨rfl, rfl⟩
    go_wp2_with fail
    have hsm : ((ByteArray.mk #[c]).size : Int) = 1 := rfl
    go_quiet (fail)
    go_wp2
    go_ret3
    exact ⟨ret_v3 (by show Value.string _ = _; first | rw [E3.out] | (congr 1; exact E3.out)) (by show Value.string _ = _; first | rw [E4.out] | (congr 1; exact E4.out)) (by rw [hD.out]; rfl), _, rfl⟩
  · obtain ⟨e1, e2, e3⟩ := index_none ha hb hm
    rw [e1] at h1
    have H1 := Lib.hid h1
    have hD := Lib.hid (hd.symm.trans (decide_eq_false hm))
    subst e2
    subst e3
    clear h1 e1 hd hm ha hb
    go_enter Tryz.func231, Tryz.ntmps231
    go_wp2_with fail
    refine (H1.out _).mono ?_
    rintro e w' ⟨rfl, rfl⟩
    go_wp2_with fail
    go_ret3
    exact ⟨ret_v3 rfl rfl (by rw [hD.out]; rfl), 0, rfl⟩

set_option maxHeartbeats 400000 in
theorem cut1_any (s a b : ByteArray) (c : UInt8) (d : Bool) (w : World) (hs : s.size ≤ 4000000000000000000) (ha : bs a = Tx.upto c (bs s)) (hb : bs b = Tx.past c (bs s)) (hd : decide (c ∈ bs s) = d) :
    Calls Tryz.prog 174 #[.string s, .string ⟨#[c]⟩] w fun e w' => e = .returned (.tuple #[.string a, .string b, .bool d]) ∧ ∃ n, w' = w.drewN n := by
  have H := Lib.hid (fun w => litecut_any s a b c d w hs ha hb hd)
  clear ha hb hd
  go_enter Tryz.func174, Tryz.ntmps174
  go_wp2_with fail
  refine (H.out _).mono ?_
  rintro e w' ⟨rfl, n, rfl⟩
  go_wp2
  go_ret3
  exact ⟨rfl, n, rfl⟩

/-- What stood before a call still stands, cell for cell and mark for mark. -/
theorem stands {W w1 : World} {B : Nat} (hb : Below B W w1) : (∀ b o, b < B → w1.cell? ⟨b, o, none⟩ = W.cell? ⟨b, o, none⟩) ∧ (∀ b o, b < B → w1.frozen? ⟨b, o, none⟩ = W.frozen? ⟨b, o, none⟩) :=
  ⟨fun b o h => hb.cell (p := ⟨b, o, none⟩) h, fun b o h => hb.frozen (p := ⟨b, o, none⟩) h⟩

theorem two_set {w : World} {B : Nat} {a b : Value} (x y : Value) (h0 : w.cell? ⟨B, 0, none⟩ = some a) (h1 : w.cell? ⟨B, 1, none⟩ = some b) :
    (w.setCell ⟨B, 0, none⟩ x).cell? ⟨B, 0, none⟩ = some x ∧ ((w.setCell ⟨B, 0, none⟩ x).setCell ⟨B, 1, none⟩ y).cell? ⟨B, 0, none⟩ = some x ∧ ((w.setCell ⟨B, 0, none⟩ x).setCell ⟨B, 1, none⟩ y).cell? ⟨B, 1, none⟩ = some y := by
  have e0 := World.cell?_setCell_same' w ⟨B, 0, none⟩ x (by rw [h0]; rfl)
  have ne : (⟨B, 0, none⟩ : Addr) ≠ ⟨B, 1, none⟩ := by simp
  have e1 : (w.setCell ⟨B, 0, none⟩ x).cell? ⟨B, 1, none⟩ = some b := (World.cell?_setCell_other (h := ne) ..).trans h1
  exact ⟨e0, (World.cell?_setCell_other (h := ne.symm) ..).trans e0, World.cell?_setCell_same' _ _ _ (by rw [e1]; rfl)⟩

theorem below_two {w w1 : World} {B : Nat} (h : Below B w w1) (x y : Value) : Below B w ((w1.setCell ⟨B, 0, none⟩ x).setCell ⟨B, 1, none⟩ y) :=
  Below.setCell (p := ⟨B, 1, none⟩) (Below.setCell (p := ⟨B, 0, none⟩) h (Nat.le_refl _) _) (Nat.le_refl _) _

def zRec : Value := .agg #[.string ⟨#[]⟩, .string ⟨#[]⟩]

theorem step_dec {k : Nat} {s : ByteArray} (h : (10 : UInt8) ∈ bs s) : Tx.step k (bs s) = (Tx.dec k (Tx.upto 10 (bs s))).map fun e => (e, (Tx.upto 10 (bs s)).length + 1) := by unfold Tx.step; rw [if_pos h]

theorem enc_cmp {k : Nat} {line c r : ByteArray} : ((encB k c r).toList == (line ++ ⟨#[10]⟩).toList) = (Tx.lineE k (recE c r) == bs line) := by
  rw [Bool.eq_iff_iff, beq_iff_eq, beq_iff_eq, bs_toList, bs_toList, bs_add]
  show Tx.lineE k (recE c r) ++ [10] = bs line ++ [10] ↔ _
  rw [List.append_left_inj]

set_option maxRecDepth 100000 in
set_option maxHeartbeats 1600000 in
theorem decode_none (k : Nat) (s : ByteArray) (w : World) (hs : s.size ≤ 4000000000) (hk : k ≤ 60) (ht : Tab w) (h : Tx.step k (bs s) = none) :
    Calls Tryz.prog 130 #[.int .i64 k, .string s] w fun e w' => e = .returned (.tuple #[zRec, .int .i64 0, .bool false]) ∧ Below w.heap.size w w' := by
  obtain ⟨line, hline⟩ : ∃ l, bs l = Tx.upto 10 (bs s) := ⟨ba _, rfl⟩
  obtain ⟨rst, hrst⟩ : ∃ l, bs l = Tx.past 10 (bs s) := ⟨ba _, rfl⟩
  have hls : line.size ≤ s.size := by rw [← bs_len, ← bs_len, hline]; exact Tx.upto_len _ _
  have HC1 := Lib.hid (fun w => cut1_any s line rst 10 _ w (by omega) hline hrst rfl)
  unfold zRec
  by_cases hm : (10 : UInt8) ∈ bs s
  case' neg =>
    rw [decide_eq_false hm] at HC1
    clear hm h hline hrst
    go_enter Tryz.func130, Tryz.ntmps130
    go_wp2_with fail
    refine (HC1.out _).mono ?_
    rintro e w' ⟨rfl, n, rfl⟩
    go_wp2
    refine bodyPost_ret (v := .tuple #[.agg #[.string ⟨#[]⟩, .string ⟨#[]⟩], .int .i64 0, .bool false]) (by simp [results, Tryz.results130, go_sem]) rfl ⟨rfl, ?_⟩
    (repeat (first | exact Below.refl _ _ | assumption | refine Below.setCell ?_ (by first | omega | (simp; done) | (simp; omega)) _ | refine Below.alloc ?_ (by first | omega | (simp; done) | (simp; omega)) _ | refine Below.drew ?_ | refine below_drewN ?_ _))
  rw [decide_eq_true hm] at HC1
  rw [step_dec hm, Option.map_eq_none_iff, ← hline] at h
  clear hm
  by_cases hlong : line.size ≤ 4000
  case' neg =>
    clear h hline hrst
    go_enter Tryz.func130, Tryz.ntmps130
    go_wp2_with fail
    refine (HC1.out _).mono ?_
    rintro e w' ⟨rfl, n, rfl⟩
    go_wp2
    refine bodyPost_ret (v := .tuple #[.agg #[.string ⟨#[]⟩, .string ⟨#[]⟩], .int .i64 0, .bool false]) (by simp [results, Tryz.results130, go_sem]) rfl ⟨rfl, ?_⟩
    (repeat (first | exact Below.refl _ _ | assumption | refine Below.setCell ?_ (by first | omega | (simp; done) | (simp; omega)) _ | refine Below.alloc ?_ (by first | omega | (simp; done) | (simp; omega)) _ | refine Below.drew ?_ | refine below_drewN ?_ _))
  obtain ⟨t, ht1⟩ : ∃ l, bs l = Tx.upto 35 (bs line) := ⟨ba _, rfl⟩
  obtain ⟨t2, ht2⟩ : ∃ l, bs l = Tx.past 35 (bs line) := ⟨ba _, rfl⟩
  obtain ⟨u1, hu1⟩ : ∃ l, bs l = Tx.upto 32 (bs t) := ⟨ba _, rfl⟩
  obtain ⟨both, hu2⟩ : ∃ l, bs l = Tx.past 32 (bs t) := ⟨ba _, rfl⟩
  obtain ⟨c, hc⟩ : ∃ l, bs l = Tx.upto 62 (bs both) := ⟨ba _, rfl⟩
  obtain ⟨r, hr⟩ : ∃ l, bs l = Tx.past 62 (bs both) := ⟨ba _, rfl⟩
  have z1 : t.size ≤ 4000 := by have := Tx.upto_len 35 (bs line); rw [← ht1, bs_len, bs_len] at this; omega
  have pl : ∀ (x : UInt8) (l : List UInt8), (Tx.past x l).length ≤ l.length := fun x l => by rw [Tx.past_drop]; simp
  have z2 : both.size ≤ 4000 := by have := pl 32 (bs t); rw [← hu2, bs_len, bs_len] at this; omega
  have z3 : c.size ≤ 4000 := by have := Tx.upto_len 62 (bs both); rw [← hc, bs_len, bs_len] at this; omega
  have z4 : r.size ≤ 4000 := by have := pl 62 (bs both); rw [← hr, bs_len, bs_len] at this; omega
  have hP : Tx.decP (bs line) = recE c r := by unfold Tx.decP recE; rw [hc, hr, hu2, ht1]
  have HC2 := Lib.hid (fun w => cut1_any line t t2 35 _ w (by omega) ht1 ht2 rfl)
  have HC3 := Lib.hid (fun w => cut1_any t u1 both 32 _ w (by omega) hu1 hu2 rfl)
  have HC4 := Lib.hid (fun w => cut1_any both c r 62 _ w (by omega) hc hr rfl)
  have a5 := add_runs (P := Tryz.prog) (a := line) (b := ⟨#[10]⟩) (by omega) (by decide)
  have hen : ∃ (R : ByteArray) (b : Bool), (b = false ∨ (!(R.toList == (line ++ ⟨#[10]⟩).toList)) = true) ∧ ∀ w, Tab w → Calls Tryz.prog 104 #[.int .i64 k, recV c r] w fun e w' => e = .returned (.tuple #[.string R, .bool b]) ∧ Below w.heap.size w w' := by
    unfold Tx.dec at h
    split at h
    · cases h
    · rename_i hcond
      rw [hP] at hcond
      cases h0 : inB (k : Int) 0 59 && Tx.okE (recE c r)
      · exact ⟨_, false, .inl rfl, fun w _ => encode_no k c r w (by omega) (by omega) h0⟩
      · rw [Bool.and_eq_true] at h0
        have hk60 : k < 60 := by have := inB_iff.1 h0.1; omega
        refine ⟨_, true, .inr ?_, fun w ht => encode_yes k c r w hk60 h0.2 ht⟩
        rw [enc_cmp]
        simp only [hk60, h0.2, decide_true, Bool.and_true, Bool.true_and] at hcond
        simpa using hcond
  obtain ⟨R, b, hcase, hE⟩ := hen
  have HE := Lib.hid hE
  have HTB := Lib.hid ht
  clear hE ht h hP hc hr hu1 hu2 ht1 ht2 hline hrst pl
  unfold recV at HE
  have hb2 : b = false ∨ b = true := by cases b <;> simp
  rcases hcase with rfl | hne
  case' inr => rcases hb2 with rfl | rfl
  all_goals
    go_enter Tryz.func130, Tryz.ntmps130
    go_wp2_with fail
    refine (HC1.out _).mono ?_
    rintro e w' ⟨rfl, n1, rfl⟩
    go_wp2_with fail
    refine (HC2.out _).mono ?_
    rintro e w' ⟨rfl, n2, rfl⟩
    go_wp2_with fail
    refine (HC3.out _).mono ?_
    rintro e w' ⟨rfl, n3, rfl⟩
    go_wp2_with fail
    refine (HC4.out _).mono ?_
    rintro e w' ⟨rfl, n4, rfl⟩
    go_wp2_with fail
    refine (HE.out _ (HTB.out.below (by (repeat (first | exact Below.refl _ _ | assumption | refine Below.setCell ?_ (by first | omega | (simp; done) | (simp; omega)) _ | refine Below.alloc ?_ (by first | omega | (simp; done) | (simp; omega)) _ | refine Below.drew ?_ | refine below_drewN ?_ _))))).mono ?_
    rintro e w1 ⟨rfl, hb1⟩
    have HB1 := Lib.hid (show Below w.heap.size w w1 from Below.trans (by (repeat (first | exact Below.refl _ _ | assumption | refine Below.setCell ?_ (by first | omega | (simp; done) | (simp; omega)) _ | refine Below.alloc ?_ (by first | omega | (simp; done) | (simp; omega)) _ | refine Below.drew ?_ | refine below_drewN ?_ _))) (hb1.mono (by simp; omega)))
    obtain ⟨hcl, hfr⟩ := stands hb1
    have hz := hb1.size
    clear hb1
    go_wp2
    obtain ⟨s0, s1, s2⟩ := two_set (w := w1) (B := w.heap.size) (.string ⟨#[]⟩) (.string ⟨#[]⟩) (a := .string ⟨#[]⟩) (b := .string ⟨#[]⟩) (by rw [hcl _ _ (by simp; omega)]; simp [go_sem]) (by rw [hcl _ _ (by simp; omega)]; simp [go_sem])
    refine bodyPost_ret (v := .tuple #[.agg #[.string ⟨#[]⟩, .string ⟨#[]⟩], .int .i64 0, .bool false]) (by simp [results, Tryz.results130, go_sem, s1, s2]) rfl ⟨rfl, ?_⟩
    exact below_two HB1.out _ _

def recVE (e : Tx.Rec) : Value := recV (ba e.1) (ba e.2)

set_option maxRecDepth 100000 in
set_option maxHeartbeats 1600000 in
theorem decode_some (k : Nat) (s : ByteArray) (e0 : Tx.Rec) (l : Nat) (w : World) (hs : s.size ≤ 4000000000) (ht : Tab w) (h : Tx.step k (bs s) = some (e0, l)) :
    Calls Tryz.prog 130 #[.int .i64 k, .string s] w fun e w' => e = .returned (.tuple #[recVE e0, .int .i64 l, .bool true]) ∧ Below w.heap.size w w' := by
  obtain ⟨hk, ho, hl, tl, htl⟩ := Tx.step_iff.1 h
  have hno := Tx.line_no10 (k := k) ho
  obtain ⟨line, hline⟩ : ∃ x, bs x = Tx.lineE k e0 := ⟨ba _, rfl⟩
  obtain ⟨rst, hrst⟩ : ∃ x, bs x = tl := ⟨ba _, rfl⟩
  have hm : (10 : UInt8) ∈ bs s := by rw [htl]; simp
  have hlen : line.size ≤ 301 := by rw [← bs_len, hline]; exact Tx.line_len (by omega) ho
  have hl1 : (l : Int) = (line.size : Int) + 1 := by rw [hl, ← hline, bs_len]; omega
  have HC1 := Lib.hid (fun w => cut1_any s line rst 10 true w (by omega) (by rw [hline, htl, Tx.upto_app _ hno]) (by rw [hrst, htl, Tx.past_app _ hno]) (decide_eq_true hm))
  obtain ⟨c, hc⟩ : ∃ x, bs x = e0.1 := ⟨ba _, rfl⟩
  obtain ⟨r, hr⟩ : ∃ x, bs x = e0.2 := ⟨ba _, rfl⟩
  have hre : recE c r = e0 := by unfold recE; rw [hc, hr]
  have hP := Tx.decP_line (k := k) ho
  obtain ⟨t, ht1⟩ : ∃ l, bs l = Tx.upto 35 (bs line) := ⟨ba _, rfl⟩
  obtain ⟨t2, ht2⟩ : ∃ l, bs l = Tx.past 35 (bs line) := ⟨ba _, rfl⟩
  obtain ⟨u1, hu1⟩ : ∃ l, bs l = Tx.upto 32 (bs t) := ⟨ba _, rfl⟩
  obtain ⟨both, hu2⟩ : ∃ l, bs l = Tx.past 32 (bs t) := ⟨ba _, rfl⟩
  have hc2 : bs c = Tx.upto 62 (bs both) := by rw [hc, ← hP]; unfold Tx.decP; rw [hu2, ht1, hline]
  have hr2 : bs r = Tx.past 62 (bs both) := by rw [hr, ← hP]; unfold Tx.decP; rw [hu2, ht1, hline]
  have z1 : t.size ≤ 4000 := by have := Tx.upto_len 35 (bs line); rw [← ht1, bs_len, bs_len] at this; omega
  have pl : ∀ (x : UInt8) (l : List UInt8), (Tx.past x l).length ≤ l.length := fun x l => by rw [Tx.past_drop]; simp
  have z2 : both.size ≤ 4000 := by have := pl 32 (bs t); rw [← hu2, bs_len, bs_len] at this; omega
  have HC2 := Lib.hid (fun w => cut1_any line t t2 35 _ w (by omega) ht1 ht2 rfl)
  have HC3 := Lib.hid (fun w => cut1_any t u1 both 32 _ w (by omega) hu1 hu2 rfl)
  have HC4 := Lib.hid (fun w => cut1_any both c r 62 _ w (by omega) hc2 hr2 rfl)
  have a5 := add_runs (P := Tryz.prog) (a := line) (b := ⟨#[10]⟩) (by omega) (by decide)
  have ho' : Tx.okE (recE c r) = true := by rw [hre]; exact ho
  have HE := Lib.hid (fun w ht => encode_yes k c r w hk ho' ht)
  have hne : ((encB k c r).toList == (line ++ ⟨#[10]⟩).toList) = true := by rw [enc_cmp, hre, hline]; simp
  have hq : (!((encB k c r).toList == (line ++ ⟨#[10]⟩).toList)) = false := by rw [hne]; rfl
  have HV : Hid (recVE e0 = .agg #[.string c, .string r]) := by
    show recV (ba e0.1) (ba e0.2) = _
    rw [← hc, ← hr, ba_bs, ba_bs]; rfl
  have HTB := Lib.hid ht
  have HL1 := Lib.hid hl1
  generalize encB k c r = R at HE hne hq
  clear ht h hP hc hr hc2 hr2 hu1 hu2 ht1 ht2 hline hrst pl hm hno htl hl ho ho' hre hl1
  unfold recV at HE
  go_enter Tryz.func130, Tryz.ntmps130
  go_wp2_with fail
  refine (HC1.out _).mono ?_
  rintro e w' ⟨rfl, n1, rfl⟩
  go_wp2_with fail
  refine (HC2.out _).mono ?_
  rintro e w' ⟨rfl, n2, rfl⟩
  go_wp2_with fail
  refine (HC3.out _).mono ?_
  rintro e w' ⟨rfl, n3, rfl⟩
  go_wp2_with fail
  refine (HC4.out _).mono ?_
  rintro e w' ⟨rfl, n4, rfl⟩
  go_wp2_with fail
  refine (HE.out _ (HTB.out.below (by (repeat (first | exact Below.refl _ _ | assumption | refine Below.setCell ?_ (by first | omega | (simp; done) | (simp; omega)) _ | refine Below.alloc ?_ (by first | omega | (simp; done) | (simp; omega)) _ | refine Below.drew ?_ | refine below_drewN ?_ _))))).mono ?_
  rintro e w1 ⟨rfl, hb1⟩
  have HB1 := Lib.hid (show Below w.heap.size w w1 from Below.trans (by (repeat (first | exact Below.refl _ _ | assumption | refine Below.setCell ?_ (by first | omega | (simp; done) | (simp; omega)) _ | refine Below.alloc ?_ (by first | omega | (simp; done) | (simp; omega)) _ | refine Below.drew ?_ | refine below_drewN ?_ _))) (hb1.mono (by simp; omega)))
  obtain ⟨hcl, hfr⟩ := stands hb1
  have hz := hb1.size
  clear hb1
  go_wp2
  obtain ⟨s0, s1, s2⟩ := two_set (w := w1) (B := w.heap.size) (.string c) (.string r) (a := .string ⟨#[]⟩) (b := .string ⟨#[]⟩) (by rw [hcl _ _ (by simp; omega)]; simp [go_sem]) (by rw [hcl _ _ (by simp; omega)]; simp [go_sem])
  refine bodyPost_ret (v := .tuple #[.agg #[.string c, .string r], .int .i64 ((line.size : Int) + 1), .bool true]) (by simp [results, Tryz.results130, go_sem, s1, s2]) rfl ⟨by rw [HV.out, HL1.out], ?_⟩
  exact below_two HB1.out _ _

end Go.Proofs.YtbgmbanebmlghaaGreatDoor

namespace Go.Proofs.YtbgmbanebmlghaaGreatDoor
open Go.RowKit
set_option linter.unusedVariables false
theorem Tryz.infoS : (Tryz.prog.info? 9).map (fun i => (i.zero, i.size, i.bytes)) = some (some (.string ⟨#[]⟩), 1, 16) := by kernel_rfl
theorem slS : SlT Tryz.prog 57 9 (.string ⟨#[]⟩) 1 16 := ⟨Tryz.underlying57, info_parts Tryz.infoS, rfl, by decide, by decide⟩

def strL (l : List UInt8) : Value := .string (ba l)
end Go.Proofs.YtbgmbanebmlghaaGreatDoor

