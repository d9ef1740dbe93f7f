/- Walks on texts: the program's EncodeRecord. -/
import Derived.Test.YtfdhicojnbicgaaDoorTf
import Derived.Deep.RegionHeld3
namespace Go.Proofs.YtfdhicojnbicgaaDoor
open Go.RowKit
set_option linter.unusedVariables false

/-- The world of a region that holds a struct of two texts in block B: what lies below B stands, the table too. -/
structure Kp (w0 : World) (B : Nat) (w : World) : Prop where
  bel : Below B w0 w
  lt : B + 1 ≤ w.heap.size
  tab : Tab w
theorem Kp.drew {w0 : World} {B : Nat} {w : World} (h : Kp w0 B w) : Kp w0 B w.drew := ⟨Below.drew h.1, h.2, h.3⟩
theorem Kp.next {w0 : World} {B : Nat} {w w' : World} (h : Kp w0 B w) (hb : Below w.heap.size w w') : Kp w0 B w' :=
  ⟨h.1.trans (hb.mono (Nat.le_trans (Nat.le_succ _) h.2)), Nat.le_trans h.2 hb.size, h.3.below hb⟩
theorem keep_drew {w0 wx : World} {B : Nat} {c r : Value} (h0 : wx.cell? ⟨B, 0, none⟩ = some c) (h1 : wx.cell? ⟨B, 1, none⟩ = some r) (hk : Kp w0 B wx) : wx.drew.cell? ⟨B, 0, none⟩ = some c ∧ wx.drew.cell? ⟨B, 1, none⟩ = some r ∧ Kp w0 B wx.drew := ⟨h0, h1, hk.drew⟩
theorem keep_next {w0 wx w' : World} {B : Nat} {c r : Value} (h0 : wx.cell? ⟨B, 0, none⟩ = some c) (h1 : wx.cell? ⟨B, 1, none⟩ = some r) (hk : Kp w0 B wx) (hb : Below wx.heap.size wx w') : w'.cell? ⟨B, 0, none⟩ = some c ∧ w'.cell? ⟨B, 1, none⟩ = some r ∧ Kp w0 B w' :=
  ⟨(bcell hb hk.2).trans h0, (bcell hb hk.2).trans h1, hk.next hb⟩

def encB (k : Nat) (c r : ByteArray) : ByteArray := ⟨(Tx.lineE k (recE c r) ++ [10]).toArray⟩

theorem enc_eq {k : Nat} {c r : ByteArray} : (ByteArray.mk (Tx.sealL (bs ((((ByteArray.mk (Lib.decDigits k).toArray) ++ ⟨#[32]⟩) ++ c ++ ⟨#[62]⟩) ++ r))).toArray) ++ ⟨#[10]⟩ = encB k c r := by
  apply ba_eq
  rw [bs_add]
  have e : bs ((((ByteArray.mk (Lib.decDigits k).toArray) ++ ⟨#[32]⟩) ++ c ++ ⟨#[62]⟩) ++ r) = Tx.body k (recE c r) := by
    rw [bs_add, bs_add, bs_add, bs_add]
    show Lib.decDigits k ++ [32] ++ bs c ++ [62] ++ bs r = Lib.decDigits k ++ 32 :: (bs c ++ 62 :: bs r)
    simp
  rw [e]
  rfl

set_option maxHeartbeats 400000 in
theorem encode_no (k : Int) (c r : ByteArray) (w : World) (hc : c.size ≤ 4000000000) (hr : r.size ≤ 4000000000) (h : (inB k 0 59 && Tx.okE (recE c r)) = false) :
    Calls Tryd.prog 17 #[.int .i64 k, recV c r] w fun e w' => e = .returned (.tuple #[.string ⟨#[]⟩, .bool false]) ∧ Below w.heap.size w w' := by
  have HB : Hid (Below w.heap.size w (w.alloc (.cells #[.string c, .string r] 27))) := (Below.refl _ _).alloc (Nat.le_refl _) _
  have H0 := Lib.hid (fun w => in_any k 0 59 w)
  have H1 := Lib.hid (fun w => isValidRecord_any c r w hc hr)
  unfold recV at *
  cases h0 : inB k 0 59
  case' true =>
    rw [h0] at H0 h
    rw [Bool.true_and] at h
    rw [h] at H1
    clear h h0
    go_enter Tryd.func17, Tryd.ntmps17
    go_wp2_with (go_at_call 51; refine (H0.out _).mono ?_; rintro e w' ⟨rfl, rfl⟩)
    refine (H1.out _).mono ?_
    rintro e w1 ⟨rfl, hb1⟩
    have HB1 := Lib.hid (HB.out.trans (hb1.mono HB.out.size)); clear hb1
    go_wp2
    go_ret2
    exact ⟨rfl, HB1.out⟩
  rw [h0] at H0
  clear h h0
  go_enter Tryd.func17, Tryd.ntmps17
  go_wp2_with (go_at_call 51; refine (H0.out _).mono ?_; rintro e w' ⟨rfl, rfl⟩)
  go_ret2
  exact ⟨rfl, HB.out⟩

set_option maxRecDepth 100000 in
set_option maxHeartbeats 1600000 in
theorem encode_yes (k : Nat) (c r : ByteArray) (w : World) (hk : k < 60) (ho : Tx.okE (recE c r) = true) (ht : Tab w) :
    Calls Tryd.prog 17 #[.int .i64 k, recV c r] w fun e w' => e = .returned (.tuple #[.string (encB k c r), .bool true]) ∧ Below w.heap.size w w' := by
  obtain ⟨⟨_, c90, _⟩, r200, _⟩ := Tx.okE_parts ho
  have hc : c.size ≤ 90 := by rw [← bs_len]; exact c90
  have hr : r.size ≤ 200 := by rw [← bs_len]; exact r200
  clear c90 r200
  have HB : Hid (Below w.heap.size w (w.alloc (.cells #[.string c, .string r] 27))) := (Below.refl _ _).alloc (Nat.le_refl _) _
  have h0 : inB (k : Int) 0 59 = true := by simp [inB]; omega
  have H0 := Lib.hid (fun w => in_any (k : Int) 0 59 w)
  have H1 := Lib.hid (fun w => isValidRecord_any c r w (by omega) (by omega))
  rw [h0] at H0
  rw [ho] at H1
  have hkd := Tx.digits_len 1 k (by omega)
  have hks : (ByteArray.mk (Lib.decDigits k).toArray).size ≤ 2 := by rw [size_mk]; exact hkd
  have h35 : (35 : UInt8) ∉ bs ((((ByteArray.mk (Lib.decDigits k).toArray) ++ ⟨#[32]⟩) ++ c ++ ⟨#[62]⟩) ++ r) := by
    have e : bs ((((ByteArray.mk (Lib.decDigits k).toArray) ++ ⟨#[32]⟩) ++ c ++ ⟨#[62]⟩) ++ r) = Tx.body k (recE c r) := by
      rw [bs_add, bs_add, bs_add, bs_add]
      show Lib.decDigits k ++ [32] ++ bs c ++ [62] ++ bs r = Lib.decDigits k ++ 32 :: (bs c ++ 62 :: bs r)
      simp
    rw [e]; exact Tx.body_no35 ho
  have z1 : (ByteArray.mk #[32]).size = 1 := rfl
  have z2 : (ByteArray.mk #[62]).size = 1 := rfl
  have z3 : (ByteArray.mk #[10]).size = 1 := rfl
  have hsz : ((((ByteArray.mk (Lib.decDigits k).toArray) ++ ⟨#[32]⟩) ++ c ++ ⟨#[62]⟩) ++ r).size ≤ 3000 := by rw [size_add, size_add, size_add, size_add]; omega
  have a1 := add_runs (P := Tryd.prog) (a := ⟨(Lib.decDigits k).toArray⟩) (b := ⟨#[32]⟩) (by omega) (by decide)
  have a2 := add_runs (P := Tryd.prog) (a := ⟨(Lib.decDigits k).toArray⟩ ++ ⟨#[32]⟩) (b := c) (by rw [size_add]; omega) (by omega)
  have a3 := add_runs (P := Tryd.prog) (a := ⟨(Lib.decDigits k).toArray⟩ ++ ⟨#[32]⟩ ++ c) (b := ⟨#[62]⟩) (by rw [size_add, size_add]; omega) (by decide)
  have a4 := add_runs (P := Tryd.prog) (a := ⟨(Lib.decDigits k).toArray⟩ ++ ⟨#[32]⟩ ++ c ++ ⟨#[62]⟩) (b := r) (by rw [size_add, size_add, size_add]; omega) (by omega)
  have a5 := add_runs (P := Tryd.prog) (a := ⟨(Tx.sealL (bs ((((ByteArray.mk (Lib.decDigits k).toArray) ++ ⟨#[32]⟩) ++ c ++ ⟨#[62]⟩) ++ r))).toArray⟩) (b := ⟨#[10]⟩) (by
    rw [size_mk]
    have := Tx.digits_len 5 (Tx.sumL (bs ((((ByteArray.mk (Lib.decDigits k).toArray) ++ ⟨#[32]⟩) ++ c ++ ⟨#[62]⟩) ++ r))) (Nat.lt_trans (Tx.sumL_lt _) (by omega))
    have e := bs_len ((((ByteArray.mk (Lib.decDigits k).toArray) ++ ⟨#[32]⟩) ++ c ++ ⟨#[62]⟩) ++ r)
    unfold Tx.sealL
    simp only [List.length_append, List.length_cons]
    omega) (by decide)
  have HA := Lib.hid (fun w (h : Tab w) => appendChecksum_ok _ w hsz h35 h)
  have HI := Lib.hid (fun w (h : Tab w) => by simpa using itoa_any (k : Int) w (by omega) (by omega) h)
  have HE := Lib.hid (enc_eq (k := k) (c := c) (r := r))
  have hc0 : (w.alloc (.cells #[.string c, .string r] 27)).cell? ⟨w.heap.size, 0, none⟩ = some (.string c) := alloc_cell 0
  have hc1 : (w.alloc (.cells #[.string c, .string r] 27)).cell? ⟨w.heap.size, 1, none⟩ = some (.string r) := alloc_cell 1
  have HC0 := Lib.hid hc0; have HC1 := Lib.hid hc1; clear hc0 hc1
  have HT := Lib.hid (Tab.below ht HB.out)
  clear ht h0 ho h35 hkd z1 z2 z3 hsz
  unfold recV at *
  go_enter Tryd.func17, Tryd.ntmps17
  go_wp2_with (go_at_call 51; refine (H0.out _).mono ?_; rintro e w' ⟨rfl, rfl⟩)
  refine (H1.out _).mono ?_
  rintro e w1 ⟨rfl, hb1⟩
  have g0 : w1.cell? ⟨w.heap.size, 0, none⟩ = some (.string c) := (bcell hb1 (by simp)).trans HC0.out
  have g1 : w1.cell? ⟨w.heap.size, 1, none⟩ = some (.string r) := (bcell hb1 (by simp)).trans HC1.out
  have gk : Kp w w.heap.size w1 := ⟨HB.out.trans (hb1.mono HB.out.size), by have := hb1.size; simp at this; omega, HT.out.below hb1⟩
  clear hb1
  go_wp2_with fail
  have hS0 := keep_drew g0 g1 gk
  go_region_held3 (fun w' => w'.cell? ⟨w.heap.size, 0, none⟩ = some (.string c) ∧ w'.cell? ⟨w.heap.size, 1, none⟩ = some (.string r) ∧ Kp w w.heap.size w') (go_keep)
    (first | ((try go_split_ands); go_at_call 53; refine (HI.out _ ?_).mono ?_; (exact Kp.tab (w0 := w) (B := w.heap.size) (by assumption)); rintro e w' ⟨rfl, hb⟩; have hS := keep_next (c := .string c) (r := .string r) (by assumption) (by assumption) (by assumption) hb) | ((try go_split_ands); go_at_call 52; refine (HA.out _ ?_).mono ?_; (exact Kp.tab (w0 := w) (B := w.heap.size) (by assumption)); rintro e w' ⟨rfl, hb⟩; have hS := keep_next (c := .string c) (r := .string r) (by assumption) (by assumption) (by assumption) hb))
  go_wp2
  go_ret2
  rename_i hk1
  exact ⟨ret_v2 (by show Value.string _ = _; rw [HE.out]) rfl, hk1.2.2.bel⟩

set_option maxRecDepth 100000 in
set_option maxHeartbeats 1600000 in
theorem l25Line_any (k : Int) (c r : ByteArray) (w : World) (hk0 : 0 ≤ k) (hk : k ≤ 1000000) (hc : c.size ≤ 1000000) (hr : r.size ≤ 1000000) :
    Calls Tryd.prog 50 #[.int .i64 k, recV c r] w fun e w' => e = .returned (.string (encB k.toNat c r)) ∧ Below w.heap.size w w' := by
  have HB : Hid (Below w.heap.size w (w.alloc (.cells #[.string c, .string r] 27))) := (Below.refl _ _).alloc (Nat.le_refl _) _
  have hkd := Tx.digits_len 6 k.toNat (by omega)
  have hks : (ByteArray.mk (Lib.decDigits k.toNat).toArray).size ≤ 7 := by rw [size_mk]; exact hkd
  have z1 : (ByteArray.mk #[32]).size = 1 := rfl
  have z2 : (ByteArray.mk #[62]).size = 1 := rfl
  have hsz : ((((ByteArray.mk (Lib.decDigits k.toNat).toArray) ++ ⟨#[32]⟩) ++ c ++ ⟨#[62]⟩) ++ r).size ≤ 3000000 := by rw [size_add, size_add, size_add, size_add]; omega
  have a1 := add_runs (P := Tryd.prog) (a := ⟨(Lib.decDigits k.toNat).toArray⟩) (b := ⟨#[32]⟩) (by omega) (by decide)
  have a2 := add_runs (P := Tryd.prog) (a := ⟨(Lib.decDigits k.toNat).toArray⟩ ++ ⟨#[32]⟩) (b := c) (by rw [size_add]; omega) (by omega)
  have a3 := add_runs (P := Tryd.prog) (a := ⟨(Lib.decDigits k.toNat).toArray⟩ ++ ⟨#[32]⟩ ++ c) (b := ⟨#[62]⟩) (by rw [size_add, size_add]; omega) (by decide)
  have a4 := add_runs (P := Tryd.prog) (a := ⟨(Lib.decDigits k.toNat).toArray⟩ ++ ⟨#[32]⟩ ++ c ++ ⟨#[62]⟩) (b := r) (by rw [size_add, size_add, size_add]; omega) (by omega)
  have a5 := add_runs (P := Tryd.prog) (a := ⟨(Tx.sealL (bs ((((ByteArray.mk (Lib.decDigits k.toNat).toArray) ++ ⟨#[32]⟩) ++ c ++ ⟨#[62]⟩) ++ r))).toArray⟩) (b := ⟨#[10]⟩) (by
    rw [size_mk]
    have := Tx.digits_len 5 (Tx.sumL (bs ((((ByteArray.mk (Lib.decDigits k.toNat).toArray) ++ ⟨#[32]⟩) ++ c ++ ⟨#[62]⟩) ++ r))) (Nat.lt_trans (Tx.sumL_lt _) (by omega))
    have e := bs_len ((((ByteArray.mk (Lib.decDigits k.toNat).toArray) ++ ⟨#[32]⟩) ++ c ++ ⟨#[62]⟩) ++ r)
    unfold Tx.sealL
    simp only [List.length_append, List.length_cons]
    omega) (by decide)
  have HA := Lib.hid (fun w => l1Seal_any _ w (by omega : ((((ByteArray.mk (Lib.decDigits k.toNat).toArray) ++ ⟨#[32]⟩) ++ c ++ ⟨#[62]⟩) ++ r).size ≤ 1000000000000000000))
  have HI := Lib.hid (fun w => l1Num_any 1000000 k w (by omega) hk0 (by omega))
  have HE := Lib.hid (enc_eq (k := k.toNat) (c := c) (r := r))
  have hc0 : (w.alloc (.cells #[.string c, .string r] 27)).cell? ⟨w.heap.size, 0, none⟩ = some (.string c) := alloc_cell 0
  have hc1 : (w.alloc (.cells #[.string c, .string r] 27)).cell? ⟨w.heap.size, 1, none⟩ = some (.string r) := alloc_cell 1
  clear hkd z1 z2 hsz
  unfold recV at *
  go_enter Tryd.func50, Tryd.ntmps50
  go_wp2_with fail
  go_quiet ((first | (go_at_call 78; exact Calls.quiet_of (HI.out _)) | (go_at_call 77; exact Calls.quiet_of (HA.out _))))
  go_wp2
  go_ret
  exact ⟨ret_str HE.out, below_drewN HB.out _⟩

set_option maxHeartbeats 400000 in
theorem sEncode_no (k : Int) (c r : ByteArray) (w : World) (hc : c.size ≤ 4000000000) (hr : r.size ≤ 4000000000) (h : (inB k 0 59 && Tx.okE (recE c r)) = false) :
    Calls Tryd.prog 15 #[.int .i64 k, recV c r] w fun e w' => e = .returned (.tuple #[.string ⟨#[]⟩, .bool false]) ∧ Below w.heap.size w w' := by
  have HB : Hid (Below w.heap.size w (w.alloc (.cells #[.string c, .string r] 27))) := (Below.refl _ _).alloc (Nat.le_refl _) _
  have H0 := Lib.hid (fun w => l1In_any k 0 59 w)
  have H1 := Lib.hid (fun w => l25Good_any c r w (by omega) (by omega))
  unfold recV at *
  cases h0 : inB k 0 59
  case' true =>
    rw [h0] at H0 h
    rw [Bool.true_and] at h
    rw [h] at H1
    clear h h0
    go_enter Tryd.func15, Tryd.ntmps15
    go_wp2_with (go_at_call 48; refine (H0.out _).mono ?_; rintro e w' ⟨rfl, rfl⟩)
    refine (H1.out _).mono ?_
    rintro e w1 ⟨rfl, hb1⟩
    have HB1 := Lib.hid (HB.out.trans (hb1.mono HB.out.size)); clear hb1
    go_wp2
    go_ret2
    exact ⟨rfl, HB1.out⟩
  rw [h0] at H0
  clear h h0
  go_enter Tryd.func15, Tryd.ntmps15
  go_wp2_with (go_at_call 48; refine (H0.out _).mono ?_; rintro e w' ⟨rfl, rfl⟩)
  go_ret2
  exact ⟨rfl, HB.out⟩

set_option maxHeartbeats 1600000 in
theorem sEncode_yes (k : Nat) (c r : ByteArray) (w : World) (hk : k < 60) (ho : Tx.okE (recE c r) = true) :
    Calls Tryd.prog 15 #[.int .i64 k, recV c r] w fun e w' => e = .returned (.tuple #[.string (encB k c r), .bool true]) ∧ Below w.heap.size w w' := by
  obtain ⟨⟨_, c90, _⟩, r200, _⟩ := Tx.okE_parts ho
  have hc : c.size ≤ 90 := by rw [← bs_len]; exact c90
  have hr : r.size ≤ 200 := by rw [← bs_len]; exact r200
  clear c90 r200
  have HB : Hid (Below w.heap.size w (w.alloc (.cells #[.string c, .string r] 27))) := (Below.refl _ _).alloc (Nat.le_refl _) _
  have h0 : inB (k : Int) 0 59 = true := by simp [inB]; omega
  have H0 := Lib.hid (fun w => l1In_any (k : Int) 0 59 w)
  have H1 := Lib.hid (fun w => l25Good_any c r w (by omega) (by omega))
  rw [h0] at H0
  rw [ho] at H1
  have hl := fun w => l25Line_any (k : Int) c r w (by omega) (by omega) (by omega) (by omega)
  rw [Int.toNat_natCast] at hl
  have HL := Lib.hid hl; clear hl
  have hc0 : (w.alloc (.cells #[.string c, .string r] 27)).cell? ⟨w.heap.size, 0, none⟩ = some (.string c) := alloc_cell 0
  have hc1 : (w.alloc (.cells #[.string c, .string r] 27)).cell? ⟨w.heap.size, 1, none⟩ = some (.string r) := alloc_cell 1
  have HC0 := Lib.hid hc0; have HC1 := Lib.hid hc1; clear hc0 hc1
  clear h0 ho
  unfold recV at *
  go_enter Tryd.func15, Tryd.ntmps15
  go_wp2_with (go_at_call 48; refine (H0.out _).mono ?_; rintro e w' ⟨rfl, rfl⟩)
  refine (H1.out _).mono ?_
  rintro e w1 ⟨rfl, hb1⟩
  have g0 : w1.cell? ⟨w.heap.size, 0, none⟩ = some (.string c) := (bcell hb1 (by simp)).trans HC0.out
  have g1 : w1.cell? ⟨w.heap.size, 1, none⟩ = some (.string r) := (bcell hb1 (by simp)).trans HC1.out
  have HB1 := Lib.hid (HB.out.trans (hb1.mono HB.out.size)); clear hb1
  go_wp2_with fail
  refine (HL.out _).mono ?_
  rintro e w2 ⟨rfl, hb2⟩
  have HB2 := Lib.hid (HB1.out.trans (hb2.mono HB1.out.size)); clear hb2
  go_wp2
  go_ret2
  exact ⟨rfl, HB2.out⟩

end Go.Proofs.YtfdhicojnbicgaaDoor
