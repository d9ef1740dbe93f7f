/- Several texts in one: lemmas and walks of the functions that the laws reach. -/
import Derived.Test.YthakkkljlpimlaaY1
import Derived.Test.YthakkkljlpimlaaY6
import Derived.Test.YthakkkljlpimlaaY4
import Derived.Test.YthakkkljlpimlaaY2
import Derived.Deep.RegionHeld3

/- Walks: the check 'all' on records; keys; the first descent. -/
namespace Go.Proofs.Ythakkkljlpimlaa
open Go.RowKit
set_option linter.unusedVariables false

set_option maxHeartbeats 400000 in
theorem isRecord_any (k t : Int) (w : World) :
    Calls Try.prog 28 #[.agg #[.int .i64 k, .int .i64 t]] w fun e w' => e = .returned (.bool (okRec (k, t))) ∧ Below w.heap.size w w' := by
  have HK := Lib.hid (fun w1 => isKey_any k w1)
  have HN := Lib.hid (fun w1 => in_any t 0 999 w1)
  have HE : okRec (k, t) = (okKey k && inB t 0 999) := rfl
  rw [HE]
  have HB : Hid (Below w.heap.size w (w.alloc (.cells #[.int .i64 k, .int .i64 t] 42))) := (Below.refl _ _).alloc (Nat.le_refl _) _
  clear HE
  cases h1 : okKey k
  all_goals
    rw [h1] at HK
    clear h1
    go_enter Try.func28, Try.ntmps28
    go_wp2_with (first | (go_at_call 39; refine (HK.out _).mono ?_; rintro e w' ⟨rfl, rfl⟩) | (go_at_call 40; refine (HN.out _).mono ?_; rintro e w' ⟨rfl, rfl⟩))
    go_ret
    exact ⟨rfl, HB.out⟩

/-- A function value that answers a predicate on records; it may make memory of its own. -/
def IsPredR (w : World) (hv : Value) (p : Int × Int → Bool) : Prop :=
  ∃ G cp, hv = .func (.func G) #[] cp ∧ (∀ args w, (callFunc G args).run Try.prog w = .ok (.enter G args) w) ∧ ∀ w1, Below w.heap.size w w1 → ∀ x : Int × Int, Calls Try.prog G (#[.agg #[.int .i64 x.1, .int .i64 x.2]] ++ cp) w1 fun e w' => e = .returned (.bool (p x)) ∧ Below w1.heap.size w1 w'

theorem isRecord_pred (w : World) : IsPredR w (.func (.func 28) #[] #[]) okRec :=
  ⟨_, _, rfl, fun _ _ => by kernel_rfl, fun w1 _ x => by simpa using isRecord_any x.1 x.2 w1⟩

set_option maxHeartbeats 400000 in
theorem allcR_any (pc : Nat) (hv : Value) (p : Int × Int → Bool) (w0 w : World) (hp : IsPredR w0 hv p) (hb : Below w0.heap.size w0 w) (hc : w.cell? ⟨pc, 0, none⟩ = some hv) (x : Int × Int) :
    Calls Try.prog 38 #[.agg #[.int .i64 x.1, .int .i64 x.2], .pointer (some ⟨pc, 0, none⟩)] w fun e w' => e = .returned (.bool (!p x)) ∧ Below w.heap.size w w' := by
  obtain ⟨G, cp, rfl, hcall, hp⟩ := hp
  have hsz := World.block_lt_of_cell? w _ hc
  have hb2 : Below w.heap.size w (w.alloc (.cells #[.int .i64 x.1, .int .i64 x.2] 42)) := (Below.refl _ _).alloc (Nat.le_refl _) _
  have HP := Lib.hid (hp _ (hb.trans (hb2.mono hb.size)) x)
  have HB := Lib.hid hb2
  clear hp hb hb2
  obtain ⟨k, t⟩ := x
  have hcall := hcall (#[.agg #[.int .i64 k, .int .i64 t]] ++ cp)
  go_enter Try.func38, Try.ntmps38
  go_wp2_with fail
  refine HP.out.mono ?_
  rintro e w' ⟨rfl, hb3⟩
  have HB3 := Lib.hid (HB.out.trans (hb3.mono HB.out.size))
  clear hb3
  go_wp2
  go_ret
  exact ⟨rfl, HB3.out⟩

set_option maxHeartbeats 400000 in
theorem indexFuncR_any (a : Option Addr) (cap : Nat) (zs : List (Int × Int)) (pc : Nat) (hv : Value) (p : Int × Int → Bool) (w0 w : World) (hbig : zs.length ≤ 9223372036854775807) (h : RecsAt w a zs)
    (hp : IsPredR w0 hv p) (hb : Below w0.heap.size w0 w) (hc : w.cell? ⟨pc, 0, none⟩ = some hv) :
    Calls Try.prog 46 #[.slice a zs.length cap, .func (.func 38) #[] #[.pointer (some ⟨pc, 0, none⟩)]] w
      fun e w' => (∃ n : Int, e = .returned (.int .i64 n) ∧ decide (0 ≤ n) = zs.any (fun x => !p x)) ∧ Below w.heap.size w w' := by
  have hsz := World.block_lt_of_cell? w _ hc
  have H := Lib.hid h; clear h
  have HC := Lib.hid hc; clear hc
  have HP := Lib.hid hp; clear hp
  have HB := Lib.hid hb; clear hb
  have HZ := Lib.hid hsz; clear hsz
  go_enter Try.func46, Try.ntmps46
  go_wp2
  go_loopw [8] (fun i wr => ∃ k : Nat, k ≤ zs.length ∧ i = .int .i64 k ∧ (∀ j, j < k → p (zs.getD j (0, 0)) = true) ∧ Below w.heap.size w wr) (fun i _ => zs.length - (intOf i).toNat)
  case atStart => exact ⟨0, by omega, rfl, by intro j h; omega, Below.refl _ _⟩
  case round =>
    obtain ⟨k, hk, rfl, hall, hbr⟩ := hrel
    have Hall := Lib.hid hall; clear hall
    by_cases h1 : k < zs.length
    · obtain ⟨b, off, rfl, hc1, hc2⟩ := (H.out.below (Nat.le_refl _) hbr).at h1
      have hcw : wr.cell? ⟨pc, 0, none⟩ = some hv := (hbr.cell (p := ⟨pc, 0, none⟩) HZ.out).trans HC.out
      have HQ := Lib.hid (allcR_any pc hv p w0 wr HP.out (HB.out.trans (hbr.mono HB.out.size)) hcw (zs.getD k (0, 0)))
      generalize hx : zs.getD k (0, 0) = x at hc1 hc2 HQ
      have Hx := Lib.hid hx; clear hx hcw
      have HBR := Lib.hid hbr; clear hbr
      obtain ⟨x1, x2⟩ := x
      go_wp2_with fail
      refine HQ.out.mono ?_
      rintro e w2 ⟨rfl, hb2⟩
      have HB2 := Lib.hid (HBR.out.trans (hb2.mono HBR.out.size)); clear hb2
      cases hq : p (x1, x2)
      · have HV := Lib.hid hq; clear hq
        go_wp2
        go_ret
        refine ⟨⟨_, rfl, ?_⟩, HB2.out⟩
        rw [List.any_eq_true.2 ⟨zs[k], List.getElem_mem h1, by
          have : zs[k] = (x1, x2) := by rw [← Hx.out]; simp [List.getD, h1]
          rw [this, HV.out]; rfl⟩]
        simp
      · have HV := Lib.hid hq; clear hq
        go_wp2
        go_roundw
        case rel =>
          refine ⟨k + 1, by omega, by go_num, fun j hj => ?_, HB2.out⟩
          rcases Nat.lt_succ_iff_lt_or_eq.1 hj with h | rfl
          · exact Hall.out j h
          · rw [Hx.out]; exact HV.out
        case measure => simp [intOf]; omega
    · have HBR := Lib.hid hbr; clear hbr
      go_wp2
      go_ret
      refine ⟨⟨_, rfl, ?_⟩, HBR.out⟩
      rw [List.any_eq_false.2 (fun x hx => by
        obtain ⟨j, hj, rfl⟩ := List.getElem_of_mem hx
        have := Hall.out j (by omega)
        simp only [List.getD, List.getElem?_eq_getElem hj, Option.getD_some] at this
        simp [this])]
      rfl

set_option maxHeartbeats 400000 in
theorem containsFuncR_any (a : Option Addr) (cap : Nat) (zs : List (Int × Int)) (pc : Nat) (hv : Value) (p : Int × Int → Bool) (w0 w : World) (hbig : zs.length ≤ 9223372036854775807) (h : RecsAt w a zs)
    (hp : IsPredR w0 hv p) (hb : Below w0.heap.size w0 w) (hc : w.cell? ⟨pc, 0, none⟩ = some hv) :
    Calls Try.prog 37 #[.slice a zs.length cap, .func (.func 38) #[] #[.pointer (some ⟨pc, 0, none⟩)]] w
      fun e w' => e = .returned (.bool (zs.any (fun x => !p x))) ∧ Below w.heap.size w w' := by
  have HI := Lib.hid (indexFuncR_any a cap zs pc hv p w0 w hbig h hp hb hc)
  clear h hp hb hc
  go_enter Try.func37, Try.ntmps37
  go_wp2_with fail
  refine HI.out.mono ?_
  rintro e w2 ⟨⟨n, rfl, hn⟩, hb2⟩
  have HN := Lib.hid hn; clear hn
  have HB := Lib.hid hb2; clear hb2
  go_wp2
  go_ret
  exact ⟨ret_bool HN.out, HB.out⟩

set_option maxHeartbeats 400000 in
theorem allR_any (a : Option Addr) (cap : Nat) (zs : List (Int × Int)) (hv : Value) (p : Int × Int → Bool) (w : World) (hbig : zs.length ≤ 9223372036854775807) (h : RecsAt w a zs) (hp : IsPredR w hv p) :
    Calls Try.prog 27 #[.slice a zs.length cap, hv] w fun e w' => e = .returned (.bool (zs.all p)) ∧ Below w.heap.size w w' := by
  have hb : Below w.heap.size w (w.alloc (.cells #[hv] 60)) := (Below.refl _ _).alloc (Nat.le_refl _) _
  have hc : (w.alloc (.cells #[hv] 60)).cell? ⟨w.heap.size, 0, none⟩ = some hv := by rw [World.cell?_alloc_at _ _ _ _ rfl]; rfl
  have HI := Lib.hid (containsFuncR_any a cap zs w.heap.size hv p w _ hbig (h.below (Nat.le_refl _) hb) hp hb hc)
  have HB := Lib.hid hb
  have he : (!zs.any (fun x => !p x)) = zs.all p := by rw [List.not_any_eq_all_not]; simp
  have HE := Lib.hid he; clear he
  have hmf := hmf
  obtain ⟨G, cp, rfl, _⟩ := hp
  clear h hb hc
  go_enter Try.func27, Try.ntmps27
  go_wp2_with fail
  refine HI.out.mono ?_
  rintro e w2 ⟨rfl, hb2⟩
  have HB2 := Lib.hid (HB.out.trans (hb2.mono HB.out.size)); clear hb2
  go_wp2
  go_ret
  exact ⟨ret_bool HE.out, HB2.out⟩

set_option maxHeartbeats 400000 in
theorem isValidRecords_any (a : Option Addr) (cap : Nat) (zs : List (Int × Int)) (w : World) (hbig : zs.length ≤ 9223372036854775807) (h : RecsAt w a zs) :
    Calls Try.prog 12 #[.slice a zs.length cap] w fun e w' => e = .returned (.bool (okRecs zs)) ∧ Below w.heap.size w w' := by
  have HI := Lib.hid (allR_any a cap zs _ okRec w hbig h (isRecord_pred w))
  clear h
  by_cases hl : zs.length ≤ 64
  all_goals
    go_enter Try.func12, Try.ntmps12
    go_wp2_with ((go_at_call 27; refine HI.out.mono ?_; rintro e w' ⟨rfl, hb⟩))
    go_ret
    exact ⟨ret_bool (by simp [okRecs, hl]), by first | exact hb | exact Below.refl _ _⟩

end Go.Proofs.Ythakkkljlpimlaa

/- Walks: the stable sort of records, of both packages; records held side by side; the draw. -/
namespace Go.Proofs.Ythakkkljlpimlaa
open Go.RowKit Go.Sort
set_option linter.unusedVariables false

/-- Records that can be read behind a slice. -/
structure Rd (w : World) (a : Option Addr) (n c : Nat) (rs : List (Int × Int)) : Prop where
  recs : RecsAt w a rs
  len : rs.length = n
  nil : NilOk a c
  cap : n ≤ c
theorem Rd.below {w w' : World} {B : Nat} {a : Option Addr} {n c : Nat} {rs : List (Int × Int)} (h : Rd w a n c rs) (hB : w.heap.size ≤ B) (hb : Below B w w') : Rd w' a n c rs :=
  ⟨h.recs.below hB hb, h.len, h.nil, h.cap⟩
theorem Rd.same {w w' : World} {a : Option Addr} {n c : Nat} {rs : List (Int × Int)} (h : Rd w a n c rs) (hb : Below w.heap.size w w') : Rd w' a n c rs := h.below (Nat.le_refl _) hb
theorem own_cap {w : World} {B : Nat} {e : TypeId} {size n c : Nat} {a : Option Addr} {xs : List Value} (h : w.ownsRow B e size (.slice a n c) n xs) : n ≤ c := by
  rcases h.2 with ⟨hv, hm⟩ | ⟨g, cap, cur, hv, _, _, hn, _⟩
  · omega
  · injection hv with _ _ h3; omega
theorem rd_own {w : World} {B : Nat} {e : TypeId} {n c : Nat} {a : Option Addr} {rs : List (Int × Int)} (h : w.ownsRow B e 2 (.slice a n c) n (flat encR rs)) : Rd w a n c rs :=
  ⟨recs_of_own h, by have := h.1; rw [flat_length encR_len] at this; omega, nilOk_own h, own_cap h⟩
theorem rd_nil (w : World) : Rd w none 0 0 [] := ⟨.inl rfl, rfl, fun _ => rfl, Nat.le_refl _⟩
theorem rd_some (w : World) (x : Addr) (c : Nat) : Rd w (some x) 0 c [] := ⟨.inl rfl, rfl, nilOk_some _ _, Nat.zero_le _⟩

/-- A list and a Bool, given back. -/
def RdEnd (w : World) (out : List (Int × Int)) (ok : Bool) (e : Ending) (w' : World) : Prop :=
  ∃ (a : Option Addr) (n c : Nat), e = .returned (.tuple #[.slice a n c, .bool ok]) ∧ Rd w' a n c out ∧ Below w.heap.size w w'

theorem okRecs_le {rs : List (Int × Int)} (h : okRecs rs = true) : rs.length ≤ 64 := by
  unfold okRecs at h
  simp at h
  exact h.1
def stAns (rs : List (Int × Int)) : List (Int × Int) := if okRecs rs = true then srtR rs else []

set_option maxRecDepth 100000 in
set_option maxHeartbeats 2000000 in
theorem implStableSort_any (a : Option Addr) (n c : Nat) (rs : List (Int × Int)) (w : World) (hbig : n ≤ 9223372036854775807) (h : Rd w a n c rs) :
    Calls Try.prog 9 #[.slice a n c] w (RdEnd w (stAns rs) (okRecs rs)) := by
  obtain ⟨hr, rfl, hn, hc⟩ := h
  have HV := Lib.hid (isValidRecords_any a c rs w hbig hr)
  have HR := Lib.hid hr; have HN := Lib.hid hn
  clear hr hn
  unfold RdEnd stAns
  cases hok : okRecs rs
  · rw [hok] at HV
    go_enter Try.func9, Try.ntmps9
    go_wp2_with fail
    refine HV.out.mono ?_
    rintro e w1 ⟨rfl, hb⟩
    have HB := Lib.hid hb; clear hb
    go_wp2
    go_ret2
    exact ⟨none, 0, 0, rfl, rd_nil _, HB.out⟩
  · rw [hok] at HV
    have hl := okRecs_le hok
    go_enter Try.func9, Try.ntmps9
    go_wp2_with fail
    refine HV.out.mono ?_
    rintro e w1 ⟨rfl, hb⟩
    have HB := Lib.hid hb; clear hb
    go_wp2_with fail
    refine (stable_any a c rs w1 (by omega) (HR.out.below (Nat.le_refl _) HB.out) HN.out).mono ?_
    rintro e w2 ⟨g, c2, rfl, ho, hb⟩
    have HO := Lib.hid (rd_own ho)
    have HB2 := Lib.hid (HB.out.trans (hb.mono HB.out.size))
    clear ho hb
    go_wp2
    go_ret2
    exact ⟨_, _, _, rfl, HO.out, HB2.out⟩

theorem Rd.at {w : World} {a : Option Addr} {n c : Nat} {rs : List (Int × Int)} (h : Rd w a n c rs) {k : Nat} (hk : k < n) :
    ∃ b off, a = some ⟨b, off, none⟩ ∧ w.cell? ⟨b, off + k * 2, none⟩ = some (.int .i64 (rs.getD k (0, 0)).1) ∧ w.cell? ⟨b, off + k * 2 + 1, none⟩ = some (.int .i64 (rs.getD k (0, 0)).2) :=
  h.recs.at (by rw [h.len]; exact hk)

set_option maxRecDepth 100000 in
set_option maxHeartbeats 2000000 in
theorem vRecords_any (a b : Option Addr) (n m c d : Nat) (L R : List (Int × Int)) (w : World) (hn : n ≤ 9223372036854775807) (hm : m ≤ 9223372036854775807) (hL : Rd w a n c L) (hR : Rd w b m d R) :
    Calls Try.prog 8 #[.slice a n c, .slice b m d] w fun e w' => e = .returned (.bool (decide (L = R))) ∧ Below w.heap.size w w' := by
  have HL := Lib.hid hL; have HR := Lib.hid hR
  clear hL hR
  by_cases hnm : n = m
  case neg =>
    have q1 : ((n : Int) != (m : Int)) = true := by simp; omega
    have HE : Hid (decide (L = R) = false) := by
      show _ = _
      refine decide_eq_false fun h => hnm ?_
      rw [← HL.out.len, ← HR.out.len, h]
    go_enter Try.func8, Try.ntmps8
    go_wp2
    go_ret
    exact ⟨ret_bool HE.out.symm, Below.refl _ _⟩
  subst hnm
  have q1 : ((n : Int) != (n : Int)) = false := by simp
  go_enter Try.func8, Try.ntmps8
  go_wp2
  go_loopw [5] (fun v wr => ∃ k : Nat, v = .int .i64 k ∧ k ≤ n ∧ Hid (∀ j, j < k → L.getD j (0, 0) = R.getD j (0, 0)) ∧ Below w.heap.size w wr) (fun v _ => n - (intOf v).toNat)
  case atStart => exact ⟨0, rfl, by omega, Lib.hid (fun j h => by omega), Below.refl _ _⟩
  case round =>
    obtain ⟨k, rfl, hk, HALL, hb⟩ := hrel
    have HB := Lib.hid hb
    clear hb
    by_cases hlt : k < n
    case neg =>
      obtain rfl : k = n := by omega
      have HE : Hid (decide (L = R) = true) := by
        show _ = _
        refine decide_eq_true (List.ext_getElem (by rw [HL.out.len, HR.out.len]) fun j h1 h2 => ?_)
        have := HALL.out j (by rw [← HL.out.len]; exact h1)
        rwa [getD_get h1, getD_get h2] at this
      have h3 : decide ((k : Int) < (k : Int)) = false := by simp
      go_wp2
      go_ret
      exact ⟨ret_bool HE.out.symm, HB.out⟩
    obtain ⟨x, o, rfl, c1, c1'⟩ := (HL.out.same HB.out).at hlt
    obtain ⟨y, p, rfl, c2, c2'⟩ := (HR.out.same HB.out).at hlt
    obtain ⟨X, hX⟩ : ∃ X, L.getD k (0, 0) = X := ⟨_, rfl⟩
    obtain ⟨Y, hY⟩ : ∃ Y, R.getD k (0, 0) = Y := ⟨_, rfl⟩
    rw [hX] at c1 c1'
    rw [hY] at c2 c2'
    have HX := Lib.hid hX; have HY := Lib.hid hY
    clear hX hY
    obtain ⟨X1, X2⟩ := X
    obtain ⟨Y1, Y2⟩ := Y
    have h3 : decide ((k : Int) < (n : Int)) = true := decide_eq_true (by omega)
    by_cases hxy : X1 = Y1 ∧ X2 = Y2
    · obtain ⟨rfl, rfl⟩ := hxy
      go_wp2_with fail
      go_quiet (fail)
      go_wp2
      go_roundw
      case rel => exact ⟨k + 1, by go_num, by omega, Lib.hid (fun j hj => by
        rcases Nat.lt_or_ge j k with h | h
        · exact HALL.out j h
        · obtain rfl : j = k := by omega
          rw [HX.out, HY.out]), below_drewN HB.out _⟩
      case measure => simp [intOf] <;> omega
    · have HE : Hid (decide (L = R) = false) := by
        show _ = _
        refine decide_eq_false fun h => hxy ?_
        have := HX.out
        rw [h, HY.out] at this
        injection this with h1 h2
        exact ⟨h1.symm, h2.symm⟩
      by_cases q1 : X1 = Y1
      · subst q1
        have q2 : (X2 == Y2) = false := by simpa using hxy
        clear hxy
        go_wp2_with fail
        go_quiet (fail)
        go_wp2
        go_ret
        exact ⟨ret_bool HE.out.symm, below_drewN HB.out _⟩
      · have q2 : (X1 == Y1) = false := by simpa using q1
        clear hxy q1
        go_wp2_with fail
        go_quiet (fail)
        go_wp2
        go_ret
        exact ⟨ret_bool HE.out.symm, below_drewN HB.out _⟩

end Go.Proofs.Ythakkkljlpimlaa

/- General: records given back with a number and a Bool; drawn records; what is kept. -/
namespace Go.Proofs.Ythakkkljlpimlaa
open Go.RowKit Go.Sort
set_option linter.unusedVariables false

/-- A list, a number and a Bool, given back. -/
def Rd3 (w : World) (out : List (Int × Int)) (k : Int) (ok : Bool) (e : Ending) (w' : World) : Prop :=
  ∃ (a : Option Addr) (n c : Nat), e = .returned (.tuple #[.slice a n c, .int .i64 k, .bool ok]) ∧ Rd w' a n c out ∧ Below w.heap.size w w'

theorem stAns_le (rs : List (Int × Int)) : (stAns rs).length ≤ rs.length := by
  unfold stAns; split
  · rw [srtR_len]; omega
  · simp
/-- A drawn list of records. -/
def RdDraw (w : World) (e : Ending) (w' : World) : Prop :=
  ∃ (a : Option Addr) (n c : Nat) (rs : List (Int × Int)), e = .returned (.slice a n c) ∧ Rd w' a n c rs ∧ n ≤ 70 ∧ Below w.heap.size w w'
theorem drawIV_any (ac : Option Addr) (c : Nat) (cs : List Int) (w : World) (hl : cs.length ≤ 65537) (h : BytesAt w ac cs) :
    Calls Try.prog 11 #[.slice ac cs.length c] w (RdDraw w) :=
  (drawIsValidRecords_any ac c cs w hl h).mono fun e w' ⟨a', c', rs, h1, h2, h3, h4⟩ => ⟨a', rs.length, c', rs, h1, rd_own h2, h3, h4⟩

theorem below_tr {B : Nat} {w w1 w2 : World} (h : Below B w w1) (hb : Below w1.heap.size w1 w2) (hB : B ≤ w1.heap.size) : Below B w w2 := h.trans (hb.mono hB)

theorem rd_lo {w : World} {a : Option Addr} {n c h : Nat} {rs : List (Int × Int)} (hr : Rd w a n c rs) (hh : h ≤ n) : Rd w a h c (rs.take h) :=
  ⟨recs_take hr.recs h, by rw [List.length_take, hr.len]; omega, hr.nil, by have := hr.cap; omega⟩
theorem rd_hi {w : World} {b o n c h : Nat} {rs : List (Int × Int)} (hr : Rd w (some ⟨b, o, none⟩) n c rs) (hh : h ≤ n) : Rd w (some ⟨b, o + h * 2, none⟩) (n - h) (c - h) (rs.drop h) :=
  ⟨recs_drop hr.recs h, by rw [List.length_drop, hr.len], nilOk_some _ _, by have := hr.cap; omega⟩

theorem own_cur {w w' : World} {B bc : Nat} {e : TypeId} {size n : Nat} {v : Value} {xs : List Value} (h : w.ownsRow B e size v n xs) (hB : bc < B) (hg : w.grownBy w' (some bc)) : w'.ownsRow B e size v n xs :=
  own_other h hg (fun k hk e => by injection e with e; have := (h.lt k hk).1; omega)

end Go.Proofs.Ythakkkljlpimlaa

/- The stack of lists of the adaptive merge sort: its row of headers, and the cells that the closure holds. -/
namespace Go.Proofs.Ythakkkljlpimlaa
open Go.RowKit Go.Sort
set_option linter.unusedVariables false

theorem Rd.grownA {w w' : World} {row : Option Nat} {a : Option Addr} {n c : Nat} {L : List (Int × Int)} (h : Rd w a n c L) (hg : w.grownBy w' row) (hne : ∀ b off, a = some ⟨b, off, none⟩ → row ≠ some b) : Rd w' a n c L :=
  ⟨h.recs.grown hg hne, h.len, h.nil, h.cap⟩

/-- A list that can be read, in a block of X. -/
def LX (w : World) (X : Nat → Prop) (v : Value) (L : List (Int × Int)) : Prop :=
  ∃ (x : Option Addr) (c : Nat), v = .slice x L.length c ∧ Rd w x L.length c L ∧ ∀ b off, x = some ⟨b, off, none⟩ → X b ∧ b < w.heap.size
theorem LX.grown {w w' : World} {X : Nat → Prop} {row : Option Nat} {v : Value} {L : List (Int × Int)} (h : LX w X v L) (hg : w.grownBy w' row) (hr : ∀ b, row = some b → ¬ X b) : LX w' X v L := by
  obtain ⟨x, c, rfl, hr1, hx⟩ := h
  exact ⟨x, c, rfl, hr1.grownA hg (fun b off e e2 => hr b e2 (hx b off e).1), fun b off e => ⟨(hx b off e).1, Nat.lt_of_lt_of_le (hx b off e).2 hg.size⟩⟩
theorem LX.mono {w : World} {X Y : Nat → Prop} {v : Value} {L : List (Int × Int)} (h : LX w X v L) (hxy : ∀ b, X b → Y b) : LX w Y v L := by
  obtain ⟨x, c, rfl, hr1, hx⟩ := h
  exact ⟨x, c, rfl, hr1, fun b off e => ⟨hxy b (hx b off e).1, (hx b off e).2⟩⟩
theorem LX.keep {w w' : World} {X A : Nat → Prop} {v : Value} {L : List (Int × Int)} (h : LX w X v L) (hk : KeepA A w w') (hxa : ∀ b, X b → A b) : LX w' X v L := by
  obtain ⟨x, c, rfl, hr1, hx⟩ := h
  refine ⟨x, c, rfl, ⟨?_, hr1.len, hr1.nil, hr1.cap⟩, fun b off e => ⟨(hx b off e).1, Nat.lt_of_lt_of_le (hx b off e).2 hk.size⟩⟩
  rcases hr1.recs with h | ⟨b, off, h1, h0, h2⟩
  · exact .inl h
  · have hb := hk.block b h0 (hxa b (hx b off h1).1)
    exact .inr ⟨b, off, h1, Nat.lt_of_lt_of_le h0 hk.size, fun j hj => by
      rw [World.cell?_of_block (w := w) (w' := w') (a := ⟨b, off + j * 2, none⟩) hb, World.cell?_of_block (w := w) (w' := w') (a := ⟨b, off + j * 2 + 1, none⟩) hb]; exact h2 j hj⟩

/-- Lists, header by header. -/
def HX (w : World) (X : Nat → Prop) (hs : List Value) (ps : List (List (Int × Int))) : Prop :=
  hs.length = ps.length ∧ ∀ (j : Nat) (v : Value) (L : List (Int × Int)), hs[j]? = some v → ps[j]? = some L → LX w X v L
theorem HX.nil (w : World) (X : Nat → Prop) : HX w X [] [] := ⟨rfl, fun j v L h => by simp at h⟩
theorem HX.imp {w w' : World} {X Y : Nat → Prop} {hs : List Value} {ps : List (List (Int × Int))} (h : HX w X hs ps) (hi : ∀ v L, LX w X v L → LX w' Y v L) : HX w' Y hs ps := ⟨h.1, fun j v L h1 h2 => hi v L (h.2 j v L h1 h2)⟩
theorem HX.snoc {w : World} {X : Nat → Prop} {hs : List Value} {ps : List (List (Int × Int))} {v : Value} {L : List (Int × Int)} (h : HX w X hs ps) (hv : LX w X v L) : HX w X (hs ++ [v]) (ps ++ [L]) := by
  refine ⟨by rw [List.length_append, List.length_append, h.1]; rfl, fun j v' L' h1 h2 => ?_⟩
  by_cases hj : j < ps.length
  · rw [List.getElem?_append_left (by rw [h.1]; exact hj)] at h1
    rw [List.getElem?_append_left hj] at h2
    exact h.2 j v' L' h1 h2
  · rw [List.getElem?_append_right (by rw [h.1]; omega)] at h1
    rw [List.getElem?_append_right (by omega)] at h2
    rw [h.1] at h1
    obtain ⟨t, ht⟩ : ∃ t, j - ps.length = t := ⟨_, rfl⟩
    rw [ht] at h1 h2
    cases t with
    | zero =>
      simp only [List.getElem?_cons_zero, Option.some.injEq] at h1 h2
      subst h1; subst h2; exact hv
    | succ t => simp at h1
theorem HX.at {w : World} {X : Nat → Prop} {hs : List Value} {ps : List (List (Int × Int))} (h : HX w X hs ps) {k : Nat} (hk : k < ps.length) : ∃ v, hs[k]? = some v ∧ LX w X v (ps.getD k []) := by
  have h1 : hs[k]? = some (hs[k]'(by rw [h.1]; exact hk)) := List.getElem?_eq_getElem _
  have h2 : ps[k]? = some (ps.getD k []) := by rw [List.getD_eq_getElem?_getD, List.getElem?_eq_getElem hk]; rfl
  exact ⟨_, h1, h.2 k _ _ h1 h2⟩
/-- Two neighbours, joined. -/
theorem HX.join {w : World} {X : Nat → Prop} {hs : List Value} {ps : List (List (Int × Int))} {v : Value} {k : Nat} (h : HX w X hs ps) (hk : k + 1 < ps.length) (hv : LX w X v (Mg.mrg ltR (ps.getD k []) (ps.getD (k + 1) []))) :
    HX w X ((hs.set k v).take (k + 1) ++ (hs.set k v).drop (k + 2)) (Ad.jn ltR k ps) := by
  have hl := Ad.jn_length ltR hk
  refine ⟨by rw [List.length_append, List.length_take, List.length_drop, List.length_set, h.1]; omega, fun j v' L' h1 h2 => ?_⟩
  unfold Ad.jn at h2
  rw [List.take_add_one, List.take_set_of_le (by omega), List.getElem?_set_self (by rw [h.1]; omega), List.drop_set_of_lt (by omega)] at h1
  by_cases hj : j < k
  · rw [List.append_assoc, List.getElem?_append_left (by rw [List.length_take, h.1]; omega), List.getElem?_take, if_pos hj] at h1
    rw [List.getElem?_append_left (by rw [List.length_take]; omega), List.getElem?_take, if_pos hj] at h2
    exact h.2 j v' L' h1 h2
  · have e1 : (hs.take k).length = k := by rw [List.length_take, h.1]; omega
    have e2 : (ps.take k).length = k := by rw [List.length_take]; omega
    rw [List.append_assoc, List.getElem?_append_right (by omega), e1] at h1
    rw [List.getElem?_append_right (by omega), e2] at h2
    obtain ⟨t, ht⟩ : ∃ t, j - k = t := ⟨_, rfl⟩
    rw [ht] at h1 h2
    cases t with
    | zero =>
      simp only [Option.toList_some, List.cons_append, List.nil_append, List.getElem?_cons_zero, Option.some.injEq] at h1 h2
      subst h1; subst h2; exact hv
    | succ t =>
      simp only [Option.toList_some, List.cons_append, List.nil_append, List.getElem?_cons_succ, List.getElem?_drop] at h1 h2
      exact h.2 _ v' L' h1 h2
theorem HX.one {w : World} {X : Nat → Prop} {hs : List Value} {ps : List (List (Int × Int))} (h : HX w X hs ps) : ∀ v ∈ hs, v.oneCell' = true := fun v hv => by
  obtain ⟨j, hj, rfl⟩ := List.mem_iff_getElem.1 hv
  obtain ⟨v', h1, x, c, h2, _⟩ := h.at (k := j) (by rw [← h.1]; exact hj)
  rw [List.getElem?_eq_getElem hj] at h1
  injection h1 with h1
  rw [h1, h2]; rfl

/-- The cells that the closure holds, and the row of headers. -/
structure PUv (w : World) (X : Nat → Prop) (p cS cD cP cC g c : Nat) (hs : List Value) (ps : List (List (Int × Int))) (cnt d : Int) : Prop where
  hS : w.ownsRow 0 44 1 (.slice (some ⟨cS, 0, none⟩) 1 1) 1 [.pointer (some ⟨p, 0, none⟩)]
  hD : w.ownsRow 0 3 1 (.slice (some ⟨cD, 0, none⟩) 1 1) 1 [.int .i64 d]
  hC : w.ownsRow 0 3 1 (.slice (some ⟨cC, 0, none⟩) 1 1) 1 [.int .i64 cnt]
  hP : w.ownsRow 0 36 1 (.slice (some ⟨cP, 0, none⟩) 1 1) 1 [.slice (some ⟨g, 0, none⟩) ps.length c]
  hr : w.ownsRow 0 24 1 (.slice (some ⟨g, 0, none⟩) ps.length c) ps.length hs
  hl : HX w X hs ps
  dis : [cS, cD, cP, cC, g].Nodup
  hX : ∀ b, X b → b ≠ cS ∧ b ≠ cD ∧ b ≠ cP ∧ b ≠ cC ∧ b ≠ g

end Go.Proofs.Ythakkkljlpimlaa

/- Walks: the closure of the adaptive merge sort, which follows the merges of the run stack. -/
namespace Go.Proofs.Ythakkkljlpimlaa
open Go.RowKit Go.Sort
set_option linter.unusedVariables false

theorem nd5 {a b c d e : Nat} (h : [a, b, c, d, e].Nodup) : a ≠ b ∧ a ≠ c ∧ a ≠ d ∧ a ≠ e ∧ b ≠ c ∧ b ≠ d ∧ b ≠ e ∧ c ≠ d ∧ c ≠ e ∧ d ≠ e := by
  simp only [List.nodup_cons, List.mem_cons, List.not_mem_nil, or_false, not_or] at h
  omega

section
variable {w w' : World} {X : Nat → Prop} {p cS cD cP cC g c : Nat} {hs : List Value} {ps : List (List (Int × Int))} {cnt d : Int}
theorem PUv.other {row : Option Nat} (h : PUv w X p cS cD cP cC g c hs ps cnt d) (hg : w.grownBy w' row) (hr : ∀ b, row = some b → b ≠ cS ∧ b ≠ cD ∧ b ≠ cP ∧ b ≠ cC ∧ b ≠ g ∧ ¬ X b) : PUv w' X p cS cD cP cC g c hs ps cnt d :=
  ⟨h.hS.kept hg (.inr fun e => (hr cS e.symm).1 rfl), h.hD.kept hg (.inr fun e => (hr cD e.symm).2.1 rfl), h.hC.kept hg (.inr fun e => (hr cC e.symm).2.2.2.1 rfl), h.hP.kept hg (.inr fun e => (hr cP e.symm).2.2.1 rfl),
   h.hr.kept hg (.inr fun e => (hr g e.symm).2.2.2.2.1 rfl), h.hl.imp fun v L hv => hv.grown hg fun b e => (hr b e).2.2.2.2.2, h.dis, h.hX⟩
theorem PUv.setC (cnt' : Int) (h : PUv w X p cS cD cP cC g c hs ps cnt d) : PUv (w.setCell ⟨cC, 0, none⟩ (.int .i64 cnt')) X p cS cD cP cC g c hs ps cnt' d ∧ w.grownBy (w.setCell ⟨cC, 0, none⟩ (.int .i64 cnt')) (some cC) := by
  obtain ⟨a1, a2, a3, a4, a5, a6, a7, a8, a9, a10⟩ := nd5 h.dis
  have hst := h.hC.stored 0 (.int .i64 cnt')
  exact ⟨⟨h.hS.kept hst.2 (.inr fun e => a3 (by injection e)), h.hD.kept hst.2 (.inr fun e => a6 (by injection e)), hst.1, h.hP.kept hst.2 (.inr fun e => a8 (by injection e)), h.hr.kept hst.2 (.inr fun e => a10 (by injection e with e; exact e.symm)),
    h.hl.imp fun v L hv => hv.grown hst.2 fun b e hx => (h.hX b hx).2.2.2.1 (by injection e with e; exact e.symm), h.dis, h.hX⟩, hst.2⟩
theorem PUv.setD (d' : Int) (h : PUv w X p cS cD cP cC g c hs ps cnt d) : PUv (w.setCell ⟨cD, 0, none⟩ (.int .i64 d')) X p cS cD cP cC g c hs ps cnt d' ∧ w.grownBy (w.setCell ⟨cD, 0, none⟩ (.int .i64 d')) (some cD) := by
  obtain ⟨a1, a2, a3, a4, a5, a6, a7, a8, a9, a10⟩ := nd5 h.dis
  have hst := h.hD.stored 0 (.int .i64 d')
  exact ⟨⟨h.hS.kept hst.2 (.inr fun e => a1 (by injection e)), hst.1, h.hC.kept hst.2 (.inr fun e => a6 (by injection e with e; exact e.symm)), h.hP.kept hst.2 (.inr fun e => a5 (by injection e with e; exact e.symm)), h.hr.kept hst.2 (.inr fun e => a7 (by injection e with e; exact e.symm)),
    h.hl.imp fun v L hv => hv.grown hst.2 fun b e hx => (h.hX b hx).2.1 (by injection e with e; exact e.symm), h.dis, h.hX⟩, hst.2⟩
/-- A new row of headers (in the old block or a new one), and its header stored. -/
theorem PUv.setP {w1 : World} {g' n' c' : Nat} {hs' : List Value} {ps' : List (List (Int × Int))} (h : PUv w X p cS cD cP cC g c hs ps cnt d) (hg : w.grownBy w1 (some g)) (hn : n' = ps'.length) (ho : w1.ownsRow 0 24 1 (.slice (some ⟨g', 0, none⟩) n' c') n' hs')
    (hg' : g' = g ∨ w.heap.size ≤ g') (hl : HX w1 X hs' ps') (hX : ∀ b, X b → b ≠ g') :
    PUv (w1.setCell ⟨cP, 0, none⟩ (.slice (some ⟨g', 0, none⟩) n' c')) X p cS cD cP cC g' c' hs' ps' cnt d ∧ w1.grownBy (w1.setCell ⟨cP, 0, none⟩ (.slice (some ⟨g', 0, none⟩) n' c')) (some cP) := by
  subst hn
  obtain ⟨a1, a2, a3, a4, a5, a6, a7, a8, a9, a10⟩ := nd5 h.dis
  have l1 := (h.hS.lt cS rfl).2
  have l2 := (h.hD.lt cD rfl).2
  have l3 := (h.hP.lt cP rfl).2
  have l4 := (h.hC.lt cC rfl).2
  have k1 := h.hS.kept hg (.inr fun e => a4 (by injection e))
  have k2 := h.hD.kept hg (.inr fun e => a7 (by injection e))
  have k3 := h.hC.kept hg (.inr fun e => a10 (by injection e))
  have k4 := h.hP.kept hg (.inr fun e => a9 (by injection e))
  have hst := k4.stored 0 (.slice (some ⟨g', 0, none⟩) ps'.length c')
  have b1 : g' ≠ cP := by omega
  refine ⟨⟨k1.kept hst.2 (.inr fun e => a2 (by injection e)), k2.kept hst.2 (.inr fun e => a5 (by injection e)), k3.kept hst.2 (.inr fun e => a8 (by injection e with e; exact e.symm)), hst.1, ho.kept hst.2 (.inr fun e => b1 (by injection e)),
    hl.imp fun v L hv => hv.grown hst.2 fun b e hx => (h.hX b hx).2.2.1 (by injection e with e; exact e.symm), ?_, fun b hb => ?_⟩, hst.2⟩
  · simp only [List.nodup_cons, List.mem_cons, List.not_mem_nil, or_false, not_or, List.nodup_nil, and_true, not_false_eq_true]
    omega
  · have := h.hX b hb
    exact ⟨this.1, this.2.1, this.2.2.1, this.2.2.2.1, hX b hb⟩
theorem PUv.more {Y : Nat → Prop} (h : PUv w X p cS cD cP cC g c hs ps cnt d) (hxy : ∀ b, X b → Y b) (hY : ∀ b, Y b → b ≠ cS ∧ b ≠ cD ∧ b ≠ cP ∧ b ≠ cC ∧ b ≠ g) : PUv w Y p cS cD cP cC g c hs ps cnt d :=
  ⟨h.hS, h.hD, h.hC, h.hP, h.hr, h.hl.imp fun v L hv => hv.mono hxy, h.dis, hY⟩
end

/-- What the closure may turn. -/
def Am (A : Nat → Prop) (cD cP cC g : Nat) (k : Nat) : Prop := A k ∧ k ≠ cD ∧ k ≠ cP ∧ k ≠ cC ∧ k ≠ g
def totP (ps : List (List (Int × Int))) : Nat := (ps.map List.length).sum
theorem totP_two {ps : List (List (Int × Int))} {k : Nat} (hk : k + 1 < ps.length) : (ps.getD k []).length + (ps.getD (k + 1) []).length ≤ totP ps := by
  have h := congrArg totP (Ad.split2 [] hk)
  unfold totP at *
  simp only [List.map_append, List.map_cons, List.sum_append, List.sum_cons] at h
  omega
theorem totP_jn {ps : List (List (Int × Int))} {k : Nat} (hk : k + 1 < ps.length) : totP (Ad.jn ltR k ps) = totP ps := by
  have h := congrArg totP (Ad.split2 [] hk)
  unfold totP Ad.jn at *
  simp only [List.map_append, List.map_cons, List.sum_append, List.sum_cons, Mg.mrg_length] at h ⊢
  omega

/-- Behind the closure. -/
def FolEnd (w : World) (X : Nat → Prop) (A : Nat → Prop) (p cS cD cP cC g c : Nat) (vs vm : Value) (mo : Int) (s : List Int) (m : List Nat) (F : List (List (Int × Int)) × Nat) (cnt : Int) (e : Ending) (w' : World) : Prop :=
  e = .returned (.tuple #[]) ∧ (∃ hs', PUv w' (fun b => X b ∨ w.heap.size ≤ b) p cS cD cP cC g c hs' F.1 (cnt + (F.2 : Nat)) ((m.length : Nat) : Int)) ∧ RSv w' p A vs vm mo s m ∧ KeepA (Am A cD cP cC g) w w'

set_option maxRecDepth 100000 in
set_option maxHeartbeats 8000000 in
theorem follow_any (X A : Nat → Prop) (p cS cD cP cC g c dn : Nat) (vs vm : Value) (mo cnt : Int) (s : List Int) (m : List Nat) (hs : List Value) (ps : List (List (Int × Int))) (w : World)
    (hdn : dn ≤ m.length) (hml : m.length ≤ 100) (hpl : ps.length ≤ 100) (htp : totP ps ≤ 100) (hc0 : 0 ≤ cnt) (hc1 : cnt + 100 * (m.length - dn : Nat) ≤ 1000000) (hok : Ad.okI (m.drop dn) ps.length)
    (hAc : A cS ∧ A cD ∧ A cP ∧ A cC ∧ A g) (hP : PUv w X p cS cD cP cC g c hs ps cnt dn) (hR : RSv w p A vs vm mo s m) :
    Calls Try.prog 16 #[.pointer (some ⟨cS, 0, none⟩), .pointer (some ⟨cD, 0, none⟩), .pointer (some ⟨cP, 0, none⟩), .pointer (some ⟨cC, 0, none⟩)] w (FolEnd w X A p cS cD cP cC g c vs vm mo s m (Ad.fol ltR (m.drop dn) ps) cnt) := by
  have n5 := nd5 hP.dis
  have HN5 := Lib.hid n5
  have l1 := (hP.hS.lt cS rfl).2
  have l2 := (hP.hD.lt cD rfl).2
  have l3 := (hP.hP.lt cP rfl).2
  have l4 := (hP.hC.lt cC rfl).2
  have l5 := (hP.hr.lt g rfl).2
  have hPX : PUv w (fun b => X b ∨ w.heap.size ≤ b) p cS cD cP cC g c hs ps cnt dn := hP.more (fun b hb => .inl hb) (fun b hb => by
    rcases hb with h | h
    · exact hP.hX b h
    · omega)
  have HP := Lib.hid hPX
  have HR := Lib.hid hR
  have HAC := Lib.hid hAc
  have HOK := Lib.hid hok
  obtain ⟨F, hF⟩ : ∃ F, Ad.fol ltR (m.drop dn) ps = F := ⟨_, rfl⟩
  rw [hF]
  have HF := Lib.hid hF
  have k1 : w.cell? ⟨cS, 0, none⟩ = some (.pointer (some ⟨p, 0, none⟩)) := own_cellA hP.hS rfl
  have k2 := hR.cell.2.1
  have k3 : w.cell? ⟨cD, 0, none⟩ = some (.int .i64 dn) := own_cellA hP.hD rfl
  have hm := hR.hm
  have b0 : (0 : Int) ≤ (dn : Int) := by omega
  have b1 : (dn : Int) ≤ (m.length : Int) := by omega
  clear hP hPX hR hAc hok hF n5
  unfold FolEnd
  obtain ⟨N, hN⟩ : ∃ N, m.length = N := ⟨_, rfl⟩
  have HN := Lib.hid hN
  rw [hN] at hm b1 hdn hml hc1 ⊢
  obtain ⟨va, vc, rfl⟩ := own_slice hm
  have hcap := own_cap hm
  have HM := Lib.hid hm
  clear hN
  rcases hm.2 with ⟨hv1, hv2⟩ | ⟨gm, cap, cur, hv, _⟩
  · injection hv1 with hv1 hv3 hv4
    subst hv1
    subst hv4
    have hd0 : dn = 0 := by omega
    subst hd0
    subst hv2
    clear hm
    go_enter Try.func16, Try.ntmps16
    go_wp2_with fail
    go_quiet (fail)
    have HG0 := Lib.hid (show w.grownBy (w.drewN nq) none from grown_of_below (below_drewN (Below.refl w.heap.size w) nq))
    have HP0 := Lib.hid (HP.out.other HG0.out (fun b e => by cases e))
    have HR0 := Lib.hid (HR.out.other HG0.out (fun b e => by cases e))
    have HK0 := Lib.hid (keep_grown (A := Am A cD cP cC g) HG0.out (fun b e => by cases e))
    clear k1 k2 k3 HG0 HP HR
    generalize w.drewN nq = w0 at HP0 HR0 HK0 ⊢
    go_wp2
    go_loopw [15] (fun i wr => i = .int .i64 0 ∧ wr = w0) (fun i _ => 0)
    case atStart => exact ⟨rfl, rfl⟩
    case round =>
      obtain ⟨rfl, rfl⟩ := hrel
      have HPq := HP0
      have HRq := HR0
      have HKq := HK0
      clear HP0 HR0 HK0
      have j1 : wr.cell? ⟨cS, 0, none⟩ = some (.pointer (some ⟨p, 0, none⟩)) := own_cellA HPq.out.hS rfl
      have j2 := HRq.out.cell.2.1
      have j3 : wr.cell? ⟨cD, 0, none⟩ = some (.int .i64 0) := own_cellA HPq.out.hD rfl
      have j4 : wr.frozen? ⟨cD, 0, none⟩ = false := HPq.out.hD.frozenAt 0
      obtain ⟨P9, G9⟩ := HPq.out.setD (0 : Int)
      have HP9 := Lib.hid P9
      have HR9 := Lib.hid (HRq.out.other G9 (fun b e => by injection e with e; subst e; exact HAC.out.2.1))
      have HK9 := Lib.hid (HKq.out.trans (keep_grown G9 (fun b e hb => by injection e with e; exact hb.2.1 e.symm)))
      clear P9 G9
      go_wp2
      go_end0
      refine ⟨rfl, ⟨hs, ?_⟩, HR9.out, HK9.out⟩
      have e0 : F = (ps, 0) := by rw [← HF.out]; cases m with | nil => rfl | cons a t => cases HN.out
      rw [e0]; simpa using HP9.out
  · injection hv with hv hv2 hv3
    subst hv
    subst hv3
    have b2 : (N : Int) ≤ (vc : Int) := by omega
    have b3 : (dn : Int) ≤ (vc : Int) := by omega
    clear hm
    by_cases hcd : vc = dn
    · subst hcd
      go_enter Try.func16, Try.ntmps16
      go_wp2_with fail
      go_quiet (fail)
      have HG0 := Lib.hid (show w.grownBy (w.drewN nq) none from grown_of_below (below_drewN (Below.refl w.heap.size w) nq))
      have HP0 := Lib.hid (HP.out.other HG0.out (fun b e => by cases e))
      have HR0 := Lib.hid (HR.out.other HG0.out (fun b e => by cases e))
      have HK0 := Lib.hid (keep_grown (A := Am A cD cP cC g) HG0.out (fun b e => by cases e))
      clear k1 k2 k3 HG0 HP HR
      generalize w.drewN nq = w0 at HP0 HR0 HK0 ⊢
      go_wp2
      go_loopw [15] (fun i wr => i = .int .i64 0 ∧ wr = w0) (fun i _ => 0)
      case atStart => exact ⟨rfl, rfl⟩
      case round =>
        obtain ⟨rfl, rfl⟩ := hrel
        have HPq := HP0
        have HRq := HR0
        have HKq := HK0
        clear HP0 HR0 HK0
        have j1 : wr.cell? ⟨cS, 0, none⟩ = some (.pointer (some ⟨p, 0, none⟩)) := own_cellA HPq.out.hS rfl
        have j2 := HRq.out.cell.2.1
        have j3 : wr.cell? ⟨cD, 0, none⟩ = some (.int .i64 vc) := own_cellA HPq.out.hD rfl
        have j4 : wr.frozen? ⟨cD, 0, none⟩ = false := HPq.out.hD.frozenAt 0
        obtain ⟨P9, G9⟩ := HPq.out.setD (N : Int)
        have HP9 := Lib.hid P9
        have HR9 := Lib.hid (HRq.out.other G9 (fun b e => by injection e with e; subst e; exact HAC.out.2.1))
        have HK9 := Lib.hid (HKq.out.trans (keep_grown G9 (fun b e hb => by injection e with e; exact hb.2.1 e.symm)))
        clear P9 G9
        go_wp2
        go_end0
        refine ⟨rfl, ⟨hs, ?_⟩, HR9.out, HK9.out⟩
        have e0 : F = (ps, 0) := by rw [← HF.out, List.drop_eq_nil_of_le (by rw [HN.out]; omega)]; rfl
        rw [e0]; simpa using HP9.out
    · have hcd2 : ¬ (dn = vc) := fun e => hcd e.symm
      go_enter Try.func16, Try.ntmps16
      go_wp2_with fail
      go_quiet (fail)
      have HG0 := Lib.hid (show w.grownBy (w.drewN nq) none from grown_of_below (below_drewN (Below.refl w.heap.size w) nq))
      have HP0 := Lib.hid (HP.out.other HG0.out (fun b e => by cases e))
      have HR0 := Lib.hid (HR.out.other HG0.out (fun b e => by cases e))
      have HK0 := Lib.hid (keep_grown (A := Am A cD cP cC g) HG0.out (fun b e => by cases e))
      have HS0 : Hid (w.heap.size ≤ (w.drewN nq).heap.size) := HG0.out.size
      clear k1 k2 k3 HG0 HP HR
      generalize w.drewN nq = w0 at HP0 HR0 HK0 HS0 ⊢
      go_wp2
      go_loopw [15] (fun i wr => ∃ (q cq : Nat) (hsq : List Value) (psq : List (List (Int × Int))), i = .int .i64 q ∧ q ≤ N - dn ∧ cq ≤ 100 * q ∧ Hid (PUv wr (fun b => X b ∨ w.heap.size ≤ b) p cS cD cP cC g c hsq psq (cnt + cq) dn) ∧ Hid (RSv wr p A vs (.slice (some ⟨gm, 0, none⟩) N vc) mo s m) ∧ Hid (KeepA (Am A cD cP cC g) w wr) ∧ Hid (Ad.okI (m.drop (dn + q)) psq.length) ∧ psq.length ≤ 100 ∧ Hid (totP psq ≤ 100) ∧ Hid ((Ad.fol ltR (m.drop (dn + q)) psq).1 = F.1 ∧ cq + (Ad.fol ltR (m.drop (dn + q)) psq).2 = F.2)) (fun i _ => N - (intOf i).toNat)
      case atStart => exact ⟨0, 0, hs, ps, rfl, by omega, by omega, by simpa using HP0, HR0, HK0, by simpa using HOK, hpl, Lib.hid htp, Lib.hid (by rw [Nat.add_zero, HF.out]; exact ⟨rfl, Nat.zero_add _⟩)⟩
      case round =>
        obtain ⟨q, cq, hsq, psq, rfl, hq, hcq, HPq, HRq, HKq, HOKq, hplq, HTq, HFq⟩ := hrel
        clear HP0 HR0 HK0
        have bq : (0 : Int) ≤ (q : Int) := by omega
        by_cases hlt : q < N - dn
        case neg =>
          have hqe : q = N - dn := by omega
          have q1 : decide ((q : Int) < ((N - dn : Nat) : Int)) = false := decide_eq_false (by omega)
          have HE : Hid (m.drop (dn + q) = []) := List.drop_eq_nil_of_le (by rw [HN.out]; omega)
          have HFX : Hid (psq = F.1 ∧ cq = F.2) := by
            have := HFq.out
            rw [HE.out] at this
            exact this
          clear hqe HFq HOKq
          have j1 : wr.cell? ⟨cS, 0, none⟩ = some (.pointer (some ⟨p, 0, none⟩)) := own_cellA HPq.out.hS rfl
          have j2 := HRq.out.cell.2.1
          have j3 : wr.cell? ⟨cD, 0, none⟩ = some (.int .i64 dn) := own_cellA HPq.out.hD rfl
          have j4 : wr.frozen? ⟨cD, 0, none⟩ = false := HPq.out.hD.frozenAt 0
          obtain ⟨P9, G9⟩ := HPq.out.setD (N : Int)
          have HP9 := Lib.hid P9
          have HR9 := Lib.hid (HRq.out.other G9 (fun b e => by injection e with e; subst e; exact HAC.out.2.1))
          have HK9 := Lib.hid (HKq.out.trans (keep_grown G9 (fun b e hb => by injection e with e; exact hb.2.1 e.symm)))
          clear P9 G9
          go_wp2
          go_end0
          refine ⟨rfl, ⟨hsq, ?_⟩, HR9.out, HK9.out⟩
          have h9 := HP9.out
          rw [HFX.out.1, HFX.out.2] at h9
          exact h9
        case pos =>
          have q1 : decide ((q : Int) < ((N - dn : Nat) : Int)) = true := decide_eq_true (by omega)
          have q2 : (q : Int) < ((N - dn : Nat) : Int) := by omega
          obtain ⟨k, hk⟩ : ∃ k, m.getD (dn + q) 0 = k := ⟨_, rfl⟩
          have hmd : m.drop (dn + q) = k :: m.drop (dn + (q + 1)) := by
            rw [List.drop_eq_getElem_cons (by rw [HN.out]; omega), ← hk, List.getD_eq_getElem?_getD, List.getElem?_eq_getElem (by rw [HN.out]; omega)]; rfl
          have hmk : m[dn + q]? = some k := by rw [← hk, List.getD_eq_getElem?_getD, List.getElem?_eq_getElem (by rw [HN.out]; omega)]; rfl
          have e1 : wr.cell? ⟨gm, dn + q, none⟩ = some (.int .i64 k) := own_cellA (show wr.ownsRow 0 3 1 (.slice (some ⟨gm, 0, none⟩) N vc) N (natV m) from by have := HRq.out.hm; rw [HN.out] at this; exact this) (show (natV m)[dn + q]? = some (.int .i64 k) from by unfold natV; rw [List.getElem?_map, hmk]; rfl)
          have HMD := Lib.hid hmd
          have hokk := HOKq.out
          rw [hmd] at hokk
          obtain ⟨hk1, hok2⟩ := hokk
          have HOK2 := Lib.hid hok2
          have h2 := HFq.out
          rw [hmd] at h2
          have HF2 : Hid ((Ad.fol ltR (m.drop (dn + (q + 1))) (Ad.jn ltR k psq)).1 = F.1 ∧ (cq + Mg.mcnt ltR (psq.getD k []) (psq.getD (k + 1) [])) + (Ad.fol ltR (m.drop (dn + (q + 1))) (Ad.jn ltR k psq)).2 = F.2) := ⟨h2.1, by have := h2.2; show _ + (Ad.fol ltR _ _).2 = _; unfold Ad.fol at this; omega⟩
          have hl2 := totP_two hk1
          have htq := HTq.out
          obtain ⟨v1, hv1, x1, c1, rfl, hr1, hx1⟩ := HPq.out.hl.at (k := k) (by omega)
          obtain ⟨v2, hv2, x2, c2, rfl, hr2, hx2⟩ := HPq.out.hl.at (k := k + 1) hk1
          have HJT : Hid (totP (Ad.jn ltR k psq) ≤ 100 ∧ (Ad.jn ltR k psq).length + 1 = psq.length) := ⟨by rw [totP_jn hk1]; exact htq, Ad.jn_length ltR hk1⟩
          obtain ⟨L, hL⟩ : ∃ L, psq.getD k [] = L := ⟨_, rfl⟩
          obtain ⟨R, hRR⟩ : ∃ R, psq.getD (k + 1) [] = R := ⟨_, rfl⟩
          rw [hL] at hr1 hv1 HF2 hl2
          rw [hRR] at hr2 hv2 HF2 hl2
          have HLR : Hid (psq.getD k [] = L ∧ psq.getD (k + 1) [] = R) := ⟨hL, hRR⟩
          obtain ⟨nl, hnl⟩ : ∃ n, L.length = n := ⟨_, rfl⟩
          obtain ⟨nr, hnr⟩ : ∃ n, R.length = n := ⟨_, rfl⟩
          rw [hnl] at hr1 hv1 hl2
          rw [hnr] at hr2 hv2 hl2
          have HMR : Hid (∀ W : World, W.heap = wr.heap → Calls Try.prog 17 #[.slice x1 nl c1, .slice x2 nr c2] W (MergeEnd W L R (nl + nr))) := fun W hW => by
            have g0 : wr.grownBy wr none := ⟨rfl, rfl, rfl, Nat.le_refl _, fun _ _ _ => rfl⟩
            have hsame : ∀ a zs, RecsAt wr a zs → RecsAt W a zs := fun a zs h => by
              rcases h with h | ⟨b, off, h1, h0, h2⟩
              · exact .inl h
              · exact .inr ⟨b, off, h1, by rw [hW]; exact h0, fun j hj => by
                  have hb : W.heap[b]? = wr.heap[b]? := by rw [hW]
                  rw [World.cell?_of_block (w := wr) (w' := W) (a := ⟨b, off + j * 2, none⟩) hb, World.cell?_of_block (w := wr) (w' := W) (a := ⟨b, off + j * 2 + 1, none⟩) hb]; exact h2 j hj⟩
            exact merge_any x1 x2 c1 c2 nl nr L R W hnl hnr (by omega) (hsame _ _ hr1.recs) (hsame _ _ hr2.recs) hr1.nil hr2.nil hr1.cap hr2.cap
          unfold MergeEnd at HMR
          have hcb := Mg.mcnt_le ltR L R
          rw [hnl, hnr] at hcb
          have d1 : wr.cell? ⟨cP, 0, none⟩ = some (.slice (some ⟨g, 0, none⟩) psq.length c) := own_cellA HPq.out.hP rfl
          have d2 := own_cellA HPq.out.hr hv1
          have d3 := own_cellA HPq.out.hr hv2
          obtain ⟨P, hPl⟩ : ∃ P, psq.length = P := ⟨_, rfl⟩
          rw [hPl] at d1 hk1
          have HPl := Lib.hid hPl
          clear hk hmd hmk hok2 h2 hx1 hx2 hL hRR hv1 hv2 hr1 hr2 htq
          have lP := (HPq.out.hP.lt cP rfl).2
          have lg := (HPq.out.hr.lt g rfl).2
          obtain ⟨mc, hmc⟩ : ∃ mc, Mg.mcnt ltR L R = mc := ⟨_, rfl⟩
          rw [hmc] at HMR HF2 hcb
          clear hmc
          have hnn : nl + nr ≤ 100 := by have := HTq.out; omega
          have hsz := HKq.out.size
          have b5 : (0 : Int) ≤ (k : Int) := by omega
          have b6 : (k : Int) < (P : Int) := by omega
          have b7 : (k : Int) + 1 < (P : Int) := by omega
          have b8 : IntKind.i64.wrap ((k : Int) + 1) = (k : Int) + 1 := by rw [IntKind.wrap_i64]; omega
          have b9 : IntKind.i64.wrap ((k : Int) + 2) = (k : Int) + 2 := by rw [IntKind.wrap_i64]; omega
          have b10 : ((k : Int) + 1).toNat = k + 1 := by omega
          have b11 : IntKind.i64.wrap (cnt + (cq : Int) + (mc : Int)) = cnt + (cq : Int) + (mc : Int) := by rw [IntKind.wrap_i64]; omega
          have b12 : (0 : Int) ≤ (k : Int) + 1 := by omega
          have D1 : wr.drew.cell? ⟨cP, 0, none⟩ = some (.slice (some ⟨g, 0, none⟩) P c) := d1
          have D2 : wr.drew.cell? ⟨g, k, none⟩ = some (.slice x1 nl c1) := d2
          have D3 : wr.drew.cell? ⟨g, k + 1, none⟩ = some (.slice x2 nr c2) := d3
          go_wp2_with fail
          go_region_held3 (fun w' => w'.cell? ⟨cP, 0, none⟩ = some (.slice (some ⟨g, 0, none⟩) P c) ∧ w'.cell? ⟨g, k, none⟩ = some (.slice x1 nl c1) ∧ w'.cell? ⟨g, k + 1, none⟩ = some (.slice x2 nr c2)) (go_keep)
            (first | ((try go_split_ands); go_at_call 17; refine (HMR.out _ (by rfl)).mono ?_; rintro e w4 ⟨g4, c4, rfl, ho4, hb4⟩; have s1 := (hb4.cell (p := ⟨cP, 0, none⟩) lP).trans D1; have s2 := (hb4.cell (p := ⟨g, k, none⟩) lg).trans D2; have s3 := (hb4.cell (p := ⟨g, k + 1, none⟩) lg).trans D3))
          have g4b : wr.grownBy w4 none := grown_of_below (show Below wr.heap.size wr w4 from ⟨hb4.os, hb4.tape, hb4.output, hb4.size, hb4.block⟩)
          have g4s : wr.heap.size ≤ g4 := (ho4.lt g4 rfl).1
          have P4 := HPq.out.other g4b (fun b e => by cases e)
          have R4 := HRq.out.other g4b (fun b e => by cases e)
          have LX4 : LX w4 (fun b => X b ∨ w.heap.size ≤ b) (.slice (some ⟨g4, 0, none⟩) (nl + nr) c4) (Mg.mrg ltR L R) := by
            have hrd := rd_own ho4
            have hln : (Mg.mrg ltR L R).length = nl + nr := by rw [Mg.mrg_length, hnl, hnr]
            exact ⟨some ⟨g4, 0, none⟩, c4, by rw [hln], by rw [hln]; exact hrd, fun b off e => by injection e with e; injection e with e _; subst e; exact ⟨.inr (by omega), (ho4.lt g4 rfl).2⟩⟩
          have e4 : w4.cell? ⟨cC, 0, none⟩ = some (.int .i64 (cnt + (cq : Int))) := own_cellA P4.hC rfl
          have f4 : w4.frozen? ⟨cC, 0, none⟩ = false := P4.hC.frozenAt 0
          obtain ⟨P5, G5⟩ := P4.setC (cnt + (cq : Int) + (mc : Int))
          have R5 := R4.other G5 (fun b e => by injection e with e; subst e; exact HAC.out.2.2.2.1)
          have K5 := (HKq.out.trans (keep_grown (A := Am A cD cP cC g) g4b (fun b e => by cases e))).trans (keep_grown G5 (fun b e hb => by injection e with e; exact hb.2.2.2.1 e.symm))
          have LX5 := LX4.grown G5 (fun b e hx => by injection e with e; subst e; exact (P4.hX _ hx).2.2.2.1 rfl)
          have HP5 := Lib.hid P5
          have HR5 := Lib.hid R5
          have HK5 := Lib.hid K5
          have HL5 := Lib.hid LX5
          clear P4 R4 LX4 P5 R5 K5 G5 LX5 g4b ho4 hb4 s1 s2 s3 D1 D2 D3 d1 d2 d3 HPq HRq HKq HMR
          have W5 : ∃ W5, W5 = w4.setCell ⟨cC, 0, none⟩ (.int .i64 (cnt + (cq : Int) + (mc : Int))) := ⟨_, rfl⟩
          obtain ⟨w5, hw5⟩ := W5
          rw [← hw5] at HP5 HR5 HK5 HL5
          have d5 : w5.cell? ⟨cP, 0, none⟩ = some (.slice (some ⟨g, 0, none⟩) P c) := by have := own_cellA HP5.out.hP (i := 0) rfl; rw [this, HPl.out]
          obtain ⟨v0, hv0, _⟩ := HP5.out.hl.at (k := k) (by rw [HPl.out]; omega)
          have c5 := own_cellA HP5.out.hr hv0
          have f5 : w5.frozen? ⟨g, k, none⟩ = false := HP5.out.hr.frozenAt k
          have hst := HP5.out.hr.stored k (.slice (some ⟨g4, 0, none⟩) (nl + nr) c4)
          have hp6 := HP5.out.hP.kept hst.2 (.inr fun e => HN5.out.2.2.2.2.2.2.2.2.1 (by injection e))
          have d6 : (w5.setCell ⟨g, k, none⟩ (.slice (some ⟨g4, 0, none⟩) (nl + nr) c4)).cell? ⟨cP, 0, none⟩ = some (.slice (some ⟨g, 0, none⟩) P c) := by have := own_cellA hp6 (i := 0) rfl; rw [this, HPl.out]
          have hso := hst.1
          rw [HPl.out] at hso
          have HDL := Lib.hid (delL_any 0 g P c (k + 1) ((k : Int) + 1) ((k : Int) + 2) (hsq.set k (.slice (some ⟨g4, 0, none⟩) (nl + nr) c4)) (w5.setCell ⟨g, k, none⟩ (.slice (some ⟨g4, 0, none⟩) (nl + nr) c4)) (by omega) (by omega) (by omega) (by omega) (fun v hv => by
            rcases List.mem_or_eq_of_mem_set hv with h | h
            · exact HP5.out.hl.one v h
            · rw [h]; rfl) hso)
          unfold DelEnd at HDL
          have HS5 := Lib.hid hst.2
          have HJN := Lib.hid (HX.join HP5.out.hl (v := .slice (some ⟨g4, 0, none⟩) (nl + nr) c4) (k := k) (by rw [HPl.out]; omega) (by rw [HLR.out.1, HLR.out.2]; exact HL5.out))
          clear hst hp6 hso hv0 hPl
          rw [hw5] at d5 c5 f5 d6 HDL HS5
          go_wp2_with fail
          refine HDL.out.mono ?_
          rintro e w7 ⟨rfl, ho7, hg7⟩
          have G57 := grown_trans0 HS5.out hg7
          rw [← hw5] at G57
          have hp7 := HP5.out.hP.kept G57 (.inr fun e => HN5.out.2.2.2.2.2.2.2.2.1 (by injection e))
          have c7 := own_cellA hp7 (i := 0) rfl
          have f7 : w7.frozen? ⟨cP, 0, none⟩ = false := hp7.frozenAt 0
          obtain ⟨P8, G8⟩ := HP5.out.setP (g' := g) (n' := P - 1) (c' := c) (ps' := Ad.jn ltR k psq) G57 (by have := HJT.out.2; have := HPl.out; omega) ho7 (.inl rfl) (HJN.out.imp fun v L hv => hv.grown G57 fun b e hx => by injection e with e; subst e; exact (HP5.out.hX _ hx).2.2.2.2 rfl) (fun b hb => (HP5.out.hX b hb).2.2.2.2)
          have R8 := (HR5.out.other G57 (fun b e => by injection e with e; subst e; exact HAC.out.2.2.2.2)).other G8 (fun b e => by injection e with e; subst e; exact HAC.out.2.2.1)
          have K8 := (HK5.out.trans (keep_grown G57 (fun b e hb => by injection e with e; exact hb.2.2.2.2 e.symm))).trans (keep_grown G8 (fun b e hb => by injection e with e; exact hb.2.2.1 e.symm))
          have HP8 := Lib.hid P8
          have HR8 := Lib.hid R8
          have HK8 := Lib.hid K8
          have hJ := HJT.out
          have hcast : cnt + ((cq + mc : Nat) : Int) = cnt + (cq : Int) + (mc : Int) := by omega
          have HF8 : Hid ((Ad.fol ltR (m.drop (dn + (q + 1))) (Ad.jn ltR k psq)).1 = F.1 ∧ (cq + mc) + (Ad.fol ltR (m.drop (dn + (q + 1))) (Ad.jn ltR k psq)).2 = F.2) := HF2
          clear P8 G8 R8 K8 G57 hp7 ho7 hg7 HDL HS5 HJN HP5 HR5 HK5 HL5 d5 c5 f5 d6
          go_wp2
          go_roundw
          case rel => exact ⟨q + 1, cq + mc, _, Ad.jn ltR k psq, by go_num, by omega, by omega, by rw [hcast]; exact HP8, HR8, HK8, by have := HOK2.out; rw [show psq.length - 1 = (Ad.jn ltR k psq).length by omega] at this; exact Lib.hid this, by omega, Lib.hid hJ.1, HF8⟩
          case measure => simp [intOf]; omega

end Go.Proofs.Ythakkkljlpimlaa
