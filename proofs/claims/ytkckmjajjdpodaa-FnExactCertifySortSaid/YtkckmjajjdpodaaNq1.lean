/- Walks: the stable sort of records, of both packages; records held side by side; the draw. -/
import Derived.Test.YtkckmjajjdpodaaQf
import Derived.Test.YtkckmjajjdpodaaNn
import Derived.Test.YtkckmjajjdpodaaWg
namespace Go.Proofs.Ytkckmjajjdpodaa
open Go.RowKit Go.Sort
set_option linter.unusedVariables false

/-- Records that can be read behind a slice. -/
structure Rd (w : World) (a : Option Addr) (n c : Nat) (rs : List (Int × Int)) : Prop where
  recs : RecsAt w a rs
  len : rs.length = n
  nil : NilOk a c
  cap : n ≤ c
theorem Rd.below {w w' : World} {B : Nat} {a : Option Addr} {n c : Nat} {rs : List (Int × Int)} (h : Rd w a n c rs) (hB : w.heap.size ≤ B) (hb : Below B w w') : Rd w' a n c rs :=
  ⟨h.recs.below hB hb, h.len, h.nil, h.cap⟩
theorem Rd.same {w w' : World} {a : Option Addr} {n c : Nat} {rs : List (Int × Int)} (h : Rd w a n c rs) (hb : Below w.heap.size w w') : Rd w' a n c rs := h.below (Nat.le_refl _) hb
theorem own_cap {w : World} {B : Nat} {e : TypeId} {size n c : Nat} {a : Option Addr} {xs : List Value} (h : w.ownsRow B e size (.slice a n c) n xs) : n ≤ c := by
  rcases h.2 with ⟨hv, hm⟩ | ⟨g, cap, cur, hv, _, _, hn, _⟩
  · omega
  · injection hv with _ _ h3; omega
theorem rd_own {w : World} {B : Nat} {e : TypeId} {n c : Nat} {a : Option Addr} {rs : List (Int × Int)} (h : w.ownsRow B e 2 (.slice a n c) n (flat encR rs)) : Rd w a n c rs :=
  ⟨recs_of_own h, by have := h.1; rw [flat_length encR_len] at this; omega, nilOk_own h, own_cap h⟩
theorem rd_nil (w : World) : Rd w none 0 0 [] := ⟨.inl rfl, rfl, fun _ => rfl, Nat.le_refl _⟩
theorem rd_some (w : World) (x : Addr) (c : Nat) : Rd w (some x) 0 c [] := ⟨.inl rfl, rfl, nilOk_some _ _, Nat.zero_le _⟩

/-- A list and a Bool, given back. -/
def RdEnd (w : World) (out : List (Int × Int)) (ok : Bool) (e : Ending) (w' : World) : Prop :=
  ∃ (a : Option Addr) (n c : Nat), e = .returned (.tuple #[.slice a n c, .bool ok]) ∧ Rd w' a n c out ∧ Below w.heap.size w w'

theorem okRecs_le {rs : List (Int × Int)} (h : okRecs rs = true) : rs.length ≤ 64 := by
  unfold okRecs at h
  simp at h
  exact h.1
def stAns (rs : List (Int × Int)) : List (Int × Int) := if okRecs rs = true then srtR rs else []

set_option maxRecDepth 100000 in
set_option maxHeartbeats 2000000 in
theorem implStableSort_any (a : Option Addr) (n c : Nat) (rs : List (Int × Int)) (w : World) (hbig : n ≤ 9223372036854775807) (h : Rd w a n c rs) :
    Calls Try.prog 25 #[.slice a n c] w (RdEnd w (stAns rs) (okRecs rs)) := by
  obtain ⟨hr, rfl, hn, hc⟩ := h
  have HV := Lib.hid (isValidRecords_any a c rs w hbig hr)
  have HR := Lib.hid hr; have HN := Lib.hid hn
  clear hr hn
  unfold RdEnd stAns
  cases hok : okRecs rs
  · rw [hok] at HV
    go_enter Try.func25, Try.ntmps25
    go_wp2_with fail
    refine HV.out.mono ?_
    rintro e w1 ⟨rfl, hb⟩
    have HB := Lib.hid hb; clear hb
    go_wp2
    go_ret2
    exact ⟨none, 0, 0, rfl, rd_nil _, HB.out⟩
  · rw [hok] at HV
    have hl := okRecs_le hok
    go_enter Try.func25, Try.ntmps25
    go_wp2_with fail
    refine HV.out.mono ?_
    rintro e w1 ⟨rfl, hb⟩
    have HB := Lib.hid hb; clear hb
    go_wp2_with fail
    refine (stable_any a c rs w1 (by omega) (HR.out.below (Nat.le_refl _) HB.out) HN.out).mono ?_
    rintro e w2 ⟨g, c2, rfl, ho, hb⟩
    have HO := Lib.hid (rd_own ho)
    have HB2 := Lib.hid (HB.out.trans (hb.mono HB.out.size))
    clear ho hb
    go_wp2
    go_ret2
    exact ⟨_, _, _, rfl, HO.out, HB2.out⟩

theorem Rd.at {w : World} {a : Option Addr} {n c : Nat} {rs : List (Int × Int)} (h : Rd w a n c rs) {k : Nat} (hk : k < n) :
    ∃ b off, a = some ⟨b, off, none⟩ ∧ w.cell? ⟨b, off + k * 2, none⟩ = some (.int .i64 (rs.getD k (0, 0)).1) ∧ w.cell? ⟨b, off + k * 2 + 1, none⟩ = some (.int .i64 (rs.getD k (0, 0)).2) :=
  h.recs.at (by rw [h.len]; exact hk)

set_option maxRecDepth 100000 in
set_option maxHeartbeats 2000000 in
theorem vRecords_any (a b : Option Addr) (n m c d : Nat) (L R : List (Int × Int)) (w : World) (hn : n ≤ 9223372036854775807) (hm : m ≤ 9223372036854775807) (hL : Rd w a n c L) (hR : Rd w b m d R) :
    Calls Try.prog 19 #[.slice a n c, .slice b m d] w fun e w' => e = .returned (.bool (decide (L = R))) ∧ Below w.heap.size w w' := by
  have HL := Lib.hid hL; have HR := Lib.hid hR
  clear hL hR
  by_cases hnm : n = m
  case neg =>
    have q1 : ((n : Int) != (m : Int)) = true := by simp; omega
    have HE : Hid (decide (L = R) = false) := by
      show _ = _
      refine decide_eq_false fun h => hnm ?_
      rw [← HL.out.len, ← HR.out.len, h]
    go_enter Try.func19, Try.ntmps19
    go_wp2
    go_ret
    exact ⟨ret_bool HE.out.symm, Below.refl _ _⟩
  subst hnm
  have q1 : ((n : Int) != (n : Int)) = false := by simp
  go_enter Try.func19, Try.ntmps19
  go_wp2
  go_loopw [5] (fun v wr => ∃ k : Nat, v = .int .i64 k ∧ k ≤ n ∧ Hid (∀ j, j < k → L.getD j (0, 0) = R.getD j (0, 0)) ∧ Below w.heap.size w wr) (fun v _ => n - (intOf v).toNat)
  case atStart => exact ⟨0, rfl, by omega, Lib.hid (fun j h => by omega), Below.refl _ _⟩
  case round =>
    obtain ⟨k, rfl, hk, HALL, hb⟩ := hrel
    have HB := Lib.hid hb
    clear hb
    by_cases hlt : k < n
    case neg =>
      obtain rfl : k = n := by omega
      have HE : Hid (decide (L = R) = true) := by
        show _ = _
        refine decide_eq_true (List.ext_getElem (by rw [HL.out.len, HR.out.len]) fun j h1 h2 => ?_)
        have := HALL.out j (by rw [← HL.out.len]; exact h1)
        rwa [getD_get h1, getD_get h2] at this
      have h3 : decide ((k : Int) < (k : Int)) = false := by simp
      go_wp2
      go_ret
      exact ⟨ret_bool HE.out.symm, HB.out⟩
    obtain ⟨x, o, rfl, c1, c1'⟩ := (HL.out.same HB.out).at hlt
    obtain ⟨y, p, rfl, c2, c2'⟩ := (HR.out.same HB.out).at hlt
    obtain ⟨X, hX⟩ : ∃ X, L.getD k (0, 0) = X := ⟨_, rfl⟩
    obtain ⟨Y, hY⟩ : ∃ Y, R.getD k (0, 0) = Y := ⟨_, rfl⟩
    rw [hX] at c1 c1'
    rw [hY] at c2 c2'
    have HX := Lib.hid hX; have HY := Lib.hid hY
    clear hX hY
    obtain ⟨X1, X2⟩ := X
    obtain ⟨Y1, Y2⟩ := Y
    have h3 : decide ((k : Int) < (n : Int)) = true := decide_eq_true (by omega)
    by_cases hxy : X1 = Y1 ∧ X2 = Y2
    · obtain ⟨rfl, rfl⟩ := hxy
      go_wp2_with fail
      go_quiet (fail)
      go_wp2
      go_roundw
      case rel => exact ⟨k + 1, by go_num, by omega, Lib.hid (fun j hj => by
        rcases Nat.lt_or_ge j k with h | h
        · exact HALL.out j h
        · obtain rfl : j = k := by omega
          rw [HX.out, HY.out]), below_drewN HB.out _⟩
      case measure => simp [intOf] <;> omega
    · have HE : Hid (decide (L = R) = false) := by
        show _ = _
        refine decide_eq_false fun h => hxy ?_
        have := HX.out
        rw [h, HY.out] at this
        injection this with h1 h2
        exact ⟨h1.symm, h2.symm⟩
      by_cases q1 : X1 = Y1
      · subst q1
        have q2 : (X2 == Y2) = false := by simpa using hxy
        clear hxy
        go_wp2_with fail
        go_quiet (fail)
        go_wp2
        go_ret
        exact ⟨ret_bool HE.out.symm, below_drewN HB.out _⟩
      · have q2 : (X1 == Y1) = false := by simpa using q1
        clear hxy q1
        go_wp2_with fail
        go_quiet (fail)
        go_wp2
        go_ret
        exact ⟨ret_bool HE.out.symm, below_drewN HB.out _⟩

end Go.Proofs.Ytkckmjajjdpodaa
