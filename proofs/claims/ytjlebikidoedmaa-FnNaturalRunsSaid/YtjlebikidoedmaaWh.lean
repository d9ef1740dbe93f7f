/- Walks: keys of records; the first descent; FirstDescent. -/
import Derived.Test.YtjlebikidoedmaaWg
namespace Go.Proofs.Ytjlebikidoedmaa
open Go.RowKit
set_option linter.unusedVariables false

theorem rfind_some {n : Nat} {q : Nat → Bool} {m : Nat} (hm : m < n) (h : q m = true) (hall : ∀ j, j < m → q j = false) : (List.range n).find? q = some m := by
  rw [List.find?_range_eq_some]
  refine ⟨h, by simpa using hm, fun j hj => by simp [hall j hj]⟩
theorem rfind_none {n : Nat} {q : Nat → Bool} (hall : ∀ j, j < n → q j = false) : (List.range n).find? q = none := by
  rw [List.find?_range_eq_none]
  intro j hj; simp [hall j hj]

def descAt (zs : List Int) (m : Nat) : Bool := decide (zs.getD (m + 1) 0 < zs.getD m 0)
def fdesc (zs : List Int) : Int := match (List.range (zs.length - 1)).find? (descAt zs) with | some m => m | none => -1
theorem fdesc_some {zs : List Int} {m : Nat} (hm : m + 1 < zs.length) (h : descAt zs m = true) (hall : ∀ j, j < m → descAt zs j = false) : fdesc zs = m := by
  unfold fdesc; rw [rfind_some (by omega) h hall]
theorem fdesc_none {zs : List Int} (hall : ∀ j, j + 1 < zs.length → descAt zs j = false) : fdesc zs = -1 := by
  unfold fdesc; rw [rfind_none (fun j hj => hall j (by omega))]

set_option maxRecDepth 100000 in
set_option maxHeartbeats 400000 in
theorem descent_any (a : Option Addr) (cap : Nat) (zs : List Int) (w : World) (hlen : zs.length ≤ 1048576) (h : IntsAt w a zs) :
    Calls Try.prog 51 #[.slice a zs.length cap] w fun e w' => e = .returned (.int .i64 (fdesc zs)) ∧ Below w.heap.size w w' := by
  have H := Lib.hid h; clear h
  go_enter Try.func51, Try.ntmps51
  go_wp2
  go_loopw [3] (fun i wr => ∃ m : Nat, m ≤ zs.length ∧ i = .int .i64 ((m : Int) + 1) ∧ (∀ j, j < m → descAt zs j = false) ∧ Below w.heap.size w wr) (fun i _ => zs.length + 1 - (intOf i).toNat)
  case atStart => exact ⟨0, by omega, rfl, by intro j h; omega, Below.refl _ _⟩
  case round =>
    obtain ⟨m, hm, rfl, hall, hb⟩ := hrel
    have Hall := Lib.hid hall; clear hall
    have HB := Lib.hid hb; clear hb
    by_cases h1 : m + 1 < zs.length
    · obtain ⟨b, off, rfl, hc1⟩ := (H.out.below (Nat.le_refl _) HB.out).at (show m < zs.length by omega)
      obtain ⟨b', off', e, hc2⟩ := (H.out.below (Nat.le_refl _) HB.out).at h1
      simp only [Option.some.injEq, Addr.mk.injEq, and_true] at e
      obtain ⟨rfl, rfl⟩ := e
      have HD : Hid (descAt zs m = decide (zs.getD (m + 1) 0 < zs.getD m 0)) := rfl
      generalize zs.getD m 0 = x at hc1 HD
      generalize zs.getD (m + 1) 0 = y at hc2 HD
      by_cases hyx : y < x
      · go_wp2_with fail
        go_quiet (fail)
        go_wp2
        go_ret
        exact ⟨ret_int (by rw [fdesc_some h1 (by rw [HD.out]; simpa using hyx) Hall.out]), below_drewN HB.out _⟩
      · have hd : decide (y < x) = false := by simpa using hyx
        go_wp2_with fail
        go_quiet (fail)
        go_wp2
        go_roundw
        case rel =>
          refine ⟨m + 1, by omega, by go_num, fun j hj => ?_, below_drewN HB.out _⟩
          rcases Nat.lt_succ_iff_lt_or_eq.1 hj with h | rfl
          · exact Hall.out j h
          · rw [HD.out]; exact hd
        case measure => simp [intOf]; omega
    · go_wp2
      go_ret
      exact ⟨ret_int (by rw [fdesc_none (fun j hj => Hall.out j (by omega))]), HB.out⟩

def keysL (rs : List (Int × Int)) : List Int := rs.map Prod.fst
theorem keysL_succ {rs : List (Int × Int)} {k : Nat} (hk : k < rs.length) : keysL (rs.take (k + 1)) = keysL (rs.take k) ++ [(rs.getD k (0, 0)).1] := by
  unfold keysL
  rw [List.take_add_one, List.map_append]
  simp [List.getD, List.getElem?_eq_getElem hk]
theorem keysL_len (rs : List (Int × Int)) : (keysL rs).length = rs.length := by simp [keysL]

set_option maxHeartbeats 400000 in
theorem keysOf_any (a : Option Addr) (cap : Nat) (zs : List (Int × Int)) (w : World) (hlen : zs.length ≤ 1048576) (h : RecsAt w a zs) :
    Calls Try.prog 52 #[.slice a zs.length cap] w fun e w' => ∃ a' c', e = .returned (.slice a' (keysL zs).length c') ∧ w'.ownsRow w.heap.size 3 1 (.slice a' (keysL zs).length c') (keysL zs).length ((keysL zs).map (Value.int .i64)) ∧ Below w.heap.size w w' := by
  have H := Lib.hid h; clear h
  have e1 := own_lit (w := w) (e := 3) (size := 1) #[] 0 (by omega) rfl
  have E1 := Lib.hid e1; clear e1
  go_enter Try.func52, Try.ntmps52
  go_wp2
  go_loopw [3, 5, 9] (fun v _ i wr => ∃ k : Nat, k ≤ zs.length ∧ i = .int .i64 k ∧ wr.ownsRow w.heap.size 3 1 v (keysL (zs.take k)).length ((keysL (zs.take k)).map (Value.int .i64)) ∧ Below w.heap.size w wr) (fun _ _ i _ => zs.length - (intOf i).toNat)
  case atStart => exact ⟨0, by omega, rfl, E1.out, (Below.refl _ _).alloc (Nat.le_refl _) _⟩
  case round =>
    obtain ⟨k, hk, rfl, hown, hb⟩ := hrel
    clear E1
    by_cases hlt : k < zs.length
    · obtain ⟨b, off, rfl, hc1, hc2⟩ := (H.out.below (Nat.le_refl _) hb).at hlt
      have hs := keysL_succ hlt
      have hl : (keysL (zs.take k)).length = k := by rw [keysL_len]; simp; omega
      generalize hr : zs.getD k (0, 0) = r at hc1 hc2 hs
      have HS := Lib.hid hs; clear hs
      have HR := Lib.hid hr; clear hr
      obtain ⟨x, y⟩ := r
      have HO := Lib.hid hown; clear hown
      have HB := Lib.hid hb; clear hb
      have HL := Lib.hid hl
      have hn : (keysL (zs.take k)).length + 1 ≤ 1099511627776 := by omega
      have hbs := HB.out.size
      clear hl
      go_wp2_with (at_builtin; refine wpList_app1 slInt rfl (.tmp 13) (.tmp 16) rfl rfl (HO.out.alloc _) [.int .i64 x] rfl rfl (by simp) (by simp [Value.oneCell']) hn (by simp; omega) ?_; intro v' w1 hown' hg ht)
      have HO' := Lib.hid hown'
      have HB' := Lib.hid (below_app (HB.out.alloc hbs _) (by simp; omega) (HO.out.alloc _) (Nat.le_refl _) hg)
      clear hown' hg ht hbs hn
      go_roundw
      case rel =>
        refine ⟨k + 1, by omega, by go_num, ?_, HB'.out⟩
        rw [HS.out, List.length_append, List.map_append]
        exact HO'.out
      case measure => simp [intOf]; omega
    · rw [List.take_of_length_le (by omega)] at hown
      obtain ⟨a', c', rfl⟩ := own_slice hown
      have HO := Lib.hid hown; clear hown
      have HB := Lib.hid hb; clear hb
      go_wp2
      go_ret
      exact ⟨a', c', rfl, HO.out, HB.out⟩

def fdAns (rs : List (Int × Int)) : Int × Bool := if okRecs rs then (if fdesc (keysL rs) = -1 then (-1, true) else (fdesc (keysL rs) + 1, true)) else (0, false)

theorem fdesc_range (zs : List Int) : fdesc zs = -1 ∨ 0 ≤ fdesc zs ∧ fdesc zs < zs.length := by
  unfold fdesc
  cases h : (List.range (zs.length - 1)).find? (descAt zs) with
  | none => left; rfl
  | some m =>
    right
    have := List.mem_of_find?_eq_some h
    simp at this
    simp; omega

set_option maxHeartbeats 400000 in
theorem implFirstDescent_any (a : Option Addr) (cap : Nat) (zs : List (Int × Int)) (w : World) (hbig : zs.length ≤ 9223372036854775807) (h : RecsAt w a zs) :
    Calls Try.prog 22 #[.slice a zs.length cap] w fun e w' => e = .returned (.tuple #[.int .i64 (fdAns zs).1, .bool (fdAns zs).2]) ∧ Below w.heap.size w w' := by
  have HL := Lib.hid (isValidRecords_any a cap zs w hbig h)
  cases h1 : okRecs zs
  · have HA : fdAns zs = (0, false) := by simp [fdAns, h1]
    rw [HA]
    rw [h1] at HL
    clear h HA h1
    go_enter Try.func22, Try.ntmps22
    go_wp2_with ((go_at_call 50; refine HL.out.mono ?_; rintro e w' ⟨rfl, hb⟩))
    go_ret2
    exact ⟨rfl, hb⟩
  · have hl := okRecs_len h1
    have HA : Hid (fdAns zs = (if fdesc (keysL zs) = -1 then (-1, true) else (fdesc (keysL zs) + 1, true))) := by show _ = _; simp [fdAns, h1]
    have HRR := Lib.hid (fdesc_range (keysL zs))
    have HKL := Lib.hid (keysL_len zs)
    rw [h1] at HL
    have H := Lib.hid h
    have hl2 : (keysL zs).length ≤ 64 := by rw [HKL.out]; exact hl
    clear h h1
    go_enter Try.func22, Try.ntmps22
    go_wp2_with fail
    refine HL.out.mono ?_
    rintro e w1 ⟨rfl, hb⟩
    have HB := Lib.hid hb; clear hb
    go_wp2_with fail
    refine (keysOf_any a cap zs _ (by omega) (H.out.below (Nat.le_refl _) HB.out)).mono ?_
    rintro e w2 ⟨a', c', rfl, ho2, hb2⟩
    have H2 := Lib.hid (ownInts ho2); clear ho2
    have HB2 := Lib.hid (HB.out.trans (hb2.mono HB.out.size)); clear hb2
    go_wp2_with fail
    refine (descent_any a' c' (keysL zs) _ (by omega) H2.out).mono ?_
    rintro e w3 ⟨rfl, hb3⟩
    have HB3 := Lib.hid (HB2.out.trans (hb3.mono HB2.out.size)); clear hb3
    rcases HRR.out with hR | hR
    · have HR := Lib.hid hR
      rw [hR]
      clear hR
      go_wp2
      go_ret2
      exact ⟨by rw [HA.out, if_pos HR.out]; rfl, HB3.out⟩
    · have hR1 := hR.1
      have hR2 := hR.2
      clear hR
      go_wp2
      go_ret2
      exact ⟨by rw [HA.out, if_neg (by omega)]; rfl, HB3.out⟩

set_option maxRecDepth 100000 in
set_option maxHeartbeats 400000 in
theorem specFirstDescent_any (a : Option Addr) (cap : Nat) (zs : List (Int × Int)) (w : World) (hbig : zs.length ≤ 9223372036854775807) (h : RecsAt w a zs) :
    Calls Try.prog 20 #[.slice a zs.length cap] w fun e w' => e = .returned (.tuple #[.int .i64 (fdAns zs).1, .bool (fdAns zs).2]) ∧ Below w.heap.size w w' := by
  have HL := Lib.hid (l2Records_any a cap zs w hbig h)
  cases h1 : okRecs zs
  · have HA : fdAns zs = (0, false) := by simp [fdAns, h1]
    rw [HA]
    rw [h1] at HL
    clear h HA h1
    go_enter Try.func20, Try.ntmps20
    go_wp2_with (go_at_call 48; refine HL.out.mono ?_; rintro e w' ⟨rfl, rfl⟩)
    go_ret2
    exact ⟨rfl, Below.refl _ _⟩
  · have hl := okRecs_len h1
    have HA : Hid (fdAns zs = (if fdesc (keysL zs) = -1 then (-1, true) else (fdesc (keysL zs) + 1, true))) := by show _ = _; simp [fdAns, h1]
    have HKL := Lib.hid (keysL_len zs)
    rw [h1] at HL
    have H := Lib.hid h
    clear h h1
    go_enter Try.func20, Try.ntmps20
    go_wp2_with (go_at_call 48; refine HL.out.mono ?_; rintro e w' ⟨rfl, rfl⟩)
    go_loopw [4] (fun i wr => ∃ m : Nat, m ≤ zs.length ∧ i = .int .i64 ((m : Int) + 1) ∧ (∀ j, j < m → descAt (keysL zs) j = false) ∧ Below w.heap.size w wr) (fun i _ => zs.length + 1 - (intOf i).toNat)
    case atStart => exact ⟨0, by omega, rfl, by intro j h; omega, Below.refl _ _⟩
    case round =>
      obtain ⟨m, hm, rfl, hall, hb⟩ := hrel
      have Hall := Lib.hid hall; clear hall
      have HB := Lib.hid hb; clear hb
      by_cases h1 : m + 1 < zs.length
      · obtain ⟨b, off, rfl, hc1, hc1'⟩ := (H.out.below (Nat.le_refl _) HB.out).at (show m < zs.length by omega)
        obtain ⟨b', off', e, hc2, hc2'⟩ := (H.out.below (Nat.le_refl _) HB.out).at h1
        simp only [Option.some.injEq, Addr.mk.injEq, and_true] at e
        obtain ⟨rfl, rfl⟩ := e
        have HD : Hid (descAt (keysL zs) m = decide ((zs.getD (m + 1) (0, 0)).1 < (zs.getD m (0, 0)).1)) := by
          show descAt (keysL zs) m = _
          simp [descAt, keysL, List.getD, show m < zs.length by omega, h1]
        generalize zs.getD m (0, 0) = x at hc1 hc1' HD
        generalize zs.getD (m + 1) (0, 0) = y at hc2 hc2' HD
        obtain ⟨x, x'⟩ := x
        obtain ⟨y, y'⟩ := y
        by_cases hyx : y < x
        · go_wp2_with fail
          go_quiet (fail)
          go_wp2
          go_ret2
          have hf := fdesc_some (zs := keysL zs) (m := m) (by rw [HKL.out]; exact h1) (by rw [HD.out]; simpa using hyx) Hall.out
          exact ⟨by rw [HA.out, hf, if_neg (by omega)]; rfl, below_drewN HB.out _⟩
        · have hd : decide (y < x) = false := by simpa using hyx
          go_wp2_with fail
          go_quiet (fail)
          go_wp2
          go_roundw
          case rel =>
            refine ⟨m + 1, by omega, by go_num, fun j hj => ?_, below_drewN HB.out _⟩
            rcases Nat.lt_succ_iff_lt_or_eq.1 hj with h | rfl
            · exact Hall.out j h
            · rw [HD.out]; exact hd
          case measure => simp [intOf]; omega
      · go_wp2
        go_ret2
        have hf := fdesc_none (zs := keysL zs) (fun j hj => Hall.out j (by rw [HKL.out] at hj; omega))
        exact ⟨by rw [HA.out, if_pos hf]; rfl, HB.out⟩

end Go.Proofs.Ytjlebikidoedmaa
