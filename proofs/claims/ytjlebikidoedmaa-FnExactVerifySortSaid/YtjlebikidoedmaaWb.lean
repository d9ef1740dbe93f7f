/- Walks: fingerprints; copies of integer lists; the comparison of two integer lists. -/
import Derived.Test.YtjlebikidoedmaaWa
namespace Go.Proofs.Ytjlebikidoedmaa
open Go.RowKit
set_option linter.unusedVariables false

def fpD (p x : Int) : Int := (p - x) % 999983
def fpStep (p acc x : Int) : Int := acc * fpD p x % 999983
def fprint (zs : List Int) (p : Int) : Int := zs.foldl (fpStep p) 1

theorem fprint_bound (p : Int) (zs : List Int) : 0 ≤ fprint zs p ∧ fprint zs p ≤ 999982 := by
  have : ∀ (zs : List Int) (a : Int), 0 ≤ a ∧ a ≤ 999982 → 0 ≤ zs.foldl (fpStep p) a ∧ zs.foldl (fpStep p) a ≤ 999982 := by
    intro zs
    induction zs with
    | nil => intro a h; exact h
    | cons x r ih => intro a _; exact ih _ (by unfold fpStep; omega)
  exact this zs 1 (by omega)

theorem fprint_succ {zs : List Int} {k : Nat} (hk : k < zs.length) (p : Int) : fprint (zs.take (k + 1)) p = fprint (zs.take k) p * fpD p (zs.getD k 0) % 999983 := by
  unfold fprint
  rw [List.take_add_one, List.foldl_append]
  simp [fpStep, List.getD, List.getElem?_eq_getElem hk]

theorem mul_bound {a d : Int} (h0 : 0 ≤ a) (h1 : a ≤ 999982) (h2 : 0 ≤ d) (h3 : d ≤ 999982) : 0 ≤ a * d ∧ a * d ≤ 999964000324 := by
  constructor
  · exact Int.mul_nonneg h0 h2
  · have : a * d ≤ 999982 * 999982 := Int.mul_le_mul h1 h3 h2 (by omega)
    omega

theorem okList_key {zs : List Int} (h : okList zs = true) {k : Nat} (hk : k < zs.length) : -100000 ≤ zs.getD k 0 ∧ zs.getD k 0 ≤ 100000 := by
  unfold okList at h
  simp only [Bool.and_eq_true, List.all_eq_true] at h
  have := h.2 zs[k] (List.getElem_mem hk)
  simpa [okKey, inB, List.getD, hk] using this

theorem okList_len {zs : List Int} (h : okList zs = true) : zs.length ≤ 64 := by
  unfold okList at h; simp at h; exact h.1

theorem tmod_small {a : Int} (h : a < 0) (h' : -999983 < a) : a.tmod 999983 = a := by
  have e : a = -(-a) := by omega
  rw [e, Int.neg_tmod, Int.tmod_eq_emod_of_nonneg (by omega)]
  omega

theorem fpD_bound (p x : Int) : 0 ≤ fpD p x ∧ fpD p x ≤ 999982 := by unfold fpD; omega

set_option maxHeartbeats 400000 in
theorem l24Print_any (a : Option Addr) (cap : Nat) (zs : List Int) (p : Int) (w : World) (hok : okList zs = true) (h0 : 0 ≤ p) (h1 : p ≤ 999982) (h : IntsAt w a zs) :
    Calls Try.prog 38 #[.slice a zs.length cap, .int .i64 p] w fun e w' => e = .returned (.int .i64 (fprint zs p)) ∧ w = w' := by
  have H := Lib.hid h; clear h
  have hbig := okList_len hok
  have HO := Lib.hid hok; clear hok
  go_enter Try.func38, Try.ntmps38
  go_wp2
  go_loop [5, 6, 7] (fun o i _ => ∃ k : Nat, k ≤ zs.length ∧ i = .int .i64 k ∧ o = .int .i64 (fprint (zs.take k) p)) (fun _ i _ => zs.length - (intOf i).toNat)
  case atStart => exact ⟨0, by omega, rfl, rfl⟩
  case round =>
    obtain ⟨k, hk, rfl, rfl⟩ := hrel
    by_cases hlt : k < zs.length
    · obtain ⟨b, off, rfl, hcell⟩ := H.out.at hlt
      have hb := okList_key HO.out hlt
      have hs := fprint_succ hlt p
      have ha := fprint_bound p (zs.take k)
      generalize hx : zs.getD k 0 = x at hcell hb hs
      have HX := Lib.hid hx; clear hx
      have hd := fpD_bound p x
      have hm := mul_bound ha.1 ha.2 hd.1 hd.2
      have HS := Lib.hid hs; clear hs
      generalize hacc : fprint (zs.take k) p = acc at ha hm HS ⊢
      have HA := Lib.hid hacc; clear hacc
      by_cases hn : p - x < 0
      · have e1 : (p - x).tmod 999983 = p - x := tmod_small hn (by omega)
        have e2 : p - x + 999983 = fpD p x := by unfold fpD; omega
        go_wp2
        all_goals
          go_round
          case rel => exact ⟨k + 1, by omega, by go_num, by rw [HS.out]⟩
          case measure => simp [intOf]; omega
      · have e1 : (p - x) % 999983 = fpD p x := rfl
        go_wp2
        all_goals
          go_round
          case rel => exact ⟨k + 1, by omega, by go_num, by rw [HS.out]⟩
          case measure => simp [intOf]; omega
    · go_wp2
      go_ret
      exact ⟨ret_int (by rw [List.take_of_length_le (by omega)]), rfl⟩

set_option maxHeartbeats 400000 in
theorem fingerprint_any (a : Option Addr) (cap : Nat) (zs : List Int) (p : Int) (w : World) (hok : okList zs = true) (h0 : 0 ≤ p) (h1 : p ≤ 999982) (h : IntsAt w a zs) :
    Calls Try.prog 41 #[.slice a zs.length cap, .int .i64 p] w fun e w' => e = .returned (.int .i64 (fprint zs p)) ∧ w = w' := by
  have H := Lib.hid h; clear h
  have hbig := okList_len hok
  have HO := Lib.hid hok; clear hok
  go_enter Try.func41, Try.ntmps41
  go_wp2
  go_loop [5, 7, 8, 11] (fun o _ _ i => ∃ k : Nat, k ≤ zs.length ∧ i = .int .i64 k ∧ o = .int .i64 (fprint (zs.take k) p)) (fun _ _ _ i => zs.length - (intOf i).toNat)
  case atStart => exact ⟨0, by omega, rfl, rfl⟩
  case round =>
    obtain ⟨k, hk, rfl, rfl⟩ := hrel
    by_cases hlt : k < zs.length
    · obtain ⟨b, off, rfl, hcell⟩ := H.out.at hlt
      have hb := okList_key HO.out hlt
      have hs := fprint_succ hlt p
      have ha := fprint_bound p (zs.take k)
      generalize hx : zs.getD k 0 = x at hcell hb hs
      have HX := Lib.hid hx; clear hx
      have hd := fpD_bound p x
      have hm := mul_bound ha.1 ha.2 hd.1 hd.2
      have HS := Lib.hid hs; clear hs
      generalize hacc : fprint (zs.take k) p = acc at ha hm HS ⊢
      have HA := Lib.hid hacc; clear hacc
      by_cases hn : p - x < 0
      · have e1 : (p - x).tmod 999983 = p - x := tmod_small hn (by omega)
        have e2 : p - x + 999983 = fpD p x := by unfold fpD; omega
        go_wp2
        all_goals
          go_round
          case rel => exact ⟨k + 1, by omega, by go_num, by rw [HS.out]⟩
          case measure => simp [intOf]; omega
      · have e1 : (p - x) % 999983 = fpD p x := rfl
        go_wp2
        all_goals
          go_round
          case rel => exact ⟨k + 1, by omega, by go_num, by rw [HS.out]⟩
          case measure => simp [intOf]; omega
    · go_wp2
      go_ret
      exact ⟨ret_int (by rw [List.take_of_length_le (by omega)]), rfl⟩

theorem Try.infoInt : (Try.prog.info? 3).map (fun i => (i.zero, i.size, i.bytes)) = some (some (.int .i64 0), 1, 8) := by kernel_rfl

/-- What a copy holds after k rounds. -/
def fillK (n k : Nat) (f : Nat → Value) (z : Value) : List Value := (List.range n).map fun j => if j < k then f j else z
theorem fillK_length (n k : Nat) (f : Nat → Value) (z : Value) : (fillK n k f z).length = n := by simp [fillK]
theorem fillK_zero (n : Nat) (f : Nat → Value) (z : Value) : fillK n 0 f z = List.replicate n z := by
  apply List.ext_getElem <;> simp [fillK]
theorem fillK_succ {n k : Nat} (f : Nat → Value) (z : Value) (h : k < n) : (fillK n k f z).set k (f k) = fillK n (k + 1) f z := by
  apply List.ext_getElem
  · simp [fillK]
  · intro j h1 h2
    simp only [fillK, List.getElem_set, List.getElem_map, List.getElem_range]
    by_cases e : k = j
    · subst e; simp
    · rw [if_neg e]
      by_cases hl : j < k
      · rw [if_pos hl, if_pos (by omega)]
      · rw [if_neg hl, if_neg (by omega)]
theorem fillK_end (n : Nat) (f : Nat → Value) (z : Value) : fillK n n f z = (List.range n).map f := by
  apply List.ext_getElem
  · simp [fillK]
  · intro j h1 h2
    have : j < n := by simpa [fillK] using h1
    simp [fillK, this]
theorem range_getD {α β : Type} (zs : List α) (d : α) (f : α → β) : (List.range zs.length).map (fun j => f (zs.getD j d)) = zs.map f := by
  apply List.ext_getElem
  · simp
  · intro j h1 h2
    have : j < zs.length := by simpa using h1
    simp [List.getD, this]
def cpK (zs : List Int) (k : Nat) : List Value := fillK zs.length k (fun j => .int .i64 (zs.getD j 0)) (.int .i64 0)
theorem cpK_zero (zs : List Int) : cpK zs 0 = List.replicate zs.length (Value.int .i64 0) := fillK_zero _ _ _
theorem cpK_end (zs : List Int) : cpK zs zs.length = zs.map (Value.int .i64) := by
  unfold cpK; rw [fillK_end]; exact range_getD zs 0 _
theorem cpK_length (zs : List Int) (k : Nat) : (cpK zs k).length = zs.length := fillK_length _ _ _ _
theorem cpK_succ {zs : List Int} {k : Nat} (h : k < zs.length) : (cpK zs k).set k (.int .i64 (zs.getD k 0)) = cpK zs (k + 1) := fillK_succ (fun j => .int .i64 (zs.getD j 0)) _ h

set_option maxHeartbeats 400000 in
theorem toIntS_any (a : Option Addr) (cap : Nat) (zs : List Int) (w : World) (hlen : zs.length ≤ 1048576) (h : IntsAt w a zs) :
    Calls Try.prog 11 #[.slice a zs.length cap] w fun e w' => e = .returned (.slice (some ⟨w.heap.size, 0, none⟩) zs.length zs.length) ∧
      w'.ownsRow w.heap.size 3 1 (.slice (some ⟨w.heap.size, 0, none⟩) zs.length zs.length) zs.length (zs.map (Value.int .i64)) ∧ Below w.heap.size w w' := by
  have H := Lib.hid h; clear h
  obtain ⟨i0, hi, hz0, hz1, hz2⟩ := info_parts Try.infoInt
  have HI := Lib.hid hi; clear hi
  have H0 := Lib.hid hz0; clear hz0
  have H1 := Lib.hid hz1; clear hz1
  have h2 := Lib.hid hz2; clear hz2
  go_enter Try.func11, Try.ntmps11
  go_wp2_with (at_make; refine wpList_make_full _ rfl _ _ 22 rfl w.heap.size 3 i0 (.int .i64 0) 1 Try.underlying22 HI.out H0.out H1.out _ _ _ _ zs.length rfl rfl rfl rfl ?c1 ?c2 ?c3 ?_)
  case c1 => rw [h2.out]; omega
  case c2 => unfold maxLen; omega
  case c3 => exact Nat.le_refl _
  intro w1 hown hgrow
  have hown : w1.ownsRow w.heap.size 3 1 (.slice (some ⟨w.heap.size, 0, none⟩) zs.length zs.length) zs.length (cpK zs 0) := by
    rw [cpK_zero]; rw [← toList_madeCells_one]; simpa [Value.cells] using hown
  have hb : Below w.heap.size w w1 := (Below.refl _ _).grown hgrow (Nat.le_refl _) (fun k hk => by cases hk)
  have HO := Lib.hid hown; clear hown
  have HB := Lib.hid hb; clear hb hgrow
  go_wp2
  go_loopw [4] (fun i wr => ∃ k : Nat, k ≤ zs.length ∧ i = .int .i64 k ∧ wr.ownsRow w.heap.size 3 1 (.slice (some ⟨w.heap.size, 0, none⟩) zs.length zs.length) zs.length (cpK zs k) ∧ Below w.heap.size w wr) (fun i _ => zs.length - (intOf i).toNat)
  case atStart => exact ⟨0, by omega, rfl, HO.out, HB.out⟩
  case round =>
    obtain ⟨k, hk, rfl, hown, hb⟩ := hrel
    clear HO HB
    by_cases hlt : k < zs.length
    · have hc1 := hown.cellAt k (by omega)
      rw [List.getElem?_eq_getElem (by rw [cpK_length]; exact hlt)] at hc1
      have hf1 := hown.frozenAt k
      have R := hown.stored k (.int .i64 (zs.getD k 0))
      rw [cpK_succ hlt] at R
      obtain ⟨b, off, rfl, hcell⟩ := (H.out.below (Nat.le_refl _) hb).at hlt
      have hb2 := hb.setCell (p := ⟨w.heap.size, k, none⟩) (Nat.le_refl _) (.int .i64 (zs.getD k 0))
      generalize hx : zs.getD k 0 = x at hcell R hb2
      have HR := Lib.hid R.1; clear R
      have HB := Lib.hid hb2; clear hb2 hb hown hx
      go_wp2
      go_roundw
      case rel => exact ⟨k + 1, by omega, by go_num, HR.out, HB.out⟩
      case measure => simp [intOf]; omega
    · have e : k = zs.length := by omega
      subst e
      rw [cpK_end] at hown
      have HO := Lib.hid hown; clear hown
      have HB := Lib.hid hb; clear hb
      go_wp2
      go_ret
      exact ⟨rfl, HO.out, HB.out⟩

set_option maxHeartbeats 400000 in
theorem eqIntS_any (a a' : Option Addr) (cap cap' : Nat) (zs ys : List Int) (w : World) (hlen : zs.length ≤ 9223372036854775807) (hlen' : ys.length ≤ 9223372036854775807) (h : IntsAt w a zs) (h' : IntsAt w a' ys) :
    Calls Try.prog 13 #[.slice a zs.length cap, .slice a' ys.length cap'] w fun e w' => e = .returned (.bool (decide (zs = ys))) ∧ Below w.heap.size w w' := by
  have H := Lib.hid h; clear h
  have H' := Lib.hid h'; clear h'
  by_cases hl : zs.length = ys.length
  · have HL := Lib.hid hl
    have hne : ((zs.length : Int) != (ys.length : Int)) = false := by rw [hl]; simp
    clear hl
    go_enter Try.func13, Try.ntmps13
    go_wp2
    go_loopw [5] (fun i wr => ∃ k : Nat, k ≤ zs.length ∧ i = .int .i64 k ∧ (∀ j, j < k → zs.getD j 0 = ys.getD j 0) ∧ Below w.heap.size w wr) (fun i _ => zs.length - (intOf i).toNat)
    case atStart => exact ⟨0, by omega, rfl, by intro j h; omega, Below.refl _ _⟩
    case round =>
      obtain ⟨k, hk, rfl, hall, hb⟩ := hrel
      have HA := Lib.hid hall; clear hall
      have HB := Lib.hid hb; clear hb
      by_cases hlt : k < zs.length
      · obtain ⟨b, off, rfl, hc1⟩ := (H.out.below (Nat.le_refl _) HB.out).at hlt
        have hlt' : k < ys.length := by rw [← HL.out]; exact hlt
        obtain ⟨b', off', rfl, hc2⟩ := (H'.out.below (Nat.le_refl _) HB.out).at hlt'
        generalize hx : zs.getD k 0 = x at hc1
        generalize hy : ys.getD k 0 = y at hc2
        have HX := Lib.hid hx; clear hx
        have HY := Lib.hid hy; clear hy
        by_cases hxy : x = y
        · have hq : (x != y) = false := by rw [hxy]; simp
          have HQ := Lib.hid hxy; clear hxy
          go_wp2_with fail
          go_quiet (fail)
          go_wp2
          go_roundw
          case rel =>
            refine ⟨k + 1, by omega, by go_num, fun j hj => ?_, below_drewN HB.out _⟩
            rcases Nat.lt_succ_iff_lt_or_eq.1 hj with h | rfl
            · exact HA.out j h
            · rw [HX.out, HY.out, HQ.out]
          case measure => simp [intOf]; omega
        · have hq : (x != y) = true := by simpa using hxy
          have HQ := Lib.hid hxy; clear hxy
          go_wp2_with fail
          go_quiet (fail)
          go_wp2
          go_ret
          refine ⟨ret_bool ?_, below_drewN HB.out _⟩
          symm; apply decide_eq_false
          intro e
          exact HQ.out (by rw [← HX.out, ← HY.out, e])
      · go_wp2
        go_ret
        refine ⟨ret_bool ?_, HB.out⟩
        symm; apply decide_eq_true
        apply List.ext_getElem HL.out
        intro j h1 h2
        have := HA.out j (by omega)
        simpa [List.getD, h1, h2] using this
  · have hne : ((zs.length : Int) != (ys.length : Int)) = true := by simpa using (by omega : ¬ (zs.length : Int) = ys.length)
    have HL := Lib.hid hl; clear hl
    go_enter Try.func13, Try.ntmps13
    go_wp2
    go_ret
    refine ⟨ret_bool ?_, Below.refl _ _⟩
    symm; apply decide_eq_false
    intro e
    exact HL.out (by rw [e])

theorem ownInts {w : World} {base : Nat} {a : Option Addr} {n c : Nat} {zs : List Int} (h : w.ownsRow base 3 1 (.slice a n c) n (zs.map (Value.int .i64))) : IntsAt w a zs := ints_of_own h

def fpAns (zs : List Int) (p : Int) : Int × Bool := if okList zs && inB p 0 999982 then (fprint zs p, true) else (0, false)

set_option maxHeartbeats 400000 in
theorem specFingerprint_any (a : Option Addr) (cap : Nat) (zs : List Int) (p : Int) (w : World) (hbig : zs.length ≤ 9223372036854775807) (h : IntsAt w a zs) :
    Calls Try.prog 10 #[.slice a zs.length cap, .int .i64 p] w fun e w' => e = .returned (.tuple #[.int .i64 (fpAns zs p).1, .bool (fpAns zs p).2]) ∧ w = w' := by
  have HL := Lib.hid (l2List_any a cap zs w hbig h)
  have HN := Lib.hid (l1In_any p 0 999982 w)
  cases h1 : okList zs
  · have HA : fpAns zs p = (0, false) := by simp [fpAns, h1]
    rw [HA]
    rw [h1] at HL
    clear h HA h1
    go_enter Try.func10, Try.ntmps10
    go_wp2_with (go_at_call 36; refine HL.out.mono ?_; rintro e w' ⟨rfl, rfl⟩)
    go_ret2
    exact ⟨rfl, rfl⟩
  cases h2 : inB p 0 999982
  · have HA : fpAns zs p = (0, false) := by simp [fpAns, h1, h2]
    rw [HA]
    rw [h1] at HL
    rw [h2] at HN
    clear h HA h1 h2
    go_enter Try.func10, Try.ntmps10
    go_wp2_with (first | (go_at_call 36; refine HL.out.mono ?_; rintro e w' ⟨rfl, rfl⟩) | (go_at_call 37; refine HN.out.mono ?_; rintro e w' ⟨rfl, rfl⟩))
    go_ret2
    exact ⟨rfl, rfl⟩
  · have HA : fpAns zs p = (fprint zs p, true) := by simp [fpAns, h1, h2]
    rw [HA]
    have HP := Lib.hid (l24Print_any a cap zs p w h1 (inB_iff.1 h2).1 (inB_iff.1 h2).2 h)
    rw [h1] at HL
    rw [h2] at HN
    clear h HA h1 h2
    go_enter Try.func10, Try.ntmps10
    go_wp2_with (first | (go_at_call 36; refine HL.out.mono ?_; rintro e w' ⟨rfl, rfl⟩) | (go_at_call 37; refine HN.out.mono ?_; rintro e w' ⟨rfl, rfl⟩) | (go_at_call 38; refine HP.out.mono ?_; rintro e w' ⟨rfl, rfl⟩))
    go_ret2
    exact ⟨rfl, rfl⟩

end Go.Proofs.Ytjlebikidoedmaa
