/- Walks: valid permutations. -/
import Derived.Test.YtjlebikidoedmaaWd
namespace Go.Proofs.Ytjlebikidoedmaa
open Go.RowKit
set_option linter.unusedVariables false

theorem Try.infoBool : (Try.prog.info? 4).map (fun i => (i.zero, i.size, i.bytes)) = some (some (.bool false), 1, 1) := by kernel_rfl
theorem slBool : SlT Try.prog 94 4 (.bool false) 1 1 := ⟨Try.underlying94, info_parts Try.infoBool, rfl, by decide, by decide⟩

/-- Every index of a list passes a test. -/
def allIx (n : Nat) (q : Nat → Bool) : Bool := (List.range n).all q
theorem allIx_no {n : Nat} {q : Nat → Bool} {k : Nat} (hk : k < n) (h : q k = false) : allIx n q = false := by
  unfold allIx; rw [List.all_eq_false]; exact ⟨k, by simpa using hk, by simp [h]⟩
theorem allIx_yes {n : Nat} {q : Nat → Bool} (h : ∀ k, k < n → q k = true) : allIx n q = true := by
  unfold allIx; rw [List.all_eq_true]; intro k hk; exact h k (by simpa using hk)
theorem allIx_at {n : Nat} {q : Nat → Bool} (h : allIx n q = true) {k : Nat} (hk : k < n) : q k = true := by
  unfold allIx at h; rw [List.all_eq_true] at h; exact h k (by simpa using hk)

def permOk (p : List Int) (k : Nat) : Bool := inB (p.getD k 0) 0 (p.length - 1) && !decide (p.getD k 0 ∈ p.take k)
def okPerm (p : List Int) : Bool := decide (p.length ≤ 64) && allIx p.length (permOk p)
theorem okPerm_at {p : List Int} (h : okPerm p = true) {k : Nat} (hk : k < p.length) : 0 ≤ p.getD k 0 ∧ p.getD k 0 < p.length := by
  unfold okPerm at h; rw [Bool.and_eq_true] at h
  have := allIx_at h.2 hk
  unfold permOk at this; rw [Bool.and_eq_true, inB_iff] at this
  omega
theorem okPerm_len {p : List Int} (h : okPerm p = true) : p.length ≤ 64 := by
  unfold okPerm at h; rw [Bool.and_eq_true] at h; simpa using h.1

def seenL (p : List Int) (k : Nat) : List Value := (List.range p.length).map fun j : Nat => Value.bool (decide ((j : Int) ∈ p.take k))
theorem seenL_len (p : List Int) (k : Nat) : (seenL p k).length = p.length := by simp [seenL]
theorem seenL_zero (p : List Int) : seenL p 0 = List.replicate p.length (.bool false) := by
  apply List.ext_getElem <;> simp [seenL]
theorem seenL_at {p : List Int} {k j : Nat} (hj : j < p.length) : (seenL p k)[j]? = some (.bool (decide ((j : Int) ∈ p.take k))) := by simp [seenL, hj]
theorem seenL_succ {p : List Int} {k j : Nat} (hk : k < p.length) (hj : p.getD k 0 = j) : (seenL p k).set j (.bool true) = seenL p (k + 1) := by
  apply List.ext_getElem
  · simp [seenL]
  · intro i h1 h2
    have e : p.take (k + 1) = p.take k ++ [(j : Int)] := by
      rw [List.take_add_one, ← hj]; simp [List.getD, List.getElem?_eq_getElem hk]
    simp only [seenL, List.getElem_set, List.getElem_map, List.getElem_range, e]
    by_cases e2 : j = i
    · subst e2; simp
    · rw [if_neg e2]
      have : ¬ ((i : Int) = (j : Int)) := by omega
      simp [this]

set_option maxHeartbeats 400000 in
theorem isValidPermutation_any (a : Option Addr) (cap : Nat) (zs : List Int) (w : World) (hbig : zs.length ≤ 9223372036854775807) (h : IntsAt w a zs) :
    Calls Try.prog 70 #[.slice a zs.length cap] w fun e w' => e = .returned (.bool (okPerm zs)) ∧ Below w.heap.size w w' := by
  by_cases hl : zs.length ≤ 64
  case neg =>
    have hf : okPerm zs = false := by unfold okPerm; simp; omega
    have HE := Lib.hid hf; clear hf
    go_enter Try.func70, Try.ntmps70
    go_wp2
    go_ret
    exact ⟨ret_bool HE.out.symm, Below.refl _ _⟩
  have HE : Hid (okPerm zs = allIx zs.length (permOk zs)) := by show _ = _; unfold okPerm; simp [hl]
  have H := Lib.hid h; clear h
  go_enter Try.func70, Try.ntmps70
  go_wp2_with (at_make; refine wpList_mk slBool rfl _ _ rfl zs.length rfl rfl (by omega) ?_)
  intro w1 hown hb hsz
  have hown : w1.ownsRow w.heap.size 4 1 (.slice (some ⟨w.heap.size, 0, none⟩) zs.length zs.length) zs.length (seenL zs 0) := by
    rw [seenL_zero, ← toList_madeCells_one]; simpa [Value.cells] using hown
  have HO := Lib.hid hown; clear hown
  have HB := Lib.hid hb; clear hb hsz
  go_wp2
  go_loopw [5, 14] (fun _ i wr => ∃ k : Nat, k ≤ zs.length ∧ i = .int .i64 k ∧ (∀ j, j < k → permOk zs j = true) ∧ wr.ownsRow w.heap.size 4 1 (.slice (some ⟨w.heap.size, 0, none⟩) zs.length zs.length) zs.length (seenL zs k) ∧ Below w.heap.size w wr) (fun _ i _ => zs.length - (intOf i).toNat)
  case atStart => exact ⟨0, by omega, rfl, by intro j h; omega, HO.out, HB.out⟩
  case round =>
    obtain ⟨k, hk, rfl, hall, hown, hb⟩ := hrel
    have HA := Lib.hid hall; clear hall HO HB
    have HB := Lib.hid hb; clear hb
    by_cases hlt : k < zs.length
    · obtain ⟨b, off, rfl, hcell⟩ := (H.out.below (Nat.le_refl _) HB.out).at hlt
      have HX : Hid (permOk zs k = (inB (zs.getD k 0) 0 (zs.length - 1) && !decide (zs.getD k 0 ∈ zs.take k))) := rfl
      generalize hx : zs.getD k 0 = x at hcell HX
      cases hin : inB x 0 (zs.length - 1)
      · have HI := Lib.hid (fun w1 => hin ▸ in_any x 0 (zs.length - 1) w1)
        have HZ := Lib.hid hin
        have HO := Lib.hid hown; clear hown hx hin
        go_wp2_with (go_at_call 40; refine (HI.out _).mono ?_; rintro e w' ⟨rfl, rfl⟩)
        go_ret
        exact ⟨ret_bool (by rw [HE.out, allIx_no hlt (by rw [HX.out, HZ.out, Bool.false_and])]), HB.out⟩
      · obtain ⟨hx0, hx1⟩ := inB_iff.1 hin
        obtain ⟨j, rfl⟩ := Int.eq_ofNat_of_zero_le hx0
        have hj : j < zs.length := by omega
        have HI := Lib.hid (fun w1 => hin ▸ in_any j 0 (zs.length - 1) w1)
        have hc1 := hown.cellAt j (by omega)
        rw [seenL_at hj] at hc1
        have hf1 := hown.frozenAt j
        have R := hown.stored j (.bool true)
        rw [seenL_succ hlt hx] at R
        have HR := Lib.hid R
        have HZ := Lib.hid hin
        by_cases hs : (j : Int) ∈ zs.take k
        · rw [decide_eq_true hs] at hc1
          have HS := Lib.hid hs
          clear R hown hx hin hs hx0 hx1
          go_wp2_with (go_at_call 40; refine (HI.out _).mono ?_; rintro e w' ⟨rfl, rfl⟩)
          go_ret
          exact ⟨ret_bool (by rw [HE.out, allIx_no hlt (by rw [HX.out, decide_eq_true HS.out]; simp)]), HB.out⟩
        · rw [decide_eq_false hs] at hc1
          have HS := Lib.hid hs
          clear R hown hx hin hs hx0 hx1
          go_wp2_with (go_at_call 40; refine (HI.out _).mono ?_; rintro e w' ⟨rfl, rfl⟩)
          go_roundw
          case rel =>
            refine ⟨k + 1, by omega, by go_num, fun q hq => ?_, HR.out.1, HB.out.setCell (Nat.le_refl _) _⟩
            rcases Nat.lt_succ_iff_lt_or_eq.1 hq with h | rfl
            · exact HA.out q h
            · rw [HX.out, HZ.out, decide_eq_false HS.out]; rfl
          case measure => simp [intOf]; omega
    · clear hown
      go_wp2
      go_ret
      exact ⟨ret_bool (by rw [HE.out, allIx_yes (fun j hj => HA.out j (by omega))]), HB.out⟩

set_option maxHeartbeats 400000 in
theorem l3Good_any (a : Option Addr) (cap : Nat) (zs : List Int) (w : World) (hbig : zs.length ≤ 9223372036854775807) (h : IntsAt w a zs) :
    Calls Try.prog 69 #[.slice a zs.length cap] w fun e w' => e = .returned (.bool (okPerm zs)) ∧ Below w.heap.size w w' := by
  by_cases hl : zs.length ≤ 64
  case neg =>
    have hf : okPerm zs = false := by unfold okPerm; simp; omega
    have HE := Lib.hid hf; clear hf
    go_enter Try.func69, Try.ntmps69
    go_wp2
    go_ret
    exact ⟨ret_bool HE.out.symm, Below.refl _ _⟩
  have HE : Hid (okPerm zs = allIx zs.length (permOk zs)) := by show _ = _; unfold okPerm; simp [hl]
  have H := Lib.hid h; clear h
  go_enter Try.func69, Try.ntmps69
  go_wp2_with (at_make; refine wpList_mk slBool rfl _ _ rfl zs.length rfl rfl (by omega) ?_)
  intro w1 hown hb hsz
  have hown : w1.ownsRow w.heap.size 4 1 (.slice (some ⟨w.heap.size, 0, none⟩) zs.length zs.length) zs.length (seenL zs 0) := by
    rw [seenL_zero, ← toList_madeCells_one]; simpa [Value.cells] using hown
  have HO := Lib.hid hown; clear hown
  have HB := Lib.hid hb; clear hb hsz
  go_wp2
  go_loopw [4] (fun i wr => ∃ k : Nat, k ≤ zs.length ∧ i = .int .i64 k ∧ (∀ j, j < k → permOk zs j = true) ∧ wr.ownsRow w.heap.size 4 1 (.slice (some ⟨w.heap.size, 0, none⟩) zs.length zs.length) zs.length (seenL zs k) ∧ Below w.heap.size w wr) (fun i _ => zs.length - (intOf i).toNat)
  case atStart => exact ⟨0, by omega, rfl, by intro j h; omega, HO.out, HB.out⟩
  case round =>
    obtain ⟨k, hk, rfl, hall, hown, hb⟩ := hrel
    have HA := Lib.hid hall; clear hall HO HB
    have HB := Lib.hid hb; clear hb
    by_cases hlt : k < zs.length
    · obtain ⟨b, off, rfl, hcell⟩ := (H.out.below (Nat.le_refl _) HB.out).at hlt
      have HX : Hid (permOk zs k = (inB (zs.getD k 0) 0 (zs.length - 1) && !decide (zs.getD k 0 ∈ zs.take k))) := rfl
      generalize hx : zs.getD k 0 = x at hcell HX
      cases hin : inB x 0 (zs.length - 1)
      · have HI := Lib.hid (fun w1 => hin ▸ l1In_any x 0 (zs.length - 1) w1)
        have HZ := Lib.hid hin
        have HO := Lib.hid hown; clear hown hx hin
        go_wp2_with (go_at_call 37; refine (HI.out _).mono ?_; rintro e w' ⟨rfl, rfl⟩)
        go_ret
        exact ⟨ret_bool (by rw [HE.out, allIx_no hlt (by rw [HX.out, HZ.out, Bool.false_and])]), HB.out⟩
      · obtain ⟨hx0, hx1⟩ := inB_iff.1 hin
        obtain ⟨j, rfl⟩ := Int.eq_ofNat_of_zero_le hx0
        have hj : j < zs.length := by omega
        have HI := Lib.hid (fun w1 => hin ▸ l1In_any j 0 (zs.length - 1) w1)
        have hc1 := hown.cellAt j (by omega)
        rw [seenL_at hj] at hc1
        have hf1 := hown.frozenAt j
        have R := hown.stored j (.bool true)
        rw [seenL_succ hlt hx] at R
        have HR := Lib.hid R
        have HZ := Lib.hid hin
        by_cases hs : (j : Int) ∈ zs.take k
        · rw [decide_eq_true hs] at hc1
          have HS := Lib.hid hs
          clear R hown hx hin hs hx0 hx1
          go_wp2_with (go_at_call 37; refine (HI.out _).mono ?_; rintro e w' ⟨rfl, rfl⟩)
          go_ret
          exact ⟨ret_bool (by rw [HE.out, allIx_no hlt (by rw [HX.out, decide_eq_true HS.out]; simp)]), HB.out⟩
        · rw [decide_eq_false hs] at hc1
          have HS := Lib.hid hs
          clear R hown hx hin hs hx0 hx1
          go_wp2_with (go_at_call 37; refine (HI.out _).mono ?_; rintro e w' ⟨rfl, rfl⟩)
          go_roundw
          case rel =>
            refine ⟨k + 1, by omega, by go_num, fun q hq => ?_, HR.out.1, HB.out.setCell (Nat.le_refl _) _⟩
            rcases Nat.lt_succ_iff_lt_or_eq.1 hq with h | rfl
            · exact HA.out q h
            · rw [HX.out, HZ.out, decide_eq_false HS.out]; rfl
          case measure => simp [intOf]; omega
    · clear hown
      go_wp2
      go_ret
      exact ⟨ret_bool (by rw [HE.out, allIx_yes (fun j hj => HA.out j (by omega))]), HB.out⟩

end Go.Proofs.Ytjlebikidoedmaa
