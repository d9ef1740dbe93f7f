/- Walks: records: copies, comparisons, checks. -/
import Derived.Test.YtkckmjajjdpodaaKc
import Derived.Test.YtkckmjajjdpodaaWt0
import Derived.Test.YtkckmjajjdpodaaWa0
namespace Go.Proofs.Ytkckmjajjdpodaa
open Go.RowKit
set_option linter.unusedVariables false

theorem Try.infoRec : (Try.prog.info? 72).map (fun i => (i.zero, i.size, i.bytes)) = some (some (.agg #[.int .i64 0, .int .i64 0]), 2, 16) := by kernel_rfl
theorem slRec : SlT Try.prog 24 72 (.agg #[.int .i64 0, .int .i64 0]) 2 16 := ⟨Try.underlying24, info_parts Try.infoRec, rfl, by decide, by decide⟩

set_option maxHeartbeats 400000 in
theorem toRecord_any (k t : Int) (w : World) :
    Calls Try.prog 95 #[.agg #[.int .i64 k, .int .i64 t]] w fun e w' => e = .returned (.agg #[.int .i64 k, .int .i64 t]) ∧ Below w.heap.size w w' := by
  go_enter Try.func95, Try.ntmps95
  go_wp2
  refine bodyPost_ret (v := .agg #[.int .i64 k, .int .i64 t]) (by simp [results, Try.results95, go_sem]) rfl ⟨rfl, ?_⟩
  (repeat (first | exact Below.refl _ _ | assumption | refine Below.setCell ?_ (by first | omega | (simp; done) | (simp; omega)) _ | refine Below.alloc ?_ (by first | omega | (simp; done) | (simp; omega)) _ | refine Below.drew ?_ | refine below_drewN ?_ _))

set_option maxHeartbeats 400000 in
theorem szRecordS_yes (a : Option Addr) (c : Nat) (rs : List (Int × Int)) (l : Int) (w : World) (h0 : -1 ≤ l) (h1 : l ≤ 1048576) (h : rs.length ≤ l) :
    Calls Try.prog 27 #[.slice a rs.length c, .int .i64 l] w fun e w' => e = .returned (.int .i64 (l - rs.length)) ∧ w = w' := by
  go_enter Try.func27, Try.ntmps27
  go_wp2
  go_ret
  exact ⟨rfl, rfl⟩

set_option maxHeartbeats 400000 in
theorem szRecordS_no (a : Option Addr) (c : Nat) (rs : List (Int × Int)) (l : Int) (w : World) (hl : rs.length ≤ 9223372036854775807) (h1 : 0 ≤ l) (h2 : l ≤ 1048576) (h : l < rs.length) :
    Calls Try.prog 27 #[.slice a rs.length c, .int .i64 l] w fun e w' => e = .returned (.int .i64 (-1)) ∧ w = w' := by
  go_enter Try.func27, Try.ntmps27
  go_wp2
  go_ret
  exact ⟨rfl, rfl⟩

set_option maxHeartbeats 400000 in
theorem eqRecord_any (k t k' t' : Int) (w : World) :
    Calls Try.prog 98 #[.agg #[.int .i64 k, .int .i64 t], .agg #[.int .i64 k', .int .i64 t']] w fun e w' => e = .returned (.bool (decide ((k, t) = (k', t')))) ∧ Below w.heap.size w w' := by
  by_cases h1 : k = k'
  · subst h1
    have e1 : (k != k) = false := by simp
    by_cases h2 : t = t'
    · subst h2
      have e2 : (t != t) = false := by simp
      go_enter Try.func98, Try.ntmps98
      go_wp2
      go_ret
      exact ⟨ret_bool (by simp), ((Below.refl _ _).alloc (Nat.le_refl _) _).alloc (by simp) _⟩
    · have e2 : (t != t') = true := by simpa using h2
      go_enter Try.func98, Try.ntmps98
      go_wp2
      go_ret
      exact ⟨ret_bool (by simp [h2]), ((Below.refl _ _).alloc (Nat.le_refl _) _).alloc (by simp) _⟩
  · have e1 : (k != k') = true := by simpa using h1
    go_enter Try.func98, Try.ntmps98
    go_wp2
    go_ret
    exact ⟨ret_bool (by simp [h1]), ((Below.refl _ _).alloc (Nat.le_refl _) _).alloc (by simp) _⟩

def okRec (r : Int × Int) : Bool := okKey r.1 && inB r.2 0 999
def okRecs (rs : List (Int × Int)) : Bool := decide (rs.length ≤ 64) && rs.all okRec

theorem okRecs_no {zs : List (Int × Int)} {k : Nat} (hk : k < zs.length) (h : okRec (zs.getD k (0, 0)) = false) : okRecs zs = false := by
  unfold okRecs
  rw [Bool.and_eq_false_iff]; right
  rw [List.all_eq_false]
  exact ⟨zs[k], List.getElem_mem hk, by simpa [List.getD, hk] using h⟩

theorem okRecs_yes {zs : List (Int × Int)} (h : ∀ j, j < zs.length → okRec (zs.getD j (0, 0)) = true) : okRecs zs = decide (zs.length ≤ 64) := by
  unfold okRecs
  have : zs.all okRec = true := by
    rw [List.all_eq_true]
    intro x hx
    obtain ⟨j, hj, rfl⟩ := List.getElem_of_mem hx
    have := h j hj
    simpa [List.getD, hj] using this
  rw [this, Bool.and_true]

theorem okRecs_at {zs : List (Int × Int)} (h : okRecs zs = true) {k : Nat} (hk : k < zs.length) : -100000 ≤ (zs.getD k (0, 0)).1 ∧ (zs.getD k (0, 0)).1 ≤ 100000 ∧ 0 ≤ (zs.getD k (0, 0)).2 ∧ (zs.getD k (0, 0)).2 ≤ 999 := by
  unfold okRecs at h
  simp only [Bool.and_eq_true, List.all_eq_true] at h
  have := h.2 zs[k] (List.getElem_mem hk)
  simp [okRec, okKey, inB] at this
  simp [List.getD, hk]
  omega

theorem okRecs_len {zs : List (Int × Int)} (h : okRecs zs = true) : zs.length ≤ 64 := by
  unfold okRecs at h; simp at h; exact h.1

set_option maxHeartbeats 400000 in
theorem l2Records_any (a : Option Addr) (cap : Nat) (zs : List (Int × Int)) (w : World) (hbig : zs.length ≤ 9223372036854775807) (h : RecsAt w a zs) :
    Calls Try.prog 83 #[.slice a zs.length cap] w fun e w' => e = .returned (.bool (okRecs zs)) ∧ w = w' := by
  have H := Lib.hid h; clear h
  go_enter Try.func83, Try.ntmps83
  go_wp2
  go_loop [3] (fun i => ∃ k : Nat, k ≤ zs.length ∧ k ≤ 65 ∧ i = .int .i64 k ∧ ∀ j, j < k → okRec (zs.getD j (0, 0)) = true) (fun i => zs.length - (intOf i).toNat)
  case atStart => exact ⟨0, by omega, by omega, rfl, by intro j h; omega⟩
  case round =>
    obtain ⟨k, hk, hk2, rfl, hall⟩ := hrel
    have Hall := Lib.hid hall; clear hall
    by_cases h1 : k < zs.length
    · by_cases h2 : k ≤ 64
      · obtain ⟨b, off, rfl, hc1, hc2⟩ := H.out.at h1
        have hX : okRec (zs.getD k (0, 0)) = (inB (zs.getD k (0, 0)).1 (-100000) 100000 && inB (zs.getD k (0, 0)).2 0 999) := rfl
        have HX := Lib.hid hX; clear hX
        generalize (zs.getD k (0, 0)).1 = x at hc1 HX
        generalize (zs.getD k (0, 0)).2 = y at hc2 HX
        cases hq : inB x (-100000) 100000
        · have HL := Lib.hid (hq ▸ l1In_any x (-100000) 100000 w)
          have HQ := Lib.hid hq; clear hq
          go_wp2_with (go_at_call 89; refine HL.out.mono ?_; rintro e w' ⟨rfl, rfl⟩)
          go_ret
          exact ⟨ret_bool (by rw [okRecs_no h1 (by rw [HX.out, HQ.out, Bool.false_and])]), rfl⟩
        · have HL := Lib.hid (hq ▸ l1In_any x (-100000) 100000 w)
          have HQ := Lib.hid hq; clear hq
          have HL2 := Lib.hid (l1In_any y 0 999 w)
          go_wp2_with (first | (go_at_call 89; first | (with_reducible refine HL.out.mono ?_) | (with_reducible refine HL2.out.mono ?_); rintro e w' ⟨rfl, rfl⟩))
          · have hx : (!inB y 0 999) = true := by assumption
            go_ret
            exact ⟨ret_bool (by rw [okRecs_no h1 (by rw [HX.out, HQ.out]; simpa using hx)]), rfl⟩
          · have hx : (!inB y 0 999) = false := by assumption
            go_round
            case rel =>
              refine ⟨k + 1, by omega, by omega, by go_num, fun j hj => ?_⟩
              rcases Nat.lt_succ_iff_lt_or_eq.1 hj with h | rfl
              · exact Hall.out j h
              · rw [HX.out, HQ.out]; simpa using hx
            case measure => simp [intOf]; omega
      · go_wp2
        go_ret
        have : okRecs zs = false := by unfold okRecs; simp; omega
        exact ⟨ret_bool (by rw [this]; simp; omega), rfl⟩
    · go_wp2
      go_ret
      exact ⟨ret_bool (by rw [okRecs_yes (fun j hj => Hall.out j (by omega))]; exact decide_eq_decide.2 (by omega)), rfl⟩

theorem ownRecs {w : World} {base : Nat} {a : Option Addr} {n c : Nat} {rs : List (Int × Int)} (h : w.ownsRow base 72 2 (.slice a n c) n (flat encR rs)) : RecsAt w a rs := recs_of_own h

set_option maxHeartbeats 800000 in
theorem toRecordS_any (a : Option Addr) (cap : Nat) (zs : List (Int × Int)) (w : World) (hlen : zs.length ≤ 1048576) (h : RecsAt w a zs) :
    Calls Try.prog 29 #[.slice a zs.length cap] w fun e w' => e = .returned (.slice (some ⟨w.heap.size, 0, none⟩) zs.length zs.length) ∧
      w'.ownsRow w.heap.size 72 2 (.slice (some ⟨w.heap.size, 0, none⟩) zs.length zs.length) zs.length (flat encR zs) ∧ Below w.heap.size w w' := by
  have H := Lib.hid h; clear h
  go_enter Try.func29, Try.ntmps29
  go_wp2_with (at_make; refine wpList_mk slRec rfl _ _ rfl zs.length rfl rfl (by omega) ?_)
  intro w1 hown hb hsz
  have hown : w1.ownsRow w.heap.size 72 2 (.slice (some ⟨w.heap.size, 0, none⟩) zs.length zs.length) zs.length (flat encR (fillL zs.length 0 (fun j => zs.getD j (0, 0)) (0, 0))) := by
    rw [fillL_zero, ← made2 encR_len (0, 0) (.int .i64 0) (.int .i64 0) rfl]; exact hown
  have HO := Lib.hid hown; clear hown
  have HB := Lib.hid hb; clear hb hsz
  go_wp2
  go_loopw [4] (fun i wr => ∃ k : Nat, k ≤ zs.length ∧ i = .int .i64 k ∧ wr.ownsRow w.heap.size 72 2 (.slice (some ⟨w.heap.size, 0, none⟩) zs.length zs.length) zs.length (flat encR (fillL zs.length k (fun j => zs.getD j (0, 0)) (0, 0))) ∧ Below w.heap.size w wr) (fun i _ => zs.length - (intOf i).toNat)
  case atStart => exact ⟨0, by omega, rfl, HO.out, HB.out⟩
  case round =>
    obtain ⟨k, hk, rfl, hown, hb⟩ := hrel
    clear HO HB
    by_cases hlt : k < zs.length
    · obtain ⟨b, off, rfl, hc1, hc2⟩ := (H.out.below (Nat.le_refl _) hb).at hlt
      have HR : Hid (encR (zs.getD k (0, 0)) = [.int .i64 (zs.getD k (0, 0)).1, .int .i64 (zs.getD k (0, 0)).2]) := rfl
      have HF := Lib.hid (fillL_succ (fun j => zs.getD j (0, 0)) (0, 0) hlt)
      generalize hr : zs.getD k (0, 0) = r at hc1 hc2 HR HF
      have HZ := Lib.hid hr; clear hr
      obtain ⟨x, y⟩ := r
      have HOW := Lib.hid hown; clear hown
      have HB := Lib.hid hb; clear hb
      go_wp2_with fail
      refine (toRecord_any x y _).mono ?_
      rintro e w2 ⟨rfl, hb2⟩
      have HO2 := Lib.hid (own_below HOW.out (Nat.le_refl _) hb2)
      have HB2 := Lib.hid (HB.out.trans (hb2.mono (HB.out.size)))
      clear hb2
      go_wp2_with (refine wpList_put slRec rfl (.tmp 21) (.tmp 20) rfl k rfl [.int .i64 x, .int .i64 y] rfl rfl (by simp [Value.oneCell']) HO2.out hlt ?_)
      intro w3 ho3 hg3
      have HB3 := Lib.hid (below_app HB2.out HB2.out.size HO2.out (Nat.le_refl _) hg3)
      have hq := flat_put encR_len _ k (by rw [fillL_length]; exact hlt : k < (fillL zs.length k (fun j => zs.getD j (0, 0)) (0, 0)).length) (x, y)
      rw [HF.out] at hq
      have ho4 : w3.ownsRow w.heap.size 72 2 (.slice (some ⟨w.heap.size, 0, none⟩) zs.length zs.length) zs.length (flat encR (fillL zs.length (k + 1) (fun j => zs.getD j (0, 0)) (0, 0))) := by
        rw [← hq]; simpa [encR] using ho3
      have HO3 := Lib.hid ho4; clear ho4
      clear ho3 hg3 hq
      go_wp2
      go_roundw
      case rel => exact ⟨k + 1, by omega, by go_num, HO3.out, HB3.out⟩
      case measure => simp [intOf]; omega
    · have e : k = zs.length := by omega
      subst e
      rw [fillL_end] at hown
      have HO := Lib.hid hown; clear hown
      have HB := Lib.hid hb; clear hb
      go_wp2
      go_ret
      exact ⟨rfl, HO.out, HB.out⟩

set_option maxRecDepth 100000 in
set_option maxHeartbeats 800000 in
theorem eqRecordS_any (a a' : Option Addr) (cap cap' : Nat) (zs ys : List (Int × Int)) (w : World) (hlen : zs.length ≤ 9223372036854775807) (hlen' : ys.length ≤ 9223372036854775807) (h : RecsAt w a zs) (h' : RecsAt w a' ys) :
    Calls Try.prog 32 #[.slice a zs.length cap, .slice a' ys.length cap'] w fun e w' => e = .returned (.bool (decide (zs = ys))) ∧ Below w.heap.size w w' := by
  have H := Lib.hid h; clear h
  have H' := Lib.hid h'; clear h'
  by_cases hl : zs.length = ys.length
  · have HL := Lib.hid hl
    have hne : ((zs.length : Int) != (ys.length : Int)) = false := by rw [hl]; simp
    clear hl
    go_enter Try.func32, Try.ntmps32
    go_wp2
    go_loopw [5] (fun i wr => ∃ k : Nat, k ≤ zs.length ∧ i = .int .i64 k ∧ (∀ j, j < k → zs.getD j (0, 0) = ys.getD j (0, 0)) ∧ Below w.heap.size w wr) (fun i _ => zs.length - (intOf i).toNat)
    case atStart => exact ⟨0, by omega, rfl, by intro j h; omega, Below.refl _ _⟩
    case round =>
      obtain ⟨k, hk, rfl, hall, hb⟩ := hrel
      have HA := Lib.hid hall; clear hall
      have HB := Lib.hid hb; clear hb
      by_cases hlt : k < zs.length
      · obtain ⟨b, off, rfl, hc1, hc2⟩ := (H.out.below (Nat.le_refl _) HB.out).at hlt
        have hlt' : k < ys.length := by rw [← HL.out]; exact hlt
        obtain ⟨b', off', rfl, hc3, hc4⟩ := (H'.out.below (Nat.le_refl _) HB.out).at hlt'
        generalize hx : zs.getD k (0, 0) = x at hc1 hc2
        generalize hy : ys.getD k (0, 0) = y at hc3 hc4
        have HX := Lib.hid hx; clear hx
        have HY := Lib.hid hy; clear hy
        obtain ⟨x1, x2⟩ := x
        obtain ⟨y1, y2⟩ := y
        go_wp2_with fail
        go_still_tail 8, (by kernel_rfl)
        go_wp2_with fail
        refine (eqRecord_any x1 x2 y1 y2 _).mono ?_
        rintro e w2 ⟨rfl, hb2⟩
        have HB2 := Lib.hid (HB.out.trans ((Below.refl _ _).drew.trans (hb2.mono HB.out.size)))
        clear hb2
        by_cases hxy : (x1, x2) = (y1, y2)
        · have hd : decide ((x1, x2) = (y1, y2)) = true := decide_eq_true hxy
          rw [hd]
          have HQ := Lib.hid hxy; clear hxy hd
          go_wp2
          go_roundw
          case rel =>
            refine ⟨k + 1, by omega, by go_num, fun j hj => ?_, HB2.out⟩
            rcases Nat.lt_succ_iff_lt_or_eq.1 hj with h | rfl
            · exact HA.out j h
            · rw [HX.out, HY.out, HQ.out]
          case measure => simp [intOf]; omega
        · have hd : decide ((x1, x2) = (y1, y2)) = false := decide_eq_false hxy
          rw [hd]
          have HQ := Lib.hid hxy; clear hxy hd
          go_wp2
          go_ret
          refine ⟨ret_bool ?_, HB2.out⟩
          symm; apply decide_eq_false
          intro e
          exact HQ.out (by rw [← HX.out, ← HY.out, e])
      · go_wp2
        go_ret
        refine ⟨ret_bool ?_, HB.out⟩
        symm; apply decide_eq_true
        apply List.ext_getElem HL.out
        intro j h1 h2
        have := HA.out j (by omega)
        simpa [List.getD, h1, h2] using this
  · have hne : ((zs.length : Int) != (ys.length : Int)) = true := by simpa using (by omega : ¬ (zs.length : Int) = ys.length)
    have HL := Lib.hid hl; clear hl
    go_enter Try.func32, Try.ntmps32
    go_wp2
    go_ret
    refine ⟨ret_bool ?_, Below.refl _ _⟩
    symm; apply decide_eq_false
    intro e
    exact HL.out (by rw [e])

end Go.Proofs.Ytkckmjajjdpodaa
