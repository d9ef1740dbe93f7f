/- Several texts in one: lemmas and walks of the functions that the laws reach. -/
import Derived.Test.YtkckmjajjdpodaaY0
import Derived.Laws.AppendOwnNone

/- Walks: records: copies, comparisons, checks. -/
namespace Go.Proofs.Ytkckmjajjdpodaa
open Go.RowKit
set_option linter.unusedVariables false

theorem Try.infoRec : (Try.prog.info? 72).map (fun i => (i.zero, i.size, i.bytes)) = some (some (.agg #[.int .i64 0, .int .i64 0]), 2, 16) := by kernel_rfl
theorem slRec : SlT Try.prog 24 72 (.agg #[.int .i64 0, .int .i64 0]) 2 16 := ⟨Try.underlying24, info_parts Try.infoRec, rfl, by decide, by decide⟩

set_option maxHeartbeats 400000 in
theorem toRecord_any (k t : Int) (w : World) :
    Calls Try.prog 95 #[.agg #[.int .i64 k, .int .i64 t]] w fun e w' => e = .returned (.agg #[.int .i64 k, .int .i64 t]) ∧ Below w.heap.size w w' := by
  go_enter Try.func95, Try.ntmps95
  go_wp2
  refine bodyPost_ret (v := .agg #[.int .i64 k, .int .i64 t]) (by simp [results, Try.results95, go_sem]) rfl ⟨rfl, ?_⟩
  (repeat (first | exact Below.refl _ _ | assumption | refine Below.setCell ?_ (by first | omega | (simp; done) | (simp; omega)) _ | refine Below.alloc ?_ (by first | omega | (simp; done) | (simp; omega)) _ | refine Below.drew ?_ | refine below_drewN ?_ _))

set_option maxHeartbeats 400000 in
theorem szRecordS_yes (a : Option Addr) (c : Nat) (rs : List (Int × Int)) (l : Int) (w : World) (h0 : -1 ≤ l) (h1 : l ≤ 1048576) (h : rs.length ≤ l) :
    Calls Try.prog 27 #[.slice a rs.length c, .int .i64 l] w fun e w' => e = .returned (.int .i64 (l - rs.length)) ∧ w = w' := by
  go_enter Try.func27, Try.ntmps27
  go_wp2
  go_ret
  exact ⟨rfl, rfl⟩

set_option maxHeartbeats 400000 in
theorem szRecordS_no (a : Option Addr) (c : Nat) (rs : List (Int × Int)) (l : Int) (w : World) (hl : rs.length ≤ 9223372036854775807) (h1 : 0 ≤ l) (h2 : l ≤ 1048576) (h : l < rs.length) :
    Calls Try.prog 27 #[.slice a rs.length c, .int .i64 l] w fun e w' => e = .returned (.int .i64 (-1)) ∧ w = w' := by
  go_enter Try.func27, Try.ntmps27
  go_wp2
  go_ret
  exact ⟨rfl, rfl⟩

set_option maxHeartbeats 400000 in
theorem eqRecord_any (k t k' t' : Int) (w : World) :
    Calls Try.prog 98 #[.agg #[.int .i64 k, .int .i64 t], .agg #[.int .i64 k', .int .i64 t']] w fun e w' => e = .returned (.bool (decide ((k, t) = (k', t')))) ∧ Below w.heap.size w w' := by
  by_cases h1 : k = k'
  · subst h1
    have e1 : (k != k) = false := by simp
    by_cases h2 : t = t'
    · subst h2
      have e2 : (t != t) = false := by simp
      go_enter Try.func98, Try.ntmps98
      go_wp2
      go_ret
      exact ⟨ret_bool (by simp), ((Below.refl _ _).alloc (Nat.le_refl _) _).alloc (by simp) _⟩
    · have e2 : (t != t') = true := by simpa using h2
      go_enter Try.func98, Try.ntmps98
      go_wp2
      go_ret
      exact ⟨ret_bool (by simp [h2]), ((Below.refl _ _).alloc (Nat.le_refl _) _).alloc (by simp) _⟩
  · have e1 : (k != k') = true := by simpa using h1
    go_enter Try.func98, Try.ntmps98
    go_wp2
    go_ret
    exact ⟨ret_bool (by simp [h1]), ((Below.refl _ _).alloc (Nat.le_refl _) _).alloc (by simp) _⟩

def okRec (r : Int × Int) : Bool := okKey r.1 && inB r.2 0 999
def okRecs (rs : List (Int × Int)) : Bool := decide (rs.length ≤ 64) && rs.all okRec

theorem okRecs_no {zs : List (Int × Int)} {k : Nat} (hk : k < zs.length) (h : okRec (zs.getD k (0, 0)) = false) : okRecs zs = false := by
  unfold okRecs
  rw [Bool.and_eq_false_iff]; right
  rw [List.all_eq_false]
  exact ⟨zs[k], List.getElem_mem hk, by simpa [List.getD, hk] using h⟩

theorem okRecs_yes {zs : List (Int × Int)} (h : ∀ j, j < zs.length → okRec (zs.getD j (0, 0)) = true) : okRecs zs = decide (zs.length ≤ 64) := by
  unfold okRecs
  have : zs.all okRec = true := by
    rw [List.all_eq_true]
    intro x hx
    obtain ⟨j, hj, rfl⟩ := List.getElem_of_mem hx
    have := h j hj
    simpa [List.getD, hj] using this
  rw [this, Bool.and_true]

theorem okRecs_at {zs : List (Int × Int)} (h : okRecs zs = true) {k : Nat} (hk : k < zs.length) : -100000 ≤ (zs.getD k (0, 0)).1 ∧ (zs.getD k (0, 0)).1 ≤ 100000 ∧ 0 ≤ (zs.getD k (0, 0)).2 ∧ (zs.getD k (0, 0)).2 ≤ 999 := by
  unfold okRecs at h
  simp only [Bool.and_eq_true, List.all_eq_true] at h
  have := h.2 zs[k] (List.getElem_mem hk)
  simp [okRec, okKey, inB] at this
  simp [List.getD, hk]
  omega

theorem okRecs_len {zs : List (Int × Int)} (h : okRecs zs = true) : zs.length ≤ 64 := by
  unfold okRecs at h; simp at h; exact h.1

set_option maxHeartbeats 400000 in
theorem l2Records_any (a : Option Addr) (cap : Nat) (zs : List (Int × Int)) (w : World) (hbig : zs.length ≤ 9223372036854775807) (h : RecsAt w a zs) :
    Calls Try.prog 83 #[.slice a zs.length cap] w fun e w' => e = .returned (.bool (okRecs zs)) ∧ w = w' := by
  have H := Lib.hid h; clear h
  go_enter Try.func83, Try.ntmps83
  go_wp2
  go_loop [3] (fun i => ∃ k : Nat, k ≤ zs.length ∧ k ≤ 65 ∧ i = .int .i64 k ∧ ∀ j, j < k → okRec (zs.getD j (0, 0)) = true) (fun i => zs.length - (intOf i).toNat)
  case atStart => exact ⟨0, by omega, by omega, rfl, by intro j h; omega⟩
  case round =>
    obtain ⟨k, hk, hk2, rfl, hall⟩ := hrel
    have Hall := Lib.hid hall; clear hall
    by_cases h1 : k < zs.length
    · by_cases h2 : k ≤ 64
      · obtain ⟨b, off, rfl, hc1, hc2⟩ := H.out.at h1
        have hX : okRec (zs.getD k (0, 0)) = (inB (zs.getD k (0, 0)).1 (-100000) 100000 && inB (zs.getD k (0, 0)).2 0 999) := rfl
        have HX := Lib.hid hX; clear hX
        generalize (zs.getD k (0, 0)).1 = x at hc1 HX
        generalize (zs.getD k (0, 0)).2 = y at hc2 HX
        cases hq : inB x (-100000) 100000
        · have HL := Lib.hid (hq ▸ l1In_any x (-100000) 100000 w)
          have HQ := Lib.hid hq; clear hq
          go_wp2_with (go_at_call 89; refine HL.out.mono ?_; rintro e w' ⟨rfl, rfl⟩)
          go_ret
          exact ⟨ret_bool (by rw [okRecs_no h1 (by rw [HX.out, HQ.out, Bool.false_and])]), rfl⟩
        · have HL := Lib.hid (hq ▸ l1In_any x (-100000) 100000 w)
          have HQ := Lib.hid hq; clear hq
          have HL2 := Lib.hid (l1In_any y 0 999 w)
          go_wp2_with (first | (go_at_call 89; first | (with_reducible refine HL.out.mono ?_) | (with_reducible refine HL2.out.mono ?_); rintro e w' ⟨rfl, rfl⟩))
          · have hx : (!inB y 0 999) = true := by assumption
            go_ret
            exact ⟨ret_bool (by rw [okRecs_no h1 (by rw [HX.out, HQ.out]; simpa using hx)]), rfl⟩
          · have hx : (!inB y 0 999) = false := by assumption
            go_round
            case rel =>
              refine ⟨k + 1, by omega, by omega, by go_num, fun j hj => ?_⟩
              rcases Nat.lt_succ_iff_lt_or_eq.1 hj with h | rfl
              · exact Hall.out j h
              · rw [HX.out, HQ.out]; simpa using hx
            case measure => simp [intOf]; omega
      · go_wp2
        go_ret
        have : okRecs zs = false := by unfold okRecs; simp; omega
        exact ⟨ret_bool (by rw [this]; simp; omega), rfl⟩
    · go_wp2
      go_ret
      exact ⟨ret_bool (by rw [okRecs_yes (fun j hj => Hall.out j (by omega))]; exact decide_eq_decide.2 (by omega)), rfl⟩

theorem ownRecs {w : World} {base : Nat} {a : Option Addr} {n c : Nat} {rs : List (Int × Int)} (h : w.ownsRow base 72 2 (.slice a n c) n (flat encR rs)) : RecsAt w a rs := recs_of_own h

set_option maxHeartbeats 800000 in
theorem toRecordS_any (a : Option Addr) (cap : Nat) (zs : List (Int × Int)) (w : World) (hlen : zs.length ≤ 1048576) (h : RecsAt w a zs) :
    Calls Try.prog 29 #[.slice a zs.length cap] w fun e w' => e = .returned (.slice (some ⟨w.heap.size, 0, none⟩) zs.length zs.length) ∧
      w'.ownsRow w.heap.size 72 2 (.slice (some ⟨w.heap.size, 0, none⟩) zs.length zs.length) zs.length (flat encR zs) ∧ Below w.heap.size w w' := by
  have H := Lib.hid h; clear h
  go_enter Try.func29, Try.ntmps29
  go_wp2_with (at_make; refine wpList_mk slRec rfl _ _ rfl zs.length rfl rfl (by omega) ?_)
  intro w1 hown hb hsz
  have hown : w1.ownsRow w.heap.size 72 2 (.slice (some ⟨w.heap.size, 0, none⟩) zs.length zs.length) zs.length (flat encR (fillL zs.length 0 (fun j => zs.getD j (0, 0)) (0, 0))) := by
    rw [fillL_zero, ← made2 encR_len (0, 0) (.int .i64 0) (.int .i64 0) rfl]; exact hown
  have HO := Lib.hid hown; clear hown
  have HB := Lib.hid hb; clear hb hsz
  go_wp2
  go_loopw [4] (fun i wr => ∃ k : Nat, k ≤ zs.length ∧ i = .int .i64 k ∧ wr.ownsRow w.heap.size 72 2 (.slice (some ⟨w.heap.size, 0, none⟩) zs.length zs.length) zs.length (flat encR (fillL zs.length k (fun j => zs.getD j (0, 0)) (0, 0))) ∧ Below w.heap.size w wr) (fun i _ => zs.length - (intOf i).toNat)
  case atStart => exact ⟨0, by omega, rfl, HO.out, HB.out⟩
  case round =>
    obtain ⟨k, hk, rfl, hown, hb⟩ := hrel
    clear HO HB
    by_cases hlt : k < zs.length
    · obtain ⟨b, off, rfl, hc1, hc2⟩ := (H.out.below (Nat.le_refl _) hb).at hlt
      have HR : Hid (encR (zs.getD k (0, 0)) = [.int .i64 (zs.getD k (0, 0)).1, .int .i64 (zs.getD k (0, 0)).2]) := rfl
      have HF := Lib.hid (fillL_succ (fun j => zs.getD j (0, 0)) (0, 0) hlt)
      generalize hr : zs.getD k (0, 0) = r at hc1 hc2 HR HF
      have HZ := Lib.hid hr; clear hr
      obtain ⟨x, y⟩ := r
      have HOW := Lib.hid hown; clear hown
      have HB := Lib.hid hb; clear hb
      go_wp2_with fail
      refine (toRecord_any x y _).mono ?_
      rintro e w2 ⟨rfl, hb2⟩
      have HO2 := Lib.hid (own_below HOW.out (Nat.le_refl _) hb2)
      have HB2 := Lib.hid (HB.out.trans (hb2.mono (HB.out.size)))
      clear hb2
      go_wp2_with (refine wpList_put slRec rfl (.tmp 21) (.tmp 20) rfl k rfl [.int .i64 x, .int .i64 y] rfl rfl (by simp [Value.oneCell']) HO2.out hlt ?_)
      intro w3 ho3 hg3
      have HB3 := Lib.hid (below_app HB2.out HB2.out.size HO2.out (Nat.le_refl _) hg3)
      have hq := flat_put encR_len _ k (by rw [fillL_length]; exact hlt : k < (fillL zs.length k (fun j => zs.getD j (0, 0)) (0, 0)).length) (x, y)
      rw [HF.out] at hq
      have ho4 : w3.ownsRow w.heap.size 72 2 (.slice (some ⟨w.heap.size, 0, none⟩) zs.length zs.length) zs.length (flat encR (fillL zs.length (k + 1) (fun j => zs.getD j (0, 0)) (0, 0))) := by
        rw [← hq]; simpa [encR] using ho3
      have HO3 := Lib.hid ho4; clear ho4
      clear ho3 hg3 hq
      go_wp2
      go_roundw
      case rel => exact ⟨k + 1, by omega, by go_num, HO3.out, HB3.out⟩
      case measure => simp [intOf]; omega
    · have e : k = zs.length := by omega
      subst e
      rw [fillL_end] at hown
      have HO := Lib.hid hown; clear hown
      have HB := Lib.hid hb; clear hb
      go_wp2
      go_ret
      exact ⟨rfl, HO.out, HB.out⟩

set_option maxRecDepth 100000 in
set_option maxHeartbeats 800000 in
theorem eqRecordS_any (a a' : Option Addr) (cap cap' : Nat) (zs ys : List (Int × Int)) (w : World) (hlen : zs.length ≤ 9223372036854775807) (hlen' : ys.length ≤ 9223372036854775807) (h : RecsAt w a zs) (h' : RecsAt w a' ys) :
    Calls Try.prog 32 #[.slice a zs.length cap, .slice a' ys.length cap'] w fun e w' => e = .returned (.bool (decide (zs = ys))) ∧ Below w.heap.size w w' := by
  have H := Lib.hid h; clear h
  have H' := Lib.hid h'; clear h'
  by_cases hl : zs.length = ys.length
  · have HL := Lib.hid hl
    have hne : ((zs.length : Int) != (ys.length : Int)) = false := by rw [hl]; simp
    clear hl
    go_enter Try.func32, Try.ntmps32
    go_wp2
    go_loopw [5] (fun i wr => ∃ k : Nat, k ≤ zs.length ∧ i = .int .i64 k ∧ (∀ j, j < k → zs.getD j (0, 0) = ys.getD j (0, 0)) ∧ Below w.heap.size w wr) (fun i _ => zs.length - (intOf i).toNat)
    case atStart => exact ⟨0, by omega, rfl, by intro j h; omega, Below.refl _ _⟩
    case round =>
      obtain ⟨k, hk, rfl, hall, hb⟩ := hrel
      have HA := Lib.hid hall; clear hall
      have HB := Lib.hid hb; clear hb
      by_cases hlt : k < zs.length
      · obtain ⟨b, off, rfl, hc1, hc2⟩ := (H.out.below (Nat.le_refl _) HB.out).at hlt
        have hlt' : k < ys.length := by rw [← HL.out]; exact hlt
        obtain ⟨b', off', rfl, hc3, hc4⟩ := (H'.out.below (Nat.le_refl _) HB.out).at hlt'
        generalize hx : zs.getD k (0, 0) = x at hc1 hc2
        generalize hy : ys.getD k (0, 0) = y at hc3 hc4
        have HX := Lib.hid hx; clear hx
        have HY := Lib.hid hy; clear hy
        obtain ⟨x1, x2⟩ := x
        obtain ⟨y1, y2⟩ := y
        go_wp2_with fail
        go_still_tail 8, (by kernel_rfl)
        go_wp2_with fail
        refine (eqRecord_any x1 x2 y1 y2 _).mono ?_
        rintro e w2 ⟨rfl, hb2⟩
        have HB2 := Lib.hid (HB.out.trans ((Below.refl _ _).drew.trans (hb2.mono HB.out.size)))
        clear hb2
        by_cases hxy : (x1, x2) = (y1, y2)
        · have hd : decide ((x1, x2) = (y1, y2)) = true := decide_eq_true hxy
          rw [hd]
          have HQ := Lib.hid hxy; clear hxy hd
          go_wp2
          go_roundw
          case rel =>
            refine ⟨k + 1, by omega, by go_num, fun j hj => ?_, HB2.out⟩
            rcases Nat.lt_succ_iff_lt_or_eq.1 hj with h | rfl
            · exact HA.out j h
            · rw [HX.out, HY.out, HQ.out]
          case measure => simp [intOf]; omega
        · have hd : decide ((x1, x2) = (y1, y2)) = false := decide_eq_false hxy
          rw [hd]
          have HQ := Lib.hid hxy; clear hxy hd
          go_wp2
          go_ret
          refine ⟨ret_bool ?_, HB2.out⟩
          symm; apply decide_eq_false
          intro e
          exact HQ.out (by rw [← HX.out, ← HY.out, e])
      · go_wp2
        go_ret
        refine ⟨ret_bool ?_, HB.out⟩
        symm; apply decide_eq_true
        apply List.ext_getElem HL.out
        intro j h1 h2
        have := HA.out j (by omega)
        simpa [List.getD, h1, h2] using this
  · have hne : ((zs.length : Int) != (ys.length : Int)) = true := by simpa using (by omega : ¬ (zs.length : Int) = ys.length)
    have HL := Lib.hid hl; clear hl
    go_enter Try.func32, Try.ntmps32
    go_wp2
    go_ret
    refine ⟨ret_bool ?_, Below.refl _ _⟩
    symm; apply decide_eq_false
    intro e
    exact HL.out (by rw [e])

end Go.Proofs.Ytkckmjajjdpodaa

/- Rows of integers: their element. -/
namespace Go.Proofs.Ytkckmjajjdpodaa
open Go.RowKit
set_option linter.unusedVariables false

theorem Try.infoInt : (Try.prog.info? 3).map (fun i => (i.zero, i.size, i.bytes)) = some (some (.int .i64 0), 1, 8) := by kernel_rfl

theorem ownInts {w : World} {base : Nat} {a : Option Addr} {n c : Nat} {zs : List Int} (h : w.ownsRow base 3 1 (.slice a n c) n (zs.map (Value.int .i64))) : IntsAt w a zs := ints_of_own h

theorem slInt : SlT Try.prog 45 3 (.int .i64 0) 1 8 := ⟨Try.underlying45, info_parts Try.infoInt, rfl, by decide, by decide⟩

end Go.Proofs.Ytkckmjajjdpodaa

/- Walks: lists of integers and of records that the cursor draws. -/
namespace Go.Proofs.Ytkckmjajjdpodaa
open Go.RowKit
set_option linter.unusedVariables false

set_option maxHeartbeats 2000000 in
theorem ints_any (bc : Nat) (ac : Option Addr) (cs : List Int) (M : Int) (w : World) (hM : M ≤ 1099511600000) (h : Cur w bc ac cs M) (hold : cs ≠ [] → ∀ b off, ac = some ⟨b, off, none⟩ → b < w.heap.size) :
    Calls Try.prog 165 #[.pointer (some ⟨bc, 0, none⟩)] w fun e w' => ∃ (a' : Option Addr) (c' : Nat) (zs : List Int), e = .returned (.slice a' zs.length c') ∧ w'.ownsRow w.heap.size 3 1 (.slice a' zs.length c') zs.length (zs.map (Value.int .i64)) ∧ zs.length ≤ 24 ∧ (∀ x ∈ zs, -100000 ≤ x ∧ x ≤ 100000) ∧ Drawn w w' bc ac cs (M + 200) := by
  have D0 : Hid (Drawn w w bc ac cs M) := ⟨h, grown_refl _ _, h.lt, hold⟩
  have E1 := Lib.hid (own_lit (w := w) (e := 3) (size := 1) #[] 0 (by omega) rfl)
  have D1 := Lib.hid (D0.out.below ((Below.refl w.heap.size w).alloc (Nat.le_refl _) (.cells #[] 3)))
  clear h hold D0
  go_enter Try.func165, Try.ntmps165
  go_wp2_with fail
  refine (pick_any bc ac cs M 9 _ (by omega) (by omega) D1.out.cur).mono ?_
  rintro e w1 ⟨⟨n, rfl, hn0, hn1⟩, hc, hg⟩
  have E2 := Lib.hid (D1.out.own E1.out (Nat.le_refl _) hg)
  have D2 := Lib.hid (D1.out.step hc hg)
  clear hc hg D1 E1
  go_wp2_with fail
  refine (one_any bc ac cs (M + 2) 6 _ (by omega) (by omega) D2.out.cur).mono ?_
  rintro e w2 ⟨⟨b, rfl⟩, hc, hg⟩
  have E3 := Lib.hid (D2.out.own E2.out (Nat.le_refl _) hg)
  have D3 := Lib.hid (D2.out.step hc hg)
  clear hc hg D2 E2
  cases b
  case' true =>
    go_wp2_with fail
    refine (pick_any bc ac cs (M + 2 + 2) 24 _ (by omega) (by omega) D3.out.cur).mono ?_
    rintro e w3 ⟨⟨n2, rfl, hm0, hm1⟩, hc, hg⟩
    obtain ⟨k0, rfl⟩ := Int.eq_ofNat_of_zero_le hm0
    have hk0 : k0 ≤ 23 := by omega
    have E4 := Lib.hid (D3.out.own E3.out (Nat.le_refl _) hg)
    have D4 := Lib.hid ((D3.out.step hc hg).mono (show M + 2 + 2 + 2 ≤ M + 6 by omega))
    clear hc hg D3 E3 hm0 hm1 hn0 hn1
  case' false =>
    obtain ⟨k0, rfl⟩ := Int.eq_ofNat_of_zero_le hn0
    have hk0 : k0 ≤ 23 := by omega
    have E4 := E3
    have D4 := Lib.hid (D3.out.mono (show M + 2 + 2 ≤ M + 6 by omega))
    clear D3 E3 hn0 hn1
  all_goals
    go_wp2
    go_loopw [3, 4] (fun v i wr => ∃ (k : Nat) (zs : List Int), i = .int .i64 k ∧ zs.length + k ≤ 24 ∧ k ≤ 23 ∧ (∀ x ∈ zs, -100000 ≤ x ∧ x ≤ 100000) ∧ wr.ownsRow w.heap.size 3 1 v zs.length (zs.map (Value.int .i64)) ∧ Drawn w wr bc ac cs (M + 6 + 6 * (24 - (k : Int)))) (fun _ i _ => (intOf i).toNat)
    case atStart => exact ⟨k0, [], rfl, by simp; omega, hk0, by simp, E4.out, D4.out.mono (by omega)⟩
    case round =>
      obtain ⟨k, zs, rfl, hlen, hk, hok, hown, hD⟩ := hrel
      clear E4 D4
      have HOK := Lib.hid hok; clear hok
      have HO := Lib.hid hown; clear hown
      have HD := Lib.hid hD; clear hD
      rcases Nat.eq_zero_or_pos k with rfl | hkp
      · obtain ⟨a', c', hv⟩ := own_slice HO.out
        rw [hv] at HO
        rw [hv]
        clear hv
        go_wp2
        go_ret
        exact ⟨a', c', zs, rfl, HO.out, by omega, HOK.out, HD.out.mono (by omega)⟩
      · obtain ⟨m, rfl⟩ : ∃ m, k = m + 1 := ⟨k - 1, by omega⟩
        have hcast : ((m + 1 : Nat) : Int) = (m : Int) + 1 := by omega
        rw [hcast]
        have hn40 : zs.length + 1 ≤ 1099511627776 := by omega
        go_wp2_with fail
        refine (one_any bc ac cs _ 8 _ ?h1 (by omega) HD.out.cur).mono ?_
        case h1 => omega
        rintro e w5 ⟨⟨b, rfl⟩, hc, hg⟩
        have HO5 := Lib.hid (HD.out.own HO.out (Nat.le_refl _) hg)
        have HD5 := Lib.hid (HD.out.step hc hg)
        clear hc hg HO HD
        cases b
        · go_wp2_with fail
          refine (pick_any bc ac cs _ 7 _ ?h2 (by omega) HD5.out.cur).mono ?_
          case h2 => omega
          rintro e w6 ⟨⟨x, rfl, hx0, hx1⟩, hc, hg⟩
          have HO6 := Lib.hid (HD5.out.own HO5.out (Nat.le_refl _) hg)
          have HD6 := Lib.hid (HD5.out.step hc hg)
          have hbs := HD6.out.grown.size
          clear hc hg HO5 HD5
          go_wp2_with (at_builtin; refine wpList_app1 slInt rfl (.tmp 24) (.tmp 27) rfl rfl HO6.out [.int .i64 x] rfl rfl (by simp) (by simp [Value.oneCell']) hn40 hbs ?_; intro v' w7 hown' hg' ht)
          have HO7 := Lib.hid hown'
          have HD7 := Lib.hid (HD6.out.app HO6.out (Nat.le_refl _) hg')
          clear hown' hg' ht hbs HO6 HD6
          go_roundw
          case rel => exact ⟨m, zs ++ [x], by go_num, by simp; omega, by omega, fun y hy => by rcases List.mem_append.1 hy with h | h; exact HOK.out y h; simp at h; omega, by simpa using HO7.out, HD7.out.mono (by omega)⟩
          case measure => simp [intOf]
        · have HL : Hid (∀ W : World, IntsAt (W.alloc (.cells #[.int .i64 100000, .int .i64 (-100000), .int .i64 999, .int .i64 (-5)] 3)) (some ⟨W.heap.size, 0, none⟩) [100000, -100000, 999, -5]) := fun W => ownInts (c := 4) (n := 4) (own_lit (e := 3) (size := 1) #[.int .i64 100000, .int .i64 (-100000), .int .i64 999, .int .i64 (-5)] 4 (by omega) rfl)
          have HD5' := Lib.hid (HD5.out.below ((Below.refl _ _).alloc (Nat.le_refl _) (.cells #[.int .i64 100000, .int .i64 (-100000), .int .i64 999, .int .i64 (-5)] 3)))
          have HO5' := Lib.hid (HO5.out.alloc (.cells #[.int .i64 100000, .int .i64 (-100000), .int .i64 999, .int .i64 (-5)] 3))
          go_wp2_with fail
          refine (among_any bc ac cs _ _ 4 [100000, -100000, 999, -5] _ ?h2 (by decide) (by decide) HD5'.out.cur (HL.out w5) ?h3).mono ?_
          case h2 => omega
          case h3 => intro b off e; injection e with e; injection e with e; have := HD5.out.cur.lt; omega
          rintro e w6 ⟨⟨x, rfl, hx⟩, hc, hg⟩
          have HX : Hid (-100000 ≤ x ∧ x ≤ 100000) := by show _ ∧ _; simp at hx; omega
          have HO6 := Lib.hid (HD5'.out.own HO5'.out (Nat.le_refl _) hg)
          have HD6 := Lib.hid (HD5'.out.step hc hg)
          have hbs := HD6.out.grown.size
          clear hc hg HO5 HD5 HO5' HD5' hx HL
          go_wp2_with (at_builtin; refine wpList_app1 slInt rfl (.tmp 18) (.tmp 22) rfl rfl HO6.out [.int .i64 x] rfl rfl (by simp) (by simp [Value.oneCell']) hn40 hbs ?_; intro v' w7 hown' hg' ht)
          have HO7 := Lib.hid hown'
          have HD7 := Lib.hid (HD6.out.app HO6.out (Nat.le_refl _) hg')
          clear hown' hg' ht hbs HO6 HD6
          go_roundw
          case rel => exact ⟨m, zs ++ [x], by go_num, by simp; omega, by omega, fun y hy => by rcases List.mem_append.1 hy with h | h; exact HOK.out y h; simp at h; rw [h]; exact HX.out, by simpa using HO7.out, HD7.out.mono (by omega)⟩
          case measure => simp [intOf]

set_option maxHeartbeats 400000 in
theorem records_any (bc : Nat) (ac : Option Addr) (cs : List Int) (M : Int) (w : World) (hM : M ≤ 1099511500000) (h : Cur w bc ac cs M) (hold : cs ≠ [] → ∀ b off, ac = some ⟨b, off, none⟩ → b < w.heap.size) :
    Calls Try.prog 136 #[.pointer (some ⟨bc, 0, none⟩)] w fun e w' => ∃ (a' : Option Addr) (c' : Nat) (rs : List (Int × Int)), e = .returned (.slice a' rs.length c') ∧ w'.ownsRow w.heap.size 72 2 (.slice a' rs.length c') rs.length (flat encR rs) ∧ rs.length ≤ 24 ∧ Drawn w w' bc ac cs (M + 200) := by
  have D0 : Hid (Drawn w w bc ac cs M) := ⟨h, grown_refl _ _, h.lt, hold⟩
  have E1 := Lib.hid (own_lit (w := w) (e := 72) (size := 2) #[] 0 (by omega) rfl)
  have D1 := Lib.hid (D0.out.below ((Below.refl w.heap.size w).alloc (Nat.le_refl _) (.cells #[] 72)))
  have HZ : Hid (cs ≠ [] → ∀ b off, ac = some ⟨b, off, none⟩ → b < (w.alloc (.cells #[] 72)).heap.size) := fun h0 b off e => by have := hold h0 b off e; simp; omega
  clear h hold D0
  go_enter Try.func136, Try.ntmps136
  go_wp2_with fail
  refine (ints_any bc ac cs M _ (by omega) D1.out.cur HZ.out).mono ?_
  rintro e w1 ⟨ak, ck, zs, rfl, ho, hl, hok, hD⟩
  have HK := Lib.hid (ownInts ho)
  have HKB : Hid (∀ b off, ak = some ⟨b, off, none⟩ → w.heap.size ≠ b ∧ b < w1.heap.size) := fun b off e => by have := ho.lt b (by rw [e]; rfl); simp at this; omega
  have E2 := Lib.hid (D1.out.own E1.out (Nat.le_refl _) hD.grown)
  have D2 : Hid (Drawn w w1 bc ac cs (M + 200)) := ⟨hD.cur, grown_trans D1.out.grown hD.grown, D1.out.old⟩
  clear ho hD D1 E1 HZ hok
  go_wp2
  go_loopw [3, 5] (fun v i wr => ∃ (k : Nat) (rs : List (Int × Int)), k ≤ zs.length ∧ i = .int .i64 k ∧ rs.length = k ∧ wr.ownsRow w.heap.size 72 2 v rs.length (flat encR rs) ∧ IntsAt wr ak zs ∧ (∀ b off, ak = some ⟨b, off, none⟩ → v.ownBlock ≠ some b ∧ b < wr.heap.size) ∧ Drawn w wr bc ac cs (M + 200)) (fun _ i _ => zs.length - (intOf i).toNat)
  case atStart => exact ⟨0, [], by omega, rfl, rfl, E2.out, HK.out, fun b off e => ⟨fun e2 => by have e3 : some w.heap.size = some b := e2; injection e3 with e3; exact (HKB.out b off e).1 e3, (HKB.out b off e).2⟩, D2.out⟩
  case round =>
    obtain ⟨k, rs, hk, rfl, hrl, hown, hik, hkb, hD⟩ := hrel
    clear E2 HK HKB D2
    by_cases hlt : k < zs.length
    · obtain ⟨b, off, rfl, hcell⟩ := hik.at hlt
      have HIK := Lib.hid hik; clear hik
      have HKB := Lib.hid hkb; clear hkb
      have HRL := Lib.hid hrl
      have hn : rs.length + 1 ≤ 1099511627776 := by omega
      clear hrl
      generalize zs.getD k 0 = x at hcell
      have HO := Lib.hid hown; clear hown
      have HD := Lib.hid hD; clear hD
      have hbs := HD.out.grown.size
      go_wp2_with (at_builtin; refine wpList_app1 slRec rfl (.tmp 15) (.tmp 22) rfl rfl HO.out [.int .i64 x, .int .i64 k] rfl rfl (by simp) (by simp [Value.oneCell']) hn hbs ?_; intro v' w2 hown' hg ht)
      have HO' := Lib.hid hown'
      have HD' := Lib.hid (HD.out.app HO.out (Nat.le_refl _) hg)
      have HIK' := Lib.hid (HIK.out.grown hg (fun b' off' e e2 => (HKB.out b' off' e).1 e2))
      have HKB' : Hid (∀ b' off', some (⟨b, off, none⟩ : Addr) = some ⟨b', off', none⟩ → v'.ownBlock ≠ some b' ∧ b' < w2.heap.size) := fun b' off' e => by
        have h1 := HKB.out b' off' e
        refine ⟨fun e2 => ?_, Nat.lt_of_lt_of_le h1.2 hg.size⟩
        rcases ht with ht | ht
        · exact h1.1 (ht ▸ e2)
        · rw [ht] at e2; injection e2 with e2; omega
      clear hown' hg ht hbs hn
      go_roundw
      case rel => exact ⟨k + 1, rs ++ [(x, (k : Int))], by omega, by go_num, by simp [HRL.out], by rw [List.length_append, flat_append]; exact HO'.out, HIK'.out, HKB'.out, HD'.out⟩
      case measure => simp [intOf]; omega
    · obtain ⟨a', c', rfl⟩ := own_slice hown
      have HO := Lib.hid hown; clear hown
      have HD := Lib.hid hD; clear hD hik hkb
      go_wp2
      go_ret
      exact ⟨a', c', rs, rfl, HO.out, by omega, HD.out⟩

end Go.Proofs.Ytkckmjajjdpodaa

/- Walks: records that may be invalid; the draw of an argument out of bytes. -/
namespace Go.Proofs.Ytkckmjajjdpodaa
open Go.RowKit
set_option linter.unusedVariables false

theorem lit_ints (W : World) (l : List Int) (h : l.length ≤ 1000) : IntsAt (W.alloc (.cells (l.map (Value.int .i64)).toArray 3)) (some ⟨W.heap.size, 0, none⟩) l :=
  ownInts (c := l.length) (n := l.length) (base := W.heap.size) (by simpa using own_lit (w := W) (e := 3) (size := 1) (l.map (Value.int .i64)).toArray l.length (by omega) (by simp))

set_option maxHeartbeats 2000000 in
theorem anyRecords_any (bc : Nat) (ac : Option Addr) (cs : List Int) (M : Int) (w : World) (hM : M ≤ 1099511400000) (h : Cur w bc ac cs M) (hold : cs ≠ [] → ∀ b off, ac = some ⟨b, off, none⟩ → b < w.heap.size) :
    Calls Try.prog 79 #[.pointer (some ⟨bc, 0, none⟩)] w fun e w' => ∃ (a' : Option Addr) (c' : Nat) (rs : List (Int × Int)), e = .returned (.slice a' rs.length c') ∧ w'.ownsRow w.heap.size 72 2 (.slice a' rs.length c') rs.length (flat encR rs) ∧ rs.length ≤ 70 ∧ Drawn w w' bc ac cs (M + 1000) := by
  go_enter Try.func79, Try.ntmps79
  go_wp2_with fail
  refine (records_any bc ac cs M _ (by omega) h hold).mono ?_
  rintro e w1 ⟨a1, c1, rs, rfl, ho, hl, hD⟩
  have HO1 := Lib.hid ho
  have HD1 := Lib.hid hD
  clear ho hD h hold
  go_wp2_with fail
  refine (pick_any bc ac cs _ 24 _ ?h1 (by omega) HD1.out.cur).mono ?_
  case h1 => omega
  rintro e w2 ⟨⟨n, rfl, hn0, hn1⟩, hc, hg⟩
  have HO2 := Lib.hid (HD1.out.own HO1.out (Nat.le_refl _) hg)
  have HD2 := Lib.hid (HD1.out.step hc hg)
  clear hc hg HO1 HD1
  by_cases n0 : n = 0
  · subst n0
    have HD3 := Lib.hid (HD2.out.below ((Below.refl _ _).alloc (Nat.le_refl _) (.cells #[.int .i64 0, .int .i64 100001] 3)))
    have HO3 := Lib.hid (HO2.out.alloc (.cells #[.int .i64 0, .int .i64 100001] 3))
    go_wp2_with fail
    refine (among_any bc ac cs _ _ 2 [0, 100001] _ ?h2 (by decide) (by decide) HD3.out.cur (lit_ints w2 [0, 100001] (by decide)) ?h3).mono ?_
    case h2 => omega
    case h3 => intro b off e; injection e with e; injection e with e; have := HD2.out.cur.lt; omega
    rintro e w4 ⟨⟨x, rfl, hx⟩, hc, hg⟩
    have HO4 := Lib.hid (HD3.out.own HO3.out (Nat.le_refl _) hg)
    have HD4 := Lib.hid (HD3.out.step hc hg)
    clear hc hg HO2 HD2 HO3 HD3 hx
    have HD5 := Lib.hid (HD4.out.below ((Below.refl _ _).alloc (Nat.le_refl _) (.cells #[.int .i64 (-1), .int .i64 1000, .int .i64 999] 3)))
    have HO5 := Lib.hid (HO4.out.alloc (.cells #[.int .i64 (-1), .int .i64 1000, .int .i64 999] 3))
    go_wp2_with fail
    refine (among_any bc ac cs _ _ 3 [-1, 1000, 999] _ ?h4 (by decide) (by decide) HD5.out.cur (lit_ints w4 [-1, 1000, 999] (by decide)) ?h5).mono ?_
    case h4 => omega
    case h5 => intro b off e; injection e with e; injection e with e; have := HD4.out.cur.lt; omega
    rintro e w6 ⟨⟨y, rfl, hy⟩, hc, hg⟩
    have HO6 := Lib.hid (HD5.out.own HO5.out (Nat.le_refl _) hg)
    have HD6 := Lib.hid (HD5.out.step hc hg)
    have hbs := HD6.out.grown.size
    have hn40 : rs.length + 1 ≤ 1099511627776 := by omega
    clear hc hg HO4 HD4 HO5 HD5 hy
    go_wp2_with (at_builtin; refine wpList_app1 slRec rfl (.tmp 10) (.tmp 18) rfl rfl HO6.out [.int .i64 x, .int .i64 y] rfl rfl (by simp) (by simp [Value.oneCell']) hn40 hbs ?_; intro v' w7 hown' hg' ht)
    obtain ⟨a', c', hv⟩ := own_slice hown'
    have HO7 := Lib.hid hown'
    have HD7 := Lib.hid (HD6.out.app HO6.out (Nat.le_refl _) hg')
    clear hown' hg' ht hbs HO6 HD6
    rw [hv] at HO7
    rw [hv]
    clear hv
    go_wp2
    go_ret
    exact ⟨a', c', rs ++ [(x, y)], by simp, by rw [List.length_append, flat_append]; exact HO7.out, by simp; omega, HD7.out.mono (by omega)⟩
  · have q0 : (n == 0) = false := by simpa using n0
    by_cases n1 : n = 1
    · subst n1
      go_wp2
      go_loopw [3] (fun v wr => ∃ rs' : List (Int × Int), rs'.length ≤ 65 ∧ wr.ownsRow w.heap.size 72 2 v rs'.length (flat encR rs') ∧ (∃ a c, v = .slice a rs'.length c) ∧ Drawn w wr bc ac cs (M + 300 + 8 * (rs'.length : Int))) (fun v _ => 66 - (match v with | .slice _ l _ => l | _ => 0))
      case atStart => exact ⟨rs, by omega, HO2.out, own_slice HO2.out, HD2.out.mono (by omega)⟩
      case round =>
        obtain ⟨rs', hl', hown, ⟨a, c, rfl⟩, hD⟩ := hrel
        clear HO2 HD2
        have HO := Lib.hid hown; clear hown
        have HD := Lib.hid hD; clear hD
        go_wp2_with fail
        refine (pick_any bc ac cs _ 2 _ ?h6 (by omega) HD.out.cur).mono ?_
        case h6 => omega
        rintro e w3 ⟨⟨p, rfl, hp0, hp1⟩, hc, hg⟩
        have HO3 := Lib.hid (HD.out.own HO.out (Nat.le_refl _) hg)
        have HD3 := Lib.hid (HD.out.step hc hg)
        clear hc hg HO HD
        by_cases hlt : (rs'.length : Int) < 64 + p
        · go_wp2_with fail
          refine (pick_any bc ac cs _ 5 _ ?h7 (by omega) HD3.out.cur).mono ?_
          case h7 => omega
          rintro e w4 ⟨⟨x, rfl, hx0, hx1⟩, hc, hg⟩
          have HO4 := Lib.hid (HD3.out.own HO3.out (Nat.le_refl _) hg)
          have HD4 := Lib.hid (HD3.out.step hc hg)
          have hbs := HD4.out.grown.size
          have hn40 : rs'.length + 1 ≤ 1099511627776 := by omega
          clear hc hg HO3 HD3
          go_wp2_with (at_builtin; refine wpList_app1 slRec rfl (.tmp 28) (.tmp 34) rfl rfl HO4.out [.int .i64 x, .int .i64 rs'.length] rfl rfl (by simp) (by simp [Value.oneCell']) hn40 hbs ?_; intro v' w7 hown' hg' ht)
          obtain ⟨a', c', hv⟩ := own_slice hown'
          have HO7 := Lib.hid hown'
          have HD7 := Lib.hid (HD4.out.app HO4.out (Nat.le_refl _) hg')
          clear hown' hg' ht hbs HO4 HD4
          rw [hv] at HO7
          rw [hv]
          clear hv
          go_roundw
          case rel => exact ⟨rs' ++ [(x, (rs'.length : Int))], by simp; omega, by rw [List.length_append, flat_append]; exact HO7.out, ⟨a', c', by simp⟩, HD7.out.mono (by simp; omega)⟩
          case measure => simp; omega
        · go_wp2
          go_ret
          exact ⟨a, c, rs', rfl, HO3.out, by omega, HD3.out.mono (by omega)⟩
    · have q1 : (n == 1) = false := by simpa using n1
      go_wp2
      go_ret
      exact ⟨a1, c1, rs, rfl, HO2.out, by omega, HD2.out.mono (by omega)⟩

set_option maxHeartbeats 400000 in
theorem drawIsValidRecords_any (ac : Option Addr) (c : Nat) (cs : List Int) (w : World) (hl : cs.length ≤ 65537) (h : BytesAt w ac cs) :
    Calls Try.prog 125 #[.slice ac cs.length c] w fun e w' => ∃ (a' : Option Addr) (c' : Nat) (rs : List (Int × Int)), e = .returned (.slice a' rs.length c') ∧ w'.ownsRow w.heap.size 72 2 (.slice a' rs.length c') rs.length (flat encR rs) ∧ rs.length ≤ 70 ∧ Below w.heap.size w w' := by
  have HR := Lib.hid (block_new w (.cells #[.slice ac cs.length c, .int .i64 0, .int .u64 0] 107))
  have HB : Hid (Below w.heap.size w (w.alloc (.cells #[.slice ac cs.length c, .int .i64 0, .int .u64 0] 107))) := (Below.refl _ _).alloc (Nat.le_refl _) _
  have H := Lib.hid h
  have HO : Hid (cs ≠ [] → ∀ b off, ac = some ⟨b, off, none⟩ → b < w.heap.size) := fun h0 b off e => by
    obtain ⟨b', off', e', hb⟩ := h.lt h0
    rw [e] at e'; injection e' with e'; injection e' with e' _; omega
  have HC : Hid (Cur (w.alloc (.cells #[.slice ac cs.length c, .int .i64 0, .int .u64 0] 107)) w.heap.size ac cs 0) :=
    ⟨⟨c, 0, 0, HR.out, by omega, by omega⟩, H.out.below (Nat.le_refl _) HB.out, fun h0 b off e => by have := HO.out h0 b off e; omega, by omega⟩
  clear h
  go_enter Try.func125, Try.ntmps125
  go_wp2_with fail
  refine (anyRecords_any w.heap.size ac cs 0 _ (by omega) HC.out (fun h0 b off e => by have := HO.out h0 b off e; simp; omega)).mono ?_
  rintro e w1 ⟨a', c', rs, rfl, ho, hl2, hD⟩
  have HO := Lib.hid (own_mono ho (by simp : w.heap.size ≤ _))
  have HB1 := Lib.hid (HB.out.grown hD.grown (by simp) (fun k hk => by injection hk with hk; omega))
  clear ho hD
  go_wp2
  go_ret
  exact ⟨a', c', rs, rfl, HO.out, hl2, HB1.out⟩

end Go.Proofs.Ytkckmjajjdpodaa

/- General lemmas: two lists of the call's own that grow side by side. -/
namespace Go.Proofs.Ytkckmjajjdpodaa
open Go.RowKit
set_option linter.unusedVariables false

/-- Two lists that the call owns, in two blocks. -/
structure Two (w : World) (base : Nat) (e1 : TypeId) (s1 : Nat) (v : Value) (n : Nat) (xs : List Value) (e2 : TypeId) (s2 : Nat) (u : Value) (m : Nat) (ys : List Value) : Prop where
  fst : w.ownsRow base e1 s1 v n xs
  snd : w.ownsRow base e2 s2 u m ys
  ne : ∀ k, v.ownBlock = some k → u.ownBlock ≠ some k

theorem Two.below {w w' : World} {base : Nat} {e1 e2 : TypeId} {s1 s2 n m : Nat} {v u : Value} {xs ys : List Value} (h : Two w base e1 s1 v n xs e2 s2 u m ys) (hb : Below w.heap.size w w') : Two w' base e1 s1 v n xs e2 s2 u m ys :=
  ⟨own_below h.1 (Nat.le_refl _) hb, own_below h.2 (Nat.le_refl _) hb, h.3⟩

theorem Two.app1 {w w' : World} {base : Nat} {e1 e2 : TypeId} {s1 s2 n m n' : Nat} {v u v' : Value} {xs ys xs' : List Value} (h : Two w base e1 s1 v n xs e2 s2 u m ys)
    (ho : w'.ownsRow base e1 s1 v' n' xs') (hg : w.grownBy w' v.ownBlock) (ht : v'.ownBlock = v.ownBlock ∨ v'.ownBlock = some (w.heap.size + 1)) : Two w' base e1 s1 v' n' xs' e2 s2 u m ys := by
  refine ⟨ho, ?_, ?_⟩
  · refine own_other h.2 hg fun k hk e => ?_
    exact h.3 k e hk
  · intro k hk hu
    rcases ht with ht | ht
    · rw [ht] at hk; exact h.3 k hk hu
    · rw [ht] at hk
      have := (h.2.lt k hu).2
      simp only [Option.some.injEq] at hk
      omega

theorem Two.app2 {w w' : World} {base : Nat} {e1 e2 : TypeId} {s1 s2 n m m' : Nat} {v u u' : Value} {xs ys ys' : List Value} (h : Two w base e1 s1 v n xs e2 s2 u m ys)
    (ho : w'.ownsRow base e2 s2 u' m' ys') (hg : w.grownBy w' u.ownBlock) (ht : u'.ownBlock = u.ownBlock ∨ u'.ownBlock = some (w.heap.size + 1)) : Two w' base e1 s1 v n xs e2 s2 u' m' ys' := by
  refine ⟨?_, ho, ?_⟩
  · refine own_other h.1 hg fun k hk e => ?_
    exact h.3 k hk e
  · intro k hk hu
    rcases ht with ht | ht
    · rw [ht] at hu; exact h.3 k hk hu
    · rw [ht] at hu
      have := (h.1.lt k hk).2
      simp only [Option.some.injEq] at hu
      omega

/-- 'append(s, u...)', u a list that is owned (nil too). -/
theorem wpList_appL {P : Program} {w : World} {ops : Array Oper} {rest : List Oper} {o : Oper} {a : Act} {Q : Exit → Act → World → Prop} {t e : TypeId} {z : Value} {size bytes : Nat} (T : SlT P t e z size bytes)
    (hgd : o.guard = none) (s y : Operand) (ho : o.op = .call { callee := .builtin .append, args := #[s, y], argTypes := #[t, t] })
    {base base2 : Nat} {v u : Value} {n m : Nat} {xs ys : List Value} (hs : a.eval s = v) (hown : w.ownsRow base e size v n xs) (hy : a.eval y = u) (hu : w.ownsRow base2 e size u m ys)
    (h1 : ∀ x ∈ ys, x.oneCell' = true) (hsmall : n + m ≤ 1099511627776) (hbase : base ≤ w.heap.size)
    (h : ∀ v' w', w'.ownsRow base e size v' (n + m) (xs ++ ys) → w.grownBy w' v.ownBlock → (v'.ownBlock = v.ownBlock ∨ v'.ownBlock = some w.heap.size) → wpList P ops Q rest (a.put o.dst v') w') :
    wpList P ops Q (o :: rest) a w := by
  have hl := hu.1
  rcases hu.2 with ⟨hu1, hm⟩ | ⟨g, cap, cur, hv, hg⟩
  · subst hm
    have hys : ys = [] := List.eq_nil_of_length_eq_zero (by simpa using hl)
    subst hys
    obtain ⟨i, hi, hz, hsz, hby⟩ := T.info
    refine wpList_append_own_none hgd s y t ho base e i size T.und hi v n xs hs hown (by rw [hy, hu1]) ?_
    refine h v w (by simpa using hown) ⟨rfl, rfl, rfl, Nat.le_refl _, fun _ _ _ => rfl⟩ (.inl rfl)
  · refine wpList_plain hgd fun K hK => ?_
    have hcells : ∀ j x, ys[j]? = some x → w.cell? ((⟨g, 0, none⟩ : Addr).add j) = some x := hu.cells (g := g) (by rw [hv]; rfl)
    obtain ⟨v', w', hr, h2, h3, h4⟩ := run_app_tag (P := P) w T base o.type v n xs hown ⟨g, 0, none⟩ m cap ys hl hcells h1 hsmall hbase
    unfold Oper.wp execOp
    simp only [ho, resolve, invoke, builtin, Sem.run_bind, Sem.run_pure, Result.andThen_ok, List.map_toArray, List.map_cons, List.map_nil, hs, hy, hv, hr]
    exact hK _ _ (h v' w' h2 h3 h4)

theorem own_at {w : World} {base : Nat} {e : TypeId} {a : Option Addr} {n c : Nat} {xs : List Value} (h : w.ownsRow base e 1 (.slice a n c) n xs) {i : Nat} {x : Value} (hx : xs[i]? = some x) :
    ∃ g, a = some ⟨g, 0, none⟩ ∧ w.cell? ⟨g, i, none⟩ = some x ∧ base ≤ g ∧ g < w.heap.size := by
  have hi : i < xs.length := (List.getElem?_eq_some_iff.1 hx).1
  obtain ⟨h1, h2⟩ := h
  rcases h2 with ⟨h2, h3⟩ | ⟨g, cap, cur, hv, hb, hg, hn, hc, hs, ht⟩
  · simp [h3] at h1; subst h1; simp at hi
  · simp only [Value.slice.injEq] at hv
    obtain ⟨rfl, _, rfl⟩ := hv
    refine ⟨g, rfl, ?_, hb, (Array.getElem?_eq_some_iff.1 hg).1⟩
    rw [← ht, List.getElem?_take] at hx
    split at hx
    · simp [World.cell?, hg]
      simpa using hx
    · cases hx

end Go.Proofs.Ytkckmjajjdpodaa

/- Plain law: merging and stable sorting over a strict weak order that is a Bool function. No program in sight. -/
namespace Go.Proofs.Ytkckmjajjdpodaa.Mg
set_option linter.unusedVariables false

structure SW {α : Type} (lt : α → α → Bool) : Prop where
  asym : ∀ a b, lt a b = true → lt b a = false
  trans : ∀ a b c, lt a b = true → lt b c = true → lt a c = true
  neg : ∀ a b c, lt a c = true → lt a b = true ∨ lt b c = true

def mrg {α : Type} (lt : α → α → Bool) (l r : List α) : List α := List.merge l r (fun x y => !lt y x)

section
variable {α : Type} {lt : α → α → Bool}

theorem mrg_nil (r : List α) : mrg lt [] r = r := by simp [mrg]
theorem nil_mrg (l : List α) : mrg lt l [] = l := by simp [mrg]
theorem mrg_cons (x : α) (l : List α) (y : α) (r : List α) : mrg lt (x :: l) (y :: r) = if lt y x then y :: mrg lt (x :: l) r else x :: mrg lt l (y :: r) := by
  unfold mrg
  rw [List.cons_merge_cons]
  cases lt y x <;> simp
theorem mrg_lt {x : α} {l : List α} {y : α} {r : List α} (h : lt y x = true) : mrg lt (x :: l) (y :: r) = y :: mrg lt (x :: l) r := by rw [mrg_cons, if_pos h]
theorem mrg_ge {x : α} {l : List α} {y : α} {r : List α} (h : lt y x = false) : mrg lt (x :: l) (y :: r) = x :: mrg lt l (y :: r) := by rw [mrg_cons, if_neg (by rw [h]; simp)]

theorem mrg_perm (l r : List α) : (mrg lt l r).Perm (l ++ r) := List.merge_perm_append _
theorem mrg_mem {l r : List α} {x : α} : x ∈ mrg lt l r ↔ x ∈ l ∨ x ∈ r := by rw [(mrg_perm l r).mem_iff, List.mem_append]
theorem mrg_length (l r : List α) : (mrg lt l r).length = l.length + r.length := by rw [(mrg_perm l r).length_eq, List.length_append]

/-- Both lists are cut in two, so that the earlier parts go ahead of the later ones. -/
theorem mrg_split : ∀ (L1 R1 L2 R2 : List α), (∀ x ∈ L1, ∀ y ∈ R2, lt y x = false) → (∀ x ∈ L2, ∀ y ∈ R1, lt y x = true) →
    mrg lt (L1 ++ L2) (R1 ++ R2) = mrg lt L1 R1 ++ mrg lt L2 R2
  | [], [], L2, R2, _, _ => by simp [mrg_nil]
  | [], y :: R1, L2, R2, h1, h2 => by
    have ih := mrg_split [] R1 L2 R2 (by simp) (fun x hx z hz => h2 x hx z (List.mem_cons_of_mem _ hz))
    simp only [List.nil_append, mrg_nil] at ih ⊢
    cases L2 with
    | nil => simp [mrg_nil]
    | cons x l =>
      rw [List.cons_append, mrg_lt (h2 x (by simp) y (by simp)), ih]; rfl
  | x :: L1, [], L2, R2, h1, h2 => by
    have ih := mrg_split L1 [] L2 R2 (fun z hz => h1 z (List.mem_cons_of_mem _ hz)) (by simp)
    simp only [List.nil_append, nil_mrg] at ih ⊢
    cases R2 with
    | nil => simp [nil_mrg]
    | cons y r =>
      rw [List.cons_append, mrg_ge (h1 x (by simp) y (by simp)), ih]; rfl
  | x :: L1, y :: R1, L2, R2, h1, h2 => by
    have ih1 := mrg_split (x :: L1) R1 L2 R2 h1 (fun z hz v hv => h2 z hz v (List.mem_cons_of_mem _ hv))
    have ih2 := mrg_split L1 (y :: R1) L2 R2 (fun z hz => h1 z (List.mem_cons_of_mem _ hz)) h2
    simp only [List.cons_append] at ih1 ih2 ⊢
    cases h : lt y x
    · rw [mrg_ge h, mrg_ge h, ih2]; rfl
    · rw [mrg_lt h, mrg_lt h, ih1]; rfl
termination_by L1 R1 => L1.length + R1.length

theorem mrg_assoc (S : SW lt) : ∀ (A B C : List α), mrg lt (mrg lt A B) C = mrg lt A (mrg lt B C)
  | [], B, C => by simp [mrg_nil]
  | a :: A, [], C => by simp [nil_mrg, mrg_nil]
  | a :: A, b :: B, [] => by simp [nil_mrg]
  | a :: A, b :: B, c :: C => by
    have i1 := mrg_assoc S (a :: A) (b :: B) C
    have i2 := mrg_assoc S (a :: A) B (c :: C)
    have i3 := mrg_assoc S A (b :: B) (c :: C)
    cases h1 : lt b a
    · cases h2 : lt c b
      · have h3 : lt c a = false := by
          cases h3 : lt c a
          · rfl
          · rcases S.neg c b a h3 with h | h
            · rw [h2] at h; cases h
            · rw [h1] at h; cases h
        rw [mrg_ge h1, mrg_ge h2, mrg_ge h3, mrg_ge h1, i3, mrg_ge h2]
      · cases h3 : lt c a
        · rw [mrg_ge h1, mrg_lt h2, mrg_ge h3, mrg_ge h3, i3, mrg_lt h2]
        · rw [mrg_lt h2, mrg_lt h3, ← i1, mrg_ge h1, mrg_lt h3]
    · cases h2 : lt c b
      · rw [mrg_lt h1, mrg_ge h2, mrg_ge h2, mrg_lt h1, i2]
      · have h3 := S.trans _ _ _ h2 h1
        rw [mrg_lt h1, mrg_lt h2, mrg_lt h2, mrg_lt h3, ← i1, mrg_lt h1]
termination_by A B C => A.length + B.length + C.length

def Asc (lt : α → α → Bool) (l : List α) : Prop := l.Pairwise fun x y => lt y x = false
theorem asc_nil : Asc lt [] := List.Pairwise.nil
theorem asc_one (x : α) : Asc lt [x] := by simp [Asc]

theorem asc_cons {x : α} {l : List α} : Asc lt (x :: l) ↔ (∀ y ∈ l, lt y x = false) ∧ Asc lt l := by simp [Asc]
theorem asc_append {l r : List α} : Asc lt (l ++ r) ↔ Asc lt l ∧ Asc lt r ∧ ∀ x ∈ l, ∀ y ∈ r, lt y x = false := by simp [Asc, List.pairwise_append]

/-- Only what stands side by side need be looked at. -/
theorem le_trans' (S : SW lt) {a b c : α} (h1 : lt b a = false) (h2 : lt c b = false) : lt c a = false := by
  cases h3 : lt c a
  · rfl
  · rcases S.neg c b a h3 with h | h
    · rw [h2] at h; cases h
    · rw [h1] at h; cases h

theorem asc_cons2 (S : SW lt) {x y : α} {l : List α} (h : lt y x = false) (hl : Asc lt (y :: l)) : Asc lt (x :: y :: l) := by
  rw [asc_cons]
  refine ⟨fun z hz => ?_, hl⟩
  rcases List.mem_cons.1 hz with rfl | hz
  · exact h
  · exact le_trans' S h ((asc_cons.1 hl).1 z hz)

theorem asc_of_side (S : SW lt) : ∀ l : List α, (∀ i, (h : i + 1 < l.length) → lt l[i + 1] l[i] = false) → Asc lt l
  | [], _ => asc_nil
  | [x], _ => asc_one x
  | x :: y :: l, h => asc_cons2 S (h 0 (by simp)) (asc_of_side S (y :: l) (fun i hi => h (i + 1) (by simpa using hi)))

theorem mrg_asc (S : SW lt) : ∀ {l r : List α}, Asc lt l → Asc lt r → Asc lt (mrg lt l r)
  | [], r, _, hr => by rw [mrg_nil]; exact hr
  | x :: l, [], hl, _ => by rw [nil_mrg]; exact hl
  | x :: l, y :: r, hl, hr => by
    cases h : lt y x
    · rw [mrg_ge h, asc_cons]
      refine ⟨fun z hz => ?_, mrg_asc S (asc_cons.1 hl).2 hr⟩
      rcases mrg_mem.1 hz with hz | hz
      · exact (asc_cons.1 hl).1 z hz
      · rcases List.mem_cons.1 hz with rfl | hz
        · exact h
        · exact le_trans' S h ((asc_cons.1 hr).1 z hz)
    · rw [mrg_lt h, asc_cons]
      refine ⟨fun z hz => ?_, mrg_asc S hl (asc_cons.1 hr).2⟩
      rcases mrg_mem.1 hz with hz | hz
      · rcases List.mem_cons.1 hz with rfl | hz
        · exact S.asym _ _ h
        · exact le_trans' S (S.asym _ _ h) ((asc_cons.1 hl).1 z hz)
      · exact (asc_cons.1 hr).1 z hz
termination_by l r => l.length + r.length

/-- Where all of l goes ahead of all of r. -/
theorem mrg_ahead {l r : List α} (h : ∀ x ∈ l, ∀ y ∈ r, lt y x = false) : mrg lt l r = l ++ r := by
  have := mrg_split (lt := lt) l [] [] r h (by simp)
  simpa [nil_mrg, mrg_nil] using this
/-- Where all of r goes ahead of all of l. -/
theorem mrg_behind {l r : List α} (h : ∀ x ∈ l, ∀ y ∈ r, lt y x = true) : mrg lt l r = r ++ l := by
  have := mrg_split (lt := lt) [] r l [] (by simp) h
  simpa [nil_mrg, mrg_nil] using this

/-- THE STABLE SORT: element after element merged in. -/
def srt (lt : α → α → Bool) (l : List α) : List α := l.foldl (fun acc x => mrg lt acc [x]) []

theorem srt_snoc (l : List α) (x : α) : srt lt (l ++ [x]) = mrg lt (srt lt l) [x] := by simp [srt]
theorem srt_nil : srt lt [] = [] := rfl
theorem srt_one (x : α) : srt lt [x] = [x] := by simp [srt, mrg_nil]

theorem list_snoc {P : List α → Prop} (h0 : P []) (h1 : ∀ l x, P l → P (l ++ [x])) (l : List α) : P l := by
  have : ∀ n (l : List α), l.length = n → P l := by
    intro n
    induction n with
    | zero => intro l hl; rw [List.eq_nil_of_length_eq_zero hl]; exact h0
    | succ n ih =>
      intro l hl
      have hne : l ≠ [] := by intro e; rw [e] at hl; simp at hl
      rw [← List.dropLast_concat_getLast hne]
      exact h1 _ _ (ih _ (by simp [hl]))
  exact this _ l rfl

theorem srt_append (S : SW lt) (a b : List α) : srt lt (a ++ b) = mrg lt (srt lt a) (srt lt b) := by
  refine list_snoc (P := fun b => srt lt (a ++ b) = mrg lt (srt lt a) (srt lt b)) ?_ ?_ b
  · rw [List.append_nil, srt_nil, nil_mrg]
  · intro l x ih
    rw [← List.append_assoc, srt_snoc, srt_snoc, ih, mrg_assoc S]

theorem srt_cons (S : SW lt) (x : α) (l : List α) : srt lt (x :: l) = mrg lt [x] (srt lt l) := by
  have := srt_append S [x] l
  rw [srt_one] at this
  exact this

theorem srt_perm (l : List α) : (srt lt l).Perm l := by
  refine list_snoc (P := fun l => (srt lt l).Perm l) (by rw [srt_nil]) ?_ l
  intro l x ih
  rw [srt_snoc]
  exact (mrg_perm _ _).trans (ih.append_right [x])
theorem srt_length (l : List α) : (srt lt l).length = l.length := (srt_perm l).length_eq
theorem srt_mem {l : List α} {x : α} : x ∈ srt lt l ↔ x ∈ l := (srt_perm l).mem_iff

theorem srt_asc (S : SW lt) (l : List α) : Asc lt (srt lt l) := by
  refine list_snoc (P := fun l => Asc lt (srt lt l)) asc_nil ?_ l
  intro l x ih
  rw [srt_snoc]; exact mrg_asc S ih (asc_one x)

theorem srt_of_asc {l : List α} (h : Asc lt l) : srt lt l = l := by
  revert h
  refine list_snoc (P := fun l => Asc lt l → srt lt l = l) (fun _ => rfl) ?_ l
  intro l x ih h
  rw [asc_append] at h
  rw [srt_snoc, ih h.1, mrg_ahead h.2.2]

theorem srt_srt (S : SW lt) (l : List α) : srt lt (srt lt l) = srt lt l := srt_of_asc (srt_asc S l)

theorem srt_mrg (S : SW lt) (a b : List α) : mrg lt (srt lt a) (srt lt b) = srt lt (a ++ b) := (srt_append S a b).symm
theorem mrg_srt (S : SW lt) {a b : List α} (ha : Asc lt a) (hb : Asc lt b) : mrg lt a b = srt lt (a ++ b) := by rw [srt_append S, srt_of_asc ha, srt_of_asc hb]

/-- One element on its way down. -/
theorem mrg_down {A B : List α} {x : α} (h : ∀ b ∈ B, lt x b = true) : mrg lt (A ++ B) [x] = mrg lt A [x] ++ B := by
  have := mrg_split (lt := lt) A [x] B [] (by simp) (by simpa using h)
  simpa [nil_mrg] using this
theorem mrg_stop {A : List α} {x : α} (h : ∀ a ∈ A, lt x a = false) : mrg lt A [x] = A ++ [x] := mrg_ahead (by simpa using h)

end

/-! ### by an integer key -/
def ltK {α : Type} (key : α → Int) (a b : α) : Bool := decide (key a < key b)
theorem swK {α : Type} (key : α → Int) : SW (ltK key) :=
  ⟨fun a b h => by simp only [ltK, decide_eq_true_eq, decide_eq_false_iff_not] at *; omega, fun a b c h1 h2 => by simp only [ltK, decide_eq_true_eq] at *; omega,
   fun a b c h => by simp only [ltK, decide_eq_true_eq] at *; omega⟩

end Go.Proofs.Ytkckmjajjdpodaa.Mg

/- Plain law: an item put into its place in an ascending list, by steps down. No program in sight. -/
namespace Go.Proofs.Ytkckmjajjdpodaa.Mg
set_option linter.unusedVariables false
section
variable {α : Type} {lt : α → α → Bool}

/-- x stands at place k of A, R behind. -/
def insSt (A : List α) (x : α) (k : Nat) (R : List α) : List α := A.take k ++ x :: (A.drop k ++ R)

theorem insSt_len {A : List α} {x : α} {k : Nat} {R : List α} (hk : k ≤ A.length) : (insSt A x k R).length = A.length + 1 + R.length := by
  unfold insSt
  simp only [List.length_append, List.length_cons, List.length_take, List.length_drop]
  omega
theorem insSt_top (A : List α) (x : α) (R : List α) : insSt A x A.length R = A ++ x :: R := by
  unfold insSt; simp
theorem insSt_at {A : List α} {x : α} {k : Nat} {R : List α} (hk : k ≤ A.length) : (insSt A x k R)[k]? = some x := by
  unfold insSt
  rw [List.getElem?_append_right (by rw [List.length_take]; omega), List.length_take, show k - min k A.length = 0 by omega]
  rfl
theorem insSt_before {A : List α} {x : α} {k : Nat} {R : List α} (hk : k < A.length) : (insSt A x (k + 1) R)[k]? = some A[k] := by
  unfold insSt
  rw [List.getElem?_append_left (by rw [List.length_take]; omega), List.getElem?_take_of_lt (by omega), List.getElem?_eq_getElem hk]
theorem insSt_step {A : List α} {x : α} {k : Nat} {R : List α} (hk : k < A.length) : ((insSt A x (k + 1) R).set k x).set (k + 1) A[k] = insSt A x k R := by
  unfold insSt
  have h1 : A.take (k + 1) = A.take k ++ [A[k]] := by rw [List.take_add_one, List.getElem?_eq_getElem hk]; rfl
  have h2 : A.drop k = A[k] :: A.drop (k + 1) := List.drop_eq_getElem_cons hk
  have hl : (A.take k).length = k := by rw [List.length_take]; omega
  rw [h1, h2, List.append_assoc, List.set_append, if_neg (by omega), hl, Nat.sub_self, List.set_append, if_neg (by omega), hl, show k + 1 - k = 1 by omega]
  rfl
theorem insSt_end (S : SW lt) {A : List α} {x : α} {k : Nat} {R : List α} (hA : Asc lt A) (hk : k ≤ A.length) (hd : ∀ b ∈ A.drop k, lt x b = true) (hs : ∀ (h : 0 < k), lt x (A[k - 1]'(by omega)) = false) :
    insSt A x k R = mrg lt A [x] ++ R := by
  have h1 : mrg lt A [x] = mrg lt (A.take k) [x] ++ A.drop k := by
    have := mrg_down (lt := lt) (A := A.take k) (B := A.drop k) (x := x) hd
    rwa [List.take_append_drop] at this
  have h2 : mrg lt (A.take k) [x] = A.take k ++ [x] := by
    apply mrg_stop
    intro a ha
    obtain ⟨i, hi, rfl⟩ := List.mem_take_iff_getElem.1 ha
    have hi' : i < k := by omega
    have hs' := hs (by omega)
    by_cases e : i = k - 1
    · subst e; exact hs'
    · have := List.pairwise_iff_getElem.1 hA i (k - 1) (by omega) (by omega) (by omega)
      exact le_trans' S this hs'
  unfold insSt
  rw [h1, h2]
  simp
/-- One item more that has its place. -/
theorem insSt_srt (S : SW lt) {l : List α} {x : α} {k : Nat} {R : List α} (hk : k ≤ (srt lt l).length) (hd : ∀ b ∈ (srt lt l).drop k, lt x b = true) (hs : ∀ (h : 0 < k), lt x ((srt lt l)[k - 1]'(by omega)) = false) :
    insSt (srt lt l) x k R = srt lt (l ++ [x]) ++ R := by
  rw [insSt_end S (srt_asc S l) hk hd hs, srt_snoc]

theorem asc_unique (S : SW lt) (ht : ∀ a b, lt a b = false → lt b a = false → a = b) : ∀ {l r : List α}, l.Perm r → Asc lt l → Asc lt r → l = r := by
  intro l r hp hl hr
  exact hp.eq_of_pairwise (fun a b _ _ h1 h2 => ht a b h2 h1) hl hr
end

/-- Integers: the library's sort is this one. -/
def ltI (a b : Int) : Bool := decide (a < b)
theorem swI : SW ltI := swK (fun x : Int => x)
def srtI (l : List Int) : List Int := srt ltI l
theorem merge_srtI (l : List Int) : l.mergeSort (fun x y => decide (x ≤ y)) = srtI l := by
  have h1 : (l.mergeSort (fun x y => decide (x ≤ y))).Pairwise (fun a b => decide (a ≤ b) = true) :=
    List.pairwise_mergeSort (by intro a b c; simp; omega) (by intro a b; simp; omega) l
  have h2 : Asc ltI (l.mergeSort (fun x y => decide (x ≤ y))) := by
    refine h1.imp ?_
    intro a b h
    simp [ltI] at h ⊢
    omega
  refine asc_unique swI (fun a b h1 h2 => by simp [ltI] at h1 h2; omega) ?_ h2 (srt_asc swI l)
  exact (List.mergeSort_perm _ _).trans (srt_perm l).symm
end Go.Proofs.Ytkckmjajjdpodaa.Mg
