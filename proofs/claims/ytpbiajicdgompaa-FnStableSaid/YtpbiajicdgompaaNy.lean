/- The law FnStable: its walk. -/
import Derived.Test.YtpbiajicdgompaaNx
namespace Go.Proofs.Ytpbiajicdgompaa
open Go.RowKit Go.Sort
set_option linter.unusedVariables false

theorem Try.infoBoolN : (Try.prog.info? 4).map (fun i => (i.zero, i.size, i.bytes)) = some (some (.bool false), 1, 1) := by kernel_rfl
theorem slBoolN : SlT Try.prog 30 4 (.bool false) 1 1 := ⟨Try.underlying30, info_parts Try.infoBoolN, rfl, by decide, by decide⟩

/-- The places that are used behind k rounds. -/
def usedL (P : List Nat) (n k : Nat) : List Value := (List.range n).map fun j => .bool (decide (j ∈ P.take k))
theorem specIV_any (a : Option Addr) (n cap : Nat) (rs : List (Int × Int)) (w : World) (hbig : n ≤ 9223372036854775807) (h : Rd w a n cap rs) :
    Calls Try.prog 21 #[.slice a n cap] w fun e w' => e = .returned (.bool (okRecs rs)) ∧ w = w' := by
  obtain ⟨h, rfl, _, _⟩ := h
  have H := Lib.hid (l2Records_any a cap rs w hbig h)
  clear h
  go_enter Try.func21, Try.ntmps21
  go_wp2_with fail
  refine H.out.mono ?_
  rintro e w1 ⟨rfl, rfl⟩
  go_wp2
  go_ret
  exact ⟨rfl, rfl⟩

theorem usedL_len (P : List Nat) (n k : Nat) : (usedL P n k).length = n := by simp [usedL]
theorem usedL_at {P : List Nat} {n k j : Nat} (h : j < n) : (usedL P n k)[j]? = some (.bool (decide (j ∈ P.take k))) := by
  unfold usedL
  rw [List.getElem?_map, List.getElem?_range h]; rfl
theorem usedL_zero (P : List Nat) (n : Nat) : usedL P n 0 = List.replicate n (.bool false) := by
  refine List.ext_getElem? fun j => ?_
  rcases Nat.lt_or_ge j n with h | h
  · rw [usedL_at h]; simp [List.getElem?_replicate, h]
  · rw [List.getElem?_eq_none (by rw [usedL_len]; exact h), List.getElem?_eq_none (by simpa using h)]
theorem usedL_succ {P : List Nat} {n k p : Nat} (h : P[k]? = some p) : (usedL P n k).set p (.bool true) = usedL P n (k + 1) := by
  refine List.ext_getElem? fun j => ?_
  rw [List.getElem?_set]
  rcases Nat.lt_or_ge j n with hj | hj
  · rw [usedL_at hj, usedL_at hj, usedL_len]
    have e : P.take (k + 1) = P.take k ++ [p] := by rw [List.take_add_one, h]; rfl
    rw [e]
    by_cases hp : p = j
    · subst hp; rw [if_pos rfl, if_pos hj]; simp
    · rw [if_neg hp]
      congr 2
      simp [List.mem_append, Ne.symm hp]
  · rw [List.getElem?_eq_none (by rw [usedL_len]; exact hj), List.getElem?_eq_none (by rw [usedL_len]; exact hj), usedL_len]
    split
    · rw [if_neg (by omega)]
    · rfl

/-- The place used last. -/
def lastV (P : List Nat) (k : Nat) : Int := if k = 0 then -1 else ((P.getD (k - 1) 0 : Nat) : Int)

set_option maxRecDepth 100000 in
set_option maxHeartbeats 8000000 in
theorem lawStable_any (ac : Option Addr) (cc : Nat) (cs : List Int) (w : World) (hbig : cs.length ≤ 9223372036854775807) (h : BytesAt w ac cs) :
    Calls Try.prog 3 #[.slice ac cs.length cc] w fun e w' => e = .returned (.bool true) ∧ Below w.heap.size w w' := by
  have HV := Lib.hid (vBigG_any ac cs.length cc w hbig)
  by_cases hl : 65536 < cs.length
  · rw [decide_eq_true hl] at HV
    clear h
    go_enter Try.func3, Try.ntmps3
    go_wp2_with (go_at_call 15; refine HV.out.mono ?_; rintro e w' ⟨rfl, rfl⟩)
    go_ret
    exact ⟨rfl, Below.refl _ _⟩
  rw [decide_eq_false hl] at HV
  have HD := Lib.hid (drawStableSort_any ac cc cs w (by omega) h)
  clear h
  unfold RdDraw at HD
  go_enter Try.func3, Try.ntmps3
  go_wp2_with fail
  refine HV.out.mono ?_
  rintro e w1 ⟨rfl, rfl⟩
  go_wp2_with fail
  refine HD.out.mono ?_
  rintro e w1 ⟨a1, n1, c1, rs, rfl, hr, hl70, hb⟩
  have HR1 := Lib.hid hr; have HB1 := Lib.hid hb
  clear hr hb HD HV
  go_wp2_with fail
  refine (implStableSort_any a1 n1 c1 rs w1 (by omega) HR1.out).mono ?_
  rintro e w2 ⟨a2, n2, c2, rfl, hr, hb⟩
  have HR2 := Lib.hid hr; have HB2 := Lib.hid (below_tr HB1.out hb HB1.out.size)
  have HQ2 := Lib.hid (HR1.out.same hb)
  clear hr hb HR1
  go_wp2_with fail
  refine (specStableSort_any a1 n1 c1 rs w2 (by omega) HQ2.out).mono ?_
  rintro e w3 ⟨a3, n3, c3, rfl, hr, hb⟩
  have HR3 := Lib.hid hr; have HB3 := Lib.hid (below_tr HB2.out hb HB2.out.size)
  have HQ3 := Lib.hid (HQ2.out.same hb); have HS3 := Lib.hid (HR2.out.same hb)
  clear hr hb HQ2 HR2
  have hst := stAns_le rs
  have hn2 : n2 ≤ 70 := by rw [← HS3.out.len]; have := HQ3.out.len; omega
  have hn3 : n3 ≤ 70 := by rw [← HR3.out.len]; have := HQ3.out.len; omega
  have q1 : (okRecs rs != okRecs rs) = false := by simp
  have q2 : decide (stAns rs = stAns rs) = true := by simp
  clear hst
  go_wp2_with fail
  refine (vRecords_any a2 a3 n2 n3 c2 c3 _ _ w3 (by omega) (by omega) HS3.out HR3.out).mono ?_
  rintro e w4 ⟨rfl, hb⟩
  have HB4 := Lib.hid (below_tr HB3.out hb HB3.out.size)
  have HQ4 := Lib.hid (HQ3.out.same hb); have HS4 := Lib.hid (HS3.out.same hb)
  clear hb HQ3 HS3 HR3
  have HI4 := Lib.hid (isValidRecords_any a1 c1 rs w4 (by rw [HQ4.out.len]; omega) HQ4.out.recs)
  rw [HQ4.out.len] at HI4
  go_wp2_with fail
  refine HI4.out.mono ?_
  rintro e w5 ⟨rfl, hb⟩
  have HB5 := Lib.hid (below_tr HB4.out hb HB4.out.size)
  have HQ5 := Lib.hid (HQ4.out.same hb); have HS5 := Lib.hid (HS4.out.same hb)
  clear hb HQ4 HS4 HI4
  go_wp2_with fail
  refine (specIV_any a1 n1 c1 rs w5 (by omega) HQ5.out).mono ?_
  rintro e w6 ⟨rfl, rfl⟩
  cases hok : okRecs rs
  · have HE : Hid (n2 = 0) := by
      show _ = _
      rw [← HS5.out.len]; unfold stAns; rw [hok]; rfl
    have hn20 : n2 = 0 := HE.out
    subst hn20
    clear hok q1
    go_wp2
    go_ret
    exact ⟨rfl, HB5.out⟩
  have hS : stAns rs = srtR rs := by unfold stAns; rw [if_pos hok]
  rw [hS] at HS5
  have hnn : n2 = n1 := by rw [← HS5.out.len, srtR_len, HQ5.out.len]
  subst hnn
  clear hok q1 q2 hS
  obtain ⟨P, hP⟩ : ∃ P, P = Mg.pos (Prod.fst : Int × Int → Int) rs := ⟨_, rfl⟩
  have HPL : Hid (P.length = n2) := by show _ = _; rw [hP, Mg.pos_len, HQ5.out.len]
  have HPA : Hid (∀ i p, P[i]? = some p → p < rs.length ∧ rs[p]? = (srtR rs)[i]?) := fun i p h => by rw [hP] at h; exact Mg.pos_at _ h
  have HPT : Hid (∀ i j p q (x y : Int × Int), P[i]? = some p → P[j]? = some q → i < j → rs[p]? = some x → rs[q]? = some y → x.1 < y.1 ∨ x.1 = y.1 ∧ p < q) := fun i j p q x y h1 h2 h3 h4 h5 => by rw [hP] at h1 h2; exact Mg.pos_lt _ h1 h2 h3 h4 h5
  have HPF : Hid (∀ i p k (x : Int × Int), P[i]? = some p → k < p → rs[p]? = some x → rs[k]? = some x → k ∈ P.take i) := fun i p k x h1 h2 h3 h4 => by rw [hP] at h1 ⊢; exact Mg.pos_first _ h1 h2 h3 h4
  have HPN : Hid (∀ i p, P[i]? = some p → p ∉ P.take i) := fun i p h1 => by rw [hP] at h1 ⊢; exact Mg.pos_new _ h1
  clear hP
  generalize srtR rs = ss at HS5 HPA
  go_wp2_with (at_make; refine wpList_mk slBoolN rfl _ _ rfl n2 rfl rfl (by omega) ?_)
  intro w6 hown hb6 hsz
  have hown : w6.ownsRow w5.heap.size 4 1 (.slice (some ⟨w5.heap.size, 0, none⟩) n2 n2) n2 (usedL P n2 0) := by
    rw [usedL_zero, ← toList_madeCells_one]; simpa [Value.cells] using hown
  have HO6 := Lib.hid hown; have HB6 := Lib.hid hb6
  clear hown hb6 hsz
  go_wp2
  go_loopw [9, 10] (fun last i wr => ∃ k : Nat, i = .int .i64 k ∧ k ≤ n2 ∧ last = .int .i64 (lastV P k) ∧ wr.ownsRow w5.heap.size 4 1 (.slice (some ⟨w5.heap.size, 0, none⟩) n2 n2) n2 (usedL P n2 k) ∧ Below w5.heap.size w5 wr) (fun _ i _ => n2 - (intOf i).toNat)
  case atStart => exact ⟨0, rfl, by omega, rfl, HO6.out, HB6.out⟩
  case round =>
    obtain ⟨k, rfl, hk, rfl, ho, hb⟩ := hrel
    have HO := Lib.hid ho; have HB := Lib.hid hb
    clear ho hb HO6 HB6
    by_cases hlt : k < n2
    case neg =>
      obtain rfl : k = n2 := by omega
      have h3 : decide ((k : Int) < (k : Int)) = false := by simp
      go_wp2
      go_ret
      exact ⟨rfl, HB5.out.trans (HB.out.mono HB5.out.size)⟩
    obtain ⟨p, hp⟩ : ∃ p, P[k]? = some p := ⟨_, List.getElem?_eq_getElem (by rw [HPL.out]; exact hlt)⟩
    obtain ⟨hpl, hpx⟩ := HPA.out k p hp
    have hpn : p < n2 := by have := HQ5.out.len; omega
    have HX : Hid (rs[p]? = some (rs.getD p (0, 0))) := by show _ = _; rw [getD_get hpl, List.getElem?_eq_getElem hpl]
    have hsk : ss.getD k (0, 0) = rs.getD p (0, 0) := by
      rw [List.getD_eq_getElem?_getD, List.getD_eq_getElem?_getD, hpx]
    have HP := Lib.hid hp
    have HF := Lib.hid (fun j (h1 : j < p) => HPF.out k p j _ hp h1 HX.out)
    have HN := Lib.hid (HPN.out k p hp)
    obtain ⟨sb, so, rfl, s1, s2⟩ := (HS5.out.same HB.out).at hlt
    rw [hsk] at s1 s2
    obtain ⟨lb, lo, rfl, l1, l2⟩ := (HQ5.out.same HB.out).at hpn
    obtain ⟨X, hX⟩ : ∃ X, rs.getD p (0, 0) = X := ⟨_, rfl⟩
    rw [hX] at s1 s2 l1 l2 HF
    have HXX := Lib.hid hX
    have HLAST : Hid (0 < k → ∃ q y, P[k - 1]? = some q ∧ P.getD (k - 1) 0 = q ∧ ss.getD (k - 1) (0, 0) = y ∧ (y.1 < X.1 ∨ y.1 = X.1 ∧ q < p)) := fun h0 => by
      have hq : P[k - 1]? = some (P[k - 1]'(by rw [HPL.out]; omega)) := List.getElem?_eq_getElem _
      obtain ⟨g1, g2⟩ := HPA.out _ _ hq
      refine ⟨_, _, hq, by rw [List.getD_eq_getElem?_getD, hq]; rfl, rfl, ?_⟩
      have hsl : k - 1 < ss.length := by rw [HS5.out.len]; omega
      exact HPT.out (k - 1) k _ p (ss.getD (k - 1) (0, 0)) X hq hp (by omega) (by rw [g2, getD_get hsl, List.getElem?_eq_getElem hsl]) (by rw [← hX]; exact HX.out)
    clear hp hpl hpx hsk hX
    have hki : decide ((k : Int) < (n2 : Int)) = true := decide_eq_true (by omega)
    obtain ⟨wo, rfl⟩ : ∃ wo : World, wo = wr := ⟨_, rfl⟩
    go_wp2
    go_loopw [11, 12] (fun at_ j wq => ∃ t : Nat, j = .int .i64 t ∧ ((t ≤ p ∧ at_ = .int .i64 (-1)) ∨ (t = p + 1 ∧ at_ = .int .i64 p)) ∧ Below wo.heap.size wo wq) (fun _ j _ => n2 - (intOf j).toNat)
    case atStart => exact ⟨0, rfl, .inl ⟨by omega, rfl⟩, Below.refl _ _⟩
    case round =>
      obtain ⟨t, rfl, hcase, hb⟩ := hrel
      have HBq := Lib.hid hb
      have HOq := Lib.hid (own_below HO.out (Nat.le_refl _) hb)
      have HB2 := Lib.hid (HB.out.trans (hb.mono HB.out.size))
      have s1 : wr.cell? ⟨sb, so + k * 2, none⟩ = some (.int .i64 X.1) := (hb.cell (p := ⟨sb, so + k * 2, none⟩) (World.block_lt_of_cell? _ _ s1)).trans s1
      have s2 : wr.cell? ⟨sb, so + k * 2 + 1, none⟩ = some (.int .i64 X.2) := (hb.cell (p := ⟨sb, so + k * 2 + 1, none⟩) (World.block_lt_of_cell? _ _ s2)).trans s2
      clear hb
      obtain ⟨X1, X2⟩ := X
      rcases hcase with ⟨htp, rfl⟩ | ⟨rfl, rfl⟩
      · have htn : t < n2 := by omega
        have hti : decide ((t : Int) < (n2 : Int)) = true := decide_eq_true (by omega)
        have hu := HOq.out.cellAt t (by omega)
        rw [usedL_at htn] at hu
        obtain ⟨b', o', e, m1, m2⟩ := (HQ5.out.same HB2.out).at htn
        injection e with e
        injection e with e1 e2
        subst e1 e2
        have hneg : decide ((-1 : Int) < 0) = true := rfl
        clear l1 l2
        by_cases htp2 : t = p
        · subst htp2
          rw [decide_eq_false HN.out] at hu
          have HXX2 := HXX.out
          rw [HXX2] at m1 m2
          clear HXX2
          go_wp2_with fail
          go_quiet (fail)
          go_wp2
          go_roundw
          case rel => exact ⟨t + 1, by go_num, .inr ⟨rfl, rfl⟩, below_drewN HBq.out _⟩
          case measure => simp [intOf] <;> omega
        · by_cases hin : t ∈ P.take k
          · rw [decide_eq_true hin] at hu
            have HIN := Lib.hid hin
            clear hin
            go_wp2_with fail
            go_quiet (fail)
            go_wp2
            go_roundw
            case rel => exact ⟨t + 1, by go_num, .inl ⟨by omega, rfl⟩, below_drewN HBq.out _⟩
            case measure => simp [intOf] <;> omega
          · rw [decide_eq_false hin] at hu
            obtain ⟨Z, hZ⟩ : ∃ Z, rs.getD t (0, 0) = Z := ⟨_, rfl⟩
            rw [hZ] at m1 m2
            have hne : Z ≠ (X1, X2) := fun h => hin (HF.out t (by omega) (by
              have htl : t < rs.length := by rw [HQ5.out.len]; exact htn
              rw [List.getElem?_eq_getElem htl, ← getD_get htl, hZ, h]))
            clear hin hZ
            obtain ⟨Z1, Z2⟩ := Z
            by_cases q1 : Z1 = X1
            · subst q1
              have q2 : (Z2 == X2) = false := by
                rw [beq_eq_false_iff_ne]; intro h; exact hne (by rw [h])
              clear hne
              go_wp2_with fail
              go_quiet (fail)
              go_wp2
              go_roundw
              case rel => exact ⟨t + 1, by go_num, .inl ⟨by omega, rfl⟩, below_drewN HBq.out _⟩
              case measure => simp [intOf] <;> omega
            · have q2 : (Z1 == X1) = false := by simpa using q1
              clear q1 hne
              go_wp2_with fail
              go_quiet (fail)
              go_wp2
              go_roundw
              case rel => exact ⟨t + 1, by go_num, .inl ⟨by omega, rfl⟩, below_drewN HBq.out _⟩
              case measure => simp [intOf] <;> omega
      · have hpneg : decide ((p : Int) < 0) = false := decide_eq_false (by omega)
        have hst := HOq.out.stored p (.bool true)
        rw [usedL_succ HP.out] at hst
        have HST := Lib.hid hst
        have hfz := HOq.out.frozenAt p
        clear hst
        have HLV : Hid (lastV P (k + 1) = (p : Int)) := by
          show _ = _
          unfold lastV
          rw [if_neg (by omega), Nat.add_sub_cancel, List.getD_eq_getElem?_getD, HP.out]; rfl
        rcases Nat.eq_zero_or_pos k with hk0 | hk0
        · subst hk0
          by_cases htn : p + 1 < n2
          all_goals
            first
              | have hti : decide ((p : Int) + 1 < (n2 : Int)) = true := decide_eq_true (by omega)
              | have hti : decide ((p : Int) + 1 < (n2 : Int)) = false := decide_eq_false (by omega)
            rw [show ((p + 1 : Nat) : Int) = (p : Int) + 1 by omega]
            go_wp2_with fail
            go_quiet (fail)
            have HOx : Hid ((wr.drewN nq).ownsRow w5.heap.size 4 1 (.slice (some ⟨w5.heap.size, 0, none⟩) n2 n2) n2 (usedL P n2 (0))) := HOq.out
            have HBx := Lib.hid (below_drewN HB2.out nq)
            generalize wr.drewN nq = wx at HOx HBx ⊢
            have hfx := HOx.out.frozenAt p
            have hcx := HOx.out.cellAt p (by omega)
            rw [usedL_at hpn] at hcx
            go_wp2_with fail
            have HS9 : Hid ((wx.setCell ⟨w5.heap.size, p, none⟩ (.bool true)).ownsRow w5.heap.size 4 1 (.slice (some ⟨w5.heap.size, 0, none⟩) n2 n2) n2 (usedL P n2 (0 + 1))) := by
              have := HOx.out.stored p (.bool true)
              rw [usedL_succ HP.out] at this
              exact this.1
            go_roundw
            case rel => exact ⟨0 + 1, by go_num, by omega, by rw [HLV.out], HS9.out, HBx.out.setCell (Nat.le_refl _) _⟩
            case measure => simp [intOf] <;> omega
        · obtain ⟨m, rfl⟩ : ∃ m, k = m + 1 := ⟨k - 1, by omega⟩
          obtain ⟨q, y, hq, hq2, hy, hor⟩ := HLAST.out hk0
          rw [Nat.add_sub_cancel] at hq hq2 hy
          have hlv : lastV P (m + 1) = (q : Int) := by
            unfold lastV
            rw [if_neg (by omega), Nat.add_sub_cancel, hq2]
          obtain ⟨b', o', e, m1, m2⟩ := (HS5.out.same HB2.out).at (show m < n2 by omega)
          injection e with e
          injection e with e1 e2
          subst e1 e2
          rw [hy] at m1 m2
          obtain ⟨y1, y2⟩ := y
          rw [hlv]
          have HQQ := Lib.hid hq
          have HOR := Lib.hid hor
          clear hq hq2 hy hlv hor HLAST
          have hcast : ((m + 1 : Nat) : Int) = (m : Int) + 1 := by omega
          rw [hcast]
          by_cases htn : p + 1 < n2
          all_goals
            first
              | have hti : decide ((p : Int) + 1 < (n2 : Int)) = true := decide_eq_true (by omega)
              | have hti : decide ((p : Int) + 1 < (n2 : Int)) = false := decide_eq_false (by omega)
            rw [show ((p + 1 : Nat) : Int) = (p : Int) + 1 by omega]
            have hpos : decide ((0 : Int) < (m : Int) + 1) = true := decide_eq_true (by omega)
            by_cases hyx : y1 = X1
            · subst hyx
              have hqp : q < p := by
                rcases HOR.out with h | h
                · exact absurd h (Int.lt_irrefl _)
                · exact h.2
              have hgt : decide ((p : Int) < (q : Int)) = false := decide_eq_false (by omega)
              go_wp2_with fail
              go_quiet (fail)
              have HOx : Hid ((wr.drewN nq).ownsRow w5.heap.size 4 1 (.slice (some ⟨w5.heap.size, 0, none⟩) n2 n2) n2 (usedL P n2 (m + 1))) := HOq.out
              have HBx := Lib.hid (below_drewN HB2.out nq)
              generalize wr.drewN nq = wx at HOx HBx ⊢
              have hfx := HOx.out.frozenAt p
              have hcx := HOx.out.cellAt p (by omega)
              rw [usedL_at hpn] at hcx
              go_wp2_with fail
              have HS9 : Hid ((wx.setCell ⟨w5.heap.size, p, none⟩ (.bool true)).ownsRow w5.heap.size 4 1 (.slice (some ⟨w5.heap.size, 0, none⟩) n2 n2) n2 (usedL P n2 (m + 1 + 1))) := by
                have := HOx.out.stored p (.bool true)
                rw [usedL_succ HP.out] at this
                exact this.1
              go_roundw
              case rel => exact ⟨m + 1 + 1, by go_num, by omega, by rw [HLV.out], HS9.out, HBx.out.setCell (Nat.le_refl _) _⟩
              case measure => simp [intOf] <;> omega
            · have hlt1 : y1 < X1 := by
                rcases HOR.out with h | h
                · exact h
                · exact absurd h.1 hyx
              have hgt : decide (X1 < y1) = false := decide_eq_false (by omega)
              have heq : (y1 == X1) = false := by simpa using hyx
              clear hyx hlt1
              go_wp2_with fail
              go_quiet (fail)
              have HOx : Hid ((wr.drewN nq).ownsRow w5.heap.size 4 1 (.slice (some ⟨w5.heap.size, 0, none⟩) n2 n2) n2 (usedL P n2 (m + 1))) := HOq.out
              have HBx := Lib.hid (below_drewN HB2.out nq)
              generalize wr.drewN nq = wx at HOx HBx ⊢
              have hfx := HOx.out.frozenAt p
              have hcx := HOx.out.cellAt p (by omega)
              rw [usedL_at hpn] at hcx
              go_wp2_with fail
              have HS9 : Hid ((wx.setCell ⟨w5.heap.size, p, none⟩ (.bool true)).ownsRow w5.heap.size 4 1 (.slice (some ⟨w5.heap.size, 0, none⟩) n2 n2) n2 (usedL P n2 (m + 1 + 1))) := by
                have := HOx.out.stored p (.bool true)
                rw [usedL_succ HP.out] at this
                exact this.1
              go_roundw
              case rel => exact ⟨m + 1 + 1, by go_num, by omega, by rw [HLV.out], HS9.out, HBx.out.setCell (Nat.le_refl _) _⟩
              case measure => simp [intOf] <;> omega
end Go.Proofs.Ytpbiajicdgompaa
