/- Walks: what ProfileOf of both packages calls. -/
import Derived.Test.YtkjmngdcfheojaaSm1
import Derived.Test.YtkjmngdcfheojaaSp
import Derived.Test.YtkjmngdcfheojaaKo
namespace Go.Proofs.Ytkjmngdcfheojaa
open Go.RowKit Go.Sort
set_option linter.unusedVariables false

set_option maxRecDepth 100000 in
set_option maxHeartbeats 2000000 in
theorem descents_any (x : Addr) (cap : Nat) (ks : List Int) (w : World) (hlen : ks.length ≤ 1000) (h0 : 0 < ks.length) (h : IntsAt w (some x) ks) :
    Calls Try.prog 98 #[.slice (some x) ks.length cap] w fun e w' => (∃ (a' : Option Addr) (c' : Nat), e = .returned (.slice a' (Mg.cntP (Mg.dsc ks) (ks.length - 1)) c')) ∧ Below w.heap.size w w' := by
  have H := Lib.hid h; clear h
  have E1 := Lib.hid (own_lit (w := w) (e := 3) (size := 1) #[] 0 (by omega) rfl)
  go_enter Try.func98, Try.ntmps98
  go_wp2
  go_loopw [3, 4] (fun v i wr => ∃ (m : Nat) (acc : List Int), i = .int .i64 ((m : Int) + 1) ∧ m + 1 ≤ ks.length ∧ acc.length = Mg.cntP (Mg.dsc ks) m ∧ wr.ownsRow w.heap.size 3 1 v acc.length (acc.map (Value.int .i64)) ∧ Below w.heap.size w wr) (fun _ i _ => ks.length + 1 - (intOf i).toNat)
  case atStart => exact ⟨0, [], rfl, by omega, rfl, E1.out, (Below.refl _ _).alloc (Nat.le_refl _) _⟩
  case round =>
    obtain ⟨m, acc, rfl, hm, hacc, hown, hb⟩ := hrel
    obtain ⟨a', c', rfl⟩ := own_slice hown
    have HO := Lib.hid hown; have HB := Lib.hid hb; have HA := Lib.hid hacc
    clear hown hb hacc E1
    have hale := Mg.cntP_le (Mg.dsc ks) m
    by_cases hlt : m + 1 < ks.length
    case neg =>
      go_wp2
      go_ret
      exact ⟨⟨a', c', by rw [HA.out, show m = ks.length - 1 by omega]; rfl⟩, HB.out⟩
    obtain ⟨b, off, e1, hc1⟩ := (H.out.below (Nat.le_refl _) HB.out).at (show m < ks.length by omega)
    obtain ⟨b', off', e2, hc2⟩ := (H.out.below (Nat.le_refl _) HB.out).at hlt
    injection e1 with e1
    injection e2 with e2
    subst e1
    injection e2 with eb eo _
    subst eb; subst eo
    have HC := Lib.hid (show Mg.cntP (Mg.dsc ks) (m + 1) = Mg.cntP (Mg.dsc ks) m + if Mg.dsc ks m then 1 else 0 from rfl)
    have HD := Lib.hid (show Mg.dsc ks m = decide (ks.getD (m + 1) 0 < ks.getD m 0) from rfl)
    generalize ks.getD m 0 = p at hc1 HD
    generalize ks.getD (m + 1) 0 = q at hc2 HD
    have hn40 : acc.length + 1 ≤ 1099511627776 := by rw [HA.out]; omega
    have hbs := HB.out.size
    have hbs2 : w.heap.size ≤ (wr.drewN 0).heap.size := HB.out.size
    have h3 : decide ((m : Int) + 1 < (ks.length : Int)) = true := by simp; omega
    by_cases hqp : q < p
    · have hz : decide (q < p) = true := by simpa using hqp
      have HV : Hid (Mg.dsc ks m = true) := by show _ = _; rw [HD.out]; exact hz
      clear hqp
      go_wp2_with fail
      go_quiet (fail)
      have HO2 : Hid ((wr.drewN nq).ownsRow w.heap.size 3 1 (.slice a' acc.length c') acc.length (acc.map (Value.int .i64))) := HO.out
      have HB2 := Lib.hid (below_drewN HB.out nq)
      have hbs3 : w.heap.size ≤ (wr.drewN nq).heap.size := HB.out.size
      generalize wr.drewN nq = wq at HO2 HB2 hbs3 ⊢
      go_wp2_with (at_builtin; refine wpList_app1 slInt rfl _ _ rfl rfl HO2.out [.int .i64 m] rfl rfl (by simp) (by simp [Value.oneCell']) hn40 hbs3 ?_; intro v' w2 hown' hg ht)
      have HO3 := Lib.hid hown'
      have HB3 := Lib.hid (below_app HB2.out hbs3 HO2.out (Nat.le_refl _) hg)
      clear hown' hg ht
      go_wp2
      go_roundw
      case rel => exact ⟨m + 1, acc ++ [(m : Int)], by go_num, by omega, by rw [HC.out, HV.out, List.length_append, HA.out]; rfl, by rw [List.length_append, List.map_append]; exact HO3.out, HB3.out⟩
      case measure => simp [intOf] <;> omega
    · have hz : decide (q < p) = false := by simpa using hqp
      have HV : Hid (Mg.dsc ks m = false) := by show _ = _; rw [HD.out]; exact hz
      clear hqp
      go_wp2_with fail
      go_quiet (fail)
      go_wp2
      go_roundw
      case rel => exact ⟨m + 1, acc, by go_num, by omega, by rw [HC.out, HV.out, HA.out]; rfl, HO.out, below_drewN HB.out _⟩
      case measure => simp [intOf] <;> omega

set_option maxRecDepth 100000 in
set_option maxHeartbeats 2000000 in
theorem sum_any (a : Option Addr) (cap n : Nat) (l : List Int) (w : World) (hn : l.length = n) (hlen : n ≤ 1000) (hs : ∀ k, k ≤ n → 0 ≤ Mg.sumL (l.take k) ∧ Mg.sumL (l.take k) ≤ 1000000) (h : IntsAt w a l) :
    Calls Try.prog 99 #[.slice a n cap] w fun e w' => e = .returned (.int .i64 (Mg.sumL l)) ∧ Below w.heap.size w w' := by
  subst hn
  have H := Lib.hid h; clear h
  have HS := Lib.hid hs; clear hs
  go_enter Try.func99, Try.ntmps99
  go_wp2
  go_loopw [3, 5, 8] (fun v _ i wr => ∃ k : Nat, k ≤ l.length ∧ i = .int .i64 k ∧ v = .int .i64 (Mg.sumL (l.take k)) ∧ Below w.heap.size w wr) (fun _ _ i _ => l.length - (intOf i).toNat)
  case atStart => exact ⟨0, by omega, rfl, rfl, Below.refl _ _⟩
  case round =>
    obtain ⟨k, hk, rfl, rfl, hb⟩ := hrel
    have HB := Lib.hid hb; clear hb
    by_cases hlt : k < l.length
    · obtain ⟨b, off, rfl, hc⟩ := (H.out.below (Nat.le_refl _) HB.out).at hlt
      have hstep : Mg.sumL (l.take (k + 1)) = Mg.sumL (l.take k) + l.getD k 0 := by
        unfold Mg.sumL
        rw [List.take_add_one, List.getElem?_eq_getElem hlt, List.getD_eq_getElem?_getD, List.getElem?_eq_getElem hlt, List.foldl_append]
        rfl
      obtain ⟨h1, h2⟩ := HS.out (k + 1) hlt
      obtain ⟨h3, h4⟩ := HS.out k hk
      rw [hstep] at h1 h2
      have HST := Lib.hid hstep
      clear hstep
      generalize l.getD k 0 = x at hc h1 h2 HST
      generalize Mg.sumL (l.take k) = s at h1 h2 h3 h4 HST ⊢
      have b1 : -9223372036854775808 ≤ s + x := by omega
      have b2 : s + x ≤ 9223372036854775807 := by omega
      go_wp2
      go_roundw
      case rel => exact ⟨k + 1, by omega, by go_num, by rw [HST.out], HB.out⟩
      case measure => simp [intOf] <;> omega
    · obtain rfl : k = l.length := by omega
      rw [List.take_length]
      go_wp2
      go_ret
      exact ⟨rfl, HB.out⟩

theorem tbl_take_succ {ks : List Int} {k : Nat} (h : k < ks.length) : (Mg.tbl ks).take (k + 1) = (Mg.tbl ks).take k ++ [(((ks.drop (k + 1)).countP fun y => decide (y < ks.getD k 0) : Nat) : Int)] := by
  rw [List.take_add_one, Mg.tbl_drop ks k h]; rfl

set_option maxRecDepth 100000 in
set_option maxHeartbeats 4000000 in
theorem inversionTable_any (x : Addr) (cap : Nat) (ks : List Int) (w : World) (hlen : ks.length ≤ 1000) (hcap : ks.length ≤ cap) (hcap2 : cap ≤ 9223372036854775807) (h : IntsAt w (some x) ks) :
    Calls Try.prog 100 #[.slice (some x) ks.length cap] w fun e w' => ∃ a' c', e = .returned (.slice a' ks.length c') ∧ w'.ownsRow w.heap.size 3 1 (.slice a' ks.length c') ks.length ((Mg.tbl ks).map (Value.int .i64)) ∧ Below w.heap.size w w' := by
  have H := Lib.hid h; clear h
  have E1 := Lib.hid (own_lit (w := w) (e := 3) (size := 1) #[] 0 (by omega) rfl)
  go_enter Try.func100, Try.ntmps100
  go_wp2
  go_loopw [3, 4, 5, 12] (fun v _ _ i wr => ∃ k : Nat, k ≤ ks.length ∧ i = .int .i64 k ∧ wr.ownsRow w.heap.size 3 1 v k (((Mg.tbl ks).take k).map (Value.int .i64)) ∧ Below w.heap.size w wr) (fun _ _ _ i _ => ks.length - (intOf i).toNat)
  case atStart => exact ⟨0, by omega, rfl, E1.out, (Below.refl _ _).alloc (Nat.le_refl _) _⟩
  case round =>
    obtain ⟨k, hk, rfl, hown, hb⟩ := hrel
    obtain ⟨a', c', rfl⟩ := own_slice hown
    have HO := Lib.hid hown; have HB := Lib.hid hb
    clear hown hb E1
    by_cases hlt : k < ks.length
    case neg =>
      obtain rfl : k = ks.length := by omega
      have HO2 := Lib.hid (show wr.ownsRow w.heap.size 3 1 (.slice a' ks.length c') ks.length ((Mg.tbl ks).map (Value.int .i64)) from by
        have := HO.out
        rwa [List.take_of_length_le (by rw [Mg.tbl_len]; omega)] at this)
      go_wp2
      go_ret
      exact ⟨a', c', rfl, HO2.out, HB.out⟩
    obtain ⟨b, off, e1, hc⟩ := (H.out.below (Nat.le_refl _) HB.out).at hlt
    injection e1 with e1
    subst e1
    have HT := Lib.hid (tbl_take_succ hlt)
    have HG := Lib.hid (show ∀ wq, Below wr.heap.size wr wq → ∀ j, j < ks.length → wq.cell? ⟨b, off + j, none⟩ = some (.int .i64 (ks.getD j 0)) from fun wq hb2 j hj => by
      obtain ⟨b', off', e2, hc'⟩ := (H.out.below (Nat.le_refl _) (HB.out.trans (hb2.mono HB.out.size))).at hj
      injection e2 with e2
      injection e2 with eb eo _
      rw [eb, eo]; exact hc')
    generalize hX : ks.getD k 0 = X at hc HT
    have b1 : (0 : Int) ≤ (k : Int) + 1 := by omega
    have b2 : (k : Int) + 1 ≤ (ks.length : Int) := by omega
    have b3 : (ks.length : Int) ≤ (cap : Int) := by omega
    have h3 : decide ((k : Int) < (ks.length : Int)) = true := by simp; omega
    have HXX := Lib.hid hX
    clear hX
    go_wp2_with fail
    all_goals
      try subst h
      have HN := Lib.hid (show ∀ j, j < ks.length - (k + 1) → ((ks.drop (k + 1)).take (j + 1)).countP (fun y => decide (y < X)) = ((ks.drop (k + 1)).take j).countP (fun y => decide (y < X)) + if ks.getD (k + 1 + j) 0 < X then 1 else 0 from fun j hj => by
        have hl : j < (ks.drop (k + 1)).length := by rw [List.length_drop]; exact hj
        rw [List.take_add_one, List.getElem?_eq_getElem hl, List.countP_append, List.getElem_drop, List.getD_eq_getElem?_getD, List.getElem?_eq_getElem (by omega)]
        simp [List.countP_cons])
      have HL := Lib.hid (show ∀ j, ((ks.drop (k + 1)).take j).countP (fun y => decide (y < X)) ≤ j from fun j => Nat.le_trans List.countP_le_length (by rw [List.length_take]; omega))
      have HEN := Lib.hid (show (ks.drop (k + 1)).take (ks.length - (k + 1)) = ks.drop (k + 1) from List.take_of_length_le (by rw [List.length_drop]; omega))
      go_loopw [6, 8, 22] (fun v _ i wq => ∃ j : Nat, j ≤ ks.length - (k + 1) ∧ i = .int .i64 j ∧ v = .int .i64 ((((ks.drop (k + 1)).take j).countP (fun y => decide (y < X)) : Nat) : Int) ∧ Below wr.heap.size wr wq) (fun _ _ i _ => ks.length - (k + 1) - (intOf i).toNat)
      case atStart => exact ⟨0, by omega, rfl, rfl, Below.refl _ _⟩
      case round =>
        obtain ⟨j, hj, rfl, rfl, hb2⟩ := hrel
        have HB2 := Lib.hid hb2; clear hb2
        have hcl := HL.out j
        by_cases hjl : j < ks.length - (k + 1)
        · try (exfalso; omega)
          all_goals
            have hc2 : wr.cell? ⟨b, off + (k + 1) + j, none⟩ = some (.int .i64 (ks.getD (k + 1 + j) 0)) := by
              have := HG.out _ HB2.out (k + 1 + j) (by omega)
              rwa [← Nat.add_assoc] at this
            have HNJ := Lib.hid (HN.out j hjl)
            generalize ks.getD (k + 1 + j) 0 = Y at hc2 HNJ
            generalize ((ks.drop (k + 1)).take j).countP (fun y => decide (y < X)) = N at hcl HNJ ⊢
            have h4 : decide ((j : Int) < ((ks.length - (k + 1) : Nat) : Int)) = true := by simp; omega
            by_cases hyx : Y < X
            · have hz : decide (Y < X) = true := by simpa using hyx
              go_wp2
              go_roundw
              case rel => exact ⟨j + 1, by omega, by go_num, by rw [HNJ.out, if_pos hyx]; go_num, HB2.out⟩
              case measure => simp [intOf] <;> omega
            · have hz : decide (Y < X) = false := by simpa using hyx
              go_wp2
              go_roundw
              case rel => exact ⟨j + 1, by omega, by go_num, by rw [HNJ.out, if_neg hyx]; rfl, HB2.out⟩
              case measure => simp [intOf] <;> omega
        · obtain rfl : j = ks.length - (k + 1) := by omega
          rw [HEN.out]
          have h4 : decide (((ks.length - (k + 1) : Nat) : Int) < ((ks.length - (k + 1) : Nat) : Int)) = false := by simp
          have HO3 := Lib.hid (own_below HO.out (Nat.le_refl _) HB2.out)
          have HB3 := Lib.hid (HB.out.trans (HB2.out.mono HB.out.size))
          have hn40 : k + 1 ≤ 1099511627776 := by omega
          have hbs := HB3.out.size
          generalize (((ks.drop (k + 1)).countP (fun y => decide (y < X)) : Nat) : Int) = N at HT ⊢
          go_wp2_with (at_builtin; refine wpList_app1 slInt rfl _ _ rfl rfl HO3.out [.int .i64 N] rfl rfl (by simp) (by simp [Value.oneCell']) hn40 hbs ?_; intro v' w2 hown' hg ht)
          have HO4 := Lib.hid hown'
          have HB4 := Lib.hid (below_app HB3.out hbs HO3.out (Nat.le_refl _) hg)
          clear hown' hg ht
          go_roundw
          case rel => exact ⟨k + 1, by omega, by go_num, by rw [HT.out, List.map_append]; exact HO4.out, HB4.out⟩
          case measure => simp [intOf] <;> omega

end Go.Proofs.Ytkjmngdcfheojaa
