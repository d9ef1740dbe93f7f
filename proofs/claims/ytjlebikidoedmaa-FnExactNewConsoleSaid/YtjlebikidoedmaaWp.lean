/- Walks: a console's parts: records of keys, marks, comparisons. -/
import Derived.Test.YtjlebikidoedmaaKd
import Derived.Test.YtjlebikidoedmaaWf
namespace Go.Proofs.Ytjlebikidoedmaa
open Go.RowKit
set_option linter.unusedVariables false

def recsK (zs : List Int) (k : Nat) : List (Int × Int) := (List.range k).map fun j : Nat => (zs.getD j 0, (j : Int))
def recsOf (zs : List Int) : List (Int × Int) := recsK zs zs.length
theorem recsK_succ (zs : List Int) (k : Nat) : recsK zs (k + 1) = recsK zs k ++ [(zs.getD k 0, (k : Int))] := by simp [recsK, List.range_succ]
theorem recsK_len (zs : List Int) (k : Nat) : (recsK zs k).length = k := by simp [recsK]

set_option maxHeartbeats 400000 in
theorem recordsOf_any (a : Option Addr) (cap : Nat) (zs : List Int) (w : World) (hlen : zs.length ≤ 1048576) (h : IntsAt w a zs) :
    Calls Try.prog 60 #[.slice a zs.length cap] w fun e w' => ∃ a' c', e = .returned (.slice a' (recsOf zs).length c') ∧ w'.ownsRow w.heap.size 54 2 (.slice a' (recsOf zs).length c') (recsOf zs).length (flat encR (recsOf zs)) ∧ Below w.heap.size w w' := by
  have H := Lib.hid h; clear h
  have E1 := Lib.hid (own_lit (w := w) (e := 54) (size := 2) #[] 0 (by omega) rfl)
  go_enter Try.func60, Try.ntmps60
  go_wp2
  go_loopw [3, 4, 5, 9] (fun v _ _ i wr => ∃ k : Nat, k ≤ zs.length ∧ i = .int .i64 k ∧ wr.ownsRow w.heap.size 54 2 v (recsK zs k).length (flat encR (recsK zs k)) ∧ Below w.heap.size w wr) (fun _ _ _ i _ => zs.length - (intOf i).toNat)
  case atStart => exact ⟨0, by omega, rfl, E1.out, (Below.refl _ _).alloc (Nat.le_refl _) _⟩
  case round =>
    obtain ⟨k, hk, rfl, hown, hb⟩ := hrel
    clear E1
    by_cases hlt : k < zs.length
    · obtain ⟨b, off, rfl, hcell⟩ := (H.out.below (Nat.le_refl _) hb).at hlt
      have HS := Lib.hid (recsK_succ zs k)
      have hn : (recsK zs k).length + 1 ≤ 1099511627776 := by rw [recsK_len]; omega
      generalize hx : zs.getD k 0 = x at hcell HS
      have HX := Lib.hid hx; clear hx
      have HO := Lib.hid hown; clear hown
      have HB := Lib.hid hb; clear hb
      have hbs := HB.out.size
      go_wp2_with (at_builtin; refine wpList_app1 slRec rfl (.tmp 14) (.tmp 18) rfl rfl HO.out [.int .i64 x, .int .i64 k] rfl rfl (by simp) (by simp [Value.oneCell']) hn hbs ?_; intro v' w1 hown' hg ht)
      have HO' := Lib.hid hown'
      have HB' := Lib.hid (below_app HB.out hbs HO.out (Nat.le_refl _) hg)
      clear hown' hg ht hbs hn
      go_roundw
      case rel =>
        refine ⟨k + 1, by omega, by go_num, ?_, HB'.out⟩
        rw [HS.out, List.length_append, flat_append]
        exact HO'.out
      case measure => simp [intOf]; omega
    · have e : k = zs.length := by omega
      subst e
      obtain ⟨a', c', rfl⟩ := own_slice hown
      have HO := Lib.hid hown; clear hown
      have HB := Lib.hid hb; clear hb
      go_wp2
      go_ret
      exact ⟨a', c', rfl, HO.out, HB.out⟩

set_option maxHeartbeats 400000 in
theorem l26Records_any (a : Option Addr) (cap : Nat) (zs : List Int) (w : World) (hlen : zs.length ≤ 1048576) (h : IntsAt w a zs) :
    Calls Try.prog 59 #[.slice a zs.length cap] w fun e w' => ∃ a' c', e = .returned (.slice a' (recsOf zs).length c') ∧ w'.ownsRow w.heap.size 54 2 (.slice a' (recsOf zs).length c') (recsOf zs).length (flat encR (recsOf zs)) ∧ Below w.heap.size w w' := by
  have H := Lib.hid h; clear h
  have E1 := Lib.hid (own_lit (w := w) (e := 54) (size := 2) #[] 0 (by omega) rfl)
  go_enter Try.func59, Try.ntmps59
  go_wp2
  go_loopw [3, 4] (fun v i wr => ∃ k : Nat, k ≤ zs.length ∧ i = .int .i64 k ∧ wr.ownsRow w.heap.size 54 2 v (recsK zs k).length (flat encR (recsK zs k)) ∧ Below w.heap.size w wr) (fun _ i _ => zs.length - (intOf i).toNat)
  case atStart => exact ⟨0, by omega, rfl, E1.out, (Below.refl _ _).alloc (Nat.le_refl _) _⟩
  case round =>
    obtain ⟨k, hk, rfl, hown, hb⟩ := hrel
    clear E1
    by_cases hlt : k < zs.length
    · obtain ⟨b, off, rfl, hcell⟩ := (H.out.below (Nat.le_refl _) hb).at hlt
      have HS := Lib.hid (recsK_succ zs k)
      have hn : (recsK zs k).length + 1 ≤ 1099511627776 := by rw [recsK_len]; omega
      generalize hx : zs.getD k 0 = x at hcell HS
      have HX := Lib.hid hx; clear hx
      have HO := Lib.hid hown; clear hown
      have HB := Lib.hid hb; clear hb
      have hbs := HB.out.size
      go_wp2_with (at_builtin; refine wpList_app1 slRec rfl (.tmp 12) (.tmp 19) rfl rfl HO.out [.int .i64 x, .int .i64 k] rfl rfl (by simp) (by simp [Value.oneCell']) hn hbs ?_; intro v' w1 hown' hg ht)
      have HO' := Lib.hid hown'
      have HB' := Lib.hid (below_app HB.out hbs HO.out (Nat.le_refl _) hg)
      clear hown' hg ht hbs hn
      go_roundw
      case rel =>
        refine ⟨k + 1, by omega, by go_num, ?_, HB'.out⟩
        rw [HS.out, List.length_append, flat_append]
        exact HO'.out
      case measure => simp [intOf]; omega
    · have e : k = zs.length := by omega
      subst e
      obtain ⟨a', c', rfl⟩ := own_slice hown
      have HO := Lib.hid hown; clear hown
      have HB := Lib.hid hb; clear hb
      go_wp2
      go_ret
      exact ⟨a', c', rfl, HO.out, HB.out⟩

set_option maxHeartbeats 400000 in
theorem markIntS_any (B : Nat) (a : Option Addr) (c n : Nat) (xs : List Value) (k : Int) (w : World) (hn : n ≤ 1048576) (hk0 : 0 ≤ k) (hk1 : k ≤ 1099511627776) (h : w.ownsRow B 3 1 (.slice a n c) n xs) :
    Calls Try.prog 33 #[.slice a n c, .int .i64 k] w fun e w' => e = .returned (.int .i64 (k + n)) ∧ (∃ ys, w'.ownsRow B 3 1 (.slice a n c) n ys) ∧ w.grownBy w' (Value.slice a n c).ownBlock := by
  have H := Lib.hid h; clear h
  go_enter Try.func33, Try.ntmps33
  go_wp2
  go_loopw [1, 5] (fun v i wr => ∃ j : Nat, j ≤ n ∧ i = .int .i64 j ∧ v = .int .i64 (k + j) ∧ (∃ ys, wr.ownsRow B 3 1 (.slice a n c) n ys) ∧ w.grownBy wr (Value.slice a n c).ownBlock) (fun _ i _ => n - (intOf i).toNat)
  case atStart => exact ⟨0, by omega, rfl, by simp, ⟨xs, H.out⟩, grown_refl _ _⟩
  case round =>
    obtain ⟨j, hj, rfl, rfl, ⟨ys, hown⟩, hg⟩ := hrel
    by_cases hlt : j < n
    · obtain ⟨g, rfl, _, _, hc⟩ := own_cell hown (by omega)
      have hq1 := hc j (by omega)
      obtain ⟨z, hc1⟩ : ∃ z, wr.cell? ⟨g, j, none⟩ = some z := ⟨_, by rw [hq1, List.getElem?_eq_getElem (by rw [hown.1]; omega)]⟩
      clear hq1
      have hf1 := hown.frozenAt j
      have HR := Lib.hid (hown.stored j (.int .i64 (k + j)))
      have HG := Lib.hid hg
      clear hc hown hg
      go_wp2
      go_roundw
      case rel => exact ⟨j + 1, by omega, by go_num, by go_num, ⟨_, HR.out.1⟩, grown_trans HG.out HR.out.2⟩
      case measure => simp [intOf]; omega
    · have e : j = n := by omega
      subst e
      have HO := Lib.hid hown
      have HG := Lib.hid hg
      clear hown hg
      go_wp2
      go_ret
      exact ⟨rfl, ⟨_, HO.out⟩, HG.out⟩

set_option maxHeartbeats 400000 in
theorem markRecordS_any (B : Nat) (a : Option Addr) (c : Nat) (rs : List (Int × Int)) (k : Int) (w : World) (hn : rs.length ≤ 1048576) (hk0 : 0 ≤ k) (hk1 : k ≤ 1099511627776) (h : w.ownsRow B 54 2 (.slice a rs.length c) rs.length (flat encR rs)) :
    Calls Try.prog 62 #[.slice a rs.length c, .int .i64 k] w fun e w' => e = .returned (.int .i64 (k + 2 * (rs.length : Int))) ∧ w'.ownsRow B 54 2 (.slice a rs.length c) rs.length (flat encR (mkR rs k rs.length)) ∧ w.grownBy w' (Value.slice a rs.length c).ownBlock := by
  have H := Lib.hid h; clear h
  go_enter Try.func62, Try.ntmps62
  go_wp2
  go_loopw [1, 5] (fun v i wr => ∃ j : Nat, j ≤ rs.length ∧ i = .int .i64 j ∧ v = .int .i64 (k + 2 * (j : Int)) ∧ wr.ownsRow B 54 2 (.slice a rs.length c) rs.length (flat encR (mkR rs k j)) ∧ w.grownBy wr (Value.slice a rs.length c).ownBlock) (fun _ i _ => rs.length - (intOf i).toNat)
  case atStart => exact ⟨0, by omega, rfl, by simp, by rw [mkR_zero]; exact H.out, grown_refl _ _⟩
  case round =>
    obtain ⟨j, hj, rfl, rfl, hown, hg⟩ := hrel
    by_cases hlt : j < rs.length
    · obtain ⟨g, rfl, _, _, hc⟩ := own_cell hown (by omega)
      have hL : (flat encR (mkR rs k j)).length = rs.length * 2 := by rw [flat_length encR_len, mkR_len]
      have hq1 := hc (j * 2) (by omega)
      obtain ⟨z, hc1⟩ : ∃ z, wr.cell? ⟨g, j * 2, none⟩ = some z := ⟨_, by rw [hq1, List.getElem?_eq_getElem (by omega)]⟩
      clear hq1
      have hf1 := hown.frozenAt (j * 2)
      have R1 := hown.stored (j * 2) (.int .i64 (k + 2 * (j : Int)))
      have hq2 := R1.1.cellAt (j * 2 + 1) (by omega)
      obtain ⟨z2, hc2⟩ : ∃ z2, (wr.setCell ⟨g, j * 2, none⟩ (.int .i64 (k + 2 * (j : Int)))).cell? ⟨g, j * 2 + 1, none⟩ = some z2 := ⟨_, by rw [hq2, List.getElem?_eq_getElem (by rw [List.length_set]; omega)]⟩
      clear hq2
      have hf2 := R1.1.frozenAt (j * 2 + 1)
      have R2 := R1.1.stored (j * 2 + 1) (.int .i64 (k + 2 * (j : Int) + 1))
      rw [flat_set2 encR_len _ j (by rw [mkR_len]; exact hlt) (k + 2 * (j : Int), k + 2 * (j : Int) + 1) _ _ rfl, mkR_succ hlt] at R2
      have HR := Lib.hid R2
      have HG := Lib.hid (grown_trans (grown_trans hg R1.2) R2.2)
      clear hc hown hg R1 R2 hL
      go_wp2
      go_roundw
      case rel => exact ⟨j + 1, by omega, by go_num, by go_num, HR.out.1, HG.out⟩
      case measure => simp [intOf]; omega
    · have e : j = rs.length := by omega
      subst e
      have HO := Lib.hid hown
      have HG := Lib.hid hg
      clear hown hg
      go_wp2
      go_ret
      exact ⟨rfl, HO.out, HG.out⟩

set_option maxHeartbeats 400000 in
theorem heldRecordS_any (a : Option Addr) (c : Nat) (rs : List (Int × Int)) (k : Int) (w : World) (hn : rs.length ≤ 1048576) (hk0 : 0 ≤ k) (hk1 : k ≤ 1099511627776) (h : RecsAt w a rs) (hm : ∀ j, j < rs.length → rs.getD j (0, 0) = (k + 2 * (j : Int), k + 2 * (j : Int) + 1)) :
    Calls Try.prog 63 #[.slice a rs.length c, .int .i64 k] w fun e w' => e = .returned (.int .i64 (k + 2 * (rs.length : Int))) ∧ w = w' := by
  have H := Lib.hid h; clear h
  have HM := Lib.hid hm; clear hm
  go_enter Try.func63, Try.ntmps63
  go_wp2
  go_loop [1, 5] (fun v i => ∃ j : Nat, j ≤ rs.length ∧ i = .int .i64 j ∧ v = .int .i64 (k + 2 * (j : Int))) (fun _ i => rs.length - (intOf i).toNat)
  case atStart => exact ⟨0, by omega, rfl, by simp⟩
  case round =>
    obtain ⟨j, hj, rfl, rfl⟩ := hrel
    by_cases hlt : j < rs.length
    · obtain ⟨b, off, rfl, hc1, hc2⟩ := H.out.at hlt
      rw [HM.out j hlt] at hc1 hc2
      have q1 : ((k + 2 * (j : Int)) != (k + 2 * (j : Int))) = false := by simp
      have q2 : ((k + 2 * (j : Int) + 1) != (k + 2 * (j : Int) + 1)) = false := by simp
      go_wp2
      go_round
      case rel => exact ⟨j + 1, by omega, by go_num, by go_num⟩
      case measure => simp [intOf]; omega
    · have e : j = rs.length := by omega
      subst e
      go_wp2
      go_ret
      exact ⟨rfl, rfl⟩

def eqL (d p : ByteArray) (c : Int) (d' p' : ByteArray) (c' : Int) : Bool := (d.toList == d'.toList) && (p.toList == p'.toList) && (c == c')

set_option maxHeartbeats 400000 in
theorem eqLog_any (d p : ByteArray) (c : Int) (d' p' : ByteArray) (c' : Int) (w : World) :
    Calls Try.prog 61 #[.agg #[.string d, .string p, .int .i64 c], .agg #[.string d', .string p', .int .i64 c']] w fun e w' => e = .returned (.bool (eqL d p c d' p' c')) ∧ Below w.heap.size w w' := by
  go_enter Try.func61, Try.ntmps61
  go_wp2
  all_goals
    go_ret
    exact ⟨ret_bool (by simp_all [eqL]), by (repeat (first | exact Below.refl _ _ | assumption | refine Below.setCell ?_ (by first | omega | (simp; done) | (simp; omega)) _ | refine Below.alloc ?_ (by first | omega | (simp; done) | (simp; omega)) _ | refine Below.drew ?_ | refine below_drewN ?_ _))⟩

def eqC (rs : List (Int × Int)) (d p : ByteArray) (c : Int) (rs' : List (Int × Int)) (d' p' : ByteArray) (c' : Int) : Bool := decide (rs = rs') && eqL d p c d' p' c'

theorem cells4 {w : World} {g : Nat} {x0 x1 x2 x3 : Value} {e : TypeId} {f : Nat × Nat} (h : w.heap[g]? = some (.cells #[x0, x1, x2, x3] e f)) :
    w.cell? ⟨g, 0, none⟩ = some x0 ∧ w.cell? ⟨g, 1, none⟩ = some x1 ∧ w.cell? ⟨g, 2, none⟩ = some x2 ∧ w.cell? ⟨g, 3, none⟩ = some x3 :=
  ⟨row_cell h 0, row_cell h 1, row_cell h 2, row_cell h 3⟩

set_option maxHeartbeats 400000 in
theorem eqConsole_any (a : Option Addr) (n : Nat) (rs : List (Int × Int)) (d p : ByteArray) (c : Int) (a' : Option Addr) (n' : Nat) (rs' : List (Int × Int)) (d' p' : ByteArray) (c' : Int) (w : World) (b1 : rs.length ≤ 9223372036854775807) (b2 : rs'.length ≤ 9223372036854775807) (h1 : RecsAt w a rs) (h2 : RecsAt w a' rs') :
    Calls Try.prog 32 #[.agg #[.slice a rs.length n, .string d, .string p, .int .i64 c], .agg #[.slice a' rs'.length n', .string d', .string p', .int .i64 c']] w fun e w' => e = .returned (.bool (eqC rs d p c rs' d' p' c')) ∧ Below w.heap.size w w' := by
  have HB : Hid (Below w.heap.size w ((w.alloc (.cells #[.slice a rs.length n, .string d, .string p, .int .i64 c] 60)).alloc (.cells #[.slice a' rs'.length n', .string d', .string p', .int .i64 c'] 60))) := ((Below.refl _ _).alloc (Nat.le_refl _) _).alloc (by simp) _
  have R1 := Lib.hid ((block_new w (.cells #[.slice a rs.length n, .string d, .string p, .int .i64 c] 60)))
  have R2 := Lib.hid ((block_new (w.alloc (.cells #[.slice a rs.length n, .string d, .string p, .int .i64 c] 60)) (.cells #[.slice a' rs'.length n', .string d', .string p', .int .i64 c'] 60)))
  have HE := Lib.hid (eqRecordS_any a a' n n' rs rs' _ b1 b2 (h1.below (Nat.le_refl _) HB.out) (h2.below (Nat.le_refl _) HB.out))
  clear h1 h2
  go_enter Try.func32, Try.ntmps32
  go_wp2_with fail
  refine HE.out.mono ?_
  rintro e w1 ⟨rfl, hb⟩
  have HB1 := Lib.hid (HB.out.trans (hb.mono HB.out.size))
  have Q1 := Lib.hid (block_below (block_row R1.out (World.grownBy_alloc _ _ (row := none)) (by simp)) hb (by simp; omega))
  have Q2 := Lib.hid (block_below R2.out hb (by simp))
  rw [size_al] at Q2
  clear hb
  obtain ⟨c0, c1, c2, c3⟩ := cells4 Q1.out
  obtain ⟨k0, k1, k2, k3⟩ := cells4 Q2.out
  by_cases hq : rs = rs'
  · have HQ := Lib.hid hq
    rw [decide_eq_true hq]
    clear hq
    go_wp2_with fail
    refine (eqLog_any d p c d' p' c' _).mono ?_
    rintro e w2 ⟨rfl, hb⟩
    have HB2 := Lib.hid (HB1.out.trans (hb.mono HB1.out.size))
    clear hb c0 c1 c2 c3 k0 k1 k2 k3
    cases he : eqL d p c d' p' c'
    all_goals
      have HX := Lib.hid he; clear he
      go_wp2
      go_ret
      exact ⟨ret_bool (by rw [eqC, decide_eq_true HQ.out, HX.out]; rfl), HB2.out⟩
  · have HQ := Lib.hid hq
    rw [decide_eq_false hq]
    clear hq
    go_wp2
    go_ret
    exact ⟨ret_bool (by rw [eqC, decide_eq_false HQ.out]; rfl), HB1.out⟩

end Go.Proofs.Ytjlebikidoedmaa
