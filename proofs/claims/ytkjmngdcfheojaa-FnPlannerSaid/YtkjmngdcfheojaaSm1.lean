/- Walks: SameElements of the program. -/
import Derived.Test.YtkjmngdcfheojaaSk1
namespace Go.Proofs.Ytkjmngdcfheojaa
open Go.RowKit Go.Sort
set_option linter.unusedVariables false

set_option maxRecDepth 100000 in
set_option maxHeartbeats 2000000 in
theorem copyOf_any (x : Addr) (cap : Nat) (zs : List Int) (w : World) (hlen : zs.length ≤ 1000) (h : IntsAt w (some x) zs) :
    Calls Try.prog 127 #[.slice (some x) zs.length cap] w (OwnEnd w zs zs.length) := by
  have E0 := Lib.hid (own_lit (w := w) (e := 3) (size := 1) #[] 0 (by omega) rfl)
  have HB := Lib.hid (show Below w.heap.size w (w.alloc (.cells #[] 3)) from (Below.refl _ _).alloc (Nat.le_refl _) _)
  have HN := Lib.hid (ints_news (h.below (Nat.le_refl _) HB.out))
  have hl : (zs.map (Value.int .i64)).length = zs.length * 1 := by simp
  have hsm : 0 + zs.length ≤ 1099511627776 := by omega
  have hle : w.heap.size ≤ (w.alloc (.cells #[] 3)).heap.size := by simp
  have HL := Lib.hid hl; have HS := Lib.hid hsm; have HLE := Lib.hid hle
  clear h hl hsm hle
  go_enter Try.func127, Try.ntmps127
  go_wp2_with (at_builtin; refine wpList_appX (v := .slice (some ⟨w.heap.size, 0, none⟩) 0 0) slInt rfl _ _ rfl rfl E0.out rfl HL.out HN.out (by simp [Value.oneCell']) HS.out HLE.out ?_; intro v' w2 hown2 hg2 ht2; obtain ⟨a', c', rfl⟩ := own_slice hown2; have HO := Lib.hid hown2; have HG := Lib.hid hg2; have HT := Lib.hid ht2; clear hown2 hg2 ht2)
  go_wp2
  go_ret
  obtain ⟨g, rfl, _, _⟩ := own_addr HO.out (by
    rcases HT.out with h | h
    · rw [h]; simp [Value.ownBlock]
    · rw [h]; simp)
  refine ⟨g, c', ?_, ?_, HB.out.grown HG.out (by simp) (fun k hk => ?_)⟩
  · rfl
  · have := HO.out
    rw [Nat.zero_add] at this
    simpa using this
  · simp [Value.ownBlock] at hk; omega

set_option maxRecDepth 100000 in
set_option maxHeartbeats 2000000 in
theorem sorted_any (x : Addr) (cap : Nat) (zs : List Int) (w : World) (hlen : zs.length ≤ 1000) (h : IntsAt w (some x) zs) :
    Calls Try.prog 87 #[.slice (some x) zs.length cap] w (OwnEnd w (Mg.srtI zs) zs.length) := by
  have H1 := Lib.hid (copyOf_any x cap zs w hlen h)
  clear h
  unfold OwnEnd at *
  go_enter Try.func87, Try.ntmps87
  go_wp2_with fail
  refine H1.out.mono ?_
  rintro e w1 ⟨g, c, rfl, ho, hb⟩
  have HO := Lib.hid ho; have HB := Lib.hid hb
  have HC := Lib.hid (Try.slices_Sort_int g 0 c zs w1 (own_holds ho) (ho.lt g rfl).2 (by omega))
  clear ho hb H1
  go_wp2_with fail
  refine HC.out.mono ?_
  rintro e w2 ⟨rfl, q, os, rfl⟩
  have HM := Lib.hid (Mg.merge_srtI zs)
  rw [HM.out]
  have HO2 := Lib.hid (own_sorted (q := q) (os := os) (ys := Mg.srtI zs) HO.out (srtI_len zs))
  have HG2 := Lib.hid (grown_put (w := w1) (g := g) (q := q) (ys := Mg.srtI zs) (os := os))
  have HB2 := Lib.hid (HB.out.grown HG2.out HB.out.size (fun k hk => by injection hk with hk; rw [← hk]; exact (HO.out.lt g rfl).1))
  generalize grow (putRow (Value.int .i64) (Sort.ahead w1 q) g 0 (Mg.srtI zs).toArray) os = w3 at HO2 HB2 ⊢
  clear HG2 HO HB HC HM
  go_wp2
  go_ret
  exact ⟨g, c, rfl, HO2.out, HB2.out⟩

/-- slices.Equal of two lists. -/
theorem equal_any (g1 c1 g2 c2 n m : Nat) (xs ys : List Int) (w : World) (hn : xs.length = n) (hm : ys.length = m) (hb : n ≤ 1000) (hb' : m ≤ 1000) (h1 : IntsAt w (some ⟨g1, 0, none⟩) xs) (h2 : IntsAt w (some ⟨g2, 0, none⟩) ys) :
    Calls Try.prog 89 #[.slice (some ⟨g1, 0, none⟩) n c1, .slice (some ⟨g2, 0, none⟩) m c2] w fun e w' => e = .returned (.bool (decide (xs = ys))) ∧ Below w.heap.size w w' := by
  by_cases hnm : n = m
  case neg =>
    refine (Try.slices_Equal_int_lens (some ⟨g1, 0, none⟩) (some ⟨g2, 0, none⟩) n c1 m c2 w hnm).mono ?_
    rintro e w' ⟨rfl, rfl⟩
    exact ⟨by rw [decide_eq_false (fun e => hnm (by rw [← hn, ← hm, e]))], Below.refl _ _⟩
  by_cases h0 : n = 0
  · subst h0
    refine (Try.slices_Equal_int_empty (some ⟨g1, 0, none⟩) (some ⟨g2, 0, none⟩) c1 m c2 w (by omega)).mono ?_
    rintro e w' ⟨rfl, rfl⟩
    have e1 : xs = [] := List.eq_nil_of_length_eq_zero hn
    have e2 : ys = [] := List.eq_nil_of_length_eq_zero (by omega)
    exact ⟨by rw [e1, e2, decide_eq_true (by omega : m = 0)]; rfl, Below.refl _ _⟩
  · have f1 : ∀ j, j < xs.length → w.cell? ⟨g1, 0 + j, none⟩ = some (.int .i64 (xs.getD j 0)) := fun j hj => by
      obtain ⟨b, o, e, hc⟩ := h1.at hj
      injection e with e; injection e with e1 e2 _
      rw [e1, e2]; exact hc
    have f2 : ∀ j, j < ys.length → w.cell? ⟨g2, 0 + j, none⟩ = some (.int .i64 (ys.getD j 0)) := fun j hj => by
      obtain ⟨b, o, e, hc⟩ := h2.at hj
      injection e with e; injection e with e1 e2 _
      rw [e1, e2]; exact hc
    refine (Try.slices_Equal_int g1 0 n c1 g2 0 m c2 xs ys w (by omega) (by omega) (by omega) (by omega) f1 f2).mono ?_
    rintro e w' ⟨rfl, q, rfl⟩
    refine ⟨?_, below_drewN (Below.refl _ _) _⟩
    rw [List.take_of_length_le (by omega), List.take_of_length_le (by omega)]
    congr 2
    by_cases e : xs = ys
    · rw [decide_eq_true e, e]; simp
    · rw [decide_eq_false e]; simpa using e

def seOk (zs ys : List Int) : Bool := okList zs && okList ys
def seV (zs ys : List Int) : Bool := seOk zs ys && decide (Mg.srtI zs = Mg.srtI ys)
theorem okList_len {zs : List Int} (h : okList zs = true) : zs.length ≤ 64 := by
  unfold okList at h; simp at h; exact h.1

set_option maxRecDepth 100000 in
set_option maxHeartbeats 4000000 in
theorem implSameElements_any (x : Addr) (c : Nat) (zs : List Int) (y : Addr) (c2 : Nat) (ys : List Int) (w : World) (bz : zs.length ≤ 9223372036854775807) (h : IntsAt w (some x) zs) (by' : ys.length ≤ 9223372036854775807) (h' : IntsAt w (some y) ys) :
    Calls Try.prog 43 #[.slice (some x) zs.length c, .slice (some y) ys.length c2] w fun e w' => e = .returned (.tuple #[.bool (seV zs ys), .bool (seOk zs ys)]) ∧ Below w.heap.size w w' := by
  have HL := Lib.hid (isValidList_any (some x) c zs w bz h)
  have HL' := Lib.hid (fun W (hb : Below w.heap.size w W) => isValidList_any (some y) c2 ys W by' (h'.below (Nat.le_refl _) hb))
  have H := Lib.hid h; have H' := Lib.hid h'
  clear h h'
  cases k1 : okList zs
  · have HV : Hid (seV zs ys = false ∧ seOk zs ys = false) := by refine ⟨?_, ?_⟩ <;> simp [seV, seOk, k1]
    rw [HV.out.1, HV.out.2]
    rw [k1] at HL
    clear k1
    go_enter Try.func43, Try.ntmps43
    go_wp2_with fail
    refine HL.out.mono ?_
    rintro e w1 ⟨rfl, hb⟩
    have HB1 := Lib.hid hb; clear hb
    go_wp2
    go_ret2
    exact ⟨rfl, HB1.out⟩
  cases k2 : okList ys
  · have HV : Hid (seV zs ys = false ∧ seOk zs ys = false) := by refine ⟨?_, ?_⟩ <;> simp [seV, seOk, k1, k2]
    rw [HV.out.1, HV.out.2]
    rw [k1] at HL
    rw [k2] at HL'
    clear k1 k2
    go_enter Try.func43, Try.ntmps43
    go_wp2_with fail
    refine HL.out.mono ?_
    rintro e w1 ⟨rfl, hb⟩
    have HB1 := Lib.hid hb; clear hb
    go_wp2_with fail
    refine (HL'.out _ HB1.out).mono ?_
    rintro e w2 ⟨rfl, hb⟩
    have HB2 := Lib.hid (HB1.out.trans (hb.mono HB1.out.size)); clear hb
    go_wp2
    go_ret2
    exact ⟨rfl, HB2.out⟩
  have l1 := okList_len k1
  have l2 := okList_len k2
  have HV : Hid (seV zs ys = decide (Mg.srtI zs = Mg.srtI ys) ∧ seOk zs ys = true) := by refine ⟨?_, ?_⟩ <;> simp [seV, seOk, k1, k2]
  rw [HV.out.1, HV.out.2]
  rw [k1] at HL
  rw [k2] at HL'
  clear k1 k2
  have HS := Lib.hid (fun W (hb : Below w.heap.size w W) => sorted_any x c zs W (by omega) (H.out.below (Nat.le_refl _) hb))
  have HS' := Lib.hid (fun W (hb : Below w.heap.size w W) => sorted_any y c2 ys W (by omega) (H'.out.below (Nat.le_refl _) hb))
  have HQ := Lib.hid (srtI_len zs); have HQ' := Lib.hid (srtI_len ys)
  have HE := Lib.hid (fun g1 d1 g2 d2 W (h : IntsAt W (some ⟨g1, 0, none⟩) (Mg.srtI zs)) (h' : IntsAt W (some ⟨g2, 0, none⟩) (Mg.srtI ys)) => equal_any g1 d1 g2 d2 zs.length ys.length (Mg.srtI zs) (Mg.srtI ys) W HQ.out HQ'.out (by omega) (by omega) h h')
  unfold OwnEnd at HS HS'
  go_enter Try.func43, Try.ntmps43
  go_wp2_with fail
  refine HL.out.mono ?_
  rintro e w1 ⟨rfl, hb⟩
  have HB1 := Lib.hid hb; clear hb
  go_wp2_with fail
  refine (HL'.out _ HB1.out).mono ?_
  rintro e w2 ⟨rfl, hb⟩
  have HB2 := Lib.hid (HB1.out.trans (hb.mono HB1.out.size)); clear hb
  go_wp2_with fail
  refine (HS.out _ HB2.out).mono ?_
  rintro e w3 ⟨g1, d1, rfl, ho, hb⟩
  have HI1 := Lib.hid (ints_of_own ho)
  have HB3 := Lib.hid (HB2.out.trans (hb.mono HB2.out.size))
  clear ho hb
  go_wp2_with fail
  refine (HS'.out _ HB3.out).mono ?_
  rintro e w4 ⟨g2, d2, rfl, ho, hb⟩
  have HI2 := Lib.hid (ints_of_own ho)
  have HI3 := Lib.hid (HI1.out.below (Nat.le_refl _) hb)
  have HB4 := Lib.hid (HB3.out.trans (hb.mono HB3.out.size))
  clear ho hb
  go_wp2_with fail
  refine (HE.out _ _ _ _ _ HI3.out HI2.out).mono ?_
  rintro e w5 ⟨rfl, hb⟩
  have HB5 := Lib.hid (HB4.out.trans (hb.mono HB4.out.size))
  clear hb
  go_wp2
  go_ret2
  exact ⟨rfl, HB5.out⟩

end Go.Proofs.Ytkjmngdcfheojaa
