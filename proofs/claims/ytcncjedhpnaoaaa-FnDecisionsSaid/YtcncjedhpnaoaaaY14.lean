/- Several texts in one: lemmas and walks of the functions that the law reaches. -/
import Derived.Test.YtcncjedhpnaoaaaY1
import Derived.Test.YtcncjedhpnaoaaaY12

namespace Go.Proofs.Ytcncjedhpnaoaaa
open Go.RowKit Go.Sort
set_option linter.unusedVariables false

theorem bcg {w0 w1 w2 : World} (h : Below w0.heap.size w0 w1) (hb : Below w1.heap.size w1 w2) : Below w0.heap.size w0 w2 := h.trans (hb.mono h.size)

/-- A nil slice, or one that has an address. -/
def NilOr (a : Option Addr) (c : Nat) (zs : List Int) : Prop := a = none → zs = [] ∧ c = 0
set_option maxRecDepth 100000 in
set_option maxHeartbeats 2000000 in
theorem copyOf_none (w : World) : Calls Try.prog 27 #[.slice none 0 0] w (OwnEnd w [] 0) := by
  have E0 := Lib.hid (own_lit (w := w) (e := 3) (size := 1) #[] 0 (by omega) rfl)
  have HB := Lib.hid (show Below w.heap.size w (w.alloc (.cells #[] 3)) from (Below.refl _ _).alloc (Nat.le_refl _) _)
  have HU : Hid ((w.alloc (.cells #[] 3)).ownsRow w.heap.size 3 1 (.slice none 0 0) 0 []) := ⟨rfl, .inl ⟨rfl, rfl⟩⟩
  have hle : w.heap.size ≤ (w.alloc (.cells #[] 3)).heap.size := by simp
  have hsm : 0 + 0 ≤ 1099511627776 := by omega
  go_enter Try.func27, Try.ntmps27
  go_wp2_with (at_builtin; refine wpList_appL (v := .slice (some ⟨w.heap.size, 0, none⟩) 0 0) slInt rfl _ _ rfl rfl E0.out rfl HU.out (by simp) hsm hle ?_; intro v' w2 hown2 hg2 ht2; obtain ⟨a', c', rfl⟩ := own_slice hown2; have HO := Lib.hid hown2; have HG := Lib.hid hg2; have HT := Lib.hid ht2; clear hown2 hg2 ht2)
  go_wp2
  go_ret
  obtain ⟨g, rfl, _, _⟩ := own_addr HO.out (by
    rcases HT.out with h | h
    · rw [h]; simp [Value.ownBlock]
    · rw [h]; simp)
  refine ⟨g, c', rfl, ?_, HB.out.grown HG.out (by simp) (fun k hk => ?_)⟩
  · have := HO.out
    rw [Nat.zero_add] at this
    simpa using this
  · simp [Value.ownBlock] at hk; omega

set_option maxRecDepth 100000 in
set_option maxHeartbeats 2000000 in
theorem sorted_none (w : World) : Calls Try.prog 30 #[.slice none 0 0] w (OwnEnd w (Mg.srtI []) 0) := by
  have H1 := Lib.hid (copyOf_none w)
  unfold OwnEnd at *
  go_enter Try.func30, Try.ntmps30
  go_wp2_with fail
  refine H1.out.mono ?_
  rintro e w1 ⟨g, c, rfl, ho, hb⟩
  have HO := Lib.hid ho; have HB := Lib.hid hb
  have HC := Lib.hid (Try.slices_Sort_int g 0 c [] w1 (own_holds (by simpa using ho)) (ho.lt g rfl).2 (by simp))
  clear ho hb H1
  go_wp2_with fail
  refine HC.out.mono ?_
  rintro e w2 ⟨rfl, q, os, rfl⟩
  have HM := Lib.hid (Mg.merge_srtI [])
  rw [HM.out]
  have HO2 := Lib.hid (own_sorted (q := q) (os := os) (zs := []) (ys := Mg.srtI []) (by simpa using HO.out) (srtI_len []))
  have HG2 := Lib.hid (grown_put (w := w1) (g := g) (q := q) (ys := Mg.srtI []) (os := os))
  have HB2 := Lib.hid (HB.out.grown HG2.out HB.out.size (fun k hk => by injection hk with hk; rw [← hk]; exact (HO.out.lt g rfl).1))
  generalize grow (putRow (Value.int .i64) (Sort.ahead w1 q) g 0 (Mg.srtI []).toArray) os = w3 at HO2 HB2 ⊢
  clear HG2 HO HB HC HM
  go_wp2
  go_ret
  exact ⟨g, c, rfl, HO2.out, HB2.out⟩

theorem sortedG_any (a : Option Addr) (c : Nat) (zs : List Int) (w : World) (hlen : zs.length ≤ 1000) (hx : NilOr a c zs) (h : IntsAt w a zs) :
    Calls Try.prog 30 #[.slice a zs.length c] w (OwnEnd w (Mg.srtI zs) zs.length) := by
  cases a with
  | some x => exact sorted_any x c zs w hlen h
  | none =>
    obtain ⟨rfl, rfl⟩ := hx rfl
    exact sorted_none w

theorem own_capB {w : World} {base : Nat} {e : TypeId} {size g n c : Nat} {xs : List Value} (h : w.ownsRow base e size (.slice (some ⟨g, 0, none⟩) n c) n xs) : n ≤ c ∧ c ≤ 9223372036854775807 := by
  rcases h.2 with ⟨h2, _⟩ | ⟨g', cap, cur, hv, _, _, hn, hm, _⟩
  · injection h2 with h2 _ _; cases h2
  · injection hv with _ _ hv
    subst hv
    exact ⟨hn, by unfold maxLen at hm; omega⟩

def dsV (zs : List Int) : List Int := if okList zs then Mg.dist zs else []
theorem compact_le (s : List Int) : (Lib.compact s).length ≤ s.length := by
  unfold Lib.compact Lib.compactUpTo
  rw [List.length_map]
  exact Nat.le_trans (List.length_filter_le _ _) (by simp)

set_option maxRecDepth 100000 in
set_option maxHeartbeats 2000000 in
theorem distinctSorted_any (x : Option Addr) (c : Nat) (zs : List Int) (w : World) (hbig : zs.length ≤ 9223372036854775807) (hx : NilOr x c zs) (h : IntsAt w x zs) :
    Calls Try.prog 11 #[.slice x zs.length c] w fun e w' => ∃ a c', e = .returned (.tuple #[.slice a (dsV zs).length c', .bool (okList zs)]) ∧ (okList zs = true → ∃ g, a = some ⟨g, 0, none⟩) ∧ (okList zs = false → a = none ∧ c' = 0) ∧ IntsAt w' a (dsV zs) ∧ Below w.heap.size w w' := by
  have HV := Lib.hid (isValidList_any x c zs w hbig h)
  cases hok : okList zs
  · have HD : Hid (dsV zs = []) := by show _ = _; simp [dsV, hok]
    rw [HD.out]
    rw [hok] at HV
    clear hok h
    go_enter Try.func11, Try.ntmps11
    go_wp2_with fail
    refine HV.out.mono ?_
    rintro e w1 ⟨rfl, hb⟩
    have HB := Lib.hid hb; clear hb
    go_wp2
    go_ret2
    exact ⟨none, 0, rfl, (fun h => by cases h), (fun _ => ⟨rfl, rfl⟩), .inl rfl, HB.out⟩
  · have HD : Hid (dsV zs = Lib.compact (Mg.srtI zs)) := by show _ = _; simp [dsV, hok, Mg.dist]
    have hl := okList_len hok
    rw [HD.out]
    rw [hok] at HV
    have HS := Lib.hid (fun W (hb : Below w.heap.size w W) => sortedG_any x c zs W (by omega) hx (h.below (Nat.le_refl _) hb))
    unfold OwnEnd at HS
    have hsl : (Mg.srtI zs).length = zs.length := srtI_len zs
    have hcl := compact_le (Mg.srtI zs)
    have HC := Lib.hid (fun (W : World) (g c : Nat) (hH : Holds (Value.int .i64) W g 0 (Mg.srtI zs).toArray) (hc : zs.length ≤ c) => by
      have := Try.slices_Compact_int g 0 c (Mg.srtI zs) W hH (by omega) (by omega)
      rw [hsl] at this
      exact this)
    have HL := Lib.hid hsl; have HLC := Lib.hid hcl
    clear hok h hsl hcl
    go_enter Try.func11, Try.ntmps11
    go_wp2_with fail
    refine HV.out.mono ?_
    rintro e w1 ⟨rfl, hb⟩
    have HB := Lib.hid hb; clear hb
    go_wp2_with fail
    refine (HS.out _ HB.out).mono ?_
    rintro e w2 ⟨g, c2, rfl, ho, hb⟩
    have HO := Lib.hid ho
    have HB2 := Lib.hid (bcg HB.out hb)
    have hg := (ho.lt g rfl)
    have hbs := HB.out.size
    clear ho hb
    go_wp2_with fail
    refine (HC.out w2 g c2 (own_holds HO.out) (own_capB HO.out).1).mono ?_
    rintro e w3 ⟨rfl, q, rfl⟩
    have HO3 := Lib.hid (Lib.ownsRow_putRow (enc := Value.int .i64) (q := q) (k := (Lib.compact (Mg.srtI zs)).length) (ys := Lib.compact (Mg.srtI zs) ++ List.replicate (zs.length - (Lib.compact (Mg.srtI zs)).length) 0) HO.out (by have := HLC.out; have := HL.out; simp; omega) (by have := HLC.out; have := HL.out; omega))
    rw [List.take_left] at HO3
    have HB3 := Lib.hid (below_of_grown HB2.out HB2.out.size (grown_putAt (enc := Value.int .i64) (w := w2) (g := g) (q := q) (off := 0) (ys := Lib.compact (Mg.srtI zs) ++ List.replicate (zs.length - (Lib.compact (Mg.srtI zs)).length) 0)) (fun k hk => by injection hk with hk; omega))
    generalize putRow (Value.int .i64) (Sort.ahead w2 q) g 0 (Lib.compact (Mg.srtI zs) ++ List.replicate (zs.length - (Lib.compact (Mg.srtI zs)).length) 0).toArray = w4 at HO3 HB3 ⊢
    have HI3 := Lib.hid (ints_of_own HO3.out)
    clear HO HB2 HO3
    go_wp2
    go_ret2
    exact ⟨some ⟨g, 0, none⟩, c2, rfl, (fun _ => ⟨g, rfl⟩), (fun h => by cases h), HI3.out, HB3.out⟩

end Go.Proofs.Ytcncjedhpnaoaaa

