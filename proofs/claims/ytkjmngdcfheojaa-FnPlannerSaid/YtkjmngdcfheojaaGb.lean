/- Walks: distinct elements, ascending and by their first occurrences. -/
import Derived.Test.YtkjmngdcfheojaaSm1
import Derived.Test.YtkjmngdcfheojaaFp
import Derived.Test.YtkjmngdcfheojaaPn
namespace Go.Proofs.Ytkjmngdcfheojaa
open Go.RowKit Go.Sort
set_option linter.unusedVariables false

theorem bcg {w0 w1 w2 : World} (h : Below w0.heap.size w0 w1) (hb : Below w1.heap.size w1 w2) : Below w0.heap.size w0 w2 := h.trans (hb.mono h.size)

/-- A nil slice, or one that has an address. -/
def NilOr (a : Option Addr) (c : Nat) (zs : List Int) : Prop := a = none → zs = [] ∧ c = 0
theorem nilOr_own {w : World} {base : Nat} {e : TypeId} {a : Option Addr} {n c : Nat} {zs : List Int} (h : w.ownsRow base e 1 (.slice a n c) n (zs.map (Value.int .i64))) : NilOr a c zs := by
  intro ha
  subst ha
  have h1 := h.1
  rcases h.2 with ⟨h2, h3⟩ | ⟨g, cap, cur, hv, _⟩
  · injection h2 with _ _ h2
    exact ⟨List.eq_nil_of_length_eq_zero (by simp at h1; omega), h2⟩
  · injection hv with hv; cases hv

set_option maxRecDepth 100000 in
set_option maxHeartbeats 2000000 in
theorem copyOf_none (w : World) : Calls Try.prog 127 #[.slice none 0 0] w (OwnEnd w [] 0) := by
  have E0 := Lib.hid (own_lit (w := w) (e := 3) (size := 1) #[] 0 (by omega) rfl)
  have HB := Lib.hid (show Below w.heap.size w (w.alloc (.cells #[] 3)) from (Below.refl _ _).alloc (Nat.le_refl _) _)
  have HU : Hid ((w.alloc (.cells #[] 3)).ownsRow w.heap.size 3 1 (.slice none 0 0) 0 []) := ⟨rfl, .inl ⟨rfl, rfl⟩⟩
  have hle : w.heap.size ≤ (w.alloc (.cells #[] 3)).heap.size := by simp
  have hsm : 0 + 0 ≤ 1099511627776 := by omega
  go_enter Try.func127, Try.ntmps127
  go_wp2_with (at_builtin; refine wpList_appL (v := .slice (some ⟨w.heap.size, 0, none⟩) 0 0) slInt rfl _ _ rfl rfl E0.out rfl HU.out (by simp) hsm hle ?_; intro v' w2 hown2 hg2 ht2; obtain ⟨a', c', rfl⟩ := own_slice hown2; have HO := Lib.hid hown2; have HG := Lib.hid hg2; have HT := Lib.hid ht2; clear hown2 hg2 ht2)
  go_wp2
  go_ret
  obtain ⟨g, rfl, _, _⟩ := own_addr HO.out (by
    rcases HT.out with h | h
    · rw [h]; simp [Value.ownBlock]
    · rw [h]; simp)
  refine ⟨g, c', rfl, ?_, HB.out.grown HG.out (by simp) (fun k hk => ?_)⟩
  · have := HO.out
    rw [Nat.zero_add] at this
    simpa using this
  · simp [Value.ownBlock] at hk; omega

set_option maxRecDepth 100000 in
set_option maxHeartbeats 2000000 in
theorem sorted_none (w : World) : Calls Try.prog 87 #[.slice none 0 0] w (OwnEnd w (Mg.srtI []) 0) := by
  have H1 := Lib.hid (copyOf_none w)
  unfold OwnEnd at *
  go_enter Try.func87, Try.ntmps87
  go_wp2_with fail
  refine H1.out.mono ?_
  rintro e w1 ⟨g, c, rfl, ho, hb⟩
  have HO := Lib.hid ho; have HB := Lib.hid hb
  have HC := Lib.hid (Try.slices_Sort_int g 0 c [] w1 (own_holds (by simpa using ho)) (ho.lt g rfl).2 (by simp))
  clear ho hb H1
  go_wp2_with fail
  refine HC.out.mono ?_
  rintro e w2 ⟨rfl, q, os, rfl⟩
  have HM := Lib.hid (Mg.merge_srtI [])
  rw [HM.out]
  have HO2 := Lib.hid (own_sorted (q := q) (os := os) (zs := []) (ys := Mg.srtI []) (by simpa using HO.out) (srtI_len []))
  have HG2 := Lib.hid (grown_put (w := w1) (g := g) (q := q) (ys := Mg.srtI []) (os := os))
  have HB2 := Lib.hid (HB.out.grown HG2.out HB.out.size (fun k hk => by injection hk with hk; rw [← hk]; exact (HO.out.lt g rfl).1))
  generalize grow (putRow (Value.int .i64) (Sort.ahead w1 q) g 0 (Mg.srtI []).toArray) os = w3 at HO2 HB2 ⊢
  clear HG2 HO HB HC HM
  go_wp2
  go_ret
  exact ⟨g, c, rfl, HO2.out, HB2.out⟩

theorem sortedG_any (a : Option Addr) (c : Nat) (zs : List Int) (w : World) (hlen : zs.length ≤ 1000) (hx : NilOr a c zs) (h : IntsAt w a zs) :
    Calls Try.prog 87 #[.slice a zs.length c] w (OwnEnd w (Mg.srtI zs) zs.length) := by
  cases a with
  | some x => exact sorted_any x c zs w hlen h
  | none =>
    obtain ⟨rfl, rfl⟩ := hx rfl
    exact sorted_none w

theorem own_capG {w : World} {base : Nat} {e : TypeId} {size g n c : Nat} {xs : List Value} (h : w.ownsRow base e size (.slice (some ⟨g, 0, none⟩) n c) n xs) : n ≤ c ∧ c ≤ 9223372036854775807 := by
  rcases h.2 with ⟨h2, _⟩ | ⟨g', cap, cur, hv, _, _, hn, hm, _⟩
  · injection h2 with h2 _ _; cases h2
  · injection hv with _ _ hv
    subst hv
    exact ⟨hn, by unfold maxLen at hm; omega⟩

def dsV (zs : List Int) : List Int := if okList zs then Mg.dist zs else []
theorem compact_le (s : List Int) : (Lib.compact s).length ≤ s.length := by
  unfold Lib.compact Lib.compactUpTo
  rw [List.length_map]
  exact Nat.le_trans (List.length_filter_le _ _) (by simp)

set_option maxRecDepth 100000 in
set_option maxHeartbeats 2000000 in
theorem distinctSorted_any (x : Option Addr) (c : Nat) (zs : List Int) (w : World) (hbig : zs.length ≤ 9223372036854775807) (hx : NilOr x c zs) (h : IntsAt w x zs) :
    Calls Try.prog 41 #[.slice x zs.length c] w fun e w' => ∃ a c', e = .returned (.tuple #[.slice a (dsV zs).length c', .bool (okList zs)]) ∧ (okList zs = true → ∃ g, a = some ⟨g, 0, none⟩) ∧ (okList zs = false → a = none ∧ c' = 0) ∧ IntsAt w' a (dsV zs) ∧ Below w.heap.size w w' := by
  have HV := Lib.hid (isValidList_any x c zs w hbig h)
  cases hok : okList zs
  · have HD : Hid (dsV zs = []) := by show _ = _; simp [dsV, hok]
    rw [HD.out]
    rw [hok] at HV
    clear hok h
    go_enter Try.func41, Try.ntmps41
    go_wp2_with fail
    refine HV.out.mono ?_
    rintro e w1 ⟨rfl, hb⟩
    have HB := Lib.hid hb; clear hb
    go_wp2
    go_ret2
    exact ⟨none, 0, rfl, (fun h => by cases h), (fun _ => ⟨rfl, rfl⟩), .inl rfl, HB.out⟩
  · have HD : Hid (dsV zs = Lib.compact (Mg.srtI zs)) := by show _ = _; simp [dsV, hok, Mg.dist]
    have hl := okList_len hok
    rw [HD.out]
    rw [hok] at HV
    have HS := Lib.hid (fun W (hb : Below w.heap.size w W) => sortedG_any x c zs W (by omega) hx (h.below (Nat.le_refl _) hb))
    unfold OwnEnd at HS
    have hsl : (Mg.srtI zs).length = zs.length := srtI_len zs
    have hcl := compact_le (Mg.srtI zs)
    have HC := Lib.hid (fun (W : World) (g c : Nat) (hH : Holds (Value.int .i64) W g 0 (Mg.srtI zs).toArray) (hc : zs.length ≤ c) => by
      have := Try.slices_Compact_int g 0 c (Mg.srtI zs) W hH (by omega) (by omega)
      rw [hsl] at this
      exact this)
    have HL := Lib.hid hsl; have HLC := Lib.hid hcl
    clear hok h hsl hcl
    go_enter Try.func41, Try.ntmps41
    go_wp2_with fail
    refine HV.out.mono ?_
    rintro e w1 ⟨rfl, hb⟩
    have HB := Lib.hid hb; clear hb
    go_wp2_with fail
    refine (HS.out _ HB.out).mono ?_
    rintro e w2 ⟨g, c2, rfl, ho, hb⟩
    have HO := Lib.hid ho
    have HB2 := Lib.hid (bcg HB.out hb)
    have hg := (ho.lt g rfl)
    have hbs := HB.out.size
    clear ho hb
    go_wp2_with fail
    refine (HC.out w2 g c2 (own_holds HO.out) (own_capG HO.out).1).mono ?_
    rintro e w3 ⟨rfl, q, rfl⟩
    have HO3 := Lib.hid (Lib.ownsRow_putRow (enc := Value.int .i64) (q := q) (k := (Lib.compact (Mg.srtI zs)).length) (ys := Lib.compact (Mg.srtI zs) ++ List.replicate (zs.length - (Lib.compact (Mg.srtI zs)).length) 0) HO.out (by have := HLC.out; have := HL.out; simp; omega) (by have := HLC.out; have := HL.out; omega))
    rw [List.take_left] at HO3
    have HB3 := Lib.hid (below_of_grown HB2.out HB2.out.size (grown_putAt (enc := Value.int .i64) (w := w2) (g := g) (q := q) (off := 0) (ys := Lib.compact (Mg.srtI zs) ++ List.replicate (zs.length - (Lib.compact (Mg.srtI zs)).length) 0)) (fun k hk => by injection hk with hk; omega))
    generalize putRow (Value.int .i64) (Sort.ahead w2 q) g 0 (Lib.compact (Mg.srtI zs) ++ List.replicate (zs.length - (Lib.compact (Mg.srtI zs)).length) 0).toArray = w4 at HO3 HB3 ⊢
    have HI3 := Lib.hid (ints_of_own HO3.out)
    clear HO HB2 HO3
    go_wp2
    go_ret2
    exact ⟨some ⟨g, 0, none⟩, c2, rfl, (fun _ => ⟨g, rfl⟩), (fun h => by cases h), HI3.out, HB3.out⟩

theorem idx_hit {o : List Int} {x : Int} {j : Nat} (hnd : o.Nodup) (h : o[j]? = some x) : Lib.idxOf o x = (j : Int) := by
  have hj : j < o.length := (List.getElem?_eq_some_iff.1 h).1
  have := Lib.idxOf_hit o o.length j x hj (Nat.le_refl _) (by rw [List.getD_eq_getElem?_getD, h]; rfl) (fun i hi e => by
    have hi' : i < o.length := by omega
    rw [List.getD_eq_getElem?_getD, List.getElem?_eq_getElem hi'] at e
    rw [List.getElem?_eq_getElem hj] at h
    injection h with h
    simp only [Option.getD_some] at e
    exact (List.pairwise_iff_getElem.1 hnd _ _ hi' hj hi) (e.trans h.symm))
  rwa [List.take_length] at this
theorem idx_miss {o : List Int} {x : Int} (h : x ∉ o) : Lib.idxOf o x = -1 := by
  have := Lib.idxOf_miss o o.length x (fun j hj e => by
    rw [List.getD_eq_getElem?_getD, List.getElem?_eq_getElem hj] at e
    exact h (e ▸ List.getElem_mem hj))
  rwa [List.take_length] at this

theorem index_any (a : Option Addr) (c : Nat) (o : List Int) (x : Int) (w : World) (hl : o.length ≤ 1000) (h : IntsAt w a o) :
    Calls Try.prog 85 #[.slice a o.length c, .int .i64 x] w fun e w' => e = .returned (.int .i64 (Lib.idxOf o x)) ∧ w' = w := by
  rcases h with rfl | ⟨b, off, rfl, _, h2⟩
  · exact Try.slices_Index_int_empty a c x w
  · have := Try.slices_Index_int b off o.length c o x w (Nat.le_refl _) (by omega) h2
    rwa [List.take_length] at this

set_option maxRecDepth 100000 in
set_option maxHeartbeats 4000000 in
theorem distinctStable_any (a : Option Addr) (c : Nat) (zs : List Int) (w : World) (hbig : zs.length ≤ 9223372036854775807) (h : IntsAt w a zs) :
    Calls Try.prog 40 #[.slice a zs.length c] w fun e w' => ∃ (a1 : Option Addr) (c1 : Nat) (o : List Int) (a2 : Option Addr) (c2 : Nat) (cs : List Int), e = .returned (.tuple #[.slice a1 o.length c1, .slice a2 cs.length c2, .bool (okList zs)]) ∧
      (okList zs = true → Mg.Firsts zs o cs ∧ ∃ g, a1 = some ⟨g, 0, none⟩) ∧ (okList zs = false → o = [] ∧ cs = [] ∧ a1 = none ∧ c1 = 0) ∧ IntsAt w' a1 o ∧ IntsAt w' a2 cs ∧ Below w.heap.size w w' := by
  have HV := Lib.hid (isValidList_any a c zs w hbig h)
  cases hok : okList zs
  · rw [hok] at HV
    clear hok h
    go_enter Try.func40, Try.ntmps40
    go_wp2_with fail
    refine HV.out.mono ?_
    rintro e w1 ⟨rfl, hb⟩
    have HB := Lib.hid hb; clear hb
    go_wp2
    go_ret3
    exact ⟨none, 0, [], none, 0, [], rfl, (fun h => by cases h), fun _ => ⟨rfl, rfl, rfl, rfl⟩, .inl rfl, .inl rfl, HB.out⟩
  · have hl := okList_len hok
    rw [hok] at HV
    have H := Lib.hid h
    clear hok h
    go_enter Try.func40, Try.ntmps40
    go_wp2_with fail
    refine HV.out.mono ?_
    rintro e w1 ⟨rfl, hb⟩
    have HB := Lib.hid hb; clear hb
    have HH := Lib.hid (H.out.below (Nat.le_refl _) HB.out)
    have o1 := own_lit (w := w1) (e := 3) (size := 1) #[] 0 (by omega) rfl
    have o2 := own_lit (w := w1.alloc (.cells #[] 3)) (e := 3) (size := 1) #[] 0 (by omega) rfl
    rw [size_al] at o2
    have HT : Hid (Two ((w1.alloc (.cells #[] 3)).alloc (.cells #[] 3)) w.heap.size 3 1 (.slice (some ⟨w1.heap.size, 0, none⟩) 0 0) 0 [] 3 1 (.slice (some ⟨w1.heap.size + 1, 0, none⟩) 0 0) 0 []) :=
      ⟨own_mono (o1.alloc _) HB.out.size, own_mono o2 (Nat.le_trans HB.out.size (by omega)), fun k hk e => by simp [Value.ownBlock] at hk e; omega⟩
    have HB2 := Lib.hid (show Below w.heap.size w ((w1.alloc (.cells #[] 3)).alloc (.cells #[] 3)) from (HB.out.alloc HB.out.size _).alloc (by simp; have := HB.out.size; omega) _)
    clear o1 o2 HB
    go_wp2
    go_loopw [5, 6, 8, 9, 17] (fun v u _ _ i wr => ∃ (k : Nat) (o cs : List Int), i = .int .i64 k ∧ k ≤ zs.length ∧ Mg.Firsts (zs.take k) o cs ∧ o.length ≤ k ∧ Two wr w.heap.size 3 1 v o.length (o.map (Value.int .i64)) 3 1 u cs.length (cs.map (Value.int .i64)) ∧ (∃ g, v.ownBlock = some g) ∧ (∀ x ∈ cs, x ≤ k) ∧ Below w.heap.size w wr) (fun _ _ _ _ i _ => zs.length - (intOf i).toNat)
    case atStart => exact ⟨0, [], [], rfl, by omega, Mg.Firsts.nil, by simp, HT.out, ⟨_, rfl⟩, by simp, HB2.out⟩
    case round =>
      obtain ⟨k, o, cs, rfl, hk, hF, hol, hT, ⟨g, hg⟩, hcs, hb⟩ := hrel
      have HF := Lib.hid hF; have HT3 := Lib.hid hT; have HB3 := Lib.hid hb; have HCS := Lib.hid hcs; have HG := Lib.hid hg
      clear hF hT hb HT HB2 hcs hg
      obtain ⟨a1, c1, rfl⟩ := own_slice HT3.out.fst
      obtain ⟨a2, c2, rfl⟩ := own_slice HT3.out.snd
      by_cases hlt : k < zs.length
      case neg =>
        obtain rfl : k = zs.length := by omega
        have h3 : decide ((zs.length : Int) < (zs.length : Int)) = false := by simp
        rw [List.take_length] at HF
        have HI1 := Lib.hid (ints_of_own HT3.out.fst)
        have HI2 := Lib.hid (ints_of_own HT3.out.snd)
        obtain ⟨g1, hg1, _⟩ := own_addr HT3.out.fst (by rw [HG.out]; simp)
        have HA1 := Lib.hid hg1
        clear hg1
        go_wp2
        go_ret3
        exact ⟨a1, c1, o, a2, c2, cs, rfl, (fun _ => ⟨HF.out, g1, HA1.out⟩), (fun h => by cases h), HI1.out, HI2.out, HB3.out⟩
      have h3 : decide ((k : Int) < (zs.length : Int)) = true := by simp; omega
      obtain ⟨b, off, rfl, hc⟩ := (H.out.below (Nat.le_refl _) HB3.out).at hlt
      have HTK : Hid (zs.take (k + 1) = zs.take k ++ [zs.getD k 0]) := by
        show _ = _
        rw [List.take_add_one, List.getElem?_eq_getElem hlt, List.getD_eq_getElem?_getD, List.getElem?_eq_getElem hlt]; rfl
      generalize zs.getD k 0 = x at hc HTK
      have HIX := index_any a1 c1 o x wr (by omega) (ints_of_own HT3.out.fst)
      by_cases hx : x ∈ o
      · obtain ⟨j, hj, hjx⟩ := List.getElem_of_mem hx
        have hjx' : o[j]? = some x := by rw [List.getElem?_eq_getElem hj, hjx]
        rw [idx_hit HF.out.nd hjx'] at HIX
        have HI := Lib.hid HIX
        have hcl : j < cs.length := by rw [HF.out.len]; exact hj
        have HF2 := Lib.hid (HF.out.again hjx' hcl)
        rw [← HTK.out] at HF2
        obtain ⟨g2, hg2, hg2b, hg2c, _⟩ := own_cell HT3.out.snd (by omega)
        subst hg2
        have hcell := own_celli HT3.out.snd (i := j) (x := .int .i64 cs[j]) (by rw [List.getElem?_map, List.getElem?_eq_getElem hcl]; rfl)
        have hfz := (own_holds HT3.out.snd j (by simpa using hcl)).2
        rw [Nat.zero_add] at hfz
        have hst := HT3.out.snd.stored j (.int .i64 (cs[j] + 1))
        have HBD : Hid (cs[j] ≤ 64 ∧ 1 ≤ cs[j]) := ⟨by have := HCS.out _ (List.getElem_mem hcl); omega, HF.out.pos _ (List.getElem_mem hcl)⟩
        obtain ⟨bd1, bd2⟩ := HBD.out
        have HST : Hid (Two (wr.setCell ⟨g2, j, none⟩ (.int .i64 (cs[j] + 1))) w.heap.size 3 1 (.slice a1 o.length c1) o.length (o.map (Value.int .i64)) 3 1 (.slice (some ⟨g2, 0, none⟩) (cs.set j (cs[j] + 1)).length c2) (cs.set j (cs[j] + 1)).length ((cs.set j (cs[j] + 1)).map (Value.int .i64))) := by
          refine ⟨own_other HT3.out.fst hst.2 (fun q hq e => HT3.out.ne q hq ?_), ?_, fun q hq e => HT3.out.ne q hq ?_⟩
          · injection e with e; rw [← e]; rfl
          · rw [List.length_set, List.map_set]; exact hst.1
          · exact e
        have HBF := Lib.hid (below_store HB3.out (p := ⟨g2, j, none⟩) hg2b (.int .i64 (cs[j] + 1)))
        have HCS2 : Hid (∀ y ∈ cs.set j (cs[j] + 1), y ≤ ((k + 1 : Nat) : Int)) := fun y hy => by
          rcases List.mem_or_eq_of_mem_set hy with hy | hy
          · have := HCS.out y hy; omega
          · have := HCS.out _ (List.getElem_mem hcl); omega
        have b1 : (0 : Int) ≤ (j : Int) := by omega
        have b2 : (j : Int) < (cs.length : Int) := by omega
        generalize hcj : cs[j] = C at hcell HST HBF HCS2 HF2 bd1 bd2
        have b3 : C + 1 ≤ 9223372036854775807 := by omega
        clear hst hx hjx hjx' HBD hcj HIX hj hcl
        go_wp2_with fail
        refine HI.out.mono ?_
        rintro e w2 ⟨rfl, rfl⟩
        go_wp2
        go_roundw
        case rel => exact ⟨k + 1, o, cs.set j (C + 1), by go_num, by omega, HF2.out, by omega, by simpa using HST.out, ⟨g, HG.out⟩, HCS2.out, HBF.out⟩
        case measure => simp [intOf] <;> omega
      · rw [idx_miss hx] at HIX
        have HI := Lib.hid HIX
        have HF2 := Lib.hid (HF.out.fresh hx)
        rw [← HTK.out] at HF2
        have hn1 : o.length + 1 ≤ 1099511627776 := by omega
        have hn2 : cs.length + 1 ≤ 1099511627776 := by have := HF.out.len; omega
        have hbs := HB3.out.size
        have HCS2 : Hid (∀ y ∈ cs ++ [1], y ≤ ((k + 1 : Nat) : Int)) := fun y hy => by
          rcases List.mem_append.1 hy with hy | hy
          · have := HCS.out y hy; omega
          · simp at hy; omega
        clear hx HIX
        go_wp2_with fail
        refine HI.out.mono ?_
        rintro e w2 ⟨rfl, rfl⟩
        go_wp2_with (first
          | (at_builtin; refine wpList_app1 slInt rfl _ _ rfl rfl HT3.out.fst [.int .i64 x] rfl rfl (by simp) (by simp [Value.oneCell']) hn1 hbs ?_; intro v1 w4 ho4 hg4 ht4; have HT4 := Lib.hid (HT3.out.app1 ho4 hg4 ht4); have HB4 := Lib.hid (below_app HB3.out hbs HT3.out.fst (Nat.le_refl _) hg4); have hbs4 := HB4.out.size; have HG4 : Hid (∃ g, v1.ownBlock = some g) := (by rcases ht4 with h | h; exact ⟨g, h.trans HG.out⟩; exact ⟨_, h⟩); clear ho4 hg4 ht4)
          | (at_builtin; refine wpList_app1 slInt rfl _ _ rfl rfl HT4.out.snd [.int .i64 1] rfl rfl (by simp) (by simp [Value.oneCell']) hn2 hbs4 ?_; intro v2 w5 ho5 hg5 ht5; have HT5 := Lib.hid (HT4.out.app2 ho5 hg5 ht5); have HB5 := Lib.hid (below_app HB4.out hbs4 HT4.out.snd (Nat.le_refl _) hg5); clear ho5 hg5 ht5))
        go_roundw
        case rel => exact ⟨k + 1, o ++ [x], cs ++ [1], by go_num, by omega, HF2.out, by simp; omega, by rw [List.length_append, List.length_append, List.map_append, List.map_append]; exact HT5.out, HG4.out, HCS2.out, HB5.out⟩
        case measure => simp [intOf] <;> omega

set_option maxRecDepth 100000 in
set_option maxHeartbeats 4000000 in
theorem sameG_any (x : Option Addr) (c : Nat) (zs : List Int) (y : Option Addr) (c2 : Nat) (ys : List Int) (w : World) (hx : NilOr x c zs) (hy : NilOr y c2 ys) (bz : zs.length ≤ 9223372036854775807) (h : IntsAt w x zs) (by' : ys.length ≤ 9223372036854775807) (h' : IntsAt w y ys) :
    Calls Try.prog 43 #[.slice x zs.length c, .slice y ys.length c2] w fun e w' => e = .returned (.tuple #[.bool (seV zs ys), .bool (seOk zs ys)]) ∧ Below w.heap.size w w' := by
  have HL := Lib.hid (isValidList_any x c zs w bz h)
  have HL' := Lib.hid (fun W (hb : Below w.heap.size w W) => isValidList_any y c2 ys W by' (h'.below (Nat.le_refl _) hb))
  have H := Lib.hid h; have H' := Lib.hid h'
  clear h h'
  cases k1 : okList zs
  · have HV : Hid (seV zs ys = false ∧ seOk zs ys = false) := by refine ⟨?_, ?_⟩ <;> simp [seV, seOk, k1]
    rw [HV.out.1, HV.out.2]
    rw [k1] at HL
    clear k1
    go_enter Try.func43, Try.ntmps43
    go_wp2_with fail
    refine HL.out.mono ?_
    rintro e w1 ⟨rfl, hb⟩
    have HB1 := Lib.hid hb; clear hb
    go_wp2
    go_ret2
    exact ⟨rfl, HB1.out⟩
  cases k2 : okList ys
  · have HV : Hid (seV zs ys = false ∧ seOk zs ys = false) := by refine ⟨?_, ?_⟩ <;> simp [seV, seOk, k1, k2]
    rw [HV.out.1, HV.out.2]
    rw [k1] at HL
    rw [k2] at HL'
    clear k1 k2
    go_enter Try.func43, Try.ntmps43
    go_wp2_with fail
    refine HL.out.mono ?_
    rintro e w1 ⟨rfl, hb⟩
    have HB1 := Lib.hid hb; clear hb
    go_wp2_with fail
    refine (HL'.out _ HB1.out).mono ?_
    rintro e w2 ⟨rfl, hb⟩
    have HB2 := Lib.hid (HB1.out.trans (hb.mono HB1.out.size)); clear hb
    go_wp2
    go_ret2
    exact ⟨rfl, HB2.out⟩
  have l1 := okList_len k1
  have l2 := okList_len k2
  have HV : Hid (seV zs ys = decide (Mg.srtI zs = Mg.srtI ys) ∧ seOk zs ys = true) := by refine ⟨?_, ?_⟩ <;> simp [seV, seOk, k1, k2]
  rw [HV.out.1, HV.out.2]
  rw [k1] at HL
  rw [k2] at HL'
  clear k1 k2
  have HS := Lib.hid (fun W (hb : Below w.heap.size w W) => sortedG_any x c zs W (by omega) hx (H.out.below (Nat.le_refl _) hb))
  have HS' := Lib.hid (fun W (hb : Below w.heap.size w W) => sortedG_any y c2 ys W (by omega) hy (H'.out.below (Nat.le_refl _) hb))
  have HQ := Lib.hid (srtI_len zs); have HQ' := Lib.hid (srtI_len ys)
  have HE := Lib.hid (fun g1 d1 g2 d2 W (h : IntsAt W (some ⟨g1, 0, none⟩) (Mg.srtI zs)) (h' : IntsAt W (some ⟨g2, 0, none⟩) (Mg.srtI ys)) => equal_any g1 d1 g2 d2 zs.length ys.length (Mg.srtI zs) (Mg.srtI ys) W HQ.out HQ'.out (by omega) (by omega) h h')
  unfold OwnEnd at HS HS'
  go_enter Try.func43, Try.ntmps43
  go_wp2_with fail
  refine HL.out.mono ?_
  rintro e w1 ⟨rfl, hb⟩
  have HB1 := Lib.hid hb; clear hb
  go_wp2_with fail
  refine (HL'.out _ HB1.out).mono ?_
  rintro e w2 ⟨rfl, hb⟩
  have HB2 := Lib.hid (HB1.out.trans (hb.mono HB1.out.size)); clear hb
  go_wp2_with fail
  refine (HS.out _ HB2.out).mono ?_
  rintro e w3 ⟨g1, d1, rfl, ho, hb⟩
  have HI1 := Lib.hid (ints_of_own ho)
  have HB3 := Lib.hid (HB2.out.trans (hb.mono HB2.out.size))
  clear ho hb
  go_wp2_with fail
  refine (HS'.out _ HB3.out).mono ?_
  rintro e w4 ⟨g2, d2, rfl, ho, hb⟩
  have HI2 := Lib.hid (ints_of_own ho)
  have HI3 := Lib.hid (HI1.out.below (Nat.le_refl _) hb)
  have HB4 := Lib.hid (HB3.out.trans (hb.mono HB3.out.size))
  clear ho hb
  go_wp2_with fail
  refine (HE.out _ _ _ _ _ HI3.out HI2.out).mono ?_
  rintro e w5 ⟨rfl, hb⟩
  have HB5 := Lib.hid (HB4.out.trans (hb.mono HB4.out.size))
  clear hb
  go_wp2
  go_ret2
  exact ⟨rfl, HB5.out⟩

end Go.Proofs.Ytkjmngdcfheojaa
