/- Several texts in one: lemmas and walks of the functions that the laws reach. -/
import Derived.Test.YtmolneojjcjooaaY6
import Derived.Test.YtmolneojjcjooaaY7
import Derived.Test.YtmolneojjcjooaaY5

/- Walks: what a decision tree gets wrong: the program's way, the parts. -/
namespace Go.Proofs.Ytmolneojjcjooaa
open Go.RowKit
set_option linter.unusedVariables false

theorem rfind_some {n : Nat} {q : Nat → Bool} {m : Nat} (hm : m < n) (h : q m = true) (hall : ∀ j, j < m → q j = false) : (List.range n).find? q = some m := by
  rw [List.find?_range_eq_some]
  refine ⟨h, by simpa using hm, fun j hj => by simp [hall j hj]⟩

theorem rfind_none {n : Nat} {q : Nat → Bool} (hall : ∀ j, j < n → q j = false) : (List.range n).find? q = none := by
  rw [List.find?_range_eq_none]
  intro j hj; simp [hall j hj]

def descAt (zs : List Int) (m : Nat) : Bool := decide (zs.getD (m + 1) 0 < zs.getD m 0)

def fdesc (zs : List Int) : Int := match (List.range (zs.length - 1)).find? (descAt zs) with | some m => m | none => -1

theorem fdesc_some {zs : List Int} {m : Nat} (hm : m + 1 < zs.length) (h : descAt zs m = true) (hall : ∀ j, j < m → descAt zs j = false) : fdesc zs = m := by
  unfold fdesc; rw [rfind_some (by omega) h hall]

theorem fdesc_none {zs : List Int} (hall : ∀ j, j + 1 < zs.length → descAt zs j = false) : fdesc zs = -1 := by
  unfold fdesc; rw [rfind_none (fun j hj => hall j (by omega))]

set_option maxRecDepth 100000 in
set_option maxHeartbeats 400000 in
theorem descentD_any (a : Option Addr) (cap : Nat) (zs : List Int) (w : World) (hlen : zs.length ≤ 1048576) (h : IntsAt w a zs) :
    Calls Try.prog 96 #[.slice a zs.length cap] w fun e w' => e = .returned (.int .i64 (fdesc zs)) ∧ Below w.heap.size w w' := by
  have H := Lib.hid h; clear h
  go_enter Try.func96, Try.ntmps96
  go_wp2
  go_loopw [3] (fun i wr => ∃ m : Nat, m ≤ zs.length ∧ i = .int .i64 ((m : Int) + 1) ∧ (∀ j, j < m → descAt zs j = false) ∧ Below w.heap.size w wr) (fun i _ => zs.length + 1 - (intOf i).toNat)
  case atStart => exact ⟨0, by omega, rfl, by intro j h; omega, Below.refl _ _⟩
  case round =>
    obtain ⟨m, hm, rfl, hall, hb⟩ := hrel
    have Hall := Lib.hid hall; clear hall
    have HB := Lib.hid hb; clear hb
    by_cases h1 : m + 1 < zs.length
    · obtain ⟨b, off, rfl, hc1⟩ := (H.out.below (Nat.le_refl _) HB.out).at (show m < zs.length by omega)
      obtain ⟨b', off', e, hc2⟩ := (H.out.below (Nat.le_refl _) HB.out).at h1
      simp only [Option.some.injEq, Addr.mk.injEq, and_true] at e
      obtain ⟨rfl, rfl⟩ := e
      have HD : Hid (descAt zs m = decide (zs.getD (m + 1) 0 < zs.getD m 0)) := rfl
      generalize zs.getD m 0 = x at hc1 HD
      generalize zs.getD (m + 1) 0 = y at hc2 HD
      by_cases hyx : y < x
      · go_wp2_with fail
        go_quiet (fail)
        go_wp2
        go_ret
        exact ⟨ret_int (by rw [fdesc_some h1 (by rw [HD.out]; simpa using hyx) Hall.out]), below_drewN HB.out _⟩
      · have hd : decide (y < x) = false := by simpa using hyx
        go_wp2_with fail
        go_quiet (fail)
        go_wp2
        go_roundw
        case rel =>
          refine ⟨m + 1, by omega, by go_num, fun j hj => ?_, below_drewN HB.out _⟩
          rcases Nat.lt_succ_iff_lt_or_eq.1 hj with h | rfl
          · exact Hall.out j h
          · rw [HD.out]; exact hd
        case measure => simp [intOf]; omega
    · go_wp2
      go_ret
      exact ⟨ret_int (by rw [fdesc_none (fun j hj => Hall.out j (by omega))]), HB.out⟩


theorem fdesc_good (l : List Int) : decide (0 ≤ fdesc l) = !Dt.upB l := by
  unfold fdesc Dt.upB
  cases h : (List.range (l.length - 1)).find? (descAt l) with
  | none =>
    have h2 : (List.range (l.length - 1)).all (fun i => decide (l.getD i 0 ≤ l.getD (i + 1) 0)) = true := by
      rw [List.all_eq_true]
      intro i hi
      have := List.find?_eq_none.1 h i hi
      unfold descAt at this
      simp only [decide_eq_true_eq] at this ⊢
      omega
    rw [h2]; rfl
  | some m =>
    have h2 : (List.range (l.length - 1)).all (fun i => decide (l.getD i 0 ≤ l.getD (i + 1) 0)) = false := by
      rw [List.all_eq_false]
      have h3 := List.find?_some h
      unfold descAt at h3
      refine ⟨m, List.mem_of_find?_eq_some h, ?_⟩
      simp only [decide_eq_true_eq] at h3 ⊢
      omega
    rw [h2]
    simp

theorem appl_snoc {o p : List Int} {k : Nat} (h : k < o.length) : Dt.appl (o.take (k + 1)) p = Dt.appl (o.take k) p ++ [p.getD (o.getD k 0).toNat 0] := by
  unfold Dt.appl
  rw [List.take_add_one, List.getElem?_eq_getElem h, List.map_append, List.getD_eq_getElem?_getD (l := o), List.getElem?_eq_getElem h]; rfl

set_option maxRecDepth 100000 in
set_option maxHeartbeats 2000000 in
theorem apply_any (a : Option Addr) (c : Nat) (o : List Int) (ax : Option Addr) (cx : Nat) (p : List Int) (w : World) (hl : o.length = p.length) (hl2 : o.length ≤ 1000) (hok : okPerm o = true) (h : IntsAt w a o) (hx : IntsAt w ax p) :
    Calls Try.prog 97 #[.slice a o.length c, .slice ax p.length cx] w fun e w' => ∃ x c, e = .returned (.slice x o.length c) ∧ w'.ownsRow w.heap.size 3 1 (.slice x o.length c) o.length ((Dt.appl o p).map (Value.int .i64)) ∧ Below w.heap.size w w' := by
  have E0 := Lib.hid (own_lit (w := w) (e := 3) (size := 1) #[] 0 (by omega) rfl)
  have B0 := Lib.hid (show Below w.heap.size w (w.alloc (.cells #[] 3)) from (Below.refl _ _).alloc (Nat.le_refl _) _)
  have H := Lib.hid h; have HX := Lib.hid hx; have HOK := Lib.hid hok; have HL := Lib.hid hl
  clear h hx hok hl
  go_enter Try.func97, Try.ntmps97
  go_wp2
  go_loopw [5, 7, 11] (fun v _ i wr => ∃ k : Nat, k ≤ o.length ∧ i = .int .i64 k ∧ wr.ownsRow w.heap.size 3 1 v k ((Dt.appl (o.take k) p).map (Value.int .i64)) ∧ Below w.heap.size w wr) (fun _ _ i _ => o.length - (intOf i).toNat)
  case atStart => exact ⟨0, by omega, rfl, E0.out, B0.out⟩
  case round =>
    obtain ⟨k, hk, rfl, hown, hb⟩ := hrel
    obtain ⟨a', c', rfl⟩ := own_slice hown
    have HO := Lib.hid hown; have HB := Lib.hid hb
    clear hown hb E0 B0
    by_cases hlt : k < o.length
    · obtain ⟨x0, x1⟩ := okPerm_at HOK.out hlt
      obtain ⟨b, off, rfl, hc1⟩ := (H.out.below (Nat.le_refl _) HB.out).at hlt
      have HS := Lib.hid (appl_snoc (p := p) hlt)
      generalize o.getD k 0 = q at x0 x1 hc1 HS
      obtain ⟨j, rfl⟩ := Int.eq_ofNat_of_zero_le x0
      rw [Int.toNat_natCast] at HS
      have hjp : j < p.length := by have := HL.out; omega
      obtain ⟨bx, ox, rfl, hc2⟩ := (HX.out.below (Nat.le_refl _) HB.out).at hjp
      generalize p.getD j 0 = y at hc2 HS
      have hn40 : k + 1 ≤ 1099511627776 := by omega
      have hbs := HB.out.size
      clear x0 x1
      go_wp2_with (at_builtin; refine wpList_app1 slInt rfl _ _ rfl rfl HO.out [.int .i64 y] rfl rfl (by simp) (by simp [Value.oneCell']) hn40 hbs ?_; intro v' w2 hown' hg ht)
      have HO4 := Lib.hid hown'
      have HB4 := Lib.hid (below_app HB.out hbs HO.out (Nat.le_refl _) hg)
      clear hown' hg ht
      go_wp2
      go_roundw
      case rel => exact ⟨k + 1, by omega, by go_num, by rw [HS.out, List.map_append]; exact HO4.out, HB4.out⟩
      case measure => simp [intOf] <;> omega
    · obtain rfl : k = o.length := by omega
      rw [List.take_length] at HO
      go_wp2
      go_ret
      exact ⟨a', c', rfl, HO.out, HB.out⟩

set_option maxHeartbeats 2000000 in
theorem fm1_any (b lo : Nat) (z : Addr) (cz : Nat) (a : Option Addr) (c : Nat) (ns : List Dt.Nd) (x : Addr) (cx n : Nat) (p : List Int) (w : World) (hn : p.length = n) (hn2 : n ≤ 64) (hok : Dt.okTree (n : Int) ns = true) (h : NodesAt w a ns) (hx : IntsAt w (some x) p)
    (hb : w.cell? ⟨b, 0, none⟩ = some (.slice a ns.length c)) (h1 : w.heap[lo]? = some (.cells #[.slice (some z) 0 cz] 29 (0, 0))) :
    Calls Try.prog 95 #[.slice (some x) n cx, .pointer (some ⟨b, 0, none⟩), .pointer (some ⟨lo, 0, none⟩)] w fun e w' => e = .returned (.bool (Dt.good ns p)) ∧ Ch w w' lo (lo + 1) ∧
      (Dt.good ns p = true → w'.heap[lo]? = some (.cells #[.slice (some z) 0 cz] 29 (0, 0))) ∧ (Dt.good ns p = false → ∃ g cg, w'.heap[lo]? = some (.cells #[.slice (some ⟨g, 0, none⟩) n cg] 29 (0, 0)) ∧ w'.ownsRow w.heap.size 3 1 (.slice (some ⟨g, 0, none⟩) n cg) n (p.map (Value.int .i64))) := by
  subst hn
  obtain ⟨o1, o2, o3, o4, o5, _⟩ := Dt.okTree_iff hok
  rw [Int.toNat_natCast] at o5
  obtain ⟨r1, r2, _⟩ := Dt.runT_ok (zs := p) o5 o3
  have R1 := Lib.hid r1; have R2 := Lib.hid r2
  clear r1 r2
  have HD := Lib.hid (decide_any a c ns (some x) cx p w hn2 hok h hx)
  have HX := Lib.hid hx
  clear h hx hok o5
  have s1 : lo < w.heap.size := (Array.getElem?_eq_some_iff.1 h1).1
  have H1 := Lib.hid h1
  have HG : Hid (Dt.good ns p = !decide (0 ≤ fdesc (Dt.appl (Dt.runT ns p).1 p))) := by show _ = _; rw [fdesc_good, Bool.not_not]; rfl
  clear h1
  go_enter Try.func95, Try.ntmps95
  go_wp2_with fail
  refine HD.out.mono ?_
  rintro e w1 ⟨g, cg, rfl, ho1, hb1⟩
  have HB1 := Lib.hid hb1
  have HI1 := Lib.hid (ownInts ho1)
  clear hb1 hb ho1
  generalize (Dt.runT ns p).1 = o at R1 R2 HI1 HG ⊢
  generalize (Dt.runT ns p).2 = R at ⊢
  go_wp2_with fail
  refine (apply_any _ _ o _ _ p _ R1.out (by have := R1.out; omega) R2.out HI1.out (HX.out.below (Nat.le_refl _) HB1.out)).mono ?_
  rintro e w2 ⟨x2, c2, rfl, ho2, hb2⟩
  have hal : (Dt.appl o p).length = o.length := by simp [Dt.appl]
  have HI2 := Lib.hid (ownInts ho2)
  have HB2 := Lib.hid (HB1.out.trans (hb2.mono HB1.out.size))
  clear hb2 ho2
  have HDS := Lib.hid (descentD_any x2 c2 (Dt.appl o p) w2 (by have := R1.out; omega) HI2.out)
  rw [hal] at HDS
  generalize fdesc (Dt.appl o p) = D at HDS HG
  clear hal
  go_wp2_with fail
  refine HDS.out.mono ?_
  rintro e w3 ⟨rfl, hb3⟩
  have HB3 := Lib.hid (HB2.out.trans (hb3.mono HB2.out.size)); clear hb3
  have HA := Lib.hid (block_below H1.out HB3.out s1)
  have e1 := row_cell HA.out 0
  have f1 : w3.frozen? ⟨lo, 0, none⟩ = false := free_of_one HA.out
  simp at e1
  by_cases hd : 0 ≤ D
  · go_wp2_with fail
    refine (copyOfD_any _ cx p _ (by omega) (HX.out.below (Nat.le_refl _) HB3.out)).mono ?_
    rintro e w4 ⟨g4, c4, rfl, ho4, hb4⟩
    have HA4 := Lib.hid (block_below HA.out hb4 (Nat.lt_of_lt_of_le s1 HB3.out.size))
    have HO4 := Lib.hid ho4
    have HB4 := Lib.hid (HB3.out.trans (hb4.mono HB3.out.size))
    have e4 := row_cell HA4.out 0
    have f4 : w4.frozen? ⟨lo, 0, none⟩ = false := free_of_one HA4.out
    simp at e4
    have s3 := HB3.out.size
    have hp0 : ((p.length : Int) == 0) = false := beq_eq_false_iff_ne.2 (by omega)
    clear ho4 hb4 e1 f1
    go_wp2
    go_ret
    rw [HG.out, decide_eq_true hd]
    refine ⟨ret_bool (by show _ = false; first | rfl | exact hp0 | exact decide_eq_false (by omega)), (ch_of_below lo (lo + 1) HB4.out).grow (grown_setD w4 lo _) (fun k e => by injection e with e; omega), fun h => by simp at h, fun _ => ⟨g4, c4, heap_setCell_same w4 lo 0 _ _ _ HA4.out, ?_⟩⟩
    have hg4 := (HO4.out.lt g4 rfl).1
    exact own_mono (own_other HO4.out (grown_setD w4 lo _) (fun k hk e => by have hk : g4 = k := Option.some.inj hk; injection e with e; omega)) HB3.out.size
  · go_wp2
    go_ret
    rw [HG.out, decide_eq_false (by omega)]
    exact ⟨rfl, ch_of_below lo (lo + 1) HB3.out, fun _ => HA.out, fun h => by simp at h⟩

end Go.Proofs.Ytmolneojjcjooaa

/- Walks: what a decision tree gets wrong: the program's way. -/
namespace Go.Proofs.Ytmolneojjcjooaa
open Go.RowKit Go.Sort
set_option linter.unusedVariables false

/-- A list that a call has made, and a truth value beside it. -/
def Run2 (w : World) (q : List Int × Bool) (e : Ending) (w' : World) : Prop :=
  ∃ (x : Option Addr) (c : Nat), e = .returned (.tuple #[.slice x q.1.length c, .bool q.2]) ∧ w'.ownsRow w.heap.size 3 1 (.slice x q.1.length c) q.1.length (q.1.map (Value.int .i64)) ∧ Below w.heap.size w w'
def fmQ (n : Int) (ns : List Dt.Nd) : List Int × Bool := if Dt.okTree n ns = true then (Dt.firstBad ns (Pm.allP n.toNat), true) else ([], false)

/-- Nothing is wrong with the first k permutations. -/
structure FMI (w0 W : World) (b lo z n : Nat) (ns : List Dt.Nd) (a : Option Addr) (c k : Nat) : Prop where
  ch : Below w0.heap.size w0 W
  cell : W.cell? ⟨b, 0, none⟩ = some (.slice a ns.length c)
  row : W.heap[lo]? = some (.cells #[.slice (some ⟨z, 0, none⟩) 0 0] 29 (0, 0))
  own : W.ownsRow w0.heap.size 3 1 (.slice (some ⟨z, 0, none⟩) 0 0) 0 []
  all : ∀ j p, j < k → (Pm.allP n)[j]? = some p → Dt.good ns p = true
/-- The first wrong one is kept. -/
def FMJ (w0 : World) (lo n : Nat) (ns : List Dt.Nd) (W : World) : Prop :=
  Below w0.heap.size w0 W ∧ ∃ g cg p, p = Dt.firstBad ns (Pm.allP n) ∧ p.length = n ∧ W.heap[lo]? = some (.cells #[.slice (some ⟨g, 0, none⟩) n cg] 29 (0, 0)) ∧ W.ownsRow w0.heap.size 3 1 (.slice (some ⟨g, 0, none⟩) n cg) n (p.map (Value.int .i64))

theorem Dt.firstBad_at {ns : List Dt.Nd} {ps : List (List Int)} {k : Nat} {p : List Int} (h : ps[k]? = some p) (hb : Dt.good ns p = false) (hall : ∀ j p, j < k → ps[j]? = some p → Dt.good ns p = true) : Dt.firstBad ns ps = p := by
  unfold Dt.firstBad
  obtain ⟨hk, e⟩ := List.getElem?_eq_some_iff.1 h
  have : ps.find? (fun p => !Dt.good ns p) = some p := by
    rw [List.find?_eq_some_iff_getElem]
    refine ⟨by rw [hb]; rfl, k, hk, e, fun j hj => ?_⟩
    rw [hall j _ hj (List.getElem?_eq_getElem (by omega))]; rfl
  rw [this]; rfl
theorem Dt.firstBad_none {ns : List Dt.Nd} {ps : List (List Int)} (hall : ∀ j p, j < ps.length → ps[j]? = some p → Dt.good ns p = true) : Dt.firstBad ns ps = [] := by
  unfold Dt.firstBad
  have : ps.find? (fun p => !Dt.good ns p) = none := by
    rw [List.find?_eq_none]
    intro p hp
    obtain ⟨j, hj, e⟩ := List.getElem_of_mem hp
    rw [hall j p hj (by rw [List.getElem?_eq_getElem hj, e])]; simp
  rw [this]; rfl

theorem FMI.far {w0 W W' : World} {b lo z n k g : Nat} {ns : List Dt.Nd} {a : Option Addr} {c : Nat} (h : FMI w0 W b lo z n ns a c k) (hg : W.grownBy W' (some g)) (h1 : lo + 1 ≤ g) (h2 : w0.heap.size ≤ g) (h3 : b < lo) (h4 : z < lo) : FMI w0 W' b lo z n ns a c k := by
  have s1 : lo < W.heap.size := (Array.getElem?_eq_some_iff.1 h.row).1
  refine ⟨⟨hg.os.trans h.ch.os, hg.tape.trans h.ch.tape, hg.output.trans h.ch.output, Nat.le_trans h.ch.size hg.size, fun k hk => (hg.block k (Nat.lt_of_lt_of_le hk h.ch.size) (fun e => by injection e with e; omega)).trans (h.ch.block k hk)⟩, ?_, ?_, ?_, h.all⟩
  · exact (World.cell?_of_block (w := W) (w' := W') (a := ⟨b, 0, none⟩) (hg.block b (by omega) (fun e => by injection e with e; omega))).trans h.cell
  · exact (hg.block lo s1 (fun e => by injection e with e; omega)).trans h.row
  · exact own_other h.own hg (fun k hk e => by have hk : z = k := Option.some.inj hk; injection e with e; omega)

set_option maxHeartbeats 2000000 in
theorem fm_yields (w0 w : World) (b lo z m : Nat) (ns : List Dt.Nd) (a : Option Addr) (c : Nat) (hm : m + 1 ≤ 5) (hok : Dt.okTree ((m + 1 : Nat) : Int) ns = true) (h : NodesAt w0 a ns) (hw : Below w0.heap.size w0 w) (hlo : w0.heap.size ≤ b) (hbl : b < lo) (hz : z < lo) :
    YieldsC w (m + 1) (.func (.func 95) #[] #[.pointer (some ⟨b, 0, none⟩), .pointer (some ⟨lo, 0, none⟩)]) lo (lo + 1) (fun k W => FMI w0 W b lo z (m + 1) ns a c k) (FMJ w0 lo (m + 1) ns) := by
  refine ⟨_, _, rfl, fun args w => by kernel_rfl, fun k p W x cx hkp hI hsz hxb hx => ?_⟩
  have hpn := (Pm.allP_ok (n := m + 1) (by omega) hm (List.mem_of_getElem? hkp)).1
  refine (fm1_any b lo ⟨z, 0, none⟩ 0 a c ns x cx (m + 1) p W hpn (by omega) hok (h.same hI.ch) hx hI.cell hI.row).mono ?_
  rintro e' W' ⟨rfl, hc, h1, h2⟩
  have hch := hc.below hI.ch (by omega)
  refine ⟨_, rfl, hc, fun hg => ⟨hch, ?_, h1 hg, hc.own hI.own (fun k hk => .inl (by have hk : z = k := Option.some.inj hk; omega)), fun j p' hj hp' => ?_⟩, fun hg => ?_⟩
  · exact (hc.cell (World.block_lt_of_cell? W _ hI.cell) (.inl hbl)).trans hI.cell
  · rcases Nat.lt_succ_iff_lt_or_eq.1 hj with h | rfl
    · exact hI.all j p' h hp'
    · rw [hkp] at hp'; injection hp' with hp'; rw [← hp']; exact hg
  · obtain ⟨g, cg, h3, h4⟩ := h2 hg
    exact ⟨hch, g, cg, p, (Dt.firstBad_at hkp hg hI.all).symm, hpn, h3, own_mono h4 hI.ch.size⟩

set_option maxHeartbeats 2000000 in
theorem firstMistake_any (a : Option Addr) (c : Nat) (ns : List Dt.Nd) (n : Int) (w : World) (hbig : ns.length ≤ 9223372036854775807) (h : NodesAt w a ns) :
    Calls Try.prog 43 #[.slice a ns.length c, .int .i64 n] w (Run2 w (fmQ n ns)) := by
  have HV := Lib.hid (fun (W : World) (hb : Below w.heap.size w W) => isValidDecisions_any a c ns n W hbig (h.same hb))
  have H := Lib.hid h; clear h
  cases hok : Dt.okTree n ns
  · have HK := Lib.hid hok
    have HQ : Hid (fmQ n ns = ([], false)) := by show _ = _; unfold fmQ; rw [hok]; rfl
    clear hok
    go_enter Try.func43, Try.ntmps43
    go_wp2_with fail
    refine (HV.out _ (by (repeat (first | exact Below.refl _ _ | assumption | refine Below.setCell ?_ (by first | omega | (simp; done) | (simp; omega)) _ | refine Below.alloc ?_ (by first | omega | (simp; done) | (simp; omega)) _ | refine Below.drew ?_ | refine below_drewN ?_ _)))).mono ?_
    rintro e w1 ⟨rfl, hb1⟩
    rw [HK.out]
    have HB1 := Lib.hid (show Below w.heap.size w w1 from Below.trans (by (repeat (first | exact Below.refl _ _ | assumption | refine Below.setCell ?_ (by first | omega | (simp; done) | (simp; omega)) _ | refine Below.alloc ?_ (by first | omega | (simp; done) | (simp; omega)) _ | refine Below.drew ?_ | refine below_drewN ?_ _))) (hb1.mono (by simp))); clear hb1
    go_wp2
    go_ret2
    rw [HQ.out]
    exact ⟨none, 0, rfl, ⟨rfl, .inl ⟨rfl, rfl⟩⟩, HB1.out⟩
  · obtain ⟨o1, o2, o3, o4, o5, _⟩ := Dt.okTree_iff hok
    obtain ⟨m, rfl⟩ : ∃ m : Nat, n = ((m + 1 : Nat) : Int) := ⟨(n - 1).toNat, by omega⟩
    have HK := Lib.hid hok
    have HQ : Hid (fmQ ((m + 1 : Nat) : Int) ns = (Dt.firstBad ns (Pm.allP (m + 1)), true)) := by show _ = _; unfold fmQ; rw [hok, if_pos rfl, Int.toNat_natCast]
    clear hok o5
    have hm : m + 1 ≤ 5 := by omega
    have hmf := hmf
    go_enter Try.func43, Try.ntmps43
    go_wp2_with fail
    refine (HV.out _ (by (repeat (first | exact Below.refl _ _ | assumption | refine Below.setCell ?_ (by first | omega | (simp; done) | (simp; omega)) _ | refine Below.alloc ?_ (by first | omega | (simp; done) | (simp; omega)) _ | refine Below.drew ?_ | refine below_drewN ?_ _)))).mono ?_
    rintro e w1 ⟨rfl, hb1⟩
    rw [HK.out]
    have u1 : w1.cell? ⟨w.heap.size, 0, none⟩ = some (.slice a ns.length c) := (hb1.cell (p := ⟨w.heap.size, 0, none⟩) (by simp)).trans (by simp [go_sem])
    have HB1 := Lib.hid (show Below w.heap.size w w1 from Below.trans (by (repeat (first | exact Below.refl _ _ | assumption | refine Below.setCell ?_ (by first | omega | (simp; done) | (simp; omega)) _ | refine Below.alloc ?_ (by first | omega | (simp; done) | (simp; omega)) _ | refine Below.drew ?_ | refine below_drewN ?_ _))) (hb1.mono (by simp)))
    have HU := Lib.hid u1
    have hlt : w.heap.size < w1.heap.size := by have := hb1.size; simp at this; omega
    clear hb1
    go_wp2_with fail
    obtain ⟨W, hW⟩ : ∃ W, W = (w1.alloc (.cells #[] 3)).alloc (.cells #[.slice (some ⟨w1.heap.size, 0, none⟩) 0 0] 29) := ⟨_, rfl⟩
    have hWs : W.heap.size = w1.heap.size + 2 := by rw [hW]; simp
    have hb2 : Below w1.heap.size w1 W := by rw [hW]; (repeat (first | exact Below.refl _ _ | assumption | refine Below.setCell ?_ (by first | omega | (simp; done) | (simp; omega)) _ | refine Below.alloc ?_ (by first | omega | (simp; done) | (simp; omega)) _ | refine Below.drew ?_ | refine below_drewN ?_ _))
    have q1 : W.ownsRow w1.heap.size 3 1 (.slice (some ⟨w1.heap.size, 0, none⟩) 0 0) 0 [] := by
      rw [hW]
      exact own_below (own_lit (w := w1) (e := 3) (size := 1) #[] 0 (by omega) rfl) (Nat.le_refl _) ((Below.refl _ _).alloc (Nat.le_refl _) _)
    have q2 : W.heap[w1.heap.size + 1]? = some (.cells #[.slice (some ⟨w1.heap.size, 0, none⟩) 0 0] 29 (0, 0)) := by
      rw [hW]
      have := block_new (w1.alloc (.cells #[] 3)) (.cells #[.slice (some ⟨w1.heap.size, 0, none⟩) 0 0] 29)
      simpa using this
    rw [← hW]; clear hW
    have hbW := HB1.out.trans (hb2.mono HB1.out.size)
    have hcW := (hb2.cell (p := ⟨w.heap.size, 0, none⟩) hlt).trans HU.out
    have HP := Lib.hid (permutationsC_any m hm _ (w1.heap.size + 1) (w1.heap.size + 1 + 1) (fun k W' => FMI w W' w.heap.size (w1.heap.size + 1) w1.heap.size (m + 1) ns a c k) (FMJ w (w1.heap.size + 1) (m + 1) ns) W (by omega)
      (fun k W1 W2 g hg hi hgr => hi.far hgr (by omega) (by omega) (by omega) (by omega))
      (fun W' hb => ⟨hbW.trans (hb.mono hbW.size), (hb.cell (p := ⟨w.heap.size, 0, none⟩) (by show w.heap.size < _; omega)).trans hcW, block_below q2 hb (by omega), own_mono (own_below q1 (Nat.le_refl _) hb) HB1.out.size, fun j p hj => by omega⟩)
      (fm_yields w W w.heap.size (w1.heap.size + 1) w1.heap.size m ns a c hm HK.out H.out hbW (Nat.le_refl _) (by omega) (by omega)))
    clear hb2 q1 q2 hbW hcW
    refine HP.out.mono ?_
    rintro e w2 ⟨rfl, _, hI | hJ⟩
    · have HI := Lib.hid hI.ch
      have HO := Lib.hid hI.own
      have HE := Lib.hid (Dt.firstBad_none hI.all)
      have e1 := row_cell hI.row 0
      simp at e1
      clear hI HP
      go_wp2
      go_ret2
      rw [HQ.out, HE.out]
      exact ⟨_, _, rfl, HO.out, HI.out⟩
    · obtain ⟨hch, g, cg, p, hp, hpl, hrow, hown⟩ := hJ
      have HI := Lib.hid hch
      have HO := Lib.hid hown
      have HE := Lib.hid hp
      have HL := Lib.hid hpl
      have e1 := row_cell hrow 0
      simp at e1
      clear hch hown hp hpl hrow HP
      go_wp2
      go_ret2
      rw [HQ.out, ← HE.out]
      refine ⟨some ⟨g, 0, none⟩, cg, ?_, ?_, HI.out⟩
      · show _ = Ending.returned (.tuple #[.slice (some ⟨g, 0, none⟩) p.length cg, .bool true])
        rw [HL.out]; rfl
      · show w2.ownsRow w.heap.size 3 1 (.slice (some ⟨g, 0, none⟩) p.length cg) p.length (p.map (Value.int .i64))
        rw [HL.out]; exact HO.out

end Go.Proofs.Ytmolneojjcjooaa

/- Walks: what a decision tree gets wrong: the reference's way. -/
namespace Go.Proofs.Ytmolneojjcjooaa
open Go.RowKit Go.Sort
set_option linter.unusedVariables false

theorem appl_get {o p : List Int} {i : Nat} (h : i < o.length) : (Dt.appl o p).getD i 0 = p.getD (o.getD i 0).toNat 0 := by
  unfold Dt.appl
  rw [List.getD_eq_getElem?_getD, List.getElem?_map, List.getElem?_eq_getElem h, List.getD_eq_getElem?_getD (l := o), List.getElem?_eq_getElem h]; rfl
theorem Dt.good_no {ns : List Dt.Nd} {p : List Int} {j : Nat} (h : j + 1 < (Dt.runT ns p).1.length) (h2 : (Dt.appl (Dt.runT ns p).1 p).getD (j + 1) 0 < (Dt.appl (Dt.runT ns p).1 p).getD j 0) : Dt.good ns p = false := by
  unfold Dt.good Dt.upB
  rw [List.all_eq_false]
  have hl : (Dt.appl (Dt.runT ns p).1 p).length = (Dt.runT ns p).1.length := by simp [Dt.appl]
  refine ⟨j, List.mem_range.2 (by omega), ?_⟩
  simp only [decide_eq_true_eq]
  omega
theorem Dt.good_yes {ns : List Dt.Nd} {p : List Int} (h : ∀ j, j + 1 < (Dt.runT ns p).1.length → (Dt.appl (Dt.runT ns p).1 p).getD j 0 ≤ (Dt.appl (Dt.runT ns p).1 p).getD (j + 1) 0) : Dt.good ns p = true := by
  unfold Dt.good Dt.upB
  rw [List.all_eq_true]
  have hl : (Dt.appl (Dt.runT ns p).1 p).length = (Dt.runT ns p).1.length := by simp [Dt.appl]
  intro j hj
  have := List.mem_range.1 hj
  simp only [decide_eq_true_eq]
  exact h j (by omega)

set_option maxRecDepth 100000 in
set_option maxHeartbeats 4000000 in
theorem specFirstMistake_any (a : Option Addr) (c : Nat) (ns : List Dt.Nd) (n : Int) (w : World) (hbig : ns.length ≤ 9223372036854775807) (h : NodesAt w a ns) :
    Calls Try.prog 42 #[.slice a ns.length c, .int .i64 n] w (Run2 w (fmQ n ns)) := by
  have HV := Lib.hid (l23Good_any a c ns n w hbig h)
  have H := Lib.hid h; clear h
  cases hok : Dt.okTree n ns
  · rw [hok] at HV
    have HQ : Hid (fmQ n ns = ([], false)) := by show _ = _; unfold fmQ; rw [hok]; rfl
    clear hok
    go_enter Try.func42, Try.ntmps42
    go_wp2_with fail
    refine HV.out.mono ?_
    rintro e w1 ⟨rfl, hb1⟩
    have HB1 := Lib.hid hb1; clear hb1
    go_wp2
    go_ret2
    rw [HQ.out]
    exact ⟨_, _, rfl, own_mono (own_lit #[] 0 (by omega) rfl) HB1.out.size, by have := HB1.out; have := HB1.out.size; (repeat (first | exact Below.refl _ _ | assumption | refine Below.setCell ?_ (by first | omega | (simp; done) | (simp; omega)) _ | refine Below.alloc ?_ (by first | omega | (simp; done) | (simp; omega)) _ | refine Below.drew ?_ | refine below_drewN ?_ _))⟩
  · rw [hok] at HV
    obtain ⟨o1, o2, o3, o4, o5, _⟩ := Dt.okTree_iff hok
    obtain ⟨m, rfl⟩ : ∃ m : Nat, n = ((m + 1 : Nat) : Int) := ⟨(n - 1).toNat, by omega⟩
    rw [Int.toNat_natCast] at o5
    have HQ : Hid (fmQ ((m + 1 : Nat) : Int) ns = (Dt.firstBad ns (Pm.allP (m + 1)), true)) := by show _ = _; unfold fmQ; rw [hok, if_pos rfl, Int.toNat_natCast]
    have HK := Lib.hid hok; clear hok
    have HN := Lib.hid o5; clear o5
    have hm : m + 1 ≤ 5 := by omega
    have h1 : 1 ≤ m + 1 := by omega
    have HFI : Hid (∀ W, Calls Try.prog 90 #[.int .i64 ((m : Int) + 1)] W fun e w' => ∃ a c, e = .returned (.slice a (m + 1) c) ∧ w'.ownsRow W.heap.size 3 1 (.slice a (m + 1) c) (m + 1) ((Pm.first (m + 1)).map (Value.int .i64)) ∧ Below W.heap.size W w') := fun W => by
      have := l23First_any (m + 1) (by omega) W
      rw [Int.natCast_add, Int.natCast_one] at this
      exact this
    have HA := Lib.hid (Pm.allP_first h1 hm)
    have HOK := Lib.hid (fun p => Pm.allP_ok h1 hm (p := p))
    have HNX := Lib.hid (fun k p => Pm.allP_nextS h1 hm (k := k) (p := p))
    have HAL := Lib.hid (Pm.allP_len h1 hm)
    go_enter Try.func42, Try.ntmps42
    go_wp2_with fail
    refine HV.out.mono ?_
    rintro e w0 ⟨rfl, hb0⟩
    have HB0 := Lib.hid hb0; clear hb0 HV
    go_wp2_with fail
    refine (HFI.out _).mono ?_
    rintro e w1 ⟨a1, c1, rfl, ho1, hb1⟩
    have HO1 := Lib.hid (own_mono ho1 HB0.out.size); have HB1 := Lib.hid (HB0.out.trans (hb1.mono HB0.out.size))
    clear ho1 hb1 HFI
    go_wp2
    go_loopg [6, 7, 8, 9] ((Pm.allP (m + 1)).length + 1) (fun mm v _ _ _ wr => ∃ (k n : Nat) (a2 : Option Addr) (c2 : Nat) (q : List Int), v = .slice a2 n c2 ∧ q = ((Pm.allP (m + 1))[k]?).getD [] ∧ k ≤ (Pm.allP (m + 1)).length ∧ mm + k = (Pm.allP (m + 1)).length + 1 ∧ (∀ j p, j < k → (Pm.allP (m + 1))[j]? = some p → Dt.good ns p = true) ∧
      wr.ownsRow w.heap.size 3 1 (.slice a2 n c2) n (q.map (Value.int .i64)) ∧ Below w.heap.size w wr)
    case atStart => exact ⟨0, m + 1, a1, c1, Pm.first (m + 1), rfl, by rw [HA.out]; rfl, by omega, by omega, fun j p hj => by omega, HO1.out, HB1.out⟩
    case round =>
      obtain ⟨k, n, a2, c2, q, rfl, rfl, hk, hmm, hall, ho, hb⟩ := hrel
      have HO := Lib.hid ho; have HB := Lib.hid hb; have HMM := Lib.hid hmm; have HALL := Lib.hid hall
      clear ho hb hmm hall HO1 HB1
      cases hkp : (Pm.allP (m + 1))[k]? with
      | none =>
        rw [hkp] at HO
        have hn : n = 0 := by have := HO.out.1; simpa using this.symm
        subst hn
        have hkl := List.getElem?_eq_none_iff.1 hkp
        have HE := Lib.hid (Dt.firstBad_none (fun j p hj hp => HALL.out j p (by omega) hp))
        clear hkp hkl
        go_wp2
        go_ret2
        rw [HQ.out, HE.out]
        exact ⟨_, _, rfl, own_mono (own_lit #[] 0 (by omega) rfl) HB.out.size, by have := HB.out; have := HB.out.size; (repeat (first | exact Below.refl _ _ | assumption | refine Below.setCell ?_ (by first | omega | (simp; done) | (simp; omega)) _ | refine Below.alloc ?_ (by first | omega | (simp; done) | (simp; omega)) _ | refine Below.drew ?_ | refine below_drewN ?_ _))⟩
      | some p =>
        rw [hkp] at HO
        obtain ⟨hpl, hpr, hpn⟩ := HOK.out p (List.mem_of_getElem? hkp)
        have hn : n = m + 1 := by have := HO.out.1; simp at this; omega
        subst hn
        obtain ⟨g, rfl, hg1, hg2, _⟩ := own_cell HO.out (by omega)
        have hcap := (own_cap' HO.out).1
        have HKP := Lib.hid hkp
        have HPL := Lib.hid hpl; have HPN := Lib.hid hpn
        have hklt : k < (Pm.allP (m + 1)).length := (List.getElem?_eq_some_iff.1 hkp).1
        have HKL := Lib.hid hklt
        have HI2 : Hid (IntsAt wr (some ⟨g, 0, none⟩) p) := ints_of_own HO.out
        obtain ⟨r1, r2, _⟩ := Dt.runT_ok (zs := p) HN.out o3
        have HRN : Hid (Calls Try.prog 67 #[.slice a ns.length c, .slice (some ⟨g, 0, none⟩) (m + 1) c2] wr (RunEnd wr (Dt.runT ns p))) := by
          have := l23Run_any a c ns (some ⟨g, 0, none⟩) c2 p wr (by omega) (by rw [hpl]; exact HK.out) (H.out.same HB.out) HI2.out
          rw [hpl] at this
          exact this
        have HNT : Hid (∀ W, Below wr.heap.size wr W → Calls Try.prog 91 #[.slice (some ⟨g, 0, none⟩) (m + 1) c2] W fun e w' => ∃ a n c, e = .returned (.slice a n c) ∧ w'.ownsRow w.heap.size 3 1 (.slice a n c) n ((((Pm.allP (m + 1))[k + 1]?).getD []).map (Value.int .i64)) ∧ Below W.heap.size W w') := fun W hb => by
          have := l23Next_any g 0 c2 m p W HPL.out (by omega) hcap HPN.out (HI2.out.below (Nat.le_refl _) hb)
          rw [HNX.out k p HKP.out] at this
          refine this.mono ?_
          rintro e w' ⟨a, n, c, rfl, ho, hb2⟩
          exact ⟨a, n, c, rfl, own_mono ho (Nat.le_trans HB.out.size hb.size), hb2⟩
        have HGN := Lib.hid (fun j => Dt.good_no (ns := ns) (p := p) (j := j))
        have HGY := Lib.hid (Dt.good_yes (ns := ns) (p := p))
        clear hpl hpr hpn hkp hklt
        go_wp2_with fail
        refine HRN.out.mono ?_
        rintro e w2 ⟨g2, cg, rfl, ho2, hb2⟩
        have HB2 := Lib.hid hb2; clear hb2
        have HIO := Lib.hid (ownInts ho2); clear ho2
        generalize (Dt.runT ns p).1 = o at r1 r2 HIO HGN HGY ⊢
        generalize (Dt.runT ns p).2 = R at ⊢
        have HOP := Lib.hid r2; clear r2
        have HOL := Lib.hid r1
        rw [r1]
        clear r1
        go_wp2
        go_loopw [9] (fun i wq => ∃ j : Nat, i = .int .i64 ((j : Int) + 1) ∧ j ≤ m ∧ (∀ i, i < j → (Dt.appl o p).getD i 0 ≤ (Dt.appl o p).getD (i + 1) 0) ∧ Below wr.heap.size wr wq ∧ IntsAt wq (some ⟨g2, 0, none⟩) o) (fun i _ => m + 2 - (intOf i).toNat)
        case atStart => exact ⟨0, by go_num, by omega, fun i hi => by omega, HB2.out, HIO.out⟩
        case round =>
          obtain ⟨j, rfl, hj, hup, hbq, hio⟩ := hrel
          have HUP := Lib.hid hup; have HBQ := Lib.hid hbq; have HIQ := Lib.hid hio
          clear hup hbq hio
          by_cases hjl : j < m
          · have hj1 : j < o.length := by have := HOL.out; omega
            have hj2 : j + 1 < o.length := by have := HOL.out; omega
            obtain ⟨x0, x1⟩ := okPerm_at HOP.out hj1
            obtain ⟨y0, y1⟩ := okPerm_at HOP.out hj2
            have hA1 := appl_get (p := p) hj1
            have hA2 := appl_get (p := p) hj2
            have HJ2 := Lib.hid hj2
            obtain ⟨b1, f1, e, hc1⟩ := HIQ.out.at hj1
            injection e with e; injection e with e1 e2 _; subst e1; subst e2
            obtain ⟨b1, f1, e, hc2⟩ := HIQ.out.at hj2
            injection e with e; injection e with e1 e2 _; subst e1; subst e2
            rw [Nat.zero_add] at hc1 hc2
            generalize o.getD j 0 = x at x0 x1 hc1 hA1
            generalize o.getD (j + 1) 0 = y at y0 y1 hc2 hA2
            obtain ⟨x, rfl⟩ := Int.eq_ofNat_of_zero_le x0
            obtain ⟨y, rfl⟩ := Int.eq_ofNat_of_zero_le y0
            rw [Int.toNat_natCast] at hA1 hA2
            have hxm : x < m + 1 := by have := HOL.out; omega
            have hym : y < m + 1 := by have := HOL.out; omega
            have HII := HI2.out.below (Nat.le_refl _) HBQ.out
            obtain ⟨b1, f1, e, hd1⟩ := HII.at (show x < p.length by have := HPL.out; omega)
            injection e with e; injection e with e1 e2 _; subst e1; subst e2
            obtain ⟨b1, f1, e, hd2⟩ := HII.at (show y < p.length by have := HPL.out; omega)
            injection e with e; injection e with e1 e2 _; subst e1; subst e2
            rw [Nat.zero_add] at hd1 hd2
            generalize p.getD x 0 = X at hd1 hA1
            generalize p.getD y 0 = Y at hd2 hA2
            have HA1 := Lib.hid hA1; have HA2 := Lib.hid hA2
            clear hA1 hA2 HII hj1 hj2 x0 x1 y0 y1
            by_cases hXY : Y < X
            · have hz : decide (Y < X) = true := by simpa using hXY
              have HG1 := Lib.hid (HGN.out j HJ2.out (by rw [HA1.out, HA2.out]; exact hXY))
              clear hXY
              go_wp2_with fail
              go_quiet (fail)
              go_wp2
              go_ret2
              rw [HQ.out, Dt.firstBad_at HKP.out HG1.out HALL.out]
              refine ⟨some ⟨g, 0, none⟩, c2, ?_, ?_, below_drewN (HB.out.trans (HBQ.out.mono HB.out.size)) _⟩
              · show _ = Ending.returned (.tuple #[.slice (some ⟨g, 0, none⟩) p.length c2, .bool true])
                rw [HPL.out]; rfl
              · show World.ownsRow _ w.heap.size 3 1 (.slice (some ⟨g, 0, none⟩) p.length c2) p.length (p.map (Value.int .i64))
                rw [HPL.out]
                exact own_below HO.out (Nat.le_refl _) (below_drewN HBQ.out _)
            · have hz : decide (Y < X) = false := by simpa using hXY
              have HXY := Lib.hid hXY
              clear hXY
              go_wp2_with fail
              go_quiet (fail)
              go_wp2
              go_roundw
              case rel =>
                refine ⟨j + 1, by go_num, by omega, fun i hi => ?_, below_drewN HBQ.out _, HIQ.out.below (Nat.le_refl _) (below_drewN (Below.refl _ _) _)⟩
                rcases Nat.lt_succ_iff_lt_or_eq.1 hi with h | rfl
                · exact HUP.out i h
                · rw [HA1.out, HA2.out]; have := HXY.out; omega
              case measure => simp [intOf]; omega
          · obtain rfl : j = m := by omega
            have HGD := Lib.hid (HGY.out (fun i hi => HUP.out i (by have := HOL.out; omega)))
            have HN2 := Lib.hid (HNT.out _ HBQ.out)
            go_wp2_with fail
            refine HN2.out.mono ?_
            rintro e w4 ⟨a4, n4, c4, rfl, ho4, hb4⟩
            have HO4 := Lib.hid ho4; have HB4 := Lib.hid (bco (HB.out.trans (HBQ.out.mono HB.out.size)) hb4)
            clear ho4 hb4
            go_wp2
            go_roundg (gk - 1)
            case measure => have := HMM.out; have := HKL.out; omega
            case rel =>
              refine ⟨k + 1, n4, a4, c4, _, rfl, rfl, by have := HKL.out; omega, by have := HMM.out; have := HKL.out; omega, fun i p' hi hp' => ?_, HO4.out, HB4.out⟩
              rcases Nat.lt_succ_iff_lt_or_eq.1 hi with h | rfl
              · exact HALL.out i p' h hp'
              · rw [HKP.out] at hp'; injection hp' with hp'; rw [← hp']; exact HGD.out

end Go.Proofs.Ytmolneojjcjooaa

/- Walks: the law of FirstMistake. -/
namespace Go.Proofs.Ytmolneojjcjooaa
open Go.RowKit Go.Sort
set_option linter.unusedVariables false

theorem fmQ_len (n : Int) (ns : List Dt.Nd) : (fmQ n ns).1.length ≤ 1000 := by
  unfold fmQ
  split
  · rename_i h
    obtain ⟨o1, o2, o3, o4, o5, _⟩ := Dt.okTree_iff h
    show (Dt.firstBad ns (Pm.allP n.toNat)).length ≤ 1000
    unfold Dt.firstBad
    cases hf : (Pm.allP n.toNat).find? (fun p => !Dt.good ns p) with
    | none => simp
    | some p =>
      have := (Pm.allP_ok (n := n.toNat) (by omega) (by omega) (List.mem_of_find?_eq_some hf)).1
      show p.length ≤ 1000
      omega
  · show ([] : List Int).length ≤ 1000
    simp

/-- What stands while the law of FirstMistake compares. -/
structure RE (w W : World) (lo hi B11 : Nat) (gs : Nat → Nat) (ns : List Dt.Nd) (x6 x11 : Option Addr) (c6 c11 : Nat) (ql : List Int) : Prop where
  bel : Below w.heap.size w W
  old : w.heap.size ≤ lo ∧ lo < hi ∧ hi ≤ B11
  nsw : NsW W lo hi lo ns.length gs (fun j => (ns.getD j Dt.nd0).o.length)
  t9 : NodesAt W (some ⟨lo, 0, none⟩) ns
  t6 : W.ownsRow w.heap.size 3 1 (.slice x6 ql.length c6) ql.length (ql.map (Value.int .i64))
  f6 : ∀ k, (Value.slice x6 ql.length c6).ownBlock = some k → k < lo
  t11 : W.ownsRow B11 3 1 (.slice x11 ql.length c11) ql.length (ql.map (Value.int .i64))

theorem RE.same {w W W' : World} {lo hi B11 : Nat} {gs : Nat → Nat} {ns : List Dt.Nd} {x6 x11 : Option Addr} {c6 c11 : Nat} {ql : List Int} (h : RE w W lo hi B11 gs ns x6 x11 c6 c11 ql) (hb : Below W.heap.size W W') : RE w W' lo hi B11 gs ns x6 x11 c6 c11 ql :=
  ⟨h.bel.trans (hb.mono h.bel.size), h.old, h.nsw.same hb, h.t9.same hb, own_below h.t6 (Nat.le_refl _) hb, h.f6, own_below h.t11 (Nat.le_refl _) hb⟩


set_option maxHeartbeats 2000000 in
theorem lawFirstMistake_any (a : Option Addr) (c : Nat) (ns : List Dt.Nd) (n : Int) (w : World) (hbig : ns.length ≤ 9223372036854775807) (h : NodesAt w a ns) :
    Calls Try.prog 7 #[.slice a ns.length c, .int .i64 n] w fun e w' => e = .returned (.bool true) ∧ Below w.heap.size w w' := by
  have HS := Lib.hid (szDecisionNodeS_any a c ns 1048576 w hbig (by omega) (by omega) h)
  have H := Lib.hid h; clear h
  have hqlen := fmQ_len n ns
  have HSP := Lib.hid (fun (x : Option Addr) (cx : Nat) (W : World) h1 => specFirstMistake_any x cx ns n W hbig h1)
  have HIM := Lib.hid (fun (x : Option Addr) (cx : Nat) (W : World) h1 => firstMistake_any x cx ns n W hbig h1)
  generalize fmQ n ns = q at hqlen HSP HIM
  obtain ⟨ql, qb⟩ := q
  have hql : ql.length ≤ 1000 := hqlen
  clear hqlen
  have n2 : (qb != qb) = false := by simp
  go_enter Try.func7, Try.ntmps7
  go_wp2_with fail
  refine HS.out.mono ?_
  rintro e w0 ⟨r, rfl, r0, r1, hr, hb0⟩
  have HB0 := Lib.hid hb0; clear hb0 HS
  have HR := Lib.hid hr; clear hr
  by_cases hr0 : r < 0
  · go_wp2_with fail
    go_ret
    exact ⟨rfl, HB0.out⟩
  obtain ⟨hl, ho⟩ := HR.out (by omega)
  have HO := Lib.hid ho; clear ho HR
  go_wp2_with fail
  refine (toDecisionNodeS_any a c ns _ hl HO.out (H.out.same HB0.out)).mono ?_
  rintro e w1 ⟨gs1, rfl, _, hn1, hb1⟩
  have HN1 := Lib.hid hn1; clear hn1
  have HB1 := Lib.hid (HB0.out.trans (hb1.mono HB0.out.size)); clear hb1
  go_wp2_with fail
  refine (HSP.out _ _ _ HN1.out).mono ?_
  rintro e w3 ⟨x6, c6, rfl, ho6, hb3⟩
  have HX6 := Lib.hid (own_mono ho6 HB1.out.size); clear ho6 HN1
  have HB3 := Lib.hid (HB1.out.trans (hb3.mono HB1.out.size)); clear hb3
  go_wp2_with fail
  refine (toDecisionNodeS_any a c ns _ hl HO.out (H.out.same HB3.out)).mono ?_
  rintro e w4 ⟨gs, rfl, hw4, hn4, hb4⟩
  have HW4 := Lib.hid hw4; have HN4 := Lib.hid hn4; clear hn4
  have HX64 := Lib.hid (own_below HX6.out (Nat.le_refl _) hb4)
  have HB4 := Lib.hid (HB3.out.trans (hb4.mono HB3.out.size)); clear hb4
  have hlo := hw4.lo.2; clear hw4
  go_wp2_with fail
  refine (HIM.out _ _ _ HN4.out).mono ?_
  rintro e w6 ⟨x11, c11, rfl, ho11, hb6⟩
  have HRC : Hid (RE w w6 w3.heap.size w4.heap.size w4.heap.size gs ns x6 x11 c6 c11 ql) :=
    ⟨HB4.out.trans (hb6.mono HB4.out.size), ⟨HB3.out.size, hlo, Nat.le_refl _⟩, HW4.out.same hb6, HN4.out.same hb6, own_below HX64.out (Nat.le_refl _) hb6, fun k hk => (HX6.out.lt k hk).2, ho11⟩
  clear ho11 hb6 HW4 HN4 HX64 HX6
  go_wp2_with fail
  refine (eqIntS_any _ _ _ _ ql ql _ (by omega) (by omega) (ownInts HRC.out.t11) (ownInts HRC.out.t6)).mono ?_
  rintro e w7 ⟨rfl, hb7⟩
  have HRC7 := Lib.hid (HRC.out.same hb7); clear hb7 HRC
  rw [decide_eq_true rfl]
  go_wp2_with fail
  refine (toDecisionNodeS_any a c ns _ hl HO.out (H.out.same HRC7.out.bel)).mono ?_
  rintro e w8 ⟨gs8, rfl, _, hn8, hb8⟩
  have HN8 := Lib.hid hn8; clear hn8
  have HRC8 := Lib.hid (HRC7.out.same hb8); clear hb8 HRC7
  go_wp2_with fail
  refine (eqDecisionNodeS_any _ _ _ _ ns ns _ hbig hbig HRC8.out.t9 HN8.out).mono ?_
  rintro e w11 ⟨rfl, hb9⟩
  have HRC11 := Lib.hid (HRC8.out.same hb9); clear hb9 HRC8 HN8
  rw [decide_eq_true rfl]
  go_wp2_with fail
  refine (markDecisionNodeS_any _ _ _ _ gs _ 1 _ hl HO.out (by omega) (by omega) HRC11.out.nsw).mono ?_
  rintro e w12 ⟨k, rfl, k0, k1, hc⟩
  obtain ⟨ob1, ob2, ob3⟩ := HRC11.out.old
  have HBm := Lib.hid (hc.below HRC11.out.bel ob1)
  have HT6 := Lib.hid (hc.own HRC11.out.t6 (fun k hk => .inl (HRC11.out.f6 k hk)))
  have HT11 := Lib.hid (hc.own HRC11.out.t11 (fun k hk => by have := (HRC11.out.t11.lt k hk).1; omega))
  have HF6 := Lib.hid HRC11.out.f6
  clear hc HRC11
  go_wp2_with fail
  refine (eqIntS_any _ _ _ _ ql ql _ (by omega) (by omega) (ownInts HT11.out) (ownInts HT6.out)).mono ?_
  rintro e w14 ⟨rfl, hb14⟩
  have HBm14 := Lib.hid (HBm.out.trans (hb14.mono HBm.out.size))
  have HT64 := Lib.hid (own_below HT6.out (Nat.le_refl _) hb14)
  have HT114 := Lib.hid (own_below HT11.out (Nat.le_refl _) hb14)
  clear hb14 HBm HT6 HT11
  rw [decide_eq_true rfl]
  go_wp2_with fail
  refine (markIntS_at _ _ _ ql.length ql 1 _ (by omega) (by omega) (by omega) rfl HT114.out).mono ?_
  rintro e w15 ⟨rfl, ho15, hg15⟩
  have HRD : Hid (RD w w15 x6 x11 c6 c11 ql (mkI ql.length 1 ql ql.length)) :=
    ⟨below_app HBm14.out HBm14.out.size HT114.out (show w.heap.size ≤ w4.heap.size by omega) hg15, ownInts (own_other HT64.out hg15 (fun k hk e => by have := HF6.out k hk; have := (HT114.out.lt k e).1; omega)), ownInts ho15⟩
  clear ho15 hg15 HBm14 HT64 HT114
  have HMK : Hid (∀ j, j < ql.length → (mkI ql.length 1 ql ql.length).getD j 0 = 1 + (j : Int)) := fun j hj => by rw [mkI_at hj, if_pos hj]
  have HML := Lib.hid (mkI_len ql.length 1 ql ql.length)
  generalize mkI ql.length 1 ql ql.length = ml at HRD HMK HML
  go_wp2_with fail
  refine (heldIntS_any _ _ ql.length ml 1 _ (by omega) (by omega) (by omega) HML.out HRD.out.t11 HMK.out).mono ?_
  rintro e w' ⟨rfl, rfl⟩
  have n3 : (((1 : Int) + (ql.length : Int)) != ((1 : Int) + (ql.length : Int))) = false := by simp
  go_wp2_with fail
  refine (toDecisionNodeS_any a c ns _ hl HO.out (H.out.same HRD.out.bel)).mono ?_
  rintro e w16 ⟨gs16, rfl, _, hn16, hb16⟩
  have HN16 := Lib.hid hn16; clear hn16
  have HRD16 := Lib.hid (HRD.out.same hb16); clear hb16 HRD
  go_wp2_with fail
  refine (HIM.out _ _ _ HN16.out).mono ?_
  rintro e w18 ⟨x17, c17, rfl, ho18, hb18⟩
  have HI18 := Lib.hid (ownInts ho18); clear ho18 HN16
  have HRD18 := Lib.hid (HRD16.out.same hb18); clear hb18 HRD16
  go_wp2_with fail
  refine (eqIntS_any _ _ _ _ ql ql _ (by omega) (by omega) HI18.out HRD18.out.t6).mono ?_
  rintro e w19 ⟨rfl, hb19⟩
  have HRD19 := Lib.hid (HRD18.out.same hb19); clear hb19 HRD18 HI18
  rw [decide_eq_true rfl]
  go_wp2_with fail
  refine (heldIntS_any _ _ ql.length ml 1 _ (by omega) (by omega) (by omega) HML.out HRD19.out.t11 HMK.out).mono ?_
  rintro e w' ⟨rfl, rfl⟩
  go_wp2
  go_ret
  exact ⟨rfl, HRD19.out.bel⟩

end Go.Proofs.Ytmolneojjcjooaa
