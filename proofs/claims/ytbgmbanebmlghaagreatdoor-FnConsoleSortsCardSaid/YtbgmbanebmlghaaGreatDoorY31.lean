/- Several texts in one: lemmas and walks of the functions that the law reaches. -/
import Derived.Test.YtbgmbanebmlghaaGreatDoorY28
import Derived.Test.YtbgmbanebmlghaaGreatDoorY30

namespace Go.Proofs.YtbgmbanebmlghaaGreatDoor
open Go.RowKit
set_option linter.unusedVariables false

def logV (d p : ByteArray) (n : Int) : Value := .agg #[.string d, .string p, .int .i64 n]

theorem three_set {w : World} {B : Nat} {a b c : Value} (x y z : Value) (h0 : w.cell? ⟨B, 0, none⟩ = some a) (h1 : w.cell? ⟨B, 1, none⟩ = some b) (h2 : w.cell? ⟨B, 2, none⟩ = some c) :
    (w.setCell ⟨B, 0, none⟩ x).cell? ⟨B, 0, none⟩ = some x ∧ ((w.setCell ⟨B, 0, none⟩ x).setCell ⟨B, 1, none⟩ y).cell? ⟨B, 0, none⟩ = some x ∧ ((w.setCell ⟨B, 0, none⟩ x).setCell ⟨B, 1, none⟩ y).cell? ⟨B, 1, none⟩ = some y ∧
    (((w.setCell ⟨B, 0, none⟩ x).setCell ⟨B, 1, none⟩ y).setCell ⟨B, 2, none⟩ z).cell? ⟨B, 0, none⟩ = some x ∧ (((w.setCell ⟨B, 0, none⟩ x).setCell ⟨B, 1, none⟩ y).setCell ⟨B, 2, none⟩ z).cell? ⟨B, 1, none⟩ = some y ∧ (((w.setCell ⟨B, 0, none⟩ x).setCell ⟨B, 1, none⟩ y).setCell ⟨B, 2, none⟩ z).cell? ⟨B, 2, none⟩ = some z := by
  obtain ⟨s0, s1, s2⟩ := two_set x y h0 h1
  have n02 : (⟨B, 0, none⟩ : Addr) ≠ ⟨B, 2, none⟩ := by simp
  have n12 : (⟨B, 1, none⟩ : Addr) ≠ ⟨B, 2, none⟩ := by simp
  have e2 : ((w.setCell ⟨B, 0, none⟩ x).setCell ⟨B, 1, none⟩ y).cell? ⟨B, 2, none⟩ = some c := by
    rw [World.cell?_setCell_other (h := n12), World.cell?_setCell_other (h := n02)]; exact h2
  exact ⟨s0, s1, s2, (World.cell?_setCell_other (h := n02.symm) ..).trans s1, (World.cell?_setCell_other (h := n12.symm) ..).trans s2, World.cell?_setCell_same' _ _ _ (by rw [e2]; rfl)⟩

end Go.Proofs.YtbgmbanebmlghaaGreatDoor

namespace Go.Proofs.YtbgmbanebmlghaaGreatDoor
open Go.RowKit
set_option linter.unusedVariables false

def logOf (d p : ByteArray) (n : Int) : Tx.LogV := ⟨bs d, bs p, n⟩

/-- Whether one of the ends is at place x, as the program asks. -/
def hasEnd (r : List (Tx.Rec × Nat)) (x : Nat) : Bool := decide (x ∈ Tx.startsL r)

theorem starts_at (r : List (Tx.Rec × Nat)) {k : Nat} (h : k ≤ r.length) : (Value.int .i64 0 :: (endsL r).map (Value.int .i64))[k]? = some (.int .i64 ((Tx.total (r.take k) : Nat) : Int)) := by
  cases k with
  | zero => simp [Tx.total]
  | succ n =>
    rw [List.getElem?_cons_succ, List.getElem?_map]
    unfold endsL
    rw [List.getElem?_map]
    simp only [List.getElem?_range (show n < r.length by omega), Option.map_some]

def anyTo (r : List (Tx.Rec × Nat)) (x k : Nat) : Bool := (List.range k).any fun j => decide (Tx.total (r.take j) = x)
theorem anyTo_succ (r : List (Tx.Rec × Nat)) (x k : Nat) : anyTo r x (k + 1) = (anyTo r x k || decide (Tx.total (r.take k) = x)) := by
  unfold anyTo; rw [List.range_succ, List.any_append]; simp
theorem anyTo_all (r : List (Tx.Rec × Nat)) (x : Nat) : anyTo r x (r.length + 1) = hasEnd r x := by
  rw [Bool.eq_iff_iff]
  unfold anyTo hasEnd Tx.startsL
  simp

theorem okLog_eq (d p : ByteArray) (n : Int) : Tx.okLog (logOf d p n) = (hasEnd (Tx.rd 60 (bs (d ++ p))) d.size && decide (Tx.total (Tx.rd 60 (bs (d ++ p))) = (d ++ p).size) && decide (n = ((Tx.rd 60 (bs (d ++ p))).length : Int))) := by
  unfold Tx.okLog logOf hasEnd Tx.endOf Tx.recsOf
  simp only [← bs_add, bs_len, List.length_map]

def RecsEnd (w : World) (d p : ByteArray) (n : Int) (e : Ending) (w' : World) : Prop :=
  ∃ (a : Option Addr) (c : Nat), e = .returned (.tuple #[.slice a (Tx.rd 60 (bs (d ++ p))).length c, .bool (Tx.okLog (logOf d p n))]) ∧
    w'.ownsRow w.heap.size 68 2 (.slice a (Tx.rd 60 (bs (d ++ p))).length c) (Tx.rd 60 (bs (d ++ p))).length (flat encL ((Tx.rd 60 (bs (d ++ p))).map (·.1))) ∧ Below w.heap.size w w'

theorem own_celln {w : World} {base : Nat} {e : TypeId} {g : Nat} {n c : Nat} {xs : List Value} (h : w.ownsRow base e 1 (.slice (some ⟨g, 0, none⟩) n c) n xs) {i : Nat} {x : Value} (hx : xs[i]? = some x) : w.cell? ⟨g, i, none⟩ = some x := by
  obtain ⟨g', hg, hc, _⟩ := own_at h hx
  simp only [Option.some.injEq, Addr.mk.injEq, and_true] at hg
  rw [hg]; exact hc

theorem ret_sb {a : Option Addr} {n c : Nat} {x y : Bool} (h : x = y) : Ending.returned (.tuple #[.slice a n c, .bool x]) = .returned (.tuple #[.slice a n c, .bool y]) := by rw [h]

set_option maxRecDepth 100000 in
set_option maxHeartbeats 8000000 in
theorem logRecs_any (d p : ByteArray) (n : Int) (w : World) (hd : d.size ≤ 1048576) (hp : p.size ≤ 1048576) (ht : Tab w) :
    Calls Tryz.prog 63 #[logV d p n] w (RecsEnd w d p n) := by
  have HT := Lib.hid ht; clear ht
  have HOK := Lib.hid (okLog_eq d p n)
  have hws : (d ++ p).size ≤ 2097152 := by rw [size_add]; omega
  have a1 := add_runs (P := Tryz.prog) (a := d) (b := p) (by omega) (by omega)
  obtain ⟨wh, hwh⟩ : ∃ x, x = d ++ p := ⟨_, rfl⟩
  have a2 : ∀ w, (Op.stringOp .add d p).run Tryz.prog w = .ok (.string wh) w := by rw [hwh]; exact a1
  rw [← hwh] at HOK hws
  have HWH := Lib.hid hwh
  clear a1 hwh
  have HR := Lib.hid (fun w ht => read_any wh w (by omega) ht)
  have h60 := Tx.rd_len 60 (bs wh)
  have hB : Below w.heap.size w (w.alloc (.cells #[.string d, .string p, .int .i64 n] 28)) := (Below.refl _ _).alloc (Nat.le_refl _) _
  have HBb := Lib.hid hB; clear hB
  unfold logV
  go_enter Tryz.func63, Tryz.ntmps63
  go_wp2_with fail
  refine (HR.out _ (HT.out.below HBb.out)).mono ?_
  rintro e w1 ⟨a1, a2', c1, c2, rfl, htwo, hb1⟩
  have HO := Lib.hid (show w1.ownsRow 0 3 1 _ _ _ from own_mono htwo.2 (Nat.zero_le _))
  have HOR := Lib.hid (show w1.ownsRow w.heap.size 68 2 _ _ _ from own_mono htwo.1 (by simp))
  have HB1 := Lib.hid (HBb.out.trans (hb1.mono HBb.out.size))
  have hz1 : w.heap.size < w1.heap.size := by have := hb1.size; simp at this; omega
  have hc0 : w1.cell? ⟨w.heap.size, 0, none⟩ = some (.string d) := (bcell hb1 (by simp)).trans (alloc_cell 0)
  have hc2 : w1.cell? ⟨w.heap.size, 2, none⟩ = some (.int .i64 n) := (bcell hb1 (by simp)).trans (alloc_cell 2)
  have HC0 := Lib.hid hc0; have HC2 := Lib.hid hc2
  clear hb1 htwo hc0 hc2
  have E0 := Lib.hid (own_lit (w := w1) (e := 3) (size := 1) #[.int .i64 0] 1 (by omega) rfl)
  have HO1 := Lib.hid (own_below HO.out (w' := w1.alloc (.cells #[.int .i64 0] 3)) (Nat.le_refl _) ((Below.refl _ _).alloc (Nat.le_refl _) _))
  have hle : w1.heap.size ≤ (w1.alloc (.cells #[.int .i64 0] 3)).heap.size := by simp
  obtain ⟨r, hr⟩ : ∃ r, r = Tx.rd 60 (bs wh) := ⟨_, rfl⟩
  rw [← hr] at HO1 h60 HOR HOK
  have HRR := Lib.hid hr
  rw [← hr]
  clear hr HO
  have hsm : 1 + r.length ≤ 1099511627776 := by omega
  go_wp2_with (at_builtin; refine wpList_appL slI rfl (.tmp 21) (.tmp 22) rfl rfl E0.out rfl HO1.out (by simp [Value.oneCell']) hsm hle ?_; intro v' w2 hown2 hg2 ht2; obtain ⟨a', c', rfl⟩ := own_slice hown2; obtain ⟨g, rfl, _, _, _⟩ := own_at hown2 (i := 0) rfl; have HS := Lib.hid (fun k (hk : k ≤ r.length) => own_celln hown2 (starts_at r hk)); have hb2 : Below w1.heap.size w1 w2 := below_app ((Below.refl _ _).alloc (Nat.le_refl _) _) hle E0.out (Nat.le_refl _) hg2; have hd0 := (bcell hb2 hz1).trans HC0.out; have hd2 := (bcell hb2 hz1).trans HC2.out; have HB2 := Lib.hid (HB1.out.trans (hb2.mono HB1.out.size)); have HOR2 := Lib.hid (own_below HOR.out (Nat.le_refl _) hb2); clear hown2 hg2 ht2 hb2)
  clear HT HR HBb HB1 HO1 HOR E0 hle HC0 HC2 hz1
  go_loop [8, 26] (fun q i => ∃ k : Nat, k ≤ r.length + 1 ∧ i = .int .i64 k ∧ q = .bool (anyTo r d.size k)) (fun _ i => r.length + 1 - (intOf i).toNat)
  case atStart => exact ⟨0, by omega, rfl, rfl⟩
  case round =>
    obtain ⟨k, hk, rfl, rfl⟩ := hrel
    by_cases hlt : k < r.length + 1
    · have hcell := HS.out k (by omega)
      have HN := Lib.hid (anyTo_succ r d.size k)
      have heq : (((Tx.total (r.take k) : Nat) : Int) == (d.size : Int)) = decide (Tx.total (r.take k) = d.size) := by
        rw [Bool.eq_iff_iff]; simp; omega
      generalize Tx.total (r.take k) = x at hcell HN heq
      generalize decide (x = d.size) = y at HN heq
      cases hq : anyTo r d.size k
      all_goals rw [hq] at HN
      all_goals clear hq
      all_goals
        go_wp2
        go_round
        case rel => exact ⟨k + 1, by omega, by go_num, by rw [HN.out]; simp⟩
        case measure => simp [intOf]; omega
    · obtain rfl : k = r.length + 1 := by omega
      have hcell := HS.out r.length (Nat.le_refl _)
      rw [List.take_length] at hcell
      rw [anyTo_all]
      have h1 : (((Tx.total r : Nat) : Int) == (wh.size : Int)) = decide (Tx.total r = wh.size) := by
        rw [Bool.eq_iff_iff]; simp; omega
      have h2 : (n == (r.length : Int)) = decide (n = (r.length : Int)) := by
        rw [Bool.eq_iff_iff]; simp
      generalize Tx.total r = x at hcell h1 HOK
      generalize hasEnd r d.size = q at HOK
      have HRW := Lib.hid HWH.out
      cases q
      case false =>
        go_wp2
        go_quiet (fail)
        go_wp2
        go_ret2
        refine ⟨a1, c1, ?_, ?_, ?_⟩
        · rw [← HRW.out, ← HRR.out]; exact ret_sb HOK.out.symm
        · rw [← HRW.out, ← HRR.out]; exact HOR2.out
        · exact below_drewN HB2.out _
      have w1' : IntKind.i64.wrap (1 + (r.length : Int) - 1) = (r.length : Int) := by rw [show 1 + (r.length : Int) - 1 = (r.length : Int) by omega]; exact IntWalk.i64_in _ (by omega)
      have w2' : 1 + (r.length : Int) - 1 = (r.length : Int) := by omega
      generalize decide (x = wh.size) = y1 at h1 HOK
      generalize decide (n = (r.length : Int)) = y2 at h2 HOK
      cases y1
      case false =>
        go_wp2
        go_quiet (fail)
        go_wp2
        go_ret2
        refine ⟨a1, c1, ?_, ?_, ?_⟩
        · rw [← HRW.out, ← HRR.out]; exact ret_sb HOK.out.symm
        · rw [← HRW.out, ← HRR.out]; exact HOR2.out
        · exact below_drewN HB2.out _
      go_wp2
      go_quiet (fail)
      go_wp2
      go_ret2
      refine ⟨a1, c1, ?_, ?_, ?_⟩
      · rw [← HRW.out, ← HRR.out]; refine ret_sb ?_; rw [HOK.out]; rfl
      · rw [← HRW.out, ← HRR.out]; exact HOR2.out
      · exact below_drewN HB2.out _

end Go.Proofs.YtbgmbanebmlghaaGreatDoor

namespace Go.Proofs.YtbgmbanebmlghaaGreatDoor
open Go.RowKit
set_option linter.unusedVariables false

set_option maxHeartbeats 1000000 in
theorem isValidLog_any (d p : ByteArray) (n : Int) (w : World) (hd : d.size ≤ 1048576) (hp : p.size ≤ 1048576) (ht : Tab w) :
    Calls Tryz.prog 82 #[logV d p n] w fun e w' => e = .returned (.bool (Tx.okLog (logOf d p n))) ∧ Below w.heap.size w w' := by
  have HT := Lib.hid ht; clear ht
  have HR := Lib.hid (fun w ht => logRecs_any d p n w hd hp ht)
  have hB : Below w.heap.size w (w.alloc (.cells #[.string d, .string p, .int .i64 n] 28)) := (Below.refl _ _).alloc (Nat.le_refl _) _
  have HBb := Lib.hid hB; clear hB
  unfold logV at *
  go_enter Tryz.func82, Tryz.ntmps82
  go_wp2_with fail
  refine (HR.out _ (HT.out.below HBb.out)).mono ?_
  rintro e w1 ⟨a, c, rfl, _, hb1⟩
  have HB1 := Lib.hid (HBb.out.trans (hb1.mono HBb.out.size)); clear hb1
  go_wp2
  go_ret
  exact ⟨rfl, HB1.out⟩

end Go.Proofs.YtbgmbanebmlghaaGreatDoor

namespace Go.Proofs.YtbgmbanebmlghaaGreatDoor
open Go.RowKit
set_option linter.unusedVariables false
/-- A struct of three cells that still stands. -/
structure L3 (w : World) (B : Nat) (x y z : Value) : Prop where
  c0 : w.cell? ⟨B, 0, none⟩ = some x
  c1 : w.cell? ⟨B, 1, none⟩ = some y
  c2 : w.cell? ⟨B, 2, none⟩ = some z
  lt : B < w.heap.size
theorem L3.next {w w' : World} {B : Nat} {x y z : Value} (h : L3 w B x y z) (hb : Below w.heap.size w w') : L3 w' B x y z := ⟨(bcell hb h.lt).trans h.c0, (bcell hb h.lt).trans h.c1, (bcell hb h.lt).trans h.c2, Nat.lt_of_lt_of_le h.lt hb.size⟩
theorem L3.mk' (w : World) (x y z : Value) (t : TypeId) : L3 (w.alloc (.cells #[x, y, z] t)) w.heap.size x y z := ⟨alloc_cell 0, alloc_cell 1, alloc_cell 2, by simp⟩
theorem below_new (w : World) (o : Obj) : Below w.heap.size w (w.alloc o) := (Below.refl _ _).alloc (Nat.le_refl _) _

end Go.Proofs.YtbgmbanebmlghaaGreatDoor

namespace Go.Proofs.YtbgmbanebmlghaaGreatDoor
open Go.RowKit
set_option linter.unusedVariables false

def conV (a : Option Addr) (l c : Nat) (d p : ByteArray) (n : Int) : Value := .agg #[.slice a l c, .string d, .string p, .int .i64 n]
structure L4 (w : World) (B : Nat) (x y z v : Value) : Prop where
  c0 : w.cell? ⟨B, 0, none⟩ = some x
  c1 : w.cell? ⟨B, 1, none⟩ = some y
  c2 : w.cell? ⟨B, 2, none⟩ = some z
  c3 : w.cell? ⟨B, 3, none⟩ = some v
  lt : B < w.heap.size
theorem L4.next {w w' : World} {B : Nat} {x y z v : Value} (h : L4 w B x y z v) (hb : Below w.heap.size w w') : L4 w' B x y z v := ⟨(bcell hb h.lt).trans h.c0, (bcell hb h.lt).trans h.c1, (bcell hb h.lt).trans h.c2, (bcell hb h.lt).trans h.c3, Nat.lt_of_lt_of_le h.lt hb.size⟩
theorem L4.mk' (w : World) (x y z v : Value) (t : TypeId) : L4 (w.alloc (.cells #[x, y, z, v] t)) w.heap.size x y z v := ⟨alloc_cell 0, alloc_cell 1, alloc_cell 2, alloc_cell 3, by simp⟩
theorem L4.drew {w : World} {B : Nat} {x y z v : Value} (h : L4 w B x y z v) : L4 w.drew B x y z v := ⟨h.1, h.2, h.3, h.4, h.5⟩

set_option maxHeartbeats 1000000 in
theorem isValidConsole_any (a : Option Addr) (c : Nat) (rs : List (Int × Int)) (d p : ByteArray) (n : Int) (w : World) (hbig : rs.length ≤ 9223372036854775807) (hd : d.size ≤ 1048576) (hp : p.size ≤ 1048576) (ht : Tab w) (h : RecsAt w a rs) :
    Calls Tryz.prog 37 #[conV a rs.length c d p n] w fun e w' => e = .returned (.bool (okRecs rs && Tx.okLog (logOf d p n))) ∧ Below w.heap.size w w' := by
  have HB0 := Lib.hid (below_new w (.cells #[.slice a rs.length c, .string d, .string p, .int .i64 n] 30))
  have HL0 := Lib.hid (L4.mk' w (.slice a rs.length c) (.string d) (.string p) (.int .i64 n) 30)
  have HR := Lib.hid (isValidRecords_any a c rs _ hbig (h.below (Nat.le_refl _) HB0.out))
  have HI := Lib.hid (fun w ht => isValidLog_any d p n w hd hp ht)
  have HT := Lib.hid (Tab.below ht HB0.out)
  clear h ht
  unfold conV logV at *
  cases hq : okRecs rs
  all_goals rw [hq] at HR
  all_goals clear hq
  case false =>
    go_enter Tryz.func37, Tryz.ntmps37
    go_wp2_with fail
    refine HR.out.mono ?_
    rintro e w1 ⟨rfl, hb⟩
    have HB1 := Lib.hid (HB0.out.trans (hb.mono HB0.out.size))
    clear hb
    go_wp2
    go_ret
    exact ⟨rfl, HB1.out⟩
  go_enter Tryz.func37, Tryz.ntmps37
  go_wp2_with fail
  refine HR.out.mono ?_
  rintro e w1 ⟨rfl, hb⟩
  have HB1 := Lib.hid (HB0.out.trans (hb.mono HB0.out.size))
  have HT1 := Lib.hid (HT.out.below hb)
  obtain ⟨c0, c1, c2, c3, _⟩ := HL0.out.next hb
  clear hb
  go_wp2_with fail
  refine (HI.out _ HT1.out).mono ?_
  rintro e w2 ⟨rfl, hb⟩
  have HB2 := Lib.hid (HB1.out.trans (hb.mono HB1.out.size))
  clear hb c0 c1 c2 c3
  go_wp2
  go_ret
  exact ⟨rfl, HB2.out⟩

/-- A fresh struct of four cells. -/
structure Z4 (w : World) (g : Nat) (x y z v : Value) : Prop where
  l4 : L4 w g x y z v
  fr : ∀ o, w.frozen? ⟨g, o, none⟩ = false
theorem Z4.next {w w' : World} {g : Nat} {x y z v : Value} (h : Z4 w g x y z v) (hb : Below w.heap.size w w') : Z4 w' g x y z v := ⟨h.1.next hb, fun o => ((stands hb).2 _ _ h.1.lt).trans (h.2 o)⟩
theorem Z4.mk' (w : World) (x y z v : Value) (t : TypeId) : Z4 (w.alloc (.cells #[x, y, z, v] t)) w.heap.size x y z v := ⟨L4.mk' _ _ _ _ _ _, fun o => by simp [go_sem]⟩

theorem frozen_set4 (w : World) (p q : Addr) (v : Value) : (w.setCell p v).frozen? q = w.frozen? q := by simp [go_sem]
theorem setc_grown (w : World) (g j : Nat) (u : Value) : w.grownBy (w.setCell ⟨g, j, none⟩ u) (some g) :=
  ⟨rfl, rfl, rfl, by simp [World.setCell], fun q _ hq => by
    have : ((w.setCell ⟨g, j, none⟩ u).heap[q]? = w.heap[q]?) := by
      have hb : Below (g + 1) w w := Below.refl _ _
      unfold World.setCell
      simp only
      rw [Array.getElem?_modify]
      rw [if_neg (fun e => hq (by rw [e]))]
    exact this⟩
theorem Z4.far {w : World} {g : Nat} {x y z v : Value} (h : Z4 w g x y z v) {p : Addr} (s : Value) (hp : p.block ≠ g) : Z4 (w.setCell p s) g x y z v := by
  have e : ∀ i, (w.setCell p s).cell? ⟨g, i, none⟩ = w.cell? ⟨g, i, none⟩ := fun i => World.cell?_setCell_far w p _ s hp
  exact ⟨⟨(e _).trans h.1.c0, (e _).trans h.1.c1, (e _).trans h.1.c2, (e _).trans h.1.c3, by simp [World.setCell]; exact h.1.lt⟩, fun o => (frozen_set4 w p _ s).trans (h.2 o)⟩
theorem contents {w w' : World} {a : Option Addr} {rs : List (Int × Int)} (h : RecsAt w a rs) (hb : Below w.heap.size w w') : RecsAt w' a rs := h.below (Nat.le_refl _) hb

/-- What is held in the last region of the law. -/
structure Kd2 (w0 : World) (B g : Nat) (x y z v x' : Value) (a ag : Option Addr) (rs : List (Int × Int)) (w : World) : Prop where
  arg : L4 w B x y z v
  box : L4 w g x' y z v
  bel : Below w0.heap.size w0 w
  ra : RecsAt w a rs
  rg : RecsAt w ag rs
theorem Kd2.next {w0 w w' : World} {B g : Nat} {x y z v x' : Value} {a ag : Option Addr} {rs : List (Int × Int)} (h : Kd2 w0 B g x y z v x' a ag rs w) (hb : Below w.heap.size w w') : Kd2 w0 B g x y z v x' a ag rs w' :=
  ⟨h.1.next hb, h.2.next hb, h.3.trans (hb.mono h.3.size), contents h.4 hb, contents h.5 hb⟩
theorem Kd2.drew {w0 w : World} {B g : Nat} {x y z v x' : Value} {a ag : Option Addr} {rs : List (Int × Int)} (h : Kd2 w0 B g x y z v x' a ag rs w) : Kd2 w0 B g x y z v x' a ag rs w.drew :=
  h.next ((Below.refl _ _).drew)
theorem Kd2.all {w0 w : World} {B g : Nat} {x y z v x' : Value} {a ag : Option Addr} {rs : List (Int × Int)} (h : Kd2 w0 B g x y z v x' a ag rs w) : w.cell? ⟨B, 0, none⟩ = some x ∧ w.cell? ⟨B, 1, none⟩ = some y ∧ w.cell? ⟨B, 2, none⟩ = some z ∧ w.cell? ⟨B, 3, none⟩ = some v ∧ w.cell? ⟨g, 0, none⟩ = some x' ∧ w.cell? ⟨g, 1, none⟩ = some y ∧ w.cell? ⟨g, 2, none⟩ = some z ∧ w.cell? ⟨g, 3, none⟩ = some v ∧ Kd2 w0 B g x y z v x' a ag rs w :=
  ⟨h.1.c0, h.1.c1, h.1.c2, h.1.c3, h.2.c0, h.2.c1, h.2.c2, h.2.c3, h⟩

end Go.Proofs.YtbgmbanebmlghaaGreatDoor

namespace Go.Proofs.YtbgmbanebmlghaaGreatDoor
open Go.RowKit
set_option linter.unusedVariables false
theorem below_three' {w w1 : World} {B C : Nat} (h : Below B w w1) (x y z : Value) (hC : B ≤ C := by omega) : Below B w (((w1.setCell ⟨C, 0, none⟩ x).setCell ⟨C, 1, none⟩ y).setCell ⟨C, 2, none⟩ z) :=
  Below.setCell (p := ⟨C, 2, none⟩) (Below.setCell (p := ⟨C, 1, none⟩) (Below.setCell (p := ⟨C, 0, none⟩) h hC _) hC _) hC _

end Go.Proofs.YtbgmbanebmlghaaGreatDoor

namespace Go.Proofs.YtbgmbanebmlghaaGreatDoor
open Go.RowKit
set_option linter.unusedVariables false

/-- A struct of two cells that still stands. -/
structure L2 (w : World) (B : Nat) (x y : Value) : Prop where
  c0 : w.cell? ⟨B, 0, none⟩ = some x
  c1 : w.cell? ⟨B, 1, none⟩ = some y
  lt : B < w.heap.size
theorem L2.next {w w' : World} {B : Nat} {x y : Value} (h : L2 w B x y) (hb : Below w.heap.size w w') : L2 w' B x y := ⟨(bcell hb h.lt).trans h.c0, (bcell hb h.lt).trans h.c1, Nat.lt_of_lt_of_le h.lt hb.size⟩
theorem L2.mk' (w : World) (x y : Value) (t : TypeId) : L2 (w.alloc (.cells #[x, y] t)) w.heap.size x y := ⟨alloc_cell 0, alloc_cell 1, by simp⟩
/-- A block of the call's own that may be written. -/
structure Fr (w : World) (B : Nat) : Prop where
  fr : ∀ o, w.frozen? ⟨B, o, none⟩ = false
  lt : B < w.heap.size
theorem Fr.next {w w' : World} {B : Nat} (h : Fr w B) (hb : Below w.heap.size w w') : Fr w' B := ⟨fun o => (hb.frozen (p := ⟨B, o, none⟩) h.lt).trans (h.fr o), Nat.lt_of_lt_of_le h.lt hb.size⟩
theorem Fr.mk' (w : World) (cs : Array Value) (t : TypeId) : Fr (w.alloc (.cells cs t)) w.heap.size := ⟨fun o => by simp [go_sem], by simp⟩

theorem app_n {d p : ByteArray} {n : Int} (h : Tx.okLog (logOf d p n) = true) : ∃ k : Nat, n = k ∧ k ≤ 60 := by
  obtain ⟨_, _, h3, _⟩ := Tx.okLog_parts h
  exact ⟨_, h3, Tx.recs_le _⟩

set_option maxRecDepth 100000 in
set_option maxHeartbeats 4000000 in
theorem app_ok (d p : ByteArray) (n : Int) (c r : ByteArray) (w : World) (hd : d.size ≤ 1048576) (hp : p.size ≤ 1048576) (hcs : c.size ≤ 1048576) (hrs : r.size ≤ 1048576) (ht : Tab w) (h : Tx.okLog (logOf d p n) = true) (hr : Tx.okE (recE c r) = true) (hn : n ≠ 60) :
    Calls Tryz.prog 57 #[logV d p n, recV c r] w fun e w' => e = .returned (.tuple #[logV d (p ++ encB n.toNat c r) (n + 1), .int .i64 0]) ∧ Below w.heap.size w w' := by
  obtain ⟨k, rfl, hk⟩ := app_n h
  have hk60 : k < 60 := by omega
  have HT := Lib.hid ht; clear ht
  have HR := Lib.hid (fun w ht => isValidLog_any d p (k : Int) w hd hp ht)
  have hA1 := below_new w (.cells #[.string d, .string p, .int .i64 k] 28)
  have hA2 := hA1.trans ((below_new (w.alloc (.cells #[.string d, .string p, .int .i64 k] 28)) (.cells #[.string c, .string r] 68)).mono hA1.size)
  have hA3 := hA2.trans ((below_new ((w.alloc (.cells #[.string d, .string p, .int .i64 k] 28)).alloc (.cells #[.string c, .string r] 68)) (.cells #[.string ⟨#[]⟩, .string ⟨#[]⟩, .int .i64 0] 28)).mono hA2.size)
  have hl := ((L3.mk' w (.string d) (.string p) (.int .i64 k) 28).next (below_new _ (.cells #[.string c, .string r] 68))).next (below_new _ (.cells #[.string ⟨#[]⟩, .string ⟨#[]⟩, .int .i64 0] 28))
  have hc := (L2.mk' (w.alloc (.cells #[.string d, .string p, .int .i64 k] 28)) (.string c) (.string r) 68).next (below_new _ (.cells #[.string ⟨#[]⟩, .string ⟨#[]⟩, .int .i64 0] 28))
  have hz := L3.mk' ((w.alloc (.cells #[.string d, .string p, .int .i64 k] 28)).alloc (.cells #[.string c, .string r] 68)) (.string ⟨#[]⟩) (.string ⟨#[]⟩) (.int .i64 0) 28
  have hf := Fr.mk' ((w.alloc (.cells #[.string d, .string p, .int .i64 k] 28)).alloc (.cells #[.string c, .string r] 68)) #[.string ⟨#[]⟩, .string ⟨#[]⟩, .int .i64 0] 28
  have e1 : (w.alloc (.cells #[.string d, .string p, .int .i64 k] 28)).heap.size = w.heap.size + 1 := by simp
  have e2 : ((w.alloc (.cells #[.string d, .string p, .int .i64 k] 28)).alloc (.cells #[.string c, .string r] 68)).heap.size = w.heap.size + 2 := by simp
  rw [e1] at hc
  rw [e2] at hz hf
  have HL := Lib.hid hl; have HC := Lib.hid hc; have HZ := Lib.hid hz; have HF := Lib.hid hf; have HB0 := Lib.hid hA3
  clear hA1 hA2 hA3 hl hc hz hf e1 e2
  have HV := Lib.hid (fun w => isValidRecord_any c r w (by omega) (by omega))
  have HE := Lib.hid (fun w ht => encode_yes k c r w hk60 hr ht)
  have hes : (encB k c r).size ≤ 302 := by
    have h1 := Tx.line_len (show k < 100 by omega) hr
    unfold encB
    rw [size_mk]; simp; omega
  rw [Int.toNat_natCast]
  rw [h] at HR
  rw [hr] at HV
  have hq : ((k : Int) == 60) = false := by rw [beq_eq_false_iff_ne]; exact hn
  clear h hr hn
  generalize encB k c r = R at HE hes
  have HRR : ∀ {x : Bool}, True := fun {_} => trivial
  clear HRR
  have a1 := add_runs (P := Tryz.prog) (a := p) (b := R) (by omega) (by omega)
  unfold logV recV at *
  go_enter Tryz.func57, Tryz.ntmps57
  go_wp2_with fail
  refine (HR.out _ (HT.out.below HB0.out)).mono ?_
  rintro e w1 ⟨rfl, hb1⟩
  have HL_1 := Lib.hid (HL.out.next hb1); clear HL; have HL := HL_1; clear HL_1
  have HC_1 := Lib.hid (HC.out.next hb1); clear HC; have HC := HC_1; clear HC_1
  have HZ_1 := Lib.hid (HZ.out.next hb1); clear HZ; have HZ := HZ_1; clear HZ_1
  have HF_1 := Lib.hid (HF.out.next hb1); clear HF; have HF := HF_1; clear HF_1
  have HB1 := Lib.hid (HB0.out.trans (hb1.mono HB0.out.size)); clear hb1
  obtain ⟨l0, l1, l2, _⟩ := HL.out
  obtain ⟨c0, c1, _⟩ := HC.out
  go_wp2_with fail
  refine (HV.out _).mono ?_
  rintro e w2 ⟨rfl, hb2⟩
  have HL_2 := Lib.hid (HL.out.next hb2); clear HL; have HL := HL_2; clear HL_2
  have HC_2 := Lib.hid (HC.out.next hb2); clear HC; have HC := HC_2; clear HC_2
  have HZ_2 := Lib.hid (HZ.out.next hb2); clear HZ; have HZ := HZ_2; clear HZ_2
  have HF_2 := Lib.hid (HF.out.next hb2); clear HF; have HF := HF_2; clear HF_2
  have HB2 := Lib.hid (HB1.out.trans (hb2.mono HB1.out.size)); clear hb2
  clear l0 l1 l2 c0 c1
  obtain ⟨l0, l1, l2, _⟩ := HL.out
  obtain ⟨c0, c1, _⟩ := HC.out
  go_wp2_with fail
  refine (HE.out _ (HT.out.below HB2.out)).mono ?_
  rintro e w3 ⟨rfl, hb3⟩
  have HL_3 := Lib.hid (HL.out.next hb3); clear HL; have HL := HL_3; clear HL_3
  have HC_3 := Lib.hid (HC.out.next hb3); clear HC; have HC := HC_3; clear HC_3
  have HZ_3 := Lib.hid (HZ.out.next hb3); clear HZ; have HZ := HZ_3; clear HZ_3
  have HF_3 := Lib.hid (HF.out.next hb3); clear HF; have HF := HF_3; clear HF_3
  have HB3 := Lib.hid (HB2.out.trans (hb3.mono HB2.out.size)); clear hb3
  clear l0 l1 l2 c0 c1
  obtain ⟨l0, l1, l2, _⟩ := HL.out
  obtain ⟨q0, q1, q2, _⟩ := HZ.out
  have hf := HF.out.fr
  go_wp2
  obtain ⟨s0, s1, s2, s3, s4, s5⟩ := three_set (.string d) (.string (p ++ R)) (.int .i64 ((k : Int) + 1)) q0 q1 q2
  refine bodyPost_ret (v := .tuple #[.agg #[.string d, .string (p ++ R), .int .i64 ((k : Int) + 1)], .int .i64 0]) (by simp [results, Tryz.results57, go_sem, s0, s1, s2, s3, s4, s5]) rfl ⟨rfl, below_three' HB3.out _ _ _⟩

end Go.Proofs.YtbgmbanebmlghaaGreatDoor

