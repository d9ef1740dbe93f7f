/- Walks on texts: a log's records and whether it is valid, by the program. -/
import Derived.Test.YtfdhicojnbicgaaDoorTo
namespace Go.Proofs.YtfdhicojnbicgaaDoor
open Go.RowKit
set_option linter.unusedVariables false

def logOf (d p : ByteArray) (n : Int) : Tx.LogV := ⟨bs d, bs p, n⟩

/-- Whether one of the ends is at place x, as the program asks. -/
def hasEnd (r : List (Tx.Rec × Nat)) (x : Nat) : Bool := decide (x ∈ Tx.startsL r)

theorem starts_at (r : List (Tx.Rec × Nat)) {k : Nat} (h : k ≤ r.length) : (Value.int .i64 0 :: (endsL r).map (Value.int .i64))[k]? = some (.int .i64 ((Tx.total (r.take k) : Nat) : Int)) := by
  cases k with
  | zero => simp [Tx.total]
  | succ n =>
    rw [List.getElem?_cons_succ, List.getElem?_map]
    unfold endsL
    rw [List.getElem?_map]
    simp only [List.getElem?_range (show n < r.length by omega), Option.map_some]

def anyTo (r : List (Tx.Rec × Nat)) (x k : Nat) : Bool := (List.range k).any fun j => decide (Tx.total (r.take j) = x)
theorem anyTo_succ (r : List (Tx.Rec × Nat)) (x k : Nat) : anyTo r x (k + 1) = (anyTo r x k || decide (Tx.total (r.take k) = x)) := by
  unfold anyTo; rw [List.range_succ, List.any_append]; simp
theorem anyTo_all (r : List (Tx.Rec × Nat)) (x : Nat) : anyTo r x (r.length + 1) = hasEnd r x := by
  rw [Bool.eq_iff_iff]
  unfold anyTo hasEnd Tx.startsL
  simp

theorem okLog_eq (d p : ByteArray) (n : Int) : Tx.okLog (logOf d p n) = (hasEnd (Tx.rd 60 (bs (d ++ p))) d.size && decide (Tx.total (Tx.rd 60 (bs (d ++ p))) = (d ++ p).size) && decide (n = ((Tx.rd 60 (bs (d ++ p))).length : Int))) := by
  unfold Tx.okLog logOf hasEnd Tx.endOf Tx.recsOf
  simp only [← bs_add, bs_len, List.length_map]

def RecsEnd (w : World) (d p : ByteArray) (n : Int) (e : Ending) (w' : World) : Prop :=
  ∃ (a : Option Addr) (c : Nat), e = .returned (.tuple #[.slice a (Tx.rd 60 (bs (d ++ p))).length c, .bool (Tx.okLog (logOf d p n))]) ∧
    w'.ownsRow w.heap.size 27 2 (.slice a (Tx.rd 60 (bs (d ++ p))).length c) (Tx.rd 60 (bs (d ++ p))).length (flat encL ((Tx.rd 60 (bs (d ++ p))).map (·.1))) ∧ Below w.heap.size w w'

theorem own_celln {w : World} {base : Nat} {e : TypeId} {g : Nat} {n c : Nat} {xs : List Value} (h : w.ownsRow base e 1 (.slice (some ⟨g, 0, none⟩) n c) n xs) {i : Nat} {x : Value} (hx : xs[i]? = some x) : w.cell? ⟨g, i, none⟩ = some x := by
  obtain ⟨g', hg, hc, _⟩ := own_at h hx
  simp only [Option.some.injEq, Addr.mk.injEq, and_true] at hg
  rw [hg]; exact hc

theorem ret_sb {a : Option Addr} {n c : Nat} {x y : Bool} (h : x = y) : Ending.returned (.tuple #[.slice a n c, .bool x]) = .returned (.tuple #[.slice a n c, .bool y]) := by rw [h]

set_option maxRecDepth 100000 in
set_option maxHeartbeats 8000000 in
theorem records_any (d p : ByteArray) (n : Int) (w : World) (hd : d.size ≤ 1048576) (hp : p.size ≤ 1048576) (ht : Tab w) :
    Calls Tryd.prog 57 #[logV d p n] w (RecsEnd w d p n) := by
  have HT := Lib.hid ht; clear ht
  have HOK := Lib.hid (okLog_eq d p n)
  have hws : (d ++ p).size ≤ 2097152 := by rw [size_add]; omega
  have a1 := add_runs (P := Tryd.prog) (a := d) (b := p) (by omega) (by omega)
  obtain ⟨wh, hwh⟩ : ∃ x, x = d ++ p := ⟨_, rfl⟩
  have a2 : ∀ w, (Op.stringOp .add d p).run Tryd.prog w = .ok (.string wh) w := by rw [hwh]; exact a1
  rw [← hwh] at HOK hws
  have HWH := Lib.hid hwh
  clear a1 hwh
  have HR := Lib.hid (fun w ht => read_any wh w (by omega) ht)
  have h60 := Tx.rd_len 60 (bs wh)
  have hB : Below w.heap.size w (w.alloc (.cells #[.string d, .string p, .int .i64 n] 31)) := (Below.refl _ _).alloc (Nat.le_refl _) _
  have HBb := Lib.hid hB; clear hB
  unfold logV
  go_enter Tryd.func57, Tryd.ntmps57
  go_wp2_with fail
  refine (HR.out _ (HT.out.below HBb.out)).mono ?_
  rintro e w1 ⟨a1, a2', c1, c2, rfl, htwo, hb1⟩
  have HO := Lib.hid (show w1.ownsRow 0 3 1 _ _ _ from own_mono htwo.2 (Nat.zero_le _))
  have HOR := Lib.hid (show w1.ownsRow w.heap.size 27 2 _ _ _ from own_mono htwo.1 (by simp))
  have HB1 := Lib.hid (HBb.out.trans (hb1.mono HBb.out.size))
  have hz1 : w.heap.size < w1.heap.size := by have := hb1.size; simp at this; omega
  have hc0 : w1.cell? ⟨w.heap.size, 0, none⟩ = some (.string d) := (bcell hb1 (by simp)).trans (alloc_cell 0)
  have hc2 : w1.cell? ⟨w.heap.size, 2, none⟩ = some (.int .i64 n) := (bcell hb1 (by simp)).trans (alloc_cell 2)
  have HC0 := Lib.hid hc0; have HC2 := Lib.hid hc2
  clear hb1 htwo hc0 hc2
  have E0 := Lib.hid (own_lit (w := w1) (e := 3) (size := 1) #[.int .i64 0] 1 (by omega) rfl)
  have HO1 := Lib.hid (own_below HO.out (w' := w1.alloc (.cells #[.int .i64 0] 3)) (Nat.le_refl _) ((Below.refl _ _).alloc (Nat.le_refl _) _))
  have hle : w1.heap.size ≤ (w1.alloc (.cells #[.int .i64 0] 3)).heap.size := by simp
  obtain ⟨r, hr⟩ : ∃ r, r = Tx.rd 60 (bs wh) := ⟨_, rfl⟩
  rw [← hr] at HO1 h60 HOR HOK
  have HRR := Lib.hid hr
  rw [← hr]
  clear hr HO
  have hsm : 1 + r.length ≤ 1099511627776 := by omega
  go_wp2_with (at_builtin; refine wpList_appL slI rfl (.tmp 21) (.tmp 22) rfl rfl E0.out rfl HO1.out (by simp [Value.oneCell']) hsm hle ?_; intro v' w2 hown2 hg2 ht2; obtain ⟨a', c', rfl⟩ := own_slice hown2; obtain ⟨g, rfl, _, _, _⟩ := own_at hown2 (i := 0) rfl; have HS := Lib.hid (fun k (hk : k ≤ r.length) => own_celln hown2 (starts_at r hk)); have hb2 : Below w1.heap.size w1 w2 := below_app ((Below.refl _ _).alloc (Nat.le_refl _) _) hle E0.out (Nat.le_refl _) hg2; have hd0 := (bcell hb2 hz1).trans HC0.out; have hd2 := (bcell hb2 hz1).trans HC2.out; have HB2 := Lib.hid (HB1.out.trans (hb2.mono HB1.out.size)); have HOR2 := Lib.hid (own_below HOR.out (Nat.le_refl _) hb2); clear hown2 hg2 ht2 hb2)
  clear HT HR HBb HB1 HO1 HOR E0 hle HC0 HC2 hz1
  go_loop [8, 26] (fun q i => ∃ k : Nat, k ≤ r.length + 1 ∧ i = .int .i64 k ∧ q = .bool (anyTo r d.size k)) (fun _ i => r.length + 1 - (intOf i).toNat)
  case atStart => exact ⟨0, by omega, rfl, rfl⟩
  case round =>
    obtain ⟨k, hk, rfl, rfl⟩ := hrel
    by_cases hlt : k < r.length + 1
    · have hcell := HS.out k (by omega)
      have HN := Lib.hid (anyTo_succ r d.size k)
      have heq : (((Tx.total (r.take k) : Nat) : Int) == (d.size : Int)) = decide (Tx.total (r.take k) = d.size) := by
        rw [Bool.eq_iff_iff]; simp; omega
      generalize Tx.total (r.take k) = x at hcell HN heq
      generalize decide (x = d.size) = y at HN heq
      cases hq : anyTo r d.size k
      all_goals rw [hq] at HN
      all_goals clear hq
      all_goals
        go_wp2
        go_round
        case rel => exact ⟨k + 1, by omega, by go_num, by rw [HN.out]; simp⟩
        case measure => simp [intOf]; omega
    · obtain rfl : k = r.length + 1 := by omega
      have hcell := HS.out r.length (Nat.le_refl _)
      rw [List.take_length] at hcell
      rw [anyTo_all]
      have h1 : (((Tx.total r : Nat) : Int) == (wh.size : Int)) = decide (Tx.total r = wh.size) := by
        rw [Bool.eq_iff_iff]; simp; omega
      have h2 : (n == (r.length : Int)) = decide (n = (r.length : Int)) := by
        rw [Bool.eq_iff_iff]; simp
      generalize Tx.total r = x at hcell h1 HOK
      generalize hasEnd r d.size = q at HOK
      have HRW := Lib.hid HWH.out
      cases q
      case false =>
        go_wp2
        go_quiet (fail)
        go_wp2
        go_ret2
        refine ⟨a1, c1, ?_, ?_, ?_⟩
        · rw [← HRW.out, ← HRR.out]; exact ret_sb HOK.out.symm
        · rw [← HRW.out, ← HRR.out]; exact HOR2.out
        · exact below_drewN HB2.out _
      have w1' : IntKind.i64.wrap (1 + (r.length : Int) - 1) = (r.length : Int) := by rw [show 1 + (r.length : Int) - 1 = (r.length : Int) by omega]; exact IntWalk.i64_in _ (by omega)
      have w2' : 1 + (r.length : Int) - 1 = (r.length : Int) := by omega
      generalize decide (x = wh.size) = y1 at h1 HOK
      generalize decide (n = (r.length : Int)) = y2 at h2 HOK
      cases y1
      case false =>
        go_wp2
        go_quiet (fail)
        go_wp2
        go_ret2
        refine ⟨a1, c1, ?_, ?_, ?_⟩
        · rw [← HRW.out, ← HRR.out]; exact ret_sb HOK.out.symm
        · rw [← HRW.out, ← HRR.out]; exact HOR2.out
        · exact below_drewN HB2.out _
      go_wp2
      go_quiet (fail)
      go_wp2
      go_ret2
      refine ⟨a1, c1, ?_, ?_, ?_⟩
      · rw [← HRW.out, ← HRR.out]; refine ret_sb ?_; rw [HOK.out]; rfl
      · rw [← HRW.out, ← HRR.out]; exact HOR2.out
      · exact below_drewN HB2.out _

end Go.Proofs.YtfdhicojnbicgaaDoor
