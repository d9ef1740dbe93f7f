/- Several texts in one: lemmas and walks of the functions that the laws reach. -/
import Derived.Test.YtoebegdepnigbaaDoorY5
import Derived.Test.YtoebegdepnigbaaDoorY4
import Derived.Deep.RegionHeld3
import Derived.Test.YtoebegdepnigbaaDoorY3
import Derived.Deep.AppendLies
import Derived.Deep.DrawnRows

/- Walks on texts: a log's records and whether it is valid, by the program. -/
namespace Go.Proofs.YtoebegdepnigbaaDoor
open Go.RowKit
set_option linter.unusedVariables false

def logOf (d p : ByteArray) (n : Int) : Tx.LogV := ⟨bs d, bs p, n⟩

/-- Whether one of the ends is at place x, as the program asks. -/
def hasEnd (r : List (Tx.Rec × Nat)) (x : Nat) : Bool := decide (x ∈ Tx.startsL r)

theorem starts_at (r : List (Tx.Rec × Nat)) {k : Nat} (h : k ≤ r.length) : (Value.int .i64 0 :: (endsL r).map (Value.int .i64))[k]? = some (.int .i64 ((Tx.total (r.take k) : Nat) : Int)) := by
  cases k with
  | zero => simp [Tx.total]
  | succ n =>
    rw [List.getElem?_cons_succ, List.getElem?_map]
    unfold endsL
    rw [List.getElem?_map]
    simp only [List.getElem?_range (show n < r.length by omega), Option.map_some]

def anyTo (r : List (Tx.Rec × Nat)) (x k : Nat) : Bool := (List.range k).any fun j => decide (Tx.total (r.take j) = x)
theorem anyTo_succ (r : List (Tx.Rec × Nat)) (x k : Nat) : anyTo r x (k + 1) = (anyTo r x k || decide (Tx.total (r.take k) = x)) := by
  unfold anyTo; rw [List.range_succ, List.any_append]; simp
theorem anyTo_all (r : List (Tx.Rec × Nat)) (x : Nat) : anyTo r x (r.length + 1) = hasEnd r x := by
  rw [Bool.eq_iff_iff]
  unfold anyTo hasEnd Tx.startsL
  simp

theorem okLog_eq (d p : ByteArray) (n : Int) : Tx.okLog (logOf d p n) = (hasEnd (Tx.rd 60 (bs (d ++ p))) d.size && decide (Tx.total (Tx.rd 60 (bs (d ++ p))) = (d ++ p).size) && decide (n = ((Tx.rd 60 (bs (d ++ p))).length : Int))) := by
  unfold Tx.okLog logOf hasEnd Tx.endOf Tx.recsOf
  simp only [← bs_add, bs_len, List.length_map]

def RecsEnd (w : World) (d p : ByteArray) (n : Int) (e : Ending) (w' : World) : Prop :=
  ∃ (a : Option Addr) (c : Nat), e = .returned (.tuple #[.slice a (Tx.rd 60 (bs (d ++ p))).length c, .bool (Tx.okLog (logOf d p n))]) ∧
    w'.ownsRow w.heap.size 112 2 (.slice a (Tx.rd 60 (bs (d ++ p))).length c) (Tx.rd 60 (bs (d ++ p))).length (flat encL ((Tx.rd 60 (bs (d ++ p))).map (·.1))) ∧ Below w.heap.size w w'

theorem own_celln {w : World} {base : Nat} {e : TypeId} {g : Nat} {n c : Nat} {xs : List Value} (h : w.ownsRow base e 1 (.slice (some ⟨g, 0, none⟩) n c) n xs) {i : Nat} {x : Value} (hx : xs[i]? = some x) : w.cell? ⟨g, i, none⟩ = some x := by
  obtain ⟨g', hg, hc, _⟩ := own_at h hx
  simp only [Option.some.injEq, Addr.mk.injEq, and_true] at hg
  rw [hg]; exact hc

theorem ret_sb {a : Option Addr} {n c : Nat} {x y : Bool} (h : x = y) : Ending.returned (.tuple #[.slice a n c, .bool x]) = .returned (.tuple #[.slice a n c, .bool y]) := by rw [h]

set_option maxRecDepth 100000 in
set_option maxHeartbeats 8000000 in
theorem records_any (d p : ByteArray) (n : Int) (w : World) (hd : d.size ≤ 1048576) (hp : p.size ≤ 1048576) (ht : Tab w) :
    Calls Tryd.prog 73 #[logV d p n] w (RecsEnd w d p n) := by
  have HT := Lib.hid ht; clear ht
  have HOK := Lib.hid (okLog_eq d p n)
  have hws : (d ++ p).size ≤ 2097152 := by rw [size_add]; omega
  have a1 := add_runs (P := Tryd.prog) (a := d) (b := p) (by omega) (by omega)
  obtain ⟨wh, hwh⟩ : ∃ x, x = d ++ p := ⟨_, rfl⟩
  have a2 : ∀ w, (Op.stringOp .add d p).run Tryd.prog w = .ok (.string wh) w := by rw [hwh]; exact a1
  rw [← hwh] at HOK hws
  have HWH := Lib.hid hwh
  clear a1 hwh
  have HR := Lib.hid (fun w ht => read_any wh w (by omega) ht)
  have h60 := Tx.rd_len 60 (bs wh)
  have hB : Below w.heap.size w (w.alloc (.cells #[.string d, .string p, .int .i64 n] 39)) := (Below.refl _ _).alloc (Nat.le_refl _) _
  have HBb := Lib.hid hB; clear hB
  unfold logV
  go_enter Tryd.func73, Tryd.ntmps73
  go_wp2_with fail
  refine (HR.out _ (HT.out.below HBb.out)).mono ?_
  rintro e w1 ⟨a1, a2', c1, c2, rfl, htwo, hb1⟩
  have HO := Lib.hid (show w1.ownsRow 0 3 1 _ _ _ from own_mono htwo.2 (Nat.zero_le _))
  have HOR := Lib.hid (show w1.ownsRow w.heap.size 112 2 _ _ _ from own_mono htwo.1 (by simp))
  have HB1 := Lib.hid (HBb.out.trans (hb1.mono HBb.out.size))
  have hz1 : w.heap.size < w1.heap.size := by have := hb1.size; simp at this; omega
  have hc0 : w1.cell? ⟨w.heap.size, 0, none⟩ = some (.string d) := (bcell hb1 (by simp)).trans (alloc_cell 0)
  have hc2 : w1.cell? ⟨w.heap.size, 2, none⟩ = some (.int .i64 n) := (bcell hb1 (by simp)).trans (alloc_cell 2)
  have HC0 := Lib.hid hc0; have HC2 := Lib.hid hc2
  clear hb1 htwo hc0 hc2
  have E0 := Lib.hid (own_lit (w := w1) (e := 3) (size := 1) #[.int .i64 0] 1 (by omega) rfl)
  have HO1 := Lib.hid (own_below HO.out (w' := w1.alloc (.cells #[.int .i64 0] 3)) (Nat.le_refl _) ((Below.refl _ _).alloc (Nat.le_refl _) _))
  have hle : w1.heap.size ≤ (w1.alloc (.cells #[.int .i64 0] 3)).heap.size := by simp
  obtain ⟨r, hr⟩ : ∃ r, r = Tx.rd 60 (bs wh) := ⟨_, rfl⟩
  rw [← hr] at HO1 h60 HOR HOK
  have HRR := Lib.hid hr
  rw [← hr]
  clear hr HO
  have hsm : 1 + r.length ≤ 1099511627776 := by omega
  go_wp2_with (at_builtin; refine wpList_appL slI rfl (.tmp 21) (.tmp 22) rfl rfl E0.out rfl HO1.out (by simp [Value.oneCell']) hsm hle ?_; intro v' w2 hown2 hg2 ht2; obtain ⟨a', c', rfl⟩ := own_slice hown2; obtain ⟨g, rfl, _, _, _⟩ := own_at hown2 (i := 0) rfl; have HS := Lib.hid (fun k (hk : k ≤ r.length) => own_celln hown2 (starts_at r hk)); have hb2 : Below w1.heap.size w1 w2 := below_app ((Below.refl _ _).alloc (Nat.le_refl _) _) hle E0.out (Nat.le_refl _) hg2; have hd0 := (bcell hb2 hz1).trans HC0.out; have hd2 := (bcell hb2 hz1).trans HC2.out; have HB2 := Lib.hid (HB1.out.trans (hb2.mono HB1.out.size)); have HOR2 := Lib.hid (own_below HOR.out (Nat.le_refl _) hb2); clear hown2 hg2 ht2 hb2)
  clear HT HR HBb HB1 HO1 HOR E0 hle HC0 HC2 hz1
  go_loop [8, 26] (fun q i => ∃ k : Nat, k ≤ r.length + 1 ∧ i = .int .i64 k ∧ q = .bool (anyTo r d.size k)) (fun _ i => r.length + 1 - (intOf i).toNat)
  case atStart => exact ⟨0, by omega, rfl, rfl⟩
  case round =>
    obtain ⟨k, hk, rfl, rfl⟩ := hrel
    by_cases hlt : k < r.length + 1
    · have hcell := HS.out k (by omega)
      have HN := Lib.hid (anyTo_succ r d.size k)
      have heq : (((Tx.total (r.take k) : Nat) : Int) == (d.size : Int)) = decide (Tx.total (r.take k) = d.size) := by
        rw [Bool.eq_iff_iff]; simp; omega
      generalize Tx.total (r.take k) = x at hcell HN heq
      generalize decide (x = d.size) = y at HN heq
      cases hq : anyTo r d.size k
      all_goals rw [hq] at HN
      all_goals clear hq
      all_goals
        go_wp2
        go_round
        case rel => exact ⟨k + 1, by omega, by go_num, by rw [HN.out]; simp⟩
        case measure => simp [intOf]; omega
    · obtain rfl : k = r.length + 1 := by omega
      have hcell := HS.out r.length (Nat.le_refl _)
      rw [List.take_length] at hcell
      rw [anyTo_all]
      have h1 : (((Tx.total r : Nat) : Int) == (wh.size : Int)) = decide (Tx.total r = wh.size) := by
        rw [Bool.eq_iff_iff]; simp; omega
      have h2 : (n == (r.length : Int)) = decide (n = (r.length : Int)) := by
        rw [Bool.eq_iff_iff]; simp
      generalize Tx.total r = x at hcell h1 HOK
      generalize hasEnd r d.size = q at HOK
      have HRW := Lib.hid HWH.out
      cases q
      case false =>
        go_wp2
        go_quiet (fail)
        go_wp2
        go_ret2
        refine ⟨a1, c1, ?_, ?_, ?_⟩
        · rw [← HRW.out, ← HRR.out]; exact ret_sb HOK.out.symm
        · rw [← HRW.out, ← HRR.out]; exact HOR2.out
        · exact below_drewN HB2.out _
      have w1' : IntKind.i64.wrap (1 + (r.length : Int) - 1) = (r.length : Int) := by rw [show 1 + (r.length : Int) - 1 = (r.length : Int) by omega]; exact IntWalk.i64_in _ (by omega)
      have w2' : 1 + (r.length : Int) - 1 = (r.length : Int) := by omega
      generalize decide (x = wh.size) = y1 at h1 HOK
      generalize decide (n = (r.length : Int)) = y2 at h2 HOK
      cases y1
      case false =>
        go_wp2
        go_quiet (fail)
        go_wp2
        go_ret2
        refine ⟨a1, c1, ?_, ?_, ?_⟩
        · rw [← HRW.out, ← HRR.out]; exact ret_sb HOK.out.symm
        · rw [← HRW.out, ← HRR.out]; exact HOR2.out
        · exact below_drewN HB2.out _
      go_wp2
      go_quiet (fail)
      go_wp2
      go_ret2
      refine ⟨a1, c1, ?_, ?_, ?_⟩
      · rw [← HRW.out, ← HRR.out]; refine ret_sb ?_; rw [HOK.out]; rfl
      · rw [← HRW.out, ← HRR.out]; exact HOR2.out
      · exact below_drewN HB2.out _

end Go.Proofs.YtoebegdepnigbaaDoor

/- Walks of the laws' own functions on logs. -/
namespace Go.Proofs.YtoebegdepnigbaaDoor
open Go.RowKit
set_option linter.unusedVariables false

set_option maxHeartbeats 400000 in
theorem eqLog_same (d p : ByteArray) (n : Int) (w : World) :
    Calls Tryd.prog 43 #[logV d p n, logV d p n] w fun e w' => e = .returned (.bool true) ∧ Below w.heap.size w w' := by
  have h1 : (!(d.toList == d.toList)) = false := by simp
  have h2 : (!(p.toList == p.toList)) = false := by simp
  have h3 : (n != n) = false := by simp
  unfold logV
  go_enter Tryd.func43, Tryd.ntmps43
  go_wp2
  go_ret
  exact ⟨rfl, by (repeat (first | exact Below.refl _ _ | assumption | refine Below.setCell ?_ (by first | omega | (simp; done) | (simp; omega)) _ | refine Below.alloc ?_ (by first | omega | (simp; done) | (simp; omega)) _ | refine Below.drew ?_ | refine below_drewN ?_ _))⟩

set_option maxHeartbeats 400000 in
theorem toLog_any (d p : ByteArray) (n : Int) (w : World) :
    Calls Tryd.prog 40 #[logV d p n] w fun e w' => e = .returned (logV d p n) ∧ Below w.heap.size w w' := by
  unfold logV
  go_enter Tryd.func40, Tryd.ntmps40
  go_wp2
  refine bodyPost_ret (v := .agg #[.string d, .string p, .int .i64 n]) (by simp [results, Tryd.results40, go_sem]) rfl ⟨rfl, ?_⟩
  (repeat (first | exact Below.refl _ _ | assumption | refine Below.setCell ?_ (by first | omega | (simp; done) | (simp; omega)) _ | refine Below.alloc ?_ (by first | omega | (simp; done) | (simp; omega)) _ | refine Below.drew ?_ | refine below_drewN ?_ _))

set_option maxHeartbeats 400000 in
theorem szLog_yes (d p : ByteArray) (n l : Int) (w : World) (h0 : 0 ≤ l) (h1 : l ≤ 1048576) (h : (d.size : Int) + p.size ≤ l) :
    Calls Tryd.prog 38 #[logV d p n, .int .i64 l] w fun e w' => e = .returned (.int .i64 (l - d.size - p.size)) ∧ Below w.heap.size w w' := by
  unfold logV
  go_enter Tryd.func38, Tryd.ntmps38
  go_wp2
  go_ret
  exact ⟨rfl, by (repeat (first | exact Below.refl _ _ | assumption | refine Below.setCell ?_ (by first | omega | (simp; done) | (simp; omega)) _ | refine Below.alloc ?_ (by first | omega | (simp; done) | (simp; omega)) _ | refine Below.drew ?_ | refine below_drewN ?_ _))⟩

set_option maxHeartbeats 400000 in
theorem szLog_no (d p : ByteArray) (n l : Int) (w : World) (hd : d.size ≤ 9223372036854775807) (hp : p.size ≤ 9223372036854775807) (h0 : 0 ≤ l) (h1 : l ≤ 1048576) (h : l < (d.size : Int) + p.size) :
    Calls Tryd.prog 38 #[logV d p n, .int .i64 l] w fun e w' => e = .returned (.int .i64 (-1)) ∧ Below w.heap.size w w' := by
  unfold logV
  by_cases h2 : (d.size : Int) ≤ l
  all_goals
    go_enter Tryd.func38, Tryd.ntmps38
    go_wp2
    go_ret
    exact ⟨rfl, by (repeat (first | exact Below.refl _ _ | assumption | refine Below.setCell ?_ (by first | omega | (simp; done) | (simp; omega)) _ | refine Below.alloc ?_ (by first | omega | (simp; done) | (simp; omega)) _ | refine Below.drew ?_ | refine below_drewN ?_ _))⟩

end Go.Proofs.YtoebegdepnigbaaDoor

/- Walks on texts: whether a log is valid, by both. -/
namespace Go.Proofs.YtoebegdepnigbaaDoor
open Go.RowKit
set_option linter.unusedVariables false

set_option maxHeartbeats 1000000 in
theorem isValidLog_any (d p : ByteArray) (n : Int) (w : World) (hd : d.size ≤ 1048576) (hp : p.size ≤ 1048576) (ht : Tab w) :
    Calls Tryd.prog 59 #[logV d p n] w fun e w' => e = .returned (.bool (Tx.okLog (logOf d p n))) ∧ Below w.heap.size w w' := by
  have HT := Lib.hid ht; clear ht
  have HR := Lib.hid (fun w ht => records_any d p n w hd hp ht)
  have hB : Below w.heap.size w (w.alloc (.cells #[.string d, .string p, .int .i64 n] 39)) := (Below.refl _ _).alloc (Nat.le_refl _) _
  have HBb := Lib.hid hB; clear hB
  unfold logV at *
  go_enter Tryd.func59, Tryd.ntmps59
  go_wp2_with fail
  refine (HR.out _ (HT.out.below HBb.out)).mono ?_
  rintro e w1 ⟨a, c, rfl, _, hb1⟩
  have HB1 := Lib.hid (HBb.out.trans (hb1.mono HBb.out.size)); clear hb1
  go_wp2
  go_ret
  exact ⟨rfl, HB1.out⟩

theorem okLogS_eq' (d p : ByteArray) (n : Int) : Tx.okLog (logOf d p n) = (decide (d.size + p.size ≤ 30000) && (decide (Tx.total (Tx.rd 60 (bs (d ++ p))) = d.size + p.size) && decide (Tx.total (Tx.rd 60 (bs d)) = d.size) && decide (((Tx.rd 60 (bs (d ++ p))).length : Int) = n))) := by
  rw [← Tx.okLogS_eq]
  unfold Tx.okLogS logOf Tx.endOf Tx.recsOf
  simp only [← bs_add, bs_len, List.length_map]

set_option maxRecDepth 100000 in
set_option maxHeartbeats 4000000 in
theorem l25Log_any (d p : ByteArray) (n : Int) (w : World) (hd : d.size ≤ 1048576) (hp : p.size ≤ 1048576) :
    Calls Tryd.prog 58 #[logV d p n] w fun e w' => e = .returned (.bool (Tx.okLog (logOf d p n))) ∧ Below w.heap.size w w' := by
  have HOK := Lib.hid (okLogS_eq' d p n)
  have hB : Below w.heap.size w (w.alloc (.cells #[.string d, .string p, .int .i64 n] 39)) := (Below.refl _ _).alloc (Nat.le_refl _) _
  have HBb := Lib.hid hB; clear hB
  unfold logV
  by_cases hbig : d.size + p.size ≤ 30000
  case neg =>
    rw [decide_eq_false hbig] at HOK
    go_enter Tryd.func58, Tryd.ntmps58
    go_wp2_with fail
    go_ret
    exact ⟨ret_bool HOK.out.symm, HBb.out⟩
  rw [decide_eq_true hbig] at HOK
  have hws : (d ++ p).size = d.size + p.size := size_add d p
  obtain ⟨wh, hwh⟩ : ∃ x, x = d ++ p := ⟨_, rfl⟩
  have a2 : ∀ w, (Op.stringOp .add d p).run Tryd.prog w = .ok (.string wh) w := by rw [hwh]; exact add_runs (by omega) (by omega)
  rw [← hwh] at HOK hws
  have hwsz : wh.size ≤ 30000 := by omega
  clear hwh hws
  have H1 := Lib.hid (fun w => l25Open_any wh w (by omega))
  have H2 := Lib.hid (fun w => l25Open_any d w (by omega))
  have hc0 : (w.alloc (.cells #[.string d, .string p, .int .i64 n] 39)).cell? ⟨w.heap.size, 0, none⟩ = some (.string d) := alloc_cell 0
  have hc1 : (w.alloc (.cells #[.string d, .string p, .int .i64 n] 39)).cell? ⟨w.heap.size, 1, none⟩ = some (.string p) := alloc_cell 1
  have hc2 : (w.alloc (.cells #[.string d, .string p, .int .i64 n] 39)).cell? ⟨w.heap.size, 2, none⟩ = some (.int .i64 n) := alloc_cell 2
  have HC0 := Lib.hid hc0; have HC1 := Lib.hid hc1; have HC2 := Lib.hid hc2; clear hc0 hc1 hc2
  have e1 := Tx.rd_len 60 (bs wh)
  have e2 := big_end (s := wh)
  have e3 := big_end (s := d)
  go_enter Tryd.func58, Tryd.ntmps58
  go_wp2_with fail
  refine (H1.out _).mono ?_
  rintro e w1 ⟨a, c, rfl, _, hb1⟩
  have g0 : w1.cell? ⟨w.heap.size, 0, none⟩ = some (.string d) := (bcell hb1 (by simp)).trans HC0.out
  have g1 : w1.cell? ⟨w.heap.size, 1, none⟩ = some (.string p) := (bcell hb1 (by simp)).trans HC1.out
  have g2 : w1.cell? ⟨w.heap.size, 2, none⟩ = some (.int .i64 n) := (bcell hb1 (by simp)).trans HC2.out
  have hz1 : w.heap.size < w1.heap.size := by have := hb1.size; simp at this; omega
  have HB1 := Lib.hid (HBb.out.trans (hb1.mono HBb.out.size)); clear hb1
  go_wp2_with fail
  refine (H2.out _).mono ?_
  rintro e w2 ⟨a', c', rfl, _, hb2⟩
  have k0 : w2.cell? ⟨w.heap.size, 0, none⟩ = some (.string d) := (bcell hb2 hz1).trans g0
  have k1 : w2.cell? ⟨w.heap.size, 1, none⟩ = some (.string p) := (bcell hb2 hz1).trans g1
  have k2 : w2.cell? ⟨w.heap.size, 2, none⟩ = some (.int .i64 n) := (bcell hb2 hz1).trans g2
  have HB2 := Lib.hid (HB1.out.trans (hb2.mono HB1.out.size)); clear hb2 g0 g1 g2
  have q1 : (((Tx.total (Tx.rd 60 (bs wh)) : Nat) : Int) == (d.size : Int) + (p.size : Int)) = decide (Tx.total (Tx.rd 60 (bs wh)) = d.size + p.size) := by
    rw [Bool.eq_iff_iff]; simp; omega
  have q2 : (((Tx.total (Tx.rd 60 (bs d)) : Nat) : Int) == (d.size : Int)) = decide (Tx.total (Tx.rd 60 (bs d)) = d.size) := by
    rw [Bool.eq_iff_iff]; simp; omega
  have q3 : (((Tx.rd 60 (bs wh)).length : Int) == n) = decide (((Tx.rd 60 (bs wh)).length : Int) = n) := by
    rw [Bool.eq_iff_iff]; simp
  generalize (Tx.rd 60 (bs wh)).length = N at *
  generalize Tx.total (Tx.rd 60 (bs wh)) = E at *
  generalize Tx.total (Tx.rd 60 (bs d)) = F at *
  generalize decide (E = d.size + p.size) = y1 at q1 HOK
  generalize decide (F = d.size) = y2 at q2 HOK
  generalize decide ((N : Int) = n) = y3 at q3 HOK
  cases y1 <;> cases y2
  all_goals
    go_wp2
    go_ret
    exact ⟨ret_bool (by rw [HOK.out]; simp), HB2.out⟩

end Go.Proofs.YtoebegdepnigbaaDoor

/- Structs of three cells that stand. -/
namespace Go.Proofs.YtoebegdepnigbaaDoor
open Go.RowKit
set_option linter.unusedVariables false

theorem log_cells {w : World} {d p : ByteArray} {n : Int} {t : TypeId} : (w.alloc (.cells #[.string d, .string p, .int .i64 n] t)).cell? ⟨w.heap.size, 0, none⟩ = some (.string d) ∧ (w.alloc (.cells #[.string d, .string p, .int .i64 n] t)).cell? ⟨w.heap.size, 1, none⟩ = some (.string p) ∧ (w.alloc (.cells #[.string d, .string p, .int .i64 n] t)).cell? ⟨w.heap.size, 2, none⟩ = some (.int .i64 n) := ⟨alloc_cell 0, alloc_cell 1, alloc_cell 2⟩
/-- A struct of three cells that still stands. -/
structure L3 (w : World) (B : Nat) (x y z : Value) : Prop where
  c0 : w.cell? ⟨B, 0, none⟩ = some x
  c1 : w.cell? ⟨B, 1, none⟩ = some y
  c2 : w.cell? ⟨B, 2, none⟩ = some z
  lt : B < w.heap.size
theorem L3.next {w w' : World} {B : Nat} {x y z : Value} (h : L3 w B x y z) (hb : Below w.heap.size w w') : L3 w' B x y z := ⟨(bcell hb h.lt).trans h.c0, (bcell hb h.lt).trans h.c1, (bcell hb h.lt).trans h.c2, Nat.lt_of_lt_of_le h.lt hb.size⟩
theorem L3.mk' (w : World) (x y z : Value) (t : TypeId) : L3 (w.alloc (.cells #[x, y, z] t)) w.heap.size x y z := ⟨alloc_cell 0, alloc_cell 1, alloc_cell 2, by simp⟩
theorem below_new (w : World) (o : Obj) : Below w.heap.size w (w.alloc o) := (Below.refl _ _).alloc (Nat.le_refl _) _

end Go.Proofs.YtoebegdepnigbaaDoor

/- Walks: valid consoles, by both; consoles of the laws. -/
namespace Go.Proofs.YtoebegdepnigbaaDoor
open Go.RowKit
set_option linter.unusedVariables false

def conV (a : Option Addr) (l c : Nat) (d p : ByteArray) (n : Int) : Value := .agg #[.slice a l c, .string d, .string p, .int .i64 n]
structure L4 (w : World) (B : Nat) (x y z v : Value) : Prop where
  c0 : w.cell? ⟨B, 0, none⟩ = some x
  c1 : w.cell? ⟨B, 1, none⟩ = some y
  c2 : w.cell? ⟨B, 2, none⟩ = some z
  c3 : w.cell? ⟨B, 3, none⟩ = some v
  lt : B < w.heap.size
theorem L4.next {w w' : World} {B : Nat} {x y z v : Value} (h : L4 w B x y z v) (hb : Below w.heap.size w w') : L4 w' B x y z v := ⟨(bcell hb h.lt).trans h.c0, (bcell hb h.lt).trans h.c1, (bcell hb h.lt).trans h.c2, (bcell hb h.lt).trans h.c3, Nat.lt_of_lt_of_le h.lt hb.size⟩
theorem L4.mk' (w : World) (x y z v : Value) (t : TypeId) : L4 (w.alloc (.cells #[x, y, z, v] t)) w.heap.size x y z v := ⟨alloc_cell 0, alloc_cell 1, alloc_cell 2, alloc_cell 3, by simp⟩
theorem L4.drew {w : World} {B : Nat} {x y z v : Value} (h : L4 w B x y z v) : L4 w.drew B x y z v := ⟨h.1, h.2, h.3, h.4, h.5⟩

set_option maxHeartbeats 1000000 in
theorem isValidConsole_any (a : Option Addr) (c : Nat) (rs : List (Int × Int)) (d p : ByteArray) (n : Int) (w : World) (hbig : rs.length ≤ 9223372036854775807) (hd : d.size ≤ 1048576) (hp : p.size ≤ 1048576) (ht : Tab w) (h : RecsAt w a rs) :
    Calls Tryd.prog 41 #[conV a rs.length c d p n] w fun e w' => e = .returned (.bool (okRecs rs && Tx.okLog (logOf d p n))) ∧ Below w.heap.size w w' := by
  have HB0 := Lib.hid (below_new w (.cells #[.slice a rs.length c, .string d, .string p, .int .i64 n] 41))
  have HL0 := Lib.hid (L4.mk' w (.slice a rs.length c) (.string d) (.string p) (.int .i64 n) 41)
  have HR := Lib.hid (isValidRecords_any a c rs _ hbig (h.below (Nat.le_refl _) HB0.out))
  have HI := Lib.hid (fun w ht => isValidLog_any d p n w hd hp ht)
  have HT := Lib.hid (Tab.below ht HB0.out)
  clear h ht
  unfold conV logV at *
  cases hq : okRecs rs
  all_goals rw [hq] at HR
  all_goals clear hq
  case false =>
    go_enter Tryd.func41, Tryd.ntmps41
    go_wp2_with fail
    refine HR.out.mono ?_
    rintro e w1 ⟨rfl, hb⟩
    have HB1 := Lib.hid (HB0.out.trans (hb.mono HB0.out.size))
    clear hb
    go_wp2
    go_ret
    exact ⟨rfl, HB1.out⟩
  go_enter Tryd.func41, Tryd.ntmps41
  go_wp2_with fail
  refine HR.out.mono ?_
  rintro e w1 ⟨rfl, hb⟩
  have HB1 := Lib.hid (HB0.out.trans (hb.mono HB0.out.size))
  have HT1 := Lib.hid (HT.out.below hb)
  obtain ⟨c0, c1, c2, c3, _⟩ := HL0.out.next hb
  clear hb
  go_wp2_with fail
  refine (HI.out _ HT1.out).mono ?_
  rintro e w2 ⟨rfl, hb⟩
  have HB2 := Lib.hid (HB1.out.trans (hb.mono HB1.out.size))
  clear hb c0 c1 c2 c3
  go_wp2
  go_ret
  exact ⟨rfl, HB2.out⟩

set_option maxHeartbeats 1000000 in
theorem l26Good_any (a : Option Addr) (c : Nat) (rs : List (Int × Int)) (d p : ByteArray) (n : Int) (w : World) (hbig : rs.length ≤ 9223372036854775807) (hd : d.size ≤ 1048576) (hp : p.size ≤ 1048576) (h : RecsAt w a rs) :
    Calls Tryd.prog 39 #[conV a rs.length c d p n] w fun e w' => e = .returned (.bool (okRecs rs && Tx.okLog (logOf d p n))) ∧ Below w.heap.size w w' := by
  have HB0 := Lib.hid (below_new w (.cells #[.slice a rs.length c, .string d, .string p, .int .i64 n] 41))
  have HL0 := Lib.hid (L4.mk' w (.slice a rs.length c) (.string d) (.string p) (.int .i64 n) 41)
  have HR := Lib.hid (l2Records_any a c rs _ hbig (h.below (Nat.le_refl _) HB0.out))
  have HI := Lib.hid (fun w => l25Log_any d p n w hd hp)
  clear h
  unfold conV logV at *
  cases hq : okRecs rs
  all_goals rw [hq] at HR
  all_goals clear hq
  case false =>
    go_enter Tryd.func39, Tryd.ntmps39
    go_wp2_with fail
    refine HR.out.mono ?_
    rintro e w1 ⟨rfl, rfl⟩
    go_wp2
    go_ret
    exact ⟨rfl, HB0.out⟩
  go_enter Tryd.func39, Tryd.ntmps39
  go_wp2_with fail
  refine HR.out.mono ?_
  rintro e w1 ⟨rfl, rfl⟩
  obtain ⟨c0, c1, c2, c3, _⟩ := HL0.out
  go_wp2_with fail
  refine (HI.out _).mono ?_
  rintro e w2 ⟨rfl, hb⟩
  have HB2 := Lib.hid (HB0.out.trans (hb.mono HB0.out.size))
  clear hb c0 c1 c2 c3
  go_wp2
  go_ret
  exact ⟨rfl, HB2.out⟩

set_option maxHeartbeats 1000000 in
theorem szConsole_yes (a : Option Addr) (c : Nat) (rs : List (Int × Int)) (d p : ByteArray) (n l : Int) (w : World) (h0 : 0 ≤ l) (h1 : l ≤ 1048576) (h : (rs.length : Int) + d.size + p.size ≤ l) :
    Calls Tryd.prog 13 #[conV a rs.length c d p n, .int .i64 l] w fun e w' => e = .returned (.int .i64 (l - rs.length - d.size - p.size)) ∧ Below w.heap.size w w' := by
  have HB0 := Lib.hid (below_new w (.cells #[.slice a rs.length c, .string d, .string p, .int .i64 n] 36))
  have HL0 := Lib.hid (L4.mk' w (.slice a rs.length c) (.string d) (.string p) (.int .i64 n) 36)
  have HR := Lib.hid (fun w => szRecordS_yes a c rs l w (by omega) h1 (by omega))
  have HI := Lib.hid (fun w => szLog_yes d p n (l - rs.length) w (by omega) (by omega) (by omega))
  have q1 : 0 ≤ l - (rs.length : Int) := by omega
  have q2 : 0 ≤ l - (rs.length : Int) - d.size - p.size := by omega
  unfold conV logV at *
  go_enter Tryd.func13, Tryd.ntmps13
  go_wp2_with fail
  refine (HR.out _).mono ?_
  rintro e w1 ⟨rfl, rfl⟩
  obtain ⟨c0, c1, c2, c3, _⟩ := HL0.out
  go_wp2_with fail
  refine (HI.out _).mono ?_
  rintro e w2 ⟨rfl, hb⟩
  have HB2 := Lib.hid (HB0.out.trans (hb.mono HB0.out.size))
  clear hb c0 c1 c2 c3
  go_wp2
  go_ret
  exact ⟨rfl, HB2.out⟩

set_option maxHeartbeats 1000000 in
theorem szConsole_no (a : Option Addr) (c : Nat) (rs : List (Int × Int)) (d p : ByteArray) (n l : Int) (w : World) (hl : rs.length ≤ 9223372036854775807) (hd : d.size ≤ 9223372036854775807) (hp : p.size ≤ 9223372036854775807) (h0 : 0 ≤ l) (h1 : l ≤ 1048576) (h : l < (rs.length : Int) + d.size + p.size) :
    Calls Tryd.prog 13 #[conV a rs.length c d p n, .int .i64 l] w fun e w' => e = .returned (.int .i64 (-1)) ∧ Below w.heap.size w w' := by
  have HB0 := Lib.hid (below_new w (.cells #[.slice a rs.length c, .string d, .string p, .int .i64 n] 36))
  have HL0 := Lib.hid (L4.mk' w (.slice a rs.length c) (.string d) (.string p) (.int .i64 n) 36)
  by_cases hr : (rs.length : Int) ≤ l
  case neg =>
    have HR := Lib.hid (fun w => szRecordS_no a c rs l w hl h0 h1 (by omega))
    unfold conV at *
    go_enter Tryd.func13, Tryd.ntmps13
    go_wp2_with fail
    refine (HR.out _).mono ?_
    rintro e w1 ⟨rfl, rfl⟩
    go_wp2
    go_ret
    exact ⟨rfl, HB0.out⟩
  have HR := Lib.hid (fun w => szRecordS_yes a c rs l w (by omega) h1 (by omega))
  have HI := Lib.hid (fun w => szLog_no d p n (l - rs.length) w hd hp (by omega) (by omega) (by omega))
  have q1 : 0 ≤ l - (rs.length : Int) := by omega
  unfold conV logV at *
  go_enter Tryd.func13, Tryd.ntmps13
  go_wp2_with fail
  refine (HR.out _).mono ?_
  rintro e w1 ⟨rfl, rfl⟩
  obtain ⟨c0, c1, c2, c3, _⟩ := HL0.out
  go_wp2_with fail
  refine (HI.out _).mono ?_
  rintro e w2 ⟨rfl, hb⟩
  have HB2 := Lib.hid (HB0.out.trans (hb.mono HB0.out.size))
  clear hb c0 c1 c2 c3
  go_wp2
  go_ret
  exact ⟨rfl, HB2.out⟩

/-- A fresh struct of four cells. -/
structure Z4 (w : World) (g : Nat) (x y z v : Value) : Prop where
  l4 : L4 w g x y z v
  fr : ∀ o, w.frozen? ⟨g, o, none⟩ = false
theorem Z4.next {w w' : World} {g : Nat} {x y z v : Value} (h : Z4 w g x y z v) (hb : Below w.heap.size w w') : Z4 w' g x y z v := ⟨h.1.next hb, fun o => ((stands hb).2 _ _ h.1.lt).trans (h.2 o)⟩
theorem Z4.mk' (w : World) (x y z v : Value) (t : TypeId) : Z4 (w.alloc (.cells #[x, y, z, v] t)) w.heap.size x y z v := ⟨L4.mk' _ _ _ _ _ _, fun o => by simp [go_sem]⟩

theorem frozen_set4 (w : World) (p q : Addr) (v : Value) : (w.setCell p v).frozen? q = w.frozen? q := by simp [go_sem]
theorem setc_grown (w : World) (g j : Nat) (u : Value) : w.grownBy (w.setCell ⟨g, j, none⟩ u) (some g) :=
  ⟨rfl, rfl, rfl, by simp [World.setCell], fun q _ hq => by
    have : ((w.setCell ⟨g, j, none⟩ u).heap[q]? = w.heap[q]?) := by
      have hb : Below (g + 1) w w := Below.refl _ _
      unfold World.setCell
      simp only
      rw [Array.getElem?_modify]
      rw [if_neg (fun e => hq (by rw [e]))]
    exact this⟩
theorem own_setc {w : World} {base : Nat} {e : TypeId} {size G n c : Nat} {xs : List Value} (h : w.ownsRow base e size (.slice (some ⟨G, 0, none⟩) n c) n xs) {g j : Nat} (u : Value) (hne : G ≠ g) : (w.setCell ⟨g, j, none⟩ u).ownsRow base e size (.slice (some ⟨G, 0, none⟩) n c) n xs :=
  own_other h (setc_grown w g j u) (fun k hk e => hne ((Option.some.inj hk).trans (Option.some.inj e).symm))
theorem Z4.far {w : World} {g : Nat} {x y z v : Value} (h : Z4 w g x y z v) {p : Addr} (s : Value) (hp : p.block ≠ g) : Z4 (w.setCell p s) g x y z v := by
  have e : ∀ i, (w.setCell p s).cell? ⟨g, i, none⟩ = w.cell? ⟨g, i, none⟩ := fun i => World.cell?_setCell_far w p _ s hp
  exact ⟨⟨(e _).trans h.1.c0, (e _).trans h.1.c1, (e _).trans h.1.c2, (e _).trans h.1.c3, by simp [World.setCell]; exact h.1.lt⟩, fun o => (frozen_set4 w p _ s).trans (h.2 o)⟩
theorem Z4.set0 {w : World} {g : Nat} {x y z v : Value} (h : Z4 w g x y z v) (u : Value) : Z4 (w.setCell ⟨g, 0, none⟩ u) g u y z v := by
  have ne : ∀ j, 0 ≠ j → (⟨g, 0, none⟩ : Addr) ≠ ⟨g, j, none⟩ := fun j hij q => hij (congrArg Addr.off q)
  exact ⟨⟨World.cell?_setCell_same' w ⟨g, 0, none⟩ u (by rw [h.1.c0]; rfl), (World.cell?_setCell_other (h := ne 1 (by decide)) ..).trans h.1.c1, (World.cell?_setCell_other (h := ne 2 (by decide)) ..).trans h.1.c2, (World.cell?_setCell_other (h := ne 3 (by decide)) ..).trans h.1.c3, by simp [World.setCell]; exact h.1.lt⟩, fun o => (frozen_set4 w _ _ u).trans (h.2 o)⟩

set_option maxRecDepth 100000 in
set_option maxHeartbeats 2000000 in
theorem toConsole_any (a : Option Addr) (c : Nat) (rs : List (Int × Int)) (d p : ByteArray) (n : Int) (w : World) (hl : rs.length ≤ 1048576) (h : RecsAt w a rs) :
    Calls Tryd.prog 15 #[conV a rs.length c d p n] w fun e w' => ∃ g, e = .returned (conV (some ⟨g, 0, none⟩) rs.length rs.length d p n) ∧ w'.ownsRow w.heap.size 56 2 (.slice (some ⟨g, 0, none⟩) rs.length rs.length) rs.length (flat encR rs) ∧ Below w.heap.size w w' := by
  have HB0 := Lib.hid (below_new w (.cells #[.slice a rs.length c, .string d, .string p, .int .i64 n] 36))
  have HB1 := Lib.hid (HB0.out.trans ((below_new _ (.cells #[.slice none 0 0, .string ⟨#[]⟩, .string ⟨#[]⟩, .int .i64 0] 41)).mono HB0.out.size))
  have HB2 := Lib.hid (HB1.out.trans ((below_new _ (.cells #[.slice none 0 0, .string ⟨#[]⟩, .string ⟨#[]⟩, .int .i64 0] 41)).mono HB1.out.size))
  have HL0 := Lib.hid (((L4.mk' w (.slice a rs.length c) (.string d) (.string p) (.int .i64 n) 36).next (below_new _ (.cells #[.slice none 0 0, .string ⟨#[]⟩, .string ⟨#[]⟩, .int .i64 0] 41))).next (below_new _ (.cells #[.slice none 0 0, .string ⟨#[]⟩, .string ⟨#[]⟩, .int .i64 0] 41)))
  have HZ1 := (Z4.mk' (w.alloc (.cells #[.slice a rs.length c, .string d, .string p, .int .i64 n] 36)) (.slice none 0 0) (.string ⟨#[]⟩) (.string ⟨#[]⟩) (.int .i64 0) 41).next (below_new _ (.cells #[.slice none 0 0, .string ⟨#[]⟩, .string ⟨#[]⟩, .int .i64 0] 41))
  have HZ2 := Z4.mk' ((w.alloc (.cells #[.slice a rs.length c, .string d, .string p, .int .i64 n] 36)).alloc (.cells #[.slice none 0 0, .string ⟨#[]⟩, .string ⟨#[]⟩, .int .i64 0] 41)) (.slice none 0 0) (.string ⟨#[]⟩) (.string ⟨#[]⟩) (.int .i64 0) 41
  have e1 : (w.alloc (.cells #[.slice a rs.length c, .string d, .string p, .int .i64 n] 36)).heap.size = w.heap.size + 1 := by simp
  have e2 : ((w.alloc (.cells #[.slice a rs.length c, .string d, .string p, .int .i64 n] 36)).alloc (.cells #[.slice none 0 0, .string ⟨#[]⟩, .string ⟨#[]⟩, .int .i64 0] 41)).heap.size = w.heap.size + 1 + 1 := by simp
  have e3 : (((w.alloc (.cells #[.slice a rs.length c, .string d, .string p, .int .i64 n] 36)).alloc (.cells #[.slice none 0 0, .string ⟨#[]⟩, .string ⟨#[]⟩, .int .i64 0] 41)).alloc (.cells #[.slice none 0 0, .string ⟨#[]⟩, .string ⟨#[]⟩, .int .i64 0] 41)).heap.size = w.heap.size + 1 + 1 + 1 := by simp
  rw [e1] at HZ1
  rw [e2] at HZ2
  have HZ1 := Lib.hid HZ1; have HZ2 := Lib.hid HZ2
  obtain ⟨G, hG, hR⟩ : ∃ G, G = w.heap.size + 1 + 1 + 1 ∧ Calls Tryd.prog 8 #[.slice a rs.length c] (((w.alloc (.cells #[.slice a rs.length c, .string d, .string p, .int .i64 n] 36)).alloc (.cells #[.slice none 0 0, .string ⟨#[]⟩, .string ⟨#[]⟩, .int .i64 0] 41)).alloc (.cells #[.slice none 0 0, .string ⟨#[]⟩, .string ⟨#[]⟩, .int .i64 0] 41)) fun e w' => e = .returned (.slice (some ⟨G, 0, none⟩) rs.length rs.length) ∧
      w'.ownsRow G 56 2 (.slice (some ⟨G, 0, none⟩) rs.length rs.length) rs.length (flat encR rs) ∧ Below (((w.alloc (.cells #[.slice a rs.length c, .string d, .string p, .int .i64 n] 36)).alloc (.cells #[.slice none 0 0, .string ⟨#[]⟩, .string ⟨#[]⟩, .int .i64 0] 41)).alloc (.cells #[.slice none 0 0, .string ⟨#[]⟩, .string ⟨#[]⟩, .int .i64 0] 41)).heap.size (((w.alloc (.cells #[.slice a rs.length c, .string d, .string p, .int .i64 n] 36)).alloc (.cells #[.slice none 0 0, .string ⟨#[]⟩, .string ⟨#[]⟩, .int .i64 0] 41)).alloc (.cells #[.slice none 0 0, .string ⟨#[]⟩, .string ⟨#[]⟩, .int .i64 0] 41)) w' :=
    ⟨_, rfl, by rw [← e3]; exact toRecordS_any a c rs _ hl (h.below (Nat.le_refl _) HB2.out)⟩
  have HR := Lib.hid hR
  have HG := Lib.hid hG
  have HI := Lib.hid (fun w => toLog_any d p n w)
  clear h e1 e2 e3 hR hG HB0 HB1
  unfold conV logV at *
  go_enter Tryd.func15, Tryd.ntmps15
  go_wp2_with fail
  refine HR.out.mono ?_
  rintro e w3 ⟨rfl, ho, hb⟩
  have HO := Lib.hid ho
  have HB3 := Lib.hid (HB2.out.trans (hb.mono HB2.out.size))
  have L3' := Lib.hid (HL0.out.next hb)
  have A3 := Lib.hid (HZ1.out.next hb)
  have B3 := Lib.hid (HZ2.out.next hb)
  clear ho hb HB2 HL0 HZ1 HZ2 HR
  obtain ⟨c0, c1, c2, c3, _⟩ := L3'.out
  have b0 := B3.out.l4.c0
  have f0 := B3.out.fr 0
  go_wp2_with fail
  have HO' := Lib.hid (own_setc HO.out (g := w.heap.size + 1 + 1) (j := 0) (.slice (some ⟨G, 0, none⟩) rs.length rs.length) (by have := HG.out; omega))
  have B3' := Lib.hid (B3.out.set0 (.slice (some ⟨G, 0, none⟩) rs.length rs.length))
  have A3' := Lib.hid (A3.out.far (p := ⟨w.heap.size + 1 + 1, 0, none⟩) (.slice (some ⟨G, 0, none⟩) rs.length rs.length) (by show w.heap.size + 1 + 1 ≠ w.heap.size + 1; omega))
  have HB3' := Lib.hid (HB3.out.setCell (p := ⟨w.heap.size + 1 + 1, 0, none⟩) (by show w.heap.size ≤ w.heap.size + 1 + 1; omega) (.slice (some ⟨G, 0, none⟩) rs.length rs.length))
  refine (HI.out _).mono ?_
  rintro e w4 ⟨rfl, hb⟩
  have HO4 := Lib.hid (own_below HO'.out (Nat.le_refl _) hb)
  have B4 := B3'.out.next hb
  have A4 := A3'.out.next hb
  have HB4 := Lib.hid (HB3'.out.trans (hb.mono HB3'.out.size))
  clear hb HO HO' B3 B3' A3 A3' HB3 HB3' c0 c1 c2 c3 b0 f0
  obtain ⟨⟨b0, b1, b2, b3, blt⟩, bf⟩ := B4
  obtain ⟨⟨a0, a1, a2, a3, alt⟩, af⟩ := A4
  have g1 : G ≠ w.heap.size + 1 := by have := HG.out; omega
  have g2 : G ≠ w.heap.size + 1 + 1 := by have := HG.out; omega
  have o0 := own_setc HO4.out (g := w.heap.size + 1 + 1) (j := 1) (.string d) g2
  have q0 := HB4.out.setCell (p := ⟨w.heap.size + 1 + 1, 1, none⟩) (by show w.heap.size ≤ w.heap.size + 1 + 1; omega) (.string d)
  have o1 := own_setc o0 (g := w.heap.size + 1 + 1) (j := 2) (.string p) g2
  have q1 := q0.setCell (p := ⟨w.heap.size + 1 + 1, 2, none⟩) (by show w.heap.size ≤ w.heap.size + 1 + 1; omega) (.string p)
  have o2 := own_setc o1 (g := w.heap.size + 1 + 1) (j := 3) (.int .i64 n) g2
  have q2 := q1.setCell (p := ⟨w.heap.size + 1 + 1, 3, none⟩) (by show w.heap.size ≤ w.heap.size + 1 + 1; omega) (.int .i64 n)
  have o3 := own_setc o2 (g := w.heap.size + 1) (j := 0) (.slice (some ⟨G, 0, none⟩) rs.length rs.length) g1
  have q3 := q2.setCell (p := ⟨w.heap.size + 1, 0, none⟩) (by show w.heap.size ≤ w.heap.size + 1; omega) (.slice (some ⟨G, 0, none⟩) rs.length rs.length)
  have o4 := own_setc o3 (g := w.heap.size + 1) (j := 1) (.string d) g1
  have q4 := q3.setCell (p := ⟨w.heap.size + 1, 1, none⟩) (by show w.heap.size ≤ w.heap.size + 1; omega) (.string d)
  have o5 := own_setc o4 (g := w.heap.size + 1) (j := 2) (.string p) g1
  have q5 := q4.setCell (p := ⟨w.heap.size + 1, 2, none⟩) (by show w.heap.size ≤ w.heap.size + 1; omega) (.string p)
  have o6 := own_setc o5 (g := w.heap.size + 1) (j := 3) (.int .i64 n) g1
  have q6 := q5.setCell (p := ⟨w.heap.size + 1, 3, none⟩) (by show w.heap.size ≤ w.heap.size + 1; omega) (.int .i64 n)
  have HOF := Lib.hid (own_mono o6 (base' := w.heap.size) (by have := HG.out; omega))
  have HQF := Lib.hid q6
  clear o0 q0 o1 q1 o2 q2 o3 q3 o4 q4 o5 q5 o6 q6 g1 g2
  go_wp2
  refine bodyPost_ret (v := .agg #[.slice (some ⟨G, 0, none⟩) rs.length rs.length, .string d, .string p, .int .i64 n]) (by simp [results, Tryd.results15, go_sem, a0, a1, a2, a3, b0, b1, b2, b3]) rfl ⟨G, rfl, ?_, ?_⟩
  · with_reducible exact HOF.out
  · with_reducible exact HQF.out

theorem contents {w w' : World} {a : Option Addr} {rs : List (Int × Int)} (h : RecsAt w a rs) (hb : Below w.heap.size w w') : RecsAt w' a rs := h.below (Nat.le_refl _) hb

/-- What is held in the last region of the law. -/
structure Kd2 (w0 : World) (B g : Nat) (x y z v x' : Value) (a ag : Option Addr) (rs : List (Int × Int)) (w : World) : Prop where
  arg : L4 w B x y z v
  box : L4 w g x' y z v
  bel : Below w0.heap.size w0 w
  ra : RecsAt w a rs
  rg : RecsAt w ag rs
theorem Kd2.next {w0 w w' : World} {B g : Nat} {x y z v x' : Value} {a ag : Option Addr} {rs : List (Int × Int)} (h : Kd2 w0 B g x y z v x' a ag rs w) (hb : Below w.heap.size w w') : Kd2 w0 B g x y z v x' a ag rs w' :=
  ⟨h.1.next hb, h.2.next hb, h.3.trans (hb.mono h.3.size), contents h.4 hb, contents h.5 hb⟩
theorem Kd2.drew {w0 w : World} {B g : Nat} {x y z v x' : Value} {a ag : Option Addr} {rs : List (Int × Int)} (h : Kd2 w0 B g x y z v x' a ag rs w) : Kd2 w0 B g x y z v x' a ag rs w.drew :=
  h.next ((Below.refl _ _).drew)
def Kc2 (w0 : World) (B g : Nat) (x y z v x' : Value) (a ag : Option Addr) (rs : List (Int × Int)) (w : World) : Prop :=
  w.cell? ⟨B, 0, none⟩ = some x ∧ w.cell? ⟨B, 1, none⟩ = some y ∧ w.cell? ⟨B, 2, none⟩ = some z ∧ w.cell? ⟨B, 3, none⟩ = some v ∧ w.cell? ⟨g, 0, none⟩ = some x' ∧ w.cell? ⟨g, 1, none⟩ = some y ∧ w.cell? ⟨g, 2, none⟩ = some z ∧ w.cell? ⟨g, 3, none⟩ = some v ∧ Kd2 w0 B g x y z v x' a ag rs w
theorem Kd2.all {w0 w : World} {B g : Nat} {x y z v x' : Value} {a ag : Option Addr} {rs : List (Int × Int)} (h : Kd2 w0 B g x y z v x' a ag rs w) : w.cell? ⟨B, 0, none⟩ = some x ∧ w.cell? ⟨B, 1, none⟩ = some y ∧ w.cell? ⟨B, 2, none⟩ = some z ∧ w.cell? ⟨B, 3, none⟩ = some v ∧ w.cell? ⟨g, 0, none⟩ = some x' ∧ w.cell? ⟨g, 1, none⟩ = some y ∧ w.cell? ⟨g, 2, none⟩ = some z ∧ w.cell? ⟨g, 3, none⟩ = some v ∧ Kd2 w0 B g x y z v x' a ag rs w :=
  ⟨h.1.c0, h.1.c1, h.1.c2, h.1.c3, h.2.c0, h.2.c1, h.2.c2, h.2.c3, h⟩

theorem eqConsole_same (a a' : Option Addr) (n n' : Nat) (rs : List (Int × Int)) (d p : ByteArray) (c : Int) (w : World) (b1 : rs.length ≤ 9223372036854775807) (h1 : RecsAt w a rs) (h2 : RecsAt w a' rs) :
    Calls Tryd.prog 17 #[conV a rs.length n d p c, conV a' rs.length n' d p c] w fun e w' => e = .returned (.bool true) ∧ Below w.heap.size w w' := by
  have h := eqConsole_any a n rs d p c a' n' rs d p c w b1 b1 h1 h2
  have e : eqC rs d p c rs d p c = true := by simp [eqC, eqL]
  rw [e] at h
  exact h

end Go.Proofs.YtoebegdepnigbaaDoor

/- append in a region that draws its order: at a step, any number of elements, and where the result lies. -/
namespace Go.Proofs.YtoebegdepnigbaaDoor
open Go.RowKit
set_option linter.unusedVariables false

theorem wp_appX {P : Program} {w : World} {o : Oper} {a : Act} {K : Act → World → Prop} {Q : Exit → Act → World → Prop} {t e : TypeId} {z : Value} {size bytes : Nat} (T : SlT P t e z size bytes) (s y : Operand)
    (ho : o.op = .call { callee := .builtin .append, args := #[s, y], argTypes := #[t, t] })
    (base : Nat) (v : Value) (n : Nat) (xs : List Value) (ad : Addr) (m c : Nat) (ys : List Value) (hs : a.eval s = v) (hown : w.ownsRow base e size v n xs) (hy : a.eval y = .slice (some ad) m c) (hl : ys.length = m * size)
    (hcells : ∀ j x, ys[j]? = some x → w.cell? (ad.add j) = some x) (h1 : ∀ x ∈ ys, x.oneCell' = true) (hsmall : n + m ≤ 1099511627776) (hbase : base ≤ w.heap.size)
    (h : ∀ v' w', w'.ownsRow base e size v' (n + m) (xs ++ ys) → w.grownBy w' v.ownBlock → (v'.ownBlock = v.ownBlock ∨ v'.ownBlock = some w.heap.size) → K (a.put o.dst v') w') : Oper.wp P o a w K Q := by
  obtain ⟨v', w', hr, h2, h3, h4⟩ := run_app_tag (P := P) w T base o.type v n xs hown ad m c ys hl hcells h1 hsmall hbase
  unfold Oper.wp execOp
  simp only [ho, resolve, invoke, builtin, Sem.run_bind, Sem.run_pure, Result.andThen_ok, List.map_toArray, List.map_cons, List.map_nil, hs, hy, hr]
  exact h v' w' h2 h3 h4

theorem step_appX {P : Program} {w : World} {ops : Array Oper} {o : Oper} {a : Act} {K : Act → World → Prop} {Q : Exit → Act → World → Prop} {E : Prop} {t e : TypeId} {z : Value} {size bytes : Nat} (T : SlT P t e z size bytes) (hgd : o.guard = none) (s y : Operand)
    (ho : o.op = .call { callee := .builtin .append, args := #[s, y], argTypes := #[t, t] })
    (base : Nat) (v : Value) (n : Nat) (xs : List Value) (ad : Addr) (m c : Nat) (ys : List Value) (hs : a.eval s = v) (hown : w.ownsRow base e size v n xs) (hy : a.eval y = .slice (some ad) m c) (hl : ys.length = m * size)
    (hcells : ∀ j x, ys[j]? = some x → w.cell? (ad.add j) = some x) (h1 : ∀ x ∈ ys, x.oneCell' = true) (hsmall : n + m ≤ 1099511627776) (hbase : base ≤ w.heap.size)
    (h : ∀ v' w', w'.ownsRow base e size v' (n + m) (xs ++ ys) → w.grownBy w' v.ownBlock → (v'.ownBlock = v.ownBlock ∨ v'.ownBlock = some w.heap.size) → K (a.put o.dst v') w') :
    if Region.wanted o (yielded ops a.tmps) = true then Oper.wp P o a w K Q else E := by
  have hw : Region.wanted o (yielded ops a.tmps) = true := by simp [Region.wanted, hgd]
  rw [if_pos hw]
  exact wp_appX T s y ho base v n xs ad m c ys hs hown hy hl hcells h1 hsmall hbase h

end Go.Proofs.YtoebegdepnigbaaDoor

/- Walks: the text of a console, by both. -/
namespace Go.Proofs.YtoebegdepnigbaaDoor
open Go.RowKit
set_option linter.unusedVariables false

def itemT (r : Int × Int) : List UInt8 := Lib.itoa r.1 ++ 58 :: Lib.itoa r.2
def conT (rs : List (Int × Int)) : List UInt8 := Lib.join (rs.map itemT) [32]
theorem okRecs_at' {rs : List (Int × Int)} (h : okRecs rs = true) {k : Nat} (hk : k < rs.length) : -100000 ≤ (rs.getD k (0, 0)).1 ∧ (rs.getD k (0, 0)).1 ≤ 100000 ∧ 0 ≤ (rs.getD k (0, 0)).2 ∧ (rs.getD k (0, 0)).2 ≤ 999 := by
  have hm : rs.getD k (0, 0) ∈ rs := by rw [List.getD_eq_getElem?_getD, List.getElem?_eq_getElem hk]; exact List.getElem_mem hk
  unfold okRecs at h
  simp only [Bool.and_eq_true, List.all_eq_true, decide_eq_true_eq] at h
  have := h.2 _ hm
  unfold okRec at this
  simp only [inB, okKey, Bool.and_eq_true, decide_eq_true_eq] at this
  omega
theorem okRecs_len' {rs : List (Int × Int)} (h : okRecs rs = true) : rs.length ≤ 64 := by
  unfold okRecs at h
  simp only [Bool.and_eq_true, decide_eq_true_eq] at h
  omega
theorem item_len (r : Int × Int) (h : -100000 ≤ r.1 ∧ r.1 ≤ 100000 ∧ 0 ≤ r.2 ∧ r.2 ≤ 999) : (itemT r).length ≤ 41 := by
  have h1 := itoa_len r.1 (by omega) (by omega)
  have h2 := itoa_len r.2 (by omega) (by omega)
  unfold itemT; simp; omega
theorem items_len {rs : List (Int × Int)} (h : okRecs rs = true) : ∀ x ∈ rs.map itemT, x.length ≤ 41 := by
  intro x hx
  obtain ⟨r, hr, rfl⟩ := List.mem_map.1 hx
  obtain ⟨k, hk, rfl⟩ := List.getElem_of_mem hr
  have := okRecs_at' h hk
  rw [List.getD_eq_getElem?_getD, List.getElem?_eq_getElem hk] at this
  exact item_len _ this
theorem conT_len {rs : List (Int × Int)} (h : okRecs rs = true) (k : Nat) : (conT (rs.take k)).length ≤ 3000 := by
  have h64 := okRecs_len' h
  have hl := join_le [32] (by simp) (m := 41) (xs := (rs.take k).map itemT) (fun x hx => items_len h x (by
    obtain ⟨r, hr, rfl⟩ := List.mem_map.1 hx
    exact List.mem_map.2 ⟨r, List.mem_of_mem_take hr, rfl⟩))
  unfold conT
  rw [List.length_map, List.length_take] at hl
  have : min k rs.length * (41 + 1) ≤ 64 * 42 := Nat.mul_le_mul (by omega) (by omega)
  omega
theorem items_succ {rs : List (Int × Int)} {k : Nat} (hk : k < rs.length) : (rs.take (k + 1)).map itemT = (rs.take k).map itemT ++ [itemT (rs.getD k (0, 0))] := by
  rw [List.take_add_one, List.map_append]
  simp [List.getD, List.getElem?_eq_getElem hk]
theorem conT_succ {rs : List (Int × Int)} {k : Nat} (hk : k < rs.length) : conT (rs.take (k + 1)) = (if k = 0 then [] else conT (rs.take k) ++ [32]) ++ itemT (rs.getD k (0, 0)) := by
  unfold conT
  rw [items_succ hk, join_snoc]
  by_cases h0 : k = 0
  · subst h0; simp
  · have hne : ((rs.take k).map itemT) ≠ [] := by
      intro e
      have := congrArg List.length e
      simp only [List.length_map, List.length_take, List.length_nil] at this; omega
    rw [if_neg h0, if_neg hne]

def FcEnd (ok : Bool) (rs : List (Int × Int)) : Value := .tuple #[.string (ba (if ok then conT rs else [])), .bool ok]

set_option maxRecDepth 100000 in
set_option maxHeartbeats 2000000 in
theorem sFormatConsole_any (a : Option Addr) (c : Nat) (rs : List (Int × Int)) (d p : ByteArray) (n : Int) (w : World) (hbig : rs.length ≤ 9223372036854775807) (hd : d.size ≤ 1048576) (hp : p.size ≤ 1048576) (h : RecsAt w a rs) :
    Calls Tryd.prog 14 #[conV a rs.length c d p n] w fun e w' => e = .returned (FcEnd (okRecs rs && Tx.okLog (logOf d p n)) rs) ∧ Below w.heap.size w w' := by
  have HB0 := Lib.hid (below_new w (.cells #[.slice a rs.length c, .string d, .string p, .int .i64 n] 41))
  have HL0 := Lib.hid (L4.mk' w (.slice a rs.length c) (.string d) (.string p) (.int .i64 n) 41)
  have HR0 := Lib.hid (h.below (Nat.le_refl _) HB0.out)
  have HG := Lib.hid (fun w h => l26Good_any a c rs d p n w hbig hd hp h)
  clear h
  unfold conV FcEnd at *
  cases hq : (okRecs rs && Tx.okLog (logOf d p n))
  all_goals rw [hq] at HG
  case false =>
    clear hq
    go_enter Tryd.func14, Tryd.ntmps14
    obtain ⟨u0, u1, u2, u3, _⟩ := HL0.out
    go_wp2_with fail
    refine (HG.out _ HR0.out).mono ?_
    rintro e w1 ⟨rfl, hb⟩
    have HB1 := Lib.hid (below_trI HB0.out hb HB0.out.size)
    clear hb
    go_wp2
    go_ret2
    exact ⟨rfl, HB1.out⟩
  have hok : okRecs rs = true := by rw [Bool.and_eq_true] at hq; exact hq.1
  have HOK := Lib.hid hok
  have h64 := okRecs_len' hok
  clear hq hok
  go_enter Tryd.func14, Tryd.ntmps14
  obtain ⟨u0, u1, u2, u3, _⟩ := HL0.out
  go_wp2_with fail
  refine (HG.out _ HR0.out).mono ?_
  rintro e w1 ⟨rfl, hb⟩
  have HB1 := Lib.hid (below_trI HB0.out hb HB0.out.size)
  have HL1 := Lib.hid (HL0.out.next hb)
  have HR1 := Lib.hid (contents HR0.out hb)
  clear hb u0 u1 u2 u3 HL0 HR0 HB0
  go_wp2
  go_loopw [4, 5] (fun s i wr => ∃ (k : Nat) (u : ByteArray), k ≤ rs.length ∧ s = .string u ∧ i = .int .i64 k ∧ Hid (bs u = conT (rs.take k)) ∧ Below w1.heap.size w1 wr) (fun _ i _ => rs.length - (intOf i).toNat)
  case atStart => exact ⟨0, ⟨#[]⟩, by omega, rfl, rfl, Lib.hid (by simp [conT, Lib.join, bs]), Below.refl _ _⟩
  case round =>
    obtain ⟨k, u, hk, rfl, rfl, HU, hb⟩ := hrel
    have HB := Lib.hid hb; clear hb
    obtain ⟨u0, _, _, _, _⟩ := HL1.out.next HB.out
    have husz : u.size ≤ 3000 := by rw [← bs_len, HU.out]; exact conT_len HOK.out k
    by_cases hlt : k < rs.length
    · obtain ⟨b, o, rfl, c1, c2⟩ := (contents HR1.out HB.out).at hlt
      have hr := okRecs_at' HOK.out hlt
      have hs := conT_succ hlt
      rw [← HU.out] at hs
      obtain ⟨⟨x, y⟩, hX⟩ : ∃ X, rs.getD k (0, 0) = X := ⟨_, rfl⟩
      rw [hX] at c1 c2 hr hs
      clear hX
      have HN := Lib.hid (fun z w => l1NumB_any z w)
      obtain ⟨r1, r2, r3, r4⟩ := hr
      have x1 : -1000000 ≤ x := by omega
      have x2 : x ≤ 1000000 := by omega
      have y1 : -1000000 ≤ y := by omega
      have y2 : y ≤ 1000000 := by omega
      have hx20 : (numB x).size ≤ 20 := numB_size (by omega) (by omega)
      have hy20 : (numB y).size ≤ 20 := numB_size (by omega) (by omega)
      have hit : itemT (x, y) = bs (numB x) ++ 58 :: bs (numB y) := rfl
      rw [hit] at hs
      clear hit r1 r2 r3 r4
      have z1 : (ByteArray.mk #[58]).size = 1 := rfl
      have z2 : (ByteArray.mk #[32]).size = 1 := rfl
      have b1 : (0 : Int) ≤ (k : Int) := by omega
      have q1 : decide ((k : Int) < (rs.length : Int)) = true := decide_eq_true (by omega)
      by_cases h0 : k = 0
      · have q2 : decide ((0 : Int) < (k : Int)) = false := decide_eq_false (by omega)
        have q3 : ¬ 0 < k := by omega
        have HE : Hid (bs (((u ++ (numB x)) ++ ⟨#[58]⟩) ++ numB y) = conT (rs.take (k + 1))) := by
          show _ = _
          have hu0 : bs u = [] := by rw [HU.out, h0]; simp [conT, Lib.join]
          rw [hs, if_pos h0, bs_add, bs_add, bs_add, hu0]
          show [] ++ bs (numB x) ++ [58] ++ bs (numB y) = _
          simp
        have a1 := add_runs (P := Tryd.prog) (a := u) (b := (numB x)) (by omega) (by omega)
        have a2 := add_runs (P := Tryd.prog) (a := u ++ (numB x)) (b := ⟨#[58]⟩) (by rw [size_add]; omega) (by decide)
        have a3 := add_runs (P := Tryd.prog) (a := u ++ (numB x) ++ ⟨#[58]⟩) (b := numB y) (by rw [size_add, size_add]; omega) (by omega)
        clear hs h0 z1 z2
        go_wp2_with fail
        go_quiet ((go_at_call 25; exact Calls.quiet_of (HN.out _ _ (by assumption) (by assumption))))
        go_wp2
        go_roundw
        case rel => exact ⟨k + 1, _, by omega, rfl, by go_num, HE, below_drewN HB.out _⟩
        case measure => simp [intOf]; omega
      · have q2 : decide ((0 : Int) < (k : Int)) = true := decide_eq_true (by omega)
        have q3 : 0 < k := by omega
        have HE : Hid (bs ((((u ++ ⟨#[32]⟩) ++ (numB x)) ++ ⟨#[58]⟩) ++ numB y) = conT (rs.take (k + 1))) := by
          show _ = _
          rw [hs, if_neg h0, bs_add, bs_add, bs_add, bs_add, HU.out]
          show conT (rs.take k) ++ [32] ++ bs (numB x) ++ [58] ++ bs (numB y) = _
          simp
        have a0 := add_runs (P := Tryd.prog) (a := u) (b := ⟨#[32]⟩) (by omega) (by decide)
        have a1 := add_runs (P := Tryd.prog) (a := u ++ ⟨#[32]⟩) (b := (numB x)) (by rw [size_add]; omega) (by omega)
        have a2 := add_runs (P := Tryd.prog) (a := u ++ ⟨#[32]⟩ ++ (numB x)) (b := ⟨#[58]⟩) (by rw [size_add, size_add]; omega) (by decide)
        have a3 := add_runs (P := Tryd.prog) (a := u ++ ⟨#[32]⟩ ++ (numB x) ++ ⟨#[58]⟩) (b := numB y) (by rw [size_add, size_add, size_add]; omega) (by omega)
        clear hs h0 z1 z2
        go_wp2_with fail
        go_quiet ((go_at_call 25; exact Calls.quiet_of (HN.out _ _ (by assumption) (by assumption))))
        go_wp2
        go_roundw
        case rel => exact ⟨k + 1, _, by omega, rfl, by go_num, HE, below_drewN HB.out _⟩
        case measure => simp [intOf]; omega
    · obtain rfl : k = rs.length := by omega
      have HE : Hid (u = ba (conT rs)) := by
        show _ = _
        have h := HU.out
        rw [List.take_length] at h
        rw [← h, ba_bs]
      have q1 : decide ((rs.length : Int) < (rs.length : Int)) = false := decide_eq_false (by omega)
      go_wp2
      go_ret2
      exact ⟨ret_v2 (by rw [HE.out]; rfl) rfl, below_trI HB1.out HB.out HB1.out.size⟩

/-- What stands while the words are made. -/
structure Wd (g B : Nat) (x y : Int) (v : Value) (k : Nat) (xs : List Value) (w0 w : World) : Prop where
  bel : Below w0.heap.size w0 w
  c0 : w.cell? ⟨g, 0, none⟩ = some (.int .i64 x)
  c1 : w.cell? ⟨g, 1, none⟩ = some (.int .i64 y)
  lt : g < w.heap.size
  own : w.ownsRow B 9 1 v k xs
  le : B ≤ w.heap.size
  tab : Tab w
theorem Wd.next {g B : Nat} {x y : Int} {v : Value} {k : Nat} {xs : List Value} {w0 w w' : World} (h : Wd g B x y v k xs w0 w) (hb : Below w.heap.size w w') : Wd g B x y v k xs w0 w' :=
  ⟨below_trI h.bel hb h.bel.size, (bcell hb h.lt).trans h.c0, (bcell hb h.lt).trans h.c1, Nat.lt_of_lt_of_le h.lt hb.size, own_below h.own (Nat.le_refl _) hb, Nat.le_trans h.le hb.size, h.tab.below hb⟩

set_option maxRecDepth 100000 in
set_option maxHeartbeats 4000000 in
theorem formatConsole_any (a : Option Addr) (c : Nat) (rs : List (Int × Int)) (d p : ByteArray) (n : Int) (w : World) (hbig : rs.length ≤ 9223372036854775807) (hd : d.size ≤ 1048576) (hp : p.size ≤ 1048576) (ht : Tab w) (h : RecsAt w a rs) :
    Calls Tryd.prog 16 #[conV a rs.length c d p n] w fun e w' => e = .returned (FcEnd (okRecs rs && Tx.okLog (logOf d p n)) rs) ∧ Below w.heap.size w w' := by
  have HB0 := Lib.hid (below_new w (.cells #[.slice a rs.length c, .string d, .string p, .int .i64 n] 41))
  have HL0 := Lib.hid (L4.mk' w (.slice a rs.length c) (.string d) (.string p) (.int .i64 n) 41)
  have HR0 := Lib.hid (h.below (Nat.le_refl _) HB0.out)
  have HG := Lib.hid (fun w ht h => isValidConsole_any a c rs d p n w hbig hd hp ht h)
  have HT0 := Lib.hid (Tab.below ht HB0.out)
  clear h ht
  unfold conV FcEnd at *
  cases hq : (okRecs rs && Tx.okLog (logOf d p n))
  all_goals rw [hq] at HG
  case false =>
    clear hq
    go_enter Tryd.func16, Tryd.ntmps16
    obtain ⟨u0, u1, u2, u3, _⟩ := HL0.out
    go_wp2_with fail
    refine (HG.out _ HT0.out HR0.out).mono ?_
    rintro e w1 ⟨rfl, hb⟩
    have HB1 := Lib.hid (below_trI HB0.out hb HB0.out.size)
    clear hb
    go_wp2
    go_ret2
    exact ⟨rfl, HB1.out⟩
  have hok : okRecs rs = true := by rw [Bool.and_eq_true] at hq; exact hq.1
  have HOK := Lib.hid hok
  have h64 := okRecs_len' hok
  clear hq hok
  go_enter Tryd.func16, Tryd.ntmps16
  obtain ⟨u0, u1, u2, u3, _⟩ := HL0.out
  go_wp2_with fail
  refine (HG.out _ HT0.out HR0.out).mono ?_
  rintro e w1 ⟨rfl, hb⟩
  have HB1 := Lib.hid (below_trI HB0.out hb HB0.out.size)
  have HL1 := Lib.hid (HL0.out.next hb)
  have HR1 := Lib.hid (contents HR0.out hb)
  have HT1 := Lib.hid (HT0.out.below hb)
  clear hb u0 u1 u2 u3 HL0 HR0 HB0 HT0
  obtain ⟨u0, u1, u2, u3, _⟩ := HL1.out
  have E1 := Lib.hid (own_lit (w := w1) (e := 9) (size := 1) #[] 0 (by omega) rfl)
  go_wp2
  go_loopw [4, 6, 14] (fun v _ i wr => ∃ k : Nat, k ≤ rs.length ∧ i = .int .i64 k ∧ wr.ownsRow w1.heap.size 9 1 v k (((rs.take k).map itemT).map strL) ∧ Below w1.heap.size w1 wr) (fun _ _ i _ => rs.length - (intOf i).toNat)
  case atStart => exact ⟨0, by omega, rfl, E1.out, (Below.refl _ _).alloc (Nat.le_refl _) _⟩
  case round =>
    obtain ⟨k, hk, rfl, hown, hb⟩ := hrel
    clear E1 u0 u1 u2 u3
    have HO := Lib.hid hown; clear hown
    have HB := Lib.hid hb; clear hb
    by_cases hlt : k < rs.length
    · obtain ⟨b, o, rfl, c1, c2⟩ := (contents HR1.out HB.out).at hlt
      have hr := okRecs_at' HOK.out hlt
      have hs := items_succ hlt
      obtain ⟨⟨x, y⟩, hX⟩ : ∃ X, rs.getD k (0, 0) = X := ⟨_, rfl⟩
      rw [hX] at c1 c2 hr hs
      clear hX
      have HX := Lib.hid (fun w ht => itoaI_any x w (by have := hr.1; omega) (by have := hr.2.1; omega) ht)
      have HY := Lib.hid (fun w ht => itoaI_any y w (by have := hr.2.2.1; omega) (by have := hr.2.2.2; omega) ht)
      have hx20 : (ba (Lib.itoa x)).size ≤ 20 := by rw [ba_size]; exact itoa_len x (by have := hr.1; omega) (by have := hr.2.1; omega)
      have hy20 : (ba (Lib.itoa y)).size ≤ 20 := by rw [ba_size]; exact itoa_len y (by have := hr.2.2.1; omega) (by have := hr.2.2.2; omega)
      have hit : strL (itemT (x, y)) = .string ((ba (Lib.itoa x) ++ ⟨#[58]⟩) ++ ba (Lib.itoa y)) := by
        unfold strL
        congr 1
        rw [← ba_bs ((ba (Lib.itoa x) ++ ⟨#[58]⟩) ++ ba (Lib.itoa y)), bs_add, bs_add]
        show ba (Lib.itoa x ++ 58 :: Lib.itoa y) = ba ((Lib.itoa x ++ [58]) ++ Lib.itoa y)
        simp
      have HS : Hid (((rs.take (k + 1)).map itemT).map strL = ((rs.take k).map itemT).map strL ++ [.string ((ba (Lib.itoa x) ++ ⟨#[58]⟩) ++ ba (Lib.itoa y))]) := by
        show _ = _
        rw [hs, List.map_append, ← hit]; rfl
      clear hit hr hs
      generalize ba (Lib.itoa x) = X at HX hx20 HS
      generalize ba (Lib.itoa y) = Y at HY hy20 HS
      have z1 : (ByteArray.mk #[58]).size = 1 := rfl
      have a1 := add_runs (P := Tryd.prog) (a := X) (b := ⟨#[58]⟩) (by omega) (by decide)
      have a2 := add_runs (P := Tryd.prog) (a := X ++ ⟨#[58]⟩) (b := Y) (by rw [size_add]; omega) (by omega)
      have hbn := below_new wr (.cells #[.int .i64 x, .int .i64 y] 56)
      have S0 := Lib.hid (Wd.mk (g := wr.heap.size) (x := x) (y := y) (below_trI HB.out hbn HB.out.size) (alloc_cell 0) (alloc_cell 1) (by simp) (own_below HO.out (Nat.le_refl _) hbn) (Nat.le_trans HB.out.size hbn.size) ((HT1.out.below HB.out).below hbn))
      have S1 := Lib.hid (S0.out.next ((Below.refl _ _).drew))
      have hn : k + 1 ≤ 1099511627776 := by omega
      clear hbn z1
      have e0 := S1.out.c0
      have e1 := S1.out.c1
      go_wp2_with fail
      go_region_law (first
        | ((try go_split_ands); (try go_simp); go_at_call 32; refine (HX.out _ S1.out.tab).mono ?_; rintro e w2 ⟨rfl, hb2⟩; have S2 := Lib.hid (S1.out.next hb2); have f0 := S2.out.c0; have f1 := S2.out.c1)
        | ((try go_split_ands); (try go_simp); go_at_call 32; refine (HY.out _ S2.out.tab).mono ?_; rintro e w3 ⟨rfl, hb3⟩; have S3 := Lib.hid (S2.out.next hb3); have S4 := Lib.hid (S3.out.next (below_new w3 (.cells #[.string (X ++ ⟨#[58]⟩ ++ Y)] 9))); have HNW := Lib.hid (cells_new w3 [.string (X ++ ⟨#[58]⟩ ++ Y)] 9))
        | ((try go_split_ands); refine step_appX slS (by rfl) _ _ (by rfl) w1.heap.size _ k _ _ 1 _ [.string (X ++ ⟨#[58]⟩ ++ Y)] (by rfl) S4.out.own (by rfl) rfl HNW.out (by simp [Value.oneCell']) hn S4.out.le ?_; intro v' w5 hown' hg' ht'))
      all_goals
        have HO5 := Lib.hid hown'
        have HB5 := Lib.hid (below_app S4.out.bel S4.out.le S4.out.own (Nat.le_refl _) hg')
        clear hown' hg' ht'
        try go_wp2
        first
          | go_roundw
          | refine ⟨?rel, ?measure⟩
        case rel =>
          refine ⟨k + 1, by omega, by go_num, ?_, HB5.out⟩
          rw [HS.out]
          exact HO5.out
        case measure => simp [intOf]; omega
    · obtain rfl : k = rs.length := by omega
      have ho := HO.out
      rw [List.take_length] at ho
      by_cases h0 : rs = []
      · subst h0
        obtain ⟨a', c', rfl⟩ := own_slice ho
        have HJ := Lib.hid (Tryd.strings_Join_none a' c' ⟨#[32]⟩ wr)
        clear ho HO
        go_wp2_with fail
        refine HJ.out.mono ?_
        rintro e w3 ⟨rfl, rfl⟩
        go_wp2
        go_ret2
        exact ⟨ret_v2 (by simp [conT, Lib.join]; rfl) rfl, below_trI HB1.out HB.out HB1.out.size⟩
      have hpos : 0 < rs.length := List.length_pos_iff.2 h0
      obtain ⟨a', c', rfl⟩ := own_slice ho
      obtain ⟨g, rfl, _⟩ := own_at (i := 0) (x := strL (itemT (rs.getD 0 (0, 0)))) ho (by rw [List.map_map, List.getElem?_map, List.getElem?_eq_getElem hpos]; simp [List.getD, List.getElem?_eq_getElem hpos])
      have HJ : Hid _ := Lib.hid (join_any g c' (rs.map itemT) 32 wr (by simp; omega) (fun x hx => by have := items_len HOK.out x hx; omega) w1.heap.size (by rw [List.length_map]; exact ho))
      have HJ2 : Hid _ := Lib.hid (by have h := HJ.out; rw [List.length_map] at h; exact h)
      clear ho HO HJ
      go_wp2_with fail
      refine HJ2.out.mono ?_
      rintro e w3 ⟨rfl, hb3⟩
      have HB3 := Lib.hid (below_trI HB.out hb3 HB.out.size)
      clear hb3
      go_wp2
      go_ret2
      exact ⟨ret_v2 rfl rfl, below_trI HB1.out HB3.out HB1.out.size⟩

end Go.Proofs.YtoebegdepnigbaaDoor
