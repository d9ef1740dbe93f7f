/- Walks: a log's records, by the program and by the reference; the law FnExactLogRecords. -/
import Derived.Test.YtfdhicojnbicgaaDoorMb
import Derived.Test.YtfdhicojnbicgaaDoorTs
import Derived.Test.YtfdhicojnbicgaaDoorTv
namespace Go.Proofs.YtfdhicojnbicgaaDoor
open Go.RowKit
set_option linter.unusedVariables false

def lrecs (d p : ByteArray) (n : Int) : List Tx.Rec := if Tx.okLog (logOf d p n) = true then (Tx.rd 60 (bs (d ++ p))).map (·.1) else []
theorem lrecs_len (d p : ByteArray) (n : Int) : (lrecs d p n).length ≤ 60 := by
  unfold lrecs
  split
  · rw [List.length_map]; exact Tx.rd_len 60 _
  · simp
def LRsEnd (w : World) (rs : List Tx.Rec) (ok : Bool) (e : Ending) (w' : World) : Prop :=
  ∃ (a : Option Addr) (c : Nat), e = .returned (.tuple #[.slice a rs.length c, .bool ok]) ∧ w'.ownsRow w.heap.size 27 2 (.slice a rs.length c) rs.length (flat encL rs) ∧ Below w.heap.size w w'

set_option maxHeartbeats 1000000 in
theorem logRecords_any (d p : ByteArray) (n : Int) (w : World) (hd : d.size ≤ 1048576) (hp : p.size ≤ 1048576) (ht : Tab w) :
    Calls Tryd.prog 32 #[logV d p n] w (LRsEnd w (lrecs d p n) (Tx.okLog (logOf d p n))) := by
  have HT := Lib.hid ht; clear ht
  have hR := fun w ht => records_any d p n w hd hp ht
  have hB : Below w.heap.size w (w.alloc (.cells #[.string d, .string p, .int .i64 n] 31)) := (Below.refl _ _).alloc (Nat.le_refl _) _
  have HBb := Lib.hid hB; clear hB
  unfold RecsEnd at hR
  unfold LRsEnd lrecs
  cases hok : Tx.okLog (logOf d p n)
  case true =>
    rw [hok] at hR
    have HR := Lib.hid hR; clear hR
    have HL : Hid (((Tx.rd 60 (bs (d ++ p))).map (·.1)).length = (Tx.rd 60 (bs (d ++ p))).length) := List.length_map ..
    rw [if_pos rfl, HL.out]
    clear hok
    unfold logV at *
    go_enter Tryd.func32, Tryd.ntmps32
    go_wp2_with fail
    refine (HR.out _ (HT.out.below HBb.out)).mono ?_
    rintro e w1 ⟨a, c, rfl, ho, hb1⟩
    have HO := Lib.hid (own_mono ho (base' := w.heap.size) (by simp))
    have HB1 := Lib.hid (HBb.out.trans (hb1.mono HBb.out.size)); clear hb1 ho
    go_wp2
    go_ret2
    exact ⟨a, c, rfl, HO.out, HB1.out⟩
  case false =>
    rw [hok] at hR
    have HR := Lib.hid hR; clear hR
    rw [if_neg (by simp)]
    clear hok
    unfold logV at *
    go_enter Tryd.func32, Tryd.ntmps32
    go_wp2_with fail
    refine (HR.out _ (HT.out.below HBb.out)).mono ?_
    rintro e w1 ⟨a, c, rfl, ho, hb1⟩
    have HB1 := Lib.hid (HBb.out.trans (hb1.mono HBb.out.size)); clear hb1 ho
    go_wp2
    go_ret2
    exact ⟨none, 0, rfl, ⟨rfl, .inl ⟨rfl, rfl⟩⟩, HB1.out⟩

set_option maxHeartbeats 1000000 in
theorem sLogRecords_any (d p : ByteArray) (n : Int) (w : World) (hd : d.size ≤ 1048576) (hp : p.size ≤ 1048576) :
    Calls Tryd.prog 31 #[logV d p n] w (LRsEnd w (lrecs d p n) (Tx.okLog (logOf d p n))) := by
  have hR := fun w => l25Log_any d p n w hd hp
  have hB : Below w.heap.size w (w.alloc (.cells #[.string d, .string p, .int .i64 n] 31)) := (Below.refl _ _).alloc (Nat.le_refl _) _
  have HBb := Lib.hid hB; clear hB
  have hws : (d ++ p).size = d.size + p.size := size_add d p
  have a1 := add_runs (P := Tryd.prog) (a := d) (b := p) (by omega) (by omega)
  have H1 := Lib.hid (fun w => l25Open_any (d ++ p) w (by omega))
  have hc0 : (w.alloc (.cells #[.string d, .string p, .int .i64 n] 31)).cell? ⟨w.heap.size, 0, none⟩ = some (.string d) := alloc_cell 0
  have hc1 : (w.alloc (.cells #[.string d, .string p, .int .i64 n] 31)).cell? ⟨w.heap.size, 1, none⟩ = some (.string p) := alloc_cell 1
  have HC0 := Lib.hid hc0; have HC1 := Lib.hid hc1; clear hc0 hc1 hws
  unfold LRsEnd lrecs
  cases hok : Tx.okLog (logOf d p n)
  case true =>
    rw [hok] at hR
    have HR := Lib.hid hR; clear hR
    have HL : Hid (((Tx.rd 60 (bs (d ++ p))).map (·.1)).length = (Tx.rd 60 (bs (d ++ p))).length) := List.length_map ..
    rw [if_pos rfl, HL.out]
    clear hok
    unfold logV at *
    generalize d ++ p = wh at *
    go_enter Tryd.func31, Tryd.ntmps31
    go_wp2_with fail
    refine (HR.out _).mono ?_
    rintro e w1 ⟨rfl, hb1⟩
    have g0 : w1.cell? ⟨w.heap.size, 0, none⟩ = some (.string d) := (bcell hb1 (by simp)).trans HC0.out
    have g1 : w1.cell? ⟨w.heap.size, 1, none⟩ = some (.string p) := (bcell hb1 (by simp)).trans HC1.out
    have HB1 := Lib.hid (HBb.out.trans (hb1.mono HBb.out.size)); clear hb1
    go_wp2_with fail
    refine (H1.out _).mono ?_
    rintro e w2 ⟨a, c, rfl, ho, hb2⟩
    have HO := Lib.hid (own_mono ho (base' := w.heap.size) HB1.out.size)
    have HB2 := Lib.hid (HB1.out.trans (hb2.mono HB1.out.size)); clear hb2 ho g0 g1
    go_wp2
    go_ret2
    exact ⟨a, c, rfl, HO.out, HB2.out⟩
  case false =>
    rw [hok] at hR
    have HR := Lib.hid hR; clear hR
    rw [if_neg (by simp)]
    clear hok
    unfold logV at *
    go_enter Tryd.func31, Tryd.ntmps31
    go_wp2_with fail
    refine (HR.out _).mono ?_
    rintro e w1 ⟨rfl, hb1⟩
    have HB1 := Lib.hid (HBb.out.trans (hb1.mono HBb.out.size)); clear hb1
    have HO := Lib.hid (own_lit (w := w1) (e := 27) (size := 2) #[] 0 (by omega) rfl)
    have HB2 := Lib.hid (HB1.out.alloc HB1.out.size (.cells #[] 27))
    have HZ := Lib.hid HB1.out.size
    go_wp2
    go_ret2
    exact ⟨_, _, rfl, own_mono HO.out HZ.out, HB2.out⟩

theorem LrAt.grown {w w' : World} {row : Option Nat} {a : Option Addr} {rs : List Tx.Rec} (h : LrAt w a rs) (hg : w.grownBy w' row) (hne : ∀ b off, a = some ⟨b, off, none⟩ → row ≠ some b) : LrAt w' a rs := by
  rcases h with h | ⟨b, off, h1, h0, h2⟩
  · exact .inl h
  · refine .inr ⟨b, off, h1, Nat.lt_of_lt_of_le h0 hg.size, fun j hj => ?_⟩
    have hb := hg.block b h0 (fun e => hne b off h1 e.symm)
    rw [World.cell?_of_block (w := w) (w' := w') (a := ⟨b, off + j * 2, none⟩) hb, World.cell?_of_block (w := w) (w' := w') (a := ⟨b, off + j * 2 + 1, none⟩) hb]; exact h2 j hj
theorem L3.grown {w w' : World} {B : Nat} {x y z : Value} {row : Option Nat} (h : L3 w B x y z) (hg : w.grownBy w' row) (hne : row ≠ some B) : L3 w' B x y z := by
  have hb := hg.block B h.lt (fun e => hne e.symm)
  exact ⟨(World.cell?_of_block (w := w) (w' := w') (a := ⟨B, 0, none⟩) hb).trans h.c0, (World.cell?_of_block (w := w) (w' := w') (a := ⟨B, 1, none⟩) hb).trans h.c1, (World.cell?_of_block (w := w) (w' := w') (a := ⟨B, 2, none⟩) hb).trans h.c2, Nat.lt_of_lt_of_le h.lt hg.size⟩

theorem mark1 (B : Nat) (a : Option Addr) (c : Nat) (rs : List Tx.Rec) (w : World) (hn : rs.length ≤ 1000) (h : w.ownsRow B 27 2 (.slice a rs.length c) rs.length (flat encL rs)) :
    Calls Tryd.prog 34 #[.slice a rs.length c, .int .i64 1] w fun e w' => e = .returned (.int .i64 (1 + 2 * (rs.length : Int))) ∧ w'.ownsRow B 27 2 (.slice a rs.length c) rs.length (flat encL (mkL rs 1 rs.length)) ∧ w.grownBy w' (Value.slice a rs.length c).ownBlock :=
  markLogRecordS_any B a c rs 1 w hn (Nat.le_refl _) (by omega) h
theorem held1 (a : Option Addr) (c m : Nat) (rs : List Tx.Rec) (w : World) (hm : rs.length = m) (hn : rs.length ≤ 1000) (h : LrAt w a (mkL rs 1 rs.length)) :
    Calls Tryd.prog 35 #[.slice a m c, .int .i64 1] w fun e w' => e = .returned (.int .i64 (1 + 2 * (m : Int))) ∧ Below w.heap.size w w' := by
  have := heldLogRecordS_any a c (mkL rs 1 rs.length) 1 w (by rw [mkL_len]; exact hn) (Nat.le_refl _) (by omega) h (fun j hj => mkL_at (by rwa [mkL_len] at hj))
  rw [mkL_len, hm] at this
  exact this

/-- What holds while the law goes on. -/
structure LS (w0 w : World) (d p : ByteArray) (n : Int) (aw ag : Option Addr) (rs rg : List Tx.Rec) (cg Bg : Nat) : Prop where
  bel : Below w0.heap.size w0 w
  log : L3 w w0.heap.size (.string d) (.string p) (.int .i64 n)
  hw : LrAt w aw rs
  og : w.ownsRow Bg 27 2 (.slice ag rg.length cg) rg.length (flat encL rg)
theorem LS.next {w0 w w' : World} {d p : ByteArray} {n : Int} {aw ag : Option Addr} {rs rg : List Tx.Rec} {cg Bg : Nat} (s : LS w0 w d p n aw ag rs rg cg Bg) (hb : Below w.heap.size w w') : LS w0 w' d p n aw ag rs rg cg Bg :=
  ⟨s.bel.trans (hb.mono s.bel.size), s.log.next hb, s.hw.below (Nat.le_refl _) hb, own_below s.og (Nat.le_refl _) hb⟩

set_option maxHeartbeats 4000000 in
theorem lawLogRecords_any (d p : ByteArray) (n : Int) (w : World) (ht : Tab w) (hd : d.size ≤ 9223372036854775807) (hp : p.size ≤ 9223372036854775807) (hn : -9223372036854775808 ≤ n ∧ n ≤ 9223372036854775807) :
    Calls Tryd.prog 9 #[logV d p n] w fun e w' => e = .returned (.bool true) ∧ Below w.heap.size w w' := by
  have HT := Lib.hid ht
  have HK0 := Lib.hid (below_new w (.cells #[.string d, .string p, .int .i64 n] 36))
  have HL0 := Lib.hid (L3.mk' w (.string d) (.string p) (.int .i64 n) 36)
  clear ht
  by_cases hl1 : (d.size : Int) + p.size ≤ 1048576
  case neg =>
    have HS := Lib.hid (fun w => szLog_no d p n 1048576 w hd hp (by omega) (by omega) (by omega))
    unfold logV at *
    go_enter Tryd.func9, Tryd.ntmps9
    go_wp2_with fail
    refine (HS.out _).mono ?_
    rintro e w1 ⟨rfl, hb1⟩
    have HK1 := Lib.hid (HK0.out.trans (hb1.mono HK0.out.size)); clear hb1
    go_wp2
    go_ret
    exact ⟨rfl, HK1.out⟩
  have HS := Lib.hid (fun w => szLog_yes d p n 1048576 w (by omega) (by omega) hl1)
  have hpos : 0 ≤ (1048576 : Int) - d.size - p.size := by omega
  have HTL := Lib.hid (fun w => toLog_any d p n w)
  have HG := Lib.hid (fun w => sLogRecords_any d p n w (by omega) (by omega))
  have HI := Lib.hid (fun w ht => logRecords_any d p n w (by omega) (by omega) ht)
  have HLN := Lib.hid (lrecs_len d p n)
  generalize lrecs d p n = rs at HG HI HLN
  generalize Tx.okLog (logOf d p n) = ok at HG HI
  have hbb : (ok != ok) = false := by simp
  have hqq : ((1 + 2 * (rs.length : Int)) != (1 + 2 * (rs.length : Int))) = false := by simp
  have hq0 : 0 ≤ 1 + 2 * (rs.length : Int) := by omega
  have hrl : rs.length ≤ 60 := HLN.out
  have HR1 : Hid (rs.length ≤ 9223372036854775807) := (by omega : rs.length ≤ 9223372036854775807)
  have HR2 : Hid (rs.length ≤ 1000) := (by omega : rs.length ≤ 1000)
  unfold logV LRsEnd at *
  go_enter Tryd.func9, Tryd.ntmps9
  go_wp2_with fail
  refine (HS.out _).mono ?_
  rintro e w1 ⟨rfl, hb1⟩
  have HL1 := Lib.hid (HL0.out.next hb1)
  have HK1 := Lib.hid (HK0.out.trans (hb1.mono HK0.out.size)); clear hb1
  obtain ⟨u0, u1, u2, _⟩ := HL1.out
  go_wp2_with fail
  refine (HTL.out _).mono ?_
  rintro e w2 ⟨rfl, hb⟩
  have HL2 := Lib.hid (HL1.out.next hb)
  have HK2 := Lib.hid (HK1.out.trans (hb.mono HK1.out.size)); clear hb u0 u1 u2
  go_wp2_with fail
  refine (HG.out _).mono ?_
  rintro e w3 ⟨aw, cw, rfl, ho, hb⟩
  have HW3 := Lib.hid (lr_of_own ho)
  have HWb : Hid (∀ b off, aw = some ⟨b, off, none⟩ → b < w3.heap.size) := fun b off e => (ho.lt b (by rw [e]; rfl)).2
  have HL3 := Lib.hid (HL2.out.next hb)
  have HK3 := Lib.hid (HK2.out.trans (hb.mono HK2.out.size)); clear hb ho
  obtain ⟨u0, u1, u2, _⟩ := HL3.out
  go_wp2_with fail
  refine (HTL.out _).mono ?_
  rintro e w4 ⟨rfl, hb⟩
  have HW4 := Lib.hid (HW3.out.below (Nat.le_refl _) hb)
  have HZ4 := Lib.hid hb.size
  have HL4 := Lib.hid (HL3.out.next hb)
  have HK4 := Lib.hid (HK3.out.trans (hb.mono HK3.out.size)); clear hb u0 u1 u2
  go_wp2_with fail
  refine (HI.out _ (HT.out.below HK4.out)).mono ?_
  rintro e w5 ⟨ag, cg, rfl, ho, hb⟩
  have S5 := Lib.hid (LS.mk (HK4.out.trans (hb.mono HK4.out.size)) (HL4.out.next hb) (HW4.out.below (Nat.le_refl _) hb) ho : LS w w5 d p n aw ag rs rs cg w4.heap.size)
  clear hb ho
  go_wp2_with fail
  refine (eqLogRecordS_same _ _ _ _ rs _ HR1.out (lr_of_own S5.out.og) S5.out.hw).mono ?_
  rintro e w6 ⟨rfl, hb⟩
  have S6 := Lib.hid (S5.out.next hb); clear hb
  go_wp2_with fail
  refine (mark1 _ _ _ rs _ HR2.out S6.out.og).mono ?_
  rintro e w7 ⟨rfl, ho, hg⟩
  have hrow : ∀ k, (Value.slice ag rs.length cg).ownBlock = some k → w4.heap.size ≤ k := fun k hk => (S6.out.og.lt k hk).1
  have ho' : w7.ownsRow w4.heap.size 27 2 (.slice ag (mkL rs 1 rs.length).length cg) (mkL rs 1 rs.length).length (flat encL (mkL rs 1 rs.length)) := by rw [mkL_len]; exact ho
  have S7 := Lib.hid (LS.mk (below_of_grown S6.out.bel S6.out.bel.size hg (fun k hk => Nat.le_trans HK4.out.size (hrow k hk))) (S6.out.log.grown hg (fun e => by have h1 := hrow _ e; have h2 := HL4.out.lt; omega)) (S6.out.hw.grown hg (fun b off e h => by have h1 := hrow _ h; have h2 := HWb.out b off e; have h3 := HZ4.out; omega)) ho' : LS w w7 d p n aw ag rs (mkL rs 1 rs.length) cg w4.heap.size)
  clear ho ho' hg hrow
  go_wp2_with fail
  refine (held1 _ _ rs.length rs _ rfl HR2.out (lr_of_own S7.out.og)).mono ?_
  rintro e w8 ⟨rfl, hb⟩
  have S8 := Lib.hid (S7.out.next hb); clear hb
  obtain ⟨u0, u1, u2, _⟩ := S8.out.log
  go_wp2_with fail
  refine (HTL.out _).mono ?_
  rintro e w9 ⟨rfl, hb⟩
  have S9 := Lib.hid (S8.out.next hb); clear hb u0 u1 u2
  go_wp2_with fail
  refine (HI.out _ (HT.out.below S9.out.bel)).mono ?_
  rintro e w10 ⟨ah, ch, rfl, ho, hb⟩
  have HH := Lib.hid (lr_of_own ho)
  have S10 := Lib.hid (S9.out.next hb); clear hb ho
  go_wp2_with fail
  refine (eqLogRecordS_same _ _ _ _ rs _ HR1.out HH.out S10.out.hw).mono ?_
  rintro e w11 ⟨rfl, hb⟩
  have S11 := Lib.hid (S10.out.next hb); clear hb
  go_wp2_with fail
  refine (held1 _ _ rs.length rs _ rfl HR2.out (lr_of_own S11.out.og)).mono ?_
  rintro e w12 ⟨rfl, hb⟩
  have S12 := Lib.hid (S11.out.next hb); clear hb
  go_wp2
  go_ret
  exact ⟨rfl, S12.out.bel⟩

end Go.Proofs.YtfdhicojnbicgaaDoor
