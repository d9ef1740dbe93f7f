/- Several texts in one: lemmas and walks of the functions that the laws reach. -/
import Derived.Test.YtoebegdepnigbaaDoorY3
import Derived.Test.YtoebegdepnigbaaDoorY2

/- Walks: records of the laws, turned and compared. -/
namespace Go.Proofs.YtoebegdepnigbaaDoor
open Go.RowKit
set_option linter.unusedVariables false

set_option maxHeartbeats 400000 in
theorem toRecord_any (k t : Int) (w : World) :
    Calls Tryd.prog 29 #[.agg #[.int .i64 k, .int .i64 t]] w fun e w' => e = .returned (.agg #[.int .i64 k, .int .i64 t]) ∧ Below w.heap.size w w' := by
  go_enter Tryd.func29, Tryd.ntmps29
  go_wp2
  refine bodyPost_ret (v := .agg #[.int .i64 k, .int .i64 t]) (by simp [results, Tryd.results29, go_sem]) rfl ⟨rfl, ?_⟩
  (repeat (first | exact Below.refl _ _ | assumption | refine Below.setCell ?_ (by first | omega | (simp; done) | (simp; omega)) _ | refine Below.alloc ?_ (by first | omega | (simp; done) | (simp; omega)) _ | refine Below.drew ?_ | refine below_drewN ?_ _))

set_option maxHeartbeats 400000 in
theorem szRecordS_yes (a : Option Addr) (c : Nat) (rs : List (Int × Int)) (l : Int) (w : World) (h0 : -1 ≤ l) (h1 : l ≤ 1048576) (h : rs.length ≤ l) :
    Calls Tryd.prog 6 #[.slice a rs.length c, .int .i64 l] w fun e w' => e = .returned (.int .i64 (l - rs.length)) ∧ w = w' := by
  go_enter Tryd.func6, Tryd.ntmps6
  go_wp2
  go_ret
  exact ⟨rfl, rfl⟩

set_option maxHeartbeats 400000 in
theorem szRecordS_no (a : Option Addr) (c : Nat) (rs : List (Int × Int)) (l : Int) (w : World) (hl : rs.length ≤ 9223372036854775807) (h1 : 0 ≤ l) (h2 : l ≤ 1048576) (h : l < rs.length) :
    Calls Tryd.prog 6 #[.slice a rs.length c, .int .i64 l] w fun e w' => e = .returned (.int .i64 (-1)) ∧ w = w' := by
  go_enter Tryd.func6, Tryd.ntmps6
  go_wp2
  go_ret
  exact ⟨rfl, rfl⟩

set_option maxHeartbeats 400000 in
theorem eqRecord_any (k t k' t' : Int) (w : World) :
    Calls Tryd.prog 37 #[.agg #[.int .i64 k, .int .i64 t], .agg #[.int .i64 k', .int .i64 t']] w fun e w' => e = .returned (.bool (decide ((k, t) = (k', t')))) ∧ Below w.heap.size w w' := by
  by_cases h1 : k = k'
  · subst h1
    have e1 : (k != k) = false := by simp
    by_cases h2 : t = t'
    · subst h2
      have e2 : (t != t) = false := by simp
      go_enter Tryd.func37, Tryd.ntmps37
      go_wp2
      go_ret
      exact ⟨ret_bool (by simp), ((Below.refl _ _).alloc (Nat.le_refl _) _).alloc (by simp) _⟩
    · have e2 : (t != t') = true := by simpa using h2
      go_enter Tryd.func37, Tryd.ntmps37
      go_wp2
      go_ret
      exact ⟨ret_bool (by simp [h2]), ((Below.refl _ _).alloc (Nat.le_refl _) _).alloc (by simp) _⟩
  · have e1 : (k != k') = true := by simpa using h1
    go_enter Tryd.func37, Tryd.ntmps37
    go_wp2
    go_ret
    exact ⟨ret_bool (by simp [h1]), ((Below.refl _ _).alloc (Nat.le_refl _) _).alloc (by simp) _⟩

set_option maxHeartbeats 800000 in
theorem toRecordS_any (a : Option Addr) (cap : Nat) (zs : List (Int × Int)) (w : World) (hlen : zs.length ≤ 1048576) (h : RecsAt w a zs) :
    Calls Tryd.prog 8 #[.slice a zs.length cap] w fun e w' => e = .returned (.slice (some ⟨w.heap.size, 0, none⟩) zs.length zs.length) ∧
      w'.ownsRow w.heap.size 56 2 (.slice (some ⟨w.heap.size, 0, none⟩) zs.length zs.length) zs.length (flat encR zs) ∧ Below w.heap.size w w' := by
  have H := Lib.hid h; clear h
  go_enter Tryd.func8, Tryd.ntmps8
  go_wp2_with (at_make; refine wpList_mk slRec rfl _ _ rfl zs.length rfl rfl (by omega) ?_)
  intro w1 hown hb hsz
  have hown : w1.ownsRow w.heap.size 56 2 (.slice (some ⟨w.heap.size, 0, none⟩) zs.length zs.length) zs.length (flat encR (fillL zs.length 0 (fun j => zs.getD j (0, 0)) (0, 0))) := by
    rw [fillL_zero, ← made2 encR_len (0, 0) (.int .i64 0) (.int .i64 0) rfl]; exact hown
  have HO := Lib.hid hown; clear hown
  have HB := Lib.hid hb; clear hb hsz
  go_wp2
  go_loopw [4] (fun i wr => ∃ k : Nat, k ≤ zs.length ∧ i = .int .i64 k ∧ wr.ownsRow w.heap.size 56 2 (.slice (some ⟨w.heap.size, 0, none⟩) zs.length zs.length) zs.length (flat encR (fillL zs.length k (fun j => zs.getD j (0, 0)) (0, 0))) ∧ Below w.heap.size w wr) (fun i _ => zs.length - (intOf i).toNat)
  case atStart => exact ⟨0, by omega, rfl, HO.out, HB.out⟩
  case round =>
    obtain ⟨k, hk, rfl, hown, hb⟩ := hrel
    clear HO HB
    by_cases hlt : k < zs.length
    · obtain ⟨b, off, rfl, hc1, hc2⟩ := (H.out.below (Nat.le_refl _) hb).at hlt
      have HR : Hid (encR (zs.getD k (0, 0)) = [.int .i64 (zs.getD k (0, 0)).1, .int .i64 (zs.getD k (0, 0)).2]) := rfl
      have HF := Lib.hid (fillL_succ (fun j => zs.getD j (0, 0)) (0, 0) hlt)
      generalize hr : zs.getD k (0, 0) = r at hc1 hc2 HR HF
      have HZ := Lib.hid hr; clear hr
      obtain ⟨x, y⟩ := r
      have HOW := Lib.hid hown; clear hown
      have HB := Lib.hid hb; clear hb
      go_wp2_with fail
      refine (toRecord_any x y _).mono ?_
      rintro e w2 ⟨rfl, hb2⟩
      have HO2 := Lib.hid (own_below HOW.out (Nat.le_refl _) hb2)
      have HB2 := Lib.hid (HB.out.trans (hb2.mono (HB.out.size)))
      clear hb2
      go_wp2_with (refine wpList_put slRec rfl (.tmp 21) (.tmp 20) rfl k rfl [.int .i64 x, .int .i64 y] rfl rfl (by simp [Value.oneCell']) HO2.out hlt ?_)
      intro w3 ho3 hg3
      have HB3 := Lib.hid (below_app HB2.out HB2.out.size HO2.out (Nat.le_refl _) hg3)
      have hq := flat_put encR_len _ k (by rw [fillL_length]; exact hlt : k < (fillL zs.length k (fun j => zs.getD j (0, 0)) (0, 0)).length) (x, y)
      rw [HF.out] at hq
      have ho4 : w3.ownsRow w.heap.size 56 2 (.slice (some ⟨w.heap.size, 0, none⟩) zs.length zs.length) zs.length (flat encR (fillL zs.length (k + 1) (fun j => zs.getD j (0, 0)) (0, 0))) := by
        rw [← hq]; simpa [encR] using ho3
      have HO3 := Lib.hid ho4; clear ho4
      clear ho3 hg3 hq
      go_wp2
      go_roundw
      case rel => exact ⟨k + 1, by omega, by go_num, HO3.out, HB3.out⟩
      case measure => simp [intOf]; omega
    · have e : k = zs.length := by omega
      subst e
      rw [fillL_end] at hown
      have HO := Lib.hid hown; clear hown
      have HB := Lib.hid hb; clear hb
      go_wp2
      go_ret
      exact ⟨rfl, HO.out, HB.out⟩

set_option maxRecDepth 100000 in
set_option maxHeartbeats 800000 in
theorem eqRecordS_any (a a' : Option Addr) (cap cap' : Nat) (zs ys : List (Int × Int)) (w : World) (hlen : zs.length ≤ 9223372036854775807) (hlen' : ys.length ≤ 9223372036854775807) (h : RecsAt w a zs) (h' : RecsAt w a' ys) :
    Calls Tryd.prog 11 #[.slice a zs.length cap, .slice a' ys.length cap'] w fun e w' => e = .returned (.bool (decide (zs = ys))) ∧ Below w.heap.size w w' := by
  have H := Lib.hid h; clear h
  have H' := Lib.hid h'; clear h'
  by_cases hl : zs.length = ys.length
  · have HL := Lib.hid hl
    have hne : ((zs.length : Int) != (ys.length : Int)) = false := by rw [hl]; simp
    clear hl
    go_enter Tryd.func11, Tryd.ntmps11
    go_wp2
    go_loopw [5] (fun i wr => ∃ k : Nat, k ≤ zs.length ∧ i = .int .i64 k ∧ (∀ j, j < k → zs.getD j (0, 0) = ys.getD j (0, 0)) ∧ Below w.heap.size w wr) (fun i _ => zs.length - (intOf i).toNat)
    case atStart => exact ⟨0, by omega, rfl, by intro j h; omega, Below.refl _ _⟩
    case round =>
      obtain ⟨k, hk, rfl, hall, hb⟩ := hrel
      have HA := Lib.hid hall; clear hall
      have HB := Lib.hid hb; clear hb
      by_cases hlt : k < zs.length
      · obtain ⟨b, off, rfl, hc1, hc2⟩ := (H.out.below (Nat.le_refl _) HB.out).at hlt
        have hlt' : k < ys.length := by rw [← HL.out]; exact hlt
        obtain ⟨b', off', rfl, hc3, hc4⟩ := (H'.out.below (Nat.le_refl _) HB.out).at hlt'
        generalize hx : zs.getD k (0, 0) = x at hc1 hc2
        generalize hy : ys.getD k (0, 0) = y at hc3 hc4
        have HX := Lib.hid hx; clear hx
        have HY := Lib.hid hy; clear hy
        obtain ⟨x1, x2⟩ := x
        obtain ⟨y1, y2⟩ := y
        go_wp2_with fail
        go_still_tail 8, (by kernel_rfl)
        go_wp2_with fail
        refine (eqRecord_any x1 x2 y1 y2 _).mono ?_
        rintro e w2 ⟨rfl, hb2⟩
        have HB2 := Lib.hid (HB.out.trans ((Below.refl _ _).drew.trans (hb2.mono HB.out.size)))
        clear hb2
        by_cases hxy : (x1, x2) = (y1, y2)
        · have hd : decide ((x1, x2) = (y1, y2)) = true := decide_eq_true hxy
          rw [hd]
          have HQ := Lib.hid hxy; clear hxy hd
          go_wp2
          go_roundw
          case rel =>
            refine ⟨k + 1, by omega, by go_num, fun j hj => ?_, HB2.out⟩
            rcases Nat.lt_succ_iff_lt_or_eq.1 hj with h | rfl
            · exact HA.out j h
            · rw [HX.out, HY.out, HQ.out]
          case measure => simp [intOf]; omega
        · have hd : decide ((x1, x2) = (y1, y2)) = false := decide_eq_false hxy
          rw [hd]
          have HQ := Lib.hid hxy; clear hxy hd
          go_wp2
          go_ret
          refine ⟨ret_bool ?_, HB2.out⟩
          symm; apply decide_eq_false
          intro e
          exact HQ.out (by rw [← HX.out, ← HY.out, e])
      · go_wp2
        go_ret
        refine ⟨ret_bool ?_, HB.out⟩
        symm; apply decide_eq_true
        apply List.ext_getElem HL.out
        intro j h1 h2
        have := HA.out j (by omega)
        simpa [List.getD, h1, h2] using this
  · have hne : ((zs.length : Int) != (ys.length : Int)) = true := by simpa using (by omega : ¬ (zs.length : Int) = ys.length)
    have HL := Lib.hid hl; clear hl
    go_enter Tryd.func11, Tryd.ntmps11
    go_wp2
    go_ret
    refine ⟨ret_bool ?_, Below.refl _ _⟩
    symm; apply decide_eq_false
    intro e
    exact HL.out (by rw [e])

end Go.Proofs.YtoebegdepnigbaaDoor

/- General lemmas: what is kept while another block is written; whole variables stored; marks. -/
namespace Go.Proofs.YtoebegdepnigbaaDoor
open Go.RowKit
set_option linter.unusedVariables false

theorem grown_trans {a b c : World} {row : Option Nat} (h : a.grownBy b row) (k : b.grownBy c row) : a.grownBy c row :=
  ⟨k.os.trans h.os, k.tape.trans h.tape, k.output.trans h.output, Nat.le_trans h.size k.size, fun i hi hne => (k.block i (Nat.lt_of_lt_of_le hi h.size) hne).trans (h.block i hi hne)⟩
theorem grown_refl (w : World) (row : Option Nat) : w.grownBy w row := ⟨rfl, rfl, rfl, Nat.le_refl _, fun _ _ _ => rfl⟩
theorem grown_of_below {w w' : World} {row : Option Nat} (h : Below w.heap.size w w') : w.grownBy w' row := ⟨h.os, h.tape, h.output, h.size, fun k hk _ => h.block k hk⟩
theorem below_of_grown {B : Nat} {w0 w w' : World} {row : Option Nat} (h : Below B w0 w) (hB : B ≤ w.heap.size) (hg : w.grownBy w' row) (hr : ∀ k, row = some k → B ≤ k) : Below B w0 w' := h.grown hg hB hr

theorem IntsAt.grown {w w' : World} {row : Option Nat} {a : Option Addr} {zs : List Int} (h : IntsAt w a zs) (hg : w.grownBy w' row) (hne : ∀ b off, a = some ⟨b, off, none⟩ → row ≠ some b) : IntsAt w' a zs := by
  rcases h with h | ⟨b, off, h1, h0, h2⟩
  · exact .inl h
  · refine .inr ⟨b, off, h1, Nat.lt_of_lt_of_le h0 hg.size, fun j hj => ?_⟩
    have hb := hg.block b h0 (fun e => hne b off h1 e.symm)
    rw [World.cell?_of_block (w := w) (w' := w') (a := ⟨b, off + j, none⟩) hb]; exact h2 j hj

theorem RecsAt.grown {w w' : World} {row : Option Nat} {a : Option Addr} {zs : List (Int × Int)} (h : RecsAt w a zs) (hg : w.grownBy w' row) (hne : ∀ b off, a = some ⟨b, off, none⟩ → row ≠ some b) : RecsAt w' a zs := by
  rcases h with h | ⟨b, off, h1, h0, h2⟩
  · exact .inl h
  · refine .inr ⟨b, off, h1, Nat.lt_of_lt_of_le h0 hg.size, fun j hj => ?_⟩
    have hb := hg.block b h0 (fun e => hne b off h1 e.symm)
    rw [World.cell?_of_block (w := w) (w' := w') (a := ⟨b, off + j * 2, none⟩) hb, World.cell?_of_block (w := w) (w' := w') (a := ⟨b, off + j * 2 + 1, none⟩) hb]; exact h2 j hj

/-- Two lists owned from two bases lie in two blocks. -/
theorem own_ne {w w2 : World} {B1 B2 : Nat} {e1 e2 : TypeId} {s1 s2 n1 n2 : Nat} {v1 v2 : Value} {x1 x2 : List Value} (h1 : w.ownsRow B1 e1 s1 v1 n1 x1) (hB : w.heap.size ≤ B2) (h2 : w2.ownsRow B2 e2 s2 v2 n2 x2) : ∀ k, v1.ownBlock = some k → v2.ownBlock ≠ some k := by
  intro k a b
  have := (h1.lt k a).2
  have := (h2.lt k b).1
  omega

theorem ownBlock_slice {b off : Nat} {n c : Nat} : (Value.slice (some ⟨b, off, none⟩) n c).ownBlock = some b := rfl

theorem block_row {w w' : World} {g : Nat} {row : Option Nat} {o : Obj} (h : w.heap[g]? = some o) (hg : w.grownBy w' row) (hne : row ≠ some g) : w'.heap[g]? = some o := by
  rw [hg.block g (Array.getElem?_eq_some_iff.1 h).1 (fun e => hne e.symm)]; exact h

theorem block_below {w w' : World} {g B : Nat} {o : Obj} (h : w.heap[g]? = some o) (hb : Below B w w') (hlt : g < B) : w'.heap[g]? = some o := by
  rw [hb.block g hlt]; exact h

theorem block_new (w : World) (o : Obj) : (w.alloc o).heap[w.heap.size]? = some o := heap_alloc_new w o

theorem row_cell {w : World} {g : Nat} {cs : Array Value} {e : TypeId} {f : Nat × Nat} (h : w.heap[g]? = some (.cells cs e f)) (j : Nat) : w.cell? ⟨g, j, none⟩ = cs[j]? := cell_of_row w g j cs e f h

/-- A whole variable is stored. -/
theorem wpList_var {P : Program} {w : World} {ops : Array Oper} {rest : List Oper} {o : Oper} {a : Act} {Q : Exit → Act → World → Prop} (hgd : o.guard = none) (ty : TypeId) (x y : Operand) (ho : o.op = .store ty x y)
    {g : Nat} {cells : Array Value} (hx : a.eval x = .pointer (some ⟨g, 0, none⟩)) (hy : a.eval y = .agg cells) {t : TypeId} {old : Array Value} (hg : w.heap[g]? = some (.cells old t (0, 0)))
    (hi : (P.info? ty).map (·.size) = some cells.size) (hold : old.size = cells.size) (h1 : cells.all (·.oneCell') = true)
    (h : ∀ w', w'.heap[g]? = some (.cells cells t (0, 0)) → w.grownBy w' (some g) → wpList P ops Q rest (a.put o.dst undef) w') : wpList P ops Q (o :: rest) a w := by
  refine wpList_plain hgd fun K hK => ?_
  refine wp_store_row ty x y ho g cells hx hy t old hg hi hold h1 (hK _ _ (h _ (setRow_heap w g old cells t (0, 0) hg) ⟨rfl, rfl, rfl, by simp, fun q _ hq => setRow_other w g q _ (fun e => hq (by simp [e]))⟩))

/-- The marks on n records from k on; the first i are laid, the others still as they were. -/
def mkR (rs : List (Int × Int)) (k : Int) (i : Nat) : List (Int × Int) := (List.range rs.length).map fun j : Nat => if j < i then (k + 2 * (j : Int), k + 2 * (j : Int) + 1) else rs.getD j (0, 0)
theorem mkR_len (rs : List (Int × Int)) (k : Int) (i : Nat) : (mkR rs k i).length = rs.length := by simp [mkR]
theorem mkR_zero (rs : List (Int × Int)) (k : Int) : mkR rs k 0 = rs := by
  apply List.ext_getElem
  · simp [mkR]
  · intro j h1 h2; simp [mkR, List.getD, h2]
theorem mkR_succ {rs : List (Int × Int)} {k : Int} {i : Nat} (h : i < rs.length) : (mkR rs k i).set i (k + 2 * (i : Int), k + 2 * (i : Int) + 1) = mkR rs k (i + 1) := by
  apply List.ext_getElem
  · simp [mkR]
  · intro j h1 h2
    simp only [mkR, List.getElem_set, List.getElem_map, List.getElem_range]
    by_cases e : i = j
    · subst e; simp
    · rw [if_neg e]
      by_cases hl : j < i
      · rw [if_pos hl, if_pos (by omega)]
      · rw [if_neg hl, if_neg (by omega)]
theorem mkR_at {rs : List (Int × Int)} {k : Int} {j : Nat} (h : j < rs.length) : (mkR rs k rs.length).getD j (0, 0) = (k + 2 * (j : Int), k + 2 * (j : Int) + 1) := by
  simp [mkR, List.getD, h]

end Go.Proofs.YtoebegdepnigbaaDoor

/- Walks: consoles compared. -/
namespace Go.Proofs.YtoebegdepnigbaaDoor
open Go.RowKit
set_option linter.unusedVariables false

def eqL (d p : ByteArray) (c : Int) (d' p' : ByteArray) (c' : Int) : Bool := (d.toList == d'.toList) && (p.toList == p'.toList) && (c == c')

set_option maxHeartbeats 400000 in
theorem eqLog_any (d p : ByteArray) (c : Int) (d' p' : ByteArray) (c' : Int) (w : World) :
    Calls Tryd.prog 43 #[.agg #[.string d, .string p, .int .i64 c], .agg #[.string d', .string p', .int .i64 c']] w fun e w' => e = .returned (.bool (eqL d p c d' p' c')) ∧ Below w.heap.size w w' := by
  go_enter Tryd.func43, Tryd.ntmps43
  go_wp2
  all_goals
    go_ret
    exact ⟨ret_bool (by simp_all [eqL]), by (repeat (first | exact Below.refl _ _ | assumption | refine Below.setCell ?_ (by first | omega | (simp; done) | (simp; omega)) _ | refine Below.alloc ?_ (by first | omega | (simp; done) | (simp; omega)) _ | refine Below.drew ?_ | refine below_drewN ?_ _))⟩

def eqC (rs : List (Int × Int)) (d p : ByteArray) (c : Int) (rs' : List (Int × Int)) (d' p' : ByteArray) (c' : Int) : Bool := decide (rs = rs') && eqL d p c d' p' c'

theorem cells4 {w : World} {g : Nat} {x0 x1 x2 x3 : Value} {e : TypeId} {f : Nat × Nat} (h : w.heap[g]? = some (.cells #[x0, x1, x2, x3] e f)) :
    w.cell? ⟨g, 0, none⟩ = some x0 ∧ w.cell? ⟨g, 1, none⟩ = some x1 ∧ w.cell? ⟨g, 2, none⟩ = some x2 ∧ w.cell? ⟨g, 3, none⟩ = some x3 :=
  ⟨row_cell h 0, row_cell h 1, row_cell h 2, row_cell h 3⟩

set_option maxHeartbeats 400000 in
theorem eqConsole_any (a : Option Addr) (n : Nat) (rs : List (Int × Int)) (d p : ByteArray) (c : Int) (a' : Option Addr) (n' : Nat) (rs' : List (Int × Int)) (d' p' : ByteArray) (c' : Int) (w : World) (b1 : rs.length ≤ 9223372036854775807) (b2 : rs'.length ≤ 9223372036854775807) (h1 : RecsAt w a rs) (h2 : RecsAt w a' rs') :
    Calls Tryd.prog 17 #[.agg #[.slice a rs.length n, .string d, .string p, .int .i64 c], .agg #[.slice a' rs'.length n', .string d', .string p', .int .i64 c']] w fun e w' => e = .returned (.bool (eqC rs d p c rs' d' p' c')) ∧ Below w.heap.size w w' := by
  have HB : Hid (Below w.heap.size w ((w.alloc (.cells #[.slice a rs.length n, .string d, .string p, .int .i64 c] 41)).alloc (.cells #[.slice a' rs'.length n', .string d', .string p', .int .i64 c'] 41))) := ((Below.refl _ _).alloc (Nat.le_refl _) _).alloc (by simp) _
  have R1 := Lib.hid ((block_new w (.cells #[.slice a rs.length n, .string d, .string p, .int .i64 c] 41)))
  have R2 := Lib.hid ((block_new (w.alloc (.cells #[.slice a rs.length n, .string d, .string p, .int .i64 c] 41)) (.cells #[.slice a' rs'.length n', .string d', .string p', .int .i64 c'] 41)))
  have HE := Lib.hid (eqRecordS_any a a' n n' rs rs' _ b1 b2 (h1.below (Nat.le_refl _) HB.out) (h2.below (Nat.le_refl _) HB.out))
  clear h1 h2
  go_enter Tryd.func17, Tryd.ntmps17
  go_wp2_with fail
  refine HE.out.mono ?_
  rintro e w1 ⟨rfl, hb⟩
  have HB1 := Lib.hid (HB.out.trans (hb.mono HB.out.size))
  have Q1 := Lib.hid (block_below (block_row R1.out (World.grownBy_alloc _ _ (row := none)) (by simp)) hb (by simp; omega))
  have Q2 := Lib.hid (block_below R2.out hb (by simp))
  rw [size_al] at Q2
  clear hb
  obtain ⟨c0, c1, c2, c3⟩ := cells4 Q1.out
  obtain ⟨k0, k1, k2, k3⟩ := cells4 Q2.out
  by_cases hq : rs = rs'
  · have HQ := Lib.hid hq
    rw [decide_eq_true hq]
    clear hq
    go_wp2_with fail
    refine (eqLog_any d p c d' p' c' _).mono ?_
    rintro e w2 ⟨rfl, hb⟩
    have HB2 := Lib.hid (HB1.out.trans (hb.mono HB1.out.size))
    clear hb c0 c1 c2 c3 k0 k1 k2 k3
    cases he : eqL d p c d' p' c'
    all_goals
      have HX := Lib.hid he; clear he
      go_wp2
      go_ret
      exact ⟨ret_bool (by rw [eqC, decide_eq_true HQ.out, HX.out]; rfl), HB2.out⟩
  · have HQ := Lib.hid hq
    rw [decide_eq_false hq]
    clear hq
    go_wp2
    go_ret
    exact ⟨ret_bool (by rw [eqC, decide_eq_false HQ.out]; rfl), HB1.out⟩

end Go.Proofs.YtoebegdepnigbaaDoor

/- Walks: the check 'all' on records; keys; the first descent. -/
namespace Go.Proofs.YtoebegdepnigbaaDoor
open Go.RowKit
set_option linter.unusedVariables false

set_option maxHeartbeats 400000 in
theorem isRecord_any (k t : Int) (w : World) :
    Calls Tryd.prog 53 #[.agg #[.int .i64 k, .int .i64 t]] w fun e w' => e = .returned (.bool (okRec (k, t))) ∧ Below w.heap.size w w' := by
  have HK := Lib.hid (fun w1 => isKey_any k w1)
  have HN := Lib.hid (fun w1 => in_any t 0 999 w1)
  have HE : okRec (k, t) = (okKey k && inB t 0 999) := rfl
  rw [HE]
  have HB : Hid (Below w.heap.size w (w.alloc (.cells #[.int .i64 k, .int .i64 t] 56))) := (Below.refl _ _).alloc (Nat.le_refl _) _
  clear HE
  cases h1 : okKey k
  all_goals
    rw [h1] at HK
    clear h1
    go_enter Tryd.func53, Tryd.ntmps53
    go_wp2_with (first | (go_at_call 69; refine (HK.out _).mono ?_; rintro e w' ⟨rfl, rfl⟩) | (go_at_call 54; refine (HN.out _).mono ?_; rintro e w' ⟨rfl, rfl⟩))
    go_ret
    exact ⟨rfl, HB.out⟩

/-- A function value that answers a predicate on records; it may make memory of its own. -/
def IsPredR (w : World) (hv : Value) (p : Int × Int → Bool) : Prop :=
  ∃ G cp, hv = .func (.func G) #[] cp ∧ (∀ args w, (callFunc G args).run Tryd.prog w = .ok (.enter G args) w) ∧ ∀ w1, Below w.heap.size w w1 → ∀ x : Int × Int, Calls Tryd.prog G (#[.agg #[.int .i64 x.1, .int .i64 x.2]] ++ cp) w1 fun e w' => e = .returned (.bool (p x)) ∧ Below w1.heap.size w1 w'

theorem isRecord_pred (w : World) : IsPredR w (.func (.func 53) #[] #[]) okRec :=
  ⟨_, _, rfl, fun _ _ => by kernel_rfl, fun w1 _ x => by simpa using isRecord_any x.1 x.2 w1⟩

set_option maxHeartbeats 400000 in
theorem allcR_any (pc : Nat) (hv : Value) (p : Int × Int → Bool) (w0 w : World) (hp : IsPredR w0 hv p) (hb : Below w0.heap.size w0 w) (hc : w.cell? ⟨pc, 0, none⟩ = some hv) (x : Int × Int) :
    Calls Tryd.prog 68 #[.agg #[.int .i64 x.1, .int .i64 x.2], .pointer (some ⟨pc, 0, none⟩)] w fun e w' => e = .returned (.bool (!p x)) ∧ Below w.heap.size w w' := by
  obtain ⟨G, cp, rfl, hcall, hp⟩ := hp
  have hsz := World.block_lt_of_cell? w _ hc
  have hb2 : Below w.heap.size w (w.alloc (.cells #[.int .i64 x.1, .int .i64 x.2] 56)) := (Below.refl _ _).alloc (Nat.le_refl _) _
  have HP := Lib.hid (hp _ (hb.trans (hb2.mono hb.size)) x)
  have HB := Lib.hid hb2
  clear hp hb hb2
  obtain ⟨k, t⟩ := x
  have hcall := hcall (#[.agg #[.int .i64 k, .int .i64 t]] ++ cp)
  go_enter Tryd.func68, Tryd.ntmps68
  go_wp2_with fail
  refine HP.out.mono ?_
  rintro e w' ⟨rfl, hb3⟩
  have HB3 := Lib.hid (HB.out.trans (hb3.mono HB.out.size))
  clear hb3
  go_wp2
  go_ret
  exact ⟨rfl, HB3.out⟩

set_option maxHeartbeats 400000 in
theorem indexFuncR_any (a : Option Addr) (cap : Nat) (zs : List (Int × Int)) (pc : Nat) (hv : Value) (p : Int × Int → Bool) (w0 w : World) (hbig : zs.length ≤ 9223372036854775807) (h : RecsAt w a zs)
    (hp : IsPredR w0 hv p) (hb : Below w0.heap.size w0 w) (hc : w.cell? ⟨pc, 0, none⟩ = some hv) :
    Calls Tryd.prog 81 #[.slice a zs.length cap, .func (.func 68) #[] #[.pointer (some ⟨pc, 0, none⟩)]] w
      fun e w' => (∃ n : Int, e = .returned (.int .i64 n) ∧ decide (0 ≤ n) = zs.any (fun x => !p x)) ∧ Below w.heap.size w w' := by
  have hsz := World.block_lt_of_cell? w _ hc
  have H := Lib.hid h; clear h
  have HC := Lib.hid hc; clear hc
  have HP := Lib.hid hp; clear hp
  have HB := Lib.hid hb; clear hb
  have HZ := Lib.hid hsz; clear hsz
  go_enter Tryd.func81, Tryd.ntmps81
  go_wp2
  go_loopw [8] (fun i wr => ∃ k : Nat, k ≤ zs.length ∧ i = .int .i64 k ∧ (∀ j, j < k → p (zs.getD j (0, 0)) = true) ∧ Below w.heap.size w wr) (fun i _ => zs.length - (intOf i).toNat)
  case atStart => exact ⟨0, by omega, rfl, by intro j h; omega, Below.refl _ _⟩
  case round =>
    obtain ⟨k, hk, rfl, hall, hbr⟩ := hrel
    have Hall := Lib.hid hall; clear hall
    by_cases h1 : k < zs.length
    · obtain ⟨b, off, rfl, hc1, hc2⟩ := (H.out.below (Nat.le_refl _) hbr).at h1
      have hcw : wr.cell? ⟨pc, 0, none⟩ = some hv := (hbr.cell (p := ⟨pc, 0, none⟩) HZ.out).trans HC.out
      have HQ := Lib.hid (allcR_any pc hv p w0 wr HP.out (HB.out.trans (hbr.mono HB.out.size)) hcw (zs.getD k (0, 0)))
      generalize hx : zs.getD k (0, 0) = x at hc1 hc2 HQ
      have Hx := Lib.hid hx; clear hx hcw
      have HBR := Lib.hid hbr; clear hbr
      obtain ⟨x1, x2⟩ := x
      go_wp2_with fail
      refine HQ.out.mono ?_
      rintro e w2 ⟨rfl, hb2⟩
      have HB2 := Lib.hid (HBR.out.trans (hb2.mono HBR.out.size)); clear hb2
      cases hq : p (x1, x2)
      · have HV := Lib.hid hq; clear hq
        go_wp2
        go_ret
        refine ⟨⟨_, rfl, ?_⟩, HB2.out⟩
        rw [List.any_eq_true.2 ⟨zs[k], List.getElem_mem h1, by
          have : zs[k] = (x1, x2) := by rw [← Hx.out]; simp [List.getD, h1]
          rw [this, HV.out]; rfl⟩]
        simp
      · have HV := Lib.hid hq; clear hq
        go_wp2
        go_roundw
        case rel =>
          refine ⟨k + 1, by omega, by go_num, fun j hj => ?_, HB2.out⟩
          rcases Nat.lt_succ_iff_lt_or_eq.1 hj with h | rfl
          · exact Hall.out j h
          · rw [Hx.out]; exact HV.out
        case measure => simp [intOf]; omega
    · have HBR := Lib.hid hbr; clear hbr
      go_wp2
      go_ret
      refine ⟨⟨_, rfl, ?_⟩, HBR.out⟩
      rw [List.any_eq_false.2 (fun x hx => by
        obtain ⟨j, hj, rfl⟩ := List.getElem_of_mem hx
        have := Hall.out j (by omega)
        simp only [List.getD, List.getElem?_eq_getElem hj, Option.getD_some] at this
        simp [this])]
      rfl

set_option maxHeartbeats 400000 in
theorem containsFuncR_any (a : Option Addr) (cap : Nat) (zs : List (Int × Int)) (pc : Nat) (hv : Value) (p : Int × Int → Bool) (w0 w : World) (hbig : zs.length ≤ 9223372036854775807) (h : RecsAt w a zs)
    (hp : IsPredR w0 hv p) (hb : Below w0.heap.size w0 w) (hc : w.cell? ⟨pc, 0, none⟩ = some hv) :
    Calls Tryd.prog 67 #[.slice a zs.length cap, .func (.func 68) #[] #[.pointer (some ⟨pc, 0, none⟩)]] w
      fun e w' => e = .returned (.bool (zs.any (fun x => !p x))) ∧ Below w.heap.size w w' := by
  have HI := Lib.hid (indexFuncR_any a cap zs pc hv p w0 w hbig h hp hb hc)
  clear h hp hb hc
  go_enter Tryd.func67, Tryd.ntmps67
  go_wp2_with fail
  refine HI.out.mono ?_
  rintro e w2 ⟨⟨n, rfl, hn⟩, hb2⟩
  have HN := Lib.hid hn; clear hn
  have HB := Lib.hid hb2; clear hb2
  go_wp2
  go_ret
  exact ⟨ret_bool HN.out, HB.out⟩

set_option maxHeartbeats 400000 in
theorem allR_any (a : Option Addr) (cap : Nat) (zs : List (Int × Int)) (hv : Value) (p : Int × Int → Bool) (w : World) (hbig : zs.length ≤ 9223372036854775807) (h : RecsAt w a zs) (hp : IsPredR w hv p) :
    Calls Tryd.prog 52 #[.slice a zs.length cap, hv] w fun e w' => e = .returned (.bool (zs.all p)) ∧ Below w.heap.size w w' := by
  have hb : Below w.heap.size w (w.alloc (.cells #[hv] 78)) := (Below.refl _ _).alloc (Nat.le_refl _) _
  have hc : (w.alloc (.cells #[hv] 78)).cell? ⟨w.heap.size, 0, none⟩ = some hv := by rw [World.cell?_alloc_at _ _ _ _ rfl]; rfl
  have HI := Lib.hid (containsFuncR_any a cap zs w.heap.size hv p w _ hbig (h.below (Nat.le_refl _) hb) hp hb hc)
  have HB := Lib.hid hb
  have he : (!zs.any (fun x => !p x)) = zs.all p := by rw [List.not_any_eq_all_not]; simp
  have HE := Lib.hid he; clear he
  have hmf := hmf
  obtain ⟨G, cp, rfl, _⟩ := hp
  clear h hb hc
  go_enter Tryd.func52, Tryd.ntmps52
  go_wp2_with fail
  refine HI.out.mono ?_
  rintro e w2 ⟨rfl, hb2⟩
  have HB2 := Lib.hid (HB.out.trans (hb2.mono HB.out.size)); clear hb2
  go_wp2
  go_ret
  exact ⟨ret_bool HE.out, HB2.out⟩

set_option maxHeartbeats 400000 in
theorem isValidRecords_any (a : Option Addr) (cap : Nat) (zs : List (Int × Int)) (w : World) (hbig : zs.length ≤ 9223372036854775807) (h : RecsAt w a zs) :
    Calls Tryd.prog 30 #[.slice a zs.length cap] w fun e w' => e = .returned (.bool (okRecs zs)) ∧ Below w.heap.size w w' := by
  have HI := Lib.hid (allR_any a cap zs _ okRec w hbig h (isRecord_pred w))
  clear h
  by_cases hl : zs.length ≤ 64
  all_goals
    go_enter Tryd.func30, Tryd.ntmps30
    go_wp2_with ((go_at_call 52; refine HI.out.mono ?_; rintro e w' ⟨rfl, hb⟩))
    go_ret
    exact ⟨ret_bool (by simp [okRecs, hl]), by first | exact hb | exact Below.refl _ _⟩

end Go.Proofs.YtoebegdepnigbaaDoor

/- Walks on texts: all records of a text, by the program. -/
namespace Go.Proofs.YtoebegdepnigbaaDoor
open Go.RowKit
set_option linter.unusedVariables false

theorem Tryd.infoL : (Tryd.prog.info? 112).map (fun i => (i.zero, i.size, i.bytes)) = some (some (.agg #[.string ⟨#[]⟩, .string ⟨#[]⟩]), 2, 32) := by kernel_rfl
theorem slL : SlT Tryd.prog 96 112 (.agg #[.string ⟨#[]⟩, .string ⟨#[]⟩]) 2 32 := ⟨Tryd.underlying96, info_parts Tryd.infoL, rfl, by decide, by decide⟩
theorem Tryd.infoI : (Tryd.prog.info? 3).map (fun i => (i.zero, i.size, i.bytes)) = some (some (.int .i64 0), 1, 8) := by kernel_rfl
theorem slI : SlT Tryd.prog 23 3 (.int .i64 0) 1 8 := ⟨Tryd.underlying23, info_parts Tryd.infoI, rfl, by decide, by decide⟩

def encL (e : Tx.Rec) : List Value := [.string (ba e.1), .string (ba e.2)]
theorem encL_len (e : Tx.Rec) : (encL e).length = 2 := rfl
def endsL (r : List (Tx.Rec × Nat)) : List Int := (List.range r.length).map fun i => ((Tx.total (r.take (i + 1)) : Nat) : Int)
theorem endsL_len (r : List (Tx.Rec × Nat)) : (endsL r).length = r.length := by simp [endsL]
theorem endsL_snoc (r : List (Tx.Rec × Nat)) (x : Tx.Rec × Nat) : endsL (r ++ [x]) = endsL r ++ [((Tx.total r : Nat) : Int) + (x.2 : Int)] := by
  unfold endsL
  rw [List.length_append, List.length_singleton, List.range_succ, List.map_append]
  congr 1
  · apply List.map_congr_left
    intro i hi
    rw [List.mem_range] at hi
    rw [List.take_append_of_le_length (by omega)]
  · simp only [List.map_cons, List.map_nil]
    rw [List.take_of_length_le (by simp), Tx.total_append, Tx.total_cons, Tx.total_nil]
    simp

theorem extract_bs (s : ByteArray) (a : Nat) : bs (s.extract a s.size) = (bs s).drop a := by
  unfold bs; rw [Lib.extract_to_end]

/-- The two lists that are read off a text, as they lie. -/
def ReadEnd (w : World) (s : ByteArray) (e : Ending) (w' : World) : Prop :=
  ∃ (a1 a2 : Option Addr) (c1 c2 : Nat), e = .returned (.tuple #[.slice a1 (Tx.rd 60 (bs s)).length c1, .slice a2 (Tx.rd 60 (bs s)).length c2]) ∧
    Two w' w.heap.size 112 2 (.slice a1 (Tx.rd 60 (bs s)).length c1) (Tx.rd 60 (bs s)).length (flat encL ((Tx.rd 60 (bs s)).map (·.1))) 3 1 (.slice a2 (Tx.rd 60 (bs s)).length c2) (Tx.rd 60 (bs s)).length ((endsL (Tx.rd 60 (bs s))).map (Value.int .i64)) ∧ Below w.heap.size w w'

set_option maxRecDepth 100000 in
set_option maxHeartbeats 2000000 in
theorem read_any (s : ByteArray) (w : World) (hs : s.size ≤ 4000000000) (ht : Tab w) :
    Calls Tryd.prog 87 #[.string s] w (ReadEnd w s) := by
  have E1 := own_lit (w := w) (e := 112) (size := 2) #[] 0 (by omega) rfl
  have E2 := own_lit (w := w.alloc (.cells #[] 112)) (e := 3) (size := 1) #[] 0 (by omega) rfl
  have E : Hid (Two ((w.alloc (.cells #[] 112)).alloc (.cells #[] 3)) w.heap.size 112 2 (.slice (some ⟨w.heap.size, 0, none⟩) 0 0) 0 [] 3 1 (.slice (some ⟨w.heap.size + 1, 0, none⟩) 0 0) 0 []) :=
    ⟨own_below E1 (Nat.le_refl _) ((Below.refl _ _).alloc (Nat.le_refl _) _), own_mono (by simpa using E2) (by simp), by intro k h1 h2; simp [Value.ownBlock] at h1 h2; omega⟩
  have HT := Lib.hid ht; clear ht E1 E2
  go_enter Tryd.func87, Tryd.ntmps87
  go_wp2
  go_loopw [4, 5, 6] (fun v u i wr => ∃ (acc : List (Tx.Rec × Nat)) (n : Nat), acc.length + n = 60 ∧ acc ++ Tx.rd n ((bs s).drop (Tx.total acc)) = Tx.rd 60 (bs s) ∧ Tx.total acc ≤ s.size ∧ i = .int .i64 (Tx.total acc : Nat) ∧
      Two wr w.heap.size 112 2 v acc.length (flat encL (acc.map (·.1))) 3 1 u acc.length ((endsL acc).map (Value.int .i64)) ∧ Below w.heap.size w wr) (fun v _ _ _ => match v with | .slice _ n _ => 61 - n | _ => 0)
  case atStart => exact ⟨[], 60, rfl, rfl, by simp [Tx.total], rfl, E.out, by (repeat (first | exact Below.refl _ _ | assumption | refine Below.setCell ?_ (by first | omega | (simp; done) | (simp; omega)) _ | refine Below.alloc ?_ (by first | omega | (simp; done) | (simp; omega)) _ | refine Below.drew ?_ | refine below_drewN ?_ _))⟩
  case round =>
    obtain ⟨acc, n, hn, hrd, hat, rfl, htwo, hb⟩ := hrel
    obtain ⟨a1, c1, hv⟩ := own_slice htwo.1
    obtain ⟨a2, c2, hu⟩ := own_slice htwo.2
    subst hv
    subst hu
    clear E
    have HB := Lib.hid hb; clear hb
    have HTw := Lib.hid htwo; clear htwo
    have HTR := Lib.hid (HT.out.below HB.out)
    have HRD := Lib.hid hrd; clear hrd
    have hxs : (s.extract (Tx.total acc) s.size).size ≤ 4000000000 := by rw [← bs_len, extract_bs, List.length_drop, bs_len]; omega
    cases hst : Tx.step acc.length (bs (s.extract (Tx.total acc) s.size)) with
    | none =>
      have HD := Lib.hid (fun w ht => decode_none acc.length (s.extract (Tx.total acc) s.size) w hxs (by omega) ht hst)
      have HE : Hid (acc = Tx.rd 60 (bs s)) := by
        have h := HRD.out
        rw [extract_bs] at hst
        cases n with
        | zero => rw [Tx.rd, List.append_nil] at h; exact h
        | succ m =>
          rw [Tx.rd, show 59 - m = acc.length by omega, hst] at h
          show _ = _
          simpa using h
      clear hst hxs
      generalize Tx.total acc = at0 at *
      go_wp2_with fail
      refine (HD.out _ HTR.out).mono ?_
      rintro e w1 ⟨rfl, hb1⟩
      have HB1 := Lib.hid (HB.out.trans (hb1.mono HB.out.size))
      have HTw1 := Lib.hid (HTw.out.below hb1); clear hb1
      unfold zRec
      go_wp2
      go_ret2
      refine ⟨a1, a2, c1, c2, ret_v2 (by rw [HE.out]; rfl) (by rw [HE.out]; rfl), ?_, ?_⟩
      · have h := (HTw1.out.below (w' := w1.alloc (.cells #[.string ⟨#[]⟩, .string ⟨#[]⟩] 112)) ((Below.refl _ _).alloc (Nat.le_refl _) _))
        rw [HE.out] at h
        exact h
      · exact HB1.out.alloc HB1.out.size _
    | some x =>
      obtain ⟨e0, l⟩ := x
      have HD := Lib.hid (fun w ht => decode_some acc.length (s.extract (Tx.total acc) s.size) e0 l w hxs ht hst)
      obtain ⟨m, rfl⟩ : ∃ m, n = m + 1 := by
        obtain ⟨hk, _⟩ := Tx.step_iff.1 hst
        exact ⟨n - 1, by omega⟩
      have hlt : Tx.total acc + l ≤ s.size := by
        obtain ⟨_, _, hl, tl, htl⟩ := Tx.step_iff.1 hst
        have := congrArg List.length htl
        rw [bs_len] at this
        simp at this
        omega
      have HE : Hid ((acc ++ [(e0, l)]) ++ Tx.rd m ((bs s).drop (Tx.total (acc ++ [(e0, l)]))) = Tx.rd 60 (bs s)) := by
        show _ = _
        have h := HRD.out
        rw [extract_bs] at hst
        rw [Tx.rd, show 59 - m = acc.length by omega, hst] at h
        simp only at h
        rw [Tx.total_append, Tx.total_cons, Tx.total_nil, ← h, List.drop_drop, List.append_assoc]
        simp
      have hEN := Lib.hid (endsL_snoc acc (e0, l))
      have HTO : Hid (Tx.total (acc ++ [(e0, l)]) = Tx.total acc + l) := by
        show _ = _
        rw [Tx.total_append, Tx.total_cons, Tx.total_nil]; simp
      clear hst hxs
      generalize Tx.total acc = at0 at *
      unfold recVE recV at HD
      have hn40 : acc.length + 1 ≤ 1099511627776 := by omega
      go_wp2_with fail
      refine (HD.out _ HTR.out).mono ?_
      rintro e w1 ⟨rfl, hb1⟩
      have HB1 := Lib.hid (show Below w.heap.size w (w1.alloc (.cells #[.string (ba e0.1), .string (ba e0.2)] 112)) from (HB.out.trans (hb1.mono HB.out.size)).alloc (Nat.le_trans HB.out.size hb1.size) _)
      have HTw1 := Lib.hid ((HTw.out.below hb1).below (w' := w1.alloc (.cells #[.string (ba e0.1), .string (ba e0.2)] 112)) ((Below.refl _ _).alloc (Nat.le_refl _) _))
      have hbs1 : w.heap.size ≤ (w1.alloc (.cells #[.string (ba e0.1), .string (ba e0.2)] 112)).heap.size := HB1.out.size
      clear hb1
      go_wp2_with (first
        | (at_builtin; refine wpList_app1 slL rfl (.tmp 29) (.tmp 31) rfl rfl HTw1.out.1 [.string (ba e0.1), .string (ba e0.2)] rfl rfl (by simp) (by simp [Value.oneCell']) hn40 hbs1 ?_; intro v' w2 hown2 hg2 ht2; have HTw2 := Lib.hid (HTw1.out.app1 hown2 hg2 ht2); have HB2 := Lib.hid (below_app HB1.out hbs1 HTw1.out.1 (Nat.le_refl _) hg2); have hbs2 := HB2.out.size; clear hown2 hg2 ht2)
        | (at_builtin; refine wpList_app1 slI rfl (.tmp 33) (.tmp 35) rfl rfl HTw2.out.2 [.int .i64 ((at0 : Int) + (l : Int))] rfl rfl (by simp) (by simp [Value.oneCell']) hn40 hbs2 ?_; intro u' w3 hown3 hg3 ht3; have HTw3 := Lib.hid (HTw2.out.app2 hown3 hg3 ht3); have HB3 := Lib.hid (below_app HB2.out hbs2 HTw2.out.2 (Nat.le_refl _) hg3); clear hown3 hg3 ht3))
      go_roundw
      case rel =>
        refine ⟨acc ++ [(e0, l)], m, by simp; omega, HE.out, by rw [HTO.out]; omega, by rw [HTO.out]; go_num, ?_, HB3.out⟩
        have h := HTw3.out
        rw [List.length_append, List.map_append, flat_append, hEN.out, List.map_append]
        exact h
      case measure =>
        obtain ⟨x1, y1, hx⟩ := own_slice HTw3.out.1
        rw [hx]
        simp
        omega

end Go.Proofs.YtoebegdepnigbaaDoor
