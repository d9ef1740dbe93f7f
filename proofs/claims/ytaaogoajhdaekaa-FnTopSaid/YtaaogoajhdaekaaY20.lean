/- Several texts in one: lemmas and walks of the functions that the law reaches. -/
import Derived.Test.YtaaogoajhdaekaaY19
import Derived.OrdersHeld
import Derived.OwnWalk

namespace Go.Proofs.Ytaaogoajhdaekaa
open Go Go.RowKit Go.Sort
set_option linter.unusedVariables false

theorem belowNewL (w : World) (o : Obj) : Below w.heap.size w (w.alloc o) := (Below.refl _ _).alloc (Nat.le_refl _) _

theorem hlt_ofL {w : World} {g : Nat} {o : Obj} (h : w.heap[g]? = some o) : g < w.heap.size := (Array.getElem?_eq_some_iff.1 h).1

theorem heap_storeNL {w : World} {g : Nat} {cs : Array Value} {e : TypeId} {f : Nat × Nat} (h : w.heap[g]? = some (.cells cs e f)) (j : Nat) (v : Value) : (w.setCell ⟨g, j, none⟩ v).heap[g]? = some (.cells (cs.setIfInBounds j v) e f) := by
  have hlt : g < w.heap.size := (Array.getElem?_eq_some_iff.1 h).1
  have h' : w.heap[g] = .cells cs e f := by simpa [Array.getElem?_eq_getElem hlt] using h
  show (w.heap.modify g _)[g]? = _
  rw [Array.getElem?_eq_getElem (by simpa using hlt), Array.getElem_modify_self, h']
  rfl

end Go.Proofs.Ytaaogoajhdaekaa

namespace Go.Proofs.Ytaaogoajhdaekaa
open Go.RowKit Go.Sort
set_option linter.unusedVariables false
/-- The greatest of the first i keys stands in a block of its own. -/
structure Mx (w0 w : World) (R M : Nat) (L : List (Int × Int)) (i : Nat) (m : Int × Int) : Prop where
  bel : Below w0.heap.size w0 w
  lo : w0.heap.size ≤ R ∧ w0.heap.size ≤ M ∧ R ≠ M
  rz : w.heap[R]? = some (.cells #[.int .i64 0, .int .i64 0] 40 (0, 0))
  mx : w.heap[M]? = some (.cells #[.int .i64 m.1, .int .i64 m.2] 40 (0, 0))
  mem : m ∈ L
  top : ∀ j, j < i → (L.getD j (0, 0)).1 ≤ m.1
theorem Mx.same {w0 w w' : World} {R M i : Nat} {L : List (Int × Int)} {m : Int × Int} (h : Mx w0 w R M L i m) (hb : Below w.heap.size w w') : Mx w0 w' R M L i m :=
  ⟨below_tr h.bel hb h.bel.size, h.lo, block_below h.rz hb (hlt_ofL h.rz), block_below h.mx hb (hlt_ofL h.mx), h.mem, h.top⟩
theorem Mx.keep {w0 w : World} {R M i : Nat} {L : List (Int × Int)} {m : Int × Int} (h : Mx w0 w R M L i m) (hk : (L.getD i (0, 0)).1 ≤ m.1) : Mx w0 w R M L (i + 1) m :=
  ⟨h.bel, h.lo, h.rz, h.mx, h.mem, fun j hj => by
    rcases Nat.lt_succ_iff_lt_or_eq.1 hj with h1 | rfl
    · exact h.top j h1
    · exact hk⟩
theorem Mx.put {w0 w : World} {R M i : Nat} {L : List (Int × Int)} {m : Int × Int} (h : Mx w0 w R M L i m) {x y : Int} (hi : i < L.length) (hx : L.getD i (0, 0) = (x, y)) (hk : m.1 ≤ x) : Mx w0 ((w.setCell ⟨M, 0, none⟩ (.int .i64 x)).setCell ⟨M, 1, none⟩ (.int .i64 y)) R M L (i + 1) (x, y) := by
  have far : ∀ (W : World) (j : Nat) (v : Value), (W.setCell ⟨M, j, none⟩ v).heap[R]? = W.heap[R]? := fun W j v => heap_setCell_other W ⟨M, j, none⟩ R v h.lo.2.2
  refine ⟨Below.setCell (p := ⟨M, 1, none⟩) (Below.setCell (p := ⟨M, 0, none⟩) h.bel h.lo.2.1 _) h.lo.2.1 _, h.lo, by rw [far, far]; exact h.rz, heap_storeNL (heap_storeNL h.mx 0 _) 1 _, ?_, fun j hj => ?_⟩
  · rw [← hx, List.getD_eq_getElem?_getD, List.getElem?_eq_getElem hi]; exact List.getElem_mem hi
  · rcases Nat.lt_succ_iff_lt_or_eq.1 hj with h1 | rfl
    · have := h.top j h1
      show _ ≤ x
      omega
    · rw [hx]; exact Int.le_refl _

end Go.Proofs.Ytaaogoajhdaekaa

namespace Go.Proofs.Ytaaogoajhdaekaa
open Go.RowKit Go.Sort
set_option linter.unusedVariables false
set_option maxHeartbeats 400000 in
theorem drawStableSortE_any (ac : Option Addr) (c : Nat) (cs : List Int) (w : World) (hl : cs.length ≤ 65537) (h : BytesAt w ac cs) :
    Calls Try.prog 21 #[.slice ac cs.length c] w (RdDraw w) := by
  have HD := Lib.hid (drawIV_any ac c cs w hl h)
  clear h
  unfold RdDraw at *
  go_enter Try.func21, Try.ntmps21
  go_wp2_with fail
  refine HD.out.mono ?_
  rintro e w1 ⟨a, n, c, rs, rfl, h1, h2, h3⟩
  have H1 := Lib.hid h1; have H3 := Lib.hid h3
  clear h1 h3
  go_wp2
  go_ret
  exact ⟨_, _, _, _, rfl, H1.out, h2, H3.out⟩
theorem specIsValidRecordsE_any (a : Option Addr) (n cap : Nat) (rs : List (Int × Int)) (w : World) (hbig : n ≤ 9223372036854775807) (h : Rd w a n cap rs) :
    Calls Try.prog 22 #[.slice a n cap] w fun e w' => e = .returned (.bool (okRecs rs)) ∧ w = w' := by
  have hl := h.len
  subst hl
  have H := Lib.hid (l2Records_any a cap rs w hbig h.recs)
  clear h
  go_enter Try.func22, Try.ntmps22
  go_wp2_with fail
  refine H.out.mono ?_
  rintro e w1 ⟨rfl, rfl⟩
  go_wp2
  go_ret
  exact ⟨rfl, rfl⟩

set_option maxRecDepth 100000 in
set_option maxHeartbeats 1000000 in
theorem vKeys_any (ac : Option Addr) (c : Nat) (cs : List Int) (w : World) (hl : cs.length ≤ 65537) (h : BytesAt w ac cs) :
    Calls Try.prog 5 #[.slice ac cs.length c] w fun e w' => ∃ (a : Option Addr) (n c : Nat) (L : List (Int × Int)), e = .returned (.slice a n c) ∧ Rd w' a n c L ∧ okRecs L = true ∧ Below w.heap.size w w' := by
  have HD := Lib.hid (drawStableSortE_any ac c cs w hl h)
  clear h
  unfold RdDraw at HD
  go_enter Try.func5, Try.ntmps5
  go_wp2_with fail
  refine HD.out.mono ?_
  rintro e w1 ⟨a, n, c1, L, rfl, hr, hn, hb⟩
  have HR := Lib.hid hr; have HB := Lib.hid hb
  have HV := Lib.hid (specIsValidRecordsE_any a n c1 L w1 (by omega) hr)
  clear hr hb HD
  cases hok : okRecs L
  · rw [hok] at HV
    have hbn := belowNewL w1 (.cells #[.int .i64 2, .int .i64 0, .int .i64 1, .int .i64 1, .int .i64 2, .int .i64 2] 40)
    have HB2 := Lib.hid (below_tr HB.out hbn HB.out.size)
    have HL : Hid (Rd (w1.alloc (.cells #[.int .i64 2, .int .i64 0, .int .i64 1, .int .i64 1, .int .i64 2, .int .i64 2] 40)) (some ⟨w1.heap.size, 0, none⟩) 3 3 [(2, 0), (1, 1), (2, 2)]) :=
      rd_own (B := w1.heap.size) (own_lit (w := w1) (e := 40) (size := 2) #[.int .i64 2, .int .i64 0, .int .i64 1, .int .i64 1, .int .i64 2, .int .i64 2] 3 (by omega) rfl)
    clear hbn hok
    go_wp2_with fail
    refine HV.out.mono ?_
    rintro e w2 ⟨rfl, rfl⟩
    go_wp2
    go_ret
    exact ⟨_, _, _, _, rfl, HL.out, by decide, HB2.out⟩
  · rw [hok] at HV
    have HOK := Lib.hid hok
    clear hok
    go_wp2_with fail
    refine HV.out.mono ?_
    rintro e w2 ⟨rfl, rfl⟩
    go_wp2
    go_ret
    exact ⟨_, _, _, _, rfl, HR.out, HOK.out, HB.out⟩

end Go.Proofs.Ytaaogoajhdaekaa

