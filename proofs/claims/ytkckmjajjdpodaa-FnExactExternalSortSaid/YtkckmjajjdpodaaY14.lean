/- Several texts in one: lemmas and walks of the functions that the laws reach. -/
import Derived.Test.YtkckmjajjdpodaaY12
import Derived.Test.YtkckmjajjdpodaaY7

/- Walks: blocks; plans. -/
namespace Go.Proofs.Ytkckmjajjdpodaa
open Go.RowKit Go.Sort
set_option linter.unusedVariables false

theorem blk_eq {n b : Nat} (hb : 0 < b) : ((n : Int) + (b : Int) - 1) / (b : Int) = ((Mg.blkN b n : Nat) : Int) := by
  unfold Mg.blkN
  rw [Int.natCast_ediv]
  congr 1
  omega
theorem blk_eqt {n b : Nat} (hb : 0 < b) : ((n : Int) + (b : Int) - 1).tdiv (b : Int) = ((Mg.blkN b n : Nat) : Int) := by
  rw [Int.tdiv_eq_ediv_of_nonneg (by omega)]; exact blk_eq hb

set_option maxHeartbeats 1000000 in
theorem blocks_any (n b : Nat) (w : World) (hb : 0 < b) (hb2 : b ≤ 1000000) (hn : n ≤ 1000000) : Calls Try.prog 141 #[.int .i64 n, .int .i64 b] w fun e w' => e = .returned (.int .i64 ((Mg.blkN b n : Nat) : Int)) ∧ w = w' := by
  have h1 := blk_eq (n := n) hb
  have h2 := blk_eqt (n := n) hb
  have hle := Mg.blkN_le (n := n) hb
  generalize Mg.blkN b n = x at h1 h2 hle ⊢
  have h3 : (b : Int) ≠ 0 := by omega
  have h4 : ((b : Int) == 0) = false := by rw [beq_eq_false_iff_ne]; exact h3
  go_enter Try.func141, Try.ntmps141
  go_wp2
  go_ret
  exact ⟨rfl, rfl⟩
set_option maxHeartbeats 1000000 in
theorem l17Blocks_any (n b : Nat) (w : World) (hb : 0 < b) (hb2 : b ≤ 1000000) (hn : n ≤ 1000000) : Calls Try.prog 142 #[.int .i64 n, .int .i64 b] w fun e w' => e = .returned (.int .i64 ((Mg.blkN b n : Nat) : Int)) ∧ w = w' := by
  have h1 := blk_eq (n := n) hb
  have h2 := blk_eqt (n := n) hb
  have hle := Mg.blkN_le (n := n) hb
  generalize Mg.blkN b n = x at h1 h2 hle ⊢
  have h3 : (b : Int) ≠ 0 := by omega
  have h4 : ((b : Int) == 0) = false := by rw [beq_eq_false_iff_ne]; exact h3
  go_enter Try.func142, Try.ntmps142
  go_wp2
  go_ret
  exact ⟨rfl, rfl⟩

def lensOf (Ls : List (List (Int × Int))) : List Nat := Ls.map List.length
def blkS (b : Nat) (Ls : List (List (Int × Int))) : Nat := Mg.blks b (lensOf Ls)
theorem blkS_step {b i : Nat} {Ls : List (List (Int × Int))} (h : i < Ls.length) : blkS b (Ls.take (i + 1)) = blkS b (Ls.take i) + Mg.blkN b (Ls.getD i []).length := by
  unfold blkS lensOf Mg.blks
  rw [List.take_succ_eq_append_getElem h, List.map_append, List.map_append, List.sum_append, List.getD_eq_getElem?_getD, List.getElem?_eq_getElem h]
  simp
theorem totL_take_le (Ls : List (List (Int × Int))) (i : Nat) : totL (Ls.take i) ≤ totL Ls := by
  unfold totL
  have h1 : Ls.flatten = (Ls.take i).flatten ++ (Ls.drop i).flatten := by rw [← List.flatten_append, List.take_append_drop]
  rw [h1, List.length_append]; omega
theorem blkS_le {b : Nat} (hb : 0 < b) (Ls : List (List (Int × Int))) : blkS b Ls ≤ totL Ls := by
  have := Mg.blks_le hb (lensOf Ls)
  unfold blkS totL
  rw [List.length_flatten]
  exact this
theorem mem_tot {Ls : List (List (Int × Int))} {i : Nat} (h : i < Ls.length) : (Ls.getD i []).length ≤ totL Ls := flat_mem_len h

set_option maxRecDepth 100000 in
set_option maxHeartbeats 1000000 in
theorem blocksOf_any (pm pw : Int) (b : Nat) (a : Option Addr) (n c : Nat) (Ls : List (List (Int × Int))) (w : World) (hb : 0 < b) (hb2 : b ≤ 1000000) (hn : n ≤ 1000) (hN : totL Ls ≤ 1000) (h : LsAt w a n c Ls) :
    Calls Try.prog 148 #[.agg #[.int .i64 pm, .int .i64 pw, .int .i64 b], .slice a n c] w fun e w' => e = .returned (.int .i64 ((blkS b Ls : Nat) : Int)) ∧ Below w.heap.size w w' := by
  have hbn := belowNew w (.cells #[.int .i64 pm, .int .i64 pw, .int .i64 b] 26)
  have H := Lib.hid (h.same hbn)
  have HB0 := Lib.hid hbn
  have HR := Lib.hid (row_cell (block_new w (.cells #[.int .i64 pm, .int .i64 pw, .int .i64 b] 26)) 2)
  have hl := h.len
  clear h hbn
  have hsz : (w.alloc (.cells #[.int .i64 pm, .int .i64 pw, .int .i64 b] 26)).heap.size = w.heap.size + 1 := by simp
  go_enter Try.func148, Try.ntmps148
  go_wp2
  generalize w.alloc (.cells #[.int .i64 pm, .int .i64 pw, .int .i64 b] 26) = w1 at H HB0 HR hsz ⊢
  have HR : Hid (w1.cell? ⟨w.heap.size, 2, none⟩ = some (.int .i64 b)) := HR
  go_loopw [5, 10] (fun tv iv wr => ∃ i t : Nat, iv = .int .i64 i ∧ tv = .int .i64 t ∧ i ≤ n ∧ Hid (t = blkS b (Ls.take i)) ∧ wr = w1) (fun _ iv _ => n - (intOf iv).toNat)
  case atStart => exact ⟨0, 0, rfl, rfl, by omega, Lib.hid rfl, rfl⟩
  case round =>
    obtain ⟨i, t, rfl, rfl, hi, HT, hwr⟩ := hrel
    subst hwr
    have ht : t ≤ 1000 := by
      have h1 := blkS_le hb (Ls.take i)
      have h2 := totL_take_le Ls i
      have h3 := HT.out
      omega
    by_cases hlt : i < n
    · have q1 : decide ((i : Int) < (n : Int)) = true := decide_eq_true (by omega)
      obtain ⟨lb, lof, xa, d, rfl, hc, hr⟩ := H.out.at hlt
      have hm := mem_tot (Ls := Ls) (i := i) (by omega)
      have hst := blkS_step (b := b) (Ls := Ls) (i := i) (by omega)
      generalize (Ls.getD i []).length = m at hc hm hst
      have HST := Lib.hid hst
      have hrc := HR.out
      have b1 : (0 : Int) ≤ (i : Int) := by omega
      have t1 : ((i : Int)).toNat = i := by omega
      have hle := Mg.blkN_le (n := m) hb
      have HBK := Lib.hid (blocks_any m b wr hb hb2 (by omega))
      generalize hbk : Mg.blkN b m = x at HBK hle
      have HX := Lib.hid hbk
      clear hr hst hbk
      go_wp2_with (go_at_call 141; refine HBK.out.mono ?_; rintro e w' ⟨rfl, rfl⟩)
      go_roundw
      case rel => exact ⟨i + 1, t + x, by go_num, by go_num, by omega, Lib.hid (by rw [HST.out, ← HT.out, HX.out]), by first | rfl | trivial⟩
      case measure => simp [intOf] <;> omega
    · have hin : n = i := by omega
      subst hin
      have q1 : decide ((n : Int) < (n : Int)) = false := by simp
      have HE : Hid (((t : Nat) : Int) = ((blkS b Ls : Nat) : Int)) := by
        show _ = _
        rw [HT.out, List.take_of_length_le (by omega)]
      go_wp2
      go_ret
      exact ⟨ret_int HE.out, HB0.out⟩

set_option maxRecDepth 100000 in
set_option maxHeartbeats 1000000 in
theorem l17RunBlocks_any (b : Nat) (a : Option Addr) (n c : Nat) (Ls : List (List (Int × Int))) (w : World) (hb : 0 < b) (hb2 : b ≤ 1000000) (hn : n ≤ 1000) (hN : totL Ls ≤ 1000) (h : LsAt w a n c Ls) :
    Calls Try.prog 149 #[.slice a n c, .int .i64 b] w fun e w' => e = .returned (.int .i64 ((blkS b Ls : Nat) : Int)) ∧ w = w' := by
  have H := Lib.hid h
  have hl := h.len
  clear h
  go_enter Try.func149, Try.ntmps149
  go_wp2
  go_loopw [5, 6] (fun tv iv wr => ∃ i t : Nat, iv = .int .i64 i ∧ tv = .int .i64 t ∧ i ≤ n ∧ Hid (t = blkS b (Ls.take i)) ∧ wr = w) (fun _ iv _ => n - (intOf iv).toNat)
  case atStart => exact ⟨0, 0, rfl, rfl, by omega, Lib.hid rfl, rfl⟩
  case round =>
    obtain ⟨i, t, rfl, rfl, hi, HT, hwr⟩ := hrel
    subst hwr
    have ht : t ≤ 1000 := by
      have h1 := blkS_le hb (Ls.take i)
      have h2 := totL_take_le Ls i
      have h3 := HT.out
      omega
    by_cases hlt : i < n
    · have q1 : decide ((i : Int) < (n : Int)) = true := decide_eq_true (by omega)
      obtain ⟨lb, lof, xa, d, rfl, hc, hr⟩ := H.out.at hlt
      have hm := mem_tot (Ls := Ls) (i := i) (by omega)
      have hst := blkS_step (b := b) (Ls := Ls) (i := i) (by omega)
      generalize (Ls.getD i []).length = m at hc hm hst
      have HST := Lib.hid hst
      have b1 : (0 : Int) ≤ (i : Int) := by omega
      have t1 : ((i : Int)).toNat = i := by omega
      have hle := Mg.blkN_le (n := m) hb
      have HBK := Lib.hid (l17Blocks_any m b wr hb hb2 (by omega))
      generalize hbk : Mg.blkN b m = x at HBK hle
      have HX := Lib.hid hbk
      clear hr hst hbk
      go_wp2_with (go_at_call 142; refine HBK.out.mono ?_; rintro e w' ⟨rfl, rfl⟩)
      go_roundw
      case rel => exact ⟨i + 1, t + x, by go_num, by go_num, by omega, Lib.hid (by rw [HST.out, ← HT.out, HX.out]), by first | rfl | trivial⟩
      case measure => simp [intOf] <;> omega
    · have hin : n = i := by omega
      subst hin
      have q1 : decide ((n : Int) < (n : Int)) = false := by simp
      have HE : Hid (((t : Nat) : Int) = ((blkS b Ls : Nat) : Int)) := by
        show _ = _
        rw [HT.out, List.take_of_length_le (by omega)]
      go_wp2
      go_ret
      exact ⟨ret_int HE.out, rfl⟩

/-- A plan is valid. -/
def planOk (pm pw pb : Int) : Bool := inB pm 1 64 && inB pw 2 16 && inB pb 1 pm
theorem planOk_iff {pm pw pb : Int} (h : planOk pm pw pb = true) : 1 ≤ pm ∧ pm ≤ 64 ∧ 2 ≤ pw ∧ pw ≤ 16 ∧ 1 ≤ pb ∧ pb ≤ pm := by
  unfold planOk at h
  simp only [Bool.and_eq_true] at h
  have h1 := inB_iff.1 h.1.1
  have h2 := inB_iff.1 h.1.2
  have h3 := inB_iff.1 h.2
  omega

set_option maxRecDepth 100000 in
set_option maxHeartbeats 1000000 in
theorem isValidPlan_any (pm pw pb : Int) (w : World) : Calls Try.prog 20 #[.agg #[.int .i64 pm, .int .i64 pw, .int .i64 pb]] w fun e w' => e = .returned (.bool (planOk pm pw pb)) ∧ Below w.heap.size w w' := by
  have HB := Lib.hid (belowNew w (.cells #[.int .i64 pm, .int .i64 pw, .int .i64 pb] 26))
  have H1 := Lib.hid (fun w => in_any pm 1 64 w); have H2 := Lib.hid (fun w => in_any pw 2 16 w); have H3 := Lib.hid (fun w => in_any pb 1 pm w)
  have HV : Hid (planOk pm pw pb = (inB pm 1 64 && inB pw 2 16 && inB pb 1 pm)) := rfl
  cases h1 : inB pm 1 64
  · rw [h1] at H1 HV
    clear h1
    go_enter Try.func20, Try.ntmps20
    go_wp2_with fail
    refine (H1.out _).mono ?_
    rintro e w' ⟨rfl, rfl⟩
    go_wp2
    go_ret
    exact ⟨ret_bool (by rw [HV.out]; rfl), HB.out⟩
  cases h2 : inB pw 2 16
  · rw [h1] at H1 HV
    rw [h2] at H2 HV
    clear h1 h2
    go_enter Try.func20, Try.ntmps20
    go_wp2_with fail
    refine (H1.out _).mono ?_
    rintro e w' ⟨rfl, rfl⟩
    go_wp2_with fail
    refine (H2.out _).mono ?_
    rintro e w' ⟨rfl, rfl⟩
    go_wp2
    go_ret
    exact ⟨ret_bool (by rw [HV.out]; rfl), HB.out⟩
  · rw [h1] at H1 HV
    rw [h2] at H2 HV
    clear h1 h2
    generalize inB pb 1 pm = b3 at H3 HV
    go_enter Try.func20, Try.ntmps20
    go_wp2_with fail
    refine (H1.out _).mono ?_
    rintro e w' ⟨rfl, rfl⟩
    go_wp2_with fail
    refine (H2.out _).mono ?_
    rintro e w' ⟨rfl, rfl⟩
    go_wp2_with fail
    refine (H3.out _).mono ?_
    rintro e w' ⟨rfl, rfl⟩
    go_wp2
    go_ret
    exact ⟨ret_bool (by rw [HV.out]; simp), HB.out⟩

set_option maxRecDepth 100000 in
set_option maxHeartbeats 1000000 in
theorem l17Plan_any (pm pw pb : Int) (w : World) : Calls Try.prog 84 #[.agg #[.int .i64 pm, .int .i64 pw, .int .i64 pb]] w fun e w' => e = .returned (.bool (planOk pm pw pb)) ∧ Below w.heap.size w w' := by
  have HB := Lib.hid (belowNew w (.cells #[.int .i64 pm, .int .i64 pw, .int .i64 pb] 26))
  have H1 := Lib.hid (fun w => l1In_any pm 1 64 w); have H2 := Lib.hid (fun w => l1In_any pw 2 16 w); have H3 := Lib.hid (fun w => l1In_any pb 1 pm w)
  have HV : Hid (planOk pm pw pb = (inB pm 1 64 && inB pw 2 16 && inB pb 1 pm)) := rfl
  cases h1 : inB pm 1 64
  · rw [h1] at H1 HV
    clear h1
    go_enter Try.func84, Try.ntmps84
    go_wp2_with fail
    refine (H1.out _).mono ?_
    rintro e w' ⟨rfl, rfl⟩
    go_wp2
    go_ret
    exact ⟨ret_bool (by rw [HV.out]; rfl), HB.out⟩
  cases h2 : inB pw 2 16
  · rw [h1] at H1 HV
    rw [h2] at H2 HV
    clear h1 h2
    go_enter Try.func84, Try.ntmps84
    go_wp2_with fail
    refine (H1.out _).mono ?_
    rintro e w' ⟨rfl, rfl⟩
    go_wp2_with fail
    refine (H2.out _).mono ?_
    rintro e w' ⟨rfl, rfl⟩
    go_wp2
    go_ret
    exact ⟨ret_bool (by rw [HV.out]; rfl), HB.out⟩
  · rw [h1] at H1 HV
    rw [h2] at H2 HV
    clear h1 h2
    generalize inB pb 1 pm = b3 at H3 HV
    go_enter Try.func84, Try.ntmps84
    go_wp2_with fail
    refine (H1.out _).mono ?_
    rintro e w' ⟨rfl, rfl⟩
    go_wp2_with fail
    refine (H2.out _).mono ?_
    rintro e w' ⟨rfl, rfl⟩
    go_wp2_with fail
    refine (H3.out _).mono ?_
    rintro e w' ⟨rfl, rfl⟩
    go_wp2
    go_ret
    exact ⟨ret_bool (by rw [HV.out]; simp), HB.out⟩

end Go.Proofs.Ytkckmjajjdpodaa

/- General: a region that draws its order, all of whose operations yield values that are known beforehand. No program in sight. -/
namespace Go.Proofs.Ytkckmjajjdpodaa
open Go Go.RowKit
set_option linter.unusedVariables false
variable {P : Program} {ops : Array Oper} {Q : Exit → Act → World → Prop} {md : Region.Mode}

/-! ### A region whose operations yield values that are known beforehand -/
/-- The frame, named. -/
theorem wp_with_act {c : Code} {a : Act} {w : World} (h : ∀ fr : Act, fr = a → c.wp P Q fr w) : c.wp P Q a w := h a rfl
theorem wp_val {o : Oper} {a : Act} {w w' : World} {K : Act → World → Prop} {v : Value} (he : (execOp a.eval o).run P w = .ok (.value v) w') (hk : K (a.put o.dst v) w') : Oper.wp P o a w K Q := by
  unfold Oper.wp; rw [he]; exact hk
theorem wp_callv {o : Oper} {a : Act} {w : World} {K : Act → World → Prop} {v : Value} {f : FuncId} {args : Array Value} {R : Ending → World → Prop} {G : World → Prop} (he : (execOp a.eval o).run P w = .ok (.enter f args) w) (hc : Calls P f args w R)
    (hr : ∀ e w', R e w' → e = .returned v ∧ G w') (hk : ∀ w', G w' → K (a.put o.dst v) w') : Oper.wp P o a w K Q := by
  unfold Oper.wp
  rw [he, Oper.upon_enter]
  refine hc.mono fun e w' h => ?_
  obtain ⟨rfl, g⟩ := hr e w' h
  exact hk w' g
/-- What the operations have yielded, in their temporaries. -/
def puts (fr : Act) (x : Nat → Value) : List (Nat × Nat) → Act
  | [] => fr
  | (i, s) :: l => puts (fr.put (some s) (x i)) x l
def VOK (VL : List (Nat × Value)) (b : Nat → Bool) (x : Nat → Value) : Prop := ∀ p ∈ VL, b p.1 = true → x p.1 = p.2
theorem VOK.val {VL : List (Nat × Value)} {b : Nat → Bool} {x : Nat → Value} (h : VOK VL b x) (i : Nat) (V : Value) (hV : ∀ p ∈ VL, p.1 = i → p.2 = V) : VOK VL (upd b i true) (upd x i V) := fun p hp hb => by
  by_cases e : p.1 = i
  · rw [e, upd_same]; exact (hV p hp e).symm
  · rw [upd_ne e]; rw [upd_ne e] at hb; exact h p hp hb
theorem VOK.other {VL : List (Nat × Value)} {b : Nat → Bool} {x : Nat → Value} (h : VOK VL b x) (i : Nat) (V : Value) (hV : ∀ p ∈ VL, p.1 ≠ i) : VOK VL (upd b i true) (upd x i V) := fun p hp hb => by
  have e := hV p hp
  rw [upd_ne e]; rw [upd_ne e] at hb; exact h p hp hb
theorem VOK.none {VL : List (Nat × Value)} {b : Nat → Bool} {x : Nat → Value} (h : VOK VL b x) (i : Nat) (hV : ∀ p ∈ VL, p.1 ≠ i) : VOK VL (upd b i true) x := fun p hp hb => by
  rw [upd_ne (hV p hp)] at hb; exact h p hp hb
/-- The region's state. -/
def JV (fr : Act) (SL : List (Nat × Nat)) (VL : List (Nat × Value)) (KK : (Nat → Bool) → (Nat → Value) → World → Prop) (L : Array Bool) (a : Act) (w : World) : Prop :=
  ∃ x, a = puts fr x SL ∧ VOK VL (fun j => L.getD j false) x ∧ KK (fun j => L.getD j false) x w
theorem jv_set {fr : Act} {SL : List (Nat × Nat)} {VL : List (Nat × Value)} {KK : (Nat → Bool) → (Nat → Value) → World → Prop} {L : Array Bool} {a : Act} {w : World} {i : Nat} {x : Nat → Value} (hi : i < L.size) (ha : a = puts fr x SL)
    (hv : VOK VL (upd (fun j => L.getD j false) i true) x) (hk : KK (upd (fun j => L.getD j false) i true) x w) : JV fr SL VL KK (L.setIfInBounds i true) a w := by
  refine ⟨x, ha, ?_⟩
  have e : (fun j => (L.setIfInBounds i true).getD j false) = upd (fun j => L.getD j false) i true := funext fun j => set_b hi j
  rw [e]; exact ⟨hv, hk⟩
theorem heap_storeN {w : World} {g : Nat} {cs : Array Value} {e : TypeId} {f : Nat × Nat} (h : w.heap[g]? = some (.cells cs e f)) (j : Nat) (v : Value) : (w.setCell ⟨g, j, none⟩ v).heap[g]? = some (.cells (cs.setIfInBounds j v) e f) := by
  have hlt : g < w.heap.size := (Array.getElem?_eq_some_iff.1 h).1
  have h' : w.heap[g] = .cells cs e f := by simpa [Array.getElem?_eq_getElem hlt] using h
  show (w.heap.modify g _)[g]? = _
  rw [Array.getElem?_eq_getElem (by simpa using hlt), Array.getElem_modify_self, h']
  rfl
theorem rep_false (n j : Nat) : (Array.replicate n false).getD j false = false := by
  rw [Array.getD_eq_getD_getElem?, Array.getElem?_replicate]
  split <;> rfl
theorem VOK.start (VL : List (Nat × Value)) (n : Nat) (x : Nat → Value) : VOK VL (fun j => (Array.replicate n false).getD j false) x := fun p hp hb => by
  exact absurd ((rep_false n p.1).symm.trans hb) (by decide)
/-- One block is made by operation i, written by operation j; the others make memory at most. -/
def KA (wR : World) (i j : Nat) (ty : TypeId) (Z C : Array Value) (b : Nat → Bool) (x : Nat → Value) (w : World) : Prop :=
  Below wR.heap.size wR w ∧ (b i = true → ∃ T, x i = .pointer (some ⟨T, 0, none⟩) ∧ wR.heap.size ≤ T ∧ T < w.heap.size ∧ (b j = false → w.heap[T]? = some (.cells Z ty (0, 0))) ∧ (b j = true → w.heap[T]? = some (.cells C ty (0, 0)))) ∧ (b j = true → b i = true)
theorem KA.start {wR : World} {i j n : Nat} {ty : TypeId} {Z C : Array Value} (x : Nat → Value) : KA wR i j ty Z C (fun k => (Array.replicate n false).getD k false) x wR :=
  ⟨Below.refl _ _, fun h => absurd ((rep_false n i).symm.trans h) (by decide), fun h => absurd ((rep_false n j).symm.trans h) (by decide)⟩
theorem KA.call {wR w w' : World} {i j : Nat} {ty : TypeId} {Z C : Array Value} {b : Nat → Bool} {x : Nat → Value} (h : KA wR i j ty Z C b x w) (hb : Below w.heap.size w w') (k : Nat) (v : Value) (hi : i ≠ k) (hj : j ≠ k) : KA wR i j ty Z C (upd b k true) (upd x k v) w' := by
  obtain ⟨h1, h2, h3⟩ := h
  refine ⟨h1.trans (hb.mono h1.size), fun hb1 => ?_, fun hb1 => ?_⟩
  · rw [upd_ne hi] at hb1
    obtain ⟨T, e, g1, g2, g3, g4⟩ := h2 hb1
    refine ⟨T, by rw [upd_ne hi]; exact e, g1, Nat.lt_of_lt_of_le g2 hb.size, fun hb2 => ?_, fun hb2 => ?_⟩
    · rw [upd_ne hj] at hb2; rw [hb.block T g2]; exact g3 hb2
    · rw [upd_ne hj] at hb2; rw [hb.block T g2]; exact g4 hb2
  · rw [upd_ne hi]; rw [upd_ne hj] at hb1; exact h3 hb1
theorem KA.quiet {wR w : World} {i j : Nat} {ty : TypeId} {Z C : Array Value} {b : Nat → Bool} {x : Nat → Value} (h : KA wR i j ty Z C b x w) (k : Nat) (v : Value) (hi : i ≠ k) (hj : j ≠ k) : KA wR i j ty Z C (upd b k true) (upd x k v) w := h.call (Below.refl _ _) k v hi hj
theorem KA.alloc {wR w : World} {i j : Nat} {ty : TypeId} {Z C : Array Value} {b : Nat → Bool} {x : Nat → Value} (h : KA wR i j ty Z C b x w) (hu : b i = false) (hij : i ≠ j) : KA wR i j ty Z C (upd b i true) (upd x i (.pointer (some ⟨w.heap.size, 0, none⟩))) (w.alloc (.cells Z ty)) := by
  obtain ⟨h1, h2, h3⟩ := h
  refine ⟨h1.alloc h1.size _, fun _ => ⟨w.heap.size, upd_same, h1.size, by simp, fun _ => heap_alloc_new w _, fun hb2 => ?_⟩, fun _ => upd_same⟩
  rw [upd_ne (Ne.symm hij)] at hb2
  rw [h3 hb2] at hu; cases hu
theorem KA.store {wR w : World} {i j T : Nat} {ty : TypeId} {Z C : Array Value} {b : Nat → Bool} {x : Nat → Value} (h : KA wR i j ty Z C b x w) (hi : b i = true) (hij : i ≠ j) (hx : x i = .pointer (some ⟨T, 0, none⟩)) (hT : w.heap[T]? = some (.cells Z ty (0, 0))) : KA wR i j ty Z C (upd b j true) x (w.setRow T C) := by
  obtain ⟨h1, h2, h3⟩ := h
  obtain ⟨T', e, g1, g2, g3, g4⟩ := h2 hi
  rw [hx] at e
  injection e with e
  injection e with e
  injection e with e _
  subst e
  have hn := setRow_heap w T Z C ty (0, 0) hT
  have hg : w.grownBy (w.setRow T C) (some T) := ⟨rfl, rfl, rfl, by simp, fun q _ hq => setRow_other w T q _ (fun e => hq (by simp [e]))⟩
  refine ⟨h1.grown hg h1.size (fun k hk => by injection hk with hk; omega), fun _ => ⟨T, hx, g1, Nat.lt_of_lt_of_le g2 hg.size, fun hb2 => ?_, fun _ => hn⟩, fun _ => ?_⟩
  · rw [upd_same] at hb2; cases hb2
  · rw [upd_ne hij]; exact hi
/-- What has come up has come up behind all that it waits for. -/
def Closed (md : Region.Mode) (ops : Array Oper) (L : Array Bool) : Prop := ∀ (j : Nat) (o : Oper), ops[j]? = some o → L.getD j false = true → ∀ e ∈ o.after, Region.binds md e = true → L.getD e.on false = true
def StepsOk2 (P : Program) (md : Region.Mode) (ops : Array Oper) (Q : Exit → Act → World → Prop) (J : Array Bool → Act → World → Prop) : Nat → List Oper → Prop
  | _, [] => True
  | i, o :: l => (∀ (L : Array Bool) (a : Act) (w : World), L.size = ops.size → L.getD i false = false → (∀ e ∈ o.after, Region.binds md e = true → L.getD e.on false = true) → Closed md ops L → J L a w →
      ∀ K : Act → World → Prop, (∀ a w, J (L.setIfInBounds i true) a w → K a w) → if Region.wanted o (yielded ops a.tmps) = true then Oper.wp P o a w K Q else K (a.put o.dst undef) w) ∧ StepsOk2 P md ops Q J (i + 1) l
theorem steps_of2 {J : Array Bool → Act → World → Prop} : ∀ (l : List Oper) (k : Nat), (∀ i o, l[i]? = some o → ops[k + i]? = some o) → StepsOk2 P md ops Q J k l → StepsOk P md ops Q (fun L a w => Closed md ops L ∧ J L a w) k l
  | [], _, _, _ => trivial
  | o :: l, k, hl, h => by
    refine ⟨fun L a w hs hu haf hJ K hK => ?_, steps_of2 l (k + 1) (fun i o' e => by rw [show k + 1 + i = k + (i + 1) by omega]; exact hl (i + 1) o' (by simpa using e)) h.2⟩
    refine h.1 L a w hs hu haf hJ.1 hJ.2 K fun a' w' hj => hK a' w' ⟨fun j oj hoj hL e he hb => ?_, hj⟩
    have hk : k < L.size := by
      rcases Nat.lt_or_ge k L.size with h' | h'
      · exact h'
      · have h0 := hl 0 o rfl
        rw [Nat.add_zero, Array.getElem?_eq_none (by omega)] at h0
        cases h0
    rw [set_b hk] at hL ⊢
    by_cases e1 : e.on = k
    · rw [if_pos e1]
    · rw [if_neg e1]
      by_cases e2 : j = k
      · subst e2
        have h0 := hl 0 o rfl
        rw [Nat.add_zero, hoj] at h0
        injection h0 with h0
        subst h0
        exact haf e he hb
      · rw [if_neg e2] at hL
        exact hJ.1 j oj hoj hL e he hb
/-- Every operation waits for earlier ones alone: of the edges that bind. -/
def backM (md : Region.Mode) (ops : Array Oper) : Bool := (List.range ops.size).all fun i => ((ops[i]?).map fun o => o.after.all fun e => !Region.binds md e || decide (e.on < i)).getD true
theorem all_listedM (hb : backM md ops = true) {L : Array Bool} (hs : L.size = ops.size) (hr : Region.ready md ops L = []) : ∀ i, i < ops.size → L.getD i false = true := by
  intro i
  induction i using Nat.strongRecOn with
  | ind i ih =>
    intro hi
    cases hx : L.getD i true with
    | true =>
      rw [Array.getD_eq_getD_getElem?, Array.getElem?_eq_getElem (by omega)] at hx ⊢
      exact hx
    | false =>
      exfalso
      have hm : i ∈ Region.ready md ops L := by
        refine mem_ready.2 ⟨hx, ops[i], Array.getElem?_eq_getElem hi, fun e he hbd => ?_⟩
        unfold backM at hb
        rw [List.all_eq_true] at hb
        have h1 := hb i (List.mem_range.2 hi)
        rw [Array.getElem?_eq_getElem hi] at h1
        simp only [Option.map_some, Option.getD_some] at h1
        rw [Array.all_eq_true'] at h1
        have h2 := h1 e he
        rw [hbd] at h2
        simp at h2
        exact ih e.on h2 (by omega)
      rw [hr] at hm; cases hm
theorem wpAnyH_invM (J : Array Bool → Act → World → Prop) (hb : backM md ops = true) (hsteps : StepsOk P md ops Q J 0 ops.toList)
    (hdone : ∀ (L : Array Bool) (a : Act) (w : World), (∀ i, i < ops.size → L.getD i false = true) → J L a w → Q .normal a w) :
    ∀ (fuel : Nat) (L : Array Bool) (a : Act) (w : World), L.size = ops.size → unl L ≤ fuel → J L a w → wpAnyH P md ops Q (fun _ => True) fuel L a w
  | 0, L, a, w, hs, hu, hJ => by
    have hr : Region.ready md ops L = [] := by
      rw [List.eq_nil_iff_forall_not_mem]
      intro i hi
      have := unl_set (mem_ready.1 hi).1
      omega
    exact ⟨hr, hdone L a w (all_listedM hb hs hr) hJ⟩
  | fuel + 1, L, a, w, hs, hu, hJ => by
    refine ⟨fun hr => hdone L a w (all_listedM hb hs hr) hJ, fun i hi => ?_⟩
    obtain ⟨h1, o, ho, h2⟩ := mem_ready.1 hi
    have h3 := unl_set h1
    have h4 : L.getD i false = false := by
      obtain ⟨h5, _⟩ := getD_false h1
      rw [Array.getD_eq_getD_getElem?, h5]; rfl
    refine wpOp_step ho fun K hK => ?_
    have h6 := steps_at ops.toList 0 hsteps i o (by simpa using ho) L a w hs (by rw [Nat.zero_add]; exact h4) h2 hJ K
    rw [Nat.zero_add] at h6
    refine h6 fun a' w' hJ' => hK a' w' ⟨trivial, ?_⟩
    exact wpAnyH_invM J hb hsteps hdone fuel _ a' w' (by rw [Array.size_setIfInBounds]; exact hs) (by omega) hJ'
theorem wpAnyH_inv2 (J : Array Bool → Act → World → Prop) (hb : backM md ops = true) (hsteps : StepsOk2 P md ops Q J 0 ops.toList)
    (hdone : ∀ (L : Array Bool) (a : Act) (w : World), (∀ i, i < ops.size → L.getD i false = true) → J L a w → Q .normal a w) (a : Act) (w : World) (hJ : J (Array.replicate ops.size false) a w) :
    wpAnyH P md ops Q (fun _ => True) ops.size (Array.replicate ops.size false) a w := by
  refine wpAnyH_invM (fun L a w => Closed md ops L ∧ J L a w) hb (steps_of2 ops.toList 0 (fun i o e => by rw [Nat.zero_add]; simpa using e) hsteps) (fun L a w hall hj => hdone L a w hall hj.2) _ _ _ _ (by simp) ?_ ⟨fun j o _ h => absurd ((rep_false ops.size j).symm.trans h) (by decide), hJ⟩
  unfold unl
  rw [Array.toList_replicate]
  exact Nat.le_trans List.countP_le_length (by simp)
/-- The last operation j leads from S0 to S1. -/
def KS (S0 S1 : World → Prop) (j : Nat) (b : Nat → Bool) (x : Nat → Value) (w : World) : Prop := (b j = false → S0 w) ∧ (b j = true → S1 w)
theorem KS.quiet {S0 S1 : World → Prop} {j : Nat} {b : Nat → Bool} {x : Nat → Value} {w : World} (h : KS S0 S1 j b x w) (i : Nat) (v : Value) (hij : j ≠ i) : KS S0 S1 j (upd b i true) (upd x i v) w :=
  ⟨fun h1 => h.1 (by rwa [upd_ne hij] at h1), fun h1 => h.2 (by rwa [upd_ne hij] at h1)⟩
theorem KS.call {S0 S1 : World → Prop} {j : Nat} {b : Nat → Bool} {x : Nat → Value} {w w' : World} (hj : b j = false) (h : S0 w') (i : Nat) (v : Value) (hij : j ≠ i) : KS S0 S1 j (upd b i true) (upd x i v) w' :=
  ⟨fun _ => h, fun h1 => by rw [upd_ne hij, hj] at h1; cases h1⟩
theorem KS.last {S0 S1 : World → Prop} {j : Nat} {b : Nat → Bool} {x : Nat → Value} {w' : World} (h : S1 w') : KS S0 S1 j (upd b j true) x w' :=
  ⟨fun h1 => (by rw [upd_same] at h1; cases h1), fun _ => h⟩
theorem KS.start {S0 S1 : World → Prop} {j n : Nat} {x : Nat → Value} {w : World} (h : S0 w) : KS S0 S1 j (fun k => (Array.replicate n false).getD k false) x w :=
  ⟨fun _ => h, fun h1 => absurd ((rep_false n j).symm.trans h1) (by decide)⟩
theorem put_swap {a : Act} {s t : Nat} {u v : Value} (h : s ≠ t) : (a.put (some s) u).put (some t) v = (a.put (some t) v).put (some s) u := by
  simp only [Act.put]
  rw [Array.setIfInBounds_comm _ _ h]
theorem put_twice {a : Act} {s : Nat} {u v : Value} : (a.put (some s) u).put (some s) v = a.put (some s) v := by
  simp only [Act.put, Array.setIfInBounds_setIfInBounds]
theorem put_self (a : Act) (s : Nat) : a.put (some s) (a.tmps.getD s undef) = a := by
  have h : a.tmps.setIfInBounds s (a.tmps.getD s undef) = a.tmps := by
    by_cases hs : s < a.tmps.size
    · have hg : a.tmps.getD s undef = a.tmps[s] := by rw [Array.getD_eq_getD_getElem?, Array.getElem?_eq_getElem hs]; rfl
      rw [hg]
      apply Array.ext_getElem?
      intro i
      by_cases e : s = i
      · subst e
        rw [Array.getElem?_setIfInBounds_self_of_lt hs, Array.getElem?_eq_getElem hs]
      · rw [Array.getElem?_setIfInBounds_ne e]
    · apply Array.ext_getElem?
      intro i
      by_cases e : s = i
      · subst e
        rw [Array.getElem?_eq_none (by rw [Array.size_setIfInBounds]; omega), Array.getElem?_eq_none (by omega)]
      · rw [Array.getElem?_setIfInBounds_ne e]
  show ({ a with tmps := a.tmps.setIfInBounds s (a.tmps.getD s undef) } : Act) = a
  rw [h]
theorem puts_far {s i : Nat} {v : Value} {x : Nat → Value} : ∀ (l : List (Nat × Nat)) (fr : Act), (∀ p ∈ l, p.2 ≠ s) → (puts fr x l).put (some s) v = puts (fr.put (some s) v) x l
  | [], fr, _ => rfl
  | (j, t) :: l, fr, h => by
    show (puts (fr.put (some t) (x j)) x l).put (some s) v = puts ((fr.put (some s) v).put (some t) (x j)) x l
    rw [puts_far (i := i) l _ (fun p hp => h p (List.mem_cons_of_mem _ hp)), put_swap (h (j, t) (by simp))]
theorem puts_upd {i : Nat} {v : Value} {x : Nat → Value} : ∀ (l : List (Nat × Nat)) (fr : Act), (∀ p ∈ l, p.1 ≠ i) → puts fr (upd x i v) l = puts fr x l
  | [], fr, _ => rfl
  | (j, t) :: l, fr, h => by
    show puts (fr.put (some t) (upd x i v j)) (upd x i v) l = puts (fr.put (some t) (x j)) x l
    rw [upd_ne (h (j, t) (by simp)), puts_upd l _ (fun p hp => h p (List.mem_cons_of_mem _ hp))]
theorem puts_set {i s : Nat} {v : Value} {x : Nat → Value} : ∀ (l : List (Nat × Nat)) (fr : Act), (l.map Prod.fst).Nodup → (l.map Prod.snd).Nodup → (i, s) ∈ l → (puts fr x l).put (some s) v = puts fr (upd x i v) l
  | (j, t) :: l, fr, h1, h2, hm => by
    rw [List.map_cons, List.nodup_cons] at h1 h2
    rcases List.mem_cons.1 hm with e | hm
    · injection e with e1 e2
      subst e1 e2
      show (puts (fr.put (some s) (x i)) x l).put (some s) v = puts (fr.put (some s) (upd x i v i)) (upd x i v) l
      rw [puts_far (i := i) l _ (fun p hp e => h2.1 (List.mem_map.2 ⟨p, hp, e⟩)), put_twice, puts_upd l _ (fun p hp e => h1.1 (List.mem_map.2 ⟨p, hp, e⟩)), upd_same]
    · have hj : j ≠ i := fun e => h1.1 (List.mem_map.2 ⟨(i, s), hm, e.symm⟩)
      show (puts (fr.put (some t) (x j)) x l).put (some s) v = puts (fr.put (some t) (upd x i v j)) (upd x i v) l
      rw [upd_ne hj]
      exact puts_set l _ h1.2 h2.2 hm
theorem puts_self {x : Nat → Value} : ∀ (l : List (Nat × Nat)) (fr : Act), (∀ p ∈ l, x p.1 = fr.tmps.getD p.2 undef) → puts fr x l = fr
  | [], fr, _ => rfl
  | (j, t) :: l, fr, h => by
    show puts (fr.put (some t) (x j)) x l = fr
    rw [h (j, t) (by simp), put_self]
    exact puts_self l fr fun p hp => h p (List.mem_cons_of_mem _ hp)
/-- What stands in the temporaries at first. -/
def x0 (fr : Act) (l : List (Nat × Nat)) (i : Nat) : Value := fr.tmps.getD ((l.lookup i).getD 0) undef
theorem puts_x0 (fr : Act) (l : List (Nat × Nat)) (h : (l.all fun p => (l.lookup p.1).getD 0 == p.2) = true) : fr = puts fr (x0 fr l) l :=
  (puts_self l fr fun p hp => by
    have := List.all_eq_true.1 h p hp
    unfold x0
    rw [eq_of_beq this]).symm
theorem eval_put_same {a : Act} {s : Nat} {v : Value} (h : s < a.tmps.size) : (a.put (some s) v).eval (.tmp s) = v := by
  show (a.tmps.setIfInBounds s v).getD s undef = v
  rw [Array.getD_eq_getD_getElem?, Array.getElem?_setIfInBounds_self_of_lt h]; rfl
theorem eval_put_ne {a : Act} {s t : Nat} {v : Value} (h : s ≠ t) : (a.put (some s) v).eval (.tmp t) = a.eval (.tmp t) := by
  show (a.tmps.setIfInBounds s v).getD t undef = a.tmps.getD t undef
  rw [Array.getD_eq_getD_getElem?, Array.getD_eq_getD_getElem?, Array.getElem?_setIfInBounds_ne h]
theorem size_put {a : Act} {s : Nat} {v : Value} : (a.put (some s) v).tmps.size = a.tmps.size := by
  show (a.tmps.setIfInBounds s v).size = _
  rw [Array.size_setIfInBounds]
theorem eval_far {t : Nat} {x : Nat → Value} : ∀ (l : List (Nat × Nat)) (fr : Act), (∀ p ∈ l, p.2 ≠ t) → (puts fr x l).eval (.tmp t) = fr.eval (.tmp t)
  | [], fr, _ => rfl
  | (j, s) :: l, fr, h => by
    show (puts (fr.put (some s) (x j)) x l).eval (.tmp t) = _
    rw [eval_far l _ (fun p hp => h p (List.mem_cons_of_mem _ hp)), eval_put_ne (h (j, s) (by simp))]
theorem eval_at {i s : Nat} {x : Nat → Value} : ∀ (l : List (Nat × Nat)) (fr : Act), (l.map Prod.snd).Nodup → (i, s) ∈ l → s < fr.tmps.size → (puts fr x l).eval (.tmp s) = x i
  | (j, t) :: l, fr, h2, hm, hs => by
    rw [List.map_cons, List.nodup_cons] at h2
    show (puts (fr.put (some t) (x j)) x l).eval (.tmp s) = x i
    rcases List.mem_cons.1 hm with e | hm
    · injection e with e1 e2
      subst e1 e2
      rw [eval_far l _ (fun p hp e => h2.1 (List.mem_map.2 ⟨p, hp, e⟩)), eval_put_same hs]
    · exact eval_at l _ h2.2 hm (by rw [size_put]; exact hs)
end Go.Proofs.Ytkckmjajjdpodaa
