/- Several texts in one: lemmas and walks of the functions that the laws reach. -/
import Derived.Test.YtkckmjajjdpodaaY8
import Derived.Test.YtkckmjajjdpodaaY9
import Derived.Test.YtkckmjajjdpodaaY5

/- Walks: the merge of many lists: the reference's. -/
namespace Go.Proofs.Ytkckmjajjdpodaa
open Go.RowKit Go.Sort
set_option linter.unusedVariables false

/-- Three rows of the call's own. -/
structure Mr (w0 wr : World) (k gk gd ga : Nat) (ks : List Int) (ds : List Bool) (ns : List Int) : Prop where
  bel : Below w0.heap.size w0 wr
  kr : wr.ownsRow w0.heap.size 3 1 (.slice (some ⟨gk, 0, none⟩) k k) k (ints ks)
  dr : wr.ownsRow w0.heap.size 4 1 (.slice (some ⟨gd, 0, none⟩) k k) k (bools ds)
  nr : wr.ownsRow w0.heap.size 3 1 (.slice (some ⟨ga, 0, none⟩) k k) k (ints ns)
  ne : gk ≠ gd ∧ gk ≠ ga ∧ gd ≠ ga
section
variable {w0 wr wq : World} {k gk gd ga : Nat} {ks : List Int} {ds : List Bool} {ns : List Int}
theorem Mr.same (h : Mr w0 wr k gk gd ga ks ds ns) (hb : Below wr.heap.size wr wq) : Mr w0 wq k gk gd ga ks ds ns :=
  ⟨below_tr h.bel hb h.bel.size, own_below h.kr (Nat.le_refl _) hb, own_below h.dr (Nat.le_refl _) hb, own_below h.nr (Nat.le_refl _) hb, h.ne⟩
theorem Mr.setk (h : Mr w0 wr k gk gd ga ks ds ns) (j : Nat) (x : Int) : Mr w0 (wr.setCell ⟨gk, j, none⟩ (.int .i64 x)) k gk gd ga (ks.set j x) ds ns := by
  have hs := h.kr.stored j (.int .i64 x)
  rw [ints_set] at hs
  exact ⟨h.bel.setCell (p := ⟨gk, j, none⟩) (h.kr.lt gk rfl).1 _, hs.1, own_far h.dr hs.2 (Ne.symm h.ne.1), own_far h.nr hs.2 (Ne.symm h.ne.2.1), h.ne⟩
theorem Mr.setd (h : Mr w0 wr k gk gd ga ks ds ns) (j : Nat) (x : Bool) : Mr w0 (wr.setCell ⟨gd, j, none⟩ (.bool x)) k gk gd ga ks (ds.set j x) ns := by
  have hs := h.dr.stored j (.bool x)
  rw [bools_set] at hs
  exact ⟨h.bel.setCell (p := ⟨gd, j, none⟩) (h.dr.lt gd rfl).1 _, own_far h.kr hs.2 h.ne.1, hs.1, own_far h.nr hs.2 (Ne.symm h.ne.2.2), h.ne⟩
end

/-- The tree, the positions, what is out. -/
structure Sm (w0 wq : World) (B T ga k gk gd c0 c2 win : Nat) (lv : Value) (ks : List Int) (ds : List Bool) (ns : List Int) (o : Value) (t : Nat) (O : List (Int × Int)) : Prop where
  bel : Below w0.heap.size w0 wq
  hi : B ≤ wq.heap.size
  lo : w0.heap.size ≤ T ∧ w0.heap.size ≤ ga ∧ w0.heap.size ≤ B
  lt : T < B ∧ ga < B
  ne : T ≠ ga ∧ gk ≠ T ∧ gk ≠ ga ∧ gd ≠ T ∧ gd ≠ ga
  nk : o.ownBlock ≠ some gk ∧ o.ownBlock ≠ some gd
  gl : gk < wq.heap.size ∧ gd < wq.heap.size
  tr : wq.heap[T]? = some (.cells #[.slice (some ⟨gk, 0, none⟩) k c0, .slice (some ⟨gd, 0, none⟩) k c2, lv, .int .i64 win] 165 (0, 0))
  kv : ValsAt wq (some ⟨gk, 0, none⟩) (ints ks)
  dv : ValsAt wq (some ⟨gd, 0, none⟩) (bools ds)
  ar : wq.ownsRow w0.heap.size 3 1 (.slice (some ⟨ga, 0, none⟩) k k) k (ints ns)
  oo : wq.ownsRow B 72 2 o t (flat encR O)
section
variable {w0 wq wz : World} {B T ga k gk gd c0 c2 win t : Nat} {lv o : Value} {ks : List Int} {ds : List Bool} {ns : List Int} {O : List (Int × Int)}
theorem Sm.same (h : Sm w0 wq B T ga k gk gd c0 c2 win lv ks ds ns o t O) (hb : Below wq.heap.size wq wz) : Sm w0 wz B T ga k gk gd c0 c2 win lv ks ds ns o t O :=
  ⟨below_tr h.bel hb h.bel.size, Nat.le_trans h.hi hb.size, h.lo, h.lt, h.ne, h.nk, ⟨Nat.lt_of_lt_of_le h.gl.1 hb.size, Nat.lt_of_lt_of_le h.gl.2 hb.size⟩, block_below h.tr hb (Nat.lt_of_lt_of_le h.lt.1 h.hi), h.kv.same hb, h.dv.same hb, own_below h.ar (Nat.le_refl _) hb, own_below h.oo (Nat.le_refl _) hb⟩
theorem Sm.app {o' : Value} {t' : Nat} {O' : List (Int × Int)} (h : Sm w0 wq B T ga k gk gd c0 c2 win lv ks ds ns o t O) (ho : wz.ownsRow B 72 2 o' t' (flat encR O')) (hg : wq.grownBy wz o.ownBlock) (ht : o'.ownBlock = o.ownBlock ∨ o'.ownBlock = some wq.heap.size) : Sm w0 wz B T ga k gk gd c0 c2 win lv ks ds ns o' t' O' := by
  have hge : ∀ b, o.ownBlock = some b → B ≤ b := fun b e => (h.oo.lt b e).1
  have hlt := h.lt
  have hlo := h.lo
  have hgl := h.gl
  refine ⟨h.bel.grown hg h.bel.size (fun b e => by have := hge b e; omega), Nat.le_trans h.hi hg.size, h.lo, h.lt, h.ne, ?_, ⟨Nat.lt_of_lt_of_le h.gl.1 hg.size, Nat.lt_of_lt_of_le h.gl.2 hg.size⟩, block_row h.tr hg (fun e => by have := hge _ e; omega), h.kv.grown hg (fun b off e he => by injection e with e; injection e with e1 e2; rw [← e1] at he; exact h.nk.1 he), h.dv.grown hg (fun b off e he => by injection e with e; injection e with e1 e2; rw [← e1] at he; exact h.nk.2 he), own_other h.ar hg (fun q hq e => by simp [Value.ownBlock] at hq; have := hge _ e; omega), ho⟩
  rcases ht with e | e
  · rw [e]; exact h.nk
  · rw [e]; exact ⟨fun e => by injection e with e; omega, fun e => by injection e with e; omega⟩
theorem Sm.setn (h : Sm w0 wq B T ga k gk gd c0 c2 win lv ks ds ns o t O) (j : Nat) (x : Int) : Sm w0 (wq.setCell ⟨ga, j, none⟩ (.int .i64 x)) B T ga k gk gd c0 c2 win lv ks ds (ns.set j x) o t O := by
  have hs := h.ar.stored j (.int .i64 x)
  rw [ints_set] at hs
  obtain ⟨n1, n2, n3, n4, n5⟩ := h.ne
  exact ⟨h.bel.setCell (p := ⟨ga, j, none⟩) h.lo.2.1 _, Nat.le_trans h.hi hs.2.size, h.lo, h.lt, h.ne, h.nk, ⟨Nat.lt_of_lt_of_le h.gl.1 hs.2.size, Nat.lt_of_lt_of_le h.gl.2 hs.2.size⟩, block_row h.tr hs.2 (by intro e; injection e with e; omega), h.kv.grown hs.2 (fun b off e he => by injection e with e; injection e with e1 e2; injection he with he; omega), h.dv.grown hs.2 (fun b off e he => by injection e with e; injection e with e1 e2; injection he with he; omega), hs.1, ownsRow_setCell_below h.oo h.lt.2 _⟩
/-- The tree is replaced. -/
theorem Sm.tree {gk' gd' c0' c2' win' : Nat} {lv' : Value} {ks' : List Int} {ds' : List Bool} (h : Sm w0 wq B T ga k gk gd c0 c2 win lv ks ds ns o t O) (hg : wq.grownBy wz (some T))
    (hr : wz.heap[T]? = some (.cells #[.slice (some ⟨gk', 0, none⟩) k c0', .slice (some ⟨gd', 0, none⟩) k c2', lv', .int .i64 win'] 165 (0, 0)))
    (hk : ValsAt wq (some ⟨gk', 0, none⟩) (ints ks')) (hd : ValsAt wq (some ⟨gd', 0, none⟩) (bools ds')) (hgk : B ≤ gk' ∧ gk' < wq.heap.size) (hgd : B ≤ gd' ∧ gd' < wq.heap.size) (hnk : o.ownBlock ≠ some gk' ∧ o.ownBlock ≠ some gd') : Sm w0 wz B T ga k gk' gd' c0' c2' win' lv' ks' ds' ns o t O := by
  have hlt := h.lt
  obtain ⟨n1, n2, n3, n4, n5⟩ := h.ne
  exact ⟨h.bel.grown hg h.bel.size (fun b e => by injection e with e; have := h.lo; omega), Nat.le_trans h.hi hg.size, h.lo, h.lt, ⟨n1, by omega, by omega, by omega, by omega⟩, hnk, ⟨Nat.lt_of_lt_of_le hgk.2 hg.size, Nat.lt_of_lt_of_le hgd.2 hg.size⟩, hr, hk.grown hg (fun b off e he => by injection e with e; injection e with e1 e2; injection he with he; omega), hd.grown hg (fun b off e he => by injection e with e; injection e with e1 e2; injection he with he; omega), own_other h.ar hg (fun q hq e => by simp [Value.ownBlock] at hq; injection e with e; omega), own_other h.oo hg (fun q hq e => by injection e with e; have := (h.oo.lt q hq).1; omega)⟩
end

theorem set_self {l : List Bool} {i : Nat} {x : Bool} (h : l.getD i false = x) (hi : i < l.length) : l.set i x = l := by
  refine List.ext_getElem (by simp) fun j h1 h2 => ?_
  rw [List.getElem_set]
  split
  · rename_i e
    subst e
    rw [List.getD_eq_getElem?_getD, List.getElem?_eq_getElem hi] at h
    exact h.symm
  · rfl

set_option maxRecDepth 100000 in
set_option maxHeartbeats 8000000 in
theorem l16Merge_any (la lo k lc : Nat) (Ls : List (List (Int × Int))) (w : World) (hk0 : 0 < k) (hk : k ≤ 100) (hLs : LsAt w (some ⟨la, lo, none⟩) k lc Ls) (hN : Ls.flatten.length ≤ 1000) (ha : ∀ l ∈ Ls, Mg.Asc Mg.ltF l) :
    Calls Try.prog 140 #[.slice (some ⟨la, lo, none⟩) k lc] w (KwEnd w Ls) := by
  have HLS := Lib.hid hLs; have HA := Lib.hid ha
  have hll : Ls.length = k := hLs.len
  clear hLs ha
  unfold KwEnd
  obtain ⟨N, hNN⟩ : ∃ N, Ls.flatten.length = N := ⟨_, rfl⟩
  have HNN := Lib.hid hNN
  rw [hNN] at hN ⊢
  clear hNN
  go_enter Try.func140, Try.ntmps140
  go_wp2_with (at_make; refine wpList_mk slInt rfl _ _ rfl k rfl rfl (by omega) ?_)
  intro w1 hown1 hb1 hs1
  have HO1 := Lib.hid (made_ints (by simpa [Value.cells] using hown1)); have HB1 := Lib.hid hb1
  clear hown1 hb1
  go_wp2_with (at_make; refine wpList_mk slBoolE rfl _ _ rfl k rfl rfl (by omega) ?_)
  intro w2 hown2 hb2 hs2
  have HO12 := Lib.hid (own_below HO1.out (Nat.le_refl _) hb2)
  have HB2 := Lib.hid (below_tr HB1.out hb2 HB1.out.size)
  have HO2 : Hid (w2.ownsRow w.heap.size 4 1 (.slice (some ⟨w1.heap.size, 0, none⟩) k k) k (bools (List.replicate k false))) := by
    show World.ownsRow _ _ _ _ _ _ _
    rw [show bools (List.replicate k false) = List.replicate k (.bool false) by simp [bools], ← toList_madeCells_one]
    exact own_mono (by simpa [Value.cells] using hown2) HB1.out.size
  clear hown2 hb2 HO1
  go_wp2_with (at_make; refine wpList_mk slInt rfl _ _ rfl k rfl rfl (by omega) ?_)
  intro w3 hown3 hb3 hs3
  have HMR : Hid (Mr w w3 k w.heap.size w1.heap.size w2.heap.size (List.replicate k 0) (List.replicate k false) (List.replicate k 0)) :=
    ⟨below_tr HB2.out hb3 HB2.out.size, own_below HO12.out (Nat.le_refl _) hb3, own_below HO2.out (Nat.le_refl _) hb3, own_mono (made_ints (by simpa [Value.cells] using hown3)) HB2.out.size, ⟨by omega, by omega, by omega⟩⟩
  have hA3 : w2.heap.size < w3.heap.size := hs3
  have HLE : Hid (∀ i, i < k → (Ls.getD i []).length ≤ 1000) := fun i hi => by
    have := flat_mem_len (Ls := Ls) (i := i) (by omega)
    have := HNN.out
    omega
  generalize w1.heap.size = gD at *
  generalize w2.heap.size = gA at *
  clear hown3 hb3 HO12 HO2 HB1 HB2
  go_wp2_with fail
  go_loopw [7] (fun v wr => ∃ (i : Nat) (ks : List Int) (ds : List Bool), v = .int .i64 i ∧ i ≤ k ∧ Mr w wr k w.heap.size gD gA ks ds (List.replicate k 0) ∧ Hid (∀ j, j < i → ks.getD j 0 = Mg.hk (Ls.getD j []) ∧ ds.getD j false = (Ls.getD j []).isEmpty) ∧ Hid (∀ j, i ≤ j → ks.getD j 0 = 0) ∧ w3.heap.size ≤ wr.heap.size) (fun v _ => k - (intOf v).toNat)
  case atStart => exact ⟨0, _, _, rfl, by omega, HMR.out, Lib.hid (fun j hj => by omega), Lib.hid (fun j _ => by
    rw [List.getD_eq_getElem?_getD, List.getElem?_replicate]; split <;> rfl), Nat.le_refl _⟩
  case round =>
    obtain ⟨i, ks, ds, rfl, hi, hm, HALL, HZ, hszr⟩ := hrel
    have HM1 := Lib.hid hm
    have hkl : ks.length = k := by have := hm.kr.1; simpa using this
    have hdl : ds.length = k := by have := hm.dr.1; simpa using this
    clear hm HMR
    by_cases hlt : i < k
    · have q1 : decide ((i : Int) < (k : Int)) = true := decide_eq_true (by omega)
      obtain ⟨lb, lof, xa, d, e, hc0, hr0⟩ := HLS.out.at hlt
      injection e with e
      injection e with e1 e2
      subst e1 e2
      obtain ⟨Lw, hLw⟩ : ∃ Lw, Ls.getD i [] = Lw := ⟨_, rfl⟩
      have HLW := Lib.hid hLw
      rw [hLw] at hc0 hr0
      obtain ⟨m, hm⟩ : ∃ m, Lw.length = m := ⟨_, rfl⟩
      rw [hm] at hc0 hr0
      have hcl := World.block_lt_of_cell? w _ hc0
      have y0 := (HM1.out.bel.cell (p := ⟨la, lo + i, none⟩) hcl).trans hc0
      have x1 := HM1.out.dr.cellAt i (by omega)
      rw [bools_at (by omega)] at x1
      have f1 := HM1.out.dr.frozenAt i
      have HM2 := Lib.hid (HM1.out.setd i Lw.isEmpty)
      have z0 := (HM2.out.bel.cell (p := ⟨la, lo + i, none⟩) hcl).trans hc0
      have z1 := HM2.out.dr.cellAt i (by omega)
      rw [bools_at (by rw [List.length_set]; omega), getD_setB (by omega), if_pos rfl] at z1
      have b1 : (0 : Int) ≤ (i : Int) := by omega
      have b2 : (i : Int) < (k : Int) := by omega
      have t1 : ((i : Int)).toNat = i := by omega
      clear hLw
      cases Lw with
      | nil =>
        have hm0 : m = 0 := by rw [← hm]; rfl
        have q2 : ((m : Int) == 0) = true := by simp; omega
        have z1 : (w.heap.size, w.heap.size) = (w.heap.size, w.heap.size) ∧ _ := ⟨rfl, z1⟩
        obtain ⟨_, z1⟩ := z1
        have HM2 : Hid (Mr w (wr.setCell ⟨gD, i, none⟩ (.bool true)) k w.heap.size gD gA ks (ds.set i true) (List.replicate k 0)) := HM2
        have z1 : (wr.setCell ⟨gD, i, none⟩ (.bool true)).cell? ⟨gD, i, none⟩ = some (.bool true) := z1
        have z0 : (wr.setCell ⟨gD, i, none⟩ (.bool true)).cell? ⟨la, lo + i, none⟩ = some (.slice xa m d) := z0
        clear hm hc0 hr0
        go_wp2
        go_roundw
        case rel => exact ⟨i + 1, _, _, by go_num, by omega, HM2.out, Lib.hid (fun j hj => by
          rw [getD_setB (by omega)]
          by_cases hij : i = j
          · rw [if_pos hij, ← hij, HLW.out]; exact ⟨HZ.out i (Nat.le_refl _), rfl⟩
          · rw [if_neg hij]; exact HALL.out j (by omega)), Lib.hid (fun j hj => HZ.out j (by omega)), by simpa using hszr⟩
        case measure => simp [intOf] <;> omega
      | cons X tl =>
        have hm0 : 0 < m := by rw [← hm]; simp
        have q2 : ((m : Int) == 0) = false := by rw [beq_eq_false_iff_ne]; omega
        have q3 : (0 : Int) < (m : Int) := by omega
        obtain ⟨xb, xo, rfl, x2, _⟩ := hr0.at (k := 0) hm0
        have x2 : w.cell? ⟨xb, xo, none⟩ = some (.int .i64 X.1) := by simpa using x2
        have HM2 : Hid (Mr w (wr.setCell ⟨gD, i, none⟩ (.bool false)) k w.heap.size gD gA ks (ds.set i false) (List.replicate k 0)) := HM2
        have z1 : (wr.setCell ⟨gD, i, none⟩ (.bool false)).cell? ⟨gD, i, none⟩ = some (.bool false) := z1
        have z0 : (wr.setCell ⟨gD, i, none⟩ (.bool false)).cell? ⟨la, lo + i, none⟩ = some (.slice (some ⟨xb, xo, none⟩) m d) := z0
        have z2 := (HM2.out.bel.cell (p := ⟨xb, xo, none⟩) (World.block_lt_of_cell? w _ x2)).trans x2
        have z3 := HM2.out.kr.cellAt i (by omega)
        rw [ints_at (by omega)] at z3
        have f3 := HM2.out.kr.frozenAt i
        have HM3 := Lib.hid (HM2.out.setk i X.1)
        clear hm hc0 hr0 x2
        go_wp2
        go_roundw
        case rel => exact ⟨i + 1, _, _, by go_num, by omega, HM3.out, Lib.hid (fun j hj => by
          rw [getD_setB (by omega), getD_setE (by omega)]
          by_cases hij : i = j
          · rw [if_pos hij, if_pos hij, ← hij, HLW.out]; exact ⟨rfl, rfl⟩
          · rw [if_neg hij, if_neg hij]; exact HALL.out j (by omega)), Lib.hid (fun j hj => by
          rw [getD_setE (by omega), if_neg (by omega)]; exact HZ.out j (by omega)), by simpa using hszr⟩
        case measure => simp [intOf] <;> omega
    have hik : k = i := by omega
    subst hik
    have q1 : decide ((k : Int) < (k : Int)) = false := by simp
    have hks : ks = Mg.keysOf Ls := keys_of (by omega) (fun j hj => (HALL.out j (by omega)).1)
    have hds : ds = Mg.doneOf Ls := done_of (by omega) (fun j hj => (HALL.out j (by omega)).2)
    rw [hks, hds] at HM1
    clear hks hds HALL HZ hkl hdl
    have HMK := Lib.hid (l16Make_any w.heap.size 0 gD 0 k k k (Mg.keysOf Ls) (Mg.doneOf Ls) wr hk0 hk (by simp [Mg.keysOf, hll]) (by simp [Mg.doneOf, hll]) (vals_own HM1.out.kr) (vals_own HM1.out.dr))
    unfold MkEnd at HMK
    go_wp2_with fail
    refine HMK.out.mono ?_
    rintro e w4 ⟨win, gk, c0, gd, c2, lv, rfl, hlv, hwin, hkv, hdv, hg1, hg2, hb⟩
    have hgk4 : gk < w4.heap.size := by
      obtain ⟨b, off, e, hc⟩ := hkv.at (ints_at (show 0 < (Mg.keysOf Ls).length by simp [Mg.keysOf]; omega))
      injection e with e
      injection e with e1 e2
      subst e1
      exact World.block_lt_of_cell? w4 _ hc
    have hgd4 : gd < w4.heap.size := by
      obtain ⟨b, off, e, hc⟩ := hdv.at (bools_at (show 0 < (Mg.doneOf Ls).length by simp [Mg.doneOf]; omega))
      injection e with e
      injection e with e1 e2
      subst e1
      exact World.block_lt_of_cell? w4 _ hc
    have HT := Lib.hid (block_new w4 (.cells #[.slice none 0 0, .slice none 0 0, .slice none 0 0, .int .i64 0] 165))
    have hbn := belowNew w4 (.cells #[.slice none 0 0, .slice none 0 0, .slice none 0 0, .int .i64 0] 165)
    have hbel := below_tr (below_tr HM1.out.bel hb HM1.out.bel.size) hbn (below_tr HM1.out.bel hb HM1.out.bel.size).size
    have har := own_below (own_below HM1.out.nr (Nat.le_refl _) hb) (Nat.le_refl _) hbn
    have hszA : gA < wr.heap.size := by omega
    have hsz4 := hb.size
    have hwsz := HM1.out.bel.size
    have HKV := Lib.hid (hkv.same hbn); have HDV := Lib.hid (hdv.same hbn); have HAR := Lib.hid har; have HBL := Lib.hid hbel; have HWN := Lib.hid hwin
    have hgA0 : w.heap.size < gA := by omega
    clear hkv hdv har hbel hbn hb hwin HMK HM1
    go_wp2_with (refine wpList_var rfl 165 _ _ rfl rfl rfl HT.out (by kernel_rfl) rfl (by simpa [Value.oneCell'] using hlv) ?_)
    intro w5 hrow hg
    have hs45 : w4.heap.size < w5.heap.size := by have := hg.size; simp at this; omega
    have HSM : Hid (Sm w (w5.alloc (.cells #[] 72)) w5.heap.size w4.heap.size gA k gk gd c0 c2 win lv (Mg.keysOf Ls) (Mg.doneOf Ls) (List.replicate k 0) (.slice (some ⟨w5.heap.size, 0, none⟩) 0 0) 0 []) := by
      have hb5 := HBL.out.grown hg HBL.out.size (fun b e => by injection e with e; omega)
      refine ⟨below_tr hb5 (belowNew _ _) hb5.size, by simp, ⟨by omega, by omega, hb5.size⟩, ⟨hs45, by omega⟩, ⟨by omega, by omega, by omega, by omega, by omega⟩, ⟨by simp [Value.ownBlock]; omega, by simp [Value.ownBlock]; omega⟩, ⟨by simp; omega, by simp; omega⟩, block_below hrow (belowNew _ _) hs45, ?_, ?_, ?_, own_lit (w := w5) (e := 72) (size := 2) #[] 0 (by omega) rfl⟩
      · exact (HKV.out.grown hg (fun b off e he => by injection e with e; injection e with e1 e2; injection he with he; omega)).same (belowNew _ _)
      · exact (HDV.out.grown hg (fun b off e he => by injection e with e; injection e with e1 e2; injection he with he; omega)).same (belowNew _ _)
      · exact own_below (own_far HAR.out hg (by omega)) (Nat.le_refl _) (belowNew _ _)
    obtain ⟨B, hB⟩ : ∃ B, w5.heap.size = B := ⟨_, rfl⟩
    have hcast : (List.replicate k (0 : Nat)).map (fun p : Nat => (p : Int)) = List.replicate k 0 := by simp
    rw [hB, ← hcast] at HSM
    generalize w4.heap.size = T at *
    have hob0 : (Value.slice (some ⟨B, 0, none⟩) 0 0).ownBlock ≠ none := by simp [Value.ownBlock]
    clear hrow hg HKV HDV HAR HBL HT hs45 hszA hsz4 hg1 hg2 hwsz hgA0 hgk4 hgd4 hcast
    go_wp2_with fail
    go_loopw [9, 10] (fun o c wq => ∃ (t q win gk gd c0 c2 : Nat) (lv : Value) (rs : List (List (Int × Int))) (ps : List Nat) (O : List (Int × Int)), c = .int .i64 q ∧ Sm w wq B T gA k gk gd c0 c2 win lv (Mg.keysOf rs) (Mg.doneOf rs) (ps.map fun p : Nat => (p : Int)) o t O ∧ o.ownBlock ≠ none ∧ lv.oneCell' = true ∧ Hid (Mg.Win (Mg.keysOf rs) (Mg.doneOf rs) k win) ∧ rs.length = k ∧ ps.length = k ∧ t + rs.flatten.length = N ∧ q ≤ 100 + 10 * t ∧
          Hid (∀ i, i < k → rs.getD i [] = (Ls.getD i []).drop (ps.getD i 0) ∧ ps.getD i 0 ≤ (Ls.getD i []).length) ∧ Hid (∀ l ∈ rs, Mg.Asc Mg.ltF l) ∧ Hid (O ++ Mg.srtP rs.flatten = Mg.srtP Ls.flatten) ∧ Hid (q + Mg.kc rs.flatten.length rs = Mg.kcs Ls)) (fun o _ _ => N - lenV o)
    case atStart =>
      refine ⟨0, k - 1, win, gk, gd, c0, c2, lv, Ls, List.replicate k 0, [], by go_num, HSM.out, hob0, hlv, HWN, hll, by simp, by have := HNN.out; omega, by omega, Lib.hid (fun i hi => ?_), HA, Lib.hid rfl, Lib.hid ?_⟩
      · rw [getD_rep hi, List.drop_zero]; exact ⟨rfl, Nat.zero_le _⟩
      · unfold Mg.kcs; rw [hll]
    case round =>
      clear HSM HWN hob0 hlv
      obtain ⟨t, q, win, gk, gd, c0, c2, lv, rs, ps, O, rfl, hsm, hob, hlv, HWN, hrl, hpl, htn, hq, HRS, HAS, HOO, HKC⟩ := hrel
      have HW : Hid (Mg.Win (Mg.keysOf rs) (Mg.doneOf rs) rs.length win) := by show Mg.Win _ _ _ _; rw [hrl]; exact HWN.out
      have hwk : win < k := HWN.out.1
      obtain ⟨oa, oc, rfl⟩ := own_slice hsm.oo
      have HS1 := Lib.hid hsm; have HOB := Lib.hid hob
      clear hsm hob HWN
      obtain ⟨d0, d1, d2, d3⟩ := cellsQ HS1.out.tr
      obtain ⟨db', do', e, c3⟩ := HS1.out.dv.at (bools_at (show win < (Mg.doneOf rs).length by simp [Mg.doneOf]; omega))
      injection e with e
      injection e with e1 e2
      subst e1 e2
      rw [Mg.doneOf_at (by omega)] at c3
      have c3 : wr.cell? ⟨gd, win, none⟩ = some (.bool (rs.getD win []).isEmpty) := by simpa using c3
      have b1 : (0 : Int) ≤ (win : Int) := by omega
      have b2 : (win : Int) < (k : Int) := by omega
      have t1 : ((win : Int)).toNat = win := by omega
      cases hrw : rs.getD win [] with
      | nil =>
        have HD := Lib.hid (Mg.all_done HW.out hrw)
        rw [hrw] at c3
        have c3 : wr.cell? ⟨gd, win, none⟩ = some (.bool true) := c3
        clear hrw
        go_wp2
        go_ret2
        obtain ⟨g, rfl, _, _⟩ := own_addr HS1.out.oo HOB.out
        have hdl : rs.flatten.length = 0 := by rw [HD.out]; rfl
        have ht : N = t := by omega
        subst ht
        have hO : O = Mg.srtP Ls.flatten := by
          have := HOO.out
          rw [HD.out] at this
          rw [← this]
          show O = O ++ Mg.srt Mg.ltF []
          rw [Mg.srt_nil, List.append_nil]
        have hqq : q = Mg.kcs Ls := by
          have := HKC.out
          rw [hdl] at this
          rw [← this]; rw [Mg.kc]; rfl
        have hoo := HS1.out.oo
        rw [hO] at hoo
        exact ⟨g, oc, by rw [hqq]; rfl, own_mono hoo HS1.out.lo.2.2, HS1.out.bel⟩
      | cons X tl =>
        rw [hrw] at c3
        have c3 : wr.cell? ⟨gd, win, none⟩ = some (.bool false) := c3
        obtain ⟨hd1, hd2⟩ := HRS.out win hwk
        obtain ⟨p, hp⟩ : ∃ p, ps.getD win 0 = p := ⟨_, rfl⟩
        obtain ⟨Lw, hLw⟩ : ∃ Lw, Ls.getD win [] = Lw := ⟨_, rfl⟩
        rw [hrw, hp, hLw] at hd1
        rw [hp, hLw] at hd2
        have hpl2 : p < Lw.length := by
          rcases Nat.lt_or_ge p Lw.length with h | h
          · exact h
          · rw [List.drop_of_length_le h] at hd1; cases hd1
        have hd3 : Lw.getD p (0, 0) = X ∧ Lw.drop (p + 1) = tl := by
          rw [List.drop_eq_getElem_cons hpl2] at hd1
          injection hd1 with h1 h2
          exact ⟨by rw [h1, List.getD_eq_getElem?_getD, List.getElem?_eq_getElem hpl2]; rfl, h2.symm⟩
        obtain ⟨lb, lof, xa, d, e, hc0, hr0⟩ := HLS.out.at hwk
        injection e with e
        injection e with e1 e2
        subst e1 e2
        rw [hLw] at hc0 hr0
        obtain ⟨xb, xo, rfl, x1, x2⟩ := hr0.at hpl2
        rw [hd3.1] at x1 x2
        have hb0 := World.block_lt_of_cell? w _ hc0
        have hb1 := World.block_lt_of_cell? w _ x1
        have hb2 := World.block_lt_of_cell? w _ x2
        have hpI : (ps.map fun p : Nat => (p : Int)).getD win 0 = (p : Int) := by
          rw [List.getD_eq_getElem?_getD, List.getElem?_map, List.getElem?_eq_getElem (by omega)]
          rw [List.getD_eq_getElem?_getD, List.getElem?_eq_getElem (by omega)] at hp
          show ((ps[win] : Nat) : Int) = _
          rw [show ps[win] = p from hp]
        have hLwN : Lw.length ≤ 1000 := by rw [← hLw]; exact HLE.out win hwk
        have HKS := Lib.hid (Mg.kstep HW.out hrw HAS.out)
        have HKK := Lib.hid (fun f => Mg.kc_step (f := f) HW.out hrw)
        have HLN := Lib.hid (Mg.len_step (rs := rs) (w := win) (by omega) hrw)
        have HAS2 := Lib.hid (Mg.asc_step (rs := rs) (w := win) (by omega) hrw HAS.out)
        have HDW : Hid ((Mg.doneOf rs).getD win false = false) := by show _ = _; rw [Mg.doneOf_at (by omega), hrw]; rfl
        have HX := Lib.hid hd3.1; have HTL := Lib.hid hd3.2; have HP := Lib.hid hp; have HPI := Lib.hid hpI; have HLW := Lib.hid hLw; have HRW := Lib.hid hrw; have HRR := Lib.hid hr0; have HHC := Lib.hid hc0
        clear hr0 hd1 hd3 hp hpI hLw hrw HAS HW
        have b3 : (0 : Int) ≤ (p : Int) := by omega
        have b4 : (p : Int) < (Lw.length : Int) := by omega
        have t2 : ((p : Int)).toNat = p := by omega
        obtain ⟨X1, X2⟩ := X
        have x1 : w.cell? ⟨xb, xo + p * 2, none⟩ = some (.int .i64 X1) := x1
        have x2 : w.cell? ⟨xb, xo + p * 2 + 1, none⟩ = some (.int .i64 X2) := x2
        have htN : t + 1 ≤ 1099511627776 := by omega
        have HC := Lib.hid (fun (w' : World) (h : Sm w w' B T gA k gk gd c0 c2 win lv (Mg.keysOf rs) (Mg.doneOf rs) (ps.map fun p : Nat => (p : Int)) (.slice oa t oc) t O) => show w'.cell? ⟨la, lo + win, none⟩ = some (.slice (some ⟨xb, xo, none⟩) Lw.length d) ∧ w'.cell? ⟨gA, win, none⟩ = some (.int .i64 p) ∧ w'.cell? ⟨xb, xo + p * 2, none⟩ = some (.int .i64 X1) ∧ w'.cell? ⟨xb, xo + p * 2 + 1, none⟩ = some (.int .i64 X2) from
          ⟨(h.bel.cell (p := ⟨la, lo + win, none⟩) hb0).trans hc0, by have := h.ar.cellAt win (by omega); rwa [ints_at (by simp; omega), HPI.out] at this, (h.bel.cell (p := ⟨xb, xo + p * 2, none⟩) hb1).trans x1, (h.bel.cell (p := ⟨xb, xo + p * 2 + 1, none⟩) hb2).trans x2⟩)
        clear hc0
        have HKd := Lib.hid (HS1.out.same (wz := wr.drew) ((Below.refl _ _).drew))
        have HKa := Lib.hid (HKd.out.same (belowNew wr.drew (.cells #[.int .i64 X1, .int .i64 X2] 72)))
        have HNW := Lib.hid (cells_new wr.drew [.int .i64 X1, .int .i64 X2] 72)
        have hS0 := HC.out _ HKd.out
        have hS1 := HC.out _ HKa.out
        have hBs := HKa.out.hi
        clear HS1 HKd
        go_wp2_with fail
        clear c3 d0 d1 d2 d3
        go_region_held3 (fun w' => w'.cell? ⟨la, lo + win, none⟩ = some (.slice (some ⟨xb, xo, none⟩) Lw.length d) ∧ w'.cell? ⟨gA, win, none⟩ = some (.int .i64 p) ∧ w'.cell? ⟨xb, xo + p * 2, none⟩ = some (.int .i64 X1) ∧ w'.cell? ⟨xb, xo + p * 2 + 1, none⟩ = some (.int .i64 X2)) (first | assumption | go_keep) (first | ((try go_split_ands); refine step_appX slRec (by rfl) _ _ (by rfl) B (.slice oa t oc) t (flat encR O) _ 1 _ [.int .i64 X1, .int .i64 X2] (by rfl) HKa.out.oo (by rfl) rfl HNW.out (by simp [Value.oneCell']) htN hBs ?_; intro v' w5 hown' hg' ht'; have HK5 := Lib.hid (HKa.out.app (O' := O ++ [(X1, X2)]) (by rw [flat_append, flat_one]; exact hown') hg' ht'); have hS2 : w5.cell? ⟨la, lo + win, none⟩ = some (.slice (some ⟨xb, xo, none⟩) Lw.length d) ∧ w5.cell? ⟨gA, win, none⟩ = some (.int .i64 p) ∧ w5.cell? ⟨xb, xo + p * 2, none⟩ = some (.int .i64 X1) ∧ w5.cell? ⟨xb, xo + p * 2 + 1, none⟩ = some (.int .i64 X2) := ⟨(HK5.out.bel.cell (p := ⟨la, lo + win, none⟩) hb0).trans HHC.out, by have := HK5.out.ar.cellAt win (by omega); rwa [ints_at (by simp; omega), HPI.out] at this, (HK5.out.bel.cell (p := ⟨xb, xo + p * 2, none⟩) hb1).trans x1, (HK5.out.bel.cell (p := ⟨xb, xo + p * 2 + 1, none⟩) hb2).trans x2⟩))
        obtain ⟨a5, c5, rfl⟩ := own_slice hown'
        have HOB5 : Hid ((Value.slice a5 (t + 1) c5).ownBlock ≠ none) := by
          show _ ≠ _
          rcases ht' with h | h
          · rw [h]; exact HOB.out
          · rw [h]; simp
        clear hown' hg' ht' HKa HOB HC HNW hBs
        try clear hS0
        try clear hS1
        try clear hS2
        have y5 := HK5.out.ar.cellAt win (by omega)
        rw [ints_at (by simp; omega), HPI.out] at y5
        have y6 := HK5.out.ar.frozenAt win
        have HK6 : Hid (Sm w (w5.setCell ⟨gA, win, none⟩ (.int .i64 ((p : Int) + 1))) B T gA k gk gd c0 c2 win lv (Mg.keysOf rs) (Mg.doneOf rs) ((ps.set win (p + 1)).map fun p : Nat => (p : Int)) (.slice a5 (t + 1) c5) (t + 1) (O ++ [(X1, X2)])) := by
          show Sm _ _ _ _ _ _ _ _ _ _ _ _ _ _ _ _ _ _
          rw [List.map_set]; exact HK5.out.setn win ((p : Int) + 1)
        have hgklt : gk < w5.heap.size ∧ gd < w5.heap.size := HK5.out.gl
        have hobl : ∀ q, (Value.slice a5 (t + 1) c5).ownBlock = some q → q < w5.heap.size := fun q hq => (HK5.out.oo.lt q hq).2
        have z0 := (HK6.out.bel.cell (p := ⟨la, lo + win, none⟩) hb0).trans HHC.out
        have z1 := HK6.out.ar.cellAt win (by omega)
        rw [ints_at (by simp; omega), List.map_set, getD_setG (by simp; omega), if_pos rfl] at z1
        have hpc : (((p + 1 : Nat)) : Int) = (p : Int) + 1 := by omega
        rw [hpc] at z1
        clear hpc
        clear HK5
        cases tl with
        | nil =>
          have hpn : p + 1 = Lw.length := by
            have := HTL.out
            have h2 : (Lw.drop (p + 1)).length = 0 := by rw [this]; rfl
            rw [List.length_drop] at h2; omega
          have q2 : ((p : Int) + 1 == (Lw.length : Int)) = true := by simp; omega
          go_wp2_with fail
          go_quiet (fail)
          have HZ7 := Lib.hid (HK6.out.same (below_drewN (Below.refl _ (w5.setCell ⟨gA, win, none⟩ (.int .i64 ((p : Int) + 1)))) nq))
          generalize (w5.setCell ⟨gA, win, none⟩ (.int .i64 ((p : Int) + 1))).drewN nq = w7 at HZ7 ⊢
          clear z0 z1 HK6
          have HK7 := HZ7
          clear HZ7
          obtain ⟨d0, d1, d2, d3⟩ := cellsQ HK7.out.tr
          have HRP := Lib.hid (l16Replace_any gk gd k c0 c2 win lv (Mg.keysOf rs) (Mg.doneOf rs) 0 true w7 hk0 hk (by simp [Mg.keysOf, hrl]) (by simp [Mg.doneOf, hrl]) hwk hlv HK7.out.kv HK7.out.dv)
          go_wp2_with fail
          refine HRP.out.mono ?_
          rintro e w8 ⟨win', gk', c0', gd', c2', lv', rfl, hlv', hwin', hk8, hd8, hg1, hg2, hb8⟩
          have HK8 := Lib.hid (HK7.out.same hb8)
          have hgl8 := HK8.out.gl
          have hobl8 : ∀ q, (Value.slice a5 (t + 1) c5).ownBlock = some q → q < w8.heap.size := fun q hq => (HK8.out.oo.lt q hq).2
          have HWN' : Hid (Mg.Win (Mg.keysOf (rs.set win [])) (Mg.doneOf (rs.set win [])) k win') := by
            show Mg.Win _ _ _ _
            rw [show Mg.keysOf (rs.set win []) = (Mg.keysOf rs).set win 0 from List.map_set, show Mg.doneOf (rs.set win []) = (Mg.doneOf rs).set win true from List.map_set]
            simpa using hwin'
          have hkv8 : ValsAt w8 (some ⟨gk', 0, none⟩) (ints (Mg.keysOf (rs.set win []))) := by
            rw [show Mg.keysOf (rs.set win []) = (Mg.keysOf rs).set win 0 from List.map_set]
            simpa using hk8
          have hdv8 : ValsAt w8 (some ⟨gd', 0, none⟩) (bools (Mg.doneOf (rs.set win []))) := by
            rw [show Mg.doneOf (rs.set win []) = (Mg.doneOf rs).set win true from List.map_set]
            simpa using hd8
          have hgk8 : gk' < w8.heap.size := by
            obtain ⟨b, off, e, hc⟩ := hkv8.at (ints_at (show 0 < (Mg.keysOf (rs.set win [])).length by simp [Mg.keysOf]; omega))
            injection e with e
            injection e with e1 e2
            subst e1
            exact World.block_lt_of_cell? w8 _ hc
          have hgd8 : gd' < w8.heap.size := by
            obtain ⟨b, off, e, hc⟩ := hdv8.at (bools_at (show 0 < (Mg.doneOf (rs.set win [])).length by simp [Mg.doneOf]; omega))
            injection e with e
            injection e with e1 e2
            subst e1
            exact World.block_lt_of_cell? w8 _ hc
          have hhi7 := HK7.out.hi
          have hnk : (Value.slice a5 (t + 1) c5).ownBlock ≠ some gk' ∧ (Value.slice a5 (t + 1) c5).ownBlock ≠ some gd' := ⟨fun e => by have := (HK7.out.oo.lt _ e).2; omega, fun e => by have := (HK7.out.oo.lt _ e).2; omega⟩
          clear d0 d1 d2 d3 hwin' hk8 hd8 HRP
          have HT := Lib.hid (block_new w8 (.cells #[.slice none 0 0, .slice none 0 0, .slice none 0 0, .int .i64 0] 165))
          have hbn := belowNew w8 (.cells #[.slice none 0 0, .slice none 0 0, .slice none 0 0, .int .i64 0] 165)
          have HK9 := Lib.hid (HK8.out.same hbn)
          have HKV := Lib.hid (hkv8.same hbn); have HDV := Lib.hid (hdv8.same hbn)
          have hs89 : w8.heap.size < (w8.alloc (.cells #[.slice none 0 0, .slice none 0 0, .slice none 0 0, .int .i64 0] 165)).heap.size := by simp
          clear hkv8 hdv8 hbn hb8 HK8 HK7
          go_wp2_with (refine wpList_var rfl 165 _ _ rfl rfl rfl HT.out (by kernel_rfl) rfl (by simpa [Value.oneCell'] using hlv') ?_)
          intro w9 hrow hg
          obtain ⟨d0, d1, d2, d3⟩ := cellsQ hrow
          have hlt8 := HK9.out.lt
          have htr9 := block_row HK9.out.tr hg (by intro e; injection e with e; omega)
          have HTR := Lib.hid htr9
          have hbel9 := HK9.out.bel.grown hg HK9.out.bel.size (fun b e => by injection e with e; have := HK9.out.lo; omega)
          have HK10 : Hid (Sm w w9 B T gA k gk gd c0 c2 win lv (Mg.keysOf rs) (Mg.doneOf rs) ((ps.set win (p + 1)).map fun p : Nat => (p : Int)) (.slice a5 (t + 1) c5) (t + 1) (O ++ [(X1, X2)])) := by
            have hne := HK9.out.ne
            have hgl := HK9.out.gl
            exact ⟨hbel9, Nat.le_trans HK9.out.hi hg.size, HK9.out.lo, HK9.out.lt, HK9.out.ne, HK9.out.nk, ⟨Nat.lt_of_lt_of_le HK9.out.gl.1 hg.size, Nat.lt_of_lt_of_le HK9.out.gl.2 hg.size⟩, htr9, HK9.out.kv.grown hg (fun b off e he => by injection e with e; injection e with e1 e2; injection he with he; omega), HK9.out.dv.grown hg (fun b off e he => by injection e with e; injection e with e1 e2; injection he with he; omega), own_far HK9.out.ar hg (by omega), own_other HK9.out.oo hg (fun q hq e => by injection e with e; have := hobl8 q hq; omega)⟩
          have HKV9 := Lib.hid (HKV.out.grown hg (fun b off e he => by injection e with e; injection e with e1 e2; injection he with he; omega))
          have HDV9 := Lib.hid (HDV.out.grown hg (fun b off e he => by injection e with e; injection e with e1 e2; injection he with he; omega))
          have hs9 := hg.size
          clear hrow hg htr9 hbel9 HK9 HKV HDV HT
          go_wp2_with (refine wpList_var rfl 165 _ _ rfl rfl rfl HTR.out (by kernel_rfl) rfl (by simpa [Value.oneCell'] using hlv') ?_)
          intro w10 hrow hg
          have HK11 := Lib.hid (HK10.out.tree hg hrow HKV9.out HDV9.out ⟨by omega, by omega⟩ ⟨by omega, by omega⟩ hnk)
          clear hrow hg HK10 HTR HKV9 HDV9 d0 d1 d2 d3
          have HLN' := HLN.out
          have hpl7 : Mg.plen ((k + win) / 2) ≤ 7 := Mg.plen_le 7 _ (by omega)
          generalize hpe : Mg.plen ((k + win) / 2) = pe at hpl7 ⊢
          have HPE := Lib.hid hpe
          clear hpe
          go_wp2
          go_roundw
          case rel =>
            refine ⟨t + 1, q + pe, win', gk', gd', c0', c2', lv', rs.set win [], ps.set win (p + 1), O ++ [(X1, X2)], by go_num, HK11.out, HOB5.out, hlv', HWN', by rw [List.length_set]; exact hrl, by rw [List.length_set]; exact hpl, by omega, by omega, Lib.hid (fun i hi => ?_), HAS2, Lib.hid ?_, Lib.hid ?_⟩
            · rw [getD_setG (by omega), getD_setG (by omega)]
              by_cases hiw : win = i
              · rw [if_pos hiw, if_pos hiw, ← hiw, HLW.out, HTL.out]; exact ⟨rfl, by omega⟩
              · rw [if_neg hiw, if_neg hiw]; exact HRS.out i hi
            · rw [← HOO.out, List.append_assoc]
              show _ = O ++ Mg.srt Mg.ltF rs.flatten
              rw [HKS.out]; rfl
            · have h1 := HKC.out
              rw [HLN.out, HKK.out, hrl, HPE.out] at h1
              rw [← h1]; omega
          case measure => simp only [lenV]; omega
        | cons Y tl2 =>
          obtain ⟨hp3, hY⟩ : p + 1 < Lw.length ∧ Lw.getD (p + 1) (0, 0) = Y := by
            have := HTL.out
            rcases Nat.lt_or_ge (p + 1) Lw.length with h | h
            · rw [List.drop_eq_getElem_cons h] at this
              injection this with h1 h2
              exact ⟨h, by rw [← h1, List.getD_eq_getElem?_getD, List.getElem?_eq_getElem h]; rfl⟩
            · rw [List.drop_of_length_le h] at this; cases this
          have q2 : ((p : Int) + 1 == (Lw.length : Int)) = false := by rw [beq_eq_false_iff_ne]; omega
          obtain ⟨xb2, xo2, e, x3, _⟩ := HRR.out.at hp3
          injection e with e
          injection e with e1 e2
          subst e1 e2
          rw [hY] at x3
          have hb3 := World.block_lt_of_cell? w _ x3
          clear hY
          obtain ⟨Y1, Y2⟩ := Y
          have x3 : w.cell? ⟨xb, xo + (p + 1) * 2, none⟩ = some (.int .i64 Y1) := x3
          have b5 : (0 : Int) ≤ (p : Int) + 1 := by omega
          have b6 : (p : Int) + 1 < (Lw.length : Int) := by omega
          have t3 : ((p : Int) + 1).toNat = p + 1 := by omega
          go_wp2_with fail
          go_quiet (fail)
          have HZ7 := Lib.hid (HK6.out.same (below_drewN (Below.refl _ (w5.setCell ⟨gA, win, none⟩ (.int .i64 ((p : Int) + 1)))) nq))
          generalize (w5.setCell ⟨gA, win, none⟩ (.int .i64 ((p : Int) + 1))).drewN nq = w7 at HZ7 ⊢
          clear z0 z1 HK6
          have z0 := (HZ7.out.bel.cell (p := ⟨la, lo + win, none⟩) hb0).trans HHC.out
          have z1 := HZ7.out.ar.cellAt win (by omega)
          rw [ints_at (by simp; omega), List.map_set, getD_setG (by simp; omega), if_pos rfl] at z1
          have hpc : (((p + 1 : Nat)) : Int) = (p : Int) + 1 := by omega
          rw [hpc] at z1
          have z2 := (HZ7.out.bel.cell (p := ⟨xb, xo + (p + 1) * 2, none⟩) hb3).trans x3
          clear hpc
          go_wp2_with fail
          go_quiet (fail)
          have HK7 := Lib.hid (HZ7.out.same (below_drewN (Below.refl _ w7) nq))
          generalize w7.drewN nq = w7 at HK7 ⊢
          clear z0 z1 z2 HZ7
          obtain ⟨d0, d1, d2, d3⟩ := cellsQ HK7.out.tr
          have HRP := Lib.hid (l16Replace_any gk gd k c0 c2 win lv (Mg.keysOf rs) (Mg.doneOf rs) Y1 false w7 hk0 hk (by simp [Mg.keysOf, hrl]) (by simp [Mg.doneOf, hrl]) hwk hlv HK7.out.kv HK7.out.dv)
          go_wp2_with fail
          refine HRP.out.mono ?_
          rintro e w8 ⟨win', gk', c0', gd', c2', lv', rfl, hlv', hwin', hk8, hd8, hg1, hg2, hb8⟩
          have HK8 := Lib.hid (HK7.out.same hb8)
          have hgl8 := HK8.out.gl
          have hobl8 : ∀ q, (Value.slice a5 (t + 1) c5).ownBlock = some q → q < w8.heap.size := fun q hq => (HK8.out.oo.lt q hq).2
          have HWN' : Hid (Mg.Win (Mg.keysOf (rs.set win ((Y1, Y2) :: tl2))) (Mg.doneOf (rs.set win ((Y1, Y2) :: tl2))) k win') := by
            show Mg.Win _ _ _ _
            rw [show Mg.keysOf (rs.set win ((Y1, Y2) :: tl2)) = (Mg.keysOf rs).set win Y1 from List.map_set, show Mg.doneOf (rs.set win ((Y1, Y2) :: tl2)) = Mg.doneOf rs from by rw [show Mg.doneOf (rs.set win ((Y1, Y2) :: tl2)) = (Mg.doneOf rs).set win false from List.map_set]; exact set_self HDW.out (by simp [Mg.doneOf]; omega)]
            simpa using hwin'
          have hkv8 : ValsAt w8 (some ⟨gk', 0, none⟩) (ints (Mg.keysOf (rs.set win ((Y1, Y2) :: tl2)))) := by
            rw [show Mg.keysOf (rs.set win ((Y1, Y2) :: tl2)) = (Mg.keysOf rs).set win Y1 from List.map_set]
            simpa using hk8
          have hdv8 : ValsAt w8 (some ⟨gd', 0, none⟩) (bools (Mg.doneOf (rs.set win ((Y1, Y2) :: tl2)))) := by
            rw [show Mg.doneOf (rs.set win ((Y1, Y2) :: tl2)) = Mg.doneOf rs from by rw [show Mg.doneOf (rs.set win ((Y1, Y2) :: tl2)) = (Mg.doneOf rs).set win false from List.map_set]; exact set_self HDW.out (by simp [Mg.doneOf]; omega)]
            simpa using hd8
          have hgk8 : gk' < w8.heap.size := by
            obtain ⟨b, off, e, hc⟩ := hkv8.at (ints_at (show 0 < (Mg.keysOf (rs.set win ((Y1, Y2) :: tl2))).length by simp [Mg.keysOf]; omega))
            injection e with e
            injection e with e1 e2
            subst e1
            exact World.block_lt_of_cell? w8 _ hc
          have hgd8 : gd' < w8.heap.size := by
            obtain ⟨b, off, e, hc⟩ := hdv8.at (bools_at (show 0 < (Mg.doneOf (rs.set win ((Y1, Y2) :: tl2))).length by simp [Mg.doneOf]; omega))
            injection e with e
            injection e with e1 e2
            subst e1
            exact World.block_lt_of_cell? w8 _ hc
          have hhi7 := HK7.out.hi
          have hnk : (Value.slice a5 (t + 1) c5).ownBlock ≠ some gk' ∧ (Value.slice a5 (t + 1) c5).ownBlock ≠ some gd' := ⟨fun e => by have := (HK7.out.oo.lt _ e).2; omega, fun e => by have := (HK7.out.oo.lt _ e).2; omega⟩
          clear d0 d1 d2 d3 hwin' hk8 hd8 HRP
          have HT := Lib.hid (block_new w8 (.cells #[.slice none 0 0, .slice none 0 0, .slice none 0 0, .int .i64 0] 165))
          have hbn := belowNew w8 (.cells #[.slice none 0 0, .slice none 0 0, .slice none 0 0, .int .i64 0] 165)
          have HK9 := Lib.hid (HK8.out.same hbn)
          have HKV := Lib.hid (hkv8.same hbn); have HDV := Lib.hid (hdv8.same hbn)
          have hs89 : w8.heap.size < (w8.alloc (.cells #[.slice none 0 0, .slice none 0 0, .slice none 0 0, .int .i64 0] 165)).heap.size := by simp
          clear hkv8 hdv8 hbn hb8 HK8 HK7
          go_wp2_with (refine wpList_var rfl 165 _ _ rfl rfl rfl HT.out (by kernel_rfl) rfl (by simpa [Value.oneCell'] using hlv') ?_)
          intro w9 hrow hg
          obtain ⟨d0, d1, d2, d3⟩ := cellsQ hrow
          have hlt8 := HK9.out.lt
          have htr9 := block_row HK9.out.tr hg (by intro e; injection e with e; omega)
          have HTR := Lib.hid htr9
          have hbel9 := HK9.out.bel.grown hg HK9.out.bel.size (fun b e => by injection e with e; have := HK9.out.lo; omega)
          have HK10 : Hid (Sm w w9 B T gA k gk gd c0 c2 win lv (Mg.keysOf rs) (Mg.doneOf rs) ((ps.set win (p + 1)).map fun p : Nat => (p : Int)) (.slice a5 (t + 1) c5) (t + 1) (O ++ [(X1, X2)])) := by
            have hne := HK9.out.ne
            have hgl := HK9.out.gl
            exact ⟨hbel9, Nat.le_trans HK9.out.hi hg.size, HK9.out.lo, HK9.out.lt, HK9.out.ne, HK9.out.nk, ⟨Nat.lt_of_lt_of_le HK9.out.gl.1 hg.size, Nat.lt_of_lt_of_le HK9.out.gl.2 hg.size⟩, htr9, HK9.out.kv.grown hg (fun b off e he => by injection e with e; injection e with e1 e2; injection he with he; omega), HK9.out.dv.grown hg (fun b off e he => by injection e with e; injection e with e1 e2; injection he with he; omega), own_far HK9.out.ar hg (by omega), own_other HK9.out.oo hg (fun q hq e => by injection e with e; have := hobl8 q hq; omega)⟩
          have HKV9 := Lib.hid (HKV.out.grown hg (fun b off e he => by injection e with e; injection e with e1 e2; injection he with he; omega))
          have HDV9 := Lib.hid (HDV.out.grown hg (fun b off e he => by injection e with e; injection e with e1 e2; injection he with he; omega))
          have hs9 := hg.size
          clear hrow hg htr9 hbel9 HK9 HKV HDV HT
          go_wp2_with (refine wpList_var rfl 165 _ _ rfl rfl rfl HTR.out (by kernel_rfl) rfl (by simpa [Value.oneCell'] using hlv') ?_)
          intro w10 hrow hg
          have HK11 := Lib.hid (HK10.out.tree hg hrow HKV9.out HDV9.out ⟨by omega, by omega⟩ ⟨by omega, by omega⟩ hnk)
          clear hrow hg HK10 HTR HKV9 HDV9 d0 d1 d2 d3
          have HLN' := HLN.out
          have hpl7 : Mg.plen ((k + win) / 2) ≤ 7 := Mg.plen_le 7 _ (by omega)
          generalize hpe : Mg.plen ((k + win) / 2) = pe at hpl7 ⊢
          have HPE := Lib.hid hpe
          clear hpe
          go_wp2
          go_roundw
          case rel =>
            refine ⟨t + 1, q + pe, win', gk', gd', c0', c2', lv', rs.set win ((Y1, Y2) :: tl2), ps.set win (p + 1), O ++ [(X1, X2)], by go_num, HK11.out, HOB5.out, hlv', HWN', by rw [List.length_set]; exact hrl, by rw [List.length_set]; exact hpl, by omega, by omega, Lib.hid (fun i hi => ?_), HAS2, Lib.hid ?_, Lib.hid ?_⟩
            · rw [getD_setG (by omega), getD_setG (by omega)]
              by_cases hiw : win = i
              · rw [if_pos hiw, if_pos hiw, ← hiw, HLW.out, HTL.out]; exact ⟨rfl, by omega⟩
              · rw [if_neg hiw, if_neg hiw]; exact HRS.out i hi
            · rw [← HOO.out, List.append_assoc]
              show _ = O ++ Mg.srt Mg.ltF rs.flatten
              rw [HKS.out]; rfl
            · have h1 := HKC.out
              rw [HLN.out, HKK.out, hrl, HPE.out] at h1
              rw [← h1]; omega
          case measure => simp only [lenV]; omega
end Go.Proofs.Ytkckmjajjdpodaa

/- Walks: lists that ascend by a comparison, of both packages. -/
namespace Go.Proofs.Ytkckmjajjdpodaa
open Go.RowKit Go.Sort
set_option linter.unusedVariables false

/-- Ascending, place by place. -/
def upB (lt : Int × Int → Int × Int → Bool) (l : List (Int × Int)) : Bool := (List.range (l.length - 1)).all fun i => !lt (l.getD (i + 1) (0, 0)) (l.getD i (0, 0))
theorem upB_no {lt : Int × Int → Int × Int → Bool} {l : List (Int × Int)} {i : Nat} (h : i + 1 < l.length) (hb : lt (l.getD (i + 1) (0, 0)) (l.getD i (0, 0)) = true) : upB lt l = false := by
  unfold upB
  rw [List.all_eq_false]
  exact ⟨i, List.mem_range.2 (by omega), by rw [hb]; simp⟩
theorem upB_yes {lt : Int × Int → Int × Int → Bool} {l : List (Int × Int)} (h : ∀ i, i + 1 < l.length → lt (l.getD (i + 1) (0, 0)) (l.getD i (0, 0)) = false) : upB lt l = true := by
  unfold upB
  rw [List.all_eq_true]
  intro i hi
  rw [h i (by have := List.mem_range.1 hi; omega)]; rfl
theorem upB_asc {lt : Int × Int → Int × Int → Bool} (S : Mg.SW lt) {l : List (Int × Int)} (h : upB lt l = true) : Mg.Asc lt l := by
  refine Mg.asc_of_side S l fun i hi => ?_
  unfold upB at h
  rw [List.all_eq_true] at h
  have := h i (List.mem_range.2 (by omega))
  rw [getD_get hi, getD_get (by omega)] at this
  simpa using this

set_option maxRecDepth 100000 in
set_option maxHeartbeats 4000000 in
theorem isSortedFunc_any {lt : Int × Int → Int × Int → Bool} {cv : Value} {g : Nat} (HCV : CmpIs (fun _ => True) g lt cv) (a : Option Addr) (n c : Nat) (rs : List (Int × Int)) (w : World) (hn : n ≤ 1000000) (h : Rd w a n c rs) :
    Calls Try.prog 178 #[.slice a n c, cv] w fun e w' => e = .returned (.bool (upB lt rs)) ∧ Below w.heap.size w w' := by
  obtain ⟨_, G, cp, rfl, hcall, hcmp⟩ := HCV
  have HCM := Lib.hid hcmp; have H := Lib.hid h
  clear hcmp h
  go_enter Try.func178, Try.ntmps178
  go_wp2
  go_loopw [5] (fun v wr => ∃ i : Int, v = .int .i64 i ∧ -1 ≤ i ∧ i < n ∧ Hid (∀ j : Nat, i ≤ j → j + 1 < n → lt (rs.getD (j + 1) (0, 0)) (rs.getD j (0, 0)) = false) ∧ Below w.heap.size w wr) (fun v _ => (intOf v).toNat)
  case atStart => exact ⟨(n : Int) - 1, by go_num, by omega, by omega, Lib.hid (fun j h1 h2 => by omega), Below.refl _ _⟩
  case round =>
    obtain ⟨i, rfl, hi0, hi1, HALL, hb⟩ := hrel
    have HB := Lib.hid hb
    clear hb
    by_cases hlt : 0 < i
    case neg =>
      have q1 : decide (0 < i) = false := decide_eq_false hlt
      have HE : Hid (upB lt rs = true) := upB_yes fun j hj => HALL.out j (by omega) (by rw [← H.out.len]; exact hj)
      go_wp2
      go_ret
      exact ⟨ret_bool HE.out.symm, HB.out⟩
    obtain ⟨k, rfl⟩ : ∃ k : Nat, i = (k : Int) + 1 := ⟨(i - 1).toNat, by omega⟩
    have q1 : decide (0 < (k : Int) + 1) = true := decide_eq_true (by omega)
    obtain ⟨b, o, rfl, d1, d2⟩ := (H.out.same HB.out).at (show k < n by omega)
    obtain ⟨b', o', e, c1, c2⟩ := (H.out.same HB.out).at (show k + 1 < n by omega)
    injection e with e
    injection e with e1 e2
    subst e1 e2
    obtain ⟨X, hX⟩ : ∃ X, rs.getD (k + 1) (0, 0) = X := ⟨_, rfl⟩
    obtain ⟨Y, hY⟩ : ∃ Y, rs.getD k (0, 0) = Y := ⟨_, rfl⟩
    rw [hX] at c1 c2
    rw [hY] at d1 d2
    have HX := Lib.hid hX; have HY := Lib.hid hY
    clear hX hY
    have HCK := Lib.hid (fun W => HCM.out X Y W trivial)
    have hcall := hcall (#[.agg #[.int .i64 X.1, .int .i64 X.2], .agg #[.int .i64 Y.1, .int .i64 Y.2]] ++ cp)
    obtain ⟨X1, X2⟩ := X
    obtain ⟨Y1, Y2⟩ := Y
    have t1 : ((k : Int) + 1).toNat = k + 1 := by omega
    have t0 : ((k : Int)).toNat = k := by omega
    have b0 : (0 : Int) ≤ (k : Int) := by omega
    have b1 : (k : Int) + 1 < (n : Int) := by omega
    have b2 : (k : Int) < (n : Int) := by omega
    have b3 : (0 : Int) ≤ (k : Int) + 1 := by omega
    have w1 : IntKind.i64.wrap (k : Int) = (k : Int) := IntWalk.i64_in _ (by omega)
    go_wp2_with fail
    go_still_tail 10, (by kernel_rfl)
    go_wp2_with fail
    refine (HCK.out _).mono ?_
    rintro e w5 ⟨⟨nn, rfl, hnn⟩, hbc⟩
    have HB5 := Lib.hid (HB.out.trans (((Below.refl _ _).drew.trans hbc).mono HB.out.size))
    clear hbc c1 c2 d1 d2 HCK
    cases hyx : lt (X1, X2) (Y1, Y2)
    · have hz : decide (nn < 0) = false := by rw [hnn]; exact hyx
      have HYX := Lib.hid hyx
      clear hnn hyx
      go_wp2
      go_roundw
      case rel => exact ⟨k, by go_num, by omega, by omega, Lib.hid (fun j h1 h2 => by
        rcases Nat.lt_or_ge k j with h | h
        · exact HALL.out j (by omega) h2
        · obtain rfl : j = k := by omega
          rw [HX.out, HY.out]; exact HYX.out), HB5.out⟩
      case measure => simp [intOf] <;> omega
    · have hz : decide (nn < 0) = true := by rw [hnn]; exact hyx
      have HE : Hid (upB lt rs = false) := upB_no (i := k) (by rw [H.out.len]; omega) (by rw [HX.out, HY.out]; exact hyx)
      clear hnn hyx
      go_wp2
      go_ret
      exact ⟨ret_bool HE.out.symm, HB5.out⟩

set_option maxRecDepth 100000 in
set_option maxHeartbeats 4000000 in
theorem l5Ascending_any (a : Option Addr) (n c : Nat) (rs : List (Int × Int)) (w : World) (hn : n ≤ 1000000) (h : Rd w a n c rs) :
    Calls Try.prog 139 #[.slice a n c] w fun e w' => e = .returned (.bool (upB ltR rs)) ∧ Below w.heap.size w w' := by
  have H := Lib.hid h
  clear h
  go_enter Try.func139, Try.ntmps139
  go_wp2
  go_loopw [3] (fun v wr => ∃ k : Nat, v = .int .i64 k ∧ k ≤ n ∧ Hid (∀ j : Nat, j < k → j + 1 < n → ltR (rs.getD (j + 1) (0, 0)) (rs.getD j (0, 0)) = false) ∧ Below w.heap.size w wr) (fun v _ => n - (intOf v).toNat)
  case atStart => exact ⟨0, rfl, by omega, Lib.hid (fun j h1 h2 => by omega), Below.refl _ _⟩
  case round =>
    obtain ⟨k, rfl, hk, HALL, hb⟩ := hrel
    have HB := Lib.hid hb
    clear hb
    by_cases hlt : k + 1 < n
    case neg =>
      have q1 : decide ((k : Int) + 1 < (n : Int)) = false := decide_eq_false (by omega)
      have HE : Hid (upB ltR rs = true) := upB_yes fun j hj => HALL.out j (by rw [H.out.len] at hj; omega) (by rw [← H.out.len]; exact hj)
      go_wp2
      go_ret
      exact ⟨ret_bool HE.out.symm, HB.out⟩
    have q1 : decide ((k : Int) + 1 < (n : Int)) = true := decide_eq_true (by omega)
    obtain ⟨b, o, rfl, d1, d2⟩ := (H.out.same HB.out).at (show k < n by omega)
    obtain ⟨b', o', e, c1, c2⟩ := (H.out.same HB.out).at (show k + 1 < n by omega)
    injection e with e
    injection e with e1 e2
    subst e1 e2
    obtain ⟨X, hX⟩ : ∃ X, rs.getD (k + 1) (0, 0) = X := ⟨_, rfl⟩
    obtain ⟨Y, hY⟩ : ∃ Y, rs.getD k (0, 0) = Y := ⟨_, rfl⟩
    rw [hX] at c1 c2
    rw [hY] at d1 d2
    have HX := Lib.hid hX; have HY := Lib.hid hY
    clear hX hY
    obtain ⟨X1, X2⟩ := X
    obtain ⟨Y1, Y2⟩ := Y
    have t1 : ((k : Int) + 1).toNat = k + 1 := by omega
    have hyx : ltR (X1, X2) (Y1, Y2) = decide (X1 < Y1) := rfl
    by_cases hxy : X1 < Y1
    · have hz : decide (X1 < Y1) = true := decide_eq_true hxy
      have HE : Hid (upB ltR rs = false) := upB_no (i := k) (by rw [H.out.len]; omega) (by rw [HX.out, HY.out, hyx]; exact hz)
      clear hxy hyx
      go_wp2_with fail
      go_quiet (fail)
      go_wp2
      go_ret
      exact ⟨ret_bool HE.out.symm, below_drewN HB.out _⟩
    · have hz : decide (X1 < Y1) = false := decide_eq_false hxy
      have HZ : Hid (ltR (X1, X2) (Y1, Y2) = false) := by show _ = _; rw [hyx]; exact hz
      clear hxy hyx
      go_wp2_with fail
      go_quiet (fail)
      go_wp2
      go_roundw
      case rel => exact ⟨k + 1, by go_num, by omega, Lib.hid (fun j h1 h2 => by
        rcases Nat.lt_or_ge j k with h | h
        · exact HALL.out j h h2
        · obtain rfl : j = k := by omega
          rw [HX.out, HY.out]; exact HZ.out), below_drewN HB.out _⟩
      case measure => simp [intOf] <;> omega

set_option maxHeartbeats 400000 in
theorem areAscending_any (a : Option Addr) (n c : Nat) (rs : List (Int × Int)) (w : World) (hn : n ≤ 9223372036854775807) (h : Rd w a n c rs) :
    Calls Try.prog 166 #[.slice a n c] w fun e w' => e = .returned (.bool (okRecs rs && upB ltR rs)) ∧ Below w.heap.size w w' := by
  have H := Lib.hid h
  obtain ⟨hr, rfl, _, _⟩ := h
  have HV := Lib.hid (isValidRecords_any a c rs w hn hr)
  clear hr
  cases hok : okRecs rs
  · rw [hok] at HV
    go_enter Try.func166, Try.ntmps166
    go_wp2_with fail
    refine HV.out.mono ?_
    rintro e w1 ⟨rfl, hb⟩
    have HB := Lib.hid hb; clear hb
    go_wp2
    go_ret
    exact ⟨rfl, HB.out⟩
  · rw [hok] at HV
    have hl := okRecs_le hok
    go_enter Try.func166, Try.ntmps166
    go_wp2_with fail
    refine HV.out.mono ?_
    rintro e w1 ⟨rfl, hb⟩
    have HB := Lib.hid hb; clear hb
    go_wp2_with fail
    refine (isSortedFunc_any (cmpV_is 0) a rs.length c rs w1 (by omega) (H.out.same HB.out)).mono ?_
    rintro e w2 ⟨rfl, hb⟩
    have HB2 := Lib.hid (HB.out.trans (hb.mono HB.out.size)); clear hb
    go_wp2
    go_ret
    exact ⟨rfl, HB2.out⟩

end Go.Proofs.Ytkckmjajjdpodaa
