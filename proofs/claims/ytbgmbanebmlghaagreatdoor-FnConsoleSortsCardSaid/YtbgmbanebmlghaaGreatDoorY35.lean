/- Several texts in one: lemmas and walks of the functions that the law reaches. -/
import Derived.Test.YtbgmbanebmlghaaGreatDoorY4
import Derived.Test.YtbgmbanebmlghaaGreatDoorY27
import Derived.OneCell

namespace Go.Proofs.YtbgmbanebmlghaaGreatDoor
open Go.RowKit Go.Sort
set_option linter.unusedVariables false
theorem Items.same {w0 w : World} {al al' : Nat → Bool} {bl : Nat → Nat} {ob : Nat → Obj} (h : Items w0 w al bl ob) (hal : ∀ j, al' j = al j) : Items w0 w al' bl ob := by
  rw [show al' = al from funext hal]; exact h

theorem own_made {w : World} {B g k : Nat} {z : Value} {e : TypeId} (h : w.heap[g]? = some (.cells (madeCells (Value.cells z) (k * 1)) e (0, 0))) (hB : B ≤ g) (hk : k ≤ 1000) (hz : Value.cells z = #[z]) : w.ownsRow B e 1 (.slice (some ⟨g, 0, none⟩) k k) k (List.replicate k z) := by
  rw [hz, Nat.mul_one] at h
  have e1 : (madeCells #[z] k).toList = List.replicate k z := toList_madeCells_one z k
  have e2 : (madeCells #[z] k).size = k := by rw [← Array.length_toList, e1, List.length_replicate]
  refine ⟨by rw [List.length_replicate, Nat.mul_one], .inr ⟨g, k, _, rfl, hB, h, Nat.le_refl _, by unfold maxLen; omega, by rw [e2, Nat.mul_one], ?_⟩⟩
  rw [e1, Nat.mul_one, List.take_of_length_le (by rw [List.length_replicate]; exact Nat.le_refl _)]

/-- The tree while its matches are played: its block, the copies, the losers, the winners. -/
structure Mk (wR wq : World) (t gk gd gl gw k c0 c2 : Nat) (wv : Value) (ks : List Int) (ds : List Bool) (ls ws : List Int) : Prop where
  pl : Pl wR wq t (.slice (some ⟨gk, 0, none⟩) k c0) (.slice (some ⟨gd, 0, none⟩) k c2) (.slice (some ⟨gl, 0, none⟩) k k) wv
  ok : wq.ownsRow wR.heap.size 3 1 (.slice (some ⟨gk, 0, none⟩) k c0) k (ints ks)
  od : wq.ownsRow wR.heap.size 4 1 (.slice (some ⟨gd, 0, none⟩) k c2) k (bools ds)
  ol : wq.ownsRow wR.heap.size 3 1 (.slice (some ⟨gl, 0, none⟩) k k) k (ints ls)
  ow : wq.ownsRow wR.heap.size 3 1 (.slice (some ⟨gw, 0, none⟩) (2 * k) (2 * k)) (2 * k) (ints ws)
  ne : gk ≠ gl ∧ gk ≠ gw ∧ gd ≠ gl ∧ gd ≠ gw ∧ gl ≠ gw ∧ t ≠ gl ∧ t ≠ gw ∧ t ≠ gk ∧ t ≠ gd
section
variable {wR wq wz : World} {t gk gd gl gw k c0 c2 : Nat} {wv : Value} {ks : List Int} {ds : List Bool} {ls ws : List Int}
theorem Mk.same (h : Mk wR wq t gk gd gl gw k c0 c2 wv ks ds ls ws) (hb : Below wq.heap.size wq wz) : Mk wR wz t gk gd gl gw k c0 c2 wv ks ds ls ws :=
  ⟨h.pl.below hb, own_below h.ok (Nat.le_refl _) hb, own_below h.od (Nat.le_refl _) hb, own_below h.ol (Nat.le_refl _) hb, own_below h.ow (Nat.le_refl _) hb, h.ne⟩
theorem own_far {w w' : World} {B g b n c : Nat} {e : TypeId} {vs : List Value} (h : w.ownsRow B e 1 (.slice (some ⟨g, 0, none⟩) n c) n vs) (hg : w.grownBy w' (some b)) (hne : g ≠ b) : w'.ownsRow B e 1 (.slice (some ⟨g, 0, none⟩) n c) n vs :=
  own_other h hg (fun q hq e => by simp [Value.ownBlock] at hq; injection e with e; omega)
theorem Mk.wins (h : Mk wR wq t gk gd gl gw k c0 c2 wv ks ds ls ws) (v : Value) : Mk wR (wq.setCell ⟨t, 3, none⟩ v) t gk gd gl gw k c0 c2 v ks ds ls ws := by
  have hs := h.pl.row.stored 3 v
  obtain ⟨n1, n2, n3, n4, n5, n6, n7, n8, n9⟩ := h.ne
  exact ⟨h.pl.wins v, own_far h.ok hs.2 (Ne.symm n8), own_far h.od hs.2 (Ne.symm n9), own_far h.ol hs.2 (Ne.symm n6), own_far h.ow hs.2 (Ne.symm n7), h.ne⟩
end
end Go.Proofs.YtbgmbanebmlghaaGreatDoor

namespace Go.Proofs.YtbgmbanebmlghaaGreatDoor
open Go.RowKit Go.Sort
set_option linter.unusedVariables false

def kwA (p0 p1 : Value) (k : Nat) (x : Nat → Value) : Act := { tmps := #[p0, p1, .slice none 0 0, .int .i64 0, .int .i64 k, x 3, x 4, x 5, undef, undef, undef, undef, undef, p0, .int .i64 k, .int .i64 k, x 0, .int .i64 k, x 1, .int .i64 k, x 2, undef, undef, undef, undef, undef, undef, undef, undef, undef, undef, undef, undef, undef, undef, undef, undef, undef, undef, undef, undef, undef, undef, undef, undef, undef, undef, undef, undef, undef, undef, undef, undef, undef, undef, undef, undef, undef, undef, undef, undef, undef, undef, undef, undef, undef, undef, undef, undef, undef, undef], defers := [] }
def kwAl (b : Nat → Bool) : Nat → Bool
  | 0 => b 1 | 1 => b 3 | 2 => b 5 | 3 => b 6 | 4 => b 7 | 5 => b 8 | _ => false
structure KX (wR : World) (k : Nat) (b : Nat → Bool) (x : Nat → Value) (bl : Nat → Nat) (ob : Nat → Obj) (w : World) : Prop where
  l0 : b 0 = true
  l2 : b 2 = true
  l4 : b 4 = true
  it : Items wR w (kwAl b) bl ob
  m0 : b 1 = true → x 0 = .slice (some ⟨bl 0, 0, none⟩) k k ∧ ob 0 = .cells (madeCells (Value.cells (.int .i64 0)) (k * 1)) 3 (0, 0)
  m1 : b 3 = true → x 1 = .slice (some ⟨bl 1, 0, none⟩) k k ∧ ob 1 = .cells (madeCells (Value.cells (.bool false)) (k * 1)) 4 (0, 0)
  m2 : b 5 = true → x 2 = .slice (some ⟨bl 2, 0, none⟩) k k ∧ ob 2 = .cells (madeCells (Value.cells (.int .i64 0)) (k * 1)) 3 (0, 0)
  a0 : b 6 = true → x 3 = .pointer (some ⟨bl 3, 0, none⟩) ∧ (b 9 = false → ob 3 = .cells #[.slice none 0 0] 24 (0, 0)) ∧ (b 9 = true → ob 3 = .cells #[x 0] 24 (0, 0))
  a1 : b 7 = true → x 4 = .pointer (some ⟨bl 4, 0, none⟩) ∧ (b 10 = false → ob 4 = .cells #[.slice none 0 0] 295 (0, 0)) ∧ (b 10 = true → ob 4 = .cells #[x 1] 295 (0, 0))
  a2 : b 8 = true → x 5 = .pointer (some ⟨bl 5, 0, none⟩) ∧ (b 11 = false → ob 5 = .cells #[.slice none 0 0] 24 (0, 0)) ∧ (b 11 = true → ob 5 = .cells #[x 2] 24 (0, 0))
  s0 : b 9 = true → b 1 = true ∧ b 6 = true
  s1 : b 10 = true → b 3 = true ∧ b 7 = true
  s2 : b 11 = true → b 5 = true ∧ b 8 = true
def KJ (wR : World) (p0 p1 : Value) (k : Nat) (L : Array Bool) (a : Act) (w : World) : Prop := ∃ x bl ob, a = kwA p0 p1 k x ∧ KX wR k (fun j => L.getD j false) x bl ob w
theorem kj_set {wR : World} {p0 p1 : Value} {k i : Nat} {L : Array Bool} {a : Act} {w : World} {x : Nat → Value} {bl : Nat → Nat} {ob : Nat → Obj} (hi : i < L.size) (ha : a = kwA p0 p1 k x) (h : KX wR k (upd (fun j => L.getD j false) i true) x bl ob w) : KJ wR p0 p1 k (L.setIfInBounds i true) a w := by
  refine ⟨x, bl, ob, ha, ?_⟩
  have e : (fun j => (L.setIfInBounds i true).getD j false) = upd (fun j => L.getD j false) i true := funext fun j => set_b hi j
  rw [e]; exact h

/-- What the merge gives back. -/
def KwEnd (w : World) (Ls : List (List (Int × Int))) (e : Ending) (w' : World) : Prop :=
  ∃ (g c : Nat), e = .returned (.tuple #[.slice (some ⟨g, 0, none⟩) Ls.flatten.length c, .int .i64 ((Mg.kcs Ls : Nat) : Int)]) ∧ w'.ownsRow w.heap.size 87 2 (.slice (some ⟨g, 0, none⟩) Ls.flatten.length c) Ls.flatten.length (flat encR (Mg.srtP Ls.flatten)) ∧ Below w.heap.size w w'

theorem getD_rep {α : Type} {k i : Nat} {z d : α} (h : i < k) : (List.replicate k z).getD i d = z := by
  rw [List.getD_eq_getElem?_getD, List.getElem?_replicate, if_pos h]; rfl
theorem getD_setB {l : List Bool} {i j : Nat} {x : Bool} (hi : i < l.length) : (l.set i x).getD j false = if i = j then x else l.getD j false := by
  simp only [List.getD_eq_getElem?_getD, List.getElem?_set, if_pos hi]
  split
  · rfl
  · rfl
theorem getD_setG {α : Type} {l : List α} {i j : Nat} {x d : α} (hi : i < l.length) : (l.set i x).getD j d = if i = j then x else l.getD j d := by
  simp only [List.getD_eq_getElem?_getD, List.getElem?_set, if_pos hi]
  split
  · rfl
  · rfl
theorem keys_of {ks : List Int} {rs : List (List (Int × Int))} (hl : ks.length = rs.length) (h : ∀ i, i < rs.length → ks.getD i 0 = Mg.hk (rs.getD i [])) : ks = Mg.keysOf rs := by
  refine List.ext_getElem (by simp [Mg.keysOf, hl]) fun i h1 h2 => ?_
  have := h i (by omega)
  rw [← Mg.keysOf_at (by omega), List.getD_eq_getElem?_getD, List.getD_eq_getElem?_getD, List.getElem?_eq_getElem h1, List.getElem?_eq_getElem h2] at this
  exact this
theorem done_of {ds : List Bool} {rs : List (List (Int × Int))} (hl : ds.length = rs.length) (h : ∀ i, i < rs.length → ds.getD i false = (rs.getD i []).isEmpty) : ds = Mg.doneOf rs := by
  refine List.ext_getElem (by simp [Mg.doneOf, hl]) fun i h1 h2 => ?_
  have := h i (by omega)
  rw [← Mg.doneOf_at (by omega), List.getD_eq_getElem?_getD, List.getD_eq_getElem?_getD, List.getElem?_eq_getElem h1, List.getElem?_eq_getElem h2] at this
  exact this
theorem flat_mem_len {Ls : List (List (Int × Int))} {i : Nat} (h : i < Ls.length) : (Ls.getD i []).length ≤ Ls.flatten.length := by
  rw [List.getD_eq_getElem?_getD, List.getElem?_eq_getElem h]
  have h1 : ∀ (M : List (List (Int × Int))) (l : List (Int × Int)), l ∈ M → l.length ≤ M.flatten.length := by
    intro M
    induction M with
    | nil => intro l h; cases h
    | cons a t ih =>
      intro l h
      rw [List.flatten_cons, List.length_append]
      rcases List.mem_cons.1 h with rfl | h
      · omega
      · have := ih l h; omega
  exact h1 _ _ (List.getElem_mem h)

set_option maxRecDepth 100000 in
set_option maxHeartbeats 8000000 in
theorem kWay_any (la lo k lc : Nat) (Ls : List (List (Int × Int))) (w : World) (hk0 : 0 < k) (hk : k ≤ 100) (hLs : LsAt w (some ⟨la, lo, none⟩) k lc Ls) (hN : Ls.flatten.length ≤ 1000) (ha : ∀ l ∈ Ls, Mg.Asc Mg.ltF l) :
    Calls Tryz.prog 293 #[.slice (some ⟨la, lo, none⟩) k lc] w (KwEnd w Ls) := by
  have HLS := Lib.hid hLs; have HA := Lib.hid ha
  have hll : Ls.length = k := hLs.len
  clear hLs ha
  unfold KwEnd
  go_enter Tryz.func293, Tryz.ntmps293
  go_wp2_with fail
  refine wp_region_held_drew (S := fun _ => True) (by kernel_rfl) trivial (fun _ => ?_)
  refine wpAnyH_take (i := 0) (v := .int .i64 k) rfl (by kernel_rfl) (by kernel_rfl) (by kernel_rfl) (fun _ _ _ h => h) (Or.inl ⟨by rfl, fun w' _ => by go_simp⟩) (by assumption) ?_
  refine wpAnyH_take (i := 2) (v := .int .i64 k) rfl (by kernel_rfl) (by kernel_rfl) (by kernel_rfl) (fun _ _ _ h => h) (Or.inl ⟨by rfl, fun w' _ => by go_simp⟩) (by assumption) ?_
  refine wpAnyH_take (i := 4) (v := .int .i64 k) rfl (by kernel_rfl) (by kernel_rfl) (by kernel_rfl) (fun _ _ _ h => h) (Or.inl ⟨by rfl, fun w' _ => by go_simp⟩) (by assumption) ?_
  refine wpAnyH_inv (KJ (w.alloc (.cells #[.slice (some ⟨la, lo, none⟩) k lc] 222)).drew (.slice (some ⟨la, lo, none⟩) k lc) (.pointer (some ⟨w.heap.size, 0, none⟩)) k) (by kernel_rfl) ?steps ?done _ _ _ _ (by kernel_rfl) (by decide) ?start
  case start =>
    refine ⟨fun _ => undef, fun _ => 0, fun _ => default, rfl, rfl, rfl, rfl, ?_, ?_, ?_, ?_, ?_, ?_, ?_, ?_, ?_, ?_⟩
    · rw [show kwAl _ = fun _ => false from funext fun j => by rcases j with _ | _ | _ | _ | _ | _ | j <;> rfl]
      exact Items.start (Below.refl _ _) _ _
    all_goals (intro h; exact absurd h (by decide))
  case done =>
    rintro L a w2 hall ⟨x, bl, ob, rfl, hX⟩
    have hb : ∀ i, i < 12 → L.getD i false = true := hall
    obtain ⟨e0, o0⟩ := hX.m0 (hb 1 (by omega))
    obtain ⟨e1, o1⟩ := hX.m1 (hb 3 (by omega))
    obtain ⟨e2, o2⟩ := hX.m2 (hb 5 (by omega))
    obtain ⟨e3, _, o3⟩ := hX.a0 (hb 6 (by omega))
    obtain ⟨e4, _, o4⟩ := hX.a1 (hb 7 (by omega))
    obtain ⟨e5, _, o5⟩ := hX.a2 (hb 8 (by omega))
    have p0 := hX.it.here 0 (hb 1 (by omega))
    have p1 := hX.it.here 1 (hb 3 (by omega))
    have p2 := hX.it.here 2 (hb 5 (by omega))
    have p3 := hX.it.here 3 (hb 6 (by omega))
    have p4 := hX.it.here 4 (hb 7 (by omega))
    have p5 := hX.it.here 5 (hb 8 (by omega))
    rw [o0] at p0; rw [o1] at p1; rw [o2] at p2
    rw [o3 (hb 9 (by omega)), e0] at p3; rw [o4 (hb 10 (by omega)), e1] at p4; rw [o5 (hb 11 (by omega)), e2] at p5
    have n01 := hX.it.ne 0 1 (by decide) (hb 1 (by omega)) (hb 3 (by omega))
    have n02 := hX.it.ne 0 2 (by decide) (hb 1 (by omega)) (hb 5 (by omega))
    have n12 := hX.it.ne 1 2 (by decide) (hb 3 (by omega)) (hb 5 (by omega))
    have n30 := hX.it.ne 3 0 (by decide) (hb 6 (by omega)) (hb 1 (by omega))
    have n40 := hX.it.ne 4 0 (by decide) (hb 7 (by omega)) (hb 1 (by omega))
    have n50 := hX.it.ne 5 0 (by decide) (hb 8 (by omega)) (hb 1 (by omega))
    have n31 := hX.it.ne 3 1 (by decide) (hb 6 (by omega)) (hb 3 (by omega))
    have n41 := hX.it.ne 4 1 (by decide) (hb 7 (by omega)) (hb 3 (by omega))
    have n51 := hX.it.ne 5 1 (by decide) (hb 8 (by omega)) (hb 3 (by omega))
    have n32 := hX.it.ne 3 2 (by decide) (hb 6 (by omega)) (hb 5 (by omega))
    have n42 := hX.it.ne 4 2 (by decide) (hb 7 (by omega)) (hb 5 (by omega))
    have n52 := hX.it.ne 5 2 (by decide) (hb 8 (by omega)) (hb 5 (by omega))
    have hbl := hX.it.bel
    have hwR : (w.alloc (.cells #[.slice (some ⟨la, lo, none⟩) k lc] 222)).drew.heap.size = w.heap.size + 1 := by show (w.alloc _).heap.size = _; simp
    have hb2 : Below w.heap.size w w2 := Below.trans (((Below.refl _ _).alloc (Nat.le_refl _) _).drew) (hbl.mono (by omega))
    have hcl : w2.cell? ⟨w.heap.size, 0, none⟩ = some (.slice (some ⟨la, lo, none⟩) k lc) :=
      (hbl.cell (p := ⟨w.heap.size, 0, none⟩) (by show w.heap.size < _; omega)).trans (row_cell (block_new w (.cells #[.slice (some ⟨la, lo, none⟩) k lc] 222)) 0)
    unfold kwA
    rw [e0, e1, e2, e3, e4, e5]
    have lts : ∀ {g : Nat} {o : Obj}, w2.heap[g]? = some o → g < w2.heap.size := fun h => (Array.getElem?_eq_some_iff.1 h).1
    clear e0 e1 e2 e3 e4 e5 o0 o1 o2 o3 o4 o5 hX hbl hb hall
    generalize bl 0 = gk at *
    generalize bl 1 = gd at *
    generalize bl 2 = gn at *
    generalize bl 3 = ck at *
    generalize bl 4 = cd at *
    generalize bl 5 = cn at *
    have l0 := lts p0.2; have l1 := lts p1.2; have l2 := lts p2.2; have l3 := lts p3.2; have l4 := lts p4.2; have l5 := lts p5.2
    obtain ⟨B, hB⟩ : ∃ B, w2.heap.size = B := ⟨_, rfl⟩
    have HKW : Hid (Kw w w2 B k w.heap.size ck cd cn gk gd gn (.slice (some ⟨la, lo, none⟩) k lc) (List.replicate k 0) (List.replicate k false) (List.replicate k 0)) := by
      refine ⟨hb2, by omega, ⟨by omega, by omega, by omega⟩, ⟨by omega, by omega, by omega, by omega, by omega, by omega, by omega⟩, ⟨n01, n02, n12⟩, ⟨by omega, n30, n40, n50⟩, ⟨by omega, n31, n41, n51⟩, ⟨by omega, n32, n42, n52⟩, hcl, row_cell p3.2 0, row_cell p4.2 0, row_cell p5.2 0, ?_, ?_, ?_⟩
      · have := own_made p0.2 (by omega : w.heap.size ≤ gk) (by omega) rfl
        rw [show ints (List.replicate k 0) = List.replicate k (.int .i64 0) by simp [ints]]; exact this
      · have := own_made p1.2 (by omega : w.heap.size ≤ gd) (by omega) rfl
        rw [show bools (List.replicate k false) = List.replicate k (.bool false) by simp [bools]]; exact this
      · have := own_made p2.2 (by omega : w.heap.size ≤ gn) (by omega) rfl
        rw [show ints (List.replicate k 0) = List.replicate k (.int .i64 0) by simp [ints]]; exact this
    clear p0 p1 p2 p3 p4 p5 n01 n02 n12 n30 n40 n50 n31 n41 n51 n32 n42 n52 l0 l1 l2 l3 l4 l5 lts hwR hcl hb2 hB
    have HLE : Hid (∀ i, i < k → (Ls.getD i []).length ≤ 1000) := fun i hi => by
      have := flat_mem_len (Ls := Ls) (i := i) (by omega)
      omega
    have hc0 := HKW.out.lc
    have hcall : ∀ (i : Int) (W : World), (callFunc 310 #[.int .i64 i, .pointer (some ⟨cn, 0, none⟩), .pointer (some ⟨w.heap.size, 0, none⟩), .pointer (some ⟨cd, 0, none⟩), .pointer (some ⟨ck, 0, none⟩)]).run Tryz.prog W = .ok (.enter 310 #[.int .i64 i, .pointer (some ⟨cn, 0, none⟩), .pointer (some ⟨w.heap.size, 0, none⟩), .pointer (some ⟨cd, 0, none⟩), .pointer (some ⟨ck, 0, none⟩)]) W := fun i W => by kernel_rfl
    go_wp2_with fail
    go_loopw [24] (fun v wr => ∃ (i : Nat) (ks : List Int) (ds : List Bool), v = .int .i64 i ∧ i ≤ k ∧ Kw w wr B k w.heap.size ck cd cn gk gd gn (.slice (some ⟨la, lo, none⟩) k lc) ks ds (List.replicate k 0) ∧ Hid (∀ j, j < i → ks.getD j 0 = Mg.hk (Ls.getD j []) ∧ ds.getD j false = (Ls.getD j []).isEmpty)) (fun v _ => k - (intOf v).toNat)
    case atStart => exact ⟨0, _, _, rfl, by omega, HKW.out, Lib.hid (fun j hj => by omega)⟩
    case round =>
      obtain ⟨i, ks, ds, rfl, hi, hkw, HALL⟩ := hrel
      have HK1 := Lib.hid hkw
      have hkl : ks.length = k := by have := hkw.kr.1; simpa using this
      have hdl : ds.length = k := by have := hkw.dr.1; simpa using this
      clear hkw HKW hc0
      by_cases hlt : i < k
      · have q1 : decide ((i : Int) < (k : Int)) = true := decide_eq_true (by omega)
        have HF := Lib.hid (fill_any w wr B k w.heap.size ck cd cn gk gd gn i 0 la lo lc Ls (Ls.getD i []) ks ds _ hk hlt HLS.out HK1.out (getD_rep hlt) (by omega) (by have := HLE.out i hlt; omega) rfl)
        have hcc := hcall (i : Int)
        clear hcall
        go_wp2_with fail
        refine HF.out.mono ?_
        rintro e w3 ⟨rfl, hk3, _⟩
        rw [List.drop_zero] at hk3
        have HK3 := Lib.hid hk3
        clear hk3 HF HK1 hcc
        go_wp2
        go_roundw
        case rel => exact ⟨i + 1, _, _, by go_num, by omega, HK3.out, Lib.hid (fun j hj => by
          rw [getD_setE (by omega), getD_setB (by omega)]
          by_cases hij : i = j
          · rw [if_pos hij, if_pos hij, hij]; exact ⟨rfl, rfl⟩
          · rw [if_neg hij, if_neg hij]; exact HALL.out j (by omega))⟩
        case measure => simp [intOf] <;> omega
      have hik : k = i := by omega
      subst hik
      have q1 : decide ((k : Int) < (k : Int)) = false := by simp
      have hks : ks = Mg.keysOf Ls := keys_of (by omega) (fun j hj => (HALL.out j (by omega)).1)
      have hds : ds = Mg.doneOf Ls := done_of (by omega) (fun j hj => (HALL.out j (by omega)).2)
      rw [hks, hds] at HK1
      clear hks hds HALL hkl hdl
      have E0 := Lib.hid (own_mono (own_lit (w := wr) (e := 87) (size := 2) #[] 0 (by omega) rfl) HK1.out.hi)
      have HK3 := Lib.hid (HK1.out.same (belowNew wr (.cells #[] 87)))
      clear HK1
      go_wp2_with fail
      go_loopw [10, 11] (fun o c wq => ∃ (t q : Nat) (rs : List (List (Int × Int))) (ps : List Nat) (O : List (Int × Int)), c = .int .i64 q ∧ wq.ownsRow B 87 2 o t (flat encR O) ∧ o.ownBlock ≠ none ∧
          Kw w wq B k w.heap.size ck cd cn gk gd gn (.slice (some ⟨la, lo, none⟩) k lc) (Mg.keysOf rs) (Mg.doneOf rs) (ps.map fun p : Nat => (p : Int)) ∧ rs.length = k ∧ ps.length = k ∧ t + rs.flatten.length = Ls.flatten.length ∧ q ≤ 100 + 10 * t ∧
          Hid (∀ i, i < k → rs.getD i [] = (Ls.getD i []).drop (ps.getD i 0) ∧ ps.getD i 0 ≤ (Ls.getD i []).length) ∧ Hid (∀ l ∈ rs, Mg.Asc Mg.ltF l) ∧ Hid (O ++ Mg.srtP rs.flatten = Mg.srtP Ls.flatten) ∧ Hid (q + Mg.kc rs.flatten.length rs = Mg.kcs Ls)) (fun o _ _ => Ls.flatten.length - lenV o)
      case atStart =>
        refine ⟨0, k - 1, Ls, List.replicate k 0, [], by go_num, E0.out, by simp [Value.ownBlock], ?_, hll, by simp, by omega, by omega, Lib.hid (fun i hi => ?_), HA, Lib.hid rfl, Lib.hid ?_⟩
        · have := HK3.out
          rwa [show (List.replicate k (0 : Nat)).map (fun p : Nat => (p : Int)) = List.replicate k 0 by simp]
        · rw [getD_rep hi, List.drop_zero]; exact ⟨rfl, Nat.zero_le _⟩
        · unfold Mg.kcs; rw [hll]
      case round =>
        obtain ⟨t, q, rs, ps, O, rfl, hown, hob, hkw, hrl, hpl, htn, hq, HRS, HAS, HOO, HKC⟩ := hrel
        obtain ⟨oa, oc, rfl⟩ := own_slice hown
        have HT := Lib.hid (treeOf_any (some ⟨gk, 0, none⟩) (some ⟨gd, 0, none⟩) k k k (Mg.keysOf rs) (Mg.doneOf rs) wr hk0 hk (by simp [Mg.keysOf, hrl]) (by simp [Mg.doneOf, hrl]) (vals_own hkw.kr) (vals_own hkw.dr) (nilOk_some _ _) (nilOk_some _ _))
        have HO1 := Lib.hid hown; have HOB := Lib.hid hob; have HK1 := Lib.hid hkw
        have c1 := hkw.kc; have c2 := hkw.dc
        clear hown hob hkw E0 HK3
        go_wp2_with fail
        refine HT.out.mono ?_
        rintro e w3 ⟨win, kv, dv, lv, rfl, hwin, hb⟩
        have HO2 := Lib.hid (own_below HO1.out (Nat.le_refl _) hb)
        have HK2 := Lib.hid (HK1.out.same hb)
        have HW := Lib.hid (show Mg.Win (Mg.keysOf rs) (Mg.doneOf rs) rs.length win by rw [hrl]; exact hwin)
        have hwk : win < k := hwin.1
        clear hb hwin HT HO1 HK1 c1 c2
        have c2 := HK2.out.dc
        have c3 := HK2.out.dr.cellAt win (by omega)
        rw [bools_at (by simp [Mg.doneOf, hrl]; exact hwk), Mg.doneOf_at (by omega)] at c3
        have hfield : ∀ W : World, (Instr.field 297 (.agg #[kv, dv, lv, .int .i64 win]) 3).run Tryz.prog W = .ok (.int .i64 win) W := fun W => by kernel_rfl
        have b1 : (0 : Int) ≤ (win : Int) := by omega
        have b2 : (win : Int) < (k : Int) := by omega
        have t1 : ((win : Int)).toNat = win := by omega
        cases hrw : rs.getD win [] with
        | nil =>
          have HD := Lib.hid (Mg.all_done HW.out hrw)
          rw [hrw] at c3
          have c3 : w3.cell? ⟨gd, win, none⟩ = some (.bool true) := c3
          clear hrw
          go_wp2
          go_ret2
          obtain ⟨g, rfl, _, _⟩ := own_addr HO2.out HOB.out
          have hdl : rs.flatten.length = 0 := by rw [HD.out]; rfl
          have ht : t = Ls.flatten.length := by omega
          subst ht
          have hO : O = Mg.srtP Ls.flatten := by
            have := HOO.out
            rw [HD.out] at this
            rw [← this]
            show O = O ++ Mg.srt Mg.ltF []
            rw [Mg.srt_nil, List.append_nil]
          have hqq : q = Mg.kcs Ls := by
            have := HKC.out
            rw [hdl] at this
            rw [← this]; rw [Mg.kc]; rfl
          rw [hO] at HO2
          refine ⟨g, oc, by rw [hqq]; rfl, own_mono HO2.out ?_, HK2.out.bel⟩
          have := HK2.out.lt; omega
        | cons X tl =>
          rw [hrw] at c3
          have c3 : w3.cell? ⟨gd, win, none⟩ = some (.bool false) := c3
          obtain ⟨hd1, hd2⟩ := HRS.out win hwk
          obtain ⟨p, hp⟩ : ∃ p, ps.getD win 0 = p := ⟨_, rfl⟩
          obtain ⟨Lw, hLw⟩ : ∃ Lw, Ls.getD win [] = Lw := ⟨_, rfl⟩
          rw [hrw, hp, hLw] at hd1
          rw [hp, hLw] at hd2
          have hpl2 : p < Lw.length := by
            rcases Nat.lt_or_ge p Lw.length with h | h
            · exact h
            · rw [List.drop_of_length_le h] at hd1; cases hd1
          have hd3 : Lw.getD p (0, 0) = X ∧ Lw.drop (p + 1) = tl := by
            rw [List.drop_eq_getElem_cons hpl2] at hd1
            injection hd1 with h1 h2
            exact ⟨by rw [h1, List.getD_eq_getElem?_getD, List.getElem?_eq_getElem hpl2]; rfl, h2.symm⟩
          obtain ⟨lb, lof, xa, d, e, hc0, hr0⟩ := HLS.out.at hwk
          injection e with e
          injection e with e1 e2
          subst e1 e2
          rw [hLw] at hc0 hr0
          obtain ⟨xb, xo, rfl, x1, x2⟩ := hr0.at hpl2
          rw [hd3.1] at x1 x2
          have hb0 := World.block_lt_of_cell? w _ hc0
          have hb1 := World.block_lt_of_cell? w _ x1
          have hb2 := World.block_lt_of_cell? w _ x2
          have hpI : (ps.map fun p : Nat => (p : Int)).getD win 0 = (p : Int) := by
            rw [List.getD_eq_getElem?_getD, List.getElem?_map, List.getElem?_eq_getElem (by omega)]
            rw [List.getD_eq_getElem?_getD, List.getElem?_eq_getElem (by omega)] at hp
            show ((ps[win] : Nat) : Int) = _
            rw [show ps[win] = p from hp]
          have hLwN : Lw.length ≤ 1000 := by rw [← hLw]; exact HLE.out win hwk
          have HS := Lib.hid (Mg.kstep HW.out hrw HAS.out)
          have HKS := Lib.hid (fun f => Mg.kc_step (f := f) HW.out hrw)
          have HLN := Lib.hid (Mg.len_step (rs := rs) (w := win) (by omega) hrw)
          have HAS2 := Lib.hid (Mg.asc_step (rs := rs) (w := win) (by omega) hrw HAS.out)
          have HX := Lib.hid hd3.1; have HTL := Lib.hid hd3.2; have HP := Lib.hid hp; have HPI := Lib.hid hpI; have HLW := Lib.hid hLw; have HRW := Lib.hid hrw
          clear hr0 hd1 hd3 hp hpI hLw hrw HAS
          have hcc := hcall (win : Int)
          have b3 : (0 : Int) ≤ (p : Int) := by omega
          have b4 : (p : Int) < (Lw.length : Int) := by omega
          have t2 : ((p : Int)).toNat = p := by omega
          obtain ⟨X1, X2⟩ := X
          have x1 : w.cell? ⟨xb, xo + p * 2, none⟩ = some (.int .i64 X1) := x1
          have x2 : w.cell? ⟨xb, xo + p * 2 + 1, none⟩ = some (.int .i64 X2) := x2
          have htN : t + 1 ≤ 1099511627776 := by omega
          have HC := Lib.hid (fun (w' : World) (h : Kw w w' B k w.heap.size ck cd cn gk gd gn (.slice (some ⟨la, lo, none⟩) k lc) (Mg.keysOf rs) (Mg.doneOf rs) (ps.map fun p : Nat => (p : Int))) => show w'.cell? ⟨w.heap.size, 0, none⟩ = some (.slice (some ⟨la, lo, none⟩) k lc) ∧ w'.cell? ⟨la, lo + win, none⟩ = some (.slice (some ⟨xb, xo, none⟩) Lw.length d) ∧ w'.cell? ⟨cn, 0, none⟩ = some (.slice (some ⟨gn, 0, none⟩) k k) ∧ w'.cell? ⟨gn, win, none⟩ = some (.int .i64 p) ∧ w'.cell? ⟨xb, xo + p * 2, none⟩ = some (.int .i64 X1) ∧ w'.cell? ⟨xb, xo + p * 2 + 1, none⟩ = some (.int .i64 X2) from
            ⟨h.lc, (h.bel.cell (p := ⟨la, lo + win, none⟩) hb0).trans hc0, h.nc, by have := h.nr.cellAt win (by omega); rwa [ints_at (by simp; omega), HPI.out] at this, (h.bel.cell (p := ⟨xb, xo + p * 2, none⟩) hb1).trans x1, (h.bel.cell (p := ⟨xb, xo + p * 2 + 1, none⟩) hb2).trans x2⟩)
          clear hc0 x1 x2 hb0 hb1 hb2
          have HKd := Lib.hid (HK2.out.same (wq := w3.drew) ((Below.refl _ _).drew))
          have HOd := Lib.hid (own_below HO2.out (Nat.le_refl _) (Below.drew (Below.refl w3.heap.size w3)))
          have HKa := Lib.hid (HKd.out.same (belowNew w3.drew (.cells #[.int .i64 X1, .int .i64 X2] 87)))
          have HOa := Lib.hid (own_below HOd.out (Nat.le_refl _) (belowNew w3.drew (.cells #[.int .i64 X1, .int .i64 X2] 87)))
          have HNW := Lib.hid (cells_new w3.drew [.int .i64 X1, .int .i64 X2] 87)
          have hS0 := HC.out _ HKd.out
          have hS1 := HC.out _ HKa.out
          have hBs := HKa.out.hi
          clear HO2 HK2 HKd HOd
          go_wp2_with fail
          clear c2 c3
          go_region_held3 (fun w' => w'.cell? ⟨w.heap.size, 0, none⟩ = some (.slice (some ⟨la, lo, none⟩) k lc) ∧ w'.cell? ⟨la, lo + win, none⟩ = some (.slice (some ⟨xb, xo, none⟩) Lw.length d) ∧ w'.cell? ⟨cn, 0, none⟩ = some (.slice (some ⟨gn, 0, none⟩) k k) ∧ w'.cell? ⟨gn, win, none⟩ = some (.int .i64 p) ∧ w'.cell? ⟨xb, xo + p * 2, none⟩ = some (.int .i64 X1) ∧ w'.cell? ⟨xb, xo + p * 2 + 1, none⟩ = some (.int .i64 X2)) (first | assumption | go_keep) (first | ((try go_split_ands); refine step_appX slRec (by rfl) _ _ (by rfl) B (.slice oa t oc) t (flat encR O) _ 1 _ [.int .i64 X1, .int .i64 X2] (by rfl) HOa.out (by rfl) rfl HNW.out (by simp [Value.oneCell']) htN hBs ?_; intro v' w5 hown' hg' ht'; have HK5 := Lib.hid (HKa.out.next hg' (fun b e => ⟨(HOa.out.lt b e).1, by have := (HOa.out.lt b e).1; have := HKa.out.lt; omega⟩)); have hS2 := HC.out _ HK5.out))
          obtain ⟨a5, c5, rfl⟩ := own_slice hown'
          have HO5 := Lib.hid hown'
          have HOB5 : Hid ((Value.slice a5 (t + 1) c5).ownBlock ≠ none) := by
            show _ ≠ _
            rcases ht' with h | h
            · rw [h]; exact HOB.out
            · rw [h]; simp
          clear hown' hg' ht' HOa HKa HOB HC HNW
          try clear hS0
          try clear hS1
          try clear hS2
          have y3 := HK5.out.lc
          have y4 := HK5.out.nc
          have y5 := HK5.out.nr.cellAt win (by omega)
          rw [ints_at (by simp; omega), HPI.out] at y5
          have y6 := HK5.out.nr.frozenAt win
          have HK6 := Lib.hid (HK5.out.setn win ((p : Int) + 1))
          have HF := Lib.hid (fill_any w (w5.setCell ⟨gn, win, none⟩ (.int .i64 ((p : Int) + 1))) B k w.heap.size ck cd cn gk gd gn win (p + 1) la lo lc Ls Lw _ _ _ hk hwk HLS.out HK6.out (by rw [getD_setE (by simp; omega), if_pos rfl]; omega) (by omega) (by omega) HLW.out)
          rw [HTL.out] at HF
          clear HK5 HK6
          go_wp2_with fail
          refine HF.out.mono ?_
          rintro e w6 ⟨rfl, hk6, hgr6⟩
          have hgr6 := Lib.hid hgr6
          have HK6 : Hid (Kw w w6 B k w.heap.size ck cd cn gk gd gn (.slice (some ⟨la, lo, none⟩) k lc) (Mg.keysOf (rs.set win tl)) (Mg.doneOf (rs.set win tl)) ((ps.set win (p + 1)).map fun p : Nat => (p : Int))) := by
            show Kw _ _ _ _ _ _ _ _ _ _ _ _ _ _ _
            rw [show Mg.keysOf (rs.set win tl) = (Mg.keysOf rs).set win (Mg.hk tl) from List.map_set, show Mg.doneOf (rs.set win tl) = (Mg.doneOf rs).set win tl.isEmpty from List.map_set, List.map_set]
            exact hk6
          have HO6 := Lib.hid (hgr6.out _ _ _ _ _ (ownsRow_setCell_below HO5.out HK6.out.lt.2.2.2.2.2.2 _))
          clear hk6 HF HO5 y3 y4 y5 y6 hcc
          have HLN' := HLN.out
          have hpl7 : Mg.plen ((k + win) / 2) ≤ 7 := Mg.plen_le 7 _ (by omega)
          generalize hpe : Mg.plen ((k + win) / 2) = pe at hpl7
          have HPE := Lib.hid hpe
          have HPL := Lib.hid (pathLength_any k win ((k + win) / 2) w6 (by omega) (by omega) rfl)
          rw [hpe] at HPL
          clear hpe
          go_wp2_with fail
          refine HPL.out.mono ?_
          rintro e w7 ⟨rfl, rfl⟩
          go_wp2
          go_roundw
          case rel =>
            refine ⟨t + 1, q + pe, rs.set win tl, ps.set win (p + 1), O ++ [(X1, X2)], by go_num, by rw [flat_append, flat_one]; exact HO6.out, HOB5.out, HK6.out, by rw [List.length_set]; exact hrl, by rw [List.length_set]; exact hpl, by omega, by omega, Lib.hid (fun i hi => ?_), HAS2, Lib.hid ?_, Lib.hid ?_⟩
            · rw [getD_setG (by omega), getD_setG (by omega)]
              by_cases hiw : win = i
              · rw [if_pos hiw, if_pos hiw, ← hiw, HLW.out, HTL.out]; exact ⟨rfl, by omega⟩
              · rw [if_neg hiw, if_neg hiw]; exact HRS.out i hi
            · rw [← HOO.out, List.append_assoc]
              show _ = O ++ Mg.srt Mg.ltF rs.flatten
              rw [HS.out]; rfl
            · have h1 := HKC.out
              rw [HLN.out, HKS.out, hrl, HPE.out] at h1
              rw [← h1]; omega
          case measure => simp only [lenV]; omega
  case steps =>
    refine ⟨?_, ?_, ?_, ?_, ?_, ?_, ?_, ?_, ?_, ?_, ?_, ?_, trivial⟩
    all_goals
      rintro L a w' hs hu haf ⟨x, bl, ob, rfl, hX⟩ K hK
    · exact absurd (hX.l0.symm.trans hu) (by decide)
    · rw [if_pos (by rfl)]
      refine wp_mk slInt.und slInt.info slInt.small _ _ rfl k rfl rfl (by omega) ?_
      intro w2 hobj hb
      exact hK _ _ (kj_set (by rw [hs]; decide) (x := upd x 0 _) (bl := upd bl 0 _) (ob := upd ob 0 _) rfl ⟨hX.l0, hX.l2, hX.l4, hX.it.fresh 0 _ hb hobj (by intro j; rcases j with _ | _ | _ | _ | _ | _ | j <;> rfl) hu, fun _ => ⟨rfl, rfl⟩, hX.m1, hX.m2, fun h => ⟨(hX.a0 h).1, (hX.a0 h).2.1, fun h9 => absurd ((hX.s0 h9).1.symm.trans hu) (by decide)⟩, hX.a1, hX.a2, fun h => ⟨rfl, (hX.s0 h).2⟩, hX.s1, hX.s2⟩)
    · exact absurd (hX.l2.symm.trans hu) (by decide)
    · rw [if_pos (by rfl)]
      refine wp_mk slBoolE.und slBoolE.info slBoolE.small _ _ rfl k rfl rfl (by omega) ?_
      intro w2 hobj hb
      exact hK _ _ (kj_set (by rw [hs]; decide) (x := upd x 1 _) (bl := upd bl 1 _) (ob := upd ob 1 _) rfl ⟨hX.l0, hX.l2, hX.l4, hX.it.fresh 1 _ hb hobj (by intro j; rcases j with _ | _ | _ | _ | _ | _ | j <;> rfl) hu, hX.m0, fun _ => ⟨rfl, rfl⟩, hX.m2, hX.a0, fun h => ⟨(hX.a1 h).1, (hX.a1 h).2.1, fun h9 => absurd ((hX.s1 h9).1.symm.trans hu) (by decide)⟩, hX.a2, hX.s0, fun h => ⟨rfl, (hX.s1 h).2⟩, hX.s2⟩)
    · exact absurd (hX.l4.symm.trans hu) (by decide)
    · rw [if_pos (by rfl)]
      refine wp_mk slInt.und slInt.info slInt.small _ _ rfl k rfl rfl (by omega) ?_
      intro w2 hobj hb
      exact hK _ _ (kj_set (by rw [hs]; decide) (x := upd x 2 _) (bl := upd bl 2 _) (ob := upd ob 2 _) rfl ⟨hX.l0, hX.l2, hX.l4, hX.it.fresh 2 _ hb hobj (by intro j; rcases j with _ | _ | _ | _ | _ | _ | j <;> rfl) hu, hX.m0, hX.m1, fun _ => ⟨rfl, rfl⟩, hX.a0, hX.a1, fun h => ⟨(hX.a2 h).1, (hX.a2 h).2.1, fun h9 => absurd ((hX.s2 h9).1.symm.trans hu) (by decide)⟩, hX.s0, hX.s1, fun h => ⟨rfl, (hX.s2 h).2⟩⟩)
    · unfold kwA
      go_simp
      exact hK _ _ (kj_set (by rw [hs]; decide) (x := upd x 3 _) (bl := upd bl 3 _) (ob := upd ob 3 _) rfl ⟨hX.l0, hX.l2, hX.l4, hX.it.alloc 3 _ (by intro j; rcases j with _ | _ | _ | _ | _ | _ | j <;> rfl) hu, hX.m0, hX.m1, hX.m2, fun _ => ⟨rfl, fun _ => rfl, fun h9 => absurd ((hX.s0 h9).2.symm.trans hu) (by decide)⟩, hX.a1, hX.a2, fun h => ⟨(hX.s0 h).1, rfl⟩, hX.s1, hX.s2⟩)
    · unfold kwA
      go_simp
      exact hK _ _ (kj_set (by rw [hs]; decide) (x := upd x 4 _) (bl := upd bl 4 _) (ob := upd ob 4 _) rfl ⟨hX.l0, hX.l2, hX.l4, hX.it.alloc 4 _ (by intro j; rcases j with _ | _ | _ | _ | _ | _ | j <;> rfl) hu, hX.m0, hX.m1, hX.m2, hX.a0, fun _ => ⟨rfl, fun _ => rfl, fun h9 => absurd ((hX.s1 h9).2.symm.trans hu) (by decide)⟩, hX.a2, hX.s0, fun h => ⟨(hX.s1 h).1, rfl⟩, hX.s2⟩)
    · unfold kwA
      go_simp
      exact hK _ _ (kj_set (by rw [hs]; decide) (x := upd x 5 _) (bl := upd bl 5 _) (ob := upd ob 5 _) rfl ⟨hX.l0, hX.l2, hX.l4, hX.it.alloc 5 _ (by intro j; rcases j with _ | _ | _ | _ | _ | _ | j <;> rfl) hu, hX.m0, hX.m1, hX.m2, hX.a0, hX.a1, fun _ => ⟨rfl, fun _ => rfl, fun h9 => absurd ((hX.s2 h9).2.symm.trans hu) (by decide)⟩, hX.s0, hX.s1, fun h => ⟨(hX.s2 h).1, rfl⟩⟩)
    · have h1 : L.getD 1 false = true := haf ⟨1, .data⟩ (by simp) rfl
      have h6 : L.getD 6 false = true := haf ⟨6, .data⟩ (by simp) rfl
      obtain ⟨e3, ho⟩ := hX.a0 h6
      obtain ⟨e0, _⟩ := hX.m0 h1
      have hh := (hX.it.here 3 h6).2
      rw [ho.1 hu] at hh
      have hc := cell_of_one hh
      have hf := free_of_one hh
      unfold kwA
      rw [e3, e0]
      go_simp
      refine hK _ _ (kj_set (by rw [hs]; decide) (x := x) (bl := bl) (ob := upd ob 3 (.cells (#[Value.slice none 0 0].setIfInBounds 0 (x 0)) 24 (0, 0))) (by unfold kwA; rw [e3, e0]) ?_)
      rw [← e0]
      exact ⟨hX.l0, hX.l2, hX.l4, hX.it.store 3 h6 (ho.1 hu) _, hX.m0, hX.m1, hX.m2, fun h => ⟨(hX.a0 h).1, fun h9 => Bool.noConfusion (show true = false from h9), fun _ => rfl⟩, hX.a1, hX.a2, fun _ => ⟨h1, h6⟩, hX.s1, hX.s2⟩
    · have h1 : L.getD 3 false = true := haf ⟨3, .data⟩ (by simp) rfl
      have h6 : L.getD 7 false = true := haf ⟨7, .data⟩ (by simp) rfl
      obtain ⟨e3, ho⟩ := hX.a1 h6
      obtain ⟨e0, _⟩ := hX.m1 h1
      have hh := (hX.it.here 4 h6).2
      rw [ho.1 hu] at hh
      have hc := cell_of_one hh
      have hf := free_of_one hh
      unfold kwA
      rw [e3, e0]
      go_simp
      refine hK _ _ (kj_set (by rw [hs]; decide) (x := x) (bl := bl) (ob := upd ob 4 (.cells (#[Value.slice none 0 0].setIfInBounds 0 (x 1)) 295 (0, 0))) (by unfold kwA; rw [e3, e0]) ?_)
      rw [← e0]
      exact ⟨hX.l0, hX.l2, hX.l4, hX.it.store 4 h6 (ho.1 hu) _, hX.m0, hX.m1, hX.m2, hX.a0, fun h => ⟨(hX.a1 h).1, fun h9 => Bool.noConfusion (show true = false from h9), fun _ => rfl⟩, hX.a2, hX.s0, fun _ => ⟨h1, h6⟩, hX.s2⟩
    · have h1 : L.getD 5 false = true := haf ⟨5, .data⟩ (by simp) rfl
      have h6 : L.getD 8 false = true := haf ⟨8, .data⟩ (by simp) rfl
      obtain ⟨e3, ho⟩ := hX.a2 h6
      obtain ⟨e0, _⟩ := hX.m2 h1
      have hh := (hX.it.here 5 h6).2
      rw [ho.1 hu] at hh
      have hc := cell_of_one hh
      have hf := free_of_one hh
      unfold kwA
      rw [e3, e0]
      go_simp
      refine hK _ _ (kj_set (by rw [hs]; decide) (x := x) (bl := bl) (ob := upd ob 5 (.cells (#[Value.slice none 0 0].setIfInBounds 0 (x 2)) 24 (0, 0))) (by unfold kwA; rw [e3, e0]) ?_)
      rw [← e0]
      exact ⟨hX.l0, hX.l2, hX.l4, hX.it.store 5 h6 (ho.1 hu) _, hX.m0, hX.m1, hX.m2, hX.a0, hX.a1, fun h => ⟨(hX.a2 h).1, fun h9 => Bool.noConfusion (show true = false from h9), fun _ => rfl⟩, hX.s0, hX.s1, fun _ => ⟨h1, h6⟩⟩
end Go.Proofs.YtbgmbanebmlghaaGreatDoor

namespace Go.Proofs.YtbgmbanebmlghaaGreatDoor
open Go.RowKit Go.Sort
set_option linter.unusedVariables false

/-- Three rows of the call's own. -/
structure Mr (w0 wr : World) (k gk gd ga : Nat) (ks : List Int) (ds : List Bool) (ns : List Int) : Prop where
  bel : Below w0.heap.size w0 wr
  kr : wr.ownsRow w0.heap.size 3 1 (.slice (some ⟨gk, 0, none⟩) k k) k (ints ks)
  dr : wr.ownsRow w0.heap.size 4 1 (.slice (some ⟨gd, 0, none⟩) k k) k (bools ds)
  nr : wr.ownsRow w0.heap.size 3 1 (.slice (some ⟨ga, 0, none⟩) k k) k (ints ns)
  ne : gk ≠ gd ∧ gk ≠ ga ∧ gd ≠ ga
section
variable {w0 wr wq : World} {k gk gd ga : Nat} {ks : List Int} {ds : List Bool} {ns : List Int}
theorem Mr.same (h : Mr w0 wr k gk gd ga ks ds ns) (hb : Below wr.heap.size wr wq) : Mr w0 wq k gk gd ga ks ds ns :=
  ⟨below_tr h.bel hb h.bel.size, own_below h.kr (Nat.le_refl _) hb, own_below h.dr (Nat.le_refl _) hb, own_below h.nr (Nat.le_refl _) hb, h.ne⟩
theorem Mr.setk (h : Mr w0 wr k gk gd ga ks ds ns) (j : Nat) (x : Int) : Mr w0 (wr.setCell ⟨gk, j, none⟩ (.int .i64 x)) k gk gd ga (ks.set j x) ds ns := by
  have hs := h.kr.stored j (.int .i64 x)
  rw [ints_set] at hs
  exact ⟨h.bel.setCell (p := ⟨gk, j, none⟩) (h.kr.lt gk rfl).1 _, hs.1, own_far h.dr hs.2 (Ne.symm h.ne.1), own_far h.nr hs.2 (Ne.symm h.ne.2.1), h.ne⟩
theorem Mr.setd (h : Mr w0 wr k gk gd ga ks ds ns) (j : Nat) (x : Bool) : Mr w0 (wr.setCell ⟨gd, j, none⟩ (.bool x)) k gk gd ga ks (ds.set j x) ns := by
  have hs := h.dr.stored j (.bool x)
  rw [bools_set] at hs
  exact ⟨h.bel.setCell (p := ⟨gd, j, none⟩) (h.dr.lt gd rfl).1 _, own_far h.kr hs.2 h.ne.1, hs.1, own_far h.nr hs.2 (Ne.symm h.ne.2.2), h.ne⟩
end

/-- The tree, the positions, what is out. -/
structure Sm (w0 wq : World) (B T ga k gk gd c0 c2 win : Nat) (lv : Value) (ks : List Int) (ds : List Bool) (ns : List Int) (o : Value) (t : Nat) (O : List (Int × Int)) : Prop where
  bel : Below w0.heap.size w0 wq
  hi : B ≤ wq.heap.size
  lo : w0.heap.size ≤ T ∧ w0.heap.size ≤ ga ∧ w0.heap.size ≤ B
  lt : T < B ∧ ga < B
  ne : T ≠ ga ∧ gk ≠ T ∧ gk ≠ ga ∧ gd ≠ T ∧ gd ≠ ga
  nk : o.ownBlock ≠ some gk ∧ o.ownBlock ≠ some gd
  gl : gk < wq.heap.size ∧ gd < wq.heap.size
  tr : wq.heap[T]? = some (.cells #[.slice (some ⟨gk, 0, none⟩) k c0, .slice (some ⟨gd, 0, none⟩) k c2, lv, .int .i64 win] 297 (0, 0))
  kv : ValsAt wq (some ⟨gk, 0, none⟩) (ints ks)
  dv : ValsAt wq (some ⟨gd, 0, none⟩) (bools ds)
  ar : wq.ownsRow w0.heap.size 3 1 (.slice (some ⟨ga, 0, none⟩) k k) k (ints ns)
  oo : wq.ownsRow B 87 2 o t (flat encR O)
section
variable {w0 wq wz : World} {B T ga k gk gd c0 c2 win t : Nat} {lv o : Value} {ks : List Int} {ds : List Bool} {ns : List Int} {O : List (Int × Int)}
theorem Sm.same (h : Sm w0 wq B T ga k gk gd c0 c2 win lv ks ds ns o t O) (hb : Below wq.heap.size wq wz) : Sm w0 wz B T ga k gk gd c0 c2 win lv ks ds ns o t O :=
  ⟨below_tr h.bel hb h.bel.size, Nat.le_trans h.hi hb.size, h.lo, h.lt, h.ne, h.nk, ⟨Nat.lt_of_lt_of_le h.gl.1 hb.size, Nat.lt_of_lt_of_le h.gl.2 hb.size⟩, block_below h.tr hb (Nat.lt_of_lt_of_le h.lt.1 h.hi), h.kv.same hb, h.dv.same hb, own_below h.ar (Nat.le_refl _) hb, own_below h.oo (Nat.le_refl _) hb⟩
theorem Sm.app {o' : Value} {t' : Nat} {O' : List (Int × Int)} (h : Sm w0 wq B T ga k gk gd c0 c2 win lv ks ds ns o t O) (ho : wz.ownsRow B 87 2 o' t' (flat encR O')) (hg : wq.grownBy wz o.ownBlock) (ht : o'.ownBlock = o.ownBlock ∨ o'.ownBlock = some wq.heap.size) : Sm w0 wz B T ga k gk gd c0 c2 win lv ks ds ns o' t' O' := by
  have hge : ∀ b, o.ownBlock = some b → B ≤ b := fun b e => (h.oo.lt b e).1
  have hlt := h.lt
  have hlo := h.lo
  have hgl := h.gl
  refine ⟨h.bel.grown hg h.bel.size (fun b e => by have := hge b e; omega), Nat.le_trans h.hi hg.size, h.lo, h.lt, h.ne, ?_, ⟨Nat.lt_of_lt_of_le h.gl.1 hg.size, Nat.lt_of_lt_of_le h.gl.2 hg.size⟩, block_row h.tr hg (fun e => by have := hge _ e; omega), h.kv.grown hg (fun b off e he => by injection e with e; injection e with e1 e2; rw [← e1] at he; exact h.nk.1 he), h.dv.grown hg (fun b off e he => by injection e with e; injection e with e1 e2; rw [← e1] at he; exact h.nk.2 he), own_other h.ar hg (fun q hq e => by simp [Value.ownBlock] at hq; have := hge _ e; omega), ho⟩
  rcases ht with e | e
  · rw [e]; exact h.nk
  · rw [e]; exact ⟨fun e => by injection e with e; omega, fun e => by injection e with e; omega⟩
theorem Sm.setn (h : Sm w0 wq B T ga k gk gd c0 c2 win lv ks ds ns o t O) (j : Nat) (x : Int) : Sm w0 (wq.setCell ⟨ga, j, none⟩ (.int .i64 x)) B T ga k gk gd c0 c2 win lv ks ds (ns.set j x) o t O := by
  have hs := h.ar.stored j (.int .i64 x)
  rw [ints_set] at hs
  obtain ⟨n1, n2, n3, n4, n5⟩ := h.ne
  exact ⟨h.bel.setCell (p := ⟨ga, j, none⟩) h.lo.2.1 _, Nat.le_trans h.hi hs.2.size, h.lo, h.lt, h.ne, h.nk, ⟨Nat.lt_of_lt_of_le h.gl.1 hs.2.size, Nat.lt_of_lt_of_le h.gl.2 hs.2.size⟩, block_row h.tr hs.2 (by intro e; injection e with e; omega), h.kv.grown hs.2 (fun b off e he => by injection e with e; injection e with e1 e2; injection he with he; omega), h.dv.grown hs.2 (fun b off e he => by injection e with e; injection e with e1 e2; injection he with he; omega), hs.1, ownsRow_setCell_below h.oo h.lt.2 _⟩
end
end Go.Proofs.YtbgmbanebmlghaaGreatDoor

namespace Go.Proofs.YtbgmbanebmlghaaGreatDoor
open Go.RowKit Go.Sort
set_option linter.unusedVariables false
def totL (Ls : List (List (Int × Int))) : Nat := Ls.flatten.length
theorem srtP_len (l : List (Int × Int)) : (Mg.srtP l).length = l.length := Mg.srt_length l

end Go.Proofs.YtbgmbanebmlghaaGreatDoor

namespace Go.Proofs.YtbgmbanebmlghaaGreatDoor
open Go.RowKit Go.Sort
set_option linter.unusedVariables false

theorem Tryz.infoLsE : (Tryz.prog.info? 26).map (fun i => (i.zero, i.size, i.bytes)) = some (some (.slice none 0 0), 1, 24) := by kernel_rfl
theorem slLs : SlT Tryz.prog 222 26 (.slice none 0 0) 1 24 := ⟨Tryz.underlying222, info_parts Tryz.infoLsE, rfl, by decide, by decide⟩

theorem Rd.grown {w w' : World} {row : Option Nat} {a : Option Addr} {n c : Nat} {L : List (Int × Int)} (h : Rd w a n c L) (hg : w.grownBy w' row) (hne : ∀ b off, a = some ⟨b, off, none⟩ → row ≠ some b) : Rd w' a n c L :=
  ⟨h.recs.grown hg hne, h.len, h.nil, h.cap⟩

/-- A row of headers of the call's own, each list in a block of its own. -/
structure LoH (w : World) (B : Nat) (o : Value) (n : Nat) (hs : List Value) (Ls : List (List (Int × Int))) : Prop where
  own : w.ownsRow B 26 1 o n hs
  hds : Hds w hs Ls
  far : ∀ (j b off m c : Nat), hs[j]? = some (.slice (some ⟨b, off, none⟩) m c) → B ≤ b ∧ o.ownBlock ≠ some b ∧ b < w.heap.size
theorem LoH.len {w : World} {B n : Nat} {o : Value} {hs : List Value} {Ls : List (List (Int × Int))} (h : LoH w B o n hs Ls) : Ls.length = n := by
  rw [← h.hds.1]; have := h.own.1; omega
theorem loH_nil (w : World) : LoH (w.alloc (.cells #[] 26)) w.heap.size (.slice (some ⟨w.heap.size, 0, none⟩) 0 0) 0 [] [] :=
  ⟨own_lit (w := w) (e := 26) (size := 1) #[] 0 (by omega) rfl, hds_nil _, fun j b off m c h => by simp at h⟩
theorem LoH.mono {w : World} {B B' n : Nat} {o : Value} {hs : List Value} {Ls : List (List (Int × Int))} (h : LoH w B o n hs Ls) (hB : B' ≤ B) : LoH w B' o n hs Ls :=
  ⟨own_mono h.own hB, h.hds, fun j b off m c e => ⟨Nat.le_trans hB (h.far j b off m c e).1, (h.far j b off m c e).2⟩⟩
theorem LoH.same {w w' : World} {B n : Nat} {o : Value} {hs : List Value} {Ls : List (List (Int × Int))} (h : LoH w B o n hs Ls) (hb : Below w.heap.size w w') : LoH w' B o n hs Ls :=
  ⟨own_below h.own (Nat.le_refl _) hb, h.hds.same hb, fun j b off m c e => ⟨(h.far j b off m c e).1, (h.far j b off m c e).2.1, Nat.lt_of_lt_of_le (h.far j b off m c e).2.2 hb.size⟩⟩
theorem hds_grown {w w' : World} {row : Option Nat} {hs : List Value} {Ls : List (List (Int × Int))} (h : Hds w hs Ls) (hg : w.grownBy w' row) (hne : ∀ (j b off m c : Nat), hs[j]? = some (.slice (some ⟨b, off, none⟩) m c) → row ≠ some b) : Hds w' hs Ls := by
  refine ⟨h.1, fun j v L h1 h2 => ?_⟩
  obtain ⟨x, c, e, hr⟩ := h.2 j v L h1 h2
  refine ⟨x, c, e, hr.grown hg fun b off e2 => ?_⟩
  subst e e2
  exact hne j b off _ _ h1
theorem LoH.grow {w w' : World} {B n : Nat} {o : Value} {hs : List Value} {Ls : List (List (Int × Int))} {row : Option Nat} (h : LoH w B o n hs Ls) (hg : w.grownBy w' row) (hr : ∀ b, row = some b → b < B) : LoH w' B o n hs Ls :=
  ⟨own_other h.own hg (fun q hq e => by have := (h.own.lt q hq).1; have := hr _ e; omega), hds_grown h.hds hg (fun j b off m c e e2 => by have := (h.far j b off m c e).1; have := hr _ e2; omega), fun j b off m c e => ⟨(h.far j b off m c e).1, (h.far j b off m c e).2.1, Nat.lt_of_lt_of_le (h.far j b off m c e).2.2 hg.size⟩⟩
/-- Another block is written that lies behind all of the row's. -/
theorem LoH.grow2 {w w' : World} {B n S : Nat} {o : Value} {hs : List Value} {Ls : List (List (Int × Int))} {row : Option Nat} (h : LoH w B o n hs Ls) (hg : w.grownBy w' row) (hr : ∀ b, row = some b → S ≤ b) (ho : ∀ b, o.ownBlock = some b → row ≠ some b) (hf : ∀ (j b off m c : Nat), hs[j]? = some (.slice (some ⟨b, off, none⟩) m c) → b < S := by assumption) : LoH w' B o n hs Ls :=
  ⟨own_other h.own hg ho, hds_grown h.hds hg (fun j b off m c e e2 => by have := hf j b off m c e; have := hr _ e2; omega), fun j b off m c e => ⟨(h.far j b off m c e).1, (h.far j b off m c e).2.1, Nat.lt_of_lt_of_le (h.far j b off m c e).2.2 hg.size⟩⟩
theorem LoH.app {w w' : World} {B n m c : Nat} {o o' : Value} {hs : List Value} {Ls : List (List (Int × Int))} {x : Option Addr} {L : List (Int × Int)} (h : LoH w B o n hs Ls) (he : Rd w x m c L) (hx : ∀ b off, x = some ⟨b, off, none⟩ → B ≤ b ∧ o.ownBlock ≠ some b ∧ b < w.heap.size)
    (hown : w'.ownsRow B 26 1 o' (n + 1) (hs ++ [.slice x m c])) (hg : w.grownBy w' o.ownBlock) (ht : ∀ b, o'.ownBlock = some b → o.ownBlock = some b ∨ w.heap.size ≤ b) : LoH w' B o' (n + 1) (hs ++ [.slice x m c]) (Ls ++ [L]) := by
  refine ⟨hown, (hds_grown h.hds hg (fun j b off m c e => (h.far j b off m c e).2.1)).snoc (hdAt_rd (he.grown hg (fun b off e => (hx b off e).2.1))), fun j b off m2 c2 e => ?_⟩
  rcases Nat.lt_or_ge j hs.length with hj | hj
  · rw [List.getElem?_append_left hj] at e
    obtain ⟨f1, f2, f3⟩ := h.far j b off m2 c2 e
    refine ⟨f1, fun e2 => ?_, Nat.lt_of_lt_of_le f3 hg.size⟩
    rcases ht b e2 with h1 | h1
    · exact f2 h1
    · omega
  · rw [List.getElem?_append_right hj] at e
    obtain ⟨i, hi⟩ : ∃ i, j - hs.length = i := ⟨_, rfl⟩
    rw [hi] at e
    cases i with
    | zero =>
      simp at e
      obtain ⟨f1, f2, f3⟩ := hx b off e.1
      refine ⟨f1, fun e2 => ?_, Nat.lt_of_lt_of_le f3 hg.size⟩
      rcases ht b e2 with h1 | h1
      · exact f2 h1
      · omega
    | succ i => simp at e
theorem LoH.ls {w : World} {B n c : Nat} {a : Option Addr} {hs : List Value} {Ls : List (List (Int × Int))} (h : LoH w B (.slice a n c) n hs Ls) : LsAt w a n c Ls := lsAt_own h.own h.hds
end Go.Proofs.YtbgmbanebmlghaaGreatDoor

namespace Go.Proofs.YtbgmbanebmlghaaGreatDoor
open Go.RowKit Go.Sort
set_option linter.unusedVariables false
theorem runsOf_step {m : Nat} (hm : 0 < m) {l : List (Int × Int)} (hl : l ≠ []) : Mg.runsOf m l = Mg.srtP (l.take m) :: Mg.runsOf m (l.drop m) := by
  unfold Mg.runsOf
  rw [Mg.chunk_step hm hl, List.map_cons]
theorem runsOf_nil (m : Nat) : Mg.runsOf m [] = [] := by unfold Mg.runsOf; rw [Mg.chunk_nil]; rfl
theorem rd_mid {w : World} {b o n c i h : Nat} {rs : List (Int × Int)} (hr : Rd w (some ⟨b, o, none⟩) n c rs) (hih : i ≤ h) (hn : h ≤ n) : Rd w (some ⟨b, o + i * 2, none⟩) (h - i) (c - i) ((rs.drop i).take (h - i)) := by
  have h1 := rd_hi hr (h := i) (by omega)
  exact rd_lo h1 (by omega)

end Go.Proofs.YtbgmbanebmlghaaGreatDoor

namespace Go.Proofs.YtbgmbanebmlghaaGreatDoor
open Go.RowKit Go.Sort
set_option linter.unusedVariables false

theorem passOf_step {m : Nat} (hm : 0 < m) {l : List (List (Int × Int))} (hl : l ≠ []) : Mg.passOf m l = Mg.srtP (l.take m).flatten :: Mg.passOf m (l.drop m) := by
  unfold Mg.passOf
  rw [Mg.chunk_step hm hl, List.map_cons]
theorem passOf_nil (m : Nat) : Mg.passOf m [] = [] := by unfold Mg.passOf; rw [Mg.chunk_nil]; rfl
theorem passC_step {m : Nat} (hm : 0 < m) {l : List (List (Int × Int))} (hl : l ≠ []) : Mg.passC m l = Mg.kcs (l.take m) + Mg.passC m (l.drop m) := by
  unfold Mg.passC
  rw [Mg.chunk_step hm hl, List.map_cons, List.sum_cons]
theorem passC_nil (m : Nat) : Mg.passC m [] = 0 := by unfold Mg.passC; rw [Mg.chunk_nil]; rfl
theorem flat_part_le {rs : List (List (Int × Int))} {i m : Nat} : ((rs.drop i).take m).flatten.length ≤ rs.flatten.length := by
  have h1 : rs = rs.take i ++ ((rs.drop i).take m ++ (rs.drop i).drop m) := by rw [List.take_append_drop, List.take_append_drop]
  conv => rhs; rw [h1]
  rw [List.flatten_append, List.flatten_append, List.length_append, List.length_append]; omega

end Go.Proofs.YtbgmbanebmlghaaGreatDoor

namespace Go.Proofs.YtbgmbanebmlghaaGreatDoor
open Go.RowKit Go.Sort
set_option linter.unusedVariables false

theorem blk_eq {n b : Nat} (hb : 0 < b) : ((n : Int) + (b : Int) - 1) / (b : Int) = ((Mg.blkN b n : Nat) : Int) := by
  unfold Mg.blkN
  rw [Int.natCast_ediv]
  congr 1
  omega
theorem blk_eqt {n b : Nat} (hb : 0 < b) : ((n : Int) + (b : Int) - 1).tdiv (b : Int) = ((Mg.blkN b n : Nat) : Int) := by
  rw [Int.tdiv_eq_ediv_of_nonneg (by omega)]; exact blk_eq hb

set_option maxHeartbeats 1000000 in
theorem blocks_any (n b : Nat) (w : World) (hb : 0 < b) (hb2 : b ≤ 1000000) (hn : n ≤ 1000000) : Calls Tryz.prog 275 #[.int .i64 n, .int .i64 b] w fun e w' => e = .returned (.int .i64 ((Mg.blkN b n : Nat) : Int)) ∧ w = w' := by
  have h1 := blk_eq (n := n) hb
  have h2 := blk_eqt (n := n) hb
  have hle := Mg.blkN_le (n := n) hb
  generalize Mg.blkN b n = x at h1 h2 hle ⊢
  have h3 : (b : Int) ≠ 0 := by omega
  have h4 : ((b : Int) == 0) = false := by rw [beq_eq_false_iff_ne]; exact h3
  go_enter Tryz.func275, Tryz.ntmps275
  go_wp2
  go_ret
  exact ⟨rfl, rfl⟩
def lensOf (Ls : List (List (Int × Int))) : List Nat := Ls.map List.length
def blkS (b : Nat) (Ls : List (List (Int × Int))) : Nat := Mg.blks b (lensOf Ls)
theorem blkS_step {b i : Nat} {Ls : List (List (Int × Int))} (h : i < Ls.length) : blkS b (Ls.take (i + 1)) = blkS b (Ls.take i) + Mg.blkN b (Ls.getD i []).length := by
  unfold blkS lensOf Mg.blks
  rw [List.take_succ_eq_append_getElem h, List.map_append, List.map_append, List.sum_append, List.getD_eq_getElem?_getD, List.getElem?_eq_getElem h]
  simp
theorem totL_take_le (Ls : List (List (Int × Int))) (i : Nat) : totL (Ls.take i) ≤ totL Ls := by
  unfold totL
  have h1 : Ls.flatten = (Ls.take i).flatten ++ (Ls.drop i).flatten := by rw [← List.flatten_append, List.take_append_drop]
  rw [h1, List.length_append]; omega
theorem blkS_le {b : Nat} (hb : 0 < b) (Ls : List (List (Int × Int))) : blkS b Ls ≤ totL Ls := by
  have := Mg.blks_le hb (lensOf Ls)
  unfold blkS totL
  rw [List.length_flatten]
  exact this
theorem mem_tot {Ls : List (List (Int × Int))} {i : Nat} (h : i < Ls.length) : (Ls.getD i []).length ≤ totL Ls := flat_mem_len h

set_option maxRecDepth 100000 in
set_option maxHeartbeats 1000000 in
theorem blocksOf_any (pm pw : Int) (b : Nat) (a : Option Addr) (n c : Nat) (Ls : List (List (Int × Int))) (w : World) (hb : 0 < b) (hb2 : b ≤ 1000000) (hn : n ≤ 1000) (hN : totL Ls ≤ 1000) (h : LsAt w a n c Ls) :
    Calls Tryz.prog 276 #[.agg #[.int .i64 pm, .int .i64 pw, .int .i64 b], .slice a n c] w fun e w' => e = .returned (.int .i64 ((blkS b Ls : Nat) : Int)) ∧ Below w.heap.size w w' := by
  have hbn := belowNew w (.cells #[.int .i64 pm, .int .i64 pw, .int .i64 b] 187)
  have H := Lib.hid (h.same hbn)
  have HB0 := Lib.hid hbn
  have HR := Lib.hid (row_cell (block_new w (.cells #[.int .i64 pm, .int .i64 pw, .int .i64 b] 187)) 2)
  have hl := h.len
  clear h hbn
  have hsz : (w.alloc (.cells #[.int .i64 pm, .int .i64 pw, .int .i64 b] 187)).heap.size = w.heap.size + 1 := by simp
  go_enter Tryz.func276, Tryz.ntmps276
  go_wp2
  generalize w.alloc (.cells #[.int .i64 pm, .int .i64 pw, .int .i64 b] 187) = w1 at H HB0 HR hsz ⊢
  have HR : Hid (w1.cell? ⟨w.heap.size, 2, none⟩ = some (.int .i64 b)) := HR
  go_loopw [5, 10] (fun tv iv wr => ∃ i t : Nat, iv = .int .i64 i ∧ tv = .int .i64 t ∧ i ≤ n ∧ Hid (t = blkS b (Ls.take i)) ∧ wr = w1) (fun _ iv _ => n - (intOf iv).toNat)
  case atStart => exact ⟨0, 0, rfl, rfl, by omega, Lib.hid rfl, rfl⟩
  case round =>
    obtain ⟨i, t, rfl, rfl, hi, HT, hwr⟩ := hrel
    subst hwr
    have ht : t ≤ 1000 := by
      have h1 := blkS_le hb (Ls.take i)
      have h2 := totL_take_le Ls i
      have h3 := HT.out
      omega
    by_cases hlt : i < n
    · have q1 : decide ((i : Int) < (n : Int)) = true := decide_eq_true (by omega)
      obtain ⟨lb, lof, xa, d, rfl, hc, hr⟩ := H.out.at hlt
      have hm := mem_tot (Ls := Ls) (i := i) (by omega)
      have hst := blkS_step (b := b) (Ls := Ls) (i := i) (by omega)
      generalize (Ls.getD i []).length = m at hc hm hst
      have HST := Lib.hid hst
      have hrc := HR.out
      have b1 : (0 : Int) ≤ (i : Int) := by omega
      have t1 : ((i : Int)).toNat = i := by omega
      have hle := Mg.blkN_le (n := m) hb
      have HBK := Lib.hid (blocks_any m b wr hb hb2 (by omega))
      generalize hbk : Mg.blkN b m = x at HBK hle
      have HX := Lib.hid hbk
      clear hr hst hbk
      go_wp2_with (go_at_call 275; refine HBK.out.mono ?_; rintro e w' ⟨rfl, rfl⟩)
      go_roundw
      case rel => exact ⟨i + 1, t + x, by go_num, by go_num, by omega, Lib.hid (by rw [HST.out, ← HT.out, HX.out]), by first | rfl | trivial⟩
      case measure => simp [intOf] <;> omega
    · have hin : n = i := by omega
      subst hin
      have q1 : decide ((n : Int) < (n : Int)) = false := by simp
      have HE : Hid (((t : Nat) : Int) = ((blkS b Ls : Nat) : Int)) := by
        show _ = _
        rw [HT.out, List.take_of_length_le (by omega)]
      go_wp2
      go_ret
      exact ⟨ret_int HE.out, HB0.out⟩

/-- A plan is valid. -/
def planOk (pm pw pb : Int) : Bool := inB pm 1 64 && inB pw 2 16 && inB pb 1 pm
theorem planOk_iff {pm pw pb : Int} (h : planOk pm pw pb = true) : 1 ≤ pm ∧ pm ≤ 64 ∧ 2 ≤ pw ∧ pw ≤ 16 ∧ 1 ≤ pb ∧ pb ≤ pm := by
  unfold planOk at h
  simp only [Bool.and_eq_true] at h
  have h1 := inB_iff.1 h.1.1
  have h2 := inB_iff.1 h.1.2
  have h3 := inB_iff.1 h.2
  omega

set_option maxRecDepth 100000 in
set_option maxHeartbeats 1000000 in
theorem isValidPlan_any (pm pw pb : Int) (w : World) : Calls Tryz.prog 246 #[.agg #[.int .i64 pm, .int .i64 pw, .int .i64 pb]] w fun e w' => e = .returned (.bool (planOk pm pw pb)) ∧ Below w.heap.size w w' := by
  have HB := Lib.hid (belowNew w (.cells #[.int .i64 pm, .int .i64 pw, .int .i64 pb] 187))
  have H1 := Lib.hid (fun w => in_any pm 1 64 w); have H2 := Lib.hid (fun w => in_any pw 2 16 w); have H3 := Lib.hid (fun w => in_any pb 1 pm w)
  have HV : Hid (planOk pm pw pb = (inB pm 1 64 && inB pw 2 16 && inB pb 1 pm)) := rfl
  cases h1 : inB pm 1 64
  · rw [h1] at H1 HV
    clear h1
    go_enter Tryz.func246, Tryz.ntmps246
    go_wp2_with fail
    refine (H1.out _).mono ?_
    rintro e w' ⟨rfl, rfl⟩
    go_wp2
    go_ret
    exact ⟨ret_bool (by rw [HV.out]; rfl), HB.out⟩
  cases h2 : inB pw 2 16
  · rw [h1] at H1 HV
    rw [h2] at H2 HV
    clear h1 h2
    go_enter Tryz.func246, Tryz.ntmps246
    go_wp2_with fail
    refine (H1.out _).mono ?_
    rintro e w' ⟨rfl, rfl⟩
    go_wp2_with fail
    refine (H2.out _).mono ?_
    rintro e w' ⟨rfl, rfl⟩
    go_wp2
    go_ret
    exact ⟨ret_bool (by rw [HV.out]; rfl), HB.out⟩
  · rw [h1] at H1 HV
    rw [h2] at H2 HV
    clear h1 h2
    generalize inB pb 1 pm = b3 at H3 HV
    go_enter Tryz.func246, Tryz.ntmps246
    go_wp2_with fail
    refine (H1.out _).mono ?_
    rintro e w' ⟨rfl, rfl⟩
    go_wp2_with fail
    refine (H2.out _).mono ?_
    rintro e w' ⟨rfl, rfl⟩
    go_wp2_with fail
    refine (H3.out _).mono ?_
    rintro e w' ⟨rfl, rfl⟩
    go_wp2
    go_ret
    exact ⟨ret_bool (by rw [HV.out]; simp), HB.out⟩

end Go.Proofs.YtbgmbanebmlghaaGreatDoor

namespace Go.Proofs.YtbgmbanebmlghaaGreatDoor
open Go.RowKit Go.Sort
set_option linter.unusedVariables false

abbrev z4 : Array Value := #[.int .i64 0, .int .i64 0, .int .i64 0, .int .i64 0]
def planV (pm pw pb : Nat) : Array Value := #[.int .i64 pm, .int .i64 pw, .int .i64 pb]
def costV (c0 c1 c2 c3 : Nat) : Array Value := #[.int .i64 c0, .int .i64 c1, .int .i64 c2, .int .i64 c3]
/-- The plan's variable, the result's, the cost's. -/
structure Sv (w0 w : World) (P R T : Nat) (pv cv : Array Value) : Prop where
  bel : Below w0.heap.size w0 w
  lo : w0.heap.size ≤ P ∧ w0.heap.size ≤ R ∧ w0.heap.size ≤ T
  ne : P ≠ R ∧ P ≠ T ∧ R ≠ T
  pl : w.heap[P]? = some (.cells pv 187 (0, 0))
  rz : w.heap[R]? = some (.cells z4 183 (0, 0))
  co : w.heap[T]? = some (.cells cv 183 (0, 0))
theorem hlt_of {w : World} {g : Nat} {o : Obj} (h : w.heap[g]? = some o) : g < w.heap.size := (Array.getElem?_eq_some_iff.1 h).1
theorem Sv.same {w0 w w' : World} {P R T : Nat} {pv cv : Array Value} (h : Sv w0 w P R T pv cv) (hb : Below w.heap.size w w') : Sv w0 w' P R T pv cv :=
  ⟨below_tr h.bel hb h.bel.size, h.lo, h.ne, block_below h.pl hb (hlt_of h.pl), block_below h.rz hb (hlt_of h.rz), block_below h.co hb (hlt_of h.co)⟩
theorem Sv.setc {w0 w : World} {P R T : Nat} {pv cv : Array Value} (h : Sv w0 w P R T pv cv) (j : Nat) (v : Value) : Sv w0 (w.setCell ⟨T, j, none⟩ v) P R T pv (cv.setIfInBounds j v) :=
  ⟨h.bel.setCell (p := ⟨T, j, none⟩) h.lo.2.2 v, h.lo, h.ne, by rw [Below.heap_setCell w ⟨T, j, none⟩ v P h.ne.2.1]; exact h.pl, by rw [Below.heap_setCell w ⟨T, j, none⟩ v R h.ne.2.2]; exact h.rz, heap_storeN h.co j v⟩
theorem grown_setN (w : World) (g j : Nat) (v : Value) : w.grownBy (w.setCell ⟨g, j, none⟩ v) (some g) :=
  ⟨rfl, rfl, rfl, by simp, fun k _ hk => heap_setCell_other w ⟨g, j, none⟩ k v (fun e => hk (by simp [e]))⟩
/-- Two blocks are written, others made. -/
inductive Rch (T R : Nat) : World → World → Prop
  | refl (w : World) : Rch T R w w
  | step {w w1 w2 : World} {k : Nat} : w.grownBy w1 (some k) → (k = T ∨ k = R) → Rch T R w1 w2 → Rch T R w w2
/-- Lists that lie apart from two blocks. -/
structure LsF (w : World) (a : Option Addr) (n c : Nat) (Ls : List (List (Int × Int))) (T R : Nat) : Prop where
  hd : ∃ hs : List Value, ∀ W, Rch T R w W → ValsAt W a hs ∧ Hds W hs Ls
  len : Ls.length = n
  nil : NilOk a c
  cap : n ≤ c
theorem LsF.ls {w : World} {a : Option Addr} {n c T R : Nat} {Ls : List (List (Int × Int))} (h : LsF w a n c Ls T R) : LsAt w a n c Ls := by
  obtain ⟨hs, hh⟩ := h.hd
  exact ⟨⟨hs, hh w (.refl w)⟩, h.len, h.nil, h.cap⟩
theorem LsF.step {w w' : World} {a : Option Addr} {n c T R k : Nat} {Ls : List (List (Int × Int))} (h : LsF w a n c Ls T R) (hg : w.grownBy w' (some k)) (hk : k = T ∨ k = R) : LsF w' a n c Ls T R := by
  obtain ⟨hs, hh⟩ := h.hd
  exact ⟨⟨hs, fun W hW => hh W (.step hg hk hW)⟩, h.len, h.nil, h.cap⟩
theorem LsF.next {w w' : World} {a : Option Addr} {n c T R : Nat} {Ls : List (List (Int × Int))} (h : LsF w a n c Ls T R) (hg : w.grownBy w' (some T)) : LsF w' a n c Ls T R := h.step hg (.inl rfl)
theorem LsF.same {w w' : World} {a : Option Addr} {n c T R : Nat} {Ls : List (List (Int × Int))} (h : LsF w a n c Ls T R) (hb : Below w.heap.size w w') : LsF w' a n c Ls T R := h.next (grown_of_below hb)
theorem LsF.one {w : World} {a : Option Addr} {c T R : Nat} {Ls : List (List (Int × Int))} (h : LsF w a 1 c Ls T R) :
    ∃ (b off : Nat) (x : Option Addr) (d : Nat), a = some ⟨b, off, none⟩ ∧ ∀ W, Rch T R w W → W.cell? ⟨b, off, none⟩ = some (.slice x (Ls.getD 0 []).length d) ∧ Rd W x (Ls.getD 0 []).length d (Ls.getD 0 []) := by
  obtain ⟨hs, hh⟩ := h.hd
  obtain ⟨h1, h2⟩ := hh w (.refl w)
  have hl := h.len
  have hkl : 0 < hs.length := by rw [h2.1]; omega
  have hkL : 0 < Ls.length := by omega
  obtain ⟨b, off, e, _⟩ := h1.at (List.getElem?_eq_getElem hkl)
  obtain ⟨x, d, e2, _⟩ := h2.2 0 _ _ (List.getElem?_eq_getElem hkl) (List.getElem?_eq_getElem hkL)
  have eg : Ls.getD 0 [] = Ls[0] := by rw [List.getD_eq_getElem?_getD, List.getElem?_eq_getElem hkL]; rfl
  rw [eg]
  refine ⟨b, off, x, d, e, fun W hW => ?_⟩
  obtain ⟨h3, h4⟩ := hh W hW
  obtain ⟨b', off', e', hc⟩ := h3.at (List.getElem?_eq_getElem hkl)
  obtain ⟨x', d', e2', hr⟩ := h4.2 0 _ _ (List.getElem?_eq_getElem hkl) (List.getElem?_eq_getElem hkL)
  rw [e] at e'
  injection e' with e'
  injection e' with e1 e3
  subst e1 e3
  rw [e2] at e2'
  injection e2' with f1 f2 f3
  subst f1 f3
  rw [e2] at hc
  exact ⟨hc, hr⟩
theorem LoH.apart_go {T R B S n c : Nat} {a : Option Addr} {hs : List Value} {Ls : List (List (Int × Int))} {w W : World} (hW : Rch T R w W) (hT : T < B ∨ S ≤ T) (hR : R < B ∨ S ≤ R) :
    LoH w B (.slice a n c) n hs Ls → (∀ b, (Value.slice a n c).ownBlock = some b → b < S) → (∀ (j b off m c : Nat), hs[j]? = some (.slice (some ⟨b, off, none⟩) m c) → b < S) → ValsAt W a hs ∧ Hds W hs Ls := by
  induction hW with
  | refl w => exact fun h _ _ => ⟨vals_own h.own, h.hds⟩
  | @step u u1 u2 k hg hk _ ih =>
    intro h ho hf
    have hk2 : k < B ∨ S ≤ k := by rcases hk with rfl | rfl <;> assumption
    refine ih ?_ ho hf
    rcases hk2 with h1 | h1
    · exact h.grow hg (fun b e => by injection e with e; omega)
    · exact h.grow2 (S := S) hg (fun b e => by injection e with e; omega) (fun b e e2 => by have := ho b e; injection e2 with e2; omega) hf
theorem LoH.apart {w : World} {B n c T R : Nat} {a : Option Addr} {hs : List Value} {Ls : List (List (Int × Int))} (h : LoH w B (.slice a n c) n hs Ls) (hT : T < B ∨ w.heap.size ≤ T) (hR : R < B) : LsF w a n c Ls T R :=
  ⟨⟨hs, fun W hW => LoH.apart_go hW hT (.inl hR) h (fun b e => (h.own.lt b e).2) (fun j b off m c e => (h.far j b off m c e).2.2)⟩, h.len, nilOk_own h.own, own_cap h.own⟩
theorem pass_len {m : Nat} (hm : 0 < m) (Ls : List (List (Int × Int))) : (Mg.passOf m Ls).length = (Ls.length + m - 1) / m := by
  have h1 : (Mg.passOf m Ls).length = ((Mg.passOf m Ls).map List.length).length := (List.length_map ..).symm
  rw [h1, Mg.pass_lens hm, Mg.grp_len hm, List.length_map]
theorem lens_runs {m : Nat} (hm : 0 < m) (L : List (Int × Int)) : lensOf (Mg.runsOf m L) = Mg.lens m L.length := Mg.runs_lens hm L
theorem totL_srt {Ls : List (List (Int × Int))} {L : List (Int × Int)} (h : Mg.srtP Ls.flatten = Mg.srtP L) : totL Ls = L.length := by
  have := congrArg List.length h
  rw [srtP_len, srtP_len] at this
  exact this
theorem Sv.pass {w0 w : World} {P R T c0 c1 c2 c3 : Nat} {pv : Array Value} (h : Sv w0 w P R T pv (costV c0 c1 c2 c3)) : Sv w0 (w.setCell ⟨T, 1, none⟩ (.int .i64 ((c1 : Int) + 1))) P R T pv (costV c0 (c1 + 1) c2 c3) := h.setc 1 _
theorem blkS_tot {b : Nat} (hb : 0 < b) (Ls : List (List (Int × Int))) : blkS b Ls ≤ totL Ls := by
  unfold blkS lensOf totL
  rw [List.length_flatten]
  exact Mg.blks_le hb _
/-- An empty slice is made and assigned beside the last operation. -/
def K9 (S0 S1 : World → Prop) (b : Nat → Bool) (x : Nat → Value) (w : World) : Prop :=
  KS S0 S1 3 b x w ∧ (b 0 = true → ∃ g, x 0 = .slice (some g) 0 0) ∧ (b 2 = true → ∃ g, x 2 = .slice (some g) 0 0)
theorem K9.start {S0 S1 : World → Prop} {n : Nat} {x : Nat → Value} {w : World} (h : S0 w) : K9 S0 S1 (fun k => (Array.replicate n false).getD k false) x w :=
  ⟨KS.start h, fun h1 => absurd ((rep_false n 0).symm.trans h1) (by decide), fun h1 => absurd ((rep_false n 2).symm.trans h1) (by decide)⟩
theorem K9.load {S0 S1 : World → Prop} {b : Nat → Bool} {x : Nat → Value} {w : World} (h : K9 S0 S1 b x w) (v : Value) : K9 S0 S1 (upd b 1 true) (upd x 1 v) w :=
  ⟨h.1.quiet 1 v (by decide), fun h1 => by rw [upd_ne (by decide)] at h1 ⊢; exact h.2.1 h1, fun h1 => by rw [upd_ne (by decide)] at h1 ⊢; exact h.2.2 h1⟩
theorem K9.alloc {S0 S1 : World → Prop} {b : Nat → Bool} {x : Nat → Value} {w w' : World} (h : K9 S0 S1 b x w) (hl : b 3 = false) (hS : S0 w') (g : Addr) : K9 S0 S1 (upd b 0 true) (upd x 0 (.slice (some g) 0 0)) w' :=
  ⟨KS.call (w := w) hl hS 0 _ (by decide), fun _ => ⟨g, upd_same⟩, fun h1 => by rw [upd_ne (by decide)] at h1 ⊢; exact h.2.2 h1⟩
theorem K9.assign {S0 S1 : World → Prop} {b : Nat → Bool} {x : Nat → Value} {w : World} (h : K9 S0 S1 b x w) (h0 : b 0 = true) : K9 S0 S1 (upd b 2 true) (upd x 2 (x 0)) w :=
  ⟨h.1.quiet 2 _ (by decide), fun h1 => by rw [upd_ne (by decide)] at h1 ⊢; exact h.2.1 h1, fun _ => by rw [upd_same]; exact h.2.1 h0⟩
theorem K9.last {S0 S1 : World → Prop} {b : Nat → Bool} {x : Nat → Value} {w w' : World} (h : K9 S0 S1 b x w) (hS : S1 w') : K9 S0 S1 (upd b 3 true) x w' :=
  ⟨KS.last hS, fun h1 => by rw [upd_ne (by decide)] at h1; exact h.2.1 h1, fun h1 => by rw [upd_ne (by decide)] at h1; exact h.2.2 h1⟩
theorem setRow_grown (w : World) (g : Nat) (cs : Array Value) : w.grownBy (w.setRow g cs) (some g) := ⟨rfl, rfl, rfl, by simp, fun q _ hq => setRow_other w g q _ (fun e => hq (by simp [e]))⟩
theorem wp_skip {P : Program} {Q : Exit → Act → World → Prop} {o : Oper} {a : Act} {w w' : World} {K : Act → World → Prop} (he : (execOp a.eval o).run P w = .ok .skip w') (hk : K (a.put o.dst undef) w') : Oper.wp P o a w K Q := by
  unfold Oper.wp; rw [he]; exact hk
theorem cells3 {w : World} {g : Nat} {x0 x1 x2 : Value} {e : TypeId} {f : Nat × Nat} (h : w.heap[g]? = some (.cells #[x0, x1, x2] e f)) :
    w.cell? ⟨g, 0, none⟩ = some x0 ∧ w.cell? ⟨g, 1, none⟩ = some x1 ∧ w.cell? ⟨g, 2, none⟩ = some x2 := ⟨row_cell h 0, row_cell h 1, row_cell h 2⟩

end Go.Proofs.YtbgmbanebmlghaaGreatDoor

namespace Go.Proofs.YtbgmbanebmlghaaGreatDoor
open Go.RowKit Go.Sort
set_option linter.unusedVariables false

/-- Headers of lists in blocks of their own. -/
def OwnHs (w : World) (B : Nat) (hs : List Value) (Ls : List (List (Int × Int))) : Prop :=
  ∀ (j : Nat) (v : Value) (L : List (Int × Int)), hs[j]? = some v → Ls[j]? = some L → ∃ x c, v = .slice x L.length c ∧ w.ownsRow B 87 2 v L.length (flat encR L)
theorem OwnHs.mono {w : World} {B B' : Nat} {hs : List Value} {Ls : List (List (Int × Int))} (h : OwnHs w B hs Ls) (hB : B' ≤ B) : OwnHs w B' hs Ls := fun j v L h1 h2 => by
  obtain ⟨g, c, e, ho⟩ := h j v L h1 h2
  exact ⟨g, c, e, own_mono ho hB⟩
theorem OwnHs.grown {w w' : World} {B : Nat} {row : Option Nat} {hs : List Value} {Ls : List (List (Int × Int))} (h : OwnHs w B hs Ls) (hg : w.grownBy w' row) (hne : ∀ (j b off m c : Nat), hs[j]? = some (.slice (some ⟨b, off, none⟩) m c) → row ≠ some b) : OwnHs w' B hs Ls := fun j v L h1 h2 => by
  obtain ⟨g, c, e, ho⟩ := h j v L h1 h2
  subst e
  refine ⟨g, c, rfl, own_other ho hg (fun k hk e => ?_)⟩
  cases g with
  | none => cases hk
  | some p =>
    obtain ⟨b, o, q⟩ := p
    injection hk with hk
    subst hk
    have h3 : q = none := by
      rcases ho.2 with ⟨h4, _⟩ | ⟨g2, cap, cur, hv, _⟩
      · cases h4
      · injection hv with hv _; injection hv with hv; injection hv
    subst h3
    exact hne j b o _ _ h1 e
theorem OwnHs.same {w w' : World} {B : Nat} {hs : List Value} {Ls : List (List (Int × Int))} (h : OwnHs w B hs Ls) (hb : Below w.heap.size w w') : OwnHs w' B hs Ls := fun j v L h1 h2 => by
  obtain ⟨g, c, e, ho⟩ := h j v L h1 h2
  exact ⟨g, c, e, own_below ho (Nat.le_refl _) hb⟩
theorem OwnHs.snoc {w : World} {B m c : Nat} {x : Option Addr} {hs : List Value} {Ls : List (List (Int × Int))} {L : List (Int × Int)} (h : OwnHs w B hs Ls) (hl : hs.length = Ls.length) (ho : w.ownsRow B 87 2 (.slice x m c) m (flat encR L)) : OwnHs w B (hs ++ [.slice x m c]) (Ls ++ [L]) := by
  intro j u M h1 h2
  rcases Nat.lt_or_ge j hs.length with hj | hj
  · rw [List.getElem?_append_left hj] at h1
    rw [List.getElem?_append_left (by rw [← hl]; exact hj)] at h2
    exact h j u M h1 h2
  · rw [List.getElem?_append_right hj] at h1
    rw [List.getElem?_append_right (by rw [← hl]; exact hj)] at h2
    obtain ⟨i, hi⟩ : ∃ i, j - hs.length = i := ⟨_, rfl⟩
    rw [← hl] at h2
    rw [hi] at h1 h2
    cases i with
    | zero =>
      simp at h1 h2; subst h1 h2
      have hm : L.length = m := (rd_own ho).len
      subst hm
      exact ⟨x, c, rfl, ho⟩
    | succ i => simp at h1
/-- A row of headers and its lists, all the caller's own. -/
structure LoO (w : World) (B : Nat) (o : Value) (n : Nat) (hs : List Value) (Ls : List (List (Int × Int))) : Prop where
  lo : LoH w B o n hs Ls
  oh : OwnHs w B hs Ls
theorem loO_nil (w : World) : LoO (w.alloc (.cells #[] 26)) w.heap.size (.slice (some ⟨w.heap.size, 0, none⟩) 0 0) 0 [] [] := ⟨loH_nil w, fun j v L h _ => by simp at h⟩
theorem LoO.own {w : World} {B n : Nat} {o : Value} {hs : List Value} {Ls : List (List (Int × Int))} (h : LoO w B o n hs Ls) : w.ownsRow B 26 1 o n hs := h.lo.own
theorem LoO.len {w : World} {B n : Nat} {o : Value} {hs : List Value} {Ls : List (List (Int × Int))} (h : LoO w B o n hs Ls) : Ls.length = n := h.lo.len
theorem LoO.ls {w : World} {B n c : Nat} {a : Option Addr} {hs : List Value} {Ls : List (List (Int × Int))} (h : LoO w B (.slice a n c) n hs Ls) : LsAt w a n c Ls := h.lo.ls
theorem LoO.same {w w' : World} {B n : Nat} {o : Value} {hs : List Value} {Ls : List (List (Int × Int))} (h : LoO w B o n hs Ls) (hb : Below w.heap.size w w') : LoO w' B o n hs Ls := ⟨h.lo.same hb, h.oh.same hb⟩
theorem LoO.grow {w w' : World} {B n : Nat} {o : Value} {hs : List Value} {Ls : List (List (Int × Int))} {row : Option Nat} (h : LoO w B o n hs Ls) (hg : w.grownBy w' row) (hr : ∀ b, row = some b → b < B) : LoO w' B o n hs Ls :=
  ⟨h.lo.grow hg hr, h.oh.grown hg (fun j b off m c e e2 => by have := (h.lo.far j b off m c e).1; have := hr _ e2; omega)⟩
theorem LoO.grow2 {w w' : World} {B n S : Nat} {o : Value} {hs : List Value} {Ls : List (List (Int × Int))} {row : Option Nat} (h : LoO w B o n hs Ls) (hg : w.grownBy w' row) (hr : ∀ b, row = some b → S ≤ b) (ho : ∀ b, o.ownBlock = some b → row ≠ some b) (hf : ∀ (j b off m c : Nat), hs[j]? = some (.slice (some ⟨b, off, none⟩) m c) → b < S) : LoO w' B o n hs Ls :=
  ⟨h.lo.grow2 hg hr ho hf, h.oh.grown hg (fun j b off m c e e2 => by have := hf j b off m c e; have := hr _ e2; omega)⟩
theorem own_base {w : World} {B B2 m c : Nat} {e : TypeId} {x : Option Addr} {L : List Value} (h : w.ownsRow B2 e 2 (.slice x m c) m L) (hx : ∀ b off, x = some ⟨b, off, none⟩ → B ≤ b) : w.ownsRow B e 2 (.slice x m c) m L :=
  ⟨h.1, h.2.imp id fun ⟨q, cap, cur, hv, _, r⟩ => ⟨q, cap, cur, hv, by injection hv with hv _; exact hx q 0 hv, r⟩⟩
theorem own_addrB {w : World} {B n c : Nat} {e : TypeId} {x : Option Addr} {L : List Value} (h : w.ownsRow B e 2 (.slice x n c) n L) {k : Nat} (hk : (Value.slice x n c).ownBlock = some k) : x = some ⟨k, 0, none⟩ := by
  rcases h.2 with ⟨h4, _⟩ | ⟨g2, cap, cur, hv, _⟩
  · injection h4 with h4 _; subst h4; cases hk
  · injection hv with hv _; subst hv; injection hk with hk; subst hk; rfl
theorem LoO.app {w w' : World} {B n m c B2 : Nat} {x : Option Addr} {o o' : Value} {hs : List Value} {Ls : List (List (Int × Int))} {L : List (Int × Int)} (h : LoO w B o n hs Ls) (he : w.ownsRow B2 87 2 (.slice x m c) m (flat encR L)) (hx : ∀ b off, x = some ⟨b, off, none⟩ → B ≤ b ∧ o.ownBlock ≠ some b ∧ b < w.heap.size)
    (hown : w'.ownsRow B 26 1 o' (n + 1) (hs ++ [.slice x m c])) (hg : w.grownBy w' o.ownBlock) (ht : ∀ b, o'.ownBlock = some b → o.ownBlock = some b ∨ w.heap.size ≤ b) : LoO w' B o' (n + 1) (hs ++ [.slice x m c]) (Ls ++ [L]) := by
  have he2 : w.ownsRow B 87 2 (.slice x m c) m (flat encR L) := own_base he (fun b off e => (hx b off e).1)
  exact ⟨h.lo.app (rd_own he) hx hown hg ht, (h.oh.grown hg (fun j b off m c e => (h.lo.far j b off m c e).2.1)).snoc h.lo.hds.1 (own_other he2 hg (fun k hk e => (hx k 0 (own_addrB he2 hk)).2.1 e))⟩

/-- Lists that lie apart from two blocks, each the caller's own. -/
structure LsO (w : World) (a : Option Addr) (n c : Nat) (Ls : List (List (Int × Int))) (T R : Nat) : Prop where
  hd : ∃ hs : List Value, ∀ W, Rch T R w W → ValsAt W a hs ∧ Hds W hs Ls ∧ OwnHs W (R + 1) hs Ls
  len : Ls.length = n
  nil : NilOk a c
  cap : n ≤ c
theorem LsO.ls {w : World} {a : Option Addr} {n c T R : Nat} {Ls : List (List (Int × Int))} (h : LsO w a n c Ls T R) : LsAt w a n c Ls := by
  obtain ⟨hs, hh⟩ := h.hd
  exact ⟨⟨hs, (hh w (.refl w)).1, (hh w (.refl w)).2.1⟩, h.len, h.nil, h.cap⟩
theorem LsO.step {w w' : World} {a : Option Addr} {n c T R k : Nat} {Ls : List (List (Int × Int))} (h : LsO w a n c Ls T R) (hg : w.grownBy w' (some k)) (hk : k = T ∨ k = R) : LsO w' a n c Ls T R := by
  obtain ⟨hs, hh⟩ := h.hd
  exact ⟨⟨hs, fun W hW => hh W (.step hg hk hW)⟩, h.len, h.nil, h.cap⟩
theorem LsO.next {w w' : World} {a : Option Addr} {n c T R : Nat} {Ls : List (List (Int × Int))} (h : LsO w a n c Ls T R) (hg : w.grownBy w' (some T)) : LsO w' a n c Ls T R := h.step hg (.inl rfl)
theorem LsO.same {w w' : World} {a : Option Addr} {n c T R : Nat} {Ls : List (List (Int × Int))} (h : LsO w a n c Ls T R) (hb : Below w.heap.size w w') : LsO w' a n c Ls T R := h.next (grown_of_below hb)
theorem LsO.one {w : World} {a : Option Addr} {c T R : Nat} {Ls : List (List (Int × Int))} (h : LsO w a 1 c Ls T R) :
    ∃ (b off : Nat) (x : Option Addr) (d : Nat), a = some ⟨b, off, none⟩ ∧ ∀ W, Rch T R w W → W.cell? ⟨b, off, none⟩ = some (.slice x (Ls.getD 0 []).length d) ∧ W.ownsRow (R + 1) 87 2 (.slice x (Ls.getD 0 []).length d) (Ls.getD 0 []).length (flat encR (Ls.getD 0 [])) := by
  obtain ⟨hs, hh⟩ := h.hd
  obtain ⟨h1, h2, h5⟩ := hh w (.refl w)
  have hl := h.len
  have hkl : 0 < hs.length := by rw [h2.1]; omega
  have hkL : 0 < Ls.length := by omega
  obtain ⟨b, off, e, _⟩ := h1.at (List.getElem?_eq_getElem hkl)
  obtain ⟨g, d, e2, _⟩ := h5 0 _ _ (List.getElem?_eq_getElem hkl) (List.getElem?_eq_getElem hkL)
  have eg : Ls.getD 0 [] = Ls[0] := by rw [List.getD_eq_getElem?_getD, List.getElem?_eq_getElem hkL]; rfl
  rw [eg]
  refine ⟨b, off, g, d, e, fun W hW => ?_⟩
  obtain ⟨h3, _, h6⟩ := hh W hW
  obtain ⟨b', off', e', hc⟩ := h3.at (List.getElem?_eq_getElem hkl)
  obtain ⟨g', d', e2', ho⟩ := h6 0 _ _ (List.getElem?_eq_getElem hkl) (List.getElem?_eq_getElem hkL)
  rw [e] at e'
  injection e' with e'
  injection e' with e1 e3
  subst e1 e3
  rw [e2] at hc ho
  exact ⟨hc, ho⟩
theorem LoO.apart_go {T R B S n c : Nat} {a : Option Addr} {hs : List Value} {Ls : List (List (Int × Int))} {w W : World} (hW : Rch T R w W) (hT : T < B ∨ S ≤ T) (hR : R < B ∨ S ≤ R) :
    LoO w B (.slice a n c) n hs Ls → (∀ b, (Value.slice a n c).ownBlock = some b → b < S) → (∀ (j b off m c : Nat), hs[j]? = some (.slice (some ⟨b, off, none⟩) m c) → b < S) → ValsAt W a hs ∧ Hds W hs Ls ∧ OwnHs W B hs Ls := by
  induction hW with
  | refl w => exact fun h _ _ => ⟨vals_own h.own, h.lo.hds, h.oh⟩
  | @step u u1 u2 k hg hk _ ih =>
    intro h ho hf
    have hk2 : k < B ∨ S ≤ k := by rcases hk with rfl | rfl <;> assumption
    refine ih ?_ ho hf
    rcases hk2 with h1 | h1
    · exact h.grow hg (fun b e => by injection e with e; omega)
    · exact h.grow2 (S := S) hg (fun b e => by injection e with e; omega) (fun b e e2 => by have := ho b e; injection e2 with e2; omega) hf
theorem LoO.apart {w : World} {B n c T R : Nat} {a : Option Addr} {hs : List Value} {Ls : List (List (Int × Int))} (h : LoO w B (.slice a n c) n hs Ls) (hT : T < B ∨ w.heap.size ≤ T) (hR : R < B) : LsO w a n c Ls T R := by
  refine ⟨⟨hs, fun W hW => ?_⟩, h.len, nilOk_own h.own, own_cap h.own⟩
  obtain ⟨h1, h2, h3⟩ := LoO.apart_go hW hT (.inl hR) h (fun b e => (h.own.lt b e).2) (fun j b off m c e => (h.lo.far j b off m c e).2.2)
  exact ⟨h1, h2, h3.mono hR⟩

/-- Lists of lists, given back; the same with a number; a sort by a plan. -/
def LsEndO (w : World) (Ls : List (List (Int × Int))) (e : Ending) (w' : World) : Prop :=
  ∃ (a : Option Addr) (n c : Nat) (hs : List Value), e = .returned (.slice a n c) ∧ LoO w' w.heap.size (.slice a n c) n hs Ls ∧ Below w.heap.size w w'
def LsEndO2 (w : World) (Ls : List (List (Int × Int))) (q : Nat) (e : Ending) (w' : World) : Prop :=
  ∃ (a : Option Addr) (n c : Nat) (hs : List Value), e = .returned (.tuple #[.slice a n c, .int .i64 q]) ∧ LoO w' w.heap.size (.slice a n c) n hs Ls ∧ Below w.heap.size w w'
/-- A list that the caller may write into: its own, or empty. -/
def OwnE (w : World) (B : Nat) (a : Option Addr) (n c : Nat) (L : List (Int × Int)) : Prop := (n = 0 ∧ L = []) ∨ w.ownsRow B 87 2 (.slice a n c) n (flat encR L)
def SoEndO (w : World) (pm pw pb : Nat) (L : List (Int × Int)) (n : Nat) (e : Ending) (w' : World) : Prop :=
  ∃ (a : Option Addr) (c : Nat) (C : Nat × Nat × Nat × Nat), e = .returned (.tuple #[.slice a n c, .agg (costV C.1 C.2.1 C.2.2.1 C.2.2.2)]) ∧ C = Mg.costOf n pm pw pb ∧ Rd w' a n c (Mg.srtP L) ∧ OwnE w' w.heap.size a n c (Mg.srtP L) ∧ Below w.heap.size w w'

set_option maxRecDepth 100000 in
set_option maxHeartbeats 1000000 in
theorem makeRunsO_any (a : Option Addr) (n c m : Nat) (L : List (Int × Int)) (w : World) (hn : n ≤ 1000) (hm0 : 0 < m) (hm : m ≤ 1000) (h : Rd w a n c L) :
    Calls Tryz.prog 274 #[.slice a n c, .int .i64 m] w (LsEndO w (Mg.runsOf m L)) := by
  have H := Lib.hid h
  have HL0 := Lib.hid (loO_nil w)
  have HB0 := Lib.hid (belowNew w (.cells #[] 26))
  have hlen := h.len
  have hcap := h.cap
  clear h
  unfold LsEndO
  go_enter Tryz.func274, Tryz.ntmps274
  go_wp2
  go_loopw [5, 6] (fun o iv wr => ∃ (i k : Nat) (hs : List Value) (D : List (List (Int × Int))), iv = .int .i64 i ∧ i ≤ n + m ∧ k ≤ i ∧ LoO wr w.heap.size o k hs D ∧ Hid (D ++ Mg.runsOf m (L.drop i) = Mg.runsOf m L) ∧ Below w.heap.size w wr) (fun _ iv _ => n - (intOf iv).toNat)
  case atStart => exact ⟨0, 0, [], [], rfl, by omega, by omega, HL0.out, Lib.hid rfl, HB0.out⟩
  case round =>
    obtain ⟨i, k, hs, D, rfl, hi, hk, hlo, HDD, hb⟩ := hrel
    have HL1 := Lib.hid hlo; have HB1 := Lib.hid hb
    obtain ⟨oa, oc, rfl⟩ := own_slice hlo.own
    clear hlo hb HL0 HB0
    by_cases hlt : i < n
    · have q1 : decide ((i : Int) < (n : Int)) = true := decide_eq_true (by omega)
      obtain ⟨b, off, rfl, _⟩ := recs_addr H.out.recs (by omega)
      obtain ⟨hh, hhd⟩ : ∃ hh, hh = min (i + m) n := ⟨_, rfl⟩
      have hh1 : i < hh ∧ hh ≤ n ∧ hh ≤ i + m := by omega
      have hmin : min ((i : Int) + (m : Int)) (n : Int) = (hh : Int) := by omega
      have hpart : (L.drop i).take (hh - i) = (L.drop i).take m := by
        rcases Nat.lt_or_ge (i + m) n with h | h
        · congr 1; omega
        · rw [List.take_of_length_le (by rw [List.length_drop]; omega), List.take_of_length_le (by rw [List.length_drop]; omega)]
      clear hhd
      have hci : ¬ c = i := by omega
      have b1 : (0 : Int) ≤ (i : Int) := by omega
      have b2 : (i : Int) ≤ (hh : Int) := by omega
      have b3 : (hh : Int) ≤ (c : Int) := by omega
      have t1 : ((i : Int)).toNat = i := by omega
      have t2 : ((hh : Int)).toNat = hh := by omega
      have HR := Lib.hid (rd_mid (H.out.same HB1.out) (i := i) (h := hh) (by omega) hh1.2.1)
      have HST := Lib.hid (stable_any (some ⟨b, off + i * 2, none⟩) (c - i) ((L.drop i).take (hh - i)) wr (by rw [HR.out.len]; omega) HR.out.recs HR.out.nil)
      rw [HR.out.len, hpart] at HST
      have HNX : Hid (Mg.runsOf m (L.drop i) = Mg.srtP ((L.drop i).take m) :: Mg.runsOf m (L.drop (i + m))) := by
        show _ = _
        rw [runsOf_step hm0 (by intro e; have := congrArg List.length e; rw [List.length_drop] at this; simp at this; omega), List.drop_drop]
      have hobs : ∀ b, (Value.slice oa k oc).ownBlock = some b → b < wr.heap.size := fun b e => (HL1.out.own.lt b e).2
      have hBw := HB1.out.size
      have hk1 : k + 1 ≤ 1099511627776 := by omega
      clear HR hpart
      go_wp2_with fail
      refine HST.out.mono ?_
      rintro e w2 ⟨g, c2, rfl, ho, hb⟩
      have HE : Hid (w2.ownsRow wr.heap.size 87 2 (.slice (some ⟨g, 0, none⟩) (hh - i) c2) (hh - i) (flat encR (Mg.srtP ((L.drop i).take m)))) := ho
      have hg2 : wr.heap.size ≤ g ∧ g < w2.heap.size := ho.lt g rfl
      have HL2 := Lib.hid (HL1.out.same hb)
      have HB2 := Lib.hid (below_tr HB1.out hb HB1.out.size)
      clear ho hb HST HL1 HB1
      go_wp2_with (at_builtin; refine wpList_app1 (v := .slice oa k oc) slLs rfl _ _ rfl rfl HL2.out.own [.slice (some ⟨g, 0, none⟩) (hh - i) c2] rfl rfl (by simp) (by simp [Value.oneCell']) hk1 (by omega) ?_; intro v' w7 hown' hg' ht'; generalize hGG : wpList _ _ _ _ _ _ = GG)
      have HL8 := Lib.hid (HL2.out.app HE.out (fun b off e => by injection e with e; injection e with e1 e2; exact ⟨by omega, fun e3 => by have := hobs b e3; omega, by omega⟩) hown' hg' (fun b e => ht'.elim (fun h => .inl (h ▸ e)) (fun h => .inr (by rw [h] at e; injection e with e; omega))))
      have HB8 := Lib.hid (HB2.out.grown hg' HB2.out.size (fun b e => (HL2.out.own.lt b e).1))
      clear hown' hg' ht' HL2 HB2 HE
      subst hGG
      go_wp2
      go_roundw
      case rel => exact ⟨i + m, k + 1, _, _, by go_num, by omega, by omega, HL8.out, Lib.hid (by rw [List.append_assoc, ← HDD.out, HNX.out]; rfl), HB8.out⟩
      case measure => simp [intOf] <;> omega
    · have q1 : decide ((i : Int) < (n : Int)) = false := decide_eq_false (by omega)
      have HD2 : Hid (D = Mg.runsOf m L) := by
        show _ = _
        rw [← HDD.out, List.drop_of_length_le (by omega), runsOf_nil, List.append_nil]
      have HLS := HL1
      rw [HD2.out] at HLS
      go_wp2
      go_ret
      exact ⟨_, _, _, _, rfl, HLS.out, HB1.out⟩

set_option maxRecDepth 100000 in
set_option maxHeartbeats 2000000 in
theorem mergePassO_any (a : Option Addr) (n c m : Nat) (rs : List (List (Int × Int))) (w : World) (hn : n ≤ 1000) (hm0 : 0 < m) (hm : m ≤ 16) (h : LsAt w a n c rs) (hN : rs.flatten.length ≤ 1000) (ha : ∀ r ∈ rs, Mg.Asc Mg.ltF r) :
    Calls Tryz.prog 277 #[.slice a n c, .int .i64 m] w (LsEndO2 w (Mg.passOf m rs) (Mg.passC m rs)) := by
  have H := Lib.hid h; have HA := Lib.hid ha
  have HNN := Lib.hid hN
  have HL0 := Lib.hid (loO_nil w)
  have HB0 := Lib.hid (belowNew w (.cells #[] 26))
  have hlen := h.len
  have hcap := h.cap
  have hpc : Mg.passC m rs ≤ 5000 := by have := Mg.passC_le hm0 hm rs; omega
  obtain ⟨PC, hPC⟩ : ∃ q, Mg.passC m rs = q := ⟨_, rfl⟩
  rw [hPC] at hpc
  have HPC := Lib.hid hPC
  rw [hPC]
  clear h ha hPC hN
  unfold LsEndO2
  go_enter Tryz.func277, Tryz.ntmps277
  go_wp2
  go_loopw [6, 7, 8] (fun o qv iv wr => ∃ (i k q : Nat) (hs : List Value) (D : List (List (Int × Int))), iv = .int .i64 i ∧ qv = .int .i64 q ∧ i ≤ n + m ∧ k ≤ i ∧ LoO wr w.heap.size o k hs D ∧ Hid (D ++ Mg.passOf m (rs.drop i) = Mg.passOf m rs) ∧ Hid (q + Mg.passC m (rs.drop i) = PC) ∧ Below w.heap.size w wr) (fun _ _ iv _ => n - (intOf iv).toNat)
  case atStart => exact ⟨0, 0, 0, [], [], rfl, rfl, by omega, by omega, HL0.out, Lib.hid rfl, Lib.hid (by rw [List.drop_zero, HPC.out]; omega), HB0.out⟩
  case round =>
    obtain ⟨i, k, q, hs, D, rfl, rfl, hi, hk, hlo, HDD, HQ, hb⟩ := hrel
    have HL1 := Lib.hid hlo; have HB1 := Lib.hid hb
    obtain ⟨oa, oc, rfl⟩ := own_slice hlo.own
    clear hlo hb HL0 HB0
    by_cases hlt : i < n
    · have q1 : decide ((i : Int) < (n : Int)) = true := decide_eq_true (by omega)
      obtain ⟨b, off, rfl⟩ := lsAt_addr H.out (by omega)
      obtain ⟨hh, hhd⟩ : ∃ hh, hh = min (i + m) n := ⟨_, rfl⟩
      have hh1 : i < hh ∧ hh ≤ n ∧ hh ≤ i + m := by omega
      have hmin : min ((i : Int) + (m : Int)) (n : Int) = (hh : Int) := by omega
      have hpart : (rs.drop i).take (hh - i) = (rs.drop i).take m := by
        rcases Nat.lt_or_ge (i + m) n with h | h
        · congr 1; omega
        · rw [List.take_of_length_le (by rw [List.length_drop]; omega), List.take_of_length_le (by rw [List.length_drop]; omega)]
      clear hhd
      have hci : ¬ c = i := by omega
      have b1 : (0 : Int) ≤ (i : Int) := by omega
      have b2 : (i : Int) ≤ (hh : Int) := by omega
      have b3 : (hh : Int) ≤ (c : Int) := by omega
      have t1 : ((i : Int)).toNat = i := by omega
      have t2 : ((hh : Int)).toNat = hh := by omega
      have HG := Lib.hid ((H.out.same HB1.out).part i (hh - i) (by omega))
      rw [hpart] at HG
      have hgl : ((rs.drop i).take m).length = hh - i := HG.out.len
      have hga : ∀ r ∈ (rs.drop i).take m, Mg.Asc Mg.ltF r := fun r hr => HA.out r (List.mem_of_mem_drop (List.mem_of_mem_take hr))
      have hgN : ((rs.drop i).take m).flatten.length ≤ 1000 := Nat.le_trans flat_part_le HNN.out
      have hne : rs.drop i ≠ [] := by intro e; have := congrArg List.length e; rw [List.length_drop] at this; simp at this; omega
      have HNX : Hid (Mg.passOf m (rs.drop i) = Mg.srtP ((rs.drop i).take m).flatten :: Mg.passOf m (rs.drop (i + m))) := by
        show _ = _
        rw [passOf_step hm0 hne, List.drop_drop]
      have HQX : Hid (Mg.passC m (rs.drop i) = Mg.kcs ((rs.drop i).take m) + Mg.passC m (rs.drop (i + m))) := by
        show _ = _
        rw [passC_step hm0 hne, List.drop_drop]
      have hobs : ∀ b, (Value.slice oa k oc).ownBlock = some b → b < wr.heap.size := fun b e => (HL1.out.own.lt b e).2
      have hBw := HB1.out.size
      have hk1 : k + 1 ≤ 1099511627776 := by omega
      have hqq : q + Mg.kcs ((rs.drop i).take m) ≤ 5000 := by have h1 := HQ.out; rw [HQX.out] at h1; omega
      have HKW := Lib.hid (kWay_any b (off + i) (hh - i) (c - i) ((rs.drop i).take m) wr (by omega) (by omega) HG.out hgN hga)
      unfold KwEnd at HKW
      have hfl := srtP_len ((rs.drop i).take m).flatten
      generalize hNg : ((rs.drop i).take m).flatten.length = Ng at HKW hfl
      generalize hKg : Mg.kcs ((rs.drop i).take m) = Kg at HKW hqq HQX
      clear hne hga hgN hgl HG hNg hKg
      go_wp2_with fail
      refine HKW.out.mono ?_
      rintro e w2 ⟨g, c2, rfl, ho, hb⟩
      have HE : Hid (w2.ownsRow wr.heap.size 87 2 (.slice (some ⟨g, 0, none⟩) Ng c2) Ng (flat encR (Mg.srtP ((rs.drop i).take m).flatten))) := ho
      have hg2 : wr.heap.size ≤ g ∧ g < w2.heap.size := ho.lt g rfl
      have HL2 := Lib.hid (HL1.out.same hb)
      have HB2 := Lib.hid (below_tr HB1.out hb HB1.out.size)
      clear ho hb HKW HL1 HB1
      go_wp2_with (at_builtin; refine wpList_app1 (v := .slice oa k oc) slLs rfl _ _ rfl rfl HL2.out.own [.slice (some ⟨g, 0, none⟩) Ng c2] rfl rfl (by simp) (by simp [Value.oneCell']) hk1 (by omega) ?_; intro v' w7 hown' hg' ht'; generalize hGG : wpList _ _ _ _ _ _ = GG)
      have HL8 := Lib.hid (HL2.out.app HE.out (fun b off e => by injection e with e; injection e with e1 e2; exact ⟨by omega, fun e3 => by have := hobs b e3; omega, by omega⟩) hown' hg' (fun b e => ht'.elim (fun h => .inl (h ▸ e)) (fun h => .inr (by rw [h] at e; injection e with e; omega))))
      have HB8 := Lib.hid (HB2.out.grown hg' HB2.out.size (fun b e => (HL2.out.own.lt b e).1))
      clear hown' hg' ht' HL2 HB2 HE
      subst hGG
      go_wp2
      go_roundw
      case rel => exact ⟨i + m, k + 1, q + Kg, _, _, by go_num, by go_num, by omega, by omega, HL8.out, Lib.hid (by rw [List.append_assoc, ← HDD.out, HNX.out]; rfl), Lib.hid (by have := HQ.out; rw [HQX.out] at this; omega), HB8.out⟩
      case measure => simp [intOf] <;> omega
    · have q1 : decide ((i : Int) < (n : Int)) = false := decide_eq_false (by omega)
      have HD2 : Hid (D = Mg.passOf m rs) := by
        show _ = _
        rw [← HDD.out, List.drop_of_length_le (by omega), passOf_nil, List.append_nil]
      have hqp : PC = q := by
        have := HQ.out
        rw [List.drop_of_length_le (by omega), passC_nil] at this; omega
      have HLS := HL1
      rw [HD2.out] at HLS
      subst hqp
      go_wp2
      go_ret2
      exact ⟨_, _, _, _, rfl, HLS.out, HB1.out⟩

end Go.Proofs.YtbgmbanebmlghaaGreatDoor

