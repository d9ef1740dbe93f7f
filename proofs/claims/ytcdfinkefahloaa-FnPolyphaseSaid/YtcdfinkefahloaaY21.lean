/- Several texts in one: lemmas and walks of the functions that the law reaches. -/
import Derived.Test.YtcdfinkefahloaaY4
import Derived.Test.YtcdfinkefahloaaY18
import Derived.OneCell

namespace Go.Proofs.Ytcdfinkefahloaa
open Go.RowKit Go.Sort
set_option linter.unusedVariables false
theorem Items.same {w0 w : World} {al al' : Nat → Bool} {bl : Nat → Nat} {ob : Nat → Obj} (h : Items w0 w al bl ob) (hal : ∀ j, al' j = al j) : Items w0 w al' bl ob := by
  rw [show al' = al from funext hal]; exact h

theorem own_made {w : World} {B g k : Nat} {z : Value} {e : TypeId} (h : w.heap[g]? = some (.cells (madeCells (Value.cells z) (k * 1)) e (0, 0))) (hB : B ≤ g) (hk : k ≤ 1000) (hz : Value.cells z = #[z]) : w.ownsRow B e 1 (.slice (some ⟨g, 0, none⟩) k k) k (List.replicate k z) := by
  rw [hz, Nat.mul_one] at h
  have e1 : (madeCells #[z] k).toList = List.replicate k z := toList_madeCells_one z k
  have e2 : (madeCells #[z] k).size = k := by rw [← Array.length_toList, e1, List.length_replicate]
  refine ⟨by rw [List.length_replicate, Nat.mul_one], .inr ⟨g, k, _, rfl, hB, h, Nat.le_refl _, by unfold maxLen; omega, by rw [e2, Nat.mul_one], ?_⟩⟩
  rw [e1, Nat.mul_one, List.take_of_length_le (by rw [List.length_replicate]; exact Nat.le_refl _)]

/-- The tree while its matches are played: its block, the copies, the losers, the winners. -/
structure Mk (wR wq : World) (t gk gd gl gw k c0 c2 : Nat) (wv : Value) (ks : List Int) (ds : List Bool) (ls ws : List Int) : Prop where
  pl : Pl wR wq t (.slice (some ⟨gk, 0, none⟩) k c0) (.slice (some ⟨gd, 0, none⟩) k c2) (.slice (some ⟨gl, 0, none⟩) k k) wv
  ok : wq.ownsRow wR.heap.size 3 1 (.slice (some ⟨gk, 0, none⟩) k c0) k (ints ks)
  od : wq.ownsRow wR.heap.size 4 1 (.slice (some ⟨gd, 0, none⟩) k c2) k (bools ds)
  ol : wq.ownsRow wR.heap.size 3 1 (.slice (some ⟨gl, 0, none⟩) k k) k (ints ls)
  ow : wq.ownsRow wR.heap.size 3 1 (.slice (some ⟨gw, 0, none⟩) (2 * k) (2 * k)) (2 * k) (ints ws)
  ne : gk ≠ gl ∧ gk ≠ gw ∧ gd ≠ gl ∧ gd ≠ gw ∧ gl ≠ gw ∧ t ≠ gl ∧ t ≠ gw ∧ t ≠ gk ∧ t ≠ gd
section
variable {wR wq wz : World} {t gk gd gl gw k c0 c2 : Nat} {wv : Value} {ks : List Int} {ds : List Bool} {ls ws : List Int}
theorem Mk.same (h : Mk wR wq t gk gd gl gw k c0 c2 wv ks ds ls ws) (hb : Below wq.heap.size wq wz) : Mk wR wz t gk gd gl gw k c0 c2 wv ks ds ls ws :=
  ⟨h.pl.below hb, own_below h.ok (Nat.le_refl _) hb, own_below h.od (Nat.le_refl _) hb, own_below h.ol (Nat.le_refl _) hb, own_below h.ow (Nat.le_refl _) hb, h.ne⟩
theorem own_far {w w' : World} {B g b n c : Nat} {e : TypeId} {vs : List Value} (h : w.ownsRow B e 1 (.slice (some ⟨g, 0, none⟩) n c) n vs) (hg : w.grownBy w' (some b)) (hne : g ≠ b) : w'.ownsRow B e 1 (.slice (some ⟨g, 0, none⟩) n c) n vs :=
  own_other h hg (fun q hq e => by simp [Value.ownBlock] at hq; injection e with e; omega)
theorem Mk.wins (h : Mk wR wq t gk gd gl gw k c0 c2 wv ks ds ls ws) (v : Value) : Mk wR (wq.setCell ⟨t, 3, none⟩ v) t gk gd gl gw k c0 c2 v ks ds ls ws := by
  have hs := h.pl.row.stored 3 v
  obtain ⟨n1, n2, n3, n4, n5, n6, n7, n8, n9⟩ := h.ne
  exact ⟨h.pl.wins v, own_far h.ok hs.2 (Ne.symm n8), own_far h.od hs.2 (Ne.symm n9), own_far h.ol hs.2 (Ne.symm n6), own_far h.ow hs.2 (Ne.symm n7), h.ne⟩
end
end Go.Proofs.Ytcdfinkefahloaa

namespace Go.Proofs.Ytcdfinkefahloaa
open Go.RowKit Go.Sort
set_option linter.unusedVariables false

def kwA (p0 p1 : Value) (k : Nat) (x : Nat → Value) : Act := { tmps := #[p0, p1, .slice none 0 0, .int .i64 0, .int .i64 k, x 3, x 4, x 5, undef, undef, undef, undef, undef, p0, .int .i64 k, .int .i64 k, x 0, .int .i64 k, x 1, .int .i64 k, x 2, undef, undef, undef, undef, undef, undef, undef, undef, undef, undef, undef, undef, undef, undef, undef, undef, undef, undef, undef, undef, undef, undef, undef, undef, undef, undef, undef, undef, undef, undef, undef, undef, undef, undef, undef, undef, undef, undef, undef, undef, undef, undef, undef, undef, undef, undef, undef, undef, undef, undef], defers := [] }
def kwAl (b : Nat → Bool) : Nat → Bool
  | 0 => b 1 | 1 => b 3 | 2 => b 5 | 3 => b 6 | 4 => b 7 | 5 => b 8 | _ => false
structure KX (wR : World) (k : Nat) (b : Nat → Bool) (x : Nat → Value) (bl : Nat → Nat) (ob : Nat → Obj) (w : World) : Prop where
  l0 : b 0 = true
  l2 : b 2 = true
  l4 : b 4 = true
  it : Items wR w (kwAl b) bl ob
  m0 : b 1 = true → x 0 = .slice (some ⟨bl 0, 0, none⟩) k k ∧ ob 0 = .cells (madeCells (Value.cells (.int .i64 0)) (k * 1)) 3 (0, 0)
  m1 : b 3 = true → x 1 = .slice (some ⟨bl 1, 0, none⟩) k k ∧ ob 1 = .cells (madeCells (Value.cells (.bool false)) (k * 1)) 4 (0, 0)
  m2 : b 5 = true → x 2 = .slice (some ⟨bl 2, 0, none⟩) k k ∧ ob 2 = .cells (madeCells (Value.cells (.int .i64 0)) (k * 1)) 3 (0, 0)
  a0 : b 6 = true → x 3 = .pointer (some ⟨bl 3, 0, none⟩) ∧ (b 9 = false → ob 3 = .cells #[.slice none 0 0] 49 (0, 0)) ∧ (b 9 = true → ob 3 = .cells #[x 0] 49 (0, 0))
  a1 : b 7 = true → x 4 = .pointer (some ⟨bl 4, 0, none⟩) ∧ (b 10 = false → ob 4 = .cells #[.slice none 0 0] 71 (0, 0)) ∧ (b 10 = true → ob 4 = .cells #[x 1] 71 (0, 0))
  a2 : b 8 = true → x 5 = .pointer (some ⟨bl 5, 0, none⟩) ∧ (b 11 = false → ob 5 = .cells #[.slice none 0 0] 49 (0, 0)) ∧ (b 11 = true → ob 5 = .cells #[x 2] 49 (0, 0))
  s0 : b 9 = true → b 1 = true ∧ b 6 = true
  s1 : b 10 = true → b 3 = true ∧ b 7 = true
  s2 : b 11 = true → b 5 = true ∧ b 8 = true
def KJ (wR : World) (p0 p1 : Value) (k : Nat) (L : Array Bool) (a : Act) (w : World) : Prop := ∃ x bl ob, a = kwA p0 p1 k x ∧ KX wR k (fun j => L.getD j false) x bl ob w
theorem kj_set {wR : World} {p0 p1 : Value} {k i : Nat} {L : Array Bool} {a : Act} {w : World} {x : Nat → Value} {bl : Nat → Nat} {ob : Nat → Obj} (hi : i < L.size) (ha : a = kwA p0 p1 k x) (h : KX wR k (upd (fun j => L.getD j false) i true) x bl ob w) : KJ wR p0 p1 k (L.setIfInBounds i true) a w := by
  refine ⟨x, bl, ob, ha, ?_⟩
  have e : (fun j => (L.setIfInBounds i true).getD j false) = upd (fun j => L.getD j false) i true := funext fun j => set_b hi j
  rw [e]; exact h

/-- What the merge gives back. -/
def KwEnd (w : World) (Ls : List (List (Int × Int))) (e : Ending) (w' : World) : Prop :=
  ∃ (g c : Nat), e = .returned (.tuple #[.slice (some ⟨g, 0, none⟩) Ls.flatten.length c, .int .i64 ((Mg.kcs Ls : Nat) : Int)]) ∧ w'.ownsRow w.heap.size 32 2 (.slice (some ⟨g, 0, none⟩) Ls.flatten.length c) Ls.flatten.length (flat encR (Mg.srtP Ls.flatten)) ∧ Below w.heap.size w w'

theorem getD_rep {α : Type} {k i : Nat} {z d : α} (h : i < k) : (List.replicate k z).getD i d = z := by
  rw [List.getD_eq_getElem?_getD, List.getElem?_replicate, if_pos h]; rfl
theorem getD_setB {l : List Bool} {i j : Nat} {x : Bool} (hi : i < l.length) : (l.set i x).getD j false = if i = j then x else l.getD j false := by
  simp only [List.getD_eq_getElem?_getD, List.getElem?_set, if_pos hi]
  split
  · rfl
  · rfl
theorem getD_setG {α : Type} {l : List α} {i j : Nat} {x d : α} (hi : i < l.length) : (l.set i x).getD j d = if i = j then x else l.getD j d := by
  simp only [List.getD_eq_getElem?_getD, List.getElem?_set, if_pos hi]
  split
  · rfl
  · rfl
theorem keys_of {ks : List Int} {rs : List (List (Int × Int))} (hl : ks.length = rs.length) (h : ∀ i, i < rs.length → ks.getD i 0 = Mg.hk (rs.getD i [])) : ks = Mg.keysOf rs := by
  refine List.ext_getElem (by simp [Mg.keysOf, hl]) fun i h1 h2 => ?_
  have := h i (by omega)
  rw [← Mg.keysOf_at (by omega), List.getD_eq_getElem?_getD, List.getD_eq_getElem?_getD, List.getElem?_eq_getElem h1, List.getElem?_eq_getElem h2] at this
  exact this
theorem done_of {ds : List Bool} {rs : List (List (Int × Int))} (hl : ds.length = rs.length) (h : ∀ i, i < rs.length → ds.getD i false = (rs.getD i []).isEmpty) : ds = Mg.doneOf rs := by
  refine List.ext_getElem (by simp [Mg.doneOf, hl]) fun i h1 h2 => ?_
  have := h i (by omega)
  rw [← Mg.doneOf_at (by omega), List.getD_eq_getElem?_getD, List.getD_eq_getElem?_getD, List.getElem?_eq_getElem h1, List.getElem?_eq_getElem h2] at this
  exact this
theorem flat_mem_len {Ls : List (List (Int × Int))} {i : Nat} (h : i < Ls.length) : (Ls.getD i []).length ≤ Ls.flatten.length := by
  rw [List.getD_eq_getElem?_getD, List.getElem?_eq_getElem h]
  have h1 : ∀ (M : List (List (Int × Int))) (l : List (Int × Int)), l ∈ M → l.length ≤ M.flatten.length := by
    intro M
    induction M with
    | nil => intro l h; cases h
    | cons a t ih =>
      intro l h
      rw [List.flatten_cons, List.length_append]
      rcases List.mem_cons.1 h with rfl | h
      · omega
      · have := ih l h; omega
  exact h1 _ _ (List.getElem_mem h)

set_option maxRecDepth 100000 in
set_option maxHeartbeats 8000000 in
theorem kWay_any (la lo k lc : Nat) (Ls : List (List (Int × Int))) (w : World) (hk0 : 0 < k) (hk : k ≤ 100) (hLs : LsAt w (some ⟨la, lo, none⟩) k lc Ls) (hN : Ls.flatten.length ≤ 1000) (ha : ∀ l ∈ Ls, Mg.Asc Mg.ltF l) :
    Calls Try.prog 24 #[.slice (some ⟨la, lo, none⟩) k lc] w (KwEnd w Ls) := by
  have HLS := Lib.hid hLs; have HA := Lib.hid ha
  have hll : Ls.length = k := hLs.len
  clear hLs ha
  unfold KwEnd
  go_enter Try.func24, Try.ntmps24
  go_wp2_with fail
  refine wp_region_held_drew (S := fun _ => True) (by kernel_rfl) trivial (fun _ => ?_)
  refine wpAnyH_take (i := 0) (v := .int .i64 k) rfl (by kernel_rfl) (by kernel_rfl) (by kernel_rfl) (fun _ _ _ h => h) (Or.inl ⟨by rfl, fun w' _ => by go_simp⟩) (by assumption) ?_
  refine wpAnyH_take (i := 2) (v := .int .i64 k) rfl (by kernel_rfl) (by kernel_rfl) (by kernel_rfl) (fun _ _ _ h => h) (Or.inl ⟨by rfl, fun w' _ => by go_simp⟩) (by assumption) ?_
  refine wpAnyH_take (i := 4) (v := .int .i64 k) rfl (by kernel_rfl) (by kernel_rfl) (by kernel_rfl) (fun _ _ _ h => h) (Or.inl ⟨by rfl, fun w' _ => by go_simp⟩) (by assumption) ?_
  refine wpAnyH_inv (KJ (w.alloc (.cells #[.slice (some ⟨la, lo, none⟩) k lc] 24)).drew (.slice (some ⟨la, lo, none⟩) k lc) (.pointer (some ⟨w.heap.size, 0, none⟩)) k) (by kernel_rfl) ?steps ?done _ _ _ _ (by kernel_rfl) (by decide) ?start
  case start =>
    refine ⟨fun _ => undef, fun _ => 0, fun _ => default, rfl, rfl, rfl, rfl, ?_, ?_, ?_, ?_, ?_, ?_, ?_, ?_, ?_, ?_⟩
    · rw [show kwAl _ = fun _ => false from funext fun j => by rcases j with _ | _ | _ | _ | _ | _ | j <;> rfl]
      exact Items.start (Below.refl _ _) _ _
    all_goals (intro h; exact absurd h (by decide))
  case done =>
    rintro L a w2 hall ⟨x, bl, ob, rfl, hX⟩
    have hb : ∀ i, i < 12 → L.getD i false = true := hall
    obtain ⟨e0, o0⟩ := hX.m0 (hb 1 (by omega))
    obtain ⟨e1, o1⟩ := hX.m1 (hb 3 (by omega))
    obtain ⟨e2, o2⟩ := hX.m2 (hb 5 (by omega))
    obtain ⟨e3, _, o3⟩ := hX.a0 (hb 6 (by omega))
    obtain ⟨e4, _, o4⟩ := hX.a1 (hb 7 (by omega))
    obtain ⟨e5, _, o5⟩ := hX.a2 (hb 8 (by omega))
    have p0 := hX.it.here 0 (hb 1 (by omega))
    have p1 := hX.it.here 1 (hb 3 (by omega))
    have p2 := hX.it.here 2 (hb 5 (by omega))
    have p3 := hX.it.here 3 (hb 6 (by omega))
    have p4 := hX.it.here 4 (hb 7 (by omega))
    have p5 := hX.it.here 5 (hb 8 (by omega))
    rw [o0] at p0; rw [o1] at p1; rw [o2] at p2
    rw [o3 (hb 9 (by omega)), e0] at p3; rw [o4 (hb 10 (by omega)), e1] at p4; rw [o5 (hb 11 (by omega)), e2] at p5
    have n01 := hX.it.ne 0 1 (by decide) (hb 1 (by omega)) (hb 3 (by omega))
    have n02 := hX.it.ne 0 2 (by decide) (hb 1 (by omega)) (hb 5 (by omega))
    have n12 := hX.it.ne 1 2 (by decide) (hb 3 (by omega)) (hb 5 (by omega))
    have n30 := hX.it.ne 3 0 (by decide) (hb 6 (by omega)) (hb 1 (by omega))
    have n40 := hX.it.ne 4 0 (by decide) (hb 7 (by omega)) (hb 1 (by omega))
    have n50 := hX.it.ne 5 0 (by decide) (hb 8 (by omega)) (hb 1 (by omega))
    have n31 := hX.it.ne 3 1 (by decide) (hb 6 (by omega)) (hb 3 (by omega))
    have n41 := hX.it.ne 4 1 (by decide) (hb 7 (by omega)) (hb 3 (by omega))
    have n51 := hX.it.ne 5 1 (by decide) (hb 8 (by omega)) (hb 3 (by omega))
    have n32 := hX.it.ne 3 2 (by decide) (hb 6 (by omega)) (hb 5 (by omega))
    have n42 := hX.it.ne 4 2 (by decide) (hb 7 (by omega)) (hb 5 (by omega))
    have n52 := hX.it.ne 5 2 (by decide) (hb 8 (by omega)) (hb 5 (by omega))
    have hbl := hX.it.bel
    have hwR : (w.alloc (.cells #[.slice (some ⟨la, lo, none⟩) k lc] 24)).drew.heap.size = w.heap.size + 1 := by show (w.alloc _).heap.size = _; simp
    have hb2 : Below w.heap.size w w2 := Below.trans (((Below.refl _ _).alloc (Nat.le_refl _) _).drew) (hbl.mono (by omega))
    have hcl : w2.cell? ⟨w.heap.size, 0, none⟩ = some (.slice (some ⟨la, lo, none⟩) k lc) :=
      (hbl.cell (p := ⟨w.heap.size, 0, none⟩) (by show w.heap.size < _; omega)).trans (row_cell (block_new w (.cells #[.slice (some ⟨la, lo, none⟩) k lc] 24)) 0)
    unfold kwA
    rw [e0, e1, e2, e3, e4, e5]
    have lts : ∀ {g : Nat} {o : Obj}, w2.heap[g]? = some o → g < w2.heap.size := fun h => (Array.getElem?_eq_some_iff.1 h).1
    clear e0 e1 e2 e3 e4 e5 o0 o1 o2 o3 o4 o5 hX hbl hb hall
    generalize bl 0 = gk at *
    generalize bl 1 = gd at *
    generalize bl 2 = gn at *
    generalize bl 3 = ck at *
    generalize bl 4 = cd at *
    generalize bl 5 = cn at *
    have l0 := lts p0.2; have l1 := lts p1.2; have l2 := lts p2.2; have l3 := lts p3.2; have l4 := lts p4.2; have l5 := lts p5.2
    obtain ⟨B, hB⟩ : ∃ B, w2.heap.size = B := ⟨_, rfl⟩
    have HKW : Hid (Kw w w2 B k w.heap.size ck cd cn gk gd gn (.slice (some ⟨la, lo, none⟩) k lc) (List.replicate k 0) (List.replicate k false) (List.replicate k 0)) := by
      refine ⟨hb2, by omega, ⟨by omega, by omega, by omega⟩, ⟨by omega, by omega, by omega, by omega, by omega, by omega, by omega⟩, ⟨n01, n02, n12⟩, ⟨by omega, n30, n40, n50⟩, ⟨by omega, n31, n41, n51⟩, ⟨by omega, n32, n42, n52⟩, hcl, row_cell p3.2 0, row_cell p4.2 0, row_cell p5.2 0, ?_, ?_, ?_⟩
      · have := own_made p0.2 (by omega : w.heap.size ≤ gk) (by omega) rfl
        rw [show ints (List.replicate k 0) = List.replicate k (.int .i64 0) by simp [ints]]; exact this
      · have := own_made p1.2 (by omega : w.heap.size ≤ gd) (by omega) rfl
        rw [show bools (List.replicate k false) = List.replicate k (.bool false) by simp [bools]]; exact this
      · have := own_made p2.2 (by omega : w.heap.size ≤ gn) (by omega) rfl
        rw [show ints (List.replicate k 0) = List.replicate k (.int .i64 0) by simp [ints]]; exact this
    clear p0 p1 p2 p3 p4 p5 n01 n02 n12 n30 n40 n50 n31 n41 n51 n32 n42 n52 l0 l1 l2 l3 l4 l5 lts hwR hcl hb2 hB
    have HLE : Hid (∀ i, i < k → (Ls.getD i []).length ≤ 1000) := fun i hi => by
      have := flat_mem_len (Ls := Ls) (i := i) (by omega)
      omega
    have hc0 := HKW.out.lc
    have hcall : ∀ (i : Int) (W : World), (callFunc 43 #[.int .i64 i, .pointer (some ⟨cn, 0, none⟩), .pointer (some ⟨w.heap.size, 0, none⟩), .pointer (some ⟨cd, 0, none⟩), .pointer (some ⟨ck, 0, none⟩)]).run Try.prog W = .ok (.enter 43 #[.int .i64 i, .pointer (some ⟨cn, 0, none⟩), .pointer (some ⟨w.heap.size, 0, none⟩), .pointer (some ⟨cd, 0, none⟩), .pointer (some ⟨ck, 0, none⟩)]) W := fun i W => by kernel_rfl
    go_wp2_with fail
    go_loopw [24] (fun v wr => ∃ (i : Nat) (ks : List Int) (ds : List Bool), v = .int .i64 i ∧ i ≤ k ∧ Kw w wr B k w.heap.size ck cd cn gk gd gn (.slice (some ⟨la, lo, none⟩) k lc) ks ds (List.replicate k 0) ∧ Hid (∀ j, j < i → ks.getD j 0 = Mg.hk (Ls.getD j []) ∧ ds.getD j false = (Ls.getD j []).isEmpty)) (fun v _ => k - (intOf v).toNat)
    case atStart => exact ⟨0, _, _, rfl, by omega, HKW.out, Lib.hid (fun j hj => by omega)⟩
    case round =>
      obtain ⟨i, ks, ds, rfl, hi, hkw, HALL⟩ := hrel
      have HK1 := Lib.hid hkw
      have hkl : ks.length = k := by have := hkw.kr.1; simpa using this
      have hdl : ds.length = k := by have := hkw.dr.1; simpa using this
      clear hkw HKW hc0
      by_cases hlt : i < k
      · have q1 : decide ((i : Int) < (k : Int)) = true := decide_eq_true (by omega)
        have HF := Lib.hid (fill_any w wr B k w.heap.size ck cd cn gk gd gn i 0 la lo lc Ls (Ls.getD i []) ks ds _ hk hlt HLS.out HK1.out (getD_rep hlt) (by omega) (by have := HLE.out i hlt; omega) rfl)
        have hcc := hcall (i : Int)
        clear hcall
        go_wp2_with fail
        refine HF.out.mono ?_
        rintro e w3 ⟨rfl, hk3, _⟩
        rw [List.drop_zero] at hk3
        have HK3 := Lib.hid hk3
        clear hk3 HF HK1 hcc
        go_wp2
        go_roundw
        case rel => exact ⟨i + 1, _, _, by go_num, by omega, HK3.out, Lib.hid (fun j hj => by
          rw [getD_setE (by omega), getD_setB (by omega)]
          by_cases hij : i = j
          · rw [if_pos hij, if_pos hij, hij]; exact ⟨rfl, rfl⟩
          · rw [if_neg hij, if_neg hij]; exact HALL.out j (by omega))⟩
        case measure => simp [intOf] <;> omega
      have hik : k = i := by omega
      subst hik
      have q1 : decide ((k : Int) < (k : Int)) = false := by simp
      have hks : ks = Mg.keysOf Ls := keys_of (by omega) (fun j hj => (HALL.out j (by omega)).1)
      have hds : ds = Mg.doneOf Ls := done_of (by omega) (fun j hj => (HALL.out j (by omega)).2)
      rw [hks, hds] at HK1
      clear hks hds HALL hkl hdl
      have E0 := Lib.hid (own_mono (own_lit (w := wr) (e := 32) (size := 2) #[] 0 (by omega) rfl) HK1.out.hi)
      have HK3 := Lib.hid (HK1.out.same (belowNew wr (.cells #[] 32)))
      clear HK1
      go_wp2_with fail
      go_loopw [10, 11] (fun o c wq => ∃ (t q : Nat) (rs : List (List (Int × Int))) (ps : List Nat) (O : List (Int × Int)), c = .int .i64 q ∧ wq.ownsRow B 32 2 o t (flat encR O) ∧ o.ownBlock ≠ none ∧
          Kw w wq B k w.heap.size ck cd cn gk gd gn (.slice (some ⟨la, lo, none⟩) k lc) (Mg.keysOf rs) (Mg.doneOf rs) (ps.map fun p : Nat => (p : Int)) ∧ rs.length = k ∧ ps.length = k ∧ t + rs.flatten.length = Ls.flatten.length ∧ q ≤ 100 + 10 * t ∧
          Hid (∀ i, i < k → rs.getD i [] = (Ls.getD i []).drop (ps.getD i 0) ∧ ps.getD i 0 ≤ (Ls.getD i []).length) ∧ Hid (∀ l ∈ rs, Mg.Asc Mg.ltF l) ∧ Hid (O ++ Mg.srtP rs.flatten = Mg.srtP Ls.flatten) ∧ Hid (q + Mg.kc rs.flatten.length rs = Mg.kcs Ls)) (fun o _ _ => Ls.flatten.length - lenV o)
      case atStart =>
        refine ⟨0, k - 1, Ls, List.replicate k 0, [], by go_num, E0.out, by simp [Value.ownBlock], ?_, hll, by simp, by omega, by omega, Lib.hid (fun i hi => ?_), HA, Lib.hid rfl, Lib.hid ?_⟩
        · have := HK3.out
          rwa [show (List.replicate k (0 : Nat)).map (fun p : Nat => (p : Int)) = List.replicate k 0 by simp]
        · rw [getD_rep hi, List.drop_zero]; exact ⟨rfl, Nat.zero_le _⟩
        · unfold Mg.kcs; rw [hll]
      case round =>
        obtain ⟨t, q, rs, ps, O, rfl, hown, hob, hkw, hrl, hpl, htn, hq, HRS, HAS, HOO, HKC⟩ := hrel
        obtain ⟨oa, oc, rfl⟩ := own_slice hown
        have HT := Lib.hid (treeOf_any (some ⟨gk, 0, none⟩) (some ⟨gd, 0, none⟩) k k k (Mg.keysOf rs) (Mg.doneOf rs) wr hk0 hk (by simp [Mg.keysOf, hrl]) (by simp [Mg.doneOf, hrl]) (vals_own hkw.kr) (vals_own hkw.dr) (nilOk_some _ _) (nilOk_some _ _))
        have HO1 := Lib.hid hown; have HOB := Lib.hid hob; have HK1 := Lib.hid hkw
        have c1 := hkw.kc; have c2 := hkw.dc
        clear hown hob hkw E0 HK3
        go_wp2_with fail
        refine HT.out.mono ?_
        rintro e w3 ⟨win, kv, dv, lv, rfl, hwin, hb⟩
        have HO2 := Lib.hid (own_below HO1.out (Nat.le_refl _) hb)
        have HK2 := Lib.hid (HK1.out.same hb)
        have HW := Lib.hid (show Mg.Win (Mg.keysOf rs) (Mg.doneOf rs) rs.length win by rw [hrl]; exact hwin)
        have hwk : win < k := hwin.1
        clear hb hwin HT HO1 HK1 c1 c2
        have c2 := HK2.out.dc
        have c3 := HK2.out.dr.cellAt win (by omega)
        rw [bools_at (by simp [Mg.doneOf, hrl]; exact hwk), Mg.doneOf_at (by omega)] at c3
        have hfield : ∀ W : World, (Instr.field 74 (.agg #[kv, dv, lv, .int .i64 win]) 3).run Try.prog W = .ok (.int .i64 win) W := fun W => by kernel_rfl
        have b1 : (0 : Int) ≤ (win : Int) := by omega
        have b2 : (win : Int) < (k : Int) := by omega
        have t1 : ((win : Int)).toNat = win := by omega
        cases hrw : rs.getD win [] with
        | nil =>
          have HD := Lib.hid (Mg.all_done HW.out hrw)
          rw [hrw] at c3
          have c3 : w3.cell? ⟨gd, win, none⟩ = some (.bool true) := c3
          clear hrw
          go_wp2
          go_ret2
          obtain ⟨g, rfl, _, _⟩ := own_addr HO2.out HOB.out
          have hdl : rs.flatten.length = 0 := by rw [HD.out]; rfl
          have ht : t = Ls.flatten.length := by omega
          subst ht
          have hO : O = Mg.srtP Ls.flatten := by
            have := HOO.out
            rw [HD.out] at this
            rw [← this]
            show O = O ++ Mg.srt Mg.ltF []
            rw [Mg.srt_nil, List.append_nil]
          have hqq : q = Mg.kcs Ls := by
            have := HKC.out
            rw [hdl] at this
            rw [← this]; rw [Mg.kc]; rfl
          rw [hO] at HO2
          refine ⟨g, oc, by rw [hqq]; rfl, own_mono HO2.out ?_, HK2.out.bel⟩
          have := HK2.out.lt; omega
        | cons X tl =>
          rw [hrw] at c3
          have c3 : w3.cell? ⟨gd, win, none⟩ = some (.bool false) := c3
          obtain ⟨hd1, hd2⟩ := HRS.out win hwk
          obtain ⟨p, hp⟩ : ∃ p, ps.getD win 0 = p := ⟨_, rfl⟩
          obtain ⟨Lw, hLw⟩ : ∃ Lw, Ls.getD win [] = Lw := ⟨_, rfl⟩
          rw [hrw, hp, hLw] at hd1
          rw [hp, hLw] at hd2
          have hpl2 : p < Lw.length := by
            rcases Nat.lt_or_ge p Lw.length with h | h
            · exact h
            · rw [List.drop_of_length_le h] at hd1; cases hd1
          have hd3 : Lw.getD p (0, 0) = X ∧ Lw.drop (p + 1) = tl := by
            rw [List.drop_eq_getElem_cons hpl2] at hd1
            injection hd1 with h1 h2
            exact ⟨by rw [h1, List.getD_eq_getElem?_getD, List.getElem?_eq_getElem hpl2]; rfl, h2.symm⟩
          obtain ⟨lb, lof, xa, d, e, hc0, hr0⟩ := HLS.out.at hwk
          injection e with e
          injection e with e1 e2
          subst e1 e2
          rw [hLw] at hc0 hr0
          obtain ⟨xb, xo, rfl, x1, x2⟩ := hr0.at hpl2
          rw [hd3.1] at x1 x2
          have hb0 := World.block_lt_of_cell? w _ hc0
          have hb1 := World.block_lt_of_cell? w _ x1
          have hb2 := World.block_lt_of_cell? w _ x2
          have hpI : (ps.map fun p : Nat => (p : Int)).getD win 0 = (p : Int) := by
            rw [List.getD_eq_getElem?_getD, List.getElem?_map, List.getElem?_eq_getElem (by omega)]
            rw [List.getD_eq_getElem?_getD, List.getElem?_eq_getElem (by omega)] at hp
            show ((ps[win] : Nat) : Int) = _
            rw [show ps[win] = p from hp]
          have hLwN : Lw.length ≤ 1000 := by rw [← hLw]; exact HLE.out win hwk
          have HS := Lib.hid (Mg.kstep HW.out hrw HAS.out)
          have HKS := Lib.hid (fun f => Mg.kc_step (f := f) HW.out hrw)
          have HLN := Lib.hid (Mg.len_step (rs := rs) (w := win) (by omega) hrw)
          have HAS2 := Lib.hid (Mg.asc_step (rs := rs) (w := win) (by omega) hrw HAS.out)
          have HX := Lib.hid hd3.1; have HTL := Lib.hid hd3.2; have HP := Lib.hid hp; have HPI := Lib.hid hpI; have HLW := Lib.hid hLw; have HRW := Lib.hid hrw
          clear hr0 hd1 hd3 hp hpI hLw hrw HAS
          have hcc := hcall (win : Int)
          have b3 : (0 : Int) ≤ (p : Int) := by omega
          have b4 : (p : Int) < (Lw.length : Int) := by omega
          have t2 : ((p : Int)).toNat = p := by omega
          obtain ⟨X1, X2⟩ := X
          have x1 : w.cell? ⟨xb, xo + p * 2, none⟩ = some (.int .i64 X1) := x1
          have x2 : w.cell? ⟨xb, xo + p * 2 + 1, none⟩ = some (.int .i64 X2) := x2
          have htN : t + 1 ≤ 1099511627776 := by omega
          have HC := Lib.hid (fun (w' : World) (h : Kw w w' B k w.heap.size ck cd cn gk gd gn (.slice (some ⟨la, lo, none⟩) k lc) (Mg.keysOf rs) (Mg.doneOf rs) (ps.map fun p : Nat => (p : Int))) => show w'.cell? ⟨w.heap.size, 0, none⟩ = some (.slice (some ⟨la, lo, none⟩) k lc) ∧ w'.cell? ⟨la, lo + win, none⟩ = some (.slice (some ⟨xb, xo, none⟩) Lw.length d) ∧ w'.cell? ⟨cn, 0, none⟩ = some (.slice (some ⟨gn, 0, none⟩) k k) ∧ w'.cell? ⟨gn, win, none⟩ = some (.int .i64 p) ∧ w'.cell? ⟨xb, xo + p * 2, none⟩ = some (.int .i64 X1) ∧ w'.cell? ⟨xb, xo + p * 2 + 1, none⟩ = some (.int .i64 X2) from
            ⟨h.lc, (h.bel.cell (p := ⟨la, lo + win, none⟩) hb0).trans hc0, h.nc, by have := h.nr.cellAt win (by omega); rwa [ints_at (by simp; omega), HPI.out] at this, (h.bel.cell (p := ⟨xb, xo + p * 2, none⟩) hb1).trans x1, (h.bel.cell (p := ⟨xb, xo + p * 2 + 1, none⟩) hb2).trans x2⟩)
          clear hc0 x1 x2 hb0 hb1 hb2
          have HKd := Lib.hid (HK2.out.same (wq := w3.drew) ((Below.refl _ _).drew))
          have HOd := Lib.hid (own_below HO2.out (Nat.le_refl _) (Below.drew (Below.refl w3.heap.size w3)))
          have HKa := Lib.hid (HKd.out.same (belowNew w3.drew (.cells #[.int .i64 X1, .int .i64 X2] 32)))
          have HOa := Lib.hid (own_below HOd.out (Nat.le_refl _) (belowNew w3.drew (.cells #[.int .i64 X1, .int .i64 X2] 32)))
          have HNW := Lib.hid (cells_new w3.drew [.int .i64 X1, .int .i64 X2] 32)
          have hS0 := HC.out _ HKd.out
          have hS1 := HC.out _ HKa.out
          have hBs := HKa.out.hi
          clear HO2 HK2 HKd HOd
          go_wp2_with fail
          clear c2 c3
          go_region_held3 (fun w' => w'.cell? ⟨w.heap.size, 0, none⟩ = some (.slice (some ⟨la, lo, none⟩) k lc) ∧ w'.cell? ⟨la, lo + win, none⟩ = some (.slice (some ⟨xb, xo, none⟩) Lw.length d) ∧ w'.cell? ⟨cn, 0, none⟩ = some (.slice (some ⟨gn, 0, none⟩) k k) ∧ w'.cell? ⟨gn, win, none⟩ = some (.int .i64 p) ∧ w'.cell? ⟨xb, xo + p * 2, none⟩ = some (.int .i64 X1) ∧ w'.cell? ⟨xb, xo + p * 2 + 1, none⟩ = some (.int .i64 X2)) (first | assumption | go_keep) (first | ((try go_split_ands); refine step_appX slRec (by rfl) _ _ (by rfl) B (.slice oa t oc) t (flat encR O) _ 1 _ [.int .i64 X1, .int .i64 X2] (by rfl) HOa.out (by rfl) rfl HNW.out (by simp [Value.oneCell']) htN hBs ?_; intro v' w5 hown' hg' ht'; have HK5 := Lib.hid (HKa.out.next hg' (fun b e => ⟨(HOa.out.lt b e).1, by have := (HOa.out.lt b e).1; have := HKa.out.lt; omega⟩)); have hS2 := HC.out _ HK5.out))
          obtain ⟨a5, c5, rfl⟩ := own_slice hown'
          have HO5 := Lib.hid hown'
          have HOB5 : Hid ((Value.slice a5 (t + 1) c5).ownBlock ≠ none) := by
            show _ ≠ _
            rcases ht' with h | h
            · rw [h]; exact HOB.out
            · rw [h]; simp
          clear hown' hg' ht' HOa HKa HOB HC HNW
          try clear hS0
          try clear hS1
          try clear hS2
          have y3 := HK5.out.lc
          have y4 := HK5.out.nc
          have y5 := HK5.out.nr.cellAt win (by omega)
          rw [ints_at (by simp; omega), HPI.out] at y5
          have y6 := HK5.out.nr.frozenAt win
          have HK6 := Lib.hid (HK5.out.setn win ((p : Int) + 1))
          have HF := Lib.hid (fill_any w (w5.setCell ⟨gn, win, none⟩ (.int .i64 ((p : Int) + 1))) B k w.heap.size ck cd cn gk gd gn win (p + 1) la lo lc Ls Lw _ _ _ hk hwk HLS.out HK6.out (by rw [getD_setE (by simp; omega), if_pos rfl]; omega) (by omega) (by omega) HLW.out)
          rw [HTL.out] at HF
          clear HK5 HK6
          go_wp2_with fail
          refine HF.out.mono ?_
          rintro e w6 ⟨rfl, hk6, hgr6⟩
          have hgr6 := Lib.hid hgr6
          have HK6 : Hid (Kw w w6 B k w.heap.size ck cd cn gk gd gn (.slice (some ⟨la, lo, none⟩) k lc) (Mg.keysOf (rs.set win tl)) (Mg.doneOf (rs.set win tl)) ((ps.set win (p + 1)).map fun p : Nat => (p : Int))) := by
            show Kw _ _ _ _ _ _ _ _ _ _ _ _ _ _ _
            rw [show Mg.keysOf (rs.set win tl) = (Mg.keysOf rs).set win (Mg.hk tl) from List.map_set, show Mg.doneOf (rs.set win tl) = (Mg.doneOf rs).set win tl.isEmpty from List.map_set, List.map_set]
            exact hk6
          have HO6 := Lib.hid (hgr6.out _ _ _ _ _ (ownsRow_setCell_below HO5.out HK6.out.lt.2.2.2.2.2.2 _))
          clear hk6 HF HO5 y3 y4 y5 y6 hcc
          have HLN' := HLN.out
          have hpl7 : Mg.plen ((k + win) / 2) ≤ 7 := Mg.plen_le 7 _ (by omega)
          generalize hpe : Mg.plen ((k + win) / 2) = pe at hpl7
          have HPE := Lib.hid hpe
          have HPL := Lib.hid (pathLength_any k win ((k + win) / 2) w6 (by omega) (by omega) rfl)
          rw [hpe] at HPL
          clear hpe
          go_wp2_with fail
          refine HPL.out.mono ?_
          rintro e w7 ⟨rfl, rfl⟩
          go_wp2
          go_roundw
          case rel =>
            refine ⟨t + 1, q + pe, rs.set win tl, ps.set win (p + 1), O ++ [(X1, X2)], by go_num, by rw [flat_append, flat_one]; exact HO6.out, HOB5.out, HK6.out, by rw [List.length_set]; exact hrl, by rw [List.length_set]; exact hpl, by omega, by omega, Lib.hid (fun i hi => ?_), HAS2, Lib.hid ?_, Lib.hid ?_⟩
            · rw [getD_setG (by omega), getD_setG (by omega)]
              by_cases hiw : win = i
              · rw [if_pos hiw, if_pos hiw, ← hiw, HLW.out, HTL.out]; exact ⟨rfl, by omega⟩
              · rw [if_neg hiw, if_neg hiw]; exact HRS.out i hi
            · rw [← HOO.out, List.append_assoc]
              show _ = O ++ Mg.srt Mg.ltF rs.flatten
              rw [HS.out]; rfl
            · have h1 := HKC.out
              rw [HLN.out, HKS.out, hrl, HPE.out] at h1
              rw [← h1]; omega
          case measure => simp only [lenV]; omega
  case steps =>
    refine ⟨?_, ?_, ?_, ?_, ?_, ?_, ?_, ?_, ?_, ?_, ?_, ?_, trivial⟩
    all_goals
      rintro L a w' hs hu haf ⟨x, bl, ob, rfl, hX⟩ K hK
    · exact absurd (hX.l0.symm.trans hu) (by decide)
    · rw [if_pos (by rfl)]
      refine wp_mk slInt.und slInt.info slInt.small _ _ rfl k rfl rfl (by omega) ?_
      intro w2 hobj hb
      exact hK _ _ (kj_set (by rw [hs]; decide) (x := upd x 0 _) (bl := upd bl 0 _) (ob := upd ob 0 _) rfl ⟨hX.l0, hX.l2, hX.l4, hX.it.fresh 0 _ hb hobj (by intro j; rcases j with _ | _ | _ | _ | _ | _ | j <;> rfl) hu, fun _ => ⟨rfl, rfl⟩, hX.m1, hX.m2, fun h => ⟨(hX.a0 h).1, (hX.a0 h).2.1, fun h9 => absurd ((hX.s0 h9).1.symm.trans hu) (by decide)⟩, hX.a1, hX.a2, fun h => ⟨rfl, (hX.s0 h).2⟩, hX.s1, hX.s2⟩)
    · exact absurd (hX.l2.symm.trans hu) (by decide)
    · rw [if_pos (by rfl)]
      refine wp_mk slBoolE.und slBoolE.info slBoolE.small _ _ rfl k rfl rfl (by omega) ?_
      intro w2 hobj hb
      exact hK _ _ (kj_set (by rw [hs]; decide) (x := upd x 1 _) (bl := upd bl 1 _) (ob := upd ob 1 _) rfl ⟨hX.l0, hX.l2, hX.l4, hX.it.fresh 1 _ hb hobj (by intro j; rcases j with _ | _ | _ | _ | _ | _ | j <;> rfl) hu, hX.m0, fun _ => ⟨rfl, rfl⟩, hX.m2, hX.a0, fun h => ⟨(hX.a1 h).1, (hX.a1 h).2.1, fun h9 => absurd ((hX.s1 h9).1.symm.trans hu) (by decide)⟩, hX.a2, hX.s0, fun h => ⟨rfl, (hX.s1 h).2⟩, hX.s2⟩)
    · exact absurd (hX.l4.symm.trans hu) (by decide)
    · rw [if_pos (by rfl)]
      refine wp_mk slInt.und slInt.info slInt.small _ _ rfl k rfl rfl (by omega) ?_
      intro w2 hobj hb
      exact hK _ _ (kj_set (by rw [hs]; decide) (x := upd x 2 _) (bl := upd bl 2 _) (ob := upd ob 2 _) rfl ⟨hX.l0, hX.l2, hX.l4, hX.it.fresh 2 _ hb hobj (by intro j; rcases j with _ | _ | _ | _ | _ | _ | j <;> rfl) hu, hX.m0, hX.m1, fun _ => ⟨rfl, rfl⟩, hX.a0, hX.a1, fun h => ⟨(hX.a2 h).1, (hX.a2 h).2.1, fun h9 => absurd ((hX.s2 h9).1.symm.trans hu) (by decide)⟩, hX.s0, hX.s1, fun h => ⟨rfl, (hX.s2 h).2⟩⟩)
    · unfold kwA
      go_simp
      exact hK _ _ (kj_set (by rw [hs]; decide) (x := upd x 3 _) (bl := upd bl 3 _) (ob := upd ob 3 _) rfl ⟨hX.l0, hX.l2, hX.l4, hX.it.alloc 3 _ (by intro j; rcases j with _ | _ | _ | _ | _ | _ | j <;> rfl) hu, hX.m0, hX.m1, hX.m2, fun _ => ⟨rfl, fun _ => rfl, fun h9 => absurd ((hX.s0 h9).2.symm.trans hu) (by decide)⟩, hX.a1, hX.a2, fun h => ⟨(hX.s0 h).1, rfl⟩, hX.s1, hX.s2⟩)
    · unfold kwA
      go_simp
      exact hK _ _ (kj_set (by rw [hs]; decide) (x := upd x 4 _) (bl := upd bl 4 _) (ob := upd ob 4 _) rfl ⟨hX.l0, hX.l2, hX.l4, hX.it.alloc 4 _ (by intro j; rcases j with _ | _ | _ | _ | _ | _ | j <;> rfl) hu, hX.m0, hX.m1, hX.m2, hX.a0, fun _ => ⟨rfl, fun _ => rfl, fun h9 => absurd ((hX.s1 h9).2.symm.trans hu) (by decide)⟩, hX.a2, hX.s0, fun h => ⟨(hX.s1 h).1, rfl⟩, hX.s2⟩)
    · unfold kwA
      go_simp
      exact hK _ _ (kj_set (by rw [hs]; decide) (x := upd x 5 _) (bl := upd bl 5 _) (ob := upd ob 5 _) rfl ⟨hX.l0, hX.l2, hX.l4, hX.it.alloc 5 _ (by intro j; rcases j with _ | _ | _ | _ | _ | _ | j <;> rfl) hu, hX.m0, hX.m1, hX.m2, hX.a0, hX.a1, fun _ => ⟨rfl, fun _ => rfl, fun h9 => absurd ((hX.s2 h9).2.symm.trans hu) (by decide)⟩, hX.s0, hX.s1, fun h => ⟨(hX.s2 h).1, rfl⟩⟩)
    · have h1 : L.getD 1 false = true := haf ⟨1, .data⟩ (by simp) rfl
      have h6 : L.getD 6 false = true := haf ⟨6, .data⟩ (by simp) rfl
      obtain ⟨e3, ho⟩ := hX.a0 h6
      obtain ⟨e0, _⟩ := hX.m0 h1
      have hh := (hX.it.here 3 h6).2
      rw [ho.1 hu] at hh
      have hc := cell_of_one hh
      have hf := free_of_one hh
      unfold kwA
      rw [e3, e0]
      go_simp
      refine hK _ _ (kj_set (by rw [hs]; decide) (x := x) (bl := bl) (ob := upd ob 3 (.cells (#[Value.slice none 0 0].setIfInBounds 0 (x 0)) 49 (0, 0))) (by unfold kwA; rw [e3, e0]) ?_)
      rw [← e0]
      exact ⟨hX.l0, hX.l2, hX.l4, hX.it.store 3 h6 (ho.1 hu) _, hX.m0, hX.m1, hX.m2, fun h => ⟨(hX.a0 h).1, fun h9 => Bool.noConfusion (show true = false from h9), fun _ => rfl⟩, hX.a1, hX.a2, fun _ => ⟨h1, h6⟩, hX.s1, hX.s2⟩
    · have h1 : L.getD 3 false = true := haf ⟨3, .data⟩ (by simp) rfl
      have h6 : L.getD 7 false = true := haf ⟨7, .data⟩ (by simp) rfl
      obtain ⟨e3, ho⟩ := hX.a1 h6
      obtain ⟨e0, _⟩ := hX.m1 h1
      have hh := (hX.it.here 4 h6).2
      rw [ho.1 hu] at hh
      have hc := cell_of_one hh
      have hf := free_of_one hh
      unfold kwA
      rw [e3, e0]
      go_simp
      refine hK _ _ (kj_set (by rw [hs]; decide) (x := x) (bl := bl) (ob := upd ob 4 (.cells (#[Value.slice none 0 0].setIfInBounds 0 (x 1)) 71 (0, 0))) (by unfold kwA; rw [e3, e0]) ?_)
      rw [← e0]
      exact ⟨hX.l0, hX.l2, hX.l4, hX.it.store 4 h6 (ho.1 hu) _, hX.m0, hX.m1, hX.m2, hX.a0, fun h => ⟨(hX.a1 h).1, fun h9 => Bool.noConfusion (show true = false from h9), fun _ => rfl⟩, hX.a2, hX.s0, fun _ => ⟨h1, h6⟩, hX.s2⟩
    · have h1 : L.getD 5 false = true := haf ⟨5, .data⟩ (by simp) rfl
      have h6 : L.getD 8 false = true := haf ⟨8, .data⟩ (by simp) rfl
      obtain ⟨e3, ho⟩ := hX.a2 h6
      obtain ⟨e0, _⟩ := hX.m2 h1
      have hh := (hX.it.here 5 h6).2
      rw [ho.1 hu] at hh
      have hc := cell_of_one hh
      have hf := free_of_one hh
      unfold kwA
      rw [e3, e0]
      go_simp
      refine hK _ _ (kj_set (by rw [hs]; decide) (x := x) (bl := bl) (ob := upd ob 5 (.cells (#[Value.slice none 0 0].setIfInBounds 0 (x 2)) 49 (0, 0))) (by unfold kwA; rw [e3, e0]) ?_)
      rw [← e0]
      exact ⟨hX.l0, hX.l2, hX.l4, hX.it.store 5 h6 (ho.1 hu) _, hX.m0, hX.m1, hX.m2, hX.a0, hX.a1, fun h => ⟨(hX.a2 h).1, fun h9 => Bool.noConfusion (show true = false from h9), fun _ => rfl⟩, hX.s0, hX.s1, fun _ => ⟨h1, h6⟩⟩
end Go.Proofs.Ytcdfinkefahloaa

namespace Go.Proofs.Ytcdfinkefahloaa
open Go.RowKit Go.Sort
set_option linter.unusedVariables false

/-- Three rows of the call's own. -/
structure Mr (w0 wr : World) (k gk gd ga : Nat) (ks : List Int) (ds : List Bool) (ns : List Int) : Prop where
  bel : Below w0.heap.size w0 wr
  kr : wr.ownsRow w0.heap.size 3 1 (.slice (some ⟨gk, 0, none⟩) k k) k (ints ks)
  dr : wr.ownsRow w0.heap.size 4 1 (.slice (some ⟨gd, 0, none⟩) k k) k (bools ds)
  nr : wr.ownsRow w0.heap.size 3 1 (.slice (some ⟨ga, 0, none⟩) k k) k (ints ns)
  ne : gk ≠ gd ∧ gk ≠ ga ∧ gd ≠ ga
section
variable {w0 wr wq : World} {k gk gd ga : Nat} {ks : List Int} {ds : List Bool} {ns : List Int}
theorem Mr.same (h : Mr w0 wr k gk gd ga ks ds ns) (hb : Below wr.heap.size wr wq) : Mr w0 wq k gk gd ga ks ds ns :=
  ⟨below_tr h.bel hb h.bel.size, own_below h.kr (Nat.le_refl _) hb, own_below h.dr (Nat.le_refl _) hb, own_below h.nr (Nat.le_refl _) hb, h.ne⟩
theorem Mr.setk (h : Mr w0 wr k gk gd ga ks ds ns) (j : Nat) (x : Int) : Mr w0 (wr.setCell ⟨gk, j, none⟩ (.int .i64 x)) k gk gd ga (ks.set j x) ds ns := by
  have hs := h.kr.stored j (.int .i64 x)
  rw [ints_set] at hs
  exact ⟨h.bel.setCell (p := ⟨gk, j, none⟩) (h.kr.lt gk rfl).1 _, hs.1, own_far h.dr hs.2 (Ne.symm h.ne.1), own_far h.nr hs.2 (Ne.symm h.ne.2.1), h.ne⟩
theorem Mr.setd (h : Mr w0 wr k gk gd ga ks ds ns) (j : Nat) (x : Bool) : Mr w0 (wr.setCell ⟨gd, j, none⟩ (.bool x)) k gk gd ga ks (ds.set j x) ns := by
  have hs := h.dr.stored j (.bool x)
  rw [bools_set] at hs
  exact ⟨h.bel.setCell (p := ⟨gd, j, none⟩) (h.dr.lt gd rfl).1 _, own_far h.kr hs.2 h.ne.1, hs.1, own_far h.nr hs.2 (Ne.symm h.ne.2.2), h.ne⟩
end

/-- The tree, the positions, what is out. -/
structure Sm (w0 wq : World) (B T ga k gk gd c0 c2 win : Nat) (lv : Value) (ks : List Int) (ds : List Bool) (ns : List Int) (o : Value) (t : Nat) (O : List (Int × Int)) : Prop where
  bel : Below w0.heap.size w0 wq
  hi : B ≤ wq.heap.size
  lo : w0.heap.size ≤ T ∧ w0.heap.size ≤ ga ∧ w0.heap.size ≤ B
  lt : T < B ∧ ga < B
  ne : T ≠ ga ∧ gk ≠ T ∧ gk ≠ ga ∧ gd ≠ T ∧ gd ≠ ga
  nk : o.ownBlock ≠ some gk ∧ o.ownBlock ≠ some gd
  gl : gk < wq.heap.size ∧ gd < wq.heap.size
  tr : wq.heap[T]? = some (.cells #[.slice (some ⟨gk, 0, none⟩) k c0, .slice (some ⟨gd, 0, none⟩) k c2, lv, .int .i64 win] 74 (0, 0))
  kv : ValsAt wq (some ⟨gk, 0, none⟩) (ints ks)
  dv : ValsAt wq (some ⟨gd, 0, none⟩) (bools ds)
  ar : wq.ownsRow w0.heap.size 3 1 (.slice (some ⟨ga, 0, none⟩) k k) k (ints ns)
  oo : wq.ownsRow B 32 2 o t (flat encR O)
section
variable {w0 wq wz : World} {B T ga k gk gd c0 c2 win t : Nat} {lv o : Value} {ks : List Int} {ds : List Bool} {ns : List Int} {O : List (Int × Int)}
theorem Sm.same (h : Sm w0 wq B T ga k gk gd c0 c2 win lv ks ds ns o t O) (hb : Below wq.heap.size wq wz) : Sm w0 wz B T ga k gk gd c0 c2 win lv ks ds ns o t O :=
  ⟨below_tr h.bel hb h.bel.size, Nat.le_trans h.hi hb.size, h.lo, h.lt, h.ne, h.nk, ⟨Nat.lt_of_lt_of_le h.gl.1 hb.size, Nat.lt_of_lt_of_le h.gl.2 hb.size⟩, block_below h.tr hb (Nat.lt_of_lt_of_le h.lt.1 h.hi), h.kv.same hb, h.dv.same hb, own_below h.ar (Nat.le_refl _) hb, own_below h.oo (Nat.le_refl _) hb⟩
theorem Sm.app {o' : Value} {t' : Nat} {O' : List (Int × Int)} (h : Sm w0 wq B T ga k gk gd c0 c2 win lv ks ds ns o t O) (ho : wz.ownsRow B 32 2 o' t' (flat encR O')) (hg : wq.grownBy wz o.ownBlock) (ht : o'.ownBlock = o.ownBlock ∨ o'.ownBlock = some wq.heap.size) : Sm w0 wz B T ga k gk gd c0 c2 win lv ks ds ns o' t' O' := by
  have hge : ∀ b, o.ownBlock = some b → B ≤ b := fun b e => (h.oo.lt b e).1
  have hlt := h.lt
  have hlo := h.lo
  have hgl := h.gl
  refine ⟨h.bel.grown hg h.bel.size (fun b e => by have := hge b e; omega), Nat.le_trans h.hi hg.size, h.lo, h.lt, h.ne, ?_, ⟨Nat.lt_of_lt_of_le h.gl.1 hg.size, Nat.lt_of_lt_of_le h.gl.2 hg.size⟩, block_row h.tr hg (fun e => by have := hge _ e; omega), h.kv.grown hg (fun b off e he => by injection e with e; injection e with e1 e2; rw [← e1] at he; exact h.nk.1 he), h.dv.grown hg (fun b off e he => by injection e with e; injection e with e1 e2; rw [← e1] at he; exact h.nk.2 he), own_other h.ar hg (fun q hq e => by simp [Value.ownBlock] at hq; have := hge _ e; omega), ho⟩
  rcases ht with e | e
  · rw [e]; exact h.nk
  · rw [e]; exact ⟨fun e => by injection e with e; omega, fun e => by injection e with e; omega⟩
theorem Sm.setn (h : Sm w0 wq B T ga k gk gd c0 c2 win lv ks ds ns o t O) (j : Nat) (x : Int) : Sm w0 (wq.setCell ⟨ga, j, none⟩ (.int .i64 x)) B T ga k gk gd c0 c2 win lv ks ds (ns.set j x) o t O := by
  have hs := h.ar.stored j (.int .i64 x)
  rw [ints_set] at hs
  obtain ⟨n1, n2, n3, n4, n5⟩ := h.ne
  exact ⟨h.bel.setCell (p := ⟨ga, j, none⟩) h.lo.2.1 _, Nat.le_trans h.hi hs.2.size, h.lo, h.lt, h.ne, h.nk, ⟨Nat.lt_of_lt_of_le h.gl.1 hs.2.size, Nat.lt_of_lt_of_le h.gl.2 hs.2.size⟩, block_row h.tr hs.2 (by intro e; injection e with e; omega), h.kv.grown hs.2 (fun b off e he => by injection e with e; injection e with e1 e2; injection he with he; omega), h.dv.grown hs.2 (fun b off e he => by injection e with e; injection e with e1 e2; injection he with he; omega), hs.1, ownsRow_setCell_below h.oo h.lt.2 _⟩
end
end Go.Proofs.Ytcdfinkefahloaa

namespace Go.Proofs.Ytcdfinkefahloaa
open Go.RowKit Go.Sort
set_option linter.unusedVariables false

def ascOk (L : List (Int × Int)) : Bool := okRecs L && upB ltR L
def totL (Ls : List (List (Int × Int))) : Nat := Ls.flatten.length
def lsOk (Ls : List (List (Int × Int))) : Bool := Ls.all ascOk && decide (totL Ls ≤ 64)
theorem totL_step {Ls : List (List (Int × Int))} {i : Nat} (h : i < Ls.length) : totL (Ls.take (i + 1)) = totL (Ls.take i) + (Ls.getD i []).length := by
  unfold totL
  rw [List.take_succ_eq_append_getElem h, List.flatten_append, List.length_append, List.getD_eq_getElem?_getD, List.getElem?_eq_getElem h]
  simp
theorem all_step {Ls : List (List (Int × Int))} {i : Nat} {p : List (Int × Int) → Bool} (h : i < Ls.length) : (Ls.take (i + 1)).all p = ((Ls.take i).all p && p (Ls.getD i [])) := by
  rw [List.take_succ_eq_append_getElem h, List.all_append, List.getD_eq_getElem?_getD, List.getElem?_eq_getElem h]
  simp
theorem all_noK {Ls : List (List (Int × Int))} {i : Nat} {p : List (Int × Int) → Bool} (h : i < Ls.length) (hp : p (Ls.getD i []) = false) : Ls.all p = false := by
  rw [List.all_eq_false]
  rw [List.getD_eq_getElem?_getD, List.getElem?_eq_getElem h] at hp
  exact ⟨Ls[i], List.getElem_mem h, by simpa using hp⟩
theorem ascOk_len {L : List (Int × Int)} (h : ascOk L = true) : L.length ≤ 64 := by
  unfold ascOk at h
  simp only [Bool.and_eq_true] at h
  exact okRecs_le h.1

set_option maxRecDepth 100000 in
set_option maxHeartbeats 4000000 in
theorem areLists_any (a : Option Addr) (n c : Nat) (Ls : List (List (Int × Int))) (w : World) (hn : n ≤ 1000) (h : LsAt w a n c Ls) (hLb : ∀ i, (Ls.getD i []).length ≤ 1000000) :
    Calls Try.prog 20 #[.slice a n c] w fun e w' => e = .returned (.bool (lsOk Ls)) ∧ Below w.heap.size w w' := by
  have H := Lib.hid h
  have hl := h.len
  clear h
  go_enter Try.func20, Try.ntmps20
  go_wp2
  go_loopw [3, 8] (fun tt iv wr => ∃ i tn : Nat, iv = .int .i64 i ∧ tt = .int .i64 tn ∧ i ≤ n ∧ tn ≤ 64 * i ∧ Hid (tn = totL (Ls.take i)) ∧ Hid ((Ls.take i).all ascOk = true) ∧ Below w.heap.size w wr) (fun _ iv _ => n - (intOf iv).toNat)
  case atStart => exact ⟨0, 0, rfl, rfl, by omega, by omega, Lib.hid rfl, Lib.hid rfl, Below.refl _ _⟩
  case round =>
    obtain ⟨i, tn, rfl, rfl, hi, ht, HT, HALL, hb⟩ := hrel
    have HB := Lib.hid hb
    clear hb
    by_cases hlt : i < n
    · have q1 : decide ((i : Int) < (n : Int)) = true := decide_eq_true (by omega)
      obtain ⟨lb, lof, xa, d, rfl, hc, hr⟩ := (H.out.same HB.out).at hlt
      obtain ⟨Lw, hLw⟩ : ∃ Lw, Ls.getD i [] = Lw := ⟨_, rfl⟩
      rw [hLw] at hc hr
      have HLW := Lib.hid hLw
      clear hLw
      have b1 : (0 : Int) ≤ (i : Int) := by omega
      have t1 : ((i : Int)).toNat = i := by omega
      cases hok : ascOk Lw
      · have HF : Hid (lsOk Ls = false) := by
          show _ = _
          unfold lsOk
          rw [all_noK (i := i) (by omega) (by rw [HLW.out]; exact hok)]; rfl
        have hbig : Lw.length ≤ 9223372036854775807 := by have := hLb i; rw [HLW.out] at this; omega
        · have HA := Lib.hid (areAscending_any xa Lw.length d Lw wr hbig hr)
          rw [show (okRecs Lw && upB ltR Lw) = false from hok] at HA
          clear hok hr
          go_wp2_with fail
          refine HA.out.mono ?_
          rintro e w2 ⟨rfl, hb⟩
          have HB2 := Lib.hid (below_tr HB.out hb HB.out.size)
          clear hb
          go_wp2
          go_ret
          exact ⟨ret_bool HF.out.symm, HB2.out⟩
      · have hLl := ascOk_len hok
        have HA := Lib.hid (areAscending_any xa Lw.length d Lw wr (by omega) hr)
        rw [show (okRecs Lw && upB ltR Lw) = true from hok] at HA
        have HOK := Lib.hid hok
        clear hok hr
        go_wp2_with fail
        refine HA.out.mono ?_
        rintro e w2 ⟨rfl, hb⟩
        have HB2 := Lib.hid (below_tr HB.out hb HB.out.size)
        clear hb
        go_wp2
        go_roundw
        case rel => exact ⟨i + 1, tn + Lw.length, by go_num, by go_num, by omega, by omega, Lib.hid (by rw [totL_step (by omega), HLW.out, ← HT.out]), Lib.hid (by rw [all_step (by omega), HALL.out, HLW.out, HOK.out]; rfl), HB2.out⟩
        case measure => simp [intOf] <;> omega
    · obtain rfl : i = n := by omega
      have q1 : decide ((i : Int) < (i : Int)) = false := by simp
      have HE : Hid (lsOk Ls = decide (tn ≤ 64)) := by
        show _ = _
        have h1 := HALL.out
        have h2 := HT.out
        rw [List.take_of_length_le (by omega)] at h1 h2
        unfold lsOk
        rw [h1, h2]; rfl
      go_wp2
      go_ret
      refine ⟨ret_bool ?_, HB.out⟩
      rw [HE.out]
      by_cases h64 : tn ≤ 64
      · rw [decide_eq_true h64, decide_eq_true (by omega)]
      · rw [decide_eq_false h64, decide_eq_false (by omega)]

theorem lsOk_asc {Ls : List (List (Int × Int))} (h : lsOk Ls = true) : (∀ l ∈ Ls, Mg.Asc Mg.ltF l) ∧ Ls.flatten.length ≤ 64 := by
  unfold lsOk at h
  simp only [Bool.and_eq_true, decide_eq_true_eq, List.all_eq_true] at h
  refine ⟨fun l hl => ?_, h.2⟩
  have := h.1 l hl
  unfold ascOk at this
  simp only [Bool.and_eq_true] at this
  exact upB_asc (Mg.swK Prod.fst) this.2
theorem srtP_len (l : List (Int × Int)) : (Mg.srtP l).length = l.length := Mg.srt_length l

end Go.Proofs.Ytcdfinkefahloaa

namespace Go.Proofs.Ytcdfinkefahloaa
open Go.RowKit Go.Sort
set_option linter.unusedVariables false

theorem Try.infoLsE : (Try.prog.info? 27).map (fun i => (i.zero, i.size, i.bytes)) = some (some (.slice none 0 0), 1, 24) := by kernel_rfl
theorem slLs : SlT Try.prog 24 27 (.slice none 0 0) 1 24 := ⟨Try.underlying24, info_parts Try.infoLsE, rfl, by decide, by decide⟩

theorem Rd.grown {w w' : World} {row : Option Nat} {a : Option Addr} {n c : Nat} {L : List (Int × Int)} (h : Rd w a n c L) (hg : w.grownBy w' row) (hne : ∀ b off, a = some ⟨b, off, none⟩ → row ≠ some b) : Rd w' a n c L :=
  ⟨h.recs.grown hg hne, h.len, h.nil, h.cap⟩

/-- A row of headers of the call's own, each list in a block of its own. -/
structure LoH (w : World) (B : Nat) (o : Value) (n : Nat) (hs : List Value) (Ls : List (List (Int × Int))) : Prop where
  own : w.ownsRow B 27 1 o n hs
  hds : Hds w hs Ls
  far : ∀ (j b off m c : Nat), hs[j]? = some (.slice (some ⟨b, off, none⟩) m c) → B ≤ b ∧ o.ownBlock ≠ some b ∧ b < w.heap.size
theorem LoH.len {w : World} {B n : Nat} {o : Value} {hs : List Value} {Ls : List (List (Int × Int))} (h : LoH w B o n hs Ls) : Ls.length = n := by
  rw [← h.hds.1]; have := h.own.1; omega
theorem loH_nil (w : World) : LoH (w.alloc (.cells #[] 27)) w.heap.size (.slice (some ⟨w.heap.size, 0, none⟩) 0 0) 0 [] [] :=
  ⟨own_lit (w := w) (e := 27) (size := 1) #[] 0 (by omega) rfl, hds_nil _, fun j b off m c h => by simp at h⟩
theorem LoH.mono {w : World} {B B' n : Nat} {o : Value} {hs : List Value} {Ls : List (List (Int × Int))} (h : LoH w B o n hs Ls) (hB : B' ≤ B) : LoH w B' o n hs Ls :=
  ⟨own_mono h.own hB, h.hds, fun j b off m c e => ⟨Nat.le_trans hB (h.far j b off m c e).1, (h.far j b off m c e).2⟩⟩
theorem LoH.same {w w' : World} {B n : Nat} {o : Value} {hs : List Value} {Ls : List (List (Int × Int))} (h : LoH w B o n hs Ls) (hb : Below w.heap.size w w') : LoH w' B o n hs Ls :=
  ⟨own_below h.own (Nat.le_refl _) hb, h.hds.same hb, fun j b off m c e => ⟨(h.far j b off m c e).1, (h.far j b off m c e).2.1, Nat.lt_of_lt_of_le (h.far j b off m c e).2.2 hb.size⟩⟩
theorem hds_grown {w w' : World} {row : Option Nat} {hs : List Value} {Ls : List (List (Int × Int))} (h : Hds w hs Ls) (hg : w.grownBy w' row) (hne : ∀ (j b off m c : Nat), hs[j]? = some (.slice (some ⟨b, off, none⟩) m c) → row ≠ some b) : Hds w' hs Ls := by
  refine ⟨h.1, fun j v L h1 h2 => ?_⟩
  obtain ⟨x, c, e, hr⟩ := h.2 j v L h1 h2
  refine ⟨x, c, e, hr.grown hg fun b off e2 => ?_⟩
  subst e e2
  exact hne j b off _ _ h1
theorem LoH.grow {w w' : World} {B n : Nat} {o : Value} {hs : List Value} {Ls : List (List (Int × Int))} {row : Option Nat} (h : LoH w B o n hs Ls) (hg : w.grownBy w' row) (hr : ∀ b, row = some b → b < B) : LoH w' B o n hs Ls :=
  ⟨own_other h.own hg (fun q hq e => by have := (h.own.lt q hq).1; have := hr _ e; omega), hds_grown h.hds hg (fun j b off m c e e2 => by have := (h.far j b off m c e).1; have := hr _ e2; omega), fun j b off m c e => ⟨(h.far j b off m c e).1, (h.far j b off m c e).2.1, Nat.lt_of_lt_of_le (h.far j b off m c e).2.2 hg.size⟩⟩
theorem LoH.app {w w' : World} {B n m c : Nat} {o o' : Value} {hs : List Value} {Ls : List (List (Int × Int))} {x : Option Addr} {L : List (Int × Int)} (h : LoH w B o n hs Ls) (he : Rd w x m c L) (hx : ∀ b off, x = some ⟨b, off, none⟩ → B ≤ b ∧ o.ownBlock ≠ some b ∧ b < w.heap.size)
    (hown : w'.ownsRow B 27 1 o' (n + 1) (hs ++ [.slice x m c])) (hg : w.grownBy w' o.ownBlock) (ht : ∀ b, o'.ownBlock = some b → o.ownBlock = some b ∨ w.heap.size ≤ b) : LoH w' B o' (n + 1) (hs ++ [.slice x m c]) (Ls ++ [L]) := by
  refine ⟨hown, (hds_grown h.hds hg (fun j b off m c e => (h.far j b off m c e).2.1)).snoc (hdAt_rd (he.grown hg (fun b off e => (hx b off e).2.1))), fun j b off m2 c2 e => ?_⟩
  rcases Nat.lt_or_ge j hs.length with hj | hj
  · rw [List.getElem?_append_left hj] at e
    obtain ⟨f1, f2, f3⟩ := h.far j b off m2 c2 e
    refine ⟨f1, fun e2 => ?_, Nat.lt_of_lt_of_le f3 hg.size⟩
    rcases ht b e2 with h1 | h1
    · exact f2 h1
    · omega
  · rw [List.getElem?_append_right hj] at e
    obtain ⟨i, hi⟩ : ∃ i, j - hs.length = i := ⟨_, rfl⟩
    rw [hi] at e
    cases i with
    | zero =>
      simp at e
      obtain ⟨f1, f2, f3⟩ := hx b off e.1
      refine ⟨f1, fun e2 => ?_, Nat.lt_of_lt_of_le f3 hg.size⟩
      rcases ht b e2 with h1 | h1
      · exact f2 h1
      · omega
    | succ i => simp at e
theorem LoH.ls {w : World} {B n c : Nat} {a : Option Addr} {hs : List Value} {Ls : List (List (Int × Int))} (h : LoH w B (.slice a n c) n hs Ls) : LsAt w a n c Ls := lsAt_own h.own h.hds
/-- A list that the call owns. -/
theorem own_far' {w : World} {S m c : Nat} {e : TypeId} {x : Option Addr} {vs : List Value} {size : Nat} (h : w.ownsRow S e size (.slice x m c) m vs) : ∀ b off, x = some ⟨b, off, none⟩ → S ≤ b ∧ b < w.heap.size := fun b off e => by
  subst e; exact h.lt b rfl

theorem getD_snoc_le {Ls : List (List (Int × Int))} {L : List (Int × Int)} {B : Nat} (h : ∀ i, (Ls.getD i []).length ≤ B) (hL : L.length ≤ B) : ∀ i, ((Ls ++ [L]).getD i []).length ≤ B := by
  intro i
  rcases Nat.lt_or_ge i Ls.length with hi | hi
  · rw [List.getD_eq_getElem?_getD, List.getElem?_append_left hi, ← List.getD_eq_getElem?_getD]; exact h i
  · rw [List.getD_eq_getElem?_getD, List.getElem?_append_right hi]
    obtain ⟨j, hj⟩ : ∃ j, i - Ls.length = j := ⟨_, rfl⟩
    rw [hj]
    cases j with
    | zero => simpa using hL
    | succ j => simp

end Go.Proofs.Ytcdfinkefahloaa

namespace Go.Proofs.Ytcdfinkefahloaa
open Go.RowKit Go.Sort
set_option linter.unusedVariables false

theorem ints_takeP {w : World} {x : Addr} {p : List Int} (h : IntsAt w (some x) p) (i : Nat) : IntsAt w (some x) (p.take i) := by
  rcases h with rfl | ⟨b', off', e, h0, h1⟩
  · exact .inl (by simp)
  · refine .inr ⟨b', off', e, h0, fun j hj => ?_⟩
    have hj2 : j < i ∧ j < p.length := by simp at hj; omega
    rw [h1 j hj2.2]
    simp [List.getD, hj2.1]
theorem ints_grownP {w w' : World} {row : Option Nat} {a : Option Addr} {l : List Int} (h : IntsAt w a l) (hg : w.grownBy w' row) (hne : ∀ b off, a = some ⟨b, off, none⟩ → row ≠ some b) : IntsAt w' a l := by
  rcases h with h | ⟨b, off, e, h1, h2⟩
  · exact .inl h
  · refine .inr ⟨b, off, e, Nat.lt_of_lt_of_le h1 hg.size, fun j hj => ?_⟩
    have := hg.block b h1 (Ne.symm (hne b off e))
    rw [← h2 j hj]
    simp only [World.cell?, this]

set_option maxRecDepth 100000 in
set_option maxHeartbeats 4000000 in
theorem tapes_any (bc : Nat) (ac : Option Addr) (cs : List Int) (M : Int) (w : World) (hM : M ≤ 1099511400000) (h : Cur w bc ac cs M) :
    Calls Try.prog 17 #[.pointer (some ⟨bc, 0, none⟩)] w fun e w' => (∃ x : Int, e = .returned (.int .i64 x) ∧ 2 ≤ x ∧ x ≤ 9) ∧ Cur w' bc ac cs (M + 4) ∧ w.grownBy w' (some bc) := by
  have hbc := h.lt
  have hbn := belowNew w (.cells #[.int .i64 3, .int .i64 3, .int .i64 4, .int .i64 5, .int .i64 6, .int .i64 8, .int .i64 2, .int .i64 9] 3)
  have HC := Lib.hid (h.below hbn)
  have HG := Lib.hid (grown_of_below (row := some bc) hbn)
  clear h hbn
  go_enter Try.func17, Try.ntmps17
  go_wp2_with fail
  refine (pick_any bc ac cs M 9 _ (by omega) (by omega) HC.out).mono ?_
  rintro e w1 ⟨⟨z, rfl, hz0, hz1⟩, hc, hg⟩
  have HC1 := Lib.hid hc
  have HG1 := Lib.hid (grown_trans HG.out hg)
  have HIa := Lib.hid (ints_grownP (lit_ints w [3, 3, 4, 5, 6, 8, 2, 9] (by decide)) hg (fun b off e e2 => by injection e with e; injection e with e; injection e2 with e2; omega))
  obtain ⟨v, hv⟩ : ∃ v : Int, z.tdiv 4 = v := ⟨_, rfl⟩
  have hv2 : 0 ≤ v ∧ v ≤ 2 := by rw [← hv, Int.tdiv_eq_ediv_of_nonneg hz0]; omega
  obtain ⟨hv0, hv1⟩ := hv2
  obtain ⟨q, hq⟩ : ∃ q : Nat, (6 + v).toNat = q := ⟨_, rfl⟩
  have hq2 : 6 ≤ q ∧ q ≤ 8 := by omega
  have hyl : ([3, 3, 4, 5, 6, 8, 2, 9].take q : List Int).length = q := by simp; omega
  have AM := among_any bc ac cs _ _ 8 ([3, 3, 4, 5, 6, 8, 2, 9].take q) w1 (by omega) (by omega) (by omega) HC1.out (ints_takeP HIa.out q) (fun b off e => by injection e with e; injection e with e; omega)
  rw [hyl] at AM
  have HAM := Lib.hid AM
  clear AM hc hg HC HG HIa hz0 hz1
  go_wp2_with fail
  refine HAM.out.mono ?_
  rintro e wb ⟨⟨x, rfl, hx⟩, hc, hg⟩
  have hx2 : 2 ≤ x ∧ x ≤ 9 := by
    have := List.mem_of_mem_take hx
    simp at this; omega
  have HCE := Lib.hid hc
  have HGE := Lib.hid (grown_trans HG1.out hg)
  clear hc hg hx HAM HC1 HG1
  go_wp2
  go_ret
  exact ⟨⟨x, rfl, hx2.1, hx2.2⟩, HCE.out.mono (by omega), HGE.out⟩

/-- Lists of runs and a number of tapes, drawn. -/
def PmDraw (w : World) (e : Ending) (w' : World) : Prop :=
  ∃ (a : Option Addr) (n c : Nat) (t : Int) (Ls : List (List (Int × Int))) (hs : List Value), e = .returned (.tuple #[.slice a n c, .int .i64 t]) ∧ 2 ≤ t ∧ t ≤ 9 ∧ LsAt w' a n c Ls ∧ ValsAt w' a hs ∧ Hds w' hs Ls ∧ (∀ v ∈ hs, ∀ b, v.ownBlock = some b → b < w'.heap.size) ∧ n ≤ 60 ∧ (∀ i, (Ls.getD i []).length ≤ 70) ∧ Below w.heap.size w w'
/-- A slice that stands in no spot of a cell. -/
def SpN (x : Option Addr) : Prop := ∀ p, x = some p → p.spot = none
def SpL (hs : List Value) : Prop := ∀ v ∈ hs, ∀ x n c, v = .slice x n c → SpN x
theorem spN_some (b off : Nat) : SpN (some ⟨b, off, none⟩) := fun p e => by injection e with e; subst e; rfl
theorem spN_own {w : World} {S m c size : Nat} {e : TypeId} {x : Option Addr} {vs : List Value} (h : w.ownsRow S e size (.slice x m c) m vs) : SpN x := fun p e2 => by
  subst e2
  rcases h.2 with ⟨hv, _⟩ | ⟨g, cap, cur, hv, _⟩
  · injection hv with h1; cases h1
  · injection hv with h1; injection h1 with h1; subst h1; rfl
theorem SpL.snoc {hs : List Value} (h : SpL hs) {x : Option Addr} (hx : SpN x) (m c : Nat) : SpL (hs ++ [.slice x m c]) := fun v hv y n d e => by
  rcases List.mem_append.1 hv with h1 | h1
  · exact h v h1 y n d e
  · rw [List.mem_singleton.1 h1] at e
    injection e with e
    subst e; exact hx
theorem LoH.blk {w : World} {B n c : Nat} {a : Option Addr} {hs : List Value} {Ls : List (List (Int × Int))} (h : LoH w B (.slice a n c) n hs Ls) (hsp : SpL hs) : ∀ v ∈ hs, ∀ b, v.ownBlock = some b → b < w.heap.size := fun v hv b hb => by
  obtain ⟨j, hj⟩ := List.mem_iff_getElem?.1 hv
  have hj2 : j < hs.length := (List.getElem?_eq_some_iff.1 hj).1
  have hj3 : j < Ls.length := by rw [← h.hds.1]; exact hj2
  obtain ⟨x, c2, e, hr⟩ := h.hds.2 j v Ls[j] hj (List.getElem?_eq_getElem hj3)
  subst e
  cases x with
  | none => cases hb
  | some y =>
    obtain ⟨b1, off, s⟩ := y
    cases s with
    | some s => exact absurd (hsp _ hv _ _ _ rfl _ rfl) (by simp)
    | none =>
      injection hb with hb
      have h9 : b1 = b := hb
      subst h9
      exact (h.far j b1 off _ c2 hj).2.2

set_option maxRecDepth 100000 in
set_option maxHeartbeats 8000000 in
theorem drawPolyMerge_any (ac : Option Addr) (c : Nat) (cs : List Int) (w : World) (hl : cs.length ≤ 65537) (h : BytesAt w ac cs) :
    Calls Try.prog 5 #[.slice ac cs.length c] w (PmDraw w) := by
  obtain ⟨h1, h2, h3⟩ := cur_start (c := c) hl h
  obtain ⟨w1, hw1⟩ : ∃ W, W = w.alloc (.cells #[.slice ac cs.length c, .int .i64 0, .int .u64 0] 41) := ⟨_, rfl⟩
  rw [← hw1] at h1 h3
  have hsz : w1.heap.size = w.heap.size + 1 := by rw [hw1]; simp
  have hD0 : Drawn w1 w1 w.heap.size ac cs 0 := ⟨h1, grown_refl _ _, by omega, fun h0 b off e => by have := h2 h0 b off e; omega⟩
  have HD1 := Lib.hid (hD0.below (belowNew w1 (.cells #[] 27)))
  have HL1 := Lib.hid (loH_nil w1)
  have HB1 := Lib.hid h3
  subst hw1
  clear h h1 h2 h3 hD0
  unfold PmDraw
  go_enter Try.func5, Try.ntmps5
  go_wp2_with fail
  refine (pick_any w.heap.size ac cs 0 9 _ (by omega) (by omega) HD1.out.cur).mono ?_
  rintro e w2 ⟨⟨r, rfl, hr0, hr1⟩, hc, hg⟩
  have HD2 := Lib.hid (HD1.out.step hc hg)
  have HL2 := Lib.hid (HL1.out.grow hg (fun b e => by injection e with e; omega))
  clear hc hg HD1 HL1
  rw [hsz] at HL2
  have hwsz : w.heap.size < (w.alloc (.cells #[.slice ac cs.length c, .int .i64 0, .int .u64 0] 41)).heap.size := by omega
  generalize w.alloc (.cells #[.slice ac cs.length c, .int .i64 0, .int .u64 0] 41) = w1 at HD2 HB1 hwsz hsz
  go_wp2_with fail
  go_loopw [5, 6, 7] (fun o lv iv wr => ∃ (x lf : Int) (n : Nat) (hs : List Value) (Ls : List (List (Int × Int))), iv = .int .i64 x ∧ lv = .int .i64 lf ∧ 0 ≤ x ∧ (n : Int) + x ≤ 9 ∧ lf ≤ 64 ∧ 64 ≤ lf + 6 * (n : Int) ∧ LoH wr (w.heap.size + 1) o n hs Ls ∧ Hid (∀ i, (Ls.getD i []).length ≤ 70) ∧ Hid (SpL hs) ∧ Drawn w1 wr w.heap.size ac cs (1000 * (n : Int) + 10)) (fun _ _ iv _ => (intOf iv + 1).toNat)
  case atStart => exact ⟨1 + r, 64, 0, [], [], rfl, rfl, by omega, by omega, by omega, by omega, HL2.out, Lib.hid (fun i => by simp), Lib.hid (fun v hv => (by simp at hv)), HD2.out.mono (by omega)⟩
  case round =>
    obtain ⟨x, lf, n, hs, Ls, rfl, rfl, hx0, hx4, hlf1, hlf2, hlo, HLB, HSP, hd⟩ := hrel
    have HL3 := Lib.hid hlo; have HD3 := Lib.hid hd
    obtain ⟨oa, oc, rfl⟩ := own_slice hlo.own
    clear hlo hd HL2 HD2
    have hn5 : n ≤ 9 := by omega
    by_cases hx : 0 < x
    · have q1 : decide ((0 : Int) < x) = true := decide_eq_true hx
      have hh : cs ≠ [] → ∀ b off, ac = some ⟨b, off, none⟩ → b < wr.heap.size := fun h0 b off e => by
        have h1 := HD3.out.old.2 h0 b off e
        have h2 := HD3.out.grown.size
        omega
      have HRC := Lib.hid (records_any w.heap.size ac cs _ wr (by omega) HD3.out.cur hh)
      clear hh
      go_wp2_with fail
      refine HRC.out.mono ?_
      rintro e w3 ⟨a1, c1, L, rfl, ho, hl1, hD⟩
      have HD4 : Hid (Drawn w1 w3 w.heap.size ac cs (1000 * (n : Int) + 10 + 200)) := ⟨hD.cur, grown_trans HD3.out.grown hD.grown, HD3.out.old⟩
      have HL4 := Lib.hid (HL3.out.grow hD.grown (fun b e => by injection e with e; omega))
      have hsz3 := hD.grown.size
      have hobs : ∀ b, (Value.slice oa n oc).ownBlock = some b → b < wr.heap.size := fun b e => (HL3.out.own.lt b e).2
      have hBw : w.heap.size + 1 ≤ wr.heap.size := by have := HD3.out.grown.size; omega
      have HE : Hid (Rd w3 a1 L.length c1 L ∧ ∀ b off, a1 = some ⟨b, off, none⟩ → wr.heap.size ≤ b ∧ b < w3.heap.size) := ⟨rd_own ho, own_far' ho⟩
      have HSA := Lib.hid (spN_own ho)
      clear ho hD HRC HL3 HD3
      obtain ⟨m, hm⟩ : ∃ m, L.length = m := ⟨_, rfl⟩
      rw [hm] at HE hl1
      rw [hm]
      by_cases h7 : 6 < m
      case' pos =>
        have q7 : decide ((6 : Int) < (m : Int)) = true := decide_eq_true (by omega)
        have hcap := HE.out.1.cap
        obtain ⟨b, off, rfl, _⟩ := recs_addr HE.out.1.recs (by omega)
        have b7 : (6 : Int) ≤ (c1 : Int) := by omega
        have HE2 : Hid (Rd w3 (some ⟨b, off, none⟩) 6 c1 (L.take 6) ∧ ∀ b' off', (some ⟨b, off, none⟩ : Option Addr) = some ⟨b', off', none⟩ → wr.heap.size ≤ b' ∧ b' < w3.heap.size) := ⟨rd_lo HE.out.1 (by omega), HE.out.2⟩
        clear HE hcap
        go_wp2_with fail
      case' neg =>
        have q7 : decide ((6 : Int) < (m : Int)) = false := decide_eq_false (by omega)
        have hm6 : m ≤ 6 := by omega
        have HE2 := HE
        clear HE
        go_wp2_with fail
      all_goals
        refine (one_any w.heap.size ac cs _ 40 _ ?h1 (by omega) HD4.out.cur).mono ?_
        case h1 => omega
        rintro e w4 ⟨⟨b4, rfl⟩, hc, hg⟩
        have HD5 := Lib.hid (HD4.out.step hc hg)
        have HL5 := Lib.hid (HL4.out.grow hg (fun b e => by injection e with e; omega))
        have HE5 := Lib.hid (And.intro (HE2.out.1.grown hg (fun b off e e2 => by injection e2 with e2; have := (HE2.out.2 b off e).1; omega)) (fun b off e => And.intro (HE2.out.2 b off e).1 (Nat.lt_of_lt_of_le (HE2.out.2 b off e).2 hg.size)))
        have hs34 := hg.size
        clear hc hg HD4 HL4 HE2
        have hbs := HD5.out.grown.size
        have hn1 : n + 1 ≤ 1099511627776 := by omega
        cases b4
      case neg.false =>
        have HST := Lib.hid (l2StableR_any (a1) c1 (L) w4 (by have := HE5.out.1.len; omega) HE5.out.1.recs HE5.out.1.nil)
        rw [show (L).length = m from HE5.out.1.len] at HST
        go_wp2_with fail
        refine HST.out.mono ?_
        rintro e w5 ⟨g6, c6, rfl, ho, hb⟩
        have HE6 : Hid (Rd w5 (some ⟨g6, 0, none⟩) m c6 (srtR (L)) ∧ ∀ b off, (some ⟨g6, 0, none⟩ : Option Addr) = some ⟨b, off, none⟩ → wr.heap.size ≤ b ∧ b < w5.heap.size) := ⟨rd_own ho, fun b off e => by have := own_far' ho b off e; omega⟩
        have HL6 := Lib.hid (HL5.out.same hb); have HD6 := Lib.hid (HD5.out.below hb)
        clear ho hb HST HE5 HL5 HD5
        have hbs5 := HE6.out.2
        have hw5 := HD6.out.grown.size
        go_wp2_with (at_builtin; refine wpList_app1 (v := .slice oa n oc) slLs rfl _ _ rfl rfl HL6.out.own [.slice (some ⟨g6, 0, none⟩) m c6] rfl rfl (by simp) (by simp [Value.oneCell']) hn1 (by omega) ?_; intro v' w7 hown' hg' ht'; generalize hGG : wpList _ _ _ _ _ _ = GG)
        have HL7 := Lib.hid (HL6.out.app HE6.out.1 (fun b off e => ⟨by have := HE6.out.2 b off e; omega, fun e2 => by have := HE6.out.2 b off e; have := hobs b e2; omega, (HE6.out.2 b off e).2⟩) hown' hg' (fun b e => ht'.elim (fun h => .inl (h ▸ e)) (fun h => .inr (by rw [h] at e; injection e with e; omega))))
        have HD7 := Lib.hid (HD6.out.app HL6.out.own (by omega) hg')
        have hle7 := HE6.out.1.len
        have HSP7 := Lib.hid (HSP.out.snoc (spN_some g6 0) m c6)
        have HLB7 := Lib.hid (getD_snoc_le (L := srtR (L)) (B := 70) HLB.out (by rw [hle7]; omega))
        clear hown' hg' ht' HL6 HD6 HE6
        subst hGG
        go_wp2
        go_roundw
        case rel => exact ⟨x - 1, lf - (m : Int), n + 1, _, _, by go_num, by go_num, by omega, by omega, by omega, by omega, HL7.out, HLB7, HSP7, HD7.out.mono (by omega)⟩
        case measure => simp [intOf] <;> omega
      case neg.true =>
        have HE6 := HE5; have HL6 := HL5; have HD6 := HD5
        clear HE5 HL5 HD5
        have hbs5 := HE6.out.2
        have hw5 := HD6.out.grown.size
        go_wp2_with (at_builtin; refine wpList_app1 (v := .slice oa n oc) slLs rfl _ _ rfl rfl HL6.out.own [.slice (a1) m c1] rfl rfl (by simp) (by simp [Value.oneCell']) hn1 (by omega) ?_; intro v' w7 hown' hg' ht'; generalize hGG : wpList _ _ _ _ _ _ = GG)
        have HL7 := Lib.hid (HL6.out.app HE6.out.1 (fun b off e => ⟨by have := HE6.out.2 b off e; omega, fun e2 => by have := HE6.out.2 b off e; have := hobs b e2; omega, (HE6.out.2 b off e).2⟩) hown' hg' (fun b e => ht'.elim (fun h => .inl (h ▸ e)) (fun h => .inr (by rw [h] at e; injection e with e; omega))))
        have HD7 := Lib.hid (HD6.out.app HL6.out.own (by omega) hg')
        have hle7 := HE6.out.1.len
        have HSP7 := Lib.hid (HSP.out.snoc HSA.out m c1)
        have HLB7 := Lib.hid (getD_snoc_le (L := L) (B := 70) HLB.out (by rw [hle7]; omega))
        clear hown' hg' ht' HL6 HD6 HE6
        subst hGG
        go_wp2
        go_roundw
        case rel => exact ⟨x - 1, lf - (m : Int), n + 1, _, _, by go_num, by go_num, by omega, by omega, by omega, by omega, HL7.out, HLB7, HSP7, HD7.out.mono (by omega)⟩
        case measure => simp [intOf] <;> omega
      case pos.false =>
        have HST := Lib.hid (l2StableR_any (some ⟨b, off, none⟩) c1 (L.take 6) w4 (by have := HE5.out.1.len; omega) HE5.out.1.recs HE5.out.1.nil)
        rw [show (L.take 6).length = 6 from HE5.out.1.len] at HST
        go_wp2_with fail
        refine HST.out.mono ?_
        rintro e w5 ⟨g6, c6, rfl, ho, hb⟩
        have HE6 : Hid (Rd w5 (some ⟨g6, 0, none⟩) 6 c6 (srtR (L.take 6)) ∧ ∀ b off, (some ⟨g6, 0, none⟩ : Option Addr) = some ⟨b, off, none⟩ → wr.heap.size ≤ b ∧ b < w5.heap.size) := ⟨rd_own ho, fun b off e => by have := own_far' ho b off e; omega⟩
        have HL6 := Lib.hid (HL5.out.same hb); have HD6 := Lib.hid (HD5.out.below hb)
        clear ho hb HST HE5 HL5 HD5
        have hbs5 := HE6.out.2
        have hw5 := HD6.out.grown.size
        go_wp2_with (at_builtin; refine wpList_app1 (v := .slice oa n oc) slLs rfl _ _ rfl rfl HL6.out.own [.slice (some ⟨g6, 0, none⟩) 6 c6] rfl rfl (by simp) (by simp [Value.oneCell']) hn1 (by omega) ?_; intro v' w7 hown' hg' ht'; generalize hGG : wpList _ _ _ _ _ _ = GG)
        have HL7 := Lib.hid (HL6.out.app HE6.out.1 (fun b off e => ⟨by have := HE6.out.2 b off e; omega, fun e2 => by have := HE6.out.2 b off e; have := hobs b e2; omega, (HE6.out.2 b off e).2⟩) hown' hg' (fun b e => ht'.elim (fun h => .inl (h ▸ e)) (fun h => .inr (by rw [h] at e; injection e with e; omega))))
        have HD7 := Lib.hid (HD6.out.app HL6.out.own (by omega) hg')
        have hle7 := HE6.out.1.len
        have HSP7 := Lib.hid (HSP.out.snoc (spN_some g6 0) 6 c6)
        have HLB7 := Lib.hid (getD_snoc_le (L := srtR (L.take 6)) (B := 70) HLB.out (by rw [hle7]; omega))
        clear hown' hg' ht' HL6 HD6 HE6
        subst hGG
        go_wp2
        go_roundw
        case rel => exact ⟨x - 1, lf - (6 : Int), n + 1, _, _, by go_num, by go_num, by omega, by omega, by omega, by omega, HL7.out, HLB7, HSP7, HD7.out.mono (by omega)⟩
        case measure => simp [intOf] <;> omega
      case pos.true =>
        have HE6 := HE5; have HL6 := HL5; have HD6 := HD5
        clear HE5 HL5 HD5
        have hbs5 := HE6.out.2
        have hw5 := HD6.out.grown.size
        go_wp2_with (at_builtin; refine wpList_app1 (v := .slice oa n oc) slLs rfl _ _ rfl rfl HL6.out.own [.slice (some ⟨b, off, none⟩) 6 c1] rfl rfl (by simp) (by simp [Value.oneCell']) hn1 (by omega) ?_; intro v' w7 hown' hg' ht'; generalize hGG : wpList _ _ _ _ _ _ = GG)
        have HL7 := Lib.hid (HL6.out.app HE6.out.1 (fun b off e => ⟨by have := HE6.out.2 b off e; omega, fun e2 => by have := HE6.out.2 b off e; have := hobs b e2; omega, (HE6.out.2 b off e).2⟩) hown' hg' (fun b e => ht'.elim (fun h => .inl (h ▸ e)) (fun h => .inr (by rw [h] at e; injection e with e; omega))))
        have HD7 := Lib.hid (HD6.out.app HL6.out.own (by omega) hg')
        have hle7 := HE6.out.1.len
        have HSP7 := Lib.hid (HSP.out.snoc (spN_some b off) 6 c1)
        have HLB7 := Lib.hid (getD_snoc_le (L := L.take 6) (B := 70) HLB.out (by rw [hle7]; omega))
        clear hown' hg' ht' HL6 HD6 HE6
        subst hGG
        go_wp2
        go_roundw
        case rel => exact ⟨x - 1, lf - (6 : Int), n + 1, _, _, by go_num, by go_num, by omega, by omega, by omega, by omega, HL7.out, HLB7, HSP7, HD7.out.mono (by omega)⟩
        case measure => simp [intOf] <;> omega
    · have q1 : decide ((0 : Int) < x) = false := decide_eq_false hx
      go_wp2_with fail
      refine (pick_any w.heap.size ac cs _ 24 _ ?h2 (by omega) HD3.out.cur).mono ?_
      case h2 => omega
      rintro e w4 ⟨⟨y, rfl, hy0, hy1⟩, hc, hg⟩
      have HD4 := Lib.hid (HD3.out.step hc hg)
      have HL4 := Lib.hid (HL3.out.grow hg (fun b e => by injection e with e; omega))
      clear hc hg HD3 HL3
      by_cases hy : y = 0
      · have q2 : (y == 0) = true := by simp [hy]
        have HTP := Lib.hid (tapes_any w.heap.size ac cs _ _ (by omega) HD4.out.cur)
        clear hy
        go_wp2_with fail
        refine HTP.out.mono ?_
        rintro e wz ⟨⟨tz, rfl, htz0, htz1⟩, hc, hg⟩
        have HDz := Lib.hid (HD4.out.step hc hg)
        have hszz := HDz.out.grown.size
        have HZ : Hid (LsAt wz none 0 0 []) := ⟨⟨[], .inl rfl, hds_nil _⟩, rfl, fun _ => rfl, Nat.le_refl _⟩
        clear hc hg HTP
        go_wp2
        go_ret2
        exact ⟨_, _, _, tz, [], [], rfl, htz0, htz1, HZ.out, .inl rfl, hds_nil _, fun v hv => (by simp at hv), by omega, fun i => by simp, HB1.out.grown HDz.out.grown (by omega) (fun k hk => by injection hk with hk; omega)⟩
      have q2 : (y == 0) = false := by simpa using hy
      by_cases hy1' : y = 1
      · have q3 : (y == 1) = true := by simp [hy1']
        clear hy hy1' hy0 hy1
        go_wp2_with fail
        go_loopw [5] (fun o wr => ∃ (n : Nat) (hs : List Value) (Ls : List (List (Int × Int))), n ≤ 42 ∧ LoH wr (w.heap.size + 1) o n hs Ls ∧ Hid (∀ i, (Ls.getD i []).length ≤ 70) ∧ Hid (SpL hs) ∧ Drawn w1 wr w.heap.size ac cs (10000 + 10 * (n : Int))) (fun o _ => 44 - lenV o)
        case atStart => exact ⟨n, hs, Ls, by omega, HL4.out, HLB, HSP, HD4.out.mono (by omega)⟩
        case round =>
          obtain ⟨n, hs, Ls, hn18, hlo, HLB, HSP, hd⟩ := hrel
          have HL5 := Lib.hid hlo; have HD5 := Lib.hid hd
          obtain ⟨oa, oc, rfl⟩ := own_slice hlo.own
          clear hlo hd HL4 HD4
          go_wp2_with fail
          refine (pick_any w.heap.size ac cs _ 2 _ ?h3 (by omega) HD5.out.cur).mono ?_
          case h3 => omega
          rintro e w5 ⟨⟨z, rfl, hz0, hz1⟩, hc, hg⟩
          have HD6 := Lib.hid (HD5.out.step hc hg)
          have HL6 := Lib.hid (HL5.out.grow hg (fun b e => by injection e with e; omega))
          clear hc hg HD5 HL5
          by_cases hlt : (n : Int) < 40 + z
          · have q4 : decide ((n : Int) < 40 + z) = true := decide_eq_true hlt
            go_wp2_with fail
            refine (pick_any w.heap.size ac cs _ 4 _ ?h4 (by omega) HD6.out.cur).mono ?_
            case h4 => omega
            rintro e w6 ⟨⟨u, rfl, hu0, hu1⟩, hc, hg⟩
            have HD7 := Lib.hid ((HD6.out.step hc hg).below (belowNew w6 (.cells #[.int .i64 u, .int .i64 (n : Int)] 32)))
            have HL7 := Lib.hid ((HL6.out.grow hg (fun b e => by injection e with e; omega)).same (belowNew w6 (.cells #[.int .i64 u, .int .i64 (n : Int)] 32)))
            have hobs : ∀ b, (Value.slice oa n oc).ownBlock = some b → b < w6.heap.size := fun b e => Nat.lt_of_lt_of_le (HL6.out.own.lt b e).2 hg.size
            have hB6 : w.heap.size + 1 ≤ w6.heap.size := by have := (HD6.out.step hc hg).grown.size; omega
            have hoe := own_lit (w := w6) (e := 32) (size := 2) #[.int .i64 u, .int .i64 (n : Int)] 1 (by omega) rfl
            have HE : Hid (Rd (w6.alloc (.cells #[.int .i64 u, .int .i64 (n : Int)] 32)) (some ⟨w6.heap.size, 0, none⟩) 1 1 [(u, (n : Int))]) := rd_own (B := w6.heap.size) hoe
            have hn1 : n + 1 ≤ 1099511627776 := by omega
            have hsza : (w6.alloc (.cells #[.int .i64 u, .int .i64 (n : Int)] 32)).heap.size = w6.heap.size + 1 := by simp
            clear hc hg HD6 HL6 hoe
            go_wp2_with (at_builtin; refine wpList_app1 (v := .slice oa n oc) slLs rfl _ _ rfl rfl HL7.out.own [.slice (some ⟨w6.heap.size, 0, none⟩) 1 1] rfl rfl (by simp) (by simp [Value.oneCell']) hn1 (by omega) ?_; intro v' w7 hown' hg' ht'; generalize hGG : wpList _ _ _ _ _ _ = GG)
            have HL8 := Lib.hid (HL7.out.app HE.out (fun b off e => by injection e with e; injection e with e1 e2; exact ⟨by omega, fun e3 => by have := hobs b e3; omega, by omega⟩) hown' hg' (fun b e => ht'.elim (fun h => .inl (h ▸ e)) (fun h => .inr (by rw [h] at e; injection e with e; omega))))
            have HD8 := Lib.hid (HD7.out.app HL7.out.own (by omega) hg')
            have HSP8 := Lib.hid (HSP.out.snoc (spN_some w6.heap.size 0) 1 1)
            have HLB8 := Lib.hid (getD_snoc_le (L := [(u, (n : Int))]) (B := 70) HLB.out (by simp))
            obtain ⟨a8, c8, rfl⟩ := own_slice hown'
            clear hown' hg' ht' HL7 HD7 HE
            subst hGG
            go_wp2
            go_roundw
            case rel => exact ⟨n + 1, _, _, by omega, HL8.out, HLB8, HSP8, HD8.out.mono (by omega)⟩
            case measure => simp only [lenV] <;> omega
          · have q4 : decide ((n : Int) < 40 + z) = false := decide_eq_false hlt
            have hszw := HD6.out.grown.size
            have HTP := Lib.hid (tapes_any w.heap.size ac cs _ _ (by omega) HD6.out.cur)
            go_wp2_with fail
            refine HTP.out.mono ?_
            rintro e wz ⟨⟨tz, rfl, htz0, htz1⟩, hc, hg⟩
            have HDz := Lib.hid (HD6.out.step hc hg)
            have HLz := Lib.hid (HL6.out.grow hg (fun b e => by injection e with e; omega))
            have hszz := HDz.out.grown.size
            clear hc hg HTP
            go_wp2
            go_ret2
            exact ⟨_, _, _, tz, _, _, rfl, htz0, htz1, HLz.out.ls, vals_own HLz.out.own, HLz.out.hds, HLz.out.blk HSP.out, by omega, HLB.out, HB1.out.grown HDz.out.grown (by omega) (fun k hk => by injection hk with hk; omega)⟩
      have q3 : (y == 1) = false := by simpa using hy1'
      by_cases hy2 : y = 2
      · have q5 : (y == 2) = true := by simp [hy2]
        have hh : cs ≠ [] → ∀ b off, ac = some ⟨b, off, none⟩ → b < w4.heap.size := fun h0 b off e => by
          have h1 := HD4.out.old.2 h0 b off e
          have h2 := HD4.out.grown.size
          omega
        have HRC := Lib.hid (anyRecords_any w.heap.size ac cs _ w4 (by omega) HD4.out.cur hh)
        clear hy hy1' hy2 hh
        go_wp2_with fail
        refine HRC.out.mono ?_
        rintro e w5 ⟨a1, c1, L, rfl, ho, hl1, hD⟩
        have HD5 : Hid (Drawn w1 w5 w.heap.size ac cs (1000 * (n : Int) + 10 + 2 + 1000)) := ⟨hD.cur, grown_trans HD4.out.grown hD.grown, HD4.out.old⟩
        have HL5 := Lib.hid (HL4.out.grow hD.grown (fun b e => by injection e with e; omega))
        have hobs : ∀ b, (Value.slice oa n oc).ownBlock = some b → b < w4.heap.size := fun b e => (HL4.out.own.lt b e).2
        have hB4 : w.heap.size + 1 ≤ w4.heap.size := by have := HD4.out.grown.size; omega
        have hs45 := hD.grown.size
        have HE : Hid (Rd w5 a1 L.length c1 L ∧ ∀ b off, a1 = some ⟨b, off, none⟩ → w4.heap.size ≤ b ∧ b < w5.heap.size) := ⟨rd_own ho, own_far' ho⟩
        have hn1 : n + 1 ≤ 1099511627776 := by omega
        have HSA := Lib.hid (spN_own ho)
        clear ho hD HRC HL4 HD4
        obtain ⟨m, hm⟩ : ∃ m, L.length = m := ⟨_, rfl⟩
        rw [hm] at HE hl1
        rw [hm]
        go_wp2_with (at_builtin; refine wpList_app1 (v := .slice oa n oc) slLs rfl _ _ rfl rfl HL5.out.own [.slice a1 m c1] rfl rfl (by simp) (by simp [Value.oneCell']) hn1 (by omega) ?_; intro v' w7 hown' hg' ht'; generalize hGG : wpList _ _ _ _ _ _ = GG)
        have HL8 := Lib.hid (HL5.out.app HE.out.1 (fun b off e => ⟨by have := HE.out.2 b off e; omega, fun e3 => by have := HE.out.2 b off e; have := hobs b e3; omega, (HE.out.2 b off e).2⟩) hown' hg' (fun b e => ht'.elim (fun h => .inl (h ▸ e)) (fun h => .inr (by rw [h] at e; injection e with e; omega))))
        have HD8 := Lib.hid (HD5.out.app HL5.out.own (by omega) hg')
        have HSP8 := Lib.hid (HSP.out.snoc HSA.out m c1)
        have HLB8 := Lib.hid (getD_snoc_le (L := L) (B := 70) HLB.out (by omega))
        obtain ⟨a8, c8, rfl⟩ := own_slice hown'
        have hszw := HD8.out.grown.size
        clear hown' hg' ht' HL5 HD5 HE
        subst hGG
        have HTP := Lib.hid (tapes_any w.heap.size ac cs _ _ (by omega) HD8.out.cur)
        go_wp2_with fail
        refine HTP.out.mono ?_
        rintro e wz ⟨⟨tz, rfl, htz0, htz1⟩, hc, hg⟩
        have HDz := Lib.hid (HD8.out.step hc hg)
        have HLz := Lib.hid (HL8.out.grow hg (fun b e => by injection e with e; omega))
        have hszz := HDz.out.grown.size
        clear hc hg HTP
        go_wp2
        go_ret2
        exact ⟨_, _, _, tz, _, _, rfl, htz0, htz1, HLz.out.ls, vals_own HLz.out.own, HLz.out.hds, HLz.out.blk HSP8.out, by omega, HLB8.out, HB1.out.grown HDz.out.grown (by omega) (fun k hk => by injection hk with hk; omega)⟩
      have q5 : (y == 2) = false := by simpa using hy2
      by_cases hy3 : y = 3
      · have q6 : (y == 3) = true := by simp [hy3]
        clear hy hy1' hy2 hy3 hy0 hy1
        go_wp2_with fail
        go_loopw [5, 9] (fun o iv wr => ∃ (n : Nat) (x : Int) (hs : List Value) (Ls : List (List (Int × Int))), iv = .int .i64 x ∧ 0 ≤ x ∧ x ≤ (n : Int) ∧ n ≤ 42 ∧ LoH wr (w.heap.size + 1) o n hs Ls ∧ Hid (∀ i, (Ls.getD i []).length ≤ 70) ∧ Hid (SpL hs) ∧ Drawn w1 wr w.heap.size ac cs (10000 + 10 * (n : Int))) (fun o _ _ => 44 - lenV o)
        case atStart => exact ⟨n, 0, hs, Ls, rfl, by omega, by omega, by omega, HL4.out, HLB, HSP, HD4.out.mono (by omega)⟩
        case round =>
          obtain ⟨n, z, hs, Ls, rfl, hz0, hz1, hn18, hlo, HLB, HSP, hd⟩ := hrel
          have HL6 := Lib.hid hlo; have HD6 := Lib.hid hd
          obtain ⟨oa, oc, rfl⟩ := own_slice hlo.own
          clear hlo hd HL4 HD4
          by_cases hlt : z < lf + 1
          · have q4 : decide (z < lf + 1) = true := decide_eq_true hlt
            by_cases hlt2 : (n : Int) < 40
            · have q7 : decide ((n : Int) < 40) = true := decide_eq_true hlt2
              go_wp2_with fail
              refine (pick_any w.heap.size ac cs _ 4 _ ?h4 (by omega) HD6.out.cur).mono ?_
              case h4 => omega
              rintro e w6 ⟨⟨u, rfl, hu0, hu1⟩, hc, hg⟩
              have HD7 := Lib.hid ((HD6.out.step hc hg).below (belowNew w6 (.cells #[.int .i64 u, .int .i64 z] 32)))
              have HL7 := Lib.hid ((HL6.out.grow hg (fun b e => by injection e with e; omega)).same (belowNew w6 (.cells #[.int .i64 u, .int .i64 z] 32)))
              have hobs : ∀ b, (Value.slice oa n oc).ownBlock = some b → b < w6.heap.size := fun b e => Nat.lt_of_lt_of_le (HL6.out.own.lt b e).2 hg.size
              have hB6 : w.heap.size + 1 ≤ w6.heap.size := by have := (HD6.out.step hc hg).grown.size; omega
              have hoe := own_lit (w := w6) (e := 32) (size := 2) #[.int .i64 u, .int .i64 z] 1 (by omega) rfl
              have HE : Hid (Rd (w6.alloc (.cells #[.int .i64 u, .int .i64 z] 32)) (some ⟨w6.heap.size, 0, none⟩) 1 1 [(u, z)]) := rd_own (B := w6.heap.size) hoe
              have hn1 : n + 1 ≤ 1099511627776 := by omega
              have hsza : (w6.alloc (.cells #[.int .i64 u, .int .i64 z] 32)).heap.size = w6.heap.size + 1 := by simp
              clear hc hg HD6 HL6 hoe
              go_wp2_with (at_builtin; refine wpList_app1 (v := .slice oa n oc) slLs rfl _ _ rfl rfl HL7.out.own [.slice (some ⟨w6.heap.size, 0, none⟩) 1 1] rfl rfl (by simp) (by simp [Value.oneCell']) hn1 (by omega) ?_; intro v' w7 hown' hg' ht'; generalize hGG : wpList _ _ _ _ _ _ = GG)
              have HL8 := Lib.hid (HL7.out.app HE.out (fun b off e => by injection e with e; injection e with e1 e2; exact ⟨by omega, fun e3 => by have := hobs b e3; omega, by omega⟩) hown' hg' (fun b e => ht'.elim (fun h => .inl (h ▸ e)) (fun h => .inr (by rw [h] at e; injection e with e; omega))))
              have HD8 := Lib.hid (HD7.out.app HL7.out.own (by omega) hg')
              have HSP8 := Lib.hid (HSP.out.snoc (spN_some w6.heap.size 0) 1 1)
              have HLB8 := Lib.hid (getD_snoc_le (L := [(u, z)]) (B := 70) HLB.out (by simp))
              obtain ⟨a8, c8, rfl⟩ := own_slice hown'
              clear hown' hg' ht' HL7 HD7 HE
              subst hGG
              go_wp2
              go_roundw
              case rel => exact ⟨n + 1, z + 1, _, _, by go_num, by omega, by omega, by omega, HL8.out, HLB8, HSP8, HD8.out.mono (by omega)⟩
              case measure => simp only [lenV] <;> omega
            · have q7 : decide ((n : Int) < 40) = false := decide_eq_false hlt2
              have hszw := HD6.out.grown.size
              have HTP := Lib.hid (tapes_any w.heap.size ac cs _ _ (by omega) HD6.out.cur)
              go_wp2_with fail
              refine HTP.out.mono ?_
              rintro e wz ⟨⟨tz, rfl, htz0, htz1⟩, hc, hg⟩
              have HDz := Lib.hid (HD6.out.step hc hg)
              have HLz := Lib.hid (HL6.out.grow hg (fun b e => by injection e with e; omega))
              have hszz := HDz.out.grown.size
              clear hc hg HTP
              go_wp2
              go_ret2
              exact ⟨_, _, _, tz, _, _, rfl, htz0, htz1, HLz.out.ls, vals_own HLz.out.own, HLz.out.hds, HLz.out.blk HSP.out, by omega, HLB.out, HB1.out.grown HDz.out.grown (by omega) (fun k hk => by injection hk with hk; omega)⟩
          · have q4 : decide (z < lf + 1) = false := decide_eq_false hlt
            have hszw := HD6.out.grown.size
            have HTP := Lib.hid (tapes_any w.heap.size ac cs _ _ (by omega) HD6.out.cur)
            go_wp2_with fail
            refine HTP.out.mono ?_
            rintro e wz ⟨⟨tz, rfl, htz0, htz1⟩, hc, hg⟩
            have HDz := Lib.hid (HD6.out.step hc hg)
            have HLz := Lib.hid (HL6.out.grow hg (fun b e => by injection e with e; omega))
            have hszz := HDz.out.grown.size
            clear hc hg HTP
            go_wp2
            go_ret2
            exact ⟨_, _, _, tz, _, _, rfl, htz0, htz1, HLz.out.ls, vals_own HLz.out.own, HLz.out.hds, HLz.out.blk HSP.out, by omega, HLB.out, HB1.out.grown HDz.out.grown (by omega) (fun k hk => by injection hk with hk; omega)⟩
      · have q6 : (y == 3) = false := by simpa using hy3
        have hszw := HD4.out.grown.size
        have HTP := Lib.hid (tapes_any w.heap.size ac cs _ _ (by omega) HD4.out.cur)
        go_wp2_with fail
        refine HTP.out.mono ?_
        rintro e wz ⟨⟨tz, rfl, htz0, htz1⟩, hc, hg⟩
        have HDz := Lib.hid (HD4.out.step hc hg)
        have HLz := Lib.hid (HL4.out.grow hg (fun b e => by injection e with e; omega))
        have hszz := HDz.out.grown.size
        clear hc hg HTP
        go_wp2
        go_ret2
        exact ⟨_, _, _, tz, _, _, rfl, htz0, htz1, HLz.out.ls, vals_own HLz.out.own, HLz.out.hds, HLz.out.blk HSP.out, by omega, HLB.out, HB1.out.grown HDz.out.grown (by omega) (fun k hk => by injection hk with hk; omega)⟩

end Go.Proofs.Ytcdfinkefahloaa

