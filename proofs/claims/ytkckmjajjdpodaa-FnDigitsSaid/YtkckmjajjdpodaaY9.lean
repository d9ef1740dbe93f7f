/- Several texts in one: lemmas and walks of the functions that the laws reach. -/
import Derived.Test.YtkckmjajjdpodaaY8
import Derived.Test.YtkckmjajjdpodaaY7
import Derived.Deep.RegionHeld3
import Derived.OneCell

/- Walks: the merge of many lists: the program's: its variables are made, in whatever order. -/
namespace Go.Proofs.Ytkckmjajjdpodaa
open Go.RowKit Go.Sort
set_option linter.unusedVariables false

def kwA (p0 p1 : Value) (k : Nat) (x : Nat → Value) : Act := { tmps := #[p0, p1, .slice none 0 0, .int .i64 0, .int .i64 k, x 3, x 4, x 5, undef, undef, undef, undef, undef, p0, .int .i64 k, .int .i64 k, x 0, .int .i64 k, x 1, .int .i64 k, x 2, undef, undef, undef, undef, undef, undef, undef, undef, undef, undef, undef, undef, undef, undef, undef, undef, undef, undef, undef, undef, undef, undef, undef, undef, undef, undef, undef, undef, undef, undef, undef, undef, undef, undef, undef, undef, undef, undef, undef, undef, undef, undef, undef, undef, undef, undef, undef, undef, undef, undef], defers := [] }
def kwAl (b : Nat → Bool) : Nat → Bool
  | 0 => b 1 | 1 => b 3 | 2 => b 5 | 3 => b 6 | 4 => b 7 | 5 => b 8 | _ => false
structure KX (wR : World) (k : Nat) (b : Nat → Bool) (x : Nat → Value) (bl : Nat → Nat) (ob : Nat → Obj) (w : World) : Prop where
  l0 : b 0 = true
  l2 : b 2 = true
  l4 : b 4 = true
  it : Items wR w (kwAl b) bl ob
  m0 : b 1 = true → x 0 = .slice (some ⟨bl 0, 0, none⟩) k k ∧ ob 0 = .cells (madeCells (Value.cells (.int .i64 0)) (k * 1)) 3 (0, 0)
  m1 : b 3 = true → x 1 = .slice (some ⟨bl 1, 0, none⟩) k k ∧ ob 1 = .cells (madeCells (Value.cells (.bool false)) (k * 1)) 4 (0, 0)
  m2 : b 5 = true → x 2 = .slice (some ⟨bl 2, 0, none⟩) k k ∧ ob 2 = .cells (madeCells (Value.cells (.int .i64 0)) (k * 1)) 3 (0, 0)
  a0 : b 6 = true → x 3 = .pointer (some ⟨bl 3, 0, none⟩) ∧ (b 9 = false → ob 3 = .cells #[.slice none 0 0] 45 (0, 0)) ∧ (b 9 = true → ob 3 = .cells #[x 0] 45 (0, 0))
  a1 : b 7 = true → x 4 = .pointer (some ⟨bl 4, 0, none⟩) ∧ (b 10 = false → ob 4 = .cells #[.slice none 0 0] 163 (0, 0)) ∧ (b 10 = true → ob 4 = .cells #[x 1] 163 (0, 0))
  a2 : b 8 = true → x 5 = .pointer (some ⟨bl 5, 0, none⟩) ∧ (b 11 = false → ob 5 = .cells #[.slice none 0 0] 45 (0, 0)) ∧ (b 11 = true → ob 5 = .cells #[x 2] 45 (0, 0))
  s0 : b 9 = true → b 1 = true ∧ b 6 = true
  s1 : b 10 = true → b 3 = true ∧ b 7 = true
  s2 : b 11 = true → b 5 = true ∧ b 8 = true
def KJ (wR : World) (p0 p1 : Value) (k : Nat) (L : Array Bool) (a : Act) (w : World) : Prop := ∃ x bl ob, a = kwA p0 p1 k x ∧ KX wR k (fun j => L.getD j false) x bl ob w
theorem kj_set {wR : World} {p0 p1 : Value} {k i : Nat} {L : Array Bool} {a : Act} {w : World} {x : Nat → Value} {bl : Nat → Nat} {ob : Nat → Obj} (hi : i < L.size) (ha : a = kwA p0 p1 k x) (h : KX wR k (upd (fun j => L.getD j false) i true) x bl ob w) : KJ wR p0 p1 k (L.setIfInBounds i true) a w := by
  refine ⟨x, bl, ob, ha, ?_⟩
  have e : (fun j => (L.setIfInBounds i true).getD j false) = upd (fun j => L.getD j false) i true := funext fun j => set_b hi j
  rw [e]; exact h

/-- What the merge gives back. -/
def KwEnd (w : World) (Ls : List (List (Int × Int))) (e : Ending) (w' : World) : Prop :=
  ∃ (g c : Nat), e = .returned (.tuple #[.slice (some ⟨g, 0, none⟩) Ls.flatten.length c, .int .i64 ((Mg.kcs Ls : Nat) : Int)]) ∧ w'.ownsRow w.heap.size 72 2 (.slice (some ⟨g, 0, none⟩) Ls.flatten.length c) Ls.flatten.length (flat encR (Mg.srtP Ls.flatten)) ∧ Below w.heap.size w w'

theorem getD_rep {α : Type} {k i : Nat} {z d : α} (h : i < k) : (List.replicate k z).getD i d = z := by
  rw [List.getD_eq_getElem?_getD, List.getElem?_replicate, if_pos h]; rfl
theorem getD_setB {l : List Bool} {i j : Nat} {x : Bool} (hi : i < l.length) : (l.set i x).getD j false = if i = j then x else l.getD j false := by
  simp only [List.getD_eq_getElem?_getD, List.getElem?_set, if_pos hi]
  split
  · rfl
  · rfl
theorem getD_setG {α : Type} {l : List α} {i j : Nat} {x d : α} (hi : i < l.length) : (l.set i x).getD j d = if i = j then x else l.getD j d := by
  simp only [List.getD_eq_getElem?_getD, List.getElem?_set, if_pos hi]
  split
  · rfl
  · rfl
theorem keys_of {ks : List Int} {rs : List (List (Int × Int))} (hl : ks.length = rs.length) (h : ∀ i, i < rs.length → ks.getD i 0 = Mg.hk (rs.getD i [])) : ks = Mg.keysOf rs := by
  refine List.ext_getElem (by simp [Mg.keysOf, hl]) fun i h1 h2 => ?_
  have := h i (by omega)
  rw [← Mg.keysOf_at (by omega), List.getD_eq_getElem?_getD, List.getD_eq_getElem?_getD, List.getElem?_eq_getElem h1, List.getElem?_eq_getElem h2] at this
  exact this
theorem done_of {ds : List Bool} {rs : List (List (Int × Int))} (hl : ds.length = rs.length) (h : ∀ i, i < rs.length → ds.getD i false = (rs.getD i []).isEmpty) : ds = Mg.doneOf rs := by
  refine List.ext_getElem (by simp [Mg.doneOf, hl]) fun i h1 h2 => ?_
  have := h i (by omega)
  rw [← Mg.doneOf_at (by omega), List.getD_eq_getElem?_getD, List.getD_eq_getElem?_getD, List.getElem?_eq_getElem h1, List.getElem?_eq_getElem h2] at this
  exact this
theorem flat_mem_len {Ls : List (List (Int × Int))} {i : Nat} (h : i < Ls.length) : (Ls.getD i []).length ≤ Ls.flatten.length := by
  rw [List.getD_eq_getElem?_getD, List.getElem?_eq_getElem h]
  have h1 : ∀ (M : List (List (Int × Int))) (l : List (Int × Int)), l ∈ M → l.length ≤ M.flatten.length := by
    intro M
    induction M with
    | nil => intro l h; cases h
    | cons a t ih =>
      intro l h
      rw [List.flatten_cons, List.length_append]
      rcases List.mem_cons.1 h with rfl | h
      · omega
      · have := ih l h; omega
  exact h1 _ _ (List.getElem_mem h)

set_option maxRecDepth 100000 in
set_option maxHeartbeats 8000000 in
theorem kWay_any (la lo k lc : Nat) (Ls : List (List (Int × Int))) (w : World) (hk0 : 0 < k) (hk : k ≤ 100) (hLs : LsAt w (some ⟨la, lo, none⟩) k lc Ls) (hN : Ls.flatten.length ≤ 1000) (ha : ∀ l ∈ Ls, Mg.Asc Mg.ltF l) :
    Calls Try.prog 138 #[.slice (some ⟨la, lo, none⟩) k lc] w (KwEnd w Ls) := by
  have HLS := Lib.hid hLs; have HA := Lib.hid ha
  have hll : Ls.length = k := hLs.len
  clear hLs ha
  unfold KwEnd
  go_enter Try.func138, Try.ntmps138
  go_wp2_with fail
  refine wp_region_held_drew (S := fun _ => True) (by kernel_rfl) trivial (fun _ => ?_)
  refine wpAnyH_take (i := 0) (v := .int .i64 k) rfl (by kernel_rfl) (by kernel_rfl) (by kernel_rfl) (fun _ _ _ h => h) (Or.inl ⟨by rfl, fun w' _ => by go_simp⟩) (by assumption) ?_
  refine wpAnyH_take (i := 2) (v := .int .i64 k) rfl (by kernel_rfl) (by kernel_rfl) (by kernel_rfl) (fun _ _ _ h => h) (Or.inl ⟨by rfl, fun w' _ => by go_simp⟩) (by assumption) ?_
  refine wpAnyH_take (i := 4) (v := .int .i64 k) rfl (by kernel_rfl) (by kernel_rfl) (by kernel_rfl) (fun _ _ _ h => h) (Or.inl ⟨by rfl, fun w' _ => by go_simp⟩) (by assumption) ?_
  refine wpAnyH_inv (KJ (w.alloc (.cells #[.slice (some ⟨la, lo, none⟩) k lc] 89)).drew (.slice (some ⟨la, lo, none⟩) k lc) (.pointer (some ⟨w.heap.size, 0, none⟩)) k) (by kernel_rfl) ?steps ?done _ _ _ _ (by kernel_rfl) (by decide) ?start
  case start =>
    refine ⟨fun _ => undef, fun _ => 0, fun _ => default, rfl, rfl, rfl, rfl, ?_, ?_, ?_, ?_, ?_, ?_, ?_, ?_, ?_, ?_⟩
    · rw [show kwAl _ = fun _ => false from funext fun j => by rcases j with _ | _ | _ | _ | _ | _ | j <;> rfl]
      exact Items.start (Below.refl _ _) _ _
    all_goals (intro h; exact absurd h (by decide))
  case done =>
    rintro L a w2 hall ⟨x, bl, ob, rfl, hX⟩
    have hb : ∀ i, i < 12 → L.getD i false = true := hall
    obtain ⟨e0, o0⟩ := hX.m0 (hb 1 (by omega))
    obtain ⟨e1, o1⟩ := hX.m1 (hb 3 (by omega))
    obtain ⟨e2, o2⟩ := hX.m2 (hb 5 (by omega))
    obtain ⟨e3, _, o3⟩ := hX.a0 (hb 6 (by omega))
    obtain ⟨e4, _, o4⟩ := hX.a1 (hb 7 (by omega))
    obtain ⟨e5, _, o5⟩ := hX.a2 (hb 8 (by omega))
    have p0 := hX.it.here 0 (hb 1 (by omega))
    have p1 := hX.it.here 1 (hb 3 (by omega))
    have p2 := hX.it.here 2 (hb 5 (by omega))
    have p3 := hX.it.here 3 (hb 6 (by omega))
    have p4 := hX.it.here 4 (hb 7 (by omega))
    have p5 := hX.it.here 5 (hb 8 (by omega))
    rw [o0] at p0; rw [o1] at p1; rw [o2] at p2
    rw [o3 (hb 9 (by omega)), e0] at p3; rw [o4 (hb 10 (by omega)), e1] at p4; rw [o5 (hb 11 (by omega)), e2] at p5
    have n01 := hX.it.ne 0 1 (by decide) (hb 1 (by omega)) (hb 3 (by omega))
    have n02 := hX.it.ne 0 2 (by decide) (hb 1 (by omega)) (hb 5 (by omega))
    have n12 := hX.it.ne 1 2 (by decide) (hb 3 (by omega)) (hb 5 (by omega))
    have n30 := hX.it.ne 3 0 (by decide) (hb 6 (by omega)) (hb 1 (by omega))
    have n40 := hX.it.ne 4 0 (by decide) (hb 7 (by omega)) (hb 1 (by omega))
    have n50 := hX.it.ne 5 0 (by decide) (hb 8 (by omega)) (hb 1 (by omega))
    have n31 := hX.it.ne 3 1 (by decide) (hb 6 (by omega)) (hb 3 (by omega))
    have n41 := hX.it.ne 4 1 (by decide) (hb 7 (by omega)) (hb 3 (by omega))
    have n51 := hX.it.ne 5 1 (by decide) (hb 8 (by omega)) (hb 3 (by omega))
    have n32 := hX.it.ne 3 2 (by decide) (hb 6 (by omega)) (hb 5 (by omega))
    have n42 := hX.it.ne 4 2 (by decide) (hb 7 (by omega)) (hb 5 (by omega))
    have n52 := hX.it.ne 5 2 (by decide) (hb 8 (by omega)) (hb 5 (by omega))
    have hbl := hX.it.bel
    have hwR : (w.alloc (.cells #[.slice (some ⟨la, lo, none⟩) k lc] 89)).drew.heap.size = w.heap.size + 1 := by show (w.alloc _).heap.size = _; simp
    have hb2 : Below w.heap.size w w2 := Below.trans (((Below.refl _ _).alloc (Nat.le_refl _) _).drew) (hbl.mono (by omega))
    have hcl : w2.cell? ⟨w.heap.size, 0, none⟩ = some (.slice (some ⟨la, lo, none⟩) k lc) :=
      (hbl.cell (p := ⟨w.heap.size, 0, none⟩) (by show w.heap.size < _; omega)).trans (row_cell (block_new w (.cells #[.slice (some ⟨la, lo, none⟩) k lc] 89)) 0)
    unfold kwA
    rw [e0, e1, e2, e3, e4, e5]
    have lts : ∀ {g : Nat} {o : Obj}, w2.heap[g]? = some o → g < w2.heap.size := fun h => (Array.getElem?_eq_some_iff.1 h).1
    clear e0 e1 e2 e3 e4 e5 o0 o1 o2 o3 o4 o5 hX hbl hb hall
    generalize bl 0 = gk at *
    generalize bl 1 = gd at *
    generalize bl 2 = gn at *
    generalize bl 3 = ck at *
    generalize bl 4 = cd at *
    generalize bl 5 = cn at *
    have l0 := lts p0.2; have l1 := lts p1.2; have l2 := lts p2.2; have l3 := lts p3.2; have l4 := lts p4.2; have l5 := lts p5.2
    obtain ⟨B, hB⟩ : ∃ B, w2.heap.size = B := ⟨_, rfl⟩
    have HKW : Hid (Kw w w2 B k w.heap.size ck cd cn gk gd gn (.slice (some ⟨la, lo, none⟩) k lc) (List.replicate k 0) (List.replicate k false) (List.replicate k 0)) := by
      refine ⟨hb2, by omega, ⟨by omega, by omega, by omega⟩, ⟨by omega, by omega, by omega, by omega, by omega, by omega, by omega⟩, ⟨n01, n02, n12⟩, ⟨by omega, n30, n40, n50⟩, ⟨by omega, n31, n41, n51⟩, ⟨by omega, n32, n42, n52⟩, hcl, row_cell p3.2 0, row_cell p4.2 0, row_cell p5.2 0, ?_, ?_, ?_⟩
      · have := own_made p0.2 (by omega : w.heap.size ≤ gk) (by omega) rfl
        rw [show ints (List.replicate k 0) = List.replicate k (.int .i64 0) by simp [ints]]; exact this
      · have := own_made p1.2 (by omega : w.heap.size ≤ gd) (by omega) rfl
        rw [show bools (List.replicate k false) = List.replicate k (.bool false) by simp [bools]]; exact this
      · have := own_made p2.2 (by omega : w.heap.size ≤ gn) (by omega) rfl
        rw [show ints (List.replicate k 0) = List.replicate k (.int .i64 0) by simp [ints]]; exact this
    clear p0 p1 p2 p3 p4 p5 n01 n02 n12 n30 n40 n50 n31 n41 n51 n32 n42 n52 l0 l1 l2 l3 l4 l5 lts hwR hcl hb2 hB
    have HLE : Hid (∀ i, i < k → (Ls.getD i []).length ≤ 1000) := fun i hi => by
      have := flat_mem_len (Ls := Ls) (i := i) (by omega)
      omega
    have hc0 := HKW.out.lc
    have hcall : ∀ (i : Int) (W : World), (callFunc 167 #[.int .i64 i, .pointer (some ⟨cn, 0, none⟩), .pointer (some ⟨w.heap.size, 0, none⟩), .pointer (some ⟨cd, 0, none⟩), .pointer (some ⟨ck, 0, none⟩)]).run Try.prog W = .ok (.enter 167 #[.int .i64 i, .pointer (some ⟨cn, 0, none⟩), .pointer (some ⟨w.heap.size, 0, none⟩), .pointer (some ⟨cd, 0, none⟩), .pointer (some ⟨ck, 0, none⟩)]) W := fun i W => by kernel_rfl
    go_wp2_with fail
    go_loopw [24] (fun v wr => ∃ (i : Nat) (ks : List Int) (ds : List Bool), v = .int .i64 i ∧ i ≤ k ∧ Kw w wr B k w.heap.size ck cd cn gk gd gn (.slice (some ⟨la, lo, none⟩) k lc) ks ds (List.replicate k 0) ∧ Hid (∀ j, j < i → ks.getD j 0 = Mg.hk (Ls.getD j []) ∧ ds.getD j false = (Ls.getD j []).isEmpty)) (fun v _ => k - (intOf v).toNat)
    case atStart => exact ⟨0, _, _, rfl, by omega, HKW.out, Lib.hid (fun j hj => by omega)⟩
    case round =>
      obtain ⟨i, ks, ds, rfl, hi, hkw, HALL⟩ := hrel
      have HK1 := Lib.hid hkw
      have hkl : ks.length = k := by have := hkw.kr.1; simpa using this
      have hdl : ds.length = k := by have := hkw.dr.1; simpa using this
      clear hkw HKW hc0
      by_cases hlt : i < k
      · have q1 : decide ((i : Int) < (k : Int)) = true := decide_eq_true (by omega)
        have HF := Lib.hid (fill_any w wr B k w.heap.size ck cd cn gk gd gn i 0 la lo lc Ls (Ls.getD i []) ks ds _ hk hlt HLS.out HK1.out (getD_rep hlt) (by omega) (by have := HLE.out i hlt; omega) rfl)
        have hcc := hcall (i : Int)
        clear hcall
        go_wp2_with fail
        refine HF.out.mono ?_
        rintro e w3 ⟨rfl, hk3, _⟩
        rw [List.drop_zero] at hk3
        have HK3 := Lib.hid hk3
        clear hk3 HF HK1 hcc
        go_wp2
        go_roundw
        case rel => exact ⟨i + 1, _, _, by go_num, by omega, HK3.out, Lib.hid (fun j hj => by
          rw [getD_setE (by omega), getD_setB (by omega)]
          by_cases hij : i = j
          · rw [if_pos hij, if_pos hij, hij]; exact ⟨rfl, rfl⟩
          · rw [if_neg hij, if_neg hij]; exact HALL.out j (by omega))⟩
        case measure => simp [intOf] <;> omega
      have hik : k = i := by omega
      subst hik
      have q1 : decide ((k : Int) < (k : Int)) = false := by simp
      have hks : ks = Mg.keysOf Ls := keys_of (by omega) (fun j hj => (HALL.out j (by omega)).1)
      have hds : ds = Mg.doneOf Ls := done_of (by omega) (fun j hj => (HALL.out j (by omega)).2)
      rw [hks, hds] at HK1
      clear hks hds HALL hkl hdl
      have E0 := Lib.hid (own_mono (own_lit (w := wr) (e := 72) (size := 2) #[] 0 (by omega) rfl) HK1.out.hi)
      have HK3 := Lib.hid (HK1.out.same (belowNew wr (.cells #[] 72)))
      clear HK1
      go_wp2_with fail
      go_loopw [10, 11] (fun o c wq => ∃ (t q : Nat) (rs : List (List (Int × Int))) (ps : List Nat) (O : List (Int × Int)), c = .int .i64 q ∧ wq.ownsRow B 72 2 o t (flat encR O) ∧ o.ownBlock ≠ none ∧
          Kw w wq B k w.heap.size ck cd cn gk gd gn (.slice (some ⟨la, lo, none⟩) k lc) (Mg.keysOf rs) (Mg.doneOf rs) (ps.map fun p : Nat => (p : Int)) ∧ rs.length = k ∧ ps.length = k ∧ t + rs.flatten.length = Ls.flatten.length ∧ q ≤ 100 + 10 * t ∧
          Hid (∀ i, i < k → rs.getD i [] = (Ls.getD i []).drop (ps.getD i 0) ∧ ps.getD i 0 ≤ (Ls.getD i []).length) ∧ Hid (∀ l ∈ rs, Mg.Asc Mg.ltF l) ∧ Hid (O ++ Mg.srtP rs.flatten = Mg.srtP Ls.flatten) ∧ Hid (q + Mg.kc rs.flatten.length rs = Mg.kcs Ls)) (fun o _ _ => Ls.flatten.length - lenV o)
      case atStart =>
        refine ⟨0, k - 1, Ls, List.replicate k 0, [], by go_num, E0.out, by simp [Value.ownBlock], ?_, hll, by simp, by omega, by omega, Lib.hid (fun i hi => ?_), HA, Lib.hid rfl, Lib.hid ?_⟩
        · have := HK3.out
          rwa [show (List.replicate k (0 : Nat)).map (fun p : Nat => (p : Int)) = List.replicate k 0 by simp]
        · rw [getD_rep hi, List.drop_zero]; exact ⟨rfl, Nat.zero_le _⟩
        · unfold Mg.kcs; rw [hll]
      case round =>
        obtain ⟨t, q, rs, ps, O, rfl, hown, hob, hkw, hrl, hpl, htn, hq, HRS, HAS, HOO, HKC⟩ := hrel
        obtain ⟨oa, oc, rfl⟩ := own_slice hown
        have HT := Lib.hid (treeOf_any (some ⟨gk, 0, none⟩) (some ⟨gd, 0, none⟩) k k k (Mg.keysOf rs) (Mg.doneOf rs) wr hk0 hk (by simp [Mg.keysOf, hrl]) (by simp [Mg.doneOf, hrl]) (vals_own hkw.kr) (vals_own hkw.dr) (nilOk_some _ _) (nilOk_some _ _))
        have HO1 := Lib.hid hown; have HOB := Lib.hid hob; have HK1 := Lib.hid hkw
        have c1 := hkw.kc; have c2 := hkw.dc
        clear hown hob hkw E0 HK3
        go_wp2_with fail
        refine HT.out.mono ?_
        rintro e w3 ⟨win, kv, dv, lv, rfl, hwin, hb⟩
        have HO2 := Lib.hid (own_below HO1.out (Nat.le_refl _) hb)
        have HK2 := Lib.hid (HK1.out.same hb)
        have HW := Lib.hid (show Mg.Win (Mg.keysOf rs) (Mg.doneOf rs) rs.length win by rw [hrl]; exact hwin)
        have hwk : win < k := hwin.1
        clear hb hwin HT HO1 HK1 c1 c2
        have c2 := HK2.out.dc
        have c3 := HK2.out.dr.cellAt win (by omega)
        rw [bools_at (by simp [Mg.doneOf, hrl]; exact hwk), Mg.doneOf_at (by omega)] at c3
        have hfield : ∀ W : World, (Instr.field 165 (.agg #[kv, dv, lv, .int .i64 win]) 3).run Try.prog W = .ok (.int .i64 win) W := fun W => by kernel_rfl
        have b1 : (0 : Int) ≤ (win : Int) := by omega
        have b2 : (win : Int) < (k : Int) := by omega
        have t1 : ((win : Int)).toNat = win := by omega
        cases hrw : rs.getD win [] with
        | nil =>
          have HD := Lib.hid (Mg.all_done HW.out hrw)
          rw [hrw] at c3
          have c3 : w3.cell? ⟨gd, win, none⟩ = some (.bool true) := c3
          clear hrw
          go_wp2
          go_ret2
          obtain ⟨g, rfl, _, _⟩ := own_addr HO2.out HOB.out
          have hdl : rs.flatten.length = 0 := by rw [HD.out]; rfl
          have ht : t = Ls.flatten.length := by omega
          subst ht
          have hO : O = Mg.srtP Ls.flatten := by
            have := HOO.out
            rw [HD.out] at this
            rw [← this]
            show O = O ++ Mg.srt Mg.ltF []
            rw [Mg.srt_nil, List.append_nil]
          have hqq : q = Mg.kcs Ls := by
            have := HKC.out
            rw [hdl] at this
            rw [← this]; rw [Mg.kc]; rfl
          rw [hO] at HO2
          refine ⟨g, oc, by rw [hqq]; rfl, own_mono HO2.out ?_, HK2.out.bel⟩
          have := HK2.out.lt; omega
        | cons X tl =>
          rw [hrw] at c3
          have c3 : w3.cell? ⟨gd, win, none⟩ = some (.bool false) := c3
          obtain ⟨hd1, hd2⟩ := HRS.out win hwk
          obtain ⟨p, hp⟩ : ∃ p, ps.getD win 0 = p := ⟨_, rfl⟩
          obtain ⟨Lw, hLw⟩ : ∃ Lw, Ls.getD win [] = Lw := ⟨_, rfl⟩
          rw [hrw, hp, hLw] at hd1
          rw [hp, hLw] at hd2
          have hpl2 : p < Lw.length := by
            rcases Nat.lt_or_ge p Lw.length with h | h
            · exact h
            · rw [List.drop_of_length_le h] at hd1; cases hd1
          have hd3 : Lw.getD p (0, 0) = X ∧ Lw.drop (p + 1) = tl := by
            rw [List.drop_eq_getElem_cons hpl2] at hd1
            injection hd1 with h1 h2
            exact ⟨by rw [h1, List.getD_eq_getElem?_getD, List.getElem?_eq_getElem hpl2]; rfl, h2.symm⟩
          obtain ⟨lb, lof, xa, d, e, hc0, hr0⟩ := HLS.out.at hwk
          injection e with e
          injection e with e1 e2
          subst e1 e2
          rw [hLw] at hc0 hr0
          obtain ⟨xb, xo, rfl, x1, x2⟩ := hr0.at hpl2
          rw [hd3.1] at x1 x2
          have hb0 := World.block_lt_of_cell? w _ hc0
          have hb1 := World.block_lt_of_cell? w _ x1
          have hb2 := World.block_lt_of_cell? w _ x2
          have hpI : (ps.map fun p : Nat => (p : Int)).getD win 0 = (p : Int) := by
            rw [List.getD_eq_getElem?_getD, List.getElem?_map, List.getElem?_eq_getElem (by omega)]
            rw [List.getD_eq_getElem?_getD, List.getElem?_eq_getElem (by omega)] at hp
            show ((ps[win] : Nat) : Int) = _
            rw [show ps[win] = p from hp]
          have hLwN : Lw.length ≤ 1000 := by rw [← hLw]; exact HLE.out win hwk
          have HS := Lib.hid (Mg.kstep HW.out hrw HAS.out)
          have HKS := Lib.hid (fun f => Mg.kc_step (f := f) HW.out hrw)
          have HLN := Lib.hid (Mg.len_step (rs := rs) (w := win) (by omega) hrw)
          have HAS2 := Lib.hid (Mg.asc_step (rs := rs) (w := win) (by omega) hrw HAS.out)
          have HX := Lib.hid hd3.1; have HTL := Lib.hid hd3.2; have HP := Lib.hid hp; have HPI := Lib.hid hpI; have HLW := Lib.hid hLw; have HRW := Lib.hid hrw
          clear hr0 hd1 hd3 hp hpI hLw hrw HAS
          have hcc := hcall (win : Int)
          have b3 : (0 : Int) ≤ (p : Int) := by omega
          have b4 : (p : Int) < (Lw.length : Int) := by omega
          have t2 : ((p : Int)).toNat = p := by omega
          obtain ⟨X1, X2⟩ := X
          have x1 : w.cell? ⟨xb, xo + p * 2, none⟩ = some (.int .i64 X1) := x1
          have x2 : w.cell? ⟨xb, xo + p * 2 + 1, none⟩ = some (.int .i64 X2) := x2
          have htN : t + 1 ≤ 1099511627776 := by omega
          have HC := Lib.hid (fun (w' : World) (h : Kw w w' B k w.heap.size ck cd cn gk gd gn (.slice (some ⟨la, lo, none⟩) k lc) (Mg.keysOf rs) (Mg.doneOf rs) (ps.map fun p : Nat => (p : Int))) => show w'.cell? ⟨w.heap.size, 0, none⟩ = some (.slice (some ⟨la, lo, none⟩) k lc) ∧ w'.cell? ⟨la, lo + win, none⟩ = some (.slice (some ⟨xb, xo, none⟩) Lw.length d) ∧ w'.cell? ⟨cn, 0, none⟩ = some (.slice (some ⟨gn, 0, none⟩) k k) ∧ w'.cell? ⟨gn, win, none⟩ = some (.int .i64 p) ∧ w'.cell? ⟨xb, xo + p * 2, none⟩ = some (.int .i64 X1) ∧ w'.cell? ⟨xb, xo + p * 2 + 1, none⟩ = some (.int .i64 X2) from
            ⟨h.lc, (h.bel.cell (p := ⟨la, lo + win, none⟩) hb0).trans hc0, h.nc, by have := h.nr.cellAt win (by omega); rwa [ints_at (by simp; omega), HPI.out] at this, (h.bel.cell (p := ⟨xb, xo + p * 2, none⟩) hb1).trans x1, (h.bel.cell (p := ⟨xb, xo + p * 2 + 1, none⟩) hb2).trans x2⟩)
          clear hc0 x1 x2 hb0 hb1 hb2
          have HKd := Lib.hid (HK2.out.same (wq := w3.drew) ((Below.refl _ _).drew))
          have HOd := Lib.hid (own_below HO2.out (Nat.le_refl _) (Below.drew (Below.refl w3.heap.size w3)))
          have HKa := Lib.hid (HKd.out.same (belowNew w3.drew (.cells #[.int .i64 X1, .int .i64 X2] 72)))
          have HOa := Lib.hid (own_below HOd.out (Nat.le_refl _) (belowNew w3.drew (.cells #[.int .i64 X1, .int .i64 X2] 72)))
          have HNW := Lib.hid (cells_new w3.drew [.int .i64 X1, .int .i64 X2] 72)
          have hS0 := HC.out _ HKd.out
          have hS1 := HC.out _ HKa.out
          have hBs := HKa.out.hi
          clear HO2 HK2 HKd HOd
          go_wp2_with fail
          clear c2 c3
          go_region_held3 (fun w' => w'.cell? ⟨w.heap.size, 0, none⟩ = some (.slice (some ⟨la, lo, none⟩) k lc) ∧ w'.cell? ⟨la, lo + win, none⟩ = some (.slice (some ⟨xb, xo, none⟩) Lw.length d) ∧ w'.cell? ⟨cn, 0, none⟩ = some (.slice (some ⟨gn, 0, none⟩) k k) ∧ w'.cell? ⟨gn, win, none⟩ = some (.int .i64 p) ∧ w'.cell? ⟨xb, xo + p * 2, none⟩ = some (.int .i64 X1) ∧ w'.cell? ⟨xb, xo + p * 2 + 1, none⟩ = some (.int .i64 X2)) (first | assumption | go_keep) (first | ((try go_split_ands); refine step_appX slRec (by rfl) _ _ (by rfl) B (.slice oa t oc) t (flat encR O) _ 1 _ [.int .i64 X1, .int .i64 X2] (by rfl) HOa.out (by rfl) rfl HNW.out (by simp [Value.oneCell']) htN hBs ?_; intro v' w5 hown' hg' ht'; have HK5 := Lib.hid (HKa.out.next hg' (fun b e => ⟨(HOa.out.lt b e).1, by have := (HOa.out.lt b e).1; have := HKa.out.lt; omega⟩)); have hS2 := HC.out _ HK5.out))
          obtain ⟨a5, c5, rfl⟩ := own_slice hown'
          have HO5 := Lib.hid hown'
          have HOB5 : Hid ((Value.slice a5 (t + 1) c5).ownBlock ≠ none) := by
            show _ ≠ _
            rcases ht' with h | h
            · rw [h]; exact HOB.out
            · rw [h]; simp
          clear hown' hg' ht' HOa HKa HOB HC HNW
          try clear hS0
          try clear hS1
          try clear hS2
          have y3 := HK5.out.lc
          have y4 := HK5.out.nc
          have y5 := HK5.out.nr.cellAt win (by omega)
          rw [ints_at (by simp; omega), HPI.out] at y5
          have y6 := HK5.out.nr.frozenAt win
          have HK6 := Lib.hid (HK5.out.setn win ((p : Int) + 1))
          have HF := Lib.hid (fill_any w (w5.setCell ⟨gn, win, none⟩ (.int .i64 ((p : Int) + 1))) B k w.heap.size ck cd cn gk gd gn win (p + 1) la lo lc Ls Lw _ _ _ hk hwk HLS.out HK6.out (by rw [getD_setE (by simp; omega), if_pos rfl]; omega) (by omega) (by omega) HLW.out)
          rw [HTL.out] at HF
          clear HK5 HK6
          go_wp2_with fail
          refine HF.out.mono ?_
          rintro e w6 ⟨rfl, hk6, hgr6⟩
          have hgr6 := Lib.hid hgr6
          have HK6 : Hid (Kw w w6 B k w.heap.size ck cd cn gk gd gn (.slice (some ⟨la, lo, none⟩) k lc) (Mg.keysOf (rs.set win tl)) (Mg.doneOf (rs.set win tl)) ((ps.set win (p + 1)).map fun p : Nat => (p : Int))) := by
            show Kw _ _ _ _ _ _ _ _ _ _ _ _ _ _ _
            rw [show Mg.keysOf (rs.set win tl) = (Mg.keysOf rs).set win (Mg.hk tl) from List.map_set, show Mg.doneOf (rs.set win tl) = (Mg.doneOf rs).set win tl.isEmpty from List.map_set, List.map_set]
            exact hk6
          have HO6 := Lib.hid (hgr6.out _ _ _ _ _ (ownsRow_setCell_below HO5.out HK6.out.lt.2.2.2.2.2.2 _))
          clear hk6 HF HO5 y3 y4 y5 y6 hcc
          have HLN' := HLN.out
          have hpl7 : Mg.plen ((k + win) / 2) ≤ 7 := Mg.plen_le 7 _ (by omega)
          generalize hpe : Mg.plen ((k + win) / 2) = pe at hpl7
          have HPE := Lib.hid hpe
          have HPL := Lib.hid (pathLength_any k win ((k + win) / 2) w6 (by omega) (by omega) rfl)
          rw [hpe] at HPL
          clear hpe
          go_wp2_with fail
          refine HPL.out.mono ?_
          rintro e w7 ⟨rfl, rfl⟩
          go_wp2
          go_roundw
          case rel =>
            refine ⟨t + 1, q + pe, rs.set win tl, ps.set win (p + 1), O ++ [(X1, X2)], by go_num, by rw [flat_append, flat_one]; exact HO6.out, HOB5.out, HK6.out, by rw [List.length_set]; exact hrl, by rw [List.length_set]; exact hpl, by omega, by omega, Lib.hid (fun i hi => ?_), HAS2, Lib.hid ?_, Lib.hid ?_⟩
            · rw [getD_setG (by omega), getD_setG (by omega)]
              by_cases hiw : win = i
              · rw [if_pos hiw, if_pos hiw, ← hiw, HLW.out, HTL.out]; exact ⟨rfl, by omega⟩
              · rw [if_neg hiw, if_neg hiw]; exact HRS.out i hi
            · rw [← HOO.out, List.append_assoc]
              show _ = O ++ Mg.srt Mg.ltF rs.flatten
              rw [HS.out]; rfl
            · have h1 := HKC.out
              rw [HLN.out, HKS.out, hrl, HPE.out] at h1
              rw [← h1]; omega
          case measure => simp only [lenV]; omega
  case steps =>
    refine ⟨?_, ?_, ?_, ?_, ?_, ?_, ?_, ?_, ?_, ?_, ?_, ?_, trivial⟩
    all_goals
      rintro L a w' hs hu haf ⟨x, bl, ob, rfl, hX⟩ K hK
    · exact absurd (hX.l0.symm.trans hu) (by decide)
    · rw [if_pos (by rfl)]
      refine wp_mk slInt.und slInt.info slInt.small _ _ rfl k rfl rfl (by omega) ?_
      intro w2 hobj hb
      exact hK _ _ (kj_set (by rw [hs]; decide) (x := upd x 0 _) (bl := upd bl 0 _) (ob := upd ob 0 _) rfl ⟨hX.l0, hX.l2, hX.l4, hX.it.fresh 0 _ hb hobj (by intro j; rcases j with _ | _ | _ | _ | _ | _ | j <;> rfl) hu, fun _ => ⟨rfl, rfl⟩, hX.m1, hX.m2, fun h => ⟨(hX.a0 h).1, (hX.a0 h).2.1, fun h9 => absurd ((hX.s0 h9).1.symm.trans hu) (by decide)⟩, hX.a1, hX.a2, fun h => ⟨rfl, (hX.s0 h).2⟩, hX.s1, hX.s2⟩)
    · exact absurd (hX.l2.symm.trans hu) (by decide)
    · rw [if_pos (by rfl)]
      refine wp_mk slBoolE.und slBoolE.info slBoolE.small _ _ rfl k rfl rfl (by omega) ?_
      intro w2 hobj hb
      exact hK _ _ (kj_set (by rw [hs]; decide) (x := upd x 1 _) (bl := upd bl 1 _) (ob := upd ob 1 _) rfl ⟨hX.l0, hX.l2, hX.l4, hX.it.fresh 1 _ hb hobj (by intro j; rcases j with _ | _ | _ | _ | _ | _ | j <;> rfl) hu, hX.m0, fun _ => ⟨rfl, rfl⟩, hX.m2, hX.a0, fun h => ⟨(hX.a1 h).1, (hX.a1 h).2.1, fun h9 => absurd ((hX.s1 h9).1.symm.trans hu) (by decide)⟩, hX.a2, hX.s0, fun h => ⟨rfl, (hX.s1 h).2⟩, hX.s2⟩)
    · exact absurd (hX.l4.symm.trans hu) (by decide)
    · rw [if_pos (by rfl)]
      refine wp_mk slInt.und slInt.info slInt.small _ _ rfl k rfl rfl (by omega) ?_
      intro w2 hobj hb
      exact hK _ _ (kj_set (by rw [hs]; decide) (x := upd x 2 _) (bl := upd bl 2 _) (ob := upd ob 2 _) rfl ⟨hX.l0, hX.l2, hX.l4, hX.it.fresh 2 _ hb hobj (by intro j; rcases j with _ | _ | _ | _ | _ | _ | j <;> rfl) hu, hX.m0, hX.m1, fun _ => ⟨rfl, rfl⟩, hX.a0, hX.a1, fun h => ⟨(hX.a2 h).1, (hX.a2 h).2.1, fun h9 => absurd ((hX.s2 h9).1.symm.trans hu) (by decide)⟩, hX.s0, hX.s1, fun h => ⟨rfl, (hX.s2 h).2⟩⟩)
    · unfold kwA
      go_simp
      exact hK _ _ (kj_set (by rw [hs]; decide) (x := upd x 3 _) (bl := upd bl 3 _) (ob := upd ob 3 _) rfl ⟨hX.l0, hX.l2, hX.l4, hX.it.alloc 3 _ (by intro j; rcases j with _ | _ | _ | _ | _ | _ | j <;> rfl) hu, hX.m0, hX.m1, hX.m2, fun _ => ⟨rfl, fun _ => rfl, fun h9 => absurd ((hX.s0 h9).2.symm.trans hu) (by decide)⟩, hX.a1, hX.a2, fun h => ⟨(hX.s0 h).1, rfl⟩, hX.s1, hX.s2⟩)
    · unfold kwA
      go_simp
      exact hK _ _ (kj_set (by rw [hs]; decide) (x := upd x 4 _) (bl := upd bl 4 _) (ob := upd ob 4 _) rfl ⟨hX.l0, hX.l2, hX.l4, hX.it.alloc 4 _ (by intro j; rcases j with _ | _ | _ | _ | _ | _ | j <;> rfl) hu, hX.m0, hX.m1, hX.m2, hX.a0, fun _ => ⟨rfl, fun _ => rfl, fun h9 => absurd ((hX.s1 h9).2.symm.trans hu) (by decide)⟩, hX.a2, hX.s0, fun h => ⟨(hX.s1 h).1, rfl⟩, hX.s2⟩)
    · unfold kwA
      go_simp
      exact hK _ _ (kj_set (by rw [hs]; decide) (x := upd x 5 _) (bl := upd bl 5 _) (ob := upd ob 5 _) rfl ⟨hX.l0, hX.l2, hX.l4, hX.it.alloc 5 _ (by intro j; rcases j with _ | _ | _ | _ | _ | _ | j <;> rfl) hu, hX.m0, hX.m1, hX.m2, hX.a0, hX.a1, fun _ => ⟨rfl, fun _ => rfl, fun h9 => absurd ((hX.s2 h9).2.symm.trans hu) (by decide)⟩, hX.s0, hX.s1, fun h => ⟨(hX.s2 h).1, rfl⟩⟩)
    · have h1 : L.getD 1 false = true := haf ⟨1, .data⟩ (by simp) rfl
      have h6 : L.getD 6 false = true := haf ⟨6, .data⟩ (by simp) rfl
      obtain ⟨e3, ho⟩ := hX.a0 h6
      obtain ⟨e0, _⟩ := hX.m0 h1
      have hh := (hX.it.here 3 h6).2
      rw [ho.1 hu] at hh
      have hc := cell_of_one hh
      have hf := free_of_one hh
      unfold kwA
      rw [e3, e0]
      go_simp
      refine hK _ _ (kj_set (by rw [hs]; decide) (x := x) (bl := bl) (ob := upd ob 3 (.cells (#[Value.slice none 0 0].setIfInBounds 0 (x 0)) 45 (0, 0))) (by unfold kwA; rw [e3, e0]) ?_)
      rw [← e0]
      exact ⟨hX.l0, hX.l2, hX.l4, hX.it.store 3 h6 (ho.1 hu) _, hX.m0, hX.m1, hX.m2, fun h => ⟨(hX.a0 h).1, fun h9 => Bool.noConfusion (show true = false from h9), fun _ => rfl⟩, hX.a1, hX.a2, fun _ => ⟨h1, h6⟩, hX.s1, hX.s2⟩
    · have h1 : L.getD 3 false = true := haf ⟨3, .data⟩ (by simp) rfl
      have h6 : L.getD 7 false = true := haf ⟨7, .data⟩ (by simp) rfl
      obtain ⟨e3, ho⟩ := hX.a1 h6
      obtain ⟨e0, _⟩ := hX.m1 h1
      have hh := (hX.it.here 4 h6).2
      rw [ho.1 hu] at hh
      have hc := cell_of_one hh
      have hf := free_of_one hh
      unfold kwA
      rw [e3, e0]
      go_simp
      refine hK _ _ (kj_set (by rw [hs]; decide) (x := x) (bl := bl) (ob := upd ob 4 (.cells (#[Value.slice none 0 0].setIfInBounds 0 (x 1)) 163 (0, 0))) (by unfold kwA; rw [e3, e0]) ?_)
      rw [← e0]
      exact ⟨hX.l0, hX.l2, hX.l4, hX.it.store 4 h6 (ho.1 hu) _, hX.m0, hX.m1, hX.m2, hX.a0, fun h => ⟨(hX.a1 h).1, fun h9 => Bool.noConfusion (show true = false from h9), fun _ => rfl⟩, hX.a2, hX.s0, fun _ => ⟨h1, h6⟩, hX.s2⟩
    · have h1 : L.getD 5 false = true := haf ⟨5, .data⟩ (by simp) rfl
      have h6 : L.getD 8 false = true := haf ⟨8, .data⟩ (by simp) rfl
      obtain ⟨e3, ho⟩ := hX.a2 h6
      obtain ⟨e0, _⟩ := hX.m2 h1
      have hh := (hX.it.here 5 h6).2
      rw [ho.1 hu] at hh
      have hc := cell_of_one hh
      have hf := free_of_one hh
      unfold kwA
      rw [e3, e0]
      go_simp
      refine hK _ _ (kj_set (by rw [hs]; decide) (x := x) (bl := bl) (ob := upd ob 5 (.cells (#[Value.slice none 0 0].setIfInBounds 0 (x 2)) 45 (0, 0))) (by unfold kwA; rw [e3, e0]) ?_)
      rw [← e0]
      exact ⟨hX.l0, hX.l2, hX.l4, hX.it.store 5 h6 (ho.1 hu) _, hX.m0, hX.m1, hX.m2, hX.a0, hX.a1, fun h => ⟨(hX.a2 h).1, fun h9 => Bool.noConfusion (show true = false from h9), fun _ => rfl⟩, hX.s0, hX.s1, fun _ => ⟨h1, h6⟩⟩
end Go.Proofs.Ytkckmjajjdpodaa
