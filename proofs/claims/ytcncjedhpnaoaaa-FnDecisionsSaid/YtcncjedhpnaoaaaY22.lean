/- Several texts in one: lemmas and walks of the functions that the law reaches. -/
import Derived.Test.YtcncjedhpnaoaaaY5
import Derived.Test.YtcncjedhpnaoaaaY6
import Derived.Test.YtcncjedhpnaoaaaY17
import Derived.Test.YtcncjedhpnaoaaaY21

namespace Go.Proofs.Ytcncjedhpnaoaaa
open Go.RowKit Go.Sort
set_option linter.unusedVariables false

theorem infoNd : (Try.prog.info? 55).map (fun i => (i.zero, i.size, i.bytes)) = some (some (.agg #[.int .i64 0, .int .i64 0, .int .i64 0, .int .i64 0, .slice none 0 0]), 5, 56) := by kernel_rfl
theorem slNd : SlT Try.prog 24 55 (.agg #[.int .i64 0, .int .i64 0, .int .i64 0, .int .i64 0, .slice none 0 0]) 5 56 := ⟨Try.underlying24, info_parts infoNd, rfl, by decide, by decide⟩

/-- A node with the order's slice. -/
abbrev EN := Dt.Nd × Value
def encN (x : EN) : List Value := [.int .i64 x.1.a, .int .i64 x.1.b, .int .i64 x.1.l, .int .i64 x.1.g, x.2]
theorem encN_len (x : EN) : (encN x).length = 5 := rfl

/-- An order, apart from the tree's block. -/
def OrdAt (w : World) (B g : Nat) (x : EN) : Prop :=
  ∃ (a : Option Addr) (c : Nat), x.2 = .slice a x.1.o.length c ∧ IntsAt w a x.1.o ∧ NilOk a c ∧ x.1.o.length ≤ 1000 ∧ ∀ k off, a = some ⟨k, off, none⟩ → k < w.heap.size ∧ k ≠ g ∧ B ≤ k
theorem OrdAt.zero (w : World) (B g : Nat) (p q r s : Int) : OrdAt w B g ((p, q, r, s, []), .slice none 0 0) := ⟨none, 0, rfl, .inl rfl, fun _ => rfl, Nat.zero_le _, fun _ _ e => by cases e⟩
theorem OrdAt.grown {w w' : World} {B g g' : Nat} {x : EN} (h : OrdAt w B g x) (hg : w.grownBy w' (some g)) (hn : g' = g ∨ w.heap.size ≤ g') : OrdAt w' B g' x := by
  obtain ⟨a, c, h1, h2, h3, h4, h5⟩ := h
  refine ⟨a, c, h1, h2.grown hg (fun b off e e2 => ?_), h3, h4, fun k off e => ?_⟩
  · injection e2 with e2
    exact (h5 b off e).2.1 e2.symm
  · have := h5 k off e
    exact ⟨Nat.lt_of_lt_of_le this.1 hg.size, by omega, this.2.2⟩
theorem OrdAt.below {w w' : World} {B g : Nat} {x : EN} (h : OrdAt w B g x) (hb : Below w.heap.size w w') : OrdAt w' B g x := by
  obtain ⟨a, c, h1, h2, h3, h4, h5⟩ := h
  exact ⟨a, c, h1, h2.below (Nat.le_refl _) hb, h3, h4, fun k off e => ⟨Nat.lt_of_lt_of_le (h5 k off e).1 hb.size, (h5 k off e).2⟩⟩
theorem OrdAt.of_own {w : World} {B B' g k n c : Nat} {d : Dt.Nd} (hBB : B ≤ B') (ho : w.ownsRow B' 3 1 (.slice (some ⟨k, 0, none⟩) n c) n (d.o.map (Value.int .i64))) (hl : d.o.length = n) (hn : n ≤ 1000) (hk : k ≠ g) : OrdAt w B g (d, .slice (some ⟨k, 0, none⟩) n c) := by
  refine ⟨_, c, by rw [hl], ints_of_own ho, nilOk_some _ _, (show d.o.length ≤ 1000 by omega), fun k' off e => ?_⟩
  injection e with e
  injection e with e _ _
  subst e
  exact ⟨(ho.lt k rfl).2, hk, Nat.le_trans hBB (ho.lt k rfl).1⟩

/-- A tree of the caller's own. -/
structure TreeR (w : World) (B g c : Nat) (xs : List EN) : Prop where
  row : w.ownsRow B 55 5 (.slice (some ⟨g, 0, none⟩) xs.length c) xs.length (flat encN xs)
  ord : ∀ x ∈ xs, OrdAt w B g x
theorem TreeR.below {w w' : World} {B g c : Nat} {xs : List EN} (h : TreeR w B g c xs) (hb : Below w.heap.size w w') : TreeR w' B g c xs :=
  ⟨own_below h.row (Nat.le_refl _) hb, fun x hx => (h.ord x hx).below hb⟩
/-- Behind an append. -/
theorem TreeR.app {w w' : World} {B g c : Nat} {xs : List EN} {x : EN} {v' : Value} (h : TreeR w B g c xs) (hx : OrdAt w B g x) (ho : w'.ownsRow B 55 5 v' (xs.length + 1) (flat encN xs ++ encN x)) (hg : w.grownBy w' (some g))
    (ht : v'.ownBlock = some g ∨ v'.ownBlock = some (w.heap.size + 1)) : ∃ g' c', v' = .slice (some ⟨g', 0, none⟩) (xs.length + 1) c' ∧ (g' = g ∨ w.heap.size ≤ g') ∧ TreeR w' B g' c' (xs ++ [x]) := by
  obtain ⟨a, c', rfl⟩ := own_slice ho
  obtain ⟨g', rfl, _⟩ := own_addr ho (by rcases ht with h | h <;> rw [h] <;> simp)
  have hgg : g' = g ∨ w.heap.size ≤ g' := by
    rcases ht with h | h <;> simp [Value.ownBlock] at h <;> omega
  refine ⟨g', c', rfl, hgg, ?_, ?_⟩
  · rw [flat_append, flat_one, List.length_append]; exact ho
  · intro y hy
    rcases List.mem_append.1 hy with hy | hy
    · exact (h.ord y hy).grown hg hgg
    · simp at hy; subst hy; exact hx.grown hg hgg
theorem TreeR.put {w w' : World} {B g c k : Nat} {xs : List EN} {x : EN} (h : TreeR w B g c xs) (hk : k < xs.length) (hx : OrdAt w B g x) (ho : w'.ownsRow B 55 5 (.slice (some ⟨g, 0, none⟩) xs.length c) xs.length ((flat encN xs).take (k * 5) ++ encN x ++ (flat encN xs).drop (k * 5 + 5))) (hg : w.grownBy w' (some g)) : TreeR w' B g c (xs.set k x) := by
  rw [flat_put encN_len _ _ hk] at ho
  refine ⟨by rw [List.length_set]; exact ho, fun y hy => ?_⟩
  rcases List.mem_or_eq_of_mem_set hy with hy | rfl
  · exact (h.ord y hy).grown hg (.inl rfl)
  · exact hx.grown hg (.inl rfl)
theorem TreeR.cells {w : World} {B g c k : Nat} {xs : List EN} {x : EN} (h : TreeR w B g c xs) (hk : xs[k]? = some x) : w.cell? ⟨g, k * 5, none⟩ = some (.int .i64 x.1.a) ∧ w.cell? ⟨g, k * 5 + 1, none⟩ = some (.int .i64 x.1.b) ∧ w.cell? ⟨g, k * 5 + 2, none⟩ = some (.int .i64 x.1.l) ∧ w.cell? ⟨g, k * 5 + 3, none⟩ = some (.int .i64 x.1.g) ∧ w.cell? ⟨g, k * 5 + 4, none⟩ = some x.2 := by
  have key : ∀ i v, i < 5 → (encN x)[i]? = some v → w.cell? ⟨g, k * 5 + i, none⟩ = some v := fun i v hi hv => by
    have hkl : k < xs.length := (List.getElem?_eq_some_iff.1 hk).1
    obtain ⟨g', e, _, _, hc⟩ := own_cell h.row (by omega)
    injection e with e
    injection e with e _
    subst e
    rw [hc _ (by omega), flat_get encN_len xs k i hi, hk, Option.bind_some, hv]
  exact ⟨key 0 _ (by omega) rfl, key 1 _ (by omega) rfl, key 2 _ (by omega) rfl, key 3 _ (by omega) rfl, key 4 _ (by omega) rfl⟩
theorem TreeR.nodes {w : World} {B g c : Nat} {xs : List EN} (h : TreeR w B g c xs) : NodesAt w (some ⟨g, 0, none⟩) (xs.map (·.1)) := by
  refine .inr ⟨g, 0, rfl, (h.row.lt g rfl).2, fun j hj => ?_⟩
  rw [List.length_map] at hj
  have hx : xs[j]? = some (xs[j]) := List.getElem?_eq_getElem hj
  obtain ⟨c0, c1, c2, c3, c4⟩ := h.cells hx
  have hd : (xs.map (·.1)).getD j Dt.nd0 = (xs[j]).1 := by
    rw [List.getD_eq_getElem?_getD, List.getElem?_map, hx]; rfl
  obtain ⟨a, c', e, h2, h3, h4, _⟩ := h.ord _ (List.getElem_mem hj)
  rw [hd, Nat.zero_add]
  exact ⟨c0, c1, c2, c3, ⟨a, c', by rw [c4, e], h2, h3⟩, by omega⟩

/-- What the cursor writes does not touch a tree. -/
theorem TreeR.cur {w0 w w' : World} {bc B g c : Nat} {ac : Option Addr} {zs : List Int} {M : Int} {xs : List EN} (h : TreeR w B g c xs) (hD : Drawn w0 w bc ac zs M) (hB : w0.heap.size ≤ B) (hg : w.grownBy w' (some bc)) : TreeR w' B g c xs :=
  ⟨hD.own h.row hB hg, fun x hx => by
    obtain ⟨a, c', h1, h2, h3, h4, h5⟩ := h.ord x hx
    exact ⟨a, c', h1, h2.grown hg (fun b off e e2 => by injection e2 with e2; have := h5 b off e; have := hD.old.1; omega), h3, h4, fun k off e => ⟨Nat.lt_of_lt_of_le (h5 k off e).1 hg.size, (h5 k off e).2⟩⟩⟩
theorem TreeR.mono {w : World} {B B' g c : Nat} {xs : List EN} (h : TreeR w B g c xs) (hB : B' ≤ B) : TreeR w B' g c xs :=
  ⟨own_mono h.row hB, fun x hx => by
    obtain ⟨a, c', h1, h2, h3, h4, h5⟩ := h.ord x hx
    exact ⟨a, c', h1, h2, h3, h4, fun k off e => ⟨(h5 k off e).1, (h5 k off e).2.1, Nat.le_trans hB (h5 k off e).2.2⟩⟩⟩
theorem TreeR.cut {w : World} {B g c k : Nat} {xs : List EN} (h : TreeR w B g c xs) (hk : k ≤ xs.length) : TreeR w B g c (xs.take k) := by
  have hl : (xs.take k).length = k := by simp; omega
  have := own_cutG h.row hk
  rw [flat_takeG encN_len xs k hk] at this
  exact ⟨by rw [hl]; exact this, fun x hx => h.ord x (List.mem_of_mem_take hx)⟩

namespace Dt
theorem grow_len : ∀ (f n : Nat) (b : Bool) (t : List Nd) (s : List Int) (x lo hi : Nat), t.length ≤ (growF f n b t s x lo hi).length
  | 0, _, _, _, _, _, _, _ => Nat.le_refl _
  | f + 1, n, b, t, s, x, lo, hi => by
    unfold growF
    split
    · simp
    · split
      · exact grow_len f _ _ _ _ _ _ _
      · refine Nat.le_trans ?_ (grow_len f _ _ _ _ _ _ _)
        rw [List.length_set]
        refine Nat.le_trans ?_ (grow_len f _ _ _ _ _ _ _)
        simp
theorem grow_leaf {f n : Nat} {b : Bool} {t : List Nd} {s : List Int} {lo hi : Nat} : growF (f + 1) n b t s n lo hi = t ++ [(0, 0, 0, 0, s)] := by
  unfold growF; rw [if_pos rfl]
theorem grow_next {f n : Nat} {b : Bool} {t : List Nd} {s : List Int} {x lo hi : Nat} (h1 : x ≠ n) (h2 : hi ≤ lo) : growF (f + 1) n b t s x lo hi = growF f n b t (s.take lo ++ (x : Int) :: s.drop lo) (x + 1) 0 (s.length + 1) := by
  rw [growF, if_neg h1, if_pos h2]
theorem grow_node {f n : Nat} {b : Bool} {t t1 : List Nd} {s : List Int} {x lo hi p up : Nat} {z : Int} (h1 : x ≠ n) (h2 : ¬ hi ≤ lo) (hp : p = if b then (lo + hi) / 2 else hi - 1) (hu : up = if b then (lo + hi) / 2 + 1 else hi)
    (hz : z = s.getD p 0) (ht : t1 = growF f n b (t ++ [((x : Int), z, ((t.length + 1 : Nat) : Int), 0, [])]) s x lo p) : growF (f + 1) n b t s x lo hi = growF f n b (t1.set t.length ((x : Int), z, ((t.length + 1 : Nat) : Int), (t1.length : Int), [])) s x up hi := by
  subst ht; subst hz; subst hp; subst hu
  rw [growF, if_neg h1, if_neg h2]
end Dt
end Go.Proofs.Ytcncjedhpnaoaaa

namespace Go.Proofs.Ytcncjedhpnaoaaa
open Go.RowKit Go.Sort
set_option linter.unusedVariables false

def GrowE (w : World) (B g : Nat) (xs : List EN) (t' : List Dt.Nd) (e : Ending) (w' : World) : Prop :=
  ∃ (g' m' c' : Nat) (xs' : List EN), e = .returned (.slice (some ⟨g', 0, none⟩) m' c') ∧ m' = xs'.length ∧ TreeR w' B g' c' xs' ∧ xs'.map (·.1) = t' ∧ (∃ ys, xs' = xs ++ ys) ∧ w.grownBy w' (some g) ∧ (g' = g ∨ w.heap.size ≤ g')
def GrowP (f : Nat) : Prop := ∀ (n : Nat) (b : Bool) (xs : List EN) (s : List Int) (x lo hi B m c ms cs g yb yo : Nat) (xI loI hiI : Int) (w : World),
    n ≤ 5 → 1 ≤ x → x ≤ n → s.length = x → ms = x → lo ≤ hi → hi ≤ x → (n - x) * (n + 2) + (hi - lo) + 1 ≤ f → xI = x → loI = lo → hiI = hi → m = xs.length →
    (Dt.growF f n b (xs.map (·.1)) s x lo hi).length ≤ 1000 → B ≤ w.heap.size → TreeR w B g c xs → IntsAt w (some ⟨yb, yo, none⟩) s → yb ≠ g → x ≤ cs →
    Calls Try.prog 47 #[.slice (some ⟨g, 0, none⟩) m c, .int .i64 n, .bool b, .slice (some ⟨yb, yo, none⟩) ms cs, .int .i64 xI, .int .i64 loI, .int .i64 hiI] w (GrowE w B g xs (Dt.growF f n b (xs.map (·.1)) s x lo hi))

theorem GrowE.pre {w w1 w' : World} {B g : Nat} {xs : List EN} {t' : List Dt.Nd} {e : Ending} (h : GrowE w1 B g xs t' e w') (hb : w.grownBy w1 (some g)) : GrowE w B g xs t' e w' := by
  obtain ⟨g', m', c', xs', h1, h2, h3, h4, h5, h6, h7⟩ := h
  have := hb.size
  exact ⟨g', m', c', xs', h1, h2, h3, h4, h5, grown_trans hb h6, by omega⟩
theorem ints_block {w : World} {b o : Nat} {s : List Int} (h : IntsAt w (some ⟨b, o, none⟩) s) (h0 : 0 < s.length) : b < w.heap.size := by
  rcases h with rfl | ⟨b', o', e, hb, _⟩
  · simp at h0
  · injection e with e
    injection e with e _ _
    subst e; exact hb

set_option maxRecDepth 100000 in
set_option maxHeartbeats 4000000 in
theorem grow_leaf_any (f n : Nat) (b : Bool) (xs : List EN) (s : List Int) (lo hi B c cs g yb yo : Nat) (w : World) (hn : n ≤ 5) (h1 : 1 ≤ n) (hs : s.length = n) (hl : xs.length < 1000) (hB : B ≤ w.heap.size) (hT : TreeR w B g c xs) (hY : IntsAt w (some ⟨yb, yo, none⟩) s) :
    Calls Try.prog 47 #[.slice (some ⟨g, 0, none⟩) xs.length c, .int .i64 n, .bool b, .slice (some ⟨yb, yo, none⟩) n cs, .int .i64 n, .int .i64 lo, .int .i64 hi] w (GrowE w B g xs (xs.map (·.1) ++ [(0, 0, 0, 0, s)])) := by
  have HC := Lib.hid (l1Own_any ⟨yb, yo, none⟩ cs s w (by omega) hY)
  rw [hs] at HC
  have HT := Lib.hid hT; have HS := Lib.hid hs
  obtain ⟨m, hm⟩ : ∃ m, xs.length = m := ⟨_, rfl⟩
  have HM := Lib.hid hm
  rw [hm] at hl ⊢
  clear hT hY hs hm
  go_enter Try.func47, Try.ntmps47
  go_wp2_with fail
  refine HC.out.mono ?_
  rintro e w1 ⟨g1, c1, rfl, ho, hb⟩
  have HT1 := Lib.hid (HT.out.below hb)
  have hg1 := ho.lt g1 rfl
  have hgl := (HT.out.row.lt g rfl).2
  have hne : g1 ≠ g := by omega
  have HX : Hid (OrdAt w1 B g ((0, 0, 0, 0, s), .slice (some ⟨g1, 0, none⟩) n c1)) := OrdAt.of_own hB ho HS.out (by omega) hne
  have HO : Hid (w1.ownsRow B 55 5 (.slice (some ⟨g, 0, none⟩) m c) m (flat encN xs)) := by
    have := HT1.out.row
    rwa [HM.out] at this
  have HB := Lib.hid hb
  have hB1 : B ≤ w1.heap.size := Nat.le_trans hB hb.size
  have hn1 : m + 1 ≤ 1099511627776 := by omega
  clear ho hb hg1 HC
  go_wp2_with (at_builtin; refine wpList_app1 slNd rfl _ _ rfl rfl HO.out [.int .i64 0, .int .i64 0, .int .i64 0, .int .i64 0, .slice (some ⟨g1, 0, none⟩) n c1] rfl rfl rfl (by simp [Value.oneCell']) hn1 hB1 ?_; intro v' w2 ho2 hg2 ht2; have HO2 := Lib.hid ho2; have HG2 := Lib.hid hg2; have HT2 := Lib.hid ht2; clear ho2 hg2 ht2)
  obtain ⟨g', c', rfl, hgg, hTR⟩ := HT1.out.app HX.out (by rw [HM.out]; exact HO2.out) HG2.out HT2.out
  rw [HM.out]
  have HTR := Lib.hid hTR
  have hsz := HB.out.size
  clear hTR HT2
  go_wp2
  go_ret
  refine ⟨g', m + 1, c', _, rfl, by rw [List.length_append, HM.out]; rfl, HTR.out, by rw [List.map_append]; rfl, ⟨_, rfl⟩, grown_trans (grown_of_below HB.out) HG2.out, by omega⟩
end Go.Proofs.Ytcncjedhpnaoaaa

namespace Go.Proofs.Ytcncjedhpnaoaaa
open Go.RowKit Go.Sort
set_option linter.unusedVariables false

set_option maxRecDepth 100000 in
set_option maxHeartbeats 4000000 in
theorem grow_next_any (f : Nat) (ih : GrowP f) (n : Nat) (b : Bool) (xs : List EN) (s : List Int) (x lo hi B c cs g yb yo : Nat) (w : World) (hn : n ≤ 5) (h1 : 1 ≤ x) (hx : x < n) (hs : s.length = x) (hlh : hi ≤ lo) (hlo : lo ≤ x)
    (hf : (n - (x + 1)) * (n + 2) + (x + 1 - 0) + 1 ≤ f) (hl : (Dt.growF f n b (xs.map (·.1)) (s.take lo ++ (x : Int) :: s.drop lo) (x + 1) 0 (s.length + 1)).length ≤ 1000) (hB : B ≤ w.heap.size) (hT : TreeR w B g c xs) (hY : IntsAt w (some ⟨yb, yo, none⟩) s) (hcs : x ≤ cs) :
    Calls Try.prog 47 #[.slice (some ⟨g, 0, none⟩) xs.length c, .int .i64 n, .bool b, .slice (some ⟨yb, yo, none⟩) x cs, .int .i64 x, .int .i64 lo, .int .i64 hi] w (GrowE w B g xs (Dt.growF f n b (xs.map (·.1)) (s.take lo ++ (x : Int) :: s.drop lo) (x + 1) 0 (s.length + 1))) := by
  have HR : Hid (∀ (k : Nat) (ck : Nat) (v : World), k = x + 1 → x + 1 ≤ ck → ∀ g6, w.heap.size ≤ g6 → Below w.heap.size w v → IntsAt v (some ⟨g6, 0, none⟩) (s.take lo ++ (x : Int) :: s.drop lo) → Calls Try.prog 47 #[.slice (some ⟨g, 0, none⟩) xs.length c, .int .i64 n, .bool b, .slice (some ⟨g6, 0, none⟩) k ck, .int .i64 ((x : Int) + 1), .int .i64 0, .int .i64 k] v (GrowE w B g xs (Dt.growF f n b (xs.map (·.1)) (s.take lo ++ (x : Int) :: s.drop lo) (x + 1) 0 (s.length + 1)))) := by
    intro k ck v hk hck g6 hg6 hb hi6
    subst hk
    have hgl := (hT.row.lt g rfl).2
    have hlen : (s.take lo ++ (x : Int) :: s.drop lo).length = x + 1 := by simp; omega
    have := ih n b xs (s.take lo ++ (x : Int) :: s.drop lo) (x + 1) 0 (x + 1) B xs.length c (x + 1) ck g g6 0 ((x : Int) + 1) 0 ((x + 1 : Nat) : Int) v hn (by omega) (by omega) hlen rfl (by omega) (Nat.le_refl _) hf (by simp) rfl rfl rfl (by rw [hs] at hl; exact hl) (Nat.le_trans hB hb.size) (hT.below hb) hi6 (by omega) hck
    rw [hs]
    exact this.mono fun e w' h => h.pre (grown_of_below hb)
  have HW := Lib.hid (fun (W : World) (ck : Nat) (hb : Below w.heap.size w W) => by
    have := l1Own_any ⟨yb, yo, none⟩ ck (s.take lo) W (by simp; omega) (ints_take (hY.below (Nat.le_refl _) hb) lo)
    rw [show (s.take lo).length = lo by simp; omega] at this
    unfold OwnEnd at this
    exact this)
  have HY := Lib.hid hY; have HSL := Lib.hid hs
  generalize Dt.growF f n b (xs.map (·.1)) (s.take lo ++ (x : Int) :: s.drop lo) (x + 1) 0 (s.length + 1) = GF at HR ⊢
  generalize xs.length = m at HR ⊢
  have hl2 : ((s.drop lo).map (Value.int .i64)).length = (x - lo) * 1 := by simp; omega
  have HL2 := Lib.hid hl2
  have HT : Hid ((s.take lo).length = lo) := by show _ = _; simp; omega
  clear hl hT hY hf ih hl2 hs
  have hlo5 : lo ≤ 5 := by omega
  have hx5 : x ≤ 5 := by omega
  have hne : ¬ ((x : Int) = (n : Int)) := by omega
  have hxn : ((x : Int) == (n : Int)) = false := by simpa using hne
  have hge : decide ((hi : Int) ≤ (lo : Int)) = true := decide_eq_true (by omega)
  have b1 : (lo : Int) ≤ (x : Int) := by omega
  have b2 : (x : Int) ≤ (cs : Int) := by omega
  have b3 : (lo : Int) ≤ (cs : Int) := by omega
  have b4 : (0 : Int) ≤ (lo : Int) := by omega
  obtain ⟨KK, k0, kn, ko, ki⟩ : ∃ KK : World → Prop, KK w.drew ∧ (∀ W W', KK W → Below W.heap.size W W' → KK W') ∧ (∀ W, KK W → Below w.heap.size w W) ∧ (∀ W, Below w.heap.size w W → KK W) :=
    ⟨fun W => Below w.heap.size w W, (Below.refl _ _).drew, fun W W' h hb => h.trans (hb.mono h.size), fun _ h => h, fun _ h => h⟩
  have SK := Lib.hid kn; have KO := Lib.hid ko; have KI := Lib.hid ki
  have HW2 := Lib.hid (fun (W : World) (c : Nat) (h : KK W) => HW.out W c (ko W h))
  have HI := Lib.hid (fun W (h : KK W) => HY.out.below (Nat.le_refl _) (ko W h))
  have hwd : w.heap.size ≤ w.drew.heap.size := Nat.le_refl _
  clear kn ko ki HW
  go_enter Try.func47, Try.ntmps47
  by_cases hce : cs = lo
  case neg =>
    have hce2 : ¬ lo = cs := fun h => hce h.symm
    go_wp2_with fail
    go_region_held3 (fun w' => KK w') (first | exact SK.out _ _ (by assumption) (by first | exact (Below.refl _ _).alloc (Nat.le_refl _) _ | exact (Below.refl _ _).drew) | assumption)
      (first
        | (go_at_call 57; refine (HW2.out _ _ (by assumption)).mono ?_; rintro e w5 ⟨g5, c5, rfl, ho5, hb5⟩; have hS := SK.out _ _ (by assumption) hb5; have HB5 := Lib.hid hb5; have HO5 := Lib.hid (own_mono ho5 (KO.out _ (by assumption)).size); clear hb5 ho5)
        | (refine step_appX slInt (by rfl) _ _ (by rfl) w.heap.size (.slice (some ⟨g5, 0, none⟩) lo c5) lo ((s.take lo).map (Value.int .i64)) _ 1 _ [.int .i64 x] (by rfl) (by first | exact HO5.out | exact own_below HO5.out (Nat.le_refl _) ((Below.refl _ _).alloc (Nat.le_refl _) _)) (by rfl) rfl (by
            intro q u hu
            first
            | exact cells_new _ [.int .i64 x] _ q u hu
            | (rw [addr_add_zero]; refine (HB5.out.cell (p := ⟨_, q, none⟩) (by simp)).trans ?_; rw [← addr_add_zero]; exact cells_new _ [.int .i64 x] _ q u hu)) (by simp [Value.oneCell']) (by omega) (KO.out _ (by assumption)).size ?_
           intro v6 w6 ho6 hg6 ht6; have HB6 := Lib.hid (below_app (KO.out _ (by assumption)) (KO.out _ (by assumption)).size (by first | exact HO5.out | exact own_below HO5.out (Nat.le_refl _) ((Below.refl _ _).alloc (Nat.le_refl _) _)) (Nat.le_refl _) hg6); have hT := KI.out _ HB6.out; have HO6 := Lib.hid ho6; clear ho6 hg6 ht6)
        | (refine step_appX slInt (by rfl) _ _ (by rfl) w.heap.size v6 (lo + 1) ((s.take lo).map (Value.int .i64) ++ [.int .i64 x]) _ (x - lo) _ ((s.drop lo).map (Value.int .i64)) (by rfl) HO6.out (by rfl) HL2.out (ints_news (ints_drop (HI.out _ (by assumption)) lo)) ints_one (by omega) (KO.out _ (by assumption)).size ?_
           intro v7 w7 ho7 hg7 ht7; have HB7 := Lib.hid (below_app (KO.out _ (by assumption)) (KO.out _ (by assumption)).size HO6.out (Nat.le_refl _) hg7); have hT7 := KI.out _ HB7.out; have HO7 := Lib.hid ho7; clear ho7 hg7 ht7))
    all_goals
      have e9 : lo + 1 + (x - lo) = x + 1 := by omega
      have HO9 := HO7.out
      rw [e9] at HO9
      obtain ⟨a9, c9, rfl⟩ := own_slice HO9
      obtain ⟨g9, rfl, hg9, hg9b, _⟩ := own_cell HO9 (by omega)
      have hc9 := (own_cap' HO9).1
      have HIN : Hid (IntsAt w7 (some ⟨g9, 0, none⟩) (s.take lo ++ (x : Int) :: s.drop lo)) := by
        refine ints_of_own (n := x + 1) (c := c9) (base := w.heap.size) (e := 3) ?_
        simpa [List.map_append] using HO9
      have HH := Lib.hid (HR.out (x + 1) c9 w7 rfl hc9 g9 hg9 HB7.out HIN.out)
      clear HO9 HO7
      go_wp2_with fail
      refine HH.out.mono ?_
      rintro e w8 hE
      have HE := Lib.hid hE
      unfold GrowE at hE
      obtain ⟨g8, m8, c8, xs8, rfl, hrest⟩ := hE
      clear hrest
      go_wp2
      go_ret
      exact HE.out
  · have e : lo = x := by omega
    have HDN : Hid (s.drop lo = []) := by show _ = _; exact List.drop_eq_nil_of_le (by rw [HSL.out]; omega)
    subst e
    subst hce
    have hc0 : ¬ cs = 0 := by omega
    have hcc : (cs : Int) ≤ (cs : Int) := by omega
    go_wp2_with fail
    go_region_held3 (fun w' => KK w') (first | exact SK.out _ _ (by assumption) (by first | exact (Below.refl _ _).alloc (Nat.le_refl _) _ | exact (Below.refl _ _).drew) | assumption)
      (first
        | (go_at_call 57; refine (HW2.out _ _ (by assumption)).mono ?_; rintro e w5 ⟨g5, c5, rfl, ho5, hb5⟩; have hS := SK.out _ _ (by assumption) hb5; have HB5 := Lib.hid hb5; have HO5 := Lib.hid (own_mono ho5 (KO.out _ (by assumption)).size); clear hb5 ho5)
        | (refine step_appX slInt (by rfl) _ _ (by rfl) w.heap.size (.slice (some ⟨g5, 0, none⟩) cs c5) cs ((s.take cs).map (Value.int .i64)) _ 1 _ [.int .i64 cs] (by rfl) (by first | exact HO5.out | exact own_below HO5.out (Nat.le_refl _) ((Below.refl _ _).alloc (Nat.le_refl _) _)) (by rfl) rfl (by
            intro q u hu
            first
            | exact cells_new _ [.int .i64 cs] _ q u hu
            | (rw [addr_add_zero]; refine (HB5.out.cell (p := ⟨_, q, none⟩) (by simp)).trans ?_; rw [← addr_add_zero]; exact cells_new _ [.int .i64 cs] _ q u hu)) (by simp [Value.oneCell']) (by omega) (KO.out _ (by assumption)).size ?_
           intro v6 w6 ho6 hg6 ht6; have HB6 := Lib.hid (below_app (KO.out _ (by assumption)) (KO.out _ (by assumption)).size (by first | exact HO5.out | exact own_below HO5.out (Nat.le_refl _) ((Below.refl _ _).alloc (Nat.le_refl _) _)) (Nat.le_refl _) hg6); have hT := KI.out _ HB6.out; have HO6 := Lib.hid ho6; clear ho6 hg6 ht6)
        | (refine step_appX slInt (by rfl) _ _ (by rfl) w.heap.size v6 (cs + 1) ((s.take cs).map (Value.int .i64) ++ [.int .i64 cs]) _ 0 _ [] (by rfl) HO6.out (by rfl) rfl (by intro q u hu; cases hu) (by intro u hu; cases hu) (by omega) (KO.out _ (by assumption)).size ?_
           intro v7 w7 ho7 hg7 ht7; have HB7 := Lib.hid (below_app (KO.out _ (by assumption)) (KO.out _ (by assumption)).size HO6.out (Nat.le_refl _) hg7); have hT7 := KI.out _ HB7.out; have HO7 := Lib.hid ho7; clear ho7 hg7 ht7))
    all_goals
      have e9 : cs + 1 + 0 = cs + 1 := by omega
      have HO9 := HO7.out
      rw [e9] at HO9
      obtain ⟨a9, c9, rfl⟩ := own_slice HO9
      obtain ⟨g9, rfl, hg9, hg9b, _⟩ := own_cell HO9 (by omega)
      have hc9 := (own_cap' HO9).1
      have HIN : Hid (IntsAt w7 (some ⟨g9, 0, none⟩) (s.take cs ++ (cs : Int) :: s.drop cs)) := by
        refine ints_of_own (n := cs + 1) (c := c9) (base := w.heap.size) (e := 3) ?_
        rw [HDN.out]
        simpa [List.map_append] using HO9
      have HH := Lib.hid (HR.out (cs + 1) c9 w7 rfl hc9 g9 hg9 HB7.out HIN.out)
      clear HO9 HO7
      go_wp2_with fail
      refine HH.out.mono ?_
      rintro e w8 hE
      have HE := Lib.hid hE
      unfold GrowE at hE
      obtain ⟨g8, m8, c8, xs8, rfl, hrest⟩ := hE
      clear hrest
      go_wp2
      go_ret
      exact HE.out
end Go.Proofs.Ytcncjedhpnaoaaa

namespace Go.Proofs.Ytcncjedhpnaoaaa
open Go.RowKit Go.Sort
set_option linter.unusedVariables false

theorem grown_two {w v w' : World} {g g2 : Nat} (h1 : w.grownBy v (some g)) (h2 : v.grownBy w' (some g2)) (h : g2 = g ∨ w.heap.size ≤ g2) : w.grownBy w' (some g) :=
  ⟨h2.os.trans h1.os, h2.tape.trans h1.tape, h2.output.trans h1.output, Nat.le_trans h1.size h2.size, fun k hk hne => (h2.block k (Nat.lt_of_lt_of_le hk h1.size) (fun e => by injection e with e; rcases h with h | h; exact hne (by rw [e, h]); omega)).trans (h1.block k hk hne)⟩

set_option maxRecDepth 100000 in
set_option maxHeartbeats 4000000 in
theorem grow_node_any (f : Nat) (ih : GrowP f) (n : Nat) (b : Bool) (xs : List EN) (s : List Int) (x lo hi p up B c cs g yb yo : Nat) (z : Int) (w : World) (t1 GF : List Dt.Nd) (hn : n ≤ 5) (h1 : 1 ≤ x) (hx : x < n) (hs : s.length = x) (hlh : lo < hi) (hhi : hi ≤ x)
    (hp : p = if b then (lo + hi) / 2 else hi - 1) (hu : up = if b then (lo + hi) / 2 + 1 else hi) (hz : z = s.getD p 0)
    (ht1 : t1 = Dt.growF f n b (xs.map (·.1) ++ [((x : Int), z, ((xs.length + 1 : Nat) : Int), 0, [])]) s x lo p) (hGF : GF = Dt.growF f n b (t1.set xs.length ((x : Int), z, ((xs.length + 1 : Nat) : Int), (t1.length : Int), [])) s x up hi)
    (hf : (n - x) * (n + 2) + (hi - lo) + 1 ≤ f + 1) (hl : GF.length ≤ 1000) (hB : B ≤ w.heap.size) (hT : TreeR w B g c xs) (hY : IntsAt w (some ⟨yb, yo, none⟩) s) (hyg : yb ≠ g) (hcs : x ≤ cs) :
    Calls Try.prog 47 #[.slice (some ⟨g, 0, none⟩) xs.length c, .int .i64 n, .bool b, .slice (some ⟨yb, yo, none⟩) x cs, .int .i64 x, .int .i64 lo, .int .i64 hi] w (GrowE w B g xs GF) := by
  have hlp : lo ≤ p ∧ p < hi ∧ lo ≤ up ∧ up ≤ hi ∧ p < up := by subst hp; subst hu; cases b <;> simp <;> omega
  obtain ⟨hlp1, hlp2, hlp3, hlp4, hlp5⟩ := hlp
  obtain ⟨E0, hE0⟩ : ∃ E0 : EN, (((x : Int), z, ((xs.length + 1 : Nat) : Int), 0, []), .slice none 0 0) = E0 := ⟨_, rfl⟩
  obtain ⟨E1, hE1⟩ : ∃ E1 : EN, (((x : Int), z, ((xs.length + 1 : Nat) : Int), (t1.length : Int), []), .slice none 0 0) = E1 := ⟨_, rfl⟩
  have hyb := ints_block hY (by omega)
  have hlen1 : xs.length + 1 ≤ t1.length := by
    have := Dt.grow_len f n b (xs.map (·.1) ++ [((x : Int), z, ((xs.length + 1 : Nat) : Int), 0, [])]) s x lo p
    rw [← ht1] at this
    simpa using this
  have hlen2 : t1.length ≤ 1000 := by
    have := Dt.grow_len f n b (t1.set xs.length ((x : Int), z, ((xs.length + 1 : Nat) : Int), (t1.length : Int), [])) s x up hi
    rw [← hGF, List.length_set] at this
    omega
  have HR1 : Hid (∀ (c1 g1 m1 : Nat) (v : World), m1 = xs.length + 1 → w.grownBy v (some g) → (g1 = g ∨ w.heap.size ≤ g1) → TreeR v B g1 c1 (xs ++ [E0]) → Calls Try.prog 47 #[.slice (some ⟨g1, 0, none⟩) m1 c1, .int .i64 n, .bool b, .slice (some ⟨yb, yo, none⟩) x cs, .int .i64 x, .int .i64 lo, .int .i64 p] v (GrowE v B g1 (xs ++ [E0]) t1)) := by
    intro c1 g1 m1 v hm1 hg hgg hT1
    have e1 : (xs ++ [E0]).map (·.1) = xs.map (·.1) ++ [((x : Int), z, ((xs.length + 1 : Nat) : Int), 0, [])] := by rw [List.map_append, ← hE0]; rfl
    have := ih n b (xs ++ [E0]) s x lo p B m1 c1 x cs g1 yb yo x lo p v hn h1 (by omega) hs rfl hlp1 (by omega) (by omega) rfl rfl rfl (by rw [List.length_append]; exact hm1) (by rw [e1, ← ht1]; exact hlen2) (Nat.le_trans hB hg.size) hT1 (hY.grown hg (fun b' off e e2 => by injection e with e; injection e with e _ _; injection e2 with e2; omega)) (by omega) hcs
    rwa [e1, ← ht1] at this
  have HR2 : Hid (∀ (c2 g2 m2 : Nat) (xs2 : List EN) (upI : Int) (v : World), upI = up → m2 = xs2.length → xs2.map (·.1) = t1.set xs.length ((x : Int), z, ((xs.length + 1 : Nat) : Int), (t1.length : Int), []) → w.grownBy v (some g) → (g2 = g ∨ w.heap.size ≤ g2) → TreeR v B g2 c2 xs2 → Calls Try.prog 47 #[.slice (some ⟨g2, 0, none⟩) m2 c2, .int .i64 n, .bool b, .slice (some ⟨yb, yo, none⟩) x cs, .int .i64 x, .int .i64 upI, .int .i64 hi] v (GrowE v B g2 xs2 GF)) := by
    intro c2 g2 m2 xs2 upI v hup hm2 he hg hgg hT2
    have := ih n b xs2 s x up hi B m2 c2 x cs g2 yb yo x upI hi v hn h1 (by omega) hs rfl hlp4 hhi (by omega) rfl hup rfl hm2 (by rw [he, ← hGF]; exact hl) (Nat.le_trans hB hg.size) hT2 (hY.grown hg (fun b' off e e2 => by injection e with e; injection e with e _ _; injection e2 with e2; omega)) (by omega) hcs
    rwa [he, ← hGF] at this
  obtain ⟨yb', yo', eY, cY⟩ := hY.at (k := p) (by omega)
  injection eY with eY
  injection eY with eY eY2 _
  subst eY; subst eY2
  rw [← hz] at cY
  have HO : Hid (w.ownsRow B 55 5 (.slice (some ⟨g, 0, none⟩) xs.length c) xs.length (flat encN xs)) := hT.row
  have HT := Lib.hid hT; have HE0 := Lib.hid hE0; have HE1 := Lib.hid hE1
  have HL1 := Lib.hid hlen1; have HL2 := Lib.hid hlen2
  have HXN : Hid (∃ m, xs.length = m) := ⟨_, rfl⟩
  obtain ⟨m, hm⟩ := HXN.out
  have HM := Lib.hid hm
  rw [hm] at hlen1
  rw [hm] at HO HR1 HR2 HE0 HE1 ⊢
  have hm1000 : m ≤ 1000 := by omega
  have hn1 : m + 1 ≤ 1099511627776 := by omega
  have hne : ¬ ((x : Int) = (n : Int)) := by omega
  have hxn : ((x : Int) == (n : Int)) = false := by simpa using hne
  have hge : decide ((hi : Int) ≤ (lo : Int)) = false := decide_eq_false (by omega)
  have hge2 : ¬ hi ≤ lo := by omega
  have b1 : (0 : Int) ≤ (p : Int) := by omega
  have b2 : (p : Int) < (x : Int) := by omega
  have hp5 : p ≤ 5 := by omega
  have hlo5 : lo ≤ 5 := by omega
  have hhi5 : hi ≤ 5 := by omega
  have hhp : Hid ((b = false → (hi : Int) - 1 = (p : Int) ∧ up = hi) ∧ (b = true → ((lo : Int) + (hi : Int)) / 2 = (p : Int) ∧ ((p : Int) + 1 = (up : Int)))) := by
    refine ⟨fun h => ?_, fun h => ?_⟩ <;> subst h <;> simp at hp hu <;> omega
  clear hT hY hyg ih hf hl ht1 hGF hE0 hE1 hz hm hp hu hlen2 HXN hlp1 hlp2 hlp3 hlp4 hlp5 hyb hlh hlen1
  go_enter Try.func47, Try.ntmps47
  cases b
  · obtain ⟨hh, hh2⟩ := hhp.out.1 rfl
    subst hh2
    clear hhp
    go_wp2_with (at_builtin; refine wpList_app1 slNd rfl _ _ rfl rfl HO.out [.int .i64 x, .int .i64 z, .int .i64 ((m : Int) + 1), .int .i64 0, .slice none 0 0] rfl rfl rfl (by simp [Value.oneCell']) hn1 hB ?_; intro v' w2 ho2 hg2 ht2; have HO2 := Lib.hid ho2; have HG2 := Lib.hid hg2; have HT2 := Lib.hid ht2; clear ho2 hg2 ht2)
    obtain ⟨g2, c2, rfl, hgg2, hTR2⟩ := HT.out.app (x := E0) (by rw [← HE0.out]; exact OrdAt.zero _ _ _ _ _ _ _) (by rw [HM.out, ← HE0.out]; exact HO2.out) HG2.out HT2.out
    rw [HM.out]
    have HH1 := Lib.hid (HR1.out c2 g2 (m + 1) w2 rfl HG2.out hgg2 hTR2)
    clear hTR2 HT2 HO2 HO HT
    go_wp2_with fail
    refine HH1.out.mono ?_
    rintro e w3 ⟨g3, m3, c3, xs3, rfl, hm3, hT3, he3, ⟨ys3, hy3⟩, hg3, hgg3⟩
    have hgw := HG2.out.size
    have HG3 := Lib.hid (grown_two HG2.out hg3 hgg2)
    have hgg : g3 = g ∨ w.heap.size ≤ g3 := by omega
    have hx3 : xs3[m]? = some E0 := by rw [hy3, List.append_assoc, List.getElem?_append_right (by rw [HM.out]; exact Nat.le_refl _), HM.out, Nat.sub_self]; rfl
    have hm3b : m < xs3.length := (List.getElem?_eq_some_iff.1 hx3).1
    have hl3 : xs3.length = t1.length := by rw [← he3, List.length_map]
    rw [hl3] at hm3
    subst hm3
    obtain ⟨d0, d1, d2, d3, d4⟩ := hT3.cells hx3
    rw [← HE0.out] at d0 d1 d2 d3 d4
    dsimp only [Dt.Nd.a, Dt.Nd.b, Dt.Nd.l, Dt.Nd.g] at d0 d1 d2 d3 d4
    have HO3 : Hid (w3.ownsRow B 55 5 (.slice (some ⟨g3, 0, none⟩) t1.length c3) t1.length (flat encN xs3)) := by
      have := hT3.row
      rwa [hl3] at this
    have HT3 := Lib.hid hT3; have HY3 := Lib.hid hy3; have HE3 := Lib.hid he3; have HL3 := Lib.hid hl3
    have hmt : m < t1.length := by omega
    have HMT := Lib.hid hmt
    have b3 : (m : Int) < (t1.length : Int) := by omega
    have b4 : (0 : Int) ≤ (m : Int) := by omega
    clear hT3 hy3 he3 HH1 hg3 hx3 HR1 hm3b hl3
    go_wp2_with (refine wpList_put slNd rfl (.tmp 93) (.tmp 92) rfl m rfl [.int .i64 x, .int .i64 z, .int .i64 ((m : Int) + 1), .int .i64 t1.length, .slice none 0 0] rfl rfl (by simp [Value.oneCell']) (HO3.out.alloc _) hmt ?_; intro w5 ho5 hg5; have HO5 := Lib.hid ho5; have HG5 := Lib.hid hg5; clear ho5 hg5)
    have hba := (Below.refl w3.heap.size w3).alloc (Nat.le_refl _) (Obj.cells #[.int .i64 x, .int .i64 z, .int .i64 ((m : Int) + 1), .int .i64 t1.length, .slice none 0 0] 55)
    have hTR5 := (HT3.out.below hba).put (k := m) (x := E1) (by rw [HL3.out]; exact HMT.out) (by rw [← HE1.out]; exact OrdAt.zero _ _ _ _ _ _ _) (by rw [HL3.out, ← HE1.out]; exact HO5.out) HG5.out
    have hG5 := grown_two (grown_trans HG3.out (grown_of_below hba)) HG5.out hgg
    have hxe : (xs3.set m E1).map (·.1) = t1.set m ((x : Int), z, ((m + 1 : Nat) : Int), (t1.length : Int), []) := by rw [List.map_set, HE3.out, ← HE1.out]
    have HH2 := Lib.hid (HR2.out c3 g3 t1.length (xs3.set m E1) up w5 rfl (by rw [List.length_set, HL3.out]) hxe hG5 hgg hTR5)
    have HG6 := Lib.hid hG5
    clear hba hTR5 hG5 hxe HR2 HO3 HT3 HO5 HG5 d0 d1 d2 d3 d4 cY
    go_wp2_with fail
    refine HH2.out.mono ?_
    rintro e w6 ⟨g6, m6, c6, xs6, rfl, hm6, hT6, he6, ⟨ys6, hy6⟩, hg6, hgg6⟩
    have HT6 := Lib.hid hT6; have HY6 := Lib.hid hy6; have HE6 := Lib.hid he6; have HM6 := Lib.hid hm6; have HG7 := Lib.hid (grown_two HG6.out hg6 hgg)
    have hsz6 := HG6.out.size
    clear hT6 hy6 he6 hm6 hg6 HH2
    go_wp2
    go_ret
    refine ⟨g6, m6, c6, xs6, rfl, HM6.out, HT6.out, HE6.out, ⟨E1 :: ys3 ++ ys6, ?_⟩, HG7.out, by omega⟩
    rw [HY6.out, HY3.out, List.append_assoc xs, List.set_append_right _ _ (by rw [HM.out]; exact Nat.le_refl _), HM.out, Nat.sub_self]
    simp
  · obtain ⟨hh, hh2⟩ := hhp.out.2 rfl
    have HUP := Lib.hid hh2
    clear hhp hh2
    go_wp2_with (at_builtin; refine wpList_app1 slNd rfl _ _ rfl rfl HO.out [.int .i64 x, .int .i64 z, .int .i64 ((m : Int) + 1), .int .i64 0, .slice none 0 0] rfl rfl rfl (by simp [Value.oneCell']) hn1 hB ?_; intro v' w2 ho2 hg2 ht2; have HO2 := Lib.hid ho2; have HG2 := Lib.hid hg2; have HT2 := Lib.hid ht2; clear ho2 hg2 ht2)
    obtain ⟨g2, c2, rfl, hgg2, hTR2⟩ := HT.out.app (x := E0) (by rw [← HE0.out]; exact OrdAt.zero _ _ _ _ _ _ _) (by rw [HM.out, ← HE0.out]; exact HO2.out) HG2.out HT2.out
    rw [HM.out]
    have HH1 := Lib.hid (HR1.out c2 g2 (m + 1) w2 rfl HG2.out hgg2 hTR2)
    clear hTR2 HT2 HO2 HO HT
    go_wp2_with fail
    refine HH1.out.mono ?_
    rintro e w3 ⟨g3, m3, c3, xs3, rfl, hm3, hT3, he3, ⟨ys3, hy3⟩, hg3, hgg3⟩
    have hgw := HG2.out.size
    have HG3 := Lib.hid (grown_two HG2.out hg3 hgg2)
    have hgg : g3 = g ∨ w.heap.size ≤ g3 := by omega
    have hx3 : xs3[m]? = some E0 := by rw [hy3, List.append_assoc, List.getElem?_append_right (by rw [HM.out]; exact Nat.le_refl _), HM.out, Nat.sub_self]; rfl
    have hm3b : m < xs3.length := (List.getElem?_eq_some_iff.1 hx3).1
    have hl3 : xs3.length = t1.length := by rw [← he3, List.length_map]
    rw [hl3] at hm3
    subst hm3
    obtain ⟨d0, d1, d2, d3, d4⟩ := hT3.cells hx3
    rw [← HE0.out] at d0 d1 d2 d3 d4
    dsimp only [Dt.Nd.a, Dt.Nd.b, Dt.Nd.l, Dt.Nd.g] at d0 d1 d2 d3 d4
    have HO3 : Hid (w3.ownsRow B 55 5 (.slice (some ⟨g3, 0, none⟩) t1.length c3) t1.length (flat encN xs3)) := by
      have := hT3.row
      rwa [hl3] at this
    have HT3 := Lib.hid hT3; have HY3 := Lib.hid hy3; have HE3 := Lib.hid he3; have HL3 := Lib.hid hl3
    have hmt : m < t1.length := by omega
    have HMT := Lib.hid hmt
    have b3 : (m : Int) < (t1.length : Int) := by omega
    have b4 : (0 : Int) ≤ (m : Int) := by omega
    clear hT3 hy3 he3 HH1 hg3 hx3 HR1 hm3b hl3
    go_wp2_with (refine wpList_put slNd rfl (.tmp 93) (.tmp 92) rfl m rfl [.int .i64 x, .int .i64 z, .int .i64 ((m : Int) + 1), .int .i64 t1.length, .slice none 0 0] rfl rfl (by simp [Value.oneCell']) (HO3.out.alloc _) hmt ?_; intro w5 ho5 hg5; have HO5 := Lib.hid ho5; have HG5 := Lib.hid hg5; clear ho5 hg5)
    have hba := (Below.refl w3.heap.size w3).alloc (Nat.le_refl _) (Obj.cells #[.int .i64 x, .int .i64 z, .int .i64 ((m : Int) + 1), .int .i64 t1.length, .slice none 0 0] 55)
    have hTR5 := (HT3.out.below hba).put (k := m) (x := E1) (by rw [HL3.out]; exact HMT.out) (by rw [← HE1.out]; exact OrdAt.zero _ _ _ _ _ _ _) (by rw [HL3.out, ← HE1.out]; exact HO5.out) HG5.out
    have hG5 := grown_two (grown_trans HG3.out (grown_of_below hba)) HG5.out hgg
    have hxe : (xs3.set m E1).map (·.1) = t1.set m ((x : Int), z, ((m + 1 : Nat) : Int), (t1.length : Int), []) := by rw [List.map_set, HE3.out, ← HE1.out]
    have HH2 := Lib.hid (HR2.out c3 g3 t1.length (xs3.set m E1) ((p : Int) + 1) w5 HUP.out (by rw [List.length_set, HL3.out]) hxe hG5 hgg hTR5)
    have HG6 := Lib.hid hG5
    clear hba hTR5 hG5 hxe HR2 HO3 HT3 HO5 HG5 d0 d1 d2 d3 d4 cY
    go_wp2_with fail
    refine HH2.out.mono ?_
    rintro e w6 ⟨g6, m6, c6, xs6, rfl, hm6, hT6, he6, ⟨ys6, hy6⟩, hg6, hgg6⟩
    have HT6 := Lib.hid hT6; have HY6 := Lib.hid hy6; have HE6 := Lib.hid he6; have HM6 := Lib.hid hm6; have HG7 := Lib.hid (grown_two HG6.out hg6 hgg)
    have hsz6 := HG6.out.size
    clear hT6 hy6 he6 hm6 hg6 HH2
    go_wp2
    go_ret
    refine ⟨g6, m6, c6, xs6, rfl, HM6.out, HT6.out, HE6.out, ⟨E1 :: ys3 ++ ys6, ?_⟩, HG7.out, by omega⟩
    rw [HY6.out, HY3.out, List.append_assoc xs, List.set_append_right _ _ (by rw [HM.out]; exact Nat.le_refl _), HM.out, Nat.sub_self]
    simp
end Go.Proofs.Ytcncjedhpnaoaaa

namespace Go.Proofs.Ytcncjedhpnaoaaa
open Go.RowKit Go.Sort
set_option linter.unusedVariables false

theorem grow_all : ∀ f, GrowP f
  | 0 => by
    intro n b xs s x lo hi B m c ms cs g yb yo xI loI hiI w _ _ _ _ _ _ _ h
    omega
  | f + 1 => by
    intro n b xs s x lo hi B m c ms cs g yb yo xI loI hiI w hn h1 hx hs hms hlh hhi hf hxI hlo hhiI hm hl hB hT hY hyg hcs
    subst hms; subst hxI; subst hlo; subst hhiI; subst hm
    by_cases hxn : ms = n
    · subst hxn
      rw [Dt.grow_leaf] at hl ⊢
      exact grow_leaf_any f ms b xs s lo hi B c cs g yb yo w hn h1 hs (by simp at hl; omega) hB hT hY
    · by_cases hle : hi ≤ lo
      · rw [Dt.grow_next hxn hle] at hl ⊢
        refine grow_next_any f (grow_all f) n b xs s ms lo hi B c cs g yb yo w hn h1 (by omega) hs hle (by omega) ?_ hl hB hT hY hcs
        have e : n - ms = (n - (ms + 1)) + 1 := by omega
        rw [e, Nat.add_mul, Nat.one_mul] at hf
        omega
      · obtain ⟨p, hp⟩ : ∃ p, p = if b then (lo + hi) / 2 else hi - 1 := ⟨_, rfl⟩
        obtain ⟨up, hu⟩ : ∃ p, p = if b then (lo + hi) / 2 + 1 else hi := ⟨_, rfl⟩
        have := Dt.grow_node (f := f) (t := xs.map (·.1)) (s := s) hxn hle hp hu rfl rfl
        rw [List.length_map] at this
        rw [this] at hl ⊢
        exact grow_node_any f (grow_all f) n b xs s ms lo hi p up B c cs g yb yo _ w _ _ hn h1 (by omega) hs (by omega) hhi hp hu rfl rfl rfl hf hl hB hT hY hyg hcs

theorem itree_len {n : Nat} (h1 : 1 ≤ n) (h5 : n ≤ 5) (b : Bool) : (Dt.itree n b).length ≤ 255 ∧ 1 ≤ (Dt.itree n b).length := by
  obtain ⟨D, W, hS⟩ := Dt.snd_all h1 h5 b
  have := (Dt.okTree_iff hS.t)
  omega

/-- A tree drawn. -/
def InsE (w : World) (ns : List Dt.Nd) (ok : Bool) (e : Ending) (w' : World) : Prop :=
  ∃ (g m c : Nat) (xs : List EN), e = .returned (.tuple #[.slice (some ⟨g, 0, none⟩) m c, .bool ok]) ∧ m = xs.length ∧ TreeR w' w.heap.size g c xs ∧ xs.map (·.1) = ns ∧ Below w.heap.size w w'

theorem tree_none (w : World) : TreeR (w.alloc (.cells #[] 55)) w.heap.size w.heap.size 0 [] :=
  ⟨own_lit (w := w) (e := 55) (size := 5) #[] 0 (by omega) rfl, fun x hx => by cases hx⟩

set_option maxRecDepth 100000 in
set_option maxHeartbeats 4000000 in
theorem insertionTree_any (n : Nat) (b : Bool) (w : World) : Calls Try.prog 32 #[.int .i64 n, .bool b] w (InsE w (if 1 ≤ n ∧ n ≤ 5 then Dt.itree n b else []) (decide (1 ≤ n ∧ n ≤ 5))) := by
  by_cases h : 1 ≤ n ∧ n ≤ 5
  · rw [if_pos h]
    have hdec : decide (1 ≤ n ∧ n ≤ 5) = true := decide_eq_true h
    rw [hdec]
    obtain ⟨h1, h5⟩ := h
    clear hdec
    have HC := Lib.hid (l1In_any n 1 5 w)
    have HT := Lib.hid (tree_none w)
    have hin : inB (n : Int) 1 5 = true := by unfold inB; simp; omega
    rw [hin] at HC
    have hba := (Below.refl w.heap.size w).alloc (Nat.le_refl _) (Obj.cells #[] 55)
    have hbb := hba.alloc hba.size (Obj.cells #[.int .i64 0] 3)
    obtain ⟨W, hW⟩ : ∃ W, (w.alloc (Obj.cells #[] 55)).alloc (Obj.cells #[.int .i64 0] 3) = W := ⟨_, rfl⟩
    have hTW : TreeR W w.heap.size w.heap.size 0 [] := by rw [← hW]; exact HT.out.below ((Below.refl _ _).alloc (Nat.le_refl _) _)
    have hYW : IntsAt W (some ⟨w.heap.size + 1, 0, none⟩) [0] := by
      have := ints_of_own (w := W) (base := 0) (e := 3) (a := some ⟨w.heap.size + 1, 0, none⟩) (n := 1) (c := 1) (zs := [0]) (by
        rw [← hW]
        have := own_lit (w := w.alloc (Obj.cells #[] 55)) (e := 3) (size := 1) #[.int .i64 0] 1 (by omega) rfl
        rw [size_al] at this
        exact own_mono this (Nat.zero_le _))
      exact this
    rw [hW] at hbb
    have HG := Lib.hid (grow_all 40 n b [] [0] 1 0 1 w.heap.size 0 0 1 1 w.heap.size (w.heap.size + 1) 0 1 0 1 W h5 (by omega) h1 rfl rfl (by omega) (by omega) (by
      have : n = 1 ∨ n = 2 ∨ n = 3 ∨ n = 4 ∨ n = 5 := by omega
      rcases this with e | e | e | e | e <;> subst e <;> decide) rfl rfl rfl rfl (by have := (itree_len h1 h5 b).1; unfold Dt.itree at this; show (Dt.growF 40 n b [] [0] 1 0 1).length ≤ 1000; omega) hbb.size hTW hYW (by omega) (by omega))
    have HB := Lib.hid hbb; have HW := Lib.hid hW
    clear hTW hYW hbb hba HT hin
    go_enter Try.func32, Try.ntmps32
    go_wp2_with fail
    refine HC.out.mono ?_
    rintro e w1 ⟨rfl, rfl⟩
    go_wp2_with fail
    refine HG.out.mono ?_
    rintro e w2 ⟨g2, m2, c2, xs2, rfl, hm2, hT2, he2, _, hg2, _⟩
    have HM2 := Lib.hid hm2; have HT2 := Lib.hid hT2; have HE2 := Lib.hid he2; have HB2 := Lib.hid (below_of_grown HB.out HB.out.size hg2 (fun k hk => by injection hk with hk; omega))
    clear hm2 hT2 he2 hg2
    go_wp2
    go_ret2
    exact ⟨g2, m2, c2, xs2, rfl, HM2.out, HT2.out, HE2.out, HB2.out⟩
  · rw [if_neg h]
    have hdec : decide (1 ≤ n ∧ n ≤ 5) = false := decide_eq_false h
    rw [hdec]
    clear hdec
    have HC := Lib.hid (l1In_any n 1 5 w)
    have HT := Lib.hid (tree_none w)
    have hin : inB (n : Int) 1 5 = false := by
      cases hi : inB (n : Int) 1 5 with
      | false => rfl
      | true => exfalso; unfold inB at hi; simp at hi; omega
    rw [hin] at HC
    have HB := Lib.hid ((Below.refl w.heap.size w).alloc (Nat.le_refl _) (Obj.cells #[] 55))
    clear hin h
    go_enter Try.func32, Try.ntmps32
    go_wp2_with fail
    refine HC.out.mono ?_
    rintro e w1 ⟨rfl, rfl⟩
    go_wp2
    go_ret2
    exact ⟨_, 0, 0, [], rfl, rfl, HT.out, rfl, HB.out⟩
end Go.Proofs.Ytcncjedhpnaoaaa

