/- Several texts in one: lemmas and walks of the functions that the laws reach. -/
import Derived.Test.YtkckmjajjdpodaaY7
import Derived.Test.YtkckmjajjdpodaaY2
import Derived.Deep.RegionHeld3
import Derived.OneCell

/- Walks: the merge of many lists: the reference's tree: its parts are made, in whatever order. -/
namespace Go.Proofs.Ytkckmjajjdpodaa
open Go.RowKit Go.Sort
set_option linter.unusedVariables false

def egA (p0 p1 p4 : Value) (k : Nat) (x : Nat → Value) : Act := { tmps := #[p0, p1, undef, undef, p4, .int .i64 k, x 5, undef, undef, undef, undef, p0, .int .i64 k, p0, x 0, x 1, p1, x 2, .int .i64 k, x 3, x 4, undef, undef, undef, undef, undef, undef, undef, undef, undef, undef, undef, undef, undef, undef, undef, undef, undef, undef, undef, undef, undef, undef, undef, undef, undef, undef, undef, undef, undef, undef, undef, undef, undef, undef, undef, undef, undef, undef, undef, undef, undef, undef, undef, undef, undef, undef, undef, undef, undef, undef, undef, undef, undef, undef, undef, undef, undef, undef], defers := [] }
def egAl (b : Nat → Bool) : Nat → Bool
  | 0 => b 1 | 1 => b 2 | 2 => b 6 | 3 => b 8 | _ => false
structure EX (wR : World) (k : Nat) (ks : List Int) (ds : List Bool) (b : Nat → Bool) (x : Nat → Value) (bl : Nat → Nat) (ob : Nat → Obj) (w : World) : Prop where
  l0 : b 0 = true
  l3 : b 3 = true
  l5 : b 5 = true
  it : Items wR w (egAl b) bl ob
  m0 : b 1 = true → ∃ c, x 0 = .slice (some ⟨bl 0, 0, none⟩) k c ∧ RowOb 3 k c (ints ks) (ob 0)
  m1 : b 2 = true → b 4 = false → x 1 = .slice (some ⟨bl 1, 0, none⟩) 0 0 ∧ ob 1 = .cells #[] 4 (0, 0)
  m2 : b 4 = true → ∃ c, x 2 = .slice (some ⟨bl 1, 0, none⟩) k c ∧ RowOb 4 k c (bools ds) (ob 1)
  m3 : b 6 = true → x 3 = .slice (some ⟨bl 2, 0, none⟩) k k ∧ ob 2 = .cells (madeCells (Value.cells (.int .i64 0)) (k * 1)) 3 (0, 0)
  m4 : b 7 = true → x 4 = .agg #[x 0, x 2, x 3, .int .i64 0]
  a0 : b 8 = true → x 5 = .pointer (some ⟨bl 3, 0, none⟩) ∧ (b 9 = false → ob 3 = .cells #[.slice none 0 0, .slice none 0 0, .slice none 0 0, .int .i64 0] 165 (0, 0)) ∧ (b 9 = true → ob 3 = .cells #[x 0, x 2, x 3, .int .i64 0] 165 (0, 0))
  s4 : b 4 = true → b 1 = true ∧ b 2 = true
  s7 : b 7 = true → b 1 = true ∧ b 4 = true ∧ b 6 = true
  s9 : b 9 = true → b 7 = true ∧ b 8 = true
def EJ (wR : World) (p0 p1 p4 : Value) (k : Nat) (ks : List Int) (ds : List Bool) (L : Array Bool) (a : Act) (w : World) : Prop := ∃ x bl ob, a = egA p0 p1 p4 k x ∧ EX wR k ks ds (fun j => L.getD j false) x bl ob w
theorem ej_set {wR : World} {p0 p1 p4 : Value} {k i : Nat} {ks : List Int} {ds : List Bool} {L : Array Bool} {a : Act} {w : World} {x : Nat → Value} {bl : Nat → Nat} {ob : Nat → Obj} (hi : i < L.size) (ha : a = egA p0 p1 p4 k x) (h : EX wR k ks ds (upd (fun j => L.getD j false) i true) x bl ob w) : EJ wR p0 p1 p4 k ks ds (L.setIfInBounds i true) a w := by
  refine ⟨x, bl, ob, ha, ?_⟩
  have e : (fun j => (L.setIfInBounds i true).getD j false) = upd (fun j => L.getD j false) i true := funext fun j => set_b hi j
  rw [e]; exact h
theorem Items.same {w0 w : World} {al al' : Nat → Bool} {bl : Nat → Nat} {ob : Nat → Obj} (h : Items w0 w al bl ob) (hal : ∀ j, al' j = al j) : Items w0 w al' bl ob := by
  rw [show al' = al from funext hal]; exact h

set_option maxRecDepth 100000 in
set_option maxHeartbeats 4000000 in
theorem l16Beats_any (ka da : Option Addr) (k kc dc : Nat) (ks : List Int) (ds : List Bool) (i m : Nat) (w : World) (hk : k ≤ 1000) (hi : i < k) (hm : m < k) (hks : ks.length = k) (hds : ds.length = k)
    (hK : ValsAt w ka (ints ks)) (hD : ValsAt w da (bools ds)) :
    Calls Try.prog 183 #[.slice ka k kc, .slice da k dc, .int .i64 i, .int .i64 m] w fun e w' => e = .returned (.bool (Mg.beats ks ds i m)) ∧ Below w.heap.size w w' := by
  obtain ⟨kb, ko, rfl, k1⟩ := hK.at (ints_at (show i < ks.length by omega))
  obtain ⟨kb', ko', e, k2⟩ := hK.at (ints_at (show m < ks.length by omega))
  injection e with e
  injection e with e1 e2
  subst e1 e2
  obtain ⟨db, d_o, rfl, d1⟩ := hD.at (bools_at (show i < ds.length by omega))
  obtain ⟨db', do', e, d2⟩ := hD.at (bools_at (show m < ds.length by omega))
  injection e with e
  injection e with e1 e2
  subst e1 e2
  obtain ⟨x, hx⟩ : ∃ x, ks.getD i 0 = x := ⟨_, rfl⟩
  obtain ⟨y, hy⟩ : ∃ y, ks.getD m 0 = y := ⟨_, rfl⟩
  obtain ⟨p, hp⟩ : ∃ p, ds.getD i false = p := ⟨_, rfl⟩
  obtain ⟨q, hq⟩ : ∃ q, ds.getD m false = q := ⟨_, rfl⟩
  have HV := Lib.hid (beats_val ks ds i m p q x y hp hq hx hy)
  rw [hx] at k1; rw [hy] at k2; rw [hp] at d1; rw [hq] at d2
  clear hx hy hp hq hK hD
  have b1 : (0 : Int) ≤ (i : Int) := by omega
  have b2 : (i : Int) < (k : Int) := by omega
  have b3 : (0 : Int) ≤ (m : Int) := by omega
  have b4 : (m : Int) < (k : Int) := by omega
  have t1 : ((i : Int)).toNat = i := by omega
  have t2 : ((m : Int)).toNat = m := by omega
  by_cases hpq : p = q
  · subst hpq
    have q1 : (p != p) = false := by simp
    rw [q1] at HV
    by_cases hxy : x = y
    · subst hxy
      have z1 : decide (x < x) = false := by simp
      have z2 : (x != x) = false := by simp
      rw [z1, decide_eq_true rfl] at HV
      go_enter Try.func183, Try.ntmps183
      go_wp2_with fail
      go_quiet (fail)
      go_wp2_with fail
      go_quiet (fail)
      go_wp2
      go_ret
      exact ⟨ret_bool (by rw [HV.out]; simp), (by first | exact below_drewN (Below.refl _ _) _ | exact below_drewN (below_drewN (Below.refl _ _) _) _ | exact below_drewN (below_drewN (below_drewN (Below.refl _ _) _) _) _)⟩
    · have z2 : (x != y) = true := by simp [hxy]
      rw [decide_eq_false hxy] at HV
      clear hxy
      go_enter Try.func183, Try.ntmps183
      go_wp2_with fail
      go_quiet (fail)
      go_wp2_with fail
      go_quiet (fail)
      go_wp2_with fail
      go_quiet (fail)
      go_wp2
      go_ret
      exact ⟨ret_bool (by rw [HV.out]; simp), (by first | exact below_drewN (Below.refl _ _) _ | exact below_drewN (below_drewN (Below.refl _ _) _) _ | exact below_drewN (below_drewN (below_drewN (Below.refl _ _) _) _) _)⟩
  · cases p <;> cases q
    all_goals first | exact absurd rfl hpq | skip
    all_goals
      clear hpq
      go_enter Try.func183, Try.ntmps183
      go_wp2_with fail
      go_quiet (fail)
      go_wp2
      go_ret
      exact ⟨ret_bool (by rw [HV.out]; rfl), (by first | exact below_drewN (Below.refl _ _) _ | exact below_drewN (below_drewN (Below.refl _ _) _) _ | exact below_drewN (below_drewN (below_drewN (Below.refl _ _) _) _) _)⟩

/-- A tree that was made anew. -/
def MkEnd (w : World) (k : Nat) (ks : List Int) (ds : List Bool) (e : Ending) (w' : World) : Prop :=
  ∃ (win gk c0 gd c2 : Nat) (lv : Value), e = .returned (.agg #[.slice (some ⟨gk, 0, none⟩) k c0, .slice (some ⟨gd, 0, none⟩) k c2, lv, .int .i64 win]) ∧ lv.oneCell' = true ∧ Mg.Win ks ds k win ∧ ValsAt w' (some ⟨gk, 0, none⟩) (ints ks) ∧ ValsAt w' (some ⟨gd, 0, none⟩) (bools ds) ∧ w.heap.size ≤ gk ∧ w.heap.size ≤ gd ∧ Below w.heap.size w w'
theorem own_made {w : World} {B g k : Nat} {z : Value} {e : TypeId} (h : w.heap[g]? = some (.cells (madeCells (Value.cells z) (k * 1)) e (0, 0))) (hB : B ≤ g) (hk : k ≤ 1000) (hz : Value.cells z = #[z]) : w.ownsRow B e 1 (.slice (some ⟨g, 0, none⟩) k k) k (List.replicate k z) := by
  rw [hz, Nat.mul_one] at h
  have e1 : (madeCells #[z] k).toList = List.replicate k z := toList_madeCells_one z k
  have e2 : (madeCells #[z] k).size = k := by rw [← Array.length_toList, e1, List.length_replicate]
  refine ⟨by rw [List.length_replicate, Nat.mul_one], .inr ⟨g, k, _, rfl, hB, h, Nat.le_refl _, by unfold maxLen; omega, by rw [e2, Nat.mul_one], ?_⟩⟩
  rw [e1, Nat.mul_one, List.take_of_length_le (by rw [List.length_replicate]; exact Nat.le_refl _)]

/-- The tree while its matches are played: its block, the copies, the losers, the winners. -/
structure Mk (wR wq : World) (t gk gd gl gw k c0 c2 : Nat) (wv : Value) (ks : List Int) (ds : List Bool) (ls ws : List Int) : Prop where
  pl : Pl wR wq t (.slice (some ⟨gk, 0, none⟩) k c0) (.slice (some ⟨gd, 0, none⟩) k c2) (.slice (some ⟨gl, 0, none⟩) k k) wv
  ok : wq.ownsRow wR.heap.size 3 1 (.slice (some ⟨gk, 0, none⟩) k c0) k (ints ks)
  od : wq.ownsRow wR.heap.size 4 1 (.slice (some ⟨gd, 0, none⟩) k c2) k (bools ds)
  ol : wq.ownsRow wR.heap.size 3 1 (.slice (some ⟨gl, 0, none⟩) k k) k (ints ls)
  ow : wq.ownsRow wR.heap.size 3 1 (.slice (some ⟨gw, 0, none⟩) (2 * k) (2 * k)) (2 * k) (ints ws)
  ne : gk ≠ gl ∧ gk ≠ gw ∧ gd ≠ gl ∧ gd ≠ gw ∧ gl ≠ gw ∧ t ≠ gl ∧ t ≠ gw ∧ t ≠ gk ∧ t ≠ gd
section
variable {wR wq wz : World} {t gk gd gl gw k c0 c2 : Nat} {wv : Value} {ks : List Int} {ds : List Bool} {ls ws : List Int}
theorem Mk.same (h : Mk wR wq t gk gd gl gw k c0 c2 wv ks ds ls ws) (hb : Below wq.heap.size wq wz) : Mk wR wz t gk gd gl gw k c0 c2 wv ks ds ls ws :=
  ⟨h.pl.below hb, own_below h.ok (Nat.le_refl _) hb, own_below h.od (Nat.le_refl _) hb, own_below h.ol (Nat.le_refl _) hb, own_below h.ow (Nat.le_refl _) hb, h.ne⟩
theorem own_far {w w' : World} {B g b n c : Nat} {e : TypeId} {vs : List Value} (h : w.ownsRow B e 1 (.slice (some ⟨g, 0, none⟩) n c) n vs) (hg : w.grownBy w' (some b)) (hne : g ≠ b) : w'.ownsRow B e 1 (.slice (some ⟨g, 0, none⟩) n c) n vs :=
  own_other h hg (fun q hq e => by simp [Value.ownBlock] at hq; injection e with e; omega)
theorem Mk.setw (h : Mk wR wq t gk gd gl gw k c0 c2 wv ks ds ls ws) (j : Nat) (x : Int) : Mk wR (wq.setCell ⟨gw, j, none⟩ (.int .i64 x)) t gk gd gl gw k c0 c2 wv ks ds ls (ws.set j x) := by
  have hs := h.ow.stored j (.int .i64 x)
  rw [ints_set] at hs
  obtain ⟨n1, n2, n3, n4, n5, n6, n7, n8, n9⟩ := h.ne
  have hge := (h.ow.lt gw rfl).1
  exact ⟨h.pl.next hs.2 (by intro e; injection e with e; omega) (by intro b e; injection e with e; omega), own_far h.ok hs.2 n2, own_far h.od hs.2 n4, own_far h.ol hs.2 n5, hs.1, h.ne⟩
theorem Mk.setl (h : Mk wR wq t gk gd gl gw k c0 c2 wv ks ds ls ws) (j : Nat) (x : Int) : Mk wR (wq.setCell ⟨gl, j, none⟩ (.int .i64 x)) t gk gd gl gw k c0 c2 wv ks ds (ls.set j x) ws := by
  have hs := h.ol.stored j (.int .i64 x)
  rw [ints_set] at hs
  obtain ⟨n1, n2, n3, n4, n5, n6, n7, n8, n9⟩ := h.ne
  have hge := (h.ol.lt gl rfl).1
  exact ⟨h.pl.next hs.2 (by intro e; injection e with e; omega) (by intro b e; injection e with e; omega), own_far h.ok hs.2 n1, own_far h.od hs.2 n3, hs.1, own_far h.ow hs.2 (Ne.symm n5), h.ne⟩
theorem Mk.wins (h : Mk wR wq t gk gd gl gw k c0 c2 wv ks ds ls ws) (v : Value) : Mk wR (wq.setCell ⟨t, 3, none⟩ v) t gk gd gl gw k c0 c2 v ks ds ls ws := by
  have hs := h.pl.row.stored 3 v
  obtain ⟨n1, n2, n3, n4, n5, n6, n7, n8, n9⟩ := h.ne
  exact ⟨h.pl.wins v, own_far h.ok hs.2 (Ne.symm n8), own_far h.od hs.2 (Ne.symm n9), own_far h.ol hs.2 (Ne.symm n6), own_far h.ow hs.2 (Ne.symm n7), h.ne⟩
end

set_option maxRecDepth 100000 in
set_option maxHeartbeats 4000000 in
theorem l16Make_any (kb ko db d_o k kc dc : Nat) (ks : List Int) (ds : List Bool) (w : World) (hk0 : 0 < k) (hk : k ≤ 100) (hks : ks.length = k) (hds : ds.length = k)
    (hK : ValsAt w (some ⟨kb, ko, none⟩) (ints ks)) (hD : ValsAt w (some ⟨db, d_o, none⟩) (bools ds)) :
    Calls Try.prog 170 #[.slice (some ⟨kb, ko, none⟩) k kc, .slice (some ⟨db, d_o, none⟩) k dc] w (MkEnd w k ks ds) := by
  unfold MkEnd
  obtain ⟨wR, hwR⟩ : ∃ W, W = (w.alloc (.cells #[.slice none 0 0, .slice none 0 0, .slice none 0 0, .int .i64 0] 165)).drew := ⟨_, rfl⟩
  have hbR : Below w.heap.size w wR := by rw [hwR]; exact ((Below.refl _ _).alloc (Nat.le_refl _) _).drew
  have HK := Lib.hid (fun (W : World) (hb : Below wR.heap.size wR W) => (hK.same hbR).same hb)
  have HD := Lib.hid (fun (W : World) (hb : Below wR.heap.size wR W) => show ∀ (j : Nat) (v : Value), (bools ds)[j]? = some v → W.cell? ((⟨db, d_o, none⟩ : Addr).add j) = some v from fun j v hj => by
    obtain ⟨b, off, e, hc⟩ := ((hD.same hbR).same hb).at hj
    injection e with e
    injection e with e1 e2
    subst e1 e2
    rw [show (⟨db, d_o, none⟩ : Addr).add j = ⟨db, d_o + j, none⟩ by unfold Addr.add; split <;> simp_all]
    exact hc)
  have HKR := Lib.hid (hK.same hbR); have HDR := Lib.hid (hD.same hbR)
  clear hK hD
  go_enter Try.func170, Try.ntmps170
  go_wp2_with fail
  refine wp_region_held_drew (S := fun _ => True) (by kernel_rfl) trivial (fun _ => ?_)
  rw [← hwR]
  refine wpAnyH_take (i := 0) (v := .slice (some ⟨kb, ko, none⟩) k kc) rfl (by kernel_rfl) (by kernel_rfl) (by kernel_rfl) (fun _ _ _ h => h) (Or.inl ⟨by rfl, fun w' _ => by go_simp⟩) (by assumption) ?_
  refine wpAnyH_take (i := 3) (v := .slice (some ⟨db, d_o, none⟩) k dc) rfl (by kernel_rfl) (by kernel_rfl) (by kernel_rfl) (fun _ _ _ h => h) (Or.inl ⟨by rfl, fun w' _ => by go_simp⟩) (by assumption) ?_
  refine wpAnyH_take (i := 5) (v := .int .i64 k) rfl (by kernel_rfl) (by kernel_rfl) (by kernel_rfl) (fun _ _ _ h => h) (Or.inl ⟨by rfl, fun w' _ => by go_simp⟩) (by assumption) ?_
  refine wpAnyH_inv (EJ wR (.slice (some ⟨kb, ko, none⟩) k kc) (.slice (some ⟨db, d_o, none⟩) k dc) (.pointer (some ⟨w.heap.size, 0, none⟩)) k ks ds) (by kernel_rfl) ?steps ?done _ _ _ _ (by kernel_rfl) (by decide) ?start
  case start =>
    refine ⟨fun _ => undef, fun _ => 0, fun _ => default, rfl, rfl, rfl, rfl, ?_, ?_, ?_, ?_, ?_, ?_, ?_, ?_, ?_, ?_⟩
    · rw [show egAl _ = fun _ => false from funext fun j => by rcases j with _ | _ | _ | _ | j <;> rfl]
      exact Items.start (Below.refl _ _) _ _
    all_goals (intro h; exact absurd h (by decide))
  case done =>
    rintro L a w2 hall ⟨x, bl, ob, rfl, hX⟩
    have hb : ∀ i, i < 10 → L.getD i false = true := hall
    obtain ⟨c0, e0, r0⟩ := hX.m0 (hb 1 (by omega))
    obtain ⟨c2, e2, r2⟩ := hX.m2 (hb 4 (by omega))
    obtain ⟨e3, o3⟩ := hX.m3 (hb 6 (by omega))
    have e4 := hX.m4 (hb 7 (by omega))
    obtain ⟨e5, _, o5⟩ := hX.a0 (hb 8 (by omega))
    have p0 := hX.it.here 0 (hb 1 (by omega))
    have p1 := hX.it.here 1 (hb 2 (by omega))
    have p2 := hX.it.here 2 (hb 6 (by omega))
    have p3 := hX.it.here 3 (hb 8 (by omega))
    rw [o3] at p2
    rw [o5 (hb 9 (by omega)), e0, e2, e3] at p3
    have n01 := hX.it.ne 0 1 (by decide) (hb 1 (by omega)) (hb 2 (by omega))
    have n02 := hX.it.ne 0 2 (by decide) (hb 1 (by omega)) (hb 6 (by omega))
    have n12 := hX.it.ne 1 2 (by decide) (hb 2 (by omega)) (hb 6 (by omega))
    have n03 := hX.it.ne 0 3 (by decide) (hb 1 (by omega)) (hb 8 (by omega))
    have n13 := hX.it.ne 1 3 (by decide) (hb 2 (by omega)) (hb 8 (by omega))
    have n23 := hX.it.ne 2 3 (by decide) (hb 6 (by omega)) (hb 8 (by omega))
    have hbl := hX.it.bel
    have hszR : wR.heap.size = w.heap.size + 1 := by rw [hwR]; show (w.alloc _).heap.size = _; simp
    have hRR : wR.heap[w.heap.size]? = some (.cells #[.slice none 0 0, .slice none 0 0, .slice none 0 0, .int .i64 0] 165 (0, 0)) := by
      rw [hwR]; exact block_new w _
    have HO0 := Lib.hid (ob_row p0.2 r0 p0.1)
    have HO1 := Lib.hid (ob_row p1.2 r2 p1.1)
    have HO2 : Hid (w2.ownsRow wR.heap.size 3 1 (.slice (some ⟨bl 2, 0, none⟩) k k) k (ints (List.replicate k 0))) := by
      have := own_made p2.2 p2.1 (by omega) rfl
      show World.ownsRow _ _ _ _ _ _ _
      rw [show ints (List.replicate k 0) = List.replicate k (.int .i64 0) by simp [ints]]; exact this
    have HPL : Hid (Pl wR w2 (bl 3) (.slice (some ⟨bl 0, 0, none⟩) k c0) (.slice (some ⟨bl 1, 0, none⟩) k c2) (.slice (some ⟨bl 2, 0, none⟩) k k) (.int .i64 0)) := ⟨(pl_new p3.2).row, grown_of_below hbl⟩
    have l0 := (Array.getElem?_eq_some_iff.1 p0.2).1; have l1 := (Array.getElem?_eq_some_iff.1 p1.2).1; have l2 := (Array.getElem?_eq_some_iff.1 p2.2).1; have l3 := (Array.getElem?_eq_some_iff.1 p3.2).1
    have g0 := p0.1; have g1 := p1.1; have g2 := p2.1; have g3 := p3.1
    unfold egA
    rw [e4, e0, e2, e3, e5]
    clear e0 e2 e3 e4 e5 o3 o5 r0 r2 p0 p1 p2 p3 hX hb hall
    generalize bl 0 = gk at *
    generalize bl 1 = gd at *
    generalize bl 2 = gl at *
    generalize bl 3 = t at *
    have HKS : Hid (∀ W, wR.grownBy W (some t) → ValsAt W (some ⟨kb, ko, none⟩) (ints ks)) := fun W hg => by
      obtain ⟨b, off, e, hc⟩ := HKR.out.at (ints_at (show 0 < ks.length by omega))
      injection e with e
      injection e with e1 e2
      have := World.block_lt_of_cell? wR _ hc
      exact HKR.out.grown hg (fun b' o' e' he => by injection e' with e'; injection e' with e3 e4; injection he with he; simp at this; omega)
    have HDS : Hid (∀ W, wR.grownBy W (some t) → ValsAt W (some ⟨db, d_o, none⟩) (bools ds)) := fun W hg => by
      obtain ⟨b, off, e, hc⟩ := HDR.out.at (bools_at (show 0 < ds.length by omega))
      injection e with e
      injection e with e1 e2
      have := World.block_lt_of_cell? wR _ hc
      exact HDR.out.grown hg (fun b' o' e' he => by injection e' with e'; injection e' with e3 e4; injection he with he; simp at this; omega)
    clear HK HD HKR HDR
    have hszR' : w.heap.size < wR.heap.size := by omega
    clear hwR
    go_wp2_with (at_make; refine wpList_mk slInt rfl _ _ rfl (2 * k) (by first | rfl | (show Value.int .i64 (2 * (k : Int)) = _; rw [show (2 : Int) * (k : Int) = ((2 * k : Nat) : Int) by omega])) (by first | rfl | (show Value.int .i64 (2 * (k : Int)) = _; rw [show (2 : Int) * (k : Int) = ((2 * k : Nat) : Int) by omega])) (by omega) ?_)
    intro w3 hown hb3 hsz3
    have HM : Hid (∃ ls ws : List Int, ls.length = k ∧ ws.length = 2 * k ∧ Mk wR w3 t gk gd gl w2.heap.size k c0 c2 (.int .i64 0) ks ds ls ws) :=
      ⟨List.replicate k 0, List.replicate (2 * k) 0, by simp, by simp, HPL.out.below hb3, own_below HO0.out (Nat.le_refl _) hb3, own_below HO1.out (Nat.le_refl _) hb3, own_below HO2.out (Nat.le_refl _) hb3, own_mono (made_ints (by simpa [Value.cells] using hown)) hbl.size, ⟨n02, by omega, n12, by omega, by omega, Ne.symm n23, by omega, Ne.symm n03, Ne.symm n13⟩⟩
    have HRR := Lib.hid hRR; have HBR := Lib.hid hbR
    generalize w2.heap.size = gw at HM
    have hts : wR.heap.size ≤ t := g3
    clear hown hb3 hsz3 HO0 HO1 HO2 HPL l0 l1 l2 l3 g0 g1 g2 g3 n01 n02 n12 n03 n13 n23 hRR hbl hbR
    go_wp2_with fail
    go_loopw [8] (fun v wq => ∃ (p : Nat) (ls ws : List Int), v = .int .i64 p ∧ p < 2 * k ∧ ls.length = k ∧ ws.length = 2 * k ∧ Mk wR wq t gk gd gl gw k c0 c2 (.int .i64 0) ks ds ls ws ∧ Hid (∀ q, p < q → q < 2 * k → ∃ v : Nat, ws.getD q 0 = (v : Int) ∧ Mg.NodeWin ks ds k q v)) (fun v _ => (intOf v).toNat)
    case atStart =>
      obtain ⟨ls, ws, h1, h2, h3⟩ := HM.out
      exact ⟨2 * k - 1, ls, ws, by go_num, by omega, h1, h2, h3, Lib.hid (fun q h1 h2 => by omega)⟩
    case round =>
      obtain ⟨p, ls, ws, rfl, hp, hls, hws, hm, HALL⟩ := hrel
      have HM1 := Lib.hid hm
      clear hm HM
      rcases Nat.eq_zero_or_pos p with rfl | hp0
      · have q1 : decide (0 < ((0 : Nat) : Int)) = false := rfl
        obtain ⟨v, hv, nv⟩ := HALL.out 1 (by omega) (by omega)
        have HW := Lib.hid (Mg.node_root nv)
        have hvk : v < k := nv.1
        by_cases hk1 : 1 < k
        · have q2 : decide (1 < (k : Int)) = true := decide_eq_true (by omega)
          have x1 := HM1.out.ow.cellAt 1 (by omega)
          rw [ints_at (by omega), hv] at x1
          have hfz := HM1.out.pl.row.frozenAt 3
          obtain ⟨c00, c01, c02, c03⟩ := HM1.out.pl.cells
          have HM2 := Lib.hid (HM1.out.wins (.int .i64 v))
          obtain ⟨d0, d1, d2, d3⟩ := HM2.out.pl.cells
          have HR2 := Lib.hid (block_row HRR.out HM2.out.pl.g (by intro e; injection e with e; omega))
          have hi1 : 1 < 2 * (k : Int) := by omega
          clear nv hv
          go_wp2_with (refine wpList_var rfl 165 _ _ rfl rfl rfl HR2.out (by kernel_rfl) rfl (by simp [Value.oneCell']) ?_)
          intro w5 hrow hg
          obtain ⟨z0, z1, z2, z3⟩ := cellsQ hrow
          have HB5 := Lib.hid ((HBR.out.grown HM2.out.pl.g HBR.out.size (fun k hk => by injection hk with hk; omega)).grown hg (HBR.out.grown HM2.out.pl.g HBR.out.size (fun k hk => by injection hk with hk; omega)).size (fun k hk => by cases hk; exact Nat.le_refl _))
          have HK5 := Lib.hid (vals_own (own_far HM2.out.ok hg (by have := (HM2.out.ok.lt gk rfl).1; omega)))
          have HD5 := Lib.hid (vals_own (own_far HM2.out.od hg (by have := (HM2.out.od.lt gd rfl).1; omega)))
          clear hrow hg d0 d1 d2 d3 c00 c01 c02 c03 x1
          go_wp2
          refine bodyPost_ret (v := .agg #[.slice (some ⟨gk, 0, none⟩) k c0, .slice (some ⟨gd, 0, none⟩) k c2, .slice (some ⟨gl, 0, none⟩) k k, .int .i64 v]) (by simp [results, Try.results170, go_sem, z0, z1, z2, z3]) rfl ⟨v, gk, c0, gd, c2, _, rfl, rfl, HW.out, HK5.out, HD5.out, by have := (HM2.out.ok.lt gk rfl).1; omega, by have := (HM2.out.od.lt gd rfl).1; omega, HB5.out⟩
        · have q2 : decide (1 < (k : Int)) = false := decide_eq_false (by omega)
          have hv0 : v = 0 := by omega
          subst hv0
          have HM2 := HM1
          obtain ⟨d0, d1, d2, d3⟩ := HM2.out.pl.cells
          have HR2 := Lib.hid (block_row HRR.out HM2.out.pl.g (by intro e; injection e with e; omega))
          clear nv hv
          go_wp2_with (refine wpList_var rfl 165 _ _ rfl rfl rfl HR2.out (by kernel_rfl) rfl (by simp [Value.oneCell']) ?_)
          intro w5 hrow hg
          obtain ⟨z0, z1, z2, z3⟩ := cellsQ hrow
          have HB5 := Lib.hid ((HBR.out.grown HM2.out.pl.g HBR.out.size (fun k hk => by injection hk with hk; omega)).grown hg (HBR.out.grown HM2.out.pl.g HBR.out.size (fun k hk => by injection hk with hk; omega)).size (fun k hk => by cases hk; exact Nat.le_refl _))
          have HK5 := Lib.hid (vals_own (own_far HM2.out.ok hg (by have := (HM2.out.ok.lt gk rfl).1; omega)))
          have HD5 := Lib.hid (vals_own (own_far HM2.out.od hg (by have := (HM2.out.od.lt gd rfl).1; omega)))
          clear hrow hg d0 d1 d2 d3
          go_wp2
          refine bodyPost_ret (v := .agg #[.slice (some ⟨gk, 0, none⟩) k c0, .slice (some ⟨gd, 0, none⟩) k c2, .slice (some ⟨gl, 0, none⟩) k k, .int .i64 0]) (by simp [results, Try.results170, go_sem, z0, z1, z2, z3]) rfl ⟨0, gk, c0, gd, c2, _, rfl, rfl, HW.out, HK5.out, HD5.out, by have := (HM2.out.ok.lt gk rfl).1; omega, by have := (HM2.out.od.lt gd rfl).1; omega, HB5.out⟩
      have q1 : decide (0 < (p : Int)) = true := decide_eq_true (by omega)
      have t1 : ((p : Int)).toNat = p := by omega
      have b1 : (0 : Int) ≤ (p : Int) := by omega
      have b2 : (p : Int) < 2 * (k : Int) := by omega
      by_cases hpk : k ≤ p
      · have q2 : decide ((k : Int) ≤ (p : Int)) = true := decide_eq_true (by omega)
        have hpw : p < ws.length := by omega
        have hfz := HM1.out.ow.frozenAt p
        have hc := HM1.out.ow.cellAt p (by omega)
        rw [ints_at hpw] at hc
        have HM2 := Lib.hid (HM1.out.setw p ((p : Int) - (k : Int)))
        go_wp2
        go_roundw
        case rel => exact ⟨p - 1, ls, _, by go_num, by omega, hls, by rw [List.length_set]; exact hws, HM2.out, Lib.hid (fun q h1 h2 => by
          rw [getD_setE hpw]
          by_cases hq : p = q
          · rw [if_pos hq]
            refine ⟨p - k, by omega, ?_⟩
            have := Mg.node_leaf ks ds (k := k) (i := p - k) (by omega)
            rwa [show k + (p - k) = q by omega] at this
          · rw [if_neg hq]; exact HALL.out q (by omega) h2)⟩
        case measure => simp [intOf] <;> omega
      · have q2 : decide ((k : Int) ≤ (p : Int)) = false := decide_eq_false (by omega)
        obtain ⟨a, ha, na⟩ := HALL.out (2 * p) (by omega) (by omega)
        obtain ⟨b, hb, nb⟩ := HALL.out (2 * p + 1) (by omega) (by omega)
        have x1 := HM1.out.ow.cellAt (2 * p) (by omega)
        rw [ints_at (by omega), ha] at x1
        have x2 := HM1.out.ow.cellAt (2 * p + 1) (by omega)
        rw [ints_at (by omega), hb] at x2
        have HNI := Lib.hid (Mg.node_inner (ks := ks) (ds := ds) (k := k) (by omega) na nb)
        have hai : a < k := na.1
        have hbi : b < k := nb.1
        have HAA := Lib.hid ha
        clear ha hb na nb
        have t3 : (2 * (p : Int)).toNat = 2 * p := by omega
        have t4 : (2 * (p : Int) + 1).toNat = 2 * p + 1 := by omega
        have b3 : (0 : Int) ≤ 2 * (p : Int) := by omega
        have b4 : 2 * (p : Int) < 2 * (k : Int) := by omega
        have b5 : (0 : Int) ≤ 2 * (p : Int) + 1 := by omega
        have b6 : 2 * (p : Int) + 1 < 2 * (k : Int) := by omega
        have w1 : IntKind.i64.wrap (2 * (p : Int)) = 2 * (p : Int) := IntWalk.i64_in _ (by omega)
        have w2 : IntKind.i64.wrap (2 * (p : Int) + 1) = 2 * (p : Int) + 1 := IntWalk.i64_in _ (by omega)
        go_wp2_with fail
        go_quiet (fail)
        have HM2 := Lib.hid (HM1.out.same (below_drewN (Below.refl _ wr) nq))
        generalize wr.drewN nq = wx at HM2 ⊢
        clear x1 x2 HM1
        have HBT := Lib.hid (l16Beats_any (some ⟨kb, ko, none⟩) (some ⟨db, d_o, none⟩) k kc dc ks ds a b wx (by omega) hai hbi hks hds (HKS.out _ HM2.out.pl.g) (HDS.out _ HM2.out.pl.g))
        go_wp2_with fail
        refine HBT.out.mono ?_
        rintro e w5 ⟨rfl, hb⟩
        have HM3 := Lib.hid (HM2.out.same hb)
        clear hb HM2 HBT
        have y1 : w5.cell? ⟨gw, 2 * p, none⟩ = some (.int .i64 a) := by
          have := HM3.out.ow.cellAt (2 * p) (by omega)
          rwa [ints_at (by omega), HAA.out] at this
        have y2 : True := trivial
        cases hbb : Mg.beats ks ds a b
        · have HNW := Lib.hid (HNI.out.2 hbb)
          clear hbb
          have x1 := HM3.out.ow.cellAt p (by omega)
          rw [ints_at (by omega)] at x1
          have f1 := HM3.out.ow.frozenAt p
          have HM4 := Lib.hid (HM3.out.setw p (b : Int))
          obtain ⟨d0, d1, d2, d3⟩ := HM4.out.pl.cells
          have x2 := HM4.out.ol.cellAt p (by omega)
          rw [ints_at (by omega)] at x2
          have f2 := HM4.out.ol.frozenAt p
          have HM5 := Lib.hid (HM4.out.setl p (a : Int))
          go_wp2
          go_roundw
          case rel => exact ⟨p - 1, _, _, by go_num, by omega, by rw [List.length_set]; exact hls, by rw [List.length_set]; exact hws, HM5.out, Lib.hid (fun q h1 h2 => by
            rw [getD_setE (by omega)]
            by_cases hq : p = q
            · rw [if_pos hq, ← hq]; exact ⟨_, rfl, HNW.out⟩
            · rw [if_neg hq]; exact HALL.out q (by omega) h2)⟩
          case measure => simp [intOf] <;> omega
        · have HNW := Lib.hid (HNI.out.1 ((Mg.beats_sw ks ds).asym _ _ hbb))
          clear hbb
          have x1 := HM3.out.ow.cellAt p (by omega)
          rw [ints_at (by omega)] at x1
          have f1 := HM3.out.ow.frozenAt p
          have HM4 := Lib.hid (HM3.out.setw p (a : Int))
          obtain ⟨d0, d1, d2, d3⟩ := HM4.out.pl.cells
          have x2 := HM4.out.ol.cellAt p (by omega)
          rw [ints_at (by omega)] at x2
          have f2 := HM4.out.ol.frozenAt p
          have HM5 := Lib.hid (HM4.out.setl p (b : Int))
          go_wp2
          go_roundw
          case rel => exact ⟨p - 1, _, _, by go_num, by omega, by rw [List.length_set]; exact hls, by rw [List.length_set]; exact hws, HM5.out, Lib.hid (fun q h1 h2 => by
            rw [getD_setE (by omega)]
            by_cases hq : p = q
            · rw [if_pos hq, ← hq]; exact ⟨_, rfl, HNW.out⟩
            · rw [if_neg hq]; exact HALL.out q (by omega) h2)⟩
          case measure => simp [intOf] <;> omega
  case steps =>
    refine ⟨?_, ?_, ?_, ?_, ?_, ?_, ?_, ?_, ?_, ?_, trivial⟩
    all_goals
      rintro L a w' hs hu haf ⟨x, bl, ob, rfl, hX⟩ K hK
    · exact absurd (hX.l0.symm.trans hu) (by decide)
    · unfold egA
      go_simp
      refine (l1OwnE_any (some ⟨kb, ko, none⟩) k kc ks w' (by omega) hks (HK.out w' hX.it.bel) (nilOk_some _ _)).mono ?_
      rintro e w2 ⟨g, c, rfl, ho, hb⟩
      obtain ⟨o, h1, h2, h3⟩ := row_ob ho
      have HKK := Lib.hid hK
      clear hK
      go_wp2_with fail
      exact HKK.out _ _ (ej_set (by rw [hs]; decide) (x := upd x 0 _) (bl := upd bl 0 _) (ob := upd ob 0 _) rfl ⟨hX.l0, hX.l3, hX.l5, hX.it.freshAt 0 _ hb h3 h1 (by intro j; rcases j with _ | _ | _ | _ | j <;> rfl) hu, fun _ => ⟨c, rfl, h2⟩, hX.m1, hX.m2, hX.m3, fun h => absurd ((hX.s7 h).1.symm.trans hu) (by decide), fun h => ⟨(hX.a0 h).1, (hX.a0 h).2.1, fun h9 => absurd ((hX.s7 (hX.s9 h9).1).1.symm.trans hu) (by decide)⟩, fun h => ⟨rfl, (hX.s4 h).2⟩, fun h => ⟨rfl, (hX.s7 h).2⟩, hX.s9⟩)
    · unfold egA
      go_simp
      exact hK _ _ (ej_set (by rw [hs]; decide) (x := upd x 1 _) (bl := upd bl 1 _) (ob := upd ob 1 _) rfl ⟨hX.l0, hX.l3, hX.l5, hX.it.alloc 1 _ (by intro j; rcases j with _ | _ | _ | _ | j <;> rfl) hu, hX.m0, fun _ _ => ⟨rfl, rfl⟩, fun h => absurd ((hX.s4 h).2.symm.trans hu) (by decide), hX.m3, hX.m4, hX.a0, fun h => ⟨(hX.s4 h).1, rfl⟩, hX.s7, hX.s9⟩)
    · exact absurd (hX.l3.symm.trans hu) (by decide)
    · have h1 : L.getD 1 false = true := haf ⟨1, .chain⟩ (by simp) rfl
      have h2 : L.getD 2 false = true := haf ⟨2, .data⟩ (by simp) rfl
      obtain ⟨e1, ho⟩ := hX.m1 h2 hu
      obtain ⟨hge, hh⟩ := hX.it.here 1 h2
      rw [ho] at hh
      have hown := ob_row (n := 0) (c := 0) (vs := []) hh ⟨#[], rfl, Nat.le_refl _, Nat.zero_le _, rfl, rfl, rfl⟩ hge
      unfold egA
      rw [e1]
      refine step_appX slBoolE (by rfl) _ _ (by rfl) wR.heap.size (.slice (some ⟨bl 1, 0, none⟩) 0 0) 0 [] ⟨db, d_o, none⟩ k dc (bools ds) (by rfl) hown (by rfl) (by simp [hds]) (HD.out w' hX.it.bel) bools_one' (by omega) hX.it.bel.size ?_
      intro v' w2 hown' hg ht
      rw [Nat.zero_add] at hown'
      obtain ⟨a', c', rfl⟩ := own_slice hown'
      obtain ⟨g, rfl, _, _⟩ := own_addr hown' (by
        rcases ht with h | h
        · rw [h]; simp [Value.ownBlock]
        · rw [h]; simp)
      obtain ⟨o, r1, r2, r3⟩ := row_ob hown'
      have hgb : g = bl 1 ∨ w'.heap.size ≤ g := by
        rcases ht with h | h
        · left; simp [Value.ownBlock] at h; exact h
        · right; simp [Value.ownBlock] at h; omega
      refine hK _ _ (ej_set (by rw [hs]; decide) (x := upd x 2 (.slice (some ⟨g, 0, none⟩) k c')) (bl := upd bl 1 g) (ob := upd ob 1 o) (by unfold egA; rw [← e1]; rfl) ?_)
      exact ⟨hX.l0, hX.l3, hX.l5, (hX.it.regrow 1 o h2 hg hgb r1).same (by intro j; rcases j with _ | _ | _ | _ | j <;> rfl), hX.m0, fun _ h => Bool.noConfusion (show true = false from h), fun _ => ⟨c', rfl, r2⟩, hX.m3, fun h => absurd ((hX.s7 h).2.1.symm.trans hu) (by decide), fun h => ⟨(hX.a0 h).1, (hX.a0 h).2.1, fun h9 => absurd ((hX.s7 (hX.s9 h9).1).2.1.symm.trans hu) (by decide)⟩, fun _ => ⟨h1, h2⟩, fun h => ⟨(hX.s7 h).1, rfl, (hX.s7 h).2.2⟩, hX.s9⟩
    · exact absurd (hX.l5.symm.trans hu) (by decide)
    · rw [if_pos (by rfl)]
      refine wp_mk slInt.und slInt.info slInt.small _ _ rfl k rfl rfl (by omega) ?_
      intro w2 hobj hb
      exact hK _ _ (ej_set (by rw [hs]; decide) (x := upd x 3 _) (bl := upd bl 2 _) (ob := upd ob 2 _) rfl ⟨hX.l0, hX.l3, hX.l5, hX.it.fresh 2 _ hb hobj (by intro j; rcases j with _ | _ | _ | _ | j <;> rfl) hu, hX.m0, hX.m1, hX.m2, fun _ => ⟨rfl, rfl⟩, fun h => absurd ((hX.s7 h).2.2.symm.trans hu) (by decide), fun h => ⟨(hX.a0 h).1, (hX.a0 h).2.1, fun h9 => absurd ((hX.s7 (hX.s9 h9).1).2.2.symm.trans hu) (by decide)⟩, hX.s4, fun h => ⟨(hX.s7 h).1, (hX.s7 h).2.1, rfl⟩, hX.s9⟩)
    · have h1 : L.getD 1 false = true := haf ⟨1, .data⟩ (by simp) rfl
      have h4 : L.getD 4 false = true := haf ⟨4, .data⟩ (by simp) rfl
      have h6 : L.getD 6 false = true := haf ⟨6, .data⟩ (by simp) rfl
      obtain ⟨c0, e0, _⟩ := hX.m0 h1
      obtain ⟨c2, e2, _⟩ := hX.m2 h4
      obtain ⟨e3, _⟩ := hX.m3 h6
      unfold egA
      rw [e0, e2, e3]
      go_simp
      refine hK _ _ (ej_set (by rw [hs]; decide) (x := upd x 4 (.agg #[x 0, x 2, x 3, .int .i64 0])) (bl := bl) (ob := ob) (by unfold egA; rw [← e0, ← e2, ← e3]; rfl) ?_)
      exact ⟨hX.l0, hX.l3, hX.l5, hX.it.same (by intro j; rcases j with _ | _ | _ | _ | j <;> rfl), hX.m0, hX.m1, hX.m2, hX.m3, fun _ => rfl, fun h => ⟨(hX.a0 h).1, (hX.a0 h).2.1, (hX.a0 h).2.2⟩, hX.s4, fun _ => ⟨h1, h4, h6⟩, fun h => ⟨rfl, (hX.s9 h).2⟩⟩
    · unfold egA
      go_simp
      exact hK _ _ (ej_set (by rw [hs]; decide) (x := upd x 5 _) (bl := upd bl 3 _) (ob := upd ob 3 _) rfl ⟨hX.l0, hX.l3, hX.l5, hX.it.alloc 3 _ (by intro j; rcases j with _ | _ | _ | _ | j <;> rfl) hu, hX.m0, hX.m1, hX.m2, hX.m3, hX.m4, fun _ => ⟨rfl, fun _ => rfl, fun h9 => absurd ((hX.s9 h9).2.symm.trans hu) (by decide)⟩, hX.s4, hX.s7, fun h => ⟨(hX.s9 h).1, rfl⟩⟩)
    · have h7 : L.getD 7 false = true := haf ⟨7, .data⟩ (by simp) rfl
      have h8 : L.getD 8 false = true := haf ⟨8, .data⟩ (by simp) rfl
      obtain ⟨h1, h4, h6⟩ := hX.s7 h7
      obtain ⟨c0, e0, _⟩ := hX.m0 h1
      obtain ⟨c2, e2, _⟩ := hX.m2 h4
      obtain ⟨e3, _⟩ := hX.m3 h6
      obtain ⟨e5, ho, _⟩ := hX.a0 h8
      have e4 := hX.m4 h7
      obtain ⟨hge, hh⟩ := hX.it.here 3 h8
      rw [ho hu] at hh
      rw [if_pos (by rfl)]
      unfold egA
      rw [e4, e5]
      refine wp_store_row _ _ _ rfl (bl 3) #[x 0, x 2, x 3, .int .i64 0] rfl rfl _ _ hh (by kernel_rfl) rfl (by rw [e0, e2, e3]; simp [Value.oneCell']) ?_
      have hn := setRow_heap w' (bl 3) _ #[x 0, x 2, x 3, .int .i64 0] _ (0, 0) hh
      have hg : w'.grownBy (w'.setRow (bl 3) #[x 0, x 2, x 3, .int .i64 0]) (some (bl 3)) := ⟨rfl, rfl, rfl, by simp, fun q _ hq => setRow_other w' (bl 3) q _ (fun e => hq (by simp [e]))⟩
      refine hK _ _ (ej_set (by rw [hs]; decide) (x := x) (bl := upd bl 3 (bl 3)) (ob := upd ob 3 (.cells #[x 0, x 2, x 3, .int .i64 0] 165 (0, 0))) (by unfold egA; rw [e4, e5]; rfl) ?_)
      exact ⟨hX.l0, hX.l3, hX.l5, (hX.it.regrow 3 _ h8 hg (.inl rfl) hn).same (by intro j; rcases j with _ | _ | _ | _ | j <;> rfl), hX.m0, hX.m1, hX.m2, hX.m3, hX.m4, fun h => ⟨(hX.a0 h).1, fun h9 => Bool.noConfusion (show true = false from h9), fun _ => rfl⟩, hX.s4, hX.s7, fun _ => ⟨h7, h8⟩⟩
end Go.Proofs.Ytkckmjajjdpodaa

/- Walks: the reference's tree with a winner replaced. -/
namespace Go.Proofs.Ytkckmjajjdpodaa
open Go.RowKit Go.Sort
set_option linter.unusedVariables false

set_option maxRecDepth 100000 in
set_option maxHeartbeats 4000000 in
theorem l16Replace_any (gk gd k c0 c2 win : Nat) (lv : Value) (ks : List Int) (ds : List Bool) (key : Int) (dn : Bool) (w : World) (hk0 : 0 < k) (hk : k ≤ 100) (hks : ks.length = k) (hds : ds.length = k) (hw : win < k) (hlv : lv.oneCell' = true)
    (hK : ValsAt w (some ⟨gk, 0, none⟩) (ints ks)) (hD : ValsAt w (some ⟨gd, 0, none⟩) (bools ds)) :
    Calls Try.prog 171 #[.agg #[.slice (some ⟨gk, 0, none⟩) k c0, .slice (some ⟨gd, 0, none⟩) k c2, lv, .int .i64 win], .int .i64 key, .bool dn] w fun e w' =>
      ∃ (win' gk' c0' gd' c2' : Nat) (lv' : Value), e = .returned (.tuple #[.agg #[.slice (some ⟨gk', 0, none⟩) k c0', .slice (some ⟨gd', 0, none⟩) k c2', lv', .int .i64 win'], .int .i64 ((Mg.plen ((k + win) / 2) : Nat) : Int)]) ∧ lv'.oneCell' = true ∧
        Mg.Win (ks.set win (if dn = true then 0 else key)) (if dn = true then ds.set win true else ds) k win' ∧ ValsAt w' (some ⟨gk', 0, none⟩) (ints (ks.set win (if dn = true then 0 else key))) ∧ ValsAt w' (some ⟨gd', 0, none⟩) (bools (if dn = true then ds.set win true else ds)) ∧
        w.heap.size ≤ gk' ∧ w.heap.size ≤ gd' ∧ Below w.heap.size w w' := by
  obtain ⟨wa, hwa⟩ : ∃ W, W = w.alloc (.cells #[.slice (some ⟨gk, 0, none⟩) k c0, .slice (some ⟨gd, 0, none⟩) k c2, lv, .int .i64 win] 165) := ⟨_, rfl⟩
  obtain ⟨wb, hwb⟩ : ∃ W, W = wa.alloc (.cells #[.slice none 0 0, .slice none 0 0, .slice none 0 0, .int .i64 0] 165) := ⟨_, rfl⟩
  have sa : wa.heap.size = w.heap.size + 1 := by rw [hwa]; simp
  have sb : wb.heap.size = w.heap.size + 2 := by rw [hwb]; simp; omega
  have ba : Below w.heap.size w wa := by rw [hwa]; exact belowNew _ _
  have bb : Below wa.heap.size wa wb := by rw [hwb]; exact belowNew _ _
  have ha : wa.heap[w.heap.size]? = some (.cells #[.slice (some ⟨gk, 0, none⟩) k c0, .slice (some ⟨gd, 0, none⟩) k c2, lv, .int .i64 win] 165 (0, 0)) := by rw [hwa]; exact block_new _ _
  have hb1 : wb.heap[w.heap.size]? = some (.cells #[.slice (some ⟨gk, 0, none⟩) k c0, .slice (some ⟨gd, 0, none⟩) k c2, lv, .int .i64 win] 165 (0, 0)) := block_below ha bb (by omega)
  have hb2 : wb.heap[w.heap.size + 1]? = some (.cells #[.slice none 0 0, .slice none 0 0, .slice none 0 0, .int .i64 0] 165 (0, 0)) := by rw [hwb, ← sa]; exact block_new _ _
  have HB := Lib.hid (below_tr ba bb ba.size)
  have HT := Lib.hid hb1; have HR := Lib.hid hb2
  have HK := Lib.hid ((hK.same ba).same bb); have HD := Lib.hid ((hD.same ba).same bb)
  obtain ⟨d0, d1, d2, d3⟩ := cellsQ hb1
  clear hb1 hb2 ha ba bb hK hD
  have HC0 := Lib.hid (l1OwnE_any (some ⟨gk, 0, none⟩) k c0 ks wb (by omega) hks HK.out (nilOk_some _ _))
  have hkx : ∃ kx : Int, (if dn = true then 0 else key) = kx := ⟨_, rfl⟩
  obtain ⟨pe, hpe⟩ : ∃ p, (k + win) / 2 = p := ⟨_, rfl⟩
  have hp7 : pe ≤ 100 := by omega
  have hpp : ((win : Int) + (k : Int)) / 2 = (pe : Int) := by omega
  rw [hpe]
  clear hpe
  subst hwb
  subst hwa
  go_enter Try.func171, Try.ntmps171
  go_wp2_with fail
  refine HC0.out.mono ?_
  rintro e w1 ⟨g1, c1, rfl, ho, hb⟩
  have hl0 : w.heap.size < w1.heap.size ∧ w.heap.size + 1 < w1.heap.size := by have := hb.size; simp at this; omega
  have HT1 := Lib.hid (block_below HT.out hb (by simp; omega))
  have HR1 := Lib.hid (block_below HR.out hb (by simp))
  have HD1 := Lib.hid (HD.out.same hb)
  have HO1 := Lib.hid ho
  have hg1 : w.heap.size + 2 ≤ g1 := by have := (ho.lt g1 rfl).1; simp at this; omega
  have hg1' := (ho.lt g1 rfl).2
  have HB1 := Lib.hid (below_tr HB.out hb HB.out.size)
  clear ho hb HT HR HB HK HD HC0 d0 d1 d2 d3 sa sb
  have hbn := belowNew w1 (.cells #[] 4)
  have E0 := Lib.hid (own_lit (w := w1) (e := 4) (size := 1) #[] 0 (by omega) rfl)
  have HU := Lib.hid (HD1.out.same hbn)
  have HLD := Lib.hid (show (bools ds).length = k by simpa using hds)
  have hle : w1.heap.size ≤ (w1.alloc (.cells #[] 4)).heap.size := by simp
  have HLE := Lib.hid hle
  obtain ⟨d0, d1, d2, d3⟩ := cellsQ (block_below HT1.out hbn hl0.1)
  have HT2 := Lib.hid (block_below HT1.out hbn hl0.1)
  have HR2 := Lib.hid (block_below HR1.out hbn hl0.2)
  have HO2 := Lib.hid (own_below HO1.out (Nat.le_refl _) hbn)
  have HB2 := Lib.hid (below_tr HB1.out hbn HB1.out.size)
  clear hbn hle HT1 HR1 HD1 HO1 HB1
  go_wp2_with (at_builtin; refine wpList_appV (v := .slice (some ⟨w1.heap.size, 0, none⟩) 0 0) slBoolE rfl _ _ rfl rfl E0.out rfl HU.out HLD.out (nilOk_some _ _) bools_one' (by omega) HLE.out ?_; intro v' w2 hown2 hg2 ht2; rw [Nat.zero_add] at hown2; generalize hGG : wpList _ _ _ _ _ _ = GG)
  obtain ⟨a', c', rfl⟩ := own_slice hown2
  clear d0 d1 d2 d3
  obtain ⟨g2, rfl, _, _⟩ := own_addr hown2 (by
    rcases ht2 with h | h
    · rw [h]; simp [Value.ownBlock]
    · rw [h]; simp)
  have hg2b : w1.heap.size ≤ g2 := (hown2.lt g2 rfl).1
  have hg2' : g2 < w2.heap.size := (hown2.lt g2 rfl).2
  have HT3 := Lib.hid (block_row HT2.out hg2 (by intro e; simp [Value.ownBlock] at e; omega))
  have HR3 := Lib.hid (block_row HR2.out hg2 (by intro e; simp [Value.ownBlock] at e; omega))
  have HO3 := Lib.hid (own_other HO2.out hg2 (fun q hq e => by simp [Value.ownBlock] at hq e; omega))
  have HV3 : Hid (w2.ownsRow w1.heap.size 4 1 (.slice (some ⟨g2, 0, none⟩) k c') k (bools ds)) := hown2
  have HB3 := Lib.hid (HB2.out.grown hg2 HB2.out.size (fun q hq => by simp [Value.ownBlock] at hq; omega))
  clear hown2 hg2 ht2 HT2 HR2 HO2 HB2 E0 HU HLE
  obtain ⟨d0, d1, d2, d3⟩ := cellsQ HT3.out
  have x1 := HO3.out.cellAt win (by omega)
  rw [ints_at (by omega)] at x1
  have f1 := HO3.out.frozenAt win
  have hst := HO3.out.stored win (.int .i64 key)
  rw [ints_set] at hst
  have HO4 := Lib.hid hst.1
  have HG4 := Lib.hid hst.2
  clear hst
  have HT4 := Lib.hid (block_row HT3.out HG4.out (by intro e; injection e with e; omega))
  obtain ⟨y0, y1, y2, y3⟩ := cellsQ HT4.out
  have b1 : (0 : Int) ≤ (win : Int) := by omega
  have b2 : (win : Int) < (k : Int) := by omega
  have t1 : ((win : Int)).toNat = win := by omega
  have n12 : g1 ≠ g2 := by omega
  have HV4 := Lib.hid (own_other HV3.out HG4.out (fun q hq e => by simp [Value.ownBlock] at hq e; omega))
  have HR4 := Lib.hid (block_row HR3.out HG4.out (by intro e; injection e with e; omega))
  have HB4 := Lib.hid (HB3.out.grown HG4.out HB3.out.size (fun q hq => by injection hq with hq; omega))
  have hs4 := HG4.out.size
  have HEE : Hid (wpList _ _ _ _ _ _ = GG) := hGG
  clear hGG
  cases dn
  · have hGG := HEE.out
    subst hGG
    go_wp2_with fail
    generalize w2.setCell ⟨g1, win, none⟩ (.int .i64 key) = w4 at HO4 HT4 HV4 HR4 HB4 y0 y1 y2 y3 hs4 ⊢
    have HKF := Lib.hid (vals_own HO4.out); have HDF := Lib.hid (vals_own HV4.out)
    have HRF := HR4; have HBF := HB4
    clear x1 f1 d0 d1 d2 d3 HG4 HT3 HR3 HO3 HV3 HB3 HT4 HO4 HV4 HR4 HB4
    have hl4 : w.heap.size + 1 < w4.heap.size := (Array.getElem?_eq_some_iff.1 HRF.out).1
    try clear y0 y1 y2 y3
    try clear v0 v1 v2 v3
    clear hkx HEE
    go_loopw [10, 11] (fun x y wr => ∃ (n q : Nat), x = .int .i64 n ∧ y = .int .i64 q ∧ n ≤ 100 - q ∧ q ≤ 100 ∧ Hid (n + Mg.plen q = Mg.plen pe) ∧ wr = w4) (fun _ y _ => (intOf y).toNat)
    case atStart => exact ⟨0, pe, rfl, rfl, by omega, hp7, Lib.hid (by omega), rfl⟩
    case round =>
      obtain ⟨n, q, rfl, rfl, hn, hq, HP, hwr⟩ := hrel
      subst hwr
      by_cases h1 : 0 < q
      · have q1 : decide (0 < (q : Int)) = true := decide_eq_true (by omega)
        have q2 : (q : Int).tdiv 2 = ((q / 2 : Nat) : Int) := rfl
        have q3 : IntKind.i64.wrap ((q / 2 : Nat) : Int) = ((q / 2 : Nat) : Int) := IntWalk.i64_in _ (by omega)
        have HP2 : Hid (n + 1 + Mg.plen (q / 2) = Mg.plen pe) := by
          show _ = _
          rw [← HP.out, Mg.plen_pos (p := q) (by omega)]; omega
        go_wp2
        go_roundw
        case rel => exact ⟨n + 1, q / 2, by go_num, by go_num, by omega, by omega, HP2, by first | rfl | trivial⟩
        case measure => simp [intOf] <;> omega
      · obtain rfl : q = 0 := by omega
        have q1 : decide (0 < ((0 : Nat) : Int)) = false := rfl
        have HNP : Hid (((n : Nat) : Int) = ((Mg.plen pe : Nat) : Int)) := by
          show _ = _
          rw [← HP.out, Mg.plen_zero]; rfl
        have HMK := Lib.hid (l16Make_any g1 0 g2 0 k c1 c' (ks.set win key) (ds) wr hk0 hk (by rw [List.length_set]; exact hks) (by first | exact hds | (rw [List.length_set]; exact hds)) HKF.out HDF.out)
        unfold MkEnd at HMK
        go_wp2_with fail
        refine HMK.out.mono ?_
        rintro e w5 ⟨win', gk', c0', gd', c2', lv', rfl, hlv', hwin, hk5, hd5, hge1, hge2, hb⟩
        have HR5 := Lib.hid (block_below HRF.out hb hl4)
        have HB5 := Lib.hid (below_tr HBF.out hb HBF.out.size)
        have HK5 := Lib.hid hk5; have HD5 := Lib.hid hd5; have HWN := Lib.hid hwin
        clear hb hk5 hd5 hwin HMK
        go_wp2_with (refine wpList_var rfl 165 _ _ rfl rfl rfl HR5.out (by kernel_rfl) rfl (by simpa [Value.oneCell'] using hlv') ?_)
        intro w6 hrow hg
        obtain ⟨z0, z1, z2, z3⟩ := cellsQ hrow
        have HB6 := Lib.hid (HB5.out.grown hg HB5.out.size (fun k hk => by injection hk with hk; omega))
        have HK6 := Lib.hid (HK5.out.grown hg (fun b off e he => by injection e with e; injection e with e1 e2; injection he with he; omega))
        have HD6 := Lib.hid (HD5.out.grown hg (fun b off e he => by injection e with e; injection e with e1 e2; injection he with he; omega))
        have hszw := HBF.out.size
        clear hrow hg
        go_wp2
        refine bodyPost_ret (v := .tuple #[.agg #[.slice (some ⟨gk', 0, none⟩) k c0', .slice (some ⟨gd', 0, none⟩) k c2', lv', .int .i64 win'], .int .i64 n]) (by simp [results, Try.results171, go_sem, z0, z1, z2, z3]) rfl ⟨win', gk', c0', gd', c2', lv', by rw [HNP.out], hlv', ?_, ?_, ?_, by omega, by omega, HB6.out⟩
        · simpa using HWN.out
        · simpa using HK6.out
        · simpa using HD6.out
  · have x2 := HO4.out.cellAt win (by omega)
    rw [ints_at (by rw [List.length_set]; omega)] at x2
    have f2 := HO4.out.frozenAt win
    have hst := HO4.out.stored win (.int .i64 0)
    rw [ints_set, List.set_set] at hst
    have HT5 := Lib.hid (block_row HT4.out hst.2 (by intro e; injection e with e; omega))
    obtain ⟨z0, z1, z2, z3⟩ := cellsQ HT5.out
    have HV5 := Lib.hid (own_other HV4.out hst.2 (fun q hq e => by simp [Value.ownBlock] at hq e; omega))
    have x3 := HV5.out.cellAt win (by omega)
    rw [bools_at (by omega)] at x3
    have f3 := HV5.out.frozenAt win
    have hst2 := HV5.out.stored win (.bool true)
    rw [bools_set] at hst2
    have HO6 := Lib.hid (own_other hst.1 hst2.2 (fun q hq e => by simp [Value.ownBlock] at hq e; omega))
    have HV6 := Lib.hid hst2.1
    have HT6 := Lib.hid (block_row HT5.out hst2.2 (by intro e; injection e with e; omega))
    obtain ⟨v0, v1, v2, v3⟩ := cellsQ HT6.out
    have HR6 := Lib.hid (block_row (block_row HR4.out hst.2 (by intro e; injection e with e; omega)) hst2.2 (by intro e; injection e with e; omega))
    have HB5 := Lib.hid (HB4.out.grown hst.2 HB4.out.size (fun q hq => by injection hq with hq; omega))
    have HB6 := Lib.hid (HB5.out.grown hst2.2 HB5.out.size (fun q hq => by injection hq with hq; omega))
    have hs6 := Nat.le_trans hst.2.size hst2.2.size
    clear hst hst2
    have hGG := HEE.out
    subst hGG
    go_wp2_with fail
    generalize ((w2.setCell ⟨g1, win, none⟩ (.int .i64 key)).setCell ⟨g1, win, none⟩ (.int .i64 0)).setCell ⟨g2, win, none⟩ (.bool true) = w4 at HO6 HV6 HR6 HB6 v0 v1 v2 v3 hs6 ⊢
    have HKF := Lib.hid (vals_own HO6.out); have HDF := Lib.hid (vals_own HV6.out)
    have HRF := HR6; have HBF := HB6
    clear x1 f1 d0 d1 d2 d3 HG4 HT3 HR3 HO3 HV3 HB3 HT4 HO4 HV4 HR4 HB4 x2 f2 z0 z1 z2 z3 HT5 HV5 x3 f3 HO6 HV6 HT6 HR6 HB6 HB5 y0 y1 y2 y3
    have hl4 : w.heap.size + 1 < w4.heap.size := (Array.getElem?_eq_some_iff.1 HRF.out).1
    try clear y0 y1 y2 y3
    try clear v0 v1 v2 v3
    clear hkx HEE
    go_loopw [10, 11] (fun x y wr => ∃ (n q : Nat), x = .int .i64 n ∧ y = .int .i64 q ∧ n ≤ 100 - q ∧ q ≤ 100 ∧ Hid (n + Mg.plen q = Mg.plen pe) ∧ wr = w4) (fun _ y _ => (intOf y).toNat)
    case atStart => exact ⟨0, pe, rfl, rfl, by omega, hp7, Lib.hid (by omega), rfl⟩
    case round =>
      obtain ⟨n, q, rfl, rfl, hn, hq, HP, hwr⟩ := hrel
      subst hwr
      by_cases h1 : 0 < q
      · have q1 : decide (0 < (q : Int)) = true := decide_eq_true (by omega)
        have q2 : (q : Int).tdiv 2 = ((q / 2 : Nat) : Int) := rfl
        have q3 : IntKind.i64.wrap ((q / 2 : Nat) : Int) = ((q / 2 : Nat) : Int) := IntWalk.i64_in _ (by omega)
        have HP2 : Hid (n + 1 + Mg.plen (q / 2) = Mg.plen pe) := by
          show _ = _
          rw [← HP.out, Mg.plen_pos (p := q) (by omega)]; omega
        go_wp2
        go_roundw
        case rel => exact ⟨n + 1, q / 2, by go_num, by go_num, by omega, by omega, HP2, by first | rfl | trivial⟩
        case measure => simp [intOf] <;> omega
      · obtain rfl : q = 0 := by omega
        have q1 : decide (0 < ((0 : Nat) : Int)) = false := rfl
        have HNP : Hid (((n : Nat) : Int) = ((Mg.plen pe : Nat) : Int)) := by
          show _ = _
          rw [← HP.out, Mg.plen_zero]; rfl
        have HMK := Lib.hid (l16Make_any g1 0 g2 0 k c1 c' (ks.set win 0) (ds.set win true) wr hk0 hk (by rw [List.length_set]; exact hks) (by first | exact hds | (rw [List.length_set]; exact hds)) HKF.out HDF.out)
        unfold MkEnd at HMK
        go_wp2_with fail
        refine HMK.out.mono ?_
        rintro e w5 ⟨win', gk', c0', gd', c2', lv', rfl, hlv', hwin, hk5, hd5, hge1, hge2, hb⟩
        have HR5 := Lib.hid (block_below HRF.out hb hl4)
        have HB5 := Lib.hid (below_tr HBF.out hb HBF.out.size)
        have HK5 := Lib.hid hk5; have HD5 := Lib.hid hd5; have HWN := Lib.hid hwin
        clear hb hk5 hd5 hwin HMK
        go_wp2_with (refine wpList_var rfl 165 _ _ rfl rfl rfl HR5.out (by kernel_rfl) rfl (by simpa [Value.oneCell'] using hlv') ?_)
        intro w6 hrow hg
        obtain ⟨z0, z1, z2, z3⟩ := cellsQ hrow
        have HB6 := Lib.hid (HB5.out.grown hg HB5.out.size (fun k hk => by injection hk with hk; omega))
        have HK6 := Lib.hid (HK5.out.grown hg (fun b off e he => by injection e with e; injection e with e1 e2; injection he with he; omega))
        have HD6 := Lib.hid (HD5.out.grown hg (fun b off e he => by injection e with e; injection e with e1 e2; injection he with he; omega))
        have hszw := HBF.out.size
        clear hrow hg
        go_wp2
        refine bodyPost_ret (v := .tuple #[.agg #[.slice (some ⟨gk', 0, none⟩) k c0', .slice (some ⟨gd', 0, none⟩) k c2', lv', .int .i64 win'], .int .i64 n]) (by simp [results, Try.results171, go_sem, z0, z1, z2, z3]) rfl ⟨win', gk', c0', gd', c2', lv', by rw [HNP.out], hlv', ?_, ?_, ?_, by omega, by omega, HB6.out⟩
        · simpa using HWN.out
        · simpa using HK6.out
        · simpa using HD6.out
end Go.Proofs.Ytkckmjajjdpodaa
