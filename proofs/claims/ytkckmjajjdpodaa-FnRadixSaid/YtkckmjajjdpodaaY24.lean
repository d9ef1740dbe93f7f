/- Several texts in one: lemmas and walks of the functions that the laws reach. -/
import Derived.Test.YtkckmjajjdpodaaY23
import Derived.Test.YtkckmjajjdpodaaY5
import Derived.Deep.RegionHeld3

/- Walks: the draws of the laws FnExternal and FnBestPlan. -/
namespace Go.Proofs.Ytkckmjajjdpodaa
open Go.RowKit Go.Sort
set_option linter.unusedVariables false

theorem setc3 {w w2 : World} {x0 x1 x2 : Value} {g : Nat} (h : Below w.heap.size w w2) (hg : w.heap.size ≤ g) : Below w.heap.size w (((w2.setCell ⟨g, 0, none⟩ x0).setCell ⟨g, 1, none⟩ x1).setCell ⟨g, 2, none⟩ x2) :=
  Below.setCell (p := ⟨g, 2, none⟩) (Below.setCell (p := ⟨g, 1, none⟩) (Below.setCell (p := ⟨g, 0, none⟩) h hg _) hg _) hg _
theorem own_set3 {w : World} {x0 x1 x2 : Value} {g B n size : Nat} {e : TypeId} {v : Value} {xs : List Value} (h : w.ownsRow B e size v n xs) (hg : g < B) : (((w.setCell ⟨g, 0, none⟩ x0).setCell ⟨g, 1, none⟩ x1).setCell ⟨g, 2, none⟩ x2).ownsRow B e size v n xs := by
  have hne : ∀ k, v.ownBlock = some k → (some g : Option Nat) ≠ some k := fun k hk e => by injection e with e; have := (h.lt k hk).1; omega
  exact own_other (own_other (own_other h (grown_setN _ g 0 x0) hne) (grown_setN _ g 1 x1) hne) (grown_setN _ g 2 x2) hne

/-- A drawn list and a plan; a drawn number and a plan; two drawn numbers. -/
def ExDraw (w : World) (e : Ending) (w' : World) : Prop :=
  ∃ (a : Option Addr) (n c : Nat) (L : List (Int × Int)) (pm pw pb : Int), e = .returned (.tuple #[.slice a n c, .agg #[.int .i64 pm, .int .i64 pw, .int .i64 pb]]) ∧ Rd w' a n c L ∧ n ≤ 70 ∧ (-1 ≤ pm ∧ pm ≤ 100) ∧ (-1 ≤ pw ∧ pw ≤ 100) ∧ (-1 ≤ pb ∧ pb ≤ 100) ∧ Below w.heap.size w w'
def PcDraw (w : World) (e : Ending) (w' : World) : Prop :=
  ∃ (k pm pw pb : Int), e = .returned (.tuple #[.int .i64 k, .agg #[.int .i64 pm, .int .i64 pw, .int .i64 pb]]) ∧ (-1 ≤ k ∧ k ≤ 100) ∧ Below w.heap.size w w'
def IiDraw (w : World) (e : Ending) (w' : World) : Prop :=
  ∃ (k m : Int), e = .returned (.tuple #[.int .i64 k, .int .i64 m]) ∧ (-1 ≤ k ∧ k ≤ 100001) ∧ (-1 ≤ m ∧ m ≤ 100001) ∧ Below w.heap.size w w'

set_option maxRecDepth 100000 in
set_option maxHeartbeats 4000000 in
theorem drawExternalSort_any (ac : Option Addr) (c : Nat) (cs : List Int) (w : World) (hl : cs.length ≤ 65537) (h : BytesAt w ac cs) :
    Calls Try.prog 16 #[.slice ac cs.length c] w (ExDraw w) := by
  obtain ⟨wa, hwa⟩ : ∃ W, W = w.alloc (.cells #[.int .i64 0, .int .i64 0, .int .i64 0] 26) := ⟨_, rfl⟩
  have sa : wa.heap.size = w.heap.size + 1 := by rw [hwa]; simp
  have ba : Below w.heap.size w wa := by rw [hwa]; exact belowNew _ _
  have hra : wa.heap[w.heap.size]? = some (.cells #[.int .i64 0, .int .i64 0, .int .i64 0] 26 (0, 0)) := by rw [hwa]; exact block_new _ _
  obtain ⟨h1, h2, h3⟩ := cur_start (c := c) hl (h.below (Nat.le_refl _) ba)
  have HC := Lib.hid h1; have HO := Lib.hid h2; have HB := Lib.hid (below_tr ba h3 ba.size)
  have HR := Lib.hid (block_below hra h3 (by omega))
  rw [sa] at HC
  clear h h1 h2 h3 hra
  have hsz : (wa.alloc (.cells #[.slice ac cs.length c, .int .i64 0, .int .u64 0] 107)).heap.size = w.heap.size + 2 := by rw [size_al]; omega
  subst hwa
  unfold ExDraw
  go_enter Try.func16, Try.ntmps16
  go_wp2_with fail
  refine (anyRecords_any (w.heap.size + 1) ac cs 0 _ (by omega) HC.out (fun h0 b off e => by have := HO.out h0 b off e; omega)).mono ?_
  rintro e w1 ⟨a1, c1, L, rfl, ho, hl1, hD⟩
  have HO1 := Lib.hid (own_mono ho (by omega : w.heap.size + 2 ≤ _))
  have HR1 := Lib.hid (block_row HR.out hD.grown (by intro e; injection e with e; omega))
  have HB1 := Lib.hid (HB.out.grown hD.grown HB.out.size (fun k hk => by injection hk with hk; omega))
  have hz1 := hD.cur.lt
  have HC1 := Lib.hid hD.cur
  have HOL : Hid (cs ≠ [] → ∀ b off, ac = some ⟨b, off, none⟩ → b < w1.heap.size) := fun h0 b off e => by have := HO.out h0 b off e; omega
  clear ho hD HC HO HR HB
  go_wp2_with fail
  refine (plan_any (w.heap.size + 1) ac cs _ _ ?h1 HC1.out HOL.out).mono ?_
  case h1 => omega
  rintro e w2 ⟨pm, pw, pb, rfl, hpm, hpw, hpb, hD⟩
  have HO2 := Lib.hid (own_cur HO1.out (by omega) hD.grown)
  have HR2 := Lib.hid (block_row HR1.out hD.grown (by intro e; injection e with e; omega))
  have HB2 := Lib.hid (HB1.out.grown hD.grown HB1.out.size (fun k hk => by injection hk with hk; omega))
  obtain ⟨r0, r1, r2⟩ := cells3 HR2.out
  have fr2 : ∀ o, w2.frozen? ⟨w.heap.size, o, none⟩ = false := fun o => frozen_of_row _ _ o _ _ HR2.out
  have HO3 := Lib.hid (own_set3 (x0 := .int .i64 pm) (x1 := .int .i64 pw) (x2 := .int .i64 pb) HO2.out (show w.heap.size < w.heap.size + 2 by omega))
  have HB3 := Lib.hid (setc3 (x0 := .int .i64 pm) (x1 := .int .i64 pw) (x2 := .int .i64 pb) HB2.out (Nat.le_refl _))
  clear hD HO1 HR1 HB1 HC1 HOL HO2 HR2 HB2
  go_wp2
  refine bodyPost_ret (v := .tuple #[.slice a1 L.length c1, .agg #[.int .i64 pm, .int .i64 pw, .int .i64 pb]]) (by simp [results, Try.results16, go_sem, r0, r1, r2]) rfl ?_
  exact ⟨_, _, _, _, _, _, _, rfl, rd_own HO3.out, hl1, hpm, hpw, hpb, HB3.out⟩

set_option maxRecDepth 100000 in
set_option maxHeartbeats 4000000 in
theorem drawPredictCost_any (ac : Option Addr) (c : Nat) (cs : List Int) (w : World) (hl : cs.length ≤ 65537) (h : BytesAt w ac cs) :
    Calls Try.prog 22 #[.slice ac cs.length c] w (PcDraw w) := by
  obtain ⟨wa, hwa⟩ : ∃ W, W = w.alloc (.cells #[.int .i64 0, .int .i64 0, .int .i64 0] 26) := ⟨_, rfl⟩
  have sa : wa.heap.size = w.heap.size + 1 := by rw [hwa]; simp
  have ba : Below w.heap.size w wa := by rw [hwa]; exact belowNew _ _
  have hra : wa.heap[w.heap.size]? = some (.cells #[.int .i64 0, .int .i64 0, .int .i64 0] 26 (0, 0)) := by rw [hwa]; exact block_new _ _
  obtain ⟨h1, h2, h3⟩ := cur_start (c := c) hl (h.below (Nat.le_refl _) ba)
  have HC := Lib.hid h1; have HO := Lib.hid h2; have HB := Lib.hid (below_tr ba h3 ba.size)
  have HR := Lib.hid (block_below hra h3 (by omega))
  rw [sa] at HC
  clear h h1 h2 h3 hra
  have hsz : (wa.alloc (.cells #[.slice ac cs.length c, .int .i64 0, .int .u64 0] 107)).heap.size = w.heap.size + 2 := by rw [size_al]; omega
  subst hwa
  unfold PcDraw
  go_enter Try.func22, Try.ntmps22
  go_wp2_with fail
  refine (pick_any (w.heap.size + 1) ac cs 0 67 _ (by omega) (by omega) HC.out).mono ?_
  rintro e w1 ⟨⟨r, rfl, hr0, hr1⟩, hc, hg⟩
  have HR1 := Lib.hid (block_row HR.out hg (by intro e; injection e with e; omega))
  have HB1 := Lib.hid (HB.out.grown hg HB.out.size (fun k hk => by injection hk with hk; omega))
  have hz1 := hc.lt
  have hg1 := hg.size
  have HC1 := Lib.hid hc
  have HOL : Hid (cs ≠ [] → ∀ b off, ac = some ⟨b, off, none⟩ → b < w1.heap.size) := fun h0 b off e => by have := HO.out h0 b off e; omega
  clear hc hg HC HO HR HB
  go_wp2_with fail
  refine (plan_any (w.heap.size + 1) ac cs _ _ ?h1 HC1.out HOL.out).mono ?_
  case h1 => omega
  rintro e w2 ⟨pm, pw, pb, rfl, hpm, hpw, hpb, hD⟩
  have HR2 := Lib.hid (block_row HR1.out hD.grown (by intro e; injection e with e; omega))
  have HB2 := Lib.hid (HB1.out.grown hD.grown HB1.out.size (fun k hk => by injection hk with hk; omega))
  obtain ⟨r0, r1, r2⟩ := cells3 HR2.out
  have fr2 : ∀ o, w2.frozen? ⟨w.heap.size, o, none⟩ = false := fun o => frozen_of_row _ _ o _ _ HR2.out
  have HB3 := Lib.hid (setc3 (x0 := .int .i64 pm) (x1 := .int .i64 pw) (x2 := .int .i64 pb) HB2.out (Nat.le_refl _))
  clear hD HR1 HB1 HC1 HOL HR2 HB2
  go_wp2
  refine bodyPost_ret (v := .tuple #[.int .i64 (r - 1), .agg #[.int .i64 pm, .int .i64 pw, .int .i64 pb]]) (by simp [results, Try.results22, go_sem, r0, r1, r2]) rfl ?_
  exact ⟨_, _, _, _, rfl, by omega, HB3.out⟩

set_option maxRecDepth 100000 in
set_option maxHeartbeats 4000000 in
theorem drawBestPlan_any (ac : Option Addr) (c : Nat) (cs : List Int) (w : World) (hl : cs.length ≤ 65537) (h : BytesAt w ac cs) :
    Calls Try.prog 67 #[.slice ac cs.length c] w (IiDraw w) := by
  obtain ⟨h1, h2, h3⟩ := cur_start (c := c) hl h
  have HC := Lib.hid h1; have HB := Lib.hid h3
  clear h h1 h2 h3
  unfold IiDraw
  go_enter Try.func67, Try.ntmps67
  go_wp2_with fail
  refine (pick_any w.heap.size ac cs 0 67 _ (by omega) (by omega) HC.out).mono ?_
  rintro e w1 ⟨⟨r, rfl, hr0, hr1⟩, hc, hg⟩
  have HB1 := Lib.hid (HB.out.grown hg HB.out.size (fun k hk => by injection hk with hk; omega))
  have HC1 := Lib.hid hc
  clear hc hg HC HB
  go_wp2_with fail
  refine (pick_any w.heap.size ac cs _ 30 _ ?h1 (by omega) HC1.out).mono ?_
  case h1 => omega
  rintro e w2 ⟨⟨s, rfl, hs0, hs1⟩, hc, hg⟩
  have HB2 := Lib.hid (HB1.out.grown hg HB1.out.size (fun k hk => by injection hk with hk; omega))
  clear hc hg HC1 HB1
  go_wp2
  go_ret2
  exact ⟨_, _, rfl, by omega, by omega, HB2.out⟩

set_option maxRecDepth 100000 in
set_option maxHeartbeats 4000000 in
theorem drawBlocksOf_any (ac : Option Addr) (c : Nat) (cs : List Int) (w : World) (hl : cs.length ≤ 65537) (h : BytesAt w ac cs) :
    Calls Try.prog 68 #[.slice ac cs.length c] w (IiDraw w) := by
  obtain ⟨h1, h2, h3⟩ := cur_start (c := c) hl h
  have HC := Lib.hid h1; have HB := Lib.hid h3
  have hszc : (w.alloc (.cells #[.slice ac cs.length c, .int .i64 0, .int .u64 0] 107)).heap.size = w.heap.size + 1 := by simp
  clear h h1 h2 h3
  unfold IiDraw
  go_enter Try.func68, Try.ntmps68
  go_wp2_with fail
  refine (pick_any w.heap.size ac cs 0 40 _ (by omega) (by omega) HC.out).mono ?_
  rintro e w1 ⟨⟨r, rfl, hr0, hr1⟩, hc, hg⟩
  have HB1 := Lib.hid (HB.out.grown hg HB.out.size (fun k hk => by injection hk with hk; omega))
  have HC1 := Lib.hid hc
  clear hc hg HC HB
  go_wp2_with fail
  refine (pick_any w.heap.size ac cs _ 40 _ ?h1 (by omega) HC1.out).mono ?_
  case h1 => omega
  rintro e w2 ⟨⟨s, rfl, hs0, hs1⟩, hc, hg⟩
  have hz2 := hc.lt
  have HB2 := Lib.hid (below_tr (HB1.out.grown hg HB1.out.size (fun k hk => by injection hk with hk; omega)) (belowNew w2 (.cells #[.int .i64 r, .int .i64 s, .int .i64 0, .int .i64 (-1), .int .i64 100000, .int .i64 100001] 3)) (HB1.out.grown hg HB1.out.size (fun k hk => by injection hk with hk; omega)).size)
  have HC2 := Lib.hid (hc.below (belowNew w2 (.cells #[.int .i64 r, .int .i64 s, .int .i64 0, .int .i64 (-1), .int .i64 100000, .int .i64 100001] 3)))
  clear hc hg HC1 HB1
  go_wp2_with fail
  refine (among_any w.heap.size ac cs _ _ 6 [r, s, 0, -1, 100000, 100001] _ ?h2 (by simp) (by simp) HC2.out (lit_ints w2 [r, s, 0, -1, 100000, 100001] (by simp)) ?h3).mono ?_
  case h2 => omega
  case h3 => intro b off e; injection e with e; injection e with e; omega
  rintro e w3 ⟨⟨x, rfl, hx⟩, hc, hg⟩
  have hx2 : -1 ≤ x ∧ x ≤ 100001 := by simp at hx; omega
  have HB3 := Lib.hid (HB2.out.grown hg HB2.out.size (fun k hk => by injection hk with hk; omega))
  have HC3 := Lib.hid hc
  clear hc hg HC2 HB2 hx hr0 hr1 hs0 hs1
  go_wp2_with fail
  refine (pick_any w.heap.size ac cs _ 8 _ ?h1 (by omega) HC3.out).mono ?_
  case h1 => omega
  rintro e w4 ⟨⟨y, rfl, hy0, hy1⟩, hc, hg⟩
  have HB4 := Lib.hid (HB3.out.grown hg HB3.out.size (fun k hk => by injection hk with hk; omega))
  have HC4 := Lib.hid hc
  clear hc hg HC3 HB3
  go_wp2_with fail
  refine (pick_any w.heap.size ac cs _ 8 _ ?h1 (by omega) HC4.out).mono ?_
  case h1 => omega
  rintro e w5 ⟨⟨z, rfl, hz0, hz1⟩, hc, hg⟩
  have hz5 := hc.lt
  have HB5 := Lib.hid (below_tr (HB4.out.grown hg HB4.out.size (fun k hk => by injection hk with hk; omega)) (belowNew w5 (.cells #[.int .i64 (1 + y), .int .i64 (1 + z), .int .i64 0, .int .i64 100000, .int .i64 100001] 3)) (HB4.out.grown hg HB4.out.size (fun k hk => by injection hk with hk; omega)).size)
  have HC5 := Lib.hid (hc.below (belowNew w5 (.cells #[.int .i64 (1 + y), .int .i64 (1 + z), .int .i64 0, .int .i64 100000, .int .i64 100001] 3)))
  clear hc hg HC4 HB4
  go_wp2_with fail
  refine (among_any w.heap.size ac cs _ _ 5 [1 + y, 1 + z, 0, 100000, 100001] _ ?h2 (by simp) (by simp) HC5.out (lit_ints w5 [1 + y, 1 + z, 0, 100000, 100001] (by simp)) ?h3).mono ?_
  case h2 => omega
  case h3 => intro b off e; injection e with e; injection e with e; omega
  rintro e w6 ⟨⟨u, rfl, hu⟩, hc, hg⟩
  have hu2 : -1 ≤ u ∧ u ≤ 100001 := by simp at hu; omega
  have HB6 := Lib.hid (HB5.out.grown hg HB5.out.size (fun k hk => by injection hk with hk; omega))
  clear hc hg HC5 HB5 hu
  go_wp2
  go_ret2
  exact ⟨_, _, rfl, hx2, hu2, HB6.out⟩

end Go.Proofs.Ytkckmjajjdpodaa

/- The law FnExternal: its walk. -/
namespace Go.Proofs.Ytkckmjajjdpodaa
open Go.RowKit Go.Sort
set_option linter.unusedVariables false

/-- What stands while the law looks at the two answers. -/
structure Xs (w W : World) (a : Option Addr) (n c : Nat) (L : List (Int × Int)) (ga : Option Addr) (gn gc : Nat) (ha : Option Addr) (hn hc : Nat) (G : List (Int × Int)) (P C1 C2 : Nat) (pv cv : Array Value) : Prop where
  bel : Below w.heap.size w W
  l : Rd W a n c L
  g : Rd W ga gn gc G
  h : Rd W ha hn hc G
  pl : W.heap[P]? = some (.cells pv 26 (0, 0))
  co : W.heap[C1]? = some (.cells cv 30 (0, 0))
  cw : W.heap[C2]? = some (.cells cv 30 (0, 0))
theorem Xs.same {w W W' : World} {a : Option Addr} {n c : Nat} {L : List (Int × Int)} {ga : Option Addr} {gn gc : Nat} {ha : Option Addr} {hn hc : Nat} {G : List (Int × Int)} {P C1 C2 : Nat} {pv cv : Array Value} (s : Xs w W a n c L ga gn gc ha hn hc G P C1 C2 pv cv) (hb : Below W.heap.size W W') : Xs w W' a n c L ga gn gc ha hn hc G P C1 C2 pv cv :=
  ⟨below_tr s.bel hb s.bel.size, s.l.same hb, s.g.same hb, s.h.same hb, block_below s.pl hb (hlt_of s.pl), block_below s.co hb (hlt_of s.co), block_below s.cw hb (hlt_of s.cw)⟩
theorem exL_len (zs : List (Int × Int)) (pm pw pb : Int) : (exL zs pm pw pb).length ≤ 64 := by
  unfold exL
  split
  · rename_i h
    unfold exOk at h
    rw [Bool.and_eq_true] at h
    rw [srtP_len]
    exact okRecs_le h.1
  · simp

set_option maxRecDepth 100000 in
set_option maxHeartbeats 8000000 in
theorem lawExternal_any (ac : Option Addr) (cc : Nat) (cs : List Int) (w : World) (hbig : cs.length ≤ 9223372036854775807) (h : BytesAt w ac cs) :
    Calls Try.prog 3 #[.slice ac cs.length cc] w fun e w' => e = .returned (.bool true) ∧ Below w.heap.size w w' := by
  have HV := Lib.hid (vBigG_any ac cs.length cc w hbig)
  by_cases hl : 65536 < cs.length
  · rw [decide_eq_true hl] at HV
    clear h
    go_enter Try.func3, Try.ntmps3
    go_wp2_with (go_at_call 15; refine HV.out.mono ?_; rintro e w' ⟨rfl, rfl⟩)
    go_ret
    exact ⟨rfl, Below.refl _ _⟩
  rw [decide_eq_false hl] at HV
  have HD := Lib.hid (drawExternalSort_any ac cc cs w (by omega) h)
  have HDP := Lib.hid (fun W (hb : Below w.heap.size w W) => drawPredictCost_any ac cc cs W (by omega) (h.below (Nat.le_refl _) hb))
  clear h
  unfold ExDraw at HD
  unfold PcDraw at HDP
  go_enter Try.func3, Try.ntmps3
  go_wp2_with fail
  refine HV.out.mono ?_
  rintro e w1 ⟨rfl, rfl⟩
  go_wp2_with fail
  refine HD.out.mono ?_
  rintro e w1 ⟨a, n, c, L, pm, pw, pb, rfl, hrd, hn70, hpm, hpw, hpb, hb⟩
  have hbn := belowNew w1 (.cells #[.int .i64 pm, .int .i64 pw, .int .i64 pb] 26)
  have HB2 := Lib.hid (below_tr hb hbn hb.size)
  have HL2 := Lib.hid (hrd.same hbn)
  have HP2 := Lib.hid (block_new w1 (.cells #[.int .i64 pm, .int .i64 pw, .int .i64 pb] 26))
  clear hrd hb hbn HD HV
  have hlen := HL2.out.len
  have hgl := exL_len L pm pw pb
  obtain ⟨ok, hok⟩ : ∃ ok, exOk L pm pw pb = ok := ⟨_, rfl⟩
  obtain ⟨⟨c0, c1, c2, c3⟩, hC⟩ : ∃ C, exC L pm pw pb = C := ⟨_, rfl⟩
  obtain ⟨G, hG⟩ : ∃ G, exL L pm pw pb = G := ⟨_, rfl⟩
  have HI := Lib.hid (implExternalSort_any a n c L pm pw pb _ (by omega) HL2.out)
  have HS := Lib.hid (fun W (hb : Below (w1.alloc (.cells #[.int .i64 pm, .int .i64 pw, .int .i64 pb] 26)).heap.size (w1.alloc (.cells #[.int .i64 pm, .int .i64 pw, .int .i64 pb] 26)) W) => specExternalSort_any a n c L pm pw pb W (by omega) (HL2.out.same hb))
  unfold ExEndO at HI HS
  rw [hok, hC, hG] at HI HS
  rw [hG] at hgl
  simp only [costV] at HI HS
  have HOK := Lib.hid hok; have HC := Lib.hid hC; have HG := Lib.hid hG
  clear hok hC hG
  obtain ⟨p0, p1, p2⟩ := cells3 HP2.out
  go_wp2_with fail
  refine HI.out.mono ?_
  rintro e w3 ⟨ga, gn, gc, rfl, hrd, -, hb⟩
  have hbn := belowNew w3 (.cells #[.int .i64 c0, .int .i64 c1, .int .i64 c2, .int .i64 c3] 30)
  have hb3 := below_tr HB2.out hb HB2.out.size
  have HB3 := Lib.hid (below_tr hb3 hbn hb3.size)
  have hbx := below_tr hb hbn hb.size
  have HBX := Lib.hid hbx
  have HL3 := Lib.hid (HL2.out.same hbx)
  have HP3 := Lib.hid (block_below HP2.out hbx (hlt_of HP2.out))
  have HGR3 := Lib.hid (hrd.same hbn)
  have HC3 := Lib.hid (block_new w3 (.cells #[.int .i64 c0, .int .i64 c1, .int .i64 c2, .int .i64 c3] 30))
  clear hrd hb hbn hb3 hbx HI HB2 HL2 HP2 p0 p1 p2
  obtain ⟨p0, p1, p2⟩ := cells3 HP3.out
  go_wp2_with fail
  refine (HS.out _ HBX.out).mono ?_
  rintro e w4 ⟨ha, hn, hc, rfl, hrd, -, hb⟩
  have hbn := belowNew w4 (.cells #[.int .i64 c0, .int .i64 c1, .int .i64 c2, .int .i64 c3] 30)
  have hbx := below_tr hb hbn hb.size
  have X4 : Hid (Xs w (w4.alloc (.cells #[.int .i64 c0, .int .i64 c1, .int .i64 c2, .int .i64 c3] 30)) a n c L ga gn gc ha hn hc G w1.heap.size w3.heap.size w4.heap.size #[.int .i64 pm, .int .i64 pw, .int .i64 pb] #[.int .i64 c0, .int .i64 c1, .int .i64 c2, .int .i64 c3]) :=
    ⟨below_tr HB3.out hbx HB3.out.size, HL3.out.same hbx, HGR3.out.same hbx, hrd.same hbn, block_below HP3.out hbx (hlt_of HP3.out), block_below HC3.out hbx (hlt_of HC3.out), block_new _ _⟩
  have hgn : gn ≤ 64 := by have := HGR3.out.len; omega
  have hhn : hn ≤ 64 := by have := hrd.len; omega
  clear hrd hb hbn hbx HS HB3 HL3 HP3 HGR3 HC3 HBX p0 p1 p2
  have HVP := Lib.hid (fun W => isValidPlan_any pm pw pb W)
  have HVS := Lib.hid (fun W => specIsValidPlan_any pm pw pb W)
  have q1 : (ok != ok) = false := by simp
  have q2 : decide (G = G) = true := by simp
  generalize hpo : planOk pm pw pb = po at HVP HVS
  have HPO := Lib.hid hpo
  have q3 : (po != po) = false := by simp
  clear hpo
  obtain ⟨KK, k0, kall, knext, kout⟩ : ∃ KK : World → Prop, KK (w4.alloc (.cells #[.int .i64 c0, .int .i64 c1, .int .i64 c2, .int .i64 c3] 30)).drew ∧ (∀ w', KK w' → w'.cell? ⟨w1.heap.size, 0, none⟩ = some (.int .i64 pm) ∧ w'.cell? ⟨w1.heap.size, 1, none⟩ = some (.int .i64 pw) ∧ w'.cell? ⟨w1.heap.size, 2, none⟩ = some (.int .i64 pb) ∧ w'.cell? ⟨w3.heap.size, 0, none⟩ = some (.int .i64 c0) ∧ w'.cell? ⟨w3.heap.size, 1, none⟩ = some (.int .i64 c1) ∧ w'.cell? ⟨w3.heap.size, 2, none⟩ = some (.int .i64 c2) ∧ w'.cell? ⟨w3.heap.size, 3, none⟩ = some (.int .i64 c3) ∧ w'.cell? ⟨w4.heap.size, 0, none⟩ = some (.int .i64 c0) ∧ w'.cell? ⟨w4.heap.size, 1, none⟩ = some (.int .i64 c1) ∧ w'.cell? ⟨w4.heap.size, 2, none⟩ = some (.int .i64 c2) ∧ w'.cell? ⟨w4.heap.size, 3, none⟩ = some (.int .i64 c3) ∧ KK w') ∧ (∀ w' w'', KK w' → Below w'.heap.size w' w'' → KK w'') ∧ (∀ w', KK w' → Xs w w' a n c L ga gn gc ha hn hc G w1.heap.size w3.heap.size w4.heap.size #[.int .i64 pm, .int .i64 pw, .int .i64 pb] #[.int .i64 c0, .int .i64 c1, .int .i64 c2, .int .i64 c3]) := by
    refine ⟨_, X4.out.same ((Below.refl _ _).drew), fun W h => ?_, fun _ _ h hb => h.same hb, fun _ h => h⟩
    obtain ⟨y0, y1, y2⟩ := cells3 h.pl
    obtain ⟨y3, y4, y5, y6⟩ := cellsQ h.co
    obtain ⟨y7, y8, y9, y10⟩ := cellsQ h.cw
    exact ⟨y0, y1, y2, y3, y4, y5, y6, y7, y8, y9, y10, h⟩
  clear X4
  have k1 := kall _ k0
  have hkall := Lib.hid kall; have hknext := Lib.hid knext; have hkout := Lib.hid kout
  clear kall knext kout k0
  go_wp2_with fail
  go_region_held3 (fun w' => w'.cell? ⟨w1.heap.size, 0, none⟩ = some (.int .i64 pm) ∧ w'.cell? ⟨w1.heap.size, 1, none⟩ = some (.int .i64 pw) ∧ w'.cell? ⟨w1.heap.size, 2, none⟩ = some (.int .i64 pb) ∧ w'.cell? ⟨w3.heap.size, 0, none⟩ = some (.int .i64 c0) ∧ w'.cell? ⟨w3.heap.size, 1, none⟩ = some (.int .i64 c1) ∧ w'.cell? ⟨w3.heap.size, 2, none⟩ = some (.int .i64 c2) ∧ w'.cell? ⟨w3.heap.size, 3, none⟩ = some (.int .i64 c3) ∧ w'.cell? ⟨w4.heap.size, 0, none⟩ = some (.int .i64 c0) ∧ w'.cell? ⟨w4.heap.size, 1, none⟩ = some (.int .i64 c1) ∧ w'.cell? ⟨w4.heap.size, 2, none⟩ = some (.int .i64 c2) ∧ w'.cell? ⟨w4.heap.size, 3, none⟩ = some (.int .i64 c3) ∧ KK w') (go_keep)
    (first
      | ((try go_split_ands); go_at_call 19; refine (vRecords_any ga ha gn hn gc hc G G _ (by omega) (by omega) (hkout.out _ (by assumption)).g (hkout.out _ (by assumption)).h).mono ?_; rintro e w' ⟨rfl, hb⟩; have hk := hknext.out _ _ (by assumption) hb; have hS := hkall.out _ hk; clear hb)
      | ((try go_split_ands); go_at_call 20; refine (HVP.out _).mono ?_; rintro e w' ⟨rfl, hb⟩; have hk := hknext.out _ _ (by assumption) hb; have hS := hkall.out _ hk; clear hb)
      | ((try go_split_ands); go_at_call 21; refine (HVS.out _).mono ?_; rintro e w' ⟨rfl, hb⟩; have hk := hknext.out _ _ (by assumption) hb; have hS := hkall.out _ hk; clear hb))
  have X6 := Lib.hid (hkout.out _ hk)
  generalize w' = w6 at X6 ⊢
  clear hk hS hkall hknext hkout HVP HVS
  go_wp2_with fail
  refine (HDP.out _ X6.out.bel).mono ?_
  rintro e w7 ⟨k, qm, qw, qb, rfl, hk, hb⟩
  have hbn := belowNew w7 (.cells #[.int .i64 qm, .int .i64 qw, .int .i64 qb] 26)
  have X7 := Lib.hid ((X6.out.same hb).same hbn)
  have HQ7 := Lib.hid (block_new w7 (.cells #[.int .i64 qm, .int .i64 qw, .int .i64 qb] 26))
  have HPI := Lib.hid (fun W => implPredictCost_any k qm qw qb W)
  have HPS := Lib.hid (fun W => specPredictCost_any k qm qw qb W)
  generalize pcC k qm qw qb = Q at HPI HPS
  generalize pcOk k qm qw qb = oq at HPI HPS
  obtain ⟨d0, d1, d2, d3⟩ := Q
  simp only [costV] at HPI HPS
  have q4 : (oq != oq) = false := by simp
  obtain ⟨p0, p1, p2⟩ := cells3 HQ7.out
  clear hb hbn X6 HDP
  go_wp2_with fail
  refine (HPI.out _).mono ?_
  rintro e w8 ⟨rfl, hb⟩
  have hbn := belowNew w8 (.cells #[.int .i64 d0, .int .i64 d1, .int .i64 d2, .int .i64 d3] 30)
  have X8 := Lib.hid ((X7.out.same hb).same hbn)
  have hq8 := block_below HQ7.out hb (hlt_of HQ7.out)
  have HQ8 := Lib.hid (block_below hq8 hbn (hlt_of hq8))
  have HD8 := Lib.hid (block_new w8 (.cells #[.int .i64 d0, .int .i64 d1, .int .i64 d2, .int .i64 d3] 30))
  clear hb hbn hq8 X7 HQ7 HPI p0 p1 p2
  obtain ⟨p0, p1, p2⟩ := cells3 HQ8.out
  go_wp2_with fail
  refine (HPS.out _).mono ?_
  rintro e w9 ⟨rfl, hb⟩
  have hbn := belowNew w9 (.cells #[.int .i64 d0, .int .i64 d1, .int .i64 d2, .int .i64 d3] 30)
  have X9 := Lib.hid ((X8.out.same hb).same hbn)
  have hd9 := block_below HD8.out hb (hlt_of HD8.out)
  have HD9 := Lib.hid (block_below hd9 hbn (hlt_of hd9))
  obtain ⟨u0, u1, u2, u3⟩ := cellsQ HD9.out
  clear hb hbn hd9 X8 HQ8 HD8 HPS p0 p1 p2
  cases ok
  · have hg0 : gn = 0 := by
      have h1 := HG.out
      unfold exL at h1
      rw [HOK.out] at h1
      have h2 : G = [] := h1.symm
      have := X9.out.g.len
      rw [h2] at this; exact this.symm
    subst hg0
    clear HG HC HOK
    go_wp2
    go_ret
    exact ⟨rfl, X9.out.bel⟩
  · have ho := HOK.out
    unfold exOk at ho
    rw [Bool.and_eq_true] at ho
    obtain ⟨ho1, ho2⟩ := ho
    obtain ⟨s1, s2, s3, s4, s5, s6⟩ := planOk_iff ho2
    obtain ⟨m, rfl⟩ : ∃ n : Nat, pm = (n : Int) := ⟨pm.toNat, by omega⟩
    obtain ⟨u, rfl⟩ : ∃ n : Nat, pw = (n : Int) := ⟨pw.toNat, by omega⟩
    obtain ⟨b, rfl⟩ : ∃ n : Nat, pb = (n : Int) := ⟨pb.toNat, by omega⟩
    have hn64 : n ≤ 64 := by have := okRecs_le ho1; omega
    have hGs : G = srtR L := by rw [← HG.out]; unfold exL; rw [if_pos HOK.out]; rfl
    have hco : Mg.costOf n m u b = (c0, c1, c2, c3) := by
      rw [← HC.out]; unfold exC; rw [if_pos HOK.out, hlen]; rfl
    have hc0 : c0 = (Mg.lens m n).length := by
      have := congrArg Prod.fst hco; exact this.symm
    have hc1 : Mg.pc u c0 = c1 := by
      have h1 : (Mg.costOf n m u b).2.1 = c1 := by rw [hco]
      unfold Mg.costOf at h1
      rw [← h1, hc0]
      have := Mg.costW_pc (w := u) (b := b) (by omega) _ (Mg.lens m n) 0 (Mg.blkN b n) (Mg.blks b (Mg.lens m n)) (Nat.le_refl _)
      show _ = (Mg.costW u b (Mg.lens m n) 0 (Mg.blkN b n) (Mg.blks b (Mg.lens m n))).1
      omega
    have hc64 : c0 ≤ 64 := by
      rw [hc0, Mg.lens_len (by omega)]
      exact Nat.le_trans (Mg.blkN_le (by omega)) hn64
    have hpc : pcOk n m u b = true := by unfold pcOk; rw [inB_iff.2 ⟨by omega, by omega⟩, ho2]; rfl
    have hpq : pcC n m u b = (c0, c1, c2, c3) := by unfold pcC; rw [if_pos hpc]; exact hco
    have HPC := Lib.hid (fun W => implPredictCost_any n m u b W)
    rw [hpc, hpq] at HPC
    simp only [costV] at HPC
    have HPP := Lib.hid (fun W => implPassCount_any c0 u W (by omega) (by omega) (by omega))
    rw [hc1] at HPP
    have HST := Lib.hid (fun W (hr : Rd W a n c L) => implStableSort_any a n c L W (by omega) hr)
    unfold RdEnd stAns at HST
    rw [ho1, if_pos rfl, ← hGs] at HST
    clear HG HC HOK ho1 ho2 hGs hco hc0 hc1 hpc hpq q1 q3 HD9 s1 s2 s3 s4 s5 s6
    go_wp2_with fail
    refine (HST.out _ X9.out.l).mono ?_
    rintro e wa ⟨ta, tn, tc, rfl, hrd, hb⟩
    have Xa := Lib.hid (X9.out.same hb)
    have HTa := Lib.hid hrd
    have htn : tn ≤ 64 := by have := hrd.len; omega
    clear hrd hb X9 HST u0 u1 u2 u3 q4
    obtain ⟨p0, p1, p2⟩ := cells3 Xa.out.pl
    go_wp2_with fail
    refine (HPC.out _).mono ?_
    rintro e wb ⟨rfl, hb⟩
    have hbn := belowNew wb (.cells #[.int .i64 c0, .int .i64 c1, .int .i64 c2, .int .i64 c3] 30)
    have Xb := Lib.hid ((Xa.out.same hb).same hbn)
    have HTb := Lib.hid ((HTa.out.same hb).same hbn)
    have HNb := Lib.hid (block_new wb (.cells #[.int .i64 c0, .int .i64 c1, .int .i64 c2, .int .i64 c3] 30))
    clear hb hbn Xa HTa HPC p0 p1 p2
    obtain ⟨p0, p1, p2⟩ := cells3 Xb.out.pl
    obtain ⟨r0, r1, r2, r3⟩ := cellsQ Xb.out.co
    go_wp2_with fail
    refine (HPP.out _).mono ?_
    rintro e wc ⟨rfl, rfl⟩
    clear p0 p1 p2 r0 r1 r2 r3 HPP
    go_wp2_with fail
    refine (vRecords_any ta ga tn gn tc gc G G _ (by omega) (by omega) HTb.out Xb.out.g).mono ?_
    rintro e wd ⟨rfl, hb⟩
    have Xd := Lib.hid (Xb.out.same hb)
    obtain ⟨r0, r1, r2, r3⟩ := cellsQ Xd.out.co
    obtain ⟨v0, v1, v2, v3⟩ := cellsQ (block_below HNb.out hb (hlt_of HNb.out))
    clear hb Xb HTb HNb
    go_wp2
    go_ret
    exact ⟨rfl, Xd.out.bel⟩

end Go.Proofs.Ytkckmjajjdpodaa
