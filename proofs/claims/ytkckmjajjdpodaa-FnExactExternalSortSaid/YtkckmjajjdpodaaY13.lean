/- Several texts in one: lemmas and walks of the functions that the laws reach. -/
import Derived.Test.YtkckmjajjdpodaaY12

/- Walks: the draws of the law FnPasses. -/
namespace Go.Proofs.Ytkckmjajjdpodaa
open Go.RowKit Go.Sort
set_option linter.unusedVariables false

theorem ints_takeS {w : World} {x : Addr} {p : List Int} (h : IntsAt w (some x) p) (i : Nat) : IntsAt w (some x) (p.take i) := by
  rcases h with rfl | ⟨b', off', e, h0, h1⟩
  · exact .inl (by simp)
  · refine .inr ⟨b', off', e, h0, fun j hj => ?_⟩
    have hj2 : j < i ∧ j < p.length := by simp at hj; omega
    rw [h1 j hj2.2]
    simp [List.getD, List.getElem?_take, hj2.1]
theorem ints_grownS {w w' : World} {row : Option Nat} {a : Option Addr} {l : List Int} (h : IntsAt w a l) (hg : w.grownBy w' row) (hne : ∀ b off, a = some ⟨b, off, none⟩ → row ≠ some b) : IntsAt w' a l := by
  rcases h with h | ⟨b, off, e, h1, h2⟩
  · exact .inl h
  · refine .inr ⟨b, off, e, Nat.lt_of_lt_of_le h1 hg.size, fun j hj => ?_⟩
    have := hg.block b h1 (Ne.symm (hne b off e))
    rw [← h2 j hj]
    simp only [World.cell?, this]

/-- A drawn list and a number. -/
def MrDraw (w : World) (e : Ending) (w' : World) : Prop :=
  ∃ (a : Option Addr) (n c : Nat) (L : List (Int × Int)) (m : Int), e = .returned (.tuple #[.slice a n c, .int .i64 m]) ∧ Rd w' a n c L ∧ n ≤ 70 ∧ 0 ≤ m ∧ m ≤ 100 ∧ Below w.heap.size w w'
def MpDraw (w : World) (e : Ending) (w' : World) : Prop :=
  ∃ (a : Option Addr) (n c : Nat) (Ls : List (List (Int × Int))) (m : Int), e = .returned (.tuple #[.slice a n c, .int .i64 m]) ∧ LsAt w' a n c Ls ∧ n ≤ 30 ∧ (∀ i, (Ls.getD i []).length ≤ 70) ∧ 0 ≤ m ∧ m ≤ 100 ∧ Below w.heap.size w w'

set_option maxRecDepth 100000 in
set_option maxHeartbeats 4000000 in
theorem drawMakeRuns_any (ac : Option Addr) (c : Nat) (cs : List Int) (w : World) (hl : cs.length ≤ 65537) (h : BytesAt w ac cs) :
    Calls Try.prog 72 #[.slice ac cs.length c] w (MrDraw w) := by
  obtain ⟨h1, h2, h3⟩ := cur_start (c := c) hl h
  have HC := Lib.hid h1; have HO := Lib.hid h2; have HB := Lib.hid h3
  clear h h1 h2 h3
  unfold MrDraw
  go_enter Try.func72, Try.ntmps72
  go_wp2_with fail
  refine (anyRecords_any w.heap.size ac cs 0 _ (by omega) HC.out (fun h0 b off e => by have := HO.out h0 b off e; simp; omega)).mono ?_
  rintro e w1 ⟨a1, c1, L, rfl, ho, hl1, hD⟩
  have HO1 := Lib.hid (own_mono ho (by simp : w.heap.size + 1 ≤ _))
  have HD1 := Lib.hid hD
  have HB1 := Lib.hid (HB.out.grown hD.grown (by simp) (fun k hk => by injection hk with hk; omega))
  clear ho hD HC
  go_wp2_with fail
  refine (one_any w.heap.size ac cs _ 12 _ ?h1 (by omega) HD1.out.cur).mono ?_
  case h1 => omega
  rintro e w2 ⟨⟨b3, rfl⟩, hc, hg⟩
  have HD2 := Lib.hid (HD1.out.step hc hg)
  have HO2 := Lib.hid (own_cur HO1.out (by omega) hg)
  have HB2 := Lib.hid (HB1.out.grown hg HB1.out.size (fun k hk => by injection hk with hk; omega))
  clear hc hg HD1 HO1 HB1
  cases b3
  · go_wp2_with fail
    refine (pick_any w.heap.size ac cs _ 7 _ ?h2 (by omega) HD2.out.cur).mono ?_
    case h2 => omega
    rintro e w3 ⟨⟨r, rfl, hr0, hr1⟩, hc, hg⟩
    have HO3 := Lib.hid (own_cur HO2.out (by omega) hg)
    have HB3 := Lib.hid (HB2.out.grown hg HB2.out.size (fun k hk => by injection hk with hk; omega))
    clear hc hg HD2 HO2 HB2
    go_wp2
    go_ret2
    exact ⟨_, _, _, _, _, rfl, rd_own HO3.out, hl1, by omega, by omega, HB3.out⟩
  · have hwl : w.heap.size < w2.heap.size := HD2.out.cur.lt
    have HD3 := Lib.hid (HD2.out.below (belowNew w2 (.cells #[.int .i64 0, .int .i64 64, .int .i64 65] 3)))
    have HO3 := Lib.hid (HO2.out.alloc (.cells #[.int .i64 0, .int .i64 64, .int .i64 65] 3))
    have HB3 := Lib.hid (HB2.out.alloc HB2.out.size (.cells #[.int .i64 0, .int .i64 64, .int .i64 65] 3))
    clear HD2 HO2 HB2
    go_wp2_with fail
    refine (among_any w.heap.size ac cs _ _ 3 [0, 64, 65] _ ?h2 (by decide) (by decide) HD3.out.cur (lit_ints w2 [0, 64, 65] (by decide)) ?h3).mono ?_
    case h2 => omega
    case h3 => intro b off e; injection e with e; injection e with e; omega
    rintro e w4 ⟨⟨x, rfl, hx⟩, hc, hg⟩
    have HO4 := Lib.hid (own_cur HO3.out (by omega) hg)
    have HB4 := Lib.hid (HB3.out.grown hg HB3.out.size (fun k hk => by injection hk with hk; omega))
    clear hc hg HD3 HO3 HB3
    have hx2 : 0 ≤ x ∧ x ≤ 100 := by simp at hx; omega
    clear hx
    go_wp2
    go_ret2
    exact ⟨_, _, _, _, _, rfl, rd_own HO4.out, hl1, hx2.1, hx2.2, HB4.out⟩

theorem runs_small {m : Nat} (hm : 0 < m) (L : List (Int × Int)) {n : Nat} (hn : (Mg.runsOf m L).length = n) : n ≤ L.length ∧ ∀ i, ((Mg.runsOf m L).getD i []).length ≤ L.length := by
  have h1 : n = (Mg.lens m L.length).length := by rw [← hn, ← Mg.runs_lens hm L, List.length_map]
  refine ⟨?_, fun i => ?_⟩
  · rw [h1, Mg.lens_len hm]
    exact Mg.blkN_le hm
  · have h2 : (Mg.runsOf m L).flatten.length = L.length := by
      have := congrArg List.length (Mg.runs_srt hm L)
      rw [srtP_len, srtP_len] at this
      exact this
    rcases Nat.lt_or_ge i (Mg.runsOf m L).length with h3 | h3
    · rw [List.getD_eq_getElem?_getD, List.getElem?_eq_getElem h3, ← h2]
      exact (List.sublist_flatten_of_mem (List.getElem_mem h3)).length_le
    · rw [List.getD_eq_getElem?_getD, List.getElem?_eq_none h3]; simp

set_option maxRecDepth 100000 in
set_option maxHeartbeats 8000000 in
theorem drawMergePass_any (ac : Option Addr) (c : Nat) (cs : List Int) (w : World) (hl : cs.length ≤ 65537) (h : BytesAt w ac cs) :
    Calls Try.prog 76 #[.slice ac cs.length c] w (MpDraw w) := by
  obtain ⟨h1, h2, h3⟩ := cur_start (c := c) hl h
  have HC := Lib.hid h1; have HO := Lib.hid h2; have HB := Lib.hid h3
  clear h h1 h2 h3
  have hcsz : (w.alloc (.cells #[.slice ac cs.length c, .int .i64 0, .int .u64 0] 107)).heap.size = w.heap.size + 1 := by simp
  unfold MpDraw
  go_enter Try.func76, Try.ntmps76
  go_wp2_with fail
  refine (records_any w.heap.size ac cs 0 _ (by omega) HC.out (fun h0 b off e => by have := HO.out h0 b off e; simp; omega)).mono ?_
  rintro e w1 ⟨a1, c1, L, rfl, ho, hl1, hD⟩
  have HO1 := Lib.hid (own_mono ho (by simp : w.heap.size + 1 ≤ _))
  have HD1 := Lib.hid hD
  have HB1 := Lib.hid (HB.out.grown hD.grown (by simp) (fun k hk => by injection hk with hk; omega))
  clear ho hD HC
  go_wp2_with fail
  refine (pick_any w.heap.size ac cs _ 5 _ ?h1 (by omega) HD1.out.cur).mono ?_
  case h1 => omega
  rintro e w2 ⟨⟨r, rfl, hr0, hr1⟩, hc, hg⟩
  have HD2 := Lib.hid (HD1.out.step hc hg)
  have HO2 := Lib.hid (own_cur HO1.out (by omega) hg)
  have HB2 := Lib.hid (HB1.out.grown hg HB1.out.size (fun k hk => by injection hk with hk; omega))
  clear hc hg HD1 HO1 HB1
  obtain ⟨k, hk⟩ : ∃ k : Nat, 1 + r = (k : Int) := ⟨(1 + r).toNat, by omega⟩
  have hk0 : 0 < k ∧ k ≤ 6 := by omega
  have HR := Lib.hid (l17Runs_any a1 L.length c1 k L w2 (by omega) hk0.1 (by omega) (rd_own HO2.out))
  unfold LsEnd at HR
  have hwl : w.heap.size < w2.heap.size := HD2.out.cur.lt
  clear HO2
  go_wp2_with fail
  refine HR.out.mono ?_
  rintro e w3 ⟨a3, n3, c3, hs3, rfl, hlo, hb⟩
  obtain ⟨hn3, hlb⟩ := runs_small hk0.1 L hlo.len
  have HLB3 := Lib.hid hlb
  have HL3 := Lib.hid (hlo.mono (show w.heap.size + 1 ≤ w2.heap.size by omega))
  have HD3 := Lib.hid (HD2.out.below hb)
  have HB3 := Lib.hid (below_tr HB2.out hb HB2.out.size)
  clear hlo hb HR HD2 HB2 hk hlb
  go_wp2_with fail
  refine (pick_any w.heap.size ac cs _ 20 _ ?h1 (by omega) HD3.out.cur).mono ?_
  case h1 => omega
  rintro e w4 ⟨⟨y, rfl, hy0, hy1⟩, hc, hg⟩
  have HD4 := Lib.hid (HD3.out.step hc hg)
  have HL4 := Lib.hid (HL3.out.grow hg (fun b e => by injection e with e; omega))
  have HB4 := Lib.hid (HB3.out.grown hg HB3.out.size (fun k hk => by injection hk with hk; omega))
  generalize Mg.runsOf k L = Ls at HLB3 HL4
  clear hc hg HD3 HL3 HB3 HB hr0 hr1 hwl
  by_cases hya : y = 0
  case' pos =>
    have q2 : (y == 0) = true := by simp [hya]
    have hh : cs ≠ [] → ∀ b off, ac = some ⟨b, off, none⟩ → b < w4.heap.size := fun h0 b off e => by
      have h1 := HD4.out.old.2 h0 b off e
      have h2 := HD4.out.grown.size
      omega
    have HRC := Lib.hid (anyRecords_any w.heap.size ac cs _ w4 (by omega) HD4.out.cur hh)
    clear hya hh
    go_wp2_with fail
    refine HRC.out.mono ?_
    rintro e w5 ⟨a5, c5, L5, rfl, ho, hl5, hD⟩
    have HD5 := Lib.hid (Drawn.mk hD.cur (grown_trans HD4.out.grown hD.grown) HD4.out.old)
    have HL5 := Lib.hid (HL4.out.grow hD.grown (fun b e => by injection e with e; omega))
    have HB5 := Lib.hid (HB4.out.grown hD.grown HB4.out.size (fun k hk => by injection hk with hk; omega))
    have hobs : ∀ b, (Value.slice a3 n3 c3).ownBlock = some b → b < w4.heap.size := fun b e => (HL4.out.own.lt b e).2
    have hB4 : w.heap.size < w4.heap.size := HD4.out.cur.lt
    have hs45 := hD.grown.size
    have HE : Hid (Rd w5 a5 L5.length c5 L5 ∧ ∀ b off, a5 = some ⟨b, off, none⟩ → w4.heap.size ≤ b ∧ b < w5.heap.size) := ⟨rd_own ho, own_far' ho⟩
    have hn1 : n3 + 1 ≤ 1099511627776 := by omega
    clear ho hD HRC HL4 HD4 HB4
    obtain ⟨m, hm⟩ : ∃ m, L5.length = m := ⟨_, rfl⟩
    rw [hm] at HE hl5
    rw [hm]
    go_wp2_with (at_builtin; refine wpList_app1 (v := .slice a3 n3 c3) slLs rfl _ _ rfl rfl HL5.out.own [.slice a5 m c5] rfl rfl (by simp) (by simp [Value.oneCell']) hn1 (by omega) ?_; intro v' w7 hown' hg' ht'; generalize hGG : wpList _ _ _ _ _ _ = GG)
    have HL8 := Lib.hid (HL5.out.app HE.out.1 (fun b off e => ⟨by have := HE.out.2 b off e; omega, fun e3 => by have := HE.out.2 b off e; have := hobs b e3; omega, (HE.out.2 b off e).2⟩) hown' hg' (fun b e => ht'.elim (fun h => .inl (h ▸ e)) (fun h => .inr (by rw [h] at e; injection e with e; omega))))
    have HD8 := Lib.hid (HD5.out.app HL5.out.own (by omega) hg')
    have HB8 := Lib.hid (HB5.out.grown hg' HB5.out.size (fun b e => Nat.le_trans (Nat.le_succ _) (HL5.out.own.lt b e).1))
    have HLB8 := Lib.hid (getD_snoc_le (Ls := Ls) (L := L5) (B := 70) (fun i => by have := HLB3.out i; omega) (by omega))
    have hwl : w.heap.size < w7.heap.size := HD8.out.cur.lt
    obtain ⟨a8, c8, rfl⟩ := own_slice hown'
    clear hown' hg' ht' HL5 HD5 HE HB5 HLB3 hobs
    subst hGG
  case' neg =>
    have q2 : (y == 0) = false := by simpa using hya
    by_cases hyb : y = 1
    case' pos =>
      have q3 : (y == 1) = true := by simp [hyb]
      have HD7 := Lib.hid (HD4.out.below (belowNew w4 (.cells #[] 72)))
      have HL7 := Lib.hid (HL4.out.same (belowNew w4 (.cells #[] 72)))
      have HB7 := Lib.hid (below_tr HB4.out (belowNew w4 (.cells #[] 72)) HB4.out.size)
      have hobs : ∀ b, (Value.slice a3 n3 c3).ownBlock = some b → b < w4.heap.size := fun b e => (HL4.out.own.lt b e).2
      have hB4 : w.heap.size < w4.heap.size := HD4.out.cur.lt
      have HE : Hid (Rd (w4.alloc (.cells #[] 72)) (some ⟨w4.heap.size, 0, none⟩) 0 0 []) := rd_some _ _ _
      have hn1 : n3 + 1 ≤ 1099511627776 := by omega
      have hsza : (w4.alloc (.cells #[] 72)).heap.size = w4.heap.size + 1 := by simp
      clear hya hyb HD4 HL4 HB4
      go_wp2_with (at_builtin; refine wpList_app1 (v := .slice a3 n3 c3) slLs rfl _ _ rfl rfl HL7.out.own [.slice (some ⟨w4.heap.size, 0, none⟩) 0 0] rfl rfl (by simp) (by simp [Value.oneCell']) hn1 (by omega) ?_; intro v' w7 hown' hg' ht'; generalize hGG : wpList _ _ _ _ _ _ = GG)
      have HL8 := Lib.hid (HL7.out.app HE.out (fun b off e => by injection e with e; injection e with e1 e2; exact ⟨by omega, fun e3 => by have := hobs b e3; omega, by omega⟩) hown' hg' (fun b e => ht'.elim (fun h => .inl (h ▸ e)) (fun h => .inr (by rw [h] at e; injection e with e; omega))))
      have HD8 := Lib.hid (HD7.out.app HL7.out.own (by omega) hg')
      have HB8 := Lib.hid (HB7.out.grown hg' HB7.out.size (fun b e => Nat.le_trans (Nat.le_succ _) (HL7.out.own.lt b e).1))
      have HLB8 := Lib.hid (getD_snoc_le (Ls := Ls) (L := []) (B := 70) (fun i => by have := HLB3.out i; omega) (by simp))
      have hwl : w.heap.size < w7.heap.size := HD8.out.cur.lt
      obtain ⟨a8, c8, rfl⟩ := own_slice hown'
      clear hown' hg' ht' HL7 HD7 HE HB7 HLB3 hobs
      subst hGG
    case' neg =>
      have q3 : (y == 1) = false := by simpa using hyb
      have HL8 := HL4; have HD8 := HD4; have HB8 := HB4
      have HLB8 : Hid (∀ i, (Ls.getD i []).length ≤ 70) := fun i => by have := HLB3.out i; omega
      have hwl : w.heap.size < w4.heap.size := HD4.out.cur.lt
      clear HL4 HD4 HB4 hya hyb HLB3
  all_goals
    have HL9 := Lib.hid (HL8.out.same (belowNew _ (.cells #[.int .i64 2, .int .i64 2, .int .i64 3, .int .i64 4, .int .i64 16, .int .i64 1, .int .i64 17] 3)))
    have HD9 := Lib.hid (HD8.out.below (belowNew _ (.cells #[.int .i64 2, .int .i64 2, .int .i64 3, .int .i64 4, .int .i64 16, .int .i64 1, .int .i64 17] 3)))
    have HB9 := Lib.hid (below_tr HB8.out (belowNew _ (.cells #[.int .i64 2, .int .i64 2, .int .i64 3, .int .i64 4, .int .i64 16, .int .i64 1, .int .i64 17] 3)) HB8.out.size)
    clear HL8 HD8 HB8
    go_wp2_with fail
    refine (pick_any w.heap.size ac cs _ 9 _ ?h9 (by omega) HD9.out.cur).mono ?_
    case h9 => omega
    rintro e wa ⟨⟨z, rfl, hz0, hz1⟩, hc, hg⟩
    have HDa := Lib.hid (HD9.out.step hc hg)
    have HLa := Lib.hid (HL9.out.grow hg (fun b e => by injection e with e; omega))
    have HBa := Lib.hid (HB9.out.grown hg HB9.out.size (fun k hk => by injection hk with hk; omega))
    have HIa := Lib.hid (ints_grownS (lit_ints _ [2, 2, 3, 4, 16, 1, 17] (by decide)) hg (fun b off e e2 => by injection e with e; injection e with e; injection e2 with e2; omega))
    obtain ⟨v, hv⟩ : ∃ v : Int, z.tdiv 4 = v := ⟨_, rfl⟩
    have hv2 : 0 ≤ v ∧ v ≤ 2 := by rw [← hv, Int.tdiv_eq_ediv_of_nonneg hz0]; omega
    obtain ⟨hv0, hv1⟩ := hv2
    obtain ⟨q, hq⟩ : ∃ q : Nat, (5 + v).toNat = q := ⟨_, rfl⟩
    have hq2 : 5 ≤ q ∧ q ≤ 7 := by omega
    have hyl : ([2, 2, 3, 4, 16, 1, 17].take q : List Int).length = q := by simp; omega
    have AM := among_any w.heap.size ac cs _ _ 7 ([2, 2, 3, 4, 16, 1, 17].take q) wa (by omega) (by omega) (by omega) HDa.out.cur (ints_takeS HIa.out q) (fun b off e => by injection e with e; injection e with e; omega)
    rw [hyl] at AM
    have HAM := Lib.hid AM
    clear AM hc hg HD9 HL9 HB9 HIa hz0 hz1
    go_wp2_with fail
    refine HAM.out.mono ?_
    rintro e wb ⟨⟨x, rfl, hx⟩, hc, hg⟩
    have HLb := Lib.hid (HLa.out.grow hg (fun b e => by injection e with e; omega))
    have HBb := Lib.hid (HBa.out.grown hg HBa.out.size (fun k hk => by injection hk with hk; omega))
    have hx2 : 0 ≤ x ∧ x ≤ 100 := by
      have := List.mem_of_mem_take hx
      simp at this; omega
    clear hc hg hx HLa HBa HDa HAM
    go_wp2
    go_ret2
    exact ⟨_, _, _, _, _, rfl, HLb.out.ls, by omega, HLB8.out, hx2.1, hx2.2, HBb.out⟩

end Go.Proofs.Ytkckmjajjdpodaa

/- The law FnPasses: its walk. -/
namespace Go.Proofs.Ytkckmjajjdpodaa
open Go.RowKit Go.Sort
set_option linter.unusedVariables false

set_option maxRecDepth 100000 in
set_option maxHeartbeats 2000000 in
theorem vRuns_any (a b : Option Addr) (n c d : Nat) (Ls : List (List (Int × Int))) (w : World) (hn : n ≤ 1000) (hB : ∀ i, (Ls.getD i []).length ≤ 1000000) (h1 : LsAt w a n c Ls) (h2 : LsAt w b n d Ls) :
    Calls Try.prog 75 #[.slice a n c, .slice b n d] w fun e w' => e = .returned (.bool true) ∧ Below w.heap.size w w' := by
  have H1 := Lib.hid h1; have H2 := Lib.hid h2
  have HLB := Lib.hid hB
  clear h1 h2 hB
  have q1 : ((n : Int) != (n : Int)) = false := by simp
  go_enter Try.func75, Try.ntmps75
  go_wp2
  go_loopw [5] (fun v wr => ∃ k : Nat, v = .int .i64 k ∧ k ≤ n ∧ Below w.heap.size w wr) (fun v _ => n - (intOf v).toNat)
  case atStart => exact ⟨0, rfl, by omega, Below.refl _ _⟩
  case round =>
    obtain ⟨k, rfl, hk, hb⟩ := hrel
    have HB := Lib.hid hb
    clear hb
    by_cases hlt : k < n
    · have h3 : decide ((k : Int) < (n : Int)) = true := decide_eq_true (by omega)
      obtain ⟨lb, lof, xa, xc, rfl, hc, hr⟩ := (H1.out.same HB.out).at hlt
      obtain ⟨mb, mof, ya, yc, rfl, hd, hs⟩ := (H2.out.same HB.out).at hlt
      have hL := HLB.out k
      obtain ⟨Lw, hLw⟩ : ∃ Lw, Ls.getD k [] = Lw := ⟨_, rfl⟩
      rw [hLw] at hc hr hd hs hL
      clear hLw
      obtain ⟨m, hm⟩ : ∃ m, Lw.length = m := ⟨_, rfl⟩
      have HV : Hid (∀ W, Below wr.heap.size wr W → Calls Try.prog 19 #[.slice xa m xc, .slice ya m yc] W fun e w' => e = .returned (.bool true) ∧ Below W.heap.size W w') := fun W hb => by
        have := vRecords_any xa ya m m xc yc Lw Lw W (by omega) (by omega) (by rw [← hm]; exact hr.same hb) (by rw [← hm]; exact hs.same hb)
        rwa [show decide (Lw = Lw) = true by simp] at this
      rw [hm] at hc hd
      clear hr hs hm
      have b1 : (0 : Int) ≤ (k : Int) := by omega
      have b2 : (k : Int) < (n : Int) := by omega
      have t1 : ((k : Int)).toNat = k := by omega
      have HVr := Lib.hid (HV.out wr (Below.refl _ _))
      have HVd := Lib.hid (HV.out wr.drew ((Below.refl _ _).drew))
      clear HV
      go_wp2_with fail
      go_region_law (first | (go_simp; go_at_call 19; refine HVr.out.mono ?_; rintro e w2 ⟨rfl, hb⟩; have HB2 := Lib.hid (below_tr HB.out hb HB.out.size)) | (go_simp; go_at_call 19; refine HVd.out.mono ?_; rintro e w2 ⟨rfl, hb⟩; have HB2 := Lib.hid (below_tr ((HB.out).drew) hb HB.out.size)))
      all_goals
        go_wp2
        go_roundw
        case rel => exact ⟨k + 1, by go_num, by omega, HB2.out⟩
        case measure => simp [intOf] <;> omega
    · obtain rfl : k = n := by omega
      have h3 : decide ((k : Int) < (k : Int)) = false := by simp
      go_wp2
      go_ret
      exact ⟨rfl, HB.out⟩

theorem okRecs_sub {L K : List (Int × Int)} (h : okRecs L = true) (hs : K.Sublist L) : okRecs K = true := by
  unfold okRecs at h ⊢
  simp only [Bool.and_eq_true, decide_eq_true_eq, List.all_eq_true] at h ⊢
  exact ⟨Nat.le_trans hs.length_le h.1, fun x hx => h.2 x (hs.subset hx)⟩
theorem mrOk_iff {m : Int} {L : List (Int × Int)} (h : mrOk m L = true) : okRecs L = true ∧ ∃ k : Nat, m = (k : Int) ∧ 0 < k ∧ k ≤ 64 ∧ mrOut m L = Mg.runsOf k L := by
  have hO : mrOut m L = Mg.runsOf m.toNat L := by unfold mrOut; rw [if_pos h]
  unfold mrOk at h
  rw [Bool.and_eq_true] at h
  obtain ⟨i1, i2⟩ := inB_iff.1 h.2
  refine ⟨h.1, m.toNat, by omega, by omega, by omega, hO⟩
theorem mrOk_no {m : Int} {L : List (Int × Int)} (h : mrOk m L = false) : mrOut m L = [] := by unfold mrOut; rw [h]; rfl
theorem mpOk_no {k : Int} {Ls : List (List (Int × Int))} (h : mpOk k Ls = false) : mpOut k Ls = [] ∧ mpC k Ls = 0 := by
  unfold mpOut mpC; rw [h]; exact ⟨rfl, rfl⟩
theorem mpOk_iff {k : Int} {Ls : List (List (Int × Int))} (h : mpOk k Ls = true) : ∃ m : Nat, k = (m : Int) ∧ 2 ≤ m ∧ m ≤ 16 ∧ totL Ls ≤ 64 ∧ totL (mpOut k Ls) = totL Ls ∧ (mpOut k Ls).length = (Ls.length + m - 1) / m ∧ mpC k Ls ≤ 4 * totL Ls + Ls.length := by
  have hO : mpOut k Ls = Mg.passOf k.toNat Ls := by unfold mpOut; rw [if_pos h]
  have hC : mpC k Ls = Mg.passC k.toNat Ls := by unfold mpC; rw [if_pos h]
  unfold mpOk at h
  rw [Bool.and_eq_true] at h
  obtain ⟨i1, i2⟩ := inB_iff.1 h.1
  have h64 := (lsOk_asc h.2).2
  refine ⟨k.toNat, by omega, by omega, by omega, h64, ?_, ?_, ?_⟩
  · rw [hO]
    have := congrArg List.length (Mg.pass_srt (w := k.toNat) (by omega) Ls)
    rw [srtP_len, srtP_len] at this
    exact this
  · rw [hO]
    have h1 : (Mg.passOf k.toNat Ls).length = ((Mg.passOf k.toNat Ls).map List.length).length := (List.length_map ..).symm
    rw [h1, Mg.pass_lens (by omega), Mg.grp_len (by omega), List.length_map]
  · rw [hC]
    exact Mg.passC_le (by omega) (by omega) Ls
theorem part_le {Ls : List (List (Int × Int))} (i : Nat) : (Ls.getD i []).length ≤ totL Ls := by
  rcases Nat.lt_or_ge i Ls.length with h3 | h3
  · rw [List.getD_eq_getElem?_getD, List.getElem?_eq_getElem h3]
    exact (List.sublist_flatten_of_mem (List.getElem_mem h3)).length_le
  · rw [List.getD_eq_getElem?_getD, List.getElem?_eq_none h3]; simp
theorem mrOut_tot (m : Int) (L : List (Int × Int)) : totL (mrOut m L) ≤ L.length ∧ (mrOut m L).length ≤ L.length := by
  cases h : mrOk m L
  · rw [mrOk_no h]; exact ⟨Nat.zero_le _, Nat.zero_le _⟩
  · obtain ⟨_, k, rfl, hk, _, e⟩ := mrOk_iff h
    rw [e]
    refine ⟨?_, (runs_small hk L rfl).1⟩
    have := congrArg List.length (Mg.runs_srt hk L)
    rw [srtP_len, srtP_len] at this
    exact Nat.le_of_eq this
theorem mpOut_tot (k : Int) (Ls : List (List (Int × Int))) : totL (mpOut k Ls) ≤ 64 ∧ (mpOut k Ls).length ≤ Ls.length := by
  cases h : mpOk k Ls
  · rw [(mpOk_no h).1]; exact ⟨Nat.zero_le _, Nat.zero_le _⟩
  · obtain ⟨m, rfl, hm, _, h64, e1, e2, _⟩ := mpOk_iff h
    rw [e1, e2]
    exact ⟨h64, Mg.blkN_le (by omega)⟩
/-- One step along the runs. -/
theorem runs_along {m nn i : Nat} (hm : 0 < m) {L : List (Int × Int)} {Rs : List (List (Int × Int))} (h : Mg.runsOf m (L.drop nn) = Rs.drop i) (hi : i < Rs.length) :
    ∃ K, 0 < K ∧ K ≤ m ∧ nn + K ≤ L.length ∧ Rs.getD i [] = Mg.srtP ((L.drop nn).take K) ∧ Mg.runsOf m (L.drop (nn + K)) = Rs.drop (i + 1) := by
  have hne : L.drop nn ≠ [] := by
    intro e
    rw [e, runsOf_nil] at h
    have := congrArg List.length h
    rw [List.length_drop] at this
    simp at this; omega
  have hln : nn < L.length := by
    have := List.length_pos_iff.2 hne
    rw [List.length_drop] at this; omega
  rw [runsOf_step hm hne, List.drop_eq_getElem_cons hi] at h
  injection h with h1 h2
  have hg : Rs.getD i [] = Rs[i] := by rw [List.getD_eq_getElem?_getD, List.getElem?_eq_getElem hi]; rfl
  rcases Nat.lt_or_ge (nn + m) L.length with hh | hh
  · refine ⟨m, hm, Nat.le_refl _, by omega, by rw [hg, h1], ?_⟩
    rw [← h2, List.drop_drop]
  · refine ⟨L.length - nn, by omega, by omega, by omega, ?_, ?_⟩
    · rw [hg, ← h1, List.take_of_length_le (by rw [List.length_drop]; omega), List.take_of_length_le (by rw [List.length_drop]; omega)]
    · rw [← h2, List.drop_drop, List.drop_of_length_le (by omega), List.drop_of_length_le (by omega)]

set_option maxRecDepth 100000 in
set_option maxHeartbeats 8000000 in
theorem lawPasses_any (ac : Option Addr) (cc : Nat) (cs : List Int) (w : World) (hbig : cs.length ≤ 9223372036854775807) (h : BytesAt w ac cs) :
    Calls Try.prog 14 #[.slice ac cs.length cc] w fun e w' => e = .returned (.bool true) ∧ Below w.heap.size w w' := by
  have HV := Lib.hid (vBigG_any ac cs.length cc w hbig)
  by_cases hl : 65536 < cs.length
  · rw [decide_eq_true hl] at HV
    clear h
    go_enter Try.func14, Try.ntmps14
    go_wp2_with (go_at_call 15; refine HV.out.mono ?_; rintro e w' ⟨rfl, rfl⟩)
    go_ret
    exact ⟨rfl, Below.refl _ _⟩
  rw [decide_eq_false hl] at HV
  have HCS := Lib.hid h
  have HD := Lib.hid (drawMakeRuns_any ac cc cs w (by omega) h)
  clear h
  unfold MrDraw at HD
  go_enter Try.func14, Try.ntmps14
  go_wp2_with fail
  refine HV.out.mono ?_
  rintro e w1 ⟨rfl, rfl⟩
  go_wp2_with fail
  refine HD.out.mono ?_
  rintro e w1 ⟨a1, N, c1, L, m, rfl, hr, hN, hm0, hm1, hb⟩
  have HL1 := Lib.hid hr; have HB1 := Lib.hid hb
  have hll : L.length = N := hr.len
  clear hr hb HD HV
  have HM := Lib.hid (implMakeRuns_any a1 N c1 m L w1 (by omega) HL1.out)
  unfold LsEndB at HM
  go_wp2_with fail
  refine HM.out.mono ?_
  rintro e w2 ⟨a2, n2, c2, rfl, hr, hb⟩
  have HR2 := Lib.hid hr; have HB2 := Lib.hid (below_tr HB1.out hb HB1.out.size)
  have HL2 := Lib.hid (HL1.out.same hb)
  clear hr hb HL1 HB1 HM
  have HS := Lib.hid (specMakeRuns_any a1 N c1 m L w2 (by omega) HL2.out)
  unfold LsEndB at HS
  go_wp2_with fail
  refine HS.out.mono ?_
  rintro e w3 ⟨a3, n3, c3, rfl, hr, hb⟩
  have HR3 := Lib.hid (HR2.out.same hb); have HW3 := Lib.hid hr
  have HL3 := Lib.hid (HL2.out.same hb); have HB3 := Lib.hid (below_tr HB2.out hb HB2.out.size)
  have hn23 : n3 = n2 := by rw [← HW3.out.len, ← HR3.out.len]
  subst hn23
  obtain ⟨ht1, ht2⟩ := mrOut_tot m L
  rw [hll] at ht1 ht2
  rw [HR3.out.len] at ht2
  clear hr hb HL2 HB2 HS HR2
  have HVR := Lib.hid (vRuns_any a2 a3 n3 c2 c3 (mrOut m L) w3 (by omega) (fun i => by have := part_le (Ls := mrOut m L) i; omega) HR3.out HW3.out)
  have HOK : Hid (∀ i nn, Mg.runsOf m.toNat (L.drop nn) = (mrOut m L).drop i → i < (mrOut m L).length → ∃ K : Nat, 0 < K ∧ (K : Int) ≤ m ∧ nn + K ≤ L.length ∧ (mrOut m L).getD i [] = Mg.srtP ((L.drop nn).take K) ∧ Mg.runsOf m.toNat (L.drop (nn + K)) = (mrOut m L).drop (i + 1) ∧ okRecs ((L.drop nn).take K) = true) := fun i nn e hi => by
    have hok : mrOk m L = true := by
      cases h : mrOk m L
      · rw [mrOk_no h] at hi; simp at hi
      · rfl
    obtain ⟨hr, k, rfl, hk, _, _⟩ := mrOk_iff hok
    obtain ⟨K, k1, k2, k3, k4, k5⟩ := runs_along (by rwa [Int.toNat_natCast]) e hi
    exact ⟨K, k1, by omega, k3, k4, k5, okRecs_sub hr ((List.take_sublist _ _).trans (List.drop_sublist _ _))⟩
  have HST : Hid (mrOk m L = true → Mg.runsOf m.toNat (L.drop 0) = (mrOut m L).drop 0) := fun h => by
    obtain ⟨_, k, rfl, _, _, e⟩ := mrOk_iff h
    rw [e, Int.toNat_natCast]; rfl
  have HEND : Hid (∀ nn, nn ≤ N → mrOk m L = true → Mg.runsOf m.toNat (L.drop nn) = [] → nn = N) := fun nn h1 h2 e => by
    obtain ⟨_, k, rfl, hk, _, _⟩ := mrOk_iff h2
    rw [Int.toNat_natCast] at e
    rcases Nat.lt_or_ge nn N with h | h
    · rw [runsOf_step hk (by intro e2; have := congrArg List.length e2; rw [List.length_drop, hll] at this; simp at this; omega)] at e
      cases e
    · omega
  have HZ : Hid (mrOk m L = false → n3 = 0) := fun h => by
    rw [← HR3.out.len, mrOk_no h]; rfl
  have HRL : Hid ((mrOut m L).length = n3) := HR3.out.len
  generalize mrOut m L = Rs at HR3 HW3 HVR HOK HST HRL
  have qq : (mrOk m L != mrOk m L) = false := by simp
  generalize mrOk m L = okm at HST HEND HZ qq
  clear ht1
  go_wp2_with fail
  refine HVR.out.mono ?_
  rintro e w4 ⟨rfl, hb⟩
  have HR4 := Lib.hid (HR3.out.same hb)
  have HL4 := Lib.hid (HL3.out.same hb); have HB4 := Lib.hid (below_tr HB3.out hb HB3.out.size)
  clear hb HR3 HL3 HB3 HW3 HVR
  go_wp2_with fail
  go_loopw [9, 10] (fun nv iv wr => ∃ (i nn : Nat), iv = .int .i64 i ∧ nv = .int .i64 nn ∧ i ≤ n3 ∧ nn ≤ N ∧ Hid (okm = true → Mg.runsOf m.toNat (L.drop nn) = Rs.drop i) ∧ Below w4.heap.size w4 wr) (fun _ iv _ => n3 - (intOf iv).toNat)
  case atStart => exact ⟨0, 0, rfl, rfl, by omega, by omega, HST, Below.refl _ _⟩
  case round =>
    obtain ⟨i, nn, rfl, rfl, hi, hnn, HRU, hb⟩ := hrel
    have HB5 := Lib.hid hb
    clear hb
    by_cases hlt : i < n3
    · have q1 : decide ((i : Int) < (n3 : Int)) = true := decide_eq_true (by omega)
      cases okm
      · exact absurd (HZ.out rfl) (by omega)
      obtain ⟨K, k1, k2, k3, k4, k5, k6⟩ := HOK.out i nn (HRU.out rfl) (by rw [HRL.out]; exact hlt)
      have HK5 := Lib.hid k5; have HK6 := Lib.hid k6
      rw [hll] at k3
      obtain ⟨lb, lof, xa, d, rfl, hc, hr⟩ := (HR4.out.same HB5.out).at hlt
      rw [k4] at hc hr
      have hkl : (Mg.srtP ((L.drop nn).take K)).length = K := by rw [srtP_len, List.length_take, List.length_drop]; omega
      rw [hkl] at hc hr
      have HRI := Lib.hid hr
      have hLR := HL4.out.same HB5.out
      obtain ⟨b, off, rfl, _⟩ := recs_addr hLR.recs (by omega)
      have hcap := hLR.cap
      have hPart := rd_mid hLR (i := nn) (h := nn + K) (by omega) (by omega)
      rw [show nn + K - nn = K by omega] at hPart
      have HSS := Lib.hid (implStableSort_any _ _ _ _ wr (by omega) hPart)
      have hst : stAns ((L.drop nn).take K) = Mg.srtP ((L.drop nn).take K) := by unfold stAns; rw [if_pos HK6.out]; rfl
      rw [hst, HK6.out] at HSS
      unfold RdEnd at HSS
      have hci : ¬ c1 = nn := by omega
      have b1 : (0 : Int) ≤ (i : Int) := by omega
      have b2 : (i : Int) < (n3 : Int) := by omega
      have t1 : ((i : Int)).toNat = i := by omega
      have b3 : (0 : Int) ≤ (nn : Int) := by omega
      have b4 : (nn : Int) ≤ (nn : Int) + (K : Int) := by omega
      have b5 : (nn : Int) + (K : Int) ≤ (c1 : Int) := by omega
      have t2 : ((nn : Int)).toNat = nn := by omega
      have t3 : ((nn : Int) + (K : Int)).toNat = nn + K := by omega
      have HHC := Lib.hid (World.block_lt_of_cell? wr _ hc)
      have hcc := hc
      clear k4 k5 k6 hr hkl hLR hst hPart hcap
      go_wp2_with fail
      refine HSS.out.mono ?_
      rintro e w7 ⟨a7, n7, c7, rfl, hr7, hb7⟩
      have HR7 := Lib.hid hr7
      have hn7 : n7 = K := by rw [← hr7.len, srtP_len, List.length_take, List.length_drop]; omega
      subst hn7
      have hc7 := (hb7.cell (p := ⟨lb, lof + i, none⟩) HHC.out).trans hcc
      have HHC7 := Lib.hid (World.block_lt_of_cell? w7 _ hc7)
      have HB7 := Lib.hid (below_tr HB5.out hb7 HB5.out.size)
      have HRI7 := Lib.hid (HRI.out.same hb7)
      have HVC := Lib.hid (vRecords_any a7 xa n7 n7 c7 d _ _ w7 (by omega) (by omega) HR7.out HRI7.out)
      rw [show decide (Mg.srtP ((L.drop nn).take n7) = Mg.srtP ((L.drop nn).take n7)) = true by simp] at HVC
      have q5 : decide (m < (n7 : Int)) = false := decide_eq_false (by omega)
      have hcc7 := hc7
      clear hr7 hb7 hc hcc HSS HRI HR7
      go_wp2_with fail
      refine HVC.out.mono ?_
      rintro e w8 ⟨rfl, hb8⟩
      have hc8 := (hb8.cell (p := ⟨lb, lof + i, none⟩) HHC7.out).trans hcc7
      have HB8 := Lib.hid (below_tr HB7.out hb8 HB7.out.size)
      clear hb8 hc7 hcc7 HVC
      go_wp2_with fail
      go_roundw
      case rel => exact ⟨i + 1, nn + n7, by go_num, by go_num, by omega, by omega, (fun _ => HK5.out), HB8.out⟩
      case measure => simp [intOf] <;> omega
    · have hin : n3 = i := by omega
      subst hin
      have q1 : decide ((n3 : Int) < (n3 : Int)) = false := by simp
      have HNN : Hid (okm = true → nn = N) := fun h => HEND.out nn hnn h (by rw [HRU.out h, List.drop_of_length_le (by rw [HRL.out]; omega)])
      have HB6 := Lib.hid (below_tr HB4.out HB5.out HB4.out.size)
      -- SECOND
      clear HB5 HB4 HRU HEND HOK HST HZ HRL HR4 HL4 qq
      have HDM := Lib.hid (drawMergePass_any ac cc cs wr (by omega) (HCS.out.below (Nat.le_refl _) HB6.out))
      unfold MpDraw at HDM
      go_wp2_with fail
      refine HDM.out.mono ?_
      rintro e w5 ⟨a5, n5, c5, Ls, k, rfl, hr, hn5, hlb, hk0, hk1, hb⟩
      have HX5 := Lib.hid hr; have HB5 := Lib.hid (below_tr HB6.out hb HB6.out.size)
      have HLB := Lib.hid hlb
      clear hr hb hlb HB6 HDM HCS
      have HM := Lib.hid (implMergePass_any a5 n5 c5 k Ls w5 (by omega) HX5.out (fun i => by have := HLB.out i; omega))
      unfold LsEndC at HM
      go_wp2_with fail
      refine HM.out.mono ?_
      rintro e w6 ⟨a6, n6, c6, rfl, hr, hb⟩
      have HY6 := Lib.hid hr; have HB6 := Lib.hid (below_tr HB5.out hb HB5.out.size)
      have HX6 := Lib.hid (HX5.out.same hb)
      clear hr hb HM HX5 HB5
      have HS := Lib.hid (specMergePass_any a5 n5 c5 k Ls w6 (by omega) HX6.out (fun i => by have := HLB.out i; omega))
      unfold LsEndC at HS
      go_wp2_with fail
      refine HS.out.mono ?_
      rintro e w7 ⟨a7, n7, c7, rfl, hr, hb⟩
      have HW7 := Lib.hid hr; have HY7 := Lib.hid (HY6.out.same hb)
      have HX7 := Lib.hid (HX6.out.same hb); have HB7 := Lib.hid (below_tr HB6.out hb HB6.out.size)
      have hn67 : n7 = n6 := by rw [← HW7.out.len, ← HY7.out.len]
      subst hn67
      obtain ⟨hy1, hy2⟩ := mpOut_tot k Ls
      rw [HX7.out.len, HY7.out.len] at hy2
      clear hr hb HS HY6 HX6 HB6
      have HVR := Lib.hid (vRuns_any a6 a7 n7 c6 c7 (mpOut k Ls) w7 (by omega) (fun i => by have := part_le (Ls := mpOut k Ls) i; omega) HY7.out HW7.out)
      have HOKP : Hid (mpOk k Ls = true → ∃ m2 : Nat, k = (m2 : Int) ∧ 2 ≤ m2 ∧ m2 ≤ 16 ∧ totL Ls ≤ 64 ∧ totL (mpOut k Ls) = totL Ls ∧ n7 = (n5 + m2 - 1) / m2 ∧ mpC k Ls ≤ 4 * totL Ls + n5) := fun h => by
        obtain ⟨m2, e, h1, h2, h3, h4, h5, h6⟩ := mpOk_iff h
        rw [HY7.out.len, HX7.out.len] at h5
        rw [HX7.out.len] at h6
        exact ⟨m2, e, h1, h2, h3, h4, h5, h6⟩
      have HNO : Hid (mpOk k Ls = false → totL (mpOut k Ls) = 0) := fun h => by rw [(mpOk_no h).1]; rfl
      have HYL : Hid ((mpOut k Ls).length = n7) := HY7.out.len
      have HXL : Hid (Ls.length = n5) := HX7.out.len
      generalize mpOut k Ls = Ys at HY7 HW7 HVR HOKP HNO HYL hy1
      generalize mpC k Ls = C at HOKP
      generalize mpOk k Ls = okp at HOKP HNO
      have qb : (okp != okp) = false := by simp
      have qc : ((C : Int) != (C : Int)) = false := by simp
      have HY1 := Lib.hid hy1
      clear hy1
      go_wp2_with fail
      refine HVR.out.mono ?_
      rintro e w8 ⟨rfl, hb⟩
      have HY8 := Lib.hid (HY7.out.same hb)
      have HX8 := Lib.hid (HX7.out.same hb); have HB8 := Lib.hid (below_tr HB7.out hb HB7.out.size)
      clear hb HY7 HX7 HB7 HW7 HVR
      go_wp2_with fail
      go_loopw [21, 23] (fun av iv wx => ∃ (j aa : Nat), iv = .int .i64 j ∧ av = .int .i64 aa ∧ j ≤ n5 ∧ aa ≤ 70 * j ∧ Hid (aa = totL (Ls.take j)) ∧ Hid (okp = false → aa = 0) ∧ Below w8.heap.size w8 wx) (fun _ iv _ => n5 - (intOf iv).toNat)
      case atStart => exact ⟨0, 0, rfl, rfl, by omega, by omega, Lib.hid rfl, (fun _ => rfl), Below.refl _ _⟩
      case round =>
        obtain ⟨j, aa, rfl, rfl, hj, haa, HAA, HA0, hb⟩ := hrel
        have HB9 := Lib.hid hb
        clear hb
        cases okp
        · have HTY : Hid (aa = totL Ys) := by show _ = _; rw [HA0.out rfl, HNO.out rfl]
          have HFIN : Hid True := trivial
          clear HOKP HNO HAA HA0 qb
          by_cases hjn : j < n5
          · have q1 : decide ((j : Int) < (n5 : Int)) = true := decide_eq_true (by omega)
            go_wp2_with fail
            go_loopw [22, 24] (fun bv iv wy => ∃ (i bb : Nat), iv = .int .i64 i ∧ bv = .int .i64 bb ∧ i ≤ n7 ∧ bb ≤ 64 * i ∧ Hid (bb = totL (Ys.take i)) ∧ Below wr.heap.size wr wy) (fun _ iv _ => n7 - (intOf iv).toNat)
            case atStart => exact ⟨0, 0, rfl, rfl, by omega, by omega, Lib.hid rfl, Below.refl _ _⟩
            case round =>
              obtain ⟨i, bb, rfl, rfl, hi2, hbb, HBT, hb⟩ := hrel
              have HBa := Lib.hid hb
              clear hb
              by_cases hlt2 : i < n7
              · have q2 : decide ((i : Int) < (n7 : Int)) = true := decide_eq_true (by omega)
                obtain ⟨mb, mof, ya, d2, rfl, hc, hr⟩ := ((HY8.out.same HB9.out).same HBa.out).at hlt2
                have hLi := Nat.le_trans (part_le (Ls := Ys) i) HY1.out
                have hts := totL_step (Ls := Ys) (i := i) (by rw [HYL.out]; exact hlt2)
                rw [← HBT.out] at hts
                obtain ⟨K2, hK2⟩ : ∃ K, (Ys.getD i []).length = K := ⟨_, rfl⟩
                rw [hK2] at hc hLi hts
                have HTS2 := Lib.hid hts
                clear hr hts hK2
                have b3 : (0 : Int) ≤ (i : Int) := by omega
                have b4 : (i : Int) < (n7 : Int) := by omega
                have t2 : ((i : Int)).toNat = i := by omega
                go_wp2_with fail
                go_roundw
                case rel => exact ⟨i + 1, bb + K2, by go_num, by go_num, by omega, by omega, Lib.hid (by rw [HTS2.out]), HBa.out⟩
                case measure => simp [intOf] <;> omega
              · have hin2 : n7 = i := by omega
                subst hin2
                have q2 : decide ((n7 : Int) < (n7 : Int)) = false := by simp
                have hab : aa = bb := by
                  have h1 := HBT.out
                  rw [List.take_of_length_le (by rw [HYL.out]; omega)] at h1
                  rw [h1]; exact HTY.out
                subst hab
                have qab : ((aa : Int) == (aa : Int)) = true := by simp
                have HBe := Lib.hid (below_tr (below_tr HB8.out HB9.out HB8.out.size) HBa.out (Nat.le_trans HB8.out.size HB9.out.size))
                clear HBT HBa HB9 HB8 HTY HX8 HY8 HYL HXL HY1 HLB
                cases okm
                · clear HNN
                  go_wp2_with fail
                  go_ret
                  exact ⟨rfl, HBe.out⟩
                · have hnn2 := HNN.out rfl
                  subst hnn2
                  have qn : ((nn : Int) == (nn : Int)) = true := by simp
                  clear HNN
                  go_wp2_with fail
                  go_ret
                  exact ⟨rfl, HBe.out⟩
          · have q1 : decide ((j : Int) < (n5 : Int)) = false := decide_eq_false (by omega)
            go_wp2_with fail
            go_loopw [22, 24] (fun bv iv wy => ∃ (i bb : Nat), iv = .int .i64 i ∧ bv = .int .i64 bb ∧ i ≤ n7 ∧ bb ≤ 64 * i ∧ Hid (bb = totL (Ys.take i)) ∧ Below wr.heap.size wr wy) (fun _ iv _ => n7 - (intOf iv).toNat)
            case atStart => exact ⟨0, 0, rfl, rfl, by omega, by omega, Lib.hid rfl, Below.refl _ _⟩
            case round =>
              obtain ⟨i, bb, rfl, rfl, hi2, hbb, HBT, hb⟩ := hrel
              have HBa := Lib.hid hb
              clear hb
              by_cases hlt2 : i < n7
              · have q2 : decide ((i : Int) < (n7 : Int)) = true := decide_eq_true (by omega)
                obtain ⟨mb, mof, ya, d2, rfl, hc, hr⟩ := ((HY8.out.same HB9.out).same HBa.out).at hlt2
                have hLi := Nat.le_trans (part_le (Ls := Ys) i) HY1.out
                have hts := totL_step (Ls := Ys) (i := i) (by rw [HYL.out]; exact hlt2)
                rw [← HBT.out] at hts
                obtain ⟨K2, hK2⟩ : ∃ K, (Ys.getD i []).length = K := ⟨_, rfl⟩
                rw [hK2] at hc hLi hts
                have HTS2 := Lib.hid hts
                clear hr hts hK2
                have b3 : (0 : Int) ≤ (i : Int) := by omega
                have b4 : (i : Int) < (n7 : Int) := by omega
                have t2 : ((i : Int)).toNat = i := by omega
                go_wp2_with fail
                go_roundw
                case rel => exact ⟨i + 1, bb + K2, by go_num, by go_num, by omega, by omega, Lib.hid (by rw [HTS2.out]), HBa.out⟩
                case measure => simp [intOf] <;> omega
              · have hin2 : n7 = i := by omega
                subst hin2
                have q2 : decide ((n7 : Int) < (n7 : Int)) = false := by simp
                have hab : aa = bb := by
                  have h1 := HBT.out
                  rw [List.take_of_length_le (by rw [HYL.out]; omega)] at h1
                  rw [h1]; exact HTY.out
                subst hab
                have qab : ((aa : Int) == (aa : Int)) = true := by simp
                have HBe := Lib.hid (below_tr (below_tr HB8.out HB9.out HB8.out.size) HBa.out (Nat.le_trans HB8.out.size HB9.out.size))
                clear HBT HBa HB9 HB8 HTY HX8 HY8 HYL HXL HY1 HLB
                cases okm
                · clear HNN
                  go_wp2_with fail
                  go_ret
                  exact ⟨rfl, HBe.out⟩
                · have hnn2 := HNN.out rfl
                  subst hnn2
                  have qn : ((nn : Int) == (nn : Int)) = true := by simp
                  clear HNN
                  go_wp2_with fail
                  go_ret
                  exact ⟨rfl, HBe.out⟩
        · by_cases hjn : j < n5
          · have q1 : decide ((j : Int) < (n5 : Int)) = true := decide_eq_true (by omega)
            obtain ⟨lb, lof, xa, d, rfl, hc, hr⟩ := (HX8.out.same HB9.out).at hjn
            have hLj := HLB.out j
            have hts := totL_step (Ls := Ls) (i := j) (by rw [HXL.out]; exact hjn)
            rw [← HAA.out] at hts
            obtain ⟨K, hK⟩ : ∃ K, (Ls.getD j []).length = K := ⟨_, rfl⟩
            rw [hK] at hc hLj hts
            have HTS := Lib.hid hts
            clear hr hts hK
            have b1 : (0 : Int) ≤ (j : Int) := by omega
            have b2 : (j : Int) < (n5 : Int) := by omega
            have t1 : ((j : Int)).toNat = j := by omega
            go_wp2_with fail
            go_roundw
            case rel => exact ⟨j + 1, aa + K, by go_num, by go_num, by omega, by omega, Lib.hid (by rw [HTS.out]), (fun h => absurd h (by decide)), HB9.out⟩
            case measure => simp [intOf] <;> omega
          · have hjn2 : n5 = j := by omega
            subst hjn2
            have q1 : decide ((n5 : Int) < (n5 : Int)) = false := by simp
            obtain ⟨m2, rfl, g1, g2, g3, g4, g5, g6⟩ := HOKP.out rfl
            have haa2 : aa = totL Ls := by
              have := HAA.out
              rwa [List.take_of_length_le (by rw [HXL.out]; omega)] at this
            have HTY : Hid (aa = totL Ys) := by show _ = _; rw [haa2, g4]
            have h64 : aa ≤ 64 := by omega
            have hc4 : C ≤ 4 * aa + n5 := by omega
            have qd : ((n5 : Int) + (m2 : Int) - 1).tdiv (m2 : Int) = (n7 : Int) := by
              rw [show (n5 : Int) + (m2 : Int) - 1 = ((n5 + m2 - 1 : Nat) : Int) by omega, g5]; rfl
            have qe : ((n7 : Int) == (n7 : Int)) = true := by simp
            have qf : decide ((C : Int) ≤ 4 * (aa : Int) + (n5 : Int)) = true := decide_eq_true (by omega)
            have qg : ¬ (m2 : Int) = 0 := by omega
            clear HOKP HNO HAA HA0 qb g3 g4 g5 g6 haa2 haa
            go_wp2_with fail
            go_loopw [22, 24] (fun bv iv wy => ∃ (i bb : Nat), iv = .int .i64 i ∧ bv = .int .i64 bb ∧ i ≤ n7 ∧ bb ≤ 64 * i ∧ Hid (bb = totL (Ys.take i)) ∧ Below wr.heap.size wr wy) (fun _ iv _ => n7 - (intOf iv).toNat)
            case atStart => exact ⟨0, 0, rfl, rfl, by omega, by omega, Lib.hid rfl, Below.refl _ _⟩
            case round =>
              obtain ⟨i, bb, rfl, rfl, hi2, hbb, HBT, hb⟩ := hrel
              have HBa := Lib.hid hb
              clear hb
              by_cases hlt2 : i < n7
              · have q2 : decide ((i : Int) < (n7 : Int)) = true := decide_eq_true (by omega)
                obtain ⟨mb, mof, ya, d2, rfl, hc, hr⟩ := ((HY8.out.same HB9.out).same HBa.out).at hlt2
                have hLi := Nat.le_trans (part_le (Ls := Ys) i) HY1.out
                have hts := totL_step (Ls := Ys) (i := i) (by rw [HYL.out]; exact hlt2)
                rw [← HBT.out] at hts
                obtain ⟨K2, hK2⟩ : ∃ K, (Ys.getD i []).length = K := ⟨_, rfl⟩
                rw [hK2] at hc hLi hts
                have HTS2 := Lib.hid hts
                clear hr hts hK2
                have b3 : (0 : Int) ≤ (i : Int) := by omega
                have b4 : (i : Int) < (n7 : Int) := by omega
                have t2 : ((i : Int)).toNat = i := by omega
                go_wp2_with fail
                go_roundw
                case rel => exact ⟨i + 1, bb + K2, by go_num, by go_num, by omega, by omega, Lib.hid (by rw [HTS2.out]), HBa.out⟩
                case measure => simp [intOf] <;> omega
              · have hin2 : n7 = i := by omega
                subst hin2
                have q2 : decide ((n7 : Int) < (n7 : Int)) = false := by simp
                have hab : aa = bb := by
                  have h1 := HBT.out
                  rw [List.take_of_length_le (by rw [HYL.out]; omega)] at h1
                  rw [h1]; exact HTY.out
                subst hab
                have qab : ((aa : Int) == (aa : Int)) = true := by simp
                have HBe := Lib.hid (below_tr (below_tr HB8.out HB9.out HB8.out.size) HBa.out (Nat.le_trans HB8.out.size HB9.out.size))
                clear HBT HBa HB9 HB8 HTY HX8 HY8 HYL HXL HY1 HLB
                cases okm
                · clear HNN
                  go_wp2_with fail
                  go_ret
                  exact ⟨rfl, HBe.out⟩
                · have hnn2 := HNN.out rfl
                  subst hnn2
                  have qn : ((nn : Int) == (nn : Int)) = true := by simp
                  clear HNN
                  go_wp2_with fail
                  go_ret
                  exact ⟨rfl, HBe.out⟩

end Go.Proofs.Ytkckmjajjdpodaa
