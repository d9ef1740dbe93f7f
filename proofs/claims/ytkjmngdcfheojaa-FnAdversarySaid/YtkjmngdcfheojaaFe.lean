/- Walks: how many arrangements meet facts: the program's way. -/
import Derived.Test.YtkjmngdcfheojaaFd
import Derived.Test.YtkjmngdcfheojaaFb
import Derived.Laws.EntriesVeiled
namespace Go.Proofs.Ytkjmngdcfheojaa
open Go.RowKit Go.Sort
set_option linter.unusedVariables false

theorem bco {w0 w1 w2 : World} (h : Below w0.heap.size w0 w1) (hb : Below w1.heap.size w1 w2) : Below w0.heap.size w0 w2 := h.trans (hb.mono h.size)

def InF (n : Nat) (f : Int × Int) : Prop := 0 ≤ f.1 ∧ f.1 < n ∧ 0 ≤ f.2 ∧ f.2 < n
def fitF (p : List Int) (f : Int × Int) : Bool := decide (p.getD f.1.toNat 0 < p.getD f.2.toNat 0)

set_option maxRecDepth 100000 in
set_option maxHeartbeats 1000000 in
theorem cons11_any (pb : Nat) (x : Addr) (c n : Nat) (p : List Int) (f : Int × Int) (w : World) (hn : p.length = n) (hc : w.cell? ⟨pb, 0, none⟩ = some (.slice (some x) n c)) (h : IntsAt w (some x) p) (hf : InF n f) :
    Calls Try.prog 110 #[.agg #[.int .i64 f.1, .int .i64 f.2], .pointer (some ⟨pb, 0, none⟩)] w fun e w' => e = .returned (.bool (fitF p f)) ∧ Below w.heap.size w w' := by
  obtain ⟨a, b⟩ := f
  obtain ⟨h1, h2, h3, h4⟩ := hf
  simp only at h1 h2 h3 h4
  have hsz := World.block_lt_of_cell? w _ hc
  have HB : Hid (Below w.heap.size w (w.alloc (.cells #[.int .i64 a, .int .i64 b] 32))) := (Below.refl _ _).alloc (Nat.le_refl _) _
  have H := h.below (Nat.le_refl _) HB.out
  obtain ⟨bl, off, e1, hc1⟩ := H.at (show a.toNat < p.length by omega)
  obtain ⟨bl', off', e2, hc2⟩ := H.at (show b.toNat < p.length by omega)
  injection e1 with e1
  injection e2 with e2
  subst e1
  injection e2 with eb eo _
  subst eb; subst eo
  have HD : Hid (fitF p (a, b) = decide (p.getD a.toNat 0 < p.getD b.toNat 0)) := rfl
  rw [HD.out]
  generalize p.getD a.toNat 0 = X at hc1 ⊢
  generalize p.getD b.toNat 0 = Y at hc2 ⊢
  clear HD H h
  go_enter Try.func110, Try.ntmps110
  go_wp2_with fail
  go_quiet (fail)
  go_wp2
  go_ret
  exact ⟨rfl, below_drewN HB.out _⟩

theorem cons11_pred (w : World) (pb : Nat) (x : Addr) (c n : Nat) (p : List Int) (hn : p.length = n) (hc : w.cell? ⟨pb, 0, none⟩ = some (.slice (some x) n c)) (h : IntsAt w (some x) p) :
    IsPredF w (.func (.func 110) #[] #[.pointer (some ⟨pb, 0, none⟩)]) (InF n) (fitF p) :=
  ⟨_, _, rfl, fun _ _ => by kernel_rfl, fun w1 hb f hf => by
    have := cons11_any pb x c n p f w1 hn ((hb.cell (p := ⟨pb, 0, none⟩) (World.block_lt_of_cell? w _ hc)).trans hc) (h.below (Nat.le_refl _) hb) hf
    simpa using this⟩

set_option maxHeartbeats 1000000 in
theorem cons1_any (a : Option Addr) (cap : Nat) (fs : List (Int × Int)) (x : Addr) (c n : Nat) (p : List Int) (w : World) (hn : p.length = n) (hbig : fs.length ≤ 9223372036854775807) (h : IntsAt w (some x) p) (hr : RecsAt w a fs) (hf : ∀ f ∈ fs, InF n f) :
    Calls Try.prog 109 #[.slice (some x) n c, .slice a fs.length cap] w fun e w' => e = .returned (.bool (Pm.fits fs p)) ∧ Below w.heap.size w w' := by
  have hb : Below w.heap.size w (w.alloc (.cells #[.slice (some x) n c] 46)) := (Below.refl _ _).alloc (Nat.le_refl _) _
  have hc : (w.alloc (.cells #[.slice (some x) n c] 46)).cell? ⟨w.heap.size, 0, none⟩ = some (.slice (some x) n c) := by rw [World.cell?_alloc_at _ _ _ _ rfl]; rfl
  have HB := Lib.hid hb
  have HA := Lib.hid (allF_any a cap fs _ (InF n) (fitF p) _ hbig (hr.below (Nat.le_refl _) hb) (cons11_pred _ _ x c n p hn hc (h.below (Nat.le_refl _) hb)) hf)
  have HE : Hid (Pm.fits fs p = fs.all (fitF p)) := rfl
  have hmf := hmf
  rw [HE.out]
  clear h hr hf hb hc
  go_enter Try.func109, Try.ntmps109
  go_wp2_with fail
  refine HA.out.mono ?_
  rintro e w1 ⟨rfl, hb⟩
  have HB2 := Lib.hid (HB.out.trans (hb.mono HB.out.size)); clear hb
  go_wp2
  go_ret
  exact ⟨rfl, HB2.out⟩

theorem count_set {W : World} {pc : Nat} {v : Value} (h : W.heap[pc]? = some (.cells #[v] 3 (0, 0))) (u : Value) : (W.setCell ⟨pc, 0, none⟩ u).heap[pc]? = some (.cells #[u] 3 (0, 0)) := heap_setCell_same W pc 0 _ _ _ h
theorem grown_set (W : World) (pc : Nat) (u : Value) : W.grownBy (W.setCell ⟨pc, 0, none⟩ u) (some pc) :=
  ⟨rfl, rfl, rfl, by simp, fun k _ hk => heap_setCell_other W ⟨pc, 0, none⟩ k u (fun e => hk (by simp [e]))⟩

set_option maxHeartbeats 2000000 in
theorem cons2_any (ph pf po pc : Nat) (a1 a2 : Option Addr) (c1 c2 : Nat) (fs gs : List (Int × Int)) (x : Addr) (c n : Nat) (p : List Int) (N : Int) (w : World) (hn : p.length = n) (b1 : fs.length ≤ 9223372036854775807) (b2 : gs.length ≤ 9223372036854775807)
    (h : IntsAt w (some x) p) (hfs : RecsAt w a1 fs) (hgs : RecsAt w a2 gs) (hf : ∀ f ∈ fs, InF n f) (hg : ∀ f ∈ gs, InF n f) (hh : w.cell? ⟨ph, 0, none⟩ = some (.func (.func 109) #[] #[]))
    (h1 : w.cell? ⟨pf, 0, none⟩ = some (.slice a1 fs.length c1)) (h2 : w.cell? ⟨po, 0, none⟩ = some (.slice a2 gs.length c2)) (hc : w.heap[pc]? = some (.cells #[.int .i64 N] 3 (0, 0))) (hN : 0 ≤ N ∧ N ≤ 1000) :
    Calls Try.prog 112 #[.slice (some x) n c, .pointer (some ⟨ph, 0, none⟩), .pointer (some ⟨pf, 0, none⟩), .pointer (some ⟨po, 0, none⟩), .pointer (some ⟨pc, 0, none⟩)] w fun e w' => e = .returned (.bool true) ∧ w.grownBy w' (some pc) ∧
      w'.heap[pc]? = some (.cells #[.int .i64 (N + if Pm.fits (fs ++ gs) p then 1 else 0)] 3 (0, 0)) := by
  have s2 := World.block_lt_of_cell? w _ h2
  have s1 := World.block_lt_of_cell? w _ h1
  have sh := World.block_lt_of_cell? w _ hh
  have sc : pc < w.heap.size := (Array.getElem?_eq_some_iff.1 hc).1
  have HC := Lib.hid hc; clear hc
  have HF := Lib.hid (cons1_any a1 c1 fs x c n p w hn b1 h hfs hf)
  have HG := Lib.hid (fun W (hb : Below w.heap.size w W) => cons1_any a2 c2 gs x c n p W hn b2 (h.below (Nat.le_refl _) hb) (hgs.below (Nat.le_refl _) hb) hg)
  have HX : Hid (Pm.fits (fs ++ gs) p = (Pm.fits fs p && Pm.fits gs p)) := Pm.fits_append fs gs p
  have hcall : ∀ w, (callFunc 109 #[.slice (some x) n c, .slice a1 fs.length c1]).run Try.prog w = .ok (.enter 109 #[.slice (some x) n c, .slice a1 fs.length c1]) w := fun w => by kernel_rfl
  have hcall2 : ∀ w, (callFunc 109 #[.slice (some x) n c, .slice a2 gs.length c2]).run Try.prog w = .ok (.enter 109 #[.slice (some x) n c, .slice a2 gs.length c2]) w := fun w => by kernel_rfl
  rw [HX.out]
  clear h hfs hgs hf hg HX
  generalize Pm.fits fs p = f1 at HF ⊢
  generalize Pm.fits gs p = f2 at HG ⊢
  obtain ⟨n0, n1⟩ := hN
  have b3 : N + 1 ≤ 9223372036854775807 := by omega
  have b4 : -9223372036854775808 ≤ N + 1 := by omega
  go_enter Try.func112, Try.ntmps112
  go_wp2_with fail
  refine HF.out.mono ?_
  rintro e w1 ⟨rfl, hb⟩
  have hh1 := (hb.cell (p := ⟨ph, 0, none⟩) sh).trans hh
  have h21 := (hb.cell (p := ⟨po, 0, none⟩) s2).trans h2
  have HC1 := Lib.hid (block_below HC.out hb sc)
  have HB1 := Lib.hid hb
  clear hb h1 h2 hh HF HC
  cases f1
  · go_wp2
    go_ret
    exact ⟨rfl, grown_of_below HB1.out, by simpa using HC1.out⟩
  · go_wp2_with fail
    refine (HG.out _ HB1.out).mono ?_
    rintro e w2 ⟨rfl, hb⟩
    have sc1 : pc < w1.heap.size := Nat.lt_of_lt_of_le sc HB1.out.size
    have HC2 := Lib.hid (block_below HC1.out hb sc1)
    have HB2 := Lib.hid (bco HB1.out hb)
    clear hb hh1 h21 HG HC1
    cases f2
    · go_wp2
      go_ret
      exact ⟨rfl, grown_of_below HB2.out, by simpa using HC2.out⟩
    · have hcc : w2.cell? ⟨pc, 0, none⟩ = some (.int .i64 N) := row_cell HC2.out 0
      have hfz : w2.frozen? ⟨pc, 0, none⟩ = false := frozen_of_row w2 _ 0 _ _ HC2.out
      go_wp2
      go_ret
      exact ⟨rfl, grown_trans (grown_of_below HB2.out) (grown_set w2 pc _), by simpa using count_set HC2.out (.int .i64 (N + 1))⟩

/-- What the count's cell and the captured boxes hold behind the first k arrangements. -/
structure CI (w0 : World) (pc n : Nat) (fs : List (Int × Int)) (k : Nat) (W : World) : Prop where
  bel : w0.grownBy W (some pc)
  cnt : W.heap[pc]? = some (.cells #[.int .i64 (Pm.cntTo n fs k : Nat)] 3 (0, 0))

set_option maxRecDepth 100000 in
set_option maxHeartbeats 4000000 in
theorem consistent_any (m : Nat) (hm : m + 1 ≤ 5) (a1 a2 : Option Addr) (c1 c2 : Nat) (fs gs : List (Int × Int)) (w : World) (b1 : fs.length ≤ 9223372036854775807) (b2 : gs.length ≤ 9223372036854775807) (h1 : RecsAt w a1 fs) (h2 : RecsAt w a2 gs)
    (hf : ∀ f ∈ fs, InF (m + 1) f) (hg : ∀ f ∈ gs, InF (m + 1) f) :
    Calls Try.prog 57 #[.int .i64 ((m : Int) + 1), .slice a1 fs.length c1, .slice a2 gs.length c2] w fun e w' => e = .returned (.int .i64 (Pm.cnt (m + 1) (fs ++ gs) : Nat)) ∧ Below w.heap.size w w' := by
  obtain ⟨wa, hwa⟩ : ∃ W, W = w.alloc (.cells #[.slice a1 fs.length c1] 24) := ⟨_, rfl⟩
  obtain ⟨wb, hwb⟩ : ∃ W, W = wa.alloc (.cells #[.slice a2 gs.length c2] 24) := ⟨_, rfl⟩
  obtain ⟨wc, hwc⟩ : ∃ W, W = wb.alloc (.cells #[.int .i64 0] 3) := ⟨_, rfl⟩
  obtain ⟨wd, hwd⟩ : ∃ W, W = wc.alloc (.cells #[.func (.func 109) #[] #[]] 113) := ⟨_, rfl⟩
  have sa : wa.heap.size = w.heap.size + 1 := by rw [hwa]; simp
  have sb : wb.heap.size = w.heap.size + 2 := by rw [hwb]; simp [sa]
  have sc : wc.heap.size = w.heap.size + 3 := by rw [hwc]; simp [sb]
  have sd : wd.heap.size = w.heap.size + 4 := by rw [hwd]; simp [sc]
  have ra : wa.heap[w.heap.size]? = some (.cells #[.slice a1 fs.length c1] 24 (0, 0)) := by rw [hwa]; exact block_new _ _
  have rb : wb.heap[w.heap.size + 1]? = some (.cells #[.slice a2 gs.length c2] 24 (0, 0)) := by rw [hwb, ← sa]; exact block_new _ _
  have rc : wc.heap[w.heap.size + 2]? = some (.cells #[.int .i64 0] 3 (0, 0)) := by rw [hwc, ← sb]; exact block_new _ _
  have rd : wd.heap[w.heap.size + 3]? = some (.cells #[.func (.func 109) #[] #[]] 113 (0, 0)) := by rw [hwd, ← sc]; exact block_new _ _
  have ba : Below w.heap.size w wa := by rw [hwa]; exact (Below.refl _ _).alloc (Nat.le_refl _) _
  have bb : Below wa.heap.size wa wb := by rw [hwb]; exact (Below.refl _ _).alloc (Nat.le_refl _) _
  have bc : Below wb.heap.size wb wc := by rw [hwc]; exact (Below.refl _ _).alloc (Nat.le_refl _) _
  have bd : Below wc.heap.size wc wd := by rw [hwd]; exact (Below.refl _ _).alloc (Nat.le_refl _) _
  have BW := Lib.hid (bco (bco (bco ba bb) bc) bd)
  have rc' := block_below rc bd (by omega)
  have rb' := block_below (block_below rb bc (by omega)) bd (by omega)
  have ra' := block_below (block_below (block_below ra bb (by omega)) bc (by omega)) bd (by omega)
  have hl : (Pm.allP (m + 1)).length ≤ 120 := Pm.allP_len (by omega) hm
  have HP := Lib.hid (permutations_any m hm (.func (.func 112) #[] #[.pointer (some ⟨w.heap.size + 3, 0, none⟩), .pointer (some ⟨w.heap.size, 0, none⟩), .pointer (some ⟨w.heap.size + 1, 0, none⟩), .pointer (some ⟨w.heap.size + 2, 0, none⟩)])
    (some (w.heap.size + 2)) (CI wd (w.heap.size + 2) (m + 1) (fs ++ gs)) (fun _ => False) wd (fun b hb => by injection hb with hb; omega)
    (fun k W W' g hg0 hi hgr => ⟨⟨hgr.os.trans hi.bel.os, hgr.tape.trans hi.bel.tape, hgr.output.trans hi.bel.output, Nat.le_trans hi.bel.size hgr.size, fun q hq hne => (hgr.block q (Nat.lt_of_lt_of_le hq hi.bel.size) (fun e => by injection e with e; omega)).trans (hi.bel.block q hq hne)⟩, block_row hi.cnt hgr (fun e => by injection e with e; omega)⟩)
    (fun W hb => ⟨grown_of_below hb, by rw [Pm.cntTo_zero]; exact block_below rc' hb (by omega)⟩)
    ⟨_, _, rfl, fun _ _ => by kernel_rfl, fun k p W x c hkp hi hW hx hI => by
      have hp := Pm.allP_ok (by omega) hm (List.mem_of_getElem? hkp)
      have hle := Pm.cntTo_le (m + 1) (fs ++ gs) k
      have hkl : k < (Pm.allP (m + 1)).length := (List.getElem?_eq_some_iff.1 hkp).1
      have hne : ∀ q, q < w.heap.size + 4 → q ≠ w.heap.size + 2 → W.heap[q]? = wd.heap[q]? := fun q hq hq2 => hi.bel.block q (by omega) (fun e => by injection e with e; omega)
      have gr : ∀ (a : Option Addr) (rs : List (Int × Int)), RecsAt w a rs → RecsAt W a rs := fun a rs h => by
        rcases h with h | ⟨b, off, e, hb, hc⟩
        · exact .inl h
        · refine .inr ⟨b, off, e, by omega, fun j hj => ?_⟩
          have e2 : W.heap[b]? = w.heap[b]? := (hne b (by omega) (by omega)).trans (BW.out.block b hb)
          rw [World.cell?_of_block (w := w) (a := ⟨b, off + j * 2, none⟩) e2, World.cell?_of_block (w := w) (a := ⟨b, off + j * 2 + 1, none⟩) e2]
          exact hc j hj
      have := cons2_any (w.heap.size + 3) w.heap.size (w.heap.size + 1) (w.heap.size + 2) a1 a2 c1 c2 fs gs x c (m + 1) p (Pm.cntTo (m + 1) (fs ++ gs) k : Nat) W hp.1 b1 b2 hI (gr _ _ h1) (gr _ _ h2) hf hg
        (row_cell ((hne _ (by omega) (by omega)).trans rd) 0) (row_cell ((hne _ (by omega) (by omega)).trans ra') 0) (row_cell ((hne _ (by omega) (by omega)).trans rb') 0) hi.cnt ⟨by omega, by omega⟩
      refine this.mono ?_
      rintro e W' ⟨rfl, hgr, hcn⟩
      refine ⟨true, rfl, hgr, fun _ => ⟨grown_trans hi.bel hgr, ?_⟩, fun h => by cases h⟩
      rw [hcn, Pm.cntTo_succ hkp]
      congr 5
      split <;> simp⟩)
  have HP2 : Hid (Calls Try.prog 111 _ wd fun e w' => e = .returned (.tuple #[]) ∧ Below w.heap.size w w' ∧ w'.heap[w.heap.size + 2]? = some (.cells #[.int .i64 (Pm.cnt (m + 1) (fs ++ gs) : Nat)] 3 (0, 0))) := HP.out.mono (by
    rintro e w' ⟨rfl, hgr, hci | h⟩
    · refine ⟨rfl, below_of_grown BW.out (by omega) hgr (fun k hk => by injection hk with hk; omega), ?_⟩
      have := hci.cnt
      rw [Pm.cntTo_end (List.getElem?_eq_none (Nat.le_refl _))] at this
      exact this
    · exact h.elim)
  have hmf := hmf
  clear HP
  rw [hwd] at HP2
  rw [hwc] at HP2
  rw [hwb] at HP2
  rw [hwa] at HP2
  clear sa sb sc sd ra rb rc rd ba bb bc bd BW rc' rb' ra' hwa hwb hwc hwd hl h1 h2 hf hg
  generalize Pm.cnt (m + 1) (fs ++ gs) = N at HP2 ⊢
  go_enter Try.func57, Try.ntmps57
  go_wp2_with fail
  refine HP2.out.mono ?_
  rintro e w' ⟨rfl, hb, hcn⟩
  have HB := Lib.hid hb
  have hcc : w'.cell? ⟨w.heap.size + 2, 0, none⟩ = some (.int .i64 (N : Int)) := row_cell hcn 0
  clear hb hcn
  go_wp2
  go_ret
  exact ⟨rfl, HB.out⟩

end Go.Proofs.Ytkjmngdcfheojaa
