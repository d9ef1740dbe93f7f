/- Several texts in one: lemmas and walks of the functions that the law reaches. -/
import Derived.Test.YtcdfinkefahloaaY20
import Derived.Test.YtcdfinkefahloaaY22

namespace Go.Proofs.Ytcdfinkefahloaa
open Go.RowKit Ply
set_option linter.unusedVariables false

theorem infoTL : (Try.prog.info? 24).map (fun i => (i.zero, i.size, i.bytes)) = some (some (.slice none 0 0), 1, 24) := by kernel_rfl
theorem slTL : SlT Try.prog 52 24 (.slice none 0 0) 1 24 := ⟨Try.underlying52, info_parts infoTL, rfl, by decide, by decide⟩
theorem made_nil (n : Nat) : (madeCells (Value.cells (.slice none 0 0)) (n * 1)).toList = List.replicate n (.slice none 0 0) := by
  rw [Nat.mul_one]
  apply List.ext_getElem?
  intro j
  by_cases hj : j < n
  · simp [madeCells, Value.cells, hj, Nat.mod_one]
  · simp [madeCells, Value.cells, hj]

theorem isTapes_any (t : Int) (w : World) : Calls Try.prog 18 #[.int .i64 t] w fun e w' => e = .returned (.bool (inB t 3 8)) ∧ w = w' := by
  have H := Lib.hid (in_any t 3 8 w)
  go_enter Try.func18, Try.ntmps18
  go_wp2_with fail
  refine H.out.mono ?_
  rintro e w1 ⟨rfl, rfl⟩
  go_wp2
  go_ret
  exact ⟨rfl, rfl⟩

def pmOk (t : Int) (Ls : List (List (Int × Int))) : Bool := inB t 3 8 && (inB (Ls.length : Int) 1 40 && lsOk Ls)
def pmLoad (t n : Nat) (Ls : List (List (Int × Int))) : List (List (List (Int × Int))) := loadTo (dumF t n).2 (dumF t n).1 Ls [] t (t - 1)
def pmRun (t : Nat) (Ls : List (List (Int × Int))) : List (List (List (Int × Int))) × Nat × Nat := polyF mrgT [] List.length 12 (pmLoad t Ls.length Ls)
def PmY (w : World) (t : Nat) (Ls : List (List (Int × Int))) (e : Ending) (w' : World) : Prop :=
  ∃ (X : List (Int × Int)) (g c : Nat), (pmRun t Ls).1.flatten = [X] ∧ e = .returned (.tuple #[.slice (some ⟨g, 0, none⟩) X.length c, .int .i64 ((pmRun t Ls).2.2 : Nat), .bool true]) ∧ w'.ownsRow w.heap.size 32 2 (.slice (some ⟨g, 0, none⟩) X.length c) X.length (flat encR X) ∧ Below w.heap.size w w'

set_option maxRecDepth 100000 in
set_option maxHeartbeats 8000000 in
theorem polyMerge_yes (k k1 n ra ro c : Nat) (Ls : List (List (Int × Int))) (w : World) (hk1 : k = k1 + 1) (hk3 : 3 ≤ k) (hk8 : k ≤ 8) (hn1 : 1 ≤ n) (hn40 : n ≤ 40) (hok : lsOk Ls = true) (hs : List Value) (hln : Ls.length = n) (hnc : n ≤ c) (hvals : ValsAt w (some ⟨ra, ro, none⟩) hs) (hhds : Hds w hs Ls) (hblk : ∀ v ∈ hs, ∀ b, v.ownBlock = some b → b < w.heap.size) :
    Calls Try.prog 6 #[.slice (some ⟨ra, ro, none⟩) n c, .int .i64 k] w (PmY w k Ls) := by
  have hC := chk (tapes := k) (runs := n) hk3 hk8 hn1 hn40
  have h : LsAt w (some ⟨ra, ro, none⟩) n c Ls := ⟨⟨hs, hvals, hhds⟩, hln, nilOk_some _ _, hnc⟩
  have hasc := lsOk_asc hok
  have HAL := Lib.hid (areLists_any (some ⟨ra, ro, none⟩) n c Ls w (by omega) h (fun i => by
    rw [List.getD_eq_getElem?_getD]
    cases hi : Ls[i]? with
    | none => simp
    | some L =>
      have := hasc.2
      rw [List.length_flatten] at this
      have h2 : L.length ∈ Ls.map List.length := List.mem_map.2 ⟨L, List.mem_of_getElem? hi, rfl⟩
      have := mem_sum h2
      simp; omega))
  rw [hok] at HAL
  have hkk : k - 1 = k1 := by omega
  have HIT := Lib.hid (isTapes_any (k : Int) w)
  have hin : inB (k : Int) 3 8 = true := by unfold inB; simp; omega
  rw [hin] at HIT
  have HIN := Lib.hid (in_any (n : Int) 1 40 w)
  have hin2 : inB (n : Int) 1 40 = true := by unfold inB; simp; omega
  rw [hin2] at HIN
  have HDM : Hid (∀ W, Calls Try.prog 21 #[.int .i64 k, .int .i64 n] W (DumE W k1 (dumF k n))) := (fun W => by
    obtain ⟨m, hm⟩ : ∃ m, k1 = Nat.succ m := ⟨k1 - 1, by omega⟩
    have hk2 : k = Nat.succ (Nat.succ m) := by omega
    subst hm; subst hk2
    exact dummies_any m n _ W (by omega) (by omega) (by omega) (by omega) hC)
  obtain ⟨re, hre⟩ : ∃ re, (dumF k n).1 = re := ⟨_, rfl⟩
  obtain ⟨du, hdu⟩ : ∃ du, (dumF k n).2 = du := ⟨_, rfl⟩
  have hl1 := hC.l1; have hl2 := hC.l2; have hs1 := hC.s1; have hs2 := hC.s2; have hgood := hC.good
  have HP2 : Hid (dumF k n = (re, du)) := by show _ = _; rw [← hre, ← hdu]
  have hcnt := load_cnt (e0 := ([] : List (Int × Int))) (tapes := k) (runs := n) (by omega) hln (hre ▸ hs1) hre hdu
  rw [hre] at hl1 hs1
  rw [hdu] at hl2 hs2
  rw [hkk] at hl1 hl2 hcnt
  rw [← hcnt] at hgood
  have hQL : pmLoad k Ls.length Ls = loadTo du re Ls [] k k1 := by unfold pmLoad; rw [hln, hre, hdu, hkk]
  have htot : tot List.length (loadTo du re Ls ([] : List (Int × Int)) k k1) ≤ 64 := by
    rw [load_tot (sz := List.length) rfl k1 (by rw [hl1]; exact Nat.le_refl _) (by omega)]
    have : (re.take k1).sum = Ls.length := by rw [List.take_of_length_le (by rw [hl1]; exact Nat.le_refl _), hs1, hln]
    rw [this, List.take_length]
    have := hasc.2
    rw [List.length_flatten] at this
    exact this
  obtain ⟨Q0, hQ0⟩ : ∃ Q0, loadTo du re Ls ([] : List (Int × Int)) k k1 = Q0 := ⟨_, rfl⟩
  have hlq0 : Q0.length = k := by rw [← hQ0, load_len]
  rw [hQ0] at hgood
  rw [hQ0] at htot
  obtain ⟨R, P, S, hRPS⟩ : ∃ R P S, polyF mrgT [] List.length 12 Q0 = (R, P, S) := ⟨_, _, _, rfl⟩
  have hSle : S ≤ 1000000 := by
    have := poly_le (z := ([] : List (Int × Int))) mrgT_len 12 Q0 hgood (by omega)
    rw [hRPS] at this
    have h2 : 12 * (100 * tot List.length Q0) ≤ 12 * (100 * 64) := Nat.mul_le_mul_left _ (Nat.mul_le_mul_left _ htot)
    exact Nat.le_trans this (Nat.le_trans h2 (by decide))
  have HRUN : Hid (pmRun k Ls = (R, P, S)) := by show _ = _; unfold pmRun; rw [hQL, hQ0, hRPS]
  have HBK := Lib.hid hblk
  have HH := Lib.hid h; have HVL := Lib.hid hvals; have HHD := Lib.hid hhds; have HAS := Lib.hid hasc.1
  have HG := Lib.hid hgood; have HRP := Lib.hid hRPS; have HT0 := Lib.hid htot; have HQ0 := Lib.hid hQ0
  have HS1 := Lib.hid hs1; have HL1 := Lib.hid hl1; have HL2 := Lib.hid hl2; have HS2 := Lib.hid hs2; have HLN := Lib.hid hln
  have HL12 : Hid (∀ i, du.getD i 0 ≤ 60) := fun i => Nat.le_trans (getD_sum du i) hs2
  have hra : ra < w.heap.size := by
    rcases hvals with h0 | ⟨b, o, e, hb, _⟩
    · exfalso
      have := hhds.1
      rw [h0] at this
      simp at this
      omega
    · injection e with e
      injection e with e _ _
      subst e; exact hb
  clear h hC hln hasc hin hin2 hre hdu hl1 hl2 hs1 hs2 hgood hcnt hQL htot hQ0 hRPS hvals hhds hok hlq0 hkk hblk
  have HK1 := Lib.hid hk1
  have hk1k : k1 < k := by omega
  have hk12 : 2 ≤ k1 := by omega
  clear hk1
  go_enter Try.func6, Try.ntmps6
  go_wp2_with fail
  refine HIT.out.mono ?_
  rintro e w1 ⟨rfl, rfl⟩
  go_wp2_with fail
  refine HIN.out.mono ?_
  rintro e w1 ⟨rfl, rfl⟩
  go_wp2_with fail
  refine HAL.out.mono ?_
  rintro e w1 ⟨rfl, hb1⟩
  have HD1 := Lib.hid (HDM.out w1)
  have HB1 := Lib.hid hb1
  clear hb1 HIT HIN HAL HDM
  go_wp2_with fail
  refine HD1.out.mono ?_
  rw [HP2.out]
  rintro e w2 ⟨g1, c1, g2, c2, rfl, hnr, hnd, hb2⟩
  have HB2 := Lib.hid (HB1.out.trans (hb2.mono HB1.out.size))
  have HNR := Lib.hid (own_mono hnr HB1.out.size); have HND := Lib.hid (own_mono hnd HB1.out.size)
  clear hnr hnd hb2 HD1 HB1
  go_wp2_with (at_make; refine wpList_mk slTL rfl _ _ rfl k (by go_num) (by go_num) (by omega) ?_; intro w3 ho3 hb3 hs3; have HO3 := Lib.hid ho3; have HB3 := Lib.hid hb3; clear ho3 hb3)
  obtain ⟨g, hg⟩ : ∃ g, w2.heap.size = g := ⟨_, rfl⟩
  obtain ⟨mb, hmb⟩ : ∃ mb, w3.heap.size = mb := ⟨_, rfl⟩
  have hgB : w.heap.size ≤ g := by rw [← hg]; exact HB2.out.size
  have hgm : g < mb := by rw [← hg, ← hmb]; exact hs3
  have hba := (Below.refl w3.heap.size w3).alloc (Nat.le_refl _) (Obj.cells #[.int .i64 0] 3)
  have HTM0 : Hid (TM OkT (w3.alloc (Obj.cells #[.int .i64 0] 3)) w.heap.size 24 27 g k k mb 0 (List.replicate k (.slice none 0 0)) (List.replicate k []) (loadTo du re Ls [] k 0)) := by
    have h3 := HO3.out
    rw [made_nil, hg] at h3
    have hts := ts_empty (Ok := OkT) (e := 27) (own_mono h3 hgB)
    rw [load_zero]
    refine ⟨hts.below okT hba, ⟨by omega, fun i hi e => ?_, fun i hi x hx => ?_⟩, by rw [← hmb]; exact block_new w3 _⟩
    · rw [List.getD_eq_getElem?_getD, List.getElem?_replicate, if_pos hi] at e; cases e
    · rw [List.getD_eq_getElem?_getD, List.getElem?_replicate, if_pos hi] at hx; cases hx
  have HNR4 := Lib.hid (own_below (own_below HNR.out (Nat.le_refl _) HB3.out) (Nat.le_refl _) hba)
  have HND4 := Lib.hid (own_below (own_below HND.out (Nat.le_refl _) HB3.out) (Nat.le_refl _) hba)
  have HB4 := Lib.hid (HB2.out.trans ((HB3.out.trans (hba.mono HB3.out.size)).mono HB2.out.size))
  have hg1 : g1 < g := by rw [← hg]; exact (HNR.out.lt g1 rfl).2
  have hg2 : g2 < g := by rw [← hg]; exact (HND.out.lt g2 rfl).2
  clear hba HO3 HB3 HB2 HNR HND hs3
  go_loopw [39, 0] (fun iv rv wx => ∃ (i N C : Nat) (x : Addr) (vs : List Value) (es : List (List Value)), iv = .int .i64 i ∧ i ≤ k1 ∧ rv = .slice (some x) N C ∧ (re.take i).sum + N = n ∧ (re.take i).sum + C = c ∧ (0 < N → x = ⟨ra, ro + (re.take i).sum, none⟩) ∧
    TM OkT wx w.heap.size 24 27 g k k mb 0 vs es (loadTo du re Ls [] k i) ∧ (∀ j, j < k → ∀ u ∈ es.getD j [], ∀ b, u.ownBlock = some b → b < w.heap.size) ∧ NRow wx w.heap.size g1 c1 k1 re ∧ NRow wx w.heap.size g2 c2 k1 du ∧ Below w.heap.size w wx) (fun iv _ _ => k1 - (intOf iv).toNat)
  case atStart => exact ⟨0, n, c, _, _, _, rfl, by omega, rfl, by simp, by simp, fun _ => rfl, HTM0.out, (fun j hj u hu => by rw [List.getD_eq_getElem?_getD, List.getElem?_replicate, if_pos hj] at hu; cases hu), HNR4.out, HND4.out, HB4.out⟩
  case round =>
    obtain ⟨i, N, C, x, vs, es, rfl, hi, rfl, hoN, hoC, hx, hT, hEB, hnr, hnd, hb⟩ := hrel
    have HT := Lib.hid hT; have HEB := Lib.hid hEB; have HNR := Lib.hid hnr; have HND := Lib.hid hnd; have HB := Lib.hid hb; have HX := Lib.hid hx
    clear hT hEB hnr hnd hb hx HTM0 HNR4 HND4 HB4
    by_cases him : i < k1
    · have h3 : decide ((i : Int) < (k1 : Int)) = true := decide_eq_true (by omega)
      have b0 : (0 : Int) ≤ (i : Int) := by omega
      have b1 : (i : Int) < (k1 : Int) := by omega
      have b2 : (i : Int) < (k : Int) := by omega
      have cd := nrow_at HND.out him
      have hd60 := HL12.out i
      obtain ⟨D, hD⟩ : ∃ D, du.getD i 0 = D := ⟨_, rfl⟩
      have HDD := Lib.hid hD
      rw [hD] at cd hd60
      have hsz := HB.out.size
      have hik : i < k := by omega
      clear hD
      go_wp2_with (at_make; refine wpList_mk slTap rfl _ _ rfl D (by go_num) (by go_num) (by omega) ?_; intro w5 ho5 hb5 hs5; have HO5 := Lib.hid ho5; have HB5 := Lib.hid hb5
                   have k5 := (HT.out.below okT hb5).ts.cellAt hik
                   obtain ⟨av, cv, hvv⟩ := (HT.out.ts.q i hik).shape
                   rw [hvv] at k5
                   have k6 := ((HT.out.below okT hb5).ts.store i (.slice none 0 0)).2.2
                   clear ho5 hb5 hvv)
      have ho5 := HO5.out
      rw [made_nil] at ho5
      have hst5 := (HT.out.below okT HB5.out).ts.store i (.slice (some ⟨wr.heap.size, 0, none⟩) D D)
      have hnil : ∀ y ∈ List.replicate D (Value.slice none 0 0), y = .slice none 0 0 := fun y hy => List.eq_of_mem_replicate hy
      have HT6 := Lib.hid (HT.out.upd okT hik (row := none) (qs' := List.replicate D []) (grown_of_below HB5.out) (fun b e => nomatch e) (QRow.of_own (own_mono ho5 hsz)) (.inr (fun b e => by injection e with e; have h9 : wr.heap.size = b := e; omega))
        ⟨by simp, fun j q v h1 h2 => by
          have e1 : q = [] := List.eq_of_mem_replicate (List.mem_of_getElem? h1)
          have e2 := hnil v (List.mem_of_getElem? h2)
          subst e1; subst e2
          exact ⟨by simp [Mg.Asc], ⟨none, 0, rfl, rd_nil w5⟩, fun b e => nomatch e⟩⟩ (fun y hy b e => by rw [hnil y hy] at e; cases e) hst5.1 hst5.2.1)
      have hgr6 := grown_trans (grown_of_below (row := some g) HB5.out) hst5.2.1
      have HNR6 := Lib.hid (own_other HNR.out hgr6 (fun b hb e => by injection hb with hb; injection e with e; have h9 : g1 = b := hb; omega))
      have HND6 := Lib.hid (own_other HND.out hgr6 (fun b hb e => by injection hb with hb; injection e with e; have h9 : g2 = b := hb; omega))
      have HB6 := Lib.hid (HB.out.grown hgr6 hsz (fun b e => by injection e with e; omega))
      obtain ⟨gm, hgm2⟩ : ∃ gm, wr.heap.size = gm := ⟨_, rfl⟩
      have hgmB : w.heap.size ≤ gm := by omega
      have hg1m : g1 < gm := by rw [← hgm2]; exact (HNR.out.lt g1 rfl).2
      have hg2m : g2 < gm := by rw [← hgm2]; exact (HND.out.lt g2 rfl).2
      have hvl := HT.out.ts.lv
      have hel := HT.out.ts.le
      rw [hgm2] at HT6 ⊢
      obtain ⟨vs6, hvs6⟩ : ∃ vs6, vs.set i (.slice (some ⟨gm, 0, none⟩) D D) = vs6 := ⟨_, rfl⟩
      obtain ⟨es6, hes6⟩ : ∃ es6, es.set i (List.replicate D (Value.slice none 0 0)) = es6 := ⟨_, rfl⟩
      have HV6 : Hid (vs6.getD i undef = .slice (some ⟨gm, 0, none⟩) D D) := by show _ = _; rw [← hvs6, getD_set' (by omega), if_pos rfl]
      have HE6 : Hid (es6.getD i [] = List.replicate D (Value.slice none 0 0)) := by show _ = _; rw [← hes6, getD_set' (by omega), if_pos rfl]
      have HEB6 : Hid (∀ j, j < k → ∀ u ∈ es6.getD j [], ∀ b, u.ownBlock = some b → b < w.heap.size) := fun j hj u hu b e => by
        rw [← hes6, getD_set' (by omega)] at hu
        by_cases e1 : j = i
        · rw [if_pos e1] at hu; rw [hnil u hu] at e; cases e
        · rw [if_neg e1] at hu; exact HEB.out j hj u hu b e
      rw [hvs6, hes6] at HT6
      rw [hgm2] at HB6 HNR6 HND6
      obtain ⟨w6, hw6⟩ : ∃ w6, w5.setCell ⟨g, i, none⟩ (.slice (some ⟨gm, 0, none⟩) D D) = w6 := ⟨_, rfl⟩
      rw [hw6] at HT6 HB6 HNR6 HND6 ⊢
      clear ho5 hst5 hgr6 hvl hel hvs6 hes6 k5 k6 hgm2 hw6 HT HEB HNR HND HB HO5 HB5 hs5 cd
      obtain ⟨RE, hRE⟩ : ∃ RE, re.getD i 0 = RE := ⟨_, rfl⟩
      have hoff : (re.take i).sum + RE ≤ n := by
        have := off_le (Ls := Ls) (re := re) (i := i) (by rw [HS1.out, HLN.out])
        rw [hRE, HLN.out] at this; exact this
      have cr := nrow_at HNR6.out him
      rw [hRE] at cr
      have HRE := Lib.hid hRE
      have cg := HT6.out.ts.cellAt hik
      rw [HV6.out] at cg
      obtain ⟨off, hoffe⟩ : ∃ off, (re.take i).sum = off := ⟨_, rfl⟩
      have HOF := Lib.hid hoffe
      rw [hoffe] at hoff hoN hoC HX
      have hREN : RE ≤ N := by omega
      have hREC : RE ≤ C := by omega
      have b3 : (0 : Int) ≤ (RE : Int) := by omega
      have b4 : (RE : Int) ≤ (C : Int) := by omega
      have b5 : (RE : Int) ≤ (N : Int) := by omega
      have b6 : (N : Int) ≤ (C : Int) := by omega
      obtain ⟨nw, hnw⟩ : ∃ nw, (hs.drop off).take RE = nw := ⟨_, rfl⟩
      have hnwl : nw.length = RE := by
        rw [← hnw, List.length_take, List.length_drop]
        have := HHD.out.1
        rw [HLN.out] at this
        omega
      have hnm : ∀ u ∈ nw, u ∈ hs := fun u hu => by rw [← hnw] at hu; exact List.mem_of_mem_drop (List.mem_of_mem_take hu)
      have HNM := Lib.hid hnm
      have hone := hds_one HHD.out
      have HON : Hid (∀ u ∈ nw, u.oneCell' = true) := fun u hu => hone u (hnm u hu)
      have HQ6 : Hid (QRow w6.drew w.heap.size 27 (.slice (some ⟨gm, 0, none⟩) D D) (List.replicate D (Value.slice none 0 0))) := by
        have := HT6.out.ts.q i hik
        rw [HV6.out, HE6.out] at this
        exact this
      have HCS : Hid (∀ j u, nw[j]? = some u → w6.drew.cell? (x.add j) = some u) := fun j u hu => by
        have hj : j < RE := by rw [← hnwl]; exact (List.getElem?_eq_some_iff.1 hu).1
        rw [← hnw, List.getElem?_take, if_pos hj, List.getElem?_drop] at hu
        rw [HX.out (by omega), Addr.add_lit]
        rcases HVL.out with h0 | ⟨b, o, e, hb, hc⟩
        · rw [h0] at hu; simp at hu
        · injection e with e
          injection e with e1 e2 _
          subst e1; subst e2
          have h9 := hc (off + j) u hu
          rw [← Nat.add_assoc] at h9
          exact (HB6.out.cell (p := ⟨ra, ro + off + j, none⟩) hb).trans h9
      have HP6 : Hid (∀ W, Below w.heap.size w W → All2 (OkT W) ((Ls.drop off).take RE) nw) := fun W hW => by
        have hp := HHD.out.part off RE
        rw [hnw] at hp
        refine ⟨hp.1.symm, fun j L v h1 h2 => ⟨HAS.out L (List.mem_of_mem_drop (List.mem_of_mem_take (List.mem_of_getElem? h1))), (hp.2 j v L h2 h1).same hW, fun b hb => Nat.lt_of_lt_of_le (HBK.out v (hnm v (List.mem_of_getElem? h2)) b hb) hW.size⟩⟩
      have hBd : w.heap.size ≤ w6.drew.heap.size := HB6.out.size
      have hsm : (List.replicate D (Value.slice none 0 0)).length + RE ≤ 1099511627776 := by simp; omega
      have HoN := Lib.hid hoN; have HoC := Lib.hid hoC; have HoF := Lib.hid hoff; have HNWL := Lib.hid hnwl; have HSM := Lib.hid hsm
      have hgg1 : g1 ≠ g := by omega
      have HNIL := Lib.hid hnil; have HGE := Lib.hid hg; have HMBE := Lib.hid hmb
      clear hnil hg hmb
      clear hRE hoffe hnw hnm hone hoN hoC hoff hnwl hsm
      go_wp2_with fail
      go_region_law (first
        | (refine step_appQn slTap (by rfl) _ _ (by rfl) w.heap.size (.slice (some ⟨gm, 0, none⟩) D D) (List.replicate D (Value.slice none 0 0)) x RE C nw (by rfl) HQ6.out (by rfl) HNWL.out HCS.out HON.out HSM.out hBd ?_
           intro v8 w8 hq8 hg8 ht8
           have hsh8 : ∃ a n d, v8 = .slice a n d := hq8.shape.elim fun a h => h.elim fun c h => ⟨a, _, c, h⟩
           obtain ⟨a8, n8, c8, rfl⟩ := hsh8
           have hA := HT6.out.appd hik HV6.out (Below.refl w6.heap.size w6).drew hg8
           have HQ8 := Lib.hid hq8; have HG8 := Lib.hid hA.1; have HT8 := Lib.hid ht8; have HRW := Lib.hid hA.2.1
           have k5 := hA.2.2.1; have k6 := hA.2.2.2
           have HNR8 := Lib.hid (own_other HNR6.out hA.1 (fun b hb e => by injection hb with hb; injection e with e; have h9 : g1 = b := hb; have h10 : gm = b := e; omega))
           have k7 := nrow_at HNR8.out him
           rw [HRE.out] at k7
           clear hq8 hg8 ht8 hA))
      all_goals
        have st := HRW.out.stored i (.slice a8 n8 c8)
        have hbw8 : Below w.heap.size w w8 := HB6.out.grown HG8.out HB6.out.size (fun b e => by injection e with e; have h9 : gm = b := e; omega)
        have hef : ∀ y ∈ List.replicate D (Value.slice none 0 0) ++ nw, ∀ b, y.ownBlock = some b → b < w.heap.size := fun y hy b e => by
          rcases List.mem_append.1 hy with hy | hy
          · rw [HNIL.out y hy] at e; cases e
          · exact HBK.out y (HNM.out y hy) b e
        have HT9 := HT6.out.upd okT hik (row := (Value.slice (some ⟨gm, 0, none⟩) D D).ownBlock) (qs' := List.replicate D [] ++ (Ls.drop off).take RE) HG8.out (fun b e => by rw [HV6.out]; exact e) HQ8.out (by
            rw [HV6.out]
            rcases HT8.out with h | h
            · exact .inl h
            · refine .inr (fun b e => ?_)
              rw [h] at e
              injection e with e
              have h9 : w6.heap.size = b := e
              omega)
          (All2.append ⟨by simp, fun j q v h1 h2 => by
            have e1 : q = [] := List.eq_of_mem_replicate (List.mem_of_getElem? h1)
            have e2 := HNIL.out v (List.mem_of_getElem? h2)
            subst e1; subst e2
            exact ⟨by simp [Mg.Asc], ⟨none, 0, rfl, rd_nil w8⟩, fun b e => nomatch e⟩⟩ (HP6.out w8 hbw8)) (fun y hy b e => by
            have hb := hef y hy b e
            have hsz6 := HB6.out.size
            exact .inr ⟨by omega, by omega, by omega, fun j hj e2 => by have := ((HT6.out.ts.lt okT).2.1 j hj b e2).1; omega⟩) st.1 st.2
        have hset : ((loadTo du re Ls [] k i).set i (List.replicate D [])).set i (List.replicate D [] ++ (Ls.drop off).take RE) = loadTo du re Ls [] k (i + 1) := by
          rw [List.set_set, load_succ hik]
          unfold ldAt
          rw [HDD.out, HRE.out, HOF.out]
        rw [hset] at HT9
        have HT9 := Lib.hid HT9
        have hel6 := HT6.out.ts.le
        have HEB9 : Hid (∀ j, j < k → ∀ u ∈ (es6.set i (List.replicate D (Value.slice none 0 0) ++ nw)).getD j [], ∀ b, u.ownBlock = some b → b < w.heap.size) := fun j hj u hu b e => by
          rw [getD_set' (by omega)] at hu
          by_cases e1 : j = i
          · rw [if_pos e1] at hu; exact hef u hu b e
          · rw [if_neg e1] at hu; exact HEB6.out j hj u hu b e
        have HNR9 := Lib.hid (own_other (own_other HNR6.out HG8.out (fun b hb e => by injection hb with hb; injection e with e; have h9 : g1 = b := hb; have h10 : gm = b := e; omega)) st.2 (fun b hb e => by injection hb with hb; injection e with e; have h9 : g1 = b := hb; omega))
        have HND9 := Lib.hid (own_other (own_other HND6.out HG8.out (fun b hb e => by injection hb with hb; injection e with e; have h9 : g2 = b := hb; have h10 : gm = b := e; omega)) st.2 (fun b hb e => by injection hb with hb; injection e with e; have h9 : g2 = b := hb; omega))
        have HB9 := Lib.hid (hbw8.grown st.2 hbw8.size (fun b e => by injection e with e; omega))
        have HTS : Hid ((re.take (i + 1)).sum = off + RE) := by show _ = _; rw [take_sum_succ (by rw [HL1.out]; exact him), HOF.out, HRE.out]
        have c9 := nrow_at HNR9.out him
        rw [HRE.out] at c9
        clear hbw8 hef hset hel6
        by_cases hCR : C = RE
        · have HXN : Hid (0 < 0 → x = ⟨ra, ro + (re.take (i + 1)).sum, none⟩) := fun h => by omega
          have hNR : N = RE := by omega
          subst hCR
          subst hNR
          clear k5 k6 k7 st
          have hg := HGE.out; have hmb := HMBE.out
          subst hg; subst hmb
          clear HGE HMBE
          go_wp2
          go_roundw
          case rel => exact ⟨i + 1, 0, 0, x, _, _, by go_num, by omega, rfl, by have h1 := HTS.out; have h2 := HoN.out; omega, by have h1 := HTS.out; have h2 := HoC.out; omega, HXN.out, HT9.out, HEB9.out, HNR9.out, HND9.out, HB9.out⟩
          case measure => simp [intOf] <;> omega
        · have hCR2 : ¬ RE = C := fun h => hCR h.symm
          have HXN : Hid (0 < N - RE → x.add RE = ⟨ra, ro + (re.take (i + 1)).sum, none⟩) := fun h => by rw [HX.out (by omega), HTS.out, Addr.add_lit, Nat.add_assoc]
          clear k5 k6 k7 st
          have hg := HGE.out; have hmb := HMBE.out
          subst hg; subst hmb
          clear HGE HMBE
          go_wp2
          go_roundw
          case rel => exact ⟨i + 1, N - RE, C - RE, x.add RE, _, _, by go_num, by omega, by first | rfl | go_num, by have h1 := HTS.out; have h2 := HoN.out; omega, by have h1 := HTS.out; have h2 := HoC.out; omega, HXN.out, HT9.out, HEB9.out, HNR9.out, HND9.out, HB9.out⟩
          case measure => simp [intOf] <;> omega
    · obtain rfl : i = k1 := by omega
      have h3 : decide ((i : Int) < (i : Int)) = false := by simp
      subst hg; subst hmb
      have htm := HT.out
      rw [HQ0.out] at htm
      have HPO := Lib.hid (polyT_any okT OkT.sh (mrg := mrgT) (z := ([] : List (Int × Int))) (sz := List.length) (Pre := fun xs => wt List.length xs ≤ 1000) (I := fun Q => tot List.length Q ≤ 1000) (fun e Q hQ he hne => by
        obtain ⟨h8, h9⟩ := tot_step (mrg := mrgT) (z := ([] : List (Int × Int))) (sz := List.length) mrgT_len he hne
        exact ⟨by rw [h8]; exact hQ, Nat.le_trans h9 hQ⟩) w.heap.size w2.heap.size k k w3.heap.size 12 0 vs es Q0 R P S wr (fvT w3.heap.size) hk3 hk8 HG.out (by omega) HRP.out (Nat.le_trans HT0.out (by omega)) (by omega) htm (by omega))
      have HTR : Hid (tot List.length R = tot List.length Q0) := by
        have := poly_tot (z := ([] : List (Int × Int))) mrgT_len 12 Q0 HG.out
        rwa [HRP.out] at this
      clear htm HT HEB HNR HND
      go_wp2_with fail
      refine HPO.out.mono ?_
      rintro e w7 ⟨v, X, rfl, hR, ⟨hasc, ⟨xa, xc, rfl, hrd⟩, hbl⟩, hmo, hb7⟩
      rw [Nat.zero_add] at hmo
      have hX64 : X.length ≤ 64 := by
        have h8 := HTR.out
        rw [tot_flatten, hR] at h8
        have h9 := HT0.out
        have : wt List.length [X] = X.length := by simp [wt]
        omega
      have HB7 := Lib.hid (HB.out.trans hb7)
      have HR7 := Lib.hid hR
      have HMO := Lib.hid hmo
      have cm := hmo.cell
      have HCO := Lib.hid (fun W (hW : Below w7.heap.size w7 W) => copyOfR_any xa xc X W (by omega) (hrd.recs.below (Nat.le_refl _) hW) hrd.nil)
      unfold OwnR at HCO
      have hml := hmo.lt
      have hw7 : w.heap.size ≤ w7.heap.size := HB7.out.size
      clear hR hasc hbl hb7 hmo HPO HB hrd
      go_wp2_with fail
      go_region_held3 (fun w' => w'.cell? ⟨w3.heap.size, 0, none⟩ = some (.int .i64 (S : Nat))) (first | assumption | go_keep)
        (first | (go_at_call 25; refine (HCO.out _ (Below.refl _ _).drew).mono ?_; rintro e w8 ⟨g8, c8, rfl, ho8, hb8⟩; have HO8 := Lib.hid (own_mono ho8 hw7); have HB8 := Lib.hid (HB7.out.trans (((Below.refl w7.heap.size w7).drew.trans hb8).mono hw7)); have HM8 := HMO.out.below ((Below.refl w7.heap.size w7).drew.trans hb8); have c8m := HM8.cell; clear ho8 hb8 HM8))
      all_goals
        go_wp2
        go_ret3
        refine ⟨X, g8, c8, by rw [HRUN.out]; exact HR7.out, by rw [HRUN.out]; rfl, HO8.out, HB8.out⟩

set_option maxRecDepth 100000 in
set_option maxHeartbeats 4000000 in
theorem polyMerge_no (a : Option Addr) (n c : Nat) (t : Int) (Ls : List (List (Int × Int))) (w : World) (hok : pmOk t Ls = false) (hn : n ≤ 1000) (h : LsAt w a n c Ls) (hLb : ∀ i, (Ls.getD i []).length ≤ 1000000) :
    Calls Try.prog 6 #[.slice a n c, .int .i64 t] w fun e w' => e = .returned (.tuple #[.slice none 0 0, .int .i64 0, .bool false]) ∧ Below w.heap.size w w' := by
  have HAL := Lib.hid (areLists_any a n c Ls w hn h hLb)
  have HIT := Lib.hid (isTapes_any t w)
  have HIN := Lib.hid (in_any (n : Int) 1 40 w)
  unfold pmOk at hok
  rw [h.len] at hok
  cases h1 : inB t 3 8 with
  | false =>
    rw [h1] at HIT
    clear hok h hLb h1
    go_enter Try.func6, Try.ntmps6
    go_wp2_with fail
    refine HIT.out.mono ?_
    rintro e w1 ⟨rfl, rfl⟩
    go_wp2
    go_ret3
    exact ⟨rfl, Below.refl _ _⟩
  | true =>
    rw [h1] at HIT hok
    cases h2 : inB (n : Int) 1 40 with
    | false =>
      rw [h2] at HIN
      clear hok h hLb h1 h2
      go_enter Try.func6, Try.ntmps6
      go_wp2_with fail
      refine HIT.out.mono ?_
      rintro e w1 ⟨rfl, rfl⟩
      go_wp2_with fail
      refine HIN.out.mono ?_
      rintro e w1 ⟨rfl, rfl⟩
      go_wp2
      go_ret3
      exact ⟨rfl, Below.refl _ _⟩
    | true =>
      rw [h2] at HIN hok
      have h3 : lsOk Ls = false := by simpa using hok
      rw [h3] at HAL
      clear hok h hLb h1 h2 h3
      go_enter Try.func6, Try.ntmps6
      go_wp2_with fail
      refine HIT.out.mono ?_
      rintro e w1 ⟨rfl, rfl⟩
      go_wp2_with fail
      refine HIN.out.mono ?_
      rintro e w1 ⟨rfl, rfl⟩
      go_wp2_with fail
      refine HAL.out.mono ?_
      rintro e w1 ⟨rfl, hb⟩
      have HB := Lib.hid hb
      clear hb
      go_wp2
      go_ret3
      exact ⟨rfl, HB.out⟩
end Go.Proofs.Ytcdfinkefahloaa

namespace Go.Proofs.Ytcdfinkefahloaa
open Go.RowKit Ply
set_option linter.unusedVariables false

theorem infoIL : (Try.prog.info? 49).map (fun i => (i.zero, i.size, i.bytes)) = some (some (.slice none 0 0), 1, 24) := by kernel_rfl
theorem slIL : SlT Try.prog 62 49 (.slice none 0 0) 1 24 := ⟨Try.underlying62, info_parts infoIL, rfl, by decide, by decide⟩

theorem isInitial_any (t n : Nat) (w : World) (h3 : 3 ≤ t) (h8 : t ≤ 8) (hn : 1 ≤ n) (hn40 : n ≤ 40) : Calls Try.prog 31 #[.int .i64 t, .int .i64 n] w fun e w' => e = .returned (.bool true) ∧ w = w' := by
  have H1 := Lib.hid (isTapes_any t w)
  have H2 := Lib.hid (in_any n 1 1000 w)
  have e1 : inB (t : Int) 3 8 = true := by unfold inB; simp; omega
  have e2 : inB (n : Int) 1 1000 = true := by unfold inB; simp; omega
  rw [e1] at H1
  rw [e2] at H2
  clear e1 e2
  go_enter Try.func31, Try.ntmps31
  go_wp2_with fail
  refine H1.out.mono ?_
  rintro e w1 ⟨rfl, rfl⟩
  go_wp2_with fail
  refine H2.out.mono ?_
  rintro e w1 ⟨rfl, rfl⟩
  go_wp2
  go_ret
  exact ⟨rfl, rfl⟩

theorem polyLevel_any (t n : Nat) (w : World) (h3 : 3 ≤ t) (h8 : t ≤ 8) (hn : 1 ≤ n) (hn40 : n ≤ 40) : Calls Try.prog 11 #[.int .i64 t, .int .i64 n] w fun e w' => e = .returned (.tuple #[.int .i64 (levF t n : Nat), .bool true]) ∧ Below w.heap.size w w' := by
  have H1 := Lib.hid (isInitial_any t n w h3 h8 hn hn40)
  have hC := chk h3 h8 hn hn40
  have H2 : Hid (Calls Try.prog 35 #[.int .i64 t, .int .i64 n] w fun e w' => e = .returned (.int .i64 (levF t n : Nat)) ∧ Below w.heap.size w w') := by
    obtain ⟨m, rfl⟩ : ∃ m, t = m + 2 := ⟨t - 2, by omega⟩
    exact levelFor_any m n _ w (by omega) (by omega) (by omega) (by omega) hC
  clear hC
  go_enter Try.func11, Try.ntmps11
  go_wp2_with fail
  refine H1.out.mono ?_
  rintro e w1 ⟨rfl, rfl⟩
  go_wp2_with fail
  refine H2.out.mono ?_
  rintro e w1 ⟨rfl, hb⟩
  have HB := Lib.hid hb
  clear hb
  go_wp2
  go_ret2
  exact ⟨rfl, HB.out⟩

def pvLoad (t n : Nat) : List (List Nat) := loadTo (dumF t n).2 (dumF t n).1 (List.replicate n 1) 0 t (t - 1)
def pvRun (t n : Nat) : List (List Nat) × Nat × Nat := polyF List.sum 0 (fun x => x) 12 (pvLoad t n)
theorem ld_ones {du re : List Nat} {n i : Nat} (h : re.sum = n) : ldAt du re (List.replicate n 1) 0 i = List.replicate (du.getD i 0) 0 ++ List.replicate (re.getD i 0) 1 := by
  have := off_le (Ls := List.replicate n 1) (re := re) (i := i) (by simp [h])
  unfold ldAt
  rw [List.drop_replicate, List.take_replicate]
  simp at this
  congr 2
  have e : re.getD i 0 = re[i]?.getD 0 := List.getD_eq_getElem?_getD
  omega
theorem sum_wt (xs : List Nat) : List.sum xs = wt (fun x => x) xs := by simp [wt]

set_option maxRecDepth 100000 in
set_option maxHeartbeats 8000000 in
theorem polyVolume_any (k k1 n : Nat) (w : World) (hk1 : k = k1 + 1) (hk3 : 3 ≤ k) (hk8 : k ≤ 8) (hn1 : 1 ≤ n) (hn40 : n ≤ 40) :
    Calls Try.prog 10 #[.int .i64 k, .int .i64 n] w fun e w' => e = .returned (.tuple #[.int .i64 ((pvRun k n).2.1 : Nat), .int .i64 ((pvRun k n).2.2 : Nat), .bool true]) ∧ Below w.heap.size w w' := by
  have hC := chk (tapes := k) (runs := n) hk3 hk8 hn1 hn40
  have hkk : k - 1 = k1 := by omega
  have HII := Lib.hid (isInitial_any k n w hk3 hk8 hn1 hn40)
  have HDM : Hid (∀ W, Calls Try.prog 21 #[.int .i64 k, .int .i64 n] W (DumE W k1 (dumF k n))) := (fun W => by
    obtain ⟨m, hm⟩ : ∃ m, k1 = Nat.succ m := ⟨k1 - 1, by omega⟩
    have hk2 : k = Nat.succ (Nat.succ m) := by omega
    subst hm; subst hk2
    exact dummies_any m n _ W (by omega) (by omega) (by omega) (by omega) hC)
  obtain ⟨re, hre⟩ : ∃ re, (dumF k n).1 = re := ⟨_, rfl⟩
  obtain ⟨du, hdu⟩ : ∃ du, (dumF k n).2 = du := ⟨_, rfl⟩
  have hl1 := hC.l1; have hl2 := hC.l2; have hs1 := hC.s1; have hs2 := hC.s2; have hgood := hC.good
  have HP2 : Hid (dumF k n = (re, du)) := by show _ = _; rw [← hre, ← hdu]
  have hcnt := load_cnt (Ls := List.replicate n 1) (e0 := 0) (tapes := k) (runs := n) (by omega) (by simp) (hre ▸ hs1) hre hdu
  rw [hre] at hl1 hs1
  rw [hdu] at hl2 hs2
  rw [hkk] at hl1 hl2 hcnt
  rw [← hcnt] at hgood
  have hQL : pvLoad k n = loadTo du re (List.replicate n 1) 0 k k1 := by unfold pvLoad; rw [hre, hdu, hkk]
  have htot : tot (fun x => x) (loadTo du re (List.replicate n 1) 0 k k1) ≤ 40 := by
    rw [load_tot (sz := fun x => x) rfl k1 (by rw [hl1]; exact Nat.le_refl _) (by omega)]
    have h9 : ∀ m, wt (fun x => x) ((List.replicate n 1).take m) ≤ n := fun m => by
      rw [List.take_replicate, ← sum_wt]
      simp
      omega
    exact Nat.le_trans (h9 _) hn40
  obtain ⟨Q0, hQ0⟩ : ∃ Q0, loadTo du re (List.replicate n 1) 0 k k1 = Q0 := ⟨_, rfl⟩
  have hlq0 : Q0.length = k := by rw [← hQ0, load_len]
  rw [hQ0] at hgood htot
  obtain ⟨R, P, S, hRPS⟩ : ∃ R P S, polyF List.sum 0 (fun x => x) 12 Q0 = (R, P, S) := ⟨_, _, _, rfl⟩
  have hSle : S ≤ 1000000 := by
    have := poly_le (z := 0) (mrg := List.sum) (sz := fun x => x) sum_wt 12 Q0 hgood (by omega)
    rw [hRPS] at this
    have h2 : 12 * (100 * tot (fun x => x) Q0) ≤ 12 * (100 * 40) := Nat.mul_le_mul_left _ (Nat.mul_le_mul_left _ htot)
    exact Nat.le_trans this (Nat.le_trans h2 (by decide))
  have HRUN : Hid (pvRun k n = (R, P, S)) := by show _ = _; unfold pvRun; rw [hQL, hQ0, hRPS]
  have HG := Lib.hid hgood; have HRP := Lib.hid hRPS; have HT0 := Lib.hid htot; have HQ0 := Lib.hid hQ0
  have HS1 := Lib.hid hs1; have HL1 := Lib.hid hl1; have HL2 := Lib.hid hl2; have HS2 := Lib.hid hs2
  have HL12 : Hid (∀ i, du.getD i 0 ≤ 60) := fun i => Nat.le_trans (getD_sum du i) hs2
  have HR12 : Hid (∀ i, re.getD i 0 ≤ 40) := fun i => Nat.le_trans (getD_sum re i) (by omega)
  have hk1k : k1 < k := by omega
  have hk12 : 2 ≤ k1 := by omega
  clear hC hkk hre hdu hl1 hl2 hs1 hs2 hgood hcnt hQL htot hQ0 hRPS hlq0 hk1
  go_enter Try.func10, Try.ntmps10
  go_wp2_with fail
  refine HII.out.mono ?_
  rintro e w1 ⟨rfl, rfl⟩
  go_wp2_with fail
  refine (HDM.out w).mono ?_
  rw [HP2.out]
  rintro e w2 ⟨g1, c1, g2, c2, rfl, hnr, hnd, hb2⟩
  have HB2 := Lib.hid hb2; have HNR := Lib.hid hnr; have HND := Lib.hid hnd
  clear hnr hnd hb2 HDM HII
  go_wp2_with (at_make; refine wpList_mk slIL rfl _ _ rfl k (by go_num) (by go_num) (by omega) ?_; intro w3 ho3 hb3 hs3; have HO3 := Lib.hid ho3; have HB3 := Lib.hid hb3; clear ho3 hb3)
  have hgB : w.heap.size ≤ w2.heap.size := HB2.out.size
  have hba := (Below.refl w3.heap.size w3).alloc (Nat.le_refl _) (Obj.cells #[.int .i64 0] 3)
  have HTM0 : Hid (TM OkI (w3.alloc (Obj.cells #[.int .i64 0] 3)) w2.heap.size 49 3 w2.heap.size k k w3.heap.size 0 (List.replicate k (.slice none 0 0)) (List.replicate k []) (loadTo du re (List.replicate n 1) 0 k 0)) := by
    have h3 := HO3.out
    rw [made_nil] at h3
    have hts := ts_empty (Ok := OkI) (e := 3) h3
    rw [load_zero]
    refine ⟨hts.below okI hba, ⟨by omega, fun i hi e => ?_, fun i hi x hx => ?_⟩, block_new w3 _⟩
    · rw [List.getD_eq_getElem?_getD, List.getElem?_replicate, if_pos hi] at e; cases e
    · rw [List.getD_eq_getElem?_getD, List.getElem?_replicate, if_pos hi] at hx; cases hx
  have HNR4 := Lib.hid (own_below (own_below HNR.out (Nat.le_refl _) HB3.out) (Nat.le_refl _) hba)
  have HND4 := Lib.hid (own_below (own_below HND.out (Nat.le_refl _) HB3.out) (Nat.le_refl _) hba)
  have HB4 := Lib.hid (HB2.out.trans ((HB3.out.trans (hba.mono HB3.out.size)).mono HB2.out.size))
  have hg1 : g1 < w2.heap.size := (HNR.out.lt g1 rfl).2
  have hg2 : g2 < w2.heap.size := (HND.out.lt g2 rfl).2
  have hgm : w2.heap.size < w3.heap.size := hs3
  clear hba HO3 HB3 HB2 HNR HND hs3
  go_loopw [28] (fun iv wx => ∃ (i : Nat) (vs : List Value) (es : List (List Value)), iv = .int .i64 i ∧ i ≤ k1 ∧
    TM OkI wx w2.heap.size 49 3 w2.heap.size k k w3.heap.size 0 vs es (loadTo du re (List.replicate n 1) 0 k i) ∧ NRow wx w.heap.size g1 c1 k1 re ∧ NRow wx w.heap.size g2 c2 k1 du ∧ Below w.heap.size w wx) (fun iv _ => k1 - (intOf iv).toNat)
  case atStart => exact ⟨0, _, _, rfl, by omega, HTM0.out, HNR4.out, HND4.out, HB4.out⟩
  case round =>
    obtain ⟨i, vs, es, rfl, hi, hT, hnr, hnd, hb⟩ := hrel
    have HT := Lib.hid hT; have HNR := Lib.hid hnr; have HND := Lib.hid hnd; have HB := Lib.hid hb
    clear hT hnr hnd hb HTM0 HNR4 HND4 HB4
    by_cases him : i < k1
    · have h3 : decide ((i : Int) < (k1 : Int)) = true := decide_eq_true (by omega)
      have b0 : (0 : Int) ≤ (i : Int) := by omega
      have b1 : (i : Int) < (k1 : Int) := by omega
      have b2 : (i : Int) < (k : Int) := by omega
      have hik : i < k := by omega
      have cd := nrow_at HND.out him
      have hd60 := HL12.out i
      have hr40 := HR12.out i
      have HLD : Hid (ldAt du re (List.replicate n 1) 0 i = List.replicate (du.getD i 0) 0 ++ List.replicate (re.getD i 0) 1) := ld_ones HS1.out
      obtain ⟨D, hD⟩ : ∃ D, du.getD i 0 = D := ⟨_, rfl⟩
      obtain ⟨RE, hRE⟩ : ∃ RE, re.getD i 0 = RE := ⟨_, rfl⟩
      have HRE := Lib.hid hRE
      rw [hD, hRE] at HLD
      rw [hD] at cd hd60
      rw [hRE] at hr40
      have HSET : Hid (loadTo du re (List.replicate n 1) 0 k (i + 1) = (loadTo du re (List.replicate n 1) 0 k i).set i (List.replicate D 0 ++ List.replicate RE 1)) := by show _ = _; rw [load_succ hik, HLD.out]
      have HS0 : Hid ((loadTo du re (List.replicate n 1) 0 k i).set i [] = loadTo du re (List.replicate n 1) 0 k i) := by
        refine ext_getD [] (by rw [List.length_set]) (fun j hj => ?_)
        rw [List.length_set, load_len] at hj
        rw [getD_set' (by rw [load_len]; exact hik)]
        by_cases e : j = i
        · subst e; rw [if_pos rfl, load_get hj, if_neg (by omega)]
        · rw [if_neg e]
      have hLQ : (loadTo du re (List.replicate n 1) 0 k i).length = k := load_len i
      obtain ⟨QI, hQI⟩ : ∃ QI, loadTo du re (List.replicate n 1) 0 k i = QI := ⟨_, rfl⟩
      rw [hQI] at HSET HS0 hLQ HT
      have HLQ := Lib.hid hLQ
      rename World => w5
      clear hD hRE hQI hLQ
      go_wp2
      go_loopw [35] (fun jv wx => ∃ (j : Nat) (vs : List Value) (es : List (List Value)), jv = .int .i64 j ∧ j ≤ D ∧ TM OkI wx w2.heap.size 49 3 w2.heap.size k k w3.heap.size 0 vs es (QI.set i (List.replicate j 0)) ∧ NRow wx w.heap.size g1 c1 k1 re ∧ NRow wx w.heap.size g2 c2 k1 du ∧ Below w.heap.size w wx) (fun jv _ => D - (intOf jv).toNat)
      case atStart => exact ⟨0, vs, es, rfl, by omega, by show TM _ _ _ _ _ _ _ _ _ _ _ _ (QI.set i []); rw [HS0.out]; exact HT.out, HNR.out, HND.out, HB.out⟩
      case round =>
        obtain ⟨j, vs, es, rfl, hj, hT, hnr, hnd, hb⟩ := hrel
        have HT := Lib.hid hT; have HNR := Lib.hid hnr; have HND := Lib.hid hnd; have HB := Lib.hid hb
        clear hT hnr hnd hb
        by_cases hlt : j < D
        case pos =>
          have h4 : decide ((j : Int) < (D : Int)) = true := decide_eq_true (by omega)
          have cg := HT.out.ts.cellAt hik
          obtain ⟨av, cv, hv⟩ := (HT.out.ts.q i hik).shape
          have hQi : (QI.set i (List.replicate j 0)).getD i [] = (List.replicate j 0) := by rw [getD_set' (by rw [HLQ.out]; exact hik), if_pos rfl]
          have hel := (HT.out.ts.el i hik).1
          rw [hQi] at hel
          have hel2 : (es.getD i []).length ≤ 200 := by rw [← hel]; simp; omega
          have HQI2 := Lib.hid hQi
          rw [hv] at cg
          have HQR : Hid (QRow wr w2.heap.size 3 (.slice av (es.getD i []).length cv) (es.getD i [])) := by
            have := HT.out.ts.q i hik
            rwa [hv] at this
          have HSM : Hid ((es.getD i []).length + 1 ≤ 1099511627776) := by show _ ≤ _; omega
          obtain ⟨ne, hne⟩ : ∃ ne, (es.getD i []).length = ne := ⟨_, rfl⟩
          have HV := Lib.hid hv
          rw [hne] at cg HQR HV hel2
          have hBw : w2.heap.size ≤ wr.heap.size := Nat.le_of_lt (HT.out.ts.row.lt w2.heap.size rfl).2
          clear hv hQi hel hne
          go_wp2_with (at_builtin; refine wpList_appQ slInt rfl _ _ rfl rfl HQR.out (.int .i64 0) rfl rfl rfl HSM.out hBw ?_; intro v8 w8 hq8 hg8 ht8
                       have hsh8 : ∃ a n d, v8 = .slice a n d := hq8.shape.elim fun a h => h.elim fun c h => ⟨a, _, c, h⟩
                       obtain ⟨a8, n8, c8, rfl⟩ := hsh8
                       have hA := HT.out.appd hik HV.out (Below.refl wr.heap.size wr) hg8
                       have HQ8 := Lib.hid hq8; have HG8 := Lib.hid hA.1; have HT8 := Lib.hid ht8; have HRW := Lib.hid hA.2.1
                       have k5 := hA.2.2.1; have k6 := hA.2.2.2
                       clear hq8 hg8 ht8 hA)
          have st := HRW.out.stored i (.slice a8 n8 c8)
          have HBLK : Hid (∀ b, (Value.slice av ne cv).ownBlock = some b → w2.heap.size ≤ b) := fun b e => ((HT.out.ts.lt okI).2.1 i hik b (by rw [HV.out]; exact e)).1
          have HPU := HT.out.push okI hik (y := 0) (x := .int .i64 0) rfl (fun b hb => by cases hb) HQ8.out (by rw [HV.out]; exact HG8.out) (by
            rw [HV.out]
            rcases HT8.out with h | h
            · exact .inl h
            · exact .inr ⟨_, h, by omega⟩) st.1 st.2
          have hset : (QI.set i (List.replicate j 0)).set i ((QI.set i (List.replicate j 0)).getD i [] ++ [0]) = QI.set i (List.replicate (j + 1) 0) := by
            rw [List.set_set, HQI2.out, List.replicate_succ']
            try simp
          rw [hset] at HPU
          have HPU := Lib.hid HPU
          have HNR9 := Lib.hid (own_other (own_other HNR.out HG8.out (fun b hb e => by injection hb with hb; have h9 : g1 = b := hb; have := HBLK.out b e; omega)) st.2 (fun b hb e => by injection hb with hb; injection e with e; have h9 : g1 = b := hb; omega))
          have HND9 := Lib.hid (own_other (own_other HND.out HG8.out (fun b hb e => by injection hb with hb; have h9 : g2 = b := hb; have := HBLK.out b e; omega)) st.2 (fun b hb e => by injection hb with hb; injection e with e; have h9 : g2 = b := hb; omega))
          have HB9 := Lib.hid ((HB.out.grown HG8.out HB.out.size (fun b e => Nat.le_trans hgB (HBLK.out b e))).grown st.2 (Nat.le_trans HB.out.size HG8.out.size) (fun b e => by injection e with e; omega))
          clear st hset k5 k6 cg
          go_wp2
          go_roundw
          case rel => exact ⟨j + 1, _, _, by go_num, by omega, HPU.out, HNR9.out, HND9.out, HB9.out⟩
          case measure => simp [intOf] <;> omega
        obtain rfl : j = D := by omega
        have h4 : decide ((j : Int) < (j : Int)) = false := by simp
        have cr := nrow_at HNR.out him
        rw [HRE.out] at cr
        obtain ⟨j0, hj0⟩ : ∃ j0, j0 = j := ⟨_, rfl⟩
        subst hj0
        rename World => w6
        go_wp2
        go_loopw [51] (fun jv wx => ∃ (j : Nat) (vs : List Value) (es : List (List Value)), jv = .int .i64 j ∧ j ≤ RE ∧ TM OkI wx w2.heap.size 49 3 w2.heap.size k k w3.heap.size 0 vs es (QI.set i (List.replicate j0 0 ++ List.replicate j 1)) ∧ NRow wx w.heap.size g1 c1 k1 re ∧ NRow wx w.heap.size g2 c2 k1 du ∧ Below w.heap.size w wx) (fun jv _ => RE - (intOf jv).toNat)
        case atStart => exact ⟨0, vs, es, rfl, by omega, by show TM _ _ _ _ _ _ _ _ _ _ _ _ (QI.set i (List.replicate j0 0 ++ [])); rw [List.append_nil]; exact HT.out, HNR.out, HND.out, HB.out⟩
        case round =>
          obtain ⟨j, vs, es, rfl, hj, hT, hnr, hnd, hb⟩ := hrel
          have HT := Lib.hid hT; have HNR := Lib.hid hnr; have HND := Lib.hid hnd; have HB := Lib.hid hb
          clear hT hnr hnd hb
          by_cases hlt : j < RE
          case pos =>
            have h4 : decide ((j : Int) < (RE : Int)) = true := decide_eq_true (by omega)
            have cg := HT.out.ts.cellAt hik
            obtain ⟨av, cv, hv⟩ := (HT.out.ts.q i hik).shape
            have hQi : (QI.set i (List.replicate j0 0 ++ List.replicate j 1)).getD i [] = (List.replicate j0 0 ++ List.replicate j 1) := by rw [getD_set' (by rw [HLQ.out]; exact hik), if_pos rfl]
            have hel := (HT.out.ts.el i hik).1
            rw [hQi] at hel
            have hel2 : (es.getD i []).length ≤ 200 := by rw [← hel]; simp; omega
            have HQI2 := Lib.hid hQi
            rw [hv] at cg
            have HQR : Hid (QRow wr w2.heap.size 3 (.slice av (es.getD i []).length cv) (es.getD i [])) := by
              have := HT.out.ts.q i hik
              rwa [hv] at this
            have HSM : Hid ((es.getD i []).length + 1 ≤ 1099511627776) := by show _ ≤ _; omega
            obtain ⟨ne, hne⟩ : ∃ ne, (es.getD i []).length = ne := ⟨_, rfl⟩
            have HV := Lib.hid hv
            rw [hne] at cg HQR HV hel2
            have hBw : w2.heap.size ≤ wr.heap.size := Nat.le_of_lt (HT.out.ts.row.lt w2.heap.size rfl).2
            clear hv hQi hel hne
            go_wp2_with (at_builtin; refine wpList_appQ slInt rfl _ _ rfl rfl HQR.out (.int .i64 1) rfl rfl rfl HSM.out hBw ?_; intro v8 w8 hq8 hg8 ht8
                         have hsh8 : ∃ a n d, v8 = .slice a n d := hq8.shape.elim fun a h => h.elim fun c h => ⟨a, _, c, h⟩
                         obtain ⟨a8, n8, c8, rfl⟩ := hsh8
                         have hA := HT.out.appd hik HV.out (Below.refl wr.heap.size wr) hg8
                         have HQ8 := Lib.hid hq8; have HG8 := Lib.hid hA.1; have HT8 := Lib.hid ht8; have HRW := Lib.hid hA.2.1
                         have k5 := hA.2.2.1; have k6 := hA.2.2.2
                         clear hq8 hg8 ht8 hA)
            have st := HRW.out.stored i (.slice a8 n8 c8)
            have HBLK : Hid (∀ b, (Value.slice av ne cv).ownBlock = some b → w2.heap.size ≤ b) := fun b e => ((HT.out.ts.lt okI).2.1 i hik b (by rw [HV.out]; exact e)).1
            have HPU := HT.out.push okI hik (y := 1) (x := .int .i64 1) rfl (fun b hb => by cases hb) HQ8.out (by rw [HV.out]; exact HG8.out) (by
              rw [HV.out]
              rcases HT8.out with h | h
              · exact .inl h
              · exact .inr ⟨_, h, by omega⟩) st.1 st.2
            have hset : (QI.set i (List.replicate j0 0 ++ List.replicate j 1)).set i ((QI.set i (List.replicate j0 0 ++ List.replicate j 1)).getD i [] ++ [1]) = QI.set i (List.replicate j0 0 ++ List.replicate (j + 1) 1) := by
              rw [List.set_set, HQI2.out, List.replicate_succ']
              try simp
            rw [hset] at HPU
            have HPU := Lib.hid HPU
            have HNR9 := Lib.hid (own_other (own_other HNR.out HG8.out (fun b hb e => by injection hb with hb; have h9 : g1 = b := hb; have := HBLK.out b e; omega)) st.2 (fun b hb e => by injection hb with hb; injection e with e; have h9 : g1 = b := hb; omega))
            have HND9 := Lib.hid (own_other (own_other HND.out HG8.out (fun b hb e => by injection hb with hb; have h9 : g2 = b := hb; have := HBLK.out b e; omega)) st.2 (fun b hb e => by injection hb with hb; injection e with e; have h9 : g2 = b := hb; omega))
            have HB9 := Lib.hid ((HB.out.grown HG8.out HB.out.size (fun b e => Nat.le_trans hgB (HBLK.out b e))).grown st.2 (Nat.le_trans HB.out.size HG8.out.size) (fun b e => by injection e with e; omega))
            clear st hset k5 k6 cg
            go_wp2
            go_roundw
            case rel => exact ⟨j + 1, _, _, by go_num, by omega, HPU.out, HNR9.out, HND9.out, HB9.out⟩
            case measure => simp [intOf] <;> omega
          obtain rfl : j = RE := by omega
          have h4 : decide ((j : Int) < (j : Int)) = false := by simp
          rw [← HSET.out] at HT
          go_wp2
          go_roundw
          case rel => exact ⟨i + 1, vs, es, by go_num, by omega, HT.out, HNR.out, HND.out, HB.out⟩
          case measure => simp [intOf] <;> omega
    · obtain rfl : i = k1 := by omega
      have h3 : decide ((i : Int) < (i : Int)) = false := by simp
      have htm := HT.out
      rw [HQ0.out] at htm
      have HPO := Lib.hid (polyI_any okI OkI.sh (mrg := List.sum) (z := 0) (sz := fun x => x) (Pre := fun xs => wt (fun x => x) xs ≤ 1000) (I := fun Q => tot (fun x => x) Q ≤ 1000) (fun e Q hQ he hne => by
        obtain ⟨h8, h9⟩ := tot_step (mrg := List.sum) (z := 0) (sz := fun x => x) sum_wt he hne
        exact ⟨by rw [h8]; exact hQ, Nat.le_trans h9 hQ⟩) w2.heap.size w2.heap.size k k w3.heap.size 12 0 vs es Q0 R P S wr (fvI w3.heap.size) hk3 hk8 HG.out (by omega) HRP.out (Nat.le_trans HT0.out (by omega)) (by omega) htm (by omega))
      clear htm HT HNR HND
      go_wp2_with fail
      refine HPO.out.mono ?_
      rintro e w7 ⟨v, X, rfl, hR, hok, hmo, hb7⟩
      rw [Nat.zero_add] at hmo
      have HB7 := Lib.hid (HB.out.trans (hb7.mono hgB))
      have cm := hmo.cell
      unfold OkI at hok
      subst hok
      clear hR hb7 hmo HPO HB
      go_wp2_with fail
      go_quiet (fail)
      go_wp2
      go_ret3
      exact ⟨by rw [HRUN.out]; rfl, below_drewN HB7.out _⟩
end Go.Proofs.Ytcdfinkefahloaa

namespace Go.Proofs.Ytcdfinkefahloaa
open Go.RowKit Ply
set_option linter.unusedVariables false

namespace Ply
section
variable {α β : Type}
def mm (φ : α → β) (Q : List (List α)) : List (List β) := Q.map (List.map φ)
theorem mm_get (φ : α → β) (Q : List (List α)) (j : Nat) : (mm φ Q).getD j [] = (Q.getD j []).map φ := by
  unfold mm
  rw [List.getD_eq_getElem?_getD, List.getElem?_map, List.getD_eq_getElem?_getD]
  cases Q[j]? <;> rfl
theorem mm_len (φ : α → β) (Q : List (List α)) : (mm φ Q).length = Q.length := by simp [mm]
theorem mm_cnt (φ : α → β) (Q : List (List α)) : cnt (mm φ Q) = cnt Q := by
  unfold cnt mm
  rw [List.map_map]
  apply List.map_congr_left
  intro q _
  simp
theorem mm_tails (φ : α → β) (e : Nat) (Q : List (List α)) (i : Nat) : tailsTo e (mm φ Q) i = mm φ (tailsTo e Q i) := by
  refine ext_getD [] (by rw [tails_len, mm_len, mm_len, tails_len]) (fun j hj => ?_)
  rw [tails_len, mm_len] at hj
  rw [tails_get (by rw [mm_len]; exact hj), mm_get, mm_get, tails_get hj]
  split
  · rw [List.map_tail]
  · rfl
theorem mm_heads (φ : α → β) {z1 : α} {z2 : β} (hz : φ z1 = z2) (e : Nat) (Q : List (List α)) (i : Nat) : headsTo z2 e (mm φ Q) i = (headsTo z1 e Q i).map φ := by
  unfold headsTo
  rw [List.map_map]
  apply List.map_congr_left
  intro j _
  rw [mm_get, ← hz]
  show _ = φ ((Q.getD j []).headD z1)
  cases Q.getD j [] <;> rfl
theorem mm_set (φ : α → β) (Q : List (List α)) (i : Nat) (q : List α) : (mm φ Q).set i (q.map φ) = mm φ (Q.set i q) := by
  unfold mm
  rw [List.map_set]
variable {m1 : List α → α} {m2 : List β → β} {z1 : α} {z2 : β} {s1 : α → Nat} {s2 : β → Nat}
theorem mm_step (φ : α → β) (hm : ∀ xs, φ (m1 xs) = m2 (xs.map φ)) (hz : φ z1 = z2) (e : Nat) (Q : List (List α)) : stepF m2 z2 e (mm φ Q) = mm φ (stepF m1 z1 e Q) := by
  unfold stepF
  rw [mm_len, mm_tails, mm_get, mm_heads φ hz, ← hm, ← mm_set, List.map_append]
  rfl
theorem mm_steps (φ : α → β) (hm : ∀ xs, φ (m1 xs) = m2 (xs.map φ)) (hz : φ z1 = z2) (e : Nat) (Q : List (List α)) : ∀ k, stepsF m2 z2 e (mm φ Q) k = mm φ (stepsF m1 z1 e Q k)
  | 0 => rfl
  | k + 1 => by rw [stepsF, mm_steps φ hm hz e Q k, mm_step φ hm hz]; rfl
theorem mm_moved (φ : α → β) (hm : ∀ xs, φ (m1 xs) = m2 (xs.map φ)) (hz : φ z1 = z2) (hs : ∀ x, s1 x = s2 (φ x)) (e : Nat) (Q : List (List α)) : ∀ k, movedF m2 z2 s2 e (mm φ Q) k = movedF m1 z1 s1 e Q k
  | 0 => rfl
  | k + 1 => by rw [movedF, movedF, mm_moved φ hm hz hs e Q k, mm_steps φ hm hz, mm_heads φ hz, mm_len, ← hm, ← hs]
theorem mm_poly (φ : α → β) (hm : ∀ xs, φ (m1 xs) = m2 (xs.map φ)) (hz : φ z1 = z2) (hs : ∀ x, s1 x = s2 (φ x)) : ∀ (f : Nat) (Q : List (List α)), (polyF m2 z2 s2 f (mm φ Q)).2 = (polyF m1 z1 s1 f Q).2
  | 0, Q => rfl
  | f + 1, Q => by
    rw [polyF, polyF, mm_cnt]
    by_cases h : (cnt Q).sum = 1
    · rw [if_pos h, if_pos h]
    · rw [if_neg h, if_neg h, mm_steps φ hm hz, mm_moved φ hm hz hs]
      have ih := mm_poly φ hm hz hs f (stepsF m1 z1 (emF (cnt Q)) Q (leF (cnt Q)))
      rw [ih]
theorem mm_load (φ : α → β) (hz : φ z1 = z2) (du re : List Nat) (Ls : List α) (k i : Nat) : mm φ (loadTo du re Ls z1 k i) = loadTo du re (Ls.map φ) z2 k i := by
  unfold mm loadTo
  rw [List.map_map]
  apply List.map_congr_left
  intro j _
  show List.map φ (if j < i then ldAt du re Ls z1 j else []) = _
  split
  · unfold ldAt
    rw [List.map_append, List.map_replicate, hz, List.map_take, List.map_drop]
  · rfl
end
section
variable {α : Type} {mrg : List α → α} {z : α} {sz : α → Nat}
theorem poly_phs : ∀ (f : Nat) (Q : List (List α)), good f (cnt Q) = true → (polyF mrg z sz f Q).2.1 = phs f (cnt Q)
  | 0, Q, h => by cases h
  | f + 1, Q, h => by
    rw [polyF, phs]
    by_cases h1 : (cnt Q).sum = 1
    · rw [if_pos h1, if_pos h1]
    · have hG := good_at h h1
      have hlt : emF (cnt Q) < Q.length := by have := hG.lt; rwa [cnt_len] at this
      have hz : (Q.getD (emF (cnt Q)) []).length = 0 := by have := hG.zero; rwa [cnt_get] at this
      have ih := poly_phs f (stepsF mrg z (emF (cnt Q)) Q (leF (cnt Q))) (by rw [steps_after hlt hz]; exact hG.next)
      rw [if_neg h1, if_neg h1]
      show _ + 1 = _ + 1
      rw [ih, steps_after hlt hz]
theorem poly_one : ∀ (f : Nat) (Q : List (List α)), good f (cnt Q) = true → (cnt (polyF mrg z sz f Q).1).sum = 1
  | 0, Q, h => by cases h
  | f + 1, Q, h => by
    by_cases h1 : (cnt Q).sum = 1
    · rw [poly_end h1]; exact h1
    · have hG := good_at h h1
      have hlt : emF (cnt Q) < Q.length := by have := hG.lt; rwa [cnt_len] at this
      have hz : (Q.getD (emF (cnt Q)) []).length = 0 := by have := hG.zero; rwa [cnt_get] at this
      have ih := poly_one f (stepsF mrg z (emF (cnt Q)) Q (leF (cnt Q))) (by rw [steps_after hlt hz]; exact hG.next)
      rw [polyF, if_neg h1]
      exact ih
def AllQ (P : α → Prop) (Q : List (List α)) : Prop := ∀ q ∈ Q, ∀ x ∈ q, P x
theorem allQ_tails {P : α → Prop} {e : Nat} {Q : List (List α)} (h : AllQ P Q) (i : Nat) : AllQ P (tailsTo e Q i) := by
  intro q hq x hx
  unfold tailsTo at hq
  obtain ⟨j, hj, rfl⟩ := List.mem_map.1 hq
  have hj2 : j < Q.length := List.mem_range.1 hj
  have hm : Q.getD j [] ∈ Q := by rw [List.getD_eq_getElem?_getD, List.getElem?_eq_getElem hj2]; exact List.getElem_mem hj2
  split at hx
  · exact h _ hm x (List.mem_of_mem_tail hx)
  · exact h _ hm x hx
theorem allQ_step {P : α → Prop} (hp : ∀ xs, P (mrg xs)) {e : Nat} {Q : List (List α)} (h : AllQ P Q) : AllQ P (stepF mrg z e Q) := by
  intro q hq x hx
  rcases List.mem_or_eq_of_mem_set hq with h1 | h1
  · exact allQ_tails h _ q h1 x hx
  · subst h1
    rcases List.mem_append.1 hx with h2 | h2
    · by_cases he : e < Q.length
      · have hm : Q.getD e [] ∈ Q := by rw [List.getD_eq_getElem?_getD, List.getElem?_eq_getElem he]; exact List.getElem_mem he
        exact h _ hm x h2
      · rw [List.getD_eq_getElem?_getD, List.getElem?_eq_none (by omega)] at h2
        cases h2
    · rw [List.mem_singleton.1 h2]; exact hp _
theorem allQ_steps {P : α → Prop} (hp : ∀ xs, P (mrg xs)) {e : Nat} {Q : List (List α)} (h : AllQ P Q) : ∀ k, AllQ P (stepsF mrg z e Q k)
  | 0 => h
  | k + 1 => allQ_step hp (allQ_steps hp h k)
theorem allQ_poly {P : α → Prop} (hp : ∀ xs, P (mrg xs)) : ∀ (f : Nat) (Q : List (List α)), AllQ P Q → AllQ P (polyF mrg z sz f Q).1
  | 0, Q, h => h
  | f + 1, Q, h => by
    rw [polyF]
    split
    · exact h
    · exact allQ_poly hp f _ (allQ_steps hp h _)
theorem allQ_load {P : α → Prop} (hz : P z) {du re : List Nat} {Ls : List α} (h : ∀ x ∈ Ls, P x) (k i : Nat) : AllQ P (loadTo du re Ls z k i) := by
  intro q hq x hx
  unfold loadTo at hq
  obtain ⟨j, _, rfl⟩ := List.mem_map.1 hq
  split at hx
  · unfold ldAt at hx
    rcases List.mem_append.1 hx with h1 | h1
    · rw [(List.mem_replicate.1 h1).2]; exact hz
    · exact h x (List.mem_of_mem_drop (List.mem_of_mem_take h1))
  · cases hx
end
end Ply

/-- What a polyphase merge yields is ascending. -/
theorem pm_asc {k : Nat} {Ls : List (List (Int × Int))} (h : lsOk Ls = true) {X : List (Int × Int)} (hX : (pmRun k Ls).1.flatten = [X]) : Mg.Asc Mg.ltF X := by
  have h1 : AllQ (Mg.Asc Mg.ltF) (pmRun k Ls).1 := allQ_poly (fun xs => Mg.srt_asc (Mg.swK _) _) 12 _ (allQ_load (Mg.asc_nil) (lsOk_asc h).1 _ _)
  have h2 : X ∈ (pmRun k Ls).1.flatten := by rw [hX]; exact List.mem_singleton.2 rfl
  obtain ⟨q, hq, hx⟩ := List.mem_flatten.1 h2
  exact h1 q hq X hx
theorem pm_cnt {k n : Nat} {Ls : List (List (Int × Int))} (h3 : 3 ≤ k) (h8 : k ≤ 8) (hn1 : 1 ≤ n) (hn40 : n ≤ 40) (hl : Ls.length = n) : cnt (pmLoad k n Ls) = startC k n := by
  have hC := chk (tapes := k) (runs := n) h3 h8 hn1 hn40
  exact load_cnt (by omega) hl hC.s1 rfl rfl
theorem pm_one {k n : Nat} {Ls : List (List (Int × Int))} (h3 : 3 ≤ k) (h8 : k ≤ 8) (hn1 : 1 ≤ n) (hn40 : n ≤ 40) (hl : Ls.length = n) : ∃ X, (pmRun k Ls).1.flatten = [X] := by
  have hC := chk (tapes := k) (runs := n) h3 h8 hn1 hn40
  have hg : good 12 (cnt (pmLoad k n Ls)) = true := by rw [pm_cnt h3 h8 hn1 hn40 hl]; exact hC.good
  have h1 := poly_one (mrg := mrgT) (z := ([] : List (Int × Int))) (sz := List.length) 12 _ hg
  unfold cnt at h1
  rw [← List.length_flatten] at h1
  unfold pmRun
  rw [hl]
  exact List.length_eq_one_iff.1 h1
/-- No record is lost. -/
theorem pm_len {k n : Nat} {Ls : List (List (Int × Int))} (h3 : 3 ≤ k) (h8 : k ≤ 8) (hn1 : 1 ≤ n) (hn40 : n ≤ 40) (hl : Ls.length = n) {X : List (Int × Int)} (hX : (pmRun k Ls).1.flatten = [X]) : X.length = Ls.flatten.length := by
  have hC := chk (tapes := k) (runs := n) h3 h8 hn1 hn40
  have hc := pm_cnt h3 h8 hn1 hn40 hl
  have hg : good 12 (cnt (pmLoad k n Ls)) = true := by rw [hc]; exact hC.good
  have h4 := poly_tot (mrg := mrgT) (z := ([] : List (Int × Int))) (sz := List.length) mrgT_len 12 (pmLoad k n Ls) hg
  have h5 : tot List.length (pmLoad k n Ls) = Ls.flatten.length := by
    unfold pmLoad
    rw [load_tot (sz := List.length) rfl (k - 1) (by rw [hC.l1]; exact Nat.le_refl _) (by omega), List.take_of_length_le (l := (dumF k n).1) (by rw [hC.l1]; exact Nat.le_refl _), hC.s1, ← hl, List.take_length, List.length_flatten]
    rfl
  unfold pmRun at hX
  rw [hl] at hX
  rw [tot_flatten, hX, h5] at h4
  simpa [wt] using h4
/-- Runs of one record: what is moved, and in how many phases. -/
theorem pm_ones {k n : Nat} {Ls : List (List (Int × Int))} (h3 : 3 ≤ k) (h8 : k ≤ 8) (hn1 : 1 ≤ n) (hn40 : n ≤ 40) (h1 : Ls.map List.length = List.replicate n 1) :
    (pmRun k Ls).2.2 = (pvRun k n).2.2 ∧ (pvRun k n).2.1 = levF k n := by
  have hl : Ls.length = n := by have := congrArg List.length h1; simpa using this
  have hC := chk (tapes := k) (runs := n) h3 h8 hn1 hn40
  have hc := pm_cnt h3 h8 hn1 hn40 hl
  have hg : good 12 (cnt (pmLoad k n Ls)) = true := by rw [hc]; exact hC.good
  have hmm : mm List.length (pmLoad k n Ls) = pvLoad k n := by
    unfold pmLoad pvLoad
    rw [mm_load (z1 := ([] : List (Int × Int))) (z2 := 0) List.length rfl, h1]
  have hp := mm_poly (m1 := mrgT) (m2 := List.sum) (z1 := ([] : List (Int × Int))) (z2 := 0) (s1 := List.length) (s2 := fun x => x) List.length (fun xs => mrgT_len xs) rfl (fun x => rfl) 12 (pmLoad k n Ls)
  rw [hmm] at hp
  constructor
  · unfold pmRun pvRun
    rw [hl, hp]
  · unfold pvRun
    rw [hp, poly_phs 12 _ hg, hc, hC.phs]

end Go.Proofs.Ytcdfinkefahloaa

namespace Go.Proofs.Ytcdfinkefahloaa
open Go.RowKit Ply
set_option linter.unusedVariables false

def LoadE (w : World) (k : Nat) (Q : List (List (List (Int × Int)))) (e : Ending) (w' : World) : Prop :=
  ∃ (B g c : Nat) (vs : List Value) (es : List (List Value)), w.heap.size ≤ B ∧ e = .returned (.slice (some ⟨g, 0, none⟩) k c) ∧ TS OkT w' B 24 27 g k c vs es Q ∧ Below w.heap.size w w'

set_option maxRecDepth 100000 in
set_option maxHeartbeats 8000000 in
theorem load18_any (k k1 n ra c : Nat) (Ls : List (List (Int × Int))) (hs : List Value) (w : World) (hk1 : k = k1 + 1) (hk3 : 3 ≤ k) (hk8 : k ≤ 8) (hn1 : 1 ≤ n) (hn40 : n ≤ 40) (hln : Ls.length = n) (hra : ra < w.heap.size) (hcell : ∀ j v, hs[j]? = some v → w.cell? ⟨ra, j, none⟩ = some v) (hok : All2 (OkT w) Ls hs) :
    Calls Try.prog 30 #[.slice (some ⟨ra, 0, none⟩) n c, .int .i64 k] w (LoadE w k (pmLoad k n Ls)) := by
  have hC := chk (tapes := k) (runs := n) hk3 hk8 hn1 hn40
  have hkk : k - 1 = k1 := by omega
  have HDM : Hid (Calls Try.prog 50 #[.int .i64 k, .int .i64 n] w (DumE w k1 (dumF k n))) := (by
    obtain ⟨m, hm⟩ : ∃ m, k1 = Nat.succ m := ⟨k1 - 1, by omega⟩
    have hk2 : k = Nat.succ (Nat.succ m) := by omega
    subst hm; subst hk2
    exact dummies18_any m n _ w (by omega) (by omega) (by omega) (by omega) hC)
  obtain ⟨re, hre⟩ : ∃ re, (dumF k n).1 = re := ⟨_, rfl⟩
  obtain ⟨du, hdu⟩ : ∃ du, (dumF k n).2 = du := ⟨_, rfl⟩
  have hl1 := hC.l1; have hl2 := hC.l2; have hs1 := hC.s1; have hs2 := hC.s2
  have HP2 : Hid (dumF k n = (re, du)) := by show _ = _; rw [← hre, ← hdu]
  rw [hre] at hl1 hs1
  rw [hdu] at hl2 hs2
  rw [hkk] at hl1 hl2
  have hQL : pmLoad k n Ls = loadTo du re Ls [] k k1 := by unfold pmLoad; rw [hre, hdu, hkk]
  rw [hQL]
  have HS1 := Lib.hid hs1; have HL1 := Lib.hid hl1; have HL2 := Lib.hid hl2; have HS2 := Lib.hid hs2; have HLN := Lib.hid hln
  have HL12 : Hid (∀ i, du.getD i 0 ≤ 60) := fun i => Nat.le_trans (getD_sum du i) hs2
  have HCELL := Lib.hid hcell; have HOK := Lib.hid hok
  have HK1 := Lib.hid hk1
  have hk1k : k1 < k := by omega
  clear hk1 hC hkk hre hdu hl1 hl2 hs1 hs2 hQL hln hcell hok
  go_enter Try.func30, Try.ntmps30
  go_wp2_with fail
  refine HDM.out.mono ?_
  rw [HP2.out]
  rintro e w1 ⟨g1, c1, g2, c2, rfl, hnr, hnd, hb1⟩
  have HNR := Lib.hid hnr; have HND := Lib.hid hnd; have HB1 := Lib.hid hb1
  clear hnr hnd hb1 HDM
  obtain ⟨B, hB⟩ : ∃ B, w1.heap.size = B := ⟨_, rfl⟩
  have hwB : w.heap.size ≤ B := by rw [← hB]; exact HB1.out.size
  have hg1 : g1 < B := by rw [← hB]; exact (HNR.out.lt g1 rfl).2
  have hg2 : g2 < B := by rw [← hB]; exact (HND.out.lt g2 rfl).2
  have E0 := Lib.hid (own_lit (w := w1) (e := 24) (size := 1) #[] 0 (by omega) rfl)
  have hba := (Below.refl w1.heap.size w1).alloc (Nat.le_refl _) (Obj.cells #[] 24)
  have HT0 : Hid (TS OkT (w1.alloc (.cells #[] 24)) B 24 27 w1.heap.size 0 0 [] [] (loadL du re Ls [] 0)) := ts_none (own_mono E0.out (by omega))
  have HNR4 := Lib.hid (own_below HNR.out (Nat.le_refl _) hba)
  have HND4 := Lib.hid (own_below HND.out (Nat.le_refl _) hba)
  have HB4 := Lib.hid (HB1.out.trans (hba.mono HB1.out.size))
  have hsz4 : B ≤ (w1.alloc (.cells #[] 24)).heap.size := by rw [← hB]; exact hba.size
  clear hba HNR HND HB1 E0
  go_wp2
  go_loopw [7, 8, 9] (fun qv av iv wx => ∃ (i g c : Nat) (vs : List Value) (es : List (List Value)), qv = .slice (some ⟨g, 0, none⟩) i c ∧ av = .int .i64 ((re.take i).sum : Nat) ∧ iv = .int .i64 i ∧ i ≤ k1 ∧ TS OkT wx B 24 27 g i c vs es (loadL du re Ls [] i) ∧ NRow wx w.heap.size g1 c1 k1 re ∧ NRow wx w.heap.size g2 c2 k1 du ∧ Below w.heap.size w wx ∧ B ≤ wx.heap.size) (fun _ _ iv _ => k1 - (intOf iv).toNat)
  case atStart => exact ⟨0, _, _, _, _, rfl, rfl, rfl, by omega, (by have h := HT0.out; rw [hB] at h; exact h), HNR4.out, HND4.out, HB4.out, hsz4⟩
  case round =>
    obtain ⟨i, g, c0, vs, es, rfl, rfl, rfl, hi, hT, hnr, hnd, hb, hBx⟩ := hrel
    have HT := Lib.hid hT; have HNR := Lib.hid hnr; have HND := Lib.hid hnd; have HB := Lib.hid hb
    clear hT hnr hnd hb HT0 HNR4 HND4 HB4 hsz4
    rename World => w5
    have b9 : (k : Int) - 1 = (k1 : Int) := by have := HK1.out; omega
    by_cases him : i < k1
    · have h3 : decide ((i : Int) < (k : Int) - 1) = true := decide_eq_true (by omega)
      have b0 : (0 : Int) ≤ (i : Int) := by omega
      have b1 : (i : Int) < (k1 : Int) := by omega
      obtain ⟨L, hL⟩ : ∃ L, w5.heap.size = L := ⟨_, rfl⟩
      have E1 := Lib.hid (own_lit (w := w5) (e := 27) (size := 1) #[] 0 (by omega) rfl)
      have hba := (Below.refl w5.heap.size w5).alloc (Nat.le_refl _) (Obj.cells #[] 27)
      have HQ0 : Hid (QB OkT (w5.alloc (.cells #[] 27)) B L 27 (.slice (some ⟨w5.heap.size, 0, none⟩) 0 0) [] []) := QB.nil (by omega) E1.out rfl
      have HBA := Lib.hid (show Below L w5 _ from hL ▸ hba)
      have HCD : Hid (∀ W, Below L w5 W → W.cell? ⟨g2, i, none⟩ = some (.int .i64 (du.getD i 0 : Nat)) ∧ W.cell? ⟨g1, i, none⟩ = some (.int .i64 (re.getD i 0 : Nat))) := fun W h => ⟨nrow_at (own_below HND.out (by omega) h) him, nrow_at (own_below HNR.out (by omega) h) him⟩
      have hd60 := HL12.out i
      obtain ⟨D, hD⟩ : ∃ D, du.getD i 0 = D := ⟨_, rfl⟩
      obtain ⟨RE, hRE⟩ : ∃ RE, re.getD i 0 = RE := ⟨_, rfl⟩
      obtain ⟨S0, hS0⟩ : ∃ S0, (re.take i).sum = S0 := ⟨_, rfl⟩
      have hoff : S0 + RE ≤ n := by
        have := off_le (Ls := Ls) (re := re) (i := i) (by rw [HS1.out, HLN.out])
        rw [hRE, HLN.out, hS0] at this; exact this
      have HDD := Lib.hid hD; have HRE := Lib.hid hRE; have HS0 := Lib.hid hS0
      rw [hD, hRE] at HCD
      rw [hD] at hd60
      rw [hS0]
      clear hba E1 hD hRE hS0
      go_wp2
      go_loopw [10, 11] (fun qv nv wx => ∃ (j : Nat) (es1 : List Value), nv = .int .i64 j ∧ j ≤ D ∧ QB OkT wx B L 27 qv es1 (List.replicate j []) ∧ Below L w5 wx) (fun _ nv _ => D - (intOf nv).toNat)
      case atStart => exact ⟨0, [], rfl, by omega, (by have h := HQ0.out; rw [hL] at h; exact h), HBA.out⟩
      case round =>
        obtain ⟨j, es1, rfl, hj, hq, hb⟩ := hrel
        have HQ := Lib.hid hq; have HBX := Lib.hid hb
        clear hq hb HQ0 HBA
        have hwx : L ≤ wr.heap.size := hL ▸ HBX.out.size
        have hlen : es1.length = j := by have := HQ.out.el.1; simpa using this.symm
        obtain ⟨cd, cr⟩ := HCD.out _ HBX.out
        by_cases hjD : j < D
        · have h4 : decide ((j : Int) < (D : Int)) = true := decide_eq_true (by omega)
          have E2 := Lib.hid (own_lit (w := wr) (e := 32) (size := 2) #[] 0 (by omega) rfl)
          have hba := (Below.refl wr.heap.size wr).alloc (Nat.le_refl _) (Obj.cells #[] 32)
          have HQ2 := Lib.hid (HQ.out.below okT hba)
          have hszd : (wr.alloc (Obj.cells #[] 32)).heap.size = wr.heap.size + 1 := by rw [World.size_alloc]
          have HOKD : Hid (OkT (wr.alloc (Obj.cells #[] 32)) [] (.slice (some ⟨wr.heap.size, 0, none⟩) 0 0)) := ⟨by simp [Mg.Asc], ⟨some ⟨wr.heap.size, 0, none⟩, 0, rfl, rd_own E2.out⟩, fun b hb => by injection hb with hb; have h9 : wr.heap.size = b := hb; omega⟩
          have hn40 : es1.length + 1 ≤ 1099511627776 := by omega
          have hwd : L ≤ (wr.alloc (Obj.cells #[] 32)).heap.size := by omega
          have HBD := Lib.hid (HBX.out.trans (hba.mono hwx))
          have HSZ := Lib.hid hszd
          clear hba E2 hszd
          go_wp2_with (at_builtin; refine wpList_app1 slTap rfl _ _ rfl rfl HQ2.out.own [.slice (some ⟨wr.heap.size, 0, none⟩) 0 0] rfl rfl (by simp) (by simp [Value.oneCell']) hn40 hwd ?_; intro v' w7 hown' hg' ht')
          have HQ7 := Lib.hid (HQ2.out.app okT HOKD.out (fun b hb => by injection hb with hb; have h9 : wr.heap.size = b := hb; exact ⟨fun e => by have := (HQ.out.lt e).2; omega, .inr (by omega)⟩) hown' hg' ht')
          have HB7 := Lib.hid (HBD.out.grown hg' hwd (fun b e => (HQ2.out.lt e).1))
          clear hown' hg' ht'
          go_roundw
          case rel => exact ⟨j + 1, _, by go_num, by omega, by rw [List.replicate_succ']; exact HQ7.out, HB7.out⟩
          case measure => simp [intOf] <;> omega
        obtain rfl : j = D := by omega
        have h4 : decide ((j : Int) < (j : Int)) = false := by simp
        rename World => w6
        have HBX0 := Lib.hid HBX.out
        have HQX := Lib.hid HQ.out
        clear HBX HQ
        go_wp2
        go_loopw [8, 10, 12] (fun av qv nv wx => ∃ (j2 at2 : Nat) (es2 : List Value), av = .int .i64 at2 ∧ at2 = S0 + j2 ∧ nv = .int .i64 j2 ∧ j2 ≤ RE ∧ QB OkT wx B L 27 qv es2 (List.replicate j [] ++ (Ls.drop S0).take j2) ∧ Below L w5 wx) (fun _ _ nv _ => RE - (intOf nv).toNat)
        case atStart => exact ⟨0, S0, es1, rfl, rfl, rfl, by omega, by rw [List.take_zero, List.append_nil]; exact HQX.out, HBX0.out⟩
        case round =>
          obtain ⟨j2, at2, es2, rfl, hat, rfl, hj2, hq, hb⟩ := hrel
          have HQ := Lib.hid hq; have HBX := Lib.hid hb; have HAT := Lib.hid hat
          clear hq hb hat HBX0 HQX cd cr
          have hwx : L ≤ wr.heap.size := hL ▸ HBX.out.size
          obtain ⟨cd, cr⟩ := HCD.out _ HBX.out
          have hln2 : (Ls.drop S0).length = n - S0 := by rw [List.length_drop, HLN.out]
          have hlen : es2.length = j + j2 := by
            have := HQ.out.el.1
            rw [List.length_append, List.length_replicate, List.length_take, hln2] at this
            omega
          have hBw := HB.out.trans (HBX.out.mono (show w.heap.size ≤ L by omega))
          have HBW := Lib.hid hBw
          clear hBw hln2
          by_cases hjR : j2 < RE
          · have h5 : decide ((j2 : Int) < (RE : Int)) = true := decide_eq_true (by omega)
            have hat1 := HAT.out
            have hatn : at2 < n := by omega
            obtain ⟨y, x, hy, hx, hyx⟩ := HOK.out.at (j := at2) (by have := HOK.out.1; rw [HLN.out] at this; omega)
            have hxw := okT.kept hyx (grown_of_below (row := none) HBW.out) (fun b hb e => nomatch e)
            have cx : wr.cell? ⟨ra, at2, none⟩ = some x := by rw [← HCELL.out at2 x hx]; exact HBW.out.cell hra
            obtain ⟨xa, xn, xd, rfl⟩ := hyx.sh
            have HXW := Lib.hid hxw; have HYX := Lib.hid hyx; have HY := Lib.hid hy
            have b2 : (0 : Int) ≤ (at2 : Int) := by omega
            have b3 : (at2 : Int) < (n : Int) := by omega
            have hn40 : es2.length + 1 ≤ 1099511627776 := by omega
            clear hyx hxw hx hy hat1
            go_wp2_with (at_builtin; refine wpList_app1 slTap rfl _ _ rfl rfl HQ.out.own [.slice xa xn xd] rfl rfl (by simp) (by simp [Value.oneCell']) hn40 hwx ?_; intro v' w7 hown' hg' ht')
            have HQ7 := Lib.hid (HQ.out.app okT HXW.out (fun b hb => by have h1 := okT.lt HYX.out hb; exact ⟨fun e => by have := (HQ.out.lt e).1; omega, .inl (by omega)⟩) hown' hg' ht')
            have HB7 := Lib.hid (HBX.out.grown hg' hwx (fun b e => (HQ.out.lt e).1))
            have HTS : Hid ((List.replicate j [] ++ (Ls.drop S0).take j2) ++ [y] = List.replicate j [] ++ (Ls.drop S0).take (j2 + 1)) := by
              show _ = _
              rw [List.take_add_one, List.getElem?_drop, ← HAT.out, HY.out, List.append_assoc]; rfl
            clear hown' hg' ht'
            go_roundw
            case rel => exact ⟨j2 + 1, at2 + 1, _, by go_num, by have := HAT.out; omega, by go_num, by omega, by rw [← HTS.out]; exact HQ7.out, HB7.out⟩
            case measure => simp [intOf] <;> omega
          obtain rfl : j2 = RE := by omega
          have h5 : decide ((j2 : Int) < (j2 : Int)) = false := by simp
          obtain ⟨aq, cq, rfl⟩ := own_slice HQ.out.own
          have HT6 := Lib.hid (HT.out.below okT (w' := wr) (by have := HBX.out; rw [← hL] at this; exact this))
          have HNR6 := Lib.hid (own_below HNR.out (Nat.le_of_eq hL) HBX.out)
          have HND6 := Lib.hid (own_below HND.out (Nat.le_of_eq hL) HBX.out)
          have hi40 : i + 1 ≤ 1099511627776 := by omega
          have hBr : B ≤ wr.heap.size := by omega
          have HLT := Lib.hid (HT.out.lt okT)
          obtain ⟨N2, hN2⟩ : ∃ N2, es2.length = N2 := ⟨_, rfl⟩
          have HN2 := Lib.hid hN2
          rw [hN2] at HQ ⊢
          clear HT HNR HND hN2
          go_wp2_with (at_builtin; refine wpList_app1 slTL rfl _ _ rfl rfl HT6.out.row [.slice aq N2 cq] rfl rfl (by simp) (by simp [Value.oneCell']) hi40 hBr ?_; intro v' w7 hown' hg' ht')
          obtain ⟨a7, c7, rfl⟩ := own_slice hown'
          obtain ⟨g7, rfl, _, _, _⟩ := own_cell hown' (by omega)
          have hgB := (HT6.out.row.lt g rfl).1
          have hg7' : wr.grownBy w7 (some g) := hg'
          have ht7 : g7 = g ∨ wr.heap.size ≤ g7 := by
            rcases ht' with h | h
            · injection h with h; exact .inl h
            · injection h with h; have h9 : g7 = wr.heap.size + 1 := h; exact .inr (by omega)
          have hlt := HLT.out
          rw [hL] at hlt
          have HT7 := Lib.hid (HT6.out.snoc okT ⟨hlt.1, fun j hj b hb => (hlt.2.1 j hj b hb).2⟩ hlt.2.2 HQ.out (by omega) hown' hg7' ht7)
          have HNR7 := Lib.hid (own_other HNR6.out hg7' (fun b hb e => by injection hb with hb; injection e with e; have h9 : g1 = b := hb; omega))
          have HND7 := Lib.hid (own_other HND6.out hg7' (fun b hb e => by injection hb with hb; injection e with e; have h9 : g2 = b := hb; omega))
          have HB7 := Lib.hid (HBW.out.grown hg7' (by omega) (fun b e => by injection e with e; omega))
          have hsz7 : B ≤ w7.heap.size := Nat.le_trans hBr hg7'.size
          have HSS : Hid (at2 = (re.take (i + 1)).sum) := by show _ = _; rw [take_sum_succ (by rw [HL1.out]; exact him), HS0.out, HRE.out]; exact HAT.out
          have HQL : Hid (loadL du re Ls [] i ++ [List.replicate j [] ++ (Ls.drop S0).take j2] = loadL du re Ls [] (i + 1)) := by
            show _ = _
            rw [loadL_succ]; unfold ldAt; rw [HDD.out, HRE.out, HS0.out]
          clear hown' hg' ht' hg7' ht7 hlt
          go_roundw
          case rel => exact ⟨i + 1, g7, c7, _, _, by go_num, by rw [← HSS.out], by go_num, by omega, by rw [← HQL.out]; exact HT7.out, HNR7.out, HND7.out, HB7.out, hsz7⟩
          case measure => simp [intOf] <;> omega
    obtain rfl : i = k1 := by omega
    have h3 : decide ((i : Int) < (k : Int) - 1) = false := by simp; omega
    have E1 := Lib.hid (own_lit (w := w5) (e := 27) (size := 1) #[] 0 (by omega) rfl)
    have hba := (Below.refl w5.heap.size w5).alloc (Nat.le_refl _) (Obj.cells #[] 27)
    have HQ0 : Hid (QB OkT (w5.alloc (.cells #[] 27)) B w5.heap.size 27 (.slice (some ⟨w5.heap.size, 0, none⟩) 0 0) [] []) := QB.nil (by omega) E1.out rfl
    have HT6 := Lib.hid (HT.out.below okT hba)
    have hi40 : i + 1 ≤ 1099511627776 := by omega
    have hBr : B ≤ (w5.alloc (.cells #[] 27)).heap.size := by rw [World.size_alloc]; omega
    have HLT := Lib.hid (HT.out.lt okT)
    have HBW := Lib.hid (HB.out.trans (hba.mono HB.out.size))
    have HSZ : Hid ((w5.alloc (.cells #[] 27)).heap.size = w5.heap.size + 1) := by show _ = _; rw [World.size_alloc]
    clear HT E1 hba HNR HND
    go_wp2_with (at_builtin; refine wpList_app1 slTL rfl _ _ rfl rfl HT6.out.row [.slice (some ⟨w5.heap.size, 0, none⟩) 0 0] rfl rfl (by simp) (by simp [Value.oneCell']) hi40 hBr ?_; intro v' w7 hown' hg' ht')
    obtain ⟨a7, c7, rfl⟩ := own_slice hown'
    obtain ⟨g7, rfl, _, _, _⟩ := own_cell hown' (by omega)
    have hgB := (HT6.out.row.lt g rfl).1
    have ht7 : g7 = g ∨ (w5.alloc (.cells #[] 27)).heap.size ≤ g7 := by
      rcases ht' with h | h
      · injection h with h; exact .inl h
      · injection h with h; have h9 : g7 = _ + 1 := h; exact .inr (by omega)
    have hlt := HLT.out
    have HT7 := Lib.hid (HT6.out.snoc okT ⟨hlt.1, fun j hj b hb => (hlt.2.1 j hj b hb).2⟩ hlt.2.2 HQ0.out (by omega) hown' hg' ht7)
    have HB7 := Lib.hid (HBW.out.grown hg' (by omega) (fun b e => by injection e with e; have h9 : g = b := e; omega))
    clear hown' hg' ht' ht7 hlt
    go_wp2
    go_ret
    have hk := HK1.out
    subst hk
    exact ⟨B, g7, c7, _, _, hwB, rfl, by rw [← loadL_end]; exact HT7.out, HB7.out⟩
end Go.Proofs.Ytcdfinkefahloaa

