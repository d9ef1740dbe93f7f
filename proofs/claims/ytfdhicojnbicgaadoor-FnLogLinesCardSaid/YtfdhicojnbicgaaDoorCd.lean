/- Walks: the texts that the log's laws draw. -/
import Derived.Test.YtfdhicojnbicgaaDoorCz
namespace Go.Proofs.YtfdhicojnbicgaaDoor
open Go.RowKit
set_option linter.unusedVariables false

theorem zeros_size {X : ByteArray} {n : Nat} (h : X = ba (List.replicate n 0)) : X.size = n := by rw [h, ba_size, List.length_replicate]

theorem encB_small {k : Nat} {x r : ByteArray} (hx : x.size ≤ 20) (hr : r.size ≤ 20) (hk : k < 10) : (encB k x r).size ≤ 100 := by
  have h1 := Tx.digits_len 0 k (by omega)
  have h2 := Tx.digits_len 5 (Tx.sumL (Tx.body k (recE x r))) (by have := Tx.sumL_lt (Tx.body k (recE x r)); omega)
  have hx' := bs_len x
  have hr' := bs_len r
  unfold encB
  rw [size_mk]
  unfold Tx.lineE Tx.sealL
  rw [List.length_append, List.length_append, List.length_cons]
  have h3 : (Tx.body k (recE x r)).length ≤ 43 := by
    unfold Tx.body recE
    simp only [List.length_append, List.length_cons]
    omega
  simp only [List.length_cons, List.length_nil]
  omega

set_option maxRecDepth 100000 in
set_option maxHeartbeats 8000000 in
theorem drawRecoverLog_any (ac : Option Addr) (c : Nat) (cs : List Int) (w : World) (hl : cs.length ≤ 65537) (h : BytesAt w ac cs) :
    Calls Tryd.prog 43 #[.slice ac cs.length c] w fun e w' => (∃ s : ByteArray, e = .returned (.string s) ∧ s.size ≤ 40000) ∧ Below w.heap.size w w' := by
  have D0 := Lib.hid (cur_start c hl h)
  have B1 := Lib.hid (below_new w (.cells #[.slice ac cs.length c, .int .i64 0, .int .u64 0] 91))
  have H1 := Lib.hid (log_any w.heap.size ac cs 0 _ (by omega) D0.out.cur D0.out.hold)
  unfold logV at *
  clear h
  go_enter Tryd.func43, Tryd.ntmps43
  go_wp2_with fail
  refine H1.out.mono ?_
  rintro e w1 ⟨⟨d, p, n, rfl, hs, hn0, hn1⟩, hD⟩
  have D2 := Lib.hid (D0.out.trans hD)
  clear hD H1 D0
  have D3 := Lib.hid (D2.out.alloc (.cells #[.string d, .string p, .int .i64 n] 31))
  have Q2 := Lib.hid (show Lrow (w1.alloc (.cells #[.string d, .string p, .int .i64 n] 31)) w1.heap.size d p n from block_new w1 _)
  obtain ⟨a0, a1, a2, af⟩ := Q2.out.cells
  have e1 := add_runs (P := Tryd.prog) (a := d) (b := p) (by omega) (by omega)
  have hsz : (d ++ p).size = d.size + p.size := size_add d p
  obtain ⟨S, hS⟩ : ∃ S, S = d ++ p := ⟨_, rfl⟩
  rw [← hS] at e1 hsz
  have hS2 : S.size ≤ 2200 := by omega
  have H2 := Lib.hid (pick_any w.heap.size ac cs (0 + 200) 4 _ (by omega) (by omega) D3.out.cur)
  clear D2 hsz hS
  go_wp2_with fail
  refine H2.out.mono ?_
  rintro e w2 ⟨⟨q, rfl, hq0, hq1⟩, hc, hg⟩
  have D4 := Lib.hid (D3.out.step hc hg)
  clear hc hg H2 D3 Q2 a0 a1 a2 af e1
  have HEND : True := trivial
  by_cases hq : q = 0
  · subst hq
    have H3 := Lib.hid (spoilt_any w.heap.size ac cs (0 + 200 + 2) S ⟨#[35, 62, 10, 48, 49]⟩ _ (by omega) (by omega) (by decide) (by decide) D4.out.cur)
    go_wp2_with fail
    refine H3.out.mono ?_
    rintro e w3 ⟨⟨s, rfl, hsz⟩, hc, hg⟩
    have D5 := Lib.hid ((D4.out.step hc hg).mono (M' := 250) (by omega))
    have hs4 : s.size ≤ 9000 := by omega
    clear hc hg H3 D4 hsz
    have H9 := Lib.hid (one_any w.heap.size ac cs 250 40 _ (by omega) (by omega) D5.out.cur)
    go_wp2_with fail
    refine H9.out.mono ?_
    rintro e w8 ⟨⟨b, rfl⟩, hc, hg⟩
    have D8 := Lib.hid (D5.out.step hc hg)
    clear hc hg H9 D5
    cases b
    · have DF := Lib.hid (D8.out.fin B1.out (Nat.le_refl _))
      go_wp2
      go_ret
      exact ⟨⟨_, rfl, by omega⟩, DF.out⟩
    · have H9 := Lib.hid (pick_any w.heap.size ac cs (250 + 2) 2 _ (by omega) (by omega) D8.out.cur)
      go_wp2_with fail
      refine H9.out.mono ?_
      rintro e w9 ⟨⟨q9, rfl, hq90, hq91⟩, hc, hg⟩
      have D9 := Lib.hid (D8.out.step hc hg)
      have DF := Lib.hid (D9.out.fin B1.out (Nat.le_refl _))
      clear hc hg H9 D8 D9
      rcases (by omega : q9 = 0 ∨ q9 = 1) with rfl | rfl
      · obtain ⟨X, hX⟩ : ∃ X : ByteArray, X = ba (List.replicate 30000 0) := ⟨_, rfl⟩
        have HX := Lib.hid hX; clear hX
        go_wp2_with (at_make; refine wpList_mk slU8 rfl _ _ rfl 30000 rfl rfl (by omega) ?_)
        intro w10 ho hb hs4
        have HC := Lib.hid (made_zeros (n := 30000) ho)
        have DG := Lib.hid (DF.out.trans (hb.mono DF.out.size))
        clear ho hb DF
        go_wp2_with (refine wpList_backS rfl 64 9 5 (.tmp 46) rfl (List.replicate 30000 0) rfl rfl Tryd.underlying9 Tryd.underlying64 Tryd.underlying5 HC.out HX.out ?_)
        go_wp2
        go_ret
        exact ⟨⟨X, rfl, by rw [zeros_size HX.out]; omega⟩, DG.out⟩
      · obtain ⟨X, hX⟩ : ∃ X : ByteArray, X = ba (List.replicate 30001 0) := ⟨_, rfl⟩
        have HX := Lib.hid hX; clear hX
        go_wp2_with (at_make; refine wpList_mk slU8 rfl _ _ rfl 30001 rfl rfl (by omega) ?_)
        intro w10 ho hb hs4
        have HC := Lib.hid (made_zeros (n := 30001) ho)
        have DG := Lib.hid (DF.out.trans (hb.mono DF.out.size))
        clear ho hb DF
        go_wp2_with (refine wpList_backS rfl 64 9 5 (.tmp 46) rfl (List.replicate 30001 0) rfl rfl Tryd.underlying9 Tryd.underlying64 Tryd.underlying5 HC.out HX.out ?_)
        go_wp2
        go_ret
        exact ⟨⟨X, rfl, by rw [zeros_size HX.out]; omega⟩, DG.out⟩
  have q1 : (q == 0) = false := by simpa using hq
  by_cases hq : q = 1
  · subst hq
    have H3 := Lib.hid (pick_any w.heap.size ac cs (0 + 200 + 2) ((S.size : Int) + 1) _ (by omega) (by omega) D4.out.cur)
    go_wp2_with fail
    refine H3.out.mono ?_
    rintro e w3 ⟨⟨r, rfl, hr0, hr1⟩, hc, hg⟩
    have D5 := Lib.hid ((D4.out.step hc hg).mono (M' := 250) (by omega))
    obtain ⟨k, rfl⟩ := Int.eq_ofNat_of_zero_le hr0
    have hk : k ≤ S.size := by omega
    have hs4 : (S.extract 0 k).size ≤ 9000 := by simp; omega
    clear hc hg H3 D4 hr0 hr1
    have hk0 : (0 : Int) ≤ (k : Int) := by omega
    have hk1 : (k : Int) ≤ (S.size : Int) := by omega
    have H9 := Lib.hid (one_any w.heap.size ac cs 250 40 _ (by omega) (by omega) D5.out.cur)
    go_wp2_with fail
    refine H9.out.mono ?_
    rintro e w8 ⟨⟨b, rfl⟩, hc, hg⟩
    have D8 := Lib.hid (D5.out.step hc hg)
    clear hc hg H9 D5
    cases b
    · have DF := Lib.hid (D8.out.fin B1.out (Nat.le_refl _))
      go_wp2
      go_ret
      exact ⟨⟨_, rfl, by omega⟩, DF.out⟩
    · have H9 := Lib.hid (pick_any w.heap.size ac cs (250 + 2) 2 _ (by omega) (by omega) D8.out.cur)
      go_wp2_with fail
      refine H9.out.mono ?_
      rintro e w9 ⟨⟨q9, rfl, hq90, hq91⟩, hc, hg⟩
      have D9 := Lib.hid (D8.out.step hc hg)
      have DF := Lib.hid (D9.out.fin B1.out (Nat.le_refl _))
      clear hc hg H9 D8 D9
      rcases (by omega : q9 = 0 ∨ q9 = 1) with rfl | rfl
      · obtain ⟨X, hX⟩ : ∃ X : ByteArray, X = ba (List.replicate 30000 0) := ⟨_, rfl⟩
        have HX := Lib.hid hX; clear hX
        go_wp2_with (at_make; refine wpList_mk slU8 rfl _ _ rfl 30000 rfl rfl (by omega) ?_)
        intro w10 ho hb hs4
        have HC := Lib.hid (made_zeros (n := 30000) ho)
        have DG := Lib.hid (DF.out.trans (hb.mono DF.out.size))
        clear ho hb DF
        go_wp2_with (refine wpList_backS rfl 64 9 5 (.tmp 46) rfl (List.replicate 30000 0) rfl rfl Tryd.underlying9 Tryd.underlying64 Tryd.underlying5 HC.out HX.out ?_)
        go_wp2
        go_ret
        exact ⟨⟨X, rfl, by rw [zeros_size HX.out]; omega⟩, DG.out⟩
      · obtain ⟨X, hX⟩ : ∃ X : ByteArray, X = ba (List.replicate 30001 0) := ⟨_, rfl⟩
        have HX := Lib.hid hX; clear hX
        go_wp2_with (at_make; refine wpList_mk slU8 rfl _ _ rfl 30001 rfl rfl (by omega) ?_)
        intro w10 ho hb hs4
        have HC := Lib.hid (made_zeros (n := 30001) ho)
        have DG := Lib.hid (DF.out.trans (hb.mono DF.out.size))
        clear ho hb DF
        go_wp2_with (refine wpList_backS rfl 64 9 5 (.tmp 46) rfl (List.replicate 30001 0) rfl rfl Tryd.underlying9 Tryd.underlying64 Tryd.underlying5 HC.out HX.out ?_)
        go_wp2
        go_ret
        exact ⟨⟨X, rfl, by rw [zeros_size HX.out]; omega⟩, DG.out⟩
  have q2 : (q == 1) = false := by simpa using hq
  by_cases hq : q = 2
  · subst hq
    have H3 := Lib.hid (pick_any w.heap.size ac cs (0 + 200 + 2) 4 _ (by omega) (by omega) D4.out.cur)
    go_wp2_with fail
    refine H3.out.mono ?_
    rintro e w3 ⟨⟨k, rfl, hk0, hk1⟩, hc, hg⟩
    have D6 := Lib.hid (D4.out.step hc hg)
    clear hc hg H3 D4
    have H4 := Lib.hid (logRecord_any w.heap.size ac cs (0 + 200 + 2 + 2) _ (by omega) D6.out.cur D6.out.hold)
    unfold recV at H4
    go_wp2_with fail
    refine H4.out.mono ?_
    rintro e w4 ⟨⟨x, r, rfl, hx, hr⟩, hD⟩
    have D7 := Lib.hid (D6.out.trans hD)
    clear hD H4 D6
    have H5 := Lib.hid (l25Line_any k x r w4 hk0 (by omega) (by omega) (by omega))
    unfold recV at H5
    go_wp2_with fail
    refine H5.out.mono ?_
    rintro e w5 ⟨rfl, hb⟩
    have DE := Lib.hid ((D7.out.below hb).mono (M' := 250) (by omega))
    have hE := encB_small (k := k.toNat) hx hr (by omega)
    have e9 := add_runs (P := Tryd.prog) (a := S) (b := encB k.toNat x r) (by omega) (by omega)
    have hsz := size_add S (encB k.toNat x r)
    have hs4 : (S ++ encB k.toNat x r).size ≤ 9000 := by omega
    clear H5 D7 hsz hE hb hk0 hk1
    have H9 := Lib.hid (one_any w.heap.size ac cs 250 40 _ (by omega) (by omega) DE.out.cur)
    go_wp2_with fail
    refine H9.out.mono ?_
    rintro e w8 ⟨⟨b, rfl⟩, hc, hg⟩
    have D8 := Lib.hid (DE.out.step hc hg)
    clear hc hg H9 DE
    cases b
    · have DF := Lib.hid (D8.out.fin B1.out (Nat.le_refl _))
      go_wp2
      go_ret
      exact ⟨⟨_, rfl, by omega⟩, DF.out⟩
    · have H9 := Lib.hid (pick_any w.heap.size ac cs (250 + 2) 2 _ (by omega) (by omega) D8.out.cur)
      go_wp2_with fail
      refine H9.out.mono ?_
      rintro e w9 ⟨⟨q9, rfl, hq90, hq91⟩, hc, hg⟩
      have D9 := Lib.hid (D8.out.step hc hg)
      have DF := Lib.hid (D9.out.fin B1.out (Nat.le_refl _))
      clear hc hg H9 D8 D9
      rcases (by omega : q9 = 0 ∨ q9 = 1) with rfl | rfl
      · obtain ⟨X, hX⟩ : ∃ X : ByteArray, X = ba (List.replicate 30000 0) := ⟨_, rfl⟩
        have HX := Lib.hid hX; clear hX
        go_wp2_with (at_make; refine wpList_mk slU8 rfl _ _ rfl 30000 rfl rfl (by omega) ?_)
        intro w10 ho hb hs4
        have HC := Lib.hid (made_zeros (n := 30000) ho)
        have DG := Lib.hid (DF.out.trans (hb.mono DF.out.size))
        clear ho hb DF
        go_wp2_with (refine wpList_backS rfl 64 9 5 (.tmp 46) rfl (List.replicate 30000 0) rfl rfl Tryd.underlying9 Tryd.underlying64 Tryd.underlying5 HC.out HX.out ?_)
        go_wp2
        go_ret
        exact ⟨⟨X, rfl, by rw [zeros_size HX.out]; omega⟩, DG.out⟩
      · obtain ⟨X, hX⟩ : ∃ X : ByteArray, X = ba (List.replicate 30001 0) := ⟨_, rfl⟩
        have HX := Lib.hid hX; clear hX
        go_wp2_with (at_make; refine wpList_mk slU8 rfl _ _ rfl 30001 rfl rfl (by omega) ?_)
        intro w10 ho hb hs4
        have HC := Lib.hid (made_zeros (n := 30001) ho)
        have DG := Lib.hid (DF.out.trans (hb.mono DF.out.size))
        clear ho hb DF
        go_wp2_with (refine wpList_backS rfl 64 9 5 (.tmp 46) rfl (List.replicate 30001 0) rfl rfl Tryd.underlying9 Tryd.underlying64 Tryd.underlying5 HC.out HX.out ?_)
        go_wp2
        go_ret
        exact ⟨⟨X, rfl, by rw [zeros_size HX.out]; omega⟩, DG.out⟩
  have q3 : (q == 2) = false := by simpa using hq
  have D5 := Lib.hid (D4.out.mono (M' := 250) (by omega))
  have hs4 : S.size ≤ 9000 := by omega
  clear D4
  have H9 := Lib.hid (one_any w.heap.size ac cs 250 40 _ (by omega) (by omega) D5.out.cur)
  go_wp2_with fail
  refine H9.out.mono ?_
  rintro e w8 ⟨⟨b, rfl⟩, hc, hg⟩
  have D8 := Lib.hid (D5.out.step hc hg)
  clear hc hg H9 D5
  cases b
  · have DF := Lib.hid (D8.out.fin B1.out (Nat.le_refl _))
    go_wp2
    go_ret
    exact ⟨⟨_, rfl, by omega⟩, DF.out⟩
  · have H9 := Lib.hid (pick_any w.heap.size ac cs (250 + 2) 2 _ (by omega) (by omega) D8.out.cur)
    go_wp2_with fail
    refine H9.out.mono ?_
    rintro e w9 ⟨⟨q9, rfl, hq90, hq91⟩, hc, hg⟩
    have D9 := Lib.hid (D8.out.step hc hg)
    have DF := Lib.hid (D9.out.fin B1.out (Nat.le_refl _))
    clear hc hg H9 D8 D9
    rcases (by omega : q9 = 0 ∨ q9 = 1) with rfl | rfl
    · obtain ⟨X, hX⟩ : ∃ X : ByteArray, X = ba (List.replicate 30000 0) := ⟨_, rfl⟩
      have HX := Lib.hid hX; clear hX
      go_wp2_with (at_make; refine wpList_mk slU8 rfl _ _ rfl 30000 rfl rfl (by omega) ?_)
      intro w10 ho hb hs4
      have HC := Lib.hid (made_zeros (n := 30000) ho)
      have DG := Lib.hid (DF.out.trans (hb.mono DF.out.size))
      clear ho hb DF
      go_wp2_with (refine wpList_backS rfl 64 9 5 (.tmp 46) rfl (List.replicate 30000 0) rfl rfl Tryd.underlying9 Tryd.underlying64 Tryd.underlying5 HC.out HX.out ?_)
      go_wp2
      go_ret
      exact ⟨⟨X, rfl, by rw [zeros_size HX.out]; omega⟩, DG.out⟩
    · obtain ⟨X, hX⟩ : ∃ X : ByteArray, X = ba (List.replicate 30001 0) := ⟨_, rfl⟩
      have HX := Lib.hid hX; clear hX
      go_wp2_with (at_make; refine wpList_mk slU8 rfl _ _ rfl 30001 rfl rfl (by omega) ?_)
      intro w10 ho hb hs4
      have HC := Lib.hid (made_zeros (n := 30001) ho)
      have DG := Lib.hid (DF.out.trans (hb.mono DF.out.size))
      clear ho hb DF
      go_wp2_with (refine wpList_backS rfl 64 9 5 (.tmp 46) rfl (List.replicate 30001 0) rfl rfl Tryd.underlying9 Tryd.underlying64 Tryd.underlying5 HC.out HX.out ?_)
      go_wp2
      go_ret
      exact ⟨⟨X, rfl, by rw [zeros_size HX.out]; omega⟩, DG.out⟩

end Go.Proofs.YtfdhicojnbicgaaDoor
