/- Several texts in one: lemmas and walks of the functions that the law reaches. -/
import Derived.Test.YtmgkdokaaoeobaaY5
import Derived.Test.YtmgkdokaaoeobaaY13
import Derived.Lib.AppendZeros

namespace Go.Proofs.Ytmgkdokaaoeobaa.GG
open Go.RowKit Go.Sort
set_option linter.unusedVariables false

theorem isTop_any (k : Int) (w : World) : Calls Try.prog 20 #[.int .i64 k] w fun e w' => e = .returned (.bool (inB k 1 16)) ∧ w = w' := by
  have HN := Lib.hid (fun w1 => in_any k 1 16 w1)
  go_enter Try.func20, Try.ntmps20
  go_wp2_with (go_at_call 34; refine (HN.out _).mono ?_; rintro e w' ⟨rfl, rfl⟩)
  go_ret
  exact ⟨rfl, rfl⟩

set_option maxRecDepth 100000 in
set_option maxHeartbeats 4000000 in
theorem growG_any (k : Nat) (K : Int) (hK : K = (k : Int)) (w : World) (hk : k ≤ 1000000) :
    Calls Try.prog 32 #[.slice none 0 0, .int .i64 K] w fun e w' => ∃ v, e = .returned v ∧ w'.ownsRow w.heap.size 34 5 v 0 [] ∧ Below w.heap.size w w' := by
  subst hK
  obtain ⟨i, hi, hz, hs, hby⟩ := (slGrp).info
  by_cases h0 : k = 0
  · subst h0
    go_enter Try.func32, Try.ntmps32
    go_wp2
    go_ret
    exact ⟨_, rfl, ⟨rfl, .inl ⟨rfl, rfl⟩⟩, Below.refl _ _⟩
  · have hr := fun W => Lib.run_append_nil_zeros (P := Try.prog) W 26 3 26 34 i _ .i64 .i64 slGrp.und (by kernel_rfl) hi hz k (by omega) (by rw [hs]; omega) (by omega) (by rw [hby]; omega)
    go_enter Try.func32, Try.ntmps32
    go_wp2_with (at_builtin; refine Lib.wpList_append_run _ rfl _ _ _ _ rfl _ _ rfl rfl _ _ (hr _) ?_)
    go_ret
    have hcap1 := grownCap_ge w k 0 34
    have hcap2 := grownCap_le_maxLen w k 0 34 (by unfold maxLen; omega)
    refine ⟨_, rfl, ⟨rfl, .inr ⟨w.heap.size, _, _, rfl, Nat.le_refl _, heap_alloc_new w _, Nat.zero_le _, hcap2, ?_, by simp⟩⟩, ?_⟩
    · simp only [Array.size_append, size_zeroCells]
      show k * 5 + (grownCap w k 0 34 - k) * 5 = _
      omega
    · exact ((Below.refl w.heap.size w).alloc (Nat.le_refl _) _).drew

/-- The result of slices.Concat: an owned row. -/
def CatG (w : World) (N : Nat) (out : List G5) (e : Ending) (w' : World) : Prop :=
  ∃ v, e = .returned v ∧ w'.ownsRow w.heap.size 34 5 v N (flat encG out) ∧ Below w.heap.size w w'

set_option maxRecDepth 100000 in
set_option maxHeartbeats 4000000 in
theorem concatG_any (a a' : Option Addr) (n n' c c' B B' : Nat) (rs rs' : List G5) (vb : Nat) (w : World) (hs : n ≤ 1000) (hs' : n' ≤ 1000)
    (hvb : vb < w.heap.size) (c0 : w.cell? ⟨vb, 0, none⟩ = some (.slice a n c)) (c1 : w.cell? ⟨vb, 1, none⟩ = some (.slice a' n' c'))
    (h : w.ownsRow B 34 5 (.slice a n c) n (flat encG rs)) (h' : w.ownsRow B' 34 5 (.slice a' n' c') n' (flat encG rs')) :
    Calls Try.prog 18 #[.slice (some ⟨vb, 0, none⟩) 2 2] w (CatG w (n + n') (rs ++ rs')) := by
  have H := Lib.hid h
  have H' := Lib.hid h'
  clear h h'
  unfold CatG
  go_enter Try.func18, Try.ntmps18
  go_wp2
  go_loopw [3, 11] (fun s v wr => wr = w ∧ ((s = .int .i64 0 ∧ v = .int .i64 0) ∨ (s = .int .i64 n ∧ v = .int .i64 1) ∨ (s = .int .i64 ((n : Int) + n') ∧ v = .int .i64 2))) (fun s v _ => 2 - (intOf v).toNat)
  case atStart => exact ⟨rfl, .inl ⟨rfl, rfl⟩⟩
  case round =>
    obtain ⟨rfl, hst⟩ := hrel
    rcases hst with ⟨rfl, rfl⟩ | ⟨rfl, rfl⟩ | ⟨rfl, rfl⟩
    · go_wp2
      go_roundw
      case rel => exact ⟨trivial, .inr (.inl ⟨by go_num, rfl⟩)⟩
      case measure => decide
    · go_wp2
      go_roundw
      case rel => exact ⟨trivial, .inr (.inr ⟨by go_num, rfl⟩)⟩
      case measure => decide
    · go_wp2_with fail
      refine (growG_any (n + n') _ (by omega) wr (by omega)).mono ?_
      rintro e w1 ⟨v, rfl, ho, hb⟩
      have HO := Lib.hid ho
      have HB := Lib.hid hb
      clear ho hb
      have d0 := (HB.out.cell (p := ⟨vb, 0, none⟩) hvb).trans c0
      have d1 := (HB.out.cell (p := ⟨vb, 1, none⟩) hvb).trans c1
      have hz := HB.out.size
      go_wp2
      go_loopw [6, 27] (fun v i w2 => ∃ (N : Nat) (zs : List G5), N ≤ 2000 ∧ w2.cell? ⟨vb, 0, none⟩ = some (.slice a n c) ∧ w2.cell? ⟨vb, 1, none⟩ = some (.slice a' n' c') ∧ w2.ownsRow wr.heap.size 34 5 v N (flat encG zs) ∧ Below wr.heap.size wr w2 ∧ ((i = .int .i64 0 ∧ N = 0 ∧ zs = []) ∨ (i = .int .i64 1 ∧ N = n ∧ zs = rs) ∨ (i = .int .i64 2 ∧ N = n + n' ∧ zs = rs ++ rs'))) (fun _ i _ => 2 - (intOf i).toNat)
      case atStart => exact ⟨0, [], by omega, d0, d1, HO.out, HB.out, .inl ⟨rfl, rfl, rfl⟩⟩
      case round =>
        obtain ⟨N, zs, hN, e0, e1, ho, hb, hst⟩ := hrel
        have HO2 := Lib.hid ho
        have HB2 := Lib.hid hb
        clear ho hb HO HB d0 d1
        rcases hst with ⟨rfl, rfl, rfl⟩ | ⟨rfl, rfl, rfl⟩ | ⟨rfl, rfl, rfl⟩
        · have HR2 := Lib.hid (own_below H.out (Nat.le_refl _) HB2.out)
          have hsm : 0 + n ≤ 1099511627776 := by omega
          go_wp2_with (at_builtin; refine wpList_appL slGrp rfl _ _ rfl rfl HO2.out rfl HR2.out (encG_ones rs) hsm HB2.out.size ?_; intro v' w7 hown' hg' ht'; generalize hGG : wpList _ _ _ _ _ _ = GG)
          have HB8 := Lib.hid (HB2.out.grown hg' HB2.out.size (fun b e => (HO2.out.lt b e).1))
          have e2 := (HB8.out.cell (p := ⟨vb, 0, none⟩) hvb).trans c0
          have e3 := (HB8.out.cell (p := ⟨vb, 1, none⟩) hvb).trans c1
          have HO8 := Lib.hid hown'
          clear hown' hg' ht' HO2 HB2 e0 e1
          rw [← hGG]
          clear hGG GG
          go_wp2
          go_roundw
          case rel => exact ⟨_, rs, by omega, e2, e3, HO8.out, HB8.out, .inr (.inl ⟨by go_num, by omega, rfl⟩)⟩
          case measure => decide
        · have HR2 := Lib.hid (own_below H'.out (Nat.le_refl _) HB2.out)
          have hsm : N + n' ≤ 1099511627776 := by omega
          go_wp2_with (at_builtin; refine wpList_appL slGrp rfl _ _ rfl rfl HO2.out rfl HR2.out (encG_ones rs') hsm HB2.out.size ?_; intro v' w7 hown' hg' ht'; generalize hGG : wpList _ _ _ _ _ _ = GG)
          have HB8 := Lib.hid (HB2.out.grown hg' HB2.out.size (fun b e => (HO2.out.lt b e).1))
          have e2 := (HB8.out.cell (p := ⟨vb, 0, none⟩) hvb).trans c0
          have e3 := (HB8.out.cell (p := ⟨vb, 1, none⟩) hvb).trans c1
          have HO8 := Lib.hid hown'
          clear hown' hg' ht' HO2 HB2 e0 e1
          rw [← hGG]
          clear hGG GG
          go_wp2
          go_roundw
          case rel => exact ⟨_, zs ++ rs', by omega, e2, e3, by rw [flat_append]; exact HO8.out, HB8.out, .inr (.inr ⟨by go_num, rfl, rfl⟩)⟩
          case measure => decide
        · go_wp2
          go_ret
          exact ⟨_, rfl, HO2.out, HB2.out⟩

/-- A list of groups in new memory, and 'ok'. -/
def GB (w : World) (out : List G5) (e : Ending) (w' : World) : Prop :=
  ∃ (m g c : Nat), e = .returned (.tuple #[.slice (some ⟨g, 0, none⟩) m c, .bool true]) ∧ GRow w' w.heap.size g c m out ∧ Below w.heap.size w w'

set_option maxRecDepth 100000 in
set_option maxHeartbeats 4000000 in
theorem mergeGroups_yes (g g' n n' c c' B B' : Nat) (rs rs' out : List G5) (w : World) (hn : n ≤ 64) (hn' : n' ≤ 64) (hv : ∀ x ∈ rs, GV x) (hv' : ∀ x ∈ rs', GV x) (hs : Mg.Strict Mg.gKey rs) (hs' : Mg.Strict Mg.gKey rs')
    (ho : Mg.jn Mg.gKey Mg.gOp (Mg.srt (Mg.ltK Mg.gKey) (rs ++ rs')) = out) (hov : ∀ x ∈ out, GV x) (hos : Mg.Strict Mg.gKey out) (hol : out.length ≤ 64)
    (h : GRow w B g c n rs) (h' : GRow w B' g' c' n' rs') :
    Calls Try.prog 9 #[.slice (some ⟨g, 0, none⟩) n c, .slice (some ⟨g', 0, none⟩) n' c'] w (GB w out) := by
  have HV1 := Lib.hid (isValidGroups_ok B g c n rs w hn hv hs h)
  have HV2 := Lib.hid (fun W (hb : Below w.heap.size w W) => isValidGroups_ok B' g' c' n' rs' W hn' hv' hs' (own_below h' (Nat.le_refl _) hb))
  have HJb : Hid (Jb (rs ++ rs')) := by
    intro x hx
    have hx2 : GV x := by
      rcases List.mem_append.1 hx with h | h
      · exact hv x h
      · exact hv' x h
    obtain ⟨_, ⟨c1, l0, lm, m9, one, lo, hi⟩, hm⟩ := hx2
    refine ⟨c1, by omega, ?_, ?_⟩
    · have : 0 ≤ (x.2.1 - 1) * x.2.2.2.1 := Int.mul_nonneg (by omega) l0
      omega
    · have h1 : (x.2.1 - 1) * x.2.2.2.2 ≤ 999 * 999 := Int.mul_le_mul (by omega) (by omega) (by omega) (by omega)
      omega
  have HC := Lib.hid (fun W (hb : Below w.heap.size w W) => by
    have hb1 := hb.alloc hb.size (.cells #[.slice (some ⟨g, 0, none⟩) n c, .slice (some ⟨g', 0, none⟩) n' c'] 26)
    exact concatG_any (some ⟨g, 0, none⟩) (some ⟨g', 0, none⟩) n n' c c' B B' rs rs' W.heap.size (W.alloc (.cells #[.slice (some ⟨g, 0, none⟩) n c, .slice (some ⟨g', 0, none⟩) n' c'] 26)) (by omega) (by omega) (by simp) (by simp only [World.cell?, heap_alloc_new]; rfl) (by simp only [World.cell?, heap_alloc_new]; rfl) (own_below h (Nat.le_refl _) hb1) (own_below h' (Nat.le_refl _) hb1))
  have HJ := Lib.hid (fun (W : World) (a : Option Addr) (cc B : Nat) (hW : W.ownsRow B 34 5 (.slice a (n + n') cc) (n + n') (flat encG (rs ++ rs'))) => joined_any B cc (n + n') a (rs ++ rs') W (by omega) HJb.out hW)
  rw [ho] at HJ
  have HVO := Lib.hid (fun (W : World) (B g c n : Nat) (hW : GRow W B g c n out) => isValidGroups_ok B g c n out W (by have := grow_len hW; omega) hov hos hW)
  clear h h' hv hv' hs hs' ho hov hos
  unfold GB
  unfold CatG at HC
  unfold OwnG at HJ
  go_enter Try.func9, Try.ntmps9
  go_wp2_with fail
  refine HV1.out.mono ?_
  rintro e w1 ⟨rfl, hb⟩
  have HB1 := Lib.hid hb
  clear hb HV1
  go_wp2_with fail
  refine (HV2.out _ HB1.out).mono ?_
  rintro e w2 ⟨rfl, hb⟩
  have HB2 := Lib.hid (below_tr HB1.out hb HB1.out.size)
  clear hb HV2 HB1
  go_wp2_with fail
  refine (HC.out _ HB2.out).mono ?_
  rintro e w3 ⟨v, rfl, ho, hb3⟩
  have HO3 := Lib.hid ho
  have HB3 := Lib.hid (below_tr (HB2.out.alloc HB2.out.size _) hb3 (Nat.le_trans HB2.out.size (by simp)))
  obtain ⟨x, cc, rfl⟩ := own_slice ho
  clear ho hb3 HC HB2
  go_wp2_with fail
  refine (HJ.out _ _ _ _ HO3.out).mono ?_
  rintro e w4 ⟨m, g4, c4, rfl, ho4, hb4⟩
  have HO4 := Lib.hid ho4
  have HB4 := Lib.hid (below_tr HB3.out hb4 HB3.out.size)
  have hle := HB3.out.size
  clear ho4 hb4 HJ HO3 HB3
  go_wp2_with fail
  refine (HVO.out _ _ _ _ _ HO4.out).mono ?_
  rintro e w5 ⟨rfl, hb⟩
  have HO5 := Lib.hid (own_below HO4.out (Nat.le_refl _) hb)
  have HB5 := Lib.hid (below_tr HB4.out hb HB4.out.size)
  clear hb HO4 HB4 HVO
  go_wp2
  go_ret2
  exact ⟨m, g4, c4, rfl, own_mono HO5.out hle, HB5.out⟩

set_option maxRecDepth 100000 in
set_option maxHeartbeats 4000000 in
theorem topGroups_yes (g n c B k : Nat) (rs : List G5) (w : World) (hn : n ≤ 64) (hk1 : 1 ≤ k) (hk : k ≤ 16) (hv : ∀ x ∈ rs, GV x) (hs : Mg.Strict Mg.gKey rs) (h : GRow w B g c n rs) :
    Calls Try.prog 11 #[.slice (some ⟨g, 0, none⟩) n c, .int .i64 (k : Int)] w (GB w ((Mg.srt (Mg.ltK fun g : G5 => -g.2.1) rs).take k)) := by
  have hlen := grow_len h
  have HV1 := Lib.hid (isValidGroups_ok B g c n rs w hn hv hs h)
  have HT := Lib.hid (fun W => isTop_any (k : Int) W)
  rw [show inB (k : Int) 1 16 = true by simp [inB]; omega] at HT
  have HC := Lib.hid (fun W (hb : Below w.heap.size w W) => copyOfG_any B c n (some ⟨g, 0, none⟩) rs W (by omega) (own_below h (Nat.le_refl _) hb))
  have HSS := Lib.hid (fun B0 g c W h => sortStable_any (Mg.swK fun g : G5 => -g.2.1) B0 g c n rs W hlen (by omega) trivial (cntV_is g) h)
  obtain ⟨S, hS⟩ : ∃ S, Mg.srt (Mg.ltK fun g : G5 => -g.2.1) rs = S := ⟨_, rfl⟩
  have HSL : Hid (S.length = n) := by show _ = _; rw [← hS, Mg.srt_length]; exact hlen
  rw [hS] at HSS
  rw [hS]
  clear h hv hs hlen hS
  unfold GB
  unfold OwnG at HC
  go_enter Try.func11, Try.ntmps11
  go_wp2_with fail
  refine HV1.out.mono ?_
  rintro e w1 ⟨rfl, hb⟩
  have HB1 := Lib.hid hb
  clear hb HV1
  go_wp2_with fail
  refine (HT.out _).mono ?_
  rintro e w2 ⟨rfl, rfl⟩
  go_wp2_with fail
  refine (HC.out _ HB1.out).mono ?_
  rintro e w3 ⟨g3, c3, rfl, ho, hb⟩
  have HO3 := Lib.hid ho
  have hgw := (ho.lt g3 rfl).1
  have HB3 := Lib.hid (below_tr HB1.out hb HB1.out.size)
  have hle := HB1.out.size
  clear ho hb HC HB1
  go_wp2_with fail
  refine (HSS.out _ _ _ _ HO3.out).mono ?_
  rintro e w5 ⟨rfl, ho5, hg5⟩
  have HO5 := Lib.hid ho5
  have HB5 := Lib.hid (below_of_grown HB3.out HB3.out.size hg5 (fun k hk => by injection hk with hk; omega))
  obtain ⟨hc1, hc2⟩ := own_capG ho5
  clear ho5 hg5 HSS HB3
  obtain ⟨hh, hhe⟩ : ∃ hh, min k n = hh := ⟨_, rfl⟩
  have HM : Hid (min (k : Int) (n : Int) = (hh : Int)) := by show _ = _; omega
  have HH := Lib.hid hhe
  have b1 : hh ≤ n := by omega
  have b2 : (hh : Int) ≤ (c3 : Int) := by omega
  have b3 : (0 : Int) ≤ (hh : Int) := by omega
  have HO6 := Lib.hid (own_cutG HO5.out b1)
  clear hhe
  go_wp2_with fail
  go_ret2
  refine ⟨hh, g3, c3, ?_, ?_, HB5.out⟩
  · show Ending.returned (.tuple #[.slice (some ⟨g3, 0, none⟩) (min (k : Int) (n : Int)).toNat c3, .bool true]) = _
    rw [HM.out]; rfl
  have h6 := HO6.out
  rw [flat_takeG encG_len _ _ (by rw [HSL.out]; exact b1)] at h6
  have : S.take hh = S.take k := by
    rw [← HH.out, ← HSL.out]
    rcases Nat.le_total k S.length with h | h
    · rw [Nat.min_eq_left h]
    · rw [Nat.min_eq_right h, List.take_of_length_le (Nat.le_refl _), List.take_of_length_le h]
  rw [this] at h6
  exact own_mono h6 hle
end Go.Proofs.Ytmgkdokaaoeobaa.GG

namespace Go.Proofs.Ytmgkdokaaoeobaa.GG
open Go.RowKit Go.Sort
set_option linter.unusedVariables false

theorem okRecs_subZ {L K : List (Int × Int)} (h : okRecs L = true) (hs : K.Sublist L) : okRecs K = true := by
  unfold okRecs at h ⊢
  simp only [Bool.and_eq_true, decide_eq_true_eq, List.all_eq_true] at h ⊢
  exact ⟨Nat.le_trans hs.length_le h.1, fun x hx => h.2 x (hs.subset hx)⟩
theorem gs_cnt {rs : List (Int × Int)} (h : okRecs rs = true) : ∀ x ∈ Mg.gsOf rs, x.2.1 ≤ (rs.length : Int) := by
  intro x hx
  have h1 := (le_sum (f := fun g : G5 => g.2.1) (l := Mg.gsOf rs) (fun g hg => by have := (Mg.gsOf_ok (recs_tags h) g hg).c1; omega)).2 x hx
  rw [Mg.gsOf_count] at h1
  exact h1
theorem gs_valid {rs : List (Int × Int)} (h : okRecs rs = true) : ∀ x ∈ Mg.gsOf rs, GV x := by
  intro x hx
  refine ⟨?_, Mg.gsOf_ok (recs_tags h) x hx, by have := gs_cnt h x hx; have := okRecs_le h; omega⟩
  obtain ⟨y, hy, e⟩ := (Mg.jn_strict Mg.gJoin _ (Mg.srt_asc (Mg.swK Mg.gKey) _)).2.1 x hx
  obtain ⟨r, hr, rfl⟩ := List.mem_map.1 (Mg.srt_mem.1 hy)
  have e2 : x.1 = r.1 := e
  rw [e2]
  unfold okRecs at h
  simp only [Bool.and_eq_true, List.all_eq_true] at h
  have := h.2 r hr
  unfold okRec at this
  simp only [Bool.and_eq_true] at this
  exact this.1
theorem gs_len (rs : List (Int × Int)) : (Mg.gsOf rs).length ≤ rs.length := by
  have h := jn_len (Mg.srt (Mg.ltK Mg.gKey) (rs.map Mg.gOne))
  rw [Mg.srt_length, List.length_map] at h
  exact h
theorem cnt_take {L : List G5} {i : Nat} (hi : i < L.length) : ((L.take (i + 1)).map fun g => g.2.1).sum = ((L.take i).map fun g => g.2.1).sum + (L.getD i (0, 0, 0, 0, 0)).2.1 := by
  rw [List.take_add_one, List.getElem?_eq_getElem hi, List.map_append, List.sum_append, List.getD_eq_getElem?_getD, List.getElem?_eq_getElem hi]
  simp
theorem cnt_bnd {L : List G5} (h : ∀ g ∈ L, 0 ≤ g.2.1) (i : Nat) : 0 ≤ ((L.take i).map fun g => g.2.1).sum ∧ ((L.take i).map fun g => g.2.1).sum ≤ (L.map fun g => g.2.1).sum := by
  have h1 := (le_sum (f := fun g : G5 => g.2.1) (l := L.take i) (fun g hg => h g (List.mem_of_mem_take hg))).1
  have h2 := (le_sum (f := fun g : G5 => g.2.1) (l := L.drop i) (fun g hg => h g (List.mem_of_mem_drop hg))).1
  have e : (L.map fun g => g.2.1).sum = ((L.take i).map fun g => g.2.1).sum + ((L.drop i).map fun g => g.2.1).sum := by
    rw [← List.sum_append, ← List.map_append, List.take_append_drop]
  omega

set_option maxRecDepth 100000 in
set_option maxHeartbeats 8000000 in
theorem lawGroups_any (ac : Option Addr) (cc : Nat) (cs : List Int) (w : World) (hbig : cs.length ≤ 9223372036854775807) (h : BytesAt w ac cs) :
    Calls Try.prog 3 #[.slice ac cs.length cc] w fun e w' => e = .returned (.bool true) ∧ Below w.heap.size w w' := by
  have HV := Lib.hid (vBigG_any ac cs.length cc w hbig)
  by_cases hl : 65536 < cs.length
  · rw [decide_eq_true hl] at HV
    clear h
    go_enter Try.func3, Try.ntmps3
    go_wp2_with (go_at_call 4; refine HV.out.mono ?_; rintro e w' ⟨rfl, rfl⟩)
    go_ret
    exact ⟨rfl, Below.refl _ _⟩
  rw [decide_eq_false hl] at HV
  have HD := Lib.hid (drawGroupRecords_any ac cc cs w (by omega) h)
  have hcl : cs.length ≤ 65537 := by omega
  have HBY := Lib.hid h
  clear h
  unfold GrDraw at HD
  go_enter Try.func3, Try.ntmps3
  go_wp2_with fail
  refine HV.out.mono ?_
  rintro e w1 ⟨rfl, rfl⟩
  go_wp2_with fail
  refine HD.out.mono ?_
  rintro e w1 ⟨a, n, c, rs, rfl, ho, hrl, hn70, hb⟩
  have HR1 := Lib.hid (rd_own ho); have HB1 := Lib.hid hb
  have HAD : Hid (a = none ∧ n = 0 ∧ c = 0 ∨ ∃ g, a = some ⟨g, 0, none⟩) := by
    rcases ho.2 with ⟨h2, h3⟩ | ⟨g, cap, cur, hv, _⟩
    · injection h2 with h4 h5 h6
      exact .inl ⟨h4, h3, h6⟩
    · injection hv with h4 h5 h6
      exact .inr ⟨g, h4⟩
  have HBY1 := Lib.hid (HBY.out.below (Nat.le_refl _) hb)
  have HRL := Lib.hid hrl
  clear ho hb HD HV HBY hrl
  cases hok : okRecs rs
  · go_wp2_with fail
    refine (groupRecords_no a n c rs w1 (by omega) hok HR1.out).mono ?_
    rintro e w2 ⟨rfl, hb⟩
    have HB2 := Lib.hid (below_tr HB1.out hb HB1.out.size); have HR2 := Lib.hid (HR1.out.same hb)
    clear hb HR1 HB1 HBY1
    go_wp2_with fail
    refine (specIVG_any a c n rs w2 (by omega) HR2.out).mono ?_
    rintro e w3 ⟨rfl, rfl⟩
    rw [hok]
    clear hok
    go_wp2
    go_ret
    exact ⟨rfl, HB2.out⟩
  have HOK := Lib.hid hok
  have hn64 : n ≤ 64 := by rw [← HRL.out]; exact okRecs_le hok
  go_wp2_with fail
  refine (groupRecords_yes a n c rs w1 hok HR1.out).mono ?_
  rintro e w2 ⟨n1, g1, c1, rfl, ho, hb⟩
  have HG2 := Lib.hid ho
  have HB2 := Lib.hid (below_tr HB1.out hb HB1.out.size); have HR2 := Lib.hid (HR1.out.same hb); have HBY2 := Lib.hid (HBY1.out.below (Nat.le_refl _) hb)
  clear ho hb HR1 HB1 HBY1
  go_wp2_with fail
  refine (specIVG_any a c n rs w2 (by omega) HR2.out).mono ?_
  rintro e w3 ⟨rfl, rfl⟩
  rw [hok]
  clear hok
  have HS := Lib.hid (Mg.gsOf_strict rs)
  have HVA := Lib.hid (gs_valid HOK.out)
  have HCT := Lib.hid (Mg.gsOf_count rs)
  have HLA : Hid ((Mg.gsOf rs).length = n1) := grow_len HG2.out
  have hn1 : n1 ≤ 64 := by rw [← HLA.out]; exact Nat.le_trans (gs_len _) (by rw [HRL.out]; exact hn64)
  have HPARTS : Hid (∀ p : Nat, p ≤ n → ∃ GL GH, Mg.gsOf (rs.take p) = GL ∧ Mg.gsOf (rs.drop p) = GH ∧ Mg.jn Mg.gKey Mg.gOp (Mg.srt (Mg.ltK Mg.gKey) (GL ++ GH)) = Mg.gsOf rs ∧ GL.length ≤ 64 ∧ GH.length ≤ 64 ∧ (∀ x ∈ GL, GV x) ∧ (∀ x ∈ GH, GV x) ∧ Mg.Strict Mg.gKey GL ∧ Mg.Strict Mg.gKey GH) := fun p hp =>
    ⟨_, _, rfl, rfl, by have := Mg.gsOf_append (rs.take p) (rs.drop p); rwa [List.take_append_drop] at this, Nat.le_trans (gs_len _) (okRecs_le (okRecs_subZ HOK.out (List.take_sublist _ _))), Nat.le_trans (gs_len _) (okRecs_le (okRecs_subZ HOK.out (List.drop_sublist _ _))), gs_valid (okRecs_subZ HOK.out (List.take_sublist p rs)), gs_valid (okRecs_subZ HOK.out (List.drop_sublist p rs)), Mg.gsOf_strict _, Mg.gsOf_strict _⟩
  have HCUT : Hid (∀ (p hn : Nat) (LA HA : Option Addr) (HC : Nat), p ≤ n → Rd w2 LA p c (rs.take p) → Rd w2 HA hn HC (rs.drop p) → ∃ GL GH : List G5, (∀ W, Below w2.heap.size w2 W → Calls Try.prog 6 #[.slice LA p c] W fun e w' => ∃ m g cg, e = .returned (.tuple #[.slice (some ⟨g, 0, none⟩) m cg, .bool true]) ∧ GRow w' W.heap.size g cg m GL ∧ Below W.heap.size W w') ∧ (∀ W, Below w2.heap.size w2 W → Calls Try.prog 6 #[.slice HA hn HC] W fun e w' => ∃ m g cg, e = .returned (.tuple #[.slice (some ⟨g, 0, none⟩) m cg, .bool true]) ∧ GRow w' W.heap.size g cg m GH ∧ Below W.heap.size W w') ∧
      (∀ (W : World) (g g' m m' k k' B B' : Nat), GRow W B g k m GL → GRow W B' g' k' m' GH → Calls Try.prog 9 #[.slice (some ⟨g, 0, none⟩) m k, .slice (some ⟨g', 0, none⟩) m' k'] W (GB W (Mg.gsOf rs)))) := fun p hn LA HA HC hp h1 h2 => by
    obtain ⟨GL, GH, e1, e2, e3, l1, l2, v1, v2, s1, s2⟩ := HPARTS.out p hp
    refine ⟨GL, GH, fun W hb => ?_, fun W hb => ?_, fun W g g' m m' k k' B B' hg hg' => ?_⟩
    · rw [← e1]; exact groupRecords_yes LA p c (rs.take p) W (okRecs_subZ HOK.out (List.take_sublist _ _)) (h1.same hb)
    · rw [← e2]; exact groupRecords_yes HA hn HC (rs.drop p) W (okRecs_subZ HOK.out (List.drop_sublist _ _)) (h2.same hb)
    · exact mergeGroups_yes g g' m m' k k' B B' GL GH _ W (by have := grow_len hg; omega) (by have := grow_len hg'; omega) v1 v2 s1 s2 e3 HVA.out HS.out (by rw [HLA.out]; exact hn1) hg hg'
  clear HPARTS
  have hn0 : (0 : Int) ≤ (n : Int) := by omega
  go_wp2_with fail
  refine (vAtG_any ac cc cs 7 w2 hcl (by omega) HBY2.out).mono ?_
  rintro e w4 ⟨⟨r, rfl, hr0, hr1⟩, rfl⟩
  obtain ⟨p, hp, hpj⟩ : ∃ p : Nat, r.tmod ((n : Int) + 1) = (p : Int) ∧ p ≤ n := by
    have h1 := Int.tmod_nonneg ((n : Int) + 1) hr0
    have h2 := Int.tmod_lt_of_pos r (show (0 : Int) < (n : Int) + 1 by omega)
    exact ⟨(r.tmod ((n : Int) + 1)).toNat, by omega, by omega⟩
  have hcap := HR2.out.cap
  have hq1 : ((n : Int) + 1 == 0) = false := by rw [beq_eq_false_iff_ne]; omega
  have b1 : (0 : Int) ≤ (p : Int) := by omega
  have b2 : (p : Int) ≤ (n : Int) := by omega
  have b3 : (n : Int) ≤ (c : Int) := by omega
  have b4 : (p : Int) ≤ (c : Int) := by omega
  clear hr0 hr1 HBY2
  rcases HAD.out with ⟨rfl, rfl, rfl⟩ | ⟨g, rfl⟩
  · obtain rfl : p = 0 := by omega
    obtain ⟨GL, GH, HLO, HHI, HMT⟩ := HCUT.out 0 0 none none 0 (Nat.le_refl _) (by simpa using rd_nil w2) HR2.out
    have HLOx := Lib.hid HLO; have HHIx := Lib.hid HHI; have HMTx := Lib.hid HMT
    unfold GB at HMTx
    clear HLO HHI HMT HCUT HAD HR2
    go_wp2_with fail
    refine (HLOx.out _ (Below.refl _ _)).mono ?_
    rintro e w5 ⟨m5, g5, c5, rfl, ho5, hb5⟩
    have HO5 := Lib.hid ho5; have HB5 := Lib.hid hb5
    clear ho5 hb5 HLOx
    go_wp2_with fail
    refine (HHIx.out _ HB5.out).mono ?_
    rintro e w6 ⟨m6, g6, c6, rfl, ho6, hb6⟩
    have HO6 := Lib.hid ho6; have HB6 := Lib.hid (below_tr HB5.out hb6 HB5.out.size); have HO56 := Lib.hid (own_below HO5.out (Nat.le_refl _) hb6)
    clear ho6 hb6 HHIx HB5 HO5
    go_wp2_with fail
    refine (HMTx.out _ _ _ _ _ _ _ _ _ HO56.out HO6.out).mono ?_
    rintro e w7 ⟨m7, g7, c7, rfl, ho7, hb7⟩
    have HO7 := Lib.hid ho7; have HB7 := Lib.hid (below_tr HB6.out hb7 HB6.out.size)
    have hm7 : m7 = n1 := by rw [← HLA.out]; exact (grow_len ho7).symm
    subst hm7
    clear ho7 hb7 HMTx HB6 HO6 HO56
    have HGA := Lib.hid (own_below HG2.out (Nat.le_refl _) HB7.out)
    go_wp2_with fail
    refine (isValidGroups_ok _ g1 c1 m7 _ w7 hn1 HVA.out HS.out HGA.out).mono ?_
    rintro e w8 ⟨rfl, hb8⟩
    have HB8 := Lib.hid (below_tr HB7.out hb8 HB7.out.size)
    have HM8 := Lib.hid (own_below HO7.out (Nat.le_refl _) hb8)
    have HA8 := Lib.hid (own_below HGA.out (Nat.le_refl _) hb8)
    clear hb8 HB7 HO7 HGA HG2
    obtain ⟨GS, hGS⟩ : ∃ GS, Mg.gsOf rs = GS := ⟨_, rfl⟩
    rw [hGS] at HS HVA HCT HLA HM8 HA8
    clear hGS
    go_wp2
    go_loopw [13, 14] (fun sv iv wr => ∃ (i : Nat) (t : Int), iv = .int .i64 i ∧ i ≤ m7 ∧ sv = .int .i64 t ∧ ((GS.take i).map fun g : G5 => g.2.1).sum = t ∧ Below w8.heap.size w8 wr) (fun _ iv _ => m7 - (intOf iv).toNat)
    case atStart => exact ⟨0, 0, rfl, by omega, rfl, rfl, Below.refl _ _⟩
    case round =>
      obtain ⟨i, t, rfl, hi, rfl, ht, hb⟩ := hrel
      have HBI := Lib.hid hb; have HT := Lib.hid ht
      have hbd := cnt_bnd (L := GS) (fun g hg => by have := (HVA.out g hg).ok.c1; omega) i
      rw [ht, HCT.out, HRL.out] at hbd
      obtain ⟨t0, t1⟩ := hbd
      clear hb ht
      by_cases hlt : i < m7
      · have q1 : decide ((i : Int) < (m7 : Int)) = true := decide_eq_true (by omega)
        have hiL : i < GS.length := by rw [HLA.out]; exact hlt
        obtain ⟨X, hX⟩ : ∃ X, GS[i]? = some X := ⟨_, List.getElem?_eq_getElem hiL⟩
        have HX2 := Lib.hid (HVA.out X (List.mem_of_getElem? hX)).most
        have HX1 := Lib.hid (HVA.out X (List.mem_of_getElem? hX)).ok.c1
        have HTN := Lib.hid (cnt_take hiL)
        have hgd : GS.getD i (0, 0, 0, 0, 0) = X := by rw [List.getD_eq_getElem?_getD, hX]; rfl
        obtain ⟨a0, a1, a2, a3, a4⟩ := rec_cells (own_below HM8.out (Nat.le_refl _) HBI.out) hX
        obtain ⟨d0, d1, d2, d3, d4⟩ := rec_cells (own_below HA8.out (Nat.le_refl _) HBI.out) hX
        rw [hgd, HT.out] at HTN
        obtain ⟨X1, X2, X3, X4, X5⟩ := X
        simp only at a0 a1 a2 a3 a4 d0 d1 d2 d3 d4
        have hx1 : 1 ≤ X2 := HX1.out
        have hx2 : X2 ≤ 1000 := HX2.out
        have j1 : (0 : Int) ≤ (i : Int) := by omega
        have j2 : (i : Int) < (m7 : Int) := by omega
        have wr2 : IntKind.i64.wrap (t + X2) = t + X2 := IntWalk.i64_in _ (by omega)
        have HTN2 : Hid (((GS.take (i + 1)).map fun g : G5 => g.2.1).sum = t + X2) := HTN.out
        clear hX hgd HX1 HX2 HTN hx1 hx2
        go_wp2_with fail
        go_quiet (fail)
        have HBJ := Lib.hid (below_tr HBI.out (below_drewN (Below.refl _ _) nq) HBI.out.size)
        go_wp2
        go_roundw
        case rel => exact ⟨i + 1, t + X2, by go_num, by omega, rfl, HTN2.out, HBJ.out⟩
        case measure => simp [intOf] <;> omega
      · obtain rfl : i = m7 := by omega
        have q1 : decide ((i : Int) < (i : Int)) = false := decide_eq_false (by omega)
        have HTOT : Hid (t = ((0 : Nat) : Int)) := by
          show _ = _
          rw [← HT.out, List.take_of_length_le (by rw [HLA.out]; exact Nat.le_refl _), HCT.out, HRL.out]
        have HTP := Lib.hid (Mg.top_counts HS.out)
        have HTL : Hid ((Mg.srt (Mg.ltK fun g : G5 => -g.2.1) GS).length = i) := by show _ = _; rw [Mg.srt_length]; exact HLA.out
        have HTG := Lib.hid (topGroups_yes g1 i c1 _ 3 GS wr hn1 (by omega) (by omega) HVA.out HS.out (own_below HA8.out (Nat.le_refl _) HBI.out))
        unfold GB at HTG
        generalize Mg.srt (Mg.ltK fun g : G5 => -g.2.1) GS = TS at HTP HTL HTG
        go_wp2_with fail
        refine HTG.out.mono ?_
        rintro e w9 ⟨m9, g9, c9, rfl, ho9, hb9⟩
        have HO9 := Lib.hid ho9; have HB9 := Lib.hid (below_tr HBI.out hb9 HBI.out.size)
        have HL9 := Lib.hid (grow_len ho9)
        have hm9 : m9 ≤ 3 := by have := grow_len ho9; rw [List.length_take] at this; omega
        have HP9 := Lib.hid (HTP.out.sublist (List.take_sublist 3 TS))
        generalize TS.take 3 = Ls at HO9 HL9 HP9 ho9
        clear ho9 hb9 HTG HTP HTL HBI
        go_wp2
        go_loopw [17] (fun iv wr => ∃ (k : Nat), iv = .int .i64 ((k : Int) + 1) ∧ (k ≤ m9) ∧ Below w9.heap.size w9 wr) (fun iv _ => 4 - (intOf iv).toNat)
        case atStart => exact ⟨0, rfl, by omega, Below.refl _ _⟩
        case round =>
          rename World => wx
          obtain ⟨k, rfl, hk, hb⟩ := hrel
          have HBK := Lib.hid hb
          clear hb
          by_cases hlk : k + 1 < m9
          · have q2 : decide ((k : Int) + 1 < (m9 : Int)) = true := decide_eq_true (by omega)
            have hk1 : k < Ls.length := by rw [HL9.out]; omega
            have hk2 : k + 1 < Ls.length := by rw [HL9.out]; exact hlk
            have hpq := List.pairwise_iff_getElem.1 HP9.out k (k + 1) hk1 hk2 (by omega)
            have e1 : Ls[k]? = some Ls[k] := List.getElem?_eq_getElem hk1
            have e2 : Ls[k + 1]? = some Ls[k + 1] := List.getElem?_eq_getElem hk2
            generalize Ls[k] = X at hpq e1
            generalize Ls[k + 1] = Y at hpq e2
            obtain ⟨a0, a1, _, _, _⟩ := rec_cells (own_below HO9.out (Nat.le_refl _) HBK.out) e1
            obtain ⟨d0, d1, _, _, _⟩ := rec_cells (own_below HO9.out (Nat.le_refl _) HBK.out) e2
            obtain ⟨X1, X2, X3, X4, X5⟩ := X
            obtain ⟨Y1, Y2, Y3, Y4, Y5⟩ := Y
            simp only at hpq a0 a1 d0 d1
            have wk : IntKind.i64.wrap ((k : Int) + 1 - 1) = (k : Int) := by rw [show (k : Int) + 1 - 1 = (k : Int) by omega]; exact IntWalk.i64_in _ (by omega)
            have wk2 : IntKind.i64.wrap (k : Int) = (k : Int) := IntWalk.i64_in _ (by omega)
            have j1 : (0 : Int) ≤ (k : Int) := by omega
            have j2 : (k : Int) < (m9 : Int) := by omega
            have j3 : (0 : Int) ≤ (k : Int) + 1 := by omega
            have j4 : (k : Int) + 1 < (m9 : Int) := by omega
            have j5 : ((k : Int) + 1).toNat = k + 1 := by omega
            have HLK := Lib.hid hlk
            clear e1 e2 hk1 hk2
            rcases hpq with hpq | ⟨hpq, hpk⟩
            · have p1 : decide (X2 < Y2) = false := decide_eq_false (by omega)
              have p2 : (X2 == Y2) = false := by rw [beq_eq_false_iff_ne]; omega
              clear hpq
              go_wp2_with fail
              go_quiet (fail)
              have HBJ := Lib.hid (below_tr HBK.out (below_drewN (Below.refl _ _) nq) HBK.out.size)
              go_wp2
              go_roundw
              case rel => exact ⟨k + 1, by go_num, by have := HLK.out; omega, HBJ.out⟩
              case measure => have := HLK.out; simp [intOf] <;> omega
            · subst hpq
              have p1 : decide (X2 < X2) = false := decide_eq_false (by omega)
              have p2 : (X2 == X2) = true := by simp
              have p3 : decide (Y1 ≤ X1) = false := decide_eq_false (by omega)
              clear hpk
              go_wp2_with fail
              go_quiet (fail)
              have HBJ := Lib.hid (below_tr HBK.out (below_drewN (Below.refl _ _) nq) HBK.out.size)
              go_wp2
              go_roundw
              case rel => exact ⟨k + 1, by go_num, by have := HLK.out; omega, HBJ.out⟩
              case measure => have := HLK.out; simp [intOf] <;> omega
          · have q2 : decide ((k : Int) + 1 < (m9 : Int)) = false := decide_eq_false (by omega)
            have htn : t = ((0 : Nat) : Int) := HTOT.out
            have p9 : (t == ((0 : Nat) : Int)) = true := by rw [htn]; simp
            clear htn
            go_wp2
            go_ret
            exact ⟨by first | (simp; done) | (have := HTOT.out; simp; omega), below_tr HB2.out (below_tr HB8.out (below_tr HB9.out HBK.out HB9.out.size) HB8.out.size) HB2.out.size⟩
  by_cases hpc : c = p
  · obtain rfl : n = p := by omega
    obtain rfl : n = c := hpc.symm
    obtain ⟨GL, GH, HLO, HHI, HMT⟩ := HCUT.out n 0 (some ⟨g, 0, none⟩) (some ⟨g, 0, none⟩) 0 (Nat.le_refl _) (rd_lo HR2.out (Nat.le_refl _)) (by rw [List.drop_of_length_le (by rw [HRL.out]; exact Nat.le_refl _)]; exact rd_some _ _ _)
    have HLOx := Lib.hid HLO; have HHIx := Lib.hid HHI; have HMTx := Lib.hid HMT
    unfold GB at HMTx
    clear HLO HHI HMT HCUT HAD HR2
    go_wp2_with fail
    refine (HLOx.out _ (Below.refl _ _)).mono ?_
    rintro e w5 ⟨m5, g5, c5, rfl, ho5, hb5⟩
    have HO5 := Lib.hid ho5; have HB5 := Lib.hid hb5
    clear ho5 hb5 HLOx
    go_wp2_with fail
    refine (HHIx.out _ HB5.out).mono ?_
    rintro e w6 ⟨m6, g6, c6, rfl, ho6, hb6⟩
    have HO6 := Lib.hid ho6; have HB6 := Lib.hid (below_tr HB5.out hb6 HB5.out.size); have HO56 := Lib.hid (own_below HO5.out (Nat.le_refl _) hb6)
    clear ho6 hb6 HHIx HB5 HO5
    go_wp2_with fail
    refine (HMTx.out _ _ _ _ _ _ _ _ _ HO56.out HO6.out).mono ?_
    rintro e w7 ⟨m7, g7, c7, rfl, ho7, hb7⟩
    have HO7 := Lib.hid ho7; have HB7 := Lib.hid (below_tr HB6.out hb7 HB6.out.size)
    have hm7 : m7 = n1 := by rw [← HLA.out]; exact (grow_len ho7).symm
    subst hm7
    clear ho7 hb7 HMTx HB6 HO6 HO56
    have HGA := Lib.hid (own_below HG2.out (Nat.le_refl _) HB7.out)
    go_wp2_with fail
    refine (isValidGroups_ok _ g1 c1 m7 _ w7 hn1 HVA.out HS.out HGA.out).mono ?_
    rintro e w8 ⟨rfl, hb8⟩
    have HB8 := Lib.hid (below_tr HB7.out hb8 HB7.out.size)
    have HM8 := Lib.hid (own_below HO7.out (Nat.le_refl _) hb8)
    have HA8 := Lib.hid (own_below HGA.out (Nat.le_refl _) hb8)
    clear hb8 HB7 HO7 HGA HG2
    obtain ⟨GS, hGS⟩ : ∃ GS, Mg.gsOf rs = GS := ⟨_, rfl⟩
    rw [hGS] at HS HVA HCT HLA HM8 HA8
    clear hGS
    go_wp2
    go_loopw [13, 14] (fun sv iv wr => ∃ (i : Nat) (t : Int), iv = .int .i64 i ∧ i ≤ m7 ∧ sv = .int .i64 t ∧ ((GS.take i).map fun g : G5 => g.2.1).sum = t ∧ Below w8.heap.size w8 wr) (fun _ iv _ => m7 - (intOf iv).toNat)
    case atStart => exact ⟨0, 0, rfl, by omega, rfl, rfl, Below.refl _ _⟩
    case round =>
      obtain ⟨i, t, rfl, hi, rfl, ht, hb⟩ := hrel
      have HBI := Lib.hid hb; have HT := Lib.hid ht
      have hbd := cnt_bnd (L := GS) (fun g hg => by have := (HVA.out g hg).ok.c1; omega) i
      rw [ht, HCT.out, HRL.out] at hbd
      obtain ⟨t0, t1⟩ := hbd
      clear hb ht
      by_cases hlt : i < m7
      · have q1 : decide ((i : Int) < (m7 : Int)) = true := decide_eq_true (by omega)
        have hiL : i < GS.length := by rw [HLA.out]; exact hlt
        obtain ⟨X, hX⟩ : ∃ X, GS[i]? = some X := ⟨_, List.getElem?_eq_getElem hiL⟩
        have HX2 := Lib.hid (HVA.out X (List.mem_of_getElem? hX)).most
        have HX1 := Lib.hid (HVA.out X (List.mem_of_getElem? hX)).ok.c1
        have HTN := Lib.hid (cnt_take hiL)
        have hgd : GS.getD i (0, 0, 0, 0, 0) = X := by rw [List.getD_eq_getElem?_getD, hX]; rfl
        obtain ⟨a0, a1, a2, a3, a4⟩ := rec_cells (own_below HM8.out (Nat.le_refl _) HBI.out) hX
        obtain ⟨d0, d1, d2, d3, d4⟩ := rec_cells (own_below HA8.out (Nat.le_refl _) HBI.out) hX
        rw [hgd, HT.out] at HTN
        obtain ⟨X1, X2, X3, X4, X5⟩ := X
        simp only at a0 a1 a2 a3 a4 d0 d1 d2 d3 d4
        have hx1 : 1 ≤ X2 := HX1.out
        have hx2 : X2 ≤ 1000 := HX2.out
        have j1 : (0 : Int) ≤ (i : Int) := by omega
        have j2 : (i : Int) < (m7 : Int) := by omega
        have wr2 : IntKind.i64.wrap (t + X2) = t + X2 := IntWalk.i64_in _ (by omega)
        have HTN2 : Hid (((GS.take (i + 1)).map fun g : G5 => g.2.1).sum = t + X2) := HTN.out
        clear hX hgd HX1 HX2 HTN hx1 hx2
        go_wp2_with fail
        go_quiet (fail)
        have HBJ := Lib.hid (below_tr HBI.out (below_drewN (Below.refl _ _) nq) HBI.out.size)
        go_wp2
        go_roundw
        case rel => exact ⟨i + 1, t + X2, by go_num, by omega, rfl, HTN2.out, HBJ.out⟩
        case measure => simp [intOf] <;> omega
      · obtain rfl : i = m7 := by omega
        have q1 : decide ((i : Int) < (i : Int)) = false := decide_eq_false (by omega)
        have HTOT : Hid (t = (n : Int)) := by
          show _ = _
          rw [← HT.out, List.take_of_length_le (by rw [HLA.out]; exact Nat.le_refl _), HCT.out, HRL.out]
        have HTP := Lib.hid (Mg.top_counts HS.out)
        have HTL : Hid ((Mg.srt (Mg.ltK fun g : G5 => -g.2.1) GS).length = i) := by show _ = _; rw [Mg.srt_length]; exact HLA.out
        have HTG := Lib.hid (topGroups_yes g1 i c1 _ 3 GS wr hn1 (by omega) (by omega) HVA.out HS.out (own_below HA8.out (Nat.le_refl _) HBI.out))
        unfold GB at HTG
        generalize Mg.srt (Mg.ltK fun g : G5 => -g.2.1) GS = TS at HTP HTL HTG
        go_wp2_with fail
        refine HTG.out.mono ?_
        rintro e w9 ⟨m9, g9, c9, rfl, ho9, hb9⟩
        have HO9 := Lib.hid ho9; have HB9 := Lib.hid (below_tr HBI.out hb9 HBI.out.size)
        have HL9 := Lib.hid (grow_len ho9)
        have hm9 : m9 ≤ 3 := by have := grow_len ho9; rw [List.length_take] at this; omega
        have HP9 := Lib.hid (HTP.out.sublist (List.take_sublist 3 TS))
        generalize TS.take 3 = Ls at HO9 HL9 HP9 ho9
        clear ho9 hb9 HTG HTP HTL HBI
        go_wp2
        go_loopw [17] (fun iv wr => ∃ (k : Nat), iv = .int .i64 ((k : Int) + 1) ∧ (k ≤ m9) ∧ Below w9.heap.size w9 wr) (fun iv _ => 4 - (intOf iv).toNat)
        case atStart => exact ⟨0, rfl, by omega, Below.refl _ _⟩
        case round =>
          rename World => wx
          obtain ⟨k, rfl, hk, hb⟩ := hrel
          have HBK := Lib.hid hb
          clear hb
          by_cases hlk : k + 1 < m9
          · have q2 : decide ((k : Int) + 1 < (m9 : Int)) = true := decide_eq_true (by omega)
            have hk1 : k < Ls.length := by rw [HL9.out]; omega
            have hk2 : k + 1 < Ls.length := by rw [HL9.out]; exact hlk
            have hpq := List.pairwise_iff_getElem.1 HP9.out k (k + 1) hk1 hk2 (by omega)
            have e1 : Ls[k]? = some Ls[k] := List.getElem?_eq_getElem hk1
            have e2 : Ls[k + 1]? = some Ls[k + 1] := List.getElem?_eq_getElem hk2
            generalize Ls[k] = X at hpq e1
            generalize Ls[k + 1] = Y at hpq e2
            obtain ⟨a0, a1, _, _, _⟩ := rec_cells (own_below HO9.out (Nat.le_refl _) HBK.out) e1
            obtain ⟨d0, d1, _, _, _⟩ := rec_cells (own_below HO9.out (Nat.le_refl _) HBK.out) e2
            obtain ⟨X1, X2, X3, X4, X5⟩ := X
            obtain ⟨Y1, Y2, Y3, Y4, Y5⟩ := Y
            simp only at hpq a0 a1 d0 d1
            have wk : IntKind.i64.wrap ((k : Int) + 1 - 1) = (k : Int) := by rw [show (k : Int) + 1 - 1 = (k : Int) by omega]; exact IntWalk.i64_in _ (by omega)
            have wk2 : IntKind.i64.wrap (k : Int) = (k : Int) := IntWalk.i64_in _ (by omega)
            have j1 : (0 : Int) ≤ (k : Int) := by omega
            have j2 : (k : Int) < (m9 : Int) := by omega
            have j3 : (0 : Int) ≤ (k : Int) + 1 := by omega
            have j4 : (k : Int) + 1 < (m9 : Int) := by omega
            have j5 : ((k : Int) + 1).toNat = k + 1 := by omega
            have HLK := Lib.hid hlk
            clear e1 e2 hk1 hk2
            rcases hpq with hpq | ⟨hpq, hpk⟩
            · have p1 : decide (X2 < Y2) = false := decide_eq_false (by omega)
              have p2 : (X2 == Y2) = false := by rw [beq_eq_false_iff_ne]; omega
              clear hpq
              go_wp2_with fail
              go_quiet (fail)
              have HBJ := Lib.hid (below_tr HBK.out (below_drewN (Below.refl _ _) nq) HBK.out.size)
              go_wp2
              go_roundw
              case rel => exact ⟨k + 1, by go_num, by have := HLK.out; omega, HBJ.out⟩
              case measure => have := HLK.out; simp [intOf] <;> omega
            · subst hpq
              have p1 : decide (X2 < X2) = false := decide_eq_false (by omega)
              have p2 : (X2 == X2) = true := by simp
              have p3 : decide (Y1 ≤ X1) = false := decide_eq_false (by omega)
              clear hpk
              go_wp2_with fail
              go_quiet (fail)
              have HBJ := Lib.hid (below_tr HBK.out (below_drewN (Below.refl _ _) nq) HBK.out.size)
              go_wp2
              go_roundw
              case rel => exact ⟨k + 1, by go_num, by have := HLK.out; omega, HBJ.out⟩
              case measure => have := HLK.out; simp [intOf] <;> omega
          · have q2 : decide ((k : Int) + 1 < (m9 : Int)) = false := decide_eq_false (by omega)
            have htn : t = (n : Int) := HTOT.out
            have p9 : (t == (n : Int)) = true := by rw [htn]; simp
            clear htn
            go_wp2
            go_ret
            exact ⟨by first | (simp; done) | (have := HTOT.out; simp; omega), below_tr HB2.out (below_tr HB8.out (below_tr HB9.out HBK.out HB9.out.size) HB8.out.size) HB2.out.size⟩
  have hh := rd_hi HR2.out (h := p) hpj
  rw [Nat.zero_add] at hh
  obtain ⟨GL, GH, HLO, HHI, HMT⟩ := HCUT.out p (n - p) (some ⟨g, 0, none⟩) (some ⟨g, p * 2, none⟩) (c - p) hpj (rd_lo HR2.out hpj) hh
  clear hh
  have HLOx := Lib.hid HLO; have HHIx := Lib.hid HHI; have HMTx := Lib.hid HMT
  unfold GB at HMTx
  clear HLO HHI HMT HCUT HAD HR2
  go_wp2_with fail
  refine (HLOx.out _ (Below.refl _ _)).mono ?_
  rintro e w5 ⟨m5, g5, c5, rfl, ho5, hb5⟩
  have HO5 := Lib.hid ho5; have HB5 := Lib.hid hb5
  clear ho5 hb5 HLOx
  go_wp2_with fail
  refine (HHIx.out _ HB5.out).mono ?_
  rintro e w6 ⟨m6, g6, c6, rfl, ho6, hb6⟩
  have HO6 := Lib.hid ho6; have HB6 := Lib.hid (below_tr HB5.out hb6 HB5.out.size); have HO56 := Lib.hid (own_below HO5.out (Nat.le_refl _) hb6)
  clear ho6 hb6 HHIx HB5 HO5
  go_wp2_with fail
  refine (HMTx.out _ _ _ _ _ _ _ _ _ HO56.out HO6.out).mono ?_
  rintro e w7 ⟨m7, g7, c7, rfl, ho7, hb7⟩
  have HO7 := Lib.hid ho7; have HB7 := Lib.hid (below_tr HB6.out hb7 HB6.out.size)
  have hm7 : m7 = n1 := by rw [← HLA.out]; exact (grow_len ho7).symm
  subst hm7
  clear ho7 hb7 HMTx HB6 HO6 HO56
  have HGA := Lib.hid (own_below HG2.out (Nat.le_refl _) HB7.out)
  go_wp2_with fail
  refine (isValidGroups_ok _ g1 c1 m7 _ w7 hn1 HVA.out HS.out HGA.out).mono ?_
  rintro e w8 ⟨rfl, hb8⟩
  have HB8 := Lib.hid (below_tr HB7.out hb8 HB7.out.size)
  have HM8 := Lib.hid (own_below HO7.out (Nat.le_refl _) hb8)
  have HA8 := Lib.hid (own_below HGA.out (Nat.le_refl _) hb8)
  clear hb8 HB7 HO7 HGA HG2
  obtain ⟨GS, hGS⟩ : ∃ GS, Mg.gsOf rs = GS := ⟨_, rfl⟩
  rw [hGS] at HS HVA HCT HLA HM8 HA8
  clear hGS
  go_wp2
  go_loopw [13, 14] (fun sv iv wr => ∃ (i : Nat) (t : Int), iv = .int .i64 i ∧ i ≤ m7 ∧ sv = .int .i64 t ∧ ((GS.take i).map fun g : G5 => g.2.1).sum = t ∧ Below w8.heap.size w8 wr) (fun _ iv _ => m7 - (intOf iv).toNat)
  case atStart => exact ⟨0, 0, rfl, by omega, rfl, rfl, Below.refl _ _⟩
  case round =>
    obtain ⟨i, t, rfl, hi, rfl, ht, hb⟩ := hrel
    have HBI := Lib.hid hb; have HT := Lib.hid ht
    have hbd := cnt_bnd (L := GS) (fun g hg => by have := (HVA.out g hg).ok.c1; omega) i
    rw [ht, HCT.out, HRL.out] at hbd
    obtain ⟨t0, t1⟩ := hbd
    clear hb ht
    by_cases hlt : i < m7
    · have q1 : decide ((i : Int) < (m7 : Int)) = true := decide_eq_true (by omega)
      have hiL : i < GS.length := by rw [HLA.out]; exact hlt
      obtain ⟨X, hX⟩ : ∃ X, GS[i]? = some X := ⟨_, List.getElem?_eq_getElem hiL⟩
      have HX2 := Lib.hid (HVA.out X (List.mem_of_getElem? hX)).most
      have HX1 := Lib.hid (HVA.out X (List.mem_of_getElem? hX)).ok.c1
      have HTN := Lib.hid (cnt_take hiL)
      have hgd : GS.getD i (0, 0, 0, 0, 0) = X := by rw [List.getD_eq_getElem?_getD, hX]; rfl
      obtain ⟨a0, a1, a2, a3, a4⟩ := rec_cells (own_below HM8.out (Nat.le_refl _) HBI.out) hX
      obtain ⟨d0, d1, d2, d3, d4⟩ := rec_cells (own_below HA8.out (Nat.le_refl _) HBI.out) hX
      rw [hgd, HT.out] at HTN
      obtain ⟨X1, X2, X3, X4, X5⟩ := X
      simp only at a0 a1 a2 a3 a4 d0 d1 d2 d3 d4
      have hx1 : 1 ≤ X2 := HX1.out
      have hx2 : X2 ≤ 1000 := HX2.out
      have j1 : (0 : Int) ≤ (i : Int) := by omega
      have j2 : (i : Int) < (m7 : Int) := by omega
      have wr2 : IntKind.i64.wrap (t + X2) = t + X2 := IntWalk.i64_in _ (by omega)
      have HTN2 : Hid (((GS.take (i + 1)).map fun g : G5 => g.2.1).sum = t + X2) := HTN.out
      clear hX hgd HX1 HX2 HTN hx1 hx2
      go_wp2_with fail
      go_quiet (fail)
      have HBJ := Lib.hid (below_tr HBI.out (below_drewN (Below.refl _ _) nq) HBI.out.size)
      go_wp2
      go_roundw
      case rel => exact ⟨i + 1, t + X2, by go_num, by omega, rfl, HTN2.out, HBJ.out⟩
      case measure => simp [intOf] <;> omega
    · obtain rfl : i = m7 := by omega
      have q1 : decide ((i : Int) < (i : Int)) = false := decide_eq_false (by omega)
      have HTOT : Hid (t = (n : Int)) := by
        show _ = _
        rw [← HT.out, List.take_of_length_le (by rw [HLA.out]; exact Nat.le_refl _), HCT.out, HRL.out]
      have HTP := Lib.hid (Mg.top_counts HS.out)
      have HTL : Hid ((Mg.srt (Mg.ltK fun g : G5 => -g.2.1) GS).length = i) := by show _ = _; rw [Mg.srt_length]; exact HLA.out
      have HTG := Lib.hid (topGroups_yes g1 i c1 _ 3 GS wr hn1 (by omega) (by omega) HVA.out HS.out (own_below HA8.out (Nat.le_refl _) HBI.out))
      unfold GB at HTG
      generalize Mg.srt (Mg.ltK fun g : G5 => -g.2.1) GS = TS at HTP HTL HTG
      go_wp2_with fail
      refine HTG.out.mono ?_
      rintro e w9 ⟨m9, g9, c9, rfl, ho9, hb9⟩
      have HO9 := Lib.hid ho9; have HB9 := Lib.hid (below_tr HBI.out hb9 HBI.out.size)
      have HL9 := Lib.hid (grow_len ho9)
      have hm9 : m9 ≤ 3 := by have := grow_len ho9; rw [List.length_take] at this; omega
      have HP9 := Lib.hid (HTP.out.sublist (List.take_sublist 3 TS))
      generalize TS.take 3 = Ls at HO9 HL9 HP9 ho9
      clear ho9 hb9 HTG HTP HTL HBI
      go_wp2
      go_loopw [17] (fun iv wr => ∃ (k : Nat), iv = .int .i64 ((k : Int) + 1) ∧ (k ≤ m9) ∧ Below w9.heap.size w9 wr) (fun iv _ => 4 - (intOf iv).toNat)
      case atStart => exact ⟨0, rfl, by omega, Below.refl _ _⟩
      case round =>
        rename World => wx
        obtain ⟨k, rfl, hk, hb⟩ := hrel
        have HBK := Lib.hid hb
        clear hb
        by_cases hlk : k + 1 < m9
        · have q2 : decide ((k : Int) + 1 < (m9 : Int)) = true := decide_eq_true (by omega)
          have hk1 : k < Ls.length := by rw [HL9.out]; omega
          have hk2 : k + 1 < Ls.length := by rw [HL9.out]; exact hlk
          have hpq := List.pairwise_iff_getElem.1 HP9.out k (k + 1) hk1 hk2 (by omega)
          have e1 : Ls[k]? = some Ls[k] := List.getElem?_eq_getElem hk1
          have e2 : Ls[k + 1]? = some Ls[k + 1] := List.getElem?_eq_getElem hk2
          generalize Ls[k] = X at hpq e1
          generalize Ls[k + 1] = Y at hpq e2
          obtain ⟨a0, a1, _, _, _⟩ := rec_cells (own_below HO9.out (Nat.le_refl _) HBK.out) e1
          obtain ⟨d0, d1, _, _, _⟩ := rec_cells (own_below HO9.out (Nat.le_refl _) HBK.out) e2
          obtain ⟨X1, X2, X3, X4, X5⟩ := X
          obtain ⟨Y1, Y2, Y3, Y4, Y5⟩ := Y
          simp only at hpq a0 a1 d0 d1
          have wk : IntKind.i64.wrap ((k : Int) + 1 - 1) = (k : Int) := by rw [show (k : Int) + 1 - 1 = (k : Int) by omega]; exact IntWalk.i64_in _ (by omega)
          have wk2 : IntKind.i64.wrap (k : Int) = (k : Int) := IntWalk.i64_in _ (by omega)
          have j1 : (0 : Int) ≤ (k : Int) := by omega
          have j2 : (k : Int) < (m9 : Int) := by omega
          have j3 : (0 : Int) ≤ (k : Int) + 1 := by omega
          have j4 : (k : Int) + 1 < (m9 : Int) := by omega
          have j5 : ((k : Int) + 1).toNat = k + 1 := by omega
          have HLK := Lib.hid hlk
          clear e1 e2 hk1 hk2
          rcases hpq with hpq | ⟨hpq, hpk⟩
          · have p1 : decide (X2 < Y2) = false := decide_eq_false (by omega)
            have p2 : (X2 == Y2) = false := by rw [beq_eq_false_iff_ne]; omega
            clear hpq
            go_wp2_with fail
            go_quiet (fail)
            have HBJ := Lib.hid (below_tr HBK.out (below_drewN (Below.refl _ _) nq) HBK.out.size)
            go_wp2
            go_roundw
            case rel => exact ⟨k + 1, by go_num, by have := HLK.out; omega, HBJ.out⟩
            case measure => have := HLK.out; simp [intOf] <;> omega
          · subst hpq
            have p1 : decide (X2 < X2) = false := decide_eq_false (by omega)
            have p2 : (X2 == X2) = true := by simp
            have p3 : decide (Y1 ≤ X1) = false := decide_eq_false (by omega)
            clear hpk
            go_wp2_with fail
            go_quiet (fail)
            have HBJ := Lib.hid (below_tr HBK.out (below_drewN (Below.refl _ _) nq) HBK.out.size)
            go_wp2
            go_roundw
            case rel => exact ⟨k + 1, by go_num, by have := HLK.out; omega, HBJ.out⟩
            case measure => have := HLK.out; simp [intOf] <;> omega
        · have q2 : decide ((k : Int) + 1 < (m9 : Int)) = false := decide_eq_false (by omega)
          have htn : t = (n : Int) := HTOT.out
          have p9 : (t == (n : Int)) = true := by rw [htn]; simp
          clear htn
          go_wp2
          go_ret
          exact ⟨by first | (simp; done) | (have := HTOT.out; simp; omega), below_tr HB2.out (below_tr HB8.out (below_tr HB9.out HBK.out HB9.out.size) HB8.out.size) HB2.out.size⟩
end Go.Proofs.Ytmgkdokaaoeobaa.GG

