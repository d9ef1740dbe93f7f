/- Several texts in one: lemmas and walks of the functions that the law reaches. -/
import Derived.Test.YtbgmbanebmlghaaGreatDoorY1
import Derived.Test.YtbgmbanebmlghaaGreatDoorY17

namespace Go.Proofs.YtbgmbanebmlghaaGreatDoor
open Go.RowKit Go.Sort
set_option linter.unusedVariables false
/-- A nil slice, or one that has an address. -/
def NilOr (a : Option Addr) (c : Nat) (zs : List Int) : Prop := a = none → zs = [] ∧ c = 0
theorem nilOr_own {w : World} {base : Nat} {e : TypeId} {a : Option Addr} {n c : Nat} {zs : List Int} (h : w.ownsRow base e 1 (.slice a n c) n (zs.map (Value.int .i64))) : NilOr a c zs := by
  intro ha
  subst ha
  have h1 := h.1
  rcases h.2 with ⟨h2, h3⟩ | ⟨g, cap, cur, hv, _⟩
  · injection h2 with _ _ h2
    exact ⟨List.eq_nil_of_length_eq_zero (by simp at h1; omega), h2⟩
  · injection hv with hv; cases hv

end Go.Proofs.YtbgmbanebmlghaaGreatDoor

namespace Go.Proofs.YtbgmbanebmlghaaGreatDoor
open Go.RowKit Go.Sort
set_option linter.unusedVariables false

theorem specIsValidList_any (a : Option Addr) (cap : Nat) (zs : List Int) (w : World) (hbig : zs.length ≤ 9223372036854775807) (h : IntsAt w a zs) :
    Calls Tryz.prog 49 #[.slice a zs.length cap] w fun e w' => e = .returned (.bool (okList zs)) ∧ w = w' := by
  have H := Lib.hid (l2List_any a cap zs w hbig h)
  clear h
  go_enter Tryz.func49, Tryz.ntmps49
  go_wp2_with fail
  refine H.out.mono ?_
  rintro e w1 ⟨rfl, rfl⟩
  go_wp2
  go_ret
  exact ⟨rfl, rfl⟩

end Go.Proofs.YtbgmbanebmlghaaGreatDoor

namespace Go.Proofs.YtbgmbanebmlghaaGreatDoor
open Go.RowKit Go.Sort
set_option linter.unusedVariables false

set_option maxRecDepth 100000 in
set_option maxHeartbeats 2000000 in
theorem l1Own_none (w : World) : Calls Tryz.prog 131 #[.slice none 0 0] w (OwnEnd w [] 0) := by
  have E0 := Lib.hid (own_lit (w := w) (e := 3) (size := 1) #[] 0 (by omega) rfl)
  have HB := Lib.hid (show Below w.heap.size w (w.alloc (.cells #[] 3)) from (Below.refl _ _).alloc (Nat.le_refl _) _)
  have HU : Hid ((w.alloc (.cells #[] 3)).ownsRow w.heap.size 3 1 (.slice none 0 0) 0 []) := ⟨rfl, .inl ⟨rfl, rfl⟩⟩
  have hle : w.heap.size ≤ (w.alloc (.cells #[] 3)).heap.size := by simp
  have hsm : 0 + 0 ≤ 1099511627776 := by omega
  go_enter Tryz.func131, Tryz.ntmps131
  go_wp2_with (at_builtin; refine wpList_appL (v := .slice (some ⟨w.heap.size, 0, none⟩) 0 0) slInt rfl _ _ rfl rfl E0.out rfl HU.out (by simp) hsm hle ?_; intro v' w2 hown2 hg2 ht2; obtain ⟨a', c', rfl⟩ := own_slice hown2; have HO := Lib.hid hown2; have HG := Lib.hid hg2; have HT := Lib.hid ht2; clear hown2 hg2 ht2)
  go_wp2
  go_ret
  obtain ⟨g, rfl, _, _⟩ := own_addr HO.out (by
    rcases HT.out with h | h
    · rw [h]; simp [Value.ownBlock]
    · rw [h]; simp)
  refine ⟨g, c', rfl, ?_, HB.out.grown HG.out (by simp) (fun k hk => ?_)⟩
  · have := HO.out
    rw [Nat.zero_add] at this
    simpa using this
  · simp [Value.ownBlock] at hk; omega

theorem l1OwnG_any (a : Option Addr) (c : Nat) (zs : List Int) (w : World) (hlen : zs.length ≤ 1000) (hx : NilOr a c zs) (h : IntsAt w a zs) :
    Calls Tryz.prog 131 #[.slice a zs.length c] w (OwnEnd w zs zs.length) := by
  cases a with
  | some x => exact l1Own_any x c zs w hlen h
  | none =>
    obtain ⟨rfl, rfl⟩ := hx rfl
    exact l1Own_none w

set_option maxRecDepth 100000 in
set_option maxHeartbeats 4000000 in
theorem l2SortedG_any (x : Option Addr) (cap : Nat) (zs : List Int) (w : World) (hlen : zs.length ≤ 1000) (hx : NilOr x cap zs) (h : IntsAt w x zs) :
    Calls Tryz.prog 90 #[.slice x zs.length cap] w (OwnEnd w (Mg.srtI zs) zs.length) := by
  have H1 := Lib.hid (l1OwnG_any x cap zs w hlen hx h)
  clear h
  unfold OwnEnd at *
  go_enter Tryz.func90, Tryz.ntmps90
  go_wp2_with fail
  refine H1.out.mono ?_
  rintro e w1 ⟨g, c, rfl, ho, hb⟩
  have HO := Lib.hid ho; have HB := Lib.hid hb; clear ho hb H1
  have HS0 := Lib.hid (srtI_start zs)
  go_wp2
  go_loopw [4] (fun v wr => ∃ i : Nat, v = .int .i64 i ∧ 1 ≤ i ∧ (i ≤ zs.length ∨ i = 1) ∧ wr.ownsRow w.heap.size 3 1 (.slice (some ⟨g, 0, none⟩) zs.length c) zs.length ((Mg.srtI (zs.take i) ++ zs.drop i).map (Value.int .i64)) ∧ Below w.heap.size w wr) (fun v _ => zs.length + 1 - (intOf v).toNat)
  case atStart => exact ⟨1, rfl, by omega, .inr rfl, by rw [← HS0.out]; exact HO.out, HB.out⟩
  case round =>
    obtain ⟨i, rfl, hi1, hi2, hown, hb⟩ := hrel
    have HO2 := Lib.hid hown; have HB2 := Lib.hid hb
    clear hown hb
    by_cases hlt : i < zs.length
    case neg =>
      have HO3 := Lib.hid (show wr.ownsRow w.heap.size 3 1 (.slice (some ⟨g, 0, none⟩) zs.length c) zs.length ((Mg.srtI zs).map (Value.int .i64)) from by
        have := HO2.out
        rw [List.take_of_length_le (by omega), List.drop_of_length_le (by omega), List.append_nil] at this
        exact this)
      have h3 : decide ((i : Int) < (zs.length : Int)) = false := by simp; omega
      go_wp2
      go_ret
      exact ⟨g, c, rfl, HO3.out, HB2.out⟩
    have HI0 := Lib.hid (ins_start hlt)
    have HAL : Hid ((Mg.srtI (zs.take i)).length = i) := by show _ = _; rw [srtI_len, List.length_take]; omega
    have HEND := Lib.hid (fun (k : Nat) (hk : k ≤ i) (hd : ∀ b ∈ (Mg.srtI (zs.take i)).drop k, zs.getD i 0 < b) (hs : 0 < k → ¬ zs.getD i 0 < (Mg.srtI (zs.take i)).getD (k - 1) 0) =>
      (ins_end_int (R := zs.drop (i + 1)) (by rw [List.length_take]; omega) hd hs).trans (by rw [take_snoc hlt]))
    rw [HI0.out] at HO2
    clear HI0
    generalize Mg.srtI (zs.take i) = A at HO2 HAL HEND
    generalize zs.getD i 0 = X at HO2 HEND
    have h3 : decide ((i : Int) < (zs.length : Int)) = true := by simp; omega
    have hile : (i : Int) + 1 ≤ 9223372036854775807 := by omega
    go_wp2
    go_loopw [5] (fun v wq => ∃ k : Nat, v = .int .i64 k ∧ k ≤ i ∧ wq.ownsRow w.heap.size 3 1 (.slice (some ⟨g, 0, none⟩) zs.length c) zs.length ((Mg.insSt A X k (zs.drop (i + 1))).map (Value.int .i64)) ∧ (∀ b ∈ A.drop k, X < b) ∧ Below w.heap.size w wq) (fun v _ => (intOf v).toNat)
    case atStart => exact ⟨i, rfl, by omega, HO2.out, by rw [List.drop_of_length_le (by rw [HAL.out]; omega)]; simp, HB2.out⟩
    case round =>
      obtain ⟨k, rfl, hk, ho, hd, hb⟩ := hrel
      have HO4 := Lib.hid ho; have HB4 := Lib.hid hb; have HD := Lib.hid hd
      clear ho hb hd HO2 HB2
      by_cases hk0 : 0 < k
      case neg =>
        obtain rfl : k = 0 := by omega
        have HE := Lib.hid (HEND.out 0 (by omega) HD.out (fun h => absurd h (by omega)))
        rw [HE.out] at HO4
        rw [show ((0 : Nat) : Int) = 0 from rfl]
        go_wp2_with fail
        go_quiet (fail)
        go_wp2
        go_roundw
        case rel => exact ⟨i + 1, by go_num, by omega, by omega, HO4.out, below_drewN HB4.out _⟩
        case measure => simp [intOf] <;> omega
      obtain ⟨m, rfl⟩ : ∃ m, k = m + 1 := ⟨k - 1, by omega⟩
      have hm : m < A.length := by rw [HAL.out]; omega
      obtain ⟨c1, c2, f1, f2⟩ := own_ins_cellsD hm HO4.out
      have HDR : Hid (A.drop m = A.getD m 0 :: A.drop (m + 1)) := by
        show _ = _
        rw [List.drop_eq_getElem_cons hm, List.getD_eq_getElem?_getD, List.getElem?_eq_getElem hm]; rfl
      have HST := Lib.hid (fun (W : World) (y : Int) (hy : A.getD m 0 = y) (h : W.ownsRow w.heap.size 3 1 (.slice (some ⟨g, 0, none⟩) zs.length c) zs.length ((Mg.insSt A X (m + 1) (zs.drop (i + 1))).map (Value.int .i64))) => own_stepD hm hy h)
      have HE1 := Lib.hid (fun hs => HEND.out (m + 1) hk HD.out hs)
      obtain ⟨Y, hY⟩ : ∃ Y, A.getD m 0 = Y := ⟨_, rfl⟩
      rw [hY] at c1 HDR
      have HY := Lib.hid hY
      clear hY hm
      have hcast : ((m + 1 : Nat) : Int) = (m : Int) + 1 := by omega
      have b1 : (0 : Int) ≤ (m : Int) := by omega
      have b2 : (m : Int) + 1 < (zs.length : Int) := by omega
      have b3 : (m : Int) < (zs.length : Int) := by omega
      have hgw : w.heap.size ≤ g := ((HO4.out.lt g rfl).1)
      by_cases hyx : X < Y
      · have hz : decide (X < Y) = true := by simpa using hyx
        rw [hcast]
        go_wp2_with fail
        go_quiet (fail)
        have HYX := Lib.hid hyx
        have HS5 := Lib.hid (HST.out (wr.drewN nq) Y HY.out HO4.out)
        have HB5 := Lib.hid (below_of_grown (below_drewN HB4.out nq) HB4.out.size HS5.out.2 (fun k hk => by injection hk with hk; omega))
        go_wp2
        go_roundw
        case rel => exact ⟨m, by go_num, by omega, HS5.out.1, by
          rw [HDR.out]
          intro b hb
          rcases List.mem_cons.1 hb with rfl | hb
          · exact HYX.out
          · exact HD.out b hb, HB5.out⟩
        case measure => simp [intOf] <;> omega
      · have hz : decide (X < Y) = false := by simpa using hyx
        have HE := Lib.hid (HE1.out (fun _ => by rw [Nat.add_sub_cancel, HY.out]; omega))
        rw [HE.out] at HO4
        rw [hcast]
        go_wp2_with fail
        go_quiet (fail)
        go_wp2
        go_roundw
        case rel => exact ⟨i + 1, by go_num, by omega, by omega, HO4.out, below_drewN HB4.out _⟩
        case measure => simp [intOf] <;> omega

end Go.Proofs.YtbgmbanebmlghaaGreatDoor

namespace Go.Proofs.YtbgmbanebmlghaaGreatDoor
open Go.RowKit
set_option linter.unusedVariables false

/-- A list of integers, drawn. -/
def DsEnd (w : World) (e : Ending) (w' : World) : Prop :=
  ∃ (a : Option Addr) (n c : Nat) (zs : List Int), e = .returned (.slice a n c) ∧ w'.ownsRow w.heap.size 3 1 (.slice a n c) n (zs.map (Value.int .i64)) ∧ zs.length = n ∧ n ≤ 70 ∧ Below w.heap.size w w'

set_option maxRecDepth 100000 in
set_option maxHeartbeats 4000000 in
theorem drawIsSorted_any (ac : Option Addr) (c : Nat) (cs : List Int) (w : World) (hl : cs.length ≤ 65537) (h : BytesAt w ac cs) :
    Calls Tryz.prog 48 #[.slice ac cs.length c] w (DsEnd w) := by
  obtain ⟨h1, h2, h3⟩ := cur_start (c := c) hl h
  have HO := Lib.hid h2; have HB := Lib.hid h3
  obtain ⟨W, hW⟩ : ∃ W, w.alloc (.cells #[.slice ac cs.length c, .int .i64 0, .int .u64 0] 101) = W := ⟨_, rfl⟩
  have hsz : W.heap.size = w.heap.size + 1 := by rw [← hW]; simp
  rw [hW] at h1 HB
  have HC := Lib.hid h1
  have D0 : Hid (Drawn W W w.heap.size ac cs 0) := ⟨HC.out, grown_refl _ _, by omega, fun h0 b off e => by have := HO.out h0 b off e; omega⟩
  clear h h1 h2 h3
  unfold DsEnd
  go_enter Tryz.func48, Tryz.ntmps48
  go_wp2_with fail
  refine (anyInts_any w.heap.size ac cs 0 _ (by omega) HC.out (fun h0 b off e => by have := HO.out h0 b off e; omega)).mono ?_
  rintro e w1 ⟨a1, c1, L, rfl, ho, hl1, -, hD⟩
  obtain ⟨n, hn⟩ : ∃ n, L.length = n := ⟨_, rfl⟩
  rw [hn] at ho hl1
  rw [hn]
  have HO1 := Lib.hid ho
  have D1 := Lib.hid hD
  have HLN := Lib.hid hn
  have hs1 := hD.grown.size
  clear ho hD D0 HC hn
  have HL2 := Lib.hid (fun (W : World) (hW : IntsAt W a1 L) => l2List_any a1 c1 L W (by rw [HLN.out]; omega) hW)
  rw [HLN.out] at HL2
  go_wp2_with fail
  refine (HL2.out _ (ints_of_own HO1.out)).mono ?_
  rintro e w2 ⟨rfl, rfl⟩
  cases hok : okList L
  · clear hok HL2
    have HB1 := Lib.hid (HB.out.grown D1.out.grown (by omega) (fun k hk => by injection hk with hk; omega))
    go_wp2
    go_ret
    exact ⟨a1, n, c1, L, rfl, own_mono HO1.out (by omega), HLN.out, hl1, HB1.out⟩
  · clear hok HL2
    go_wp2_with fail
    refine (one_any w.heap.size ac cs _ 2 _ ?m1 (by omega) D1.out.cur).mono ?_
    case m1 => omega
    rintro e w3 ⟨⟨b, rfl⟩, hc, hg⟩
    have O3 := Lib.hid (D1.out.own HO1.out (by omega) hg)
    have D3 := Lib.hid (D1.out.step hc hg)
    clear hc hg D1 HO1
    cases b
    · have HB1 := Lib.hid (HB.out.grown D3.out.grown (by omega) (fun k hk => by injection hk with hk; omega))
      go_wp2
      go_ret
      exact ⟨a1, n, c1, L, rfl, own_mono O3.out (by omega), HLN.out, hl1, HB1.out⟩
    have HSR := Lib.hid (l2SortedG_any a1 c1 L w3 (by rw [HLN.out]; omega) (nilOr_own O3.out) (ints_of_own O3.out))
    rw [HLN.out] at HSR
    unfold OwnEnd at HSR
    go_wp2_with fail
    refine HSR.out.mono ?_
    rintro e w4 ⟨g, c4, rfl, ho, hb⟩
    have hs3 := D3.out.grown.size
    have D4 := Lib.hid (D3.out.below hb)
    have O4 := Lib.hid (own_mono ho (show W.heap.size ≤ w3.heap.size from hs3))
    obtain ⟨S, hS⟩ : ∃ S, Mg.srtI L = S := ⟨_, rfl⟩
    have HSL : Hid (S.length = n) := by show _ = _; have := ho.1; rw [hS] at this; simpa using this
    rw [hS] at O4
    clear ho hb HSR O3 D3 hS
    by_cases hn1 : 1 < n
    case neg =>
      have q1 : decide ((1 : Int) < (n : Int)) = false := decide_eq_false (by omega)
      have HB1 := Lib.hid (HB.out.grown D4.out.grown (by omega) (fun k hk => by injection hk with hk; omega))
      go_wp2
      go_ret
      exact ⟨some ⟨g, 0, none⟩, n, c4, S, rfl, own_mono O4.out (by omega), HSL.out, hl1, HB1.out⟩
    have q1 : decide ((1 : Int) < (n : Int)) = true := decide_eq_true (by omega)
    go_wp2_with fail
    refine (one_any w.heap.size ac cs _ 2 _ ?m2 (by omega) D4.out.cur).mono ?_
    case m2 => omega
    rintro e w5 ⟨⟨b, rfl⟩, hc, hg⟩
    have O5 := Lib.hid (D4.out.own O4.out (by omega) hg)
    have D5 := Lib.hid (D4.out.step hc hg)
    clear hc hg D4 O4
    cases b
    · have HB1 := Lib.hid (HB.out.grown D5.out.grown (by omega) (fun k hk => by injection hk with hk; omega))
      go_wp2
      go_ret
      exact ⟨some ⟨g, 0, none⟩, n, c4, S, rfl, own_mono O5.out (by omega), HSL.out, hl1, HB1.out⟩
    go_wp2_with fail
    refine (pick_any w.heap.size ac cs _ ((n : Int) - 1) _ ?m3 (by omega) D5.out.cur).mono ?_
    case m3 => omega
    rintro e w6 ⟨⟨r, rfl, hr0, hr1⟩, hc, hg⟩
    have O6 := Lib.hid (D5.out.own O5.out (by omega) hg)
    have D6 := Lib.hid (D5.out.step hc hg)
    clear hc hg D5 O5
    obtain ⟨i, rfl⟩ := Int.eq_ofNat_of_zero_le hr0
    have hi : i + 1 < n := by omega
    obtain ⟨g', hg', hg1, hg2, hcc⟩ := own_cell O6.out (by omega)
    injection hg' with hg'
    injection hg' with hg'
    subst hg'
    have hg0 := (O6.out.lt g rfl).1
    obtain ⟨x, hx⟩ : ∃ x, S.getD i 0 = x := ⟨_, rfl⟩
    obtain ⟨y, hy⟩ : ∃ y, S.getD (i + 1) 0 = y := ⟨_, rfl⟩
    have k1 : w6.cell? ⟨g, i, none⟩ = some (.int .i64 x) := by
      rw [hcc i (by omega), List.getElem?_map, List.getElem?_eq_getElem (by rw [HSL.out]; omega), ← hx, List.getD_eq_getElem?_getD, List.getElem?_eq_getElem (by rw [HSL.out]; omega)]; rfl
    have k2 : w6.cell? ⟨g, i + 1, none⟩ = some (.int .i64 y) := by
      rw [hcc (i + 1) (by omega), List.getElem?_map, List.getElem?_eq_getElem (by rw [HSL.out]; omega), ← hy, List.getD_eq_getElem?_getD, List.getElem?_eq_getElem (by rw [HSL.out]; omega)]; rfl
    have R1 := O6.out.stored i (.int .i64 y)
    have R2 := R1.1.stored (i + 1) (.int .i64 x)
    have hst : ((S.map (Value.int .i64)).set i (.int .i64 y)).set (i + 1) (.int .i64 x) = ((S.set i y).set (i + 1) x).map (Value.int .i64) := by rw [List.map_set, List.map_set]
    rw [hst] at R2
    have k3 : (w6.setCell ⟨g, i, none⟩ (.int .i64 y)).cell? ⟨g, i + 1, none⟩ = some (.int .i64 y) := (World.cell?_setCell_other (h := by simp) ..).trans k2
    have f1 := O6.out.frozenAt i
    have f2 := R1.1.frozenAt (i + 1)
    have HR := Lib.hid R2.1
    have DR := Lib.hid ((D6.out.app O6.out (by omega) R1.2).app R1.1 (by omega) R2.2)
    have b0 : (0 : Int) ≤ (i : Int) := by omega
    have b1 : (i : Int) < (n : Int) := by omega
    have b2 : (0 : Int) ≤ (i : Int) + 1 := by omega
    have b3 : (i : Int) + 1 < (n : Int) := by omega
    have b4 : ((i : Int) + 1).toNat = i + 1 := by omega
    clear hcc R1 R2 hst O6 D6 hr0 hr1 hx hy
    have HB1 := Lib.hid (HB.out.grown DR.out.grown (by omega) (fun k hk => by injection hk with hk; omega))
    go_wp2
    go_ret
    exact ⟨some ⟨g, 0, none⟩, n, c4, (S.set i y).set (i + 1) x, rfl, own_mono HR.out (by omega), by rw [List.length_set, List.length_set]; exact HSL.out, hl1, HB1.out⟩
/-- A valid list of integers. -/
def VlEnd (w : World) (e : Ending) (w' : World) : Prop :=
  ∃ (a : Option Addr) (n c : Nat) (zs : List Int), e = .returned (.slice a n c) ∧ IntsAt w' a zs ∧ zs.length = n ∧ okList zs = true ∧ Below w.heap.size w w'

set_option maxRecDepth 100000 in
set_option maxHeartbeats 1000000 in
theorem vListL_any (ac : Option Addr) (c : Nat) (cs : List Int) (w : World) (hl : cs.length ≤ 65537) (h : BytesAt w ac cs) :
    Calls Tryz.prog 11 #[.slice ac cs.length c] w (VlEnd w) := by
  have HD := Lib.hid (drawIsSorted_any ac c cs w hl h)
  clear h
  unfold DsEnd at HD
  unfold VlEnd
  go_enter Tryz.func11, Tryz.ntmps11
  go_wp2_with fail
  refine HD.out.mono ?_
  rintro e w1 ⟨a1, n, c1, L, rfl, ho, hln, hn, hb⟩
  have HI := Lib.hid (ints_of_own ho)
  have HB := Lib.hid hb
  have HSV := Lib.hid (specIsValidList_any a1 c1 L w1 (by omega) HI.out)
  rw [hln] at HSV
  have HLN := Lib.hid hln
  clear ho hb HD hln
  go_wp2_with fail
  refine HSV.out.mono ?_
  rintro e w2 ⟨rfl, rfl⟩
  cases hok : okList L
  · have hbn := (Below.refl w1.heap.size w1).alloc (Nat.le_refl _) (.cells #[.int .i64 3, .int .i64 1, .int .i64 2, .int .i64 1] 3)
    have HB2 := Lib.hid (HB.out.trans (hbn.mono HB.out.size))
    have HI2 := Lib.hid (lit_ints w1 [3, 1, 2, 1] (by decide))
    clear hok hbn
    go_wp2
    go_ret
    exact ⟨some ⟨w1.heap.size, 0, none⟩, 4, 4, [3, 1, 2, 1], rfl, HI2.out, rfl, by decide, HB2.out⟩
  · have HOK := Lib.hid hok
    clear hok
    go_wp2
    go_ret
    exact ⟨a1, n, c1, L, rfl, HI.out, HLN.out, HOK.out, HB.out⟩
end Go.Proofs.YtbgmbanebmlghaaGreatDoor

