/- Several texts in one: lemmas and walks of the functions that the law reaches. -/
import Derived.Test.YtbgmbanebmlghaaGreatDoorY42
import Derived.Lib.SplitLaws

namespace Go.Proofs.YtbgmbanebmlghaaGreatDoor
open Go.RowKit
set_option linter.unusedVariables false

set_option maxRecDepth 100000 in
set_option maxHeartbeats 2000000 in
theorem keysOfS_any (a : Option Addr) (n cap : Nat) (zs : List (Int × Int)) (w : World) (hn : zs.length = n) (hlen : n ≤ 1048576) (h : RecsAt w a zs) :
    Calls Tryz.prog 143 #[.slice a n cap] w fun e w' => ∃ g c', e = .returned (.slice (some ⟨g, 0, none⟩) n c') ∧ w'.ownsRow w.heap.size 3 1 (.slice (some ⟨g, 0, none⟩) n c') n ((keysL zs).map (Value.int .i64)) ∧ Below w.heap.size w w' := by
  have H := Lib.hid h; have HN := Lib.hid hn
  have E1 := Lib.hid (own_lit (w := w) (e := 3) (size := 1) #[] 0 (by omega) rfl)
  have HB0 := Lib.hid ((Below.refl w.heap.size w).alloc (Nat.le_refl _) (.cells #[] 3))
  clear h hn
  go_enter Tryz.func143, Tryz.ntmps143
  go_wp2
  go_loopw [3, 5, 9] (fun v _ i wr => ∃ k : Nat, k ≤ n ∧ i = .int .i64 k ∧ (∃ b, v.ownBlock = some b) ∧ wr.ownsRow w.heap.size 3 1 v k ((keysL (zs.take k)).map (Value.int .i64)) ∧ Below w.heap.size w wr) (fun _ _ i _ => n - (intOf i).toNat)
  case atStart => exact ⟨0, by omega, rfl, ⟨_, rfl⟩, E1.out, HB0.out⟩
  case round =>
    obtain ⟨k, hk, rfl, ⟨b0, hb0⟩, hown, hb⟩ := hrel
    have HO := Lib.hid hown; have HB := Lib.hid hb; have HB0k := Lib.hid hb0
    clear E1 HB0 hown hb hb0
    by_cases hlt : k < n
    · have hlz : k < zs.length := by rw [HN.out]; exact hlt
      obtain ⟨b, off, rfl, hc1, hc2⟩ := (H.out.below (Nat.le_refl _) HB.out).at hlz
      have HS := Lib.hid (keysL_succ hlz)
      obtain ⟨⟨x, y⟩, hr⟩ : ∃ r, zs.getD k (0, 0) = r := ⟨_, rfl⟩
      rw [hr] at hc1 hc2 HS
      simp only at hc1 hc2
      have q1 : decide ((k : Int) < (n : Int)) = true := decide_eq_true (by omega)
      have b1 : (0 : Int) ≤ (k : Int) := by omega
      have b2 : (k : Int) < (n : Int) := by omega
      have hn1 : k + 1 ≤ 1099511627776 := by omega
      have hbs := HB.out.size
      have hbs2 : w.heap.size ≤ (wr.alloc (.cells #[.int .i64 x, .int .i64 y] 87)).heap.size := by simp; omega
      clear hr hlz
      go_wp2_with (at_builtin; refine wpList_app1 slInt rfl _ _ rfl rfl (HO.out.alloc _) [.int .i64 x] rfl rfl (by simp) (by simp [Value.oneCell']) hn1 hbs2 ?_; intro v' w1 hown' hg ht)
      have HO' := Lib.hid hown'
      have HB' := Lib.hid (below_app (HB.out.alloc hbs _) hbs2 (HO.out.alloc _) (Nat.le_refl _) hg)
      have HT : Hid (∃ b, v'.ownBlock = some b) := by
        rcases ht with h | h
        · exact ⟨b0, h.trans HB0k.out⟩
        · exact ⟨_, h⟩
      clear hown' hg ht hbs hn1
      go_roundw
      case rel => exact ⟨k + 1, by omega, by go_num, HT.out, by rw [HS.out, List.map_append]; exact HO'.out, HB'.out⟩
      case measure => simp [intOf] <;> omega
    · obtain rfl : k = n := by omega
      have q1 : decide ((k : Int) < (k : Int)) = false := by simp
      have ho := HO.out
      rw [List.take_of_length_le (by rw [HN.out]; exact Nat.le_refl _)] at ho
      obtain ⟨a', c', rfl⟩ := own_slice ho
      obtain ⟨g, hg, _⟩ := own_addr ho (by rw [HB0k.out]; simp)
      subst hg
      have HO2 := Lib.hid ho
      clear ho HO
      go_wp2
      go_ret
      exact ⟨g, c', rfl, HO2.out, HB.out⟩

set_option maxRecDepth 100000 in
set_option maxHeartbeats 2000000 in
theorem changeSort_any (a wa : Option Addr) (n c m : Nat) (rs : Recs) (xs : List ByteArray) (s : ByteArray) (hs : bs s = [115, 111, 114, 116]) (w : World) (hn : n ≤ 1000) (hm : xs.length = m) (hm2 : m ≤ 1048577) (hok : okRecs rs = true) (h : Rd w a n c rs) (hx : StrsAt w wa xs) (he : Env w) :
    Calls Tryz.prog 100 #[.slice a n c, .string s, .slice wa m m] w (ChEnd w (sortC rs xs)) := by
  have HC := Lib.hid (conSort_any a wa n c m rs xs w hn hm hm2 hok h hx he)
  have q1 : (s.toList == [115, 111, 114, 116]) = true := strEq hs
  clear h hx he hs
  unfold ChEnd at *
  go_enter Tryz.func100, Tryz.ntmps100
  go_wp2_with fail
  refine HC.out.mono ?_
  rintro e w1 ⟨a1, n1, c1, t, rfl, hb, hsz, hr⟩
  have HB := Lib.hid hb; have HR := Lib.hid hr
  clear hb hr
  go_wp2
  go_ret3
  exact ⟨a1, n1, c1, t, rfl, HB.out, hsz, HR.out⟩

set_option maxRecDepth 100000 in
set_option maxHeartbeats 2000000 in
/-- A command without numbers changes nothing, unless it sorts. -/
theorem changeNo_any (a wa : Option Addr) (n c : Nat) (s : ByteArray) (hs : (s.toList == [115, 111, 114, 116]) = false) (w : World) (he : Env w) :
    Calls Tryz.prog 100 #[.slice a n c, .string s, .slice wa 0 0] w (ChEnd w none) := by
  have HRN := Lib.hid (readNumbers_any wa 0 0 [] w rfl (by omega) he (.inl rfl))
  rw [nums_nil] at HRN
  obtain ⟨e1, q1⟩ : ∃ e1, (s.toList == [108, 111, 97, 100]) = e1 := ⟨_, rfl⟩
  obtain ⟨e2, q2⟩ : ∃ e2, (s.toList == [115, 119, 97, 112]) = e2 := ⟨_, rfl⟩
  clear he
  unfold RnEnd at HRN
  unfold ChEnd
  cases e1 <;> cases e2
  all_goals
    go_enter Tryz.func100, Tryz.ntmps100
    go_wp2_with fail
    refine HRN.out.mono ?_
    rintro e w1 ⟨a1, m1, c1, rfl, ho, hb⟩
    have hm0 : m1 = 0 := by have := ho.1; simpa using this.symm
    subst hm0
    have HB := Lib.hid hb
    clear ho hb
    go_wp2
    go_ret3
    exact ⟨none, 0, 0, _, rfl, HB.out, by decide, fun L t e => nomatch e⟩

set_option maxRecDepth 100000 in
set_option maxHeartbeats 2000000 in
theorem askIns_any (a : Option Addr) (n c c9 v9 : Nat) (rs : Recs) (R : List Int) (s : ByteArray) (hs : bs s = [105, 110, 115, 101, 114, 116, 105, 111, 110]) (w : World) (hok : okList (keysL rs) = true) (hR : Es.gapd 1 (keysL rs) = (R, c9, v9)) (hv : c9 ≤ 10000 ∧ v9 ≤ 10000) (h : Rd w a n c rs) (he : Env w) :
    Calls Tryz.prog 102 #[.slice a n c, .string s] w (AskEnd w (some (numT 32 [(c9 : Int), (v9 : Int)]))) := by
  have hl : n ≤ 64 := by have := okList_len hok; rw [keysL_len, h.len] at this; exact this
  have hkl : (keysL rs).length = n := by rw [keysL_len, h.len]
  have HK := Lib.hid (keysOfS_any a n c rs w h.len (by omega) h.recs)
  have HI := Lib.hid (fun (W : World) (x : Addr) (cap : Nat) (hW : IntsAt W (some x) (keysL rs)) => insertionSortI_any x cap n c9 v9 (keysL rs) R W hkl hok hR hW)
  have HE := Lib.hid he
  have HV := Lib.hid hv
  have q1 : (s.toList == [107, 101, 121, 115]) = false := strNe (by rw [hs]; decide)
  have q2 : (s.toList == [116, 97, 103, 115]) = false := strNe (by rw [hs]; decide)
  have q3 : (s.toList == [114, 117, 110, 115]) = false := strNe (by rw [hs]; decide)
  have q4 : (s.toList == [105, 110, 115, 101, 114, 116, 105, 111, 110]) = true := strEq hs
  clear h he hs hok hR hkl hv
  unfold SortEnd at HI
  unfold AskEnd
  go_enter Tryz.func102, Tryz.ntmps102
  go_wp2_with fail
  refine HK.out.mono ?_
  rintro e w1 ⟨g, c1, rfl, ho, hb⟩
  have HI1 := Lib.hid (HI.out w1 ⟨g, 0, none⟩ c1 (ints_of_own ho))
  have HB1 := Lib.hid hb
  clear ho hb HK HI
  go_wp2_with fail
  refine HI1.out.mono ?_
  rintro e w2 ⟨g2, c2, rfl, ho, hb⟩
  have HB2 := Lib.hid (below_tr HB1.out hb HB1.out.size)
  clear ho hb HI1 HB1
  have hbn := (Below.refl w2.heap.size w2).alloc (Nat.le_refl _) (.cells #[.int .i64 (c9 : Int), .int .i64 (v9 : Int)] 3)
  have HB3 := Lib.hid (below_tr HB2.out hbn HB2.out.size)
  have hz : ∀ y ∈ [(c9 : Int), (v9 : Int)], -9223372036854775808 ≤ y ∧ y ≤ 9223372036854775807 := by
    intro y hy
    have := HV.out
    simp only [List.mem_cons, List.not_mem_nil, or_false] at hy
    omega
  have HSP := Lib.hid (spaced_any (some ⟨w2.heap.size, 0, none⟩) 2 2 [(c9 : Int), (v9 : Int)] (w2.alloc (.cells #[.int .i64 (c9 : Int), .int .i64 (v9 : Int)] 3)) rfl (by omega) hz (HE.out.below HB3.out).tab (lit_ints w2 [(c9 : Int), (v9 : Int)] (by simp)))
  have HZ := Lib.hid hz
  clear hbn hz
  go_wp2_with fail
  refine HSP.out.mono ?_
  rintro e w3 ⟨rfl, hb⟩
  have HB4 := Lib.hid (below_tr HB3.out hb HB3.out.size)
  clear hb
  go_wp2
  go_ret2
  exact ⟨_, rfl, HB4.out, by rw [ba_size]; exact Nat.le_trans (numT_len (k := 2) (by simp) (by omega) HZ.out) (by omega), fun t e => by injection e with e; rw [e]⟩
end Go.Proofs.YtbgmbanebmlghaaGreatDoor

namespace Go.Proofs.YtbgmbanebmlghaaGreatDoor
open Go.RowKit
set_option linter.unusedVariables false

/-- The words of a line. -/
def wordsB (line : ByteArray) : List ByteArray := Lib.splitB ⟨#[32]⟩ 0 (Lib.countB line ⟨#[32]⟩) line
theorem wordsB_len (line : ByteArray) : (wordsB line).length = Lib.countB line ⟨#[32]⟩ + 1 := Lib.splitB_all ⟨#[32]⟩ (by decide) 0 _ line rfl
theorem wordsSplit_any (line : ByteArray) (m : Nat) (hm : (wordsB line).length = m) (w : World) (hs : line.size ≤ 1000000) (he : Env w) :
    Calls Tryz.prog 75 #[.string line, .string ⟨#[32]⟩] w fun e w' => e = .returned (.slice (some ⟨w.heap.size, 0, none⟩) m m) ∧ StrsAt w' (some ⟨w.heap.size, 0, none⟩) (wordsB line) ∧ Below w.heap.size w w' := by
  obtain ⟨x, hx⟩ := he.mx
  refine (Tryz.strings_Split line ⟨#[32]⟩ x w (by omega) hx (by decide)).mono ?_
  rintro e w' ⟨rfl, rfl⟩
  have hl := wordsB_len line
  refine ⟨?_, .inr ⟨w.heap.size, 0, rfl, by simp, fun j y hy => ?_⟩, (Below.refl _ _).alloc (Nat.le_refl _) _⟩
  · rw [← hl, hm]
  · rw [Nat.zero_add]
    have h1 := alloc_cell (w := w) (cs := ((wordsB line).map Value.string).toArray) (t := 9) j
    refine h1.trans ?_
    simp [hy]

set_option maxRecDepth 100000 in
set_option maxHeartbeats 4000000 in
theorem performSort_any (a : Option Addr) (n c : Nat) (rs L : Recs) (t : List UInt8) (line x : ByteArray) (xs : List ByteArray) (w : World) (hw : wordsB line = x :: xs) (hxs : 0 < xs.length) (hx : bs x = [115, 111, 114, 116]) (hL : sortC rs xs = some (L, t)) (hn : n ≤ 1000) (hl : line.size ≤ 1000) (hok : okRecs rs = true) (h : Rd w a n c rs) (he : Env w) :
    Calls Tryz.prog 56 #[.slice a n c, .string line] w (PfEnd w L t) := by
  obtain ⟨m, hm⟩ : ∃ m, (wordsB line).length = m := ⟨_, rfl⟩
  have hml : xs.length = m - 1 := by rw [← hm, hw]; simp
  have hm2 : 2 ≤ m := by omega
  have hm3 : m ≤ 1048577 := by
    rw [← hm, wordsB_len]
    have := Lib.countB_le ⟨#[32]⟩ (by decide) line.size line (Nat.le_refl _)
    omega
  have HSPL := Lib.hid (wordsSplit_any line m hm w (by omega) he)
  rw [hw] at HSPL
  have HCH := Lib.hid (fun (W : World) (hb : Below w.heap.size w W) (hs : StrsAt W (some ⟨w.heap.size, 1, none⟩) xs) => changeSort_any a (some ⟨w.heap.size, 1, none⟩) n c (m - 1) rs xs x hx W hn hml (by omega) hok (h.same hb) hs (he.below hb))
  rw [hL] at HCH
  have b1 : (1 : Int) ≤ (m : Int) := by omega
  have b2 : (0 : Int) < (m : Int) := by omega
  have hm1 : ¬ m = 1 := by omega
  have hm0 : 0 < m := by omega
  have q0 : decide ((0 : Int) < (m : Int)) = true := decide_eq_true b2
  clear hm hml hw h he hok hL hx hl hn hm2
  unfold ChEnd at HCH
  unfold PfEnd
  go_enter Tryz.func56, Tryz.ntmps56
  go_wp2_with fail
  refine HSPL.out.mono ?_
  rintro e w1 ⟨rfl, hst, hb1⟩
  obtain ⟨b, off, hb0, hlt, hc0⟩ := hst.at (k := 0) rfl
  injection hb0 with hb0
  injection hb0 with hb0 hb00
  subst hb0 hb00
  rw [Nat.zero_add] at hc0
  have HB1 := Lib.hid hb1
  have HTL := Lib.hid (hst.tail (k := 1))
  simp only [List.drop_succ_cons, List.drop_zero, Nat.zero_add] at HTL
  have HSX : Hid (∀ W, Below w1.heap.size w1 W → (fun w' => w'.cell? ⟨w.heap.size, 0, none⟩ = some (.string x) ∧ Below w1.heap.size w1 w') W) := fun W hb => ⟨(bcell hb hlt).trans hc0, hb⟩
  have bd := (Below.refl w1.heap.size w1).drew
  have hS0 := HSX.out _ bd
  have hA := Lib.hid bd
  clear hst hb1 hc0 bd HSPL
  dsimp only at hS0
  go_wp2_with fail
  go_region_held3 (fun w' => w'.cell? ⟨w.heap.size, 0, none⟩ = some (.string x) ∧ Below w1.heap.size w1 w') (go_keep) (first | ((try go_split_ands); go_at_call 100; refine (HCH.out _ (below_tr HB1.out hA.out HB1.out.size) (HTL.out.same hA.out)).mono ?_; rintro e w2 ⟨a2, n2, c2, s2, rfl, hb2, -, hr2⟩; have hbx := hA.out.trans (hb2.mono hA.out.size); have hS := HSX.out _ hbx))
  obtain ⟨hr3, rfl⟩ := hr2 _ _ rfl
  have HR2 := Lib.hid hr3
  have HB2 := Lib.hid (below_tr HB1.out hbx HB1.out.size)
  clear hbx hS hb2 hr2 hr3
  go_wp2
  go_ret2
  exact ⟨a2, n2, c2, rfl, HR2.out, HB2.out⟩

set_option maxRecDepth 100000 in
set_option maxHeartbeats 4000000 in
theorem performIns_any (a : Option Addr) (n c c9 v9 : Nat) (rs : Recs) (R : List Int) (line x : ByteArray) (w : World) (hw : wordsB line = [x]) (hx : bs x = [105, 110, 115, 101, 114, 116, 105, 111, 110]) (hl : line.size ≤ 1000) (hok : okList (keysL rs) = true) (hR : Es.gapd 1 (keysL rs) = (R, c9, v9)) (hv : c9 ≤ 10000 ∧ v9 ≤ 10000) (h : Rd w a n c rs) (he : Env w) :
    Calls Tryz.prog 56 #[.slice a n c, .string line] w (PfEnd w rs (numT 32 [(c9 : Int), (v9 : Int)])) := by
  have HSPL := Lib.hid (wordsSplit_any line 1 (by rw [hw]; rfl) w (by omega) he)
  rw [hw] at HSPL
  have HCH := Lib.hid (fun (W : World) (hb : Below w.heap.size w W) => changeNo_any a (some ⟨w.heap.size, 0, none⟩) n c x (strNe (by rw [hx]; decide)) W (he.below hb))
  have HRN := Lib.hid (fun (W : World) (hb : Below w.heap.size w W) => readNumbers_any (some ⟨w.heap.size, 0, none⟩) 0 0 [] W rfl (by omega) (he.below hb) (.inl rfl))
  rw [nums_nil] at HRN
  have HAK := Lib.hid (fun (W : World) (hb : Below w.heap.size w W) => askIns_any a n c c9 v9 rs R x hx W hok hR hv (h.same hb) (he.below hb))
  have HH := Lib.hid h
  clear hw h he hok hR hx hl hv
  unfold ChEnd at HCH
  unfold RnEnd at HRN
  unfold AskEnd at HAK
  unfold PfEnd
  go_enter Tryz.func56, Tryz.ntmps56
  go_wp2_with fail
  refine HSPL.out.mono ?_
  rintro e w1 ⟨rfl, hst, hb1⟩
  obtain ⟨b, off, hb0, hlt, hc0⟩ := hst.at (k := 0) rfl
  injection hb0 with hb0
  injection hb0 with hb0 hb00
  subst hb0 hb00
  rw [Nat.zero_add] at hc0
  have HB1 := Lib.hid hb1
  have HSX : Hid (∀ W, Below w1.heap.size w1 W → (fun w' => w'.cell? ⟨w.heap.size, 0, none⟩ = some (.string x) ∧ Below w1.heap.size w1 w') W) := fun W hb => ⟨(bcell hb hlt).trans hc0, hb⟩
  have bd := (Below.refl w1.heap.size w1).drew
  have hS0 := HSX.out _ bd
  have hA := Lib.hid bd
  clear hst hb1 hc0 bd HSPL
  dsimp only at hS0
  go_wp2_with fail
  go_region_held3 (fun w' => w'.cell? ⟨w.heap.size, 0, none⟩ = some (.string x) ∧ Below w1.heap.size w1 w') (go_keep) (first | ((try go_split_ands); go_at_call 100; refine (HCH.out _ (below_tr HB1.out hA.out HB1.out.size)).mono ?_; rintro e w2 ⟨a2, n2, c2, s2, rfl, hb2, -, -⟩; have hbx := hA.out.trans (hb2.mono hA.out.size); have hS := HSX.out _ hbx))
  obtain ⟨hc2, -⟩ := hS
  have HX2 := Lib.hid hbx
  have HB2 := Lib.hid (below_tr HB1.out hbx HB1.out.size)
  clear hbx hb2
  go_wp2_with fail
  refine (HRN.out _ HB2.out).mono ?_
  rintro e w3 ⟨a3, m3, c3, rfl, -, hb3⟩
  have HX3 := Lib.hid (below_tr HX2.out hb3 HX2.out.size)
  have hc3 := (HSX.out _ HX3.out).1
  have HB3 := Lib.hid (below_tr HB1.out HX3.out HB1.out.size)
  clear hb3 hc2
  go_wp2_with fail
  refine (HAK.out _ HB3.out).mono ?_
  rintro e w4 ⟨s4, rfl, hb4, -, ht4⟩
  obtain rfl := ht4 _ rfl
  have HB4 := Lib.hid (below_tr HB3.out hb4 HB3.out.size)
  clear hb4 ht4 hc3
  go_wp2
  go_ret2
  exact ⟨a, n, c, rfl, HH.out.same HB4.out, HB4.out⟩
end Go.Proofs.YtbgmbanebmlghaaGreatDoor

