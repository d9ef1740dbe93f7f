/- Several texts in one: lemmas and walks of the functions that the law reaches. -/
import Derived.Test.YtcdfinkefahloaaY8
import Derived.Test.YtcdfinkefahloaaY15

namespace Go.Proofs.Ytcdfinkefahloaa
open Go.RowKit
set_option linter.unusedVariables false

/-- A row of counts of the call's own. -/
abbrev NRow (w : World) (B g c k : Nat) (L : List Nat) : Prop := w.ownsRow B 3 1 (.slice (some ⟨g, 0, none⟩) k c) k ((iN L).map (Value.int .i64))
theorem nrow_at {w : World} {B g c k i : Nat} {L : List Nat} (h : NRow w B g c k L) (hi : i < k) : w.cell? ⟨g, i, none⟩ = some (.int .i64 (L.getD i 0 : Nat)) := by
  obtain ⟨b, o, e, hc⟩ := (ints_of_own h).at (k := i) (by rw [iN_len]; have := h.1; simp [iN] at this; omega)
  injection e with e
  injection e with e1 e2 _
  subst e1; subst e2
  rw [Nat.zero_add, iN_get] at hc
  exact hc
theorem nrow_cap {w : World} {B g c k : Nat} {L : List Nat} (h : NRow w B g c k L) : k ≤ c ∧ c ≤ maxLen := own_capG h
theorem mem_sum {L : List Nat} {x : Nat} (h : x ∈ L) : x ≤ L.sum := by
  induction L with
  | nil => cases h
  | cons y t ih =>
    rw [List.sum_cons]
    rcases List.mem_cons.1 h with h | h
    · omega
    · have := ih h; omega
theorem getD_sum (L : List Nat) (i : Nat) : L.getD i 0 ≤ L.sum := by
  rw [List.getD_eq_getElem?_getD]
  cases h : L[i]? with
  | none => simp
  | some x => exact mem_sum (List.mem_of_getElem? h)
/-- A list of counts behind a call. -/
def CntE (w : World) (k : Nat) (L : List Nat) (e : Ending) (w' : World) : Prop := ∃ (g c : Nat), e = .returned (.slice (some ⟨g, 0, none⟩) k c) ∧ NRow w' w.heap.size g c k L ∧ Below w.heap.size w w'

theorem next_take {L : List Nat} {m i : Nat} (hl : L.length = m + 1) (hi : i < m) : (((L.tail.take (i + 1)).map fun x => L.headD 0 + x)) = ((L.tail.take i).map fun x => L.headD 0 + x) ++ [L.getD 0 0 + L.getD (i + 1) 0] := by
  cases L with
  | nil => simp at hl
  | cons x t =>
    have : i < t.length := by simp at hl; omega
    have e : (x :: t).getD (i + 1) 0 = t[i] := by rw [List.getD_eq_getElem?_getD, List.getElem?_cons_succ, List.getElem?_eq_getElem this]; rfl
    rw [e]
    show (t.take (i + 1)).map (fun y => x + y) = (t.take i).map (fun y => x + y) ++ [x + t[i]]
    rw [List.take_succ_eq_append_getElem this, List.map_append]; rfl
theorem made_zero (n : Nat) : (madeCells (Value.cells (.int .i64 0)) (n * 1)).toList = (iN (List.replicate n 0)).map (Value.int .i64) := by
  rw [Nat.mul_one]
  apply List.ext_getElem?
  intro j
  by_cases hj : j < n
  · simp [madeCells, iN, Value.cells, hj, Nat.mod_one]
  · simp [madeCells, iN, Value.cells, hj]

theorem nrow_put {w : World} {B g c k i x : Nat} {L : List Nat} (hi : i < L.length) (h : w.ownsRow B 3 1 (.slice (some ⟨g, 0, none⟩) k c) k (((iN L).map (Value.int .i64)).take (i * 1) ++ [.int .i64 (x : Nat)] ++ ((iN L).map (Value.int .i64)).drop (i * 1 + 1))) : NRow w B g c k (L.set i x) := by
  have e : ((iN L).map (Value.int .i64)).take (i * 1) ++ [.int .i64 (x : Nat)] ++ ((iN L).map (Value.int .i64)).drop (i * 1 + 1) = (iN (L.set i x)).map (Value.int .i64) := by
    rw [Nat.mul_one, iN_set, List.map_set, List.set_eq_take_append_cons_drop, if_pos (by simp [iN]; exact hi)]
    simp
  rwa [e] at h

set_option maxRecDepth 100000 in
set_option maxHeartbeats 4000000 in
theorem distribution_any (m lev : Nat) (tI : Int) (w : World) (ht : tI = (m : Int) + 2) (h1 : 1 ≤ m) (h6 : m ≤ 6) (hl : lev ≤ 11) (hp : ∀ l, l ≤ lev → (Ply.perf (m + 2) l).length = m + 1 ∧ (Ply.perf (m + 2) l).sum ≤ 1000000) :
    Calls Try.prog 40 #[.int .i64 tI, .int .i64 lev] w (CntE w (m + 1) (Ply.perf (m + 2) lev)) := by
  subst ht
  have HP := Lib.hid hp
  clear hp
  have hnm : 0 < m + 1 := by omega
  go_enter Try.func40, Try.ntmps40
  go_wp2_with (first
    | (at_make; refine wpList_mk slInt rfl _ _ rfl (m + 1) (by show Value.int .i64 ((m : Int) + 2 - 1) = _; congr 1; omega) (by show Value.int .i64 ((m : Int) + 2 - 1) = _; congr 1; omega) (by omega) ?_; intro w1 ho1 hb1 hs1
       have HR1 : Hid (NRow w1 w.heap.size w.heap.size (m + 1) (m + 1) (List.replicate (m + 1) 0)) := by
         show NRow _ _ _ _ _ _
         rw [made_zero] at ho1
         exact ho1
       have HB1 := Lib.hid hb1; clear ho1 hb1)
    | (refine wpList_put slInt rfl (.tmp 13) _ rfl 0 rfl [.int .i64 ((1 : Nat) : Int)] rfl rfl (by simp [Value.oneCell']) HR1.out hnm ?_; intro w2 ho2 hg2
       have HR2 := Lib.hid (nrow_put (i := 0) (x := 1) (by simp) ho2)
       have HB2 := Lib.hid (HB1.out.grown hg2 (Nat.le_of_lt hs1) (fun b e => by injection e with e; omega))
       clear ho2 hg2))
  have hsz2 := HB2.out.size
  clear HR1 hs1
  go_loopw [5, 15] (fun v iv wr => ∃ (l g c : Nat), v = .slice (some ⟨g, 0, none⟩) (m + 1) c ∧ iv = .int .i64 l ∧ l ≤ lev ∧ NRow wr w.heap.size g c (m + 1) (Ply.perf (m + 2) l) ∧ Below w.heap.size w wr) (fun _ iv _ => lev - (intOf iv).toNat)
  case atStart => exact ⟨0, w.heap.size, m + 1, rfl, rfl, by omega, by
    have e : (List.replicate (m + 1) 0).set 0 1 = Ply.perf (m + 2) 0 := rfl
    rw [← e]; exact HR2.out, HB2.out⟩
  case round =>
    obtain ⟨l, g, c, rfl, rfl, hll, hr, hb⟩ := hrel
    have HR := Lib.hid hr; have HB := Lib.hid hb
    clear hr hb HR2 HB2 hsz2
    by_cases hlt : l < lev
    · have h3 : decide ((l : Int) < (lev : Int)) = true := decide_eq_true (by omega)
      obtain ⟨hL, hS⟩ := HP.out l hll
      obtain ⟨L, hLe⟩ : ∃ L, Ply.perf (m + 2) l = L := ⟨_, rfl⟩
      have HLE := Lib.hid hLe
      rw [hLe] at HR hL hS
      have hcap := (nrow_cap HR.out).1
      have hc1 : ¬ c = 1 := by omega
      have e1 : (1 : Int) ≤ (m : Int) + 1 := by omega
      have e2 : (m : Int) + 1 ≤ (c : Int) := by omega
      have hgl := (HR.out.lt g rfl).2
      have E0 := Lib.hid (own_lit (w := wr) (e := 3) (size := 1) #[] 0 (by omega) rfl)
      have HBA := Lib.hid (show Below wr.heap.size wr (wr.alloc (.cells #[] 3)) from (Below.refl _ _).alloc (Nat.le_refl _) _)
      have hwr := HB.out.size
      clear hLe
      go_wp2
      go_loopw [6, 21] (fun u jv wx => ∃ (j : Nat), jv = .int .i64 j ∧ j ≤ m ∧ wx.ownsRow wr.heap.size 3 1 u j ((iN ((L.tail.take j).map fun x => L.headD 0 + x)).map (Value.int .i64)) ∧ (∃ b, u.ownBlock = some b) ∧ Below wr.heap.size wr wx) (fun _ jv _ => m - (intOf jv).toNat)
      case atStart => exact ⟨0, rfl, by omega, E0.out, ⟨_, rfl⟩, HBA.out⟩
      case round =>
        obtain ⟨j, rfl, hj, ho, hob, hb⟩ := hrel
        have HO := Lib.hid ho; have HBX := Lib.hid hb
        clear ho hb E0 HBA
        have HRX := Lib.hid (own_below HR.out (Nat.le_refl _) HBX.out)
        have hwx := HBX.out.size
        have c0 := nrow_at HRX.out (i := 0) (by omega)
        have n0 := getD_sum L 0
        by_cases hjm : j < m
        · have h4 : decide ((j : Int) < (m : Int)) = true := decide_eq_true (by omega)
          have cj := nrow_at HRX.out (i := j + 1) (by omega)
          rw [show (⟨g, j + 1, none⟩ : Addr) = ⟨g, 1 + j, none⟩ by rw [Nat.add_comm]] at cj
          have nj := getD_sum L (j + 1)
          have HNT := Lib.hid (next_take (L := L) (m := m) (i := j) hL hjm)
          have b0 : (0 : Int) ≤ (j : Int) := by omega
          have b1 : (j : Int) < (m : Int) := by omega
          have hn40 : j + 1 ≤ 1099511627776 := by omega
          generalize L.getD 0 0 = y0 at c0 n0 HNT
          generalize L.getD (j + 1) 0 = yj at cj nj HNT
          have HOB0 := Lib.hid hob
          clear hob
          go_wp2_with (at_builtin; refine wpList_app1 slInt rfl _ _ rfl rfl HO.out [.int .i64 ((y0 : Int) + (yj : Int))] rfl rfl (by simp) (by simp [Value.oneCell']) hn40 hwx ?_; intro v' w7 hown' hg' ht')
          have HO7 := Lib.hid hown'
          have HB7 := Lib.hid (HBX.out.grown hg' hwx (fun b e => (HO.out.lt b e).1))
          have HOB : Hid (∃ b, v'.ownBlock = some b) := by
            rcases ht' with h | h
            · exact HOB0.out.imp fun b hb => h.trans hb
            · exact ⟨_, h⟩
          clear hown' hg' ht'
          go_roundw
          case rel => exact ⟨j + 1, by go_num, by omega, by
            rw [HNT.out, iN_snoc, List.map_append]
            exact HO7.out, HOB.out, HB7.out⟩
          case measure => simp [intOf] <;> omega
        · obtain rfl : j = m := by omega
          have h4 : decide ((j : Int) < (j : Int)) = false := by simp
          have hn40 : j + 1 ≤ 1099511627776 := by omega
          have HTK : Hid (L.tail.take j = L.tail) := List.take_of_length_le (by rw [List.length_tail]; omega)
          have HH : Hid (L.getD 0 0 = L.headD 0) := by cases L with | nil => simp at hL | cons x t => rfl
          rw [HTK.out] at HO
          generalize L.getD 0 0 = y0 at c0 n0 HH
          clear hob
          go_wp2_with (at_builtin; refine wpList_app1 slInt rfl _ _ rfl rfl HO.out [.int .i64 (y0 : Int)] rfl rfl (by simp) (by simp [Value.oneCell']) hn40 hwx ?_; intro v' w7 hown' hg' ht')
          obtain ⟨a5, c5, rfl⟩ := own_slice hown'
          obtain ⟨g5, rfl, _⟩ := own_cell hown' (by omega)
          have HO7 := Lib.hid (own_mono hown' hwr)
          have HB7 := Lib.hid (HB.out.trans ((HBX.out.grown hg' hwx (fun b e => (HO.out.lt b e).1)).mono hwr))
          clear hown' hg' ht'
          go_wp2
          go_roundw
          case rel => exact ⟨l + 1, g5, c5, rfl, by go_num, by omega, by
            show NRow _ _ _ _ _ (Ply.nextD (Ply.perf (j + 2) l))
            rw [HLE.out]
            unfold Ply.nextD
            rw [← HH.out]
            show World.ownsRow _ _ _ _ _ _ _
            rw [iN_snoc, List.map_append]
            have := HO7.out
            rw [← HH.out] at this
            exact this, HB7.out⟩
          case measure => simp [intOf] <;> omega
    · obtain rfl : l = lev := by omega
      have h3 : decide ((l : Int) < (l : Int)) = false := by simp
      go_wp2
      go_ret
      exact ⟨g, c, rfl, HR.out, HB.out⟩
end Go.Proofs.Ytcdfinkefahloaa

namespace Go.Proofs.Ytcdfinkefahloaa
open Go.RowKit
set_option linter.unusedVariables false

theorem nrow_set {w : World} {B g c k i : Nat} {L : List Nat} (x : Nat) (h : NRow w B g c k L) (hi : i < L.length) : NRow (w.setCell ⟨g, i, none⟩ (.int .i64 (x : Nat))) B g c k (L.set i x) ∧ w.grownBy (w.setCell ⟨g, i, none⟩ (.int .i64 (x : Nat))) (some g) := by
  have := h.stored i (.int .i64 (x : Nat))
  refine ⟨?_, this.2⟩
  show World.ownsRow _ _ _ _ _ _ _
  rw [iN_set, List.map_set]
  exact this.1

namespace Ply
theorem getD_set_le (l : List Nat) (i j x : Nat) : (l.set i x).getD j 0 ≤ max x (l.getD j 0) := by
  rw [List.getD_eq_getElem?_getD, List.getElem?_set, List.getD_eq_getElem?_getD]
  by_cases h : i = j
  · subst h
    rw [if_pos rfl]
    by_cases h2 : i < l.length
    · rw [if_pos h2]; simp; omega
    · rw [if_neg h2]; simp
  · rw [if_neg h]; omega
theorem dum_le (L : List Nat) (k : Nat) : ∀ n i, (dumTo (L, List.replicate k 0) n).1.getD i 0 ≤ L.sum ∧ (dumTo (L, List.replicate k 0) n).2.getD i 0 ≤ n
  | 0, i => by
    refine ⟨getD_sum L i, ?_⟩
    show (List.replicate k 0).getD i 0 ≤ 0
    rw [List.getD_eq_getElem?_getD, List.getElem?_replicate]
    split <;> simp
  | n + 1, i => by
    obtain ⟨h1, h2⟩ := dum_le L k n i
    obtain ⟨h3, h4⟩ := dum_le L k n (mostF (dumTo (L, List.replicate k 0) n).1)
    have e1 := getD_set_le (dumTo (L, List.replicate k 0) n).1 (mostF (dumTo (L, List.replicate k 0) n).1) i ((dumTo (L, List.replicate k 0) n).1.getD (mostF (dumTo (L, List.replicate k 0) n).1) 0 - 1)
    have e2 := getD_set_le (dumTo (L, List.replicate k 0) n).2 (mostF (dumTo (L, List.replicate k 0) n).1) i ((dumTo (L, List.replicate k 0) n).2.getD (mostF (dumTo (L, List.replicate k 0) n).1) 0 + 1)
    refine ⟨Nat.le_trans e1 ?_, Nat.le_trans e2 ?_⟩ <;> omega
theorem dum_len (L : List Nat) (k : Nat) : ∀ n, (dumTo (L, List.replicate k 0) n).1.length = L.length ∧ (dumTo (L, List.replicate k 0) n).2.length = k
  | 0 => ⟨rfl, by simp [dumTo]⟩
  | n + 1 => by
    obtain ⟨h1, h2⟩ := dum_len L k n
    exact ⟨by rw [dumTo, dumStep, List.length_set, h1], by rw [dumTo, dumStep, List.length_set, h2]⟩
theorem most_step {l : List Nat} {i m : Nat} (hi : i < l.length) : most l (l.length - i) m = most l (l.length - (i + 1)) (if l.getD m 0 < l.getD i 0 then i else m) := by
  have e : l.length - i = (l.length - (i + 1)) + 1 := by omega
  rw [e, most, show l.length - (l.length - (i + 1) + 1) = i by omega]
end Ply

set_option maxRecDepth 100000 in
set_option maxHeartbeats 4000000 in
theorem levelFor_any (m runs : Nat) (tI : Int) (w : World) (ht : tI = (m : Int) + 2) (h1 : 1 ≤ m) (h6 : m ≤ 6) (hr : runs ≤ 1000) (hC : Ply.Chk (m + 2) runs) :
    Calls Try.prog 35 #[.int .i64 tI, .int .i64 runs] w fun e w' => e = .returned (.int .i64 (Ply.levF (m + 2) runs : Nat)) ∧ Below w.heap.size w w' := by
  subst ht
  have HC := Lib.hid hC
  have hlv := hC.lev
  obtain ⟨LV, hLV⟩ : ∃ LV, Ply.levF (m + 2) runs = LV := ⟨_, rfl⟩
  have HLV := Lib.hid hLV
  rw [hLV] at hlv ⊢
  clear hC hLV
  go_enter Try.func35, Try.ntmps35
  go_wp2
  go_loopw [5] (fun v wr => ∃ (l : Nat), v = .int .i64 l ∧ l ≤ LV ∧ Below w.heap.size w wr) (fun v _ => LV - (intOf v).toNat)
  case atStart => exact ⟨0, rfl, by omega, Below.refl _ _⟩
  case round =>
    obtain ⟨l, rfl, hl, hb⟩ := hrel
    have HB := Lib.hid hb
    clear hb
    have HD := Lib.hid (distribution_any m l _ wr rfl h1 h6 (by omega) (fun j hj => ⟨HC.out.lp j (by omega), HC.out.sm j (by omega)⟩))
    go_wp2_with fail
    refine HD.out.mono ?_
    rintro e w1 ⟨g, c, rfl, hn, hb1⟩
    have HB1 := Lib.hid (HB.out.trans (hb1.mono HB.out.size))
    have HS := Lib.hid (sumN_any (some ⟨g, 0, none⟩) c (m + 1) (Ply.perf (m + 2) l) w1 (HC.out.lp l (by omega)) (by omega) (HC.out.sm l (by omega)) (ints_of_own hn))
    clear hn hb1 HD
    go_wp2_with fail
    refine HS.out.mono ?_
    rintro e w2 ⟨rfl, hb2⟩
    have HB2 := Lib.hid (HB1.out.trans (hb2.mono HB1.out.size))
    clear hb2 HS
    by_cases hlt : l < LV
    · have hs : (Ply.perf (m + 2) l).sum < runs := HC.out.less l (by rw [HLV.out]; exact hlt)
      generalize (Ply.perf (m + 2) l).sum = S at hs ⊢
      have h3 : decide ((S : Int) < (runs : Int)) = true := decide_eq_true (by omega)
      go_wp2
      go_roundw
      case rel => exact ⟨l + 1, by go_num, by omega, HB2.out⟩
      case measure => simp [intOf] <;> omega
    · obtain rfl : l = LV := by omega
      have hs : runs ≤ (Ply.perf (m + 2) l).sum := by have := HC.out.enough; rwa [HLV.out] at this
      generalize (Ply.perf (m + 2) l).sum = S at hs ⊢
      have h3 : decide ((S : Int) < (runs : Int)) = false := decide_eq_false (by omega)
      have h4 : ¬ S < runs := by omega
      go_wp2
      go_ret
      exact ⟨rfl, HB2.out⟩

/-- Two lists of counts behind a call. -/
def DumE (w : World) (k : Nat) (p : List Nat × List Nat) (e : Ending) (w' : World) : Prop := ∃ (g c h d : Nat), e = .returned (.tuple #[.slice (some ⟨g, 0, none⟩) k c, .slice (some ⟨h, 0, none⟩) k d]) ∧ NRow w' w.heap.size g c k p.1 ∧ NRow w' w.heap.size h d k p.2 ∧ Below w.heap.size w w'

set_option maxRecDepth 100000 in
set_option maxHeartbeats 4000000 in
theorem dummies_any (m runs : Nat) (tI : Int) (w : World) (ht : tI = (m : Int) + 2) (h1 : 1 ≤ m) (h6 : m ≤ 6) (hr : runs ≤ 1000) (hC : Ply.Chk (m + 2) runs) :
    Calls Try.prog 21 #[.int .i64 tI, .int .i64 runs] w (DumE w (m + 1) (Ply.dumF (m + 2) runs)) := by
  subst ht
  have HC := Lib.hid hC
  have hlv := hC.lev
  have hen := hC.enough
  have hsu := hC.sum
  have HLF := Lib.hid (levelFor_any m runs _ w rfl h1 h6 hr hC)
  unfold Ply.dumF
  have hdm := hC.dm
  have hll := hC.lp (Ply.levF (m + 2) runs) (by omega)
  obtain ⟨LV, hLV⟩ : ∃ LV, Ply.levF (m + 2) runs = LV := ⟨_, rfl⟩
  rw [hLV] at hlv hen hsu HLF hdm hll ⊢
  have HDI := Lib.hid (fun W => distribution_any m LV _ W rfl h1 h6 (by omega) (fun j hj => ⟨HC.out.lp j (by omega), HC.out.sm j (by omega)⟩))
  obtain ⟨L, hL⟩ : ∃ L, Ply.perf (m + 2) LV = L := ⟨_, rfl⟩
  rw [hL] at hen hsu HDI hdm hll ⊢
  have hk : m + 2 - 1 = m + 1 := rfl
  rw [hk] at hdm hll ⊢
  have HDM := Lib.hid hdm; have HLL := Lib.hid hll
  obtain ⟨D, hD⟩ : ∃ D, L.sum - runs = D := ⟨_, rfl⟩
  have HLS : Hid (L.sum ≤ 1000000) := by show _ ≤ _; omega
  rw [hD] at HDM ⊢
  have hsr : ((L.sum : Nat) : Int) - (runs : Int) = (D : Int) := by omega
  have hD100 : D ≤ 100 := by omega
  have HDL := Lib.hid (Ply.dum_len L (m + 1)); have HDB := Lib.hid (Ply.dum_le L (m + 1))
  clear hC hLV hL hD hdm hll hk hen
  go_enter Try.func21, Try.ntmps21
  go_wp2_with fail
  refine HLF.out.mono ?_
  rintro e w1 ⟨rfl, hb1⟩
  have HB1 := Lib.hid hb1
  have HD1 := Lib.hid (HDI.out w1)
  clear hb1 HLF HDI
  go_wp2_with fail
  refine HD1.out.mono ?_
  rintro e w2 ⟨g, c, rfl, hn2, hb2⟩
  have HB2 := Lib.hid (HB1.out.trans (hb2.mono HB1.out.size))
  have HN2 := Lib.hid (own_mono hn2 HB1.out.size)
  clear hn2 hb2 HD1 HB1
  have hsz2 := HB2.out.size
  go_wp2_with (at_make; refine wpList_mk slInt rfl _ _ rfl (m + 1) (by go_num) (by go_num) (by omega) ?_; intro w3 ho3 hb3 hs3; have HO3 := Lib.hid ho3; have HB3 := Lib.hid hb3; clear ho3 hb3)
  have HR3 : Hid (NRow w3 w.heap.size w2.heap.size (m + 1) (m + 1) (List.replicate (m + 1) 0)) := by
    have := HO3.out
    rw [made_zero] at this
    exact own_mono this hsz2
  have HN3 := Lib.hid (own_below HN2.out (Nat.le_refl _) HB3.out)
  have HB4 := Lib.hid (HB2.out.trans (HB3.out.mono HB2.out.size))
  have hgd : g ≠ w2.heap.size := by have := (HN2.out.lt g rfl).2; omega
  have HS := Lib.hid (sumN_any (some ⟨g, 0, none⟩) c (m + 1) L w3 HLL.out (by omega) HLS.out (ints_of_own HN3.out))
  clear HO3 HB3 HB2 HN2 hsz2
  refine HS.out.mono ?_
  rintro e w4 ⟨rfl, hb4⟩
  have HR4 := Lib.hid (own_below HR3.out (Nat.le_refl _) hb4)
  have HN4 := Lib.hid (own_below HN3.out (Nat.le_refl _) hb4)
  have HB5 := Lib.hid (HB4.out.trans (hb4.mono HB4.out.size))
  generalize w2.heap.size = gd at hgd HR4 hs3 ⊢
  clear hb4 HR3 HN3 HB4 HS hs3
  go_wp2
  go_loopw [8] (fun v wr => ∃ (r n : Nat), v = .int .i64 r ∧ n + r = D ∧ NRow wr w.heap.size g c (m + 1) (Ply.dumTo (L, List.replicate (m + 1) 0) n).1 ∧ NRow wr w.heap.size gd (m + 1) (m + 1) (Ply.dumTo (L, List.replicate (m + 1) 0) n).2 ∧ Below w.heap.size w wr) (fun v _ => (intOf v).toNat)
  case atStart => exact ⟨D, 0, rfl, by omega, HN4.out, HR4.out, HB5.out⟩
  case round =>
    obtain ⟨r, n, rfl, hrn, hn, hd, hb⟩ := hrel
    have HN := Lib.hid hn; have HD := Lib.hid hd; have HB := Lib.hid hb
    clear hn hd hb HN4 HR4 HB5
    by_cases hr0 : 0 < r
    · have h3 : decide ((0 : Int) < (r : Int)) = true := decide_eq_true (by omega)
      obtain ⟨hm1, hm2⟩ := HDM.out n (by omega)
      obtain ⟨P, hP⟩ : ∃ P, Ply.dumTo (L, List.replicate (m + 1) 0) n = P := ⟨_, rfl⟩
      have hl1 := (HDL.out n).1; have hl2 := (HDL.out n).2
      rw [HLL.out] at hl1
      have hb1 := fun i => (HDB.out n i).1
      have hb2 := fun i => (HDB.out n i).2
      have HST : Hid (Ply.dumTo (L, List.replicate (m + 1) 0) (n + 1) = Ply.dumStep P) := by show _ = _; rw [Ply.dumTo, hP]
      rw [hP] at HN HD hm1 hm2 hl1 hl2 hb1 hb2
      have HP1 := Lib.hid hb1; have HP2 := Lib.hid hb2; have HL1 := Lib.hid hl1; have HL2 := Lib.hid hl2
      clear hP hb1 hb2 hl1 hl2
      go_wp2
      go_loopw [9, 30] (fun mv iv wx => ∃ (i mm : Nat), mv = .int .i64 mm ∧ iv = .int .i64 i ∧ i ≤ m + 1 ∧ mm < m + 1 ∧ Ply.most P.1 (P.1.length - i) mm = Ply.mostF P.1 ∧ Below wr.heap.size wr wx) (fun _ iv _ => m + 1 - (intOf iv).toNat)
      case atStart => exact ⟨0, 0, rfl, rfl, by omega, by omega, rfl, Below.refl _ _⟩
      case round =>
        obtain ⟨i, mm, rfl, rfl, hi, hmm, hmo, hbx⟩ := hrel
        have HBX := Lib.hid hbx; have HMO := Lib.hid hmo
        clear hbx hmo
        have HNX := Lib.hid (own_below HN.out (Nat.le_refl _) HBX.out)
        by_cases him : i < m + 1
        · have h4 : decide ((i : Int) < (m : Int) + 1) = true := decide_eq_true (by omega)
          have c1 := nrow_at HNX.out him
          have c2 := nrow_at HNX.out hmm
          have hst := Ply.most_step (l := P.1) (i := i) (m := mm) (by rw [HL1.out]; exact him)
          rw [HMO.out] at hst
          have HST2 := Lib.hid hst
          have x1 := HP1.out i; have x2 := HP1.out mm
          clear hst
          generalize P.1.getD i 0 = y1 at c1 HST2 x1
          generalize P.1.getD mm 0 = y2 at c2 HST2 x2
          have b0 : (0 : Int) ≤ (i : Int) := by omega
          have b1 : (i : Int) < (m : Int) + 1 := by omega
          have b2 : (0 : Int) ≤ (mm : Int) := by omega
          have b3 : (mm : Int) < (m : Int) + 1 := by omega
          by_cases hlt : y2 < y1
          · have HS3 := HST2.out
            rw [if_pos hlt] at HS3
            have HS4 := Lib.hid HS3
            have h5 : decide ((y2 : Int) < (y1 : Int)) = true := decide_eq_true (by omega)
            clear HS3 HST2
            go_wp2
            go_roundw
            case rel => exact ⟨i + 1, i, rfl, by go_num, by omega, by omega, HS4.out.symm, HBX.out⟩
            case measure => simp [intOf] <;> omega
          · have HS3 := HST2.out
            rw [if_neg hlt] at HS3
            have HS4 := Lib.hid HS3
            have h5 : decide ((y2 : Int) < (y1 : Int)) = false := decide_eq_false (by omega)
            clear HS3 HST2
            go_wp2
            go_roundw
            case rel => exact ⟨i + 1, mm, rfl, by go_num, by omega, by omega, HS4.out.symm, HBX.out⟩
            case measure => simp [intOf] <;> omega
        · obtain rfl : i = m + 1 := by omega
          have h4 : decide ((m : Int) + 1 < (m : Int) + 1) = false := by simp
          have hmf : mm = Ply.mostF P.1 := by
            have := HMO.out
            rw [HL1.out, Nat.sub_self] at this
            exact this
          have HDX := Lib.hid (own_below HD.out (Nat.le_refl _) HBX.out)
          have c1 := nrow_at HNX.out hmm
          have c2 := nrow_at HDX.out hmm
          have x1 := HP1.out mm; have x2 := HP2.out mm
          rw [← hmf] at hm2
          have HMF := Lib.hid hmf
          have b2 : (0 : Int) ≤ (mm : Int) := by omega
          have b3 : (mm : Int) < (m : Int) + 1 := by omega
          have HY1 : Hid (∃ y1, P.1.getD mm 0 = y1 + 1) := ⟨P.1.getD mm 0 - 1, by omega⟩
          obtain ⟨y1, hy1⟩ := HY1.out
          have HYE := Lib.hid hy1
          have HY2 : Hid (∃ y2, P.2.getD mm 0 = y2) := ⟨_, rfl⟩
          obtain ⟨y2, hy2⟩ := HY2.out
          have HYF := Lib.hid hy2
          rw [hy1] at c1 x1
          rw [hy2] at c2 x2
          have hcast : (((y1 + 1 : Nat)) : Int) = (y1 : Int) + 1 := rfl
          rw [hcast] at c1
          have x3 : y1 ≤ 100 := by omega
          have x4 : y2 ≤ 100 := by omega
          have hmm2 : mm < P.1.length := by rw [HL1.out]; exact hmm
          have hmm3 : mm < P.2.length := by rw [HL2.out]; exact hmm
          have hgb := (HNX.out.lt g rfl).1
          have hdb := (HDX.out.lt gd rfl).1
          clear hmf hy1 hy2 hcast HY1 HY2 x1 x2 hm1 hm2
          have s1 := nrow_set y1 HNX.out hmm2
          have HN7 := Lib.hid s1.1; have HG7 := Lib.hid s1.2
          have HD7 := Lib.hid (own_other HDX.out s1.2 (fun b hb e => by injection hb with hb; injection e with e; exact hgd (e.trans hb.symm)))
          have c3 := nrow_at HD7.out hmm
          rw [HYF.out] at c3
          have f1 := HNX.out.frozenAt mm
          have f3 := HD7.out.frozenAt mm
          have s2 := nrow_set (y2 + 1) HD7.out hmm3
          have HD8 := Lib.hid s2.1; have HG8 := Lib.hid s2.2
          have HN8 := Lib.hid (own_other HN7.out s2.2 (fun b hb e => by injection hb with hb; injection e with e; exact hgd (hb.trans e.symm)))
          have HBF := Lib.hid (((HB.out.trans (HBX.out.mono HB.out.size)).grown HG7.out (Nat.le_trans HB.out.size HBX.out.size) (fun b e => by injection e with e; omega)).grown HG8.out (Nat.le_trans (Nat.le_trans HB.out.size HBX.out.size) HG7.out.size) (fun b e => by injection e with e; omega))
          clear s1 s2 c2
          go_wp2
          go_roundw
          case rel => exact ⟨r - 1, n + 1, by go_num, by omega, by
            rw [HST.out]
            unfold Ply.dumStep
            rw [← HMF.out, HYE.out]
            exact HN8.out, by
            rw [HST.out]
            unfold Ply.dumStep
            rw [← HMF.out, HYF.out]
            exact HD8.out, HBF.out⟩
          case measure => simp [intOf] <;> omega
    · obtain rfl : r = 0 := by omega
      obtain rfl : n = D := by omega
      go_wp2
      go_ret2
      exact ⟨g, c, gd, m + 1, rfl, HN.out, HD.out, HB.out⟩
end Go.Proofs.Ytcdfinkefahloaa

