/- Several texts in one: lemmas and walks of the functions that the law reaches. -/
import Derived.Test.YtcdfinkefahloaaY11
import Derived.Test.YtcdfinkefahloaaY12
import Derived.Test.YtcdfinkefahloaaY16

namespace Go.Proofs.Ytcdfinkefahloaa
open Go.RowKit
set_option linter.unusedVariables false

theorem sum_take_succ {cs : List Nat} {i : Nat} (h : i < cs.length) : (cs.take (i + 1)).sum = (cs.take i).sum + cs.getD i 0 := by
  rw [List.take_succ_eq_append_getElem h, List.sum_append, List.getD_eq_getElem?_getD, List.getElem?_eq_getElem h]; simp

set_option maxRecDepth 100000 in
set_option maxHeartbeats 2000000 in
theorem total_any (a : Option Addr) (cap n : Nat) (cs : List Nat) (w : World) (hn : cs.length = n) (hlen : n ≤ 1000) (hs : cs.sum ≤ 1000000) (h : IntsAt w a (iN cs)) :
    Calls Try.prog 46 #[.slice a n cap] w fun e w' => e = .returned (.int .i64 (cs.sum : Nat)) ∧ Below w.heap.size w w' := by
  have H := Lib.hid h; have HN := Lib.hid hn
  have HT := Lib.hid (fun i => sum_take_le cs i)
  have HE : Hid ((cs.take n).sum = cs.sum) := by show _ = _; rw [List.take_of_length_le (by omega)]
  obtain ⟨S, hS⟩ : ∃ S, cs.sum = S := ⟨_, rfl⟩
  rw [hS] at hs HT HE ⊢
  clear h hn hS
  go_enter Try.func46, Try.ntmps46
  go_wp2
  go_loopw [3, 4] (fun sv iv wr => ∃ (i s : Nat), sv = .int .i64 s ∧ iv = .int .i64 i ∧ i ≤ n ∧ s = (cs.take i).sum ∧ Below w.heap.size w wr) (fun _ iv _ => n - (intOf iv).toNat)
  case atStart => exact ⟨0, 0, rfl, rfl, by omega, rfl, Below.refl _ _⟩
  case round =>
    obtain ⟨i, s, rfl, rfl, hi, hsv, hb⟩ := hrel
    have HB := Lib.hid hb; have HSV := Lib.hid hsv
    have hsS : s ≤ S := by rw [hsv]; exact HT.out i
    clear hb hsv
    by_cases hin : i < n
    · have h3 : decide ((i : Int) < (n : Int)) = true := decide_eq_true (by omega)
      obtain ⟨b, o, rfl, c0⟩ := (H.out.below (Nat.le_refl _) HB.out).at (k := i) (by rw [iN_len, HN.out]; exact hin)
      rw [iN_get] at c0
      have hst := sum_take_succ (cs := cs) (i := i) (by rw [HN.out]; exact hin)
      rw [← HSV.out] at hst
      have hle := HT.out (i + 1)
      rw [hst] at hle
      have HST := Lib.hid hst
      generalize cs.getD i 0 = x at c0 hle HST
      have b0 : (0 : Int) ≤ (i : Int) := by omega
      have b1 : (i : Int) < (n : Int) := by omega
      clear hst
      go_wp2
      go_roundw
      case rel => exact ⟨i + 1, s + x, by go_num, by go_num, by omega, HST.out.symm, HB.out⟩
      case measure => simp [intOf] <;> omega
    · obtain rfl : i = n := by omega
      have h3 : decide ((i : Int) < (i : Int)) = false := by simp
      have hse : s = S := HSV.out.trans HE.out
      subst hse
      go_wp2
      go_ret
      exact ⟨rfl, HB.out⟩

set_option maxRecDepth 100000 in
set_option maxHeartbeats 4000000 in
theorem perfect_any (m lev : Nat) (tI : Int) (w : World) (ht : tI = (m : Int) + 2) (h1 : 1 ≤ m) (h6 : m ≤ 6) (hl : lev ≤ 11) (hp : ∀ l, l ≤ lev → (Ply.perf (m + 2) l).length = m + 1 ∧ (Ply.perf (m + 2) l).sum ≤ 1000000) :
    Calls Try.prog 59 #[.int .i64 tI, .int .i64 lev] w (CntE w (m + 1) (Ply.perf (m + 2) lev)) := by
  subst ht
  have HP := Lib.hid hp
  clear hp
  have hnm : 0 < m + 1 := by omega
  go_enter Try.func59, Try.ntmps59
  go_wp2_with (first
    | (at_make; refine wpList_mk slInt rfl _ _ rfl (m + 1) (by show Value.int .i64 ((m : Int) + 2 - 1) = _; congr 1; omega) (by show Value.int .i64 ((m : Int) + 2 - 1) = _; congr 1; omega) (by omega) ?_; intro w1 ho1 hb1 hs1
       have HR1 : Hid (NRow w1 w.heap.size w.heap.size (m + 1) (m + 1) (List.replicate (m + 1) 0)) := by
         show NRow _ _ _ _ _ _
         rw [made_zero] at ho1
         exact ho1
       have HB1 := Lib.hid hb1; clear ho1 hb1)
    | (refine wpList_put slInt rfl (.tmp 13) _ rfl 0 rfl [.int .i64 ((1 : Nat) : Int)] rfl rfl (by simp [Value.oneCell']) HR1.out hnm ?_; intro w2 ho2 hg2
       have HR2 := Lib.hid (nrow_put (i := 0) (x := 1) (by simp) ho2)
       have HB2 := Lib.hid (HB1.out.grown hg2 (Nat.le_of_lt hs1) (fun b e => by injection e with e; omega))
       clear ho2 hg2))
  have hsz2 := HB2.out.size
  clear HR1 hs1
  go_loopw [5, 6] (fun v iv wr => ∃ (l g c : Nat), v = .slice (some ⟨g, 0, none⟩) (m + 1) c ∧ iv = .int .i64 l ∧ l ≤ lev ∧ NRow wr w.heap.size g c (m + 1) (Ply.perf (m + 2) l) ∧ Below w.heap.size w wr) (fun _ iv _ => lev - (intOf iv).toNat)
  case atStart => exact ⟨0, w.heap.size, m + 1, rfl, rfl, by omega, by
    have e : (List.replicate (m + 1) 0).set 0 1 = Ply.perf (m + 2) 0 := rfl
    rw [← e]; exact HR2.out, HB2.out⟩
  case round =>
    obtain ⟨l, g, c, rfl, rfl, hll, hr, hb⟩ := hrel
    have HR := Lib.hid hr; have HB := Lib.hid hb
    clear hr hb HR2 HB2 hsz2
    rename World => w5
    by_cases hlt : l < lev
    · have h3 : decide ((l : Int) < (lev : Int)) = true := decide_eq_true (by omega)
      obtain ⟨hL, hS⟩ := HP.out l hll
      obtain ⟨L, hLe⟩ : ∃ L, Ply.perf (m + 2) l = L := ⟨_, rfl⟩
      have HLE := Lib.hid hLe
      rw [hLe] at HR hL hS
      have hcap := (nrow_cap HR.out).1
      have hc1 : ¬ c = 1 := by omega
      have e1 : (1 : Int) ≤ (m : Int) + 1 := by omega
      have e2 : (m : Int) + 1 ≤ (c : Int) := by omega
      have hgl := (HR.out.lt g rfl).2
      have E0 := Lib.hid (own_lit (w := w5) (e := 3) (size := 1) #[] 0 (by omega) rfl)
      have HBA := Lib.hid (show Below w5.heap.size w5 (w5.alloc (.cells #[] 3)) from (Below.refl _ _).alloc (Nat.le_refl _) _)
      have hwr := HB.out.size
      clear hLe
      go_wp2
      go_loopw [7, 8] (fun u jv wx => ∃ (j : Nat), jv = .int .i64 ((j : Int) + 1) ∧ j ≤ m ∧ wx.ownsRow w5.heap.size 3 1 u j ((iN ((L.tail.take j).map fun x => L.headD 0 + x)).map (Value.int .i64)) ∧ (∃ b, u.ownBlock = some b) ∧ Below w5.heap.size w5 wx) (fun _ jv _ => m + 1 - (intOf jv).toNat)
      case atStart => exact ⟨0, rfl, by omega, E0.out, ⟨_, rfl⟩, HBA.out⟩
      case round =>
        obtain ⟨j, rfl, hj, ho, hob, hb⟩ := hrel
        have HO := Lib.hid ho; have HBX := Lib.hid hb
        clear ho hb E0 HBA
        have HRX := Lib.hid (own_below HR.out (Nat.le_refl _) HBX.out)
        have hwx := HBX.out.size
        have c0 := nrow_at HRX.out (i := 0) (by omega)
        have n0 := getD_sum L 0
        by_cases hjm : j < m
        · have h4 : decide ((j : Int) + 1 < (m : Int) + 1) = true := decide_eq_true (by omega)
          have cj := nrow_at HRX.out (i := j + 1) (by omega)
          have nj := getD_sum L (j + 1)
          have HNT := Lib.hid (next_take (L := L) (m := m) (i := j) hL hjm)
          have b0 : (0 : Int) ≤ (j : Int) := by omega
          have b1 : (j : Int) < (m : Int) := by omega
          have hn40 : j + 1 ≤ 1099511627776 := by omega
          obtain ⟨y0, hy0⟩ : ∃ y0, L.getD 0 0 = y0 := ⟨_, rfl⟩
          obtain ⟨yj, hyj⟩ : ∃ yj, L.getD (j + 1) 0 = yj := ⟨_, rfl⟩
          have HY0 := Lib.hid hy0; have HYJ := Lib.hid hyj
          rw [hy0] at c0 n0 HNT
          rw [hyj] at cj nj HNT
          clear hy0 hyj
          have HOB0 := Lib.hid hob
          clear hob
          have b2 : (j : Int) + 1 < (m : Int) + 1 := by omega
          have b3 : (0 : Int) ≤ (j : Int) + 1 := by omega
          have b4 : ((j : Int) + 1).toNat = j + 1 := by omega
          have hjm1 : j + 1 < m + 1 := by omega
          have HOD : Hid ((wr.alloc (.cells #[.int .i64 ((y0 : Int) + (yj : Int))] 3)).drew.ownsRow w5.heap.size 3 1 u7 j ((iN ((L.tail.take j).map fun x => L.headD 0 + x)).map (Value.int .i64))) := HO.out.alloc _
          have HCN : Hid (∀ q u, [Value.int .i64 ((y0 : Int) + (yj : Int))][q]? = some u → (wr.alloc (.cells #[.int .i64 ((y0 : Int) + (yj : Int))] 3)).drew.cell? ((⟨wr.heap.size, 0, none⟩ : Addr).add q) = some u) := cells_new wr [.int .i64 ((y0 : Int) + (yj : Int))] 3
          have hwd : w5.heap.size ≤ (wr.alloc (.cells #[.int .i64 ((y0 : Int) + (yj : Int))] 3)).drew.heap.size := Nat.le_trans hwx (by show _ ≤ (wr.alloc _).heap.size; simp)
          have HGD : Hid (∀ row, wr.grownBy (wr.alloc (.cells #[.int .i64 ((y0 : Int) + (yj : Int))] 3)).drew row) := fun row => grown_of_below (((Below.refl wr.heap.size wr).alloc (Nat.le_refl _) _).drew)
          have hwp : IntKind.i64.wrap ((y0 : Int) + (yj : Int)) = (y0 : Int) + (yj : Int) := by simp [IntKind.wrap, IntKind.bits, IntKind.signed]; omega
          have HK0 : Hid (∀ W, Below w5.heap.size w5 W → W.cell? ⟨g, 0, none⟩ = some (.int .i64 (y0 : Int)) ∧ W.cell? ⟨g, j + 1, none⟩ = some (.int .i64 (yj : Int))) := fun W hW => by
            have k0 := nrow_at (own_below HR.out (Nat.le_refl _) hW) (i := 0) (by omega)
            have k1 := nrow_at (own_below HR.out (Nat.le_refl _) hW) (i := j + 1) (by omega)
            rw [HY0.out] at k0
            rw [HYJ.out] at k1
            exact ⟨k0, k1⟩
          go_wp2_with fail
          go_region_held3 (fun w' => w'.cell? ⟨g, 0, none⟩ = some (.int .i64 (y0 : Int)) ∧ w'.cell? ⟨g, j + 1, none⟩ = some (.int .i64 (yj : Int))) (first | assumption | go_keep)
            (first | (refine step_appX slInt (by rfl) _ _ (by rfl) w5.heap.size u7 j ((iN ((L.tail.take j).map fun x => L.headD 0 + x)).map (Value.int .i64)) _ 1 _ [.int .i64 ((y0 : Int) + (yj : Int))] (by rfl) HOD.out (by rfl) rfl HCN.out (by simp [Value.oneCell']) (by omega) hwd ?_
                      intro v' w7 hown' hg' ht'; have hg' := grown_trans (HGD.out _) hg'; have hKS := HK0.out w7 (HBX.out.grown hg' hwx (fun b e => (HO.out.lt b e).1)); have hKS1 := hKS.1; have hKS2 := hKS.2; have HO7 := Lib.hid hown'; have HG7 := Lib.hid hg'; have HT7 := Lib.hid ht'; clear hown' hg' ht' hKS))
          have hown' := HO7.out; have hg' := HG7.out; have ht' := HT7.out
          clear HO7 HG7 HT7
          have HO7 := Lib.hid hown'
          have HB7 := Lib.hid (HBX.out.grown hg' hwx (fun b e => (HO.out.lt b e).1))
          have HOB : Hid (∃ b, v'.ownBlock = some b) := by
            rcases ht' with h | h
            · exact HOB0.out.imp fun b hb => h.trans hb
            · exact ⟨_, h⟩
          clear hown' hg' ht'
          go_wp2
          go_roundw
          case rel => exact ⟨j + 1, by go_num, by omega, by
            rw [HNT.out, iN_snoc, List.map_append]
            exact HO7.out, HOB.out, HB7.out⟩
          case measure => simp [intOf] <;> omega
        · obtain rfl : j = m := by omega
          have h4 : decide ((j : Int) + 1 < (j : Int) + 1) = false := by simp
          have hn40 : j + 1 ≤ 1099511627776 := by omega
          have HTK : Hid (L.tail.take j = L.tail) := List.take_of_length_le (by rw [List.length_tail]; omega)
          have HH : Hid (L.getD 0 0 = L.headD 0) := by cases L with | nil => simp at hL | cons x t => rfl
          rw [HTK.out] at HO
          generalize L.getD 0 0 = y0 at c0 n0 HH
          clear hob
          go_wp2_with (at_builtin; refine wpList_app1 slInt rfl _ _ rfl rfl HO.out [.int .i64 (y0 : Int)] rfl rfl (by simp) (by simp [Value.oneCell']) hn40 hwx ?_; intro v' w7 hown' hg' ht')
          obtain ⟨a5, c5, rfl⟩ := own_slice hown'
          obtain ⟨g5, rfl, _⟩ := own_cell hown' (by omega)
          have HO7 := Lib.hid (own_mono hown' hwr)
          have HB7 := Lib.hid (HB.out.trans ((HBX.out.grown hg' hwx (fun b e => (HO.out.lt b e).1)).mono hwr))
          clear hown' hg' ht'
          go_wp2
          go_roundw
          case rel => exact ⟨l + 1, g5, c5, rfl, by go_num, by omega, by
            show NRow _ _ _ _ _ (Ply.nextD (Ply.perf (j + 2) l))
            rw [HLE.out]
            unfold Ply.nextD
            rw [← HH.out]
            show World.ownsRow _ _ _ _ _ _ _
            rw [iN_snoc, List.map_append]
            have := HO7.out
            rw [← HH.out] at this
            exact this, HB7.out⟩
          case measure => simp [intOf] <;> omega
    · obtain rfl : l = lev := by omega
      have h3 : decide ((l : Int) < (l : Int)) = false := by simp
      go_wp2
      go_ret
      exact ⟨g, c, rfl, HR.out, HB.out⟩
set_option maxRecDepth 100000 in
set_option maxHeartbeats 4000000 in
theorem level18_any (m runs : Nat) (tI : Int) (w : World) (ht : tI = (m : Int) + 2) (h1 : 1 ≤ m) (h6 : m ≤ 6) (hr : runs ≤ 1000) (hC : Ply.Chk (m + 2) runs) :
    Calls Try.prog 60 #[.int .i64 tI, .int .i64 runs] w fun e w' => e = .returned (.int .i64 (Ply.levF (m + 2) runs : Nat)) ∧ Below w.heap.size w w' := by
  subst ht
  have HC := Lib.hid hC
  have hlv := hC.lev
  obtain ⟨LV, hLV⟩ : ∃ LV, Ply.levF (m + 2) runs = LV := ⟨_, rfl⟩
  have HLV := Lib.hid hLV
  rw [hLV] at hlv ⊢
  clear hC hLV
  go_enter Try.func60, Try.ntmps60
  go_wp2
  go_loopw [5] (fun v wr => ∃ (l : Nat), v = .int .i64 l ∧ l ≤ LV ∧ Below w.heap.size w wr) (fun v _ => LV - (intOf v).toNat)
  case atStart => exact ⟨0, rfl, by omega, Below.refl _ _⟩
  case round =>
    obtain ⟨l, rfl, hl, hb⟩ := hrel
    have HB := Lib.hid hb
    clear hb
    have HD := Lib.hid (perfect_any m l _ wr rfl h1 h6 (by omega) (fun j hj => ⟨HC.out.lp j (by omega), HC.out.sm j (by omega)⟩))
    go_wp2_with fail
    refine HD.out.mono ?_
    rintro e w1 ⟨g, c, rfl, hn, hb1⟩
    have HB1 := Lib.hid (HB.out.trans (hb1.mono HB.out.size))
    have HS := Lib.hid (total_any (some ⟨g, 0, none⟩) c (m + 1) (Ply.perf (m + 2) l) w1 (HC.out.lp l (by omega)) (by omega) (HC.out.sm l (by omega)) (ints_of_own hn))
    clear hn hb1 HD
    go_wp2_with fail
    refine HS.out.mono ?_
    rintro e w2 ⟨rfl, hb2⟩
    have HB2 := Lib.hid (HB1.out.trans (hb2.mono HB1.out.size))
    clear hb2 HS
    by_cases hlt : l < LV
    · have hs : (Ply.perf (m + 2) l).sum < runs := HC.out.less l (by rw [HLV.out]; exact hlt)
      generalize (Ply.perf (m + 2) l).sum = S at hs ⊢
      have h3 : decide ((S : Int) < (runs : Int)) = true := decide_eq_true (by omega)
      go_wp2
      go_roundw
      case rel => exact ⟨l + 1, by go_num, by omega, HB2.out⟩
      case measure => simp [intOf] <;> omega
    · obtain rfl : l = LV := by omega
      have hs : runs ≤ (Ply.perf (m + 2) l).sum := by have := HC.out.enough; rwa [HLV.out] at this
      generalize (Ply.perf (m + 2) l).sum = S at hs ⊢
      have h3 : decide ((S : Int) < (runs : Int)) = false := decide_eq_false (by omega)
      have h4 : ¬ S < runs := by omega
      go_wp2
      go_ret
      exact ⟨rfl, HB2.out⟩

set_option maxRecDepth 100000 in
set_option maxHeartbeats 4000000 in
theorem dummies18_any (m runs : Nat) (tI : Int) (w : World) (ht : tI = (m : Int) + 2) (h1 : 1 ≤ m) (h6 : m ≤ 6) (hr : runs ≤ 1000) (hC : Ply.Chk (m + 2) runs) :
    Calls Try.prog 50 #[.int .i64 tI, .int .i64 runs] w (DumE w (m + 1) (Ply.dumF (m + 2) runs)) := by
  subst ht
  have HC := Lib.hid hC
  have hlv := hC.lev
  have hen := hC.enough
  have hsu := hC.sum
  have HLF := Lib.hid (level18_any m runs _ w rfl h1 h6 hr hC)
  unfold Ply.dumF
  have hdm := hC.dm
  have hll := hC.lp (Ply.levF (m + 2) runs) (by omega)
  obtain ⟨LV, hLV⟩ : ∃ LV, Ply.levF (m + 2) runs = LV := ⟨_, rfl⟩
  rw [hLV] at hlv hen hsu HLF hdm hll ⊢
  have HDI := Lib.hid (fun W => perfect_any m LV _ W rfl h1 h6 (by omega) (fun j hj => ⟨HC.out.lp j (by omega), HC.out.sm j (by omega)⟩))
  obtain ⟨L, hL⟩ : ∃ L, Ply.perf (m + 2) LV = L := ⟨_, rfl⟩
  rw [hL] at hen hsu HDI hdm hll ⊢
  have hk : m + 2 - 1 = m + 1 := rfl
  rw [hk] at hdm hll ⊢
  have HDM := Lib.hid hdm; have HLL := Lib.hid hll
  obtain ⟨D, hD⟩ : ∃ D, L.sum - runs = D := ⟨_, rfl⟩
  have HLS : Hid (L.sum ≤ 1000000) := by show _ ≤ _; omega
  rw [hD] at HDM ⊢
  have hsr : ((L.sum : Nat) : Int) - (runs : Int) = (D : Int) := by omega
  have hD100 : D ≤ 100 := by omega
  have HDL := Lib.hid (Ply.dum_len L (m + 1)); have HDB := Lib.hid (Ply.dum_le L (m + 1))
  clear hC hLV hL hD hdm hll hk hen
  go_enter Try.func50, Try.ntmps50
  go_wp2_with fail
  refine HLF.out.mono ?_
  rintro e w1 ⟨rfl, hb1⟩
  have HB1 := Lib.hid hb1
  have HD1 := Lib.hid (HDI.out w1)
  clear hb1 HLF HDI
  go_wp2_with fail
  refine HD1.out.mono ?_
  rintro e w2 ⟨g, c, rfl, hn2, hb2⟩
  have HB2 := Lib.hid (HB1.out.trans (hb2.mono HB1.out.size))
  have HN2 := Lib.hid (own_mono hn2 HB1.out.size)
  clear hn2 hb2 HD1 HB1
  have hsz2 := HB2.out.size
  go_wp2_with (at_make; refine wpList_mk slInt rfl _ _ rfl (m + 1) (by go_num) (by go_num) (by omega) ?_; intro w3 ho3 hb3 hs3; have HO3 := Lib.hid ho3; have HB3 := Lib.hid hb3; clear ho3 hb3)
  have HR3 : Hid (NRow w3 w.heap.size w2.heap.size (m + 1) (m + 1) (List.replicate (m + 1) 0)) := by
    have := HO3.out
    rw [made_zero] at this
    exact own_mono this hsz2
  have HN3 := Lib.hid (own_below HN2.out (Nat.le_refl _) HB3.out)
  have HB4 := Lib.hid (HB2.out.trans (HB3.out.mono HB2.out.size))
  have hgd : g ≠ w2.heap.size := by have := (HN2.out.lt g rfl).2; omega
  have HS := Lib.hid (total_any (some ⟨g, 0, none⟩) c (m + 1) L w3 HLL.out (by omega) HLS.out (ints_of_own HN3.out))
  clear HO3 HB3 HB2 HN2 hsz2
  refine HS.out.mono ?_
  rintro e w4 ⟨rfl, hb4⟩
  have HR4 := Lib.hid (own_below HR3.out (Nat.le_refl _) hb4)
  have HN4 := Lib.hid (own_below HN3.out (Nat.le_refl _) hb4)
  have HB5 := Lib.hid (HB4.out.trans (hb4.mono HB4.out.size))
  generalize w2.heap.size = gd at hgd HR4 hs3 ⊢
  clear hb4 HR3 HN3 HB4 HS hs3
  go_wp2
  go_loopw [8] (fun v wr => ∃ (r n : Nat), v = .int .i64 r ∧ n + r = D ∧ NRow wr w.heap.size g c (m + 1) (Ply.dumTo (L, List.replicate (m + 1) 0) n).1 ∧ NRow wr w.heap.size gd (m + 1) (m + 1) (Ply.dumTo (L, List.replicate (m + 1) 0) n).2 ∧ Below w.heap.size w wr) (fun v _ => (intOf v).toNat)
  case atStart => exact ⟨D, 0, rfl, by omega, HN4.out, HR4.out, HB5.out⟩
  case round =>
    obtain ⟨r, n, rfl, hrn, hn, hd, hb⟩ := hrel
    have HN := Lib.hid hn; have HD := Lib.hid hd; have HB := Lib.hid hb
    clear hn hd hb HN4 HR4 HB5
    by_cases hr0 : 0 < r
    · have h3 : decide ((0 : Int) < (r : Int)) = true := decide_eq_true (by omega)
      obtain ⟨hm1, hm2⟩ := HDM.out n (by omega)
      obtain ⟨P, hP⟩ : ∃ P, Ply.dumTo (L, List.replicate (m + 1) 0) n = P := ⟨_, rfl⟩
      have hl1 := (HDL.out n).1; have hl2 := (HDL.out n).2
      rw [HLL.out] at hl1
      have hb1 := fun i => (HDB.out n i).1
      have hb2 := fun i => (HDB.out n i).2
      have HST : Hid (Ply.dumTo (L, List.replicate (m + 1) 0) (n + 1) = Ply.dumStep P) := by show _ = _; rw [Ply.dumTo, hP]
      rw [hP] at HN HD hm1 hm2 hl1 hl2 hb1 hb2
      have HP1 := Lib.hid hb1; have HP2 := Lib.hid hb2; have HL1 := Lib.hid hl1; have HL2 := Lib.hid hl2
      clear hP hb1 hb2 hl1 hl2
      go_wp2
      go_loopw [9, 10] (fun mv iv wx => ∃ (i mm : Nat), 1 ≤ i ∧ mv = .int .i64 mm ∧ iv = .int .i64 i ∧ i ≤ m + 1 ∧ mm < m + 1 ∧ Ply.most P.1 (P.1.length - i) mm = Ply.mostF P.1 ∧ Below wr.heap.size wr wx) (fun _ iv _ => m + 1 - (intOf iv).toNat)
      case atStart => exact ⟨1, 0, by omega, rfl, rfl, by omega, by omega, by
          have := Ply.most_step (l := P.1) (i := 0) (m := 0) (by rw [HL1.out]; omega)
          rw [if_neg (Nat.lt_irrefl _)] at this
          exact this.symm, Below.refl _ _⟩
      case round =>
        obtain ⟨i, mm, hi1, rfl, rfl, hi, hmm, hmo, hbx⟩ := hrel
        have HBX := Lib.hid hbx; have HMO := Lib.hid hmo
        clear hbx hmo
        have HNX := Lib.hid (own_below HN.out (Nat.le_refl _) HBX.out)
        by_cases him : i < m + 1
        · have h4 : decide ((i : Int) < (m : Int) + 1) = true := decide_eq_true (by omega)
          have c1 := nrow_at HNX.out him
          have c2 := nrow_at HNX.out hmm
          have hst := Ply.most_step (l := P.1) (i := i) (m := mm) (by rw [HL1.out]; exact him)
          rw [HMO.out] at hst
          have HST2 := Lib.hid hst
          have x1 := HP1.out i; have x2 := HP1.out mm
          clear hst
          generalize P.1.getD i 0 = y1 at c1 HST2 x1
          generalize P.1.getD mm 0 = y2 at c2 HST2 x2
          have b0 : (0 : Int) ≤ (i : Int) := by omega
          have b1 : (i : Int) < (m : Int) + 1 := by omega
          have b2 : (0 : Int) ≤ (mm : Int) := by omega
          have b3 : (mm : Int) < (m : Int) + 1 := by omega
          by_cases hlt : y2 < y1
          · have HS3 := HST2.out
            rw [if_pos hlt] at HS3
            have HS4 := Lib.hid HS3
            have h5 : decide ((y2 : Int) < (y1 : Int)) = true := decide_eq_true (by omega)
            clear HS3 HST2
            go_wp2_with fail
            go_quiet (fail)
            go_wp2
            go_roundw
            case rel => exact ⟨i + 1, i, by omega, rfl, by go_num, by omega, by omega, HS4.out.symm, below_drewN HBX.out _⟩
            case measure => simp [intOf] <;> omega
          · have HS3 := HST2.out
            rw [if_neg hlt] at HS3
            have HS4 := Lib.hid HS3
            have h5 : decide ((y2 : Int) < (y1 : Int)) = false := decide_eq_false (by omega)
            clear HS3 HST2
            go_wp2_with fail
            go_quiet (fail)
            go_wp2
            go_roundw
            case rel => exact ⟨i + 1, mm, by omega, rfl, by go_num, by omega, by omega, HS4.out.symm, below_drewN HBX.out _⟩
            case measure => simp [intOf] <;> omega
        · obtain rfl : i = m + 1 := by omega
          have h4 : decide ((m : Int) + 1 < (m : Int) + 1) = false := by simp
          have hmf : mm = Ply.mostF P.1 := by
            have := HMO.out
            rw [HL1.out, Nat.sub_self] at this
            exact this
          have HDX := Lib.hid (own_below HD.out (Nat.le_refl _) HBX.out)
          have c1 := nrow_at HNX.out hmm
          have c2 := nrow_at HDX.out hmm
          have x1 := HP1.out mm; have x2 := HP2.out mm
          rw [← hmf] at hm2
          have HMF := Lib.hid hmf
          have b2 : (0 : Int) ≤ (mm : Int) := by omega
          have b3 : (mm : Int) < (m : Int) + 1 := by omega
          have HY1 : Hid (∃ y1, P.1.getD mm 0 = y1 + 1) := ⟨P.1.getD mm 0 - 1, by omega⟩
          obtain ⟨y1, hy1⟩ := HY1.out
          have HYE := Lib.hid hy1
          have HY2 : Hid (∃ y2, P.2.getD mm 0 = y2) := ⟨_, rfl⟩
          obtain ⟨y2, hy2⟩ := HY2.out
          have HYF := Lib.hid hy2
          rw [hy1] at c1 x1
          rw [hy2] at c2 x2
          have hcast : (((y1 + 1 : Nat)) : Int) = (y1 : Int) + 1 := rfl
          rw [hcast] at c1
          have x3 : y1 ≤ 100 := by omega
          have x4 : y2 ≤ 100 := by omega
          have hmm2 : mm < P.1.length := by rw [HL1.out]; exact hmm
          have hmm3 : mm < P.2.length := by rw [HL2.out]; exact hmm
          have hgb := (HNX.out.lt g rfl).1
          have hdb := (HDX.out.lt gd rfl).1
          clear hmf hy1 hy2 hcast HY1 HY2 x1 x2 hm1 hm2
          have s1 := nrow_set y1 HNX.out hmm2
          have HN7 := Lib.hid s1.1; have HG7 := Lib.hid s1.2
          have HD7 := Lib.hid (own_other HDX.out s1.2 (fun b hb e => by injection hb with hb; injection e with e; exact hgd (e.trans hb.symm)))
          have c3 := nrow_at HD7.out hmm
          rw [HYF.out] at c3
          have f1 := HNX.out.frozenAt mm
          have f3 := HD7.out.frozenAt mm
          have s2 := nrow_set (y2 + 1) HD7.out hmm3
          have HD8 := Lib.hid s2.1; have HG8 := Lib.hid s2.2
          have HN8 := Lib.hid (own_other HN7.out s2.2 (fun b hb e => by injection hb with hb; injection e with e; exact hgd (hb.trans e.symm)))
          have HBF := Lib.hid (((HB.out.trans (HBX.out.mono HB.out.size)).grown HG7.out (Nat.le_trans HB.out.size HBX.out.size) (fun b e => by injection e with e; omega)).grown HG8.out (Nat.le_trans (Nat.le_trans HB.out.size HBX.out.size) HG7.out.size) (fun b e => by injection e with e; omega))
          clear s1 s2 c2
          go_wp2
          go_roundw
          case rel => exact ⟨r - 1, n + 1, by go_num, by omega, by
            rw [HST.out]
            unfold Ply.dumStep
            rw [← HMF.out, HYE.out]
            exact HN8.out, by
            rw [HST.out]
            unfold Ply.dumStep
            rw [← HMF.out, HYF.out]
            exact HD8.out, HBF.out⟩
          case measure => simp [intOf] <;> omega
    · obtain rfl : r = 0 := by omega
      obtain rfl : n = D := by omega
      go_wp2
      go_ret2
      exact ⟨g, c, gd, m + 1, rfl, HN.out, HD.out, HB.out⟩

set_option maxRecDepth 100000 in
set_option maxHeartbeats 2000000 in
theorem empty18_any (a : Option Addr) (cap n : Nat) (cs : List Nat) (w : World) (hn : cs.length = n) (hlen : n ≤ 1000) (h : IntsAt w a (iN cs)) :
    Calls Try.prog 47 #[.slice a n cap] w fun e w' => e = .returned (.int .i64 (Ply.emS cs 0 (-1))) ∧ Below w.heap.size w w' := by
  have H := Lib.hid h; have HN := Lib.hid hn
  obtain ⟨R, hR⟩ : ∃ R, Ply.emS cs 0 (-1) = R := ⟨_, rfl⟩
  rw [hR]
  have HR := Lib.hid hR
  clear h hn hR
  go_enter Try.func47, Try.ntmps47
  go_wp2
  go_loopw [3, 4] (fun ev iv wr => ∃ (i : Nat) (em : Int), ev = .int .i64 em ∧ iv = .int .i64 i ∧ i ≤ n ∧ -1 ≤ em ∧ em < i ∧ Below w.heap.size w wr ∧ Ply.emS (cs.drop i) i em = R) (fun _ iv _ => n - (intOf iv).toNat)
  case atStart => exact ⟨0, -1, rfl, rfl, by omega, by omega, by omega, Below.refl _ _, HR.out⟩
  case round =>
    obtain ⟨i, em, rfl, rfl, hi, hem, hemi, hb, hph⟩ := hrel
    have HB := Lib.hid hb; have HP := Lib.hid hph
    clear hb hph
    by_cases hin : i < n
    · have h3 : decide ((i : Int) < (n : Int)) = true := decide_eq_true (by omega)
      obtain ⟨b, o, rfl, c0⟩ := (H.out.below (Nat.le_refl _) HB.out).at (k := i) (by rw [iN_len, HN.out]; exact hin)
      rw [iN_get] at c0
      have hdr := drop_cons (cs := cs) (i := i) (by rw [HN.out]; exact hin)
      rw [hdr] at HP
      generalize cs.getD i 0 = x at c0 HP
      have b0 : (0 : Int) ≤ (i : Int) := by omega
      have b1 : (i : Int) < (n : Int) := by omega
      clear hdr
      by_cases h0 : x = 0
      · subst h0
        by_cases he : 0 ≤ em
        · have hr := HP.out
          unfold Ply.emS at hr
          rw [if_pos rfl, if_pos he] at hr
          subst hr
          have he2 : decide ((0 : Int) ≤ em) = true := decide_eq_true he
          clear HP HR
          go_wp2
          go_ret
          exact ⟨rfl, HB.out⟩
        · have hr := HP.out
          unfold Ply.emS at hr
          rw [if_pos rfl, if_neg he] at hr
          have HP2 := Lib.hid hr
          have he2 : decide ((0 : Int) ≤ em) = false := decide_eq_false he
          clear hr HP
          go_wp2
          go_roundw
          case rel => exact ⟨i + 1, i, rfl, by go_num, by omega, by omega, by omega, HB.out, HP2.out⟩
          case measure => simp [intOf] <;> omega
      · have hr := HP.out
        unfold Ply.emS at hr
        rw [if_neg h0] at hr
        have HP2 := Lib.hid hr
        have hx0 : ¬ (x : Int) = 0 := by omega
        have hx1 : ((x : Int) == 0) = false := by simpa using h0
        clear hr HP
        go_wp2
        go_roundw
        case rel => exact ⟨i + 1, em, rfl, by go_num, by omega, by omega, by omega, HB.out, HP2.out⟩
        case measure => simp [intOf] <;> omega
    · obtain rfl : i = n := by omega
      have h3 : decide ((i : Int) < (i : Int)) = false := by simp
      have hr := HP.out
      rw [List.drop_of_length_le (by rw [HN.out]; exact Nat.le_refl _)] at hr
      have hr2 : em = R := hr
      subst hr2
      clear hr HP HR
      go_wp2
      go_ret
      exact ⟨rfl, HB.out⟩
end Go.Proofs.Ytcdfinkefahloaa

namespace Go.Proofs.Ytcdfinkefahloaa
open Go.RowKit
set_option linter.unusedVariables false

def outS (em : Int) (m : Nat) (cs : List Nat) (k : Nat) : List Int := (List.range k).map fun j : Nat => if (j : Int) = em then (m : Int) else ((cs.getD j 0 : Nat) : Int) - (m : Int)
theorem outS_succ (em : Int) (m : Nat) (cs : List Nat) (k : Nat) : outS em m cs (k + 1) = outS em m cs k ++ [if (k : Int) = em then (m : Int) else ((cs.getD k 0 : Nat) : Int) - (m : Int)] := by
  unfold outS; rw [List.range_succ, List.map_append]; rfl

set_option maxRecDepth 100000 in
set_option maxHeartbeats 4000000 in
theorem phase18_any (a : Option Addr) (cap n : Nat) (cs : List Nat) (w : World) (hn : cs.length = n) (hlen : n ≤ 1000) (hs : cs.sum ≤ 1000000) (h : IntsAt w a (iN cs)) :
    Calls Try.prog 48 #[.slice a n cap] w fun e w' => ∃ v, e = .returned v ∧ w'.ownsRow w.heap.size 3 1 v n ((outS (Ply.emS cs 0 (-1)) (Ply.leS (Ply.emS cs 0 (-1)) cs 0 0) cs n).map (Value.int .i64)) ∧ Below w.heap.size w w' := by
  have HE := Lib.hid (empty18_any a cap n cs w hn hlen h)
  have H := Lib.hid h; have HN := Lib.hid hn
  have HX : Hid (∀ i, cs.getD i 0 ≤ 1000000) := fun i => Nat.le_trans (getD_sum cs i) hs
  obtain ⟨em, hem⟩ : ∃ em, Ply.emS cs 0 (-1) = em := ⟨_, rfl⟩
  rw [hem] at HE ⊢
  obtain ⟨M, hM⟩ : ∃ M, Ply.leS em cs 0 0 = M := ⟨_, rfl⟩
  rw [hM]
  have HM := Lib.hid hM
  clear h hn hs hem hM
  go_enter Try.func48, Try.ntmps48
  go_wp2_with fail
  refine HE.out.mono ?_
  rintro e w1 ⟨rfl, hb1⟩
  have HB1 := Lib.hid hb1
  clear hb1 HE
  go_wp2
  go_loopw [4, 5] (fun lv iv wr => ∃ (i le : Nat), lv = .int .i64 le ∧ iv = .int .i64 i ∧ i ≤ n ∧ le ≤ 1000000 ∧ Below w.heap.size w wr ∧ Ply.leS em (cs.drop i) i le = M) (fun _ iv _ => n - (intOf iv).toNat)
  case atStart => exact ⟨0, 0, rfl, rfl, by omega, by omega, HB1.out, HM.out⟩
  case round =>
    obtain ⟨i, le, rfl, rfl, hi, hle, hb, hph⟩ := hrel
    have HB := Lib.hid hb; have HP := Lib.hid hph
    clear hb hph HB1
    by_cases hin : i < n
    · have h3 : decide ((i : Int) < (n : Int)) = true := decide_eq_true (by omega)
      obtain ⟨b, o, rfl, c0⟩ := (H.out.below (Nat.le_refl _) HB.out).at (k := i) (by rw [iN_len, HN.out]; exact hin)
      rw [iN_get] at c0
      have hdr := drop_cons (cs := cs) (i := i) (by rw [HN.out]; exact hin)
      rw [hdr] at HP
      have hx := HX.out i
      generalize cs.getD i 0 = x at c0 HP hx
      have b0 : (0 : Int) ≤ (i : Int) := by omega
      have b1 : (i : Int) < (n : Int) := by omega
      clear hdr
      by_cases hie : (i : Int) = em
      · have hr := HP.out
        unfold Ply.leS at hr
        rw [if_neg (fun h => h.1 hie)] at hr
        have HP2 := Lib.hid hr
        have HIE := Lib.hid hie
        have h4 : ((i : Int) != em) = false := by simp [hie]
        clear hr HP hie
        go_wp2
        go_roundw
        case rel => exact ⟨i + 1, le, rfl, by go_num, by omega, hle, HB.out, HP2.out⟩
        case measure => simp [intOf] <;> omega
      · have h4 : ((i : Int) != em) = true := by simp [hie]
        by_cases hc : le = 0 ∨ x < le
        · have hr := HP.out
          unfold Ply.leS at hr
          rw [if_pos ⟨hie, hc⟩] at hr
          have HP2 := Lib.hid hr
          clear hr HP hie
          by_cases hl0 : le = 0
          · subst hl0
            clear hc
            go_wp2
            go_roundw
            case rel => exact ⟨i + 1, x, rfl, by go_num, by omega, hx, HB.out, HP2.out⟩
            case measure => simp [intOf] <;> omega
          · have hlt : x < le := hc.resolve_left hl0
            have hl1 : decide ((x : Int) < (le : Int)) = true := decide_eq_true (by omega)
            have hl2 : ((le : Int) == 0) = false := by simpa using hl0
            clear hc
            go_wp2
            go_roundw
            case rel => exact ⟨i + 1, x, rfl, by go_num, by omega, hx, HB.out, HP2.out⟩
            case measure => simp [intOf] <;> omega
        · have hr := HP.out
          unfold Ply.leS at hr
          rw [if_neg (fun h => hc h.2)] at hr
          have HP2 := Lib.hid hr
          have hl0 : ¬ le = 0 := fun h => hc (.inl h)
          have hlt : ¬ x < le := fun h => hc (.inr h)
          have hl1 : decide ((x : Int) < (le : Int)) = false := decide_eq_false (by omega)
          have hl2 : ((le : Int) == 0) = false := by simpa using hl0
          clear hr HP hc hie
          go_wp2
          go_roundw
          case rel => exact ⟨i + 1, le, rfl, by go_num, by omega, hle, HB.out, HP2.out⟩
          case measure => simp [intOf] <;> omega
    · obtain rfl : i = n := by omega
      have h3 : decide ((i : Int) < (i : Int)) = false := by simp
      have hr := HP.out
      rw [List.drop_of_length_le (by rw [HN.out]; exact Nat.le_refl _)] at hr
      have hr2 : le = M := hr
      subst hr2
      have E0 := Lib.hid (own_lit (w := wr) (e := 3) (size := 1) #[] 0 (by omega) rfl)
      have HBA := Lib.hid (show Below wr.heap.size wr (wr.alloc (.cells #[] 3)) from (Below.refl _ _).alloc (Nat.le_refl _) _)
      have hwr := HB.out.size
      clear hr HP HM
      go_wp2
      rename World => w5
      go_loopw [6, 7] (fun u jv wx => ∃ (j : Nat), jv = .int .i64 j ∧ j ≤ i ∧ wx.ownsRow w5.heap.size 3 1 u j ((outS em le cs j).map (Value.int .i64)) ∧ Below w5.heap.size w5 wx) (fun _ jv _ => i - (intOf jv).toNat)
      case atStart => exact ⟨0, rfl, by omega, E0.out, HBA.out⟩
      case round =>
        obtain ⟨j, rfl, hj, ho, hb⟩ := hrel
        have HO := Lib.hid ho; have HBX := Lib.hid hb
        clear ho hb E0 HBA
        have hwx := HBX.out.size
        by_cases hji : j < i
        · have h4 : decide ((j : Int) < (i : Int)) = true := decide_eq_true (by omega)
          have hn40 : j + 1 ≤ 1099511627776 := by omega
          have HSU := Lib.hid (outS_succ em le cs j)
          have b0 : (0 : Int) ≤ (j : Int) := by omega
          have b1 : (j : Int) < (i : Int) := by omega
          by_cases hje : (j : Int) = em
          · rw [if_pos hje] at HSU
            have h5 : ((j : Int) == em) = true := by simp [hje]
            have HJE := Lib.hid hje
            subst hje
            go_wp2_with (at_builtin; refine wpList_app1 slInt rfl _ _ rfl rfl HO.out [.int .i64 (le : Int)] rfl rfl (by simp) (by simp [Value.oneCell']) hn40 hwx ?_; intro v' w7 hown' hg' ht')
            have HO7 := Lib.hid hown'
            have HB7 := Lib.hid (HBX.out.grown hg' hwx (fun b e => (HO.out.lt b e).1))
            clear hown' hg' ht'
            go_roundw
            case rel => exact ⟨j + 1, by go_num, by omega, by rw [HSU.out, List.map_append]; exact HO7.out, HB7.out⟩
            case measure => simp [intOf] <;> omega
          · rw [if_neg hje] at HSU
            have h5 : ((j : Int) == em) = false := by simp [hje]
            obtain ⟨b, o, rfl, c0⟩ := (H.out.below (Nat.le_refl _) (HB.out.trans (HBX.out.mono hwr))).at (k := j) (by rw [iN_len, HN.out]; exact hji)
            rw [iN_get] at c0
            have hx := HX.out j
            generalize cs.getD j 0 = x at c0 HSU hx
            go_wp2_with (at_builtin; refine wpList_app1 slInt rfl _ _ rfl rfl HO.out [.int .i64 ((x : Int) - (le : Int))] rfl rfl (by simp) (by simp [Value.oneCell']) hn40 hwx ?_; intro v' w7 hown' hg' ht')
            have HO7 := Lib.hid hown'
            have HB7 := Lib.hid (HBX.out.grown hg' hwx (fun b e => (HO.out.lt b e).1))
            clear hown' hg' ht'
            go_roundw
            case rel => exact ⟨j + 1, by go_num, by omega, by rw [HSU.out, List.map_append]; exact HO7.out, HB7.out⟩
            case measure => simp [intOf] <;> omega
        · obtain rfl : j = i := by omega
          have h4 : decide ((j : Int) < (j : Int)) = false := by simp
          have HOF := Lib.hid (own_mono HO.out hwr)
          have HBF := Lib.hid (HB.out.trans (HBX.out.mono hwr))
          go_wp2
          go_ret
          exact ⟨_, rfl, HOF.out, HBF.out⟩
end Go.Proofs.Ytcdfinkefahloaa

