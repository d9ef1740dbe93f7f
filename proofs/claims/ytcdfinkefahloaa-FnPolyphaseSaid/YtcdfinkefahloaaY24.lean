/- Several texts in one: lemmas and walks of the functions that the law reaches. -/
import Derived.Test.YtcdfinkefahloaaY23

namespace Go.Proofs.Ytcdfinkefahloaa
open Go.RowKit Ply
set_option linter.unusedVariables false

/-- The end of all phases. -/
def RunE18 (w : World) (B P S : Nat) (R : List (List (List (Int × Int)))) (e : Ending) (w' : World) : Prop :=
  ∃ (v : Value) (x : List (Int × Int)), e = .returned (.tuple #[v, .int .i64 (P : Nat), .int .i64 (S : Nat)]) ∧ R.flatten = [x] ∧ OkT w' x v ∧ Below B w w'

theorem one_queue {α : Type} : ∀ (Q : List (List α)), (cnt Q).sum = 1 → ∃ (j : Nat) (y : α), j < Q.length ∧ Q.getD j [] = [y] ∧ Q.flatten = [y] ∧ ∀ l, l < j → Q.getD l [] = [] := by
  intro Q
  induction Q with
  | nil => intro h; simp [cnt] at h
  | cons x t ih =>
    intro h
    have h0 : x.length + (cnt t).sum = 1 := by simpa [cnt] using h
    cases x with
    | nil =>
      obtain ⟨j, y, h1, h2, h3, h4⟩ := ih (by simpa using h0)
      refine ⟨j + 1, y, by simp; omega, by simpa using h2, by simpa using h3, ?_⟩
      intro l hl
      cases l with
      | zero => rfl
      | succ l => simpa using h4 l (by omega)
    | cons x0 xt =>
      have hx : xt.length = 0 ∧ (cnt t).sum = 0 := by simp at h0; omega
      obtain rfl := List.length_eq_zero_iff.1 hx.1
      have ht : t.flatten.length = 0 := by rw [List.length_flatten]; exact hx.2
      exact ⟨0, x0, by simp, rfl, by simp [List.length_eq_zero_iff.1 ht], fun l hl => by omega⟩

set_option maxRecDepth 100000 in
set_option maxHeartbeats 8000000 in
theorem run18_any (B g k c F0 : Nat) (vs0 : List Value) (es0 : List (List Value)) (Q0 R : List (List (List (Int × Int)))) (P S : Nat) (w : World) (hk3 : 3 ≤ k) (hk8 : k ≤ 8) (hgood : good F0 (cnt Q0) = true) (hF0 : F0 ≤ 100) (hpoly : polyF mrgT [] List.length F0 Q0 = (R, P, S)) (hIQ : tot List.length Q0 ≤ 1000) (hS : S ≤ 1000000)
    (hT : TS OkT w B 24 27 g k c vs0 es0 Q0) :
    Calls Try.prog 29 #[.slice (some ⟨g, 0, none⟩) k c] w (RunE18 w B P S R) := by
  have hgB := (hT.row.lt g rfl)
  have hBw : B ≤ w.heap.size := by omega
  have hgB2 := hgB.1
  have HT0 := Lib.hid hT; have HG0 := Lib.hid hgood; have HP0 := Lib.hid hpoly; have HI0 := Lib.hid hIQ
  clear hT hgood hpoly hIQ hgB
  go_enter Try.func29, Try.ntmps29
  go_wp2
  go_loopg [5, 6] F0 (fun fu ph mv wr => ∃ (vs : List Value) (es : List (List Value)) (Q : List (List (List (Int × Int)))) (p s P' S' : Nat), ph = .int .i64 p ∧ mv = .int .i64 s ∧ p + fu ≤ F0 ∧ p + P' = P ∧ s + S' = S ∧ good fu (cnt Q) = true ∧ polyF mrgT [] List.length fu Q = (R, P', S') ∧ tot List.length Q ≤ 1000 ∧ TS OkT wr B 24 27 g k c vs es Q ∧ Below B w wr ∧ w.heap.size ≤ wr.heap.size)
  case atStart => exact ⟨vs0, es0, Q0, 0, 0, P, S, rfl, rfl, by omega, by omega, by omega, HG0.out, HP0.out, HI0.out, HT0.out, Below.refl B _, Nat.le_refl _⟩
  case round =>
    obtain ⟨vs, es, Q, p, s, P', S', rfl, rfl, hpf, hpP, hsS, hgd, hpl, hIq, hT, hb, hwr⟩ := hrel
    have HT := Lib.hid hT; have HB := Lib.hid hb; have HGD := Lib.hid hgd; have HPL := Lib.hid hpl; have HIQ := Lib.hid hIq
    have HLQ := Lib.hid hT.lq
    have hsum := good_sum hgd
    have HCL : Hid ((cnt Q).length = k) := by show _ = _; rw [cnt_len]; exact hT.lq
    clear hT hb hgd hpl hIq HT0 HG0 HP0 HI0
    rename World => w1
    have E0 := Lib.hid (own_lit (w := w1) (e := 3) (size := 1) #[] 0 (by omega) rfl)
    have HBA := Lib.hid (show Below w1.heap.size w1 (w1.alloc (.cells #[] 3)) from (Below.refl _ _).alloc (Nat.le_refl _) _)
    have HVC : Hid (∀ i, i < k → ∀ W, Below w1.heap.size w1 W → ∃ a d, W.cell? ⟨g, i, none⟩ = some (.slice a ((cnt Q).getD i 0) d)) := fun i hi W hW => by
      have hT := HT.out.below okT hW
      obtain ⟨a, d, hv⟩ := (hT.q i hi).shape
      refine ⟨a, d, ?_⟩
      rw [hT.cellAt hi, hv, cnt_get, (hT.el i hi).1]
    go_wp2
    go_loopw [7, 8] (fun u iv wx => ∃ (i : Nat), iv = .int .i64 i ∧ i ≤ k ∧ wx.ownsRow w1.heap.size 3 1 u i ((iN ((cnt Q).take i)).map (Value.int .i64)) ∧ (∃ b, u.ownBlock = some b) ∧ Below w1.heap.size w1 wx) (fun _ iv _ => k - (intOf iv).toNat)
    case atStart => exact ⟨0, rfl, by omega, E0.out, ⟨_, rfl⟩, HBA.out⟩
    case round =>
      obtain ⟨i, rfl, hi, ho, hob, hb⟩ := hrel
      have HO := Lib.hid ho; have HBX := Lib.hid hb; have HOB := Lib.hid hob
      clear ho hb hob E0 HBA
      have hwx := HBX.out.size
      by_cases hik : i < k
      · have h3 : decide ((i : Int) < (k : Int)) = true := decide_eq_true (by omega)
        obtain ⟨av, dv, cv⟩ := HVC.out i hik _ HBX.out
        have HTS : Hid ((cnt Q).take (i + 1) = (cnt Q).take i ++ [(cnt Q).getD i 0]) := by
          show _ = _
          have : i < (cnt Q).length := by rw [HCL.out]; exact hik
          rw [List.take_succ_eq_append_getElem this, List.getD_eq_getElem?_getD, List.getElem?_eq_getElem this]; rfl
        have hx1 := getD_sum (cnt Q) i
        generalize (cnt Q).getD i 0 = x at cv HTS hx1
        have b0 : (0 : Int) ≤ (i : Int) := by omega
        have b1 : (i : Int) < (k : Int) := by omega
        have hn40 : i + 1 ≤ 1099511627776 := by omega
        go_wp2_with (at_builtin; refine wpList_app1 slInt rfl _ _ rfl rfl HO.out [.int .i64 (x : Int)] rfl rfl (by simp) (by simp [Value.oneCell']) hn40 hwx ?_; intro v' w7 hown' hg' ht')
        have HO7 := Lib.hid hown'
        have HB7 := Lib.hid (HBX.out.grown hg' hwx (fun b e => (HO.out.lt b e).1))
        have HOB7 : Hid (∃ b, v'.ownBlock = some b) := by
          rcases ht' with h | h
          · exact HOB.out.imp fun b hb => h.trans hb
          · exact ⟨_, h⟩
        clear hown' hg' ht'
        go_roundw
        case rel => exact ⟨i + 1, by go_num, by omega, by rw [HTS.out, iN_snoc, List.map_append]; exact HO7.out, HOB7.out, HB7.out⟩
        case measure => simp [intOf] <;> omega
      obtain rfl : i = k := by omega
      have h3 : decide ((i : Int) < (i : Int)) = false := by simp
      have HTF : Hid ((cnt Q).take i = cnt Q) := List.take_of_length_le (by rw [HCL.out]; exact Nat.le_refl _)
      rw [HTF.out] at HO
      obtain ⟨au, cu, rfl⟩ := own_slice HO.out
      have HIU := Lib.hid (ints_of_own HO.out)
      have HT2 := Lib.hid (HT.out.below okT HBX.out)
      have HB2 := Lib.hid (HB.out.trans (HBX.out.mono (Nat.le_trans hBw hwr)))
      have hw2 : w.heap.size ≤ wr.heap.size := Nat.le_trans hwr hwx
      have HSM := Lib.hid (total_any au cu i (cnt Q) wr HCL.out (by omega) (by omega) HIU.out)
      have HEM := Lib.hid (fun W hb => empty18_any au cu i (cnt Q) W HCL.out (by omega) (HIU.out.below (Nat.le_refl _) (B := wr.heap.size) hb))
      have HPH := Lib.hid (fun W hb => phase18_any au cu i (cnt Q) W HCL.out (by omega) (by omega) (HIU.out.below (Nat.le_refl _) (B := wr.heap.size) hb))
      clear HVC HBX HOB HT HB hwx HO
      go_wp2_with fail
      refine HSM.out.mono ?_
      rintro e w3 ⟨rfl, hb3⟩
      have HEM3 := Lib.hid (HEM.out w3 hb3)
      have HPH3 := Lib.hid (fun W (hW : Below w3.heap.size w3 W) => HPH.out W (hb3.trans (hW.mono hb3.size)))
      have HT3 := Lib.hid (HT2.out.below okT hb3)
      have HB3 := Lib.hid (HB2.out.trans (hb3.mono (Nat.le_trans hBw hw2)))
      have hw3 : w.heap.size ≤ w3.heap.size := Nat.le_trans hw2 hb3.size
      clear hb3 HSM HEM HPH HT2 HB2 hw2
      obtain ⟨CS, hCS⟩ : ∃ CS, (cnt Q).sum = CS := ⟨_, rfl⟩
      have HCS := Lib.hid hCS
      rw [hCS] at hsum ⊢
      clear hCS
      by_cases hone : CS = 1
      · subst hone
        have hpe := HPL.out
        rw [poly_end HCS.out] at hpe
        injection hpe with e1 e2
        injection e2 with e2 e3
        obtain ⟨jj, y, hjl, hjy, hjf, hj0⟩ := one_queue Q HCS.out
        rw [HLQ.out] at hjl
        have hP : p = P := by omega
        have hS2 : s = S := by omega
        subst hP; subst hS2; subst e1
        have hel := HT3.out.el jj hjl
        rw [hjy] at hel
        obtain ⟨x, et, hex⟩ : ∃ x et, es.getD jj [] = x :: et := by
          cases he : es.getD jj [] with
          | nil => rw [he] at hel; have := hel.1; simp at this
          | cons x et => exact ⟨x, et, rfl⟩
        rw [hex] at hel
        have het : et = [] := List.length_eq_zero_iff.1 (by have := hel.1; simpa using this.symm)
        subst het
        obtain ⟨gb, off, cap, hv, hle, hm, hc⟩ := (HT3.out.q jj hjl).at (by rw [hex]; simp)
        rw [hex] at hle hc hv
        simp only [List.length_cons, List.length_nil, Nat.zero_add] at hle hv
        have hcx := hc 0 x rfl
        rw [Nat.add_zero] at hcx
        have hcj := HT3.out.cellAt hjl
        rw [hv] at hcj
        have HZ0 : Hid (∀ i, i < jj → ∃ a d, w3.cell? ⟨g, i, none⟩ = some (.slice a (0 : Nat) d)) := fun i hi => by
          obtain ⟨a, d, hv⟩ := (HT3.out.q i (by omega)).shape
          refine ⟨a, d, ?_⟩
          have hz := (HT3.out.el i (by omega)).1
          rw [hj0 i hi] at hz
          rw [HT3.out.cellAt (by omega), hv, ← hz]; rfl
        have HOKX := Lib.hid hel.head.1
        have HJF := Lib.hid hjf
        clear e2 e3 hc hel hv HPH3 HEM3 hjf hj0 hjy hex
        go_wp2
        go_loopw [14] (fun iv wx => ∃ (i : Nat), iv = .int .i64 i ∧ i ≤ jj ∧ wx = w3) (fun iv _ => jj + 1 - (intOf iv).toNat)
        case atStart => exact ⟨0, rfl, by omega, rfl⟩
        case round =>
          obtain ⟨i2, rfl, hi2, rfl⟩ := hrel
          have h3 : decide ((i2 : Int) < (i : Int)) = true := decide_eq_true (by omega)
          have b0 : (0 : Int) ≤ (i2 : Int) := by omega
          have b1 : (i2 : Int) < (i : Int) := by omega
          by_cases hij : i2 < jj
          · obtain ⟨az, dz, cz⟩ := HZ0.out i2 hij
            go_wp2
            go_roundw
            case rel => exact ⟨i2 + 1, by go_num, by omega, trivial⟩
            case measure => simp [intOf] <;> omega
          · obtain rfl : i2 = jj := by omega
            go_wp2
            go_ret3
            exact ⟨x, y, rfl, HJF.out, HOKX.out, HB3.out⟩
      have hone2 : ((CS : Int) == 1) = false := by simp; omega
      have hone3 : ¬ (CS : Int) = 1 := by omega
      have hone4 : (cnt Q).sum ≠ 1 := by rw [HCS.out]; exact hone
      obtain ⟨f, rfl⟩ : ∃ f, gk = f + 1 := by
        cases gk with
        | zero => exact absurd HGD.out (by simp [good])
        | succ n => exact ⟨n, rfl⟩
      have hG := good_at HGD.out hone4
      obtain ⟨p1, s1, hpl1, hP1, hS1⟩ := poly_next hone4 HPL.out
      have hzero := hG.zero; have hall := hG.all; have hnext := hG.next; have hlt := hG.lt; have hpos := hG.pos
      obtain ⟨hem, hle⟩ := spec_phase hG
      obtain ⟨ee, hee⟩ : ∃ ee, emF (cnt Q) = ee := ⟨_, rfl⟩
      obtain ⟨m, hm⟩ : ∃ m, leF (cnt Q) = m := ⟨_, rfl⟩
      rw [hee] at hem hle
      rw [hm] at hle
      rw [hem] at HEM3 HPH3
      rw [hle] at HPH3
      rw [hee, hm] at hpl1 hS1 hnext
      rw [hee] at hzero hall hlt
      rw [hm] at hall hpos
      rw [cnt_get] at hzero
      rw [cnt_len, HLQ.out] at hlt hall
      have hallQ : ∀ j, j < i → j ≠ ee → m ≤ (Q.getD j []).length := fun j hj hne => by rw [← cnt_get]; exact hall j hj hne
      have hm100 : m ≤ 100 := by
        obtain ⟨j, hj, hne⟩ : ∃ j, j < i ∧ j ≠ ee := by
          by_cases h0 : ee = 0
          · exact ⟨1, by omega, by omega⟩
          · exact ⟨0, by omega, by omega⟩
        have h1 := hall j hj hne
        have h2 := getD_sum (cnt Q) j
        have h3 := good_sum HGD.out
        omega
      have HPL1 := Lib.hid hpl1; have HNX := Lib.hid hnext; have HZ := Lib.hid hzero; have HAQ := Lib.hid hallQ
      have HTZ3 : Hid ((outS (ee : Int) m (cnt Q) i)[ee]? = some (m : Int)) := by
        show _ = _
        unfold outS
        rw [List.getElem?_map, List.getElem?_range hlt]
        simp
      clear hG hpl1 hnext hzero hall hallQ hee hm hone hone4 HPL HGD hem hle
      go_wp2_with fail
      refine HEM3.out.mono ?_
      rintro e w4 ⟨rfl, hb4⟩
      have HPH4 := Lib.hid (HPH3.out w4 hb4)
      have HT4 := Lib.hid (HT3.out.below okT hb4)
      have HB4 := Lib.hid (HB3.out.trans (hb4.mono (Nat.le_trans hBw hw3)))
      have hw4 : w.heap.size ≤ w4.heap.size := Nat.le_trans hw3 hb4.size
      clear hb4 HT3 HB3 HEM3 HPH3 hw3
      have e0 : (0 : Int) ≤ (ee : Int) := by omega
      have e1 : (ee : Int) < (i : Int) := by omega
      go_wp2_with fail
      refine HPH4.out.mono ?_
      rintro e w5 ⟨v5, rfl, ho5, hb5⟩
      obtain ⟨a5, c5, rfl⟩ := own_slice ho5
      obtain ⟨g5, rfl, _, _, hc5⟩ := own_cell ho5 (by omega)
      have c5m : w5.cell? ⟨g5, ee, none⟩ = some (.int .i64 (m : Nat)) := by
        rw [hc5 ee (by omega), List.getElem?_map, HTZ3.out]; rfl
      have HT5 := Lib.hid (HT4.out.below okT hb5)
      have HB5 := Lib.hid (HB4.out.trans (hb5.mono (Nat.le_trans hBw hw4)))
      have hw5 : w.heap.size ≤ w5.heap.size := Nat.le_trans hw4 hb5.size
      clear ho5 hc5 hb5 HT4 HB4 HPH4 hw4
      obtain ⟨k', hk'⟩ : ∃ k', k' = i := ⟨_, rfl⟩
      subst hk'
      have hp100 : p ≤ 100 := by omega
      have hsS2 : s ≤ 1000000 := by omega
      go_wp2
      go_loopw [6, 10] (fun mv iv wx => ∃ (q r : Nat) (vs : List Value) (es : List (List Value)), mv = .int .i64 ((s + movedF mrgT [] List.length ee Q q : Nat) : Int) ∧ iv = .int .i64 r ∧ q + r = m ∧ TS OkT wx B 24 27 g k' c vs es (stepsF mrgT [] ee Q q) ∧ tot List.length (stepsF mrgT [] ee Q q) ≤ 1000 ∧ Below B w wx ∧ w.heap.size ≤ wx.heap.size) (fun _ iv _ => (intOf iv).toNat)
      case atStart => exact ⟨0, m, vs, es, rfl, rfl, by omega, HT5.out, HIQ.out, HB5.out, hw5⟩
      case round =>
        obtain ⟨q, r, vs, es, rfl, rfl, hqr, hT, hIq, hb, hwr⟩ := hrel
        have HT := Lib.hid hT; have HIq := Lib.hid hIq; have HB := Lib.hid hb
        clear hT hIq hb HT5 HB5 hw5
        by_cases hr0 : 0 < r
        case neg =>
          obtain rfl : r = 0 := by omega
          obtain rfl : q = m := by omega
          have HFA : Hid (good f (cnt (stepsF mrgT [] ee Q q)) = true) := by show _ = _; rw [steps_after (by rw [HLQ.out]; exact hlt) HZ.out]; exact HNX.out
          go_wp2
          go_roundg f
          case measure => omega
          case rel => exact ⟨vs, es, _, p + 1, s + movedF mrgT [] List.length ee Q q, p1, s1, by go_num, rfl, by omega, by omega, by omega, HFA.out, HPL1.out, HIq.out, HT.out, HB.out, hwr⟩
        have h3 : decide ((0 : Int) < (r : Int)) = true := decide_eq_true (by omega)
        rename World => w5
        obtain ⟨Q1, hQ1⟩ : ∃ Q1, stepsF mrgT [] ee Q q = Q1 := ⟨_, rfl⟩
        have HSQ : Hid (stepsF mrgT [] ee Q (q + 1) = stepF mrgT [] ee Q1) := by show _ = _; rw [stepsF, hQ1]
        have hlq1 : Q1.length = k' := by rw [← hQ1, steps_len]; exact HLQ.out
        have hne1 : ∀ j, j < Q1.length → j ≠ ee → Q1.getD j [] ≠ [] := fun j hj hne he => by
          rw [hlq1] at hj
          have h1 := steps_cnt (mrg := mrgT) (z := ([] : List (Int × Int))) (e := ee) (Q := Q) (by rw [HLQ.out]; exact hlt) (j := j) (by rw [HLQ.out]; exact hj) q
          rw [hQ1, he, if_neg hne] at h1
          have := HAQ.out j hj hne
          have h1' : 0 = (Q.getD j []).length - q := h1
          omega
        rw [hQ1] at HT HIq
        have HMV : Hid (movedF mrgT [] List.length ee Q (q + 1) = movedF mrgT [] List.length ee Q q + (mrgT (headsTo [] ee Q1 Q1.length)).length) := by show _ = _; rw [movedF, hQ1, hlq1, HLQ.out]
        have hmm := moved_mono (mrg := mrgT) (z := ([] : List (Int × Int))) (sz := List.length) (e := ee) (Q := Q) (show q + 1 ≤ m by omega)
        rw [HMV.out] at hmm
        obtain ⟨hI2, hPre⟩ := tot_step (mrg := mrgT) (z := ([] : List (Int × Int))) (sz := List.length) mrgT_len (e := ee) (Q := Q1) (by rw [hlq1]; exact hlt) hne1
        have hI3 : tot List.length (stepF mrgT [] ee Q1) ≤ 1000 := by rw [hI2]; exact HIq.out
        have hPre2 : wt List.length (headsTo ([] : List (Int × Int)) ee Q1 Q1.length) ≤ 1000 := Nat.le_trans hPre HIq.out
        obtain ⟨s2, hs2⟩ : ∃ s2, s + movedF mrgT [] List.length ee Q q = s2 := ⟨_, rfl⟩
        rw [hs2]
        rw [hlq1] at hPre2 hmm HMV
        have hs2S : s2 + (mrgT (headsTo [] ee Q1 k')).length ≤ S := by omega
        have HI2 := Lib.hid hI3; have HPre := Lib.hid hPre2; have HNE := Lib.hid hne1; have HL1 := Lib.hid hlq1; have HS2 := Lib.hid hs2
        have HLT := Lib.hid (HT.out.ltT okT)
        have E0 := Lib.hid (own_lit (w := w5) (e := 27) (size := 1) #[] 0 (by omega) rfl)
        have hba := (Below.refl w5.heap.size w5).alloc (Nat.le_refl _) (.cells #[] 27)
        have HTA := Lib.hid (HT.out.below okT hba)
        have HGA := Lib.hid (grown_of_below (row := some g) hba)
        have HTZ : Hid (tailsTo ee Q1 0 = Q1) := tails_zero
        have HQ1 := Lib.hid hQ1
        clear hQ1 hne1 hmm hI2 hI3 hPre hPre2 hs2 hlq1 hba
        go_wp2
        go_loopw [11, 12] (fun u iv wx => ∃ (i : Nat) (vs : List Value) (es : List (List Value)) (hs : List Value), iv = .int .i64 i ∧ i ≤ k' ∧ TS OkT wx B 24 27 g k' c vs es (tailsTo ee Q1 i) ∧ LT w5.heap.size g k' g vs es ∧ hs.length ≤ i ∧ wx.ownsRow w5.heap.size 27 1 u hs.length hs ∧ (∃ b, u.ownBlock = some b) ∧ HdS OkT wx w5.heap.size g g (headsTo [] ee Q1 i) hs ∧ w5.grownBy wx (some g)) (fun _ iv _ => k' - (intOf iv).toNat)
        case atStart => exact ⟨0, vs, es, [], rfl, by omega, by rw [HTZ.out]; exact HTA.out, HLT.out, by simp, E0.out, ⟨_, rfl⟩, ⟨All2.nil, fun x hx => nomatch hx⟩, HGA.out⟩
        case round =>
          obtain ⟨i, vs, es, hs, rfl, hi, hT, hL, hhl, ho, hob, hh, hgr⟩ := hrel
          have HT := Lib.hid hT; have HLT := Lib.hid hL; have HO := Lib.hid ho; have HOB := Lib.hid hob; have HH := Lib.hid hh; have HGR := Lib.hid hgr
          have hw5 : w5.heap.size ≤ wr.heap.size := hgr.size
          clear hT hL ho hob hh hgr HTA HGA E0
          by_cases hik : i < k'
          · have h4 : decide ((i : Int) < (k' : Int)) = true := decide_eq_true (by omega)
            have b0 : (0 : Int) ≤ (i : Int) := by omega
            have b1 : (i : Int) < (k' : Int) := by omega
            by_cases hie : i = ee
            · subst hie
              have HTK : Hid (tailsTo i Q1 (i + 1) = tailsTo i Q1 i) := tails_skip
              have HHK : Hid (headsTo ([] : List (Int × Int)) i Q1 (i + 1) = headsTo [] i Q1 i) := heads_skip
              have h5 : ((i : Int) != (i : Int)) = false := by simp
              go_wp2
              go_roundw
              case rel => exact ⟨i + 1, vs, es, hs, by go_num, by omega, by rw [HTK.out]; exact HT.out, HLT.out, by omega, HO.out, HOB.out, by rw [HHK.out]; exact HH.out, HGR.out⟩
              case measure => simp [intOf] <;> omega
            · have h5 : ((i : Int) != (ee : Int)) = true := by simp; omega
              have hne2 : ¬ (i : Int) = (ee : Int) := by omega
              have hqi : (tailsTo ee Q1 i).getD i [] = Q1.getD i [] := tails_same (.inl (Nat.le_refl _)) (by rw [HL1.out]; exact hik)
              obtain ⟨y, qt, x, et, gb, off, cap, hy, hex, hv, hle, hcm, hcx, hok, hbl, hcv, hgb, hgbL⟩ := HT.out.head okT HLT.out hik (by rw [hqi]; exact HNE.out i (by rw [HL1.out]; exact hik) hie)
              rw [hqi] at hy
              obtain ⟨xa, xn, xd, rfl⟩ := hok.sh
              have HTK : Hid (tailsTo ee Q1 (i + 1) = (tailsTo ee Q1 i).set i qt) := tails_succ (by rw [HL1.out]; exact hik) hie hy
              have HHK : Hid (headsTo ([] : List (Int × Int)) ee Q1 (i + 1) = headsTo [] ee Q1 i ++ [y]) := heads_succ hie hy
              have HY : Hid ((tailsTo ee Q1 i).getD i [] = y :: qt) := hqi.trans hy
              have HEX := Lib.hid hex; have HV := Lib.hid hv; have HOK := Lib.hid hok; have HBL := Lib.hid hbl
              obtain ⟨n1, hn1⟩ : ∃ n1, et.length = n1 := ⟨_, rfl⟩
              have HN1 := Lib.hid hn1
              rw [hn1] at HV hle hcv
              have HUB : Hid (∀ b, u11.ownBlock = some b → w5.heap.size ≤ b) := fun b e => (HO.out.lt b e).1
              have HKC : Hid (∀ W, (∃ row, wr.grownBy W row ∧ ∀ b, row = some b → w5.heap.size ≤ b) → W.cell? ⟨g, i, none⟩ = some (.slice (some ⟨gb, off, none⟩) (n1 + 1) (cap + 1)) ∧ TS OkT W B 24 27 g k' c vs es (tailsTo ee Q1 i)) := fun W ⟨row, hg, hr⟩ => by
                have hTW := HT.out.keptL okT HLT.out hg hr
                have hcv2 := hTW.cellAt hik
                rw [HV.out] at hcv2
                exact ⟨hcv2, hTW⟩
              have b2 : (0 : Int) < (n1 : Int) + 1 := by omega
              have b3 : (1 : Int) ≤ (n1 : Int) + 1 := by omega
              have b4 : (n1 : Int) + 1 ≤ (cap : Int) + 1 := by omega
              have b5 : (1 : Int) ≤ (cap : Int) + 1 := by omega
              have hsm : hs.length + 1 ≤ 1099511627776 := by omega
              clear hqi hy hex hv hok hbl hn1 hgbL
              by_cases hc0 : cap = 0
              case' pos =>
                subst hc0
                obtain rfl : n1 = 0 := by omega
                have HTL : Hid (∀ W, TS OkT W B 24 27 g k' c vs es (tailsTo ee Q1 i) → QRow W B 27 (.slice (some ⟨gb, off, none⟩) 0 0) et) := fun W h => by
                  have := h.q i hik
                  rw [HV.out, HEX.out] at this
                  have he : et = [] := List.length_eq_zero_iff.1 HN1.out
                  rw [he] at this ⊢
                  exact this.tail0
                have hcv : wr.cell? ⟨g, i, none⟩ = some (.slice (some ⟨gb, off, none⟩) 1 1) := hcv
                have HKC : Hid (∀ W, (∃ row, wr.grownBy W row ∧ ∀ b, row = some b → w5.heap.size ≤ b) → W.cell? ⟨g, i, none⟩ = some (.slice (some ⟨gb, off, none⟩) 1 1) ∧ TS OkT W B 24 27 g k' c vs es (tailsTo ee Q1 i)) := HKC.out
                obtain ⟨nv, hnv⟩ : ∃ nv : Value, nv = .slice (some ⟨gb, off, none⟩) 0 0 := ⟨_, rfl⟩
              case' neg =>
                obtain ⟨cap1, rfl⟩ : ∃ c1, cap = c1 + 1 := ⟨cap - 1, by omega⟩
                clear hc0
                have HTL : Hid (∀ W, TS OkT W B 24 27 g k' c vs es (tailsTo ee Q1 i) → QRow W B 27 (.slice (some ⟨gb, off + 1, none⟩) n1 (cap1 + 1)) et) := fun W h => by
                  have := h.q i hik
                  rw [HV.out, HEX.out, ← HN1.out] at this
                  rw [← HN1.out]
                  exact this.tail
                have b6 : ¬ (cap1 + 1 + 1 = 1) := by omega
                have b7 : ¬ (1 = cap1 + 1 + 1) := by omega
                obtain ⟨nv, hnv⟩ : ∃ nv : Value, nv = .slice (some ⟨gb, off + 1, none⟩) n1 (cap1 + 1) := ⟨_, rfl⟩
              all_goals
                rw [← hnv] at HTL
                have HNV := Lib.hid hnv
                have hvb : nv.ownBlock = (vs.getD i undef).ownBlock := by rw [HV.out, HNV.out]; rfl
                have HVB := Lib.hid hvb
                clear hnv hvb
                go_wp2_with (at_builtin; refine wpList_app1 slTap rfl _ _ rfl rfl HO.out [.slice xa xn xd] rfl rfl (by simp) (by simp [Value.oneCell']) hsm hw5 ?_; intro v7 w7 hown7 hg7 ht7
                             have HG7 := Lib.hid hg7; have HO7 := Lib.hid hown7; have HT7 := Lib.hid ht7
                             have hKC := HKC.out w7 ⟨_, HG7.out, HUB.out⟩
                             have k2 := hKC.1; have HTM := Lib.hid hKC.2
                             have k3 := (HTM.out.store i nv).2.2
                             clear hown7 hg7 ht7 hKC)
                have st := HTM.out.store i nv
                have HTC := Lib.hid (HTM.out.cut okT hik HEX.out HY.out (HTL.out w7 HTM.out) HVB.out st.1 st.2.1)
                have HLC := Lib.hid (HLT.out.cut HT.out.lv HT.out.le hik HEX.out HVB.out)
                have hgL := HLT.out.1
                have HOC : Hid ((w7.setCell ⟨g, i, none⟩ nv).ownsRow w5.heap.size 27 1 v7 (hs ++ [(.slice xa xn xd : Value)]).length (hs ++ [(.slice xa xn xd : Value)])) := by
                  rw [List.length_append]
                  exact own_other HO7.out st.2.1 (fun b hb e => by injection e with e; have := (HO7.out.lt b hb).1; omega)
                have HOBC : Hid (∃ b, v7.ownBlock = some b) := by
                  rcases HT7.out with h | h
                  · exact HOB.out.imp fun b hb => h.trans hb
                  · exact ⟨_, h⟩
                have HHC := Lib.hid (((HH.out.kept okT HG7.out (fun b hb => .inl (HUB.out b hb))).kept okT st.2.1 (fun b hb => .inr (by injection hb with hb; exact hb.symm))).snoc (okT.kept (okT.kept HOK.out HG7.out (fun b hb e => by have := HUB.out b e; have := HBL.out b hb; omega)) st.2.1 (fun b hb e => by injection e with e; exact (HBL.out b hb).2.1 e.symm)) HBL.out)
                have HGC := Lib.hid (grown_trans (grown_new HGR.out HG7.out HUB.out) st.2.1)
                have hhl2 : (hs ++ [(.slice xa xn xd : Value)]).length ≤ i + 1 := by simp; omega
                have hnv := HNV.out
                subst hnv
                clear st k2 k3 hcx hcv HNV HVB
                go_wp2
                go_roundw
                case rel => exact ⟨i + 1, _, es.set i et, hs ++ [(.slice xa xn xd : Value)], by go_num, by omega, by rw [HTK.out]; exact HTC.out, HLC.out, hhl2, HOC.out, HOBC.out, by rw [HHK.out]; exact HHC.out, HGC.out⟩
                case measure => simp [intOf] <;> omega
          obtain rfl : i = k' := by omega
          have h4 : decide ((i : Int) < (i : Int)) = false := by simp
          have hlen : hs.length = (headsTo ([] : List (Int × Int)) ee Q1 i).length := HH.out.ok.1.symm
          have hpos2 : 0 < hs.length := by rw [hlen]; exact heads_pos (by omega)
          obtain ⟨au2, cu2, rfl⟩ := own_slice HO.out
          obtain ⟨gu, rfl, hgu1, hgu2, hguc⟩ := own_cell HO.out hpos2
          obtain ⟨xs, hxs⟩ : ∃ xs, headsTo ([] : List (Int × Int)) ee Q1 i = xs := ⟨_, rfl⟩
          rw [hxs] at HH HPre hs2S HMV
          obtain ⟨n, hn⟩ : ∃ n, hs.length = n := ⟨_, rfl⟩
          have HN := Lib.hid hn
          rw [hn] at hpos2 hguc hhl HO ⊢
          obtain ⟨Q2, hQ2⟩ : ∃ Q2, tailsTo ee Q1 i = Q2 := ⟨_, rfl⟩
          have HQ2 : Hid ((Q2.set ee (Q1.getD ee [] ++ [mrgT xs])) = stepF mrgT [] ee Q1) := by show _ = _; unfold stepF; rw [HL1.out, hQ2, hxs]
          have HQE : Hid (Q2.getD ee [] = Q1.getD ee []) := by show _ = _; rw [← hQ2]; exact tails_same (.inr rfl) (by rw [HL1.out]; exact hlt)
          rw [hQ2] at HT
          have hcv := HT.out.cellAt hlt
          obtain ⟨ae, ce, hve⟩ := (HT.out.q ee hlt).shape
          obtain ⟨ne, hne⟩ : ∃ ne, (es.getD ee []).length = ne := ⟨_, rfl⟩
          rw [hne] at hve
          have HVE := Lib.hid hve; have HNL := Lib.hid hne
          rw [hve] at hcv
          have hne1k : ne + 1 ≤ 1099511627776 := by
            have h1 := (HT.out.el ee hlt).1
            rw [HQE.out, hne] at h1
            have h2 := steps_cnt (mrg := mrgT) (z := ([] : List (Int × Int))) (e := ee) (Q := Q) (by rw [HLQ.out]; exact hlt) (j := ee) (by rw [HLQ.out]; exact hlt) q
            rw [if_pos rfl, HZ.out] at h2
            have h3 := HQ1.out
            rw [h3] at h2
            omega
          have HMG : Hid (∀ W, Below wr.heap.size wr W → Calls Try.prog 49 #[.slice (some ⟨gu, 0, none⟩) n cu2] W fun e w' => ∃ (g c' : Nat), e = .returned (.slice (some ⟨g, 0, none⟩) (mrgT xs).length c') ∧ w'.ownsRow W.heap.size 32 2 (.slice (some ⟨g, 0, none⟩) (mrgT xs).length c') (mrgT xs).length (flat encR (mrgT xs)) ∧ Below W.heap.size W w') := fun W hW => by
            have hOW := own_below HO.out (Nat.le_refl _) hW
            have hHW := (HH.out.below okT hW).ok
            refine merge18_any (some ⟨gu, 0, none⟩) n cu2 xs W (by omega) (lsAt_own hOW ⟨hHW.1.symm, fun j v L h1 h2 => (hHW.2 j L v h2 h1).2.1⟩) ?_
            rw [List.length_flatten]; exact HPre.out
          obtain ⟨N, hN⟩ : ∃ N, (mrgT xs).length = N := ⟨_, rfl⟩
          have HNN := Lib.hid hN
          rw [hN] at HMG hs2S HMV
          have HX1 := Lib.hid hxs
          have hBr : B ≤ wr.heap.size := by omega
          have HSM := Lib.hid hne1k
          have hs2le : s2 + N ≤ 1000000 := by omega
          clear hxs hQ2 hn hguc hve hne hN hne1k hpos2 hlen
          go_wp2_with fail
          refine (HMG.out wr (Below.refl _ _)).mono ?_
          rintro e w6 ⟨g6, c6, rfl, ho6, hb6⟩
          have HT6 := Lib.hid (HT.out.below okT hb6)
          have HO6 := Lib.hid ho6
          have HB6 := Lib.hid hb6
          have hcv6 := HT6.out.cellAt hlt
          rw [HVE.out] at hcv6
          have HQ6 : Hid (QRow w6 B 27 (.slice ae ne ce) (es.getD ee [])) := by
            have := HT6.out.q ee hlt
            rwa [HVE.out] at this
          have HX6 : Hid (OkT w6 (mrgT xs) (.slice (some ⟨g6, 0, none⟩) N c6)) := ⟨Mg.srt_asc (Mg.swK _) _, ⟨some ⟨g6, 0, none⟩, c6, by rw [HNN.out], by have := rd_own ho6; rw [HNN.out]; exact this⟩, fun b hb => by injection hb with hb; have h9 : g6 = b := hb; rw [← h9]; exact (ho6.lt g6 rfl).2⟩
          have hg6 := (ho6.lt g6 rfl).1
          have hB6 : B ≤ w6.heap.size := Nat.le_trans hBr hb6.size
          have HSM2 : Hid ((es.getD ee []).length + 1 ≤ 1099511627776) := by show _ ≤ _; rw [HNL.out]; exact HSM.out
          clear ho6 hb6 HMG hcv
          go_wp2_with (at_builtin; refine wpList_appQ slTap rfl _ _ rfl rfl HQ6.out (.slice (some ⟨g6, 0, none⟩) N c6) rfl rfl rfl HSM2.out hB6 ?_; intro v8 w8 hq8 hg8 ht8
                       have hsh8 : ∃ a n d, v8 = .slice a n d := hq8.shape.elim fun a h => h.elim fun c h => ⟨a, _, c, h⟩
                       obtain ⟨a8, n8, c8, rfl⟩ := hsh8
                       have hA := HT6.out.appd hlt HVE.out (Below.refl w6.heap.size w6) hg8
                       have HQ8 := Lib.hid hq8; have HG8 := Lib.hid hA.1; have HT8 := Lib.hid ht8; have HRW := Lib.hid hA.2.1
                       have k5 := hA.2.2.1; have k6 := hA.2.2.2
                       clear hq8 hg8 ht8 hA)
          have st := HRW.out.stored ee (.slice a8 n8 c8)
          have HBLK : Hid (∀ b, (Value.slice ae ne ce).ownBlock = some b → B ≤ b ∧ b < w6.heap.size) := fun b e => (HT6.out.lt okT).2.1 ee hlt b (by rw [HVE.out]; exact e)
          have HPU := Lib.hid (HT6.out.push okT hlt (y := mrgT xs) HX6.out (fun b hb => by
            have h9 : some g6 = some b := hb
            injection h9 with h9
            have hf := HT.out.fresh okT (b := b) (by omega)
            exact ⟨hf.1, hf.2.1⟩) HQ8.out (by rw [HVE.out]; exact HG8.out) (by
            rw [HVE.out]
            rcases HT8.out with h | h
            · exact .inl h
            · exact .inr ⟨_, h, by omega⟩) st.1 st.2)
          have HBF := Lib.hid ((((HB.out.grown HGR.out (Nat.le_trans hBw hwr) (fun b e => by injection e with e; omega)).trans (HB6.out.mono hBr)).grown HG8.out hB6 (fun b e => (HBLK.out b e).1)).grown st.2 (Nat.le_trans hB6 HG8.out.size) (fun b e => by injection e with e; omega))
          have hwf : w.heap.size ≤ (w8.setCell ⟨g, ee, none⟩ (.slice a8 n8 c8)).heap.size := Nat.le_trans (Nat.le_trans (Nat.le_trans (Nat.le_trans hwr hw5) HB6.out.size) HG8.out.size) st.2.size
          have HQF : Hid (Q2.set ee (Q2.getD ee [] ++ [mrgT xs]) = stepsF mrgT [] ee Q (q + 1)) := by show _ = _; rw [HQE.out, HQ2.out, HSQ.out]
          have HSF : Hid (((s2 + N : Nat) : Int) = ((s + movedF mrgT [] List.length ee Q (q + 1) : Nat) : Int)) := by
            show _ = _
            have h1 := HMV.out; have h2 := HS2.out
            omega
          have HIF : Hid (tot List.length (stepsF mrgT [] ee Q (q + 1)) ≤ 1000) := by show _ ≤ _; rw [HSQ.out]; exact HI2.out
          rw [HQF.out] at HPU
          clear st k5 k6 hcv6
          go_wp2
          go_roundw
          case rel => exact ⟨q + 1, r - 1, _, _, by rw [← HSF.out]; go_num, by go_num, by omega, HPU.out, HIF.out, HBF.out, hwf⟩
          case measure => simp [intOf] <;> omega

end Go.Proofs.Ytcdfinkefahloaa

namespace Go.Proofs.Ytcdfinkefahloaa
open Go.RowKit Ply
set_option linter.unusedVariables false

def pmOut (t : Int) (Ls : List (List (Int × Int))) : List (Int × Int) := if pmOk t Ls = true then (pmRun t.toNat Ls).1.flatten.headD [] else []
def pmMv (t : Int) (Ls : List (List (Int × Int))) : Nat := if pmOk t Ls = true then (pmRun t.toNat Ls).2.2 else 0
set_option maxRecDepth 100000 in
set_option maxHeartbeats 4000000 in
theorem specPolyMerge_any (a : Option Addr) (n c : Nat) (t : Int) (Ls : List (List (Int × Int))) (w : World) (hn : n ≤ 1000) (h : LsAt w a n c Ls) (hLb : ∀ i, (Ls.getD i []).length ≤ 1000000) :
    Calls Try.prog 7 #[.slice a n c, .int .i64 t] w (Rd3 w (pmOut t Ls) (pmMv t Ls : Nat) (pmOk t Ls)) := by
  have H := Lib.hid h
  have hl := h.len
  have HIT := Lib.hid (l1In_any t 3 8 w)
  have HIN := Lib.hid (l1In_any (n : Int) 1 40 w)
  have HLb := Lib.hid hLb
  have HER := Lib.hid (belowNew w (.cells #[] 32))
  have HE : Hid (pmOk t Ls = (inB t 3 8 && (inB (n : Int) 1 40 && lsOk Ls))) := by show _ = _; unfold pmOk; rw [hl]
  clear h hLb
  unfold Rd3
  cases hit : inB t 3 8
  · have HO : Hid (pmOk t Ls = false) := by show _ = _; rw [HE.out, hit]; rfl
    have HU : Hid (pmOut t Ls = []) := by show _ = _; unfold pmOut; rw [HO.out]; rfl
    have HC : Hid (pmMv t Ls = 0) := by show _ = _; unfold pmMv; rw [HO.out]; rfl
    rw [hit] at HIT
    clear hit
    go_enter Try.func7, Try.ntmps7
    go_wp2_with (go_at_call 26; refine HIT.out.mono ?_; rintro e w1 ⟨rfl, rfl⟩)
    go_ret3
    exact ⟨some _, 0, 0, by rw [HC.out, HO.out]; rfl, by rw [HU.out]; exact rd_some _ _ _, HER.out⟩
  cases hin : inB (n : Int) 1 40
  · have HO : Hid (pmOk t Ls = false) := by show _ = _; rw [HE.out, hit, hin]; rfl
    have HU : Hid (pmOut t Ls = []) := by show _ = _; unfold pmOut; rw [HO.out]; rfl
    have HC : Hid (pmMv t Ls = 0) := by show _ = _; unfold pmMv; rw [HO.out]; rfl
    rw [hit] at HIT; rw [hin] at HIN
    clear hit hin
    go_enter Try.func7, Try.ntmps7
    go_wp2_with fail
    refine HIT.out.mono ?_
    rintro e w1 ⟨rfl, rfl⟩
    go_wp2_with fail
    refine HIN.out.mono ?_
    rintro e w1 ⟨rfl, rfl⟩
    go_wp2
    go_ret3
    exact ⟨some _, 0, 0, by rw [HC.out, HO.out]; rfl, by rw [HU.out]; exact rd_some _ _ _, HER.out⟩
  · have hin' := inB_iff.1 hin
    have hk0 : 0 < n := by omega
    have hk : n ≤ 100 := by omega
    have hit' := inB_iff.1 hit
    rw [hit] at HIT; rw [hin] at HIN
    have HE2 : Hid (pmOk t Ls = lsOk Ls) := by show _ = _; rw [HE.out, hin, hit]; rfl
    clear hin hit HE
    have HE0 := Lib.hid (belowNew w (.cells #[] 27))
    have E1 := own_lit (w := w) (e := 27) (size := 1) #[] 0 (by omega) rfl
    have HOW0 : Hid (QB OkT (w.alloc (.cells #[] 27)) w.heap.size w.heap.size 27 (.slice (some ⟨w.heap.size, 0, none⟩) 0 0) [] []) := QB.nil (Nat.le_refl _) E1 rfl
    clear E1
    go_enter Try.func7, Try.ntmps7
    go_wp2_with fail
    refine HIT.out.mono ?_
    rintro e w1 ⟨rfl, rfl⟩
    go_wp2_with fail
    refine HIN.out.mono ?_
    rintro e w1 ⟨rfl, rfl⟩
    go_wp2
    go_loopw [7, 8, 9] (fun tt ov iv wr => ∃ i tn : Nat, iv = .int .i64 i ∧ tt = .int .i64 tn ∧ i ≤ n ∧ tn ≤ 64 * i ∧ Hid (tn = totL (Ls.take i)) ∧ Hid ((Ls.take i).all ascOk = true) ∧ Below w.heap.size w wr ∧ ∃ es1 : List Value, QB OkT wr w.heap.size w.heap.size 27 ov es1 (Ls.take i)) (fun _ _ iv _ => n - (intOf iv).toNat)
    case atStart => exact ⟨0, 0, rfl, rfl, by omega, by omega, Lib.hid rfl, Lib.hid rfl, HE0.out, [], HOW0.out⟩
    case round =>
      obtain ⟨i, tn, rfl, rfl, hi, ht, HT, HALL, hb, es1, how⟩ := hrel
      have HB := Lib.hid hb; have HOW := Lib.hid how
      clear hb how
      by_cases hlt : i < n
      · have q1 : decide ((i : Int) < (n : Int)) = true := decide_eq_true (by omega)
        obtain ⟨lb, lof, xa, d, rfl, hc, hr⟩ := (H.out.same HB.out).at hlt
        obtain ⟨Lw, hLw⟩ : ∃ Lw, Ls.getD i [] = Lw := ⟨_, rfl⟩
        rw [hLw] at hc hr
        have HLW := Lib.hid hLw
        have hbig : Lw.length ≤ 1000000 := by have := HLb.out i; rw [hLw] at this; exact this
        clear hLw
        have b1 : (0 : Int) ≤ (i : Int) := by omega
        have b2 : (i : Int) < (n : Int) := by omega
        have t1 : ((i : Int)).toNat = i := by omega
        have H2 := Lib.hid (l2Records_any xa d Lw wr (by omega) hr.recs)
        have H3 := Lib.hid (l5Ascending_any xa Lw.length d Lw wr (by omega) hr)
        have HE3 := Lib.hid (HB.out.alloc HB.out.size (.cells #[] 32))
        cases h1 : okRecs Lw
        · have HF : Hid (pmOk t Ls = false) := by
            show _ = _
            rw [HE2.out]
            unfold lsOk
            rw [all_noK (i := i) (by omega) (by rw [HLW.out]; unfold ascOk; rw [h1]; rfl)]; rfl
          have HU : Hid (pmOut t Ls = []) := by show _ = _; unfold pmOut; rw [HF.out]; rfl
          have HC : Hid (pmMv t Ls = 0) := by show _ = _; unfold pmMv; rw [HF.out]; rfl
          rw [h1] at H2
          clear h1 hr
          go_wp2_with (first | (go_at_call 27; refine H2.out.mono ?_; rintro e w2 ⟨rfl, rfl⟩))
          go_ret3
          exact ⟨some _, 0, 0, by rw [HC.out, HF.out]; rfl, by rw [HU.out]; exact rd_some _ _ _, HE3.out⟩
        cases h2 : upB ltR Lw
        · have HF : Hid (pmOk t Ls = false) := by
            show _ = _
            rw [HE2.out]
            unfold lsOk
            rw [all_noK (i := i) (by omega) (by rw [HLW.out]; unfold ascOk; rw [h1, h2]; rfl)]; rfl
          have HU : Hid (pmOut t Ls = []) := by show _ = _; unfold pmOut; rw [HF.out]; rfl
          have HC : Hid (pmMv t Ls = 0) := by show _ = _; unfold pmMv; rw [HF.out]; rfl
          rw [h1] at H2; rw [h2] at H3
          clear h1 h2 hr HE3
          go_wp2_with (first | (go_at_call 27; refine H2.out.mono ?_; rintro e w2 ⟨rfl, rfl⟩) | (go_at_call 28; refine H3.out.mono ?_; rintro e w3 ⟨rfl, hb⟩; have HB3 := Lib.hid (below_tr HB.out hb HB.out.size); clear hb))
          go_ret3
          exact ⟨some _, 0, 0, by rw [HC.out, HF.out]; rfl, by rw [HU.out]; exact rd_some _ _ _, HB3.out.alloc HB3.out.size _⟩
        have HOK : Hid (ascOk Lw = true) := by show _ = _; unfold ascOk; rw [h1, h2]; rfl
        have hLl := okRecs_le h1
        rw [h1] at H2; rw [h2] at H3
        have HHC := Lib.hid (World.block_lt_of_cell? wr _ hc)
        have hcc := hc
        have HR := Lib.hid hr.recs; have HNIL := Lib.hid hr.nil
        have HASC : Hid (Mg.Asc Mg.ltF Lw) := (lsOk_asc (Ls := [Lw]) (by unfold lsOk totL; simp [HOK.out]; omega)).1 _ (by simp)
        clear h1 h2 hr HE3
        go_wp2_with (first | (go_at_call 27; refine H2.out.mono ?_; rintro e w2 ⟨rfl, rfl⟩) | (go_at_call 28; refine H3.out.mono ?_; rintro e w3 ⟨rfl, hb⟩; have HB3 := Lib.hid (below_tr HB.out hb HB.out.size); have HBW := Lib.hid hb; have hc3 := (hb.cell (p := ⟨lb, lof + i, none⟩) HHC.out).trans hcc; have hba := (Below.refl w3.heap.size w3).alloc (Nat.le_refl _) (Obj.cells #[] 32); have hc4 := (hba.cell (p := ⟨lb, lof + i, none⟩) (Nat.lt_of_lt_of_le HHC.out hb.size)).trans hc3; have HBA := Lib.hid hba; have HR4 := Lib.hid ((HR.out.below (Nat.le_refl _) hb).below (Nat.le_refl _) hba); have E4 := Lib.hid (own_lit (w := w3) (e := 32) (size := 2) #[] 0 (by omega) rfl); clear hb hba) | (at_builtin; refine wpList_appR slRec rfl _ _ rfl rfl E4.out rfl HR4.out rfl HNIL.out (by omega) HBA.out.size ?_; intro v7 w7 hown' hg' ht'; generalize hGG : wpList _ _ _ _ _ _ = GG))
        have HQ3 := Lib.hid (HOW.out.below okT HBW.out)
        have hB37 := HBA.out.grown hg' HBA.out.size (fun b e => by injection e with e; have h9 : w3.heap.size = b := e; omega)
        have HQ7 := Lib.hid (HQ3.out.below okT hB37)
        have HB7 := Lib.hid (HB3.out.trans (hB37.mono HB3.out.size))
        try simp only [Nat.zero_add, List.nil_append] at hown'
        obtain ⟨a7, c7, rfl⟩ := own_slice hown'
        have HOK7 : Hid (OkT w7 Lw (.slice a7 Lw.length c7)) := ⟨HASC.out, ⟨a7, c7, rfl, rd_own hown'⟩, fun b hb => (hown'.lt b hb).2⟩
        have HF7 : Hid (∀ b, (Value.slice a7 Lw.length c7).ownBlock = some b → w3.heap.size ≤ b) := fun b hb => (hown'.lt b hb).1
        have hsz3 := HB3.out.size
        have hsz7 := HB7.out.size
        have hlen1 : es1.length + 1 ≤ 1099511627776 := by
          have := HOW.out.el.1
          rw [List.length_take] at this
          omega
        clear hown' hg' ht' hB37
        rw [← hGG]
        clear hGG GG
        try simp only [Nat.zero_add]
        go_wp2_with (at_builtin; refine wpList_app1 slTap rfl _ _ rfl rfl HQ7.out.own [.slice a7 Lw.length c7] rfl rfl (by simp) (by simp [Value.oneCell']) hlen1 hsz7 ?_; intro v8 w8 hown8 hg8 ht8)
        have HQ8 := Lib.hid (HQ7.out.app okT HOK7.out (fun b hb => ⟨fun e => by have h1 := (HQ3.out.lt e).2; have h2 := HF7.out b hb; omega, by omega⟩) hown8 hg8 ht8)
        have HB8 := Lib.hid (HB7.out.grown hg8 hsz7 (fun b e => (HQ7.out.lt e).1))
        have HTK : Hid (Ls.take i ++ [Lw] = Ls.take (i + 1)) := by
          show _ = _
          rw [List.take_succ_eq_append_getElem (by omega), ← HLW.out, List.getD_eq_getElem?_getD, List.getElem?_eq_getElem (by omega)]; rfl
        clear hown8 hg8 ht8
        go_wp2
        go_roundw
        case rel => exact ⟨i + 1, tn + Lw.length, by go_num, by go_num, by omega, by omega, Lib.hid (by rw [totL_step (by omega), HLW.out, ← HT.out]), Lib.hid (by rw [all_step (by omega), HALL.out, HLW.out, HOK.out]; rfl), HB8.out, _, by rw [← HTK.out]; exact HQ8.out⟩
        case measure => simp [intOf] <;> omega
      · obtain rfl : i = n := by omega
        have q1 : decide ((i : Int) < (i : Int)) = false := by simp
        have HE4 : Hid (pmOk t Ls = decide (tn ≤ 64)) := by
          show _ = _
          have h1 := HALL.out
          have h2 := HT.out
          rw [List.take_of_length_le (by omega)] at h1 h2
          rw [HE2.out]
          unfold lsOk
          rw [h1, h2]; rfl
        have HE3 := Lib.hid (HB.out.alloc HB.out.size (.cells #[] 32))
        by_cases h64 : tn ≤ 64
        · have q2 : decide ((64 : Int) < (tn : Int)) = false := decide_eq_false (by omega)
          have HO : Hid (pmOk t Ls = true) := by show _ = _; rw [HE4.out, decide_eq_true h64]
          obtain ⟨k, rfl⟩ : ∃ k : Nat, t = (k : Int) := ⟨t.toNat, by omega⟩
          have hi40 : i ≤ 40 := by omega
          have hk3 : 3 ≤ k := by omega
          have hk8 : k ≤ 8 := by omega
          have HQ := Lib.hid HOW.out
          rw [List.take_of_length_le (by omega)] at HQ
          have hel := HQ.out.el.1
          obtain ⟨ao, co, rfl⟩ := own_slice HQ.out.own
          obtain ⟨go, rfl, _, hgo2, _⟩ := own_cell HQ.out.own (by omega)
          have HLD := Lib.hid (load18_any k (k - 1) i go co Ls es1 wr (by omega) hk3 hk8 (by omega) hi40 hl hgo2 (fun j v hj => by
            have := HQ.out.own.cells (g := go) rfl j v hj
            rwa [addr_add_zero] at this) HQ.out.el)
          have hel2 : es1.length = i := by omega
          rw [hel2] at HOW ⊢
          clear HQ hel hel2
          go_wp2_with fail
          refine HLD.out.mono ?_
          have hls : lsOk Ls = true := by rw [← HE2.out, HO.out]
          have hasc := lsOk_asc hls
          have hC := chk (tapes := k) (runs := i) hk3 hk8 (by omega) hi40
          have hgood := hC.good; have hs1 := hC.s1; have hl1 := hC.l1
          have hcnt := load_cnt (e0 := ([] : List (Int × Int))) (tapes := k) (runs := i) (by omega) hl hs1 rfl rfl
          rw [← hcnt] at hgood
          have htot : tot List.length (pmLoad k i Ls) ≤ 64 := by
            unfold pmLoad
            rw [load_tot (sz := List.length) rfl (k - 1) (by rw [hl1]; exact Nat.le_refl _) (by omega)]
            have : ((dumF k i).1.take (k - 1)).sum = Ls.length := by rw [List.take_of_length_le (by rw [hl1]; exact Nat.le_refl _), hs1, hl]
            rw [this, List.take_length]
            have := hasc.2
            rw [List.length_flatten] at this
            exact this
          obtain ⟨R, P, S, hRPS⟩ : ∃ R P S, polyF mrgT [] List.length 12 (pmLoad k i Ls) = (R, P, S) := ⟨_, _, _, rfl⟩
          have hSle : S ≤ 1000000 := by
            have := poly_le (z := ([] : List (Int × Int))) mrgT_len 12 (pmLoad k i Ls) hgood (by unfold pmLoad; rw [load_len]; omega)
            rw [hRPS] at this
            have h2 : 12 * (100 * tot List.length (pmLoad k i Ls)) ≤ 12 * (100 * 64) := Nat.mul_le_mul_left _ (Nat.mul_le_mul_left _ htot)
            exact Nat.le_trans this (Nat.le_trans h2 (by decide))
          have HRUN : Hid (pmRun k Ls = (R, P, S)) := by show _ = _; unfold pmRun; rw [hl]; exact hRPS
          have HG := Lib.hid hgood; have HRP := Lib.hid hRPS; have HTT := Lib.hid htot
          clear hls hasc hC hgood hs1 hl1 hcnt htot hRPS
          rintro e w2 ⟨B2, g2, c2, vs2, es2, hB2, rfl, hts, hb2⟩
          have HRR := Lib.hid (run18_any B2 g2 k c2 12 vs2 es2 (pmLoad k i Ls) R P S w2 hk3 hk8 HG.out (by omega) HRP.out (Nat.le_trans HTT.out (by omega)) hSle hts)
          have HB2 := Lib.hid (HB.out.trans (hb2.mono HB.out.size))
          clear hts hb2 HLD
          go_wp2_with fail
          refine HRR.out.mono ?_
          rintro e w4 ⟨v4, x4, rfl, hR4, hok4, hb4⟩
          obtain ⟨_, ⟨a4, c4, rfl, hrd4⟩, _⟩ := hok4
          have HB4 := Lib.hid (HB2.out.trans (hb4.mono (Nat.le_trans HB.out.size hB2)))
          have HU : Hid (pmOut (k : Int) Ls = x4) := by show _ = _; unfold pmOut; rw [if_pos HO.out, Int.toNat_natCast, HRUN.out, hR4]; rfl
          have HC : Hid (pmMv (k : Int) Ls = S) := by show _ = _; unfold pmMv; rw [if_pos HO.out, Int.toNat_natCast, HRUN.out]
          have HRD := Lib.hid hrd4
          clear hb4 hrd4 HRR
          go_wp2
          go_ret3
          exact ⟨a4, _, c4, by rw [HC.out, HO.out]; rfl, by rw [HU.out]; exact HRD.out, HB4.out⟩
        · have q2 : decide ((64 : Int) < (tn : Int)) = true := decide_eq_true (by omega)
          have HO : Hid (pmOk t Ls = false) := by show _ = _; rw [HE4.out, decide_eq_false h64]
          have HU : Hid (pmOut t Ls = []) := by show _ = _; unfold pmOut; rw [HO.out]; rfl
          have HC : Hid (pmMv t Ls = 0) := by show _ = _; unfold pmMv; rw [HO.out]; rfl
          go_wp2
          go_ret3
          exact ⟨some _, 0, 0, by rw [HC.out, HO.out]; rfl, by rw [HU.out]; exact rd_some _ _ _, HE3.out⟩
end Go.Proofs.Ytcdfinkefahloaa

namespace Go.Proofs.Ytcdfinkefahloaa
open Go.RowKit Go.Sort Ply
set_option linter.unusedVariables false

set_option maxHeartbeats 1000000 in
theorem vAtQ_any (a : Option Addr) (c : Nat) (cs : List Int) (i : Nat) (w : World) (hl : cs.length ≤ 65537) (hi : i ≤ 1000) (h : BytesAt w a cs) :
    Calls Try.prog 9 #[.slice a cs.length c, .int .i64 i] w fun e w' => (∃ r : Int, e = .returned (.int .i64 r) ∧ 0 ≤ r ∧ r ≤ 255) ∧ w = w' := by
  by_cases hlt : i < cs.length
  · obtain ⟨b, off, rfl, hc, hb0, hb1⟩ := h.at hlt
    generalize cs.getD i 0 = x at hc hb0 hb1
    have h3 : decide ((i : Int) < (cs.length : Int)) = true := decide_eq_true (by omega)
    have b1 : (0 : Int) ≤ (i : Int) := by omega
    have b2 : (i : Int) < (cs.length : Int) := by omega
    clear h
    go_enter Try.func9, Try.ntmps9
    go_wp2
    go_ret
    exact ⟨⟨x, rfl, hb0, hb1⟩, rfl⟩
  · have h3 : decide ((i : Int) < (cs.length : Int)) = false := decide_eq_false (by omega)
    have b1 : (0 : Int) ≤ (i : Int) := by omega
    have b2 : (i : Int) * 7 ≤ 7000 := by omega
    have b3 : (0 : Int) ≤ (i : Int) * 7 + (cs.length : Int) := by omega
    have b4 : (i : Int) * 7 + (cs.length : Int) ≤ 100000 := by omega
    have q1 : 0 ≤ ((i : Int) * 7 + (cs.length : Int)).tmod 256 := Int.tmod_nonneg _ b3
    have q2 : ((i : Int) * 7 + (cs.length : Int)).tmod 256 ≤ 255 := by have := Int.tmod_lt_of_pos ((i : Int) * 7 + (cs.length : Int)) (b := 256) (by omega); omega
    have Q := Lib.hid (And.intro q1 q2)
    clear h q1 q2
    go_enter Try.func9, Try.ntmps9
    go_wp2
    go_ret
    exact ⟨⟨_, rfl, Q.out.1, Q.out.2⟩, rfl⟩

theorem pmOk_parts {t : Int} {Ls : List (List (Int × Int))} (h : pmOk t Ls = true) : 3 ≤ t.toNat ∧ t.toNat ≤ 8 ∧ t = (t.toNat : Int) ∧ 1 ≤ Ls.length ∧ Ls.length ≤ 40 ∧ lsOk Ls = true := by
  unfold pmOk at h
  simp only [Bool.and_eq_true] at h
  have h1 := inB_iff.1 h.1
  have h2 := inB_iff.1 h.2.1
  exact ⟨by omega, by omega, by omega, by omega, by omega, h.2.2⟩
/-- The program's PolyphaseMerge, whatever the runs are. -/
theorem implPoly_any (a : Option Addr) (n c : Nat) (t : Int) (Ls : List (List (Int × Int))) (hs : List Value) (w : World) (hn : n ≤ 1000) (h : LsAt w a n c Ls) (hvals : ValsAt w a hs) (hhds : Hds w hs Ls) (hblk : ∀ v ∈ hs, ∀ b, v.ownBlock = some b → b < w.heap.size) (hLb : ∀ i, (Ls.getD i []).length ≤ 1000000) :
    Calls Try.prog 6 #[.slice a n c, .int .i64 t] w (Rd3 w (pmOut t Ls) (pmMv t Ls : Nat) (pmOk t Ls)) := by
  cases hok : pmOk t Ls with
  | false =>
    refine (polyMerge_no a n c t Ls w hok hn h hLb).mono ?_
    rintro e w' ⟨rfl, hb⟩
    have e1 : pmOut t Ls = [] := by unfold pmOut; rw [hok]; rfl
    have e2 : pmMv t Ls = 0 := by unfold pmMv; rw [hok]; rfl
    rw [e1, e2]
    exact ⟨none, 0, 0, rfl, ⟨.inl rfl, rfl, fun _ => rfl, Nat.le_refl _⟩, hb⟩
  | true =>
    obtain ⟨h1, h2, h3, h4, h5, h6⟩ := pmOk_parts hok
    have hl := h.len
    have ha : ∃ ra ro, a = some ⟨ra, ro, none⟩ := by
      rcases hvals with e | ⟨b, off, e, _⟩
      · have := hhds.1; rw [e] at this; simp at this; omega
      · exact ⟨b, off, e⟩
    obtain ⟨ra, ro, rfl⟩ := ha
    have hp := polyMerge_yes t.toNat (t.toNat - 1) n ra ro c Ls w (by omega) h1 h2 (by omega) (by omega) h6 hs hl h.cap hvals hhds hblk
    rw [← h3] at hp
    refine hp.mono ?_
    rintro e w' ⟨X, g, c', hX, rfl, ho, hb⟩
    have e1 : pmOut t Ls = X := by unfold pmOut; rw [if_pos hok, hX]; rfl
    have e2 : pmMv t Ls = (pmRun t.toNat Ls).2.2 := by unfold pmMv; rw [if_pos hok]
    rw [e1, e2]
    exact ⟨_, _, _, rfl, rd_own ho, hb⟩
/-- Its answer is ascending, and holds all records. -/
theorem pmOut_ok (t : Int) (Ls : List (List (Int × Int))) : Mg.Asc Mg.ltF (pmOut t Ls) ∧ (pmOut t Ls).length ≤ 64 ∧ (pmOk t Ls = true → (pmOut t Ls).length = Ls.flatten.length) := by
  cases hok : pmOk t Ls with
  | false =>
    have e1 : pmOut t Ls = [] := by unfold pmOut; rw [hok]; rfl
    rw [e1]
    exact ⟨Mg.asc_nil, by simp, fun h => nomatch h⟩
  | true =>
    obtain ⟨h1, h2, h3, h4, h5, h6⟩ := pmOk_parts hok
    obtain ⟨X, hX⟩ := pm_one h1 h2 h4 h5 rfl
    have e1 : pmOut t Ls = X := by unfold pmOut; rw [if_pos hok, hX]; rfl
    have e2 := pm_len h1 h2 h4 h5 rfl hX
    have e3 := (lsOk_asc h6).2
    rw [e1]
    exact ⟨pm_asc h6 hX, by omega, fun _ => e2⟩
/-- Runs of one record. -/
theorem ones_ok {k n : Nat} {Ls : List (List (Int × Int))} (h3 : 3 ≤ k) (h8 : k ≤ 8) (hn1 : 1 ≤ n) (hn40 : n ≤ 39) (h1 : Ls.map List.length = List.replicate n 1) (h2 : ∀ L ∈ Ls, ascOk L = true) :
    pmOk (k : Int) Ls = true ∧ (pmOut (k : Int) Ls).length = n ∧ pmMv (k : Int) Ls = (pvRun k n).2.2 ∧ (pvRun k n).2.1 = levF k n := by
  have hl : Ls.length = n := by have := congrArg List.length h1; simpa using this
  have ht : Ls.flatten.length = n := by rw [List.length_flatten, h1]; simp
  have hok : pmOk (k : Int) Ls = true := by
    unfold pmOk lsOk totL inB
    simp only [Bool.and_eq_true, decide_eq_true_eq, List.all_eq_true]
    exact ⟨⟨by omega, by omega⟩, ⟨by omega, by omega⟩, h2, by omega⟩
  obtain ⟨h4, h5⟩ := pm_ones h3 h8 hn1 (by omega) h1
  refine ⟨hok, by rw [(pmOut_ok _ _).2.2 hok, ht], ?_, h5⟩
  unfold pmMv
  rw [if_pos hok]
  exact h4

end Go.Proofs.Ytcdfinkefahloaa

namespace Go.Proofs.Ytcdfinkefahloaa
open Go.RowKit Go.Sort Ply
set_option linter.unusedVariables false

theorem asc_pair {L : List (Int × Int)} (h : Mg.Asc Mg.ltF L) {k : Nat} (hk : k + 1 < L.length) : (L.getD k (0, 0)).1 ≤ (L.getD (k + 1) (0, 0)).1 := by
  have := List.pairwise_iff_getElem.1 h k (k + 1) (by omega) hk (by omega)
  rw [List.getD_eq_getElem?_getD, List.getElem?_eq_getElem (by omega), List.getD_eq_getElem?_getD, List.getElem?_eq_getElem hk]
  simpa [Mg.ltF, Mg.ltK] using this
theorem ascOk_one {u : Int} {j : Nat} (h0 : 0 ≤ u) (h1 : u ≤ 4) (hj : j ≤ 39) : ascOk [(u, (j : Int))] = true := by
  unfold ascOk okRecs okRec okKey inB upB
  simp
  omega

set_option maxRecDepth 100000 in
set_option maxHeartbeats 8000000 in
theorem lawPolyphase_any (ac : Option Addr) (cc : Nat) (cs : List Int) (w : World) (hbig : cs.length ≤ 9223372036854775807) (h : BytesAt w ac cs) :
    Calls Try.prog 3 #[.slice ac cs.length cc] w fun e w' => e = .returned (.bool true) ∧ Below w.heap.size w w' := by
  have HV := Lib.hid (vBigG_any ac cs.length cc w hbig)
  by_cases hl : 65536 < cs.length
  · rw [decide_eq_true hl] at HV
    clear h
    go_enter Try.func3, Try.ntmps3
    go_wp2_with (go_at_call 4; refine HV.out.mono ?_; rintro e w' ⟨rfl, rfl⟩)
    go_ret
    exact ⟨rfl, Below.refl _ _⟩
  rw [decide_eq_false hl] at HV
  have HD := Lib.hid (drawPolyMerge_any ac cc cs w (by omega) h)
  have hcl : cs.length ≤ 65537 := by omega
  have HBY := Lib.hid h
  clear h
  unfold PmDraw at HD
  go_enter Try.func3, Try.ntmps3
  go_wp2_with fail
  refine HV.out.mono ?_
  rintro e w1 ⟨rfl, rfl⟩
  go_wp2_with fail
  refine HD.out.mono ?_
  rintro e w1 ⟨a, n, c, t, Ls, hs, rfl, ht0, ht1, hls, hva, hhd, hbk, hn60, hLb, hb⟩
  have hLb2 : ∀ i, (Ls.getD i []).length ≤ 1000000 := fun i => Nat.le_trans (hLb i) (by omega)
  have HIM := Lib.hid (implPoly_any a n c t Ls hs w1 (by omega) hls hva hhd hbk hLb2)
  have HLS := Lib.hid hls; have HB1 := Lib.hid hb; have HLB := Lib.hid hLb2
  have HBY1 := Lib.hid (HBY.out.below (Nat.le_refl _) hb)
  clear hls hva hhd hbk hLb hLb2 hb HD HV HBY
  go_wp2_with fail
  refine HIM.out.mono ?_
  rintro e w2 ⟨a2, n2, c2, rfl, hr, hb⟩
  have HR2 := Lib.hid hr; have HB2 := Lib.hid (below_tr HB1.out hb HB1.out.size); have HLS2 := Lib.hid (HLS.out.same hb); have HBY2 := Lib.hid (HBY1.out.below (Nat.le_refl _) hb)
  have HSP := Lib.hid (specPolyMerge_any a n c t Ls w2 (by omega) HLS2.out HLB.out)
  clear hr hb HIM HLS HB1 HBY1 HLB HLS2
  go_wp2_with fail
  refine HSP.out.mono ?_
  rintro e w3 ⟨a3, n3, c3, rfl, hr, hb⟩
  have HR3 := Lib.hid hr; have HB3 := Lib.hid (below_tr HB2.out hb HB2.out.size); have HQ3 := Lib.hid (HR2.out.same hb); have HBY3 := Lib.hid (HBY2.out.below (Nat.le_refl _) hb)
  clear hr hb HSP HR2 HB2 HBY2
  have HOK := pmOut_ok t Ls
  have HAS := Lib.hid HOK.1
  have hn2 : n2 ≤ 64 := by rw [← HQ3.out.len]; exact HOK.2.1
  have hn3 : n3 ≤ 64 := by rw [← HR3.out.len]; exact HOK.2.1
  clear HOK
  generalize pmOk t Ls = ok
  generalize ((pmMv t Ls : Nat) : Int) = mv
  generalize pmOut t Ls = OL at HAS HR3 HQ3
  have q1 : (ok != ok) = false := by simp
  have q2 : (mv != mv) = false := by simp
  have q3 : decide (OL = OL) = true := by simp
  have HVR := Lib.hid (vRecords_any a2 a3 n2 n3 c2 c3 OL OL w3 (by omega) (by omega) HQ3.out HR3.out)
  rw [q3] at HVR
  go_wp2_with fail
  refine HVR.out.mono ?_
  rintro e w4 ⟨rfl, hb⟩
  have HB4 := Lib.hid (below_tr HB3.out hb HB3.out.size); have HQ4 := Lib.hid (HQ3.out.same hb); have HBY4 := Lib.hid (HBY3.out.below (Nat.le_refl _) hb)
  clear hb q1 q2 q3 HVR HQ3 HR3 HB3 HBY3
  go_wp2
  go_loopw [11] (fun iv wr => ∃ (k : Nat), iv = .int .i64 ((k : Int) + 1) ∧ k ≤ n2 ∧ Below w4.heap.size w4 wr) (fun iv _ => 66 - (intOf iv).toNat)
  case atStart => exact ⟨0, rfl, by omega, Below.refl _ _⟩
  case round =>
    obtain ⟨k, rfl, hk, hb⟩ := hrel
    have HBK := Lib.hid hb
    clear hb
    by_cases hlk : k + 1 < n2
    · have q2 : decide ((k : Int) + 1 < (n2 : Int)) = true := decide_eq_true (by omega)
      have hpq := asc_pair HAS.out (k := k) (by rw [HQ4.out.len]; exact hlk)
      obtain ⟨x, o, rfl, c1, c1'⟩ := (HQ4.out.same HBK.out).at (k := k) (by omega)
      obtain ⟨y, p, e, d1, d1'⟩ := (HQ4.out.same HBK.out).at (k := k + 1) hlk
      injection e with e
      injection e with e1 e2
      subst e1 e2
      obtain ⟨⟨X1, X2⟩, hX⟩ : ∃ X, OL.getD k (0, 0) = X := ⟨_, rfl⟩
      obtain ⟨⟨Y1, Y2⟩, hY⟩ : ∃ Y, OL.getD (k + 1) (0, 0) = Y := ⟨_, rfl⟩
      rw [hX] at c1 c1' hpq
      rw [hY] at d1 d1' hpq
      have wk : IntKind.i64.wrap ((k : Int) + 1 - 1) = (k : Int) := by rw [show (k : Int) + 1 - 1 = (k : Int) by omega]; exact IntWalk.i64_in _ (by omega)
      have wk2 : IntKind.i64.wrap (k : Int) = (k : Int) := IntWalk.i64_in _ (by omega)
      have j1 : (0 : Int) ≤ (k : Int) := by omega
      have j2 : (k : Int) < (n2 : Int) := by omega
      have j3 : (0 : Int) ≤ (k : Int) + 1 := by omega
      have j4 : (k : Int) + 1 < (n2 : Int) := by omega
      have j5 : ((k : Int) + 1).toNat = k + 1 := by omega
      have p1 : decide (Y1 < X1) = false := decide_eq_false (by simp only at hpq; omega)
      have HLK := Lib.hid hlk
      clear hpq hX hY hlk
      go_wp2_with fail
      go_quiet (fail)
      have HBJ := Lib.hid (below_tr HBK.out (below_drewN (Below.refl _ _) nq) HBK.out.size)
      go_wp2
      go_roundw
      case rel => exact ⟨k + 1, by go_num, by have := HLK.out; omega, HBJ.out⟩
      case measure => have := HLK.out; simp [intOf] <;> omega
    have q2 : decide ((k : Int) + 1 < (n2 : Int)) = false := decide_eq_false (by omega)
    have HB5 := Lib.hid (below_tr HB4.out HBK.out HB4.out.size)
    have HBY5 := Lib.hid (HBY4.out.below (Nat.le_refl _) HBK.out)
    clear HBK HB4 HBY4 HQ4 HAS
    have HAT : Hid (∀ (i : Nat) W, i ≤ 1000 → Below wr.heap.size wr W → Calls Try.prog 9 #[.slice ac cs.length cc, .int .i64 i] W fun e w' => (∃ r : Int, e = .returned (.int .i64 r) ∧ 0 ≤ r ∧ r ≤ 255) ∧ W = w') := fun i W hi hW => vAtQ_any ac cc cs i W hcl hi (HBY5.out.below (Nat.le_refl _) hW)
    have hsw := HB5.out.size
    rename World => w5
    have HA0 := Lib.hid (HAT.out 0 w5 (by omega) (Below.refl _ _))
    go_wp2_with fail
    refine HA0.out.mono ?_
    rintro e w6 ⟨⟨r, rfl, hr0, hr1⟩, rfl⟩
    obtain ⟨v, hv⟩ : ∃ v, r.tmod 6 = v := ⟨_, rfl⟩
    have hv0 : 0 ≤ v := by rw [← hv]; exact Int.tmod_nonneg _ hr0
    have hv1 : v < 6 := by rw [← hv]; exact Int.tmod_lt_of_pos _ (by omega)
    obtain ⟨kk, hkk⟩ : ∃ kk : Nat, 3 + v = (kk : Int) := ⟨(3 + v).toNat, by omega⟩
    have hk3 : 3 ≤ kk := by omega
    have hk8 : kk ≤ 8 := by omega
    have HL0 := Lib.hid (loH_nil w5)
    have HB0 := Lib.hid (belowNew w5 (.cells #[] 27))
    clear HA0 hr1
    go_wp2
    go_loopw [12, 13] (fun o iv wx => ∃ (j : Nat) (hs : List Value) (Ls : List (List (Int × Int))), iv = .int .i64 j ∧ j ≤ 39 ∧ LoH wx w5.heap.size o j hs Ls ∧ Hid (Ls.map List.length = List.replicate j 1) ∧ Hid (∀ L ∈ Ls, ascOk L = true) ∧ Hid (SpL hs) ∧ Below w5.heap.size w5 wx) (fun _ iv _ => 41 - (intOf iv).toNat)
    case atStart => exact ⟨0, [], [], rfl, by omega, HL0.out, Lib.hid rfl, Lib.hid (fun L hL => (by simp at hL)), Lib.hid (fun v hv => (by simp at hv)), HB0.out⟩
    case round =>
      obtain ⟨j, hs, Ls, rfl, hj, hlo, HLN, HOA, HSP, hb⟩ := hrel
      rename World => wx
      have HLO := Lib.hid hlo; have HBX := Lib.hid hb
      obtain ⟨oa, oc, rfl⟩ := own_slice hlo.own
      clear hlo hb HL0 HB0
      have HA1 := Lib.hid (HAT.out 1 wx (by omega) HBX.out)
      go_wp2_with fail
      refine HA1.out.mono ?_
      rintro e w7 ⟨⟨z, rfl, hz0, hz1⟩, rfl⟩
      obtain ⟨q, hq⟩ : ∃ q, z.tmod 39 = q := ⟨_, rfl⟩
      have hq0 : 0 ≤ q := by rw [← hq]; exact Int.tmod_nonneg _ hz0
      have hq1 : q < 39 := by rw [← hq]; exact Int.tmod_lt_of_pos _ (by omega)
      clear HA1
      by_cases hjq : (j : Int) ≤ q
      · have p1 : decide ((j : Int) ≤ q) = true := decide_eq_true hjq
        have HA2 := Lib.hid (HAT.out j wx (by omega) HBX.out)
        go_wp2_with fail
        refine HA2.out.mono ?_
        rintro e w6 ⟨⟨y, rfl, hy0, hy1⟩, rfl⟩
        obtain ⟨u, hu⟩ : ∃ u, y.tmod 5 = u := ⟨_, rfl⟩
        have hu0 : 0 ≤ u := by rw [← hu]; exact Int.tmod_nonneg _ hy0
        have hu1 : u < 5 := by rw [← hu]; exact Int.tmod_lt_of_pos _ (by omega)
        have hbn := belowNew wx (.cells #[.int .i64 u, .int .i64 j] 32)
        have HB7 := Lib.hid (HBX.out.trans (hbn.mono HBX.out.size))
        have HL7 := Lib.hid (HLO.out.same hbn)
        have hobs : ∀ b, (Value.slice oa j oc).ownBlock = some b → b < wx.heap.size := fun b e => (HLO.out.own.lt b e).2
        have hoe := own_lit (w := wx) (e := 32) (size := 2) #[.int .i64 u, .int .i64 j] 1 (by omega) rfl
        have HE : Hid (Rd (wx.alloc (.cells #[.int .i64 u, .int .i64 j] 32)) (some ⟨wx.heap.size, 0, none⟩) 1 1 [(u, (j : Int))]) := rd_own (B := wx.heap.size) hoe
        have hB6 := HBX.out.size
        have hn1 : j + 1 ≤ 1099511627776 := by omega
        have hsza : (wx.alloc (.cells #[.int .i64 u, .int .i64 j] 32)).heap.size = wx.heap.size + 1 := by simp
        have HA1 := Lib.hid (ascOk_one hu0 (by omega) (show j ≤ 39 by omega))
        clear hbn hoe HA2 HBX HLO
        go_wp2_with (at_builtin; refine wpList_app1 (v := .slice oa j oc) slLs rfl _ _ rfl rfl HL7.out.own [.slice (some ⟨wx.heap.size, 0, none⟩) 1 1] rfl rfl (by simp) (by simp [Value.oneCell']) hn1 (by omega) ?_; intro v' w8 hown' hg' ht'; generalize hGG : wpList _ _ _ _ _ _ = GG)
        have HL8 := Lib.hid (HL7.out.app HE.out (fun b off e => by injection e with e; injection e with e1 e2; exact ⟨by omega, fun e3 => by have := hobs b e3; omega, by omega⟩) hown' hg' (fun b e => ht'.elim (fun h => .inl (h ▸ e)) (fun h => .inr (by rw [h] at e; injection e with e; omega))))
        have HB8 := Lib.hid (HB7.out.grown hg' HB7.out.size (fun k hk => (HL7.out.own.lt k hk).1))
        have HLN8 : Hid ((Ls ++ [[(u, (j : Int))]]).map List.length = List.replicate (j + 1) 1) := by show _ = _; rw [List.map_append, HLN.out, List.replicate_succ']; rfl
        have HSP8 := Lib.hid (HSP.out.snoc (spN_some wx.heap.size 0) 1 1)
        have HOA8 : Hid (∀ L ∈ Ls ++ [[(u, (j : Int))]], ascOk L = true) := fun L hL => (List.mem_append.1 hL).elim (HOA.out L) (fun h => by rw [List.mem_singleton.1 h]; exact HA1.out)
        obtain ⟨a8, c8, rfl⟩ := own_slice hown'
        clear hown' hg' ht' HL7 HB7 HE
        subst hGG
        go_wp2
        go_roundw
        case rel => exact ⟨j + 1, _, _, by go_num, by omega, HL8.out, HLN8, HOA8, HSP8, HB8.out⟩
        case measure => simp [intOf] <;> omega
      have p1 : decide ((j : Int) ≤ q) = false := decide_eq_false hjq
      have hj1 : 1 ≤ j := by omega
      obtain ⟨g1, g2, g3, g4⟩ := ones_ok hk3 hk8 hj1 hj HLN.out HOA.out
      have hlb : ∀ i, (Ls.getD i []).length ≤ 1000000 := fun i => by
        rw [List.getD_eq_getElem?_getD]
        cases hi : Ls[i]? with
        | none => simp
        | some L =>
          have h2 : L.length ∈ Ls.map List.length := List.mem_map.2 ⟨L, List.mem_of_getElem? hi, rfl⟩
          rw [HLN.out] at h2
          have := (List.mem_replicate.1 h2).2
          simp; omega
      have HIM := Lib.hid (implPoly_any oa j oc (kk : Int) Ls hs wx (by omega) HLO.out.ls (vals_own HLO.out.own) HLO.out.hds (HLO.out.blk HSP.out) hlb)
      have HPV := Lib.hid (fun W => polyVolume_any kk (kk - 1) j W (by omega) hk3 hk8 hj1 (by omega))
      have HPL := Lib.hid (fun W => polyLevel_any kk j W hk3 hk8 hj1 (by omega))
      rw [g1, g3] at HIM
      rw [g4] at HPV
      have HGL := Lib.hid g2
      have HBF := Lib.hid (below_tr HB5.out HBX.out HB5.out.size)
      generalize (pvRun kk j).2.2 = MV at HIM HPV
      generalize levF kk j = LV at HPV HPL
      clear g1 g2 g3 g4 hlb HLN HOA HLO HBX HB5 hjq
      go_wp2_with fail
      refine HIM.out.mono ?_
      rintro e wa ⟨ta, tn, tc, rfl, hr, hb⟩
      have htn : tn = j := by rw [← hr.len]; exact HGL.out
      subst htn
      have HB9 := Lib.hid (below_tr HBF.out hb HBF.out.size)
      clear hr hb HIM HBF HGL
      go_wp2_with fail
      refine (HPV.out _).mono ?_
      rintro e wb ⟨rfl, hb⟩
      have HB10 := Lib.hid (below_tr HB9.out hb HB9.out.size)
      clear hb HB9
      go_wp2_with fail
      refine (HPL.out _).mono ?_
      rintro e wc ⟨rfl, hb⟩
      have HB11 := Lib.hid (below_tr HB10.out hb HB10.out.size)
      clear hb HB10 HPV HPL
      have r1 : ((MV : Int) == (MV : Int)) = true := by simp
      have r2 : ((LV : Int) == (LV : Int)) = true := by simp
      have r3 : ((tn : Int) == (tn : Int)) = true := by simp
      go_wp2
      go_ret
      exact ⟨rfl, HB11.out⟩

end Go.Proofs.Ytcdfinkefahloaa

