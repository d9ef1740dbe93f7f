/- Several texts in one: lemmas and walks of the functions that the law reaches. -/
import Derived.Test.YtcdfinkefahloaaY14
import Derived.Test.YtcdfinkefahloaaY19

namespace Go.Proofs.Ytcdfinkefahloaa
open Go.RowKit Ply
set_option linter.unusedVariables false

set_option maxRecDepth 100000 in
set_option maxHeartbeats 8000000 in
theorem polyI_any {α : Type} {Ok : World → α → Value → Prop} (E : ElOk Ok) (hSh : ∀ {w : World} {x : α} {v : Value}, Ok w x v → ∃ (n : Int), v = .int .i64 n) {mrg : List α → α} {z : α} {sz : α → Nat} {Pre : List α → Prop} {I : List (List α) → Prop}
    (hI : ∀ e Q, I Q → e < Q.length → (∀ j, j < Q.length → j ≠ e → Q.getD j [] ≠ []) → I (stepF mrg z e Q) ∧ Pre (headsTo z e Q Q.length))
    (B g k c mb F0 s0 : Nat) (vs0 : List Value) (es0 : List (List Value)) (Q0 R : List (List α)) (P S : Nat) (w : World) (hF : Fv Ok mrg sz Pre 33 mb) (hk3 : 3 ≤ k) (hk8 : k ≤ 8) (hgood : good F0 (cnt Q0) = true) (hF0 : F0 ≤ 100) (hpoly : polyF mrg z sz F0 Q0 = (R, P, S)) (hIQ : I Q0) (hS : s0 + S ≤ 1000000)
    (hT : TM Ok w B 49 3 g k c mb s0 vs0 es0 Q0) (hmB : B ≤ mb) :
    Calls Try.prog 32 #[.slice (some ⟨g, 0, none⟩) k c, .func (.func 33) #[] #[.pointer (some ⟨mb, 0, none⟩)]] w (PolyE Ok w B mb P (s0 + S) R) := by
  have hcall : ∀ (r n d : Nat) (W : World), (callFunc 33 #[.slice (some ⟨r, 0, none⟩) n d, .pointer (some ⟨mb, 0, none⟩)]).run Try.prog W = .ok (.enter 33 #[.slice (some ⟨r, 0, none⟩) n d, .pointer (some ⟨mb, 0, none⟩)]) W := fun r n d W => by kernel_rfl
  have hgB := (hT.ts.row.lt g rfl)
  have hBw : B ≤ w.heap.size := by omega
  have hgB2 := hgB.1
  have HT0 := Lib.hid hT; have HG0 := Lib.hid hgood; have HP0 := Lib.hid hpoly; have HI0 := Lib.hid hIQ
  have HC := Lib.hid hcall
  clear hT hgood hpoly hIQ hcall hgB
  go_enter Try.func32, Try.ntmps32
  go_wp2
  go_loopg [6] F0 (fun fu ph wr => ∃ (vs : List Value) (es : List (List Value)) (Q : List (List α)) (p s P' S' : Nat), ph = .int .i64 p ∧ p + fu ≤ F0 ∧ p + P' = P ∧ s + S' = s0 + S ∧ good fu (cnt Q) = true ∧ polyF mrg z sz fu Q = (R, P', S') ∧ I Q ∧ TM Ok wr B 49 3 g k c mb s vs es Q ∧ Below B w wr ∧ w.heap.size ≤ wr.heap.size)
  case atStart => exact ⟨vs0, es0, Q0, 0, s0, P, S, rfl, by omega, by omega, rfl, HG0.out, HP0.out, HI0.out, HT0.out, Below.refl B _, Nat.le_refl _⟩
  case round =>
    obtain ⟨vs, es, Q, p, s, P', S', rfl, hpf, hpP, hsS, hgd, hpl, hIq, hT, hb, hwr⟩ := hrel
    have HT := Lib.hid hT; have HB := Lib.hid hb; have HGD := Lib.hid hgd; have HPL := Lib.hid hpl; have HIQ := Lib.hid hIq
    have HLQ := Lib.hid hT.ts.lq
    have hsum := good_sum hgd
    have HCL : Hid ((cnt Q).length = k) := by show _ = _; rw [cnt_len]; exact hT.ts.lq
    clear hT hb hgd hpl hIq HT0 HG0 HP0 HI0
    rename World => w1
    have E0 := Lib.hid (own_lit (w := w1) (e := 3) (size := 1) #[] 0 (by omega) rfl)
    have HBA := Lib.hid (show Below w1.heap.size w1 (w1.alloc (.cells #[] 3)) from (Below.refl _ _).alloc (Nat.le_refl _) _)
    have HVC : Hid (∀ i, i < k → ∀ W, Below w1.heap.size w1 W → ∃ a d, W.cell? ⟨g, i, none⟩ = some (.slice a ((cnt Q).getD i 0) d)) := fun i hi W hW => by
      have hT := HT.out.ts.below E hW
      obtain ⟨a, d, hv⟩ := (hT.q i hi).shape
      refine ⟨a, d, ?_⟩
      rw [hT.cellAt hi, hv, cnt_get, (hT.el i hi).1]
    go_wp2
    go_loopw [7, 19] (fun u iv wx => ∃ (i : Nat), iv = .int .i64 i ∧ i ≤ k ∧ wx.ownsRow w1.heap.size 3 1 u i ((iN ((cnt Q).take i)).map (Value.int .i64)) ∧ (∃ b, u.ownBlock = some b) ∧ Below w1.heap.size w1 wx) (fun _ iv _ => k - (intOf iv).toNat)
    case atStart => exact ⟨0, rfl, by omega, E0.out, ⟨_, rfl⟩, HBA.out⟩
    case round =>
      obtain ⟨i, rfl, hi, ho, hob, hb⟩ := hrel
      have HO := Lib.hid ho; have HBX := Lib.hid hb; have HOB := Lib.hid hob
      clear ho hb hob E0 HBA
      have hwx := HBX.out.size
      by_cases hik : i < k
      · have h3 : decide ((i : Int) < (k : Int)) = true := decide_eq_true (by omega)
        obtain ⟨av, dv, cv⟩ := HVC.out i hik _ HBX.out
        have HTS : Hid ((cnt Q).take (i + 1) = (cnt Q).take i ++ [(cnt Q).getD i 0]) := by
          show _ = _
          have : i < (cnt Q).length := by rw [HCL.out]; exact hik
          rw [List.take_succ_eq_append_getElem this, List.getD_eq_getElem?_getD, List.getElem?_eq_getElem this]; rfl
        have hx1 := getD_sum (cnt Q) i
        generalize (cnt Q).getD i 0 = x at cv HTS hx1
        have b0 : (0 : Int) ≤ (i : Int) := by omega
        have b1 : (i : Int) < (k : Int) := by omega
        have hn40 : i + 1 ≤ 1099511627776 := by omega
        go_wp2_with (at_builtin; refine wpList_app1 slInt rfl _ _ rfl rfl HO.out [.int .i64 (x : Int)] rfl rfl (by simp) (by simp [Value.oneCell']) hn40 hwx ?_; intro v' w7 hown' hg' ht')
        have HO7 := Lib.hid hown'
        have HB7 := Lib.hid (HBX.out.grown hg' hwx (fun b e => (HO.out.lt b e).1))
        have HOB7 : Hid (∃ b, v'.ownBlock = some b) := by
          rcases ht' with h | h
          · exact HOB.out.imp fun b hb => h.trans hb
          · exact ⟨_, h⟩
        clear hown' hg' ht'
        go_roundw
        case rel => exact ⟨i + 1, by go_num, by omega, by rw [HTS.out, iN_snoc, List.map_append]; exact HO7.out, HOB7.out, HB7.out⟩
        case measure => simp [intOf] <;> omega
      obtain rfl : i = k := by omega
      have h3 : decide ((i : Int) < (i : Int)) = false := by simp
      have HTF : Hid ((cnt Q).take i = cnt Q) := List.take_of_length_le (by rw [HCL.out]; exact Nat.le_refl _)
      rw [HTF.out] at HO
      obtain ⟨au, cu, rfl⟩ := own_slice HO.out
      have HIU := Lib.hid (ints_of_own HO.out)
      have HT2 := Lib.hid (HT.out.below E HBX.out)
      have HB2 := Lib.hid (HB.out.trans (HBX.out.mono (Nat.le_trans hBw hwr)))
      have hw2 : w.heap.size ≤ wr.heap.size := Nat.le_trans hwr hwx
      have HSM := Lib.hid (sumN_any au cu i (cnt Q) wr HCL.out (by omega) (by omega) HIU.out)
      have HPH := Lib.hid (fun W hb => phase_any au cu i (cnt Q) W HCL.out (by omega) (fun x hx => Nat.le_trans (mem_sum hx) (by omega)) (HIU.out.below (Nat.le_refl _) (B := wr.heap.size) hb))
      clear HVC HBX HOB HT HB hwx HO
      go_wp2_with fail
      refine HSM.out.mono ?_
      rintro e w3 ⟨rfl, hb3⟩
      have HPH3 := Lib.hid (HPH.out w3 hb3)
      have HT3 := Lib.hid (HT2.out.below E hb3)
      have HB3 := Lib.hid (HB2.out.trans (hb3.mono (Nat.le_trans hBw hw2)))
      have hw3 : w.heap.size ≤ w3.heap.size := Nat.le_trans hw2 hb3.size
      clear hb3 HSM HPH HT2 HB2 hw2
      obtain ⟨CS, hCS⟩ : ∃ CS, (cnt Q).sum = CS := ⟨_, rfl⟩
      have HCS := Lib.hid hCS
      rw [hCS] at hsum ⊢
      clear hCS
      by_cases hone : CS = 1
      · subst hone
        have hfl : es.flatten.length = 1 := by
          have h1 := HCS.out
          have : ∀ (l : List (List Value)) (q : List (List α)), l.length = q.length → (∀ j, j < l.length → (l.getD j []).length = (q.getD j []).length) → l.flatten.length = (cnt q).sum := by
            intro l
            induction l with
            | nil => intro q hl _; cases q with | nil => rfl | cons _ _ => simp at hl
            | cons x t ih =>
              intro q hl hj
              cases q with
              | nil => simp at hl
              | cons y r =>
                have e0 := hj 0 (by simp)
                simp at e0
                have := ih r (by simpa using hl) (fun j hj2 => by have := hj (j + 1) (by simp; omega); simpa using this)
                rw [List.flatten_cons, List.length_append, this, e0]
                simp [cnt]
          rw [this es Q (by rw [HT3.out.ts.le, HT3.out.ts.lq]) (fun j hj => by rw [HT3.out.ts.le] at hj; exact (HT3.out.ts.el j hj).1.symm), h1]
        have hpe := HPL.out
        rw [poly_end HCS.out] at hpe
        injection hpe with e1 e2
        injection e2 with e2 e3
        have HR1 := Lib.hid e1; have HP1 := Lib.hid e2; have HS1 := Lib.hid e3
        have HCT := Lib.hid (concatI_any E B g i c vs es Q w3 (by omega) (by omega) HT3.out.ts)
        obtain ⟨xv, hxv⟩ := List.length_eq_one_iff.1 hfl
        rw [hxv] at HCT
        have HXV := Lib.hid hxv
        clear hfl e1 e2 e3 hxv HPH3
        go_wp2_with fail
        refine HCT.out.mono ?_
        rintro e w4 ⟨v4, rfl, ho4, hb4⟩
        have ho4 : w4.ownsRow w3.heap.size 3 1 v4 1 [xv] := ho4
        obtain ⟨a4, c4, rfl⟩ := own_slice ho4
        obtain ⟨g4, rfl, _, _, hc4⟩ := own_cell ho4 (by omega)
        have c4v := hc4 0 (by omega)
        have c4v : w4.cell? ⟨g4, 0, none⟩ = some xv := c4v
        have HT4 := Lib.hid (HT3.out.below E hb4)
        have HB4 := Lib.hid (HB3.out.trans (hb4.mono (Nat.le_trans hBw hw3)))
        clear ho4 hc4 hb4 HCT
        have HEND : Hid (PolyE Ok w B mb P (s0 + S) R (.returned (.tuple #[xv, .int .i64 (p : Nat)])) w4) := by
          have hx : ∃ j, j < i ∧ es.getD j [] = [xv] ∧ ∃ y, Q.getD j [] = [y] ∧ Q.flatten = [y] := by
            have key : ∀ (l : List (List Value)) (q : List (List α)), l.length = q.length → (∀ j, j < l.length → (l.getD j []).length = (q.getD j []).length) → l.flatten = [xv] → ∃ j, j < l.length ∧ l.getD j [] = [xv] ∧ ∃ y, q.getD j [] = [y] ∧ q.flatten = [y] := by
              intro l
              induction l with
              | nil => intro q _ _ h; simp at h
              | cons x t ih =>
                intro q hl hj hf
                cases q with
                | nil => simp at hl
                | cons y r =>
                  have e0 := hj 0 (by simp)
                  simp at e0
                  rw [List.flatten_cons] at hf
                  cases x with
                  | nil =>
                    obtain ⟨j, h1, h2, z2, h3, h4⟩ := ih r (by simpa using hl) (fun j hj2 => by have := hj (j + 1) (by simp; omega); simpa using this) (by simpa using hf)
                    have hy : y = [] := List.length_eq_zero_iff.1 (by rw [← e0]; rfl)
                    exact ⟨j + 1, by simp; omega, by simpa using h2, z2, by simpa using h3, by rw [List.flatten_cons, hy]; simpa using h4⟩
                  | cons x0 xt =>
                    simp at hf
                    obtain ⟨hx0, hxt, ht⟩ := hf
                    subst hx0; subst hxt
                    obtain ⟨y0, rfl⟩ := List.length_eq_one_iff.1 e0.symm
                    refine ⟨0, by simp, rfl, y0, rfl, ?_⟩
                    rw [List.flatten_cons]
                    have hr : ∀ (t : List (List Value)) (r : List (List α)), t.length = r.length → (∀ j, j < t.length → (t.getD j []).length = (r.getD j []).length) → (∀ l ∈ t, l = []) → r.flatten = [] := by
                      intro t
                      induction t with
                      | nil => intro r hl _ _; cases r with | nil => rfl | cons _ _ => simp at hl
                      | cons a t ih2 =>
                        intro r hl hj hall
                        cases r with
                        | nil => simp at hl
                        | cons b r =>
                          have e0 := hj 0 (by simp)
                          have ha := hall a (by simp)
                          simp [ha] at e0
                          have hb : b = [] := List.length_eq_zero_iff.1 e0.symm
                          rw [List.flatten_cons, hb, ih2 r (by simpa using hl) (fun j hj2 => by have := hj (j + 1) (by simp; omega); simpa using this) (fun l hl2 => hall l (by simp [hl2]))]; rfl
                    rw [hr t r (by simpa using hl) (fun j hj2 => by have := hj (j + 1) (by simp; omega); simpa using this) ht]; rfl
            obtain ⟨j, h1, h2⟩ := key es Q (by rw [HT4.out.ts.le, HT4.out.ts.lq]) (fun j hj => by rw [HT4.out.ts.le] at hj; exact (HT4.out.ts.el j hj).1.symm) HXV.out
            exact ⟨j, by rw [HT4.out.ts.le] at h1; exact h1, h2⟩
          obtain ⟨j, hj, h2, y, h3, h4⟩ := hx
          have hel := HT4.out.ts.el j hj
          rw [h2, h3] at hel
          have hp0 := HP1.out; have hs0 := HS1.out
          refine ⟨xv, y, ?_, by rw [← HR1.out]; exact h4, hel.head.1, ?_, HB4.out⟩
          · have : p = P := by omega
            rw [this]
          · have : s = s0 + S := by omega
            rw [← this]; exact HT4.out.mo
        clear HT4 HB4 HR1 HP1 HS1 HXV
        go_wp2
        go_ret2
        exact HEND.out
      have hone2 : ((CS : Int) == 1) = false := by simp; omega
      have hone3 : ¬ (CS : Int) = 1 := by omega
      have hone4 : (cnt Q).sum ≠ 1 := by rw [HCS.out]; exact hone
      obtain ⟨f, rfl⟩ : ∃ f, gk = f + 1 := by
        cases gk with
        | zero => exact absurd HGD.out (by simp [good])
        | succ n => exact ⟨n, rfl⟩
      have hG := good_at HGD.out hone4
      obtain ⟨p1, s1, hpl1, hP1, hS1⟩ := poly_next hone4 HPL.out
      have hzero := hG.zero; have hall := hG.all; have hnext := hG.next; have hlt := hG.lt; have hpos := hG.pos
      have HPH4 : Hid (∀ (Pq : Ending → World → Prop), (∀ w', Below w3.heap.size w3 w' → Pq (.returned (.tuple #[.int .i64 (emF (cnt Q) : Nat), .int .i64 (leF (cnt Q) : Nat), .bool true])) w') → Calls Try.prog 41 #[.slice au i cu] w3 Pq) := fun Pq h => HPH3.out.mono fun e w' h2 => by
        obtain ⟨h3, h4⟩ := h2
        rw [h3, hG.e0, hG.ok]
        exact h w' h4
      obtain ⟨ee, hee⟩ : ∃ ee, emF (cnt Q) = ee := ⟨_, rfl⟩
      obtain ⟨m, hm⟩ : ∃ m, leF (cnt Q) = m := ⟨_, rfl⟩
      rw [hee, hm] at hpl1 hS1 hnext
      rw [hee] at hzero hall hlt HPH4
      rw [hm] at hall hpos HPH4
      rw [cnt_get] at hzero
      rw [cnt_len, HLQ.out] at hlt hall
      have hallQ : ∀ j, j < i → j ≠ ee → m ≤ (Q.getD j []).length := fun j hj hne => by rw [← cnt_get]; exact hall j hj hne
      have hm100 : m ≤ 100 := by
        obtain ⟨j, hj, hne⟩ : ∃ j, j < i ∧ j ≠ ee := by
          by_cases h0 : ee = 0
          · exact ⟨1, by omega, by omega⟩
          · exact ⟨0, by omega, by omega⟩
        have h1 := hall j hj hne
        have h2 := getD_sum (cnt Q) j
        have h3 := good_sum HGD.out
        omega
      have HPL1 := Lib.hid hpl1; have HNX := Lib.hid hnext; have HZ := Lib.hid hzero; have HAQ := Lib.hid hallQ
      clear hG hpl1 hnext hzero hall hallQ hee hm HPH3 hone hone4 HPL HGD
      go_wp2_with fail
      refine HPH4.out _ ?_
      intro w4 hb4
      have HT4 := Lib.hid (HT3.out.below E hb4)
      have HB4 := Lib.hid (HB3.out.trans (hb4.mono (Nat.le_trans hBw hw3)))
      have hw4 : w.heap.size ≤ w4.heap.size := Nat.le_trans hw3 hb4.size
      clear hb4 HT3 HB3 HPH4 hw3
      obtain ⟨k', hk'⟩ : ∃ k', k' = i := ⟨_, rfl⟩
      subst hk'
      go_wp2
      go_loopw [39] (fun iv wx => ∃ (q : Nat) (vs : List Value) (es : List (List Value)), iv = .int .i64 q ∧ q ≤ m ∧ TM Ok wx B 49 3 g k' c mb (s + movedF mrg z sz ee Q q) vs es (stepsF mrg z ee Q q) ∧ I (stepsF mrg z ee Q q) ∧ Below B w wx ∧ w.heap.size ≤ wx.heap.size) (fun iv _ => m - (intOf iv).toNat)
      case atStart => exact ⟨0, vs, es, rfl, by omega, HT4.out, HIQ.out, HB4.out, hw4⟩
      case round =>
        obtain ⟨q, vs, es, rfl, hq, hT, hIq, hb, hwr⟩ := hrel
        have HT := Lib.hid hT; have HIq := Lib.hid hIq; have HB := Lib.hid hb
        clear hT hIq hb HT4 HB4 hw4
        by_cases hqm : q < m
        case neg =>
          obtain rfl : q = m := by omega
          have h3 : decide ((q : Int) < (q : Int)) = false := by simp
          have HFA : Hid (good f (cnt (stepsF mrg z ee Q q)) = true) := by show _ = _; rw [steps_after (by rw [HLQ.out]; exact hlt) HZ.out]; exact HNX.out
          have hp100 : p ≤ 100 := by omega
          go_wp2
          go_roundg f
          case measure => omega
          case rel => exact ⟨vs, es, _, p + 1, s + movedF mrg z sz ee Q q, p1, s1, by go_num, by omega, by omega, by omega, HFA.out, HPL1.out, HIq.out, HT.out, HB.out, hwr⟩
        have h3 : decide ((q : Int) < (m : Int)) = true := decide_eq_true (by omega)
        rename World => w5
        obtain ⟨Q1, hQ1⟩ : ∃ Q1, stepsF mrg z ee Q q = Q1 := ⟨_, rfl⟩
        have HSQ : Hid (stepsF mrg z ee Q (q + 1) = stepF mrg z ee Q1) := by show _ = _; rw [stepsF, hQ1]
        have hlq1 : Q1.length = k' := by rw [← hQ1, steps_len]; exact HLQ.out
        have hne1 : ∀ j, j < Q1.length → j ≠ ee → Q1.getD j [] ≠ [] := fun j hj hne he => by
          rw [hlq1] at hj
          have h1 := steps_cnt (mrg := mrg) (z := z) (e := ee) (Q := Q) (by rw [HLQ.out]; exact hlt) (j := j) (by rw [HLQ.out]; exact hj) q
          rw [hQ1, he, if_neg hne] at h1
          have := HAQ.out j hj hne
          have h1' : 0 = (Q.getD j []).length - q := h1
          omega
        rw [hQ1] at HT HIq
        have HMV : Hid (movedF mrg z sz ee Q (q + 1) = movedF mrg z sz ee Q q + sz (mrg (headsTo z ee Q1 Q1.length))) := by show _ = _; rw [movedF, hQ1, hlq1, HLQ.out]
        have hmm := moved_mono (mrg := mrg) (z := z) (sz := sz) (e := ee) (Q := Q) (show q + 1 ≤ m by omega)
        rw [HMV.out] at hmm
        obtain ⟨hI2, hPre⟩ := hI ee Q1 HIq.out (by rw [hlq1]; exact hlt) hne1
        obtain ⟨s2, hs2⟩ : ∃ s2, s + movedF mrg z sz ee Q q = s2 := ⟨_, rfl⟩
        rw [hs2] at HT
        rw [hlq1] at hPre hmm HMV
        have hs2S : s2 + sz (mrg (headsTo z ee Q1 k')) ≤ s0 + S := by omega
        have HI2 := Lib.hid hI2; have HPre := Lib.hid hPre; have HNE := Lib.hid hne1; have HL1 := Lib.hid hlq1; have HS2 := Lib.hid hs2
        have HLT := Lib.hid (HT.out.lt E)
        have E0 := Lib.hid (own_lit (w := w5) (e := 3) (size := 1) #[] 0 (by omega) rfl)
        have hba := (Below.refl w5.heap.size w5).alloc (Nat.le_refl _) (.cells #[] 3)
        have HTA := Lib.hid (HT.out.below E hba)
        have HGA := Lib.hid (grown_of_below (row := some g) hba)
        have HTZ : Hid (tailsTo ee Q1 0 = Q1) := tails_zero
        have HQ1 := Lib.hid hQ1
        clear hQ1 hne1 hmm hI2 hPre hs2 hlq1 hba
        go_wp2
        go_loopw [13, 44] (fun u iv wx => ∃ (i : Nat) (vs : List Value) (es : List (List Value)) (hs : List Value), iv = .int .i64 i ∧ i ≤ k' ∧ TM Ok wx B 49 3 g k' c mb s2 vs es (tailsTo ee Q1 i) ∧ LT w5.heap.size g k' mb vs es ∧ hs.length ≤ i ∧ wx.ownsRow w5.heap.size 3 1 u hs.length hs ∧ (∃ b, u.ownBlock = some b) ∧ HdS Ok wx w5.heap.size g mb (headsTo z ee Q1 i) hs ∧ w5.grownBy wx (some g)) (fun _ iv _ => k' - (intOf iv).toNat)
        case atStart => exact ⟨0, vs, es, [], rfl, by omega, by rw [HTZ.out]; exact HTA.out, HLT.out, by simp, E0.out, ⟨_, rfl⟩, ⟨All2.nil, fun x hx => nomatch hx⟩, HGA.out⟩
        case round =>
          obtain ⟨i, vs, es, hs, rfl, hi, hT, hL, hhl, ho, hob, hh, hgr⟩ := hrel
          have HT := Lib.hid hT; have HLT := Lib.hid hL; have HO := Lib.hid ho; have HOB := Lib.hid hob; have HH := Lib.hid hh; have HGR := Lib.hid hgr
          have hw5 : w5.heap.size ≤ wr.heap.size := hgr.size
          clear hT hL ho hob hh hgr HTA HGA E0
          by_cases hik : i < k'
          · have h4 : decide ((i : Int) < (k' : Int)) = true := decide_eq_true (by omega)
            have b0 : (0 : Int) ≤ (i : Int) := by omega
            have b1 : (i : Int) < (k' : Int) := by omega
            by_cases hie : i = ee
            · subst hie
              have hcv := HT.out.ts.cellAt hik
              obtain ⟨a1, c1, hv⟩ := (HT.out.ts.q i hik).shape
              rw [hv] at hcv
              generalize (es.getD i []).length = n1 at hcv
              have HTK : Hid (tailsTo i Q1 (i + 1) = tailsTo i Q1 i) := tails_skip
              have HHK : Hid (headsTo z i Q1 (i + 1) = headsTo z i Q1 i) := heads_skip
              have h5 : ((i : Int) != (i : Int)) = false := by simp
              clear hv
              go_wp2
              go_roundw
              case rel => exact ⟨i + 1, vs, es, hs, by go_num, by omega, by rw [HTK.out]; exact HT.out, HLT.out, by omega, HO.out, HOB.out, by rw [HHK.out]; exact HH.out, HGR.out⟩
              case measure => simp [intOf] <;> omega
            · have h5 : ((i : Int) != (ee : Int)) = true := by simp; omega
              have hne2 : ¬ (i : Int) = (ee : Int) := by omega
              have hqi : (tailsTo ee Q1 i).getD i [] = Q1.getD i [] := tails_same (.inl (Nat.le_refl _)) (by rw [HL1.out]; exact hik)
              obtain ⟨y, qt, x, et, gb, off, cap, hy, hex, hv, hle, hcm, hcx, hok, hbl, hcv, hgb, hgbL⟩ := HT.out.head E HLT.out hik (by rw [hqi]; exact HNE.out i (by rw [HL1.out]; exact hik) hie)
              rw [hqi] at hy
              obtain ⟨xn, rfl⟩ := hSh hok
              have HTK : Hid (tailsTo ee Q1 (i + 1) = (tailsTo ee Q1 i).set i qt) := tails_succ (by rw [HL1.out]; exact hik) hie hy
              have HHK : Hid (headsTo z ee Q1 (i + 1) = headsTo z ee Q1 i ++ [y]) := heads_succ hie hy
              have HY : Hid ((tailsTo ee Q1 i).getD i [] = y :: qt) := hqi.trans hy
              have HEX := Lib.hid hex; have HV := Lib.hid hv; have HOK := Lib.hid hok; have HBL := Lib.hid hbl
              have hx1 : (.int .i64 xn : Value).oneCell' = true := E.one hok
              obtain ⟨n1, hn1⟩ : ∃ n1, et.length = n1 := ⟨_, rfl⟩
              have HN1 := Lib.hid hn1
              rw [hn1] at HV hle hcv
              obtain ⟨W1, hW1⟩ : ∃ W1, (wr.alloc (.cells #[.int .i64 xn] 3)).drew = W1 := ⟨_, rfl⟩
              have hb1 : Below wr.heap.size wr W1 := by rw [← hW1]; exact ((Below.refl _ _).alloc (Nat.le_refl _) _).drew
              have HB1 := Lib.hid hb1
              have HO1 : Hid (W1.ownsRow w5.heap.size 3 1 u13 hs.length hs) := own_below HO.out (Nat.le_refl _) hb1
              have HCN : Hid (∀ j u, [.int .i64 xn][j]? = some u → W1.cell? ((⟨wr.heap.size, 0, none⟩ : Addr).add j) = some u) := by rw [← hW1]; exact cells_new wr [.int .i64 xn] 3
              have hw1 : w5.heap.size ≤ W1.heap.size := Nat.le_trans hw5 hb1.size
              have HKC : Hid (∀ W, (∃ row, wr.grownBy W row ∧ ∀ b, row = some b → w5.heap.size ≤ b) → W.cell? ⟨gb, off, none⟩ = some (.int .i64 xn) ∧ W.cell? ⟨g, i, none⟩ = some (.slice (some ⟨gb, off, none⟩) (n1 + 1) (cap + 1)) ∧ TM Ok W B 49 3 g k' c mb s2 vs es (tailsTo ee Q1 i)) := fun W ⟨row, hg, hr⟩ => by
                have hTW := HT.out.keptL E HLT.out hg hr
                obtain ⟨y', qt', x', et', gb', off', cap', hy', hex', hv', _, _, hcx', _, _, hcv', _, _⟩ := hTW.head E HLT.out hik (by rw [HY.out]; simp)
                rw [HEX.out] at hex'
                rw [HV.out] at hv'
                injection hex' with e1 e2
                injection hv' with e3 _ _
                injection e3 with e3
                injection e3 with e3 e4 _
                subst e1; subst e2; subst e3; subst e4
                have hcv2 := hTW.ts.cellAt hik
                rw [HV.out] at hcv2
                exact ⟨hcx', hcv2, hTW⟩
              have hKW := HKC.out W1 ⟨none, grown_of_below HB1.out, fun b e => nomatch e⟩
              have kw1 := hKW.1; have kw2 := hKW.2.1
              clear hKW
              have HUB : Hid (∀ b, u13.ownBlock = some b → w5.heap.size ≤ b) := fun b e => (HO.out.lt b e).1
              have b2 : (0 : Int) < (n1 : Int) + 1 := by omega
              have b3 : (1 : Int) ≤ (n1 : Int) + 1 := by omega
              have b4 : (n1 : Int) + 1 ≤ (cap : Int) + 1 := by omega
              have b5 : (1 : Int) ≤ (cap : Int) + 1 := by omega
              have hsm : hs.length + 1 ≤ 1099511627776 := by omega
              clear hqi hy hex hv hok hbl hn1 hb1 hgbL
              by_cases hc0 : cap = 0
              · subst hc0
                obtain rfl : n1 = 0 := by omega
                have HTL : Hid (∀ W, TM Ok W B 49 3 g k' c mb s2 vs es (tailsTo ee Q1 i) → QRow W B 3 (.slice (some ⟨gb, off, none⟩) 0 0) et) := fun W h => by
                  have := h.ts.q i hik
                  rw [HV.out, HEX.out] at this
                  have he : et = [] := List.length_eq_zero_iff.1 HN1.out
                  rw [he] at this ⊢
                  exact this.tail0
                have hcv : wr.cell? ⟨g, i, none⟩ = some (.slice (some ⟨gb, off, none⟩) 1 1) := hcv
                have kw2 : W1.cell? ⟨g, i, none⟩ = some (.slice (some ⟨gb, off, none⟩) 1 1) := kw2
                go_wp2_with fail
                go_region_held3 (fun w' => w'.cell? ⟨gb, off, none⟩ = some (.int .i64 xn)) (first | assumption | go_keep)
                  (first | (refine step_appX slInt (by rfl) _ _ (by rfl) w5.heap.size u13 hs.length hs _ 1 _ [.int .i64 xn] (by rfl) HO1.out (by rfl) rfl HCN.out (by simpa using hx1) hsm hw1 ?_
                            intro v7 w7 hown7 hg7 ht7
                            have HG7 := Lib.hid (grown_trans (grown_of_below HB1.out) hg7); have HO7 := Lib.hid hown7; have HT7 := Lib.hid ht7
                            have hKC := HKC.out w7 ⟨_, HG7.out, HUB.out⟩
                            have k1 := hKC.1; have k2 : w7.cell? ⟨g, i, none⟩ = some (.slice (some ⟨gb, off, none⟩) 1 1) := hKC.2.1; have HTM := Lib.hid hKC.2.2
                            have k3 := (HTM.out.ts.store i (.slice (some ⟨gb, off, none⟩) 0 0)).2.2
                            have k4 : (w7.setCell ⟨g, i, none⟩ (.slice (some ⟨gb, off, none⟩) 0 0)).cell? ⟨gb, off, none⟩ = some (.int .i64 xn) := (World.cell?_of_block (a := ⟨gb, off, none⟩) (Below.heap_setCell w7 ⟨g, i, none⟩ _ gb hgb)).trans k1
                            clear hown7 hg7 ht7 hKC))
                have st := HTM.out.ts.store i (.slice (some ⟨gb, off, none⟩) 0 0)
                have hvb : (.slice (some ⟨gb, off, none⟩) 0 0 : Value).ownBlock = (vs.getD i undef).ownBlock := by rw [HV.out]; rfl
                have HTC := Lib.hid (HTM.out.cut E hik HEX.out HY.out (HTL.out w7 HTM.out) hvb st.1 st.2.1)
                have HLC := Lib.hid (HLT.out.cut HT.out.ts.lv HT.out.ts.le hik HEX.out hvb)
                have hgL := HLT.out.1
                have HOC : Hid ((w7.setCell ⟨g, i, none⟩ (.slice (some ⟨gb, off, none⟩) 0 0)).ownsRow w5.heap.size 3 1 v7 (hs ++ [(.int .i64 xn : Value)]).length (hs ++ [(.int .i64 xn : Value)])) := by
                  rw [List.length_append]
                  exact own_other HO7.out st.2.1 (fun b hb e => by injection e with e; have := (HO7.out.lt b hb).1; omega)
                have HOBC : Hid (∃ b, v7.ownBlock = some b) := by
                  rcases HT7.out with h | h
                  · exact HOB.out.imp fun b hb => h.trans hb
                  · exact ⟨_, h⟩
                have HHC := Lib.hid (((HH.out.kept E HG7.out (fun b hb => .inl (HUB.out b hb))).kept E st.2.1 (fun b hb => .inr (by injection hb with hb; exact hb.symm))).snoc (E.kept (E.kept HOK.out HG7.out (fun b hb e => by have := HUB.out b e; have := HBL.out b hb; omega)) st.2.1 (fun b hb e => by injection e with e; exact (HBL.out b hb).2.1 e.symm)) HBL.out)
                have HGC := Lib.hid (grown_trans (grown_new HGR.out HG7.out HUB.out) st.2.1)
                have hhl2 : (hs ++ [(.int .i64 xn : Value)]).length ≤ i + 1 := by simp; omega
                clear st hvb k1 k2 k3 k4 hcx hcv kw1 kw2
                go_wp2
                go_roundw
                case rel => exact ⟨i + 1, vs.set i (.slice (some ⟨gb, off, none⟩) 0 0), es.set i et, hs ++ [(.int .i64 xn : Value)], by go_num, by omega, by rw [HTK.out]; exact HTC.out, HLC.out, hhl2, HOC.out, HOBC.out, by rw [HHK.out]; exact HHC.out, HGC.out⟩
                case measure => simp [intOf] <;> omega
              · obtain ⟨cap1, rfl⟩ : ∃ c1, cap = c1 + 1 := ⟨cap - 1, by omega⟩
                clear hc0
                have HTL : Hid (∀ W, TM Ok W B 49 3 g k' c mb s2 vs es (tailsTo ee Q1 i) → QRow W B 3 (.slice (some ⟨gb, off + 1, none⟩) n1 (cap1 + 1)) et) := fun W h => by
                  have := h.ts.q i hik
                  rw [HV.out, HEX.out, ← HN1.out] at this
                  rw [← HN1.out]
                  exact this.tail
                have b6 : ¬ (cap1 + 1 + 1 = 1) := by omega
                have b7 : ¬ (1 = cap1 + 1 + 1) := by omega
                have hcv : wr.cell? ⟨g, i, none⟩ = some (.slice (some ⟨gb, off, none⟩) (n1 + 1) (cap1 + 1 + 1)) := hcv
                have kw2 : W1.cell? ⟨g, i, none⟩ = some (.slice (some ⟨gb, off, none⟩) (n1 + 1) (cap1 + 1 + 1)) := kw2
                go_wp2_with fail
                go_region_held3 (fun w' => w'.cell? ⟨gb, off, none⟩ = some (.int .i64 xn)) (first | assumption | go_keep)
                  (first | (refine step_appX slInt (by rfl) _ _ (by rfl) w5.heap.size u13 hs.length hs _ 1 _ [.int .i64 xn] (by rfl) HO1.out (by rfl) rfl HCN.out (by simpa using hx1) hsm hw1 ?_
                            intro v7 w7 hown7 hg7 ht7
                            have HG7 := Lib.hid (grown_trans (grown_of_below HB1.out) hg7); have HO7 := Lib.hid hown7; have HT7 := Lib.hid ht7
                            have hKC := HKC.out w7 ⟨_, HG7.out, HUB.out⟩
                            have k1 := hKC.1; have k2 : w7.cell? ⟨g, i, none⟩ = some (.slice (some ⟨gb, off, none⟩) (n1 + 1) (cap1 + 1 + 1)) := hKC.2.1; have HTM := Lib.hid hKC.2.2
                            have k3 := (HTM.out.ts.store i (.slice (some ⟨gb, off + 1, none⟩) n1 (cap1 + 1))).2.2
                            have k4 : (w7.setCell ⟨g, i, none⟩ (.slice (some ⟨gb, off + 1, none⟩) n1 (cap1 + 1))).cell? ⟨gb, off, none⟩ = some (.int .i64 xn) := (World.cell?_of_block (a := ⟨gb, off, none⟩) (Below.heap_setCell w7 ⟨g, i, none⟩ _ gb hgb)).trans k1
                            clear hown7 hg7 ht7 hKC))
                have st := HTM.out.ts.store i (.slice (some ⟨gb, off + 1, none⟩) n1 (cap1 + 1))
                have hvb : (.slice (some ⟨gb, off + 1, none⟩) n1 (cap1 + 1) : Value).ownBlock = (vs.getD i undef).ownBlock := by rw [HV.out]; rfl
                have HTC := Lib.hid (HTM.out.cut E hik HEX.out HY.out (HTL.out w7 HTM.out) hvb st.1 st.2.1)
                have HLC := Lib.hid (HLT.out.cut HT.out.ts.lv HT.out.ts.le hik HEX.out hvb)
                have hgL := HLT.out.1
                have HOC : Hid ((w7.setCell ⟨g, i, none⟩ (.slice (some ⟨gb, off + 1, none⟩) n1 (cap1 + 1))).ownsRow w5.heap.size 3 1 v7 (hs ++ [(.int .i64 xn : Value)]).length (hs ++ [(.int .i64 xn : Value)])) := by
                  rw [List.length_append]
                  exact own_other HO7.out st.2.1 (fun b hb e => by injection e with e; have := (HO7.out.lt b hb).1; omega)
                have HOBC : Hid (∃ b, v7.ownBlock = some b) := by
                  rcases HT7.out with h | h
                  · exact HOB.out.imp fun b hb => h.trans hb
                  · exact ⟨_, h⟩
                have HHC := Lib.hid (((HH.out.kept E HG7.out (fun b hb => .inl (HUB.out b hb))).kept E st.2.1 (fun b hb => .inr (by injection hb with hb; exact hb.symm))).snoc (E.kept (E.kept HOK.out HG7.out (fun b hb e => by have := HUB.out b e; have := HBL.out b hb; omega)) st.2.1 (fun b hb e => by injection e with e; exact (HBL.out b hb).2.1 e.symm)) HBL.out)
                have HGC := Lib.hid (grown_trans (grown_new HGR.out HG7.out HUB.out) st.2.1)
                have hhl2 : (hs ++ [(.int .i64 xn : Value)]).length ≤ i + 1 := by simp; omega
                clear st hvb k1 k2 k3 k4 hcx hcv kw1 kw2
                go_wp2
                go_roundw
                case rel => exact ⟨i + 1, vs.set i (.slice (some ⟨gb, off + 1, none⟩) n1 (cap1 + 1)), es.set i et, hs ++ [(.int .i64 xn : Value)], by go_num, by omega, by rw [HTK.out]; exact HTC.out, HLC.out, hhl2, HOC.out, HOBC.out, by rw [HHK.out]; exact HHC.out, HGC.out⟩
                case measure => simp [intOf] <;> omega
          obtain rfl : i = k' := by omega
          have h4 : decide ((i : Int) < (i : Int)) = false := by simp
          have hlen : hs.length = (headsTo z ee Q1 i).length := HH.out.ok.1.symm
          have hpos2 : 0 < hs.length := by rw [hlen]; exact heads_pos (by omega)
          obtain ⟨au2, cu2, rfl⟩ := own_slice HO.out
          obtain ⟨gu, rfl, hgu1, hgu2, hguc⟩ := own_cell HO.out hpos2
          have hcap := (own_capG HO.out).1
          obtain ⟨xs, hxs⟩ : ∃ xs, headsTo z ee Q1 i = xs := ⟨_, rfl⟩
          rw [hxs] at HH HPre hs2S HMV
          obtain ⟨n, hn⟩ : ∃ n, hs.length = n := ⟨_, rfl⟩
          have HN := Lib.hid hn
          rw [hn] at hpos2 hcap hguc hhl ⊢
          obtain ⟨Q2, hQ2⟩ : ∃ Q2, tailsTo ee Q1 i = Q2 := ⟨_, rfl⟩
          have HQ2 : Hid ((Q2.set ee (Q1.getD ee [] ++ [mrg xs])) = stepF mrg z ee Q1) := by show _ = _; unfold stepF; rw [HL1.out, hQ2, hxs]
          have HQE : Hid (Q2.getD ee [] = Q1.getD ee []) := by show _ = _; rw [← hQ2]; exact tails_same (.inr rfl) (by rw [HL1.out]; exact hlt)
          rw [hQ2] at HT
          have hmbL := HLT.out.2.1
          have hru : gu ≠ mb := by omega
          have hcv := HT.out.ts.cellAt hlt
          obtain ⟨ae, ce, hve⟩ := (HT.out.ts.q ee hlt).shape
          obtain ⟨ne, hne⟩ : ∃ ne, (es.getD ee []).length = ne := ⟨_, rfl⟩
          rw [hne] at hve
          have HVE := Lib.hid hve; have HNL := Lib.hid hne
          rw [hve] at hcv
          have hne1k : ne + 1 ≤ 1099511627776 := by
            have h1 := (HT.out.ts.el ee hlt).1
            rw [HQE.out, hne] at h1
            have h2 := steps_cnt (mrg := mrg) (z := z) (e := ee) (Q := Q) (by rw [HLQ.out]; exact hlt) (j := ee) (by rw [HLQ.out]; exact hlt) q
            rw [if_pos rfl, HZ.out] at h2
            have h3 := HQ1.out
            rw [h3] at h2
            omega
          have HCL2 : Hid (∀ W, Below wr.heap.size wr W → Calls Try.prog 33 #[.slice (some ⟨gu, 0, none⟩) n cu2, .pointer (some ⟨mb, 0, none⟩)] W fun e w' => ∃ v', e = .returned v' ∧ Hid (Ok w' (mrg xs) v') ∧ Hid (MB w' mb (s2 + sz (mrg xs))) ∧ Hid (W.grownBy w' (some mb)) ∧ Hid (∀ b, v'.ownBlock = some b → W.heap.size ≤ b)) := fun W hW => by
            have hOW := own_below HO.out (Nat.le_refl _) hW
            refine (hF.call W gu n cu2 xs hs s2 HN.out hpos2 (by omega) hcap (fun j u hu => ?_) (Nat.lt_of_lt_of_le hgu2 hW.size) hru (HH.out.below E hW).ok (fun u hu e => (HH.out.bl u hu mb e).2.2 rfl) HPre.out (HT.out.mo.below hW) (by omega)).mono fun e w' ⟨v', h1, h2, h3, h4, h5⟩ => ⟨v', h1, Lib.hid h2, Lib.hid h3, Lib.hid h4, Lib.hid h5⟩
            have := hOW.cells (g := gu) rfl j u hu
            rwa [addr_add_zero] at this
          have hc2 := HC.out gu n cu2
          have HX1 := Lib.hid hxs
          clear hxs hQ2 hn hguc hve hne
          have HSM := Lib.hid hne1k
          have hwrd : wr.drew.cell? ⟨g, ee, none⟩ = some (.slice ae ne ce) := hcv
          have hBr : B ≤ wr.heap.size := by omega
          clear hne1k hpos2
          go_wp2_with fail
          go_region_law (first
            | (go_simp; go_at_call 33
               refine (HCL2.out wr.drew (Below.refl _ _).drew).mono ?_
               rintro e w6 ⟨v6, rfl, h6a, h6b, h6c, h6d⟩
               have HG6 : Hid (wr.grownBy w6 (some mb)) := by first | exact h6c | exact Lib.hid (grown_trans (grown_of_below (row := some mb) (Below.refl wr.heap.size wr).drew) h6c.out)
               have HD6 : Hid (∀ b, v6.ownBlock = some b → wr.heap.size ≤ b) := h6d
               have HT6 : Hid (TM Ok w6 B 49 3 g i c mb (s2 + sz (mrg xs)) vs es Q2) := ⟨HT.out.ts.kept E HG6.out (fun b hb => by injection hb with hb; rw [← hb]; exact HT.out.far), HT.out.far, h6b.out⟩
               have k1 := HT6.out.ts.cellAt hlt
               rw [HVE.out] at k1
               obtain ⟨yn, rfl⟩ := hSh h6a.out
               obtain ⟨W2, hW2⟩ : ∃ W2, w6.alloc (.cells #[.int .i64 yn] 3) = W2 := ⟨_, rfl⟩
               have HB7 : Hid (Below w6.heap.size w6 W2) := by show Below _ _ _; rw [← hW2]; exact (Below.refl _ _).alloc (Nat.le_refl _) _
               have HQ7 : Hid (QRow W2 B 3 (.slice ae ne ce) (es.getD ee [])) := by
                 have := (HT6.out.ts.q ee hlt).below HB7.out
                 rwa [HVE.out] at this
               have k2 := (HT6.out.ts.below E HB7.out).cellAt hlt
               rw [HVE.out] at k2
               have k3 : W2.cell? ⟨w6.heap.size, 0, none⟩ = some (.int .i64 yn) := by rw [← hW2]; exact cells_new w6 [.int .i64 yn] 3 0 _ rfl
               have k4 : B ≤ W2.heap.size := Nat.le_trans hBr (Nat.le_trans HG6.out.size HB7.out.size)
               have H6A := Lib.hid h6a.out
               clear h6a h6b h6c h6d)
            | (refine step_appQ slInt (by rfl) _ _ (by rfl) B (.slice ae ne ce) (es.getD ee []) ⟨w6.heap.size, 0, none⟩ 1 (.int .i64 yn) (by rfl) HQ7.out (by rfl) k3 (by rfl) (by rw [HNL.out]; exact HSM.out) k4 ?_
               intro v8 w8 hq8 hg8 ht8
               have hsh8 : ∃ a n d, v8 = .slice a n d := hq8.shape.elim fun a h => h.elim fun c h => ⟨a, _, c, h⟩
               obtain ⟨a8, n8, c8, rfl⟩ := hsh8
               have hA := HT6.out.appd hlt HVE.out HB7.out hg8
               have HQ8 := Lib.hid hq8; have HG8 := Lib.hid hA.1; have HT8 := Lib.hid ht8; have HRW := Lib.hid hA.2.1
               have k5 := hA.2.2.1; have k6 := hA.2.2.2
               clear hq8 hg8 ht8 hA))
          all_goals
            have st := HRW.out.stored ee (.slice a8 n8 c8)
            have hmbw := HT.out.mo.lt
            have HBLK : Hid (∀ b, (Value.slice ae ne ce).ownBlock = some b → B ≤ b ∧ b < w6.heap.size) := fun b e => (HT6.out.ts.lt E).2.1 ee hlt b (by rw [HVE.out]; exact e)
            have HPU := Lib.hid (HT6.out.push E hlt (y := mrg xs) (x := .int .i64 yn) H6A.out (fun b hb => ⟨HT.out.ts.fresh E (HD6.out b hb), by have := HD6.out b hb; omega⟩) HQ8.out (by rw [HVE.out]; exact HG8.out) (by
              rw [HVE.out]
              rcases HT8.out with h | h
              · exact .inl h
              · exact .inr ⟨_, h, HB7.out.size⟩) st.1 st.2)
            have HBF := Lib.hid ((((HB.out.grown HGR.out (Nat.le_trans hBw hwr) (fun b e => by injection e with e; omega)).grown HG6.out hBr (fun b e => by injection e with e; omega)).grown HG8.out (Nat.le_trans hBr HG6.out.size) (fun b e => (HBLK.out b e).1)).grown st.2 (Nat.le_trans (Nat.le_trans hBr HG6.out.size) HG8.out.size) (fun b e => by injection e with e; omega))
            have hwf : w.heap.size ≤ (w8.setCell ⟨g, ee, none⟩ (.slice a8 n8 c8)).heap.size := Nat.le_trans (Nat.le_trans (Nat.le_trans (Nat.le_trans hwr hw5) HG6.out.size) HG8.out.size) st.2.size
            have HQF : Hid (Q2.set ee (Q2.getD ee [] ++ [mrg xs]) = stepsF mrg z ee Q (q + 1)) := by show _ = _; rw [HQE.out, HQ2.out, HSQ.out]
            have HSF : Hid (s2 + sz (mrg xs) = s + movedF mrg z sz ee Q (q + 1)) := by
              show _ = _
              have h1 := HMV.out; have h2 := HS2.out
              omega
            have HIF : Hid (I (stepsF mrg z ee Q (q + 1))) := by show I _; rw [HSQ.out]; exact HI2.out
            rw [HQF.out, HSF.out] at HPU
            clear st k1 k2 k3 k5 k6
            go_wp2
            go_roundw
            case rel => exact ⟨q + 1, _, _, by go_num, by omega, HPU.out, HIF.out, HBF.out, hwf⟩
            case measure => simp [intOf] <;> omega

end Go.Proofs.Ytcdfinkefahloaa

namespace Go.Proofs.Ytcdfinkefahloaa
open Go.RowKit Ply
set_option linter.unusedVariables false

set_option maxRecDepth 100000 in
set_option maxHeartbeats 8000000 in
theorem polyT_any {α : Type} {Ok : World → α → Value → Prop} (E : ElOk Ok) (hSh : ∀ {w : World} {x : α} {v : Value}, Ok w x v → ∃ a n d, v = .slice a n d) {mrg : List α → α} {z : α} {sz : α → Nat} {Pre : List α → Prop} {I : List (List α) → Prop}
    (hI : ∀ e Q, I Q → e < Q.length → (∀ j, j < Q.length → j ≠ e → Q.getD j [] ≠ []) → I (stepF mrg z e Q) ∧ Pre (headsTo z e Q Q.length))
    (B g k c mb F0 s0 : Nat) (vs0 : List Value) (es0 : List (List Value)) (Q0 R : List (List α)) (P S : Nat) (w : World) (hF : Fv Ok mrg sz Pre 23 mb) (hk3 : 3 ≤ k) (hk8 : k ≤ 8) (hgood : good F0 (cnt Q0) = true) (hF0 : F0 ≤ 100) (hpoly : polyF mrg z sz F0 Q0 = (R, P, S)) (hIQ : I Q0) (hS : s0 + S ≤ 1000000)
    (hT : TM Ok w B 24 27 g k c mb s0 vs0 es0 Q0) (hmB : B ≤ mb) :
    Calls Try.prog 22 #[.slice (some ⟨g, 0, none⟩) k c, .func (.func 23) #[] #[.pointer (some ⟨mb, 0, none⟩)]] w (PolyE Ok w B mb P (s0 + S) R) := by
  have hcall : ∀ (r n d : Nat) (W : World), (callFunc 23 #[.slice (some ⟨r, 0, none⟩) n d, .pointer (some ⟨mb, 0, none⟩)]).run Try.prog W = .ok (.enter 23 #[.slice (some ⟨r, 0, none⟩) n d, .pointer (some ⟨mb, 0, none⟩)]) W := fun r n d W => by kernel_rfl
  have hgB := (hT.ts.row.lt g rfl)
  have hBw : B ≤ w.heap.size := by omega
  have hgB2 := hgB.1
  have HT0 := Lib.hid hT; have HG0 := Lib.hid hgood; have HP0 := Lib.hid hpoly; have HI0 := Lib.hid hIQ
  have HC := Lib.hid hcall
  clear hT hgood hpoly hIQ hcall hgB
  go_enter Try.func22, Try.ntmps22
  go_wp2
  go_loopg [6] F0 (fun fu ph wr => ∃ (vs : List Value) (es : List (List Value)) (Q : List (List α)) (p s P' S' : Nat), ph = .int .i64 p ∧ p + fu ≤ F0 ∧ p + P' = P ∧ s + S' = s0 + S ∧ good fu (cnt Q) = true ∧ polyF mrg z sz fu Q = (R, P', S') ∧ I Q ∧ TM Ok wr B 24 27 g k c mb s vs es Q ∧ Below B w wr ∧ w.heap.size ≤ wr.heap.size)
  case atStart => exact ⟨vs0, es0, Q0, 0, s0, P, S, rfl, by omega, by omega, rfl, HG0.out, HP0.out, HI0.out, HT0.out, Below.refl B _, Nat.le_refl _⟩
  case round =>
    obtain ⟨vs, es, Q, p, s, P', S', rfl, hpf, hpP, hsS, hgd, hpl, hIq, hT, hb, hwr⟩ := hrel
    have HT := Lib.hid hT; have HB := Lib.hid hb; have HGD := Lib.hid hgd; have HPL := Lib.hid hpl; have HIQ := Lib.hid hIq
    have HLQ := Lib.hid hT.ts.lq
    have hsum := good_sum hgd
    have HCL : Hid ((cnt Q).length = k) := by show _ = _; rw [cnt_len]; exact hT.ts.lq
    clear hT hb hgd hpl hIq HT0 HG0 HP0 HI0
    rename World => w1
    have E0 := Lib.hid (own_lit (w := w1) (e := 3) (size := 1) #[] 0 (by omega) rfl)
    have HBA := Lib.hid (show Below w1.heap.size w1 (w1.alloc (.cells #[] 3)) from (Below.refl _ _).alloc (Nat.le_refl _) _)
    have HVC : Hid (∀ i, i < k → ∀ W, Below w1.heap.size w1 W → ∃ a d, W.cell? ⟨g, i, none⟩ = some (.slice a ((cnt Q).getD i 0) d)) := fun i hi W hW => by
      have hT := HT.out.ts.below E hW
      obtain ⟨a, d, hv⟩ := (hT.q i hi).shape
      refine ⟨a, d, ?_⟩
      rw [hT.cellAt hi, hv, cnt_get, (hT.el i hi).1]
    go_wp2
    go_loopw [7, 19] (fun u iv wx => ∃ (i : Nat), iv = .int .i64 i ∧ i ≤ k ∧ wx.ownsRow w1.heap.size 3 1 u i ((iN ((cnt Q).take i)).map (Value.int .i64)) ∧ (∃ b, u.ownBlock = some b) ∧ Below w1.heap.size w1 wx) (fun _ iv _ => k - (intOf iv).toNat)
    case atStart => exact ⟨0, rfl, by omega, E0.out, ⟨_, rfl⟩, HBA.out⟩
    case round =>
      obtain ⟨i, rfl, hi, ho, hob, hb⟩ := hrel
      have HO := Lib.hid ho; have HBX := Lib.hid hb; have HOB := Lib.hid hob
      clear ho hb hob E0 HBA
      have hwx := HBX.out.size
      by_cases hik : i < k
      · have h3 : decide ((i : Int) < (k : Int)) = true := decide_eq_true (by omega)
        obtain ⟨av, dv, cv⟩ := HVC.out i hik _ HBX.out
        have HTS : Hid ((cnt Q).take (i + 1) = (cnt Q).take i ++ [(cnt Q).getD i 0]) := by
          show _ = _
          have : i < (cnt Q).length := by rw [HCL.out]; exact hik
          rw [List.take_succ_eq_append_getElem this, List.getD_eq_getElem?_getD, List.getElem?_eq_getElem this]; rfl
        have hx1 := getD_sum (cnt Q) i
        generalize (cnt Q).getD i 0 = x at cv HTS hx1
        have b0 : (0 : Int) ≤ (i : Int) := by omega
        have b1 : (i : Int) < (k : Int) := by omega
        have hn40 : i + 1 ≤ 1099511627776 := by omega
        go_wp2_with (at_builtin; refine wpList_app1 slInt rfl _ _ rfl rfl HO.out [.int .i64 (x : Int)] rfl rfl (by simp) (by simp [Value.oneCell']) hn40 hwx ?_; intro v' w7 hown' hg' ht')
        have HO7 := Lib.hid hown'
        have HB7 := Lib.hid (HBX.out.grown hg' hwx (fun b e => (HO.out.lt b e).1))
        have HOB7 : Hid (∃ b, v'.ownBlock = some b) := by
          rcases ht' with h | h
          · exact HOB.out.imp fun b hb => h.trans hb
          · exact ⟨_, h⟩
        clear hown' hg' ht'
        go_roundw
        case rel => exact ⟨i + 1, by go_num, by omega, by rw [HTS.out, iN_snoc, List.map_append]; exact HO7.out, HOB7.out, HB7.out⟩
        case measure => simp [intOf] <;> omega
      obtain rfl : i = k := by omega
      have h3 : decide ((i : Int) < (i : Int)) = false := by simp
      have HTF : Hid ((cnt Q).take i = cnt Q) := List.take_of_length_le (by rw [HCL.out]; exact Nat.le_refl _)
      rw [HTF.out] at HO
      obtain ⟨au, cu, rfl⟩ := own_slice HO.out
      have HIU := Lib.hid (ints_of_own HO.out)
      have HT2 := Lib.hid (HT.out.below E HBX.out)
      have HB2 := Lib.hid (HB.out.trans (HBX.out.mono (Nat.le_trans hBw hwr)))
      have hw2 : w.heap.size ≤ wr.heap.size := Nat.le_trans hwr hwx
      have HSM := Lib.hid (sumN_any au cu i (cnt Q) wr HCL.out (by omega) (by omega) HIU.out)
      have HPH := Lib.hid (fun W hb => phase_any au cu i (cnt Q) W HCL.out (by omega) (fun x hx => Nat.le_trans (mem_sum hx) (by omega)) (HIU.out.below (Nat.le_refl _) (B := wr.heap.size) hb))
      clear HVC HBX HOB HT HB hwx HO
      go_wp2_with fail
      refine HSM.out.mono ?_
      rintro e w3 ⟨rfl, hb3⟩
      have HPH3 := Lib.hid (HPH.out w3 hb3)
      have HT3 := Lib.hid (HT2.out.below E hb3)
      have HB3 := Lib.hid (HB2.out.trans (hb3.mono (Nat.le_trans hBw hw2)))
      have hw3 : w.heap.size ≤ w3.heap.size := Nat.le_trans hw2 hb3.size
      clear hb3 HSM HPH HT2 HB2 hw2
      obtain ⟨CS, hCS⟩ : ∃ CS, (cnt Q).sum = CS := ⟨_, rfl⟩
      have HCS := Lib.hid hCS
      rw [hCS] at hsum ⊢
      clear hCS
      by_cases hone : CS = 1
      · subst hone
        have hfl : es.flatten.length = 1 := by
          have h1 := HCS.out
          have : ∀ (l : List (List Value)) (q : List (List α)), l.length = q.length → (∀ j, j < l.length → (l.getD j []).length = (q.getD j []).length) → l.flatten.length = (cnt q).sum := by
            intro l
            induction l with
            | nil => intro q hl _; cases q with | nil => rfl | cons _ _ => simp at hl
            | cons x t ih =>
              intro q hl hj
              cases q with
              | nil => simp at hl
              | cons y r =>
                have e0 := hj 0 (by simp)
                simp at e0
                have := ih r (by simpa using hl) (fun j hj2 => by have := hj (j + 1) (by simp; omega); simpa using this)
                rw [List.flatten_cons, List.length_append, this, e0]
                simp [cnt]
          rw [this es Q (by rw [HT3.out.ts.le, HT3.out.ts.lq]) (fun j hj => by rw [HT3.out.ts.le] at hj; exact (HT3.out.ts.el j hj).1.symm), h1]
        have hpe := HPL.out
        rw [poly_end HCS.out] at hpe
        injection hpe with e1 e2
        injection e2 with e2 e3
        have HR1 := Lib.hid e1; have HP1 := Lib.hid e2; have HS1 := Lib.hid e3
        have HCT := Lib.hid (concatT_any E B g i c vs es Q w3 (by omega) (by omega) HT3.out.ts)
        obtain ⟨xv, hxv⟩ := List.length_eq_one_iff.1 hfl
        rw [hxv] at HCT
        have HXV := Lib.hid hxv
        clear hfl e1 e2 e3 hxv HPH3
        go_wp2_with fail
        refine HCT.out.mono ?_
        rintro e w4 ⟨v4, rfl, ho4, hb4⟩
        have ho4 : w4.ownsRow w3.heap.size 27 1 v4 1 [xv] := ho4
        obtain ⟨a4, c4, rfl⟩ := own_slice ho4
        obtain ⟨g4, rfl, _, _, hc4⟩ := own_cell ho4 (by omega)
        have c4v := hc4 0 (by omega)
        have c4v : w4.cell? ⟨g4, 0, none⟩ = some xv := c4v
        have HT4 := Lib.hid (HT3.out.below E hb4)
        have HB4 := Lib.hid (HB3.out.trans (hb4.mono (Nat.le_trans hBw hw3)))
        clear ho4 hc4 hb4 HCT
        have HEND : Hid (PolyE Ok w B mb P (s0 + S) R (.returned (.tuple #[xv, .int .i64 (p : Nat)])) w4) := by
          have hx : ∃ j, j < i ∧ es.getD j [] = [xv] ∧ ∃ y, Q.getD j [] = [y] ∧ Q.flatten = [y] := by
            have key : ∀ (l : List (List Value)) (q : List (List α)), l.length = q.length → (∀ j, j < l.length → (l.getD j []).length = (q.getD j []).length) → l.flatten = [xv] → ∃ j, j < l.length ∧ l.getD j [] = [xv] ∧ ∃ y, q.getD j [] = [y] ∧ q.flatten = [y] := by
              intro l
              induction l with
              | nil => intro q _ _ h; simp at h
              | cons x t ih =>
                intro q hl hj hf
                cases q with
                | nil => simp at hl
                | cons y r =>
                  have e0 := hj 0 (by simp)
                  simp at e0
                  rw [List.flatten_cons] at hf
                  cases x with
                  | nil =>
                    obtain ⟨j, h1, h2, z2, h3, h4⟩ := ih r (by simpa using hl) (fun j hj2 => by have := hj (j + 1) (by simp; omega); simpa using this) (by simpa using hf)
                    have hy : y = [] := List.length_eq_zero_iff.1 (by rw [← e0]; rfl)
                    exact ⟨j + 1, by simp; omega, by simpa using h2, z2, by simpa using h3, by rw [List.flatten_cons, hy]; simpa using h4⟩
                  | cons x0 xt =>
                    simp at hf
                    obtain ⟨hx0, hxt, ht⟩ := hf
                    subst hx0; subst hxt
                    obtain ⟨y0, rfl⟩ := List.length_eq_one_iff.1 e0.symm
                    refine ⟨0, by simp, rfl, y0, rfl, ?_⟩
                    rw [List.flatten_cons]
                    have hr : ∀ (t : List (List Value)) (r : List (List α)), t.length = r.length → (∀ j, j < t.length → (t.getD j []).length = (r.getD j []).length) → (∀ l ∈ t, l = []) → r.flatten = [] := by
                      intro t
                      induction t with
                      | nil => intro r hl _ _; cases r with | nil => rfl | cons _ _ => simp at hl
                      | cons a t ih2 =>
                        intro r hl hj hall
                        cases r with
                        | nil => simp at hl
                        | cons b r =>
                          have e0 := hj 0 (by simp)
                          have ha := hall a (by simp)
                          simp [ha] at e0
                          have hb : b = [] := List.length_eq_zero_iff.1 e0.symm
                          rw [List.flatten_cons, hb, ih2 r (by simpa using hl) (fun j hj2 => by have := hj (j + 1) (by simp; omega); simpa using this) (fun l hl2 => hall l (by simp [hl2]))]; rfl
                    rw [hr t r (by simpa using hl) (fun j hj2 => by have := hj (j + 1) (by simp; omega); simpa using this) ht]; rfl
            obtain ⟨j, h1, h2⟩ := key es Q (by rw [HT4.out.ts.le, HT4.out.ts.lq]) (fun j hj => by rw [HT4.out.ts.le] at hj; exact (HT4.out.ts.el j hj).1.symm) HXV.out
            exact ⟨j, by rw [HT4.out.ts.le] at h1; exact h1, h2⟩
          obtain ⟨j, hj, h2, y, h3, h4⟩ := hx
          have hel := HT4.out.ts.el j hj
          rw [h2, h3] at hel
          have hp0 := HP1.out; have hs0 := HS1.out
          refine ⟨xv, y, ?_, by rw [← HR1.out]; exact h4, hel.head.1, ?_, HB4.out⟩
          · have : p = P := by omega
            rw [this]
          · have : s = s0 + S := by omega
            rw [← this]; exact HT4.out.mo
        clear HT4 HB4 HR1 HP1 HS1 HXV
        go_wp2
        go_ret2
        exact HEND.out
      have hone2 : ((CS : Int) == 1) = false := by simp; omega
      have hone3 : ¬ (CS : Int) = 1 := by omega
      have hone4 : (cnt Q).sum ≠ 1 := by rw [HCS.out]; exact hone
      obtain ⟨f, rfl⟩ : ∃ f, gk = f + 1 := by
        cases gk with
        | zero => exact absurd HGD.out (by simp [good])
        | succ n => exact ⟨n, rfl⟩
      have hG := good_at HGD.out hone4
      obtain ⟨p1, s1, hpl1, hP1, hS1⟩ := poly_next hone4 HPL.out
      have hzero := hG.zero; have hall := hG.all; have hnext := hG.next; have hlt := hG.lt; have hpos := hG.pos
      have HPH4 : Hid (∀ (Pq : Ending → World → Prop), (∀ w', Below w3.heap.size w3 w' → Pq (.returned (.tuple #[.int .i64 (emF (cnt Q) : Nat), .int .i64 (leF (cnt Q) : Nat), .bool true])) w') → Calls Try.prog 41 #[.slice au i cu] w3 Pq) := fun Pq h => HPH3.out.mono fun e w' h2 => by
        obtain ⟨h3, h4⟩ := h2
        rw [h3, hG.e0, hG.ok]
        exact h w' h4
      obtain ⟨ee, hee⟩ : ∃ ee, emF (cnt Q) = ee := ⟨_, rfl⟩
      obtain ⟨m, hm⟩ : ∃ m, leF (cnt Q) = m := ⟨_, rfl⟩
      rw [hee, hm] at hpl1 hS1 hnext
      rw [hee] at hzero hall hlt HPH4
      rw [hm] at hall hpos HPH4
      rw [cnt_get] at hzero
      rw [cnt_len, HLQ.out] at hlt hall
      have hallQ : ∀ j, j < i → j ≠ ee → m ≤ (Q.getD j []).length := fun j hj hne => by rw [← cnt_get]; exact hall j hj hne
      have hm100 : m ≤ 100 := by
        obtain ⟨j, hj, hne⟩ : ∃ j, j < i ∧ j ≠ ee := by
          by_cases h0 : ee = 0
          · exact ⟨1, by omega, by omega⟩
          · exact ⟨0, by omega, by omega⟩
        have h1 := hall j hj hne
        have h2 := getD_sum (cnt Q) j
        have h3 := good_sum HGD.out
        omega
      have HPL1 := Lib.hid hpl1; have HNX := Lib.hid hnext; have HZ := Lib.hid hzero; have HAQ := Lib.hid hallQ
      clear hG hpl1 hnext hzero hall hallQ hee hm HPH3 hone hone4 HPL HGD
      go_wp2_with fail
      refine HPH4.out _ ?_
      intro w4 hb4
      have HT4 := Lib.hid (HT3.out.below E hb4)
      have HB4 := Lib.hid (HB3.out.trans (hb4.mono (Nat.le_trans hBw hw3)))
      have hw4 : w.heap.size ≤ w4.heap.size := Nat.le_trans hw3 hb4.size
      clear hb4 HT3 HB3 HPH4 hw3
      obtain ⟨k', hk'⟩ : ∃ k', k' = i := ⟨_, rfl⟩
      subst hk'
      go_wp2
      go_loopw [39] (fun iv wx => ∃ (q : Nat) (vs : List Value) (es : List (List Value)), iv = .int .i64 q ∧ q ≤ m ∧ TM Ok wx B 24 27 g k' c mb (s + movedF mrg z sz ee Q q) vs es (stepsF mrg z ee Q q) ∧ I (stepsF mrg z ee Q q) ∧ Below B w wx ∧ w.heap.size ≤ wx.heap.size) (fun iv _ => m - (intOf iv).toNat)
      case atStart => exact ⟨0, vs, es, rfl, by omega, HT4.out, HIQ.out, HB4.out, hw4⟩
      case round =>
        obtain ⟨q, vs, es, rfl, hq, hT, hIq, hb, hwr⟩ := hrel
        have HT := Lib.hid hT; have HIq := Lib.hid hIq; have HB := Lib.hid hb
        clear hT hIq hb HT4 HB4 hw4
        by_cases hqm : q < m
        case neg =>
          obtain rfl : q = m := by omega
          have h3 : decide ((q : Int) < (q : Int)) = false := by simp
          have HFA : Hid (good f (cnt (stepsF mrg z ee Q q)) = true) := by show _ = _; rw [steps_after (by rw [HLQ.out]; exact hlt) HZ.out]; exact HNX.out
          have hp100 : p ≤ 100 := by omega
          go_wp2
          go_roundg f
          case measure => omega
          case rel => exact ⟨vs, es, _, p + 1, s + movedF mrg z sz ee Q q, p1, s1, by go_num, by omega, by omega, by omega, HFA.out, HPL1.out, HIq.out, HT.out, HB.out, hwr⟩
        have h3 : decide ((q : Int) < (m : Int)) = true := decide_eq_true (by omega)
        rename World => w5
        obtain ⟨Q1, hQ1⟩ : ∃ Q1, stepsF mrg z ee Q q = Q1 := ⟨_, rfl⟩
        have HSQ : Hid (stepsF mrg z ee Q (q + 1) = stepF mrg z ee Q1) := by show _ = _; rw [stepsF, hQ1]
        have hlq1 : Q1.length = k' := by rw [← hQ1, steps_len]; exact HLQ.out
        have hne1 : ∀ j, j < Q1.length → j ≠ ee → Q1.getD j [] ≠ [] := fun j hj hne he => by
          rw [hlq1] at hj
          have h1 := steps_cnt (mrg := mrg) (z := z) (e := ee) (Q := Q) (by rw [HLQ.out]; exact hlt) (j := j) (by rw [HLQ.out]; exact hj) q
          rw [hQ1, he, if_neg hne] at h1
          have := HAQ.out j hj hne
          have h1' : 0 = (Q.getD j []).length - q := h1
          omega
        rw [hQ1] at HT HIq
        have HMV : Hid (movedF mrg z sz ee Q (q + 1) = movedF mrg z sz ee Q q + sz (mrg (headsTo z ee Q1 Q1.length))) := by show _ = _; rw [movedF, hQ1, hlq1, HLQ.out]
        have hmm := moved_mono (mrg := mrg) (z := z) (sz := sz) (e := ee) (Q := Q) (show q + 1 ≤ m by omega)
        rw [HMV.out] at hmm
        obtain ⟨hI2, hPre⟩ := hI ee Q1 HIq.out (by rw [hlq1]; exact hlt) hne1
        obtain ⟨s2, hs2⟩ : ∃ s2, s + movedF mrg z sz ee Q q = s2 := ⟨_, rfl⟩
        rw [hs2] at HT
        rw [hlq1] at hPre hmm HMV
        have hs2S : s2 + sz (mrg (headsTo z ee Q1 k')) ≤ s0 + S := by omega
        have HI2 := Lib.hid hI2; have HPre := Lib.hid hPre; have HNE := Lib.hid hne1; have HL1 := Lib.hid hlq1; have HS2 := Lib.hid hs2
        have HLT := Lib.hid (HT.out.lt E)
        have E0 := Lib.hid (own_lit (w := w5) (e := 27) (size := 1) #[] 0 (by omega) rfl)
        have hba := (Below.refl w5.heap.size w5).alloc (Nat.le_refl _) (.cells #[] 27)
        have HTA := Lib.hid (HT.out.below E hba)
        have HGA := Lib.hid (grown_of_below (row := some g) hba)
        have HTZ : Hid (tailsTo ee Q1 0 = Q1) := tails_zero
        have HQ1 := Lib.hid hQ1
        clear hQ1 hne1 hmm hI2 hPre hs2 hlq1 hba
        go_wp2
        go_loopw [13, 44] (fun u iv wx => ∃ (i : Nat) (vs : List Value) (es : List (List Value)) (hs : List Value), iv = .int .i64 i ∧ i ≤ k' ∧ TM Ok wx B 24 27 g k' c mb s2 vs es (tailsTo ee Q1 i) ∧ LT w5.heap.size g k' mb vs es ∧ hs.length ≤ i ∧ wx.ownsRow w5.heap.size 27 1 u hs.length hs ∧ (∃ b, u.ownBlock = some b) ∧ HdS Ok wx w5.heap.size g mb (headsTo z ee Q1 i) hs ∧ w5.grownBy wx (some g)) (fun _ iv _ => k' - (intOf iv).toNat)
        case atStart => exact ⟨0, vs, es, [], rfl, by omega, by rw [HTZ.out]; exact HTA.out, HLT.out, by simp, E0.out, ⟨_, rfl⟩, ⟨All2.nil, fun x hx => nomatch hx⟩, HGA.out⟩
        case round =>
          obtain ⟨i, vs, es, hs, rfl, hi, hT, hL, hhl, ho, hob, hh, hgr⟩ := hrel
          have HT := Lib.hid hT; have HLT := Lib.hid hL; have HO := Lib.hid ho; have HOB := Lib.hid hob; have HH := Lib.hid hh; have HGR := Lib.hid hgr
          have hw5 : w5.heap.size ≤ wr.heap.size := hgr.size
          clear hT hL ho hob hh hgr HTA HGA E0
          by_cases hik : i < k'
          · have h4 : decide ((i : Int) < (k' : Int)) = true := decide_eq_true (by omega)
            have b0 : (0 : Int) ≤ (i : Int) := by omega
            have b1 : (i : Int) < (k' : Int) := by omega
            by_cases hie : i = ee
            · subst hie
              have hcv := HT.out.ts.cellAt hik
              obtain ⟨a1, c1, hv⟩ := (HT.out.ts.q i hik).shape
              rw [hv] at hcv
              generalize (es.getD i []).length = n1 at hcv
              have HTK : Hid (tailsTo i Q1 (i + 1) = tailsTo i Q1 i) := tails_skip
              have HHK : Hid (headsTo z i Q1 (i + 1) = headsTo z i Q1 i) := heads_skip
              have h5 : ((i : Int) != (i : Int)) = false := by simp
              clear hv
              go_wp2
              go_roundw
              case rel => exact ⟨i + 1, vs, es, hs, by go_num, by omega, by rw [HTK.out]; exact HT.out, HLT.out, by omega, HO.out, HOB.out, by rw [HHK.out]; exact HH.out, HGR.out⟩
              case measure => simp [intOf] <;> omega
            · have h5 : ((i : Int) != (ee : Int)) = true := by simp; omega
              have hne2 : ¬ (i : Int) = (ee : Int) := by omega
              have hqi : (tailsTo ee Q1 i).getD i [] = Q1.getD i [] := tails_same (.inl (Nat.le_refl _)) (by rw [HL1.out]; exact hik)
              obtain ⟨y, qt, x, et, gb, off, cap, hy, hex, hv, hle, hcm, hcx, hok, hbl, hcv, hgb, hgbL⟩ := HT.out.head E HLT.out hik (by rw [hqi]; exact HNE.out i (by rw [HL1.out]; exact hik) hie)
              rw [hqi] at hy
              obtain ⟨xa, xn, xd, rfl⟩ := hSh hok
              have HTK : Hid (tailsTo ee Q1 (i + 1) = (tailsTo ee Q1 i).set i qt) := tails_succ (by rw [HL1.out]; exact hik) hie hy
              have HHK : Hid (headsTo z ee Q1 (i + 1) = headsTo z ee Q1 i ++ [y]) := heads_succ hie hy
              have HY : Hid ((tailsTo ee Q1 i).getD i [] = y :: qt) := hqi.trans hy
              have HEX := Lib.hid hex; have HV := Lib.hid hv; have HOK := Lib.hid hok; have HBL := Lib.hid hbl
              have hx1 : (.slice xa xn xd : Value).oneCell' = true := E.one hok
              obtain ⟨n1, hn1⟩ : ∃ n1, et.length = n1 := ⟨_, rfl⟩
              have HN1 := Lib.hid hn1
              rw [hn1] at HV hle hcv
              obtain ⟨W1, hW1⟩ : ∃ W1, (wr.alloc (.cells #[.slice xa xn xd] 27)).drew = W1 := ⟨_, rfl⟩
              have hb1 : Below wr.heap.size wr W1 := by rw [← hW1]; exact ((Below.refl _ _).alloc (Nat.le_refl _) _).drew
              have HB1 := Lib.hid hb1
              have HO1 : Hid (W1.ownsRow w5.heap.size 27 1 u13 hs.length hs) := own_below HO.out (Nat.le_refl _) hb1
              have HCN : Hid (∀ j u, [.slice xa xn xd][j]? = some u → W1.cell? ((⟨wr.heap.size, 0, none⟩ : Addr).add j) = some u) := by rw [← hW1]; exact cells_new wr [.slice xa xn xd] 27
              have hw1 : w5.heap.size ≤ W1.heap.size := Nat.le_trans hw5 hb1.size
              have HKC : Hid (∀ W, (∃ row, wr.grownBy W row ∧ ∀ b, row = some b → w5.heap.size ≤ b) → W.cell? ⟨gb, off, none⟩ = some (.slice xa xn xd) ∧ W.cell? ⟨g, i, none⟩ = some (.slice (some ⟨gb, off, none⟩) (n1 + 1) (cap + 1)) ∧ TM Ok W B 24 27 g k' c mb s2 vs es (tailsTo ee Q1 i)) := fun W ⟨row, hg, hr⟩ => by
                have hTW := HT.out.keptL E HLT.out hg hr
                obtain ⟨y', qt', x', et', gb', off', cap', hy', hex', hv', _, _, hcx', _, _, hcv', _, _⟩ := hTW.head E HLT.out hik (by rw [HY.out]; simp)
                rw [HEX.out] at hex'
                rw [HV.out] at hv'
                injection hex' with e1 e2
                injection hv' with e3 _ _
                injection e3 with e3
                injection e3 with e3 e4 _
                subst e1; subst e2; subst e3; subst e4
                have hcv2 := hTW.ts.cellAt hik
                rw [HV.out] at hcv2
                exact ⟨hcx', hcv2, hTW⟩
              have hKW := HKC.out W1 ⟨none, grown_of_below HB1.out, fun b e => nomatch e⟩
              have kw1 := hKW.1; have kw2 := hKW.2.1
              clear hKW
              have HUB : Hid (∀ b, u13.ownBlock = some b → w5.heap.size ≤ b) := fun b e => (HO.out.lt b e).1
              have b2 : (0 : Int) < (n1 : Int) + 1 := by omega
              have b3 : (1 : Int) ≤ (n1 : Int) + 1 := by omega
              have b4 : (n1 : Int) + 1 ≤ (cap : Int) + 1 := by omega
              have b5 : (1 : Int) ≤ (cap : Int) + 1 := by omega
              have hsm : hs.length + 1 ≤ 1099511627776 := by omega
              clear hqi hy hex hv hok hbl hn1 hb1 hgbL
              by_cases hc0 : cap = 0
              · subst hc0
                obtain rfl : n1 = 0 := by omega
                have HTL : Hid (∀ W, TM Ok W B 24 27 g k' c mb s2 vs es (tailsTo ee Q1 i) → QRow W B 27 (.slice (some ⟨gb, off, none⟩) 0 0) et) := fun W h => by
                  have := h.ts.q i hik
                  rw [HV.out, HEX.out] at this
                  have he : et = [] := List.length_eq_zero_iff.1 HN1.out
                  rw [he] at this ⊢
                  exact this.tail0
                have hcv : wr.cell? ⟨g, i, none⟩ = some (.slice (some ⟨gb, off, none⟩) 1 1) := hcv
                have kw2 : W1.cell? ⟨g, i, none⟩ = some (.slice (some ⟨gb, off, none⟩) 1 1) := kw2
                go_wp2_with fail
                go_region_held3 (fun w' => w'.cell? ⟨gb, off, none⟩ = some (.slice xa xn xd)) (first | assumption | go_keep)
                  (first | (refine step_appX slTap (by rfl) _ _ (by rfl) w5.heap.size u13 hs.length hs _ 1 _ [.slice xa xn xd] (by rfl) HO1.out (by rfl) rfl HCN.out (by simpa using hx1) hsm hw1 ?_
                            intro v7 w7 hown7 hg7 ht7
                            have HG7 := Lib.hid (grown_trans (grown_of_below HB1.out) hg7); have HO7 := Lib.hid hown7; have HT7 := Lib.hid ht7
                            have hKC := HKC.out w7 ⟨_, HG7.out, HUB.out⟩
                            have k1 := hKC.1; have k2 : w7.cell? ⟨g, i, none⟩ = some (.slice (some ⟨gb, off, none⟩) 1 1) := hKC.2.1; have HTM := Lib.hid hKC.2.2
                            have k3 := (HTM.out.ts.store i (.slice (some ⟨gb, off, none⟩) 0 0)).2.2
                            have k4 : (w7.setCell ⟨g, i, none⟩ (.slice (some ⟨gb, off, none⟩) 0 0)).cell? ⟨gb, off, none⟩ = some (.slice xa xn xd) := (World.cell?_of_block (a := ⟨gb, off, none⟩) (Below.heap_setCell w7 ⟨g, i, none⟩ _ gb hgb)).trans k1
                            clear hown7 hg7 ht7 hKC))
                have st := HTM.out.ts.store i (.slice (some ⟨gb, off, none⟩) 0 0)
                have hvb : (.slice (some ⟨gb, off, none⟩) 0 0 : Value).ownBlock = (vs.getD i undef).ownBlock := by rw [HV.out]; rfl
                have HTC := Lib.hid (HTM.out.cut E hik HEX.out HY.out (HTL.out w7 HTM.out) hvb st.1 st.2.1)
                have HLC := Lib.hid (HLT.out.cut HT.out.ts.lv HT.out.ts.le hik HEX.out hvb)
                have hgL := HLT.out.1
                have HOC : Hid ((w7.setCell ⟨g, i, none⟩ (.slice (some ⟨gb, off, none⟩) 0 0)).ownsRow w5.heap.size 27 1 v7 (hs ++ [(.slice xa xn xd : Value)]).length (hs ++ [(.slice xa xn xd : Value)])) := by
                  rw [List.length_append]
                  exact own_other HO7.out st.2.1 (fun b hb e => by injection e with e; have := (HO7.out.lt b hb).1; omega)
                have HOBC : Hid (∃ b, v7.ownBlock = some b) := by
                  rcases HT7.out with h | h
                  · exact HOB.out.imp fun b hb => h.trans hb
                  · exact ⟨_, h⟩
                have HHC := Lib.hid (((HH.out.kept E HG7.out (fun b hb => .inl (HUB.out b hb))).kept E st.2.1 (fun b hb => .inr (by injection hb with hb; exact hb.symm))).snoc (E.kept (E.kept HOK.out HG7.out (fun b hb e => by have := HUB.out b e; have := HBL.out b hb; omega)) st.2.1 (fun b hb e => by injection e with e; exact (HBL.out b hb).2.1 e.symm)) HBL.out)
                have HGC := Lib.hid (grown_trans (grown_new HGR.out HG7.out HUB.out) st.2.1)
                have hhl2 : (hs ++ [(.slice xa xn xd : Value)]).length ≤ i + 1 := by simp; omega
                clear st hvb k1 k2 k3 k4 hcx hcv kw1 kw2
                go_wp2
                go_roundw
                case rel => exact ⟨i + 1, vs.set i (.slice (some ⟨gb, off, none⟩) 0 0), es.set i et, hs ++ [(.slice xa xn xd : Value)], by go_num, by omega, by rw [HTK.out]; exact HTC.out, HLC.out, hhl2, HOC.out, HOBC.out, by rw [HHK.out]; exact HHC.out, HGC.out⟩
                case measure => simp [intOf] <;> omega
              · obtain ⟨cap1, rfl⟩ : ∃ c1, cap = c1 + 1 := ⟨cap - 1, by omega⟩
                clear hc0
                have HTL : Hid (∀ W, TM Ok W B 24 27 g k' c mb s2 vs es (tailsTo ee Q1 i) → QRow W B 27 (.slice (some ⟨gb, off + 1, none⟩) n1 (cap1 + 1)) et) := fun W h => by
                  have := h.ts.q i hik
                  rw [HV.out, HEX.out, ← HN1.out] at this
                  rw [← HN1.out]
                  exact this.tail
                have b6 : ¬ (cap1 + 1 + 1 = 1) := by omega
                have b7 : ¬ (1 = cap1 + 1 + 1) := by omega
                have hcv : wr.cell? ⟨g, i, none⟩ = some (.slice (some ⟨gb, off, none⟩) (n1 + 1) (cap1 + 1 + 1)) := hcv
                have kw2 : W1.cell? ⟨g, i, none⟩ = some (.slice (some ⟨gb, off, none⟩) (n1 + 1) (cap1 + 1 + 1)) := kw2
                go_wp2_with fail
                go_region_held3 (fun w' => w'.cell? ⟨gb, off, none⟩ = some (.slice xa xn xd)) (first | assumption | go_keep)
                  (first | (refine step_appX slTap (by rfl) _ _ (by rfl) w5.heap.size u13 hs.length hs _ 1 _ [.slice xa xn xd] (by rfl) HO1.out (by rfl) rfl HCN.out (by simpa using hx1) hsm hw1 ?_
                            intro v7 w7 hown7 hg7 ht7
                            have HG7 := Lib.hid (grown_trans (grown_of_below HB1.out) hg7); have HO7 := Lib.hid hown7; have HT7 := Lib.hid ht7
                            have hKC := HKC.out w7 ⟨_, HG7.out, HUB.out⟩
                            have k1 := hKC.1; have k2 : w7.cell? ⟨g, i, none⟩ = some (.slice (some ⟨gb, off, none⟩) (n1 + 1) (cap1 + 1 + 1)) := hKC.2.1; have HTM := Lib.hid hKC.2.2
                            have k3 := (HTM.out.ts.store i (.slice (some ⟨gb, off + 1, none⟩) n1 (cap1 + 1))).2.2
                            have k4 : (w7.setCell ⟨g, i, none⟩ (.slice (some ⟨gb, off + 1, none⟩) n1 (cap1 + 1))).cell? ⟨gb, off, none⟩ = some (.slice xa xn xd) := (World.cell?_of_block (a := ⟨gb, off, none⟩) (Below.heap_setCell w7 ⟨g, i, none⟩ _ gb hgb)).trans k1
                            clear hown7 hg7 ht7 hKC))
                have st := HTM.out.ts.store i (.slice (some ⟨gb, off + 1, none⟩) n1 (cap1 + 1))
                have hvb : (.slice (some ⟨gb, off + 1, none⟩) n1 (cap1 + 1) : Value).ownBlock = (vs.getD i undef).ownBlock := by rw [HV.out]; rfl
                have HTC := Lib.hid (HTM.out.cut E hik HEX.out HY.out (HTL.out w7 HTM.out) hvb st.1 st.2.1)
                have HLC := Lib.hid (HLT.out.cut HT.out.ts.lv HT.out.ts.le hik HEX.out hvb)
                have hgL := HLT.out.1
                have HOC : Hid ((w7.setCell ⟨g, i, none⟩ (.slice (some ⟨gb, off + 1, none⟩) n1 (cap1 + 1))).ownsRow w5.heap.size 27 1 v7 (hs ++ [(.slice xa xn xd : Value)]).length (hs ++ [(.slice xa xn xd : Value)])) := by
                  rw [List.length_append]
                  exact own_other HO7.out st.2.1 (fun b hb e => by injection e with e; have := (HO7.out.lt b hb).1; omega)
                have HOBC : Hid (∃ b, v7.ownBlock = some b) := by
                  rcases HT7.out with h | h
                  · exact HOB.out.imp fun b hb => h.trans hb
                  · exact ⟨_, h⟩
                have HHC := Lib.hid (((HH.out.kept E HG7.out (fun b hb => .inl (HUB.out b hb))).kept E st.2.1 (fun b hb => .inr (by injection hb with hb; exact hb.symm))).snoc (E.kept (E.kept HOK.out HG7.out (fun b hb e => by have := HUB.out b e; have := HBL.out b hb; omega)) st.2.1 (fun b hb e => by injection e with e; exact (HBL.out b hb).2.1 e.symm)) HBL.out)
                have HGC := Lib.hid (grown_trans (grown_new HGR.out HG7.out HUB.out) st.2.1)
                have hhl2 : (hs ++ [(.slice xa xn xd : Value)]).length ≤ i + 1 := by simp; omega
                clear st hvb k1 k2 k3 k4 hcx hcv kw1 kw2
                go_wp2
                go_roundw
                case rel => exact ⟨i + 1, vs.set i (.slice (some ⟨gb, off + 1, none⟩) n1 (cap1 + 1)), es.set i et, hs ++ [(.slice xa xn xd : Value)], by go_num, by omega, by rw [HTK.out]; exact HTC.out, HLC.out, hhl2, HOC.out, HOBC.out, by rw [HHK.out]; exact HHC.out, HGC.out⟩
                case measure => simp [intOf] <;> omega
          obtain rfl : i = k' := by omega
          have h4 : decide ((i : Int) < (i : Int)) = false := by simp
          have hlen : hs.length = (headsTo z ee Q1 i).length := HH.out.ok.1.symm
          have hpos2 : 0 < hs.length := by rw [hlen]; exact heads_pos (by omega)
          obtain ⟨au2, cu2, rfl⟩ := own_slice HO.out
          obtain ⟨gu, rfl, hgu1, hgu2, hguc⟩ := own_cell HO.out hpos2
          have hcap := (own_capG HO.out).1
          obtain ⟨xs, hxs⟩ : ∃ xs, headsTo z ee Q1 i = xs := ⟨_, rfl⟩
          rw [hxs] at HH HPre hs2S HMV
          obtain ⟨n, hn⟩ : ∃ n, hs.length = n := ⟨_, rfl⟩
          have HN := Lib.hid hn
          rw [hn] at hpos2 hcap hguc hhl ⊢
          obtain ⟨Q2, hQ2⟩ : ∃ Q2, tailsTo ee Q1 i = Q2 := ⟨_, rfl⟩
          have HQ2 : Hid ((Q2.set ee (Q1.getD ee [] ++ [mrg xs])) = stepF mrg z ee Q1) := by show _ = _; unfold stepF; rw [HL1.out, hQ2, hxs]
          have HQE : Hid (Q2.getD ee [] = Q1.getD ee []) := by show _ = _; rw [← hQ2]; exact tails_same (.inr rfl) (by rw [HL1.out]; exact hlt)
          rw [hQ2] at HT
          have hmbL := HLT.out.2.1
          have hru : gu ≠ mb := by omega
          have hcv := HT.out.ts.cellAt hlt
          obtain ⟨ae, ce, hve⟩ := (HT.out.ts.q ee hlt).shape
          obtain ⟨ne, hne⟩ : ∃ ne, (es.getD ee []).length = ne := ⟨_, rfl⟩
          rw [hne] at hve
          have HVE := Lib.hid hve; have HNL := Lib.hid hne
          rw [hve] at hcv
          have hne1k : ne + 1 ≤ 1099511627776 := by
            have h1 := (HT.out.ts.el ee hlt).1
            rw [HQE.out, hne] at h1
            have h2 := steps_cnt (mrg := mrg) (z := z) (e := ee) (Q := Q) (by rw [HLQ.out]; exact hlt) (j := ee) (by rw [HLQ.out]; exact hlt) q
            rw [if_pos rfl, HZ.out] at h2
            have h3 := HQ1.out
            rw [h3] at h2
            omega
          have HCL2 : Hid (∀ W, Below wr.heap.size wr W → Calls Try.prog 23 #[.slice (some ⟨gu, 0, none⟩) n cu2, .pointer (some ⟨mb, 0, none⟩)] W fun e w' => ∃ v', e = .returned v' ∧ Hid (Ok w' (mrg xs) v') ∧ Hid (MB w' mb (s2 + sz (mrg xs))) ∧ Hid (W.grownBy w' (some mb)) ∧ Hid (∀ b, v'.ownBlock = some b → W.heap.size ≤ b)) := fun W hW => by
            have hOW := own_below HO.out (Nat.le_refl _) hW
            refine (hF.call W gu n cu2 xs hs s2 HN.out hpos2 (by omega) hcap (fun j u hu => ?_) (Nat.lt_of_lt_of_le hgu2 hW.size) hru (HH.out.below E hW).ok (fun u hu e => (HH.out.bl u hu mb e).2.2 rfl) HPre.out (HT.out.mo.below hW) (by omega)).mono fun e w' ⟨v', h1, h2, h3, h4, h5⟩ => ⟨v', h1, Lib.hid h2, Lib.hid h3, Lib.hid h4, Lib.hid h5⟩
            have := hOW.cells (g := gu) rfl j u hu
            rwa [addr_add_zero] at this
          have hc2 := HC.out gu n cu2
          have HX1 := Lib.hid hxs
          clear hxs hQ2 hn hguc hve hne
          have HSM := Lib.hid hne1k
          have hwrd : wr.drew.cell? ⟨g, ee, none⟩ = some (.slice ae ne ce) := hcv
          have hBr : B ≤ wr.heap.size := by omega
          clear hne1k hpos2
          go_wp2_with fail
          go_region_law (first
            | (go_simp; go_at_call 23
               refine (HCL2.out wr.drew (Below.refl _ _).drew).mono ?_
               rintro e w6 ⟨v6, rfl, h6a, h6b, h6c, h6d⟩
               have HG6 : Hid (wr.grownBy w6 (some mb)) := by first | exact h6c | exact Lib.hid (grown_trans (grown_of_below (row := some mb) (Below.refl wr.heap.size wr).drew) h6c.out)
               have HD6 : Hid (∀ b, v6.ownBlock = some b → wr.heap.size ≤ b) := h6d
               have HT6 : Hid (TM Ok w6 B 24 27 g i c mb (s2 + sz (mrg xs)) vs es Q2) := ⟨HT.out.ts.kept E HG6.out (fun b hb => by injection hb with hb; rw [← hb]; exact HT.out.far), HT.out.far, h6b.out⟩
               have k1 := HT6.out.ts.cellAt hlt
               rw [HVE.out] at k1
               obtain ⟨ya, yn, yd, rfl⟩ := hSh h6a.out
               obtain ⟨W2, hW2⟩ : ∃ W2, w6.alloc (.cells #[.slice ya yn yd] 27) = W2 := ⟨_, rfl⟩
               have HB7 : Hid (Below w6.heap.size w6 W2) := by show Below _ _ _; rw [← hW2]; exact (Below.refl _ _).alloc (Nat.le_refl _) _
               have HQ7 : Hid (QRow W2 B 27 (.slice ae ne ce) (es.getD ee [])) := by
                 have := (HT6.out.ts.q ee hlt).below HB7.out
                 rwa [HVE.out] at this
               have k2 := (HT6.out.ts.below E HB7.out).cellAt hlt
               rw [HVE.out] at k2
               have k3 : W2.cell? ⟨w6.heap.size, 0, none⟩ = some (.slice ya yn yd) := by rw [← hW2]; exact cells_new w6 [.slice ya yn yd] 27 0 _ rfl
               have k4 : B ≤ W2.heap.size := Nat.le_trans hBr (Nat.le_trans HG6.out.size HB7.out.size)
               have H6A := Lib.hid h6a.out
               clear h6a h6b h6c h6d)
            | (refine step_appQ slTap (by rfl) _ _ (by rfl) B (.slice ae ne ce) (es.getD ee []) ⟨w6.heap.size, 0, none⟩ 1 (.slice ya yn yd) (by rfl) HQ7.out (by rfl) k3 (by rfl) (by rw [HNL.out]; exact HSM.out) k4 ?_
               intro v8 w8 hq8 hg8 ht8
               have hsh8 : ∃ a n d, v8 = .slice a n d := hq8.shape.elim fun a h => h.elim fun c h => ⟨a, _, c, h⟩
               obtain ⟨a8, n8, c8, rfl⟩ := hsh8
               have hA := HT6.out.appd hlt HVE.out HB7.out hg8
               have HQ8 := Lib.hid hq8; have HG8 := Lib.hid hA.1; have HT8 := Lib.hid ht8; have HRW := Lib.hid hA.2.1
               have k5 := hA.2.2.1; have k6 := hA.2.2.2
               clear hq8 hg8 ht8 hA))
          all_goals
            have st := HRW.out.stored ee (.slice a8 n8 c8)
            have hmbw := HT.out.mo.lt
            have HBLK : Hid (∀ b, (Value.slice ae ne ce).ownBlock = some b → B ≤ b ∧ b < w6.heap.size) := fun b e => (HT6.out.ts.lt E).2.1 ee hlt b (by rw [HVE.out]; exact e)
            have HPU := Lib.hid (HT6.out.push E hlt (y := mrg xs) (x := .slice ya yn yd) H6A.out (fun b hb => ⟨HT.out.ts.fresh E (HD6.out b hb), by have := HD6.out b hb; omega⟩) HQ8.out (by rw [HVE.out]; exact HG8.out) (by
              rw [HVE.out]
              rcases HT8.out with h | h
              · exact .inl h
              · exact .inr ⟨_, h, HB7.out.size⟩) st.1 st.2)
            have HBF := Lib.hid ((((HB.out.grown HGR.out (Nat.le_trans hBw hwr) (fun b e => by injection e with e; omega)).grown HG6.out hBr (fun b e => by injection e with e; omega)).grown HG8.out (Nat.le_trans hBr HG6.out.size) (fun b e => (HBLK.out b e).1)).grown st.2 (Nat.le_trans (Nat.le_trans hBr HG6.out.size) HG8.out.size) (fun b e => by injection e with e; omega))
            have hwf : w.heap.size ≤ (w8.setCell ⟨g, ee, none⟩ (.slice a8 n8 c8)).heap.size := Nat.le_trans (Nat.le_trans (Nat.le_trans (Nat.le_trans hwr hw5) HG6.out.size) HG8.out.size) st.2.size
            have HQF : Hid (Q2.set ee (Q2.getD ee [] ++ [mrg xs]) = stepsF mrg z ee Q (q + 1)) := by show _ = _; rw [HQE.out, HQ2.out, HSQ.out]
            have HSF : Hid (s2 + sz (mrg xs) = s + movedF mrg z sz ee Q (q + 1)) := by
              show _ = _
              have h1 := HMV.out; have h2 := HS2.out
              omega
            have HIF : Hid (I (stepsF mrg z ee Q (q + 1))) := by show I _; rw [HSQ.out]; exact HI2.out
            rw [HQF.out, HSF.out] at HPU
            clear st k1 k2 k3 k5 k6
            go_wp2
            go_roundw
            case rel => exact ⟨q + 1, _, _, by go_num, by omega, HPU.out, HIF.out, HBF.out, hwf⟩
            case measure => simp [intOf] <;> omega

end Go.Proofs.Ytcdfinkefahloaa

