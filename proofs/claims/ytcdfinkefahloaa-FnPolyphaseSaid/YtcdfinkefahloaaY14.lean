/- Several texts in one: lemmas and walks of the functions that the law reaches. -/
import Derived.Test.YtcdfinkefahloaaY3
import Derived.Test.YtcdfinkefahloaaY8
import Derived.Test.YtcdfinkefahloaaY10
import Derived.Lib.AppendZeros

namespace Go.Proofs.Ytcdfinkefahloaa
open Go.RowKit
set_option linter.unusedVariables false
theorem growI_any (k : Nat) (K : Int) (hK : K = (k : Int)) (w : World) (hk : k ≤ 1000000) :
    Calls Try.prog 61 #[.slice none 0 0, .int .i64 K] w fun e w' => ∃ v, e = .returned v ∧ w'.ownsRow w.heap.size 3 1 v 0 [] ∧ Below w.heap.size w w' := by
  subst hK
  obtain ⟨i, hi, hz, hs, hby⟩ := (slInt).info
  by_cases h0 : k = 0
  · subst h0
    go_enter Try.func61, Try.ntmps61
    go_wp2
    go_ret
    exact ⟨_, rfl, ⟨rfl, .inl ⟨rfl, rfl⟩⟩, Below.refl _ _⟩
  · have hr := fun W => Lib.run_append_nil_zeros (P := Try.prog) W 49 3 49 3 i _ .i64 .i64 slInt.und (by kernel_rfl) hi hz k (by omega) (by rw [hs]; omega) (by omega) (by rw [hby]; omega)
    go_enter Try.func61, Try.ntmps61
    go_wp2_with (at_builtin; refine Lib.wpList_append_run _ rfl _ _ _ _ rfl _ _ rfl rfl _ _ (hr _) ?_)
    go_ret
    have hcap1 := grownCap_ge w k 0 3
    have hcap2 := grownCap_le_maxLen w k 0 3 (by unfold maxLen; omega)
    refine ⟨_, rfl, ⟨rfl, .inr ⟨w.heap.size, _, _, rfl, Nat.le_refl _, heap_alloc_new w _, Nat.zero_le _, hcap2, ?_, by simp⟩⟩, ?_⟩
    · simp only [Array.size_append, size_zeroCells]
      show k * 1 + (grownCap w k 0 3 - k) * 1 = _
      omega
    · exact ((Below.refl w.heap.size w).alloc (Nat.le_refl _) _).drew

set_option maxRecDepth 100000 in
set_option maxHeartbeats 4000000 in
theorem concatI_any {α : Type} {Ok : World → α → Value → Prop} (E : ElOk Ok) (B g k c : Nat) (vs : List Value) (es : List (List Value)) (Q : List (List α)) (w : World) (hk : k ≤ 1000) (hn : es.flatten.length ≤ 1000) (h : TS Ok w B 49 3 g k c vs es Q) :
    Calls Try.prog 51 #[.slice (some ⟨g, 0, none⟩) k c] w fun e w' => ∃ v, e = .returned v ∧ w'.ownsRow w.heap.size 3 1 v es.flatten.length es.flatten ∧ Below w.heap.size w w' := by
  have HT := Lib.hid h
  have HLE := Lib.hid h.le
  obtain ⟨n, hnn⟩ : ∃ n, es.flatten.length = n := ⟨_, rfl⟩
  have HN := Lib.hid hnn
  rw [hnn] at hn ⊢
  have HTK : Hid (∀ i, i < k → (es.take (i + 1)).flatten = (es.take i).flatten ++ es.getD i []) := fun i hi => by
    have : i < es.length := by rw [HLE.out]; exact hi
    rw [List.take_succ_eq_append_getElem this, List.flatten_append, List.getD_eq_getElem?_getD, List.getElem?_eq_getElem this]
    simp
  have HTL : Hid (∀ i, ((es.take i).flatten).length ≤ n) := fun i => by
    rw [← HN.out]
    conv => rhs; rw [← List.take_append_drop i es]
    rw [List.flatten_append, List.length_append]; omega
  have HEND : Hid ((es.take k).flatten = es.flatten) := by show _ = _; rw [List.take_of_length_le (by rw [HLE.out]; exact Nat.le_refl _)]
  have HVC : Hid (∀ i, i < k → ∀ W, Below w.heap.size w W → W.cell? ⟨g, i, none⟩ = some (vs.getD i undef)) := fun i hi W hb => by
    have hl := HT.out.lv
    refine (hb.cell (p := ⟨g, i, none⟩) (HT.out.row.lt g rfl).2).trans ?_
    have := HT.out.row.cells (g := g) rfl i (vs.getD i undef) (by rw [List.getD_eq_getElem?_getD, List.getElem?_eq_getElem (by omega)]; rfl)
    rwa [addr_add_zero] at this
  clear h hnn
  go_enter Try.func51, Try.ntmps51
  go_wp2
  go_loopw [3, 11] (fun s v wr => ∃ (i N : Nat), wr = w ∧ i ≤ k ∧ N = ((es.take i).flatten).length ∧ s = .int .i64 N ∧ v = .int .i64 i) (fun s v _ => k - (intOf v).toNat)
  case atStart => exact ⟨0, 0, rfl, by omega, rfl, rfl, rfl⟩
  case round =>
    obtain ⟨i, N, rfl, hi, hN, rfl, rfl⟩ := hrel
    have hNn : N ≤ n := by rw [hN]; exact HTL.out i
    have HNN := Lib.hid hN
    clear hN
    by_cases hik : i < k
    · have h3 : decide ((i : Int) < (k : Int)) = true := decide_eq_true (by omega)
      have b0 : (0 : Int) ≤ (i : Int) := by omega
      have b1 : (i : Int) < (k : Int) := by omega
      have cv := HVC.out i hik _ (Below.refl _ _)
      obtain ⟨a1, c1, hv⟩ := (HT.out.q i hik).shape
      rw [hv] at cv
      have hstep : N + (es.getD i []).length = ((es.take (i + 1)).flatten).length := by rw [HTK.out i hik, List.length_append, HNN.out]
      have hle2 : N + (es.getD i []).length ≤ n := by rw [hstep]; exact HTL.out (i + 1)
      have HST := Lib.hid hstep
      clear hv hstep
      generalize (es.getD i []).length = m at cv hle2 HST
      have b2 : ¬ (N : Int) + (m : Int) < 0 := by omega
      have b3 : decide ((N : Int) + (m : Int) < 0) = false := decide_eq_false b2
      go_wp2
      go_roundw
      case rel => exact ⟨i + 1, N + m, trivial, by omega, HST.out, by go_num, by go_num⟩
      case measure => simp [intOf] <;> omega
    · obtain rfl : i = k := by omega
      have h3 : decide ((i : Int) < (i : Int)) = false := by simp
      go_wp2_with fail
      refine (growI_any N _ rfl wr (by omega)).mono ?_
      rintro e w1 ⟨v, rfl, ho, hb⟩
      have HO := Lib.hid ho
      have HB := Lib.hid hb
      clear ho hb
      go_wp2
      go_loopw [6, 27] (fun v iv w2 => ∃ (j : Nat), iv = .int .i64 j ∧ j ≤ i ∧ w2.ownsRow wr.heap.size 3 1 v ((es.take j).flatten).length ((es.take j).flatten) ∧ Below wr.heap.size wr w2) (fun v iv _ => i - (intOf iv).toNat)
      case atStart => exact ⟨0, rfl, by omega, HO.out, HB.out⟩
      case round =>
        obtain ⟨j, rfl, hj, ho, hb⟩ := hrel
        have HO2 := Lib.hid ho
        have HB2 := Lib.hid hb
        clear ho hb HO HB
        by_cases hjk : j < i
        · have h4 : decide ((j : Int) < (i : Int)) = true := decide_eq_true (by omega)
          have b0 : (0 : Int) ≤ (j : Int) := by omega
          have b1 : (j : Int) < (i : Int) := by omega
          have cv := HVC.out j hjk _ HB2.out
          have HQ2 := Lib.hid ((HT.out.q j hjk).below HB2.out)
          have HTJ := Lib.hid (HTK.out j hjk)
          have hlj : ((es.take j).flatten).length + (es.getD j []).length ≤ n := by have := HTL.out (j + 1); rw [HTK.out j hjk, List.length_append] at this; exact this
          have HON : Hid (∀ x ∈ es.getD j [], x.oneCell' = true) := fun x hx => by
            obtain ⟨y, hy⟩ := (HT.out.el j hjk).mem_ok hx
            exact E.one hy
          have hsz := HB2.out.size
          obtain ⟨a1, c1, hv⟩ := HQ2.out.shape
          rw [hv] at cv HQ2
          obtain ⟨ej, hej⟩ : ∃ ej, es.getD j [] = ej := ⟨_, rfl⟩
          obtain ⟨fj, hfj⟩ : ∃ fj, (es.take j).flatten = fj := ⟨_, rfl⟩
          rw [hej] at cv HQ2 HTJ HON hlj
          rw [hfj] at HO2 HTJ hlj
          have hsm : fj.length + ej.length ≤ 1099511627776 := by omega
          clear hv hlj hej hfj
          go_wp2_with (at_builtin; refine wpList_appU slInt rfl _ _ rfl rfl HO2.out rfl HQ2.out HON.out hsm hsz ?_; intro v' w7 hown' hg' ht'; generalize hGG : wpList _ _ _ _ _ _ = GG)
          have HB8 := Lib.hid (HB2.out.grown hg' HB2.out.size (fun b e => (HO2.out.lt b e).1))
          have HO8 := Lib.hid hown'
          clear hown' hg' ht' HO2 HB2
          rw [← hGG]
          clear hGG GG
          go_wp2
          go_roundw
          case rel => exact ⟨j + 1, by go_num, by omega, by rw [HTJ.out, List.length_append]; exact HO8.out, HB8.out⟩
          case measure => simp [intOf] <;> omega
        · obtain rfl : j = i := by omega
          have h4 : decide ((j : Int) < (j : Int)) = false := by simp
          rw [HEND.out] at HO2
          rw [HN.out] at HO2
          go_wp2
          go_ret
          exact ⟨_, rfl, HO2.out, HB2.out⟩
end Go.Proofs.Ytcdfinkefahloaa

namespace Go.Proofs.Ytcdfinkefahloaa
open Go.RowKit
set_option linter.unusedVariables false
theorem infoTap : (Try.prog.info? 27).map (fun i => (i.zero, i.size, i.bytes)) = some (some (.slice none 0 0), 1, 24) := by kernel_rfl
theorem slTap : SlT Try.prog 24 27 (.slice none 0 0) 1 24 := ⟨Try.underlying24, info_parts infoTap, rfl, by decide, by decide⟩
theorem growT_any (k : Nat) (K : Int) (hK : K = (k : Int)) (w : World) (hk : k ≤ 1000000) :
    Calls Try.prog 55 #[.slice none 0 0, .int .i64 K] w fun e w' => ∃ v, e = .returned v ∧ w'.ownsRow w.heap.size 27 1 v 0 [] ∧ Below w.heap.size w w' := by
  subst hK
  obtain ⟨i, hi, hz, hs, hby⟩ := (slTap).info
  by_cases h0 : k = 0
  · subst h0
    go_enter Try.func55, Try.ntmps55
    go_wp2
    go_ret
    exact ⟨_, rfl, ⟨rfl, .inl ⟨rfl, rfl⟩⟩, Below.refl _ _⟩
  · have hr := fun W => Lib.run_append_nil_zeros (P := Try.prog) W 24 3 24 27 i _ .i64 .i64 slTap.und (by kernel_rfl) hi hz k (by omega) (by rw [hs]; omega) (by omega) (by rw [hby]; omega)
    go_enter Try.func55, Try.ntmps55
    go_wp2_with (at_builtin; refine Lib.wpList_append_run _ rfl _ _ _ _ rfl _ _ rfl rfl _ _ (hr _) ?_)
    go_ret
    have hcap1 := grownCap_ge w k 0 27
    have hcap2 := grownCap_le_maxLen w k 0 27 (by unfold maxLen; omega)
    refine ⟨_, rfl, ⟨rfl, .inr ⟨w.heap.size, _, _, rfl, Nat.le_refl _, heap_alloc_new w _, Nat.zero_le _, hcap2, ?_, by simp⟩⟩, ?_⟩
    · simp only [Array.size_append, size_zeroCells]
      show k * 1 + (grownCap w k 0 27 - k) * 1 = _
      omega
    · exact ((Below.refl w.heap.size w).alloc (Nat.le_refl _) _).drew

set_option maxRecDepth 100000 in
set_option maxHeartbeats 4000000 in
theorem concatT_any {α : Type} {Ok : World → α → Value → Prop} (E : ElOk Ok) (B g k c : Nat) (vs : List Value) (es : List (List Value)) (Q : List (List α)) (w : World) (hk : k ≤ 1000) (hn : es.flatten.length ≤ 1000) (h : TS Ok w B 24 27 g k c vs es Q) :
    Calls Try.prog 42 #[.slice (some ⟨g, 0, none⟩) k c] w fun e w' => ∃ v, e = .returned v ∧ w'.ownsRow w.heap.size 27 1 v es.flatten.length es.flatten ∧ Below w.heap.size w w' := by
  have HT := Lib.hid h
  have HLE := Lib.hid h.le
  obtain ⟨n, hnn⟩ : ∃ n, es.flatten.length = n := ⟨_, rfl⟩
  have HN := Lib.hid hnn
  rw [hnn] at hn ⊢
  have HTK : Hid (∀ i, i < k → (es.take (i + 1)).flatten = (es.take i).flatten ++ es.getD i []) := fun i hi => by
    have : i < es.length := by rw [HLE.out]; exact hi
    rw [List.take_succ_eq_append_getElem this, List.flatten_append, List.getD_eq_getElem?_getD, List.getElem?_eq_getElem this]
    simp
  have HTL : Hid (∀ i, ((es.take i).flatten).length ≤ n) := fun i => by
    rw [← HN.out]
    conv => rhs; rw [← List.take_append_drop i es]
    rw [List.flatten_append, List.length_append]; omega
  have HEND : Hid ((es.take k).flatten = es.flatten) := by show _ = _; rw [List.take_of_length_le (by rw [HLE.out]; exact Nat.le_refl _)]
  have HVC : Hid (∀ i, i < k → ∀ W, Below w.heap.size w W → W.cell? ⟨g, i, none⟩ = some (vs.getD i undef)) := fun i hi W hb => by
    have hl := HT.out.lv
    refine (hb.cell (p := ⟨g, i, none⟩) (HT.out.row.lt g rfl).2).trans ?_
    have := HT.out.row.cells (g := g) rfl i (vs.getD i undef) (by rw [List.getD_eq_getElem?_getD, List.getElem?_eq_getElem (by omega)]; rfl)
    rwa [addr_add_zero] at this
  clear h hnn
  go_enter Try.func42, Try.ntmps42
  go_wp2
  go_loopw [3, 11] (fun s v wr => ∃ (i N : Nat), wr = w ∧ i ≤ k ∧ N = ((es.take i).flatten).length ∧ s = .int .i64 N ∧ v = .int .i64 i) (fun s v _ => k - (intOf v).toNat)
  case atStart => exact ⟨0, 0, rfl, by omega, rfl, rfl, rfl⟩
  case round =>
    obtain ⟨i, N, rfl, hi, hN, rfl, rfl⟩ := hrel
    have hNn : N ≤ n := by rw [hN]; exact HTL.out i
    have HNN := Lib.hid hN
    clear hN
    by_cases hik : i < k
    · have h3 : decide ((i : Int) < (k : Int)) = true := decide_eq_true (by omega)
      have b0 : (0 : Int) ≤ (i : Int) := by omega
      have b1 : (i : Int) < (k : Int) := by omega
      have cv := HVC.out i hik _ (Below.refl _ _)
      obtain ⟨a1, c1, hv⟩ := (HT.out.q i hik).shape
      rw [hv] at cv
      have hstep : N + (es.getD i []).length = ((es.take (i + 1)).flatten).length := by rw [HTK.out i hik, List.length_append, HNN.out]
      have hle2 : N + (es.getD i []).length ≤ n := by rw [hstep]; exact HTL.out (i + 1)
      have HST := Lib.hid hstep
      clear hv hstep
      generalize (es.getD i []).length = m at cv hle2 HST
      have b2 : ¬ (N : Int) + (m : Int) < 0 := by omega
      have b3 : decide ((N : Int) + (m : Int) < 0) = false := decide_eq_false b2
      go_wp2
      go_roundw
      case rel => exact ⟨i + 1, N + m, trivial, by omega, HST.out, by go_num, by go_num⟩
      case measure => simp [intOf] <;> omega
    · obtain rfl : i = k := by omega
      have h3 : decide ((i : Int) < (i : Int)) = false := by simp
      go_wp2_with fail
      refine (growT_any N _ rfl wr (by omega)).mono ?_
      rintro e w1 ⟨v, rfl, ho, hb⟩
      have HO := Lib.hid ho
      have HB := Lib.hid hb
      clear ho hb
      go_wp2
      go_loopw [6, 27] (fun v iv w2 => ∃ (j : Nat), iv = .int .i64 j ∧ j ≤ i ∧ w2.ownsRow wr.heap.size 27 1 v ((es.take j).flatten).length ((es.take j).flatten) ∧ Below wr.heap.size wr w2) (fun v iv _ => i - (intOf iv).toNat)
      case atStart => exact ⟨0, rfl, by omega, HO.out, HB.out⟩
      case round =>
        obtain ⟨j, rfl, hj, ho, hb⟩ := hrel
        have HO2 := Lib.hid ho
        have HB2 := Lib.hid hb
        clear ho hb HO HB
        by_cases hjk : j < i
        · have h4 : decide ((j : Int) < (i : Int)) = true := decide_eq_true (by omega)
          have b0 : (0 : Int) ≤ (j : Int) := by omega
          have b1 : (j : Int) < (i : Int) := by omega
          have cv := HVC.out j hjk _ HB2.out
          have HQ2 := Lib.hid ((HT.out.q j hjk).below HB2.out)
          have HTJ := Lib.hid (HTK.out j hjk)
          have hlj : ((es.take j).flatten).length + (es.getD j []).length ≤ n := by have := HTL.out (j + 1); rw [HTK.out j hjk, List.length_append] at this; exact this
          have HON : Hid (∀ x ∈ es.getD j [], x.oneCell' = true) := fun x hx => by
            obtain ⟨y, hy⟩ := (HT.out.el j hjk).mem_ok hx
            exact E.one hy
          have hsz := HB2.out.size
          obtain ⟨a1, c1, hv⟩ := HQ2.out.shape
          rw [hv] at cv HQ2
          obtain ⟨ej, hej⟩ : ∃ ej, es.getD j [] = ej := ⟨_, rfl⟩
          obtain ⟨fj, hfj⟩ : ∃ fj, (es.take j).flatten = fj := ⟨_, rfl⟩
          rw [hej] at cv HQ2 HTJ HON hlj
          rw [hfj] at HO2 HTJ hlj
          have hsm : fj.length + ej.length ≤ 1099511627776 := by omega
          clear hv hlj hej hfj
          go_wp2_with (at_builtin; refine wpList_appU slTap rfl _ _ rfl rfl HO2.out rfl HQ2.out HON.out hsm hsz ?_; intro v' w7 hown' hg' ht'; generalize hGG : wpList _ _ _ _ _ _ = GG)
          have HB8 := Lib.hid (HB2.out.grown hg' HB2.out.size (fun b e => (HO2.out.lt b e).1))
          have HO8 := Lib.hid hown'
          clear hown' hg' ht' HO2 HB2
          rw [← hGG]
          clear hGG GG
          go_wp2
          go_roundw
          case rel => exact ⟨j + 1, by go_num, by omega, by rw [HTJ.out, List.length_append]; exact HO8.out, HB8.out⟩
          case measure => simp [intOf] <;> omega
        · obtain rfl : j = i := by omega
          have h4 : decide ((j : Int) < (j : Int)) = false := by simp
          rw [HEND.out] at HO2
          rw [HN.out] at HO2
          go_wp2
          go_ret
          exact ⟨_, rfl, HO2.out, HB2.out⟩
end Go.Proofs.Ytcdfinkefahloaa

