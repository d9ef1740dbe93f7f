/- Walks: merge sort, of both packages. -/
import Derived.Test.YtpbiajicdgompaaNq
namespace Go.Proofs.Ytpbiajicdgompaa
open Go.RowKit Go.Sort
set_option linter.unusedVariables false

/-- What merge sort gives back. -/
def MsEnd (w : World) (rs : List (Int × Int)) (n : Nat) (e : Ending) (w' : World) : Prop :=
  ∃ (g c : Nat), e = .returned (.tuple #[.slice (some ⟨g, 0, none⟩) n c, .int .i64 (((Mg.ms ltR rs).2 : Nat) : Int)]) ∧ w'.ownsRow w.heap.size 32 2 (.slice (some ⟨g, 0, none⟩) n c) n (flat encR (Mg.ms ltR rs).1) ∧ Below w.heap.size w w'

def MsOk (F : FuncId) (N : Nat) : Prop :=
  ∀ (a : Option Addr) (n c : Nat) (rs : List (Int × Int)) (w : World), n < N → n ≤ 1000 → Rd w a n c rs → Calls Try.prog F #[.slice a n c] w (MsEnd w rs n)

theorem rd_lo {w : World} {a : Option Addr} {n c h : Nat} {rs : List (Int × Int)} (hr : Rd w a n c rs) (hh : h ≤ n) : Rd w a h c (rs.take h) :=
  ⟨recs_take hr.recs h, by rw [List.length_take, hr.len]; omega, hr.nil, by have := hr.cap; omega⟩
theorem rd_hi {w : World} {b o n c h : Nat} {rs : List (Int × Int)} (hr : Rd w (some ⟨b, o, none⟩) n c rs) (hh : h ≤ n) : Rd w (some ⟨b, o + h * 2, none⟩) (n - h) (c - h) (rs.drop h) :=
  ⟨recs_drop hr.recs h, by rw [List.length_drop, hr.len], nilOk_some _ _, by have := hr.cap; omega⟩

set_option maxRecDepth 100000 in
set_option maxHeartbeats 4000000 in
theorem mergeSort_step (N : Nat) (IH : MsOk 85 N) (a : Option Addr) (n c : Nat) (rs : List (Int × Int)) (w : World) (hn : n ≤ N) (hn2 : n ≤ 1000) (h : Rd w a n c rs) :
    Calls Try.prog 85 #[.slice a n c] w (MsEnd w rs n) := by
  have H := Lib.hid h; have HI := Lib.hid IH
  clear h IH
  unfold MsEnd
  by_cases h2 : n < 2
  · have hz : decide ((n : Int) < 2) = true := decide_eq_true (by omega)
    have HM := Lib.hid (Mg.ms_small ltR (l := rs) (by rw [H.out.len]; exact h2))
    have HC := Lib.hid (copyOfR_any a c rs w (by rw [H.out.len]; exact hn2) H.out.recs H.out.nil)
    rw [H.out.len] at HC
    go_enter Try.func85, Try.ntmps85
    go_wp2_with fail
    refine HC.out.mono ?_
    rintro e w1 ⟨g, c1, rfl, ho, hb⟩
    have HO := Lib.hid ho; have HB := Lib.hid hb
    clear ho hb
    go_wp2
    go_ret2
    refine ⟨g, c1, ?_, ?_, HB.out⟩
    · rw [HM.out]; rfl
    · rw [HM.out]; exact HO.out
  · obtain ⟨k, hk⟩ : ∃ k, k = n / 2 := ⟨_, rfl⟩
    have hk1 : k < n := by omega
    have hk0 : 0 < k := by omega
    have hz : decide ((n : Int) < 2) = false := decide_eq_false (by omega)
    have hq : (n : Int).tdiv 2 = (k : Int) := by rw [Int.tdiv_eq_ediv_of_nonneg (by omega)]; omega
    have hq2 : (n : Int) / 2 = (k : Int) := by omega
    obtain ⟨b, o, rfl, hb0⟩ := recs_addr H.out.recs (by rw [H.out.len]; omega)
    have hcap := H.out.cap
    have hc1 : ¬ c = k := by omega
    have HM := Lib.hid (Mg.ms_big ltR (l := rs) (by rw [H.out.len]; omega))
    rw [H.out.len, ← hk] at HM
    have HLO := Lib.hid (rd_lo H.out (Nat.le_of_lt hk1))
    have HHI := Lib.hid (rd_hi H.out (Nat.le_of_lt hk1))
    have HK := Lib.hid hk
    have hkn : k + (n - k) = n := by omega
    have hs1 := (Mg.ms_srt (lt := ltR) (Mg.swK Prod.fst) _ (rs.take k) (Nat.le_refl _))
    have hs2 := (Mg.ms_srt (lt := ltR) (Mg.swK Prod.fst) _ (rs.drop k) (Nat.le_refl _))
    have HL1 : Hid ((Mg.ms ltR (rs.take k)).1.length = k) := by show _ = _; rw [hs1, Mg.srt_length, HLO.out.len]
    have HL2 : Hid ((Mg.ms ltR (rs.drop k)).1.length = n - k) := by show _ = _; rw [hs2, Mg.srt_length, HHI.out.len]
    have hbd : (Mg.ms ltR (rs.take k)).2 ≤ 10 * k ∧ (Mg.ms ltR (rs.drop k)).2 ≤ 10 * (n - k) := by
      have e1 := Mg.ms_bound (lt := ltR) (Mg.swK Prod.fst) 10 (rs.take k) (by rw [HLO.out.len]; omega)
      have e2 := Mg.ms_bound (lt := ltR) (Mg.swK Prod.fst) 10 (rs.drop k) (by rw [HHI.out.len]; omega)
      rw [HLO.out.len] at e1; rw [HHI.out.len] at e2
      exact ⟨e1, e2⟩
    have HB1K := Lib.hid hbd
    clear hk hs1 hs2 hbd
    go_enter Try.func85, Try.ntmps85
    go_wp2_with fail
    refine (HI.out _ k c _ w (by omega) (by omega) HLO.out).mono ?_
    rintro e w1 ⟨g1, c1, rfl, ho, hb⟩
    have HO1 := Lib.hid ho; have HB1 := Lib.hid hb
    clear ho hb
    go_wp2_with fail
    refine (HI.out _ (n - k) (c - k) _ w1 (by omega) (by omega) (HHI.out.same HB1.out)).mono ?_
    rintro e w2 ⟨g2, c2, rfl, ho, hb⟩
    have HO2 := Lib.hid ho
    have HO1b := Lib.hid (own_below HO1.out (Nat.le_refl _) hb)
    have HB2 := Lib.hid (HB1.out.trans (hb.mono HB1.out.size))
    clear ho hb
    go_wp2_with fail
    refine (merge_any _ _ _ _ k (n - k) _ _ w2 HL1.out HL2.out (by omega) (recs_of_own HO1b.out) (recs_of_own HO2.out) (nilOk_some _ _) (nilOk_some _ _) (own_cap HO1b.out) (own_cap HO2.out)).mono ?_
    rintro e w3 ⟨g3, c3, rfl, ho, hb⟩
    rw [hkn] at ho ⊢
    have HO3 := Lib.hid (own_mono ho HB2.out.size); have HB3 := Lib.hid (HB2.out.trans (hb.mono HB2.out.size))
    clear ho hb
    have hb1 := Mg.mcnt_le ltR (Mg.ms ltR (rs.take k)).1 (Mg.ms ltR (rs.drop k)).1
    rw [HL1.out, HL2.out] at hb1
    obtain ⟨hb2, hb3⟩ := HB1K.out
    have hb4 : k + (n - k) ≤ 1000 := by omega
    go_wp2
    go_ret2
    refine ⟨g3, c3, ?_, ?_, HB3.out⟩
    · rw [HM.out]; go_num
    · rw [HM.out]; exact HO3.out

theorem mergeSort_all : ∀ N, MsOk 85 N
  | 0 => fun _ _ _ _ _ h => absurd h (by omega)
  | N + 1 => fun a n c rs w hn hn2 h => mergeSort_step N (mergeSort_all N) a n c rs w (by omega) hn2 h
theorem mergeSort_any (a : Option Addr) (n c : Nat) (rs : List (Int × Int)) (w : World) (hn2 : n ≤ 1000) (h : Rd w a n c rs) :
    Calls Try.prog 85 #[.slice a n c] w (MsEnd w rs n) := mergeSort_all (n + 1) a n c rs w (by omega) hn2 h

set_option maxRecDepth 100000 in
set_option maxHeartbeats 4000000 in
theorem l5Sort_step (N : Nat) (IH : MsOk 86 N) (a : Option Addr) (n c : Nat) (rs : List (Int × Int)) (w : World) (hn : n ≤ N) (hn2 : n ≤ 1000) (h : Rd w a n c rs) :
    Calls Try.prog 86 #[.slice a n c] w (MsEnd w rs n) := by
  have H := Lib.hid h; have HI := Lib.hid IH
  clear h IH
  unfold MsEnd
  by_cases h2 : n < 2
  · have hz : decide ((n : Int) < 2) = true := decide_eq_true (by omega)
    have HM := Lib.hid (Mg.ms_small ltR (l := rs) (by rw [H.out.len]; exact h2))
    have E0 := Lib.hid (own_lit (w := w) (e := 32) (size := 2) #[] 0 (by omega) rfl)
    have HB := Lib.hid (show Below w.heap.size w (w.alloc (.cells #[] 32)) from (Below.refl _ _).alloc (Nat.le_refl _) _)
    have HU := Lib.hid (H.out.same HB.out)
    have hle : w.heap.size ≤ (w.alloc (.cells #[] 32)).heap.size := by simp
    have HLE := Lib.hid hle
    clear hle
    go_enter Try.func86, Try.ntmps86
    go_wp2_with (at_builtin; refine wpList_appR (v := .slice (some ⟨w.heap.size, 0, none⟩) 0 0) slRec rfl _ _ rfl rfl E0.out rfl HU.out.recs HU.out.len HU.out.nil (by omega) HLE.out ?_; intro v' w2 hown2 hg2 ht2; obtain ⟨a', c, rfl⟩ := own_slice hown2; have HO := Lib.hid hown2; have HG := Lib.hid hg2; have HT := Lib.hid ht2; clear hown2 hg2 ht2)
    go_ret2
    obtain ⟨g, rfl, _, _⟩ := own_addr HO.out (by
      rcases HT.out with h | h
      · rw [h]; simp [Value.ownBlock]
      · rw [h]; simp)
    have HB2 := HB.out.grown HG.out (by simp) (fun k hk => by simp [Value.ownBlock] at hk; omega)
    have := HO.out
    rw [Nat.zero_add] at this
    refine ⟨g, c, ?_, ?_, HB2⟩
    · rw [HM.out]; simp
    · rw [HM.out]; exact this
  · obtain ⟨k, hk⟩ : ∃ k, k = n / 2 := ⟨_, rfl⟩
    have hk1 : k < n := by omega
    have hk0 : 0 < k := by omega
    have hz : decide ((n : Int) < 2) = false := decide_eq_false (by omega)
    have hq : (n : Int).tdiv 2 = (k : Int) := by rw [Int.tdiv_eq_ediv_of_nonneg (by omega)]; omega
    have hq2 : (n : Int) / 2 = (k : Int) := by omega
    obtain ⟨b, o, rfl, hb0⟩ := recs_addr H.out.recs (by rw [H.out.len]; omega)
    have hcap := H.out.cap
    have hc1 : ¬ c = k := by omega
    have HM := Lib.hid (Mg.ms_big ltR (l := rs) (by rw [H.out.len]; omega))
    rw [H.out.len, ← hk] at HM
    have HLO := Lib.hid (rd_lo H.out (Nat.le_of_lt hk1))
    have HHI := Lib.hid (rd_hi H.out (Nat.le_of_lt hk1))
    have HK := Lib.hid hk
    have hkn : k + (n - k) = n := by omega
    have hs1 := (Mg.ms_srt (lt := ltR) (Mg.swK Prod.fst) _ (rs.take k) (Nat.le_refl _))
    have hs2 := (Mg.ms_srt (lt := ltR) (Mg.swK Prod.fst) _ (rs.drop k) (Nat.le_refl _))
    have HL1 : Hid ((Mg.ms ltR (rs.take k)).1.length = k) := by show _ = _; rw [hs1, Mg.srt_length, HLO.out.len]
    have HL2 : Hid ((Mg.ms ltR (rs.drop k)).1.length = n - k) := by show _ = _; rw [hs2, Mg.srt_length, HHI.out.len]
    have hbd : (Mg.ms ltR (rs.take k)).2 ≤ 10 * k ∧ (Mg.ms ltR (rs.drop k)).2 ≤ 10 * (n - k) := by
      have e1 := Mg.ms_bound (lt := ltR) (Mg.swK Prod.fst) 10 (rs.take k) (by rw [HLO.out.len]; omega)
      have e2 := Mg.ms_bound (lt := ltR) (Mg.swK Prod.fst) 10 (rs.drop k) (by rw [HHI.out.len]; omega)
      rw [HLO.out.len] at e1; rw [HHI.out.len] at e2
      exact ⟨e1, e2⟩
    have HB1K := Lib.hid hbd
    clear hk hs1 hs2 hbd
    go_enter Try.func86, Try.ntmps86
    go_wp2_with fail
    refine (HI.out _ k c _ w (by omega) (by omega) HLO.out).mono ?_
    rintro e w1 ⟨g1, c1, rfl, ho, hb⟩
    have HO1 := Lib.hid ho; have HB1 := Lib.hid hb
    clear ho hb
    go_wp2_with fail
    refine (HI.out _ (n - k) (c - k) _ w1 (by omega) (by omega) (HHI.out.same HB1.out)).mono ?_
    rintro e w2 ⟨g2, c2, rfl, ho, hb⟩
    have HO2 := Lib.hid ho
    have HO1b := Lib.hid (own_below HO1.out (Nat.le_refl _) hb)
    have HB2 := Lib.hid (HB1.out.trans (hb.mono HB1.out.size))
    clear ho hb
    go_wp2_with fail
    refine (l5Merge_any _ _ _ _ k (n - k) _ _ w2 HL1.out HL2.out (by omega) (recs_of_own HO1b.out) (recs_of_own HO2.out) (nilOk_some _ _) (nilOk_some _ _) (own_cap HO1b.out) (own_cap HO2.out)).mono ?_
    rintro e w3 ⟨g3, c3, rfl, ho, hb⟩
    rw [hkn] at ho ⊢
    have HO3 := Lib.hid (own_mono ho HB2.out.size); have HB3 := Lib.hid (HB2.out.trans (hb.mono HB2.out.size))
    clear ho hb
    have hb1 := Mg.mcnt_le ltR (Mg.ms ltR (rs.take k)).1 (Mg.ms ltR (rs.drop k)).1
    rw [HL1.out, HL2.out] at hb1
    obtain ⟨hb2, hb3⟩ := HB1K.out
    have hb4 : k + (n - k) ≤ 1000 := by omega
    go_wp2
    go_ret2
    refine ⟨g3, c3, ?_, ?_, HB3.out⟩
    · rw [HM.out]; go_num
    · rw [HM.out]; exact HO3.out

theorem l5Sort_all : ∀ N, MsOk 86 N
  | 0 => fun _ _ _ _ _ h => absurd h (by omega)
  | N + 1 => fun a n c rs w hn hn2 h => l5Sort_step N (l5Sort_all N) a n c rs w (by omega) hn2 h
theorem l5Sort_any (a : Option Addr) (n c : Nat) (rs : List (Int × Int)) (w : World) (hn2 : n ≤ 1000) (h : Rd w a n c rs) :
    Calls Try.prog 86 #[.slice a n c] w (MsEnd w rs n) := l5Sort_all (n + 1) a n c rs w (by omega) hn2 h

end Go.Proofs.Ytpbiajicdgompaa
