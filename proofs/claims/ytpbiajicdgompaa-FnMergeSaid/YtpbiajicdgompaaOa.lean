/- The law FnMerge: its walk. -/
import Derived.Test.YtpbiajicdgompaaNz
import Derived.Test.YtpbiajicdgompaaNx
namespace Go.Proofs.Ytpbiajicdgompaa
open Go.RowKit Go.Sort
set_option linter.unusedVariables false

def upOk (L : List (Int × Int)) : Bool := okRecs L && upB ltR L
def mgOk (L R : List (Int × Int)) : Bool := upOk L && upOk R && decide (L.length + R.length ≤ 64)
def mgOut (L R : List (Int × Int)) : List (Int × Int) := if mgOk L R = true then Mg.mrg ltR L R else []
def mgC (L R : List (Int × Int)) : Nat := if mgOk L R = true then Mg.mcnt ltR L R else 0
theorem mgOut_le (L R : List (Int × Int)) : (mgOut L R).length ≤ L.length + R.length := by
  unfold mgOut; split
  · rw [Mg.mrg_length]; omega
  · simp

set_option maxRecDepth 100000 in
set_option maxHeartbeats 4000000 in
theorem implMergeSorted_any (a b : Option Addr) (n c m d : Nat) (L R : List (Int × Int)) (w : World) (hn : n ≤ 1000) (hm : m ≤ 1000) (hL : Rd w a n c L) (hR : Rd w b m d R) :
    Calls Try.prog 35 #[.slice a n c, .slice b m d] w (Rd3 w (mgOut L R) (mgC L R : Nat) (mgOk L R)) := by
  have HL := Lib.hid hL; have HR := Lib.hid hR
  have H1 := Lib.hid (areAscending_any a n c L w (by omega) hL)
  have H2 := Lib.hid (fun W (hb : Below w.heap.size w W) => areAscending_any b m d R W (by omega) (HR.out.same hb))
  have hll : L.length = n := hL.len
  have hlr : R.length = m := hR.len
  clear hL hR
  unfold Rd3
  cases h1 : upOk L
  · have HE : Hid (mgOk L R = false) := by show _ = _; simp [mgOk, h1]
    have HO : Hid (mgOut L R = []) := by show _ = _; unfold mgOut; rw [HE.out]; rfl
    have HC : Hid (mgC L R = 0) := by show _ = _; unfold mgC; rw [HE.out]; rfl
    unfold upOk at h1
    rw [h1] at H1
    clear h1
    go_enter Try.func35, Try.ntmps35
    go_wp2_with fail
    refine H1.out.mono ?_
    rintro e w1 ⟨rfl, hb⟩
    have HB := Lib.hid hb; clear hb
    go_wp2
    go_ret3
    exact ⟨none, 0, 0, by rw [HC.out, HE.out]; rfl, by rw [HO.out]; exact rd_nil _, HB.out⟩
  cases h2 : upOk R
  · have HE : Hid (mgOk L R = false) := by show _ = _; simp [mgOk, h2]
    have HO : Hid (mgOut L R = []) := by show _ = _; unfold mgOut; rw [HE.out]; rfl
    have HC : Hid (mgC L R = 0) := by show _ = _; unfold mgC; rw [HE.out]; rfl
    unfold upOk at h1 h2
    rw [h1] at H1; rw [h2] at H2
    clear h1 h2
    go_enter Try.func35, Try.ntmps35
    go_wp2_with fail
    refine H1.out.mono ?_
    rintro e w1 ⟨rfl, hb⟩
    have HB := Lib.hid hb; clear hb
    go_wp2_with fail
    refine (H2.out _ HB.out).mono ?_
    rintro e w2 ⟨rfl, hb⟩
    have HB2 := Lib.hid (HB.out.trans (hb.mono HB.out.size)); clear hb
    go_wp2
    go_ret3
    exact ⟨none, 0, 0, by rw [HC.out, HE.out]; rfl, by rw [HO.out]; exact rd_nil _, HB2.out⟩
  by_cases h3 : n + m ≤ 64
  · have HE : Hid (mgOk L R = true) := by show _ = _; simp [mgOk, h1, h2, hll, hlr, h3]
    have HO : Hid (mgOut L R = Mg.mrg ltR L R) := by show _ = _; unfold mgOut; rw [if_pos HE.out]
    have HC : Hid (mgC L R = Mg.mcnt ltR L R) := by show _ = _; unfold mgC; rw [if_pos HE.out]
    unfold upOk at h1 h2
    rw [h1] at H1; rw [h2] at H2
    have h4 : decide ((64 : Int) < (n : Int) + (m : Int)) = false := decide_eq_false (by omega)
    clear h1 h2
    go_enter Try.func35, Try.ntmps35
    go_wp2_with fail
    refine H1.out.mono ?_
    rintro e w1 ⟨rfl, hb⟩
    have HB := Lib.hid hb; clear hb
    go_wp2_with fail
    refine (H2.out _ HB.out).mono ?_
    rintro e w2 ⟨rfl, hb⟩
    have HB2 := Lib.hid (HB.out.trans (hb.mono HB.out.size)); clear hb
    have HL2 := Lib.hid (HL.out.same HB2.out); have HR2 := Lib.hid (HR.out.same HB2.out)
    go_wp2_with fail
    refine (merge_any a b c d n m L R w2 hll hlr (by omega) HL2.out.recs HR2.out.recs HL2.out.nil HR2.out.nil HL2.out.cap HR2.out.cap).mono ?_
    rintro e w3 ⟨g, c3, rfl, ho, hb⟩
    have HO3 := Lib.hid (rd_own ho)
    have HB3 := Lib.hid (HB2.out.trans (hb.mono HB2.out.size)); clear hb ho
    go_wp2
    go_ret3
    exact ⟨_, _, _, by rw [HC.out, HE.out]; rfl, by rw [HO.out]; exact HO3.out, HB3.out⟩
  · have HE : Hid (mgOk L R = false) := by show _ = _; simp [mgOk, hll, hlr]; omega
    have HO : Hid (mgOut L R = []) := by show _ = _; unfold mgOut; rw [HE.out]; rfl
    have HC : Hid (mgC L R = 0) := by show _ = _; unfold mgC; rw [HE.out]; rfl
    unfold upOk at h1 h2
    rw [h1] at H1; rw [h2] at H2
    have h4 : decide ((64 : Int) < (n : Int) + (m : Int)) = true := decide_eq_true (by omega)
    clear h1 h2
    go_enter Try.func35, Try.ntmps35
    go_wp2_with fail
    refine H1.out.mono ?_
    rintro e w1 ⟨rfl, hb⟩
    have HB := Lib.hid hb; clear hb
    go_wp2_with fail
    refine (H2.out _ HB.out).mono ?_
    rintro e w2 ⟨rfl, hb⟩
    have HB2 := Lib.hid (HB.out.trans (hb.mono HB.out.size)); clear hb
    go_wp2
    go_ret3
    exact ⟨none, 0, 0, by rw [HC.out, HE.out]; rfl, by rw [HO.out]; exact rd_nil _, HB2.out⟩

set_option maxRecDepth 100000 in
set_option maxHeartbeats 8000000 in
theorem specMergeSorted_any (a b : Option Addr) (n c m d : Nat) (L R : List (Int × Int)) (w : World) (hn : n ≤ 1000) (hm : m ≤ 1000) (hL : Rd w a n c L) (hR : Rd w b m d R) :
    Calls Try.prog 36 #[.slice a n c, .slice b m d] w (Rd3 w (mgOut L R) (mgC L R : Nat) (mgOk L R)) := by
  have HL := Lib.hid hL; have HR := Lib.hid hR
  have hll : L.length = n := hL.len
  have hlr : R.length = m := hR.len
  have H1 := Lib.hid (fun W (hb : Below w.heap.size w W) => l2Records_any a c L W (by rw [hll]; omega) (HL.out.same hb).recs)
  have H2 := Lib.hid (fun W (hb : Below w.heap.size w W) => l2Records_any b d R W (by rw [hlr]; omega) (HR.out.same hb).recs)
  have H3 := Lib.hid (fun W (hb : Below w.heap.size w W) => l5Ascending_any a n c L W (by omega) (HL.out.same hb))
  have H4 := Lib.hid (fun W (hb : Below w.heap.size w W) => l5Ascending_any b m d R W (by omega) (HR.out.same hb))
  rw [hll] at H1; rw [hlr] at H2
  have HA := Lib.hid (show Below w.heap.size w w from Below.refl _ _)
  clear hL hR
  unfold Rd3
  by_cases hno : mgOk L R = true
  case neg =>
    have HE : Hid (mgOk L R = false) := by show _ = _; simpa using hno
    have HO : Hid (mgOut L R = []) := by show _ = _; unfold mgOut; rw [HE.out]; rfl
    have HC : Hid (mgC L R = 0) := by show _ = _; unfold mgC; rw [HE.out]; rfl
    have hcase : okRecs L = false ∨ (okRecs L = true ∧ okRecs R = false) ∨ (okRecs L = true ∧ okRecs R = true ∧ upB ltR L = false) ∨ (okRecs L = true ∧ okRecs R = true ∧ upB ltR L = true ∧ upB ltR R = false) ∨ (okRecs L = true ∧ okRecs R = true ∧ upB ltR L = true ∧ upB ltR R = true ∧ decide ((64 : Int) < (n : Int) + (m : Int)) = true) := by
      have := HE.out
      unfold mgOk upOk at this
      cases h1 : okRecs L <;> cases h2 : okRecs R <;> cases h3 : upB ltR L <;> cases h4 : upB ltR R <;> simp [h1, h2, h3, h4, hll, hlr] at this ⊢ <;> omega
    clear hno
    rcases hcase with h1 | ⟨h1, h2⟩ | ⟨h1, h2, h3⟩ | ⟨h1, h2, h3, h4⟩ | ⟨h1, h2, h3, h4, h5⟩
    · rw [h1] at H1
      clear h1
      go_enter Try.func36, Try.ntmps36
      go_wp2_with fail
      refine (H1.out _ HA.out).mono ?_
      rintro e w1 ⟨rfl, rfl⟩
      go_wp2
      go_ret3
      exact ⟨some _, 0, 0, by rw [HC.out, HE.out]; rfl, by rw [HO.out]; exact rd_some _ _ _, HA.out.alloc HA.out.size _⟩
    · rw [h1] at H1
      rw [h2] at H2
      clear h1 h2
      go_enter Try.func36, Try.ntmps36
      go_wp2_with fail
      refine (H1.out _ HA.out).mono ?_
      rintro e w1 ⟨rfl, rfl⟩
      go_wp2_with fail
      refine (H2.out _ HA.out).mono ?_
      rintro e w1 ⟨rfl, rfl⟩
      go_wp2
      go_ret3
      exact ⟨some _, 0, 0, by rw [HC.out, HE.out]; rfl, by rw [HO.out]; exact rd_some _ _ _, HA.out.alloc HA.out.size _⟩
    · rw [h1] at H1
      rw [h2] at H2
      rw [h3] at H3
      clear h1 h2 h3
      go_enter Try.func36, Try.ntmps36
      go_wp2_with fail
      refine (H1.out _ HA.out).mono ?_
      rintro e w1 ⟨rfl, rfl⟩
      go_wp2_with fail
      refine (H2.out _ HA.out).mono ?_
      rintro e w1 ⟨rfl, rfl⟩
      go_wp2_with fail
      refine (H3.out _ HA.out).mono ?_
      rintro e w1 ⟨rfl, hb⟩
      have HA1 := Lib.hid hb; clear hb
      go_wp2
      go_ret3
      exact ⟨some _, 0, 0, by rw [HC.out, HE.out]; rfl, by rw [HO.out]; exact rd_some _ _ _, HA1.out.alloc HA1.out.size _⟩
    · rw [h1] at H1
      rw [h2] at H2
      rw [h3] at H3
      rw [h4] at H4
      clear h1 h2 h3 h4
      go_enter Try.func36, Try.ntmps36
      go_wp2_with fail
      refine (H1.out _ HA.out).mono ?_
      rintro e w1 ⟨rfl, rfl⟩
      go_wp2_with fail
      refine (H2.out _ HA.out).mono ?_
      rintro e w1 ⟨rfl, rfl⟩
      go_wp2_with fail
      refine (H3.out _ HA.out).mono ?_
      rintro e w1 ⟨rfl, hb⟩
      have HA1 := Lib.hid hb; clear hb
      go_wp2_with fail
      refine (H4.out _ HA1.out).mono ?_
      rintro e w2 ⟨rfl, hb⟩
      have HA2 := Lib.hid (HA1.out.trans (hb.mono HA1.out.size)); clear hb
      go_wp2
      go_ret3
      exact ⟨some _, 0, 0, by rw [HC.out, HE.out]; rfl, by rw [HO.out]; exact rd_some _ _ _, HA2.out.alloc HA2.out.size _⟩
    · rw [h1] at H1
      rw [h2] at H2
      rw [h3] at H3
      rw [h4] at H4
      clear h1 h2 h3 h4
      go_enter Try.func36, Try.ntmps36
      go_wp2_with fail
      refine (H1.out _ HA.out).mono ?_
      rintro e w1 ⟨rfl, rfl⟩
      go_wp2_with fail
      refine (H2.out _ HA.out).mono ?_
      rintro e w1 ⟨rfl, rfl⟩
      go_wp2_with fail
      refine (H3.out _ HA.out).mono ?_
      rintro e w1 ⟨rfl, hb⟩
      have HA1 := Lib.hid hb; clear hb
      go_wp2_with fail
      refine (H4.out _ HA1.out).mono ?_
      rintro e w2 ⟨rfl, hb⟩
      have HA2 := Lib.hid (HA1.out.trans (hb.mono HA1.out.size)); clear hb
      go_wp2
      go_ret3
      exact ⟨some _, 0, 0, by rw [HC.out, HE.out]; rfl, by rw [HO.out]; exact rd_some _ _ _, HA2.out.alloc HA2.out.size _⟩
  case pos =>
    have HE : Hid (mgOk L R = true) := hno
    have HO : Hid (mgOut L R = Mg.mrg ltR L R) := by show _ = _; unfold mgOut; rw [if_pos HE.out]
    have HC : Hid (mgC L R = Mg.mcnt ltR L R) := by show _ = _; unfold mgC; rw [if_pos HE.out]
    have h5 : okRecs L = true ∧ okRecs R = true ∧ upB ltR L = true ∧ upB ltR R = true ∧ decide ((64 : Int) < (n : Int) + (m : Int)) = false := by
      have := HE.out
      unfold mgOk upOk at this
      simp [hll, hlr] at this
      simp [this.1.1.1, this.1.1.2, this.1.2.1, this.1.2.2]; omega
    obtain ⟨h1, h2, h3, h4, h5⟩ := h5
    rw [h1] at H1; rw [h2] at H2; rw [h3] at H3; rw [h4] at H4
    clear h1 h2 h3 h4 hno
    have h6 : n + m ≤ 64 := by simp at h5; omega
    go_enter Try.func36, Try.ntmps36
    go_wp2_with fail
    refine (H1.out _ HA.out).mono ?_
    rintro e w1 ⟨rfl, rfl⟩
    go_wp2_with fail
    refine (H2.out _ HA.out).mono ?_
    rintro e w1 ⟨rfl, rfl⟩
    go_wp2_with fail
    refine (H3.out _ HA.out).mono ?_
    rintro e w1 ⟨rfl, hb⟩
    have HA1 := Lib.hid hb; clear hb
    go_wp2_with fail
    refine (H4.out _ HA1.out).mono ?_
    rintro e w2 ⟨rfl, hb⟩
    have HB2 := Lib.hid (HA1.out.trans (hb.mono HA1.out.size)); clear hb
    have HL2 := Lib.hid (HL.out.same HB2.out); have HR2 := Lib.hid (HR.out.same HB2.out)
    go_wp2_with fail
    refine (l5Merge_any a b c d n m L R w2 hll hlr (by omega) HL2.out.recs HR2.out.recs HL2.out.nil HR2.out.nil HL2.out.cap HR2.out.cap).mono ?_
    rintro e w3 ⟨g, c3, rfl, ho, hb⟩
    have HO3 := Lib.hid (rd_own ho)
    have HB3 := Lib.hid (HB2.out.trans (hb.mono HB2.out.size)); clear hb ho
    go_wp2
    go_ret3
    exact ⟨_, _, _, by rw [HC.out, HE.out]; rfl, by rw [HO.out]; exact HO3.out, HB3.out⟩

end Go.Proofs.Ytpbiajicdgompaa
