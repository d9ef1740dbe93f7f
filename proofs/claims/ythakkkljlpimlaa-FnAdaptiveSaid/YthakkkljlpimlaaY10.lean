/- Several texts in one: lemmas and walks of the functions that the laws reach. -/
import Derived.Test.YthakkkljlpimlaaY2
import Derived.Test.YthakkkljlpimlaaY9
import Derived.Test.YthakkkljlpimlaaY8

/- Walks: the next merge of the reference's run stack. -/
namespace Go.Proofs.Ythakkkljlpimlaa
open Go.RowKit Go.Sort
set_option linter.unusedVariables false

def nxI (e : Bool) (s : List Int) : Int := match Ad.nxt e s with
  | some k => (k : Int)
  | none => -1

set_option maxRecDepth 100000 in
set_option maxHeartbeats 8000000 in
theorem l5Next_any (e : Bool) (a : Option Addr) (n c : Nat) (s : List Int) (w : World) (hl : s.length = n) (hn : n ≤ 1000) (hbd : Bd s) (h : IntsAt w a s) :
    Calls Try.prog 23 #[.slice a n c, .bool e] w fun en w' => en = .returned (.int .i64 (nxI e s)) ∧ Below w.heap.size w w' := by
  have H := Lib.hid h
  have HB := Lib.hid hbd
  obtain ⟨R, hR⟩ : ∃ R, nxI e s = R := ⟨_, rfl⟩
  rw [hR]
  clear h hbd
  by_cases hn2 : n < 2
  · have hZ : R = -1 := by rw [← hR]; unfold nxI; rw [Ad.nxt_small (by omega)]
    subst hZ
    have q1 : decide ((n : Int) < 2) = true := decide_eq_true (by omega)
    have q2 : (n : Int) < 2 := by omega
    clear hR hl
    go_enter Try.func23, Try.ntmps23
    go_wp2
    go_ret
    exact ⟨rfl, Below.refl _ _⟩
  have q1 : decide ((n : Int) < 2) = false := decide_eq_false (by omega)
  have q2 : ¬ (n : Int) < 2 := by omega
  obtain ⟨x1, hx1⟩ : ∃ x, s.getD (n - 1) 0 = x := ⟨_, rfl⟩
  obtain ⟨x2, hx2⟩ : ∃ x, s.getD (n - 2) 0 = x := ⟨_, rfl⟩
  obtain ⟨x3, hx3⟩ : ∃ x, s.getD (n - 3) 0 = x := ⟨_, rfl⟩
  obtain ⟨x4, hx4⟩ : ∃ x, s.getD (n - 4) 0 = x := ⟨_, rfl⟩
  have bx1 := HB.out.at (n - 1)
  have bx2 := HB.out.at (n - 2)
  have bx3 := HB.out.at (n - 3)
  have bx4 := HB.out.at (n - 4)
  rw [hx1] at bx1
  rw [hx2] at bx2
  rw [hx3] at bx3
  rw [hx4] at bx4
  have w1 : IntKind.i64.wrap (x1 + x2) = x1 + x2 := by rw [IntKind.wrap_i64]; omega
  have w2 : IntKind.i64.wrap (x3 + x2) = x3 + x2 := by rw [IntKind.wrap_i64]; omega
  obtain ⟨ba, oa, rfl, c1⟩ := H.out.at (k := n - 1) (by omega)
  obtain ⟨ba', oa', hba, c2⟩ := H.out.at (k := n - 2) (by omega)
  injection hba with hba
  injection hba with hb1 hb2
  subst hb1
  subst hb2
  rw [hx1] at c1
  rw [hx2] at c2
  have m1 : (n : Int) - 1 = ((n - 1 : Nat) : Int) := by omega
  have m2 : (n : Int) - 2 = ((n - 2 : Nat) : Int) := by omega
  have p1 : (0 : Int) ≤ ((n - 1 : Nat) : Int) := by omega
  have p2 : (0 : Int) ≤ ((n - 2 : Nat) : Int) := by omega
  have p1' : ((n - 1 : Nat) : Int) < (n : Int) := by omega
  have p2' : ((n - 2 : Nat) : Int) < (n : Int) := by omega
  have p1'' : n - 1 < n := by omega
  have p2'' : n - 2 < n := by omega
  by_cases hn3 : n < 3
  · have e3 : decide (3 ≤ (n : Int)) = false := decide_eq_false (by omega)
    have e3' : ¬ 3 ≤ (n : Int) := by omega
    have e4 : decide (4 ≤ (n : Int)) = false := decide_eq_false (by omega)
    have e4' : ¬ 4 ≤ (n : Int) := by omega
    cases e
    case true =>
      have hZ : R = ((n - 2 : Nat) : Int) := by
        rw [← hR]
        unfold nxI Ad.nxt
        rw [hl, hx1, hx3, if_neg (by omega), if_pos rfl, if_neg (by omega)]
      subst hZ
      clear hR hx1 hx2 hx3 hx4 hl bx1 bx2 bx3 bx4
      go_enter Try.func23, Try.ntmps23
      go_wp2_with fail
      go_quiet (fail)
      have d1 : (w.drewN nq).cell? _ = _ := c1
      have d2 : (w.drewN nq).cell? _ = _ := c2
      have HBq1 := Lib.hid (below_drewN (Below.refl w.heap.size w) nq)
      clear c1 c2
      generalize w.drewN nq = wq1 at d1 d2 HBq1 ⊢
      have c1 := d1
      have c2 := d2
      clear d1 d2
      go_wp2
      go_ret
      exact ⟨rfl, HBq1.out⟩
    case false =>
      by_cases hD21 : x2 ≤ x1
      · have dD21 : decide (x2 ≤ x1) = true := decide_eq_true hD21
        have hZ : R = ((n - 2 : Nat) : Int) := by
          rw [← hR]
          unfold nxI Ad.nxt
          rw [hl, hx1, hx2, hx3, hx4, if_neg (by omega), if_neg (by decide)]
          rw [if_neg (by omega)]
          rw [if_pos (by omega)]
        subst hZ
        clear hR hx1 hx2 hx3 hx4 hl bx1 bx2 bx3 bx4
        go_enter Try.func23, Try.ntmps23
        go_wp2_with fail
        go_quiet (fail)
        have d1 : (w.drewN nq).cell? _ = _ := c1
        have d2 : (w.drewN nq).cell? _ = _ := c2
        have HBq1 := Lib.hid (below_drewN (Below.refl w.heap.size w) nq)
        clear c1 c2
        generalize w.drewN nq = wq1 at d1 d2 HBq1 ⊢
        have c1 := d1
        have c2 := d2
        clear d1 d2
        go_wp2_with fail
        go_quiet (fail)
        have d1 : (wq1.drewN nq).cell? _ = _ := c1
        have d2 : (wq1.drewN nq).cell? _ = _ := c2
        have HBq2 := Lib.hid (below_drewN HBq1.out nq)
        clear c1 c2
        generalize wq1.drewN nq = wq2 at d1 d2 HBq2 ⊢
        have c1 := d1
        have c2 := d2
        clear d1 d2
        go_wp2
        go_ret
        exact ⟨rfl, HBq2.out⟩
      · have dD21 : decide (x2 ≤ x1) = false := decide_eq_false hD21
        have hZ : R = -1 := by
          rw [← hR]
          unfold nxI Ad.nxt
          rw [hl, hx1, hx2, hx3, hx4, if_neg (by omega), if_neg (by decide)]
          rw [if_neg (by omega)]
          rw [if_neg (by omega)]
        subst hZ
        clear hR hx1 hx2 hx3 hx4 hl bx1 bx2 bx3 bx4
        go_enter Try.func23, Try.ntmps23
        go_wp2_with fail
        go_quiet (fail)
        have d1 : (w.drewN nq).cell? _ = _ := c1
        have d2 : (w.drewN nq).cell? _ = _ := c2
        have HBq1 := Lib.hid (below_drewN (Below.refl w.heap.size w) nq)
        clear c1 c2
        generalize w.drewN nq = wq1 at d1 d2 HBq1 ⊢
        have c1 := d1
        have c2 := d2
        clear d1 d2
        go_wp2_with fail
        go_quiet (fail)
        have d1 : (wq1.drewN nq).cell? _ = _ := c1
        have d2 : (wq1.drewN nq).cell? _ = _ := c2
        have HBq2 := Lib.hid (below_drewN HBq1.out nq)
        clear c1 c2
        generalize wq1.drewN nq = wq2 at d1 d2 HBq2 ⊢
        have c1 := d1
        have c2 := d2
        clear d1 d2
        go_wp2
        go_ret
        exact ⟨rfl, HBq2.out⟩
  obtain ⟨ba', oa', hba, c3⟩ := H.out.at (k := n - 3) (by omega)
  injection hba with hba
  injection hba with hb1 hb2
  subst hb1
  subst hb2
  rw [hx3] at c3
  have m3 : (n : Int) - 3 = ((n - 3 : Nat) : Int) := by omega
  have p3 : (0 : Int) ≤ ((n - 3 : Nat) : Int) := by omega
  have p3' : ((n - 3 : Nat) : Int) < (n : Int) := by omega
  have p3'' : n - 3 < n := by omega
  have e3 : decide (3 ≤ (n : Int)) = true := decide_eq_true (by omega)
  have e3' : 3 ≤ (n : Int) := by omega
  cases e
  case true =>
    by_cases hD31 : x3 < x1
    · have dD31 : decide (x3 < x1) = true := decide_eq_true hD31
      have hZ : R = ((n - 3 : Nat) : Int) := by
        rw [← hR]
        unfold nxI Ad.nxt
        rw [hl, hx1, hx3, if_neg (by omega), if_pos rfl, if_pos (by omega)]
      subst hZ
      clear hR hx1 hx2 hx3 hx4 hl bx1 bx2 bx3 bx4
      go_enter Try.func23, Try.ntmps23
      go_wp2_with fail
      go_quiet (fail)
      have d1 : (w.drewN nq).cell? _ = _ := c1
      have d2 : (w.drewN nq).cell? _ = _ := c2
      have d3 : (w.drewN nq).cell? _ = _ := c3
      have HBq1 := Lib.hid (below_drewN (Below.refl w.heap.size w) nq)
      clear c1 c2 c3
      generalize w.drewN nq = wq1 at d1 d2 d3 HBq1 ⊢
      have c1 := d1
      have c2 := d2
      have c3 := d3
      clear d1 d2 d3
      go_wp2
      go_ret
      exact ⟨rfl, HBq1.out⟩
    · have dD31 : decide (x3 < x1) = false := decide_eq_false hD31
      have hZ : R = ((n - 2 : Nat) : Int) := by
        rw [← hR]
        unfold nxI Ad.nxt
        rw [hl, hx1, hx3, if_neg (by omega), if_pos rfl, if_neg (by omega)]
      subst hZ
      clear hR hx1 hx2 hx3 hx4 hl bx1 bx2 bx3 bx4
      go_enter Try.func23, Try.ntmps23
      go_wp2_with fail
      go_quiet (fail)
      have d1 : (w.drewN nq).cell? _ = _ := c1
      have d2 : (w.drewN nq).cell? _ = _ := c2
      have d3 : (w.drewN nq).cell? _ = _ := c3
      have HBq1 := Lib.hid (below_drewN (Below.refl w.heap.size w) nq)
      clear c1 c2 c3
      generalize w.drewN nq = wq1 at d1 d2 d3 HBq1 ⊢
      have c1 := d1
      have c2 := d2
      have c3 := d3
      clear d1 d2 d3
      go_wp2
      go_ret
      exact ⟨rfl, HBq1.out⟩
  case false =>
    by_cases hn4 : n < 4
    · have e4 : decide (4 ≤ (n : Int)) = false := decide_eq_false (by omega)
      have e4' : ¬ 4 ≤ (n : Int) := by omega
      by_cases hD3 : x3 ≤ x1 + x2
      · have dD3 : decide (x3 ≤ x1 + x2) = true := decide_eq_true hD3
        by_cases hD31 : x3 < x1
        · have dD31 : decide (x3 < x1) = true := decide_eq_true hD31
          have hZ : R = ((n - 3 : Nat) : Int) := by
            rw [← hR]
            unfold nxI Ad.nxt
            rw [hl, hx1, hx2, hx3, hx4, if_neg (by omega), if_neg (by decide)]
            rw [if_pos (by omega)]
            rw [if_pos (by omega)]
          subst hZ
          clear hR hx1 hx2 hx3 hx4 hl bx1 bx2 bx3 bx4
          go_enter Try.func23, Try.ntmps23
          go_wp2_with fail
          go_quiet (fail)
          have d1 : (w.drewN nq).cell? _ = _ := c1
          have d2 : (w.drewN nq).cell? _ = _ := c2
          have d3 : (w.drewN nq).cell? _ = _ := c3
          have HBq1 := Lib.hid (below_drewN (Below.refl w.heap.size w) nq)
          clear c1 c2 c3
          generalize w.drewN nq = wq1 at d1 d2 d3 HBq1 ⊢
          have c1 := d1
          have c2 := d2
          have c3 := d3
          clear d1 d2 d3
          go_wp2_with fail
          go_quiet (fail)
          have d1 : (wq1.drewN nq).cell? _ = _ := c1
          have d2 : (wq1.drewN nq).cell? _ = _ := c2
          have d3 : (wq1.drewN nq).cell? _ = _ := c3
          have HBq2 := Lib.hid (below_drewN HBq1.out nq)
          clear c1 c2 c3
          generalize wq1.drewN nq = wq2 at d1 d2 d3 HBq2 ⊢
          have c1 := d1
          have c2 := d2
          have c3 := d3
          clear d1 d2 d3
          go_wp2
          go_ret
          exact ⟨rfl, HBq2.out⟩
        · have dD31 : decide (x3 < x1) = false := decide_eq_false hD31
          have hZ : R = ((n - 2 : Nat) : Int) := by
            rw [← hR]
            unfold nxI Ad.nxt
            rw [hl, hx1, hx2, hx3, hx4, if_neg (by omega), if_neg (by decide)]
            rw [if_pos (by omega)]
            rw [if_neg (by omega)]
          subst hZ
          clear hR hx1 hx2 hx3 hx4 hl bx1 bx2 bx3 bx4
          go_enter Try.func23, Try.ntmps23
          go_wp2_with fail
          go_quiet (fail)
          have d1 : (w.drewN nq).cell? _ = _ := c1
          have d2 : (w.drewN nq).cell? _ = _ := c2
          have d3 : (w.drewN nq).cell? _ = _ := c3
          have HBq1 := Lib.hid (below_drewN (Below.refl w.heap.size w) nq)
          clear c1 c2 c3
          generalize w.drewN nq = wq1 at d1 d2 d3 HBq1 ⊢
          have c1 := d1
          have c2 := d2
          have c3 := d3
          clear d1 d2 d3
          go_wp2_with fail
          go_quiet (fail)
          have d1 : (wq1.drewN nq).cell? _ = _ := c1
          have d2 : (wq1.drewN nq).cell? _ = _ := c2
          have d3 : (wq1.drewN nq).cell? _ = _ := c3
          have HBq2 := Lib.hid (below_drewN HBq1.out nq)
          clear c1 c2 c3
          generalize wq1.drewN nq = wq2 at d1 d2 d3 HBq2 ⊢
          have c1 := d1
          have c2 := d2
          have c3 := d3
          clear d1 d2 d3
          go_wp2
          go_ret
          exact ⟨rfl, HBq2.out⟩
      · have dD3 : decide (x3 ≤ x1 + x2) = false := decide_eq_false hD3
        by_cases hD21 : x2 ≤ x1
        · have dD21 : decide (x2 ≤ x1) = true := decide_eq_true hD21
          have hZ : R = ((n - 2 : Nat) : Int) := by
            rw [← hR]
            unfold nxI Ad.nxt
            rw [hl, hx1, hx2, hx3, hx4, if_neg (by omega), if_neg (by decide)]
            rw [if_neg (by omega)]
            rw [if_pos (by omega)]
          subst hZ
          clear hR hx1 hx2 hx3 hx4 hl bx1 bx2 bx3 bx4
          go_enter Try.func23, Try.ntmps23
          go_wp2_with fail
          go_quiet (fail)
          have d1 : (w.drewN nq).cell? _ = _ := c1
          have d2 : (w.drewN nq).cell? _ = _ := c2
          have d3 : (w.drewN nq).cell? _ = _ := c3
          have HBq1 := Lib.hid (below_drewN (Below.refl w.heap.size w) nq)
          clear c1 c2 c3
          generalize w.drewN nq = wq1 at d1 d2 d3 HBq1 ⊢
          have c1 := d1
          have c2 := d2
          have c3 := d3
          clear d1 d2 d3
          go_wp2_with fail
          go_quiet (fail)
          have d1 : (wq1.drewN nq).cell? _ = _ := c1
          have d2 : (wq1.drewN nq).cell? _ = _ := c2
          have d3 : (wq1.drewN nq).cell? _ = _ := c3
          have HBq2 := Lib.hid (below_drewN HBq1.out nq)
          clear c1 c2 c3
          generalize wq1.drewN nq = wq2 at d1 d2 d3 HBq2 ⊢
          have c1 := d1
          have c2 := d2
          have c3 := d3
          clear d1 d2 d3
          go_wp2
          go_ret
          exact ⟨rfl, HBq2.out⟩
        · have dD21 : decide (x2 ≤ x1) = false := decide_eq_false hD21
          have hZ : R = -1 := by
            rw [← hR]
            unfold nxI Ad.nxt
            rw [hl, hx1, hx2, hx3, hx4, if_neg (by omega), if_neg (by decide)]
            rw [if_neg (by omega)]
            rw [if_neg (by omega)]
          subst hZ
          clear hR hx1 hx2 hx3 hx4 hl bx1 bx2 bx3 bx4
          go_enter Try.func23, Try.ntmps23
          go_wp2_with fail
          go_quiet (fail)
          have d1 : (w.drewN nq).cell? _ = _ := c1
          have d2 : (w.drewN nq).cell? _ = _ := c2
          have d3 : (w.drewN nq).cell? _ = _ := c3
          have HBq1 := Lib.hid (below_drewN (Below.refl w.heap.size w) nq)
          clear c1 c2 c3
          generalize w.drewN nq = wq1 at d1 d2 d3 HBq1 ⊢
          have c1 := d1
          have c2 := d2
          have c3 := d3
          clear d1 d2 d3
          go_wp2_with fail
          go_quiet (fail)
          have d1 : (wq1.drewN nq).cell? _ = _ := c1
          have d2 : (wq1.drewN nq).cell? _ = _ := c2
          have d3 : (wq1.drewN nq).cell? _ = _ := c3
          have HBq2 := Lib.hid (below_drewN HBq1.out nq)
          clear c1 c2 c3
          generalize wq1.drewN nq = wq2 at d1 d2 d3 HBq2 ⊢
          have c1 := d1
          have c2 := d2
          have c3 := d3
          clear d1 d2 d3
          go_wp2
          go_ret
          exact ⟨rfl, HBq2.out⟩
    obtain ⟨ba', oa', hba, c4⟩ := H.out.at (k := n - 4) (by omega)
    injection hba with hba
    injection hba with hb1 hb2
    subst hb1
    subst hb2
    rw [hx4] at c4
    have m4 : (n : Int) - 4 = ((n - 4 : Nat) : Int) := by omega
    have p4 : (0 : Int) ≤ ((n - 4 : Nat) : Int) := by omega
    have p4' : ((n - 4 : Nat) : Int) < (n : Int) := by omega
    have p4'' : n - 4 < n := by omega
    have e4 : decide (4 ≤ (n : Int)) = true := decide_eq_true (by omega)
    have e4' : 4 ≤ (n : Int) := by omega
    by_cases hD3 : x3 ≤ x1 + x2
    · have dD3 : decide (x3 ≤ x1 + x2) = true := decide_eq_true hD3
      by_cases hD31 : x3 < x1
      · have dD31 : decide (x3 < x1) = true := decide_eq_true hD31
        have hZ : R = ((n - 3 : Nat) : Int) := by
          rw [← hR]
          unfold nxI Ad.nxt
          rw [hl, hx1, hx2, hx3, hx4, if_neg (by omega), if_neg (by decide)]
          rw [if_pos (by omega)]
          rw [if_pos (by omega)]
        subst hZ
        clear hR hx1 hx2 hx3 hx4 hl bx1 bx2 bx3 bx4
        go_enter Try.func23, Try.ntmps23
        go_wp2_with fail
        go_quiet (fail)
        have d1 : (w.drewN nq).cell? _ = _ := c1
        have d2 : (w.drewN nq).cell? _ = _ := c2
        have d3 : (w.drewN nq).cell? _ = _ := c3
        have d4 : (w.drewN nq).cell? _ = _ := c4
        have HBq1 := Lib.hid (below_drewN (Below.refl w.heap.size w) nq)
        clear c1 c2 c3 c4
        generalize w.drewN nq = wq1 at d1 d2 d3 d4 HBq1 ⊢
        have c1 := d1
        have c2 := d2
        have c3 := d3
        have c4 := d4
        clear d1 d2 d3 d4
        go_wp2_with fail
        go_quiet (fail)
        have d1 : (wq1.drewN nq).cell? _ = _ := c1
        have d2 : (wq1.drewN nq).cell? _ = _ := c2
        have d3 : (wq1.drewN nq).cell? _ = _ := c3
        have d4 : (wq1.drewN nq).cell? _ = _ := c4
        have HBq2 := Lib.hid (below_drewN HBq1.out nq)
        clear c1 c2 c3 c4
        generalize wq1.drewN nq = wq2 at d1 d2 d3 d4 HBq2 ⊢
        have c1 := d1
        have c2 := d2
        have c3 := d3
        have c4 := d4
        clear d1 d2 d3 d4
        go_wp2
        go_ret
        exact ⟨rfl, HBq2.out⟩
      · have dD31 : decide (x3 < x1) = false := decide_eq_false hD31
        have hZ : R = ((n - 2 : Nat) : Int) := by
          rw [← hR]
          unfold nxI Ad.nxt
          rw [hl, hx1, hx2, hx3, hx4, if_neg (by omega), if_neg (by decide)]
          rw [if_pos (by omega)]
          rw [if_neg (by omega)]
        subst hZ
        clear hR hx1 hx2 hx3 hx4 hl bx1 bx2 bx3 bx4
        go_enter Try.func23, Try.ntmps23
        go_wp2_with fail
        go_quiet (fail)
        have d1 : (w.drewN nq).cell? _ = _ := c1
        have d2 : (w.drewN nq).cell? _ = _ := c2
        have d3 : (w.drewN nq).cell? _ = _ := c3
        have d4 : (w.drewN nq).cell? _ = _ := c4
        have HBq1 := Lib.hid (below_drewN (Below.refl w.heap.size w) nq)
        clear c1 c2 c3 c4
        generalize w.drewN nq = wq1 at d1 d2 d3 d4 HBq1 ⊢
        have c1 := d1
        have c2 := d2
        have c3 := d3
        have c4 := d4
        clear d1 d2 d3 d4
        go_wp2_with fail
        go_quiet (fail)
        have d1 : (wq1.drewN nq).cell? _ = _ := c1
        have d2 : (wq1.drewN nq).cell? _ = _ := c2
        have d3 : (wq1.drewN nq).cell? _ = _ := c3
        have d4 : (wq1.drewN nq).cell? _ = _ := c4
        have HBq2 := Lib.hid (below_drewN HBq1.out nq)
        clear c1 c2 c3 c4
        generalize wq1.drewN nq = wq2 at d1 d2 d3 d4 HBq2 ⊢
        have c1 := d1
        have c2 := d2
        have c3 := d3
        have c4 := d4
        clear d1 d2 d3 d4
        go_wp2
        go_ret
        exact ⟨rfl, HBq2.out⟩
    · have dD3 : decide (x3 ≤ x1 + x2) = false := decide_eq_false hD3
      by_cases hD4 : x4 ≤ x3 + x2
      · have dD4 : decide (x4 ≤ x3 + x2) = true := decide_eq_true hD4
        by_cases hD31 : x3 < x1
        · have dD31 : decide (x3 < x1) = true := decide_eq_true hD31
          have hZ : R = ((n - 3 : Nat) : Int) := by
            rw [← hR]
            unfold nxI Ad.nxt
            rw [hl, hx1, hx2, hx3, hx4, if_neg (by omega), if_neg (by decide)]
            rw [if_pos (by omega)]
            rw [if_pos (by omega)]
          subst hZ
          clear hR hx1 hx2 hx3 hx4 hl bx1 bx2 bx3 bx4
          go_enter Try.func23, Try.ntmps23
          go_wp2_with fail
          go_quiet (fail)
          have d1 : (w.drewN nq).cell? _ = _ := c1
          have d2 : (w.drewN nq).cell? _ = _ := c2
          have d3 : (w.drewN nq).cell? _ = _ := c3
          have d4 : (w.drewN nq).cell? _ = _ := c4
          have HBq1 := Lib.hid (below_drewN (Below.refl w.heap.size w) nq)
          clear c1 c2 c3 c4
          generalize w.drewN nq = wq1 at d1 d2 d3 d4 HBq1 ⊢
          have c1 := d1
          have c2 := d2
          have c3 := d3
          have c4 := d4
          clear d1 d2 d3 d4
          go_wp2_with fail
          go_quiet (fail)
          have d1 : (wq1.drewN nq).cell? _ = _ := c1
          have d2 : (wq1.drewN nq).cell? _ = _ := c2
          have d3 : (wq1.drewN nq).cell? _ = _ := c3
          have d4 : (wq1.drewN nq).cell? _ = _ := c4
          have HBq2 := Lib.hid (below_drewN HBq1.out nq)
          clear c1 c2 c3 c4
          generalize wq1.drewN nq = wq2 at d1 d2 d3 d4 HBq2 ⊢
          have c1 := d1
          have c2 := d2
          have c3 := d3
          have c4 := d4
          clear d1 d2 d3 d4
          go_wp2
          go_ret
          exact ⟨rfl, HBq2.out⟩
        · have dD31 : decide (x3 < x1) = false := decide_eq_false hD31
          have hZ : R = ((n - 2 : Nat) : Int) := by
            rw [← hR]
            unfold nxI Ad.nxt
            rw [hl, hx1, hx2, hx3, hx4, if_neg (by omega), if_neg (by decide)]
            rw [if_pos (by omega)]
            rw [if_neg (by omega)]
          subst hZ
          clear hR hx1 hx2 hx3 hx4 hl bx1 bx2 bx3 bx4
          go_enter Try.func23, Try.ntmps23
          go_wp2_with fail
          go_quiet (fail)
          have d1 : (w.drewN nq).cell? _ = _ := c1
          have d2 : (w.drewN nq).cell? _ = _ := c2
          have d3 : (w.drewN nq).cell? _ = _ := c3
          have d4 : (w.drewN nq).cell? _ = _ := c4
          have HBq1 := Lib.hid (below_drewN (Below.refl w.heap.size w) nq)
          clear c1 c2 c3 c4
          generalize w.drewN nq = wq1 at d1 d2 d3 d4 HBq1 ⊢
          have c1 := d1
          have c2 := d2
          have c3 := d3
          have c4 := d4
          clear d1 d2 d3 d4
          go_wp2_with fail
          go_quiet (fail)
          have d1 : (wq1.drewN nq).cell? _ = _ := c1
          have d2 : (wq1.drewN nq).cell? _ = _ := c2
          have d3 : (wq1.drewN nq).cell? _ = _ := c3
          have d4 : (wq1.drewN nq).cell? _ = _ := c4
          have HBq2 := Lib.hid (below_drewN HBq1.out nq)
          clear c1 c2 c3 c4
          generalize wq1.drewN nq = wq2 at d1 d2 d3 d4 HBq2 ⊢
          have c1 := d1
          have c2 := d2
          have c3 := d3
          have c4 := d4
          clear d1 d2 d3 d4
          go_wp2
          go_ret
          exact ⟨rfl, HBq2.out⟩
      · have dD4 : decide (x4 ≤ x3 + x2) = false := decide_eq_false hD4
        by_cases hD21 : x2 ≤ x1
        · have dD21 : decide (x2 ≤ x1) = true := decide_eq_true hD21
          have hZ : R = ((n - 2 : Nat) : Int) := by
            rw [← hR]
            unfold nxI Ad.nxt
            rw [hl, hx1, hx2, hx3, hx4, if_neg (by omega), if_neg (by decide)]
            rw [if_neg (by omega)]
            rw [if_pos (by omega)]
          subst hZ
          clear hR hx1 hx2 hx3 hx4 hl bx1 bx2 bx3 bx4
          go_enter Try.func23, Try.ntmps23
          go_wp2_with fail
          go_quiet (fail)
          have d1 : (w.drewN nq).cell? _ = _ := c1
          have d2 : (w.drewN nq).cell? _ = _ := c2
          have d3 : (w.drewN nq).cell? _ = _ := c3
          have d4 : (w.drewN nq).cell? _ = _ := c4
          have HBq1 := Lib.hid (below_drewN (Below.refl w.heap.size w) nq)
          clear c1 c2 c3 c4
          generalize w.drewN nq = wq1 at d1 d2 d3 d4 HBq1 ⊢
          have c1 := d1
          have c2 := d2
          have c3 := d3
          have c4 := d4
          clear d1 d2 d3 d4
          go_wp2_with fail
          go_quiet (fail)
          have d1 : (wq1.drewN nq).cell? _ = _ := c1
          have d2 : (wq1.drewN nq).cell? _ = _ := c2
          have d3 : (wq1.drewN nq).cell? _ = _ := c3
          have d4 : (wq1.drewN nq).cell? _ = _ := c4
          have HBq2 := Lib.hid (below_drewN HBq1.out nq)
          clear c1 c2 c3 c4
          generalize wq1.drewN nq = wq2 at d1 d2 d3 d4 HBq2 ⊢
          have c1 := d1
          have c2 := d2
          have c3 := d3
          have c4 := d4
          clear d1 d2 d3 d4
          go_wp2
          go_ret
          exact ⟨rfl, HBq2.out⟩
        · have dD21 : decide (x2 ≤ x1) = false := decide_eq_false hD21
          have hZ : R = -1 := by
            rw [← hR]
            unfold nxI Ad.nxt
            rw [hl, hx1, hx2, hx3, hx4, if_neg (by omega), if_neg (by decide)]
            rw [if_neg (by omega)]
            rw [if_neg (by omega)]
          subst hZ
          clear hR hx1 hx2 hx3 hx4 hl bx1 bx2 bx3 bx4
          go_enter Try.func23, Try.ntmps23
          go_wp2_with fail
          go_quiet (fail)
          have d1 : (w.drewN nq).cell? _ = _ := c1
          have d2 : (w.drewN nq).cell? _ = _ := c2
          have d3 : (w.drewN nq).cell? _ = _ := c3
          have d4 : (w.drewN nq).cell? _ = _ := c4
          have HBq1 := Lib.hid (below_drewN (Below.refl w.heap.size w) nq)
          clear c1 c2 c3 c4
          generalize w.drewN nq = wq1 at d1 d2 d3 d4 HBq1 ⊢
          have c1 := d1
          have c2 := d2
          have c3 := d3
          have c4 := d4
          clear d1 d2 d3 d4
          go_wp2_with fail
          go_quiet (fail)
          have d1 : (wq1.drewN nq).cell? _ = _ := c1
          have d2 : (wq1.drewN nq).cell? _ = _ := c2
          have d3 : (wq1.drewN nq).cell? _ = _ := c3
          have d4 : (wq1.drewN nq).cell? _ = _ := c4
          have HBq2 := Lib.hid (below_drewN HBq1.out nq)
          clear c1 c2 c3 c4
          generalize wq1.drewN nq = wq2 at d1 d2 d3 d4 HBq2 ⊢
          have c1 := d1
          have c2 := d2
          have c3 := d3
          have c4 := d4
          clear d1 d2 d3 d4
          go_wp2
          go_ret
          exact ⟨rfl, HBq2.out⟩

end Go.Proofs.Ythakkkljlpimlaa

/- The state of the reference's adaptive sort behind a merge. -/
namespace Go.Proofs.Ythakkkljlpimlaa
open Go.RowKit Go.Sort
set_option linter.unusedVariables false

theorem cut_set {α : Type} (l : List α) (k : Nat) (v : α) (h : k + 1 < l.length) : l.take k ++ [v] ++ l.drop (k + 2) = (l.set k v).take (k + 1) ++ (l.set k v).drop (k + 2) := by
  rw [List.drop_set_of_lt (by omega), List.take_add_one, List.take_set_of_le (by omega), List.getElem?_set_self (by omega)]
  rfl
theorem intV_st (s : List Int) (k : Nat) : intV (Ad.st k s) = (intV s).take k ++ [.int .i64 (s.getD k 0 + s.getD (k + 1) 0)] ++ (intV s).drop (k + 2) := by
  unfold intV Ad.st
  rw [← List.map_take, ← List.map_drop, List.map_append, List.map_cons, List.append_assoc]
  rfl

end Go.Proofs.Ythakkkljlpimlaa

/- Natural runs: the walk of the reference's loops. -/
namespace Go.Proofs.Ythakkkljlpimlaa
open Go.RowKit
set_option linter.unusedVariables false

set_option maxRecDepth 100000 in
set_option maxHeartbeats 4000000 in
theorem l5Runs_any (a : Option Addr) (cap : Nat) (zs : List (Int × Int)) (w : World) (hl : zs.length ≤ 64) (h : RecsAt w a zs) :
    Calls Try.prog 22 #[.slice a zs.length cap] w fun e w' => ∃ (a' : Option Addr) (c' : Nat), e = .returned (.slice a' (runsFrom (keysL zs) 0).length c') ∧ w'.ownsRow w.heap.size 39 2 (.slice a' (runsFrom (keysL zs) 0).length c') (runsFrom (keysL zs) 0).length (flat encR (runsFrom (keysL zs) 0)) ∧ Below w.heap.size w w' := by
  have H := Lib.hid h; clear h
  have E1 := Lib.hid (own_lit (w := w) (e := 39) (size := 2) #[] 0 (by omega) rfl)
  have HKL := Lib.hid (keysL_len zs)
  go_enter Try.func22, Try.ntmps22
  go_wp2
  go_loopw [3, 4, 5] (fun v i _ wr => ∃ (f : Nat) (acc : List (Int × Int)), i = .int .i64 f ∧ f ≤ zs.length ∧ acc.length ≤ f ∧ acc ++ runsFrom (keysL zs) f = runsFrom (keysL zs) 0 ∧ wr.ownsRow w.heap.size 39 2 v acc.length (flat encR acc) ∧ Below w.heap.size w wr) (fun _ i _ _ => zs.length - (intOf i).toNat)
  case atStart => exact ⟨0, [], rfl, by omega, by simp, rfl, E1.out, (Below.refl _ _).alloc (Nat.le_refl _) _⟩
  case round =>
    obtain ⟨f, acc, rfl, hf, hacc, hrun, hown, hb⟩ := hrel
    clear E1
    have HO := Lib.hid hown; clear hown
    have HB := Lib.hid hb; clear hb
    have HRUN := Lib.hid hrun; clear hrun
    by_cases hlt : f < zs.length
    case neg =>
      have HE : Hid (acc = runsFrom (keysL zs) 0) := by
        have := HRUN.out
        rw [runsFrom_end (by rw [HKL.out]; omega), List.append_nil] at this
        exact this
      obtain ⟨a', c', hv⟩ := own_slice HO.out
      rw [hv] at HO
      rw [hv]
      clear hv
      go_wp2
      go_ret
      exact ⟨a', c', by rw [HE.out]; rfl, by rw [← HE.out]; exact HO.out, HB.out⟩
    obtain ⟨b, off, rfl, hf1, hf2⟩ := (H.out.below (Nat.le_refl _) HB.out).at hlt
    by_cases hd : isDn (keysL zs) f = true
    · have HDN := Lib.hid hd
      have h1 : f + 1 < zs.length := by simp only [isDn, Bool.and_eq_true, decide_eq_true_eq] at hd; rw [HKL.out] at hd; exact hd.1
      have h2 : dn (keysL zs) (f + 1) = true := by simp only [isDn, Bool.and_eq_true] at hd; exact hd.2
      rw [dn_at h1] at h2
      obtain ⟨b', off', e1, hg1, hg2⟩ := (H.out.below (Nat.le_refl _) HB.out).at h1
      simp only [Option.some.injEq, Addr.mk.injEq, and_true] at e1
      obtain ⟨rfl, rfl⟩ := e1
      clear hd
      generalize (zs.getD f (0, 0)).1 = x at hf1 h2
      generalize (zs.getD (f + 1) (0, 0)).1 = y at hg1 h2
      have hyx : decide (y < x) = true := by simpa using h2
      have h3 : decide ((f : Int) + 1 < (zs.length : Int)) = true := by simp; omega
      go_wp2_with fail
      go_quiet (fail)
      go_wp2
      clear hf1 hf2 hg1 hg2 hyx h2 h3
      have HB1 := Lib.hid (below_drewN HB.out nq)
      have HO1 : Hid ((wr.drewN nq).ownsRow w.heap.size 39 2 u3 acc.length (flat encR acc)) := HO.out
      generalize wr.drewN nq = wr1 at HB1 HO1 ⊢
      go_loopw [5] (fun t wr2 => ∃ t' : Nat, t = .int .i64 t' ∧ f + 1 ≤ t' ∧ t' ≤ zs.length ∧ scanTo (dn (keysL zs)) (keysL zs).length t' = scanTo (dn (keysL zs)) (keysL zs).length (f + 1) ∧ Below wr1.heap.size wr1 wr2) (fun t _ => zs.length - (intOf t).toNat)
      case atStart => exact ⟨f + 1, by go_num, by omega, by omega, rfl, Below.refl _ _⟩
      case round =>
        obtain ⟨t, rfl, htf, htn, hscan, hb2⟩ := hrel
        have HT := Lib.hid hscan; clear hscan
        have HB2 := Lib.hid (HB1.out.trans (hb2.mono HB1.out.size))
        have HO2 := Lib.hid (own_below HO1.out (Nat.le_refl _) hb2)
        have HB12 := Lib.hid hb2; clear hb2
        obtain ⟨m, rfl⟩ : ∃ m, t = m + 1 := ⟨t - 1, by omega⟩
        have hcast : ((m + 1 : Nat) : Int) = (m : Int) + 1 := by omega
        have HEND : ((keysL zs).length ≤ m + 1 ∨ (dn (keysL zs)) (m + 1) = false) → runEnd (keysL zs) f = m + 1 := fun hs => by rw [runEnd, if_pos HDN.out, ← HT.out]; exact scanTo_stop hs
        have HENDH := Lib.hid HEND; clear HEND
        have HFIN : Hid (runEnd (keysL zs) f = m + 1 → acc ++ [((f : Int), (m : Int) + 1 - (f : Int))] ++ runsFrom (keysL zs) (m + 1) = runsFrom (keysL zs) 0) := fun he => by
          rw [← HRUN.out, runsFrom_step (ks := keysL zs) (f := f) (by rw [HKL.out]; exact hlt), he, List.append_assoc, hcast]; rfl
        have hn40 : acc.length + 1 ≤ 1099511627776 := by omega
        by_cases ht1 : m + 1 < zs.length
        · obtain ⟨b', off', e1, hg1, hg2⟩ := (H.out.below (Nat.le_refl _) HB2.out).at ht1
          simp only [Option.some.injEq, Addr.mk.injEq, and_true] at e1
          obtain ⟨rfl, rfl⟩ := e1
          obtain ⟨b', off', e1, hm1, hm2⟩ := (H.out.below (Nat.le_refl _) HB2.out).at (show m < zs.length by omega)
          simp only [Option.some.injEq, Addr.mk.injEq, and_true] at e1
          obtain ⟨rfl, rfl⟩ := e1
          have HD := Lib.hid (dn_at ht1)
          have h3 : decide ((m : Int) + 1 < (zs.length : Int)) = true := by simp; omega
          generalize (zs.getD m (0, 0)).1 = x at hm1 HD
          generalize (zs.getD (m + 1) (0, 0)).1 = y at hg1 HD
          by_cases hyx : y < x
          · have hz : decide (y < x) = true := by simpa using hyx
            have hz2 : decide (x ≤ y) = false := by simp; omega
            have HC : Hid ((dn (keysL zs)) (m + 1) = true) := by show _ = true; simp only [HD.out]; simp; omega
            have HST := Lib.hid (scanTo_step (q := dn (keysL zs)) (n := (keysL zs).length) (t := m + 1) (by rw [HKL.out]; exact ht1) HC.out)
            rw [hcast]
            go_wp2_with fail
            go_quiet (fail)
            go_wp2
            go_roundw
            case rel => exact ⟨m + 2, by go_num, by omega, by omega, by rw [← HT.out, HST.out], below_drewN HB12.out _⟩
            case measure => simp [intOf]; omega
          · have hz : decide (y < x) = false := by simpa using hyx
            have hz2 : decide (x ≤ y) = true := by simp; omega
            have HSTOP : Hid ((keysL zs).length ≤ m + 1 ∨ (dn (keysL zs)) (m + 1) = false) := .inr (by simp only [HD.out]; simp; omega)
            have hbs := HB2.out.size
            rw [hcast]
            go_wp2_with fail
            go_quiet (fail)
            have HB3 := Lib.hid (below_drewN HB2.out nq)
            have HO3 : Hid ((wr.drewN nq).ownsRow w.heap.size 39 2 u3 acc.length (flat encR acc)) := HO2.out
            have hbs3 : w.heap.size ≤ (wr.drewN nq).heap.size := hbs
            go_wp2_with (at_builtin; refine wpList_app1 slRun rfl (.tmp 70) (.tmp 76) rfl rfl HO3.out [.int .i64 f, .int .i64 ((m : Int) + 1 - (f : Int))] rfl rfl (by simp) (by simp [Value.oneCell']) hn40 hbs3 ?_; intro v' w5 hown' hg' ht)
            have HO5 := Lib.hid hown'
            have HB5 := Lib.hid (below_app HB3.out hbs3 HO3.out (Nat.le_refl _) hg')
            clear hown' hg' ht hbs hbs3
            go_roundw
            case rel => exact ⟨m + 1, acc ++ [((f : Int), (m : Int) + 1 - (f : Int))], by go_num, by omega, by simp; omega, HFIN.out (HENDH.out HSTOP.out), by rw [List.length_append, flat_append]; exact HO5.out, HB5.out⟩
            case measure => simp [intOf]; omega
        · have h3 : decide ((m : Int) + 1 < (zs.length : Int)) = false := by simp; omega
          have HSTOP : Hid ((keysL zs).length ≤ m + 1 ∨ (dn (keysL zs)) (m + 1) = false) := .inl (by rw [HKL.out]; omega)
          have hbs := HB2.out.size
          rw [hcast]
          go_wp2_with fail
          go_quiet (fail)
          have HB3 := Lib.hid (below_drewN HB2.out nq)
          have HO3 : Hid ((wr.drewN nq).ownsRow w.heap.size 39 2 u3 acc.length (flat encR acc)) := HO2.out
          have hbs3 : w.heap.size ≤ (wr.drewN nq).heap.size := hbs
          go_wp2_with (at_builtin; refine wpList_app1 slRun rfl (.tmp 70) (.tmp 76) rfl rfl HO3.out [.int .i64 f, .int .i64 ((m : Int) + 1 - (f : Int))] rfl rfl (by simp) (by simp [Value.oneCell']) hn40 hbs3 ?_; intro v' w5 hown' hg' ht)
          have HO5 := Lib.hid hown'
          have HB5 := Lib.hid (below_app HB3.out hbs3 HO3.out (Nat.le_refl _) hg')
          clear hown' hg' ht hbs hbs3
          go_roundw
          case rel => exact ⟨m + 1, acc ++ [((f : Int), (m : Int) + 1 - (f : Int))], by go_num, by omega, by simp; omega, HFIN.out (HENDH.out HSTOP.out), by rw [List.length_append, flat_append]; exact HO5.out, HB5.out⟩
          case measure => simp [intOf]; omega
    · have hd' : isDn (keysL zs) f = false := by simpa using hd
      have HDN := Lib.hid hd'; clear hd'
      have HIF : Hid (¬ (isDn (keysL zs) f = true)) := hd
      by_cases h1 : f + 1 < zs.length
      · have h2 : dn (keysL zs) (f + 1) = false := by simp only [isDn, Bool.and_eq_true, decide_eq_true_eq, not_and] at hd; rw [HKL.out] at hd; simpa using hd h1
        rw [dn_at h1] at h2
        obtain ⟨b', off', e1, hg1, hg2⟩ := (H.out.below (Nat.le_refl _) HB.out).at h1
        simp only [Option.some.injEq, Addr.mk.injEq, and_true] at e1
        obtain ⟨rfl, rfl⟩ := e1
        clear hd
        generalize (zs.getD f (0, 0)).1 = x at hf1 h2
        generalize (zs.getD (f + 1) (0, 0)).1 = y at hg1 h2
        have h3 : decide ((f : Int) + 1 < (zs.length : Int)) = true := by simp; omega
        go_wp2_with fail
        go_quiet (fail)
        go_wp2
        clear hf1 hf2 hg1 hg2 h2 h3
        have HB1 := Lib.hid (below_drewN HB.out nq)
        have HO1 : Hid ((wr.drewN nq).ownsRow w.heap.size 39 2 u3 acc.length (flat encR acc)) := HO.out
        generalize wr.drewN nq = wr1 at HB1 HO1 ⊢
        go_loopw [5] (fun t wr2 => ∃ t' : Nat, t = .int .i64 t' ∧ f + 1 ≤ t' ∧ t' ≤ zs.length ∧ scanTo (fun t => !dn (keysL zs) t) (keysL zs).length t' = scanTo (fun t => !dn (keysL zs) t) (keysL zs).length (f + 1) ∧ Below wr1.heap.size wr1 wr2) (fun t _ => zs.length - (intOf t).toNat)
        case atStart => exact ⟨f + 1, by go_num, by omega, by omega, rfl, Below.refl _ _⟩
        case round =>
          obtain ⟨t, rfl, htf, htn, hscan, hb2⟩ := hrel
          have HT := Lib.hid hscan; clear hscan
          have HB2 := Lib.hid (HB1.out.trans (hb2.mono HB1.out.size))
          have HO2 := Lib.hid (own_below HO1.out (Nat.le_refl _) hb2)
          have HB12 := Lib.hid hb2; clear hb2
          obtain ⟨m, rfl⟩ : ∃ m, t = m + 1 := ⟨t - 1, by omega⟩
          have hcast : ((m + 1 : Nat) : Int) = (m : Int) + 1 := by omega
          have HEND : ((keysL zs).length ≤ m + 1 ∨ (fun t => !dn (keysL zs) t) (m + 1) = false) → runEnd (keysL zs) f = m + 1 := fun hs => by rw [runEnd, if_neg HIF.out, ← HT.out]; exact scanTo_stop hs
          have HENDH := Lib.hid HEND; clear HEND
          have HFIN : Hid (runEnd (keysL zs) f = m + 1 → acc ++ [((f : Int), (m : Int) + 1 - (f : Int))] ++ runsFrom (keysL zs) (m + 1) = runsFrom (keysL zs) 0) := fun he => by
            rw [← HRUN.out, runsFrom_step (ks := keysL zs) (f := f) (by rw [HKL.out]; exact hlt), he, List.append_assoc, hcast]; rfl
          have hn40 : acc.length + 1 ≤ 1099511627776 := by omega
          by_cases ht1 : m + 1 < zs.length
          · obtain ⟨b', off', e1, hg1, hg2⟩ := (H.out.below (Nat.le_refl _) HB2.out).at ht1
            simp only [Option.some.injEq, Addr.mk.injEq, and_true] at e1
            obtain ⟨rfl, rfl⟩ := e1
            obtain ⟨b', off', e1, hm1, hm2⟩ := (H.out.below (Nat.le_refl _) HB2.out).at (show m < zs.length by omega)
            simp only [Option.some.injEq, Addr.mk.injEq, and_true] at e1
            obtain ⟨rfl, rfl⟩ := e1
            have HD := Lib.hid (dn_at ht1)
            have h3 : decide ((m : Int) + 1 < (zs.length : Int)) = true := by simp; omega
            generalize (zs.getD m (0, 0)).1 = x at hm1 HD
            generalize (zs.getD (m + 1) (0, 0)).1 = y at hg1 HD
            by_cases hyx : y < x
            · have hz : decide (y < x) = true := by simpa using hyx
              have hz2 : decide (x ≤ y) = false := by simp; omega
              have HSTOP : Hid ((keysL zs).length ≤ m + 1 ∨ (fun t => !dn (keysL zs) t) (m + 1) = false) := .inr (by simp only [HD.out]; simp; omega)
              have hbs := HB2.out.size
              rw [hcast]
              go_wp2_with fail
              go_quiet (fail)
              have HB3 := Lib.hid (below_drewN HB2.out nq)
              have HO3 : Hid ((wr.drewN nq).ownsRow w.heap.size 39 2 u3 acc.length (flat encR acc)) := HO2.out
              have hbs3 : w.heap.size ≤ (wr.drewN nq).heap.size := hbs
              go_wp2_with (at_builtin; refine wpList_app1 slRun rfl (.tmp 70) (.tmp 76) rfl rfl HO3.out [.int .i64 f, .int .i64 ((m : Int) + 1 - (f : Int))] rfl rfl (by simp) (by simp [Value.oneCell']) hn40 hbs3 ?_; intro v' w5 hown' hg' ht)
              have HO5 := Lib.hid hown'
              have HB5 := Lib.hid (below_app HB3.out hbs3 HO3.out (Nat.le_refl _) hg')
              clear hown' hg' ht hbs hbs3
              go_roundw
              case rel => exact ⟨m + 1, acc ++ [((f : Int), (m : Int) + 1 - (f : Int))], by go_num, by omega, by simp; omega, HFIN.out (HENDH.out HSTOP.out), by rw [List.length_append, flat_append]; exact HO5.out, HB5.out⟩
              case measure => simp [intOf]; omega
            · have hz : decide (y < x) = false := by simpa using hyx
              have hz2 : decide (x ≤ y) = true := by simp; omega
              have HC : Hid ((fun t => !dn (keysL zs) t) (m + 1) = true) := by show _ = true; simp only [HD.out]; simp; omega
              have HST := Lib.hid (scanTo_step (q := fun t => !dn (keysL zs) t) (n := (keysL zs).length) (t := m + 1) (by rw [HKL.out]; exact ht1) HC.out)
              rw [hcast]
              go_wp2_with fail
              go_quiet (fail)
              go_wp2
              go_roundw
              case rel => exact ⟨m + 2, by go_num, by omega, by omega, by rw [← HT.out, HST.out], below_drewN HB12.out _⟩
              case measure => simp [intOf]; omega
          · have h3 : decide ((m : Int) + 1 < (zs.length : Int)) = false := by simp; omega
            have HSTOP : Hid ((keysL zs).length ≤ m + 1 ∨ (fun t => !dn (keysL zs) t) (m + 1) = false) := .inl (by rw [HKL.out]; omega)
            have hbs := HB2.out.size
            rw [hcast]
            go_wp2_with fail
            go_quiet (fail)
            have HB3 := Lib.hid (below_drewN HB2.out nq)
            have HO3 : Hid ((wr.drewN nq).ownsRow w.heap.size 39 2 u3 acc.length (flat encR acc)) := HO2.out
            have hbs3 : w.heap.size ≤ (wr.drewN nq).heap.size := hbs
            go_wp2_with (at_builtin; refine wpList_app1 slRun rfl (.tmp 70) (.tmp 76) rfl rfl HO3.out [.int .i64 f, .int .i64 ((m : Int) + 1 - (f : Int))] rfl rfl (by simp) (by simp [Value.oneCell']) hn40 hbs3 ?_; intro v' w5 hown' hg' ht)
            have HO5 := Lib.hid hown'
            have HB5 := Lib.hid (below_app HB3.out hbs3 HO3.out (Nat.le_refl _) hg')
            clear hown' hg' ht hbs hbs3
            go_roundw
            case rel => exact ⟨m + 1, acc ++ [((f : Int), (m : Int) + 1 - (f : Int))], by go_num, by omega, by simp; omega, HFIN.out (HENDH.out HSTOP.out), by rw [List.length_append, flat_append]; exact HO5.out, HB5.out⟩
            case measure => simp [intOf]; omega
      · have h3 : decide ((f : Int) + 1 < (zs.length : Int)) = false := by simp; omega
        clear hd
        go_wp2_with fail
        go_quiet (fail)
        go_wp2
        clear hf1 hf2 h3
        have HB1 := Lib.hid (below_drewN HB.out nq)
        have HO1 : Hid ((wr.drewN nq).ownsRow w.heap.size 39 2 u3 acc.length (flat encR acc)) := HO.out
        generalize wr.drewN nq = wr1 at HB1 HO1 ⊢
        go_loopw [5] (fun t wr2 => ∃ t' : Nat, t = .int .i64 t' ∧ f + 1 ≤ t' ∧ t' ≤ zs.length ∧ scanTo (fun t => !dn (keysL zs) t) (keysL zs).length t' = scanTo (fun t => !dn (keysL zs) t) (keysL zs).length (f + 1) ∧ Below wr1.heap.size wr1 wr2) (fun t _ => zs.length - (intOf t).toNat)
        case atStart => exact ⟨f + 1, by go_num, by omega, by omega, rfl, Below.refl _ _⟩
        case round =>
          obtain ⟨t, rfl, htf, htn, hscan, hb2⟩ := hrel
          have HT := Lib.hid hscan; clear hscan
          have HB2 := Lib.hid (HB1.out.trans (hb2.mono HB1.out.size))
          have HO2 := Lib.hid (own_below HO1.out (Nat.le_refl _) hb2)
          have HB12 := Lib.hid hb2; clear hb2
          obtain ⟨m, rfl⟩ : ∃ m, t = m + 1 := ⟨t - 1, by omega⟩
          have hcast : ((m + 1 : Nat) : Int) = (m : Int) + 1 := by omega
          have HEND : ((keysL zs).length ≤ m + 1 ∨ (fun t => !dn (keysL zs) t) (m + 1) = false) → runEnd (keysL zs) f = m + 1 := fun hs => by rw [runEnd, if_neg HIF.out, ← HT.out]; exact scanTo_stop hs
          have HENDH := Lib.hid HEND; clear HEND
          have HFIN : Hid (runEnd (keysL zs) f = m + 1 → acc ++ [((f : Int), (m : Int) + 1 - (f : Int))] ++ runsFrom (keysL zs) (m + 1) = runsFrom (keysL zs) 0) := fun he => by
            rw [← HRUN.out, runsFrom_step (ks := keysL zs) (f := f) (by rw [HKL.out]; exact hlt), he, List.append_assoc, hcast]; rfl
          have hn40 : acc.length + 1 ≤ 1099511627776 := by omega
          by_cases ht1 : m + 1 < zs.length
          · omega
          · have h3 : decide ((m : Int) + 1 < (zs.length : Int)) = false := by simp; omega
            have HSTOP : Hid ((keysL zs).length ≤ m + 1 ∨ (fun t => !dn (keysL zs) t) (m + 1) = false) := .inl (by rw [HKL.out]; omega)
            have hbs := HB2.out.size
            rw [hcast]
            go_wp2_with fail
            go_quiet (fail)
            have HB3 := Lib.hid (below_drewN HB2.out nq)
            have HO3 : Hid ((wr.drewN nq).ownsRow w.heap.size 39 2 u3 acc.length (flat encR acc)) := HO2.out
            have hbs3 : w.heap.size ≤ (wr.drewN nq).heap.size := hbs
            go_wp2_with (at_builtin; refine wpList_app1 slRun rfl (.tmp 70) (.tmp 76) rfl rfl HO3.out [.int .i64 f, .int .i64 ((m : Int) + 1 - (f : Int))] rfl rfl (by simp) (by simp [Value.oneCell']) hn40 hbs3 ?_; intro v' w5 hown' hg' ht)
            have HO5 := Lib.hid hown'
            have HB5 := Lib.hid (below_app HB3.out hbs3 HO3.out (Nat.le_refl _) hg')
            clear hown' hg' ht hbs hbs3
            go_roundw
            case rel => exact ⟨m + 1, acc ++ [((f : Int), (m : Int) + 1 - (f : Int))], by go_num, by omega, by simp; omega, HFIN.out (HENDH.out HSTOP.out), by rw [List.length_append, flat_append]; exact HO5.out, HB5.out⟩
            case measure => simp [intOf]; omega

end Go.Proofs.Ythakkkljlpimlaa
