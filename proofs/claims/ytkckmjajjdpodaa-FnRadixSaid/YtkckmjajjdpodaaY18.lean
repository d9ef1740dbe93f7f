/- Several texts in one: lemmas and walks of the functions that the laws reach. -/
import Derived.Test.YtkckmjajjdpodaaY17

/- Walks: the best plan: the program's. -/
namespace Go.Proofs.Ytkckmjajjdpodaa
open Go.RowKit Go.Sort
set_option linter.unusedVariables false

/-- The reads of a plan. -/
def rdF (n m w b : Nat) : Nat := (Mg.costOf n m w b).2.2.1
def bpCells (m : Nat) (s : Option (Nat × Nat × Nat)) : Array Value := match s with
  | none => #[.int .i64 0, .int .i64 0, .int .i64 0]
  | some (w, b, _) => #[.int .i64 m, .int .i64 w, .int .i64 b]
def bpLeast (s : Option (Nat × Nat × Nat)) : Nat := match s with
  | none => 0
  | some (_, _, n) => n
def bpOk (k m : Int) : Bool := inB k 0 64 && inB m 1 64
def bpS (k m : Int) : Option (Nat × Nat × Nat) := if bpOk k m = true then Mg.bestOf (rdF k.toNat m.toNat) m.toNat else none
theorem scanB_cap {f : Nat → Nat → Nat} {w b c : Nat} {s : Option (Nat × Nat × Nat)} (h : c ≤ b) : Mg.scanB f w (min (b + 1) c) s = Mg.scanB f w (min b c) s := by
  rw [Nat.min_eq_right (by omega), Nat.min_eq_right h]
theorem scanB_one {f : Nat → Nat → Nat} {w b c : Nat} {s : Option (Nat × Nat × Nat)} (h : b < c) : Mg.scanB f w (min (b + 1) c) s = Mg.scanB f w (min b c) (Mg.stepB f w (b + 1) s) := by
  rw [Nat.min_eq_left (by omega), Nat.min_eq_left (by omega)]; rfl
theorem heap_store3 {w : World} {g : Nat} {cs : Array Value} {e : TypeId} {f : Nat × Nat} (h : w.heap[g]? = some (.cells cs e f)) (hs : cs.size = 3) (x y z : Value) : (((w.setCell ⟨g, 0, none⟩ x).setCell ⟨g, 1, none⟩ y).setCell ⟨g, 2, none⟩ z).heap[g]? = some (.cells #[x, y, z] e f) := by
  have h1 := heap_storeN (heap_storeN (heap_storeN h 0 x) 1 y) 2 z
  rw [h1]
  obtain ⟨l⟩ := cs
  match l, hs with
  | [a, b, c], _ => rfl
theorem bpCells_size (m : Nat) (s : Option (Nat × Nat × Nat)) : (bpCells m s).size = 3 := by
  cases s with
  | none => rfl
  | some t => rfl
theorem bp_cells (m : Nat) (s : Option (Nat × Nat × Nat)) : ∃ x y z : Nat, bpCells m s = #[.int .i64 x, .int .i64 y, .int .i64 z] := by
  cases s with
  | none => exact ⟨0, 0, 0, rfl⟩
  | some t => exact ⟨m, t.1, t.2.1, rfl⟩
/-- The result's block, the best plan's block. -/
structure Bp (w0 w : World) (R G m : Nat) (s : Option (Nat × Nat × Nat)) : Prop where
  bel : Below w0.heap.size w0 w
  lo : w0.heap.size ≤ R ∧ w0.heap.size ≤ G ∧ R ≠ G
  rz : w.heap[R]? = some (.cells #[.int .i64 0, .int .i64 0, .int .i64 0] 26 (0, 0))
  be : w.heap[G]? = some (.cells (bpCells m s) 26 (0, 0))
theorem Bp.same {w0 w w' : World} {R G m : Nat} {s : Option (Nat × Nat × Nat)} (h : Bp w0 w R G m s) (hb : Below w.heap.size w w') : Bp w0 w' R G m s :=
  ⟨below_tr h.bel hb h.bel.size, h.lo, block_below h.rz hb (hlt_of h.rz), block_below h.be hb (hlt_of h.be)⟩
theorem Bp.put {w0 w : World} {R G m u b n : Nat} {s : Option (Nat × Nat × Nat)} (h : Bp w0 w R G m s) : Bp w0 (((w.setCell ⟨G, 0, none⟩ (.int .i64 m)).setCell ⟨G, 1, none⟩ (.int .i64 u)).setCell ⟨G, 2, none⟩ (.int .i64 b)) R G m (some (u, b, n)) := by
  have far : ∀ (W : World) (j : Nat) (v : Value), (W.setCell ⟨G, j, none⟩ v).heap[R]? = W.heap[R]? := fun W j v => heap_setCell_other W ⟨G, j, none⟩ R v h.lo.2.2
  refine ⟨Below.setCell (p := ⟨G, 2, none⟩) (Below.setCell (p := ⟨G, 1, none⟩) (Below.setCell (p := ⟨G, 0, none⟩) h.bel h.lo.2.1 _) h.lo.2.1 _) h.lo.2.1 _, h.lo, ?_, heap_store3 h.be (bpCells_size _ _) _ _ _⟩
  rw [far, far, far]; exact h.rz

set_option maxRecDepth 100000 in
set_option maxHeartbeats 4000000 in
theorem implBestPlan_any (k m : Int) (w : World) :
    Calls Try.prog 58 #[.int .i64 k, .int .i64 m] w fun e w' => e = .returned (.tuple #[.agg (bpCells m.toNat (bpS k m)), .bool (bpS k m).isSome]) ∧ Below w.heap.size w w' := by
  obtain ⟨wa, hwa⟩ : ∃ W, W = w.alloc (.cells #[.int .i64 0, .int .i64 0, .int .i64 0] 26) := ⟨_, rfl⟩
  have ba : Below w.heap.size w wa := by rw [hwa]; exact belowNew _ _
  have ha : wa.heap[w.heap.size]? = some (.cells #[.int .i64 0, .int .i64 0, .int .i64 0] 26 (0, 0)) := by rw [hwa]; exact block_new _ _
  have sa : wa.heap.size = w.heap.size + 1 := by rw [hwa]; simp
  have HB := Lib.hid ba; have HZ := Lib.hid ha
  have H1 := Lib.hid (in_any k 0 64 wa); have H2 := Lib.hid (in_any m 1 64 wa)
  obtain ⟨r0, r1, r2⟩ := cells3 ha
  have fr : ∀ o, wa.frozen? ⟨w.heap.size, o, none⟩ = false := fun o => frozen_of_row _ _ o _ _ ha
  clear ba ha
  cases h1 : inB k 0 64
  · have HO : Hid (bpS k m = none) := by show _ = _; unfold bpS bpOk; rw [h1]; rfl
    rw [h1] at H1
    clear h1
    subst hwa
    go_enter Try.func58, Try.ntmps58
    go_wp2_with (go_at_call 86; refine H1.out.mono ?_; rintro e w' ⟨rfl, rfl⟩)
    refine bodyPost_ret (v := .tuple #[.agg #[.int .i64 0, .int .i64 0, .int .i64 0], .bool false]) (by simp [results, Try.results58, go_sem, r0, r1, r2]) rfl ⟨?_, HB.out⟩
    rw [HO.out]; rfl
  rw [h1] at H1
  cases h2 : inB m 1 64
  · have HO : Hid (bpS k m = none) := by show _ = _; unfold bpS bpOk; rw [h1, h2]; rfl
    rw [h2] at H2
    clear h1 h2
    subst hwa
    go_enter Try.func58, Try.ntmps58
    go_wp2_with fail
    refine H1.out.mono ?_
    rintro e w1 ⟨rfl, rfl⟩
    go_wp2_with fail
    refine H2.out.mono ?_
    rintro e w1 ⟨rfl, rfl⟩
    go_wp2_with fail
    refine bodyPost_ret (v := .tuple #[.agg #[.int .i64 0, .int .i64 0, .int .i64 0], .bool false]) (by simp [results, Try.results58, go_sem, r0, r1, r2]) rfl ⟨?_, HB.out⟩
    rw [HO.out]; rfl
  rw [h2] at H2
  have HO : Hid (bpS k m = Mg.bestOf (rdF k.toNat m.toNat) m.toNat) := by show _ = _; unfold bpS bpOk; rw [h1, h2]; rfl
  obtain ⟨g1, g2⟩ := inB_iff.1 h1
  obtain ⟨s1, s2⟩ := inB_iff.1 h2
  obtain ⟨n, rfl⟩ : ∃ n : Nat, k = (n : Int) := ⟨k.toNat, by omega⟩
  obtain ⟨mm, rfl⟩ : ∃ n : Nat, m = (n : Int) := ⟨m.toNat, by omega⟩
  rw [Int.toNat_natCast, Int.toNat_natCast] at HO
  rw [Int.toNat_natCast]
  clear h1 h2
  have HBP0 : Hid (Bp w (wa.alloc (.cells #[.int .i64 0, .int .i64 0, .int .i64 0] 26)) w.heap.size wa.heap.size mm none) :=
    ⟨HB.out.alloc HB.out.size _, ⟨Nat.le_refl _, by omega, by omega⟩, block_below HZ.out (belowNew _ _) (hlt_of HZ.out), block_new _ _⟩
  obtain ⟨f, hf⟩ : ∃ f, rdF n mm = f := ⟨_, rfl⟩
  have HF := Lib.hid hf
  rw [hf] at HO
  clear r0 r1 r2 fr HB HZ hf
  subst hwa
  go_enter Try.func58, Try.ntmps58
  go_wp2_with fail
  refine H1.out.mono ?_
  rintro e w1 ⟨rfl, rfl⟩
  go_wp2_with fail
  refine H2.out.mono ?_
  rintro e w1 ⟨rfl, rfl⟩
  go_wp2_with fail
  go_loopw [7, 8, 9] (fun lv fv uv wr => ∃ (u : Nat) (s : Option (Nat × Nat × Nat)), uv = .int .i64 u ∧ lv = .int .i64 (bpLeast s) ∧ fv = .bool s.isSome ∧ 2 ≤ u ∧ u ≤ 17 ∧ Hid (Mg.scanW f mm (17 - u) u s = Mg.bestOf f mm) ∧ Hid (Bp w wr w.heap.size (w.heap.size + 1) mm s)) (fun _ _ uv _ => 17 - (intOf uv).toNat)
  case atStart => exact ⟨2, none, rfl, rfl, rfl, by omega, by omega, Lib.hid rfl, by rw [← sa]; exact HBP0⟩
  case round =>
    obtain ⟨u, s, rfl, rfl, rfl, hu2, hu17, HSW, HBP⟩ := hrel
    by_cases hlt : u ≤ 16
    · have q1 : decide ((u : Int) ≤ 16) = true := decide_eq_true (by omega)
      have HX0 : Hid (Mg.scanB f u (min mm (mm / (u + 1))) s = Mg.scanB f u (mm / (u + 1)) s) := by show _ = _; rw [Nat.min_eq_right (Nat.div_le_self _ _)]
      go_wp2_with fail
      go_loopw [7, 8, 10] (fun lv fv bv wr => ∃ (b : Nat) (t : Option (Nat × Nat × Nat)), bv = .int .i64 b ∧ lv = .int .i64 (bpLeast t) ∧ fv = .bool t.isSome ∧ b ≤ mm ∧ Hid (Mg.scanB f u (min b (mm / (u + 1))) t = Mg.scanB f u (mm / (u + 1)) s) ∧ Hid (Bp w wr w.heap.size (w.heap.size + 1) mm t)) (fun _ _ bv _ => (intOf bv).toNat)
      case atStart => exact ⟨mm, s, rfl, rfl, rfl, Nat.le_refl _, HX0, HBP⟩
      case round =>
        obtain ⟨b, t, rfl, rfl, rfl, hbm, HSB, HBQ⟩ := hrel
        clear HX0 HBP
        by_cases hb1 : 1 ≤ b
        · have q2 : decide ((1 : Int) ≤ (b : Int)) = true := decide_eq_true (by omega)
          have hpr : (u + 1) * b ≤ 17 * 64 := Nat.mul_le_mul (by omega) (by omega)
          have hpi : ((u : Int) + 1) * (b : Int) = (((u + 1) * b : Nat) : Int) := by simp
          have w3 : IntKind.i64.wrap (((u : Int) + 1) * (b : Int)) = ((u : Int) + 1) * (b : Int) := IntWalk.i64_in _ (by rw [hpi]; omega)
          have hdv : b ≤ mm / (u + 1) ↔ (u + 1) * b ≤ mm := by rw [Nat.le_div_iff_mul_le (by omega), Nat.mul_comm]
          have HBQ1 := Lib.hid (HBQ.out.same (belowNew wr (.cells #[.int .i64 mm, .int .i64 u, .int .i64 b] 26)))
          by_cases hm : mm < (u + 1) * b
          · have q3 : decide ((mm : Int) < ((u : Int) + 1) * (b : Int)) = true := decide_eq_true (by rw [hpi]; omega)
            have HSN : Hid (Mg.scanB f u (min (b - 1) (mm / (u + 1))) t = Mg.scanB f u (mm / (u + 1)) s) := by
              show _ = _
              rw [← HSB.out]
              have := scanB_cap (f := f) (w := u) (b := b - 1) (c := mm / (u + 1)) (s := t) (by omega)
              rw [← this, show b - 1 + 1 = b by omega]
            clear hpr hpi hdv
            go_wp2_with fail
            go_roundw
            case rel => exact ⟨b - 1, t, by go_num, rfl, rfl, by omega, HSN, HBQ1⟩
            case measure => simp [intOf] <;> omega
          have q3 : decide ((mm : Int) < ((u : Int) + 1) * (b : Int)) = false := decide_eq_false (by rw [hpi]; omega)
          have HSN : Hid (Mg.scanB f u (min (b - 1) (mm / (u + 1))) (Mg.stepB f u b t) = Mg.scanB f u (mm / (u + 1)) s) := by
            show _ = _
            rw [← HSB.out]
            have := scanB_one (f := f) (w := u) (b := b - 1) (c := mm / (u + 1)) (s := t) (by omega)
            rw [show b - 1 + 1 = b by omega] at this
            exact this.symm
          obtain ⟨⟨i0, i1, i2, i3⟩, hC⟩ : ∃ C, Mg.costOf n mm u b = C := ⟨_, rfl⟩
          have hfi : f u b = i2 := by rw [← HF.out]; unfold rdF; rw [hC]
          have HFI := Lib.hid hfi
          have hok : planOk mm u b = true := by
            unfold planOk
            rw [inB_iff.2 ⟨by omega, by omega⟩, inB_iff.2 ⟨by omega, by omega⟩, inB_iff.2 ⟨by omega, by omega⟩]; rfl
          have HPR := Lib.hid (predict_any n mm u b (wr.alloc (.cells #[.int .i64 mm, .int .i64 u, .int .i64 b] 26)) hok (by omega) hC)
          have hfld : ∀ W, (Instr.field 30 (.agg #[.int .i64 i0, .int .i64 i1, .int .i64 i2, .int .i64 i3]) 2).run Try.prog W = .ok (.int .i64 i2) W := fun W => by kernel_rfl
          have HNP := Lib.hid (block_new wr (.cells #[.int .i64 mm, .int .i64 u, .int .i64 b] 26))
          clear hpr hpi hdv hC hfi hok hm
          go_wp2_with fail
          refine HPR.out.mono ?_
          rintro e w2 ⟨rfl, hb⟩
          have HBQ2 := Lib.hid (HBQ1.out.same hb)
          have HNP2 := Lib.hid (block_below HNP.out hb (hlt_of HNP.out))
          obtain ⟨p0, p1, p2⟩ := cells3 HNP2.out
          have hne : wr.heap.size ≠ w.heap.size + 1 := by have := hlt_of HBQ.out.be; omega
          clear hb HPR HBQ1 HNP HSB HBQ
          cases t with
          | none =>
            have HSM : Hid (Mg.scanB f u (min (b - 1) (mm / (u + 1))) (some (u, b, i2)) = Mg.scanB f u (mm / (u + 1)) s) := by
              show _ = _
              rw [← HSN.out]; unfold Mg.stepB; simp only [HFI.out]
            obtain ⟨bx, by', bz, hbx⟩ := bp_cells mm none
            have hbe := HBQ2.out.be
            have fG : ∀ o, w2.frozen? ⟨w.heap.size + 1, o, none⟩ = false := fun o => frozen_of_row _ _ o _ _ hbe
            rw [hbx] at hbe
            obtain ⟨d0, d1, d2⟩ := cells3 hbe
            have HN := Lib.hid (HBQ2.out.put (u := u) (b := b) (n := i2))
            clear hbe hbx
            go_wp2_with fail
            go_roundw
            case rel => exact ⟨b - 1, some (u, b, i2), by go_num, rfl, rfl, by omega, HSM, HN.out⟩
            case measure => simp [intOf] <;> omega
          | some t0 =>
            obtain ⟨u0, b0, n0⟩ := t0
            have hbl : bpLeast (some (u0, b0, n0)) = n0 := rfl
            by_cases hlt2 : i2 < n0
            · have q4 : decide ((i2 : Int) < (n0 : Int)) = true := decide_eq_true (by omega)
              have HSM : Hid (Mg.scanB f u (min (b - 1) (mm / (u + 1))) (some (u, b, i2)) = Mg.scanB f u (mm / (u + 1)) s) := by
                show _ = _
                rw [← HSN.out]; unfold Mg.stepB; simp only [HFI.out]; rw [if_pos hlt2]
              obtain ⟨bx, by', bz, hbx⟩ := bp_cells mm (some (u0, b0, n0))
              have hbe := HBQ2.out.be
              have fG : ∀ o, w2.frozen? ⟨w.heap.size + 1, o, none⟩ = false := fun o => frozen_of_row _ _ o _ _ hbe
              rw [hbx] at hbe
              obtain ⟨d0, d1, d2⟩ := cells3 hbe
              have HN := Lib.hid (HBQ2.out.put (u := u) (b := b) (n := i2))
              clear hbe hbx
              go_wp2_with fail
              go_roundw
              case rel => exact ⟨b - 1, some (u, b, i2), by go_num, rfl, rfl, by omega, HSM, HN.out⟩
              case measure => simp [intOf] <;> omega
            · have q4 : decide ((i2 : Int) < (n0 : Int)) = false := decide_eq_false (by omega)
              have HSM : Hid (Mg.scanB f u (min (b - 1) (mm / (u + 1))) (some (u0, b0, n0)) = Mg.scanB f u (mm / (u + 1)) s) := by
                show _ = _
                rw [← HSN.out]; unfold Mg.stepB; simp only [HFI.out]; rw [if_neg hlt2]
              go_wp2_with fail
              go_roundw
              case rel => exact ⟨b - 1, some (u0, b0, n0), by go_num, rfl, rfl, by omega, HSM, HBQ2⟩
              case measure => simp [intOf] <;> omega
        · have q2 : decide ((1 : Int) ≤ (b : Int)) = false := decide_eq_false (by omega)
          obtain rfl : b = 0 := by omega
          have HSN : Hid (Mg.scanW f mm (17 - (u + 1)) (u + 1) t = Mg.bestOf f mm) := by
            show _ = _
            have e : 17 - u = (17 - (u + 1)) + 1 := by omega
            have h1 := HSW.out
            rw [e] at h1
            have h2 := HSB.out
            rw [Nat.zero_min] at h2
            have h3 : t = Mg.scanB f u (mm / (u + 1)) s := h2
            rw [h3]; exact h1
          go_wp2_with fail
          go_roundw
          case rel => exact ⟨u + 1, t, by go_num, rfl, rfl, by omega, by omega, HSN, HBQ⟩
          case measure => simp [intOf] <;> omega
    · obtain rfl : u = 17 := by omega
      have q1 : decide (((17 : Nat) : Int) ≤ 16) = false := by decide
      have hsb : s = Mg.bestOf f mm := HSW.out
      obtain ⟨bx, by', bz, hbx⟩ := bp_cells mm s
      have hbe := HBP.out.be
      rw [hbx] at hbe
      obtain ⟨d0, d1, d2⟩ := cells3 hbe
      obtain ⟨r0, r1, r2⟩ := cells3 HBP.out.rz
      have fr : ∀ o, wr.frozen? ⟨w.heap.size, o, none⟩ = false := fun o => frozen_of_row _ _ o _ _ HBP.out.rz
      have HBX := Lib.hid hbx; have HSBX := Lib.hid hsb
      have HBE := Lib.hid HBP.out.bel
      clear hbe hbx hsb HSW HBP
      go_wp2_with fail
      refine bodyPost_ret (v := .tuple #[.agg #[.int .i64 bx, .int .i64 by', .int .i64 bz], .bool s.isSome]) (by simp [results, Try.results58, go_sem, r0, r1, r2]) rfl ⟨?_, Below.setCell (p := ⟨w.heap.size, 2, none⟩) (Below.setCell (p := ⟨w.heap.size, 1, none⟩) (Below.setCell (p := ⟨w.heap.size, 0, none⟩) HBE.out (Nat.le_refl _) _) (Nat.le_refl _) _) (Nat.le_refl _) _⟩
      rw [HO.out, ← HSBX.out, HBX.out]

end Go.Proofs.Ytkckmjajjdpodaa

/- Walks: the best plan: the reference's. -/
namespace Go.Proofs.Ytkckmjajjdpodaa
open Go.RowKit Go.Sort
set_option linter.unusedVariables false

def bpR (s : Option (Nat × Nat × Nat)) : Int := match s with
  | none => -1
  | some (_, _, n) => (n : Int)
theorem bpR_some (s : Option (Nat × Nat × Nat)) : decide (0 ≤ bpR s) = s.isSome := by
  cases s with
  | none => rfl
  | some t => exact decide_eq_true (Int.natCast_nonneg _)

set_option maxRecDepth 100000 in
set_option maxHeartbeats 4000000 in
theorem specBestPlan_any (k m : Int) (w : World) :
    Calls Try.prog 57 #[.int .i64 k, .int .i64 m] w fun e w' => e = .returned (.tuple #[.agg (bpCells m.toNat (bpS k m)), .bool (bpS k m).isSome]) ∧ Below w.heap.size w w' := by
  obtain ⟨wa, hwa⟩ : ∃ W, W = w.alloc (.cells #[.int .i64 0, .int .i64 0, .int .i64 0] 26) := ⟨_, rfl⟩
  obtain ⟨wb, hwb⟩ : ∃ W, W = wa.alloc (.cells #[.int .i64 0, .int .i64 0, .int .i64 0] 26) := ⟨_, rfl⟩
  have sa : wa.heap.size = w.heap.size + 1 := by rw [hwa]; simp
  have ba : Below w.heap.size w wa := by rw [hwa]; exact belowNew _ _
  have bb : Below wa.heap.size wa wb := by rw [hwb]; exact belowNew _ _
  have ha : wa.heap[w.heap.size]? = some (.cells #[.int .i64 0, .int .i64 0, .int .i64 0] 26 (0, 0)) := by rw [hwa]; exact block_new _ _
  have hz : wb.heap[w.heap.size]? = some (.cells #[.int .i64 0, .int .i64 0, .int .i64 0] 26 (0, 0)) := block_below ha bb (by omega)
  have hg : wb.heap[w.heap.size + 1]? = some (.cells #[.int .i64 0, .int .i64 0, .int .i64 0] 26 (0, 0)) := by rw [hwb, ← sa]; exact block_new _ _
  have HBP0 : Hid (Bp w wb w.heap.size (w.heap.size + 1) 0 none) := ⟨below_tr ba bb ba.size, ⟨Nat.le_refl _, by omega, by omega⟩, hz, hg⟩
  have H1 := Lib.hid (l1In_any k 0 64 wb); have H2 := Lib.hid (l1In_any m 1 64 wb)
  obtain ⟨r0, r1, r2⟩ := cells3 hz
  obtain ⟨d0, d1, d2⟩ := cells3 hg
  have fr : ∀ o, wb.frozen? ⟨w.heap.size, o, none⟩ = false := fun o => frozen_of_row _ _ o _ _ hz
  clear ba ha bb hz hg
  cases h1 : inB k 0 64
  · have HO : Hid (bpS k m = none) := by show _ = _; unfold bpS bpOk; rw [h1]; rfl
    rw [h1] at H1
    clear h1
    subst hwb
    subst hwa
    go_enter Try.func57, Try.ntmps57
    go_wp2_with fail
    refine H1.out.mono ?_
    rintro e w1 ⟨rfl, rfl⟩
    go_wp2_with fail
    refine bodyPost_ret (v := .tuple #[.agg #[.int .i64 0, .int .i64 0, .int .i64 0], .bool false]) (by simp [results, Try.results57, go_sem, r0, r1, r2]) rfl ⟨?_, ?_⟩
    · rw [HO.out]; rfl
    · first
      | exact HBP0.out.bel
      | exact Below.setCell (p := ⟨w.heap.size, 2, none⟩) (Below.setCell (p := ⟨w.heap.size, 1, none⟩) (Below.setCell (p := ⟨w.heap.size, 0, none⟩) HBP0.out.bel (Nat.le_refl _) _) (Nat.le_refl _) _) (Nat.le_refl _) _
  rw [h1] at H1
  cases h2 : inB m 1 64
  · have HO : Hid (bpS k m = none) := by show _ = _; unfold bpS bpOk; rw [h1, h2]; rfl
    rw [h2] at H2
    clear h1 h2
    subst hwb
    subst hwa
    go_enter Try.func57, Try.ntmps57
    go_wp2_with fail
    refine H1.out.mono ?_
    rintro e w1 ⟨rfl, rfl⟩
    go_wp2_with fail
    refine H2.out.mono ?_
    rintro e w1 ⟨rfl, rfl⟩
    go_wp2_with fail
    refine bodyPost_ret (v := .tuple #[.agg #[.int .i64 0, .int .i64 0, .int .i64 0], .bool false]) (by simp [results, Try.results57, go_sem, r0, r1, r2]) rfl ⟨?_, ?_⟩
    · rw [HO.out]; rfl
    · first
      | exact HBP0.out.bel
      | exact Below.setCell (p := ⟨w.heap.size, 2, none⟩) (Below.setCell (p := ⟨w.heap.size, 1, none⟩) (Below.setCell (p := ⟨w.heap.size, 0, none⟩) HBP0.out.bel (Nat.le_refl _) _) (Nat.le_refl _) _) (Nat.le_refl _) _
  rw [h2] at H2
  have HO : Hid (bpS k m = Mg.bestOf (rdF k.toNat m.toNat) m.toNat) := by show _ = _; unfold bpS bpOk; rw [h1, h2]; rfl
  obtain ⟨g1, g2⟩ := inB_iff.1 h1
  obtain ⟨s1, s2⟩ := inB_iff.1 h2
  obtain ⟨n, rfl⟩ : ∃ n : Nat, k = (n : Int) := ⟨k.toNat, by omega⟩
  obtain ⟨mm, rfl⟩ : ∃ n : Nat, m = (n : Int) := ⟨m.toNat, by omega⟩
  rw [Int.toNat_natCast, Int.toNat_natCast] at HO
  rw [Int.toNat_natCast]
  clear h1 h2
  obtain ⟨f, hf⟩ : ∃ f, rdF n mm = f := ⟨_, rfl⟩
  have HF := Lib.hid hf
  rw [hf] at HO
  have HBP1 : Hid (Bp w wb w.heap.size (w.heap.size + 1) mm none) := ⟨HBP0.out.bel, HBP0.out.lo, HBP0.out.rz, HBP0.out.be⟩
  clear r0 r1 r2 d0 d1 d2 fr hf HBP0
  subst hwb
  subst hwa
  go_enter Try.func57, Try.ntmps57
  go_wp2_with fail
  refine H1.out.mono ?_
  rintro e w1 ⟨rfl, rfl⟩
  go_wp2_with fail
  refine H2.out.mono ?_
  rintro e w1 ⟨rfl, rfl⟩
  go_wp2_with fail
  go_loopw [7, 8] (fun lv uv wr => ∃ (u : Nat) (s : Option (Nat × Nat × Nat)), uv = .int .i64 u ∧ lv = .int .i64 (bpR s) ∧ 2 ≤ u ∧ u ≤ 17 ∧ Hid (Mg.scanW f mm (17 - u) u s = Mg.bestOf f mm) ∧ Hid (Bp w wr w.heap.size (w.heap.size + 1) mm s)) (fun _ uv _ => 17 - (intOf uv).toNat)
  case atStart => exact ⟨2, none, rfl, rfl, by omega, by omega, Lib.hid rfl, HBP1⟩
  case round =>
    obtain ⟨u, s, rfl, rfl, hu2, hu17, HSW, HBP⟩ := hrel
    clear HBP1
    by_cases hlt : u ≤ 16
    · have q1 : decide ((u : Int) ≤ 16) = true := decide_eq_true (by omega)
      have hdl : mm / (u + 1) ≤ mm := Nat.div_le_self _ _
      have qw : IntKind.i64.wrap ((mm / (u + 1) : Nat) : Int) = ((mm / (u + 1) : Nat) : Int) := by
        generalize mm / (u + 1) = z at hdl
        exact IntWalk.i64_in _ (by omega)
      have QW := Lib.hid qw
      have qz : ¬ (u : Int) + 1 = 0 := by omega
      go_wp2_with fail
      clear qw qz
      go_loopw [7, 9] (fun lv bv wr => ∃ (b : Nat) (t : Option (Nat × Nat × Nat)), bv = .int .i64 b ∧ lv = .int .i64 (bpR t) ∧ b ≤ mm ∧ Hid (Mg.scanB f u b t = Mg.scanB f u (mm / (u + 1)) s) ∧ Hid (Bp w wr w.heap.size (w.heap.size + 1) mm t)) (fun _ bv _ => (intOf bv).toNat)
      case atStart => exact ⟨mm / (u + 1), s, congrArg (Value.int .i64) (by have hq := QW.out; have e : ((mm / (u + 1) : Nat) : Int) = (mm : Int) / ((u : Int) + 1) := (by simp [Int.natCast_ediv]); rw [IntWalk.i64_left] at hq; rw [← e]; exact hq), rfl, hdl, Lib.hid rfl, HBP⟩
      case round =>
        obtain ⟨b, t, rfl, rfl, hbm, HSB, HBQ⟩ := hrel
        clear HBP QW
        by_cases hb1 : 1 ≤ b
        · have q2 : decide ((0 : Int) < (b : Int)) = true := decide_eq_true (by omega)
          have HBQ1 := Lib.hid (HBQ.out.same (belowNew wr (.cells #[.int .i64 mm, .int .i64 u, .int .i64 b] 26)))
          have HSN : Hid (Mg.scanB f u (b - 1) (Mg.stepB f u b t) = Mg.scanB f u (mm / (u + 1)) s) := by
            show _ = _
            rw [← HSB.out]
            obtain ⟨b', rfl⟩ : ∃ b', b = b' + 1 := ⟨b - 1, by omega⟩
            rfl
          obtain ⟨⟨i0, i1, i2, i3⟩, hC⟩ : ∃ C, Mg.costOf n mm u b = C := ⟨_, rfl⟩
          have hfi : f u b = i2 := by rw [← HF.out]; unfold rdF; rw [hC]
          have HFI := Lib.hid hfi
          have hok : planOk mm u b = true := by
            unfold planOk
            rw [inB_iff.2 ⟨by omega, by omega⟩, inB_iff.2 ⟨by omega, by omega⟩, inB_iff.2 ⟨by omega, by omega⟩]; rfl
          have HPR := Lib.hid (l17Predict_any n mm u b (wr.alloc (.cells #[.int .i64 mm, .int .i64 u, .int .i64 b] 26)) hok (by omega) hC)
          have hfld : ∀ W, (Instr.field 30 (.agg #[.int .i64 i0, .int .i64 i1, .int .i64 i2, .int .i64 i3]) 2).run Try.prog W = .ok (.int .i64 i2) W := fun W => by kernel_rfl
          have HNP := Lib.hid (block_new wr (.cells #[.int .i64 mm, .int .i64 u, .int .i64 b] 26))
          clear hC hfi hok
          go_wp2_with fail
          refine HPR.out.mono ?_
          rintro e w2 ⟨rfl, hb⟩
          have HBQ2 := Lib.hid (HBQ1.out.same hb)
          have HNP2 := Lib.hid (block_below HNP.out hb (hlt_of HNP.out))
          obtain ⟨p0, p1, p2⟩ := cells3 HNP2.out
          have hne : wr.heap.size ≠ w.heap.size + 1 := by have := hlt_of HBQ.out.be; omega
          clear hb HPR HBQ1 HNP HSB HBQ
          cases t with
          | none =>
            have hbl : bpR none = -1 := rfl
            have HSM : Hid (Mg.scanB f u (b - 1) (some (u, b, i2)) = Mg.scanB f u (mm / (u + 1)) s) := by
              show _ = _
              rw [← HSN.out]; unfold Mg.stepB; simp only [HFI.out]
            obtain ⟨bx, by', bz, hbx⟩ := bp_cells mm none
            have hbe := HBQ2.out.be
            have fG : ∀ o, w2.frozen? ⟨w.heap.size + 1, o, none⟩ = false := fun o => frozen_of_row _ _ o _ _ hbe
            rw [hbx] at hbe
            obtain ⟨d0, d1, d2⟩ := cells3 hbe
            have HN := Lib.hid (HBQ2.out.put (u := u) (b := b) (n := i2))
            clear hbe hbx
            go_wp2_with fail
            go_roundw
            case rel => exact ⟨b - 1, some (u, b, i2), by go_num, rfl, by omega, HSM, HN.out⟩
            case measure => simp [intOf] <;> omega
          | some t0 =>
            obtain ⟨u0, b0, n0⟩ := t0
            have hbl : bpR (some (u0, b0, n0)) = (n0 : Int) := rfl
            have q5 : decide ((n0 : Int) < 0) = false := decide_eq_false (by omega)
            by_cases hlt2 : i2 < n0
            · have q4 : decide ((i2 : Int) < (n0 : Int)) = true := decide_eq_true (by omega)
              have HSM : Hid (Mg.scanB f u (b - 1) (some (u, b, i2)) = Mg.scanB f u (mm / (u + 1)) s) := by
                show _ = _
                rw [← HSN.out]; unfold Mg.stepB; simp only [HFI.out]; rw [if_pos hlt2]
              obtain ⟨bx, by', bz, hbx⟩ := bp_cells mm (some (u0, b0, n0))
              have hbe := HBQ2.out.be
              have fG : ∀ o, w2.frozen? ⟨w.heap.size + 1, o, none⟩ = false := fun o => frozen_of_row _ _ o _ _ hbe
              rw [hbx] at hbe
              obtain ⟨d0, d1, d2⟩ := cells3 hbe
              have HN := Lib.hid (HBQ2.out.put (u := u) (b := b) (n := i2))
              clear hbe hbx
              go_wp2_with fail
              go_roundw
              case rel => exact ⟨b - 1, some (u, b, i2), by go_num, rfl, by omega, HSM, HN.out⟩
              case measure => simp [intOf] <;> omega
            · have q4 : decide ((i2 : Int) < (n0 : Int)) = false := decide_eq_false (by omega)
              have HSM : Hid (Mg.scanB f u (b - 1) (some (u0, b0, n0)) = Mg.scanB f u (mm / (u + 1)) s) := by
                show _ = _
                rw [← HSN.out]; unfold Mg.stepB; simp only [HFI.out]; rw [if_neg hlt2]
              go_wp2_with fail
              go_roundw
              case rel => exact ⟨b - 1, some (u0, b0, n0), by go_num, rfl, by omega, HSM, HBQ2⟩
              case measure => simp [intOf] <;> omega
        · have q2 : decide ((0 : Int) < (b : Int)) = false := decide_eq_false (by omega)
          obtain rfl : b = 0 := by omega
          have HSN : Hid (Mg.scanW f mm (17 - (u + 1)) (u + 1) t = Mg.bestOf f mm) := by
            show _ = _
            have e : 17 - u = (17 - (u + 1)) + 1 := by omega
            have h1 := HSW.out
            rw [e] at h1
            have h3 : t = Mg.scanB f u (mm / (u + 1)) s := HSB.out
            rw [h3]; exact h1
          go_wp2_with fail
          go_roundw
          case rel => exact ⟨u + 1, t, by go_num, rfl, by omega, by omega, HSN, HBQ⟩
          case measure => simp [intOf] <;> omega
    · obtain rfl : u = 17 := by omega
      have q1 : decide (((17 : Nat) : Int) ≤ 16) = false := by decide
      have hsb : s = Mg.bestOf f mm := HSW.out
      obtain ⟨bx, by', bz, hbx⟩ := bp_cells mm s
      have hbe := HBP.out.be
      rw [hbx] at hbe
      obtain ⟨d0, d1, d2⟩ := cells3 hbe
      obtain ⟨r0, r1, r2⟩ := cells3 HBP.out.rz
      have fr : ∀ o, wr.frozen? ⟨w.heap.size, o, none⟩ = false := fun o => frozen_of_row _ _ o _ _ HBP.out.rz
      have HBX := Lib.hid hbx; have HSBX := Lib.hid hsb
      have HBE := Lib.hid HBP.out.bel
      have q6 := bpR_some s
      clear hbe hbx hsb HSW HBP
      go_wp2_with fail
      refine bodyPost_ret (v := .tuple #[.agg #[.int .i64 bx, .int .i64 by', .int .i64 bz], .bool s.isSome]) (by simp [results, Try.results57, go_sem, r0, r1, r2]) rfl ⟨?_, Below.setCell (p := ⟨w.heap.size, 2, none⟩) (Below.setCell (p := ⟨w.heap.size, 1, none⟩) (Below.setCell (p := ⟨w.heap.size, 0, none⟩) HBE.out (Nat.le_refl _) _) (Nat.le_refl _) _) (Nat.le_refl _) _⟩
      rw [HO.out, ← HSBX.out, HBX.out]

end Go.Proofs.Ytkckmjajjdpodaa

/- The law FnExactBestPlan: its walk. -/
namespace Go.Proofs.Ytkckmjajjdpodaa
open Go.RowKit Go.Sort
set_option linter.unusedVariables false

theorem eqDiskPlan_same (c0 c1 c2 : Nat) (w : World) :
    Calls Try.prog 59 #[.agg #[.int .i64 c0, .int .i64 c1, .int .i64 c2], .agg #[.int .i64 c0, .int .i64 c1, .int .i64 c2]] w fun e w' => e = .returned (.bool true) ∧ Below w.heap.size w w' := by
  have HB := Lib.hid (below_tr (belowNew w (.cells #[.int .i64 c0, .int .i64 c1, .int .i64 c2] 26)) (belowNew (w.alloc (.cells #[.int .i64 c0, .int .i64 c1, .int .i64 c2] 26)) (.cells #[.int .i64 c0, .int .i64 c1, .int .i64 c2] 26)) (by simp))
  have h0 : ((c0 : Int) != (c0 : Int)) = false := by simp
  have h1 : ((c1 : Int) != (c1 : Int)) = false := by simp
  have h2 : ((c2 : Int) != (c2 : Int)) = false := by simp
  go_enter Try.func59, Try.ntmps59
  go_wp2
  go_ret
  exact ⟨rfl, HB.out⟩

set_option maxRecDepth 100000 in
set_option maxHeartbeats 4000000 in
theorem lawBestPlan_any (k m : Int) (w : World) :
    Calls Try.prog 9 #[.int .i64 k, .int .i64 m] w fun e w' => e = .returned (.bool true) ∧ Below w.heap.size w w' := by
  have HG := Lib.hid (fun W => specBestPlan_any k m W)
  have HI := Lib.hid (fun W => implBestPlan_any k m W)
  generalize (bpS k m).isSome = ok at HG HI
  obtain ⟨c0, c1, c2, hc⟩ := bp_cells m.toNat (bpS k m)
  rw [hc] at HG HI
  clear hc
  have HQ := Lib.hid (fun W => eqDiskPlan_same c0 c1 c2 W)
  have h2 : (ok != ok) = false := by simp
  go_enter Try.func9, Try.ntmps9
  go_wp2_with fail
  refine (HG.out _).mono ?_
  rintro e w2 ⟨rfl, hb⟩
  have HB3 := Lib.hid (below_tr hb (belowNew w2 (.cells #[.int .i64 c0, .int .i64 c1, .int .i64 c2] 26)) hb.size)
  have HN3 := Lib.hid (block_new w2 (.cells #[.int .i64 c0, .int .i64 c1, .int .i64 c2] 26))
  clear hb
  go_wp2_with fail
  refine (HI.out _).mono ?_
  rintro e w4 ⟨rfl, hb⟩
  have HB5 := Lib.hid (below_tr HB3.out hb HB3.out.size)
  have HN4 := Lib.hid (block_below HN3.out hb (by simp))
  have hz4 := hlt_of HN4.out
  obtain ⟨q0, q1, q2⟩ := cells3 HN4.out
  have HB6 := Lib.hid (below_tr HB5.out (belowNew w4 (.cells #[.int .i64 c0, .int .i64 c1, .int .i64 c2] 26)) HB5.out.size)
  clear hb HB3 HN3 HB5 HN4
  go_wp2_with fail
  refine (HQ.out _).mono ?_
  rintro e w5 ⟨rfl, hb⟩
  have HB7 := Lib.hid (below_tr HB6.out hb HB6.out.size)
  clear hb HB6
  go_wp2
  go_ret
  exact ⟨rfl, HB7.out⟩

end Go.Proofs.Ytkckmjajjdpodaa
