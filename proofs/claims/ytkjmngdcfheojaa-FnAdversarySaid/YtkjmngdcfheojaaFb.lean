/- Walks: the check 'all' on facts; valid facts. -/
import Derived.Test.YtkjmngdcfheojaaFa1
import Derived.Test.YtkjmngdcfheojaaWf
namespace Go.Proofs.Ytkjmngdcfheojaa
open Go.RowKit
set_option linter.unusedVariables false

/-- A function value that answers a predicate on facts of a kind; it may make memory of its own. -/
def IsPredF (w : World) (hv : Value) (D : Int × Int → Prop) (p : Int × Int → Bool) : Prop :=
  ∃ G cp, hv = .func (.func G) #[] cp ∧ (∀ args w, (callFunc G args).run Try.prog w = .ok (.enter G args) w) ∧ ∀ w1, Below w.heap.size w w1 → ∀ x : Int × Int, D x → Calls Try.prog G (#[.agg #[.int .i64 x.1, .int .i64 x.2]] ++ cp) w1 fun e w' => e = .returned (.bool (p x)) ∧ Below w1.heap.size w1 w'

set_option maxHeartbeats 400000 in
theorem allcF_any (pc : Nat) (hv : Value) (D : Int × Int → Prop) (p : Int × Int → Bool) (w0 w : World) (hp : IsPredF w0 hv D p) (hb : Below w0.heap.size w0 w) (hc : w.cell? ⟨pc, 0, none⟩ = some hv) (x : Int × Int) (hD : D x) :
    Calls Try.prog 131 #[.agg #[.int .i64 x.1, .int .i64 x.2], .pointer (some ⟨pc, 0, none⟩)] w fun e w' => e = .returned (.bool (!p x)) ∧ Below w.heap.size w w' := by
  obtain ⟨G, cp, rfl, hcall, hp⟩ := hp
  have hsz := World.block_lt_of_cell? w _ hc
  have hb2 : Below w.heap.size w (w.alloc (.cells #[.int .i64 x.1, .int .i64 x.2] 32)) := (Below.refl _ _).alloc (Nat.le_refl _) _
  have HP := Lib.hid (hp _ (hb.trans (hb2.mono hb.size)) x hD)
  have HB := Lib.hid hb2
  clear hp hb hb2 hD
  obtain ⟨k, t⟩ := x
  have hcall := hcall (#[.agg #[.int .i64 k, .int .i64 t]] ++ cp)
  go_enter Try.func131, Try.ntmps131
  go_wp2_with fail
  refine HP.out.mono ?_
  rintro e w' ⟨rfl, hb3⟩
  have HB3 := Lib.hid (HB.out.trans (hb3.mono HB.out.size))
  clear hb3
  go_wp2
  go_ret
  exact ⟨rfl, HB3.out⟩

set_option maxHeartbeats 400000 in
theorem indexFuncF_any (a : Option Addr) (cap : Nat) (zs : List (Int × Int)) (pc : Nat) (hv : Value) (D : Int × Int → Prop) (p : Int × Int → Bool) (w0 w : World) (hbig : zs.length ≤ 9223372036854775807) (h : RecsAt w a zs)
    (hp : IsPredF w0 hv D p) (hD : ∀ x ∈ zs, D x) (hb : Below w0.heap.size w0 w) (hc : w.cell? ⟨pc, 0, none⟩ = some hv) :
    Calls Try.prog 141 #[.slice a zs.length cap, .func (.func 131) #[] #[.pointer (some ⟨pc, 0, none⟩)]] w
      fun e w' => (∃ n : Int, e = .returned (.int .i64 n) ∧ decide (0 ≤ n) = zs.any (fun x => !p x)) ∧ Below w.heap.size w w' := by
  have hsz := World.block_lt_of_cell? w _ hc
  have H := Lib.hid h; clear h
  have HDD := Lib.hid hD; clear hD
  have HC := Lib.hid hc; clear hc
  have HP := Lib.hid hp; clear hp
  have HB := Lib.hid hb; clear hb
  have HZ := Lib.hid hsz; clear hsz
  go_enter Try.func141, Try.ntmps141
  go_wp2
  go_loopw [8] (fun i wr => ∃ k : Nat, k ≤ zs.length ∧ i = .int .i64 k ∧ (∀ j, j < k → p (zs.getD j (0, 0)) = true) ∧ Below w.heap.size w wr) (fun i _ => zs.length - (intOf i).toNat)
  case atStart => exact ⟨0, by omega, rfl, by intro j h; omega, Below.refl _ _⟩
  case round =>
    obtain ⟨k, hk, rfl, hall, hbr⟩ := hrel
    have Hall := Lib.hid hall; clear hall
    by_cases h1 : k < zs.length
    · obtain ⟨b, off, rfl, hc1, hc2⟩ := (H.out.below (Nat.le_refl _) hbr).at h1
      have hcw : wr.cell? ⟨pc, 0, none⟩ = some hv := (hbr.cell (p := ⟨pc, 0, none⟩) HZ.out).trans HC.out
      have HQ := Lib.hid (allcF_any pc hv D p w0 wr HP.out (HB.out.trans (hbr.mono HB.out.size)) hcw (zs.getD k (0, 0)) (by rw [List.getD_eq_getElem?_getD, List.getElem?_eq_getElem h1]; exact HDD.out _ (List.getElem_mem h1)))
      generalize hx : zs.getD k (0, 0) = x at hc1 hc2 HQ
      have Hx := Lib.hid hx; clear hx hcw
      have HBR := Lib.hid hbr; clear hbr
      obtain ⟨x1, x2⟩ := x
      go_wp2_with fail
      refine HQ.out.mono ?_
      rintro e w2 ⟨rfl, hb2⟩
      have HB2 := Lib.hid (HBR.out.trans (hb2.mono HBR.out.size)); clear hb2
      cases hq : p (x1, x2)
      · have HV := Lib.hid hq; clear hq
        go_wp2
        go_ret
        refine ⟨⟨_, rfl, ?_⟩, HB2.out⟩
        rw [List.any_eq_true.2 ⟨zs[k], List.getElem_mem h1, by
          have : zs[k] = (x1, x2) := by rw [← Hx.out]; simp [List.getD, h1]
          rw [this, HV.out]; rfl⟩]
        simp
      · have HV := Lib.hid hq; clear hq
        go_wp2
        go_roundw
        case rel =>
          refine ⟨k + 1, by omega, by go_num, fun j hj => ?_, HB2.out⟩
          rcases Nat.lt_succ_iff_lt_or_eq.1 hj with h | rfl
          · exact Hall.out j h
          · rw [Hx.out]; exact HV.out
        case measure => simp [intOf]; omega
    · have HBR := Lib.hid hbr; clear hbr
      go_wp2
      go_ret
      refine ⟨⟨_, rfl, ?_⟩, HBR.out⟩
      rw [List.any_eq_false.2 (fun x hx => by
        obtain ⟨j, hj, rfl⟩ := List.getElem_of_mem hx
        have := Hall.out j (by omega)
        simp only [List.getD, List.getElem?_eq_getElem hj, Option.getD_some] at this
        simp [this])]
      rfl

set_option maxHeartbeats 400000 in
theorem containsFuncF_any (a : Option Addr) (cap : Nat) (zs : List (Int × Int)) (pc : Nat) (hv : Value) (D : Int × Int → Prop) (p : Int × Int → Bool) (w0 w : World) (hbig : zs.length ≤ 9223372036854775807) (h : RecsAt w a zs)
    (hp : IsPredF w0 hv D p) (hD : ∀ x ∈ zs, D x) (hb : Below w0.heap.size w0 w) (hc : w.cell? ⟨pc, 0, none⟩ = some hv) :
    Calls Try.prog 130 #[.slice a zs.length cap, .func (.func 131) #[] #[.pointer (some ⟨pc, 0, none⟩)]] w
      fun e w' => e = .returned (.bool (zs.any (fun x => !p x))) ∧ Below w.heap.size w w' := by
  have HI := Lib.hid (indexFuncF_any a cap zs pc hv D p w0 w hbig h hp hD hb hc)
  clear h hp hb hc hD
  go_enter Try.func130, Try.ntmps130
  go_wp2_with fail
  refine HI.out.mono ?_
  rintro e w2 ⟨⟨n, rfl, hn⟩, hb2⟩
  have HN := Lib.hid hn; clear hn
  have HB := Lib.hid hb2; clear hb2
  go_wp2
  go_ret
  exact ⟨ret_bool HN.out, HB.out⟩

set_option maxHeartbeats 400000 in
theorem allF_any (a : Option Addr) (cap : Nat) (zs : List (Int × Int)) (hv : Value) (D : Int × Int → Prop) (p : Int × Int → Bool) (w : World) (hbig : zs.length ≤ 9223372036854775807) (h : RecsAt w a zs) (hp : IsPredF w hv D p) (hD : ∀ x ∈ zs, D x) :
    Calls Try.prog 107 #[.slice a zs.length cap, hv] w fun e w' => e = .returned (.bool (zs.all p)) ∧ Below w.heap.size w w' := by
  have hb : Below w.heap.size w (w.alloc (.cells #[hv] 112)) := (Below.refl _ _).alloc (Nat.le_refl _) _
  have hc : (w.alloc (.cells #[hv] 112)).cell? ⟨w.heap.size, 0, none⟩ = some hv := by rw [World.cell?_alloc_at _ _ _ _ rfl]; rfl
  have HI := Lib.hid (containsFuncF_any a cap zs w.heap.size hv D p w _ hbig (h.below (Nat.le_refl _) hb) hp hD hb hc)
  have HB := Lib.hid hb
  have he : (!zs.any (fun x => !p x)) = zs.all p := by rw [List.not_any_eq_all_not]; simp
  have HE := Lib.hid he; clear he
  have hmf := hmf
  obtain ⟨G, cp, rfl, _⟩ := hp
  clear h hb hc hD
  go_enter Try.func107, Try.ntmps107
  go_wp2_with fail
  refine HI.out.mono ?_
  rintro e w2 ⟨rfl, hb2⟩
  have HB2 := Lib.hid (HB.out.trans (hb2.mono HB.out.size)); clear hb2
  go_wp2
  go_ret
  exact ⟨ret_bool HE.out, HB2.out⟩


def okFact (n : Int) (f : Int × Int) : Bool := (f.1 != f.2) && inB f.1 0 (n - 1) && inB f.2 0 (n - 1)
def okFacts (n : Int) (fs : List (Int × Int)) : Bool := inB n 1 5 && decide (fs.length ≤ 20) && fs.all (okFact n)

set_option maxHeartbeats 1000000 in
theorem areFact_any (pn : Nat) (n : Int) (h1 : 1 ≤ n) (h5 : n ≤ 5) (x : Int × Int) (w : World) (hc : w.cell? ⟨pn, 0, none⟩ = some (.int .i64 n)) :
    Calls Try.prog 108 #[.agg #[.int .i64 x.1, .int .i64 x.2], .pointer (some ⟨pn, 0, none⟩)] w fun e w' => e = .returned (.bool (okFact n x)) ∧ Below w.heap.size w w' := by
  obtain ⟨x, y⟩ := x
  have hsz := World.block_lt_of_cell? w _ hc
  have HB : Hid (Below w.heap.size w (w.alloc (.cells #[.int .i64 x, .int .i64 y] 32))) := (Below.refl _ _).alloc (Nat.le_refl _) _
  have HX := Lib.hid (fun w1 => in_any x 0 (n - 1) w1)
  have HY := Lib.hid (fun w1 => in_any y 0 (n - 1) w1)
  have HE : okFact n (x, y) = ((x != y) && inB x 0 (n - 1) && inB y 0 (n - 1)) := rfl
  rw [HE]
  clear HE
  cases h1 : (x != y)
  · go_enter Try.func108, Try.ntmps108
    go_wp2
    go_ret
    exact ⟨ret_bool (by simp), HB.out⟩
  · cases h2 : inB x 0 (n - 1)
    · rw [h2] at HX
      clear h2
      go_enter Try.func108, Try.ntmps108
      go_wp2_with fail
      refine (HX.out _).mono ?_
      rintro e w' ⟨rfl, rfl⟩
      go_wp2
      go_ret
      exact ⟨ret_bool (by simp), HB.out⟩
    · rw [h2] at HX
      clear h2
      go_enter Try.func108, Try.ntmps108
      go_wp2_with fail
      refine (HX.out _).mono ?_
      rintro e w' ⟨rfl, rfl⟩
      go_wp2_with fail
      refine (HY.out _).mono ?_
      rintro e w' ⟨rfl, rfl⟩
      go_wp2
      go_ret
      exact ⟨ret_bool (by simp), HB.out⟩

theorem areFact_pred (w : World) (pn : Nat) (n : Int) (h1 : 1 ≤ n) (h5 : n ≤ 5) (hc : w.cell? ⟨pn, 0, none⟩ = some (.int .i64 n)) : IsPredF w (.func (.func 108) #[] #[.pointer (some ⟨pn, 0, none⟩)]) (fun _ => True) (okFact n) :=
  ⟨_, _, rfl, fun _ _ => by kernel_rfl, fun w1 hb x _ => by
    have := areFact_any pn n h1 h5 x w1 ((hb.cell (p := ⟨pn, 0, none⟩) (World.block_lt_of_cell? w _ hc)).trans hc)
    simpa using this⟩

set_option maxHeartbeats 1000000 in
theorem areFacts_any (a : Option Addr) (cap : Nat) (n : Int) (fs : List (Int × Int)) (w : World) (hbig : fs.length ≤ 9223372036854775807) (h : RecsAt w a fs) :
    Calls Try.prog 56 #[.int .i64 n, .slice a fs.length cap] w fun e w' => e = .returned (.bool (okFacts n fs)) ∧ Below w.heap.size w w' := by
  have hb : Below w.heap.size w (w.alloc (.cells #[.int .i64 n] 3)) := (Below.refl _ _).alloc (Nat.le_refl _) _
  have hc : (w.alloc (.cells #[.int .i64 n] 3)).cell? ⟨w.heap.size, 0, none⟩ = some (.int .i64 n) := by rw [World.cell?_alloc_at _ _ _ _ rfl]; rfl
  have HB := Lib.hid hb
  have HI := Lib.hid (fun w1 => in_any n 1 5 w1)
  have HR := Lib.hid (h.below (Nat.le_refl _) hb)
  have hmf := hmf
  have hsz := World.block_lt_of_cell? _ _ hc
  clear h hb
  cases h1 : inB n 1 5
  · have HE : Hid (okFacts n fs = false) := by show _ = _; simp [okFacts, h1]
    rw [HE.out]
    rw [h1] at HI
    go_enter Try.func56, Try.ntmps56
    go_wp2_with fail
    refine (HI.out _).mono ?_
    rintro e w1 ⟨rfl, rfl⟩
    go_wp2
    go_ret
    exact ⟨rfl, HB.out⟩
  · have hn : 1 ≤ n ∧ n ≤ 5 := by simpa [inB] using h1
    rw [h1] at HI
    by_cases hl : fs.length ≤ 20
    · have HE : Hid (okFacts n fs = fs.all (okFact n)) := by show _ = _; simp [okFacts, h1, hl]
      rw [HE.out]
      have HA := Lib.hid (allF_any a cap fs _ (fun _ => True) (okFact n) _ hbig HR.out (areFact_pred _ _ n hn.1 hn.2 hc) (fun _ _ => trivial))
      have hlt : (fs.length : Int) ≤ 20 := by omega
      clear h1 hn
      go_enter Try.func56, Try.ntmps56
      go_wp2_with fail
      refine (HI.out _).mono ?_
      rintro e w1 ⟨rfl, rfl⟩
      go_wp2_with fail
      refine HA.out.mono ?_
      rintro e w1 ⟨rfl, hb⟩
      have HB2 := Lib.hid (HB.out.trans (hb.mono HB.out.size)); clear hb
      go_wp2
      go_ret
      exact ⟨rfl, HB2.out⟩
    · have HE : Hid (okFacts n fs = false) := by show _ = _; simp [okFacts, hl]
      rw [HE.out]
      clear h1 hn
      go_enter Try.func56, Try.ntmps56
      go_wp2_with fail
      refine (HI.out _).mono ?_
      rintro e w1 ⟨rfl, rfl⟩
      go_wp2
      go_ret
      exact ⟨ret_bool (by simp), HB.out⟩

end Go.Proofs.Ytkjmngdcfheojaa
