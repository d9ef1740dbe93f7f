/- Walks: the check 'all' on records; keys; the first descent. -/
import Derived.Test.YtkckmjajjdpodaaWf
namespace Go.Proofs.Ytkckmjajjdpodaa
open Go.RowKit
set_option linter.unusedVariables false

set_option maxHeartbeats 400000 in
theorem isRecord_any (k t : Int) (w : World) :
    Calls Try.prog 147 #[.agg #[.int .i64 k, .int .i64 t]] w fun e w' => e = .returned (.bool (okRec (k, t))) ∧ Below w.heap.size w w' := by
  have HK := Lib.hid (fun w1 => isKey_any k w1)
  have HN := Lib.hid (fun w1 => in_any t 0 999 w1)
  have HE : okRec (k, t) = (okKey k && inB t 0 999) := rfl
  rw [HE]
  have HB : Hid (Below w.heap.size w (w.alloc (.cells #[.int .i64 k, .int .i64 t] 72))) := (Below.refl _ _).alloc (Nat.le_refl _) _
  clear HE
  cases h1 : okKey k
  all_goals
    rw [h1] at HK
    clear h1
    go_enter Try.func147, Try.ntmps147
    go_wp2_with (first | (go_at_call 115; refine (HK.out _).mono ?_; rintro e w' ⟨rfl, rfl⟩) | (go_at_call 86; refine (HN.out _).mono ?_; rintro e w' ⟨rfl, rfl⟩))
    go_ret
    exact ⟨rfl, HB.out⟩

/-- A function value that answers a predicate on records; it may make memory of its own. -/
def IsPredR (w : World) (hv : Value) (p : Int × Int → Bool) : Prop :=
  ∃ G cp, hv = .func (.func G) #[] cp ∧ (∀ args w, (callFunc G args).run Try.prog w = .ok (.enter G args) w) ∧ ∀ w1, Below w.heap.size w w1 → ∀ x : Int × Int, Calls Try.prog G (#[.agg #[.int .i64 x.1, .int .i64 x.2]] ++ cp) w1 fun e w' => e = .returned (.bool (p x)) ∧ Below w1.heap.size w1 w'

theorem isRecord_pred (w : World) : IsPredR w (.func (.func 147) #[] #[]) okRec :=
  ⟨_, _, rfl, fun _ _ => by kernel_rfl, fun w1 _ x => by simpa using isRecord_any x.1 x.2 w1⟩

set_option maxHeartbeats 400000 in
theorem allcR_any (pc : Nat) (hv : Value) (p : Int × Int → Bool) (w0 w : World) (hp : IsPredR w0 hv p) (hb : Below w0.heap.size w0 w) (hc : w.cell? ⟨pc, 0, none⟩ = some hv) (x : Int × Int) :
    Calls Try.prog 162 #[.agg #[.int .i64 x.1, .int .i64 x.2], .pointer (some ⟨pc, 0, none⟩)] w fun e w' => e = .returned (.bool (!p x)) ∧ Below w.heap.size w w' := by
  obtain ⟨G, cp, rfl, hcall, hp⟩ := hp
  have hsz := World.block_lt_of_cell? w _ hc
  have hb2 : Below w.heap.size w (w.alloc (.cells #[.int .i64 x.1, .int .i64 x.2] 72)) := (Below.refl _ _).alloc (Nat.le_refl _) _
  have HP := Lib.hid (hp _ (hb.trans (hb2.mono hb.size)) x)
  have HB := Lib.hid hb2
  clear hp hb hb2
  obtain ⟨k, t⟩ := x
  have hcall := hcall (#[.agg #[.int .i64 k, .int .i64 t]] ++ cp)
  go_enter Try.func162, Try.ntmps162
  go_wp2_with fail
  refine HP.out.mono ?_
  rintro e w' ⟨rfl, hb3⟩
  have HB3 := Lib.hid (HB.out.trans (hb3.mono HB.out.size))
  clear hb3
  go_wp2
  go_ret
  exact ⟨rfl, HB3.out⟩

set_option maxHeartbeats 400000 in
theorem indexFuncR_any (a : Option Addr) (cap : Nat) (zs : List (Int × Int)) (pc : Nat) (hv : Value) (p : Int × Int → Bool) (w0 w : World) (hbig : zs.length ≤ 9223372036854775807) (h : RecsAt w a zs)
    (hp : IsPredR w0 hv p) (hb : Below w0.heap.size w0 w) (hc : w.cell? ⟨pc, 0, none⟩ = some hv) :
    Calls Try.prog 176 #[.slice a zs.length cap, .func (.func 162) #[] #[.pointer (some ⟨pc, 0, none⟩)]] w
      fun e w' => (∃ n : Int, e = .returned (.int .i64 n) ∧ decide (0 ≤ n) = zs.any (fun x => !p x)) ∧ Below w.heap.size w w' := by
  have hsz := World.block_lt_of_cell? w _ hc
  have H := Lib.hid h; clear h
  have HC := Lib.hid hc; clear hc
  have HP := Lib.hid hp; clear hp
  have HB := Lib.hid hb; clear hb
  have HZ := Lib.hid hsz; clear hsz
  go_enter Try.func176, Try.ntmps176
  go_wp2
  go_loopw [8] (fun i wr => ∃ k : Nat, k ≤ zs.length ∧ i = .int .i64 k ∧ (∀ j, j < k → p (zs.getD j (0, 0)) = true) ∧ Below w.heap.size w wr) (fun i _ => zs.length - (intOf i).toNat)
  case atStart => exact ⟨0, by omega, rfl, by intro j h; omega, Below.refl _ _⟩
  case round =>
    obtain ⟨k, hk, rfl, hall, hbr⟩ := hrel
    have Hall := Lib.hid hall; clear hall
    by_cases h1 : k < zs.length
    · obtain ⟨b, off, rfl, hc1, hc2⟩ := (H.out.below (Nat.le_refl _) hbr).at h1
      have hcw : wr.cell? ⟨pc, 0, none⟩ = some hv := (hbr.cell (p := ⟨pc, 0, none⟩) HZ.out).trans HC.out
      have HQ := Lib.hid (allcR_any pc hv p w0 wr HP.out (HB.out.trans (hbr.mono HB.out.size)) hcw (zs.getD k (0, 0)))
      generalize hx : zs.getD k (0, 0) = x at hc1 hc2 HQ
      have Hx := Lib.hid hx; clear hx hcw
      have HBR := Lib.hid hbr; clear hbr
      obtain ⟨x1, x2⟩ := x
      go_wp2_with fail
      refine HQ.out.mono ?_
      rintro e w2 ⟨rfl, hb2⟩
      have HB2 := Lib.hid (HBR.out.trans (hb2.mono HBR.out.size)); clear hb2
      cases hq : p (x1, x2)
      · have HV := Lib.hid hq; clear hq
        go_wp2
        go_ret
        refine ⟨⟨_, rfl, ?_⟩, HB2.out⟩
        rw [List.any_eq_true.2 ⟨zs[k], List.getElem_mem h1, by
          have : zs[k] = (x1, x2) := by rw [← Hx.out]; simp [List.getD, h1]
          rw [this, HV.out]; rfl⟩]
        simp
      · have HV := Lib.hid hq; clear hq
        go_wp2
        go_roundw
        case rel =>
          refine ⟨k + 1, by omega, by go_num, fun j hj => ?_, HB2.out⟩
          rcases Nat.lt_succ_iff_lt_or_eq.1 hj with h | rfl
          · exact Hall.out j h
          · rw [Hx.out]; exact HV.out
        case measure => simp [intOf]; omega
    · have HBR := Lib.hid hbr; clear hbr
      go_wp2
      go_ret
      refine ⟨⟨_, rfl, ?_⟩, HBR.out⟩
      rw [List.any_eq_false.2 (fun x hx => by
        obtain ⟨j, hj, rfl⟩ := List.getElem_of_mem hx
        have := Hall.out j (by omega)
        simp only [List.getD, List.getElem?_eq_getElem hj, Option.getD_some] at this
        simp [this])]
      rfl

set_option maxHeartbeats 400000 in
theorem containsFuncR_any (a : Option Addr) (cap : Nat) (zs : List (Int × Int)) (pc : Nat) (hv : Value) (p : Int × Int → Bool) (w0 w : World) (hbig : zs.length ≤ 9223372036854775807) (h : RecsAt w a zs)
    (hp : IsPredR w0 hv p) (hb : Below w0.heap.size w0 w) (hc : w.cell? ⟨pc, 0, none⟩ = some hv) :
    Calls Try.prog 161 #[.slice a zs.length cap, .func (.func 162) #[] #[.pointer (some ⟨pc, 0, none⟩)]] w
      fun e w' => e = .returned (.bool (zs.any (fun x => !p x))) ∧ Below w.heap.size w w' := by
  have HI := Lib.hid (indexFuncR_any a cap zs pc hv p w0 w hbig h hp hb hc)
  clear h hp hb hc
  go_enter Try.func161, Try.ntmps161
  go_wp2_with fail
  refine HI.out.mono ?_
  rintro e w2 ⟨⟨n, rfl, hn⟩, hb2⟩
  have HN := Lib.hid hn; clear hn
  have HB := Lib.hid hb2; clear hb2
  go_wp2
  go_ret
  exact ⟨ret_bool HN.out, HB.out⟩

set_option maxHeartbeats 400000 in
theorem allR_any (a : Option Addr) (cap : Nat) (zs : List (Int × Int)) (hv : Value) (p : Int × Int → Bool) (w : World) (hbig : zs.length ≤ 9223372036854775807) (h : RecsAt w a zs) (hp : IsPredR w hv p) :
    Calls Try.prog 121 #[.slice a zs.length cap, hv] w fun e w' => e = .returned (.bool (zs.all p)) ∧ Below w.heap.size w w' := by
  have hb : Below w.heap.size w (w.alloc (.cells #[hv] 135)) := (Below.refl _ _).alloc (Nat.le_refl _) _
  have hc : (w.alloc (.cells #[hv] 135)).cell? ⟨w.heap.size, 0, none⟩ = some hv := by rw [World.cell?_alloc_at _ _ _ _ rfl]; rfl
  have HI := Lib.hid (containsFuncR_any a cap zs w.heap.size hv p w _ hbig (h.below (Nat.le_refl _) hb) hp hb hc)
  have HB := Lib.hid hb
  have he : (!zs.any (fun x => !p x)) = zs.all p := by rw [List.not_any_eq_all_not]; simp
  have HE := Lib.hid he; clear he
  have hmf := hmf
  obtain ⟨G, cp, rfl, _⟩ := hp
  clear h hb hc
  go_enter Try.func121, Try.ntmps121
  go_wp2_with fail
  refine HI.out.mono ?_
  rintro e w2 ⟨rfl, hb2⟩
  have HB2 := Lib.hid (HB.out.trans (hb2.mono HB.out.size)); clear hb2
  go_wp2
  go_ret
  exact ⟨ret_bool HE.out, HB2.out⟩

set_option maxHeartbeats 400000 in
theorem isValidRecords_any (a : Option Addr) (cap : Nat) (zs : List (Int × Int)) (w : World) (hbig : zs.length ≤ 9223372036854775807) (h : RecsAt w a zs) :
    Calls Try.prog 81 #[.slice a zs.length cap] w fun e w' => e = .returned (.bool (okRecs zs)) ∧ Below w.heap.size w w' := by
  have HI := Lib.hid (allR_any a cap zs _ okRec w hbig h (isRecord_pred w))
  clear h
  by_cases hl : zs.length ≤ 64
  all_goals
    go_enter Try.func81, Try.ntmps81
    go_wp2_with ((go_at_call 121; refine HI.out.mono ?_; rintro e w' ⟨rfl, hb⟩))
    go_ret
    exact ⟨ret_bool (by simp [okRecs, hl]), by first | exact hb | exact Below.refl _ _⟩

end Go.Proofs.Ytkckmjajjdpodaa
