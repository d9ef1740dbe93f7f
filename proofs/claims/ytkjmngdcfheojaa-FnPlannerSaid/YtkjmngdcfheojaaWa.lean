/- Walks: bounds, lists of integers, the check 'all', fingerprints. -/
import Derived.Test.YtkjmngdcfheojaaWa0
namespace Go.Proofs.Ytkjmngdcfheojaa
open Go.RowKit
set_option linter.unusedVariables false

set_option maxHeartbeats 400000 in
theorem l2List_any (a : Option Addr) (cap : Nat) (zs : List Int) (w : World) (hbig : zs.length ≤ 9223372036854775807) (h : IntsAt w a zs) :
    Calls Try.prog 88 #[.slice a zs.length cap] w fun e w' => e = .returned (.bool (okList zs)) ∧ w = w' := by
  have H := Lib.hid h; clear h
  go_enter Try.func88, Try.ntmps88
  go_wp2
  go_loop [3] (fun i => ∃ k : Nat, k ≤ zs.length ∧ k ≤ 65 ∧ i = .int .i64 k ∧ ∀ j, j < k → okKey (zs.getD j 0) = true) (fun i => zs.length - (intOf i).toNat)
  case atStart => exact ⟨0, by omega, by omega, rfl, by intro j h; omega⟩
  case round =>
    obtain ⟨k, hk, hk2, rfl, hall⟩ := hrel
    have Hall := Lib.hid hall; clear hall
    by_cases h1 : k < zs.length
    · by_cases h2 : k ≤ 64
      · obtain ⟨b, off, rfl, hcell⟩ := H.out.at h1
        generalize hx : zs.getD k 0 = x at hcell
        have Hx := Lib.hid hx; clear hx
        go_wp2_with (go_at_call 61; refine (l1In_any _ _ _ _).mono ?_; rintro e w' ⟨rfl, rfl⟩)
        · have hx : (!inB x (-100000) 100000) = true := by assumption
          go_ret
          exact ⟨ret_bool (by rw [okList_no h1 (by rw [Hx.out]; simpa [okKey] using hx)]), rfl⟩
        · have hx : (!inB x (-100000) 100000) = false := by assumption
          go_round
          case rel =>
            refine ⟨k + 1, by omega, by omega, by go_num, fun j hj => ?_⟩
            rcases Nat.lt_succ_iff_lt_or_eq.1 hj with h | rfl
            · exact Hall.out j h
            · rw [Hx.out]; simpa [okKey] using hx
          case measure => simp [intOf]; omega
      · go_wp2
        go_ret
        have : okList zs = false := by unfold okList; simp; omega
        exact ⟨ret_bool (by rw [this]; simp; omega), rfl⟩
    · go_wp2
      go_ret
      exact ⟨ret_bool (by rw [okList_yes (fun j hj => Hall.out j (by omega))]; exact decide_eq_decide.2 (by omega)), rfl⟩

/-- A function value that answers a predicate on integers, in every world above. -/
def IsPred (w : World) (hv : Value) (p : Int → Bool) : Prop :=
  ∃ G cp, hv = .func (.func G) #[] cp ∧ (∀ args w, (callFunc G args).run Try.prog w = .ok (.enter G args) w) ∧ ∀ w1, Below w.heap.size w w1 → ∀ x : Int, Calls Try.prog G (#[.int .i64 x] ++ cp) w1 fun e w' => e = .returned (.bool (p x)) ∧ w1 = w'

theorem isKey_pred (w : World) : IsPred w (.func (.func 120) #[] #[]) okKey :=
  ⟨_, _, rfl, fun _ _ => by kernel_rfl, fun w1 _ x => by simpa using isKey_any x w1⟩

/-- The closure that 'all' makes: not what the captured function says. -/
theorem allc_any (pc : Nat) (hv : Value) (p : Int → Bool) (w0 w : World) (hp : IsPred w0 hv p) (hb : Below w0.heap.size w0 w) (hc : w.cell? ⟨pc, 0, none⟩ = some hv) (x : Int) :
    Calls Try.prog 138 #[.int .i64 x, .pointer (some ⟨pc, 0, none⟩)] w fun e w' => e = .returned (.bool (!p x)) ∧ w = w' := by
  obtain ⟨G, cp, rfl, hcall, hp⟩ := hp
  have HP := Lib.hid (hp w hb x)
  clear hp hb
  have hcall := hcall (#[.int .i64 x] ++ cp)
  go_enter Try.func138, Try.ntmps138
  go_wp2_with fail
  refine HP.out.mono ?_
  rintro e w' ⟨rfl, rfl⟩
  go_wp2
  go_ret
  exact ⟨rfl, rfl⟩

def idxF (p : Int → Bool) (zs : List Int) : Int := match zs.findIdx? p with | some i => i | none => -1

theorem idxF_some {q : Int → Bool} {zs : List Int} {k : Nat} (hk : k < zs.length) (h : q (zs.getD k 0) = true) (hall : ∀ j, j < k → q (zs.getD j 0) = false) : idxF q zs = k := by
  have : zs.findIdx? q = some k := by
    rw [List.findIdx?_eq_some_iff_getElem]
    refine ⟨hk, by simpa [List.getD, hk] using h, fun j hj => ?_⟩
    have := hall j hj
    simpa [List.getD, show j < zs.length by omega] using this
  simp [idxF, this]

theorem idxF_none {q : Int → Bool} {zs : List Int} (hall : ∀ j, j < zs.length → q (zs.getD j 0) = false) : idxF q zs = -1 := by
  have : zs.findIdx? q = none := by
    rw [List.findIdx?_eq_none_iff]
    intro x hx
    obtain ⟨j, hj, rfl⟩ := List.getElem_of_mem hx
    have := hall j hj
    simpa [List.getD, hj] using this
  simp [idxF, this]

theorem idxF_any (q : Int → Bool) (zs : List Int) : decide (0 ≤ idxF q zs) = zs.any q := by
  unfold idxF
  cases h : zs.findIdx? q with
  | none =>
    have : zs.any q = false := by
      rw [List.findIdx?_eq_none_iff] at h
      rw [List.any_eq_false]
      intro x hx; simp [h x hx]
    simp [this]
  | some i =>
    have : zs.any q = true := by
      rw [List.findIdx?_eq_some_iff_getElem] at h
      obtain ⟨hi, h, _⟩ := h
      rw [List.any_eq_true]
      exact ⟨_, List.getElem_mem hi, h⟩
    simp [this]

set_option maxHeartbeats 400000 in
theorem indexFunc_any (a : Option Addr) (cap : Nat) (zs : List Int) (pc : Nat) (hv : Value) (p : Int → Bool) (w0 w : World) (hbig : zs.length ≤ 9223372036854775807) (h : IntsAt w a zs)
    (hp : IsPred w0 hv p) (hb : Below w0.heap.size w0 w) (hc : w.cell? ⟨pc, 0, none⟩ = some hv) :
    Calls Try.prog 147 #[.slice a zs.length cap, .func (.func 138) #[] #[.pointer (some ⟨pc, 0, none⟩)]] w
      fun e w' => e = .returned (.int .i64 (idxF (fun x => !p x) zs)) ∧ w = w' := by
  have H := Lib.hid h; clear h
  have HC := Lib.hid hc; clear hc
  have HP := Lib.hid hp; clear hp
  have HB := Lib.hid hb; clear hb
  go_enter Try.func147, Try.ntmps147
  go_wp2
  go_loop [8] (fun i => ∃ k : Nat, k ≤ zs.length ∧ i = .int .i64 k ∧ ∀ j, j < k → p (zs.getD j 0) = true) (fun i => zs.length - (intOf i).toNat)
  case atStart => exact ⟨0, by omega, rfl, by intro j h; omega⟩
  case round =>
    obtain ⟨k, hk, rfl, hall⟩ := hrel
    have Hall := Lib.hid hall; clear hall
    by_cases h1 : k < zs.length
    · obtain ⟨b, off, rfl, hcell⟩ := H.out.at h1
      generalize hx : zs.getD k 0 = x at hcell
      have Hx := Lib.hid hx; clear hx
      go_wp2_with (go_at_call 138; refine (allc_any _ _ _ _ _ HP.out HB.out HC.out _).mono ?_; rintro e w' ⟨rfl, rfl⟩)
      · have hx : (!p x) = true := by assumption
        go_ret
        exact ⟨ret_int (by rw [idxF_some h1 (by rw [Hx.out]; exact hx) (fun j hj => by simp only [Hall.out j hj, Bool.not_true])]), rfl⟩
      · have hx : (!p x) = false := by assumption
        go_round
        case rel =>
          refine ⟨k + 1, by omega, by go_num, fun j hj => ?_⟩
          rcases Nat.lt_succ_iff_lt_or_eq.1 hj with h | rfl
          · exact Hall.out j h
          · rw [Hx.out]; simpa using hx
        case measure => simp [intOf]; omega
    · go_wp2
      go_ret
      exact ⟨ret_int (by rw [idxF_none (fun j hj => by simp only [Hall.out j (by omega), Bool.not_true])]), rfl⟩

set_option maxHeartbeats 400000 in
theorem containsFunc_any (a : Option Addr) (cap : Nat) (zs : List Int) (pc : Nat) (hv : Value) (p : Int → Bool) (w0 w : World) (hbig : zs.length ≤ 9223372036854775807) (h : IntsAt w a zs)
    (hp : IsPred w0 hv p) (hb : Below w0.heap.size w0 w) (hc : w.cell? ⟨pc, 0, none⟩ = some hv) :
    Calls Try.prog 137 #[.slice a zs.length cap, .func (.func 138) #[] #[.pointer (some ⟨pc, 0, none⟩)]] w
      fun e w' => e = .returned (.bool (zs.any (fun x => !p x))) ∧ w = w' := by
  have HI := Lib.hid (indexFunc_any a cap zs pc hv p w0 w hbig h hp hb hc)
  have HE := Lib.hid (idxF_any (fun x => !p x) zs)
  clear h hp hb hc
  go_enter Try.func137, Try.ntmps137
  go_wp2_with (go_at_call 147; refine HI.out.mono ?_; rintro e w' ⟨rfl, rfl⟩)
  go_ret
  exact ⟨ret_bool HE.out, rfl⟩

set_option maxHeartbeats 400000 in
theorem all_any (a : Option Addr) (cap : Nat) (zs : List Int) (hv : Value) (p : Int → Bool) (w : World) (hbig : zs.length ≤ 9223372036854775807) (h : IntsAt w a zs) (hp : IsPred w hv p) :
    Calls Try.prog 126 #[.slice a zs.length cap, hv] w fun e w' => e = .returned (.bool (zs.all p)) ∧ Below w.heap.size w w' := by
  have hb : Below w.heap.size w (w.alloc (.cells #[hv] 101)) := (Below.refl _ _).alloc (Nat.le_refl _) _
  have hc : (w.alloc (.cells #[hv] 101)).cell? ⟨w.heap.size, 0, none⟩ = some hv := by rw [World.cell?_alloc_at _ _ _ _ rfl]; rfl
  have HI := Lib.hid (containsFunc_any a cap zs w.heap.size hv p w _ hbig (h.below (Nat.le_refl _) hb) hp hb hc)
  have HB := Lib.hid hb
  have he : (!zs.any (fun x => !p x)) = zs.all p := by rw [List.not_any_eq_all_not]; simp
  have HE := Lib.hid he; clear he
  have hmf := hmf
  obtain ⟨G, cp, rfl, _⟩ := hp
  clear h hb hc
  go_enter Try.func126, Try.ntmps126
  go_wp2_with (go_at_call 137; refine HI.out.mono ?_; rintro e w' ⟨rfl, rfl⟩)
  go_ret
  exact ⟨ret_bool HE.out, HB.out⟩

set_option maxHeartbeats 400000 in
theorem isValidList_any (a : Option Addr) (cap : Nat) (zs : List Int) (w : World) (hbig : zs.length ≤ 9223372036854775807) (h : IntsAt w a zs) :
    Calls Try.prog 84 #[.slice a zs.length cap] w fun e w' => e = .returned (.bool (okList zs)) ∧ Below w.heap.size w w' := by
  have HI := Lib.hid (all_any a cap zs _ okKey w hbig h (isKey_pred w))
  clear h
  by_cases hl : zs.length ≤ 64
  all_goals
    go_enter Try.func84, Try.ntmps84
    go_wp2_with (go_at_call 126; refine HI.out.mono ?_; rintro e w' ⟨rfl, hb⟩)
    go_ret
    exact ⟨ret_bool (by simp [okList, hl]), by first | exact hb | exact Below.refl _ _⟩

end Go.Proofs.Ytkjmngdcfheojaa
