/- Walks: the split of a list at a value; the law FnExactVerifyRank. -/
import Derived.Test.YtkjmngdcfheojaaKb
import Derived.Test.YtkjmngdcfheojaaWt1
import Derived.Test.YtkjmngdcfheojaaWa
namespace Go.Proofs.Ytkjmngdcfheojaa
open Go.RowKit
set_option linter.unusedVariables false

def lessL (zs : List Int) (x : Int) : List Int := zs.filter (fun y => decide (y < x))
def equalL (zs : List Int) (x : Int) : List Int := zs.filter (fun y => decide (y = x))
def greaterL (zs : List Int) (x : Int) : List Int := zs.filter (fun y => decide (x < y))

theorem filter_succ (zs : List Int) (k : Nat) (hk : k < zs.length) (q : Int → Bool) : (zs.take (k + 1)).filter q = (zs.take k).filter q ++ if q (zs.getD k 0) then [zs.getD k 0] else [] := by
  rw [List.take_add_one, List.filter_append]
  simp [List.getD, List.getElem?_eq_getElem hk, List.filter_cons]


/-- What holds of the three lists in a round. -/
structure Split3 (W0 w : World) (v1 v2 v3 : Value) (l1 l2 l3 : List Int) : Prop where
  o1 : w.ownsRow W0.heap.size 3 1 v1 l1.length (IL l1)
  o2 : w.ownsRow W0.heap.size 3 1 v2 l2.length (IL l2)
  o3 : w.ownsRow W0.heap.size 3 1 v3 l3.length (IL l3)
  d12 : ∀ k, v1.ownBlock = some k → v2.ownBlock ≠ some k
  d13 : ∀ k, v1.ownBlock = some k → v3.ownBlock ≠ some k
  d23 : ∀ k, v2.ownBlock = some k → v3.ownBlock ≠ some k
  below : Below W0.heap.size W0 w

theorem Split3.swap12 {W0 w : World} {v1 v2 v3 : Value} {l1 l2 l3 : List Int} (h : Split3 W0 w v1 v2 v3 l1 l2 l3) : Split3 W0 w v2 v1 v3 l2 l1 l3 :=
  ⟨h.o2, h.o1, h.o3, fun k a b => h.d12 k b a, h.d23, h.d13, h.below⟩
theorem Split3.swap13 {W0 w : World} {v1 v2 v3 : Value} {l1 l2 l3 : List Int} (h : Split3 W0 w v1 v2 v3 l1 l2 l3) : Split3 W0 w v3 v2 v1 l3 l2 l1 :=
  ⟨h.o3, h.o2, h.o1, fun k a b => h.d23 k b a, fun k a b => h.d13 k b a, fun k a b => h.d12 k b a, h.below⟩

theorem Split3.app {W0 w w' : World} {v1 v2 v3 v' : Value} {l1 l2 l3 : List Int} {x : Int} (h : Split3 W0 w v1 v2 v3 l1 l2 l3)
    (ho : w'.ownsRow W0.heap.size 3 1 v' (l1.length + 1) (IL l1 ++ [.int .i64 x])) (hg : w.grownBy w' v1.ownBlock) (ht : v'.ownBlock = v1.ownBlock ∨ v'.ownBlock = some (w.heap.size + 1)) :
    Split3 W0 w' v' v2 v3 (l1 ++ [x]) l2 l3 := by
  have hs := h.below.size
  refine ⟨?_, own_other h.o2 hg (fun k hk e => h.d12 k e hk), own_other h.o3 hg (fun k hk e => h.d13 k e hk), ?_, ?_, h.d23, below_app h.below hs h.o1 (Nat.le_refl _) hg⟩
  · simpa [IL] using ho
  · intro k hk e
    rcases ht with ht | ht
    · exact h.d12 k (ht ▸ hk) e
    · have := (h.o2.lt k e).2
      rw [ht] at hk; injection hk with hk; omega
  · intro k hk e
    rcases ht with ht | ht
    · exact h.d13 k (ht ▸ hk) e
    · have := (h.o3.lt k e).2
      rw [ht] at hk; injection hk with hk; omega

theorem split3_start (w : World) : Split3 w (((w.alloc (.cells #[] 3)).alloc (.cells #[] 3)).alloc (.cells #[] 3)) (.slice (some ⟨w.heap.size, 0, none⟩) 0 0) (.slice (some ⟨w.heap.size + 1, 0, none⟩) 0 0) (.slice (some ⟨w.heap.size + 2, 0, none⟩) 0 0) [] [] [] := by
  have e1 := own_lit (w := w) (e := 3) (size := 1) #[] 0 (by omega) rfl
  have e2 := own_lit (w := w.alloc (.cells #[] 3)) (e := 3) (size := 1) #[] 0 (by omega) rfl
  have e3 := own_lit (w := (w.alloc (.cells #[] 3)).alloc (.cells #[] 3)) (e := 3) (size := 1) #[] 0 (by omega) rfl
  rw [size_al] at e2
  rw [size_al, size_al] at e3
  refine ⟨?_, ?_, ?_, ?_, ?_, ?_, ?_⟩
  · exact (e1.alloc _).alloc _
  · exact own_mono (e2.alloc _) (by omega)
  · exact own_mono e3 (by omega)
  · intro k h; simp [Value.ownBlock] at *; omega
  · intro k h; simp [Value.ownBlock] at *; omega
  · intro k h; simp [Value.ownBlock] at *; omega
  · exact (((Below.refl _ _).alloc (Nat.le_refl _) _).alloc (by simp) _).alloc (by simp; omega) _

set_option maxHeartbeats 800000 in
theorem split_any (a : Option Addr) (cap : Nat) (zs : List Int) (x : Int) (w : World) (hlen : zs.length ≤ 1048576) (h : IntsAt w a zs) :
    Calls Try.prog 96 #[.slice a zs.length cap, .int .i64 x] w fun e w' => ∃ v1 v2 v3, e = .returned (.tuple #[v1, v2, v3]) ∧ Split3 w w' v1 v2 v3 (lessL zs x) (equalL zs x) (greaterL zs x) := by
  have H := Lib.hid h; clear h
  have S0 := Lib.hid (split3_start w)
  go_enter Try.func96, Try.ntmps96
  go_wp2
  go_loopw [7, 8, 9, 11, 17] (fun v1 v2 v3 _ i wr => ∃ k : Nat, k ≤ zs.length ∧ i = .int .i64 k ∧ Split3 w wr v1 v2 v3 (lessL (zs.take k) x) (equalL (zs.take k) x) (greaterL (zs.take k) x)) (fun _ _ _ _ i _ => zs.length - (intOf i).toNat)
  case atStart => exact ⟨0, by omega, rfl, S0.out⟩
  case round =>
    obtain ⟨k, hk, rfl, hS⟩ := hrel
    clear S0
    by_cases hlt : k < zs.length
    · obtain ⟨b, off, rfl, hcell⟩ := (H.out.below (Nat.le_refl _) hS.below).at hlt
      have e1 := filter_succ zs k hlt (fun y => decide (y < x))
      have e2 := filter_succ zs k hlt (fun y => decide (y = x))
      have e3 := filter_succ zs k hlt (fun y => decide (x < y))
      have m1 : (lessL (zs.take k) x).length ≤ 1048576 := Nat.le_trans (List.length_filter_le _ _) (by simp; omega)
      have m2 : (equalL (zs.take k) x).length ≤ 1048576 := Nat.le_trans (List.length_filter_le _ _) (by simp; omega)
      have m3 : (greaterL (zs.take k) x).length ≤ 1048576 := Nat.le_trans (List.length_filter_le _ _) (by simp; omega)
      generalize hy : zs.getD k 0 = y at hcell e1 e2 e3
      have E : Hid ((lessL (zs.take (k + 1)) x = lessL (zs.take k) x ++ if y < x then [y] else []) ∧ (equalL (zs.take (k + 1)) x = equalL (zs.take k) x ++ if y = x then [y] else []) ∧ (greaterL (zs.take (k + 1)) x = greaterL (zs.take k) x ++ if x < y then [y] else [])) := by
        refine ⟨?_, ?_, ?_⟩
        · unfold lessL; rw [e1]; simp
        · unfold equalL; rw [e2]; simp
        · unfold greaterL; rw [e3]; simp
      have HY := Lib.hid hy; clear hy e1 e2 e3
      generalize lessL (zs.take k) x = l1 at *
      generalize equalL (zs.take k) x = l2 at *
      generalize greaterL (zs.take k) x = l3 at *
      have HS := Lib.hid hS; clear hS
      have hbs : w.heap.size ≤ wr.heap.size := HS.out.below.size
      rcases Int.lt_trichotomy y x with hyx | hyx | hyx
      · go_wp2_with (at_builtin; refine wpList_app1 slInt rfl (.tmp 29) (.tmp 31) rfl rfl HS.out.o1 [.int .i64 y] rfl rfl rfl (by simp [Value.oneCell']) (by omega) hbs ?_; intro v' w1 hown' hg ht)
        have HS' := Lib.hid (HS.out.app hown' hg ht)
        clear hown' hg ht hbs
        go_roundw
        case rel =>
          refine ⟨k + 1, by omega, by go_num, ?_⟩
          rw [E.out.1, E.out.2.1, E.out.2.2, if_pos hyx, if_neg (by omega), if_neg (by omega), List.append_nil, List.append_nil]
          exact HS'.out
        case measure => simp [intOf]; omega
      · have h1 : ¬ y < x := by omega
        have h2 : ¬ x < y := by omega
        have HQ := Lib.hid hyx; clear hyx
        go_wp2_with (at_builtin; refine wpList_app1 slInt rfl (.tmp 21) (.tmp 23) rfl rfl HS.out.swap12.o1 [.int .i64 y] rfl rfl rfl (by simp [Value.oneCell']) (by omega) hbs ?_; intro v' w1 hown' hg ht)
        have HS' := Lib.hid (HS.out.swap12.app hown' hg ht).swap12
        clear hown' hg ht hbs
        go_roundw
        case rel =>
          refine ⟨k + 1, by omega, by go_num, ?_⟩
          rw [E.out.1, E.out.2.1, E.out.2.2, if_neg h1, if_pos HQ.out, if_neg h2, List.append_nil, List.append_nil]
          exact HS'.out
        case measure => simp [intOf]; omega
      · have h1 : ¬ y < x := by omega
        have h2 : ¬ y = x := by omega
        go_wp2_with (at_builtin; refine wpList_app1 slInt rfl (.tmp 37) (.tmp 39) rfl rfl HS.out.swap13.o1 [.int .i64 y] rfl rfl rfl (by simp [Value.oneCell']) (by omega) hbs ?_; intro v' w1 hown' hg ht)
        have HS' := Lib.hid (HS.out.swap13.app hown' hg ht).swap13
        clear hown' hg ht hbs
        go_roundw
        case rel =>
          refine ⟨k + 1, by omega, by go_num, ?_⟩
          rw [E.out.1, E.out.2.1, E.out.2.2, if_neg h1, if_neg h2, if_pos hyx, List.append_nil, List.append_nil]
          exact HS'.out
        case measure => simp [intOf]; omega
    · rw [List.take_of_length_le (by omega)] at hS
      have HS := Lib.hid hS; clear hS
      go_wp2
      go_ret3
      exact ⟨_, _, _, rfl, HS.out⟩

def rankAns (zs : List Int) (x r : Int) : Bool × Bool :=
  if okList zs && inB r 1 zs.length then (decide (((lessL zs x).length : Int) < r) && decide (r ≤ (lessL zs x).length + (equalL zs x).length), true) else (false, false)

end Go.Proofs.Ytkjmngdcfheojaa
