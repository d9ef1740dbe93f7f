/- Walks: SortStableFunc at ints; the permutation that sorts a list stably, of both packages. -/
import Derived.Test.YtkckmjajjdpodaaRh
import Derived.Test.YtkckmjajjdpodaaSo
namespace Go.Proofs.Ytkckmjajjdpodaa
open Go.RowKit Go.Sort
set_option linter.unusedVariables false

set_option maxRecDepth 100000 in
set_option maxHeartbeats 2000000 in
theorem II.sortStable_any {D : Int → Prop} {I : World → Prop} {lt : Int → Int → Bool} (S : Mg.SW lt) {cv : Value} (B0 g c n : Nat) (L : List Int) (w : World) (hn : L.length = n) (hn2 : n ≤ 1000) (hD : ∀ x ∈ L, D x) (hI : I w) (HCV : II.CmpIs D I g lt cv)
    (h : w.ownsRow B0 3 1 (.slice (some ⟨g, 0, none⟩) n c) n (flat II.encI L)) :
    Calls Try.prog 153 #[.slice (some ⟨g, 0, none⟩) n c, cv] w fun e w' => e = .returned (.tuple #[]) ∧
      w'.ownsRow B0 3 1 (.slice (some ⟨g, 0, none⟩) n c) n (flat II.encI (Mg.srt lt L)) ∧ w.grownBy w' (some g) := by
  have HC := Lib.hid (II.stableCmp_any S B0 g c n L w hn hn2 hD hI HCV (II.symOk S HCV) h)
  clear h HCV hI hD
  go_enter Try.func153, Try.ntmps153
  go_wp2_with fail
  refine HC.out.mono ?_
  rintro e w5 ⟨rfl, ho5, hg5⟩
  have HO5 := Lib.hid ho5; have HG5 := Lib.hid hg5
  clear ho5 hg5
  go_wp2
  go_end0
  exact ⟨rfl, HO5.out, HG5.out⟩

/-- The places of a list, in order. -/
def upTo (n : Nat) : List Int := (List.range n).map (Int.ofNat ·)
theorem upTo_succ (n : Nat) : upTo (n + 1) = upTo n ++ [(n : Int)] := by simp [upTo, List.range_succ]
theorem upTo_len (n : Nat) : (upTo n).length = n := by simp [upTo]
theorem upTo_mem {n : Nat} {x : Int} (h : x ∈ upTo n) : 0 ≤ x ∧ x < n := by
  unfold upTo at h
  obtain ⟨i, hi, rfl⟩ := List.mem_map.1 h
  have := List.mem_range.1 hi
  simp only [Int.ofNat_eq_natCast]
  omega
/-- Places compared by what stands there. -/
def keyAt (l : List Int) (i : Int) : Int := l.getD i.toNat 0
def sortP (l : List Int) : List Int := Mg.srt (Mg.ltK (keyAt l)) (upTo l.length)
theorem sortP_len (l : List Int) : (sortP l).length = l.length := by unfold sortP; rw [Mg.srt_length, upTo_len]

/-- What the closure of 'sorting' reads: the box of the list, and the list. -/
def SortI (pc : Nat) (a : Option Addr) (c : Nat) (l : List Int) (w : World) : Prop := w.cell? ⟨pc, 0, none⟩ = some (.slice a l.length c) ∧ IntsAt w a l

set_option maxRecDepth 100000 in
set_option maxHeartbeats 2000000 in
theorem sortCmp_any (pc : Nat) (a : Option Addr) (c : Nat) (l : List Int) (i k : Int) (w : World) (hl : l.length ≤ 1000) (hi : 0 ≤ i ∧ i < l.length) (hk : 0 ≤ k ∧ k < l.length) (h : SortI pc a c l w) :
    Calls Try.prog 154 #[.int .i64 i, .int .i64 k, .pointer (some ⟨pc, 0, none⟩)] w fun e w' => (∃ n : Int, e = .returned (.int .i64 n) ∧ (decide (n < 0) = Mg.ltK (keyAt l) i k)) ∧ Below w.heap.size w w' := by
  obtain ⟨h1, h2⟩ := h
  obtain ⟨i, rfl⟩ := Int.eq_ofNat_of_zero_le hi.1
  obtain ⟨k, rfl⟩ := Int.eq_ofNat_of_zero_le hk.1
  have hi1 : i < l.length := by omega
  have hk1 : k < l.length := by omega
  obtain ⟨b, o, rfl, c1⟩ := h2.at hi1
  obtain ⟨b', o', e, c2⟩ := h2.at hk1
  injection e with e
  injection e with e1 e2
  subst e1 e2
  obtain ⟨X, hX⟩ : ∃ X, l.getD i 0 = X := ⟨_, rfl⟩
  obtain ⟨Y, hY⟩ : ∃ Y, l.getD k 0 = Y := ⟨_, rfl⟩
  rw [hX] at c1
  rw [hY] at c2
  have HC := Lib.hid (fun W => Try.cmp_Compare_int X Y W)
  have HD : Hid (decide (Lib.compareInt X Y < 0) = Mg.ltK (keyAt l) (i : Int) (k : Int)) := by
    show _ = _
    unfold Mg.ltK keyAt
    rw [Int.toNat_natCast, Int.toNat_natCast, hX, hY]
    unfold Lib.compareInt
    by_cases h1 : X < Y
    · rw [if_pos h1, decide_eq_true h1]; rfl
    · rw [if_neg h1, decide_eq_false h1]; split <;> rfl
  clear hX hY hi hk h2
  generalize hN : l.length = N at h1 hi1 hk1 hl
  clear hN
  have t1 : ((i : Int)).toNat = i := by omega
  have t2 : ((k : Int)).toNat = k := by omega
  have b1 : (0 : Int) ≤ (i : Int) := by omega
  have b2 : (i : Int) < (N : Int) := by omega
  have b3 : (0 : Int) ≤ (k : Int) := by omega
  have b4 : (k : Int) < (N : Int) := by omega
  go_enter Try.func154, Try.ntmps154
  go_wp2_with fail
  go_still_tail 8, (by kernel_rfl)
  go_wp2_with fail
  refine (HC.out _).mono ?_
  rintro e w' ⟨rfl, rfl⟩
  go_wp2
  go_ret
  exact ⟨⟨_, rfl, HD.out⟩, (Below.refl _ _).drew⟩

end Go.Proofs.Ytkckmjajjdpodaa
