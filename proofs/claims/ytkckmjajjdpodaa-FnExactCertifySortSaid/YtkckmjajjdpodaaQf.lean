/- Walks: SortStableFunc at records; the program's 'stable' and StableSort (under the merge's contract 'SymOk'). -/
import Derived.Test.YtkckmjajjdpodaaQh
namespace Go.Proofs.Ytkckmjajjdpodaa
open Go.RowKit Go.Sort
set_option linter.unusedVariables false

set_option maxRecDepth 100000 in
set_option maxHeartbeats 2000000 in
theorem sortStable_any {I : World → Prop} {lt : Int × Int → Int × Int → Bool} (S : Mg.SW lt) {cv : Value} (B0 g c n : Nat) (L : List (Int × Int)) (w : World) (hn : L.length = n) (hn2 : n ≤ 1000) (hI : I w) (HCV : CmpIs I g lt cv)
    (h : w.ownsRow B0 72 2 (.slice (some ⟨g, 0, none⟩) n c) n (flat encR L)) :
    Calls Try.prog 151 #[.slice (some ⟨g, 0, none⟩) n c, cv] w fun e w' => e = .returned (.tuple #[]) ∧
      w'.ownsRow B0 72 2 (.slice (some ⟨g, 0, none⟩) n c) n (flat encR (Mg.srt lt L)) ∧ w.grownBy w' (some g) := by
  have HC := Lib.hid (stableCmp_any S B0 g c n L w hn hn2 hI HCV (symOk S HCV) h)
  clear h HCV hI
  go_enter Try.func151, Try.ntmps151
  go_wp2_with fail
  refine HC.out.mono ?_
  rintro e w5 ⟨rfl, ho5, hg5⟩
  have HO5 := Lib.hid ho5; have HG5 := Lib.hid hg5
  clear ho5 hg5
  go_wp2
  go_end0
  exact ⟨rfl, HO5.out, HG5.out⟩

set_option maxRecDepth 100000 in
set_option maxHeartbeats 2000000 in
theorem copyOfR_any (a : Option Addr) (cap : Nat) (zs : List (Int × Int)) (w : World) (hlen : zs.length ≤ 1000) (h : RecsAt w a zs) (hx : NilOk a cap) :
    Calls Try.prog 111 #[.slice a zs.length cap] w (OwnR w zs zs.length) := by
  have E0 := Lib.hid (own_lit (w := w) (e := 72) (size := 2) #[] 0 (by omega) rfl)
  have HB := Lib.hid (show Below w.heap.size w (w.alloc (.cells #[] 72)) from (Below.refl _ _).alloc (Nat.le_refl _) _)
  have HU := Lib.hid (h.below (Nat.le_refl _) HB.out)
  have HX := Lib.hid hx
  have hsm : 0 + zs.length ≤ 1099511627776 := by omega
  have hle : w.heap.size ≤ (w.alloc (.cells #[] 72)).heap.size := by simp
  have HS := Lib.hid hsm; have HLE := Lib.hid hle
  clear h hsm hle hx
  unfold OwnR
  go_enter Try.func111, Try.ntmps111
  go_wp2_with (at_builtin; refine wpList_appR (v := .slice (some ⟨w.heap.size, 0, none⟩) 0 0) slRec rfl _ _ rfl rfl E0.out rfl HU.out rfl HX.out HS.out HLE.out ?_; intro v' w2 hown2 hg2 ht2; obtain ⟨a', c, rfl⟩ := own_slice hown2; have HO := Lib.hid hown2; have HG := Lib.hid hg2; have HT := Lib.hid ht2; clear hown2 hg2 ht2)
  go_wp2
  go_ret
  obtain ⟨g, rfl, _, _⟩ := own_addr HO.out (by
    rcases HT.out with h | h
    · rw [h]; simp [Value.ownBlock]
    · rw [h]; simp)
  refine ⟨g, c, rfl, ?_, HB.out.grown HG.out (by simp) (fun k hk => ?_)⟩
  · have := HO.out
    rw [Nat.zero_add] at this
    simpa using this
  · simp [Value.ownBlock] at hk; omega

set_option maxRecDepth 100000 in
set_option maxHeartbeats 2000000 in
theorem stable_any (a : Option Addr) (cap : Nat) (zs : List (Int × Int)) (w : World) (hlen : zs.length ≤ 1000) (h : RecsAt w a zs) (hx : NilOk a cap) :
    Calls Try.prog 91 #[.slice a zs.length cap] w (OwnR w (srtR zs) zs.length) := by
  have HC := Lib.hid (copyOfR_any a cap zs w hlen h hx)
  have HSS := Lib.hid (fun B0 g c W h => sortStable_any (Mg.swK Prod.fst) B0 g c zs.length zs W rfl hlen trivial (cmpV_is g) h)
  clear h hx
  unfold OwnR at *
  go_enter Try.func91, Try.ntmps91
  go_wp2_with fail
  refine HC.out.mono ?_
  rintro e w1 ⟨g, c, rfl, ho, hb⟩
  have HO1 := Lib.hid ho; have HB1 := Lib.hid hb
  have hgw := (ho.lt g rfl).1
  clear ho hb HC
  go_wp2_with fail
  refine (HSS.out _ _ _ _ HO1.out).mono ?_
  rintro e w5 ⟨rfl, ho5, hg5⟩
  have HO5 := Lib.hid ho5
  have HB5 := Lib.hid (below_of_grown HB1.out HB1.out.size hg5 (fun k hk => by injection hk with hk; omega))
  clear ho5 hg5 HSS
  go_wp2
  go_ret
  exact ⟨g, c, rfl, HO5.out, HB5.out⟩

end Go.Proofs.Ytkckmjajjdpodaa
