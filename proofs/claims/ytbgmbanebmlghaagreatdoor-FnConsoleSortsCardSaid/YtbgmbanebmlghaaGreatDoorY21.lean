/- Several texts in one: lemmas and walks of the functions that the law reaches. -/
import Derived.Test.YtbgmbanebmlghaaGreatDoorY11
import Derived.Test.YtbgmbanebmlghaaGreatDoorY17

namespace Go.Proofs.YtbgmbanebmlghaaGreatDoor
open Go.RowKit Go.Sort
set_option linter.unusedVariables false

/-- A sorted list in new memory, with the values that stand behind it. -/
def SortEnd (w : World) (n : Nat) (R : List Int) (vals : List Value) (e : Ending) (w' : World) : Prop :=
  ∃ g c, e = .returned (.tuple (.slice (some ⟨g, 0, none⟩) n c :: vals).toArray) ∧ w'.ownsRow w.heap.size 3 1 (.slice (some ⟨g, 0, none⟩) n c) n (R.map (Value.int .i64)) ∧ Below w.heap.size w w'
theorem results_tmp4 {fn : Func} {t u v s : Tmp} (h : fn.results = #[.tmp t, .tmp u, .tmp v, .tmp s]) (tmps : Array Value) (P : Program) (w : World) :
    (results fn tmps).run P w = .ok (.tuple #[tmps.getD t undef, tmps.getD u undef, tmps.getD v undef, tmps.getD s undef]) w := by
  simp [results, h]
theorem PR.whole {w : World} {B g c n : Nat} {L : List Int} (h : w.ownsRow B 3 1 (.slice (some ⟨g, 0, none⟩) n c) n (L.map (Value.int .i64))) : PR w B g c n [] L [] := ⟨by simpa using h⟩
theorem PR.back {w : World} {B g c n : Nat} {L : List Int} (h : PR w B g c n [] L []) : w.ownsRow B 3 1 (.slice (some ⟨g, 0, none⟩) n c) n (L.map (Value.int .i64)) := by have := h.own; simpa using this
theorem own_cap3 {w : World} {B g c n : Nat} {e : TypeId} {xs : List Value} (h : w.ownsRow B e 1 (.slice (some ⟨g, 0, none⟩) n c) n xs) : n ≤ c ∧ B ≤ g ∧ g < w.heap.size := by
  rcases h.2 with ⟨h2, _⟩ | ⟨g', cap', cur, hv, hb, hg, hn, _, _⟩
  · injection h2 with h2 _ _; cases h2
  · injection hv with h1 _ h3
    injection h1 with h1
    injection h1 with h1
    subst h1 h3
    exact ⟨hn, hb, (Array.getElem?_eq_some_iff.1 hg).1⟩
theorem below_in {w w1 w2 : World} {B g : Nat} (h : Below w.heap.size w w1) (hB : w.heap.size ≤ B) (hg : w1.grownBy w2 (some g)) (h2 : B ≤ g) : Below w.heap.size w w2 := h.grown hg h.size (fun k hk => by injection hk with hk; omega)
theorem own_baseI {w : World} {B B' g c n : Nat} {e : TypeId} {xs : List Value} (h : w.ownsRow B e 1 (.slice (some ⟨g, 0, none⟩) n c) n xs) (hB : B' ≤ B) : w.ownsRow B' e 1 (.slice (some ⟨g, 0, none⟩) n c) n xs := by
  refine ⟨h.1, ?_⟩
  rcases h.2 with h2 | ⟨g', cap', cur, hv, hb, hr⟩
  · exact .inl h2
  · exact .inr ⟨g', cap', cur, hv, by omega, hr⟩

set_option maxRecDepth 100000 in
set_option maxHeartbeats 4000000 in
theorem insertionSortI_any (x : Addr) (cap n c9 v9 : Nat) (zs R : List Int) (w : World) (hn : zs.length = n) (hok : okList zs = true) (hR : Es.gapd 1 zs = (R, c9, v9)) (h : IntsAt w (some x) zs) :
    Calls Tryz.prog 146 #[.slice (some x) n cap] w (SortEnd w n R [.int .i64 c9, .int .i64 v9, .bool true]) := by
  have h64 := okList_len hok
  have HV := Lib.hid (isValidList_any (some x) cap zs w (by omega) h)
  rw [hok, hn] at HV
  have HI := Lib.hid h; have HN := Lib.hid hn; have HR := Lib.hid hR
  have HC := Lib.hid (fun (W : World) (hW : IntsAt W (some x) zs) => copyOf_any x cap zs W (by omega) hW)
  rw [hn] at HC
  have hn64 : n ≤ 64 := by omega
  clear h hok hn hR h64
  unfold SortEnd
  go_enter Tryz.func146, Tryz.ntmps146
  go_wp2_with fail
  refine HV.out.mono ?_
  rintro e w1 ⟨rfl, hb1⟩
  have HB1 := Lib.hid hb1
  have HC1 := Lib.hid (HC.out w1 (HI.out.below (Nat.le_refl _) hb1))
  clear hb1 HV HC
  go_wp2_with fail
  refine HC1.out.mono ?_
  rintro e w2 ⟨g, c, rfl, ho, hb⟩
  obtain ⟨k1, k2, k3⟩ := own_cap3 ho
  have HB2 := Lib.hid (HB1.out.trans (hb.mono HB1.out.size))
  have hsz := HB1.out.size
  have HG := Lib.hid (gapped_any w1.heap.size g c n 1 0 n c c9 v9 [] zs [] R w2 rfl HN.out hn64 (Nat.le_refl _) (by omega) HR.out (PR.whole ho))
  clear ho hb HC1 HB1
  go_wp2_with fail
  refine HG.out.mono ?_
  rintro e w3 ⟨rfl, hp3, hg3⟩
  have HP3 := Lib.hid hp3; have HG3 := Lib.hid hg3
  clear hp3 hg3
  go_wp2
  refine bodyPost_ret (results_tmp4 rfl _ _ _) rfl ?_
  exact ⟨g, c, rfl, own_baseI HP3.out.back hsz, below_in HB2.out hsz HG3.out k2⟩

end Go.Proofs.YtbgmbanebmlghaaGreatDoor

