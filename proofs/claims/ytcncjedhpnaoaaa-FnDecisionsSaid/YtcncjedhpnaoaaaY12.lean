/- Several texts in one: lemmas and walks of the functions that the law reaches. -/
import Derived.Test.YtcncjedhpnaoaaaY7
import Derived.Test.YtcncjedhpnaoaaaY10

namespace Go.Proofs.Ytcncjedhpnaoaaa
open Go.RowKit Go.Sort
set_option linter.unusedVariables false

/-- A list of integers of the call's own, behind a call. -/
def OwnEnd (w : World) (l : List Int) (n : Nat) (e : Ending) (w' : World) : Prop :=
  ∃ (g c : Nat), e = .returned (.slice (some ⟨g, 0, none⟩) n c) ∧ w'.ownsRow w.heap.size 3 1 (.slice (some ⟨g, 0, none⟩) n c) n (l.map (Value.int .i64)) ∧ Below w.heap.size w w'

set_option maxRecDepth 100000 in
set_option maxHeartbeats 2000000 in
theorem l1Own_any (x : Addr) (cap : Nat) (zs : List Int) (w : World) (hlen : zs.length ≤ 1000) (h : IntsAt w (some x) zs) :
    Calls Try.prog 57 #[.slice (some x) zs.length cap] w (OwnEnd w zs zs.length) := by
  have E0 := Lib.hid (own_lit (w := w) (e := 3) (size := 1) #[] 0 (by omega) rfl)
  have HB := Lib.hid (show Below w.heap.size w (w.alloc (.cells #[] 3)) from (Below.refl _ _).alloc (Nat.le_refl _) _)
  have HN := Lib.hid (ints_news (h.below (Nat.le_refl _) HB.out))
  have hl : (zs.map (Value.int .i64)).length = zs.length * 1 := by simp
  have hsm : 0 + zs.length ≤ 1099511627776 := by omega
  have hle : w.heap.size ≤ (w.alloc (.cells #[] 3)).heap.size := by simp
  have HL := Lib.hid hl; have HS := Lib.hid hsm; have HLE := Lib.hid hle
  clear h hl hsm hle
  go_enter Try.func57, Try.ntmps57
  go_wp2_with (at_builtin; refine wpList_appX (v := .slice (some ⟨w.heap.size, 0, none⟩) 0 0) slInt rfl _ _ rfl rfl E0.out rfl HL.out HN.out (by simp [Value.oneCell']) HS.out HLE.out ?_; intro v' w2 hown2 hg2 ht2; obtain ⟨a', c', rfl⟩ := own_slice hown2; have HO := Lib.hid hown2; have HG := Lib.hid hg2; have HT := Lib.hid ht2; clear hown2 hg2 ht2)
  go_wp2
  go_ret
  obtain ⟨g, rfl, _, _⟩ := own_addr HO.out (by
    rcases HT.out with h | h
    · rw [h]; simp [Value.ownBlock]
    · rw [h]; simp)
  refine ⟨g, c', ?_, ?_, HB.out.grown HG.out (by simp) (fun k hk => ?_)⟩
  · rfl
  · have := HO.out
    rw [Nat.zero_add] at this
    simpa using this
  · simp [Value.ownBlock] at hk; omega

end Go.Proofs.Ytcncjedhpnaoaaa

namespace Go.Proofs.Ytcncjedhpnaoaaa
open Go.RowKit Go.Sort
set_option linter.unusedVariables false

set_option maxRecDepth 100000 in
set_option maxHeartbeats 2000000 in
theorem copyOf_any (x : Addr) (cap : Nat) (zs : List Int) (w : World) (hlen : zs.length ≤ 1000) (h : IntsAt w (some x) zs) :
    Calls Try.prog 27 #[.slice (some x) zs.length cap] w (OwnEnd w zs zs.length) := by
  have E0 := Lib.hid (own_lit (w := w) (e := 3) (size := 1) #[] 0 (by omega) rfl)
  have HB := Lib.hid (show Below w.heap.size w (w.alloc (.cells #[] 3)) from (Below.refl _ _).alloc (Nat.le_refl _) _)
  have HN := Lib.hid (ints_news (h.below (Nat.le_refl _) HB.out))
  have hl : (zs.map (Value.int .i64)).length = zs.length * 1 := by simp
  have hsm : 0 + zs.length ≤ 1099511627776 := by omega
  have hle : w.heap.size ≤ (w.alloc (.cells #[] 3)).heap.size := by simp
  have HL := Lib.hid hl; have HS := Lib.hid hsm; have HLE := Lib.hid hle
  clear h hl hsm hle
  go_enter Try.func27, Try.ntmps27
  go_wp2_with (at_builtin; refine wpList_appX (v := .slice (some ⟨w.heap.size, 0, none⟩) 0 0) slInt rfl _ _ rfl rfl E0.out rfl HL.out HN.out (by simp [Value.oneCell']) HS.out HLE.out ?_; intro v' w2 hown2 hg2 ht2; obtain ⟨a', c', rfl⟩ := own_slice hown2; have HO := Lib.hid hown2; have HG := Lib.hid hg2; have HT := Lib.hid ht2; clear hown2 hg2 ht2)
  go_wp2
  go_ret
  obtain ⟨g, rfl, _, _⟩ := own_addr HO.out (by
    rcases HT.out with h | h
    · rw [h]; simp [Value.ownBlock]
    · rw [h]; simp)
  refine ⟨g, c', ?_, ?_, HB.out.grown HG.out (by simp) (fun k hk => ?_)⟩
  · rfl
  · have := HO.out
    rw [Nat.zero_add] at this
    simpa using this
  · simp [Value.ownBlock] at hk; omega

set_option maxRecDepth 100000 in
set_option maxHeartbeats 2000000 in
theorem sorted_any (x : Addr) (cap : Nat) (zs : List Int) (w : World) (hlen : zs.length ≤ 1000) (h : IntsAt w (some x) zs) :
    Calls Try.prog 30 #[.slice (some x) zs.length cap] w (OwnEnd w (Mg.srtI zs) zs.length) := by
  have H1 := Lib.hid (copyOf_any x cap zs w hlen h)
  clear h
  unfold OwnEnd at *
  go_enter Try.func30, Try.ntmps30
  go_wp2_with fail
  refine H1.out.mono ?_
  rintro e w1 ⟨g, c, rfl, ho, hb⟩
  have HO := Lib.hid ho; have HB := Lib.hid hb
  have HC := Lib.hid (Try.slices_Sort_int g 0 c zs w1 (own_holds ho) (ho.lt g rfl).2 (by omega))
  clear ho hb H1
  go_wp2_with fail
  refine HC.out.mono ?_
  rintro e w2 ⟨rfl, q, os, rfl⟩
  have HM := Lib.hid (Mg.merge_srtI zs)
  rw [HM.out]
  have HO2 := Lib.hid (own_sorted (q := q) (os := os) (ys := Mg.srtI zs) HO.out (srtI_len zs))
  have HG2 := Lib.hid (grown_put (w := w1) (g := g) (q := q) (ys := Mg.srtI zs) (os := os))
  have HB2 := Lib.hid (HB.out.grown HG2.out HB.out.size (fun k hk => by injection hk with hk; rw [← hk]; exact (HO.out.lt g rfl).1))
  generalize grow (putRow (Value.int .i64) (Sort.ahead w1 q) g 0 (Mg.srtI zs).toArray) os = w3 at HO2 HB2 ⊢
  clear HG2 HO HB HC HM
  go_wp2
  go_ret
  exact ⟨g, c, rfl, HO2.out, HB2.out⟩

theorem okList_len {zs : List Int} (h : okList zs = true) : zs.length ≤ 64 := by
  unfold okList at h; simp at h; exact h.1

end Go.Proofs.Ytcncjedhpnaoaaa

