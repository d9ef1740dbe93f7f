/- Several texts in one: lemmas and walks of the functions that the law reaches. -/
import Derived.Test.YtcdfinkefahloaaY3
import Derived.Test.YtcdfinkefahloaaY12
import Derived.BigRegion

namespace Go.Proofs.Ytcdfinkefahloaa
open Go.RowKit Go.Sort
set_option linter.unusedVariables false

set_option maxRecDepth 100000 in
set_option maxHeartbeats 2000000 in
theorem compareKeys_any (r s : Int × Int) (w : World) :
    Calls Try.prog 54 #[.agg #[.int .i64 r.1, .int .i64 r.2], .agg #[.int .i64 s.1, .int .i64 s.2]] w fun e w' => (∃ n : Int, e = .returned (.int .i64 n) ∧ (decide (n < 0) = decide (r.1 < s.1))) ∧ Below w.heap.size w w' := by
  obtain ⟨r1, r2⟩ := r
  obtain ⟨s1, s2⟩ := s
  have HC := Lib.hid (fun W => Try.cmp_Compare_int r1 s1 W)
  have HD : Hid (decide (Lib.compareInt r1 s1 < 0) = decide (r1 < s1)) := by
    show _ = _
    unfold Lib.compareInt
    by_cases h1 : r1 < s1
    · rw [if_pos h1, decide_eq_true h1]; rfl
    · rw [if_neg h1, decide_eq_false h1]; split <;> rfl
  have HB := Lib.hid (((Below.refl w.heap.size w).alloc (Nat.le_refl _) (.cells #[.int .i64 r1, .int .i64 r2] 32)).alloc (by simp) (.cells #[.int .i64 s1, .int .i64 s2] 32))
  go_enter Try.func54, Try.ntmps54
  go_wp2_with fail
  refine (HC.out _).mono ?_
  rintro e w' ⟨rfl, rfl⟩
  go_wp2
  go_ret
  exact ⟨⟨_, rfl, HD.out⟩, HB.out⟩

/-- A function value that compares records by the order lt, where I holds; I passes on where block g alone is written. -/
def CmpIs (I : World → Prop) (g : Nat) (lt : Int × Int → Int × Int → Bool) (cv : Value) : Prop :=
  (∀ w w', I w → World.grownBy w w' (some g) → I w') ∧ ∃ G cp, cv = .func (.func G) #[] cp ∧ (∀ args w, (callFunc G args).run Try.prog w = .ok (.enter G args) w) ∧
    ∀ (r s : Int × Int) (w : World), I w → Calls Try.prog G (#[.agg #[.int .i64 r.1, .int .i64 r.2], .agg #[.int .i64 s.1, .int .i64 s.2]] ++ cp) w fun e w' => (∃ n : Int, e = .returned (.int .i64 n) ∧ (decide (n < 0) = lt r s)) ∧ Below w.heap.size w w'

/-- The comparison of keys as a value. -/
def cmpV : Value := .func (.func 54) #[] #[]
theorem cmpV_is (g : Nat) : CmpIs (fun _ => True) g (Mg.ltK Prod.fst) cmpV :=
  ⟨fun _ _ _ _ => trivial, 54, #[], rfl, fun args w => by kernel_rfl, fun r s w _ => (compareKeys_any r s w).mono fun e w' ⟨⟨n, h1, h2⟩, h3⟩ => ⟨⟨n, h1, by rw [h2]; rfl⟩, h3⟩⟩

end Go.Proofs.Ytcdfinkefahloaa

namespace Go.Proofs.Ytcdfinkefahloaa
open Go.RowKit Go.Sort
set_option linter.unusedVariables false
theorem getD_get {l : List (Int × Int)} {i : Nat} (h : i < l.length) : l.getD i (0, 0) = l[i] := by
  rw [List.getD_eq_getElem?_getD, List.getElem?_eq_getElem h]; rfl

end Go.Proofs.Ytcdfinkefahloaa

namespace Go.Proofs.Ytcdfinkefahloaa
open Go.RowKit Go.Sort
set_option linter.unusedVariables false
set_option maxRecDepth 100000 in
set_option maxHeartbeats 2000000 in
theorem copyOfR_any (a : Option Addr) (cap : Nat) (zs : List (Int × Int)) (w : World) (hlen : zs.length ≤ 1000) (h : RecsAt w a zs) (hx : NilOk a cap) :
    Calls Try.prog 25 #[.slice a zs.length cap] w (OwnR w zs zs.length) := by
  have E0 := Lib.hid (own_lit (w := w) (e := 32) (size := 2) #[] 0 (by omega) rfl)
  have HB := Lib.hid (show Below w.heap.size w (w.alloc (.cells #[] 32)) from (Below.refl _ _).alloc (Nat.le_refl _) _)
  have HU := Lib.hid (h.below (Nat.le_refl _) HB.out)
  have HX := Lib.hid hx
  have hsm : 0 + zs.length ≤ 1099511627776 := by omega
  have hle : w.heap.size ≤ (w.alloc (.cells #[] 32)).heap.size := by simp
  have HS := Lib.hid hsm; have HLE := Lib.hid hle
  clear h hsm hle hx
  unfold OwnR
  go_enter Try.func25, Try.ntmps25
  go_wp2_with (at_builtin; refine wpList_appR (v := .slice (some ⟨w.heap.size, 0, none⟩) 0 0) slRec rfl _ _ rfl rfl E0.out rfl HU.out rfl HX.out HS.out HLE.out ?_; intro v' w2 hown2 hg2 ht2; obtain ⟨a', c, rfl⟩ := own_slice hown2; have HO := Lib.hid hown2; have HG := Lib.hid hg2; have HT := Lib.hid ht2; clear hown2 hg2 ht2)
  go_wp2
  go_ret
  obtain ⟨g, rfl, _, _⟩ := own_addr HO.out (by
    rcases HT.out with h | h
    · rw [h]; simp [Value.ownBlock]
    · rw [h]; simp)
  refine ⟨g, c, rfl, ?_, HB.out.grown HG.out (by simp) (fun k hk => ?_)⟩
  · have := HO.out
    rw [Nat.zero_add] at this
    simpa using this
  · simp [Value.ownBlock] at hk; omega

end Go.Proofs.Ytcdfinkefahloaa

