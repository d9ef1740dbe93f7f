/- General lemmas on worlds and slices, no program in sight. -/
import Derived.Test.YtkckmjajjdpodaaRows
import Derived.WalkKit
import Derived.WalkSpells
import Derived.WalkLawsBesides
import Derived.BigQuiet
import Derived.Deep.QuietTactic
import Derived.Lib.Hide
import Derived.StillTailTactics
namespace Go.Proofs.Ytkckmjajjdpodaa
open Go.RowKit
set_option linter.unusedVariables false

def IntsAt (w : World) (a : Option Addr) (zs : List Int) : Prop :=
  zs = [] ∨ ∃ b off, a = some ⟨b, off, none⟩ ∧ b < w.heap.size ∧ ∀ j, j < zs.length → w.cell? ⟨b, off + j, none⟩ = some (.int .i64 (zs.getD j 0))

theorem IntsAt.at {w : World} {a : Option Addr} {zs : List Int} (h : IntsAt w a zs) {k : Nat} (hk : k < zs.length) :
    ∃ b off, a = some ⟨b, off, none⟩ ∧ w.cell? ⟨b, off + k, none⟩ = some (.int .i64 (zs.getD k 0)) := by
  rcases h with rfl | ⟨b, off, h1, _, h2⟩
  · simp at hk
  · exact ⟨b, off, h1, h2 k hk⟩

theorem IntsAt.below {w w' : World} {B : Nat} {a : Option Addr} {zs : List Int} (h : IntsAt w a zs) (hB : w.heap.size ≤ B) (hb : Below B w w') : IntsAt w' a zs := by
  rcases h with h | ⟨b, off, h1, h0, h2⟩
  · exact .inl h
  · refine .inr ⟨b, off, h1, by have := hb.size; omega, fun j hj => ?_⟩
    rw [hb.cell (p := ⟨b, off + j, none⟩) (by show b < B; omega)]; exact h2 j hj

theorem IntsAt.nil (w : World) (a : Option Addr) : IntsAt w a [] := .inl rfl

/-- What comes in: the cells up to the capacity; the first 'len' are the elements. -/
theorem ints_of_row {w : World} {x : Addr} {len : Nat} {zs : List Int} (hl : len ≤ zs.length) (hc : ∀ i, i < zs.length → w.cell? (x.add i) = some (.int .i64 (zs.getD i 0))) : IntsAt w (some x) (zs.take len) := by
  by_cases h0 : len = 0
  · subst h0; exact .inl (by simp)
  · obtain ⟨b, off, spot⟩ := x
    have hc0 := hc 0 (by omega)
    have hs : spot = none := by simpa [Addr.add] using World.cell?_spot hc0
    subst hs
    refine .inr ⟨b, off, rfl, World.block_lt_of_cell? w _ (by simpa [Addr.add] using hc0), fun j hj => ?_⟩
    have hj' : j < len := by simp at hj; omega
    have := hc j (by omega)
    have e : (⟨b, off, none⟩ : Addr).add j = ⟨b, off + j, none⟩ := by unfold Addr.add; split <;> simp_all
    rw [e] at this
    rw [this]
    simp [List.getD, hj']

/-- What is owned can be read. -/
theorem ints_of_own {w : World} {base : Nat} {e : TypeId} {a : Option Addr} {n c : Nat} {zs : List Int} (h : w.ownsRow base e 1 (.slice a n c) n (zs.map (Value.int .i64))) : IntsAt w a zs := by
  obtain ⟨h1, h2⟩ := h
  rcases h2 with ⟨h2, h3⟩ | ⟨g, cap, cur, hv, _, hg, hn, hc, hs, ht⟩
  · refine .inl ?_
    subst h3; simpa using h1
  · simp only [Value.slice.injEq] at hv
    obtain ⟨rfl, _, rfl⟩ := hv
    refine .inr ⟨g, 0, rfl, (Array.getElem?_eq_some_iff.1 hg).1, fun j hj => ?_⟩
    have hx : (zs.map (Value.int .i64))[j]? = some (.int .i64 (zs.getD j 0)) := by simp [List.getD, List.getElem?_eq_getElem hj]
    rw [← ht, List.getElem?_take] at hx
    split at hx
    · simp [World.cell?, hg]
      simpa using hx
    · cases hx

theorem own_slice {w : World} {base : Nat} {e : TypeId} {size n : Nat} {v : Value} {xs : List Value} (h : w.ownsRow base e size v n xs) : ∃ a c, v = .slice a n c := by
  rcases h.2 with ⟨h2, h3⟩ | ⟨g, cap, cur, hv, _⟩
  · subst h3; exact ⟨_, _, h2⟩
  · exact ⟨_, _, hv⟩

theorem own_below {B : Nat} {e : TypeId} {k : Nat} {v : Value} {n : Nat} {xs : List Value} {w w' : World} {S : Nat} (h : w.ownsRow B e k v n xs) (hS : w.heap.size ≤ S) (hb : Below S w w') : w'.ownsRow B e k v n xs := by
  refine ⟨h.1, ?_⟩
  rcases h.2 with h2 | ⟨g, cap, cur, hv, hg, hh, r⟩
  · exact .inl h2
  · refine .inr ⟨g, cap, cur, hv, hg, ?_, r⟩
    rw [hb.block g (by have := (Array.getElem?_eq_some_iff.1 hh).1; omega)]; exact hh

/-- A store into a row that was made whole. -/
theorem below_store {B : Nat} {a w : World} (h : Below B a w) {p : Addr} (hp : B ≤ p.block) (u : Value) : Below B a (w.setCell p u) := h.setCell hp u

theorem ret_bool {a b : Bool} (h : a = b) : Ending.returned (.bool a) = .returned (.bool b) := by rw [h]
theorem ret_int {a b : Int} (h : a = b) : Ending.returned (.int .i64 a) = .returned (.int .i64 b) := by rw [h]
theorem ret_int_bool {a b : Int} {c d : Bool} (h : a = b) (k : c = d) : Ending.returned (.tuple #[.int .i64 a, .bool c]) = .returned (.tuple #[.int .i64 b, .bool d]) := by rw [h, k]
theorem ret_bool2 {a b : Bool} {c d : Bool} (h : a = b) (k : c = d) : Ending.returned (.tuple #[.bool a, .bool c]) = .returned (.tuple #[.bool b, .bool d]) := by rw [h, k]

end Go.Proofs.Ytkckmjajjdpodaa
