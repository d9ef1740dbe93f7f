/- General: the cursor while other memory grows. -/
import Derived.Test.YtkckmjajjdpodaaCu
namespace Go.Proofs.Ytkckmjajjdpodaa
open Go.RowKit
set_option linter.unusedVariables false

theorem Cur.mono {w : World} {bc : Nat} {ac : Option Addr} {zs : List Int} {M M' : Int} (h : Cur w bc ac zs M) (hM : M ≤ M') : Cur w bc ac zs M' := by
  obtain ⟨⟨cc, p, s, hr, h0, h1⟩, hc, ha, hl⟩ := h
  exact ⟨⟨cc, p, s, hr, h0, by omega⟩, hc, ha, hl⟩
theorem Cur.lt {w : World} {bc : Nat} {ac : Option Addr} {zs : List Int} {M : Int} (h : Cur w bc ac zs M) : bc < w.heap.size := by
  obtain ⟨⟨cc, p, s, hr, _⟩, _⟩ := h
  exact (Array.getElem?_eq_some_iff.1 hr).1
theorem Cur.below {w w' : World} {bc : Nat} {ac : Option Addr} {zs : List Int} {M : Int} (h : Cur w bc ac zs M) (hb : Below w.heap.size w w') : Cur w' bc ac zs M := by
  have hlt := h.lt
  obtain ⟨⟨cc, p, s, hr, h0, h1⟩, hc, ha, hl⟩ := h
  exact ⟨⟨cc, p, s, block_below hr hb hlt, h0, h1⟩, hc.below (Nat.le_refl _) hb, ha, hl⟩
theorem Cur.app {w w' : World} {bc : Nat} {ac : Option Addr} {zs : List Int} {M : Int} {row : Option Nat} (h : Cur w bc ac zs M) (hg : w.grownBy w' row) (hne : row ≠ some bc) (hne2 : zs ≠ [] → ∀ b off, ac = some ⟨b, off, none⟩ → row ≠ some b) : Cur w' bc ac zs M := by
  obtain ⟨⟨cc, p, s, hr, h0, h1⟩, hc, ha, hl⟩ := h
  exact ⟨⟨cc, p, s, block_row hr hg hne, h0, h1⟩, hc.grown hg hne2, ha, hl⟩
theorem BytesAt.lt {w : World} {a : Option Addr} {zs : List Int} (h : BytesAt w a zs) (h0 : zs ≠ []) : ∃ b off, a = some ⟨b, off, none⟩ ∧ b < w.heap.size := by
  rcases h with h | ⟨b, off, h1, h2, _⟩
  · exact absurd h h0
  · exact ⟨b, off, h1, h2⟩

/-- Growth by new blocks and by writes into the cursor alone, seen from an older world. -/
theorem grown_app {w0 w w' : World} {bc : Nat} {v : Value} {base : Nat} {e : TypeId} {size n : Nat} {xs : List Value} (h : w0.grownBy w (some bc)) (hown : w.ownsRow base e size v n xs) (hb : w0.heap.size ≤ base) (hg : w.grownBy w' v.ownBlock) : w0.grownBy w' (some bc) :=
  ⟨hg.os.trans h.os, hg.tape.trans h.tape, hg.output.trans h.output, Nat.le_trans h.size hg.size, fun k hk hne => (hg.block k (Nat.lt_of_lt_of_le hk h.size) (fun e => by have := (hown.lt k e.symm).1; omega)).trans (h.block k hk hne)⟩

/-- What a list being drawn and the cursor are to each other. -/
structure Drawn (w0 w : World) (bc : Nat) (ac : Option Addr) (zs : List Int) (M : Int) : Prop where
  cur : Cur w bc ac zs M
  grown : w0.grownBy w (some bc)
  old : bc < w0.heap.size ∧ (zs ≠ [] → ∀ b off, ac = some ⟨b, off, none⟩ → b < w0.heap.size)

theorem Drawn.step {w0 w w' : World} {bc : Nat} {ac : Option Addr} {zs : List Int} {M M' : Int} (h : Drawn w0 w bc ac zs M) (hc : Cur w' bc ac zs M') (hg : w.grownBy w' (some bc)) : Drawn w0 w' bc ac zs M' := ⟨hc, grown_trans h.grown hg, h.old⟩
theorem Drawn.below {w0 w w' : World} {bc : Nat} {ac : Option Addr} {zs : List Int} {M : Int} (h : Drawn w0 w bc ac zs M) (hb : Below w.heap.size w w') : Drawn w0 w' bc ac zs M := ⟨h.cur.below hb, grown_trans h.grown (grown_of_below hb), h.old⟩
theorem Drawn.mono {w0 w : World} {bc : Nat} {ac : Option Addr} {zs : List Int} {M M' : Int} (h : Drawn w0 w bc ac zs M) (hM : M ≤ M') : Drawn w0 w bc ac zs M' := ⟨h.cur.mono hM, h.grown, h.old⟩
theorem Drawn.app {w0 w w' : World} {bc : Nat} {ac : Option Addr} {zs : List Int} {M : Int} {v : Value} {base : Nat} {e : TypeId} {size n : Nat} {xs : List Value} (h : Drawn w0 w bc ac zs M) (hown : w.ownsRow base e size v n xs) (hb : w0.heap.size ≤ base) (hg : w.grownBy w' v.ownBlock) : Drawn w0 w' bc ac zs M :=
  ⟨h.cur.app hg (fun e => by have := (hown.lt bc e).1; have := h.old.1; omega) (fun h0 b off e e2 => by have := (hown.lt b e2).1; have := h.old.2 h0 b off e; omega), grown_app h.grown hown hb hg, h.old⟩
theorem Drawn.own {w0 w w' : World} {bc : Nat} {ac : Option Addr} {zs : List Int} {M : Int} {v : Value} {base : Nat} {e : TypeId} {size n : Nat} {xs : List Value} (h : Drawn w0 w bc ac zs M) (hown : w.ownsRow base e size v n xs) (hb : w0.heap.size ≤ base) (hg : w.grownBy w' (some bc)) : w'.ownsRow base e size v n xs :=
  own_other hown hg (fun k hk e => by injection e with e; have := (hown.lt k hk).1; have := h.old.1; omega)

end Go.Proofs.Ytkckmjajjdpodaa
