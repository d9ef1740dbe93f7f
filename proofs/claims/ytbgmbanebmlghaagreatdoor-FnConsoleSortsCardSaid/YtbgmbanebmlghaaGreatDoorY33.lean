/- Several texts in one: lemmas and walks of the functions that the law reaches. -/
import Derived.Test.YtbgmbanebmlghaaGreatDoorY32

namespace Go.Proofs.YtbgmbanebmlghaaGreatDoor
open Go.RowKit Go.Sort
set_option linter.unusedVariables false

theorem RecsAt.keepA {w w' : World} {A : Nat → Prop} {a : Option Addr} {zs : List (Int × Int)} (h : RecsAt w a zs) (hk : KeepA A w w') (ha : ∀ b, b < w.heap.size → (∃ off, a = some ⟨b, off, none⟩) → A b) : RecsAt w' a zs := by
  rcases h with h | ⟨b, off, h1, h0, h2⟩
  · exact .inl h
  · have hb := hk.block b h0 (ha b h0 ⟨off, h1⟩)
    exact .inr ⟨b, off, h1, Nat.lt_of_lt_of_le h0 hk.size, fun j hj => by
      rw [World.cell?_of_block (w := w) (w' := w') (a := ⟨b, off + j * 2, none⟩) hb, World.cell?_of_block (w := w) (w' := w') (a := ⟨b, off + j * 2 + 1, none⟩) hb]; exact h2 j hj⟩
theorem KeepA.mono {A B : Nat → Prop} {w w' : World} (h : KeepA A w w') (hb : ∀ k, B k → A k) : KeepA B w w' := ⟨h.os, h.tape, h.output, h.size, fun k hk hB => h.block k hk (hb k hB)⟩
theorem keep_below {A : Nat → Prop} {w w' : World} (h : Below w.heap.size w w') : KeepA A w w' := ⟨h.os, h.tape, h.output, h.size, fun k hk _ => h.block k hk⟩

/-- Where the parts may lie: behind Z, apart from the two rows. -/
def XP (Z : Nat) (cv pv : Value) (b : Nat) : Prop := Z ≤ b ∧ cv.ownBlock ≠ some b ∧ pv.ownBlock ≠ some b
theorem HX.rows {w w' : World} {Z : Nat} {cv pv cv' pv' : Value} {hs : List Value} {ps : List (List (Int × Int))} {row : Option Nat} (h : HX w (XP Z cv pv) hs ps) (hg : w.grownBy w' row) (hr : ∀ b, row = some b → cv.ownBlock = some b ∨ pv.ownBlock = some b)
    (h1 : ∀ b, cv'.ownBlock = some b → cv.ownBlock = some b ∨ w.heap.size ≤ b) (h2 : ∀ b, pv'.ownBlock = some b → pv.ownBlock = some b ∨ w.heap.size ≤ b) : HX w' (XP Z cv' pv') hs ps :=
  h.imp fun v L hv => by
    obtain ⟨x, c, rfl, hrd, hx⟩ := hv.grown hg fun b e hb => by
      rcases hr b e with h | h
      · exact hb.2.1 h
      · exact hb.2.2 h
    obtain ⟨x0, c0, e0, _, hx0⟩ := hv
    injection e0 with e0 _ _
    subst e0
    refine ⟨x, c, rfl, hrd, fun b off e => ⟨⟨(hx b off e).1.1, fun e2 => ?_, fun e2 => ?_⟩, (hx b off e).2⟩⟩
    · rcases h1 b e2 with h | h
      · exact (hx b off e).1.2.1 h
      · have := (hx0 b off e).2; omega
    · rcases h2 b e2 with h | h
      · exact (hx b off e).1.2.2 h
      · have := (hx0 b off e).2; omega

def adL (rs : List (Int × Int)) : List (Int × Int) := if okRecs rs then Ad.adS ltR (partsL rs) else []
def adN (rs : List (Int × Int)) : Nat := if okRecs rs then Ad.adC ltR (partsL rs) else 0
def AdEnd (w : World) (rs : List (Int × Int)) (e : Ending) (w' : World) : Prop :=
  ∃ (a : Option Addr) (n c : Nat), e = .returned (.tuple #[.slice a n c, .int .i64 ((adN rs : Nat) : Int), .bool (okRecs rs)]) ∧ Rd w' a n c (adL rs) ∧ Below w.heap.size w w'

theorem okRecs_le64 {rs : List (Int × Int)} (h : okRecs rs = true) : rs.length ≤ 64 := by
  unfold okRecs at h
  simp only [Bool.and_eq_true, decide_eq_true_eq] at h
  omega

theorem LX.shrink {w : World} {X Y : Nat → Prop} {v : Value} {L : List (Int × Int)} (h : LX w X v L) (hxy : ∀ b, X b → b < w.heap.size → Y b) : LX w Y v L := by
  obtain ⟨x, c, rfl, hr1, hx⟩ := h
  exact ⟨x, c, rfl, hr1, fun b off e => ⟨hxy b (hx b off e).1 (hx b off e).2, (hx b off e).2⟩⟩
theorem RSv.sub {w : World} {p : Nat} {A B : Nat → Prop} {vs vm : Value} {mo : Int} {s : List Int} {m : List Nat} (h : RSv w p A vs vm mo s m) (hp : ¬ B p) (hs : ∀ b, vs.ownBlock = some b → ¬ B b) (hm : ∀ b, vm.ownBlock = some b → ¬ B b) : RSv w p B vs vm mo s m :=
  ⟨h.hp, h.hs, h.hm, hp, fun b e => ⟨hs b e, (h.aS b e).2⟩, fun b e => ⟨hm b e, (h.aM b e).2⟩⟩

/-- The state of the second loop. -/
structure LS (w2 w : World) (s0 : Nat) (p cS cD cP cC : Nat) (A X : Nat → Prop) (vs vm : Value) (mo : Int) (g c : Nat) (hsq : List Value) (cv pv : Value) (cs : List Int) (hs : List Value) (pl : List (List (Int × Int))) (ps : List (List (Int × Int))) (cnt : Int) (ms : List Nat) : Prop where
  hA : ∀ k, A k → k < w.heap.size
  hXA : ∀ k, X k → A k
  hR : RSv w p A vs vm mo (Ad.sz ps) ms
  hP : PUv w X p cS cD cP cC g c hsq ps cnt ((ms.length : Nat) : Int)
  hAc : A cS ∧ A cD ∧ A cP ∧ A cC ∧ A g
  hc : w.ownsRow 0 3 1 cv pl.length (intV cs)
  hp : w.ownsRow 0 26 1 pv pl.length hs
  hrow : ∀ b, cv.ownBlock = some b ∨ pv.ownBlock = some b → A b ∧ ¬ X b ∧ b ≠ cD ∧ b ≠ cP ∧ b ≠ cC ∧ b ≠ g
  hl : HX w X hs pl
  hk : KeepA (fun k => k < s0) w2 w
  h0 : ∀ k, k < s0 → A k ∧ k ≠ cD ∧ k ≠ cP ∧ k ≠ cC ∧ k ≠ g

theorem LS.below {w2 w w' : World} {s0 p cS cD cP cC : Nat} {A X : Nat → Prop} {vs vm : Value} {mo : Int} {g c : Nat} {hsq : List Value} {cv pv : Value} {cs : List Int} {hs : List Value} {pl ps : List (List (Int × Int))} {cnt : Int} {ms : List Nat}
    (h : LS w2 w s0 p cS cD cP cC A X vs vm mo g c hsq cv pv cs hs pl ps cnt ms) (hb : Below w.heap.size w w') : LS w2 w' s0 p cS cD cP cC A X vs vm mo g c hsq cv pv cs hs pl ps cnt ms :=
  have hg : w.grownBy w' none := grown_of_below hb
  ⟨fun k hk => Nat.lt_of_lt_of_le (h.hA k hk) hb.size, h.hXA, h.hR.other hg (fun b e => by cases e), h.hP.other hg (fun b e => by cases e), h.hAc, own_below h.hc (Nat.le_refl _) hb, own_below h.hp (Nat.le_refl _) hb, h.hrow, h.hl.imp fun v L hv => hv.grown hg (fun b e => by cases e), h.hk.trans (keep_below hb), h.h0⟩

/-- Behind an append to the stack of lists. -/
theorem LS.app {w2 w w7 : World} {s0 p cS cD cP cC : Nat} {A X : Nat → Prop} {vs vm : Value} {mo : Int} {g c : Nat} {hsq : List Value} {cv pv : Value} {cs : List Int} {hs : List Value} {pl ps : List (List (Int × Int))} {cnt : Int} {ms : List Nat} {g' c' : Nat} {v : Value} {L : List (Int × Int)}
    (h : LS w2 w s0 p cS cD cP cC A X vs vm mo g c hsq cv pv cs hs pl ps cnt ms) (hv : LX w X v L) (hg : w.grownBy w7 (some g)) (ho : w7.ownsRow 0 26 1 (.slice (some ⟨g', 0, none⟩) (ps.length + 1) c') (ps.length + 1) (hsq ++ [v])) (hg' : g' = g ∨ w.heap.size ≤ g') :
    ∃ A', RSv (w7.setCell ⟨cP, 0, none⟩ (.slice (some ⟨g', 0, none⟩) (ps.length + 1) c')) p A' vs vm mo (Ad.sz ps) ms ∧ (∀ k, A' k → k < (w7.setCell ⟨cP, 0, none⟩ (.slice (some ⟨g', 0, none⟩) (ps.length + 1) c')).heap.size) ∧ (∀ k, X k → A' k) ∧
      PUv (w7.setCell ⟨cP, 0, none⟩ (.slice (some ⟨g', 0, none⟩) (ps.length + 1) c')) X p cS cD cP cC g' c' (hsq ++ [v]) (ps ++ [L]) cnt ((ms.length : Nat) : Int) ∧ (A' cS ∧ A' cD ∧ A' cP ∧ A' cC ∧ A' g') ∧
      (w7.setCell ⟨cP, 0, none⟩ (.slice (some ⟨g', 0, none⟩) (ps.length + 1) c')).ownsRow 0 3 1 cv pl.length (intV cs) ∧ (w7.setCell ⟨cP, 0, none⟩ (.slice (some ⟨g', 0, none⟩) (ps.length + 1) c')).ownsRow 0 26 1 pv pl.length hs ∧
      (∀ b, cv.ownBlock = some b ∨ pv.ownBlock = some b → A' b ∧ ¬ X b ∧ b ≠ cD ∧ b ≠ cP ∧ b ≠ cC ∧ b ≠ g') ∧ HX (w7.setCell ⟨cP, 0, none⟩ (.slice (some ⟨g', 0, none⟩) (ps.length + 1) c')) X hs pl ∧ KeepA (fun k => k < s0) w2 (w7.setCell ⟨cP, 0, none⟩ (.slice (some ⟨g', 0, none⟩) (ps.length + 1) c')) ∧ (∀ k, k < s0 → A' k ∧ k ≠ cD ∧ k ≠ cP ∧ k ≠ cC ∧ k ≠ g') := by
  have hXl : ∀ b, X b → b < w.heap.size := fun b hb => h.hA b (h.hXA b hb)
  have hXg : ∀ b, X b → b ≠ g' := fun b hb => by
    rcases hg' with e | e
    · rw [e]; exact (h.hP.hX b hb).2.2.2.2
    · have := hXl b hb; omega
  have hgl := (ho.lt g' rfl).2
  obtain ⟨P8, G8⟩ := h.hP.setP (g' := g') (n' := ps.length + 1) (c' := c') (hs' := hsq ++ [v]) (ps' := ps ++ [L]) hg (by simp) ho hg'
    ((h.hP.hl.imp fun u M hu => hu.grown hg fun b e hx => by injection e with e; subst e; exact (h.hP.hX _ hx).2.2.2.2 rfl).snoc (hv.grown hg fun b e hx => by injection e with e; subst e; exact (h.hP.hX _ hx).2.2.2.2 rfl)) hXg
  have R8 := (h.hR.other hg (fun b e => by injection e with e; subst e; exact h.hAc.2.2.2.2)).other G8 (fun b e => by injection e with e; subst e; exact h.hAc.2.2.1)
  have hszs : w.heap.size ≤ w7.heap.size := hg.size
  have hsz8 := G8.size
  have hrA : ∀ b, A b → w.heap.size ≤ b → False := fun b hb hle => by have := h.hA b hb; omega
  have hRl := h.hR.lt
  have hsl : ∀ b, vs.ownBlock = some b → b < w.heap.size := fun b e => (h.hR.hs.lt b e).2
  have hml : ∀ b, vm.ownBlock = some b → b < w.heap.size := fun b e => (h.hR.hm.lt b e).2
  have hrb : ∀ b, cv.ownBlock = some b ∨ pv.ownBlock = some b → b ≠ g ∧ b ≠ cP := fun b hb => ⟨(h.hrow b hb).2.2.2.2.2, (h.hrow b hb).2.2.2.1⟩
  refine ⟨fun k => A k ∨ k = g' , ?_, ?_, fun k hk => .inl (h.hXA k hk), P8, ⟨.inl h.hAc.1, .inl h.hAc.2.1, .inl h.hAc.2.2.1, .inl h.hAc.2.2.2.1, .inr rfl⟩, ?_, ?_, fun b hb => ?_, ?_, ?_, fun k hk => ?_⟩
  · refine R8.sub (fun e => ?_) (fun b e e2 => ?_) (fun b e e2 => ?_)
    · rcases e with e | e
      · exact h.hR.aP e
      · rcases hg' with e2 | e2
        · subst e2; subst e; exact h.hR.aP h.hAc.2.2.2.2
        · omega
    · rcases e2 with e2 | e2
      · exact (h.hR.aS b e).1 e2
      · have := hsl b e
        rcases hg' with e3 | e3
        · subst e3; subst e2; exact (h.hR.aS _ e).1 h.hAc.2.2.2.2
        · omega
    · rcases e2 with e2 | e2
      · exact (h.hR.aM b e).1 e2
      · have := hml b e
        rcases hg' with e3 | e3
        · subst e3; subst e2; exact (h.hR.aM _ e).1 h.hAc.2.2.2.2
        · omega
  · intro k hk
    rcases hk with hk | hk
    · have := h.hA k hk; omega
    · omega
  · exact (h.hc.kept hg (by cases hq : cv.ownBlock with | none => exact .inl rfl | some bq => exact .inr fun e => (hrb bq (.inl hq)).1 (by injection e))).kept G8 (by cases hq : cv.ownBlock with | none => exact .inl rfl | some bq => exact .inr fun e => (hrb bq (.inl hq)).2 (by injection e))
  · exact (h.hp.kept hg (by cases hq : pv.ownBlock with | none => exact .inl rfl | some bq => exact .inr fun e => (hrb bq (.inr hq)).1 (by injection e))).kept G8 (by cases hq : pv.ownBlock with | none => exact .inl rfl | some bq => exact .inr fun e => (hrb bq (.inr hq)).2 (by injection e))
  · obtain ⟨x1, x2, x3, x4, x5, x6⟩ := h.hrow b hb
    refine ⟨.inl x1, x2, x3, x4, x5, fun e => ?_⟩
    rcases hg' with e2 | e2
    · exact x6 (e.trans e2)
    · have := h.hA b x1; omega
  · exact (h.hl.imp fun u M hu => hu.grown hg fun b e hx => by injection e with e; subst e; exact (h.hP.hX _ hx).2.2.2.2 rfl).imp fun u M hu => hu.grown G8 fun b e hx => by injection e with e; subst e; exact (h.hP.hX _ hx).2.2.1 rfl
  · exact (h.hk.trans (keep_grown hg (fun b e hb => by injection e with e; exact (h.h0 b hb).2.2.2.2 e.symm))).trans (keep_grown G8 (fun b e hb => by injection e with e; exact (h.h0 b hb).2.2.1 e.symm))
  · obtain ⟨x1, x2, x3, x4, x5⟩ := h.h0 k hk
    refine ⟨.inl x1, x2, x3, x4, fun e => ?_⟩
    rcases hg' with e2 | e2
    · exact x5 (e.trans e2)
    · have := h.hA k x1; omega

theorem own_keepA {w w' : World} {A : Nat → Prop} {base : Nat} {e : TypeId} {size n : Nat} {v : Value} {xs : List Value} (h : w.ownsRow base e size v n xs) (hk : KeepA A w w') (ha : ∀ b, v.ownBlock = some b → A b) : w'.ownsRow base e size v n xs := by
  refine ⟨h.1, h.2.elim .inl fun ⟨g, cap, cur, a1, a2, a3, a4⟩ => .inr ⟨g, cap, cur, a1, a2, ?_, a4⟩⟩
  rw [hk.block g (Array.getElem?_eq_some_iff.1 a3).1 (ha g (by rw [a1]; rfl))]; exact a3

theorem PUv.keep {w w' : World} {X A : Nat → Prop} {p cS cD cP cC g c : Nat} {hs : List Value} {ps : List (List (Int × Int))} {cnt d : Int} (h : PUv w X p cS cD cP cC g c hs ps cnt d) (hk : KeepA A w w') (ha : A cS ∧ A cD ∧ A cP ∧ A cC ∧ A g) (hx : ∀ b, X b → A b) : PUv w' X p cS cD cP cC g c hs ps cnt d :=
  ⟨own_keepA h.hS hk (fun b e => by injection e with e; have e' : cS = b := e; subst e'; exact ha.1), own_keepA h.hD hk (fun b e => by injection e with e; have e' : cD = b := e; subst e'; exact ha.2.1), own_keepA h.hC hk (fun b e => by injection e with e; have e' : cC = b := e; subst e'; exact ha.2.2.2.1),
   own_keepA h.hP hk (fun b e => by injection e with e; have e' : cP = b := e; subst e'; exact ha.2.2.1), own_keepA h.hr hk (fun b e => by injection e with e; have e' : g = b := e; subst e'; exact ha.2.2.2.2), h.hl.imp fun v L hv => hv.keep hk hx, h.dis, h.hX⟩
theorem PUv.shrink {w : World} {X Y : Nat → Prop} {p cS cD cP cC g c : Nat} {hs : List Value} {ps : List (List (Int × Int))} {cnt d : Int} (h : PUv w X p cS cD cP cC g c hs ps cnt d) (hxy : ∀ b, X b → b < w.heap.size → Y b) (hyx : ∀ b, Y b → X b) : PUv w Y p cS cD cP cC g c hs ps cnt d :=
  ⟨h.hS, h.hD, h.hC, h.hP, h.hr, h.hl.imp fun v L hv => hv.shrink hxy, h.dis, fun b hb => h.hX b (hyx b hb)⟩

/-- Behind the closure. -/
theorem LS.turn {w2 w8 w9 w10 : World} {s0 p cS cD cP cC g c : Nat} {A X : Nat → Prop} {vs vm : Value} {mo : Int} {hsq : List Value} {cv pv : Value} {cs : List Int} {hs : List Value} {pl ps : List (List (Int × Int))} {cnt : Int} {ms : List Nat}
    (hA : ∀ k, A k → k < w8.heap.size) (hXA : ∀ k, X k → A k) (hAc : A cS ∧ A cD ∧ A cP ∧ A cC ∧ A g) (hc : w8.ownsRow 0 3 1 cv pl.length (intV cs)) (hp : w8.ownsRow 0 26 1 pv pl.length hs)
    (hrow : ∀ b, cv.ownBlock = some b ∨ pv.ownBlock = some b → A b ∧ ¬ X b ∧ b ≠ cD ∧ b ≠ cP ∧ b ≠ cC ∧ b ≠ g) (hl : HX w8 X hs pl) (hk : KeepA (fun k => k < s0) w2 w8) (h0 : ∀ k, k < s0 → A k ∧ k ≠ cD ∧ k ≠ cP ∧ k ≠ cC ∧ k ≠ g)
    (hX5 : ∀ b, X b → b ≠ cS ∧ b ≠ cD ∧ b ≠ cP ∧ b ≠ cC ∧ b ≠ g) (hk9 : KeepA A w8 w9) (hR9 : p < w9.heap.size ∧ (∀ b, vs.ownBlock = some b → b < w9.heap.size) ∧ ∀ b, vm.ownBlock = some b → b < w9.heap.size)
    (hP : PUv w10 (fun b => X b ∨ w9.heap.size ≤ b) p cS cD cP cC g c hsq ps cnt ((ms.length : Nat) : Int)) (hR : RSv w10 p A vs vm mo (Ad.sz ps) ms) (hk10 : KeepA (Am A cD cP cC g) w9 w10) :
    LS w2 w10 s0 p cS cD cP cC (fun k => A k ∨ (w9.heap.size ≤ k ∧ k < w10.heap.size)) (fun b => (X b ∨ w9.heap.size ≤ b) ∧ b < w10.heap.size) vs vm mo g c hsq cv pv cs hs pl ps cnt ms := by
  have z1 := hk9.size
  have z2 := hk10.size
  have hAl : ∀ k, A k → k < w9.heap.size := fun k hk => Nat.lt_of_lt_of_le (hA k hk) z1
  have hXm : ∀ b, X b → Am A cD cP cC g b := fun b hb => ⟨hXA b hb, (hX5 b hb).2.1, (hX5 b hb).2.2.1, (hX5 b hb).2.2.2.1, (hX5 b hb).2.2.2.2⟩
  have hrA : ∀ b, cv.ownBlock = some b ∨ pv.ownBlock = some b → Am A cD cP cC g b := fun b hb => by
    obtain ⟨x1, x2, x3, x4, x5, x6⟩ := hrow b hb
    exact ⟨x1, x3, x4, x5, x6⟩
  refine ⟨fun k hk => ?_, fun b hb => ?_, hR.sub (fun e => ?_) (fun b e e2 => ?_) (fun b e e2 => ?_), hP.shrink (fun b hb hl => ⟨hb, hl⟩) (fun b hb => hb.1), ⟨.inl hAc.1, .inl hAc.2.1, .inl hAc.2.2.1, .inl hAc.2.2.2.1, .inl hAc.2.2.2.2⟩,
    own_keepA (own_keepA hc hk9 (fun b e => (hrow b (.inl e)).1)) hk10 (fun b e => hrA b (.inl e)), own_keepA (own_keepA hp hk9 (fun b e => (hrow b (.inr e)).1)) hk10 (fun b e => hrA b (.inr e)), fun b hb => ?_,
    hl.imp fun v L hv => ((hv.keep hk9 hXA).keep hk10 hXm).shrink (fun b hb hl => ⟨.inl hb, hl⟩), ?_, fun k hk => ⟨.inl (h0 k hk).1, (h0 k hk).2⟩⟩
  · rcases hk with hk | hk
    · have := hAl k hk; omega
    · exact hk.2
  · rcases hb.1 with h | h
    · exact .inl (hXA b h)
    · exact .inr ⟨h, hb.2⟩
  · rcases e with e | e
    · exact hR.aP e
    · have := hR9.1; omega
  · rcases e2 with e2 | e2
    · exact (hR.aS b e).1 e2
    · have := hR9.2.1 b e; omega
  · rcases e2 with e2 | e2
    · exact (hR.aM b e).1 e2
    · have := hR9.2.2 b e; omega
  · obtain ⟨x1, x2, x3, x4, x5, x6⟩ := hrow b hb
    refine ⟨.inl x1, fun hx => ?_, x3, x4, x5, x6⟩
    rcases hx.1 with h | h
    · exact x2 h
    · have := hAl b x1; omega
  · exact (hk.trans (hk9.mono (fun k hk => (h0 k hk).1))).trans (hk10.mono (fun k hk => h0 k hk))

abbrev w3Of (wr : World) : World := (((wr.alloc (.cells #[.slice none 0 0, .slice none 0 0, .int .i64 0] 245)).alloc (.cells #[.pointer (some ⟨wr.heap.size, 0, none⟩)] 243)).alloc (.cells #[.int .i64 0] 3)).alloc (.cells #[.int .i64 0] 3)
theorem LS.start {w2 wr : World} {s0 Z : Nat} {A : Nat → Prop} {cv pv : Value} {cs : List Int} {hs : List Value} {pl : List (List (Int × Int))} (hZ : w2.heap.size = Z) (hs0 : s0 + 4 ≤ Z) (hA : A = fun k => k < Z ∧ k ≠ s0 ∧ k ≠ s0 + 1)
    (F2 : w2.ownsRow 0 26 1 (.slice (some ⟨s0 + 1 + 1, 0, none⟩) 0 0) 0 []) (F3 : w2.ownsRow 0 222 1 (.slice (some ⟨s0 + 1 + 1 + 1, 0, none⟩) 1 1) 1 [.slice (some ⟨s0 + 1 + 1, 0, none⟩) 0 0])
    (HK : KeepA A w2 wr) (HC : wr.ownsRow 0 3 1 cv pl.length (intV cs)) (HP : wr.ownsRow 0 26 1 pv pl.length hs) (HL : HX wr (XP Z cv pv) hs pl)
    (HCB : ∀ b, cv.ownBlock = some b → b = s0 ∨ Z ≤ b) (HPB : ∀ b, pv.ownBlock = some b → b = s0 + 1 ∨ Z ≤ b) :
    LS w2 (w3Of wr) s0 wr.heap.size (wr.heap.size + 1) (wr.heap.size + 1 + 1 + 1) (s0 + 1 + 1 + 1) (wr.heap.size + 1 + 1) (fun k => k < wr.heap.size + 4 ∧ k ≠ wr.heap.size) (fun b => XP Z cv pv b ∧ b < wr.heap.size) (.slice none 0 0) (.slice none 0 0) 0 (s0 + 1 + 1) 0 [] cv pv cs hs pl [] 0 [] := by
  have hsz := HK.size
  have BW : Below wr.heap.size wr (w3Of wr) := by (repeat (first | exact Below.refl _ _ | assumption | refine Below.setCell ?_ (by first | omega | (simp; done) | (simp; omega)) _ | refine Below.alloc ?_ (by first | omega | (simp; done) | (simp; omega)) _ | refine Below.drew ?_ | refine below_drewN ?_ _))
  have zz : (w3Of wr).heap.size = wr.heap.size + 4 := by simp
  have y1 : (wr.alloc (.cells #[.slice none 0 0, .slice none 0 0, .int .i64 0] 245)).heap.size = wr.heap.size + 1 := by simp
  have y2 : ((wr.alloc (.cells #[.slice none 0 0, .slice none 0 0, .int .i64 0] 245)).alloc (.cells #[.pointer (some ⟨wr.heap.size, 0, none⟩)] 243)).heap.size = wr.heap.size + 1 + 1 := by simp
  have y3 : (((wr.alloc (.cells #[.slice none 0 0, .slice none 0 0, .int .i64 0] 245)).alloc (.cells #[.pointer (some ⟨wr.heap.size, 0, none⟩)] 243)).alloc (.cells #[.int .i64 0] 3)).heap.size = wr.heap.size + 1 + 1 + 1 := by simp
  have e0 := (((own_lit (w := wr) (e := 245) (size := 3) #[.slice none 0 0, .slice none 0 0, .int .i64 0] 1 (by omega) rfl).alloc (.cells #[.pointer (some ⟨wr.heap.size, 0, none⟩)] 243)).alloc (.cells #[.int .i64 0] 3)).alloc (.cells #[.int .i64 0] 3)
  have e1 := ((own_lit (w := wr.alloc (.cells #[.slice none 0 0, .slice none 0 0, .int .i64 0] 245)) (e := 243) (size := 1) #[.pointer (some ⟨wr.heap.size, 0, none⟩)] 1 (by omega) rfl).alloc (.cells #[.int .i64 0] 3)).alloc (.cells #[.int .i64 0] 3)
  have e2 := (own_lit (w := (wr.alloc (.cells #[.slice none 0 0, .slice none 0 0, .int .i64 0] 245)).alloc (.cells #[.pointer (some ⟨wr.heap.size, 0, none⟩)] 243)) (e := 3) (size := 1) #[.int .i64 0] 1 (by omega) rfl).alloc (.cells #[.int .i64 0] 3)
  have e3 := own_lit (w := ((wr.alloc (.cells #[.slice none 0 0, .slice none 0 0, .int .i64 0] 245)).alloc (.cells #[.pointer (some ⟨wr.heap.size, 0, none⟩)] 243)).alloc (.cells #[.int .i64 0] 3)) (e := 3) (size := 1) #[.int .i64 0] 1 (by omega) rfl
  rw [y1] at e1
  rw [y2] at e2
  rw [y3] at e3
  have f2 := own_below (own_keepA F2 HK (fun b e => by injection e with e; have e' : s0 + 1 + 1 = b := e; rw [hA]; exact ⟨by omega, by omega, by omega⟩)) (Nat.le_refl _) BW
  have f3 := own_below (own_keepA F3 HK (fun b e => by injection e with e; have e' : s0 + 1 + 1 + 1 = b := e; rw [hA]; exact ⟨by omega, by omega, by omega⟩)) (Nat.le_refl _) BW
  have hcl : ∀ b, cv.ownBlock = some b → b < wr.heap.size := fun b e => (HC.lt b e).2
  have hpl : ∀ b, pv.ownBlock = some b → b < wr.heap.size := fun b e => (HP.lt b e).2
  refine ⟨fun k hk => by rw [zz]; exact hk.1, fun k hk => ⟨by omega, by omega⟩, ⟨own_mono e0 (Nat.zero_le _), World.ownsRow_nil _ _ _ _, World.ownsRow_nil _ _ _ _, fun h => h.2 rfl, (fun b e => by cases e), (fun b e => by cases e)⟩,
    ⟨own_mono e1 (Nat.zero_le _), own_mono e3 (Nat.zero_le _), own_mono e2 (Nat.zero_le _), f3, f2, HX.nil _ _, ?_, fun b hb => ?_⟩, ⟨⟨by omega, by omega⟩, ⟨by omega, by omega⟩, ⟨by omega, by omega⟩, ⟨by omega, by omega⟩, ⟨by omega, by omega⟩⟩,
    own_below HC (Nat.le_refl _) BW, own_below HP (Nat.le_refl _) BW, fun b hb => ?_, ?_, ?_, fun k hk => ⟨⟨by omega, by omega⟩, by omega, by omega, by omega, by omega⟩⟩
  · simp only [List.nodup_cons, List.mem_cons, List.not_mem_nil, or_false, not_or, List.nodup_nil, and_true, not_false_eq_true]
    omega
  · have h1 := hb.1.1
    have h2 := hb.2
    exact ⟨by omega, by omega, by omega, by omega, by omega⟩
  · have hbl : b < wr.heap.size := hb.elim (hcl b) (hpl b)
    have hbs : b = s0 ∨ b = s0 + 1 ∨ Z ≤ b := hb.elim (fun h => (HCB b h).elim .inl (fun h => .inr (.inr h))) (fun h => (HPB b h).elim (fun h => .inr (.inl h)) (fun h => .inr (.inr h)))
    exact ⟨⟨by omega, by omega⟩, fun hx => hb.elim hx.1.2.1 hx.1.2.2, by omega, by omega, by omega, by omega⟩
  · exact HL.imp fun v L hv => (hv.shrink (Y := fun b => XP Z cv pv b ∧ b < wr.heap.size) (fun b h1 h2 => ⟨h1, h2⟩)).grown (show wr.grownBy (w3Of wr) none from grown_of_below BW) (fun b e => by cases e)
  · exact (HK.mono (fun k hk => by rw [hA]; exact ⟨by omega, by omega, by omega⟩)).trans (keep_below BW)

set_option maxRecDepth 100000 in
set_option maxHeartbeats 8000000 in
theorem implAdaptive_any (a : Option Addr) (n c : Nat) (rs : List (Int × Int)) (w : World) (hn : n ≤ 1000) (h : Rd w a n c rs) :
    Calls Tryz.prog 186 #[.slice a n c] w (AdEnd w rs) := by
  have hl := h.len
  have HV : Hid (Calls Tryz.prog 52 #[.slice a n c] w fun e w' => e = .returned (.bool (okRecs rs)) ∧ Below w.heap.size w w') := by
    have := isValidRecords_any a c rs w (by omega) h.recs
    rwa [hl] at this
  have H := Lib.hid h
  clear h
  unfold AdEnd
  by_cases hok : okRecs rs = true
  case neg =>
    have hok2 : okRecs rs = false := by simpa using hok
    have HA : Hid (adL rs = [] ∧ adN rs = 0) := by
      show _ ∧ _
      unfold adL adN
      rw [hok2]; exact ⟨rfl, rfl⟩
    rw [hok2] at HV ⊢
    rw [HA.out.1, HA.out.2]
    clear hok hok2
    go_enter Tryz.func186, Tryz.ntmps186
    go_wp2_with fail
    refine HV.out.mono ?_
    rintro e w1 ⟨rfl, hb1⟩
    have HB1 := Lib.hid hb1
    clear hb1
    go_wp2
    go_ret3
    exact ⟨none, 0, 0, rfl, rd_nil _, HB1.out⟩
  have h64 := okRecs_le64 hok
  have HA : Hid (adL rs = Ad.adS ltR (partsL rs) ∧ adN rs = Ad.adC ltR (partsL rs)) := by
    show _ ∧ _
    unfold adL adN
    rw [hok]; exact ⟨rfl, rfl⟩
  rw [hok] at HV ⊢
  rw [HA.out.1, HA.out.2]
  have HPK := Lib.hid (parts_ok rs)
  have HRK := Lib.hid (runs_ok rs _ 0 rfl (Nat.zero_le _)).1
  have HNR : Hid (∀ w1, Below w.heap.size w w1 → Calls Tryz.prog 145 #[.slice a n c] w1 fun e w' => ∃ (a' : Option Addr) (c' : Nat), e = .returned (.slice a' (runsFrom (keysL rs) 0).length c') ∧ w'.ownsRow w1.heap.size 163 2 (.slice a' (runsFrom (keysL rs) 0).length c') (runsFrom (keysL rs) 0).length (flat encR (runsFrom (keysL rs) 0)) ∧ Below w1.heap.size w1 w') := fun w1 hb => by
    have := implNaturalRuns0_any a c rs w1 h64 (H.out.same hb).recs
    rwa [hl] at this
  obtain ⟨RN, hRN⟩ : ∃ RN, runsFrom (keysL rs) 0 = RN := ⟨_, rfl⟩
  have HPL : Hid (partsL rs = RN.map (prtL rs)) := by show _ = _; unfold partsL; rw [hRN]
  rw [hRN] at HNR HRK
  clear hok hRN
  go_enter Tryz.func186, Tryz.ntmps186
  go_wp2_with fail
  refine HV.out.mono ?_
  rintro e w1 ⟨rfl, hb1⟩
  have HB1 := Lib.hid hb1
  clear hb1 HV
  go_wp2_with fail
  have hs1 := HB1.out.size
  have BW0 : Below w1.heap.size w1 ((((w1.alloc (.cells #[] 3)).alloc (.cells #[] 26)).alloc (.cells #[] 26)).alloc (.cells #[.slice (some ⟨w1.heap.size + 1 + 1, 0, none⟩) 0 0] 222)) := by (repeat (first | exact Below.refl _ _ | assumption | refine Below.setCell ?_ (by first | omega | (simp; done) | (simp; omega)) _ | refine Below.alloc ?_ (by first | omega | (simp; done) | (simp; omega)) _ | refine Below.drew ?_ | refine below_drewN ?_ _))
  have E0 := (((own_lit (w := w1) (e := 3) (size := 1) #[] 0 (by omega) rfl).alloc (.cells #[] 26)).alloc (.cells #[] 26)).alloc (.cells #[.slice (some ⟨w1.heap.size + 1 + 1, 0, none⟩) 0 0] 222)
  have E1 := ((own_lit (w := w1.alloc (.cells #[] 3)) (e := 26) (size := 1) #[] 0 (by omega) rfl).alloc (.cells #[] 26)).alloc (.cells #[.slice (some ⟨w1.heap.size + 1 + 1, 0, none⟩) 0 0] 222)
  have E2 := (own_lit (w := (w1.alloc (.cells #[] 3)).alloc (.cells #[] 26)) (e := 26) (size := 1) #[] 0 (by omega) rfl).alloc (.cells #[.slice (some ⟨w1.heap.size + 1 + 1, 0, none⟩) 0 0] 222)
  have E3 := own_lit (w := ((w1.alloc (.cells #[] 3)).alloc (.cells #[] 26)).alloc (.cells #[] 26)) (e := 222) (size := 1) #[.slice (some ⟨w1.heap.size + 1 + 1, 0, none⟩) 0 0] 1 (by omega) rfl
  have z1 : (w1.alloc (.cells #[] 3)).heap.size = w1.heap.size + 1 := by simp
  have z2 : ((w1.alloc (.cells #[] 3)).alloc (.cells #[] 26)).heap.size = w1.heap.size + 1 + 1 := by simp
  have z3 : (((w1.alloc (.cells #[] 3)).alloc (.cells #[] 26)).alloc (.cells #[] 26)).heap.size = w1.heap.size + 1 + 1 + 1 := by simp
  have z4 : ((((w1.alloc (.cells #[] 3)).alloc (.cells #[] 26)).alloc (.cells #[] 26)).alloc (.cells #[.slice (some ⟨w1.heap.size + 1 + 1, 0, none⟩) 0 0] 222)).heap.size = w1.heap.size + 1 + 1 + 1 + 1 := by simp
  rw [z1] at E1
  rw [z2] at E2
  rw [z3] at E3
  clear z1 z2 z3
  generalize (((w1.alloc (.cells #[] 3)).alloc (.cells #[] 26)).alloc (.cells #[] 26)).alloc (.cells #[.slice (some ⟨w1.heap.size + 1 + 1, 0, none⟩) 0 0] 222) = w0 at BW0 E0 E1 E2 E3 z4 ⊢
  have HBW := Lib.hid (below_tr HB1.out BW0 HB1.out.size)
  refine (HNR.out _ HBW.out).mono ?_
  rintro e w2 ⟨ar, cr, rfl, hor, hbr⟩
  have hz2 := hbr.size
  have F0 := Lib.hid (own_mono (own_below E0 (Nat.le_refl _) hbr) (Nat.zero_le _))
  have F1 := Lib.hid (own_mono (own_below E1 (Nat.le_refl _) hbr) (Nat.zero_le _))
  have F2 := Lib.hid (own_mono (own_below E2 (Nat.le_refl _) hbr) (Nat.zero_le _))
  have F3 := Lib.hid (own_mono (own_below E3 (Nat.le_refl _) hbr) (Nat.zero_le _))
  have HRR := Lib.hid (recs_of_own hor)
  have HRB : Hid (∀ b off, ar = some ⟨b, off, none⟩ → w0.heap.size ≤ b) := fun b off e => by
    subst e
    exact (hor.lt b rfl).1
  have HB2 := Lib.hid (below_tr HBW.out hbr HBW.out.size)
  clear E0 E1 E2 E3 hor hbr BW0 HBW HNR
  clear HB1
  generalize w1.heap.size = s0 at hs1 z4 F0 F1 F2 F3 ⊢
  obtain ⟨Z, hZ⟩ : ∃ Z, w2.heap.size = Z := ⟨_, rfl⟩
  have HZ := Lib.hid hZ
  have hsz0 : w.heap.size ≤ s0 ∧ s0 + 4 ≤ Z := by omega
  obtain ⟨pl, hpl⟩ : ∃ pl, RN.map (prtL rs) = pl := ⟨_, rfl⟩
  have HPL2 := Lib.hid hpl
  rw [hpl] at HPL
  have hRNl : RN.length ≤ 64 := by
    have := HPK.out.2.2
    rw [HPL.out, ← hpl, List.length_map] at this
    omega
  have hpll : pl.length = RN.length := by rw [← hpl, List.length_map]
  obtain ⟨A, hAd⟩ : ∃ A : Nat → Prop, A = fun k => k < Z ∧ k ≠ s0 ∧ k ≠ s0 + 1 := ⟨_, rfl⟩
  have HAD := Lib.hid hAd
  have HBL : Hid (∀ w9, KeepA A w2 w9 → Below w.heap.size w w9) := fun w9 hk => HB2.out.trans (hk.below (by omega) (fun k hk => by rw [hAd]; exact ⟨by omega, by omega, by omega⟩))
  have HRA : Hid (∀ w9, KeepA A w2 w9 → RecsAt w9 ar RN) := fun w9 hk => HRR.out.keepA hk (fun b hb ho => by
    obtain ⟨off, ho⟩ := ho
    have := HRB.out b off ho
    rw [hAd]; exact ⟨by omega, by omega, by omega⟩)
  have HX0 : Hid (HX w2 (XP Z (.slice (some ⟨s0, 0, none⟩) 0 0) (.slice (some ⟨s0 + 1, 0, none⟩) 0 0)) [] []) := Lib.hid (HX.nil _ _)
  clear hZ hpl hAd
  go_wp2
  go_loopw [5, 6, 28] (fun cv pv i wr => ∃ (j : Nat) (hs : List Value), i = .int .i64 j ∧ j ≤ RN.length ∧ Hid (wr.ownsRow 0 3 1 cv j (intV (Ad.sz (pl.take j)))) ∧ Hid (wr.ownsRow 0 26 1 pv j hs) ∧ Hid (HX wr (XP Z cv pv) hs (pl.take j)) ∧ Hid (KeepA A w2 wr) ∧ Hid (∀ b, cv.ownBlock = some b → (b = s0 ∨ Z ≤ b) ∧ pv.ownBlock ≠ some b) ∧ Hid (∀ b, pv.ownBlock = some b → b = s0 + 1 ∨ Z ≤ b)) (fun _ _ i _ => RN.length - (intOf i).toNat)
  case atStart =>
    refine ⟨0, [], rfl, by omega, F0, F1, by rw [List.take_zero]; exact HX0, Lib.hid (KeepA.refl _ _), Lib.hid (fun b e => ?_), Lib.hid (fun b e => ?_)⟩
    · injection e with e
      have e2 : s0 = b := e
      exact ⟨.inl e2.symm, fun e3 => by injection e3 with e3; have e4 : s0 + 1 = b := e3; omega⟩
    · injection e with e
      have e2 : s0 + 1 = b := e
      exact .inl e2.symm
  case round =>
    obtain ⟨j, hs, rfl, hj, HC, HP, HL, HK, HCB, HPB⟩ := hrel
    clear HX0 F0 F1
    obtain ⟨ca, cc, hcv⟩ := own_slice HC.out
    obtain ⟨pa, pc, hpv⟩ := own_slice HP.out
    subst hcv
    subst hpv
    have bj : (0 : Int) ≤ (j : Int) := by omega
    by_cases hlt : j < RN.length
    case neg =>
      have hjn : j = RN.length := by omega
      subst hjn
      have q1 : decide ((RN.length : Int) < (RN.length : Int)) = false := decide_eq_false (by omega)
      rw [List.take_of_length_le (by omega)] at HC HL
      clear bj
      have HLS := Lib.hid (LS.start (cs := Ad.sz pl) HZ.out hsz0.2 HAD.out F2.out F3.out HK.out (hpll ▸ HC.out) (hpll ▸ HP.out) HL.out (fun b e => (HCB.out b e).1) HPB.out)
      have hzq : Z ≤ wr.heap.size := by have := HK.out.size; have := HZ.out; omega
      have hwq : w.heap.size ≤ s0 := hsz0.1
      have HZ9 : Hid (w2.heap.size = Z ∧ Below w.heap.size w w2) := Lib.hid ⟨HZ.out, HB2.out⟩
      clear HC HP HL HK HCB HPB HBL HRA HAD F2 F3
      go_wp2
      unfold w3Of at HLS
      generalize (((wr.alloc (.cells #[.slice none 0 0, .slice none 0 0, .int .i64 0] 245)).alloc (.cells #[.pointer (some ⟨wr.heap.size, 0, none⟩)] 243)).alloc (.cells #[.int .i64 0] 3)).alloc (.cells #[.int .i64 0] 3) = w3 at HLS ⊢
      generalize wr.heap.size = q at HLS hzq ⊢
      go_loopw [73] (fun i wr => ∃ (j : Nat) (A X : Nat → Prop) (vs vm : Value) (mo : Int) (g c : Nat) (hsq : List Value), i = .int .i64 j ∧ j ≤ RN.length ∧ Hid (LS w2 wr s0 q (q + 1) (q + 1 + 1 + 1) (s0 + 1 + 1 + 1) (q + 1 + 1) A X vs vm mo g c hsq (.slice ca RN.length cc) (.slice pa RN.length pc) (Ad.sz pl) hs pl (Ad.pushes ltR (pl.take j)).1 (((Ad.pushes ltR (pl.take j)).2 : Nat) : Int) (Ad.idxs (Ad.sz (pl.take j))).2)) (fun i _ => RN.length - (intOf i).toNat)
      case atStart => exact ⟨0, _, _, _, _, _, _, _, _, rfl, by omega, HLS⟩
      case round =>
        obtain ⟨j, A2, X2, vs, vm, mo, g, cg, hsq, rfl, hj, HS⟩ := hrel
        clear HLS
        have bj : (0 : Int) ≤ (j : Int) := by omega
        by_cases hlt : j < RN.length
        case pos =>
          have q3 : decide ((j : Int) < (RN.length : Int)) = true := decide_eq_true (by omega)
          have q4 : (j : Int) < (RN.length : Int) := by omega
          have htp : totP pl ≤ 64 := by have := HPK.out.2.1; rw [HPL.out] at this; omega
          obtain ⟨p1, p2, p3, p4⟩ := push_info pl htp (by omega) (j := j) (by omega)
          have p5 := totP_take pl (j + 1)
          obtain ⟨L, hL⟩ : ∃ L, pl.getD j [] = L := ⟨_, rfl⟩
          have hpj : pl[j]? = some L := by rw [← hL, List.getD_eq_getElem?_getD, List.getElem?_eq_getElem (by omega)]; rfl
          have htk : pl.take (j + 1) = pl.take j ++ [L] := by rw [List.take_add_one, hpj]; rfl
          rw [htk, totP_snoc, ← p3] at p5
          have HTK := Lib.hid htk
          obtain ⟨S, hS⟩ : ∃ S, Ad.pushes ltR (pl.take j) = S := ⟨_, rfl⟩
          obtain ⟨I, hI⟩ : ∃ I, Ad.idxs (Ad.sz (pl.take j)) = I := ⟨_, rfl⟩
          rw [hS, hI] at HS
          rw [hS, hI] at p1 p2 p4
          rw [hS] at p3 p5
          have HSI := Lib.hid (And.intro hS hI)
          have hs0 := HS.out
          obtain ⟨gcb, ccc, hcv⟩ := own_posA hs0.hc (by omega)
          obtain ⟨gpb, ppc, hpv⟩ := own_posA hs0.hp (by omega)
          injection hcv with hcv hcv2 hcv3
          injection hpv with hpv hpv2 hpv3
          clear hcv2 hcv3 hpv2 hpv3
          subst hcv
          subst hpv
          obtain ⟨v, hv, x, cx, rfl, hrd, hx⟩ := hs0.hl.at (k := j) (by omega)
          rw [hL] at hv hrd
          have e1 : wr.cell? ⟨gcb, j, none⟩ = some (.int .i64 ((L.length : Nat) : Int)) := own_cellA (show wr.ownsRow 0 3 1 (.slice (some ⟨gcb, 0, none⟩) RN.length cc) RN.length (intV (Ad.sz pl)) from hpll ▸ hs0.hc) (by unfold intV Ad.sz; rw [List.getElem?_map, List.getElem?_map, hpj]; rfl)
          have e2 := own_cellA (show wr.ownsRow 0 26 1 (.slice (some ⟨gpb, 0, none⟩) RN.length pc) RN.length hs from hpll ▸ hs0.hp) hv
          have e3 : wr.cell? ⟨s0 + 1 + 1 + 1, 0, none⟩ = some (.slice (some ⟨g, 0, none⟩) S.1.length cg) := own_cellA hs0.hP.hP rfl
          have HLX : Hid (LX wr X2 (.slice x L.length cx) L) := Lib.hid ⟨x, cx, rfl, hrd, hx⟩
          obtain ⟨nl, hnl⟩ : ∃ n, L.length = n := ⟨_, rfl⟩
          rw [hnl] at e1 e2 p5
          have HNL := Lib.hid hnl
          clear hs0 hv hrd hx hL hpj htk hS hI q1
          have E1 : wr.drew.cell? ⟨s0 + 1 + 1 + 1, 0, none⟩ = some (.slice (some ⟨g, 0, none⟩) S.1.length cg) := e3
          have E2 : wr.drew.cell? ⟨gpb, j, none⟩ = some (.slice x nl cx) := e2
          have hb9 : Below wr.heap.size wr (wr.alloc (.cells #[.slice x nl cx] 26)).drew := by (repeat (first | exact Below.refl _ _ | assumption | refine Below.setCell ?_ (by first | omega | (simp; done) | (simp; omega)) _ | refine Below.alloc ?_ (by first | omega | (simp; done) | (simp; omega)) _ | refine Below.drew ?_ | refine below_drewN ?_ _))
          have HS9 := Lib.hid (HS.out.below hb9)
          have HLX9 : Hid (LX (wr.alloc (.cells #[.slice x nl cx] 26)).drew X2 (.slice x nl cx) L) := Lib.hid (by have := HLX.out; rw [hnl] at this; exact this.grown (show wr.grownBy _ none from grown_of_below hb9) (fun b e => by cases e))
          have hcn : ∀ jj u, [Value.slice x nl cx][jj]? = some u → (wr.alloc (.cells #[.slice x nl cx] 26)).drew.cell? ((⟨wr.heap.size, 0, none⟩ : Addr).add jj) = some u := fun jj u hu => cells_new wr [.slice x nl cx] 26 jj u hu
          have HCN := Lib.hid hcn
          have hSl : S.1.length ≤ 64 := by omega
          have hzz : wr.heap.size ≤ (wr.alloc (.cells #[.slice x nl cx] 26)).drew.heap.size := hb9.size
          obtain ⟨N0, hN0⟩ : ∃ N0, S.1.length = N0 := ⟨_, rfl⟩
          have HN0 := Lib.hid hN0
          have HOW : Hid ((wr.alloc (.cells #[.slice x nl cx] 26)).drew.ownsRow 0 26 1 (.slice (some ⟨g, 0, none⟩) N0 cg) N0 hsq) := Lib.hid (by have := HS9.out.hP.hr; rwa [hN0] at this)
          have HOP : Hid ((wr.alloc (.cells #[.slice x nl cx] 26)).drew.ownsRow 0 222 1 (.slice (some ⟨s0 + 1 + 1 + 1, 0, none⟩) 1 1) 1 [.slice (some ⟨g, 0, none⟩) N0 cg]) := Lib.hid (by have := HS9.out.hP.hP; rwa [hN0] at this)
          have HGN : Hid (s0 + 1 + 1 + 1 ≠ g) := Lib.hid (nd5 HS.out.hP.dis).2.2.2.2.2.2.2.2.1
          rw [hN0] at E1 hSl e3
          have E1b : (wr.alloc (.cells #[.slice x nl cx] 26)).drew.cell? ⟨s0 + 1 + 1 + 1, 0, none⟩ = some (.slice (some ⟨g, 0, none⟩) N0 cg) := own_cellA HOP.out rfl
          clear hb9 hcn hN0 HS HLX
          go_wp2_with fail
          go_region_law (refine step_appX slLsA rfl _ _ rfl 0 (.slice (some ⟨g, 0, none⟩) N0 cg) N0 hsq ⟨wr.heap.size, 0, none⟩ 1 1 [.slice x nl cx] (by simp [Act.eval]) HOW.out (by simp [Act.eval]) rfl HCN.out (by simp [Value.oneCell']) (by omega) (Nat.zero_le _) ?_; intro v' w7 ho7 hg7 ht7; obtain ⟨g', cg', rfl⟩ := own_posA ho7 (by omega); have hp7 := HOP.out.kept hg7 (.inr fun e => HGN.out (by injection e)); have c7 : w7.cell? ⟨s0 + 1 + 1 + 1, 0, none⟩ = some (.slice (some ⟨g, 0, none⟩) N0 cg) := own_cellA hp7 rfl; have f7 : w7.frozen? ⟨s0 + 1 + 1 + 1, 0, none⟩ = false := hp7.frozenAt 0)
          all_goals
            have hap := HS9.out.app (g' := g') (c' := cg') HLX9.out hg7 (by rw [HN0.out]; exact ho7) (ht7.elim (fun h => .inl (by injection h)) (fun h => .inr (by injection h with h; exact Nat.le_of_eq h.symm)))
            rw [HN0.out] at hap
            obtain ⟨A3, R8, hA8, hX8, P8, hAc8, hc8, hp8, hrow8, hl8, hk8, h08⟩ := hap
            generalize w7.setCell ⟨s0 + 1 + 1 + 1, 0, none⟩ (.slice (some ⟨g', 0, none⟩) (N0 + 1) cg') = w8 at R8 hA8 P8 hc8 hp8 hl8 hk8 ⊢
            have j1 : w8.cell? ⟨q + 1, 0, none⟩ = some (.pointer (some ⟨q, 0, none⟩)) := own_cellA P8.hS rfl
            have htl : totP (S.1 ++ [L]) ≤ 64 := by rw [totP_snoc, HNL.out]; omega
            have hbd : Bd (Ad.sz S.1 ++ [((nl : Nat) : Int)]) := by
              have := bd_sz (ps := S.1 ++ [L]) (by omega)
              rwa [Ad.sz_snoc, HNL.out] at this
            have HPU := Lib.hid (push_any q ((nl : Nat) : Int) A3 (Ad.sz S.1) I.2 w8 (by rw [Ad.sz_length, HN0.out]; omega) (by rw [Ad.sz_length, HN0.out]; have := HN0.out; omega) hA8 hbd ⟨_, _, _, R8⟩)
            have HPK8 := Lib.hid (And.intro hA8 (And.intro hX8 (And.intro P8 (And.intro hAc8 (And.intro hc8 (And.intro hp8 (And.intro hrow8 (And.intro hl8 (And.intro hk8 h08)))))))))
            have HTL := Lib.hid htl
            clear hA8 hX8 P8 hAc8 hc8 hp8 hrow8 hl8 hk8 h08 R8 htl hbd ho7 hg7 ht7 hp7 c7 f7 E1b HOW HOP HCN HS9 HLX9 E1 E2 e1 e2 e3 hzz
            go_wp2_with fail
            refine HPU.out.mono ?_
            rintro e w9 ⟨rfl, hrs, hke⟩
            obtain ⟨vs', vm', mo', r9⟩ := hrs
            obtain ⟨hA8, hX8, P8, hAc8, hc8, hp8, hrow8, hl8, hk8, h08⟩ := HPK8.out
            have hsz9 : Ad.sz S.1 ++ [((nl : Nat) : Int)] = Ad.sz (S.1 ++ [L]) := by rw [Ad.sz_snoc, HNL.out]
            rw [hsz9] at r9
            obtain ⟨g1, g2, g3⟩ := Ad.fol_idx ltR false _ (S.1 ++ [L]) rfl
            have hio := (idx_ok false _ (Ad.sz (S.1 ++ [L])) rfl (sz_nn _)).2.2
            obtain ⟨IX, hIX⟩ : ∃ IX, Ad.idx false (Ad.sz (S.1 ++ [L])) = IX := ⟨_, rfl⟩
            rw [hIX] at r9 g1 g2 g3 hio
            obtain ⟨T, hT⟩ : ∃ T, Ad.settle ltR false (S.1 ++ [L]) = T := ⟨_, rfl⟩
            rw [hT] at g1 g2
            rw [g2] at r9
            have hl9 : (S.1 ++ [L]).length = N0 + 1 := by rw [List.length_append, HN0.out]; rfl
            rw [Ad.sz_length, hl9] at hio
            have hp2 := HN0.out
            have P9 := P8.keep hke hAc8 hX8
            have hml9 : (I.2 ++ IX.2).length = I.2.length + IX.2.length := List.length_append
            have HFO := Lib.hid (follow_any X2 A3 q (q + 1) (q + 1 + 1 + 1) (s0 + 1 + 1 + 1) (q + 1 + 1) g' cg' I.2.length vs' vm' mo' ((S.2 : Nat) : Int) (Ad.sz T.1) (I.2 ++ IX.2) (hsq ++ [.slice x nl cx]) (S.1 ++ [L]) w9 (by omega) (by omega) (by omega) (by have := HTL.out; omega) (by omega) (by rw [hml9]; omega) (by rw [List.drop_left]; exact g3) hAc8 P9 r9)
            rw [List.drop_left, g1] at HFO
            unfold FolEnd at HFO
            have HR9 := Lib.hid (And.intro r9.lt (And.intro (fun b e => (r9.hs.lt b e).2) (fun b e => (r9.hm.lt b e).2)))
            have HKE := Lib.hid hke
            have HEQ : Hid (Ad.pushes ltR (pl.take (j + 1)) = (T.1, S.2 + T.2) ∧ (Ad.idxs (Ad.sz (pl.take (j + 1)))).2 = I.2 ++ IX.2) := by
              have e1 := HSI.out.1
              have e2 := HSI.out.2
              show _ ∧ _
              rw [HTK.out, Ad.pushes_snoc, e1, hT, Ad.sz_snoc, Ad.idxs_snoc, e2, p1, ← Ad.sz_snoc, hIX]
              exact ⟨rfl, rfl⟩
            clear hA8 hX8 P8 hAc8 hc8 hp8 hrow8 hl8 hk8 h08 r9 g1 g2 g3 hio hIX hT hl9 hp2 P9 hml9 hke hsz9 HPU
            go_wp2_with fail
            refine HFO.out.mono ?_
            rintro e w10 ⟨rfl, ⟨hs', P10⟩, R10, K10⟩
            obtain ⟨hA8, hX8, P8, hAc8, hc8, hp8, hrow8, hl8, hk8, h08⟩ := HPK8.out
            have HNEW := Lib.hid (LS.turn hA8 hX8 hAc8 hc8 hp8 hrow8 hl8 hk8 h08 P8.hX HKE.out HR9.out P10 R10 K10)
            clear hA8 hX8 P8 hAc8 hc8 hp8 hrow8 hl8 hk8 h08 P10 R10 K10 HFO HPK8 HKE HR9
            go_wp2
            go_roundw
            case rel => exact ⟨j + 1, _, _, vs', vm', mo', g', cg', hs', by go_num, by omega, by rw [HEQ.out.1, HEQ.out.2]; exact HNEW⟩
            case measure => simp [intOf]; omega
        case neg =>
          have hjn : j = RN.length := by omega
          subst hjn
          have q3 : decide ((RN.length : Int) < (RN.length : Int)) = false := decide_eq_false (by omega)
          have htp : totP pl ≤ 64 := by have := HPK.out.2.1; rw [HPL.out] at this; omega
          obtain ⟨p1, p2, p3, p4⟩ := push_info pl htp (by omega) (j := RN.length) (by omega)
          rw [List.take_of_length_le (by omega)] at HS p1 p2 p3 p4
          obtain ⟨S, hS⟩ : ∃ S, Ad.pushes ltR pl = S := ⟨_, rfl⟩
          obtain ⟨I, hI⟩ : ∃ I, Ad.idxs (Ad.sz pl) = I := ⟨_, rfl⟩
          rw [hS, hI] at HS p1 p2 p4
          rw [hS] at p3
          obtain ⟨g1, g2, g3⟩ := Ad.fol_idx ltR true _ S.1 rfl
          have hio := (idx_ok true _ (Ad.sz S.1) rfl (sz_nn _)).2.2
          obtain ⟨IX, hIX⟩ : ∃ IX, Ad.idx true (Ad.sz S.1) = IX := ⟨_, rfl⟩
          obtain ⟨T, hT⟩ : ∃ T, Ad.settle ltR true S.1 = T := ⟨_, rfl⟩
          rw [hIX] at g1 g2 g3 hio
          rw [hT] at g1 g2
          rw [Ad.sz_length] at hio
          have HALL : Hid (allI (Ad.sz pl) = I.2 ++ IX.2) := by show _ = _; unfold allI; rw [hI, p1, hIX]
          have HAD2 : Hid (Ad.adS ltR (partsL rs) = T.1.getD 0 [] ∧ Ad.adC ltR (partsL rs) = S.2 + T.2) := by
            show _ ∧ _
            rw [HPL.out]
            unfold Ad.adS Ad.adC
            rw [hS, hT]; exact ⟨rfl, rfl⟩
          have hone : 0 < pl.length → T.1 = [Ad.jall ltR pl] := fun h0 => by
            have := Ad.ad_end ltR (Mg.swK Prod.fst) pl h0
            rw [hS, hT] at this; exact this
          have hzero : pl.length = 0 → T.1 = [] ∧ S.2 + T.2 = 0 := fun h0 => by
            have e0 : pl = [] := List.eq_nil_of_length_eq_zero h0
            subst e0
            have e1 : S = ([], 0) := hS.symm
            subst e1
            have e2 : T = ([], 0) := hT.symm
            subst e2
            exact ⟨rfl, rfl⟩
          have HONE := Lib.hid hone
          have HZERO := Lib.hid hzero
          have hs0 := HS.out
          have HRM := Lib.hid (runMerges_any ca RN.length cc (Ad.sz pl) wr (by rw [Ad.sz_length]; exact hpll) (by omega) (bd_sz (by omega)) (ints_of_own (show wr.ownsRow 0 3 1 (.slice ca RN.length cc) RN.length (intV (Ad.sz pl)) from hpll ▸ hs0.hc)))
          unfold AllEnd at HRM
          rw [HALL.out] at HRM
          have HG := Lib.hid (And.intro g1 (And.intro g2 g3))
          have hml9 : (I.2 ++ IX.2).length = I.2.length + IX.2.length := List.length_append
          have hN1 : (Ad.sz S.1).length = S.1.length := Ad.sz_length _
          clear hS hI hIX hT hone hzero hs0 g1 g2 g3
          go_wp2_with fail
          refine HRM.out.mono ?_
          rintro e w4 ⟨am, nm, cm, mo4, rfl, ho4, hb4⟩
          have hnm : nm = (I.2 ++ IX.2).length := by have := ho4.1; unfold natV at this; rw [List.length_map] at this; omega
          have gb4 : wr.grownBy w4 none := grown_of_below hb4
          have hs0 := HS.out
          obtain ⟨R5, K5⟩ := hs0.hR.setM (m' := I.2 ++ IX.2) (v' := .slice am nm cm) hs0.hA (w1 := w4) ⟨gb4.os, gb4.tape, gb4.output, gb4.size, fun k hk _ => gb4.block k hk (fun e => by cases e)⟩ (by rw [← hnm]; exact own_mono ho4 (Nat.zero_le _)) (fun b e => .inr (ho4.lt b e).1)
          have P5 := hs0.hP.keep K5 hs0.hAc hs0.hXA
          have R4 := hs0.hR.other gb4 (fun b e => by cases e)
          have P4 := hs0.hP.other gb4 (fun b e => by cases e)
          have j1 : w4.cell? ⟨q + 1, 0, none⟩ = some (.pointer (some ⟨q, 0, none⟩)) := own_cellA P4.hS rfl
          have j2 := R4.cell.2.1
          have j3 : w4.frozen? ⟨q, 1, none⟩ = false := R4.hp.frozenAt 1
          have k5 := (hs0.hk.trans (K5.mono (fun k hk => (hs0.h0 k hk).1)))
          have HFO := Lib.hid (follow_any X2 A2 q (q + 1) (q + 1 + 1 + 1) (s0 + 1 + 1 + 1) (q + 1 + 1) g cg I.2.length vs (.slice am nm cm) mo ((S.2 : Nat) : Int) (Ad.sz S.1) (I.2 ++ IX.2) hsq S.1 (w4.setCell ⟨q, 1, none⟩ (.slice am nm cm)) (by omega) (by omega) (by omega) (by omega) (by omega) (by rw [hml9]; omega) (by rw [List.drop_left]; exact HG.out.2.2) hs0.hAc P5 R5)
          rw [List.drop_left, HG.out.1] at HFO
          unfold FolEnd at HFO
          have HH0 := Lib.hid hs0.h0
          have HK5 := Lib.hid k5
          clear hs0 R5 K5 P5 R4 P4 gb4 ho4 hb4 hnm k5 HS HRM p1 p2 p3 p4 hio hml9 hN1
          go_wp2_with fail
          refine HFO.out.mono ?_
          rintro e w10 ⟨rfl, ⟨hs', P10⟩, R10, K10⟩
          have HB10 := Lib.hid (HZ9.out.2.trans ((HK5.out.trans (K10.mono (fun k hk => HH0.out k hk))).below (by have := HZ9.out.1; omega) (fun k hk => Nat.lt_of_lt_of_le hk hwq)))
          have c1 : w10.cell? ⟨s0 + 1 + 1 + 1, 0, none⟩ = some (.slice (some ⟨g, 0, none⟩) T.1.length cg) := own_cellA P10.hP rfl
          have c2 : w10.cell? ⟨q + 1 + 1, 0, none⟩ = some (.int .i64 (((S.2 : Nat) : Int) + ((T.2 : Nat) : Int))) := own_cellA P10.hC rfl
          have HP10 := Lib.hid P10
          clear P10 R10 K10 HFO HK5 HH0
          by_cases h0 : pl.length = 0
          · obtain ⟨z1, z2⟩ := HZERO.out h0
            rw [z1] at c1
            have c1' : w10.cell? ⟨s0 + 1 + 1 + 1, 0, none⟩ = some (.slice (some ⟨g, 0, none⟩) 0 cg) := c1
            have HE0 := Lib.hid (own_lit (w := w10) (e := 87) (size := 2) #[] 0 (by omega) rfl)
            have HBE := Lib.hid (below_tr HB10.out ((Below.refl w10.heap.size w10).alloc (Nat.le_refl _) (.cells #[] 87)) HB10.out.size)
            have HRES : Hid (Ad.adS ltR (partsL rs) = [] ∧ Ad.adC ltR (partsL rs) = 0) := Lib.hid ⟨by rw [HAD2.out.1, z1]; rfl, by rw [HAD2.out.2, z2]⟩
            clear c1 c2 z1 z2
            go_wp2
            go_ret3
            refine ⟨some ⟨w10.heap.size, 0, none⟩, 0, 0, ?_, ?_, HBE.out⟩
            · rw [HRES.out.2]; rfl
            · rw [HRES.out.1]; exact rd_own (rs := []) HE0.out
          · have z1 := HONE.out (by omega)
            rw [z1] at c1
            have c1' : w10.cell? ⟨s0 + 1 + 1 + 1, 0, none⟩ = some (.slice (some ⟨g, 0, none⟩) 1 cg) := c1
            obtain ⟨v, hv, x, cx, rfl, hrd, _⟩ := HP10.out.hl.at (k := 0) (by rw [z1]; exact Nat.one_pos)
            have c3 := own_cellA HP10.out.hr hv
            have HRD := Lib.hid hrd
            obtain ⟨L, hL⟩ : ∃ L, T.1.getD 0 [] = L := ⟨_, rfl⟩
            rw [hL] at HRD c3 HAD2
            have HRES := HAD2
            clear c1 hv hrd z1 hL HAD2
            go_wp2_with fail
            go_quiet (fail)
            go_wp2
            go_ret3
            refine ⟨x, L.length, cx, ?_, ?_, below_drewN HB10.out nq⟩
            · rw [HRES.out.2]; rfl
            · rw [HRES.out.1]
              exact HRD.out.same (below_drewN (Below.refl _ _) nq)
    case pos =>
      have q1 : decide ((j : Int) < (RN.length : Int)) = true := decide_eq_true (by omega)
      have q2 : (j : Int) < (RN.length : Int) := by omega
      obtain ⟨br, orr, rfl, r1, r2⟩ := (HRA.out _ HK.out).at hlt
      have hmem : RN.getD j (0, 0) ∈ RN := by rw [List.getD_eq_getElem?_getD, List.getElem?_eq_getElem hlt]; exact List.getElem_mem hlt
      obtain ⟨f, b, hfb, hb1, hfb2⟩ := HRK.out _ hmem
      rw [hfb] at r1 r2
      have HP1 : Hid (pl.take (j + 1) = pl.take j ++ [prt ((rs.drop f).take b)]) := by
        show _ = _
        have e1 : pl[j]? = some (prt ((rs.drop f).take b)) := by
          rw [← HPL2.out, List.getElem?_map, List.getElem?_eq_getElem hlt]
          rw [List.getD_eq_getElem?_getD, List.getElem?_eq_getElem hlt] at hfb
          have hfb' : RN[j] = ((f : Int), (b : Int)) := hfb
          rw [hfb']; rfl
        rw [List.take_add_one, e1]; rfl
      clear hmem hfb
      obtain ⟨ba, oa, rfl, _⟩ := recs_addr H.out.recs (by omega)
      have hcap := H.out.cap
      have HPT : Hid (∀ w9, Below w.heap.size w w9 → Calls Tryz.prog 58 #[.slice (some ⟨ba, oa + f * 2, none⟩) b (c - f)] w9 (OwnR w9 ((rs.drop f).take b) b)) := fun w9 hb => by
        have h1 := rd_lo (rd_hi (H.out.same hb) (h := f) (by omega)) (h := b) (by omega)
        have := copyOfR_any (some ⟨ba, oa + f * 2, none⟩) (c - f) ((rs.drop f).take b) w9 (by rw [h1.len]; omega) h1.recs h1.nil
        rwa [h1.len] at this
      have hPl : ((rs.drop f).take b).length = b := by rw [List.length_take, List.length_drop]; omega
      obtain ⟨P, hP⟩ : ∃ P, (rs.drop f).take b = P := ⟨_, rfl⟩
      rw [hP] at HPT HP1 hPl
      clear hP
      have b1 : (0 : Int) ≤ (f : Int) := by omega
      have b2 : IntKind.i64.wrap ((f : Int) + (b : Int)) = (f : Int) + (b : Int) := by rw [IntKind.wrap_i64]; omega
      have b3 : (f : Int) ≤ (f : Int) + (b : Int) := by omega
      have b4 : (f : Int) + (b : Int) ≤ (c : Int) := by omega
      have b5 : ((f : Int) + (b : Int)).toNat = f + b := by omega
      have b6 : ¬ (c = f) := by omega
      have b7 : (0 : Int) ≤ (f : Int) + (b : Int) := by omega
      have HBR := Lib.hid (HBL.out _ HK.out)
      unfold OwnR at HPT
      have HCP := Lib.hid (HPT.out _ (HBR.out.alloc HBR.out.size (.cells #[.int .i64 (f : Int), .int .i64 (b : Int)] 163)))
      clear HPT
      go_wp2_with fail
      refine HCP.out.mono ?_
      rintro e w4 ⟨gp, cp, rfl, ho4, hb4⟩
      have k0 : w4.cell? ⟨wr.heap.size, 0, none⟩ = some (.int .i64 (f : Int)) := (hb4.cell (p := ⟨wr.heap.size, 0, none⟩) (by simp)).trans (by simp [go_sem])
      have k1 : w4.cell? ⟨wr.heap.size, 1, none⟩ = some (.int .i64 (b : Int)) := (hb4.cell (p := ⟨wr.heap.size, 1, none⟩) (by simp)).trans (by simp [go_sem])
      have HB4 : Hid (Below wr.heap.size wr w4) := Below.trans (by (repeat (first | exact Below.refl _ _ | assumption | refine Below.setCell ?_ (by first | omega | (simp; done) | (simp; omega)) _ | refine Below.alloc ?_ (by first | omega | (simp; done) | (simp; omega)) _ | refine Below.drew ?_ | refine below_drewN ?_ _))) (hb4.mono (by simp))
      have HO4 : Hid (w4.ownsRow (wr.heap.size + 1) 87 2 (.slice (some ⟨gp, 0, none⟩) b cp) b (flat encR P)) := Lib.hid (by simpa using ho4)
      clear ho4 hb4 HCP r1 r2
      by_cases h1 : 1 < b
      case neg =>
        have d1 : decide (1 < (b : Int)) = false := decide_eq_false (by omega)
        have HPE : Hid (prt P = P) := by show _ = _; unfold prt; rw [if_neg (by omega)]
        go_wp2_with fail
        go_quiet (fail)
        have HO5 : Hid ((w4.drewN nq).ownsRow (wr.heap.size + 1) 87 2 (.slice (some ⟨gp, 0, none⟩) b cp) b (flat encR (prt P))) := by rw [HPE.out]; exact own_heap HO4.out rfl
        have k5 : (w4.drewN nq).cell? ⟨wr.heap.size, 1, none⟩ = some (.int .i64 (b : Int)) := k1
        have HB5 := Lib.hid (below_drewN HB4.out nq)
        clear HO4 HB4 k0 k1
        generalize w4.drewN nq = w5 at HO5 k5 HB5 ⊢
        have hgl := HO5.out.lt gp rfl
        have hs5 := HB5.out.size
        have HC5 := Lib.hid (own_below HC.out (Nat.le_refl _) HB5.out)
        have HP5 := Lib.hid (own_below HP.out (Nat.le_refl _) HB5.out)
        have hcl : ∀ b, (Value.slice ca j cc).ownBlock = some b → b < wr.heap.size := fun b e => (HC.out.lt b e).2
        have hpl2 : ∀ b, (Value.slice pa j pc).ownBlock = some b → b < wr.heap.size := fun b e => (HP.out.lt b e).2
        have HCL := Lib.hid hcl
        have HPLT := Lib.hid hpl2
        clear hcl hpl2
        go_wp2_with (first
          | (at_builtin; refine wpList_app1 (v := .slice ca j cc) slInt rfl _ _ rfl rfl HC5.out [.int .i64 (b : Int)] rfl rfl (by simp) (by simp [Value.oneCell']) (by omega) (Nat.zero_le _) ?_; intro cv' w6 hown6 hg6 ht6; obtain ⟨ca', cc', rfl⟩ := own_slice hown6; have HO6 := Lib.hid hown6; have HG6 := Lib.hid hg6; have HT6 := Lib.hid ht6; have HP6 := Lib.hid (HP5.out.kept hg6 (by cases hq : (Value.slice pa j pc).ownBlock with | none => exact .inl rfl | some bq => exact .inr fun e => (HCB.out bq e.symm).2 hq)); clear hown6 hg6 ht6)
          | (at_builtin; refine wpList_app1 (v := .slice pa j pc) slLsA rfl _ _ rfl rfl HP6.out [.slice (some ⟨gp, 0, none⟩) b cp] rfl rfl (by simp) (by simp [Value.oneCell']) (by omega) (Nat.zero_le _) ?_; intro pv' w7 hown7 hg7 ht7; obtain ⟨pa', pc', rfl⟩ := own_slice hown7; have HO7 := Lib.hid hown7; have HG7 := Lib.hid hg7; have HT7 := Lib.hid ht7; clear hown7 hg7 ht7))
        have hc6 : ∀ b, (Value.slice ca' (j + 1) cc').ownBlock = some b → (Value.slice ca j cc).ownBlock = some b ∨ w5.heap.size ≤ b := fun b e => HT6.out.elim (fun h => .inl (h ▸ e)) (fun h => .inr (by rw [h] at e; injection e with e; omega))
        have hp7 : ∀ b, (Value.slice pa' (j + 1) pc').ownBlock = some b → (Value.slice pa j pc).ownBlock = some b ∨ w6.heap.size ≤ b := fun b e => HT7.out.elim (fun h => .inl (h ▸ e)) (fun h => .inr (by rw [h] at e; injection e with e; omega))
        have hs6 := HG6.out.size
        have hc6l : ∀ b, (Value.slice ca' (j + 1) cc').ownBlock = some b → b < w6.heap.size := fun b e => (HO6.out.lt b e).2
        have hne : ∀ b, (Value.slice ca' (j + 1) cc').ownBlock = some b → (Value.slice pa j pc).ownBlock ≠ some b := fun b hb e => by
          rcases hc6 b hb with h | h
          · exact (HCB.out b h).2 e
          · have := HPLT.out b e; omega
        have HC7 : Hid (w7.ownsRow 0 3 1 (.slice ca' (j + 1) cc') (j + 1) (intV (Ad.sz (pl.take (j + 1))))) := by
          have h9 := HO6.out.kept HG7.out (by cases hq : (Value.slice ca' (j + 1) cc').ownBlock with | none => exact .inl rfl | some bq => exact .inr fun e => hne bq hq e.symm)
          rw [HP1.out, Ad.sz_snoc, prt_len, hPl]
          unfold intV at h9 ⊢
          rw [List.map_append]; exact h9
        have HL5 := HX.rows HL.out (show wr.grownBy w5 none from grown_of_below HB5.out) (fun b e => by cases e) (fun b e => .inl e) (fun b e => .inl e)
        have HL6 := HX.rows HL5 HG6.out (fun b e => .inl e) hc6 (fun b e => .inl e)
        have HL7 := HX.rows (cv' := .slice ca' (j + 1) cc') (pv' := .slice pa' (j + 1) pc') HL6 HG7.out (fun b e => .inr e) (fun b e => .inl e) hp7
        have hgc : (Value.slice ca j cc).ownBlock ≠ some gp := fun e => by have := HCL.out gp e; omega
        have hgp : (Value.slice pa j pc).ownBlock ≠ some gp := fun e => by have := HPLT.out gp e; omega
        have HR5 : Rd w5 (some ⟨gp, 0, none⟩) b cp (prt P) := rd_own HO5.out
        have HR7 := (HR5.grownA HG6.out (fun b off e e2 => by injection e with e; injection e with e; subst e; exact hgc e2)).grownA HG7.out (fun b off e e2 => by injection e with e; injection e with e; subst e; exact hgp e2)
        have hszr := HK.out.size
        have hLX : LX w7 (XP Z (.slice ca' (j + 1) cc') (.slice pa' (j + 1) pc')) (.slice (some ⟨gp, 0, none⟩) b cp) (prt P) := by
          refine ⟨some ⟨gp, 0, none⟩, cp, by rw [prt_len, hPl], by rw [prt_len, hPl]; exact HR7, fun b' off e => ?_⟩
          injection e with e
          injection e with e
          subst e
          have hz := HZ.out
          have hs7 := HG7.out.size
          exact ⟨⟨by omega, fun e2 => by rcases hc6 _ e2 with h | h; exact hgc h; omega, fun e2 => by rcases hp7 _ e2 with h | h; exact hgp h; omega⟩, by omega⟩
        have HLL : Hid (HX w7 (XP Z (.slice ca' (j + 1) cc') (.slice pa' (j + 1) pc')) (hs ++ [.slice (some ⟨gp, 0, none⟩) b cp]) (pl.take (j + 1))) := by
          rw [HP1.out]; exact HL7.snoc hLX
        have HK7 : Hid (KeepA A w2 w7) := Lib.hid (((HK.out.trans (keep_below HB5.out)).trans (keep_grown HG6.out (fun b e hb => by
          rw [HAD.out] at hb
          rcases (HCB.out b e).1 with h | h
          · exact hb.2.1 h
          · have := hb.1; omega))).trans (keep_grown HG7.out (fun b e hb => by
          rw [HAD.out] at hb
          rcases HPB.out b e with h | h
          · exact hb.2.2 h
          · have := hb.1; omega)))
        have HCB7 : Hid (∀ b, (Value.slice ca' (j + 1) cc').ownBlock = some b → (b = s0 ∨ Z ≤ b) ∧ (Value.slice pa' (j + 1) pc').ownBlock ≠ some b) := Lib.hid (fun b e => by
          have hz := HZ.out
          refine ⟨?_, fun e2 => ?_⟩
          · rcases hc6 b e with h | h
            · exact (HCB.out b h).1
            · exact .inr (by omega)
          · have hlb := hc6l b e
            rcases hp7 b e2 with h | h
            · rcases hc6 b e with h3 | h3
              · exact (HCB.out b h3).2 h
              · have := HPLT.out b h; omega
            · omega)
        have HPB7 : Hid (∀ b, (Value.slice pa' (j + 1) pc').ownBlock = some b → b = s0 + 1 ∨ Z ≤ b) := Lib.hid (fun b e => by
          have hz := HZ.out
          rcases hp7 b e with h | h
          · exact HPB.out b h
          · exact .inr (by omega))
        clear hc6 hp7 hc6l HL5 HL6 HL7 HR5 HR7 hLX hgc hgp HO6 HP6 HG6 HG7 HT6 HT7 HC5 HP5 HC HP HL HK HCB HPB
        go_wp2
        go_roundw
        case rel => exact ⟨j + 1, _, by go_num, by omega, HC7, HO7, HLL, HK7, HCB7, HPB7⟩
        case measure => simp [intOf]; omega
      case pos =>
        have d1 : decide (1 < (b : Int)) = true := decide_eq_true (by omega)
        have hp0 : P[0]? = some (P.getD 0 (0, 0)) := by rw [List.getD_eq_getElem?_getD, List.getElem?_eq_getElem (by omega)]; rfl
        have hp1 : P[1]? = some (P.getD 1 (0, 0)) := by rw [List.getD_eq_getElem?_getD, List.getElem?_eq_getElem (by omega)]; rfl
        obtain ⟨c1, _⟩ := rec_cells HO4.out hp0
        obtain ⟨c2, _⟩ := rec_cells HO4.out hp1
        obtain ⟨X0, hX0⟩ : ∃ x, P.getD 0 (0, 0) = x := ⟨_, rfl⟩
        obtain ⟨X1, hX1⟩ : ∃ x, P.getD 1 (0, 0) = x := ⟨_, rfl⟩
        rw [hX0] at c1
        rw [hX1] at c2
        have c1' : w4.cell? ⟨gp, 0, none⟩ = some (.int .i64 X0.1) := by simpa using c1
        have c2' : w4.cell? ⟨gp, 2, none⟩ = some (.int .i64 X1.1) := by simpa using c2
        have d2 : (1 : Int) < (b : Int) := by omega
        have d3 : (0 : Int) < (b : Int) := by omega
        have d4 : 1 < b := h1
        have d5 : 0 < b := by omega
        clear c1 c2 hp0 hp1
        by_cases hd : X1.1 < X0.1
        case neg =>
          have e1 : decide (X1.1 < X0.1) = false := decide_eq_false hd
          have HPE : Hid (prt P = P) := by show _ = _; unfold prt; rw [hX0, hX1, if_neg (fun h => hd h.2)]
          clear hX0 hX1
          go_wp2_with fail
          go_quiet (fail)
          have HO5 : Hid ((w4.drewN nq).ownsRow (wr.heap.size + 1) 87 2 (.slice (some ⟨gp, 0, none⟩) b cp) b (flat encR (prt P))) := by rw [HPE.out]; exact own_heap HO4.out rfl
          have k5 : (w4.drewN nq).cell? ⟨wr.heap.size, 1, none⟩ = some (.int .i64 (b : Int)) := k1
          have HB5 := Lib.hid (below_drewN HB4.out nq)
          clear HO4 HB4 k0 k1
          generalize w4.drewN nq = w5 at HO5 k5 HB5 ⊢
          have hgl := HO5.out.lt gp rfl
          have hs5 := HB5.out.size
          have HC5 := Lib.hid (own_below HC.out (Nat.le_refl _) HB5.out)
          have HP5 := Lib.hid (own_below HP.out (Nat.le_refl _) HB5.out)
          have hcl : ∀ b, (Value.slice ca j cc).ownBlock = some b → b < wr.heap.size := fun b e => (HC.out.lt b e).2
          have hpl2 : ∀ b, (Value.slice pa j pc).ownBlock = some b → b < wr.heap.size := fun b e => (HP.out.lt b e).2
          have HCL := Lib.hid hcl
          have HPLT := Lib.hid hpl2
          clear hcl hpl2
          go_wp2_with (first
            | (at_builtin; refine wpList_app1 (v := .slice ca j cc) slInt rfl _ _ rfl rfl HC5.out [.int .i64 (b : Int)] rfl rfl (by simp) (by simp [Value.oneCell']) (by omega) (Nat.zero_le _) ?_; intro cv' w6 hown6 hg6 ht6; obtain ⟨ca', cc', rfl⟩ := own_slice hown6; have HO6 := Lib.hid hown6; have HG6 := Lib.hid hg6; have HT6 := Lib.hid ht6; have HP6 := Lib.hid (HP5.out.kept hg6 (by cases hq : (Value.slice pa j pc).ownBlock with | none => exact .inl rfl | some bq => exact .inr fun e => (HCB.out bq e.symm).2 hq)); clear hown6 hg6 ht6)
            | (at_builtin; refine wpList_app1 (v := .slice pa j pc) slLsA rfl _ _ rfl rfl HP6.out [.slice (some ⟨gp, 0, none⟩) b cp] rfl rfl (by simp) (by simp [Value.oneCell']) (by omega) (Nat.zero_le _) ?_; intro pv' w7 hown7 hg7 ht7; obtain ⟨pa', pc', rfl⟩ := own_slice hown7; have HO7 := Lib.hid hown7; have HG7 := Lib.hid hg7; have HT7 := Lib.hid ht7; clear hown7 hg7 ht7))
          have hc6 : ∀ b, (Value.slice ca' (j + 1) cc').ownBlock = some b → (Value.slice ca j cc).ownBlock = some b ∨ w5.heap.size ≤ b := fun b e => HT6.out.elim (fun h => .inl (h ▸ e)) (fun h => .inr (by rw [h] at e; injection e with e; omega))
          have hp7 : ∀ b, (Value.slice pa' (j + 1) pc').ownBlock = some b → (Value.slice pa j pc).ownBlock = some b ∨ w6.heap.size ≤ b := fun b e => HT7.out.elim (fun h => .inl (h ▸ e)) (fun h => .inr (by rw [h] at e; injection e with e; omega))
          have hs6 := HG6.out.size
          have hc6l : ∀ b, (Value.slice ca' (j + 1) cc').ownBlock = some b → b < w6.heap.size := fun b e => (HO6.out.lt b e).2
          have hne : ∀ b, (Value.slice ca' (j + 1) cc').ownBlock = some b → (Value.slice pa j pc).ownBlock ≠ some b := fun b hb e => by
            rcases hc6 b hb with h | h
            · exact (HCB.out b h).2 e
            · have := HPLT.out b e; omega
          have HC7 : Hid (w7.ownsRow 0 3 1 (.slice ca' (j + 1) cc') (j + 1) (intV (Ad.sz (pl.take (j + 1))))) := by
            have h9 := HO6.out.kept HG7.out (by cases hq : (Value.slice ca' (j + 1) cc').ownBlock with | none => exact .inl rfl | some bq => exact .inr fun e => hne bq hq e.symm)
            rw [HP1.out, Ad.sz_snoc, prt_len, hPl]
            unfold intV at h9 ⊢
            rw [List.map_append]; exact h9
          have HL5 := HX.rows HL.out (show wr.grownBy w5 none from grown_of_below HB5.out) (fun b e => by cases e) (fun b e => .inl e) (fun b e => .inl e)
          have HL6 := HX.rows HL5 HG6.out (fun b e => .inl e) hc6 (fun b e => .inl e)
          have HL7 := HX.rows (cv' := .slice ca' (j + 1) cc') (pv' := .slice pa' (j + 1) pc') HL6 HG7.out (fun b e => .inr e) (fun b e => .inl e) hp7
          have hgc : (Value.slice ca j cc).ownBlock ≠ some gp := fun e => by have := HCL.out gp e; omega
          have hgp : (Value.slice pa j pc).ownBlock ≠ some gp := fun e => by have := HPLT.out gp e; omega
          have HR5 : Rd w5 (some ⟨gp, 0, none⟩) b cp (prt P) := rd_own HO5.out
          have HR7 := (HR5.grownA HG6.out (fun b off e e2 => by injection e with e; injection e with e; subst e; exact hgc e2)).grownA HG7.out (fun b off e e2 => by injection e with e; injection e with e; subst e; exact hgp e2)
          have hszr := HK.out.size
          have hLX : LX w7 (XP Z (.slice ca' (j + 1) cc') (.slice pa' (j + 1) pc')) (.slice (some ⟨gp, 0, none⟩) b cp) (prt P) := by
            refine ⟨some ⟨gp, 0, none⟩, cp, by rw [prt_len, hPl], by rw [prt_len, hPl]; exact HR7, fun b' off e => ?_⟩
            injection e with e
            injection e with e
            subst e
            have hz := HZ.out
            have hs7 := HG7.out.size
            exact ⟨⟨by omega, fun e2 => by rcases hc6 _ e2 with h | h; exact hgc h; omega, fun e2 => by rcases hp7 _ e2 with h | h; exact hgp h; omega⟩, by omega⟩
          have HLL : Hid (HX w7 (XP Z (.slice ca' (j + 1) cc') (.slice pa' (j + 1) pc')) (hs ++ [.slice (some ⟨gp, 0, none⟩) b cp]) (pl.take (j + 1))) := by
            rw [HP1.out]; exact HL7.snoc hLX
          have HK7 : Hid (KeepA A w2 w7) := Lib.hid (((HK.out.trans (keep_below HB5.out)).trans (keep_grown HG6.out (fun b e hb => by
            rw [HAD.out] at hb
            rcases (HCB.out b e).1 with h | h
            · exact hb.2.1 h
            · have := hb.1; omega))).trans (keep_grown HG7.out (fun b e hb => by
            rw [HAD.out] at hb
            rcases HPB.out b e with h | h
            · exact hb.2.2 h
            · have := hb.1; omega)))
          have HCB7 : Hid (∀ b, (Value.slice ca' (j + 1) cc').ownBlock = some b → (b = s0 ∨ Z ≤ b) ∧ (Value.slice pa' (j + 1) pc').ownBlock ≠ some b) := Lib.hid (fun b e => by
            have hz := HZ.out
            refine ⟨?_, fun e2 => ?_⟩
            · rcases hc6 b e with h | h
              · exact (HCB.out b h).1
              · exact .inr (by omega)
            · have hlb := hc6l b e
              rcases hp7 b e2 with h | h
              · rcases hc6 b e with h3 | h3
                · exact (HCB.out b h3).2 h
                · have := HPLT.out b h; omega
              · omega)
          have HPB7 : Hid (∀ b, (Value.slice pa' (j + 1) pc').ownBlock = some b → b = s0 + 1 ∨ Z ≤ b) := Lib.hid (fun b e => by
            have hz := HZ.out
            rcases hp7 b e with h | h
            · exact HPB.out b h
            · exact .inr (by omega))
          clear hc6 hp7 hc6l HL5 HL6 HL7 HR5 HR7 hLX hgc hgp HO6 HP6 HG6 HG7 HT6 HT7 HC5 HP5 HC HP HL HK HCB HPB
          go_wp2
          go_roundw
          case rel => exact ⟨j + 1, _, by go_num, by omega, HC7, HO7, HLL, HK7, HCB7, HPB7⟩
          case measure => simp [intOf]; omega
        case pos =>
          have e1 : decide (X1.1 < X0.1) = true := decide_eq_true hd
          have HPE : Hid (prt P = P.reverse) := by show _ = _; unfold prt; rw [hX0, hX1, if_pos ⟨by omega, hd⟩]
          clear hX0 hX1
          go_wp2_with fail
          go_quiet (fail)
          have HO4d : Hid ((w4.drewN nq).ownsRow (wr.heap.size + 1) 87 2 (.slice (some ⟨gp, 0, none⟩) b cp) b (flat encR P)) := own_heap HO4.out rfl
          have k1d : (w4.drewN nq).cell? ⟨wr.heap.size, 1, none⟩ = some (.int .i64 (b : Int)) := k1
          have HB4d := Lib.hid (below_drewN HB4.out nq)
          clear HO4 HB4 k0 k1 c1' c2'
          generalize w4.drewN nq = w4d at HO4d k1d HB4d ⊢
          have HRV := Lib.hid (reverseR_any (wr.heap.size + 1) gp cp b P w4d hPl (by omega) (by omega) HO4d.out)
          unfold RevEnd at HRV
          go_wp2_with fail
          refine HRV.out.mono ?_
          rintro e w5 ⟨rfl, ho5, hg5⟩
          have hgl := (HO4d.out.lt gp rfl).1
          have k5 : w5.cell? ⟨wr.heap.size, 1, none⟩ = some (.int .i64 (b : Int)) := hg5.cell k1d (fun e => by injection e with e; have e' : wr.heap.size = gp := e; omega)
          rw [← HPE.out] at ho5
          have HO5 := Lib.hid ho5
          have HB5 := Lib.hid (HB4d.out.grown hg5 HB4d.out.size (fun b e => by injection e with e; subst e; omega))
          clear ho5 hg5 HRV HO4d HB4d k1d hgl
          have hgl := HO5.out.lt gp rfl
          have hs5 := HB5.out.size
          have HC5 := Lib.hid (own_below HC.out (Nat.le_refl _) HB5.out)
          have HP5 := Lib.hid (own_below HP.out (Nat.le_refl _) HB5.out)
          have hcl : ∀ b, (Value.slice ca j cc).ownBlock = some b → b < wr.heap.size := fun b e => (HC.out.lt b e).2
          have hpl2 : ∀ b, (Value.slice pa j pc).ownBlock = some b → b < wr.heap.size := fun b e => (HP.out.lt b e).2
          have HCL := Lib.hid hcl
          have HPLT := Lib.hid hpl2
          clear hcl hpl2
          go_wp2_with (first
            | (at_builtin; refine wpList_app1 (v := .slice ca j cc) slInt rfl _ _ rfl rfl HC5.out [.int .i64 (b : Int)] rfl rfl (by simp) (by simp [Value.oneCell']) (by omega) (Nat.zero_le _) ?_; intro cv' w6 hown6 hg6 ht6; obtain ⟨ca', cc', rfl⟩ := own_slice hown6; have HO6 := Lib.hid hown6; have HG6 := Lib.hid hg6; have HT6 := Lib.hid ht6; have HP6 := Lib.hid (HP5.out.kept hg6 (by cases hq : (Value.slice pa j pc).ownBlock with | none => exact .inl rfl | some bq => exact .inr fun e => (HCB.out bq e.symm).2 hq)); clear hown6 hg6 ht6)
            | (at_builtin; refine wpList_app1 (v := .slice pa j pc) slLsA rfl _ _ rfl rfl HP6.out [.slice (some ⟨gp, 0, none⟩) b cp] rfl rfl (by simp) (by simp [Value.oneCell']) (by omega) (Nat.zero_le _) ?_; intro pv' w7 hown7 hg7 ht7; obtain ⟨pa', pc', rfl⟩ := own_slice hown7; have HO7 := Lib.hid hown7; have HG7 := Lib.hid hg7; have HT7 := Lib.hid ht7; clear hown7 hg7 ht7))
          have hc6 : ∀ b, (Value.slice ca' (j + 1) cc').ownBlock = some b → (Value.slice ca j cc).ownBlock = some b ∨ w5.heap.size ≤ b := fun b e => HT6.out.elim (fun h => .inl (h ▸ e)) (fun h => .inr (by rw [h] at e; injection e with e; omega))
          have hp7 : ∀ b, (Value.slice pa' (j + 1) pc').ownBlock = some b → (Value.slice pa j pc).ownBlock = some b ∨ w6.heap.size ≤ b := fun b e => HT7.out.elim (fun h => .inl (h ▸ e)) (fun h => .inr (by rw [h] at e; injection e with e; omega))
          have hs6 := HG6.out.size
          have hc6l : ∀ b, (Value.slice ca' (j + 1) cc').ownBlock = some b → b < w6.heap.size := fun b e => (HO6.out.lt b e).2
          have hne : ∀ b, (Value.slice ca' (j + 1) cc').ownBlock = some b → (Value.slice pa j pc).ownBlock ≠ some b := fun b hb e => by
            rcases hc6 b hb with h | h
            · exact (HCB.out b h).2 e
            · have := HPLT.out b e; omega
          have HC7 : Hid (w7.ownsRow 0 3 1 (.slice ca' (j + 1) cc') (j + 1) (intV (Ad.sz (pl.take (j + 1))))) := by
            have h9 := HO6.out.kept HG7.out (by cases hq : (Value.slice ca' (j + 1) cc').ownBlock with | none => exact .inl rfl | some bq => exact .inr fun e => hne bq hq e.symm)
            rw [HP1.out, Ad.sz_snoc, prt_len, hPl]
            unfold intV at h9 ⊢
            rw [List.map_append]; exact h9
          have HL5 := HX.rows HL.out (show wr.grownBy w5 none from grown_of_below HB5.out) (fun b e => by cases e) (fun b e => .inl e) (fun b e => .inl e)
          have HL6 := HX.rows HL5 HG6.out (fun b e => .inl e) hc6 (fun b e => .inl e)
          have HL7 := HX.rows (cv' := .slice ca' (j + 1) cc') (pv' := .slice pa' (j + 1) pc') HL6 HG7.out (fun b e => .inr e) (fun b e => .inl e) hp7
          have hgc : (Value.slice ca j cc).ownBlock ≠ some gp := fun e => by have := HCL.out gp e; omega
          have hgp : (Value.slice pa j pc).ownBlock ≠ some gp := fun e => by have := HPLT.out gp e; omega
          have HR5 : Rd w5 (some ⟨gp, 0, none⟩) b cp (prt P) := rd_own HO5.out
          have HR7 := (HR5.grownA HG6.out (fun b off e e2 => by injection e with e; injection e with e; subst e; exact hgc e2)).grownA HG7.out (fun b off e e2 => by injection e with e; injection e with e; subst e; exact hgp e2)
          have hszr := HK.out.size
          have hLX : LX w7 (XP Z (.slice ca' (j + 1) cc') (.slice pa' (j + 1) pc')) (.slice (some ⟨gp, 0, none⟩) b cp) (prt P) := by
            refine ⟨some ⟨gp, 0, none⟩, cp, by rw [prt_len, hPl], by rw [prt_len, hPl]; exact HR7, fun b' off e => ?_⟩
            injection e with e
            injection e with e
            subst e
            have hz := HZ.out
            have hs7 := HG7.out.size
            exact ⟨⟨by omega, fun e2 => by rcases hc6 _ e2 with h | h; exact hgc h; omega, fun e2 => by rcases hp7 _ e2 with h | h; exact hgp h; omega⟩, by omega⟩
          have HLL : Hid (HX w7 (XP Z (.slice ca' (j + 1) cc') (.slice pa' (j + 1) pc')) (hs ++ [.slice (some ⟨gp, 0, none⟩) b cp]) (pl.take (j + 1))) := by
            rw [HP1.out]; exact HL7.snoc hLX
          have HK7 : Hid (KeepA A w2 w7) := Lib.hid (((HK.out.trans (keep_below HB5.out)).trans (keep_grown HG6.out (fun b e hb => by
            rw [HAD.out] at hb
            rcases (HCB.out b e).1 with h | h
            · exact hb.2.1 h
            · have := hb.1; omega))).trans (keep_grown HG7.out (fun b e hb => by
            rw [HAD.out] at hb
            rcases HPB.out b e with h | h
            · exact hb.2.2 h
            · have := hb.1; omega)))
          have HCB7 : Hid (∀ b, (Value.slice ca' (j + 1) cc').ownBlock = some b → (b = s0 ∨ Z ≤ b) ∧ (Value.slice pa' (j + 1) pc').ownBlock ≠ some b) := Lib.hid (fun b e => by
            have hz := HZ.out
            refine ⟨?_, fun e2 => ?_⟩
            · rcases hc6 b e with h | h
              · exact (HCB.out b h).1
              · exact .inr (by omega)
            · have hlb := hc6l b e
              rcases hp7 b e2 with h | h
              · rcases hc6 b e with h3 | h3
                · exact (HCB.out b h3).2 h
                · have := HPLT.out b h; omega
              · omega)
          have HPB7 : Hid (∀ b, (Value.slice pa' (j + 1) pc').ownBlock = some b → b = s0 + 1 ∨ Z ≤ b) := Lib.hid (fun b e => by
            have hz := HZ.out
            rcases hp7 b e with h | h
            · exact HPB.out b h
            · exact .inr (by omega))
          clear hc6 hp7 hc6l HL5 HL6 HL7 HR5 HR7 hLX hgc hgp HO6 HP6 HG6 HG7 HT6 HT7 HC5 HP5 HC HP HL HK HCB HPB
          go_wp2
          go_roundw
          case rel => exact ⟨j + 1, _, by go_num, by omega, HC7, HO7, HLL, HK7, HCB7, HPB7⟩
          case measure => simp [intOf]; omega

end Go.Proofs.YtbgmbanebmlghaaGreatDoor

