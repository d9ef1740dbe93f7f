/- Several texts in one: lemmas and walks of the functions that the law reaches. -/
import Derived.Test.YtcncjedhpnaoaaaY22
import Derived.Test.YtcncjedhpnaoaaaY23

namespace Go.Proofs.Ytcncjedhpnaoaaa
open Go.RowKit Go.Sort
set_option linter.unusedVariables false

theorem OrdAt.congr {w : World} {B g : Nat} {x y : EN} (h : OrdAt w B g x) (e1 : y.2 = x.2) (e2 : y.1.o = x.1.o) : OrdAt w B g y := by
  obtain ⟨a, c, h1, h2, h3, h4, h5⟩ := h
  exact ⟨a, c, by rw [e1, e2]; exact h1, by rw [e2]; exact h2, h3, by rw [e2]; exact h4, h5⟩
/-- No order of the tree lies in this block. -/
def FarX (xs : List EN) (X : Nat) : Prop := ∀ x ∈ xs, ∀ (k off n c : Nat), x.2 = .slice (some ⟨k, off, none⟩) n c → k ≠ X
theorem OrdAt.setX {w w' : World} {B g X : Nat} {x : EN} (h : OrdAt w B g x) (hx : ∀ (k off n c : Nat), x.2 = .slice (some ⟨k, off, none⟩) n c → k ≠ X) (hg : w.grownBy w' (some X)) : OrdAt w' B g x := by
  obtain ⟨a, c, h1, h2, h3, h4, h5⟩ := h
  exact ⟨a, c, h1, h2.grown hg (fun b off e e2 => by injection e2 with e2; subst e; exact hx b off _ _ h1 e2.symm), h3, h4, fun k off e => ⟨Nat.lt_of_lt_of_le (h5 k off e).1 hg.size, (h5 k off e).2⟩⟩
theorem TreeR.setX {w w' : World} {B g c X : Nat} {xs : List EN} (h : TreeR w B g c xs) (hgX : g ≠ X) (hx : FarX xs X) (hg : w.grownBy w' (some X)) : TreeR w' B g c xs :=
  ⟨own_other h.row hg (fun k hk e => by injection e with e; injection hk with hk; exact hgX (hk.trans e.symm)), fun x hm => (h.ord x hm).setX (hx x hm) hg⟩
theorem TreeR.far {w : World} {B g c : Nat} {xs : List EN} (h : TreeR w B g c xs) : g ≠ w.heap.size ∧ FarX xs w.heap.size := by
  have := (h.row.lt g rfl).2
  refine ⟨by omega, fun x hx k off n c' e => ?_⟩
  obtain ⟨a, c2, h1, _, _, _, h5⟩ := h.ord x hx
  rw [e] at h1
  injection h1 with h1
  have := (h5 k off h1.symm).1
  omega

/-- A node that stands by itself. -/
structure XR (w : World) (X : Nat) (a b l g : Int) (v : Value) : Prop where
  row : w.heap[X]? = some (.cells #[.int .i64 a, .int .i64 b, .int .i64 l, .int .i64 g, v] 55 (0, 0))
theorem XR.cs {w : World} {X : Nat} {a b l g : Int} {v : Value} (h : XR w X a b l g v) : w.cell? ⟨X, 0, none⟩ = some (.int .i64 a) ∧ w.cell? ⟨X, 1, none⟩ = some (.int .i64 b) ∧ w.cell? ⟨X, 2, none⟩ = some (.int .i64 l) ∧ w.cell? ⟨X, 3, none⟩ = some (.int .i64 g) ∧ w.cell? ⟨X, 4, none⟩ = some v :=
  ⟨row_cell h.row 0, row_cell h.row 1, row_cell h.row 2, row_cell h.row 3, row_cell h.row 4⟩
theorem XR.fr {w : World} {X : Nat} {a b l g : Int} {v : Value} (h : XR w X a b l g v) (o : Nat) : w.frozen? ⟨X, o, none⟩ = false := by
  simp [World.frozen?, h.row]
theorem XR.grown {w w' : World} {X r : Nat} {a b l g : Int} {v : Value} (h : XR w X a b l g v) (hg : w.grownBy w' (some r)) (hne : r ≠ X) : XR w' X a b l g v :=
  ⟨block_row h.row hg (fun e => hne (by injection e))⟩
theorem XR.set0 {w : World} {X : Nat} {a b l g : Int} {v : Value} (h : XR w X a b l g v) (u : Int) : XR (w.setCell ⟨X, 0, none⟩ (.int .i64 u)) X u b l g v := ⟨heap_setCell_same w X 0 _ _ _ h.row⟩
theorem XR.set1 {w : World} {X : Nat} {a b l g : Int} {v : Value} (h : XR w X a b l g v) (u : Int) : XR (w.setCell ⟨X, 1, none⟩ (.int .i64 u)) X a u l g v := ⟨heap_setCell_same w X 1 _ _ _ h.row⟩
theorem XR.set2 {w : World} {X : Nat} {a b l g : Int} {v : Value} (h : XR w X a b l g v) (u : Int) : XR (w.setCell ⟨X, 2, none⟩ (.int .i64 u)) X a b u g v := ⟨heap_setCell_same w X 2 _ _ _ h.row⟩
theorem XR.set3 {w : World} {X : Nat} {a b l g : Int} {v : Value} (h : XR w X a b l g v) (u : Int) : XR (w.setCell ⟨X, 3, none⟩ (.int .i64 u)) X a b l u v := ⟨heap_setCell_same w X 3 _ _ _ h.row⟩
theorem XR.set4 {w : World} {X : Nat} {a b l g : Int} {v : Value} (h : XR w X a b l g v) (u : Value) : XR (w.setCell ⟨X, 4, none⟩ u) X a b l g u := ⟨heap_setCell_same w X 4 _ _ _ h.row⟩

theorem Drawn.setcN {w0 w : World} {bc : Nat} {ac : Option Addr} {zs : List Int} {M : Int} (h : Drawn w0 w bc ac zs M) {g j : Nat} (u : Value) (hp : w0.heap.size ≤ g) : Drawn w0 (w.setCell ⟨g, j, none⟩ u) bc ac zs M := by
  have hg := setcell_grown w g j u
  refine ⟨h.cur.app hg (fun e => by have := h.old.1; injection e with e; omega) (fun h0 b off e e2 => by have := h.old.2 h0 b off e; injection e2 with e2; omega), ?_, h.old⟩
  exact ⟨hg.os.trans h.grown.os, hg.tape.trans h.grown.tape, hg.output.trans h.grown.output, Nat.le_trans h.grown.size hg.size, fun k hk hne => (hg.block k (Nat.lt_of_lt_of_le hk h.grown.size) (fun e => by injection e with e; omega)).trans (h.grown.block k hk hne)⟩
/-- What a draw of a decision tree ends in. -/
def DecE (w : World) (bc : Nat) (ac : Option Addr) (cs : List Int) (M : Int) (e : Ending) (w' : World) : Prop :=
  ∃ (g m c nn : Nat) (xs : List EN), e = .returned (.tuple #[.slice (some ⟨g, 0, none⟩) m c, .int .i64 nn]) ∧ m = xs.length ∧ nn ≤ 7 ∧ TreeR w' w.heap.size g c xs ∧ Dt.DrawnT (xs.map (·.1)) ∧ Drawn w w' bc ac cs M
theorem DecE.mk {w w' : World} {bc : Nat} {ac : Option Addr} {cs : List Int} {M : Int} {g m c nn : Nat} {xs : List EN} (hm : m = xs.length) (hn : nn ≤ 7) (hT : TreeR w' w.heap.size g c xs) (hd : Dt.DrawnT (xs.map (·.1))) (hD : Drawn w w' bc ac cs M) :
    DecE w bc ac cs M (.returned (.tuple #[.slice (some ⟨g, 0, none⟩) m c, .int .i64 nn])) w' := ⟨g, m, c, nn, xs, rfl, hm, hn, hT, hd, hD⟩
/-- A tree with one node changed, behind the last store. -/
theorem DecE.one {w w1 w' : World} {bc : Nat} {ac : Option Addr} {cs : List Int} {M : Int} {g m c nn n i : Nat} {b : Bool} {xs : List EN} {E' : EN} (h1 : 1 ≤ n) (h5 : n ≤ 5) (hm : m = xs.length) (hn : nn ≤ 7) (hi : i < m) (he : xs.map (·.1) = Dt.itree n b) (hT : TreeR w1 w.heap.size g c xs) (hO : OrdAt w1 w.heap.size g E')
    (hd : Dt.One n ((xs.map (·.1)).getD i Dt.nd0) E'.1) (ho : w'.ownsRow w.heap.size 55 5 (.slice (some ⟨g, 0, none⟩) m c) m ((flat encN xs).take (i * 5) ++ encN E' ++ (flat encN xs).drop (i * 5 + 5))) (hg : w1.grownBy w' (some g)) (hD : Drawn w w1 bc ac cs M) :
    DecE w bc ac cs M (.returned (.tuple #[.slice (some ⟨g, 0, none⟩) m c, .int .i64 nn])) w' := by
  subst hm
  refine DecE.mk (xs := xs.set i E') (by rw [List.length_set]) hn (hT.put hi hO ho hg) ?_ (hD.app hT.row (Nat.le_refl _) hg)
  rw [List.map_set, he]
  rw [he] at hd
  exact Dt.DrawnT.one h1 h5 (by rw [← he, List.length_map]; exact hi) hd

set_option maxRecDepth 100000 in
set_option maxHeartbeats 8000000 in
theorem decisions_any (bc : Nat) (ac : Option Addr) (cs : List Int) (M : Int) (w : World) (hM : M ≤ 1099511400000) (h : Cur w bc ac cs M) (hold : cs ≠ [] → ∀ b off, ac = some ⟨b, off, none⟩ → b < w.heap.size) :
    Calls Try.prog 14 #[.pointer (some ⟨bc, 0, none⟩)] w (DecE w bc ac cs (M + 30)) := by
  have D0 : Hid (Drawn w w bc ac cs M) := ⟨h, grown_refl _ _, h.lt, hold⟩
  have hbc := h.lt
  clear h hold
  go_enter Try.func14, Try.ntmps14
  go_wp2_with fail
  refine (pick_any bc ac cs M 4 w (by omega) (by omega) D0.out.cur).mono ?_
  rintro e w1 ⟨⟨r, rfl, hr0, hr1⟩, hc, hg⟩
  have D1 := Lib.hid (D0.out.step hc hg)
  obtain ⟨q, rfl⟩ := Int.eq_ofNat_of_zero_le hr0
  have hq : q ≤ 3 := by omega
  clear hr0 hr1 hc hg D0
  go_wp2_with fail
  refine (one_any bc ac cs _ 24 _ (by omega) (by omega) D1.out.cur).mono ?_
  rintro e w2 ⟨⟨bb, rfl⟩, hc, hg⟩
  have D2 := Lib.hid (D1.out.step hc hg)
  clear hc hg D1
  have hn : ∃ n : Nat, (1 : Int) + (q : Int) = (n : Int) ∧ n ≤ 6 := ⟨1 + q, by omega, by omega⟩
  cases bb
  case' false =>
    obtain ⟨n, hn1, hn6⟩ := hn
    have D3 := Lib.hid (D2.out.mono (M' := M + 6) (by omega))
    clear D2
    go_wp2_with fail
    generalize w2 = w3 at D3 ⊢
  case' true =>
    clear hn
    have hba := (Below.refl w2.heap.size w2).alloc (Nat.le_refl _) (Obj.cells #[.int .i64 0, .int .i64 5, .int .i64 6] 3)
    have D2b := Lib.hid (D2.out.below hba)
    clear hba
    go_wp2_with fail
    refine (among_any bc ac cs _ _ 3 [0, 5, 6] _ ?h4 (by decide) (by decide) D2b.out.cur (lit_ints w2 [0, 5, 6] (by decide)) ?h5).mono ?_
    case h4 => omega
    case h5 => intro b off e; injection e with e; injection e with e _ _; have := D2.out.cur.lt; omega
    rintro e w3 ⟨⟨r, rfl, hr⟩, hc, hg⟩
    have D3 := Lib.hid ((D2b.out.step hc hg).mono (M' := M + 6) (by omega))
    have hr2 : 0 ≤ r ∧ r ≤ 6 := by simp at hr; omega
    obtain ⟨n, rfl⟩ := Int.eq_ofNat_of_zero_le hr2.1
    have hn6 : n ≤ 6 := by omega
    clear hr hr2 hc hg D2 D2b
    go_wp2_with fail
  all_goals
    refine (one_any bc ac cs _ 2 _ (by omega) (by omega) D3.out.cur).mono ?_
    rintro e w4 ⟨⟨b2, rfl⟩, hc, hg⟩
    have D4 := Lib.hid (D3.out.step hc hg)
    clear hc hg D3
    go_wp2_with fail
    refine (insertionTree_any n b2 w4).mono ?_
    rintro e w5 ⟨g, m, c, xs, rfl, hm, hT, he, hb⟩
    have D5 := Lib.hid (D4.out.below hb)
    have hsz := D4.out.grown.size
    have T5 := Lib.hid (hT.mono hsz)
    have HE := Lib.hid he; have HM := Lib.hid hm
    clear hT hb he hm D4
    by_cases hn : 1 ≤ n ∧ n ≤ 5
    case neg =>
      have hx : xs = [] := by
        have := HE.out
        rw [if_neg hn] at this
        exact List.map_eq_nil_iff.1 this
      have hm : m = 0 := by rw [HM.out, hx]; rfl
      subst hm
      have HN : Hid (DecE w bc ac cs (M + 30) (.returned (.tuple #[.slice (some ⟨g, 0, none⟩) 0 c, .int .i64 n])) w5) := DecE.mk HM.out (by omega) T5.out (by rw [hx]; exact .none) (D5.out.mono (by omega))
      clear hx HE HM T5 D5 hn
      go_wp2
      go_ret2
      exact HN.out
    obtain ⟨hn1, hn5⟩ := hn
    have HE2 : Hid (xs.map (·.1) = Dt.itree n b2) := by have := HE.out; rwa [if_pos ⟨hn1, hn5⟩] at this
    have hml : m = (Dt.itree n b2).length := by rw [HM.out, ← HE2.out, List.length_map]
    have hmb := itree_len hn1 hn5 b2
    rw [← hml] at hmb
    obtain ⟨hm255, hm1⟩ := hmb
    have hm0 : ¬ m = 0 := by omega
    have hm2 : ¬ (m : Int) = 0 := by omega
    clear hml HE
    go_wp2_with fail
    refine (pick_any bc ac cs _ (m : Int) _ (by omega) (by omega) D5.out.cur).mono ?_
    rintro e w6 ⟨⟨r, rfl, hr0, hr1⟩, hc, hg⟩
    have D6 := Lib.hid (D5.out.step hc hg)
    have T6 := Lib.hid (T5.out.cur D5.out (Nat.le_refl _) hg)
    obtain ⟨i, rfl⟩ := Int.eq_ofNat_of_zero_le hr0
    have him : i < m := by omega
    clear hr0 hr1 hc hg D5 T5
    have hxi : xs[i]? = some (xs[i]'(by rw [← HM.out]; exact him)) := List.getElem?_eq_getElem _
    obtain ⟨E, hE⟩ : ∃ E, xs[i]'(by rw [← HM.out]; exact him) = E := ⟨_, rfl⟩
    rw [hE] at hxi
    obtain ⟨⟨a, b, l, gr, o⟩, v⟩ := E
    obtain ⟨c0, c1, c2, c3, c4⟩ := T6.out.cells hxi
    have hmem : ((a, b, l, gr, o), v) ∈ xs := List.mem_of_getElem? hxi
    have OE := Lib.hid (T6.out.ord _ hmem)
    obtain ⟨va, vc, hv, hvi, _, hv1000, _⟩ := OE.out
    dsimp only [Dt.Nd.a, Dt.Nd.b, Dt.Nd.l, Dt.Nd.g, Dt.Nd.o] at c0 c1 c2 c3 c4 hv hv1000
    subst hv
    have HG : Hid ((xs.map (·.1)).getD i Dt.nd0 = (a, b, l, gr, o)) := by show _ = _; rw [List.getD_eq_getElem?_getD, List.getElem?_map, hxi]; rfl
    have FX := T6.out.far
    have HFX := Lib.hid FX.2
    have hgX := FX.1
    have hbX : bc ≠ w6.heap.size := by have := D6.out.cur.lt; omega
    have hwX : w.heap.size ≤ w6.heap.size := D6.out.grown.size
    have hba := (Below.refl w6.heap.size w6).alloc (Nat.le_refl _) (Obj.cells #[.int .i64 a, .int .i64 b, .int .i64 l, .int .i64 gr, .slice va o.length vc] 55)
    have D7 := Lib.hid (D6.out.below hba)
    have T7 := Lib.hid (T6.out.below hba)
    have O7 := Lib.hid (OE.out.below hba)
    have X7 : Hid (XR (w6.alloc (Obj.cells #[.int .i64 a, .int .i64 b, .int .i64 l, .int .i64 gr, .slice va o.length vc] 55)) w6.heap.size a b l gr (.slice va o.length vc)) := ⟨block_new w6 _⟩
    have XF := Lib.hid (HFX.out _ hmem)
    have hs7 : w6.heap.size < (w6.alloc (Obj.cells #[.int .i64 a, .int .i64 b, .int .i64 l, .int .i64 gr, .slice va o.length vc] 55)).heap.size := by simp
    have b1 : (i : Int) < (m : Int) := by omega
    have b2' : (0 : Int) ≤ (i : Int) := by omega
    clear FX hba hxi hE hmem hvi D6 T6 OE
    go_wp2_with fail
    clear c0 c1 c2 c3 c4
    generalize w6.alloc (Obj.cells #[.int .i64 a, .int .i64 b, .int .i64 l, .int .i64 gr, .slice va o.length vc] 55) = w7 at D7 T7 O7 X7 hs7 ⊢
    generalize w6.heap.size = X at hgX hbX hwX HFX X7 XF hs7 ⊢
    refine (pick_any bc ac cs _ 14 _ (by omega) (by omega) D7.out.cur).mono ?_
    rintro e w8 ⟨⟨r, rfl, hr0, hr1⟩, hc, hg⟩
    have D8 := Lib.hid ((D7.out.step hc hg).mono (M' := M + 14) (by omega))
    have T8 := Lib.hid (T7.out.cur D7.out (Nat.le_refl _) hg)
    have X8 := Lib.hid (X7.out.grown hg hbX)
    have O8 : Hid (OrdAt w8 w.heap.size g ((a, b, l, gr, o), .slice va o.length vc)) := by
      obtain ⟨a1, c1, h1, h2, h3, h4, h5⟩ := O7.out
      exact ⟨a1, c1, h1, h2.grown hg (fun b off e e2 => by injection e2 with e2; have := h5 b off e; have := D7.out.old.1; omega), h3, h4, fun k off e => ⟨Nat.lt_of_lt_of_le (h5 k off e).1 hg.size, (h5 k off e).2⟩⟩
    have hs8 : X < w8.heap.size := Nat.lt_of_lt_of_le hs7 hg.size
    clear hc hg D7 T7 O7 X7 hs7
    have hrr : r = 0 ∨ r = 1 ∨ r = 2 ∨ r = 3 ∨ r = 4 ∨ r = 5 ∨ r = 6 ∨ 7 ≤ r := by omega
    rcases hrr with hr | hr | hr | hr | hr | hr | hr | hr
    · subst hr
      go_wp2_with fail
      refine (pick_any bc ac cs _ ((n : Int) + 2) _ (by omega) (by omega) D8.out.cur).mono ?_
      rintro e w9 ⟨⟨r9, rfl, hr0, hr1⟩, hc, hg⟩
      have D9 := Lib.hid ((D8.out.step hc hg).mono (M' := M + 20) (by omega))
      have T9 := Lib.hid (T8.out.cur D8.out (Nat.le_refl _) hg)
      have X9 := Lib.hid (X8.out.grown hg hbX)
      have O9 : Hid (OrdAt w9 w.heap.size g ((a, b, l, gr, o), .slice va o.length vc)) := by
        obtain ⟨a1, c1, h1, h2, h3, h4, h5⟩ := O8.out
        exact ⟨a1, c1, h1, h2.grown hg (fun b off e e2 => by injection e2 with e2; have := h5 b off e; have := D8.out.old.1; omega), h3, h4, fun k off e => ⟨Nat.lt_of_lt_of_le (h5 k off e).1 hg.size, (h5 k off e).2⟩⟩
      clear hc hg D8 T8 O8 X8
      have hw9 : IntKind.i64.wrap (r9 - 1) = r9 - 1 := by simp [IntKind.wrap, IntKind.bits, IntKind.signed]; omega
      obtain ⟨d0, d1, d2, d3, d4⟩ := X9.out.cs
      have dfr := X9.out.fr
      have X10 := Lib.hid (X9.out.set0 (r9 - 1))
      have hgs := setcell_grown w9 X 0 (.int .i64 (r9 - 1))
      have D10 := Lib.hid (D9.out.setcN (j := 0) (.int .i64 (r9 - 1)) hwX)
      have T10 := Lib.hid (T9.out.setX hgX HFX.out hgs)
      have O10 := Lib.hid (O9.out.setX XF.out hgs)
      clear hgs
      obtain ⟨e0, e1, e2, e3, e4⟩ := X10.out.cs
      obtain ⟨e0, e1, e2, e3, e4⟩ := X10.out.cs
      have HRW : Hid (_) := T10.out.row
      rw [← HM.out] at HRW
      go_wp2_with (refine wpList_put slNd rfl (.tmp 104) (.tmp 103) rfl i rfl [.int .i64 (r9 - 1), .int .i64 b, .int .i64 l, .int .i64 gr, .slice va o.length vc] rfl rfl (by simp [Value.oneCell']) HRW.out him ?_; intro w20 ho20 hg20; have HO20 := Lib.hid ho20; have HG20 := Lib.hid hg20; clear ho20 hg20)
      have HN : Hid (DecE w bc ac cs (M + 30) (.returned (.tuple #[.slice (some ⟨g, 0, none⟩) m c, .int .i64 n])) w20) := DecE.one (E' := (((r9 - 1), b, l, gr, o), .slice va o.length vc)) hn1 hn5 HM.out (by omega) him HE2.out T10.out (O10.out.congr rfl rfl) (by rw [HG.out]; exact .a (r9 - 1)) HO20.out HG20.out (D10.out.mono (by omega))
      clear HO20 HG20 HRW T10 O10 X10 D10 HE2
      go_wp2
      go_ret2
      exact HN.out
    · subst hr
      go_wp2_with fail
      refine (pick_any bc ac cs _ ((n : Int) + 2) _ (by omega) (by omega) D8.out.cur).mono ?_
      rintro e w9 ⟨⟨r9, rfl, hr0, hr1⟩, hc, hg⟩
      have D9 := Lib.hid ((D8.out.step hc hg).mono (M' := M + 20) (by omega))
      have T9 := Lib.hid (T8.out.cur D8.out (Nat.le_refl _) hg)
      have X9 := Lib.hid (X8.out.grown hg hbX)
      have O9 : Hid (OrdAt w9 w.heap.size g ((a, b, l, gr, o), .slice va o.length vc)) := by
        obtain ⟨a1, c1, h1, h2, h3, h4, h5⟩ := O8.out
        exact ⟨a1, c1, h1, h2.grown hg (fun b off e e2 => by injection e2 with e2; have := h5 b off e; have := D8.out.old.1; omega), h3, h4, fun k off e => ⟨Nat.lt_of_lt_of_le (h5 k off e).1 hg.size, (h5 k off e).2⟩⟩
      clear hc hg D8 T8 O8 X8
      have hw9 : IntKind.i64.wrap (r9 - 1) = r9 - 1 := by simp [IntKind.wrap, IntKind.bits, IntKind.signed]; omega
      obtain ⟨d0, d1, d2, d3, d4⟩ := X9.out.cs
      have dfr := X9.out.fr
      have X10 := Lib.hid (X9.out.set1 (r9 - 1))
      have hgs := setcell_grown w9 X 1 (.int .i64 (r9 - 1))
      have D10 := Lib.hid (D9.out.setcN (j := 1) (.int .i64 (r9 - 1)) hwX)
      have T10 := Lib.hid (T9.out.setX hgX HFX.out hgs)
      have O10 := Lib.hid (O9.out.setX XF.out hgs)
      clear hgs
      obtain ⟨e0, e1, e2, e3, e4⟩ := X10.out.cs
      have HRW : Hid (_) := T10.out.row
      rw [← HM.out] at HRW
      go_wp2_with (refine wpList_put slNd rfl (.tmp 104) (.tmp 103) rfl i rfl [.int .i64 a, .int .i64 (r9 - 1), .int .i64 l, .int .i64 gr, .slice va o.length vc] rfl rfl (by simp [Value.oneCell']) HRW.out him ?_; intro w20 ho20 hg20; have HO20 := Lib.hid ho20; have HG20 := Lib.hid hg20; clear ho20 hg20)
      have HN : Hid (DecE w bc ac cs (M + 30) (.returned (.tuple #[.slice (some ⟨g, 0, none⟩) m c, .int .i64 n])) w20) := DecE.one (E' := ((a, (r9 - 1), l, gr, o), .slice va o.length vc)) hn1 hn5 HM.out (by omega) him HE2.out T10.out (O10.out.congr rfl rfl) (by rw [HG.out]; exact .b (r9 - 1)) HO20.out HG20.out (D10.out.mono (by omega))
      clear HO20 HG20 HRW T10 O10 X10 D10 HE2
      go_wp2
      go_ret2
      exact HN.out
    · subst hr
      by_cases ho : o.length = 0
      case neg =>
        obtain ⟨d0, d1, d2, d3, d4⟩ := X8.out.cs
        have dfr := X8.out.fr
        obtain ⟨e0, e1, e2, e3, e4⟩ := X8.out.cs
        have HRW : Hid (_) := T8.out.row
        rw [← HM.out] at HRW
        go_wp2_with (refine wpList_put slNd rfl (.tmp 104) (.tmp 103) rfl i rfl [.int .i64 a, .int .i64 b, .int .i64 l, .int .i64 gr, .slice va o.length vc] rfl rfl (by simp [Value.oneCell']) HRW.out him ?_; intro w20 ho20 hg20; have HO20 := Lib.hid ho20; have HG20 := Lib.hid hg20; clear ho20 hg20)
        have HN : Hid (DecE w bc ac cs (M + 30) (.returned (.tuple #[.slice (some ⟨g, 0, none⟩) m c, .int .i64 n])) w20) := DecE.one (E' := ((a, b, l, gr, o), .slice va o.length vc)) hn1 hn5 HM.out (by omega) him HE2.out T8.out (O8.out.congr rfl rfl) (by rw [HG.out]; exact .a a) HO20.out HG20.out (D8.out.mono (by omega))
        clear HO20 HG20 HRW T8 O8 X8 D8 HE2
        go_wp2
        go_ret2
        exact HN.out
      rw [ho] at X8 O8 XF
      have HHO := Lib.hid ho
      clear ho
      obtain ⟨d0, d1, d2, d3, d4⟩ := X8.out.cs
      have dfr := X8.out.fr
      have X9 := Lib.hid (X8.out.set2 gr)
      have hgs := setcell_grown w8 X 2 (.int .i64 gr)
      have D9 := Lib.hid (D8.out.setcN (j := 2) (.int .i64 gr) hwX)
      have T9 := Lib.hid (T8.out.setX hgX HFX.out hgs)
      have O9 := Lib.hid (O8.out.setX XF.out hgs)
      clear hgs
      obtain ⟨f0, f1, f2, f3, f4⟩ := X9.out.cs
      have ffr := X9.out.fr
      have X10 := Lib.hid (X9.out.set3 l)
      have hgs := setcell_grown (w8.setCell ⟨X, 2, none⟩ (.int .i64 gr)) X 3 (.int .i64 l)
      have D10 := Lib.hid (D9.out.setcN (j := 3) (.int .i64 l) hwX)
      have T10 := Lib.hid (T9.out.setX hgX HFX.out hgs)
      have O10 := Lib.hid (O9.out.setX XF.out hgs)
      clear hgs
      obtain ⟨e0, e1, e2, e3, e4⟩ := X10.out.cs
      have HRW : Hid (_) := T10.out.row
      rw [← HM.out] at HRW
      go_wp2_with (refine wpList_put slNd rfl (.tmp 104) (.tmp 103) rfl i rfl [.int .i64 a, .int .i64 b, .int .i64 gr, .int .i64 l, .slice va 0 vc] rfl rfl (by simp [Value.oneCell']) HRW.out him ?_; intro w20 ho20 hg20; have HO20 := Lib.hid ho20; have HG20 := Lib.hid hg20; clear ho20 hg20)
      have HN : Hid (DecE w bc ac cs (M + 30) (.returned (.tuple #[.slice (some ⟨g, 0, none⟩) m c, .int .i64 n])) w20) := DecE.one (E' := ((a, b, gr, l, o), .slice va 0 vc)) hn1 hn5 HM.out (by omega) him HE2.out T10.out (O10.out.congr rfl rfl) (by rw [HG.out]; exact .s HHO.out) HO20.out HG20.out (D10.out.mono (by omega))
      clear HO20 HG20 HRW T10 O10 X10 D10 HE2
      go_wp2
      go_ret2
      exact HN.out
    · subst hr
      by_cases ho : 0 < o.length
      case neg =>
        obtain ⟨d0, d1, d2, d3, d4⟩ := X8.out.cs
        have dfr := X8.out.fr
        obtain ⟨e0, e1, e2, e3, e4⟩ := X8.out.cs
        have HRW : Hid (_) := T8.out.row
        rw [← HM.out] at HRW
        go_wp2_with (refine wpList_put slNd rfl (.tmp 104) (.tmp 103) rfl i rfl [.int .i64 a, .int .i64 b, .int .i64 l, .int .i64 gr, .slice va o.length vc] rfl rfl (by simp [Value.oneCell']) HRW.out him ?_; intro w20 ho20 hg20; have HO20 := Lib.hid ho20; have HG20 := Lib.hid hg20; clear ho20 hg20)
        have HN : Hid (DecE w bc ac cs (M + 30) (.returned (.tuple #[.slice (some ⟨g, 0, none⟩) m c, .int .i64 n])) w20) := DecE.one (E' := ((a, b, l, gr, o), .slice va o.length vc)) hn1 hn5 HM.out (by omega) him HE2.out T8.out (O8.out.congr rfl rfl) (by rw [HG.out]; exact .a a) HO20.out HG20.out (D8.out.mono (by omega))
        clear HO20 HG20 HRW T8 O8 X8 D8 HE2
        go_wp2
        go_ret2
        exact HN.out
      obtain ⟨d0, d1, d2, d3, d4⟩ := X8.out.cs
      have dfr := X8.out.fr
      have ho2 : ¬ o.length = 0 := by omega
      go_wp2_with fail
      refine (permutationD_any bc ac cs _ n _ (by omega) (by omega) D8.out.cur (fun h0 b off e => by have := D8.out.old.2 h0 b off e; have := D8.out.grown.size; omega)).mono ?_
      rintro e w9 ⟨a9, c9, p9, hp9, rfl, ho9, hD9⟩
      obtain ⟨g9, rfl, hg9, _⟩ := own_cell ho9 (by omega)
      have hg9b := (ho9.lt g9 rfl).2
      have hgr := hD9.grown
      have hc := hD9.cur
      have hgl := (T8.out.row.lt g rfl).2
      have OP : Hid (OrdAt w9 w.heap.size g ((a, b, l, gr, p9), .slice (some ⟨g9, 0, none⟩) n c9)) := OrdAt.of_own (Nat.le_trans hwX (Nat.le_of_lt hs8)) ho9 hp9 (by omega) (by omega)
      have HP9 := Lib.hid hp9
      have hX9 : g9 ≠ X := by omega
      have D9 : Hid (Drawn w w9 bc ac cs (M + 28)) := Drawn.mono (D8.out.step hc hgr) (by omega)
      have T9 := Lib.hid (T8.out.cur D8.out (Nat.le_refl _) hgr)
      have X9 := Lib.hid (X8.out.grown hgr hbX)
      have hgs := setcell_grown w9 X 4 (.slice (some ⟨g9, 0, none⟩) n c9)
      have X10 := Lib.hid (X9.out.set4 (.slice (some ⟨g9, 0, none⟩) n c9))
      have D10 := Lib.hid (D9.out.setcN (j := 4) (.slice (some ⟨g9, 0, none⟩) n c9) hwX)
      have T10 := Lib.hid (T9.out.setX hgX HFX.out hgs)
      have OP := Lib.hid (OP.out.setX (X := X) (fun k off n' c' e => by injection e with e; injection e with e; injection e with e; omega) hgs)
      clear d0 d1 d2 d3 d4 dfr ho9 hp9 hD9 hgr hc hgs D8 T8 X8 hg9 hg9b
      obtain ⟨d0, d1, d2, d3, d4⟩ := X9.out.cs
      have dfr := X9.out.fr
      have O10 := O8
      obtain ⟨e0, e1, e2, e3, e4⟩ := X10.out.cs
      have HRW : Hid (_) := T10.out.row
      rw [← HM.out] at HRW
      go_wp2_with (refine wpList_put slNd rfl (.tmp 104) (.tmp 103) rfl i rfl [.int .i64 a, .int .i64 b, .int .i64 l, .int .i64 gr, .slice (some ⟨g9, 0, none⟩) n c9] rfl rfl (by simp [Value.oneCell']) HRW.out him ?_; intro w20 ho20 hg20; have HO20 := Lib.hid ho20; have HG20 := Lib.hid hg20; clear ho20 hg20)
      have HN : Hid (DecE w bc ac cs (M + 30) (.returned (.tuple #[.slice (some ⟨g, 0, none⟩) m c, .int .i64 n])) w20) := DecE.one (E' := ((a, b, l, gr, p9), .slice (some ⟨g9, 0, none⟩) n c9)) hn1 hn5 HM.out (by omega) him HE2.out T10.out OP.out (by rw [HG.out]; exact .o ho p9 HP9.out) HO20.out HG20.out (D10.out.mono (by omega))
      clear HO20 HG20 HRW T10 O10 X10 D10 HE2
      go_wp2
      go_ret2
      exact HN.out
    · subst hr
      go_wp2_with fail
      refine (pick_any bc ac cs _ ((m : Int) + 2) _ (by omega) (by omega) D8.out.cur).mono ?_
      rintro e w9 ⟨⟨r9, rfl, hr0, hr1⟩, hc, hg⟩
      have D9 := Lib.hid ((D8.out.step hc hg).mono (M' := M + 20) (by omega))
      have T9 := Lib.hid (T8.out.cur D8.out (Nat.le_refl _) hg)
      have X9 := Lib.hid (X8.out.grown hg hbX)
      have O9 : Hid (OrdAt w9 w.heap.size g ((a, b, l, gr, o), .slice va o.length vc)) := by
        obtain ⟨a1, c1, h1, h2, h3, h4, h5⟩ := O8.out
        exact ⟨a1, c1, h1, h2.grown hg (fun b off e e2 => by injection e2 with e2; have := h5 b off e; have := D8.out.old.1; omega), h3, h4, fun k off e => ⟨Nat.lt_of_lt_of_le (h5 k off e).1 hg.size, (h5 k off e).2⟩⟩
      clear hc hg D8 T8 O8 X8
      have hw9 : IntKind.i64.wrap (r9 - 1) = r9 - 1 := by simp [IntKind.wrap, IntKind.bits, IntKind.signed]; omega
      obtain ⟨d0, d1, d2, d3, d4⟩ := X9.out.cs
      have dfr := X9.out.fr
      have X10 := Lib.hid (X9.out.set2 (r9 - 1))
      have hgs := setcell_grown w9 X 2 (.int .i64 (r9 - 1))
      have D10 := Lib.hid (D9.out.setcN (j := 2) (.int .i64 (r9 - 1)) hwX)
      have T10 := Lib.hid (T9.out.setX hgX HFX.out hgs)
      have O10 := Lib.hid (O9.out.setX XF.out hgs)
      clear hgs
      obtain ⟨e0, e1, e2, e3, e4⟩ := X10.out.cs
      have HRW : Hid (_) := T10.out.row
      rw [← HM.out] at HRW
      go_wp2_with (refine wpList_put slNd rfl (.tmp 104) (.tmp 103) rfl i rfl [.int .i64 a, .int .i64 b, .int .i64 (r9 - 1), .int .i64 gr, .slice va o.length vc] rfl rfl (by simp [Value.oneCell']) HRW.out him ?_; intro w20 ho20 hg20; have HO20 := Lib.hid ho20; have HG20 := Lib.hid hg20; clear ho20 hg20)
      have HN : Hid (DecE w bc ac cs (M + 30) (.returned (.tuple #[.slice (some ⟨g, 0, none⟩) m c, .int .i64 n])) w20) := DecE.one (E' := ((a, b, (r9 - 1), gr, o), .slice va o.length vc)) hn1 hn5 HM.out (by omega) him HE2.out T10.out (O10.out.congr rfl rfl) (by rw [HG.out]; exact .l (r9 - 1)) HO20.out HG20.out (D10.out.mono (by omega))
      clear HO20 HG20 HRW T10 O10 X10 D10 HE2
      go_wp2
      go_ret2
      exact HN.out
    · subst hr
      obtain ⟨m1, rfl⟩ : ∃ k, m = k + 1 := ⟨m - 1, by omega⟩
      have hcc := (own_cap' T8.out.row).1
      rw [← HM.out] at hcc
      have f1 : (m1 : Int) ≤ (c : Int) := by omega
      have f2 : (0 : Int) ≤ (m1 : Int) := by omega
      have hw9 : IntKind.i64.wrap (m1 : Int) = (m1 : Int) := by simp [IntKind.wrap, IntKind.bits, IntKind.signed]; omega
      have HN : Hid (DecE w bc ac cs (M + 30) (.returned (.tuple #[.slice (some ⟨g, 0, none⟩) m1 c, .int .i64 n])) w8) := by
        have hlx : (xs.take m1).length = m1 := by have := HM.out; simp; omega
        refine DecE.mk hlx.symm (by omega) (T8.out.cut (by have := HM.out; omega)) ?_ (D8.out.mono (by omega))
        rw [List.map_take, HE2.out]
        have : m1 = (Dt.itree n b2).length - 1 := by rw [← HE2.out, List.length_map, ← HM.out]; rfl
        rw [this]
        exact .cut hn1 hn5
      clear T8 O8 X8 D8 HE2 HM
      go_wp2
      go_ret2
      exact HN.out
    · subst hr
      obtain ⟨d0, d1, d2, d3, d4⟩ := X8.out.cs
      have dfr := X8.out.fr
      obtain ⟨e0, e1, e2, e3, e4⟩ := X8.out.cs
      have HRW : Hid (_) := T8.out.row
      rw [← HM.out] at HRW
      go_wp2_with (refine wpList_put slNd rfl (.tmp 104) (.tmp 103) rfl i rfl [.int .i64 a, .int .i64 b, .int .i64 l, .int .i64 gr, .slice va o.length vc] rfl rfl (by simp [Value.oneCell']) HRW.out him ?_; intro w20 ho20 hg20; have HO20 := Lib.hid ho20; have HG20 := Lib.hid hg20; clear ho20 hg20)
      have HN : Hid (DecE w bc ac cs (M + 30) (.returned (.tuple #[.slice (some ⟨g, 0, none⟩) m c, .int .i64 ((n : Int) + 1)])) w20) := DecE.one (nn := n + 1) (E' := ((a, b, l, gr, o), .slice va o.length vc)) hn1 hn5 HM.out (by omega) him HE2.out T8.out (O8.out.congr rfl rfl) (by rw [HG.out]; exact .a a) HO20.out HG20.out (D8.out.mono (by omega))
      clear HO20 HG20 HRW T8 O8 X8 D8 HE2
      go_wp2
      go_ret2
      exact HN.out
    · have k0 : ¬ r = 0 := by omega
      have k1 : ¬ r = 1 := by omega
      have k2 : ¬ r = 2 := by omega
      have k3 : ¬ r = 3 := by omega
      have k4 : ¬ r = 4 := by omega
      have k5 : ¬ r = 5 := by omega
      have k6 : ¬ r = 6 := by omega
      obtain ⟨d0, d1, d2, d3, d4⟩ := X8.out.cs
      have dfr := X8.out.fr
      obtain ⟨e0, e1, e2, e3, e4⟩ := X8.out.cs
      have HRW : Hid (_) := T8.out.row
      rw [← HM.out] at HRW
      go_wp2_with (refine wpList_put slNd rfl (.tmp 104) (.tmp 103) rfl i rfl [.int .i64 a, .int .i64 b, .int .i64 l, .int .i64 gr, .slice va o.length vc] rfl rfl (by simp [Value.oneCell']) HRW.out him ?_; intro w20 ho20 hg20; have HO20 := Lib.hid ho20; have HG20 := Lib.hid hg20; clear ho20 hg20)
      have HN : Hid (DecE w bc ac cs (M + 30) (.returned (.tuple #[.slice (some ⟨g, 0, none⟩) m c, .int .i64 n])) w20) := DecE.one (E' := ((a, b, l, gr, o), .slice va o.length vc)) hn1 hn5 HM.out (by omega) him HE2.out T8.out (O8.out.congr rfl rfl) (by rw [HG.out]; exact .a a) HO20.out HG20.out (D8.out.mono (by omega))
      clear HO20 HG20 HRW T8 O8 X8 D8 HE2
      go_wp2
      go_ret2
      exact HN.out
end Go.Proofs.Ytcncjedhpnaoaaa

namespace Go.Proofs.Ytcncjedhpnaoaaa
open Go.RowKit Go.Sort
set_option linter.unusedVariables false

/-- A tree and a list drawn. -/
def DrE (w : World) (e : Ending) (w' : World) : Prop :=
  ∃ (g m c cl : Nat) (al : Option Addr) (xs : List EN) (zs : List Int), e = .returned (.tuple #[.slice (some ⟨g, 0, none⟩) m c, .slice al zs.length cl]) ∧ m = xs.length ∧ TreeR w' w.heap.size g c xs ∧ Dt.DrawnT (xs.map (·.1)) ∧
    w'.ownsRow w.heap.size 3 1 (.slice al zs.length cl) zs.length (zs.map (Value.int .i64)) ∧ zs.length ≤ 8 ∧ Below w.heap.size w w'

set_option maxRecDepth 100000 in
set_option maxHeartbeats 8000000 in
theorem drawRunDecisions_any (ac : Option Addr) (c : Nat) (cs : List Int) (w : World) (hl : cs.length ≤ 65537) (h : BytesAt w ac cs) :
    Calls Try.prog 5 #[.slice ac cs.length c] w (DrE w) := by
  obtain ⟨h1, h2, h3⟩ := cur_start (c := c) hl h
  have HC := Lib.hid h1; have HO := Lib.hid h2; have HB := Lib.hid h3
  clear h h1 h2 h3
  go_enter Try.func5, Try.ntmps5
  go_wp2_with fail
  refine (decisions_any w.heap.size ac cs 0 _ (by omega) HC.out (fun h0 b off e => by have := HO.out h0 b off e; simp; omega)).mono ?_
  rintro e w5 ⟨g, m, ct, nn, xs, rfl, hm, hn7, hT, hd, hD⟩
  have hsz1 : w.heap.size ≤ (w.alloc (.cells #[.slice ac cs.length c, .int .i64 0, .int .u64 0] 41)).heap.size := by simp
  have HT := Lib.hid hT; have HM := Lib.hid hm; have HDT := Lib.hid hd
  have HD0 := Lib.hid hD
  have HB5 := Lib.hid (HB.out.grown hD.grown (by simp) (fun k hk => by injection hk with hk; omega))
  have hsz5 : w.heap.size ≤ w5.heap.size := HB5.out.size
  have D1 : Hid (Drawn w5 w5 w.heap.size ac cs 30) := ⟨hD.cur, grown_refl _ _, hD.cur.lt, fun h0 b off e => by have := HO.out h0 b off e; omega⟩
  have E2 := Lib.hid (own_lit (w := w5) (e := 3) (size := 1) #[] 0 (by omega) rfl)
  have D2 := Lib.hid (D1.out.below ((Below.refl w5.heap.size w5).alloc (Nat.le_refl _) (.cells #[] 3)))
  clear hT hm hd hD D1 hsz1 HC
  go_wp2
  go_loopw [7, 8] (fun v iv wr => ∃ (i : Nat) (zs : List Int) (a : Option Addr) (cc : Nat), iv = .int .i64 i ∧ i ≤ nn ∧ zs.length = i ∧ v = .slice a zs.length cc ∧ wr.ownsRow w5.heap.size 3 1 v zs.length (zs.map (Value.int .i64)) ∧ Drawn w5 wr w.heap.size ac cs (30 + 2 * (i : Int))) (fun _ iv _ => nn - (intOf iv).toNat)
  case atStart => exact ⟨0, [], _, _, rfl, by omega, rfl, rfl, E2.out, D2.out.mono (by omega)⟩
  case round =>
    obtain ⟨i, zs, a, cc, rfl, hi, hz, rfl, ho, hD⟩ := hrel
    have HO3 := Lib.hid ho; have HD3 := Lib.hid hD; have HZ := Lib.hid hz
    clear ho hD E2 D2
    by_cases hin : i < nn
    · have h3 : decide ((i : Int) < (nn : Int)) = true := decide_eq_true (by omega)
      have hn40 : zs.length + 1 ≤ 1099511627776 := by omega
      clear hz
      go_wp2_with fail
      refine (pick_any w.heap.size ac cs _ 5 _ (by omega) (by omega) HD3.out.cur).mono ?_
      rintro e w6 ⟨⟨x, rfl, hx0, hx1⟩, hc, hg⟩
      have HO6 := Lib.hid (HD3.out.own HO3.out (Nat.le_refl _) hg)
      have HD6 := Lib.hid (HD3.out.step hc hg)
      have hbs := HD6.out.grown.size
      clear hc hg HO3 HD3 hx0 hx1
      go_wp2_with (at_builtin; refine wpList_app1 slInt rfl _ _ rfl rfl HO6.out [.int .i64 x] rfl rfl (by simp) (by simp [Value.oneCell']) hn40 hbs ?_; intro v' w7 hown' hg' ht)
      obtain ⟨a7, c7, rfl⟩ := own_slice hown'
      have HO7 := Lib.hid hown'
      have HD7 := Lib.hid (HD6.out.app HO6.out (Nat.le_refl _) hg')
      clear hown' hg' ht hbs HO6 HD6
      go_roundw
      case rel => exact ⟨i + 1, zs ++ [x], a7, c7, by go_num, by omega, by rw [List.length_append, HZ.out]; rfl, by rw [List.length_append]; rfl, by rw [List.length_append, List.map_append]; exact HO7.out, HD7.out.mono (by omega)⟩
      case measure => simp [intOf] <;> omega
    · obtain rfl : i = nn := by omega
      have h3 : decide ((i : Int) < (i : Int)) = false := by simp
      have hn40 : zs.length + 1 ≤ 1099511627776 := by omega
      have hz8 : zs.length ≤ 7 := by omega
      clear hz
      go_wp2_with fail
      refine (one_any w.heap.size ac cs _ 20 _ (by omega) (by omega) HD3.out.cur).mono ?_
      rintro e w6 ⟨⟨b, rfl⟩, hc, hg⟩
      have HO6 := Lib.hid (HD3.out.own HO3.out (Nat.le_refl _) hg)
      have HD6 := Lib.hid (HD3.out.step hc hg)
      clear hc hg HO3 HD3
      cases b
      · have HN : Hid (DrE w (.returned (.tuple #[.slice (some ⟨g, 0, none⟩) m ct, .slice a zs.length cc])) w6) :=
          ⟨g, m, ct, cc, a, xs, zs, rfl, HM.out, (HT.out.cur HD0.out (Nat.le_refl _) HD6.out.grown).mono (by simp), HDT.out, own_mono HO6.out hsz5, by omega, HB5.out.grown HD6.out.grown hsz5 (fun k hk => by injection hk with hk; omega)⟩
        clear HO6 HD6
        go_wp2
        go_ret2
        exact HN.out
      · have HD6b := Lib.hid (HD6.out.below ((Below.refl w6.heap.size w6).alloc (Nat.le_refl _) (.cells #[.int .i64 1, .int .i64 100001] 3)))
        have HO6b := Lib.hid (HO6.out.alloc (.cells #[.int .i64 1, .int .i64 100001] 3))
        go_wp2_with fail
        refine (among_any w.heap.size ac cs _ _ 2 [1, 100001] _ (by omega) (by decide) (by decide) HD6b.out.cur (lit_ints w6 [1, 100001] (by decide)) ?h3).mono ?_
        case h3 => intro b off e; injection e with e; injection e with e _ _; have := HD6.out.cur.lt; omega
        rintro e w7 ⟨⟨x, rfl, hx⟩, hc, hg⟩
        have HO7 := Lib.hid (HD6b.out.own HO6b.out (Nat.le_refl _) hg)
        have HD7 := Lib.hid (HD6b.out.step hc hg)
        have hbs := HD7.out.grown.size
        clear hc hg hx HO6 HD6 HO6b HD6b
        go_wp2_with (at_builtin; refine wpList_app1 slInt rfl _ _ rfl rfl HO7.out [.int .i64 x] rfl rfl (by simp) (by simp [Value.oneCell']) hn40 hbs ?_; intro v' w8 hown' hg' ht)
        obtain ⟨a8, c8, rfl⟩ := own_slice hown'
        have HD8 := HD7.out.app HO7.out (Nat.le_refl _) hg'
        have HN : Hid (DrE w (.returned (.tuple #[.slice (some ⟨g, 0, none⟩) m ct, .slice a8 (zs.length + 1) c8])) w8) :=
          ⟨g, m, ct, c8, a8, xs, zs ++ [x], by rw [List.length_append]; rfl, HM.out, (HT.out.cur HD0.out (Nat.le_refl _) HD8.grown).mono (by simp), HDT.out, by rw [List.length_append, List.map_append]; exact own_mono hown' hsz5, by simp; omega, HB5.out.grown HD8.grown hsz5 (fun k hk => by injection hk with hk; omega)⟩
        clear HO7 HD7 hown' hg' ht HD8
        go_wp2
        go_ret2
        exact HN.out
end Go.Proofs.Ytcncjedhpnaoaaa

namespace Go.Proofs.Ytcncjedhpnaoaaa
open Go.RowKit Go.Sort
set_option linter.unusedVariables false

theorem perm_of_len : ∀ (d zs : List Int), d.Nodup → (∀ x ∈ d, x ∈ zs) → zs.length ≤ d.length → d.Perm zs
  | [], zs, _, _, h => by
    have : zs = [] := List.length_eq_zero_iff.1 (by simpa using h)
    rw [this]
  | x :: d, zs, hd, hm, h => by
    have hx := hm x (by simp)
    rw [List.nodup_cons] at hd
    have hl := List.length_erase_of_mem hx
    have := perm_of_len d (zs.erase x) hd.2 (fun y hy => (List.mem_erase_of_ne (fun e => hd.1 (by rw [← e]; exact hy))).2 (hm y (by simp [hy]))) (by simp at h; omega)
    exact (List.Perm.cons x this).trans (List.perm_cons_erase hx).symm
theorem nodup_dist {zs : List Int} (h : ¬ (Mg.dist zs).length < zs.length) : zs.Nodup :=
  (perm_of_len (Mg.dist zs) zs (Mg.dist_nodup zs) (fun x hx => (Mg.dist_mem zs x).1 hx) (by omega)).nodup_iff.1 (Mg.dist_nodup zs)

theorem drawn_len {ns : List Dt.Nd} (h : Dt.DrawnT ns) : ns.length ≤ 1000 := by
  have key : ∀ {n : Nat} {b : Bool}, 1 ≤ n → n ≤ 5 → (Dt.itree n b).length ≤ 255 := fun h1 h5 => (itree_len h1 h5 _).1
  cases h with
  | none => exact Nat.zero_le _
  | whole h1 h5 => exact Nat.le_trans (key h1 h5) (by omega)
  | one h1 h5 hk h => rw [List.length_set]; exact Nat.le_trans (key h1 h5) (by omega)
  | cut h1 h5 => rw [List.length_take]; exact Nat.le_trans (Nat.min_le_right _ _) (Nat.le_trans (key h1 h5) (by omega))

theorem specIsValidListD_any (a : Option Addr) (cap : Nat) (zs : List Int) (w : World) (hbig : zs.length ≤ 9223372036854775807) (h : IntsAt w a zs) :
    Calls Try.prog 7 #[.slice a zs.length cap] w fun e w' => e = .returned (.bool (okList zs)) ∧ w = w' := by
  have H := Lib.hid (l2List_any a cap zs w hbig h)
  clear h
  go_enter Try.func7, Try.ntmps7
  go_wp2_with fail
  refine H.out.mono ?_
  rintro e w1 ⟨rfl, rfl⟩
  go_wp2
  go_ret
  exact ⟨rfl, rfl⟩

set_option maxRecDepth 100000 in
set_option maxHeartbeats 1000000 in
theorem vIntsD_same (a b : Option Addr) (c d n : Nat) (zs : List Int) (w : World) (hn : zs.length = n) (hl : n ≤ 1000000) (h1 : IntsAt w a zs) (h2 : IntsAt w b zs) :
    Calls Try.prog 13 #[.slice a n c, .slice b n d] w fun e w' => e = .returned (.bool true) ∧ Below w.heap.size w w' := by
  have H1 := Lib.hid h1; have H2 := Lib.hid h2
  have HN := Lib.hid hn
  clear h1 h2 hn
  go_enter Try.func13, Try.ntmps13
  go_wp2
  go_loopw [5] (fun i wr => ∃ k : Nat, k ≤ n ∧ i = .int .i64 k ∧ Below w.heap.size w wr) (fun i _ => n - (intOf i).toNat)
  case atStart => exact ⟨0, by omega, rfl, Below.refl _ _⟩
  case round =>
    obtain ⟨k, hk, rfl, hb⟩ := hrel
    have HB := Lib.hid hb; clear hb
    by_cases hlt : k < n
    · obtain ⟨b1, o1, rfl, c1⟩ := (H1.out.below (Nat.le_refl _) HB.out).at (show k < zs.length by rw [HN.out]; exact hlt)
      obtain ⟨b2, o2, rfl, c2⟩ := (H2.out.below (Nat.le_refl _) HB.out).at (show k < zs.length by rw [HN.out]; exact hlt)
      generalize zs.getD k 0 = x at c1 c2
      have q1 : (x != x) = false := by simp
      have q2 : decide ((k : Int) < (n : Int)) = true := decide_eq_true (by omega)
      have b0 : (0 : Int) ≤ (k : Int) := by omega
      go_wp2_with fail
      go_quiet (fail)
      go_wp2
      go_roundw
      case rel => exact ⟨k + 1, by omega, by go_num, below_drewN HB.out _⟩
      case measure => simp [intOf]; omega
    · obtain rfl : k = n := by omega
      have q2 : decide ((k : Int) < (k : Int)) = false := decide_eq_false (by omega)
      go_wp2
      go_ret
      exact ⟨rfl, HB.out⟩

set_option maxRecDepth 100000 in
set_option maxHeartbeats 2000000 in
theorem sortingPermutation_any (a : Option Addr) (cc n : Nat) (l : List Int) (w : World) (hl : l.length = n) (hn : n ≤ 1000) (hok : okList l = true) (ha : ∀ b off, a = some ⟨b, off, none⟩ → b < w.heap.size) (h : IntsAt w a l) :
    Calls Try.prog 12 #[.slice a n cc] w fun e w' => ∃ (g c' : Nat), e = .returned (.tuple #[.slice (some ⟨g, 0, none⟩) n c', .bool true]) ∧ w'.ownsRow w.heap.size 3 1 (.slice (some ⟨g, 0, none⟩) n c') n ((sortP l).map (Value.int .i64)) ∧ Below w.heap.size w w' := by
  have HV := isValidList_any a cc l w (by omega) h
  rw [hl, hok] at HV
  have HV := Lib.hid HV
  have HS := Lib.hid (fun (W : World) (hb : Below w.heap.size w W) => sorting_any a cc n l W hl hn (fun b off e => Nat.lt_of_lt_of_le (ha b off e) hb.size) (h.below (Nat.le_refl _) hb))
  clear h ha hok hl
  go_enter Try.func12, Try.ntmps12
  go_wp2_with fail
  refine HV.out.mono ?_
  rintro e w1 ⟨rfl, hb⟩
  have HS1 := Lib.hid (HS.out w1 hb)
  have HB := Lib.hid hb
  clear hb HS
  go_wp2_with fail
  refine HS1.out.mono ?_
  rintro e w2 ⟨g, c', rfl, ho, hb⟩
  have HO := Lib.hid (own_mono ho HB.out.size); have HB2 := Lib.hid (HB.out.trans (hb.mono HB.out.size))
  clear ho hb HS1
  go_wp2
  go_ret2
  exact ⟨g, c', rfl, HO.out, HB2.out⟩

set_option maxRecDepth 100000 in
set_option maxHeartbeats 8000000 in
theorem lawDecisions_small (ac : Option Addr) (cc : Nat) (cs : List Int) (w : World) (hb : cs.length ≤ 65536) (h : BytesAt w ac cs) :
    Calls Try.prog 3 #[.slice ac cs.length cc] w fun e w' => e = .returned (.bool true) ∧ Below w.heap.size w w' := by
  have HV := vBigG_any ac cs.length cc w (by omega)
  rw [decide_eq_false (by omega)] at HV
  have HV := Lib.hid HV
  have HD := Lib.hid (drawRunDecisions_any ac cc cs w (by omega) h)
  clear h hb
  go_enter Try.func3, Try.ntmps3
  go_wp2_with fail
  refine HV.out.mono ?_
  rintro e w0 ⟨rfl, rfl⟩
  go_wp2_with fail
  refine HD.out.mono ?_
  rintro e w1 ⟨g, m, c, cl, al, xs, zs, rfl, hm, hT, hdt, ho, hz8, hb1⟩
  obtain ⟨ns, hns⟩ : ∃ ns, xs.map (·.1) = ns := ⟨_, rfl⟩
  have hN := hT.nodes
  rw [hns] at hdt hN
  have hml : m = ns.length := by rw [hm, ← hns, List.length_map]
  have hnb : ns.length ≤ 1000 := drawn_len hdt
  subst hml
  have hI := ints_of_own ho
  have hNO : NilOr al cl zs := by
    intro e
    subst e
    rcases ho.2 with ⟨h2, h3⟩ | ⟨g', cap, cur, hv, _⟩
    · injection h2 with _ h4 h5
      exact ⟨List.length_eq_zero_iff.1 h4, h5⟩
    · cases hv
  have hal : ∀ b off, al = some ⟨b, off, none⟩ → b < w1.heap.size := fun b off e => by
    subst e
    exact (ho.lt b rfl).2
  have HN := Lib.hid hN; have HI := Lib.hid hI; have HDT := Lib.hid hdt; have HB1 := Lib.hid hb1; have HAL := Lib.hid hal; have HNO := Lib.hid hNO
  clear hT hm hdt ho hb1 hN hI hns hal hNO HD HV
  go_wp2_with fail
  refine (runDecisions_any (some ⟨g, 0, none⟩) c ns al cl zs w1 (by omega) (by omega) HN.out HI.out).mono ?_
  rintro e w2 ⟨x2, c2, rfl, ho2, hb2⟩
  have HO2 := Lib.hid (ints_of_own ho2); have HB2 := Lib.hid hb2
  have HN2 := Lib.hid (HN.out.same hb2); have HI2 := Lib.hid (HI.out.below (Nat.le_refl _) hb2)
  clear ho2 hb2
  by_cases hok : okList zs = true ∧ Dt.okTree (zs.length : Int) ns = true
  case neg =>
    have hq : runQ ns zs = (([], 0), false) := by unfold runQ; rw [if_neg hok]
    rw [hq]
    have HOK := Lib.hid hok
    clear hok hq HO2
    go_wp2_with fail
    refine (specIsValidListD_any al cl zs w2 (by omega) HI2.out).mono ?_
    rintro e w3 ⟨rfl, rfl⟩
    by_cases hl : okList zs = true
    · have ht : Dt.okTree (zs.length : Int) ns = false := by
        cases ht : Dt.okTree (zs.length : Int) ns with
        | false => rfl
        | true => exact absurd ⟨hl, ht⟩ HOK.out
      rw [hl]
      have HT := Lib.hid ht
      clear hl ht
      go_wp2_with fail
      refine (specIsValidDecisions_any (some ⟨g, 0, none⟩) c ns (zs.length : Int) w2 (by omega) HN2.out).mono ?_
      rintro e w3 ⟨rfl, hb3⟩
      rw [HT.out]
      have HB3 := Lib.hid (HB1.out.trans ((HB2.out.trans (hb3.mono HB2.out.size)).mono HB1.out.size))
      clear hb3
      go_wp2
      go_ret
      exact ⟨rfl, HB3.out⟩
    · have hl : okList zs = false := by simpa using hl
      rw [hl]
      have HB3 := Lib.hid (HB1.out.trans (HB2.out.mono HB1.out.size))
      clear hl
      go_wp2
      go_ret
      exact ⟨rfl, HB3.out⟩
  obtain ⟨hl, ht⟩ := hok
  have hq : runQ ns zs = (Dt.runT ns zs, true) := runQ_yes hl ht
  rw [hq] at HO2 ⊢
  obtain ⟨hz1, hz5, hn1, _, hnok, _⟩ := Dt.okTree_iff ht
  have hz5 : zs.length ≤ 5 := by omega
  have hLE : (Dt.runT ns zs).2 ≤ Dt.mostTo ns (Pm.allP zs.length) := Dt.drawn_law HDT.out ht zs
  have hTT := Dt.tot_ge ns (Pm.allP zs.length)
  have HSO := Lib.hid (fun (h1 : Dt.firstBad ns (Pm.allP zs.length) = []) (h2 : ¬ (Mg.dist zs).length < zs.length) => Dt.run_sorts ht h1 (nodup_dist h2))
  have hq2 : fmQ (zs.length : Int) ns = (Dt.firstBad ns (Pm.allP zs.length), true) := by unfold fmQ; rw [if_pos ht]; rfl
  have hds : dsV zs = Mg.dist zs := by unfold dsV; rw [if_pos hl]
  have hol : (Dt.runT ns zs).1.length = zs.length := (Dt.runT_ok (zs := zs) hnok hn1).1
  have HL := Lib.hid hl; have HT := Lib.hid ht; have HQ2 := Lib.hid hq2; have HDS := Lib.hid hds; have HOL := Lib.hid hol
  obtain ⟨mo, hmo⟩ : ∃ mo, Dt.mostTo ns (Pm.allP zs.length) = mo := ⟨_, rfl⟩
  obtain ⟨to, hto⟩ : ∃ to, Dt.totTo ns (Pm.allP zs.length) = to := ⟨_, rfl⟩
  have HMO := Lib.hid hmo; have HTO := Lib.hid hto
  rw [hmo] at hLE hTT
  rw [hto] at hTT
  obtain ⟨O, hO⟩ : ∃ O, (Dt.runT ns zs).1 = O := ⟨_, rfl⟩
  obtain ⟨C, hC⟩ : ∃ C, (Dt.runT ns zs).2 = C := ⟨_, rfl⟩
  rw [hC] at hLE ⊢
  rw [hO] at HOL HO2 HSO ⊢
  rw [HOL.out]
  clear hO hC hmo hto hl ht hq hq2 hds hol hz1 hn1 hnok
  go_wp2_with fail
  refine (specIsValidListD_any al cl zs w2 (by omega) HI2.out).mono ?_
  rintro e w3 ⟨rfl, rfl⟩
  rw [HL.out]
  go_wp2_with fail
  refine (specIsValidDecisions_any (some ⟨g, 0, none⟩) c ns (zs.length : Int) w2 (by omega) HN2.out).mono ?_
  rintro e w3 ⟨rfl, hb3⟩
  rw [HT.out]
  have HB3 := Lib.hid hb3; have HN3 := Lib.hid (HN2.out.same hb3); have HI3 := Lib.hid (HI2.out.below (Nat.le_refl _) hb3); have HO3 := Lib.hid (HO2.out.below (Nat.le_refl _) hb3)
  clear hb3 HN2 HI2 HO2
  go_wp2_with fail
  refine (firstMistake_any (some ⟨g, 0, none⟩) c ns (zs.length : Int) w3 (by omega) HN3.out).mono ?_
  rw [HQ2.out]
  rintro e w4 ⟨x4, c4, rfl, ho4, hb4⟩
  have HB4 := Lib.hid (HB3.out.trans (hb4.mono HB3.out.size)); have HN4 := Lib.hid (HN3.out.same hb4); have HI4 := Lib.hid (HI3.out.below (Nat.le_refl _) hb4); have HO4 := Lib.hid (HO3.out.below (Nat.le_refl _) hb4)
  clear hb4 ho4 HN3 HI3 HO3 HB3
  obtain ⟨FB, hFB⟩ : ∃ FB, Dt.firstBad ns (Pm.allP zs.length) = FB := ⟨_, rfl⟩
  rw [hFB] at HSO ⊢
  clear hFB HQ2
  go_wp2_with fail
  refine (decisionCost_any (some ⟨g, 0, none⟩) c ns (zs.length : Int) w4 (by omega) HN4.out).mono ?_
  rw [if_pos HT.out]
  rw [show ((zs.length : Int)).toNat = zs.length from rfl, HMO.out, HTO.out]
  rintro e w5 ⟨rfl, hb5⟩
  have HB5 := Lib.hid (HB4.out.trans (hb5.mono HB4.out.size)); have HI5 := Lib.hid (HI4.out.below (Nat.le_refl _) hb5); have HO5 := Lib.hid (HO4.out.below (Nat.le_refl _) hb5)
  clear hb5 HN4 HI4 HO4 HB4
  have k1 : decide ((mo : Int) < (C : Int)) = false := decide_eq_false (by omega)
  have k2 : decide ((to : Int) < (mo : Int)) = false := decide_eq_false (by omega)
  have k3 : ¬ mo < C := by omega
  have k4 : ¬ to < mo := by omega
  go_wp2_with fail
  refine (distinctSorted_any al cl zs w5 (by omega) HNO.out HI5.out).mono ?_
  rw [HDS.out]
  rintro e w6 ⟨x6, c6, rfl, _, _, _, hb6⟩
  have HB6 := Lib.hid (HB5.out.trans (hb6.mono HB5.out.size)); have HI6 := Lib.hid (HI5.out.below (Nat.le_refl _) hb6); have HO6 := Lib.hid (HO5.out.below (Nat.le_refl _) hb6)
  have HBB := Lib.hid (HB1.out.trans ((HB2.out.trans (HB6.out.mono HB2.out.size)).mono HB1.out.size))
  have HA6 := Lib.hid (fun b off e => Nat.lt_of_lt_of_le (HAL.out b off e) (Nat.le_trans HB2.out.size HB6.out.size))
  clear hb6 HI5 HO5 HB5 k1 k2 k3 k4 hLE hTT HNO
  obtain ⟨DL, hDL⟩ : ∃ DL, (Mg.dist zs).length = DL := ⟨_, rfl⟩
  rw [hDL] at HSO ⊢
  clear hDL
  by_cases hfb : FB = []
  case neg =>
    have hfl : 0 < FB.length := List.length_pos_iff.2 hfb
    obtain ⟨fl, hfl2⟩ : ∃ fl, FB.length = fl := ⟨_, rfl⟩
    rw [hfl2] at hfl ⊢
    have k5 : decide ((0 : Int) < (fl : Int)) = true := decide_eq_true (by omega)
    clear hfb hfl2 HSO
    go_wp2
    go_ret
    exact ⟨rfl, HBB.out⟩
  subst hfb
  by_cases hdl : DL < zs.length
  case pos =>
    have k5 : decide ((DL : Int) < (zs.length : Int)) = true := decide_eq_true (by omega)
    clear HSO
    go_wp2
    go_ret
    exact ⟨rfl, HBB.out⟩
  have k5 : decide ((DL : Int) < (zs.length : Int)) = false := decide_eq_false (by omega)
  have hso : O = sortP zs := HSO.out rfl hdl
  have HOS := Lib.hid hso
  have HP := Lib.hid (sortingPermutation_any al cl zs.length zs w6 rfl (by omega) HL.out HA6.out HI6.out)
  clear hso HSO
  go_wp2_with fail
  refine HP.out.mono ?_
  rintro e w7 ⟨g7, c7, rfl, ho7, hb7⟩
  have HV7 := Lib.hid (vIntsD_same x2 (some ⟨g7, 0, none⟩) c2 c7 zs.length O w7 HOL.out (by omega) (HO6.out.below (Nat.le_refl _) hb7) (by rw [HOS.out]; exact ints_of_own ho7))
  have HB7 := Lib.hid (HBB.out.trans (hb7.mono HBB.out.size))
  clear ho7 hb7 HP
  go_wp2_with fail
  refine HV7.out.mono ?_
  rintro e w8 ⟨rfl, hb8⟩
  have HB8 := Lib.hid (HB7.out.trans (hb8.mono HB7.out.size))
  clear hb8
  go_wp2
  go_ret
  exact ⟨rfl, HB8.out⟩

theorem lawDecisions_any (ac : Option Addr) (cc : Nat) (cs : List Int) (w : World) (hbig : cs.length ≤ 9223372036854775807) (h : BytesAt w ac cs) :
    Calls Try.prog 3 #[.slice ac cs.length cc] w fun e w' => e = .returned (.bool true) ∧ Below w.heap.size w w' := by
  by_cases hb65 : 65536 < cs.length
  · have HV := vBigG_any ac cs.length cc w hbig
    rw [decide_eq_true hb65] at HV
    have HV := Lib.hid HV
    clear hb65 h
    go_enter Try.func3, Try.ntmps3
    go_wp2_with fail
    refine HV.out.mono ?_
    rintro e w1 ⟨rfl, rfl⟩
    go_wp2
    go_ret
    exact ⟨rfl, Below.refl _ _⟩
  · exact lawDecisions_small ac cc cs w (by omega) h
end Go.Proofs.Ytcncjedhpnaoaaa

