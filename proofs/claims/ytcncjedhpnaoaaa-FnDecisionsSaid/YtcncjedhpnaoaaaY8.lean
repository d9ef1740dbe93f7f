/- Several texts in one: lemmas and walks of the functions that the law reaches. -/
import Derived.Test.YtcncjedhpnaoaaaY3
import Derived.Test.YtcncjedhpnaoaaaY4

namespace Go.Proofs.Ytcncjedhpnaoaaa
open Go.RowKit
set_option linter.unusedVariables false

/-- The cells of a node. -/
structure NodeC (w : World) (b o : Nat) (d : Dt.Nd) : Prop where
  c0 : w.cell? ⟨b, o, none⟩ = some (.int .i64 d.a)
  c1 : w.cell? ⟨b, o + 1, none⟩ = some (.int .i64 d.b)
  c2 : w.cell? ⟨b, o + 2, none⟩ = some (.int .i64 d.l)
  c3 : w.cell? ⟨b, o + 3, none⟩ = some (.int .i64 d.g)
  c4 : ∃ (x : Option Addr) (c : Nat), w.cell? ⟨b, o + 4, none⟩ = some (.slice x d.o.length c) ∧ IntsAt w x d.o ∧ NilOk x c
  big : d.o.length ≤ 9223372036854775807
def NodesAt (w : World) (a : Option Addr) (ns : List Dt.Nd) : Prop :=
  ns = [] ∨ ∃ b off, a = some ⟨b, off, none⟩ ∧ b < w.heap.size ∧ ∀ j, j < ns.length → NodeC w b (off + j * 5) (ns.getD j Dt.nd0)
theorem NodeC.below {w w' : World} {b o : Nat} {d : Dt.Nd} (h : NodeC w b o d) (hb : Below w.heap.size w w') : NodeC w' b o d := by
  have cell : ∀ {k : Nat} {v : Value}, w.cell? ⟨b, k, none⟩ = some v → w'.cell? ⟨b, k, none⟩ = some v := fun {k v} hc => (hb.cell (p := ⟨b, k, none⟩) (World.block_lt_of_cell? w _ hc)).trans hc
  obtain ⟨x, c, h1, h2, h3⟩ := h.c4
  exact ⟨cell h.c0, cell h.c1, cell h.c2, cell h.c3, ⟨x, c, cell h1, h2.below (Nat.le_refl _) hb, h3⟩, h.big⟩
theorem NodesAt.same {w w' : World} {a : Option Addr} {ns : List Dt.Nd} (h : NodesAt w a ns) (hb : Below w.heap.size w w') : NodesAt w' a ns := by
  rcases h with h | ⟨b, off, e, h1, h2⟩
  · exact .inl h
  · exact .inr ⟨b, off, e, Nat.lt_of_lt_of_le h1 hb.size, fun j hj => (h2 j hj).below hb⟩
theorem NodesAt.at {w : World} {a : Option Addr} {ns : List Dt.Nd} (h : NodesAt w a ns) {k : Nat} (hk : k < ns.length) : ∃ b off, a = some ⟨b, off, none⟩ ∧ NodeC w b (off + k * 5) (ns.getD k Dt.nd0) := by
  rcases h with rfl | ⟨b, off, e, _, h2⟩
  · simp at hk
  · exact ⟨b, off, e, h2 k hk⟩
/-- Changes in some blocks alone, and new ones. -/
structure Ch (w w' : World) (lo hi : Nat) : Prop where
  os : w'.os = w.os
  tape : w'.tape = w.tape
  output : w'.output = w.output
  size : w.heap.size ≤ w'.heap.size
  block : ∀ k, k < w.heap.size → (k < lo ∨ hi ≤ k) → w'.heap[k]? = w.heap[k]?
theorem Ch.grow {w w' w'' : World} {lo hi : Nat} {row : Option Nat} (h : Ch w w' lo hi) (hg : w'.grownBy w'' row) (hr : ∀ k, row = some k → lo ≤ k ∧ k < hi) : Ch w w'' lo hi :=
  ⟨hg.os.trans h.os, hg.tape.trans h.tape, hg.output.trans h.output, Nat.le_trans h.size hg.size, fun k hk hx => (hg.block k (Nat.lt_of_lt_of_le hk h.size) (fun e => by have := hr k e.symm; omega)).trans (h.block k hk hx)⟩
theorem Ch.cell {w w' : World} {lo hi : Nat} (h : Ch w w' lo hi) {b o : Nat} (hb : b < w.heap.size) (hx : b < lo ∨ hi ≤ b) : w'.cell? ⟨b, o, none⟩ = w.cell? ⟨b, o, none⟩ := by
  simp only [World.cell?, h.block b hb hx]
theorem Ch.own {w w' : World} {lo hi B size n : Nat} {e : TypeId} {v : Value} {xs : List Value} (h : Ch w w' lo hi) (ho : w.ownsRow B e size v n xs) (hx : ∀ k, v.ownBlock = some k → k < lo ∨ hi ≤ k) : w'.ownsRow B e size v n xs := by
  refine ⟨ho.1, ho.2.imp id ?_⟩
  rintro ⟨g, cap, cur, hv, hB, hh, r⟩
  subst hv
  exact ⟨g, cap, cur, rfl, hB, by rw [h.block g (Array.getElem?_eq_some_iff.1 hh).1 (hx g rfl)]; exact hh, r⟩
theorem Ch.below {w0 w w' : World} {lo hi : Nat} (h : Ch w w' lo hi) (hb : Below w0.heap.size w0 w) (hlo : w0.heap.size ≤ lo) : Below w0.heap.size w0 w' :=
  ⟨h.os.trans hb.os, h.tape.trans hb.tape, h.output.trans hb.output, Nat.le_trans hb.size h.size, fun k hk => (h.block k (Nat.lt_of_lt_of_le hk hb.size) (by omega)).trans (hb.block k hk)⟩

/-- Nodes that the caller may write: a row of its own, each order in a block of its own. -/
structure NsW (w : World) (lo hi g n : Nat) (gs ms : Nat → Nat) : Prop where
  row : ∃ xs : List Value, w.ownsRow lo 55 5 (.slice (some ⟨g, 0, none⟩) n n) n xs ∧ ∀ j, j < n → xs[j * 5 + 4]? = some (.slice (some ⟨gs j, 0, none⟩) (ms j) (ms j))
  ord : ∀ j, j < n → ∃ ys : List Value, w.ownsRow lo 3 1 (.slice (some ⟨gs j, 0, none⟩) (ms j) (ms j)) (ms j) ys
  far : g < hi ∧ ∀ j, j < n → gs j < hi ∧ gs j ≠ g ∧ ∀ i, i < n → i ≠ j → gs i ≠ gs j
theorem NsW.same {w w' : World} {lo hi g n : Nat} {gs ms : Nat → Nat} (h : NsW w lo hi g n gs ms) (hb : Below w.heap.size w w') : NsW w' lo hi g n gs ms := by
  obtain ⟨xs, h1, h2⟩ := h.row
  exact ⟨⟨xs, own_below h1 (Nat.le_refl _) hb, h2⟩, fun j hj => by
    obtain ⟨ys, h3⟩ := h.ord j hj
    exact ⟨ys, own_below h3 (Nat.le_refl _) hb⟩, h.far⟩

end Go.Proofs.Ytcncjedhpnaoaaa

namespace Go.Proofs.Ytcncjedhpnaoaaa
open Go.RowKit
set_option linter.unusedVariables false
theorem standsN {W w1 : World} {B : Nat} (hb : Below B W w1) : (∀ b o, b < B → w1.cell? ⟨b, o, none⟩ = W.cell? ⟨b, o, none⟩) ∧ (∀ b o, b < B → w1.frozen? ⟨b, o, none⟩ = W.frozen? ⟨b, o, none⟩) :=
  ⟨fun b o h => hb.cell (p := ⟨b, o, none⟩) h, fun b o h => hb.frozen (p := ⟨b, o, none⟩) h⟩

end Go.Proofs.Ytcncjedhpnaoaaa

namespace Go.Proofs.Ytcncjedhpnaoaaa
open Go.RowKit
set_option linter.unusedVariables false

/-- A row of nodes of the call's own whose first k are laid, each order in a block of its own. -/
structure TN (B : Nat) (w : World) (g k : Nat) (ns : List Dt.Nd) (gs : Nat → Nat) : Prop where
  row : ∃ xs : List Value, w.ownsRow B 55 5 (.slice (some ⟨g, 0, none⟩) ns.length ns.length) ns.length xs ∧ ∀ j, j < k → xs[j * 5 + 0]? = some (.int .i64 (ns.getD j Dt.nd0).a) ∧ xs[j * 5 + 1]? = some (.int .i64 (ns.getD j Dt.nd0).b) ∧ xs[j * 5 + 2]? = some (.int .i64 (ns.getD j Dt.nd0).l) ∧ xs[j * 5 + 3]? = some (.int .i64 (ns.getD j Dt.nd0).g) ∧ xs[j * 5 + 4]? = some (.slice (some ⟨gs j, 0, none⟩) (ns.getD j Dt.nd0).o.length (ns.getD j Dt.nd0).o.length)
  ord : ∀ j, j < k → w.ownsRow B 3 1 (.slice (some ⟨gs j, 0, none⟩) (ns.getD j Dt.nd0).o.length (ns.getD j Dt.nd0).o.length) (ns.getD j Dt.nd0).o.length ((ns.getD j Dt.nd0).o.map (Value.int .i64))
  far : ∀ j, j < k → gs j ≠ g ∧ gs j < w.heap.size ∧ ∀ i, i < k → i ≠ j → gs i ≠ gs j

theorem TN.lt {B : Nat} {w : World} {g k : Nat} {ns : List Dt.Nd} {gs : Nat → Nat} (h : TN B w g k ns gs) : g < w.heap.size := by
  obtain ⟨xs, ho, _⟩ := h.row
  exact (ho.lt g rfl).2
theorem TN.step {B : Nat} {w w2 w3 : World} {g k g2 : Nat} {ns : List Dt.Nd} {gs : Nat → Nat} {d1 d2 d3 d4 : Int} {o : List Int} (h : TN B w g k ns gs) (hd : ns.getD k Dt.nd0 = (d1, d2, d3, d4, o)) (hk : k < ns.length) (hB : B ≤ w.heap.size) (hb : Below w.heap.size w w2)
    (ho : w2.ownsRow w.heap.size 3 1 (.slice (some ⟨g2, 0, none⟩) o.length o.length) o.length (o.map (Value.int .i64)))
    {xs : List Value} (hx : ∀ j, j < k → xs[j * 5 + 0]? = some (.int .i64 (ns.getD j Dt.nd0).a) ∧ xs[j * 5 + 1]? = some (.int .i64 (ns.getD j Dt.nd0).b) ∧ xs[j * 5 + 2]? = some (.int .i64 (ns.getD j Dt.nd0).l) ∧ xs[j * 5 + 3]? = some (.int .i64 (ns.getD j Dt.nd0).g) ∧ xs[j * 5 + 4]? = some (.slice (some ⟨gs j, 0, none⟩) (ns.getD j Dt.nd0).o.length (ns.getD j Dt.nd0).o.length))
    (hl : xs.length = ns.length * 5)
    (h3 : w3.ownsRow B 55 5 (.slice (some ⟨g, 0, none⟩) ns.length ns.length) ns.length (xs.take (k * 5) ++ [.int .i64 d1, .int .i64 d2, .int .i64 d3, .int .i64 d4, .slice (some ⟨g2, 0, none⟩) o.length o.length] ++ xs.drop (k * 5 + 5)))
    (hg : w2.grownBy w3 (some g)) : TN B w3 g (k + 1) ns (fun j => if j = k then g2 else gs j) := by
  have hgl := h.lt
  have hg2 := ho.lt g2 rfl
  have take : ∀ j i, j < k → i < 5 → (xs.take (k * 5) ++ [Value.int .i64 d1, .int .i64 d2, .int .i64 d3, .int .i64 d4, .slice (some ⟨g2, 0, none⟩) o.length o.length] ++ xs.drop (k * 5 + 5))[j * 5 + i]? = xs[j * 5 + i]? := fun j i hj hi => by
    rw [List.getElem?_append_left (by simp; omega), List.getElem?_append_left (by simp; omega), List.getElem?_take, if_pos (by omega)]
  have mid : ∀ i, i < 5 → (xs.take (k * 5) ++ [Value.int .i64 d1, .int .i64 d2, .int .i64 d3, .int .i64 d4, .slice (some ⟨g2, 0, none⟩) o.length o.length] ++ xs.drop (k * 5 + 5))[k * 5 + i]? = [Value.int .i64 d1, .int .i64 d2, .int .i64 d3, .int .i64 d4, .slice (some ⟨g2, 0, none⟩) o.length o.length][i]? := fun i hi => by
    have e : (xs.take (k * 5)).length = k * 5 := by simp; omega
    rw [List.getElem?_append_left (by simp; omega), List.getElem?_append_right (by omega), e, Nat.add_sub_cancel_left]
  refine ⟨⟨_, h3, fun j hj => ?_⟩, fun j hj => ?_, fun j hj => ?_⟩
  · by_cases e : j = k
    · subst e
      rw [mid 0 (by omega), mid 1 (by omega), mid 2 (by omega), mid 3 (by omega), mid 4 (by omega), hd, if_pos rfl]
      exact ⟨rfl, rfl, rfl, rfl, rfl⟩
    · have hj' : j < k := by omega
      rw [take j 0 hj' (by omega), take j 1 hj' (by omega), take j 2 hj' (by omega), take j 3 hj' (by omega), take j 4 hj' (by omega), if_neg e]
      exact hx j hj'
  · by_cases e : j = k
    · subst e
      rw [hd, if_pos rfl]
      exact own_mono (own_other ho hg (fun q hq e2 => by have hq : g2 = q := Option.some.inj hq; have e2 : g = q := Option.some.inj e2; omega)) hB
    · have hj' : j < k := by omega
      rw [if_neg e]
      exact own_other (own_below (h.ord j hj') (Nat.le_refl _) hb) hg (fun q hq e2 => by have hq : gs j = q := Option.some.inj hq; have e2 : g = q := Option.some.inj e2; exact (h.far j hj').1 (by omega))
  · have hsz := hb.size
    have hs3 := hg.size
    by_cases e : j = k
    · subst e
      rw [if_pos rfl]
      refine ⟨by omega, by omega, fun i hi hne => ?_⟩
      rw [if_neg hne]
      have := (h.far i (by omega)).2.1
      omega
    · have hj' : j < k := by omega
      obtain ⟨f1, f2, f3⟩ := h.far j hj'
      rw [if_neg e]
      refine ⟨f1, by omega, fun i hi hne => ?_⟩
      by_cases e2 : i = k
      · rw [if_pos e2]; omega
      · rw [if_neg e2]; exact f3 i (by omega) hne
theorem TN.nodes {B : Nat} {w : World} {g : Nat} {ns : List Dt.Nd} {gs : Nat → Nat} (h : TN B w g ns.length ns gs) (hb : ∀ j, j < ns.length → (ns.getD j Dt.nd0).o.length ≤ 1048576) : NodesAt w (some ⟨g, 0, none⟩) ns := by
  by_cases h0 : ns.length = 0
  · exact .inl (List.eq_nil_of_length_eq_zero h0)
  · obtain ⟨xs, ho, hx⟩ := h.row
    obtain ⟨g', e, _, hlt, hc⟩ := own_cell ho (by omega)
    injection e with e; injection e with e; subst e
    refine .inr ⟨g, 0, rfl, hlt, fun j hj => ?_⟩
    obtain ⟨x0, x1, x2, x3, x4⟩ := hx j hj
    rw [Nat.zero_add]
    exact ⟨(hc (j * 5 + 0) (by omega)).trans x0, (hc (j * 5 + 1) (by omega)).trans x1, (hc (j * 5 + 2) (by omega)).trans x2, (hc (j * 5 + 3) (by omega)).trans x3, ⟨_, _, (hc (j * 5 + 4) (by omega)).trans x4, ownInts (h.ord j hj), nilOk_some _ _⟩, by have := hb j hj; omega⟩
theorem TN.own {B : Nat} {w : World} {g : Nat} {ns : List Dt.Nd} {gs : Nat → Nat} (h : TN B w g ns.length ns gs) : NsW w B w.heap.size g ns.length gs (fun j => (ns.getD j Dt.nd0).o.length) := by
  have hl := h.lt
  obtain ⟨xs, ho, hx⟩ := h.row
  exact ⟨⟨xs, ho, fun j hj => (hx j hj).2.2.2.2⟩, fun j hj => ⟨_, h.ord j hj⟩, hl, fun j hj => ⟨(h.far j hj).2.1, (h.far j hj).1, (h.far j hj).2.2⟩⟩

end Go.Proofs.Ytcncjedhpnaoaaa

namespace Go.Proofs.Ytcncjedhpnaoaaa
open Go.RowKit
set_option linter.unusedVariables false

set_option maxHeartbeats 400000 in
theorem isDecision_any (d1 d2 d3 d4 : Int) (a : Option Addr) (c : Nat) (o : List Int) (n i size : Nat) (w : World) (hn : 1 ≤ n) (hn5 : n ≤ 5) (hi : i ≤ 255) (hs : size ≤ 255) (hl : o.length ≤ 9223372036854775807) (h : IntsAt w a o) :
    Calls Try.prog 38 #[.agg #[.int .i64 d1, .int .i64 d2, .int .i64 d3, .int .i64 d4, .slice a o.length c], .int .i64 n, .int .i64 i, .int .i64 size] w fun e w' => e = .returned (.bool (Dt.okNode n i size (d1, d2, d3, d4, o))) ∧ Below w.heap.size w w' := by
  have H := Lib.hid h; clear h
  by_cases h0 : 0 < o.length
  · have HK : Hid (Dt.okNode n i size (d1, d2, d3, d4, o) = ((d1 == 0 && d2 == 0 && d3 == 0 && d4 == 0) && (decide (o.length = n) && okPerm o))) := by show _ = _; unfold Dt.okNode; rw [if_pos h0]
    go_enter Try.func38, Try.ntmps38
    go_wp2_with (go_at_call 50; refine (isValidPermutation_any a c o _ hl (H.out.below (Nat.le_refl _) (by (repeat (first | exact Below.refl _ _ | assumption | refine Below.setCell ?_ (by first | omega | (simp; done) | (simp; omega)) _ | refine Below.alloc ?_ (by first | omega | (simp; done) | (simp; omega)) _ | refine Below.drew ?_ | refine below_drewN ?_ _))))).mono ?_; rintro e w' ⟨rfl, hb⟩)
    all_goals go_ret
    all_goals refine ⟨ret_bool ?_, ?_⟩
    all_goals first | ((try clear hb); have hk := HK.out; clear HK H; rw [hk]; clear hk; (first | (have e9 : o.length = n := by omega) | (have e9 : ¬ o.length = n := by omega) | skip); simp [*]; done) | ((repeat (first | exact Below.refl _ _ | assumption | refine Below.setCell ?_ (by first | omega | (simp; done) | (simp; omega)) _ | refine Below.alloc ?_ (by first | omega | (simp; done) | (simp; omega)) _ | refine Below.drew ?_ | refine below_drewN ?_ _)); done) | (exact Below.trans (by (repeat (first | exact Below.refl _ _ | assumption | refine Below.setCell ?_ (by first | omega | (simp; done) | (simp; omega)) _ | refine Below.alloc ?_ (by first | omega | (simp; done) | (simp; omega)) _ | refine Below.drew ?_ | refine below_drewN ?_ _))) (hb.mono (by simp))) | skip
  · have HK : Hid (Dt.okNode n i size (d1, d2, d3, d4, o) = ((d1 != d2 && inB d1 0 ((n : Int) - 1) && inB d2 0 ((n : Int) - 1)) && (d3 != d4 && inB d3 ((i : Int) + 1) ((size : Int) - 1) && inB d4 ((i : Int) + 1) ((size : Int) - 1)))) := by show _ = _; unfold Dt.okNode; rw [if_neg h0]
    have h00 : o.length = 0 := by omega
    go_enter Try.func38, Try.ntmps38
    go_wp2_with (go_at_call 37; refine (in_any _ _ _ _).mono ?_; rintro e w' ⟨rfl, rfl⟩)
    all_goals go_ret
    all_goals refine ⟨ret_bool ?_, ?_⟩
    all_goals first | ((try clear hb); have hk := HK.out; clear HK H; rw [hk]; clear hk; (first | (have e9 : o.length = n := by omega) | (have e9 : ¬ o.length = n := by omega) | skip); simp [*]; done) | ((repeat (first | exact Below.refl _ _ | assumption | refine Below.setCell ?_ (by first | omega | (simp; done) | (simp; omega)) _ | refine Below.alloc ?_ (by first | omega | (simp; done) | (simp; omega)) _ | refine Below.drew ?_ | refine below_drewN ?_ _)); done) | (exact Below.trans (by (repeat (first | exact Below.refl _ _ | assumption | refine Below.setCell ?_ (by first | omega | (simp; done) | (simp; omega)) _ | refine Below.alloc ?_ (by first | omega | (simp; done) | (simp; omega)) _ | refine Below.drew ?_ | refine below_drewN ?_ _))) (hb.mono (by simp))) | (have hk := HK.out; clear HK H; rw [hk]; clear hk h00 h0 hn hn5 hi hs hl; grind) | (have hk := HK.out; clear HK H; rw [hk]; clear hk; cases inB d4 ((i : Int) + 1) ((size : Int) - 1) <;> simp_all; done) | skip

end Go.Proofs.Ytcncjedhpnaoaaa

namespace Go.Proofs.Ytcncjedhpnaoaaa
open Go.RowKit
set_option linter.unusedVariables false

set_option maxHeartbeats 400000 in
theorem isOne_pred (w : World) : IsPredI w (.func (.func 39) #[] #[]) (fun _ => True) (fun x => decide (x = 1)) := by
  refine ⟨_, _, rfl, fun args w => by kernel_rfl, fun w1 hb x _ => ?_⟩
  show Calls Try.prog 39 #[.int .i64 x] w1 _
  by_cases h : x = 1
  · subst h
    go_enter Try.func39, Try.ntmps39
    go_wp2
    go_ret
    exact ⟨rfl, Below.refl _ _⟩
  · have hn : (x == 1) = false := by simpa using h
    go_enter Try.func39, Try.ntmps39
    go_wp2
    go_ret
    exact ⟨ret_bool rfl, Below.refl _ _⟩

set_option maxHeartbeats 400000 in
theorem isValidDecisions_any (a : Option Addr) (cap : Nat) (ns : List Dt.Nd) (n : Int) (w : World) (hbig : ns.length ≤ 9223372036854775807) (h : NodesAt w a ns) :
    Calls Try.prog 19 #[.slice a ns.length cap, .int .i64 n] w fun e w' => e = .returned (.bool (Dt.okTree n ns)) ∧ Below w.heap.size w w' := by
  have H := Lib.hid h; clear h
  cases h1 : inB n 1 5
  · have HE := Lib.hid (Dt.okTree_no1 (ns := ns) h1)
    have HI := in_isD h1
    clear h1
    go_enter Try.func19, Try.ntmps19
    go_wp2_with (go_at_call 37; refine (HI.out _).mono ?_; rintro e w' ⟨rfl, rfl⟩)
    go_ret
    exact ⟨ret_bool HE.out.symm, Below.refl _ _⟩
  have HI1 := in_isD h1
  have H1 := Lib.hid h1
  obtain ⟨n1, n5⟩ := inB_iff.1 h1; clear h1
  obtain ⟨m, rfl⟩ := Int.eq_ofNat_of_zero_le (show (0 : Int) ≤ n by omega)
  cases h2 : inB (ns.length : Int) 1 255
  · have HE := Lib.hid (Dt.okTree_no2 (n := (m : Int)) h2)
    have H2 := Lib.hid h2
    clear h2
    go_enter Try.func19, Try.ntmps19
    go_wp2_with (go_at_call 37; refine (in_any _ _ _ _).mono ?_; rintro e w' ⟨rfl, rfl⟩; first | rw [H1.out] | rw [H2.out])
    go_ret
    exact ⟨ret_bool HE.out.symm, Below.refl _ _⟩
  have HI2 := in_isD h2
  have H2 := Lib.hid h2
  obtain ⟨l1, l5⟩ := inB_iff.1 h2; clear h2
  go_enter Try.func19, Try.ntmps19
  go_wp2_with (first | (go_at_call 37; refine (in_any _ _ _ _).mono ?_; rintro e w' ⟨rfl, rfl⟩; first | rw [H1.out] | rw [H2.out]) | (at_make; refine wpList_mk slInt rfl _ _ rfl ns.length rfl rfl (by omega) ?_))
  intro w1 hown hb hsz
  have hown : w1.ownsRow w.heap.size 3 1 (.slice (some ⟨w.heap.size, 0, none⟩) ns.length ns.length) ns.length ((Dt.ctL ns 0).map (Value.int .i64)) := by
    rw [Dt.ctL_zero, ← toList_madeCells_one]; simpa [Value.cells] using hown
  have HO := Lib.hid hown; clear hown
  have HB := Lib.hid hb; clear hb hsz
  go_wp2
  go_loopw [6, 7, 22] (fun _ _ i wr => ∃ k : Nat, k ≤ ns.length ∧ i = .int .i64 k ∧ (∀ j, j < k → Dt.okNode m j ns.length (ns.getD j Dt.nd0) = true) ∧ wr.ownsRow w.heap.size 3 1 (.slice (some ⟨w.heap.size, 0, none⟩) ns.length ns.length) ns.length ((Dt.ctL ns k).map (Value.int .i64)) ∧ Below w.heap.size w wr) (fun _ _ i _ => ns.length - (intOf i).toNat)
  case atStart => exact ⟨0, by omega, rfl, by intro j h; omega, HO.out, HB.out⟩
  case round =>
    obtain ⟨k, hk, rfl, hall, hown, hb⟩ := hrel
    have HA := Lib.hid hall; clear hall HO HB
    have HB := Lib.hid hb; clear hb
    have HOW := Lib.hid hown; clear hown
    by_cases hlt : k < ns.length
    · obtain ⟨b, off, rfl, hn⟩ := (H.out.same HB.out).at hlt
      obtain ⟨c0, c1, c2, c3, ⟨x, cx, c4, hi, _⟩, hbg⟩ := hn
      have HI := Lib.hid hi; clear hi
      generalize hd : ns.getD k Dt.nd0 = d at c0 c1 c2 c3 c4 HI hbg
      have HD := Lib.hid hd; clear hd
      obtain ⟨d1, d2, d3, d4, o⟩ := d
      simp only [Dt.Nd.a, Dt.Nd.b, Dt.Nd.l, Dt.Nd.g, Dt.Nd.o] at c0 c1 c2 c3 c4 hbg
      go_wp2_with fail
      refine (isDecision_any d1 d2 d3 d4 x cx o m k ns.length _ (by omega) (by omega) (by omega) (by omega) hbg (HI.out.below (Nat.le_refl _) (by (repeat (first | exact Below.refl _ _ | assumption | refine Below.setCell ?_ (by first | omega | (simp; done) | (simp; omega)) _ | refine Below.alloc ?_ (by first | omega | (simp; done) | (simp; omega)) _ | refine Below.drew ?_ | refine below_drewN ?_ _))))).mono ?_
      rintro e w2 ⟨rfl, hb2⟩
      have e4 : w2.cell? ⟨wr.heap.size, 4, none⟩ = some (.slice x o.length cx) := (hb2.cell (p := ⟨wr.heap.size, 4, none⟩) (by simp)).trans (by simp [go_sem])
      have e3 : w2.cell? ⟨wr.heap.size, 3, none⟩ = some (.int .i64 d4) := (hb2.cell (p := ⟨wr.heap.size, 3, none⟩) (by simp)).trans (by simp [go_sem])
      have e2 : w2.cell? ⟨wr.heap.size, 2, none⟩ = some (.int .i64 d3) := (hb2.cell (p := ⟨wr.heap.size, 2, none⟩) (by simp)).trans (by simp [go_sem])
      have HC := Lib.hid (show Below wr.heap.size wr w2 from Below.trans (by (repeat (first | exact Below.refl _ _ | assumption | refine Below.setCell ?_ (by first | omega | (simp; done) | (simp; omega)) _ | refine Below.alloc ?_ (by first | omega | (simp; done) | (simp; omega)) _ | refine Below.drew ?_ | refine below_drewN ?_ _))) (hb2.mono (by simp)))
      have HB2 := Lib.hid (HB.out.trans (HC.out.mono HB.out.size))
      have HO2 := Lib.hid (own_below HOW.out (Nat.le_refl _) HC.out)
      have hne0 : w.heap.size < wr.heap.size := (HOW.out.lt _ rfl).2
      clear hb2 c0 c1 c2 c3 c4
      cases hok : Dt.okNode m k ns.length (d1, d2, d3, d4, o)
      · have HV := Lib.hid hok; clear hok
        go_wp2
        go_ret
        exact ⟨ret_bool (Dt.okTree_no3 hlt (by rw [HD.out]; exact HV.out)).symm, HB2.out⟩
      · have HV := Lib.hid hok
        have HA2 : Hid (∀ j, j < k + 1 → Dt.okNode m j ns.length (ns.getD j Dt.nd0) = true) := fun j hj => by
          rcases Nat.lt_succ_iff_lt_or_eq.1 hj with h | rfl
          · exact HA.out j h
          · rw [HD.out]; exact HV.out
        by_cases h0 : 0 < o.length
        · clear hok
          go_wp2
          go_roundw
          case rel => exact ⟨k + 1, by omega, by go_num, HA2.out, by rw [Dt.ctL_leaf hlt (by rw [HD.out]; exact h0)]; exact HO2.out, HB2.out⟩
          case measure => simp [intOf]; omega
        · have h00 : o.length = 0 := by omega
          obtain ⟨_, _, p1, p2⟩ := Dt.okNode_in hok h00
          have hne := Dt.okNode_ne hok h00
          simp only [Dt.Nd.l, Dt.Nd.g] at p1 p2 hne
          clear hok
          obtain ⟨l, rfl⟩ := Int.eq_ofNat_of_zero_le (show (0 : Int) ≤ d3 by omega)
          obtain ⟨g, rfl⟩ := Int.eq_ofNat_of_zero_le (show (0 : Int) ≤ d4 by omega)
          have hl : l < ns.length := by omega
          have hg : g < ns.length := by omega
          have hne : l ≠ g := by omega
          have hne2 : g ≠ l := by omega
          have hq1 := (HO2.out.cellAt l (by omega)).trans (Dt.ctL_map hl)
          have hq2 := (HO2.out.cellAt g (by omega)).trans (Dt.ctL_map hg)
          have hf1 := HO2.out.frozenAt l
          have hf2 := HO2.out.frozenAt g
          have hp1 := Dt.parN_le (ns.take k) l
          have hp2 := Dt.parN_le (ns.take k) g
          have htk : (ns.take k).length ≤ 255 := by simp; omega
          have HR := Lib.hid ((HO2.out.stored l (.int .i64 (((Dt.parN (ns.take k) l : Nat) : Int) + 1))).1.stored g (.int .i64 (((Dt.parN (ns.take k) g : Nat) : Int) + 1))).1
          have HS := Lib.hid (Dt.ctL_in hlt (by rw [HD.out]; exact h00) (by rw [HD.out]) (by rw [HD.out]) hl hg hne)
          generalize Dt.parN (ns.take k) l = c1 at hq1 hp1 HR HS
          generalize Dt.parN (ns.take k) g = c2 at hq2 hp2 HR HS
          go_wp2
          go_roundw
          case rel => exact ⟨k + 1, by omega, by go_num, HA2.out, by rw [← HS.out]; exact HR.out, Below.setCell (p := ⟨w.heap.size, g, none⟩) (Below.setCell (p := ⟨w.heap.size, l, none⟩) HB2.out (Nat.le_refl _) _) (Nat.le_refl _) _⟩
          case measure => simp [intOf]; omega
    · have e : k = ns.length := by omega
      subst e
      have hdl : ((Dt.ctL ns ns.length).drop 1).length = ns.length - 1 := by simp [Dt.ctL]
      have HE := Lib.hid (Dt.okTree_yes H1.out H2.out HA.out)
      have HALL : Hid (∀ x c, IntsAt wr x ((Dt.ctL ns ns.length).drop 1) → Calls Try.prog 35 #[.slice x (ns.length - 1) c, .func (.func 39) #[] #[]] wr fun e w' => e = .returned (.bool (Dt.parsOk ns)) ∧ Below wr.heap.size wr w') := by
        intro x c hx
        have := allI_any x c ((Dt.ctL ns ns.length).drop 1) _ _ _ wr (by rw [hdl]; omega) hx (isOne_pred wr) (fun _ _ => trivial)
        rw [hdl, Dt.ctL_pars] at this
        exact this
      have HX := Lib.hid (ints_dropD (n := 0) (ownInts HOW.out) 1)
      go_wp2_with fail
      · have h9 : ns.length - 1 = 0 := by omega
        have hA := HALL.out (some ⟨w.heap.size, 0, none⟩) 0 (.inl (List.eq_nil_of_length_eq_zero (by omega)))
        rw [h9] at hA
        refine hA.mono ?_
        rintro e w3 ⟨rfl, hb3⟩
        have HB3 := Lib.hid (HB.out.trans (hb3.mono HB.out.size)); clear hb3
        go_wp2
        go_ret
        exact ⟨ret_bool HE.out.symm, HB3.out⟩
      · refine (HALL.out _ _ HX.out).mono ?_
        rintro e w3 ⟨rfl, hb3⟩
        have HB3 := Lib.hid (HB.out.trans (hb3.mono HB.out.size)); clear hb3
        go_wp2
        go_ret
        exact ⟨ret_bool HE.out.symm, HB3.out⟩

end Go.Proofs.Ytcncjedhpnaoaaa

namespace Go.Proofs.Ytcncjedhpnaoaaa
open Go.RowKit
set_option linter.unusedVariables false

set_option maxHeartbeats 400000 in
theorem l23Node_any (d1 d2 d3 d4 : Int) (a : Option Addr) (c : Nat) (o : List Int) (n i size : Nat) (w : World) (hn : 1 ≤ n) (hn5 : n ≤ 5) (hi : i ≤ 255) (hs : size ≤ 255) (hl : o.length ≤ 9223372036854775807) (h : IntsAt w a o) :
    Calls Try.prog 41 #[.agg #[.int .i64 d1, .int .i64 d2, .int .i64 d3, .int .i64 d4, .slice a o.length c], .int .i64 i, .int .i64 size, .int .i64 n] w fun e w' => e = .returned (.bool (Dt.okNode n i size (d1, d2, d3, d4, o))) ∧ Below w.heap.size w w' := by
  have H := Lib.hid h; clear h
  by_cases h0 : 0 < o.length
  · have HK : Hid (Dt.okNode n i size (d1, d2, d3, d4, o) = ((d1 == 0 && d2 == 0 && d3 == 0 && d4 == 0) && (decide (o.length = n) && okPerm o))) := by show _ = _; unfold Dt.okNode; rw [if_pos h0]
    go_enter Try.func41, Try.ntmps41
    go_wp2_with (go_at_call 51; refine (l3Good_any a c o _ hl (H.out.below (Nat.le_refl _) (by (repeat (first | exact Below.refl _ _ | assumption | refine Below.setCell ?_ (by first | omega | (simp; done) | (simp; omega)) _ | refine Below.alloc ?_ (by first | omega | (simp; done) | (simp; omega)) _ | refine Below.drew ?_ | refine below_drewN ?_ _))))).mono ?_; rintro e w' ⟨rfl, hb⟩; obtain ⟨hcl, hfr⟩ := standsN hb)
    all_goals go_ret
    all_goals refine ⟨ret_bool ?_, ?_⟩
    all_goals first | ((try clear hcl hfr); (try clear hb); have hk := HK.out; clear HK H; rw [hk]; clear hk; (first | (have e9 : o.length = n := by omega) | (have e9 : ¬ o.length = n := by omega) | skip); simp [*]; done) | ((repeat (first | exact Below.refl _ _ | assumption | refine Below.setCell ?_ (by first | omega | (simp; done) | (simp; omega)) _ | refine Below.alloc ?_ (by first | omega | (simp; done) | (simp; omega)) _ | refine Below.drew ?_ | refine below_drewN ?_ _)); done) | (exact Below.trans (by (repeat (first | exact Below.refl _ _ | assumption | refine Below.setCell ?_ (by first | omega | (simp; done) | (simp; omega)) _ | refine Below.alloc ?_ (by first | omega | (simp; done) | (simp; omega)) _ | refine Below.drew ?_ | refine below_drewN ?_ _))) (hb.mono (by simp))) | skip
  · have HK : Hid (Dt.okNode n i size (d1, d2, d3, d4, o) = ((d1 != d2 && inB d1 0 ((n : Int) - 1) && inB d2 0 ((n : Int) - 1)) && (d3 != d4 && inB d3 ((i : Int) + 1) ((size : Int) - 1) && inB d4 ((i : Int) + 1) ((size : Int) - 1)))) := by show _ = _; unfold Dt.okNode; rw [if_neg h0]
    have h00 : o.length = 0 := by omega
    go_enter Try.func41, Try.ntmps41
    go_wp2_with (go_at_call 40; refine (l1In_any _ _ _ _).mono ?_; rintro e w' ⟨rfl, rfl⟩)
    all_goals go_ret
    all_goals refine ⟨ret_bool ?_, ?_⟩
    all_goals first | ((try clear hcl hfr); (try clear hb); have hk := HK.out; clear HK H; rw [hk]; clear hk; (first | (have e9 : o.length = n := by omega) | (have e9 : ¬ o.length = n := by omega) | skip); simp [*]; done) | ((repeat (first | exact Below.refl _ _ | assumption | refine Below.setCell ?_ (by first | omega | (simp; done) | (simp; omega)) _ | refine Below.alloc ?_ (by first | omega | (simp; done) | (simp; omega)) _ | refine Below.drew ?_ | refine below_drewN ?_ _)); done) | (exact Below.trans (by (repeat (first | exact Below.refl _ _ | assumption | refine Below.setCell ?_ (by first | omega | (simp; done) | (simp; omega)) _ | refine Below.alloc ?_ (by first | omega | (simp; done) | (simp; omega)) _ | refine Below.drew ?_ | refine below_drewN ?_ _))) (hb.mono (by simp))) | (have hk := HK.out; clear HK H; rw [hk]; clear hk h00 h0 hn hn5 hi hs hl; grind) | (have hk := HK.out; clear HK H; rw [hk]; clear hk; cases inB d4 ((i : Int) + 1) ((size : Int) - 1) <;> simp_all; done) | skip

end Go.Proofs.Ytcncjedhpnaoaaa

namespace Go.Proofs.Ytcncjedhpnaoaaa
open Go.RowKit
set_option linter.unusedVariables false

set_option maxHeartbeats 400000 in
theorem l23Good_any (a : Option Addr) (cap : Nat) (ns : List Dt.Nd) (n : Int) (w : World) (hbig : ns.length ≤ 9223372036854775807) (h : NodesAt w a ns) :
    Calls Try.prog 22 #[.slice a ns.length cap, .int .i64 n] w fun e w' => e = .returned (.bool (Dt.okTree n ns)) ∧ Below w.heap.size w w' := by
  have H := Lib.hid h; clear h
  cases h1 : inB n 1 5
  · have HE := Lib.hid (Dt.okTree_no1 (ns := ns) h1)
    have HI := l1In_isD h1
    clear h1
    go_enter Try.func22, Try.ntmps22
    go_wp2_with (go_at_call 40; refine (HI.out _).mono ?_; rintro e w' ⟨rfl, rfl⟩)
    go_ret
    exact ⟨ret_bool HE.out.symm, Below.refl _ _⟩
  have HI1 := l1In_isD h1
  have H1 := Lib.hid h1
  obtain ⟨n1, n5⟩ := inB_iff.1 h1; clear h1
  obtain ⟨m, rfl⟩ := Int.eq_ofNat_of_zero_le (show (0 : Int) ≤ n by omega)
  cases h2 : inB (ns.length : Int) 1 255
  · have HE := Lib.hid (Dt.okTree_no2 (n := (m : Int)) h2)
    have H2 := Lib.hid h2
    clear h2
    go_enter Try.func22, Try.ntmps22
    go_wp2_with (go_at_call 40; refine (l1In_any _ _ _ _).mono ?_; rintro e w' ⟨rfl, rfl⟩; first | rw [H1.out] | rw [H2.out])
    go_ret
    exact ⟨ret_bool HE.out.symm, Below.refl _ _⟩
  have HI2 := l1In_isD h2
  have H2 := Lib.hid h2
  obtain ⟨l1, l5⟩ := inB_iff.1 h2; clear h2
  go_enter Try.func22, Try.ntmps22
  go_wp2_with (first | (go_at_call 40; refine (l1In_any _ _ _ _).mono ?_; rintro e w' ⟨rfl, rfl⟩; first | rw [H1.out] | rw [H2.out]) | (at_make; refine wpList_mk slInt rfl _ _ rfl ns.length rfl rfl (by omega) ?_))
  intro w1 hown hb hsz
  have hown : w1.ownsRow w.heap.size 3 1 (.slice (some ⟨w.heap.size, 0, none⟩) ns.length ns.length) ns.length ((Dt.ctL ns 0).map (Value.int .i64)) := by
    rw [Dt.ctL_zero, ← toList_madeCells_one]; simpa [Value.cells] using hown
  have HO := Lib.hid hown; clear hown
  have HB := Lib.hid hb; clear hb hsz
  go_wp2
  go_loopw [7] (fun i wr => ∃ k : Nat, k ≤ ns.length ∧ i = .int .i64 k ∧ (∀ j, j < k → Dt.okNode m j ns.length (ns.getD j Dt.nd0) = true) ∧ wr.ownsRow w.heap.size 3 1 (.slice (some ⟨w.heap.size, 0, none⟩) ns.length ns.length) ns.length ((Dt.ctL ns k).map (Value.int .i64)) ∧ Below w.heap.size w wr) (fun i _ => ns.length - (intOf i).toNat)
  case atStart => exact ⟨0, by omega, rfl, by intro j h; omega, HO.out, HB.out⟩
  case round =>
    obtain ⟨k, hk, rfl, hall, hown, hb⟩ := hrel
    have HA := Lib.hid hall; clear hall HO HB
    have HB := Lib.hid hb; clear hb
    have HOW := Lib.hid hown; clear hown
    by_cases hlt : k < ns.length
    · obtain ⟨b, off, rfl, hn0⟩ := H.out.at hlt
      have hbw := World.block_lt_of_cell? w _ hn0.c0
      have hn := hn0.below HB.out
      have HN := Lib.hid hn0; clear hn0
      obtain ⟨c0, c1, c2, c3, ⟨x, cx, c4, hi, _⟩, hbg⟩ := hn
      have HI := Lib.hid hi; clear hi
      generalize hd : ns.getD k Dt.nd0 = d at c0 c1 c2 c3 c4 HI hbg HN
      have HD := Lib.hid hd; clear hd
      obtain ⟨d1, d2, d3, d4, o⟩ := d
      simp only [Dt.Nd.a, Dt.Nd.b, Dt.Nd.l, Dt.Nd.g, Dt.Nd.o] at c0 c1 c2 c3 c4 hbg
      go_wp2_with fail
      refine (l23Node_any d1 d2 d3 d4 x cx o m k ns.length _ (by omega) (by omega) (by omega) (by omega) hbg HI.out).mono ?_
      rintro e w2 ⟨rfl, hb2⟩
      have hbk : b < wr.heap.size := Nat.lt_of_lt_of_le hbw HB.out.size
      have e4 : w2.cell? ⟨b, off + k * 5 + 4, none⟩ = some (.slice x o.length cx) := (hb2.cell (p := ⟨b, off + k * 5 + 4, none⟩) hbk).trans c4
      have e3 : w2.cell? ⟨b, off + k * 5 + 3, none⟩ = some (.int .i64 d4) := (hb2.cell (p := ⟨b, off + k * 5 + 3, none⟩) hbk).trans c3
      have e2 : w2.cell? ⟨b, off + k * 5 + 2, none⟩ = some (.int .i64 d3) := (hb2.cell (p := ⟨b, off + k * 5 + 2, none⟩) hbk).trans c2
      have HB2 := Lib.hid (HB.out.trans (hb2.mono HB.out.size))
      have HO2 := Lib.hid (own_below HOW.out (Nat.le_refl _) hb2)
      have hnb : b ≠ w.heap.size := by have : b < w.heap.size := hbw; omega
      have hnb2 : w.heap.size ≠ b := by have : b < w.heap.size := hbw; omega
      clear hb2 c0 c1 c2 c3 c4
      cases hok : Dt.okNode m k ns.length (d1, d2, d3, d4, o)
      · have HV := Lib.hid hok; clear hok
        go_wp2
        go_ret
        exact ⟨ret_bool (Dt.okTree_no3 hlt (by rw [HD.out]; exact HV.out)).symm, HB2.out⟩
      · have HV := Lib.hid hok
        have HA2 : Hid (∀ j, j < k + 1 → Dt.okNode m j ns.length (ns.getD j Dt.nd0) = true) := fun j hj => by
          rcases Nat.lt_succ_iff_lt_or_eq.1 hj with h | rfl
          · exact HA.out j h
          · rw [HD.out]; exact HV.out
        by_cases h0 : 0 < o.length
        · clear hok
          go_wp2
          go_roundw
          case rel => exact ⟨k + 1, by omega, by go_num, HA2.out, by rw [Dt.ctL_leaf hlt (by rw [HD.out]; exact h0)]; exact HO2.out, HB2.out⟩
          case measure => simp [intOf]; omega
        · have h00 : o.length = 0 := by omega
          obtain ⟨_, _, p1, p2⟩ := Dt.okNode_in hok h00
          have hne := Dt.okNode_ne hok h00
          simp only [Dt.Nd.l, Dt.Nd.g] at p1 p2 hne
          clear hok
          obtain ⟨l, rfl⟩ := Int.eq_ofNat_of_zero_le (show (0 : Int) ≤ d3 by omega)
          obtain ⟨g, rfl⟩ := Int.eq_ofNat_of_zero_le (show (0 : Int) ≤ d4 by omega)
          have hl : l < ns.length := by omega
          have hg : g < ns.length := by omega
          have hne : l ≠ g := by omega
          have hne2 : g ≠ l := by omega
          have hq1 := (HO2.out.cellAt l (by omega)).trans (Dt.ctL_map hl)
          have hq2 := (HO2.out.cellAt g (by omega)).trans (Dt.ctL_map hg)
          have hf1 := HO2.out.frozenAt l
          have hf2 := HO2.out.frozenAt g
          have hp1 := Dt.parN_le (ns.take k) l
          have hp2 := Dt.parN_le (ns.take k) g
          have htk : (ns.take k).length ≤ 255 := by simp; omega
          have HR := Lib.hid ((HO2.out.stored l (.int .i64 (((Dt.parN (ns.take k) l : Nat) : Int) + 1))).1.stored g (.int .i64 (((Dt.parN (ns.take k) g : Nat) : Int) + 1))).1
          have HS := Lib.hid (Dt.ctL_in hlt (by rw [HD.out]; exact h00) (by rw [HD.out]) (by rw [HD.out]) hl hg hne)
          generalize Dt.parN (ns.take k) l = c1 at hq1 hp1 HR HS
          generalize Dt.parN (ns.take k) g = c2 at hq2 hp2 HR HS
          go_wp2
          go_roundw
          case rel => exact ⟨k + 1, by omega, by go_num, HA2.out, by rw [← HS.out]; exact HR.out, Below.setCell (p := ⟨w.heap.size, g, none⟩) (Below.setCell (p := ⟨w.heap.size, l, none⟩) HB2.out (Nat.le_refl _) _) (Nat.le_refl _) _⟩
          case measure => simp [intOf]; omega
    · have e : k = ns.length := by omega
      subst e
      have HE := Lib.hid (Dt.okTree_yes H1.out H2.out HA.out)
      go_wp2
      go_loopw [8] (fun i wq => ∃ k : Nat, 1 ≤ k ∧ k ≤ ns.length ∧ i = .int .i64 k ∧ (∀ j, j + 1 < k → Dt.parN ns (j + 1) = 1) ∧ wq = wr) (fun i _ => ns.length - (intOf i).toNat)
      case atStart => exact ⟨1, by omega, by omega, rfl, by intro j h; omega, rfl⟩
      case round =>
        obtain ⟨k, hk1, hk2, rfl, hall, rfl⟩ := hrel
        have HP := Lib.hid hall; clear hall
        by_cases hlt : k < ns.length
        · have hq1 := (HOW.out.cellAt k (by omega)).trans (Dt.ctL_map hlt)
          rw [List.take_length] at hq1
          generalize hp : Dt.parN ns k = c1 at hq1
          have HPP := Lib.hid hp; clear hp
          by_cases h1 : c1 = 1
          · subst h1
            go_wp2
            go_roundw
            case rel =>
              refine ⟨k + 1, by omega, by omega, by go_num, fun j hj => ?_, by trivial⟩
              by_cases e : j + 1 = k
              · rw [e]; exact HPP.out
              · exact HP.out j (by omega)
            case measure => simp [intOf]; omega
          · have hne : ((c1 : Int) != 1) = true := by simp; omega
            go_wp2
            go_ret
            refine ⟨ret_bool ?_, HB.out⟩
            rw [HE.out]
            symm
            unfold Dt.parsOk
            rw [List.all_eq_false]
            refine ⟨k - 1, List.mem_range.2 (by omega), ?_⟩
            rw [show k - 1 + 1 = k by omega, HPP.out]
            simp [h1]
        · go_wp2
          go_ret
          refine ⟨ret_bool ?_, HB.out⟩
          rw [HE.out]
          symm
          unfold Dt.parsOk
          rw [List.all_eq_true]
          intro j hj
          have hj := List.mem_range.1 hj
          rw [HP.out j (by omega)]; rfl

set_option maxHeartbeats 400000 in
theorem specIsValidDecisions_any (a : Option Addr) (cap : Nat) (ns : List Dt.Nd) (n : Int) (w : World) (hbig : ns.length ≤ 9223372036854775807) (h : NodesAt w a ns) :
    Calls Try.prog 8 #[.slice a ns.length cap, .int .i64 n] w fun e w' => e = .returned (.bool (Dt.okTree n ns)) ∧ Below w.heap.size w w' := by
  have HG := Lib.hid (l23Good_any a cap ns n w hbig h); clear h
  go_enter Try.func8, Try.ntmps8
  go_wp2_with fail
  refine HG.out.mono ?_
  rintro e w2 ⟨rfl, hb2⟩
  have HB := Lib.hid hb2; clear hb2
  go_wp2
  go_ret
  exact ⟨rfl, HB.out⟩

end Go.Proofs.Ytcncjedhpnaoaaa

