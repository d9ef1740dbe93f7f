/- Several texts in one: lemmas and walks of the functions that the laws reach. -/
import Derived.Test.YtkckmjajjdpodaaY23
import Derived.Test.YtkckmjajjdpodaaY17

/- The law FnExactExternalSort: its walk. -/
namespace Go.Proofs.Ytkckmjajjdpodaa
open Go.RowKit Go.Sort
set_option linter.unusedVariables false

set_option maxHeartbeats 400000 in
theorem heldRecordsE_any (a : Option Addr) (c : Nat) (rs : List (Int × Int)) (k : Int) (w : World) (hn : rs.length ≤ 1048576) (hk0 : 0 ≤ k) (hk1 : k ≤ 1099511627776) (h : RecsAt w a rs) (hm : ∀ j, j < rs.length → rs.getD j (0, 0) = (k + 2 * (j : Int), k + 2 * (j : Int) + 1)) :
    Calls Try.prog 71 #[.slice a rs.length c, .int .i64 k] w fun e w' => e = .returned (.int .i64 (k + 2 * (rs.length : Int))) ∧ w = w' := by
  have H := Lib.hid h; clear h
  have HM := Lib.hid hm; clear hm
  go_enter Try.func71, Try.ntmps71
  go_wp2
  go_loop [1, 5] (fun v i => ∃ j : Nat, j ≤ rs.length ∧ i = .int .i64 j ∧ v = .int .i64 (k + 2 * (j : Int))) (fun _ i => rs.length - (intOf i).toNat)
  case atStart => exact ⟨0, by omega, rfl, by simp⟩
  case round =>
    obtain ⟨j, hj, rfl, rfl⟩ := hrel
    by_cases hlt : j < rs.length
    · obtain ⟨b, off, rfl, hc1, hc2⟩ := H.out.at hlt
      rw [HM.out j hlt] at hc1 hc2
      have q1 : ((k + 2 * (j : Int)) != (k + 2 * (j : Int))) = false := by simp
      have q2 : ((k + 2 * (j : Int) + 1) != (k + 2 * (j : Int) + 1)) = false := by simp
      go_wp2
      go_round
      case rel => exact ⟨j + 1, by omega, by go_num, by go_num⟩
      case measure => simp [intOf]; omega
    · have e : j = rs.length := by omega
      subst e
      go_wp2
      go_ret
      exact ⟨rfl, rfl⟩

set_option maxHeartbeats 400000 in
theorem markRecordsE_any (B : Nat) (a : Option Addr) (c : Nat) (rs : List (Int × Int)) (k : Int) (w : World) (hn : rs.length ≤ 1048576) (hk0 : 0 ≤ k) (hk1 : k ≤ 1099511627776) (h : w.ownsRow B 72 2 (.slice a rs.length c) rs.length (flat encR rs)) :
    Calls Try.prog 33 #[.slice a rs.length c, .int .i64 k] w fun e w' => e = .returned (.int .i64 (k + 2 * (rs.length : Int))) ∧ w'.ownsRow B 72 2 (.slice a rs.length c) rs.length (flat encR (mkR rs k rs.length)) ∧ w.grownBy w' (Value.slice a rs.length c).ownBlock := by
  have H := Lib.hid h; clear h
  go_enter Try.func33, Try.ntmps33
  go_wp2
  go_loopw [1, 5] (fun v i wr => ∃ j : Nat, j ≤ rs.length ∧ i = .int .i64 j ∧ v = .int .i64 (k + 2 * (j : Int)) ∧ wr.ownsRow B 72 2 (.slice a rs.length c) rs.length (flat encR (mkR rs k j)) ∧ w.grownBy wr (Value.slice a rs.length c).ownBlock) (fun _ i _ => rs.length - (intOf i).toNat)
  case atStart => exact ⟨0, by omega, rfl, by simp, by rw [mkR_zero]; exact H.out, grown_refl _ _⟩
  case round =>
    obtain ⟨j, hj, rfl, rfl, hown, hg⟩ := hrel
    by_cases hlt : j < rs.length
    · obtain ⟨g, rfl, _, _, hc⟩ := own_cell hown (by omega)
      have hL : (flat encR (mkR rs k j)).length = rs.length * 2 := by rw [flat_length encR_len, mkR_len]
      have hq1 := hc (j * 2) (by omega)
      obtain ⟨z, hc1⟩ : ∃ z, wr.cell? ⟨g, j * 2, none⟩ = some z := ⟨_, by rw [hq1, List.getElem?_eq_getElem (by omega)]⟩
      clear hq1
      have hf1 := hown.frozenAt (j * 2)
      have R1 := hown.stored (j * 2) (.int .i64 (k + 2 * (j : Int)))
      have hq2 := R1.1.cellAt (j * 2 + 1) (by omega)
      obtain ⟨z2, hc2⟩ : ∃ z2, (wr.setCell ⟨g, j * 2, none⟩ (.int .i64 (k + 2 * (j : Int)))).cell? ⟨g, j * 2 + 1, none⟩ = some z2 := ⟨_, by rw [hq2, List.getElem?_eq_getElem (by rw [List.length_set]; omega)]⟩
      clear hq2
      have hf2 := R1.1.frozenAt (j * 2 + 1)
      have R2 := R1.1.stored (j * 2 + 1) (.int .i64 (k + 2 * (j : Int) + 1))
      rw [flat_set2 encR_len _ j (by rw [mkR_len]; exact hlt) (k + 2 * (j : Int), k + 2 * (j : Int) + 1) _ _ rfl, mkR_succ hlt] at R2
      have HR := Lib.hid R2
      have HG := Lib.hid (grown_trans (grown_trans hg R1.2) R2.2)
      clear hc hown hg R1 R2 hL
      go_wp2
      go_roundw
      case rel => exact ⟨j + 1, by omega, by go_num, by go_num, HR.out.1, HG.out⟩
      case measure => simp [intOf]; omega
    · have e : j = rs.length := by omega
      subst e
      have HO := Lib.hid hown
      have HG := Lib.hid hg
      clear hown hg
      go_wp2
      go_ret
      exact ⟨rfl, HO.out, HG.out⟩

/-- A list given back, that is the caller's own or empty. -/
structure OutE (w : World) (B : Nat) (a : Option Addr) (n c : Nat) (G : List (Int × Int)) : Prop where
  own : OwnE w B a n c G
  len : G.length = n
  nil : NilOk a c
  cap : n ≤ c
theorem OwnE.same {w w' : World} {B n c : Nat} {a : Option Addr} {G : List (Int × Int)} (h : OwnE w B a n c G) (hb : Below w.heap.size w w') : OwnE w' B a n c G := h.imp id fun h => own_below h (Nat.le_refl _) hb
theorem OwnE.mono {w : World} {B B' n c : Nat} {a : Option Addr} {G : List (Int × Int)} (h : OwnE w B a n c G) (hB : B' ≤ B) : OwnE w B' a n c G := h.imp id fun h => own_mono h hB
theorem OwnE.other {w w' : World} {B n c : Nat} {a : Option Addr} {G : List (Int × Int)} {row : Option Nat} (h : OwnE w B a n c G) (hg : w.grownBy w' row) (hne : ∀ k, (Value.slice a n c).ownBlock = some k → B ≤ k → row ≠ some k) : OwnE w' B a n c G :=
  h.imp id fun h => own_other h hg (fun k hk => hne k hk (h.lt k hk).1)
theorem OutE.rd {w : World} {B n c : Nat} {a : Option Addr} {G : List (Int × Int)} (h : OutE w B a n c G) : Rd w a n c G := by
  rcases h.own with ⟨h1, h2⟩ | h1
  · exact ⟨.inl h2, h.len, h.nil, h.cap⟩
  · exact rd_own h1
theorem OutE.same {w w' : World} {B n c : Nat} {a : Option Addr} {G : List (Int × Int)} (h : OutE w B a n c G) (hb : Below w.heap.size w w') : OutE w' B a n c G := ⟨h.own.same hb, h.len, h.nil, h.cap⟩

/-- What has come up in the region that converts the arguments, calls, and lays the answer's struct aside. -/
def XKK (wR : World) (ty : TypeId) (n : Nat) (zs G : List (Int × Int)) (C : Array Value) (ok : Bool) (b : Nat → Bool) (x : Nat → Value) (w : World) : Prop :=
  Below wR.heap.size wR w ∧
  (b 1 = true → ∃ g, x 1 = .slice (some ⟨g, 0, none⟩) n n ∧ (b 4 = false → Rd w (some ⟨g, 0, none⟩) n n zs)) ∧
  (b 9 = true → ∃ T, x 9 = .pointer (some ⟨T, 0, none⟩) ∧ wR.heap.size ≤ T ∧ T < w.heap.size ∧ (b 11 = false → w.heap[T]? = some (.cells z4 ty (0, 0))) ∧ (b 11 = true → w.heap[T]? = some (.cells C ty (0, 0)))) ∧
  (b 4 = true → ∃ aw nw cw, x 4 = .tuple #[.slice aw nw cw, .agg C, .bool ok] ∧ OutE w wR.heap.size aw nw cw G ∧ (b 5 = true → x 5 = x 4) ∧ (b 6 = true → x 6 = .slice aw nw cw) ∧ (b 10 = true → x 10 = .slice aw nw cw) ∧ (b 9 = true → ∀ k, (Value.slice aw nw cw).ownBlock = some k → nw ≠ 0 → x 9 ≠ .pointer (some ⟨k, 0, none⟩)))
section
variable {wR w w' : World} {ty : TypeId} {n : Nat} {zs G : List (Int × Int)} {C : Array Value} {ok : Bool} {b : Nat → Bool} {x : Nat → Value}
theorem XKK.start (k : Nat) : XKK wR ty n zs G C ok (fun j => (Array.replicate k false).getD j false) x wR :=
  ⟨Below.refl _ _, fun h => absurd ((rep_false k 1).symm.trans h) (by decide), fun h => absurd ((rep_false k 9).symm.trans h) (by decide), fun h => absurd ((rep_false k 4).symm.trans h) (by decide)⟩
theorem XKK.below (h : XKK wR ty n zs G C ok b x w) (hb : Below w.heap.size w w') : XKK wR ty n zs G C ok b x w' := by
  obtain ⟨h1, h2, h3, h4⟩ := h
  refine ⟨h1.trans (hb.mono h1.size), fun e => ?_, fun e => ?_, fun e => ?_⟩
  · obtain ⟨g, e1, e2⟩ := h2 e
    exact ⟨g, e1, fun e3 => (e2 e3).same hb⟩
  · obtain ⟨T, e1, g1, g2, g3, g4⟩ := h3 e
    exact ⟨T, e1, g1, Nat.lt_of_lt_of_le g2 hb.size, fun e2 => by rw [hb.block T g2]; exact g3 e2, fun e2 => by rw [hb.block T g2]; exact g4 e2⟩
  · obtain ⟨aw, nw, cw, e1, e2, e3⟩ := h4 e
    exact ⟨aw, nw, cw, e1, e2.same hb, e3⟩
theorem XKK.quiet (h : XKK wR ty n zs G C ok b x w) (i : Nat) (v : Value) (hi : i ≠ 1 ∧ i ≠ 4 ∧ i ≠ 5 ∧ i ≠ 6 ∧ i ≠ 9 ∧ i ≠ 10 ∧ i ≠ 11) : XKK wR ty n zs G C ok (upd b i true) (upd x i v) w := by
  obtain ⟨i1, i4, i5, i6, i9, i10, i11⟩ := hi
  unfold XKK
  rw [upd_ne (Ne.symm i1), upd_ne (Ne.symm i4), upd_ne (Ne.symm i5), upd_ne (Ne.symm i6), upd_ne (Ne.symm i9), upd_ne (Ne.symm i10), upd_ne (Ne.symm i11), upd_ne (Ne.symm i1), upd_ne (Ne.symm i4), upd_ne (Ne.symm i5), upd_ne (Ne.symm i6), upd_ne (Ne.symm i9), upd_ne (Ne.symm i10)]
  exact h
theorem XKK.conv (h : XKK wR ty n zs G C ok b x w) (h4 : b 4 = false) (hb : Below w.heap.size w w') (g : Nat) (hr : Rd w' (some ⟨g, 0, none⟩) n n zs) : XKK wR ty n zs G C ok (upd b 1 true) (upd x 1 (.slice (some ⟨g, 0, none⟩) n n)) w' := by
  obtain ⟨h1, h2, h3, h5⟩ := h.below hb
  refine ⟨h1, fun _ => ⟨g, upd_same, fun _ => hr⟩, fun e => ?_, fun e => ?_⟩
  · rw [upd_ne (by decide)] at e
    rw [upd_ne (by decide), upd_ne (by decide)]
    exact h3 e
  · rw [upd_ne (by decide), h4] at e; cases e
theorem XKK.call (h : XKK wR ty n zs G C ok b x w) (hb : Below w.heap.size w w') {aw : Option Addr} {nw cw : Nat} (ho : OutE w' w.heap.size aw nw cw G) (h5 : b 5 = false) (h6 : b 6 = false) (h10 : b 10 = false) : XKK wR ty n zs G C ok (upd b 4 true) (upd x 4 (.tuple #[.slice aw nw cw, .agg C, .bool ok])) w' := by
  have hsz := h.1.size
  have h9 := h.2.2.1
  obtain ⟨h1, h2, h3, -⟩ := h.below hb
  refine ⟨h1, fun e => ?_, fun e => ?_, fun _ => ⟨aw, nw, cw, upd_same, ⟨ho.own.mono hsz, ho.len, ho.nil, ho.cap⟩, fun e => ?_, fun e => ?_, fun e => ?_, fun e k hk hn => ?_⟩⟩
  · rw [upd_ne (by decide)] at e
    obtain ⟨g, e1, _⟩ := h2 e
    exact ⟨g, by rw [upd_ne (by decide)]; exact e1, fun e2 => by rw [upd_same] at e2; cases e2⟩
  · rw [upd_ne (by decide)] at e
    rw [upd_ne (by decide), upd_ne (by decide)]
    exact h3 e
  · rw [upd_ne (by decide), h5] at e; cases e
  · rw [upd_ne (by decide), h6] at e; cases e
  · rw [upd_ne (by decide), h10] at e; cases e
  · rw [upd_ne (by decide)] at e ⊢
    obtain ⟨T, e1, _, e3, _⟩ := h9 e
    rw [e1]
    intro e4
    injection e4 with e4
    injection e4 with e4
    injection e4 with e4
    rcases ho.own with ⟨e5, _⟩ | e5
    · exact hn e5
    · have := (e5.lt k hk).1; omega
theorem XKK.mv5 (h : XKK wR ty n zs G C ok b x w) (h4 : b 4 = true) : XKK wR ty n zs G C ok (upd b 5 true) (upd x 5 (x 4)) w := by
  obtain ⟨h1, h2, h3, h5⟩ := h
  obtain ⟨aw, nw, cw, e1, e2, e3, e4, e6, e7⟩ := h5 h4
  refine ⟨h1, ?_, ?_, fun _ => ⟨aw, nw, cw, ?_, e2, fun _ => ?_, ?_, ?_, ?_⟩⟩
  · rw [upd_ne (by decide), upd_ne (by decide), upd_ne (by decide)]; exact h2
  · rw [upd_ne (by decide), upd_ne (by decide), upd_ne (by decide)]; exact h3
  · rw [upd_ne (by decide)]; exact e1
  · rw [upd_same, upd_ne (by decide)]
  · rw [upd_ne (by decide), upd_ne (by decide)]; exact e4
  · rw [upd_ne (by decide), upd_ne (by decide)]; exact e6
  · rw [upd_ne (by decide), upd_ne (by decide)]; exact e7
theorem XKK.ex6 (h : XKK wR ty n zs G C ok b x w) (h4 : b 4 = true) {v : Value} (hv : ∀ aw nw cw, x 4 = .tuple #[.slice aw nw cw, .agg C, .bool ok] → v = .slice aw nw cw) : XKK wR ty n zs G C ok (upd b 6 true) (upd x 6 v) w := by
  obtain ⟨h1, h2, h3, h5⟩ := h
  obtain ⟨aw, nw, cw, e1, e2, e3, e4, e6, e7⟩ := h5 h4
  refine ⟨h1, ?_, ?_, fun _ => ⟨aw, nw, cw, ?_, e2, ?_, fun _ => ?_, ?_, ?_⟩⟩
  · rw [upd_ne (by decide), upd_ne (by decide), upd_ne (by decide)]; exact h2
  · rw [upd_ne (by decide), upd_ne (by decide), upd_ne (by decide)]; exact h3
  · rw [upd_ne (by decide)]; exact e1
  · rw [upd_ne (by decide), upd_ne (by decide), upd_ne (by decide)]; exact e3
  · rw [upd_same]; exact hv _ _ _ e1
  · rw [upd_ne (by decide), upd_ne (by decide)]; exact e6
  · rw [upd_ne (by decide), upd_ne (by decide)]; exact e7
theorem XKK.as10 (h : XKK wR ty n zs G C ok b x w) (h4 : b 4 = true) (h6 : b 6 = true) : XKK wR ty n zs G C ok (upd b 10 true) (upd x 10 (x 6)) w := by
  obtain ⟨h1, h2, h3, h5⟩ := h
  obtain ⟨aw, nw, cw, e1, e2, e3, e4, e6, e7⟩ := h5 h4
  refine ⟨h1, ?_, ?_, fun _ => ⟨aw, nw, cw, ?_, e2, ?_, ?_, fun _ => ?_, ?_⟩⟩
  · rw [upd_ne (by decide), upd_ne (by decide), upd_ne (by decide)]; exact h2
  · rw [upd_ne (by decide), upd_ne (by decide), upd_ne (by decide)]; exact h3
  · rw [upd_ne (by decide)]; exact e1
  · rw [upd_ne (by decide), upd_ne (by decide), upd_ne (by decide)]; exact e3
  · rw [upd_ne (by decide), upd_ne (by decide)]; exact e4
  · rw [upd_same]; exact e4 h6
  · rw [upd_ne (by decide), upd_ne (by decide)]; exact e7
theorem XKK.alloc (h : XKK wR ty n zs G C ok b x w) (h11 : b 11 = false) : XKK wR ty n zs G C ok (upd b 9 true) (upd x 9 (.pointer (some ⟨w.heap.size, 0, none⟩))) (w.alloc (.cells z4 ty)) := by
  have hsz := h.1.size
  have h4 := h.2.2.2
  obtain ⟨h1, h2, -, h5⟩ := h.below (belowNew w (.cells z4 ty))
  refine ⟨h1, ?_, fun _ => ⟨w.heap.size, upd_same, hsz, by simp, fun _ => block_new _ _, fun e => ?_⟩, fun e => ?_⟩
  · rw [upd_ne (by decide), upd_ne (by decide), upd_ne (by decide)]; exact h2
  · rw [upd_ne (by decide), h11] at e; cases e
  · rw [upd_ne (by decide)] at e
    obtain ⟨_, _, _, f1, f2, -⟩ := h4 e
    obtain ⟨aw, nw, cw, e1, e2, e3, e4, e6, e7⟩ := h5 e
    rw [f1] at e1
    injection e1 with e1
    injection e1 with e1
    injection e1 with e1 _
    injection e1 with a1 a2 a3
    subst a1 a2 a3
    refine ⟨_, _, _, ?_, e2, ?_, ?_, ?_, fun _ k hk hn => ?_⟩
    · rw [upd_ne (by decide)]; exact f1
    · rw [upd_ne (by decide), upd_ne (by decide), upd_ne (by decide)]; exact e3
    · rw [upd_ne (by decide), upd_ne (by decide)]; exact e4
    · rw [upd_ne (by decide), upd_ne (by decide)]; exact e6
    · rw [upd_same]
      intro e8
      injection e8 with e8
      injection e8 with e8
      injection e8 with e8
      rcases f2.own with ⟨e9, _⟩ | e9
      · exact hn e9
      · have := (e9.lt k hk).2; omega
theorem XKK.store (h : XKK wR ty n zs G C ok b x w) {T : Nat} (h4 : b 4 = true) (h9 : b 9 = true) (hx : x 9 = .pointer (some ⟨T, 0, none⟩)) (hT : w.heap[T]? = some (.cells z4 ty (0, 0))) : XKK wR ty n zs G C ok (upd b 11 true) x (w.setRow T C) := by
  obtain ⟨h1, h2, h3, h5⟩ := h
  obtain ⟨T', e1, g1, g2, -, -⟩ := h3 h9
  rw [hx] at e1
  injection e1 with e1
  injection e1 with e1
  injection e1 with e1 _
  subst e1
  have hg := setRow_grown w T C
  obtain ⟨aw, nw, cw, e1, e2, e3, e4, e6, e7⟩ := h5 h4
  refine ⟨h1.grown hg h1.size (fun k hk => by injection hk with hk; omega), fun e => ?_, fun _ => ⟨T, hx, g1, by rw [show (w.setRow T C).heap.size = w.heap.size by simp [World.setRow]]; exact g2, fun e => ?_, fun _ => setRow_heap w T z4 C ty (0, 0) hT⟩, fun _ => ⟨aw, nw, cw, e1, ⟨?_, e2.len, e2.nil, e2.cap⟩, ?_, ?_, ?_, ?_⟩⟩
  · rw [upd_ne (by decide)] at e
    obtain ⟨g, e8, _⟩ := h2 e
    exact ⟨g, e8, fun e9 => by rw [upd_ne (by decide), h4] at e9; cases e9⟩
  · rw [upd_same] at e; cases e
  · by_cases hn : nw = 0
    · rcases e2.own with h8 | h8
      · exact .inl h8
      · refine .inl ⟨hn, ?_⟩
        have := e2.len; rw [hn] at this
        exact List.eq_nil_of_length_eq_zero this
    · exact e2.own.other hg (fun k hk _ e => by injection e with e; exact e7 h9 k hk hn (by rw [hx, e]))
  · rw [upd_ne (by decide)]; exact e3
  · rw [upd_ne (by decide)]; exact e4
  · rw [upd_ne (by decide)]; exact e6
  · rw [upd_ne (by decide)]; exact e7
end

set_option maxHeartbeats 400000 in
theorem markE_any (B : Nat) (a : Option Addr) (n c : Nat) (G : List (Int × Int)) (k : Int) (w : World) (hn : n ≤ 1048576) (hk0 : 0 ≤ k) (hk1 : k ≤ 1099511627776) (h : OutE w B a n c G) :
    Calls Try.prog 33 #[.slice a n c, .int .i64 k] w fun e w' => e = .returned (.int .i64 (k + 2 * (n : Int))) ∧ OutE w' B a n c (mkR G k n) ∧ ∃ row, w.grownBy w' row ∧ (∀ q, row = some q → B ≤ q ∧ (Value.slice a n c).ownBlock = some q) ∧ (n = 0 → row = none) := by
  have hlen := h.len
  by_cases h0 : n = 0
  · subst h0
    have hG : G = [] := List.eq_nil_of_length_eq_zero hlen
    subst hG
    have HO : Hid (OutE w B a 0 c (mkR [] k 0)) := h
    clear h hlen
    go_enter Try.func33, Try.ntmps33
    go_wp2
    go_loopw [1, 5] (fun v i wr => i = .int .i64 ((0 : Nat) : Int) ∧ v = .int .i64 k ∧ w = wr) (fun _ i _ => 0)
    case atStart => exact ⟨rfl, rfl, rfl⟩
    case round =>
      obtain ⟨rfl, rfl, rfl⟩ := hrel
      go_wp2
      go_ret
      exact ⟨ret_int (by simp), HO.out, none, grown_refl _ _, (fun q e => by cases e), fun _ => rfl⟩
  · rcases h.own with ⟨e, _⟩ | ho
    · exact absurd e h0
    · subst hlen
      refine (markRecordsE_any B a c G k w hn hk0 hk1 ho).mono ?_
      rintro e w' ⟨rfl, ho2, hg⟩
      exact ⟨rfl, ⟨.inr ho2, by rw [mkR_len], h.nil, h.cap⟩, _, hg, (fun q hq => ⟨(ho.lt q hq).1, hq⟩), fun h => absurd h h0⟩

/-- What stands while the answer is looked at: the argument, the plan's variable, the reference's answer and cost, the copy x, the answer g and its cost. -/
structure Yk (w W : World) (a : Option Addr) (zs : List (Int × Int)) (Bx Bg Tw Tg : Nat) (pv C : Array Value) (aw : Option Addr) (nw cw : Nat) (G : List (Int × Int)) (ax : Option Addr) (cx : Nat) (xs : List (Int × Int)) (ag : Option Addr) (mg cg : Nat) (gs : List (Int × Int)) : Prop where
  b : Below w.heap.size w W
  h : RecsAt W a zs
  pl : W.heap[w.heap.size]? = some (.cells pv 77 (0, 0))
  hw : Rd W aw nw cw G
  wl : nw ≠ 0 → ∀ b off, aw = some ⟨b, off, none⟩ → b < Bx
  tw : W.heap[Tw]? = some (.cells C 30 (0, 0)) ∧ Tw < Bx
  ox : W.ownsRow Bx 72 2 (.slice ax xs.length cx) xs.length (flat encR xs)
  xl : ∀ k, (Value.slice ax xs.length cx).ownBlock = some k → k < Bg
  og : OutE W Bg ag mg cg gs
  tg : W.heap[Tg]? = some (.cells C 30 (0, 0)) ∧ Bg ≤ Tg
  gt : mg ≠ 0 → ∀ k, (Value.slice ag mg cg).ownBlock = some k → k ≠ Tg
  xb : w.heap.size < Bx
  gb : Bx ≤ Bg
section
variable {w W W' : World} {a : Option Addr} {zs : List (Int × Int)} {Bx Bg Tw Tg : Nat} {pv C : Array Value} {aw : Option Addr} {nw cw : Nat} {G : List (Int × Int)} {ax : Option Addr} {cx : Nat} {xs xs' : List (Int × Int)} {ag : Option Addr} {mg cg : Nat} {gs gs' : List (Int × Int)}
theorem Yk.below (s : Yk w W a zs Bx Bg Tw Tg pv C aw nw cw G ax cx xs ag mg cg gs) (hb : Below W.heap.size W W') : Yk w W' a zs Bx Bg Tw Tg pv C aw nw cw G ax cx xs ag mg cg gs :=
  ⟨s.b.trans (hb.mono s.b.size), s.h.below (Nat.le_refl _) hb, block_below s.pl hb (hlt_of s.pl), s.hw.same hb, s.wl, ⟨block_below s.tw.1 hb (hlt_of s.tw.1), s.tw.2⟩, own_below s.ox (Nat.le_refl _) hb, s.xl, s.og.same hb, ⟨block_below s.tg.1 hb (hlt_of s.tg.1), s.tg.2⟩, s.gt, s.xb, s.gb⟩
theorem rd_zero {w w' : World} {a : Option Addr} {c : Nat} {L : List (Int × Int)} (h : Rd w a 0 c L) : Rd w' a 0 c L := ⟨.inl (List.eq_nil_of_length_eq_zero h.len), h.len, h.nil, h.cap⟩
theorem Yk.markX (s : Yk w W a zs Bx Bg Tw Tg pv C aw nw cw G ax cx xs ag mg cg gs) (h0 : RecsAt w a zs) (hl : xs'.length = xs.length)
    (ho : W'.ownsRow Bx 72 2 (.slice ax xs.length cx) xs.length (flat encR xs')) (hg : W.grownBy W' (Value.slice ax xs.length cx).ownBlock) : Yk w W' a zs Bx Bg Tw Tg pv C aw nw cw G ax cx xs' ag mg cg gs := by
  have hlo : ∀ k, (Value.slice ax xs.length cx).ownBlock = some k → Bx ≤ k ∧ k < Bg := fun k hk => ⟨(s.ox.lt k hk).1, s.xl k hk⟩
  have hb := s.b.grown hg s.b.size (fun k hk => by have := hlo k hk; have := s.xb; omega)
  refine ⟨hb, h0.below (Nat.le_refl _) hb, block_row s.pl hg (fun e => by have := hlo _ e; have := s.xb; omega), ?_, s.wl, ⟨block_row s.tw.1 hg (fun e => by have := hlo _ e; have := s.tw.2; omega), s.tw.2⟩, by rw [hl]; exact ho, by rw [hl]; exact s.xl, ⟨s.og.own.other hg (fun k hk hB e => by have := hlo _ e; omega), s.og.len, s.og.nil, s.og.cap⟩, ⟨block_row s.tg.1 hg (fun e => by have := hlo _ e; have := s.tg.2; omega), s.tg.2⟩, s.gt, s.xb, s.gb⟩
  by_cases hn : nw = 0
  · subst hn; exact rd_zero s.hw
  · exact s.hw.grown hg (fun b off e e2 => by have := s.wl hn b off e; have := hlo _ e2; omega)
theorem Yk.markG (s : Yk w W a zs Bx Bg Tw Tg pv C aw nw cw G ax cx xs ag mg cg gs) (h0 : RecsAt w a zs) {row : Option Nat}
    (ho : OutE W' Bg ag mg cg gs') (hg : W.grownBy W' row) (hr : ∀ q, row = some q → Bg ≤ q ∧ (Value.slice ag mg cg).ownBlock = some q) (hr0 : mg = 0 → row = none) : Yk w W' a zs Bx Bg Tw Tg pv C aw nw cw G ax cx xs ag mg cg gs' := by
  have hb := s.b.grown hg s.b.size (fun k hk => by have := hr k hk; have := s.xb; have := s.gb; omega)
  refine ⟨hb, h0.below (Nat.le_refl _) hb, block_row s.pl hg (fun e => by have := hr _ e; have := s.xb; have := s.gb; omega), ?_, s.wl, ⟨block_row s.tw.1 hg (fun e => by have := hr _ e; have := s.tw.2; have := s.gb; omega), s.tw.2⟩, own_other s.ox hg (fun k hk e => by have := hr _ e; have := s.xl k hk; omega), s.xl, ho, ⟨block_row s.tg.1 hg (fun e => ?_), s.tg.2⟩, s.gt, s.xb, s.gb⟩
  · by_cases hn : nw = 0
    · subst hn; exact rd_zero s.hw
    · exact s.hw.grown hg (fun b off e e2 => by have := s.wl hn b off e; have := hr _ e2; have := s.gb; omega)
  · by_cases hn : mg = 0
    · rw [hr0 hn] at e; cases e
    · exact s.gt hn _ (hr _ e).2 rfl
end

set_option maxRecDepth 100000 in
set_option maxHeartbeats 8000000 in
theorem lawExternalSort_any (a : Option Addr) (c : Nat) (zs : List (Int × Int)) (pm pw pb : Int) (w : World) (bzs : zs.length ≤ 9223372036854775807) (hzs : RecsAt w a zs) (hpm : -9223372036854775808 ≤ pm ∧ pm ≤ 9223372036854775807) (hpw : -9223372036854775808 ≤ pw ∧ pw ≤ 9223372036854775807) (hpb : -9223372036854775808 ≤ pb ∧ pb ≤ 9223372036854775807) :
    Calls Try.prog 13 #[.slice a zs.length c, .agg #[.int .i64 pm, .int .i64 pw, .int .i64 pb]] w fun e w' => e = .returned (.bool true) ∧ Below w.heap.size w w' := by
  clear hpm hpw hpb
  have HB0 := Lib.hid (belowNew w (.cells #[.int .i64 pm, .int .i64 pw, .int .i64 pb] 77))
  have HP0 := Lib.hid (block_new w (.cells #[.int .i64 pm, .int .i64 pw, .int .i64 pb] 77))
  have hs0 : (w.alloc (.cells #[.int .i64 pm, .int .i64 pw, .int .i64 pb] 77)).heap.size = w.heap.size + 1 := by simp
  by_cases hl : zs.length ≤ 1048576
  case neg =>
    have HZ := Lib.hid (szRecordS_no a c zs 1048576 (w.alloc (.cells #[.int .i64 pm, .int .i64 pw, .int .i64 pb] 77)) bzs (by omega) (by omega) (by omega))
    clear hzs
    go_enter Try.func13, Try.ntmps13
    go_wp2_with fail
    refine HZ.out.mono ?_
    rintro e w1 ⟨rfl, rfl⟩
    go_wp2
    go_ret
    exact ⟨rfl, HB0.out⟩
  have HZ := Lib.hid (szRecordS_yes a c zs 1048576 (w.alloc (.cells #[.int .i64 pm, .int .i64 pw, .int .i64 pb] 77)) (by omega) (by omega) (by omega))
  have H := Lib.hid hzs; clear hzs
  obtain ⟨ok, hok⟩ : ∃ ok, exOk zs pm pw pb = ok := ⟨_, rfl⟩
  obtain ⟨⟨c0, c1, c2, c3⟩, hC⟩ : ∃ C, exC zs pm pw pb = C := ⟨_, rfl⟩
  have hgl : (exL zs pm pw pb).length ≤ 64 := by
    unfold exL
    split
    · rename_i h
      unfold exOk at h
      rw [Bool.and_eq_true] at h
      rw [srtP_len]
      exact okRecs_le h.1
    · simp
  have HI := Lib.hid (fun (a : Option Addr) (n c : Nat) W (hr : Rd W a n c zs) => implExternalSort_any a n c zs pm pw pb W (by have := hr.len; omega) hr)
  have HG := Lib.hid (fun (a : Option Addr) (n c : Nat) W (hr : Rd W a n c zs) => specExternalSort_any a n c zs pm pw pb W (by have := hr.len; omega) hr)
  unfold ExEndO at HI HG
  rw [hok, hC] at HI HG
  generalize exL zs pm pw pb = G at HI HG hgl
  simp only [costV] at HI HG
  clear hok hC
  have HQ := Lib.hid (fun W => eqDiskCost_same c0 c1 c2 c3 W)
  have hpos : decide ((1048576 : Int) - (zs.length : Int) < 0) = false := decide_eq_false (by omega)
  have hl1 : zs.length ≤ 1048576 := hl
  go_enter Try.func13, Try.ntmps13
  go_wp2_with fail
  refine HZ.out.mono ?_
  rintro e w1 ⟨rfl, rfl⟩
  obtain ⟨wR, hwR⟩ : ∃ W, W = (w.alloc (.cells #[.int .i64 pm, .int .i64 pw, .int .i64 pb] 77)).drew := ⟨_, rfl⟩
  have hBR : Below (w.alloc (.cells #[.int .i64 pm, .int .i64 pw, .int .i64 pb] 77)).heap.size (w.alloc (.cells #[.int .i64 pm, .int .i64 pw, .int .i64 pb] 77)) wR := by rw [hwR]; exact (Below.refl _ _).drew
  have HBR := Lib.hid (below_tr HB0.out hBR HB0.out.size)
  have HPR := Lib.hid (block_below HP0.out hBR (by omega))
  have hsR : wR.heap.size = w.heap.size + 1 := by rw [hwR]; exact hs0
  have PAST : Hid (∀ W, Below wR.heap.size wR W → RecsAt W a zs ∧ W.cell? ⟨w.heap.size, 0, none⟩ = some (.int .i64 pm) ∧ W.cell? ⟨w.heap.size, 1, none⟩ = some (.int .i64 pw) ∧ W.cell? ⟨w.heap.size, 2, none⟩ = some (.int .i64 pb)) := fun W hb =>
    ⟨H.out.below (Nat.le_refl _) (below_tr HBR.out hb HBR.out.size), cells3 (block_below HPR.out hb (by omega))⟩
  clear HZ HB0 HP0 hBR hl
  go_wp2_with fail
  refine wp_with_act (fun fr hfr => ?_)
  have hsz5 : fr.tmps.size = 128 := by rw [hfr]; rfl
  have f0 : fr.eval (.tmp 0) = .slice a zs.length c := by rw [hfr]; rfl
  have f3 : fr.eval (.tmp 3) = .pointer (some ⟨w.heap.size, 0, none⟩) := by rw [hfr]; rfl
  refine wp_region_held_drew (S := fun _ => True) (by kernel_rfl) trivial (fun _ => ?_)
  rw [← hwR]
  obtain ⟨SL, hSL⟩ : ∃ l : List (Nat × Nat), l = [(0, 25), (1, 26), (2, 27), (3, 28), (4, 29), (5, 24), (6, 30), (7, 31), (8, 32), (9, 7), (10, 6), (12, 8)] := ⟨_, rfl⟩
  obtain ⟨VL, hVL⟩ : ∃ l : List (Nat × Value), l = [(0, .slice a zs.length c), (2, .agg #[.int .i64 pm, .int .i64 pw, .int .i64 pb]), (3, .agg #[.int .i64 pm, .int .i64 pw, .int .i64 pb]), (7, .agg #[.int .i64 c0, .int .i64 c1, .int .i64 c2, .int .i64 c3]), (8, .bool ok), (12, .bool ok)] := ⟨_, rfl⟩
  have hN1 : (SL.map Prod.fst).Nodup := by rw [hSL]; decide
  have hN2 : (SL.map Prod.snd).Nodup := by rw [hSL]; decide
  have M0 : (0, 25) ∈ SL := by rw [hSL]; exact (.head _)
  have E25 : ∀ x, (puts fr x SL).eval (.tmp 25) = x 0 := fun x => eval_at SL fr hN2 M0 (by rw [hsz5]; decide)
  have M1 : (1, 26) ∈ SL := by rw [hSL]; exact (.tail _ (.head _))
  have E26 : ∀ x, (puts fr x SL).eval (.tmp 26) = x 1 := fun x => eval_at SL fr hN2 M1 (by rw [hsz5]; decide)
  have M2 : (2, 27) ∈ SL := by rw [hSL]; exact (.tail _ (.tail _ (.head _)))
  have E27 : ∀ x, (puts fr x SL).eval (.tmp 27) = x 2 := fun x => eval_at SL fr hN2 M2 (by rw [hsz5]; decide)
  have M3 : (3, 28) ∈ SL := by rw [hSL]; exact (.tail _ (.tail _ (.tail _ (.head _))))
  have E28 : ∀ x, (puts fr x SL).eval (.tmp 28) = x 3 := fun x => eval_at SL fr hN2 M3 (by rw [hsz5]; decide)
  have M4 : (4, 29) ∈ SL := by rw [hSL]; exact (.tail _ (.tail _ (.tail _ (.tail _ (.head _)))))
  have E29 : ∀ x, (puts fr x SL).eval (.tmp 29) = x 4 := fun x => eval_at SL fr hN2 M4 (by rw [hsz5]; decide)
  have M5 : (5, 24) ∈ SL := by rw [hSL]; exact (.tail _ (.tail _ (.tail _ (.tail _ (.tail _ (.head _))))))
  have E24 : ∀ x, (puts fr x SL).eval (.tmp 24) = x 5 := fun x => eval_at SL fr hN2 M5 (by rw [hsz5]; decide)
  have M6 : (6, 30) ∈ SL := by rw [hSL]; exact (.tail _ (.tail _ (.tail _ (.tail _ (.tail _ (.tail _ (.head _)))))))
  have E30 : ∀ x, (puts fr x SL).eval (.tmp 30) = x 6 := fun x => eval_at SL fr hN2 M6 (by rw [hsz5]; decide)
  have M7 : (7, 31) ∈ SL := by rw [hSL]; exact (.tail _ (.tail _ (.tail _ (.tail _ (.tail _ (.tail _ (.tail _ (.head _))))))))
  have E31 : ∀ x, (puts fr x SL).eval (.tmp 31) = x 7 := fun x => eval_at SL fr hN2 M7 (by rw [hsz5]; decide)
  have M8 : (8, 32) ∈ SL := by rw [hSL]; exact (.tail _ (.tail _ (.tail _ (.tail _ (.tail _ (.tail _ (.tail _ (.tail _ (.head _)))))))))
  have E32 : ∀ x, (puts fr x SL).eval (.tmp 32) = x 8 := fun x => eval_at SL fr hN2 M8 (by rw [hsz5]; decide)
  have M9 : (9, 7) ∈ SL := by rw [hSL]; exact (.tail _ (.tail _ (.tail _ (.tail _ (.tail _ (.tail _ (.tail _ (.tail _ (.tail _ (.head _))))))))))
  have E7 : ∀ x, (puts fr x SL).eval (.tmp 7) = x 9 := fun x => eval_at SL fr hN2 M9 (by rw [hsz5]; decide)
  have M10 : (10, 6) ∈ SL := by rw [hSL]; exact (.tail _ (.tail _ (.tail _ (.tail _ (.tail _ (.tail _ (.tail _ (.tail _ (.tail _ (.tail _ (.head _)))))))))))
  have E6 : ∀ x, (puts fr x SL).eval (.tmp 6) = x 10 := fun x => eval_at SL fr hN2 M10 (by rw [hsz5]; decide)
  have M12 : (12, 8) ∈ SL := by rw [hSL]; exact (.tail _ (.tail _ (.tail _ (.tail _ (.tail _ (.tail _ (.tail _ (.tail _ (.tail _ (.tail _ (.tail _ (.head _))))))))))))
  have E8 : ∀ x, (puts fr x SL).eval (.tmp 8) = x 12 := fun x => eval_at SL fr hN2 M12 (by rw [hsz5]; decide)
  have E0 : ∀ x, (puts fr x SL).eval (.tmp 0) = .slice a zs.length c := fun x => (eval_far SL fr (by rw [hSL]; decide)).trans f0
  have E3 : ∀ x, (puts fr x SL).eval (.tmp 3) = .pointer (some ⟨w.heap.size, 0, none⟩) := fun x => (eval_far SL fr (by rw [hSL]; decide)).trans f3
  have VM0 : (0, .slice a zs.length c) ∈ VL := by rw [hVL]; exact (.head _)
  have VU0 : ∀ pp ∈ VL, pp.1 = 0 → pp.2 = .slice a zs.length c := by rw [hVL]; exact (List.forall_mem_cons.2 ⟨(fun _ => rfl), (List.forall_mem_cons.2 ⟨(fun e => absurd (show (2 : Nat) = 0 from e) (by decide)), (List.forall_mem_cons.2 ⟨(fun e => absurd (show (3 : Nat) = 0 from e) (by decide)), (List.forall_mem_cons.2 ⟨(fun e => absurd (show (7 : Nat) = 0 from e) (by decide)), (List.forall_mem_cons.2 ⟨(fun e => absurd (show (8 : Nat) = 0 from e) (by decide)), (List.forall_mem_cons.2 ⟨(fun e => absurd (show (12 : Nat) = 0 from e) (by decide)), (fun _ h => nomatch h)⟩)⟩)⟩)⟩)⟩)⟩)
  have VM2 : (2, .agg #[.int .i64 pm, .int .i64 pw, .int .i64 pb]) ∈ VL := by rw [hVL]; exact (.tail _ (.head _))
  have VU2 : ∀ pp ∈ VL, pp.1 = 2 → pp.2 = .agg #[.int .i64 pm, .int .i64 pw, .int .i64 pb] := by rw [hVL]; exact (List.forall_mem_cons.2 ⟨(fun e => absurd (show (0 : Nat) = 2 from e) (by decide)), (List.forall_mem_cons.2 ⟨(fun _ => rfl), (List.forall_mem_cons.2 ⟨(fun e => absurd (show (3 : Nat) = 2 from e) (by decide)), (List.forall_mem_cons.2 ⟨(fun e => absurd (show (7 : Nat) = 2 from e) (by decide)), (List.forall_mem_cons.2 ⟨(fun e => absurd (show (8 : Nat) = 2 from e) (by decide)), (List.forall_mem_cons.2 ⟨(fun e => absurd (show (12 : Nat) = 2 from e) (by decide)), (fun _ h => nomatch h)⟩)⟩)⟩)⟩)⟩)⟩)
  have VM3 : (3, .agg #[.int .i64 pm, .int .i64 pw, .int .i64 pb]) ∈ VL := by rw [hVL]; exact (.tail _ (.tail _ (.head _)))
  have VU3 : ∀ pp ∈ VL, pp.1 = 3 → pp.2 = .agg #[.int .i64 pm, .int .i64 pw, .int .i64 pb] := by rw [hVL]; exact (List.forall_mem_cons.2 ⟨(fun e => absurd (show (0 : Nat) = 3 from e) (by decide)), (List.forall_mem_cons.2 ⟨(fun e => absurd (show (2 : Nat) = 3 from e) (by decide)), (List.forall_mem_cons.2 ⟨(fun _ => rfl), (List.forall_mem_cons.2 ⟨(fun e => absurd (show (7 : Nat) = 3 from e) (by decide)), (List.forall_mem_cons.2 ⟨(fun e => absurd (show (8 : Nat) = 3 from e) (by decide)), (List.forall_mem_cons.2 ⟨(fun e => absurd (show (12 : Nat) = 3 from e) (by decide)), (fun _ h => nomatch h)⟩)⟩)⟩)⟩)⟩)⟩)
  have VM7 : (7, .agg #[.int .i64 c0, .int .i64 c1, .int .i64 c2, .int .i64 c3]) ∈ VL := by rw [hVL]; exact (.tail _ (.tail _ (.tail _ (.head _))))
  have VU7 : ∀ pp ∈ VL, pp.1 = 7 → pp.2 = .agg #[.int .i64 c0, .int .i64 c1, .int .i64 c2, .int .i64 c3] := by rw [hVL]; exact (List.forall_mem_cons.2 ⟨(fun e => absurd (show (0 : Nat) = 7 from e) (by decide)), (List.forall_mem_cons.2 ⟨(fun e => absurd (show (2 : Nat) = 7 from e) (by decide)), (List.forall_mem_cons.2 ⟨(fun e => absurd (show (3 : Nat) = 7 from e) (by decide)), (List.forall_mem_cons.2 ⟨(fun _ => rfl), (List.forall_mem_cons.2 ⟨(fun e => absurd (show (8 : Nat) = 7 from e) (by decide)), (List.forall_mem_cons.2 ⟨(fun e => absurd (show (12 : Nat) = 7 from e) (by decide)), (fun _ h => nomatch h)⟩)⟩)⟩)⟩)⟩)⟩)
  have VM8 : (8, .bool ok) ∈ VL := by rw [hVL]; exact (.tail _ (.tail _ (.tail _ (.tail _ (.head _)))))
  have VU8 : ∀ pp ∈ VL, pp.1 = 8 → pp.2 = .bool ok := by rw [hVL]; exact (List.forall_mem_cons.2 ⟨(fun e => absurd (show (0 : Nat) = 8 from e) (by decide)), (List.forall_mem_cons.2 ⟨(fun e => absurd (show (2 : Nat) = 8 from e) (by decide)), (List.forall_mem_cons.2 ⟨(fun e => absurd (show (3 : Nat) = 8 from e) (by decide)), (List.forall_mem_cons.2 ⟨(fun e => absurd (show (7 : Nat) = 8 from e) (by decide)), (List.forall_mem_cons.2 ⟨(fun _ => rfl), (List.forall_mem_cons.2 ⟨(fun e => absurd (show (12 : Nat) = 8 from e) (by decide)), (fun _ h => nomatch h)⟩)⟩)⟩)⟩)⟩)⟩)
  have VM12 : (12, .bool ok) ∈ VL := by rw [hVL]; exact (.tail _ (.tail _ (.tail _ (.tail _ (.tail _ (.head _))))))
  have VU12 : ∀ pp ∈ VL, pp.1 = 12 → pp.2 = .bool ok := by rw [hVL]; exact (List.forall_mem_cons.2 ⟨(fun e => absurd (show (0 : Nat) = 12 from e) (by decide)), (List.forall_mem_cons.2 ⟨(fun e => absurd (show (2 : Nat) = 12 from e) (by decide)), (List.forall_mem_cons.2 ⟨(fun e => absurd (show (3 : Nat) = 12 from e) (by decide)), (List.forall_mem_cons.2 ⟨(fun e => absurd (show (7 : Nat) = 12 from e) (by decide)), (List.forall_mem_cons.2 ⟨(fun e => absurd (show (8 : Nat) = 12 from e) (by decide)), (List.forall_mem_cons.2 ⟨(fun _ => rfl), (fun _ h => nomatch h)⟩)⟩)⟩)⟩)⟩)⟩)
  have VN1 : ∀ pp ∈ VL, pp.1 ≠ 1 := by rw [hVL]; exact (List.forall_mem_cons.2 ⟨(show (0 : Nat) ≠ 1 by decide), (List.forall_mem_cons.2 ⟨(show (2 : Nat) ≠ 1 by decide), (List.forall_mem_cons.2 ⟨(show (3 : Nat) ≠ 1 by decide), (List.forall_mem_cons.2 ⟨(show (7 : Nat) ≠ 1 by decide), (List.forall_mem_cons.2 ⟨(show (8 : Nat) ≠ 1 by decide), (List.forall_mem_cons.2 ⟨(show (12 : Nat) ≠ 1 by decide), (fun _ h => nomatch h)⟩)⟩)⟩)⟩)⟩)⟩)
  have VN4 : ∀ pp ∈ VL, pp.1 ≠ 4 := by rw [hVL]; exact (List.forall_mem_cons.2 ⟨(show (0 : Nat) ≠ 4 by decide), (List.forall_mem_cons.2 ⟨(show (2 : Nat) ≠ 4 by decide), (List.forall_mem_cons.2 ⟨(show (3 : Nat) ≠ 4 by decide), (List.forall_mem_cons.2 ⟨(show (7 : Nat) ≠ 4 by decide), (List.forall_mem_cons.2 ⟨(show (8 : Nat) ≠ 4 by decide), (List.forall_mem_cons.2 ⟨(show (12 : Nat) ≠ 4 by decide), (fun _ h => nomatch h)⟩)⟩)⟩)⟩)⟩)⟩)
  have VN5 : ∀ pp ∈ VL, pp.1 ≠ 5 := by rw [hVL]; exact (List.forall_mem_cons.2 ⟨(show (0 : Nat) ≠ 5 by decide), (List.forall_mem_cons.2 ⟨(show (2 : Nat) ≠ 5 by decide), (List.forall_mem_cons.2 ⟨(show (3 : Nat) ≠ 5 by decide), (List.forall_mem_cons.2 ⟨(show (7 : Nat) ≠ 5 by decide), (List.forall_mem_cons.2 ⟨(show (8 : Nat) ≠ 5 by decide), (List.forall_mem_cons.2 ⟨(show (12 : Nat) ≠ 5 by decide), (fun _ h => nomatch h)⟩)⟩)⟩)⟩)⟩)⟩)
  have VN6 : ∀ pp ∈ VL, pp.1 ≠ 6 := by rw [hVL]; exact (List.forall_mem_cons.2 ⟨(show (0 : Nat) ≠ 6 by decide), (List.forall_mem_cons.2 ⟨(show (2 : Nat) ≠ 6 by decide), (List.forall_mem_cons.2 ⟨(show (3 : Nat) ≠ 6 by decide), (List.forall_mem_cons.2 ⟨(show (7 : Nat) ≠ 6 by decide), (List.forall_mem_cons.2 ⟨(show (8 : Nat) ≠ 6 by decide), (List.forall_mem_cons.2 ⟨(show (12 : Nat) ≠ 6 by decide), (fun _ h => nomatch h)⟩)⟩)⟩)⟩)⟩)⟩)
  have VN9 : ∀ pp ∈ VL, pp.1 ≠ 9 := by rw [hVL]; exact (List.forall_mem_cons.2 ⟨(show (0 : Nat) ≠ 9 by decide), (List.forall_mem_cons.2 ⟨(show (2 : Nat) ≠ 9 by decide), (List.forall_mem_cons.2 ⟨(show (3 : Nat) ≠ 9 by decide), (List.forall_mem_cons.2 ⟨(show (7 : Nat) ≠ 9 by decide), (List.forall_mem_cons.2 ⟨(show (8 : Nat) ≠ 9 by decide), (List.forall_mem_cons.2 ⟨(show (12 : Nat) ≠ 9 by decide), (fun _ h => nomatch h)⟩)⟩)⟩)⟩)⟩)⟩)
  have VN10 : ∀ pp ∈ VL, pp.1 ≠ 10 := by rw [hVL]; exact (List.forall_mem_cons.2 ⟨(show (0 : Nat) ≠ 10 by decide), (List.forall_mem_cons.2 ⟨(show (2 : Nat) ≠ 10 by decide), (List.forall_mem_cons.2 ⟨(show (3 : Nat) ≠ 10 by decide), (List.forall_mem_cons.2 ⟨(show (7 : Nat) ≠ 10 by decide), (List.forall_mem_cons.2 ⟨(show (8 : Nat) ≠ 10 by decide), (List.forall_mem_cons.2 ⟨(show (12 : Nat) ≠ 10 by decide), (fun _ h => nomatch h)⟩)⟩)⟩)⟩)⟩)⟩)
  have VN11 : ∀ pp ∈ VL, pp.1 ≠ 11 := by rw [hVL]; exact (List.forall_mem_cons.2 ⟨(show (0 : Nat) ≠ 11 by decide), (List.forall_mem_cons.2 ⟨(show (2 : Nat) ≠ 11 by decide), (List.forall_mem_cons.2 ⟨(show (3 : Nat) ≠ 11 by decide), (List.forall_mem_cons.2 ⟨(show (7 : Nat) ≠ 11 by decide), (List.forall_mem_cons.2 ⟨(show (8 : Nat) ≠ 11 by decide), (List.forall_mem_cons.2 ⟨(show (12 : Nat) ≠ 11 by decide), (fun _ h => nomatch h)⟩)⟩)⟩)⟩)⟩)⟩)
  have hst5 : fr = puts fr (x0 fr SL) SL := puts_x0 fr SL (by rw [hSL]; decide)
  clear hVL
  refine wpAnyH_inv2 (JV fr SL VL (XKK wR 30 zs.length zs G #[.int .i64 c0, .int .i64 c1, .int .i64 c2, .int .i64 c3] ok)) (by kernel_rfl) ?steps5 ?done5 _ _ ?start5
  case start5 => exact ⟨_, hst5, VOK.start _ _ _, XKK.start _⟩
  case steps5 =>
    clear hst5 hSL hfr
    refine ⟨?_, ?_, ?_, ?_, ?_, ?_, ?_, ?_, ?_, ?_, ?_, ?_, ?_, trivial⟩
    all_goals
      rintro LB ac w' hs hu haf hcl ⟨x, rfl, hv, hk⟩ K hK
    · have r0 := E0 x
      rw [if_pos (by rfl)]
      refine wp_val (v := .slice a zs.length c) ?_ (hK _ _ (jv_set (by rw [hs]; decide) (x := upd x 0 _) (puts_set SL fr hN1 hN2 M0) (hv.val 0 _ VU0) (hk.quiet 0 _ (by decide))))
      generalize (puts fr x SL).eval = ρ at r0 ⊢; go_simp
    · have r25 := (E25 x).trans (hv _ VM0 (haf ⟨0, .data⟩ (by simp) rfl))
      rw [if_pos (by rfl)]
      have h4f : LB.getD 4 false = false := by
        cases h : LB.getD 4 false with
        | false => rfl
        | true => exact absurd (hcl 4 _ rfl h ⟨1, .data⟩ (by simp) rfl) (by rw [hu]; decide)
      unfold Oper.wp
      rw [show (execOp (puts fr x SL).eval _).run _ w' = .ok (.enter 29 #[.slice a zs.length c]) w' by rw [execOp_call_go]; generalize (puts fr x SL).eval = ρ at r25 ⊢; go_simp]
      rw [Oper.upon_enter]
      refine (toRecordS_any a c zs w' hl1 (PAST.out w' hk.1).1).mono ?_
      rintro e w2 ⟨rfl, ho, hb⟩
      exact hK _ _ (jv_set (by rw [hs]; decide) (x := upd x 1 _) (puts_set SL fr hN1 hN2 M1) (hv.other 1 _ VN1) (XKK.conv hk h4f hb _ (rd_own ho)))
    · have r3 := E3 x
      obtain ⟨y0, y1, y2⟩ := (PAST.out w' hk.1).2
      rw [if_pos (by rfl)]
      refine wp_val (v := .agg #[.int .i64 pm, .int .i64 pw, .int .i64 pb]) ?_ (hK _ _ (jv_set (by rw [hs]; decide) (x := upd x 2 _) (puts_set SL fr hN1 hN2 M2) (hv.val 2 _ VU2) (hk.quiet 2 _ (by decide))))
      generalize (puts fr x SL).eval = ρ at r3 ⊢; go_simp
    · have r27 := (E27 x).trans (hv _ VM2 (haf ⟨2, .data⟩ (by simp) rfl))
      rw [if_pos (by rfl)]
      refine wp_callv (v := .agg #[.int .i64 pm, .int .i64 pw, .int .i64 pb]) (G := fun w2 => Below w'.heap.size w' w2) ?_ (toDiskPlan_any pm pw pb w') (fun e w2 h => h) (fun w2 hg => ?_)
      · rw [execOp_call_go]; generalize (puts fr x SL).eval = ρ at r27 ⊢; go_simp
      · exact hK _ _ (jv_set (by rw [hs]; decide) (x := upd x 3 _) (puts_set SL fr hN1 hN2 M3) (hv.val 3 _ VU3) ((hk.below hg).quiet 3 _ (by decide)))
    · have r28 := (E28 x).trans (hv _ VM3 (haf ⟨3, .data⟩ (by simp) rfl))
      rw [if_pos (by rfl)]
      obtain ⟨g, e1, hr⟩ := hk.2.1 (haf ⟨1, .data⟩ (by simp) rfl)
      have hrd := hr hu
      have h5 : LB.getD 5 false = false := by
        cases h : LB.getD 5 false with
        | false => rfl
        | true => exact absurd (hcl 5 _ rfl h ⟨4, .data⟩ (by simp) rfl) (by rw [hu]; decide)
      have h6 : LB.getD 6 false = false := by
        cases h : LB.getD 6 false with
        | false => rfl
        | true => exact absurd (hcl 6 _ rfl h ⟨5, .data⟩ (by simp) rfl) (by rw [h5]; decide)
      have h10 : LB.getD 10 false = false := by
        cases h : LB.getD 10 false with
        | false => rfl
        | true => exact absurd (hcl 10 _ rfl h ⟨6, .data⟩ (by simp) rfl) (by rw [h6]; decide)
      have rr := E26 x
      rw [e1] at rr
      unfold Oper.wp
      rw [show (execOp (puts fr x SL).eval _).run _ w' = .ok (.enter 18 #[.slice (some ⟨g, 0, none⟩) zs.length zs.length, .agg #[.int .i64 pm, .int .i64 pw, .int .i64 pb]]) w' by rw [execOp_call_go]; generalize (puts fr x SL).eval = ρ at rr r28 ⊢; go_simp]
      rw [Oper.upon_enter]
      refine (HG.out _ _ _ _ hrd).mono ?_
      rintro e w2 ⟨aw, nw, cw, rfl, hrd2, hown, hb⟩
      exact hK _ _ (jv_set (by rw [hs]; decide) (x := upd x 4 _) (puts_set SL fr hN1 hN2 M4) (hv.other 4 _ VN4) (XKK.call hk hb ⟨hown, hrd2.len, hrd2.nil, hrd2.cap⟩ h5 h6 h10))
    · rw [if_pos (by rfl)]
      have h4 : LB.getD 4 false = true := haf ⟨4, .data⟩ (by simp) rfl
      have r29 := E29 x
      refine wp_val (v := x 4) ?_ (hK _ _ (jv_set (by rw [hs]; decide) (x := upd x 5 _) (puts_set SL fr hN1 hN2 M5) (hv.other 5 _ VN5) (XKK.mv5 hk h4)))
      generalize (puts fr x SL).eval = ρ at r29 ⊢; go_simp
    · rw [if_pos (by rfl)]
      have h5 : LB.getD 5 false = true := haf ⟨5, .data⟩ (by simp) rfl
      have h4 : LB.getD 4 false = true := hcl 5 _ rfl h5 ⟨4, .data⟩ (by simp) rfl
      have r24 := E24 x
      obtain ⟨aw, nw, cw, e4, -, e5, -⟩ := hk.2.2.2 h4
      rw [e5 h5, e4] at r24
      refine wp_val (v := .slice aw nw cw) ?_ (hK _ _ (jv_set (by rw [hs]; decide) (x := upd x 6 _) (puts_set SL fr hN1 hN2 M6) (hv.other 6 _ VN6) (XKK.ex6 hk h4 (fun a1 n1 c1 e => by rw [e4] at e; simp at e; obtain ⟨rfl, rfl, rfl⟩ := e; rfl))))
      generalize (puts fr x SL).eval = ρ at r24 ⊢; go_simp
    · rw [if_pos (by rfl)]
      have r24 := E24 x
      obtain ⟨aw, nw, cw, e4, -, e5, -⟩ := hk.2.2.2 (hcl 5 _ rfl (haf ⟨5, .data⟩ (by simp) rfl) ⟨4, .data⟩ (by simp) rfl)
      rw [e5 (haf ⟨5, .data⟩ (by simp) rfl), e4] at r24
      refine wp_val (v := .agg #[.int .i64 c0, .int .i64 c1, .int .i64 c2, .int .i64 c3]) ?_ (hK _ _ (jv_set (by rw [hs]; decide) (x := upd x 7 _) (puts_set SL fr hN1 hN2 M7) (hv.val 7 _ VU7) (hk.quiet 7 _ (by decide))))
      generalize (puts fr x SL).eval = ρ at r24 ⊢; go_simp
    · rw [if_pos (by rfl)]
      have r24 := E24 x
      obtain ⟨aw, nw, cw, e4, -, e5, -⟩ := hk.2.2.2 (hcl 5 _ rfl (haf ⟨5, .data⟩ (by simp) rfl) ⟨4, .data⟩ (by simp) rfl)
      rw [e5 (haf ⟨5, .data⟩ (by simp) rfl), e4] at r24
      refine wp_val (v := .bool ok) ?_ (hK _ _ (jv_set (by rw [hs]; decide) (x := upd x 8 _) (puts_set SL fr hN1 hN2 M8) (hv.val 8 _ VU8) (hk.quiet 8 _ (by decide))))
      generalize (puts fr x SL).eval = ρ at r24 ⊢; go_simp
    · rw [if_pos (by rfl)]
      have h11f : LB.getD 11 false = false := by
        cases h : LB.getD 11 false with
        | false => rfl
        | true => exact absurd (hcl 11 _ rfl h ⟨9, .data⟩ (by simp) rfl) (by rw [hu]; decide)
      refine wp_val (v := .pointer (some ⟨w'.heap.size, 0, none⟩)) (w' := w'.alloc (.cells z4 30)) ?_ (hK _ _ (jv_set (by rw [hs]; decide) (x := upd x 9 _) (puts_set SL fr hN1 hN2 M9) (hv.other 9 _ VN9) (XKK.alloc hk h11f)))
      go_simp
    · rw [if_pos (by rfl)]
      have h6 : LB.getD 6 false = true := haf ⟨6, .data⟩ (by simp) rfl
      have h4 : LB.getD 4 false = true := haf ⟨4, .chain⟩ (by simp) rfl
      have r30 := E30 x
      refine wp_val (v := x 6) ?_ (hK _ _ (jv_set (by rw [hs]; decide) (x := upd x 10 _) (puts_set SL fr hN1 hN2 M10) (hv.other 10 _ VN10) (XKK.as10 hk h4 h6)))
      generalize (puts fr x SL).eval = ρ at r30 ⊢; go_simp
    · have r31 := (E31 x).trans (hv _ VM7 (haf ⟨7, .data⟩ (by simp) rfl))
      rw [if_pos (by rfl)]
      have h9 : LB.getD 9 false = true := haf ⟨9, .data⟩ (by simp) rfl
      have h4 : LB.getD 4 false = true := haf ⟨4, .phase⟩ (by simp) rfl
      obtain ⟨T, eT, g1, g2, g3, g4⟩ := hk.2.2.1 h9
      have hh := g3 hu
      refine wp_store_row _ _ _ rfl T #[.int .i64 c0, .int .i64 c1, .int .i64 c2, .int .i64 c3] ((E7 x).trans eT) r31 _ _ hh (by kernel_rfl) rfl (by simp [Value.oneCell']) ?_
      exact hK _ _ (jv_set (by rw [hs]; decide) (x := x) rfl (hv.none 11 VN11) (XKK.store hk h4 h9 eT hh))
    · have r32 := (E32 x).trans (hv _ VM8 (haf ⟨8, .data⟩ (by simp) rfl))
      rw [if_pos (by rfl)]
      refine wp_val (v := .bool ok) ?_ (hK _ _ (jv_set (by rw [hs]; decide) (x := upd x 12 _) (puts_set SL fr hN1 hN2 M12) (hv.val 12 _ VU12) (hk.quiet 12 _ (by decide))))
      generalize (puts fr x SL).eval = ρ at r32 ⊢; go_simp
  case done5 =>
    rintro LB ac w2 hall ⟨x, rfl, hv, hk⟩
    have v0 : x 0 = .slice a zs.length c := hv _ VM0 (hall 0 (by decide))
    have v2 : x 2 = .agg #[.int .i64 pm, .int .i64 pw, .int .i64 pb] := hv _ VM2 (hall 2 (by decide))
    have v3 : x 3 = .agg #[.int .i64 pm, .int .i64 pw, .int .i64 pb] := hv _ VM3 (hall 3 (by decide))
    have v7 : x 7 = .agg #[.int .i64 c0, .int .i64 c1, .int .i64 c2, .int .i64 c3] := hv _ VM7 (hall 7 (by decide))
    have v8 : x 8 = .bool ok := hv _ VM8 (hall 8 (by decide))
    have v12 : x 12 = .bool ok := hv _ VM12 (hall 12 (by decide))
    obtain ⟨hbw, -, hT, hO⟩ := hk
    obtain ⟨T5, eT, g1, g2, -, g4⟩ := hT (hall 9 (by decide))
    have HT := Lib.hid (g4 (hall 11 (by decide)))
    obtain ⟨aw5, nw5, cw5, -, hout, -, -, e10, hne⟩ := hO (hall 4 (by decide))
    have E10 := e10 (hall 10 (by decide))
    have hne2 := hne (hall 9 (by decide))
    rw [eT] at hne2
    have HOUT := Lib.hid hout
    have HBW := Lib.hid hbw
    have HNE : Hid (nw5 ≠ 0 → ∀ k, (Value.slice aw5 nw5 cw5).ownBlock = some k → k ≠ T5) := fun h0 k hk e => hne2 k hk h0 (by rw [e])
    clear hT hO hout e10 hne hne2 hbw
    rw [hSL]
    simp only [puts]
    rw [eT, E10, v12]
    clear M0 E25 M1 E26 M2 E27 M3 E28 M4 E29 M5 E24 M6 E30 M7 E31 M8 E32 M9 E7 M10 E6 M12 E8 E0 E3 f0 f3 VM0 VU0 VM2 VU2 VM3 VU3 VM7 VU7 VM8 VU8 VM12 VU12 VN1 VN4 VN5 VN6 VN9 VN10 VN11 hN1 hN2 hst5 hsz5
    clear hall hv v0 v2 v3 v7 v8 v12
    rw [hfr]
    simp only [Act.put, List.setIfInBounds_toArray, List.set_cons_succ, List.set_cons_zero]
    clear hfr hSL
    have HB5 := Lib.hid (below_tr HBR.out HBW.out HBR.out.size)
    have HP5 := Lib.hid (block_below HPR.out HBW.out (by omega))
    have hs5 := HBW.out.size
    have HW5 := Lib.hid HOUT.out.rd
    have HWL : Hid (nw5 ≠ 0 → ∀ b off, aw5 = some ⟨b, off, none⟩ → b < w2.heap.size) := fun h0 b off e => by
      rcases HOUT.out.own with ⟨h1, _⟩ | h1
      · exact absurd h1 h0
      · exact (h1.lt b (by rw [e]; rfl)).2
    clear HBW HOUT HNE PAST HBR HPR
    have hT5 := hlt_of HT.out
    have HT5 := HT
    clear HT g1 g2 g4
    go_wp2_with fail
    refine (toRecordS_any a c zs _ hl1 (H.out.below (Nat.le_refl _) HB5.out)).mono ?_
    rintro e w6 ⟨rfl, ho, hb⟩
    have OX6 := Lib.hid ho
    have HB6 := Lib.hid (below_tr HB5.out hb HB5.out.size)
    have HP6 := Lib.hid (block_below HP5.out hb (hlt_of HP5.out))
    have HW6 := Lib.hid (HW5.out.same hb)
    have HT6 := Lib.hid (block_below HT5.out hb (hlt_of HT5.out))
    have hs6 := hb.size
    have HXL : Hid (∀ k, (Value.slice (some ⟨w2.heap.size, 0, none⟩) zs.length zs.length).ownBlock = some k → k < w6.heap.size) := fun k hk => (ho.lt k hk).2
    clear ho hb HB5 HP5 HW5 HT5 eT E10
    obtain ⟨p0, p1, p2⟩ := cells3 HP6.out
    go_wp2_with fail
    refine (toDiskPlan_any pm pw pb _).mono ?_
    rintro e w7 ⟨rfl, hb⟩
    have OX7 := Lib.hid (own_below OX6.out (Nat.le_refl _) hb)
    have HB7 := Lib.hid (below_tr HB6.out hb HB6.out.size)
    have HP7 := Lib.hid (block_below HP6.out hb (hlt_of HP6.out))
    have HW7 := Lib.hid (HW6.out.same hb)
    have HT7 := Lib.hid (block_below HT6.out hb (hlt_of HT6.out))
    have hs7 := hb.size
    clear hb OX6 HB6 HP6 HW6 HT6 p0 p1 p2
    go_wp2_with fail
    refine (HI.out _ _ _ _ (rd_own OX7.out)).mono ?_
    rintro e w8 ⟨ag, mg, cg, rfl, hrd, hown, hb⟩
    have hbn := belowNew w8 (.cells #[.int .i64 c0, .int .i64 c1, .int .i64 c2, .int .i64 c3] 30)
    have hbx := below_tr hb hbn hb.size
    have S9 : Hid (Yk w (w8.alloc (.cells #[.int .i64 c0, .int .i64 c1, .int .i64 c2, .int .i64 c3] 30)) a zs w2.heap.size w7.heap.size T5 w8.heap.size #[.int .i64 pm, .int .i64 pw, .int .i64 pb] #[.int .i64 c0, .int .i64 c1, .int .i64 c2, .int .i64 c3] aw5 nw5 cw5 G (some ⟨w2.heap.size, 0, none⟩) zs.length zs ag mg cg G) := by
      have hb9 := below_tr HB7.out hbx HB7.out.size
      refine ⟨hb9, H.out.below (Nat.le_refl _) hb9, block_below HP7.out hbx (hlt_of HP7.out), HW7.out.same hbx, HWL.out, ⟨block_below HT7.out hbx (hlt_of HT7.out), hT5⟩, own_below OX7.out (Nat.le_refl _) hbx, fun k hk => Nat.lt_of_lt_of_le (HXL.out k hk) hs7, ⟨hown.same hbn, hrd.len, hrd.nil, hrd.cap⟩, ⟨block_new _ _, hb.size⟩, fun h0 k hk e => ?_, by omega, by omega⟩
      rcases hown with ⟨h1, _⟩ | h1
      · exact h0 h1
      · have := (h1.lt k hk).2; omega
    have hmg : mg = G.length := hrd.len.symm
    have hnw : nw5 = G.length := HW7.out.len.symm
    subst hmg hnw
    clear hrd hown hb hbn hbx HB7 HP7 HW7 HT7 OX7 HWL HXL hs5 hs6 hs7 hT5
    have nbw : G.length ≤ 9223372036854775807 := by omega
    have q1 : decide (G = G) = true := by simp
    have q2 : (ok != ok) = false := by simp
    have q3 : decide (zs = zs) = true := by simp
    obtain ⟨u0, u1, u2, u3⟩ := cellsQ S9.out.tg.1
    obtain ⟨v0, v1, v2, v3⟩ := cellsQ S9.out.tw.1
    go_wp2_with fail
    refine (eqRecordS_any _ _ _ _ G G _ nbw nbw S9.out.og.rd.recs S9.out.hw.recs).mono ?_
    rintro e w9aq ⟨rfl, hb⟩
    have S9a := Lib.hid (S9.out.below hb)
    clear u0 u1 u2 u3 v0 v1 v2 v3
    obtain ⟨u0, u1, u2, u3⟩ := cellsQ S9a.out.tg.1
    obtain ⟨v0, v1, v2, v3⟩ := cellsQ S9a.out.tw.1
    clear hb S9
    go_wp2_with fail
    refine (HQ.out _).mono ?_
    rintro e w10q ⟨rfl, hb⟩
    have S10 := Lib.hid (S9a.out.below hb)
    clear hb u0 u1 u2 u3 v0 v1 v2 v3 S9a
    go_wp2_with fail
    refine (toRecordS_any a c zs _ hl1 S10.out.h).mono ?_
    rintro e w11 ⟨rfl, ho, hb⟩
    have S11 := Lib.hid (S10.out.below hb)
    have HY := Lib.hid (ownRecs ho)
    clear ho hb S10
    go_wp2_with fail
    refine (eqRecordS_any _ _ _ _ zs zs _ bzs bzs (ownRecs S11.out.ox) HY.out).mono ?_
    rintro e w12 ⟨rfl, hb⟩
    have S12 := Lib.hid (S11.out.below hb)
    clear hb S11 HY
    go_wp2_with fail
    refine (markRecordsE_any _ _ _ zs 1 _ hl1 (by omega) (by omega) S12.out.ox).mono ?_
    rintro e w13 ⟨rfl, ho, hg⟩
    have S13 := Lib.hid (S12.out.markX H.out (by rw [mkR_len]) ho hg)
    clear ho hg S12
    have hk1 : decide (1 + 2 * (zs.length : Int) < 0) = false := decide_eq_false (by omega)
    obtain ⟨u0, u1, u2, u3⟩ := cellsQ S13.out.tg.1
    obtain ⟨v0, v1, v2, v3⟩ := cellsQ S13.out.tw.1
    go_wp2_with fail
    refine (eqRecordS_any _ _ _ _ G G _ nbw nbw S13.out.og.rd.recs S13.out.hw.recs).mono ?_
    rintro e w13aq ⟨rfl, hb⟩
    have S13a := Lib.hid (S13.out.below hb)
    clear u0 u1 u2 u3 v0 v1 v2 v3
    obtain ⟨u0, u1, u2, u3⟩ := cellsQ S13a.out.tg.1
    obtain ⟨v0, v1, v2, v3⟩ := cellsQ S13a.out.tw.1
    clear hb S13
    go_wp2_with fail
    refine (HQ.out _).mono ?_
    rintro e w14q ⟨rfl, hb⟩
    have S14 := Lib.hid (S13a.out.below hb)
    clear hb u0 u1 u2 u3 v0 v1 v2 v3 S13a
    go_wp2_with fail
    refine (markE_any _ _ _ _ G 1 _ (by omega) (by omega) (by omega) S14.out.og).mono ?_
    rintro e w15 ⟨rfl, ho, row, hg, hr, hr0⟩
    have S15 := Lib.hid (S14.out.markG H.out ho hg hr hr0)
    clear hr0
    clear ho hg hr S14
    have HMK : Hid (∀ j, j < (mkR G 1 G.length).length → (mkR G 1 G.length).getD j (0, 0) = (1 + 2 * (j : Int), 1 + 2 * (j : Int) + 1)) := fun j hj => mkR_at (by rw [mkR_len] at hj; exact hj)
    have HHE : Hid (∀ W, RecsAt W ag (mkR G 1 G.length) → Calls Try.prog 71 #[.slice ag G.length cg, .int .i64 1] W fun e w' => e = .returned (.int .i64 (1 + 2 * (G.length : Int))) ∧ W = w') := fun W hr => by
      have h1 := heldRecordsE_any ag cg (mkR G 1 G.length) 1 W (by rw [mkR_len]; omega) (by omega) (by omega) hr HMK.out
      rw [mkR_len] at h1
      exact h1
    have hk2 : decide (1 + 2 * (G.length : Int) < 0) = false := decide_eq_false (by omega)
    have hk3 : (1 + 2 * (G.length : Int) != 1 + 2 * (G.length : Int)) = false := by simp
    go_wp2_with fail
    refine (HHE.out _ S15.out.og.rd.recs).mono ?_
    rintro e w16 ⟨rfl, rfl⟩
    obtain ⟨wS, hwS⟩ : ∃ W, W = w15.drew := ⟨_, rfl⟩
    have S17 : Hid (Yk w wS a zs w2.heap.size w7.heap.size T5 w8.heap.size #[.int .i64 pm, .int .i64 pw, .int .i64 pb] #[.int .i64 c0, .int .i64 c1, .int .i64 c2, .int .i64 c3] aw5 G.length cw5 G (some ⟨w2.heap.size, 0, none⟩) zs.length (mkR zs 1 zs.length) ag G.length cg (mkR G 1 G.length)) := by
      show Yk _ _ _ _ _ _ _ _ _ _ _ _ _ _ _ _ _ _ _ _ _
      rw [hwS]; exact S15.out.below ((Below.refl _ _).drew)
    have PAST2 : Hid (∀ W, Below wS.heap.size wS W → RecsAt W a zs ∧ W.cell? ⟨w.heap.size, 0, none⟩ = some (.int .i64 pm) ∧ W.cell? ⟨w.heap.size, 1, none⟩ = some (.int .i64 pw) ∧ W.cell? ⟨w.heap.size, 2, none⟩ = some (.int .i64 pb)) := fun W hb =>
      ⟨(S17.out.below hb).h, cells3 (S17.out.below hb).pl⟩
    clear S15
    go_wp2_with fail
    refine wp_with_act (fun fr hfr => ?_)
    have hsz24 : fr.tmps.size = 128 := by rw [hfr]; rfl
    have f0 : fr.eval (.tmp 0) = .slice a zs.length c := by rw [hfr]; rfl
    have f3 : fr.eval (.tmp 3) = .pointer (some ⟨w.heap.size, 0, none⟩) := by rw [hfr]; rfl
    refine wp_region_held_drew (S := fun _ => True) (by kernel_rfl) trivial (fun _ => ?_)
    rw [← hwS]
    obtain ⟨SL, hSL⟩ : ∃ l : List (Nat × Nat), l = [(0, 97), (1, 98), (2, 99), (3, 100), (4, 101), (5, 96), (6, 102), (7, 103), (8, 104), (9, 17), (10, 16), (12, 18)] := ⟨_, rfl⟩
    obtain ⟨VL, hVL⟩ : ∃ l : List (Nat × Value), l = [(0, .slice a zs.length c), (2, .agg #[.int .i64 pm, .int .i64 pw, .int .i64 pb]), (3, .agg #[.int .i64 pm, .int .i64 pw, .int .i64 pb]), (7, .agg #[.int .i64 c0, .int .i64 c1, .int .i64 c2, .int .i64 c3]), (8, .bool ok), (12, .bool ok)] := ⟨_, rfl⟩
    have hN1 : (SL.map Prod.fst).Nodup := by rw [hSL]; decide
    have hN2 : (SL.map Prod.snd).Nodup := by rw [hSL]; decide
    have M0 : (0, 97) ∈ SL := by rw [hSL]; exact (.head _)
    have E97 : ∀ x, (puts fr x SL).eval (.tmp 97) = x 0 := fun x => eval_at SL fr hN2 M0 (by rw [hsz24]; decide)
    have M1 : (1, 98) ∈ SL := by rw [hSL]; exact (.tail _ (.head _))
    have E98 : ∀ x, (puts fr x SL).eval (.tmp 98) = x 1 := fun x => eval_at SL fr hN2 M1 (by rw [hsz24]; decide)
    have M2 : (2, 99) ∈ SL := by rw [hSL]; exact (.tail _ (.tail _ (.head _)))
    have E99 : ∀ x, (puts fr x SL).eval (.tmp 99) = x 2 := fun x => eval_at SL fr hN2 M2 (by rw [hsz24]; decide)
    have M3 : (3, 100) ∈ SL := by rw [hSL]; exact (.tail _ (.tail _ (.tail _ (.head _))))
    have E100 : ∀ x, (puts fr x SL).eval (.tmp 100) = x 3 := fun x => eval_at SL fr hN2 M3 (by rw [hsz24]; decide)
    have M4 : (4, 101) ∈ SL := by rw [hSL]; exact (.tail _ (.tail _ (.tail _ (.tail _ (.head _)))))
    have E101 : ∀ x, (puts fr x SL).eval (.tmp 101) = x 4 := fun x => eval_at SL fr hN2 M4 (by rw [hsz24]; decide)
    have M5 : (5, 96) ∈ SL := by rw [hSL]; exact (.tail _ (.tail _ (.tail _ (.tail _ (.tail _ (.head _))))))
    have E96 : ∀ x, (puts fr x SL).eval (.tmp 96) = x 5 := fun x => eval_at SL fr hN2 M5 (by rw [hsz24]; decide)
    have M6 : (6, 102) ∈ SL := by rw [hSL]; exact (.tail _ (.tail _ (.tail _ (.tail _ (.tail _ (.tail _ (.head _)))))))
    have E102 : ∀ x, (puts fr x SL).eval (.tmp 102) = x 6 := fun x => eval_at SL fr hN2 M6 (by rw [hsz24]; decide)
    have M7 : (7, 103) ∈ SL := by rw [hSL]; exact (.tail _ (.tail _ (.tail _ (.tail _ (.tail _ (.tail _ (.tail _ (.head _))))))))
    have E103 : ∀ x, (puts fr x SL).eval (.tmp 103) = x 7 := fun x => eval_at SL fr hN2 M7 (by rw [hsz24]; decide)
    have M8 : (8, 104) ∈ SL := by rw [hSL]; exact (.tail _ (.tail _ (.tail _ (.tail _ (.tail _ (.tail _ (.tail _ (.tail _ (.head _)))))))))
    have E104 : ∀ x, (puts fr x SL).eval (.tmp 104) = x 8 := fun x => eval_at SL fr hN2 M8 (by rw [hsz24]; decide)
    have M9 : (9, 17) ∈ SL := by rw [hSL]; exact (.tail _ (.tail _ (.tail _ (.tail _ (.tail _ (.tail _ (.tail _ (.tail _ (.tail _ (.head _))))))))))
    have E17 : ∀ x, (puts fr x SL).eval (.tmp 17) = x 9 := fun x => eval_at SL fr hN2 M9 (by rw [hsz24]; decide)
    have M10 : (10, 16) ∈ SL := by rw [hSL]; exact (.tail _ (.tail _ (.tail _ (.tail _ (.tail _ (.tail _ (.tail _ (.tail _ (.tail _ (.tail _ (.head _)))))))))))
    have E16 : ∀ x, (puts fr x SL).eval (.tmp 16) = x 10 := fun x => eval_at SL fr hN2 M10 (by rw [hsz24]; decide)
    have M12 : (12, 18) ∈ SL := by rw [hSL]; exact (.tail _ (.tail _ (.tail _ (.tail _ (.tail _ (.tail _ (.tail _ (.tail _ (.tail _ (.tail _ (.tail _ (.head _))))))))))))
    have E18 : ∀ x, (puts fr x SL).eval (.tmp 18) = x 12 := fun x => eval_at SL fr hN2 M12 (by rw [hsz24]; decide)
    have E0 : ∀ x, (puts fr x SL).eval (.tmp 0) = .slice a zs.length c := fun x => (eval_far SL fr (by rw [hSL]; decide)).trans f0
    have E3 : ∀ x, (puts fr x SL).eval (.tmp 3) = .pointer (some ⟨w.heap.size, 0, none⟩) := fun x => (eval_far SL fr (by rw [hSL]; decide)).trans f3
    have VM0 : (0, .slice a zs.length c) ∈ VL := by rw [hVL]; exact (.head _)
    have VU0 : ∀ pp ∈ VL, pp.1 = 0 → pp.2 = .slice a zs.length c := by rw [hVL]; exact (List.forall_mem_cons.2 ⟨(fun _ => rfl), (List.forall_mem_cons.2 ⟨(fun e => absurd (show (2 : Nat) = 0 from e) (by decide)), (List.forall_mem_cons.2 ⟨(fun e => absurd (show (3 : Nat) = 0 from e) (by decide)), (List.forall_mem_cons.2 ⟨(fun e => absurd (show (7 : Nat) = 0 from e) (by decide)), (List.forall_mem_cons.2 ⟨(fun e => absurd (show (8 : Nat) = 0 from e) (by decide)), (List.forall_mem_cons.2 ⟨(fun e => absurd (show (12 : Nat) = 0 from e) (by decide)), (fun _ h => nomatch h)⟩)⟩)⟩)⟩)⟩)⟩)
    have VM2 : (2, .agg #[.int .i64 pm, .int .i64 pw, .int .i64 pb]) ∈ VL := by rw [hVL]; exact (.tail _ (.head _))
    have VU2 : ∀ pp ∈ VL, pp.1 = 2 → pp.2 = .agg #[.int .i64 pm, .int .i64 pw, .int .i64 pb] := by rw [hVL]; exact (List.forall_mem_cons.2 ⟨(fun e => absurd (show (0 : Nat) = 2 from e) (by decide)), (List.forall_mem_cons.2 ⟨(fun _ => rfl), (List.forall_mem_cons.2 ⟨(fun e => absurd (show (3 : Nat) = 2 from e) (by decide)), (List.forall_mem_cons.2 ⟨(fun e => absurd (show (7 : Nat) = 2 from e) (by decide)), (List.forall_mem_cons.2 ⟨(fun e => absurd (show (8 : Nat) = 2 from e) (by decide)), (List.forall_mem_cons.2 ⟨(fun e => absurd (show (12 : Nat) = 2 from e) (by decide)), (fun _ h => nomatch h)⟩)⟩)⟩)⟩)⟩)⟩)
    have VM3 : (3, .agg #[.int .i64 pm, .int .i64 pw, .int .i64 pb]) ∈ VL := by rw [hVL]; exact (.tail _ (.tail _ (.head _)))
    have VU3 : ∀ pp ∈ VL, pp.1 = 3 → pp.2 = .agg #[.int .i64 pm, .int .i64 pw, .int .i64 pb] := by rw [hVL]; exact (List.forall_mem_cons.2 ⟨(fun e => absurd (show (0 : Nat) = 3 from e) (by decide)), (List.forall_mem_cons.2 ⟨(fun e => absurd (show (2 : Nat) = 3 from e) (by decide)), (List.forall_mem_cons.2 ⟨(fun _ => rfl), (List.forall_mem_cons.2 ⟨(fun e => absurd (show (7 : Nat) = 3 from e) (by decide)), (List.forall_mem_cons.2 ⟨(fun e => absurd (show (8 : Nat) = 3 from e) (by decide)), (List.forall_mem_cons.2 ⟨(fun e => absurd (show (12 : Nat) = 3 from e) (by decide)), (fun _ h => nomatch h)⟩)⟩)⟩)⟩)⟩)⟩)
    have VM7 : (7, .agg #[.int .i64 c0, .int .i64 c1, .int .i64 c2, .int .i64 c3]) ∈ VL := by rw [hVL]; exact (.tail _ (.tail _ (.tail _ (.head _))))
    have VU7 : ∀ pp ∈ VL, pp.1 = 7 → pp.2 = .agg #[.int .i64 c0, .int .i64 c1, .int .i64 c2, .int .i64 c3] := by rw [hVL]; exact (List.forall_mem_cons.2 ⟨(fun e => absurd (show (0 : Nat) = 7 from e) (by decide)), (List.forall_mem_cons.2 ⟨(fun e => absurd (show (2 : Nat) = 7 from e) (by decide)), (List.forall_mem_cons.2 ⟨(fun e => absurd (show (3 : Nat) = 7 from e) (by decide)), (List.forall_mem_cons.2 ⟨(fun _ => rfl), (List.forall_mem_cons.2 ⟨(fun e => absurd (show (8 : Nat) = 7 from e) (by decide)), (List.forall_mem_cons.2 ⟨(fun e => absurd (show (12 : Nat) = 7 from e) (by decide)), (fun _ h => nomatch h)⟩)⟩)⟩)⟩)⟩)⟩)
    have VM8 : (8, .bool ok) ∈ VL := by rw [hVL]; exact (.tail _ (.tail _ (.tail _ (.tail _ (.head _)))))
    have VU8 : ∀ pp ∈ VL, pp.1 = 8 → pp.2 = .bool ok := by rw [hVL]; exact (List.forall_mem_cons.2 ⟨(fun e => absurd (show (0 : Nat) = 8 from e) (by decide)), (List.forall_mem_cons.2 ⟨(fun e => absurd (show (2 : Nat) = 8 from e) (by decide)), (List.forall_mem_cons.2 ⟨(fun e => absurd (show (3 : Nat) = 8 from e) (by decide)), (List.forall_mem_cons.2 ⟨(fun e => absurd (show (7 : Nat) = 8 from e) (by decide)), (List.forall_mem_cons.2 ⟨(fun _ => rfl), (List.forall_mem_cons.2 ⟨(fun e => absurd (show (12 : Nat) = 8 from e) (by decide)), (fun _ h => nomatch h)⟩)⟩)⟩)⟩)⟩)⟩)
    have VM12 : (12, .bool ok) ∈ VL := by rw [hVL]; exact (.tail _ (.tail _ (.tail _ (.tail _ (.tail _ (.head _))))))
    have VU12 : ∀ pp ∈ VL, pp.1 = 12 → pp.2 = .bool ok := by rw [hVL]; exact (List.forall_mem_cons.2 ⟨(fun e => absurd (show (0 : Nat) = 12 from e) (by decide)), (List.forall_mem_cons.2 ⟨(fun e => absurd (show (2 : Nat) = 12 from e) (by decide)), (List.forall_mem_cons.2 ⟨(fun e => absurd (show (3 : Nat) = 12 from e) (by decide)), (List.forall_mem_cons.2 ⟨(fun e => absurd (show (7 : Nat) = 12 from e) (by decide)), (List.forall_mem_cons.2 ⟨(fun e => absurd (show (8 : Nat) = 12 from e) (by decide)), (List.forall_mem_cons.2 ⟨(fun _ => rfl), (fun _ h => nomatch h)⟩)⟩)⟩)⟩)⟩)⟩)
    have VN1 : ∀ pp ∈ VL, pp.1 ≠ 1 := by rw [hVL]; exact (List.forall_mem_cons.2 ⟨(show (0 : Nat) ≠ 1 by decide), (List.forall_mem_cons.2 ⟨(show (2 : Nat) ≠ 1 by decide), (List.forall_mem_cons.2 ⟨(show (3 : Nat) ≠ 1 by decide), (List.forall_mem_cons.2 ⟨(show (7 : Nat) ≠ 1 by decide), (List.forall_mem_cons.2 ⟨(show (8 : Nat) ≠ 1 by decide), (List.forall_mem_cons.2 ⟨(show (12 : Nat) ≠ 1 by decide), (fun _ h => nomatch h)⟩)⟩)⟩)⟩)⟩)⟩)
    have VN4 : ∀ pp ∈ VL, pp.1 ≠ 4 := by rw [hVL]; exact (List.forall_mem_cons.2 ⟨(show (0 : Nat) ≠ 4 by decide), (List.forall_mem_cons.2 ⟨(show (2 : Nat) ≠ 4 by decide), (List.forall_mem_cons.2 ⟨(show (3 : Nat) ≠ 4 by decide), (List.forall_mem_cons.2 ⟨(show (7 : Nat) ≠ 4 by decide), (List.forall_mem_cons.2 ⟨(show (8 : Nat) ≠ 4 by decide), (List.forall_mem_cons.2 ⟨(show (12 : Nat) ≠ 4 by decide), (fun _ h => nomatch h)⟩)⟩)⟩)⟩)⟩)⟩)
    have VN5 : ∀ pp ∈ VL, pp.1 ≠ 5 := by rw [hVL]; exact (List.forall_mem_cons.2 ⟨(show (0 : Nat) ≠ 5 by decide), (List.forall_mem_cons.2 ⟨(show (2 : Nat) ≠ 5 by decide), (List.forall_mem_cons.2 ⟨(show (3 : Nat) ≠ 5 by decide), (List.forall_mem_cons.2 ⟨(show (7 : Nat) ≠ 5 by decide), (List.forall_mem_cons.2 ⟨(show (8 : Nat) ≠ 5 by decide), (List.forall_mem_cons.2 ⟨(show (12 : Nat) ≠ 5 by decide), (fun _ h => nomatch h)⟩)⟩)⟩)⟩)⟩)⟩)
    have VN6 : ∀ pp ∈ VL, pp.1 ≠ 6 := by rw [hVL]; exact (List.forall_mem_cons.2 ⟨(show (0 : Nat) ≠ 6 by decide), (List.forall_mem_cons.2 ⟨(show (2 : Nat) ≠ 6 by decide), (List.forall_mem_cons.2 ⟨(show (3 : Nat) ≠ 6 by decide), (List.forall_mem_cons.2 ⟨(show (7 : Nat) ≠ 6 by decide), (List.forall_mem_cons.2 ⟨(show (8 : Nat) ≠ 6 by decide), (List.forall_mem_cons.2 ⟨(show (12 : Nat) ≠ 6 by decide), (fun _ h => nomatch h)⟩)⟩)⟩)⟩)⟩)⟩)
    have VN9 : ∀ pp ∈ VL, pp.1 ≠ 9 := by rw [hVL]; exact (List.forall_mem_cons.2 ⟨(show (0 : Nat) ≠ 9 by decide), (List.forall_mem_cons.2 ⟨(show (2 : Nat) ≠ 9 by decide), (List.forall_mem_cons.2 ⟨(show (3 : Nat) ≠ 9 by decide), (List.forall_mem_cons.2 ⟨(show (7 : Nat) ≠ 9 by decide), (List.forall_mem_cons.2 ⟨(show (8 : Nat) ≠ 9 by decide), (List.forall_mem_cons.2 ⟨(show (12 : Nat) ≠ 9 by decide), (fun _ h => nomatch h)⟩)⟩)⟩)⟩)⟩)⟩)
    have VN10 : ∀ pp ∈ VL, pp.1 ≠ 10 := by rw [hVL]; exact (List.forall_mem_cons.2 ⟨(show (0 : Nat) ≠ 10 by decide), (List.forall_mem_cons.2 ⟨(show (2 : Nat) ≠ 10 by decide), (List.forall_mem_cons.2 ⟨(show (3 : Nat) ≠ 10 by decide), (List.forall_mem_cons.2 ⟨(show (7 : Nat) ≠ 10 by decide), (List.forall_mem_cons.2 ⟨(show (8 : Nat) ≠ 10 by decide), (List.forall_mem_cons.2 ⟨(show (12 : Nat) ≠ 10 by decide), (fun _ h => nomatch h)⟩)⟩)⟩)⟩)⟩)⟩)
    have VN11 : ∀ pp ∈ VL, pp.1 ≠ 11 := by rw [hVL]; exact (List.forall_mem_cons.2 ⟨(show (0 : Nat) ≠ 11 by decide), (List.forall_mem_cons.2 ⟨(show (2 : Nat) ≠ 11 by decide), (List.forall_mem_cons.2 ⟨(show (3 : Nat) ≠ 11 by decide), (List.forall_mem_cons.2 ⟨(show (7 : Nat) ≠ 11 by decide), (List.forall_mem_cons.2 ⟨(show (8 : Nat) ≠ 11 by decide), (List.forall_mem_cons.2 ⟨(show (12 : Nat) ≠ 11 by decide), (fun _ h => nomatch h)⟩)⟩)⟩)⟩)⟩)⟩)
    have hst24 : fr = puts fr (x0 fr SL) SL := puts_x0 fr SL (by rw [hSL]; decide)
    clear hVL
    refine wpAnyH_inv2 (JV fr SL VL (XKK wS 30 zs.length zs G #[.int .i64 c0, .int .i64 c1, .int .i64 c2, .int .i64 c3] ok)) (by kernel_rfl) ?steps24 ?done24 _ _ ?start24
    case start24 => exact ⟨_, hst24, VOK.start _ _ _, XKK.start _⟩
    case steps24 =>
      clear hst24 hSL hfr
      refine ⟨?_, ?_, ?_, ?_, ?_, ?_, ?_, ?_, ?_, ?_, ?_, ?_, ?_, trivial⟩
      all_goals
        rintro LB ac w' hs hu haf hcl ⟨x, rfl, hv, hk⟩ K hK
      · have r0 := E0 x
        rw [if_pos (by rfl)]
        refine wp_val (v := .slice a zs.length c) ?_ (hK _ _ (jv_set (by rw [hs]; decide) (x := upd x 0 _) (puts_set SL fr hN1 hN2 M0) (hv.val 0 _ VU0) (hk.quiet 0 _ (by decide))))
        generalize (puts fr x SL).eval = ρ at r0 ⊢; go_simp
      · have r97 := (E97 x).trans (hv _ VM0 (haf ⟨0, .data⟩ (by simp) rfl))
        rw [if_pos (by rfl)]
        have h4f : LB.getD 4 false = false := by
          cases h : LB.getD 4 false with
          | false => rfl
          | true => exact absurd (hcl 4 _ rfl h ⟨1, .data⟩ (by simp) rfl) (by rw [hu]; decide)
        unfold Oper.wp
        rw [show (execOp (puts fr x SL).eval _).run _ w' = .ok (.enter 29 #[.slice a zs.length c]) w' by rw [execOp_call_go]; generalize (puts fr x SL).eval = ρ at r97 ⊢; go_simp]
        rw [Oper.upon_enter]
        refine (toRecordS_any a c zs w' hl1 (PAST2.out w' hk.1).1).mono ?_
        rintro e w2 ⟨rfl, ho, hb⟩
        exact hK _ _ (jv_set (by rw [hs]; decide) (x := upd x 1 _) (puts_set SL fr hN1 hN2 M1) (hv.other 1 _ VN1) (XKK.conv hk h4f hb _ (rd_own ho)))
      · have r3 := E3 x
        obtain ⟨y0, y1, y2⟩ := (PAST2.out w' hk.1).2
        rw [if_pos (by rfl)]
        refine wp_val (v := .agg #[.int .i64 pm, .int .i64 pw, .int .i64 pb]) ?_ (hK _ _ (jv_set (by rw [hs]; decide) (x := upd x 2 _) (puts_set SL fr hN1 hN2 M2) (hv.val 2 _ VU2) (hk.quiet 2 _ (by decide))))
        generalize (puts fr x SL).eval = ρ at r3 ⊢; go_simp
      · have r99 := (E99 x).trans (hv _ VM2 (haf ⟨2, .data⟩ (by simp) rfl))
        rw [if_pos (by rfl)]
        refine wp_callv (v := .agg #[.int .i64 pm, .int .i64 pw, .int .i64 pb]) (G := fun w2 => Below w'.heap.size w' w2) ?_ (toDiskPlan_any pm pw pb w') (fun e w2 h => h) (fun w2 hg => ?_)
        · rw [execOp_call_go]; generalize (puts fr x SL).eval = ρ at r99 ⊢; go_simp
        · exact hK _ _ (jv_set (by rw [hs]; decide) (x := upd x 3 _) (puts_set SL fr hN1 hN2 M3) (hv.val 3 _ VU3) ((hk.below hg).quiet 3 _ (by decide)))
      · have r100 := (E100 x).trans (hv _ VM3 (haf ⟨3, .data⟩ (by simp) rfl))
        rw [if_pos (by rfl)]
        obtain ⟨g, e1, hr⟩ := hk.2.1 (haf ⟨1, .data⟩ (by simp) rfl)
        have hrd := hr hu
        have h5 : LB.getD 5 false = false := by
          cases h : LB.getD 5 false with
          | false => rfl
          | true => exact absurd (hcl 5 _ rfl h ⟨4, .data⟩ (by simp) rfl) (by rw [hu]; decide)
        have h6 : LB.getD 6 false = false := by
          cases h : LB.getD 6 false with
          | false => rfl
          | true => exact absurd (hcl 6 _ rfl h ⟨5, .data⟩ (by simp) rfl) (by rw [h5]; decide)
        have h10 : LB.getD 10 false = false := by
          cases h : LB.getD 10 false with
          | false => rfl
          | true => exact absurd (hcl 10 _ rfl h ⟨6, .data⟩ (by simp) rfl) (by rw [h6]; decide)
        have rr := E98 x
        rw [e1] at rr
        unfold Oper.wp
        rw [show (execOp (puts fr x SL).eval _).run _ w' = .ok (.enter 17 #[.slice (some ⟨g, 0, none⟩) zs.length zs.length, .agg #[.int .i64 pm, .int .i64 pw, .int .i64 pb]]) w' by rw [execOp_call_go]; generalize (puts fr x SL).eval = ρ at rr r100 ⊢; go_simp]
        rw [Oper.upon_enter]
        refine (HI.out _ _ _ _ hrd).mono ?_
        rintro e w2 ⟨aw, nw, cw, rfl, hrd2, hown, hb⟩
        exact hK _ _ (jv_set (by rw [hs]; decide) (x := upd x 4 _) (puts_set SL fr hN1 hN2 M4) (hv.other 4 _ VN4) (XKK.call hk hb ⟨hown, hrd2.len, hrd2.nil, hrd2.cap⟩ h5 h6 h10))
      · rw [if_pos (by rfl)]
        have h4 : LB.getD 4 false = true := haf ⟨4, .data⟩ (by simp) rfl
        have r101 := E101 x
        refine wp_val (v := x 4) ?_ (hK _ _ (jv_set (by rw [hs]; decide) (x := upd x 5 _) (puts_set SL fr hN1 hN2 M5) (hv.other 5 _ VN5) (XKK.mv5 hk h4)))
        generalize (puts fr x SL).eval = ρ at r101 ⊢; go_simp
      · rw [if_pos (by rfl)]
        have h5 : LB.getD 5 false = true := haf ⟨5, .data⟩ (by simp) rfl
        have h4 : LB.getD 4 false = true := hcl 5 _ rfl h5 ⟨4, .data⟩ (by simp) rfl
        have r96 := E96 x
        obtain ⟨aw, nw, cw, e4, -, e5, -⟩ := hk.2.2.2 h4
        rw [e5 h5, e4] at r96
        refine wp_val (v := .slice aw nw cw) ?_ (hK _ _ (jv_set (by rw [hs]; decide) (x := upd x 6 _) (puts_set SL fr hN1 hN2 M6) (hv.other 6 _ VN6) (XKK.ex6 hk h4 (fun a1 n1 c1 e => by rw [e4] at e; simp at e; obtain ⟨rfl, rfl, rfl⟩ := e; rfl))))
        generalize (puts fr x SL).eval = ρ at r96 ⊢; go_simp
      · rw [if_pos (by rfl)]
        have r96 := E96 x
        obtain ⟨aw, nw, cw, e4, -, e5, -⟩ := hk.2.2.2 (hcl 5 _ rfl (haf ⟨5, .data⟩ (by simp) rfl) ⟨4, .data⟩ (by simp) rfl)
        rw [e5 (haf ⟨5, .data⟩ (by simp) rfl), e4] at r96
        refine wp_val (v := .agg #[.int .i64 c0, .int .i64 c1, .int .i64 c2, .int .i64 c3]) ?_ (hK _ _ (jv_set (by rw [hs]; decide) (x := upd x 7 _) (puts_set SL fr hN1 hN2 M7) (hv.val 7 _ VU7) (hk.quiet 7 _ (by decide))))
        generalize (puts fr x SL).eval = ρ at r96 ⊢; go_simp
      · rw [if_pos (by rfl)]
        have r96 := E96 x
        obtain ⟨aw, nw, cw, e4, -, e5, -⟩ := hk.2.2.2 (hcl 5 _ rfl (haf ⟨5, .data⟩ (by simp) rfl) ⟨4, .data⟩ (by simp) rfl)
        rw [e5 (haf ⟨5, .data⟩ (by simp) rfl), e4] at r96
        refine wp_val (v := .bool ok) ?_ (hK _ _ (jv_set (by rw [hs]; decide) (x := upd x 8 _) (puts_set SL fr hN1 hN2 M8) (hv.val 8 _ VU8) (hk.quiet 8 _ (by decide))))
        generalize (puts fr x SL).eval = ρ at r96 ⊢; go_simp
      · rw [if_pos (by rfl)]
        have h11f : LB.getD 11 false = false := by
          cases h : LB.getD 11 false with
          | false => rfl
          | true => exact absurd (hcl 11 _ rfl h ⟨9, .data⟩ (by simp) rfl) (by rw [hu]; decide)
        refine wp_val (v := .pointer (some ⟨w'.heap.size, 0, none⟩)) (w' := w'.alloc (.cells z4 30)) ?_ (hK _ _ (jv_set (by rw [hs]; decide) (x := upd x 9 _) (puts_set SL fr hN1 hN2 M9) (hv.other 9 _ VN9) (XKK.alloc hk h11f)))
        go_simp
      · rw [if_pos (by rfl)]
        have h6 : LB.getD 6 false = true := haf ⟨6, .data⟩ (by simp) rfl
        have h4 : LB.getD 4 false = true := haf ⟨4, .chain⟩ (by simp) rfl
        have r102 := E102 x
        refine wp_val (v := x 6) ?_ (hK _ _ (jv_set (by rw [hs]; decide) (x := upd x 10 _) (puts_set SL fr hN1 hN2 M10) (hv.other 10 _ VN10) (XKK.as10 hk h4 h6)))
        generalize (puts fr x SL).eval = ρ at r102 ⊢; go_simp
      · have r103 := (E103 x).trans (hv _ VM7 (haf ⟨7, .data⟩ (by simp) rfl))
        rw [if_pos (by rfl)]
        have h9 : LB.getD 9 false = true := haf ⟨9, .data⟩ (by simp) rfl
        have h4 : LB.getD 4 false = true := haf ⟨4, .phase⟩ (by simp) rfl
        obtain ⟨T, eT, g1, g2, g3, g4⟩ := hk.2.2.1 h9
        have hh := g3 hu
        refine wp_store_row _ _ _ rfl T #[.int .i64 c0, .int .i64 c1, .int .i64 c2, .int .i64 c3] ((E17 x).trans eT) r103 _ _ hh (by kernel_rfl) rfl (by simp [Value.oneCell']) ?_
        exact hK _ _ (jv_set (by rw [hs]; decide) (x := x) rfl (hv.none 11 VN11) (XKK.store hk h4 h9 eT hh))
      · have r104 := (E104 x).trans (hv _ VM8 (haf ⟨8, .data⟩ (by simp) rfl))
        rw [if_pos (by rfl)]
        refine wp_val (v := .bool ok) ?_ (hK _ _ (jv_set (by rw [hs]; decide) (x := upd x 12 _) (puts_set SL fr hN1 hN2 M12) (hv.val 12 _ VU12) (hk.quiet 12 _ (by decide))))
        generalize (puts fr x SL).eval = ρ at r104 ⊢; go_simp
    case done24 =>
      rintro LB ac w2 hall ⟨x, rfl, hv, hk⟩
      have v0 : x 0 = .slice a zs.length c := hv _ VM0 (hall 0 (by decide))
      have v2 : x 2 = .agg #[.int .i64 pm, .int .i64 pw, .int .i64 pb] := hv _ VM2 (hall 2 (by decide))
      have v3 : x 3 = .agg #[.int .i64 pm, .int .i64 pw, .int .i64 pb] := hv _ VM3 (hall 3 (by decide))
      have v7 : x 7 = .agg #[.int .i64 c0, .int .i64 c1, .int .i64 c2, .int .i64 c3] := hv _ VM7 (hall 7 (by decide))
      have v8 : x 8 = .bool ok := hv _ VM8 (hall 8 (by decide))
      have v12 : x 12 = .bool ok := hv _ VM12 (hall 12 (by decide))
      obtain ⟨hbw, -, hT, hO⟩ := hk
      obtain ⟨T6, eT, g1, g2, -, g4⟩ := hT (hall 9 (by decide))
      have HT := Lib.hid (g4 (hall 11 (by decide)))
      obtain ⟨aw6, nw6, cw6, -, hout, -, -, e10, hne⟩ := hO (hall 4 (by decide))
      have E10 := e10 (hall 10 (by decide))
      have hne2 := hne (hall 9 (by decide))
      rw [eT] at hne2
      have HOUT := Lib.hid hout
      have HBW := Lib.hid hbw
      have HNE : Hid (nw6 ≠ 0 → ∀ k, (Value.slice aw6 nw6 cw6).ownBlock = some k → k ≠ T6) := fun h0 k hk e => hne2 k hk h0 (by rw [e])
      clear hT hO hout e10 hne hne2 hbw
      rw [hSL]
      simp only [puts]
      rw [eT, E10, v12]
      clear M0 E97 M1 E98 M2 E99 M3 E100 M4 E101 M5 E96 M6 E102 M7 E103 M8 E104 M9 E17 M10 E16 M12 E18 E0 E3 f0 f3 VM0 VU0 VM2 VU2 VM3 VU3 VM7 VU7 VM8 VU8 VM12 VU12 VN1 VN4 VN5 VN6 VN9 VN10 VN11 hN1 hN2 hst24 hsz24
      clear hall hv v0 v2 v3 v7 v8 v12
      rw [hfr]
      simp only [Act.put, List.setIfInBounds_toArray, List.set_cons_succ, List.set_cons_zero]
      clear hfr hSL
      have S18 := Lib.hid (S17.out.below HBW.out)
      have HH18 := Lib.hid HOUT.out.rd
      have hmh : nw6 = G.length := HH18.out.len.symm
      subst hmh
      clear HBW HOUT HNE PAST2 S17
      obtain ⟨u0, u1, u2, u3⟩ := cellsQ HT.out
      obtain ⟨v0, v1, v2, v3⟩ := cellsQ S18.out.tw.1
      go_wp2_with fail
      refine (eqRecordS_any _ _ _ _ G G _ nbw nbw HH18.out.recs S18.out.hw.recs).mono ?_
      rintro e w19q ⟨rfl, hb⟩
      have S19 := Lib.hid (S18.out.below hb)
      have HT2 := Lib.hid (block_below HT.out hb (hlt_of HT.out))
      clear u0 u1 u2 u3 v0 v1 v2 v3
      obtain ⟨u0, u1, u2, u3⟩ := cellsQ HT2.out
      obtain ⟨v0, v1, v2, v3⟩ := cellsQ S19.out.tw.1
      clear hb S18
      go_wp2_with fail
      refine (HQ.out _).mono ?_
      rintro e w20q ⟨rfl, hb⟩
      have S20 := Lib.hid (S19.out.below hb)
      clear hb u0 u1 u2 u3 v0 v1 v2 v3 S19
      go_wp2_with fail
      refine (HHE.out _ S20.out.og.rd.recs).mono ?_
      rintro e w21 ⟨rfl, rfl⟩
      go_wp2
      go_ret
      exact ⟨rfl, S20.out.b⟩

end Go.Proofs.Ytkckmjajjdpodaa
