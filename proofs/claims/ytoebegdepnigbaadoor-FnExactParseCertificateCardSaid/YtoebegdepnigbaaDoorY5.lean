/- Several texts in one: lemmas and walks of the functions that the laws reach. -/
import Derived.Test.YtoebegdepnigbaaDoorY3
import Derived.Laws.Tables
import Derived.Deep.AppendLies
import Derived.Test.YtoebegdepnigbaaDoorY4

/- Walks on texts: one record, by the reference. -/
namespace Go.Proofs.YtoebegdepnigbaaDoor
open Go.RowKit
set_option linter.unusedVariables false

theorem own_first {w : World} {base : Nat} {e : TypeId} {a : Option Addr} {n c : Nat} {x : Value} {xs : List Value} (h : w.ownsRow base e 1 (.slice a n c) n (x :: xs)) :
    ∃ g, a = some ⟨g, 0, none⟩ ∧ w.cell? ⟨g, 0, none⟩ = some x := by
  obtain ⟨h1, h2⟩ := h
  rcases h2 with ⟨h2, h3⟩ | ⟨g, cap, cur, hv, _, hg, hn, hc, hs, ht⟩
  · simp [h3] at h1
  · simp only [Value.slice.injEq] at hv
    obtain ⟨rfl, _, rfl⟩ := hv
    refine ⟨g, rfl, ?_⟩
    have hx : (x :: xs)[0]? = some x := rfl
    rw [← ht, List.getElem?_take] at hx
    split at hx
    · simp [World.cell?, hg]
      simpa using hx
    · cases hx

/-- A whole struct of two cells is stored, inside a region that draws its order. -/
theorem step_store2 {P : Program} {w : World} {ops : Array Oper} {o : Oper} {a : Act} {K : Act → World → Prop} {Q : Exit → Act → World → Prop} {E : Prop} (hgd : o.guard = none) (ty : TypeId) (x y : Operand) (ho : o.op = .store ty x y)
    (g : Nat) (u v : Value) (hx : a.eval x = .pointer (some ⟨g, 0, none⟩)) (hy : a.eval y = .agg #[u, v]) {t : TypeId} (hg : ∃ p q, w.heap[g]? = some (.cells #[p, q] t (0, 0)))
    (hi : (P.info? ty).map (·.size) = some 2) (h1 : u.oneCell' = true) (h2 : v.oneCell' = true)
    (h : ∀ w', w'.heap[g]? = some (.cells #[u, v] t (0, 0)) → w.grownBy w' (some g) → K (a.put o.dst undef) w') :
    if Region.wanted o (yielded ops a.tmps) = true then Oper.wp P o a w K Q else E := by
  have hw : Region.wanted o (yielded ops a.tmps) = true := by simp [Region.wanted, hgd]
  rw [if_pos hw]
  obtain ⟨p, q, hg⟩ := hg
  exact wp_store_row ty x y ho g #[u, v] hx hy t #[p, q] hg hi rfl (by simp [h1, h2]) (h _ (setRow_heap w g #[p, q] #[u, v] t (0, 0) hg) ⟨rfl, rfl, rfl, by simp, fun j _ hj => setRow_other w g j _ (fun e => hj (by simp [e]))⟩)

/-- The world of the last region: what lies below stands, the result's block lies ready. -/
structure Kr (w0 : World) (B1 : Nat) (w : World) : Prop where
  bel : Below w0.heap.size w0 w
  lo : w0.heap.size < B1
  lt : B1 + 1 ≤ w.heap.size
  row : ∃ x y, w.heap[w0.heap.size]? = some (.cells #[x, y] 112 (0, 0))
theorem Kr.drew {w0 : World} {B : Nat} {w : World} (h : Kr w0 B w) : Kr w0 B w.drew := ⟨Below.drew h.1, h.2, h.3, h.4⟩
theorem Kr.next {w0 : World} {B : Nat} {w w' : World} (h : Kr w0 B w) (hb : Below w.heap.size w w') : Kr w0 B w' := by
  refine ⟨h.1.trans (hb.mono ?_), h.2, Nat.le_trans h.3 hb.size, ?_⟩
  · have := h.2; have := h.3; omega
  · obtain ⟨x, y, hr⟩ := h.4
    exact ⟨x, y, by rw [hb.block _ (by have := h.2; have := h.3; omega)]; exact hr⟩
theorem Kr.store {w0 : World} {B : Nat} {w w' : World} {u v : Value} (h : Kr w0 B w) (hr : w'.heap[w0.heap.size]? = some (.cells #[u, v] 112 (0, 0))) (hg : w.grownBy w' (some w0.heap.size)) : Kr w0 B w' :=
  ⟨h.1.grown hg h.1.size (fun k hk => by simp at hk; omega), h.2, Nat.le_trans h.3 hg.size, ⟨u, v, hr⟩⟩
theorem kr_drew {w0 wx : World} {B : Nat} {c r : Value} (h0 : wx.cell? ⟨B, 0, none⟩ = some c) (h1 : wx.cell? ⟨B, 1, none⟩ = some r) (hk : Kr w0 B wx) : wx.drew.cell? ⟨B, 0, none⟩ = some c ∧ wx.drew.cell? ⟨B, 1, none⟩ = some r ∧ Kr w0 B wx.drew := ⟨h0, h1, hk.drew⟩
theorem kr_next {w0 wx w' : World} {B : Nat} {c r : Value} (h0 : wx.cell? ⟨B, 0, none⟩ = some c) (h1 : wx.cell? ⟨B, 1, none⟩ = some r) (hk : Kr w0 B wx) (hb : Below wx.heap.size wx w') : w'.cell? ⟨B, 0, none⟩ = some c ∧ w'.cell? ⟨B, 1, none⟩ = some r ∧ Kr w0 B w' :=
  ⟨(bcell hb hk.lt).trans h0, (bcell hb hk.lt).trans h1, hk.next hb⟩
theorem grown_cell {w w' : World} {g b o : Nat} (hg : w.grownBy w' (some g)) (hb : b < w.heap.size) (hne : g ≠ b) : w'.cell? ⟨b, o, none⟩ = w.cell? ⟨b, o, none⟩ := by
  have := hg.block b hb (fun e => hne (by simpa using e.symm))
  exact World.cell?_of_block (w := w) (w' := w') (a := ⟨b, o, none⟩) this
theorem kr_store {w0 wx w' : World} {B : Nat} {c r u v : Value} (h0 : wx.cell? ⟨B, 0, none⟩ = some c) (h1 : wx.cell? ⟨B, 1, none⟩ = some r) (hk : Kr w0 B wx) (hr : w'.heap[w0.heap.size]? = some (.cells #[u, v] 112 (0, 0))) (hg : wx.grownBy w' (some w0.heap.size)) :
    w'.cell? ⟨B, 0, none⟩ = some c ∧ w'.cell? ⟨B, 1, none⟩ = some r ∧ Kr w0 B w' :=
  ⟨(grown_cell hg hk.lt (by have := hk.lo; omega)).trans h0, (grown_cell hg hk.lt (by have := hk.lo; omega)).trans h1, hk.store hr hg⟩

theorem row_facts {w : World} {B : Nat} {x y : Value} {t : TypeId} (h : w.heap[B]? = some (.cells #[x, y] t (0, 0))) : w.cell? ⟨B, 0, none⟩ = some x ∧ w.cell? ⟨B, 1, none⟩ = some y ∧ w.frozen? ⟨B, 0, none⟩ = false ∧ w.frozen? ⟨B, 1, none⟩ = false := by
  refine ⟨cell_of_row _ _ _ _ _ _ h, cell_of_row _ _ _ _ _ _ h, ?_, ?_⟩ <;> simp [World.frozen?, h]
theorem kr_set {w0 wx : World} {B : Nat} {c r : Value} (u v : Value) (h : wx.cell? ⟨B, 0, none⟩ = some c ∧ wx.cell? ⟨B, 1, none⟩ = some r ∧ Kr w0 B wx) :
    ∃ x y, wx.cell? ⟨w0.heap.size, 0, none⟩ = some x ∧ wx.cell? ⟨w0.heap.size, 1, none⟩ = some y ∧ wx.frozen? ⟨w0.heap.size, 0, none⟩ = false ∧ wx.frozen? ⟨w0.heap.size, 1, none⟩ = false ∧
      (((wx.setCell ⟨w0.heap.size, 0, none⟩ u).setCell ⟨w0.heap.size, 1, none⟩ v).cell? ⟨B, 0, none⟩ = some c ∧ ((wx.setCell ⟨w0.heap.size, 0, none⟩ u).setCell ⟨w0.heap.size, 1, none⟩ v).cell? ⟨B, 1, none⟩ = some r ∧ Kr w0 B ((wx.setCell ⟨w0.heap.size, 0, none⟩ u).setCell ⟨w0.heap.size, 1, none⟩ v)) := by
  obtain ⟨h0, h1, hk⟩ := h
  obtain ⟨x, y, hr⟩ := hk.row
  obtain ⟨z0, z1, f0, f1⟩ := row_facts hr
  have ne : ∀ o o', (⟨w0.heap.size, o, none⟩ : Addr) ≠ ⟨B, o', none⟩ := fun o o' e => by have h1 := hk.lo; have h2 := congrArg Addr.block e; simp only at h2; omega
  have g1 : Below w0.heap.size w0 ((wx.setCell ⟨w0.heap.size, 0, none⟩ u).setCell ⟨w0.heap.size, 1, none⟩ v) := below_two hk.bel u v
  refine ⟨x, y, z0, z1, f0, f1, ?_, ?_, ⟨g1, hk.lo, by simpa using hk.lt, ?_⟩⟩
  · rw [World.cell?_setCell_other (h := ne 1 0), World.cell?_setCell_other (h := ne 0 0)]; exact h0
  · rw [World.cell?_setCell_other (h := ne 1 1), World.cell?_setCell_other (h := ne 0 1)]; exact h1
  · refine ⟨u, v, ?_⟩
    simp only [World.setCell, Array.getElem?_modify, if_true, hr, Option.map_some]
    try rfl

def ReadOne (w : World) (k : Nat) (s : ByteArray) (e : Ending) (w' : World) : Prop :=
  ∃ (c r : ByteArray) (b : Bool), e = .returned (.tuple #[recV c r, .bool b]) ∧ ((b = true ∧ Tx.dec k (bs s) = some (recE c r)) ∨ (b = false ∧ Tx.dec k (bs s) = none)) ∧ Below w.heap.size w w'

set_option maxRecDepth 100000 in
set_option maxHeartbeats 4000000 in
theorem l25Read_any (k : Nat) (s : ByteArray) (w : World) (hk : k < 60) (hs : s.size ≤ 4000000000) :
    Calls Tryd.prog 86 #[.string s, .int .i64 k] w (ReadOne w k s) := by
  obtain ⟨hd, hhd⟩ : ∃ x : ByteArray, bs x = Lib.decDigits k := ⟨ba _, rfl⟩
  have hn := l1Num_any 60 (k : Int) w
  have hN : ∀ w, Calls Tryd.prog 25 #[.int .i64 k] w fun e w' => e = .returned (.string hd) ∧ ∃ m, w' = w.drewN m := fun w => by
    have h := l1Num_any 60 (k : Int) w (by omega) (by omega) (by omega)
    rw [Int.toNat_natCast, ← hhd] at h
    exact h
  have HN := Lib.hid hN
  have hhs : hd.size ≤ 2 := by rw [← bs_len, hhd]; exact Tx.digits_len 1 k (by omega)
  obtain ⟨A, hA⟩ : ∃ x : ByteArray, x = hd ++ ⟨#[32]⟩ := ⟨_, rfl⟩
  have hAb : bs A = Lib.decDigits k ++ [32] := by rw [hA, bs_add, hhd]; rfl
  have hAs : A.size ≤ 3 := by rw [hA, size_add]; have : (ByteArray.mk #[32]).size = 1 := rfl; omega
  have a1 : ∀ w, (Op.stringOp .add hd ⟨#[32]⟩).run Tryd.prog w = .ok (.string A) w := by rw [hA]; exact add_runs (by omega) (by decide)
  obtain ⟨text, htx⟩ : ∃ x, bs x = Tx.upto 35 (bs s) := ⟨ba _, rfl⟩
  have hts : text.size ≤ s.size := by rw [← bs_len, ← bs_len, htx]; exact Tx.upto_len _ _
  obtain ⟨P1, hP1, _⟩ := splitL_head 35 (bs s)
  have hS1 := fun w => l1Split_any s 35 35 w hs rfl
  rw [hP1, ← htx] at hS1
  have HS1 := Lib.hid hS1
  have e_t : strL (bs text) = .string text := by unfold strL; rw [ba_bs]
  have HX := Lib.hid e_t
  clear hn hN hS1 hP1 hA e_t
  have hdec : Tx.decS k (bs s) = Tx.dec k (bs s) := Tx.decS_dec hk (bs s)
  have HDC := Lib.hid hdec; clear hdec
  have HZ : Hid (Tx.decS k (bs s) = if (bs text).take (bs A).length = bs A ∧ (bs A).length ≤ (bs text).length then
      (if (Tx.upto 62 ((bs text).drop (bs A).length)).length = ((bs text).drop (bs A).length).length then none
       else if Tx.okE (Tx.upto 62 ((bs text).drop (bs A).length), ((bs text).drop (bs A).length).drop ((Tx.upto 62 ((bs text).drop (bs A).length)).length + 1)) && (Tx.lineE k (Tx.upto 62 ((bs text).drop (bs A).length), ((bs text).drop (bs A).length).drop ((Tx.upto 62 ((bs text).drop (bs A).length)).length + 1)) == bs s) then some (Tx.upto 62 ((bs text).drop (bs A).length), ((bs text).drop (bs A).length).drop ((Tx.upto 62 ((bs text).drop (bs A).length)).length + 1)) else none) else none) := by
    show _ = _
    unfold Tx.decS
    rw [← hAb, ← htx]
  clear hAb htx hhd
  by_cases hc1 : A.size ≤ text.size
  case neg =>
    have HDN : Hid (Tx.dec k (bs s) = none) := by
      show _ = _
      rw [← HDC.out, HZ.out, if_neg (by rw [bs_len, bs_len]; omega)]
    clear HZ HDC
    go_enter Tryd.func86, Tryd.ntmps86
    go_wp2_with fail
    refine (HN.out _).mono ?_
    rintro e w' ⟨rfl, m, rfl⟩
    go_wp2_with fail
    refine (HS1.out _).mono ?_
    rintro e w1 ⟨a, cap, rfl, ho, hb1⟩
    obtain ⟨g, rfl, hg⟩ := own_first ho
    rw [HX.out] at hg
    clear ho
    have HB1 := Lib.hid (show Below w.heap.size w w1 from Below.trans (by (repeat (first | exact Below.refl _ _ | assumption | refine Below.setCell ?_ (by first | omega | (simp; done) | (simp; omega)) _ | refine Below.alloc ?_ (by first | omega | (simp; done) | (simp; omega)) _ | refine Below.drew ?_ | refine below_drewN ?_ _))) (hb1.mono (by simp)))
    have hrow1 : ∃ x y, w1.heap[w.heap.size]? = some (.cells #[x, y] 112 (0, 0)) := ⟨_, _, (hb1.block w.heap.size (by simp)).trans (heap_alloc_new w _)⟩
    have HR1 := Lib.hid hrow1
    obtain ⟨hcl, hfr⟩ := stands hb1
    have hz := hb1.size
    clear hb1 hrow1
    go_wp2
    obtain ⟨s0, s1, s2⟩ := two_set (w := w1) (B := w.heap.size) (.string ⟨#[]⟩) (.string ⟨#[]⟩) (a := .string ⟨#[]⟩) (b := .string ⟨#[]⟩) (by rw [hcl _ _ (by simp)]; simp [go_sem]) (by rw [hcl _ _ (by simp)]; simp [go_sem])
    refine bodyPost_ret (v := .tuple #[.agg #[.string ⟨#[]⟩, .string ⟨#[]⟩], .bool false]) (by simp [results, Tryd.results86, go_sem, s1, s2]) rfl ⟨⟨#[]⟩, ⟨#[]⟩, false, rfl, .inr ⟨rfl, HDN.out⟩, below_two HB1.out _ _⟩
  have htk : bs (text.extract 0 A.size) = (bs text).take (bs A).length := by rw [piece_bs, bs_len]; simp
  by_cases hc2 : (bs text).take (bs A).length = bs A
  case neg =>
    have HDN : Hid (Tx.dec k (bs s) = none) := by
      show _ = _
      rw [← HDC.out, HZ.out, if_neg (fun h => hc2 h.1)]
    have hcmp : (!((text.extract 0 A.size).toList == A.toList)) = true := by
      rw [bs_toList, bs_toList, htk]
      simpa using hc2
    clear HZ HDC htk hc2
    go_enter Tryd.func86, Tryd.ntmps86
    go_wp2_with fail
    refine (HN.out _).mono ?_
    rintro e w' ⟨rfl, m, rfl⟩
    go_wp2_with fail
    refine (HS1.out _).mono ?_
    rintro e w1 ⟨a, cap, rfl, ho, hb1⟩
    obtain ⟨g, rfl, hg⟩ := own_first ho
    rw [HX.out] at hg
    clear ho
    have HB1 := Lib.hid (show Below w.heap.size w w1 from Below.trans (by (repeat (first | exact Below.refl _ _ | assumption | refine Below.setCell ?_ (by first | omega | (simp; done) | (simp; omega)) _ | refine Below.alloc ?_ (by first | omega | (simp; done) | (simp; omega)) _ | refine Below.drew ?_ | refine below_drewN ?_ _))) (hb1.mono (by simp)))
    have hrow1 : ∃ x y, w1.heap[w.heap.size]? = some (.cells #[x, y] 112 (0, 0)) := ⟨_, _, (hb1.block w.heap.size (by simp)).trans (heap_alloc_new w _)⟩
    have HR1 := Lib.hid hrow1
    obtain ⟨hcl, hfr⟩ := stands hb1
    have hz := hb1.size
    clear hb1 hrow1
    go_wp2
    obtain ⟨s0, s1, s2⟩ := two_set (w := w1) (B := w.heap.size) (.string ⟨#[]⟩) (.string ⟨#[]⟩) (a := .string ⟨#[]⟩) (b := .string ⟨#[]⟩) (by rw [hcl _ _ (by simp)]; simp [go_sem]) (by rw [hcl _ _ (by simp)]; simp [go_sem])
    refine bodyPost_ret (v := .tuple #[.agg #[.string ⟨#[]⟩, .string ⟨#[]⟩], .bool false]) (by simp [results, Tryd.results86, go_sem, s1, s2]) rfl ⟨⟨#[]⟩, ⟨#[]⟩, false, rfl, .inr ⟨rfl, HDN.out⟩, below_two HB1.out _ _⟩
  have hcmp : (!((text.extract 0 A.size).toList == A.toList)) = false := by
    rw [bs_toList, bs_toList, htk, hc2]
    simp
  clear htk
  have hrest : bs (text.extract A.size text.size) = (bs text).drop (bs A).length := by rw [extract_bs', bs_len]
  obtain ⟨ask, hask⟩ : ∃ x, bs x = Tx.upto 62 (bs (text.extract A.size text.size)) := ⟨ba _, rfl⟩
  obtain ⟨P2, hP2, _⟩ := splitL_head 62 (bs (text.extract A.size text.size))
  have hrs : (text.extract A.size text.size).size = text.size - A.size := by rw [ByteArray.size_extract]; omega
  have hS2 := fun w => l1Split_any (text.extract A.size text.size) 62 62 w (by omega) rfl
  rw [hP2, ← hask] at hS2
  have HS2 := Lib.hid hS2
  have e_a : strL (bs ask) = .string ask := by unfold strL; rw [ba_bs]
  have HX2 := Lib.hid e_a
  have has : ask.size ≤ text.size - A.size := by rw [← hrs, ← bs_len, ← bs_len, hask]; exact Tx.upto_len _ _
  have HZ2 : Hid (Tx.decS k (bs s) = (if ask.size = text.size - A.size then none
       else if Tx.okE (bs ask, (bs (text.extract A.size text.size)).drop (ask.size + 1)) && (Tx.lineE k (bs ask, (bs (text.extract A.size text.size)).drop (ask.size + 1)) == bs s) then some (bs ask, (bs (text.extract A.size text.size)).drop (ask.size + 1)) else none)) := by
    show _ = _
    rw [HZ.out, if_pos ⟨hc2, by rw [bs_len, bs_len]; exact hc1⟩, ← hrest, ← hask, bs_len, bs_len, hrs]
  clear HZ hS2 hP2 e_a hask hc2
  by_cases hc3 : ask.size = text.size - A.size
  case pos =>
    have HDN : Hid (Tx.dec k (bs s) = none) := by
      show _ = _
      rw [← HDC.out, HZ2.out, if_pos hc3]
    have hq1 : ((ask.size : Int) == ((text.size - A.size : Nat) : Int)) = true := by rw [hc3]; simp
    have hq2 : ((ask.size : Int) == (text.size : Int) - (A.size : Int)) = true := by rw [beq_iff_eq]; omega
    have hq3 : ((ask.size : Int) == ((text.extract A.size text.size).size : Int)) = true := by rw [hrs, hc3]; simp
    have HC3 := Lib.hid hc3
    clear HZ2 HDC hrest hrs hc3
    go_enter Tryd.func86, Tryd.ntmps86
    go_wp2_with fail
    refine (HN.out _).mono ?_
    rintro e w' ⟨rfl, m, rfl⟩
    go_wp2_with fail
    refine (HS1.out _).mono ?_
    rintro e w1 ⟨a, cap, rfl, ho, hb1⟩
    obtain ⟨g, rfl, hg⟩ := own_first ho
    rw [HX.out] at hg
    clear ho
    have HB1 := Lib.hid (show Below w.heap.size w w1 from Below.trans (by (repeat (first | exact Below.refl _ _ | assumption | refine Below.setCell ?_ (by first | omega | (simp; done) | (simp; omega)) _ | refine Below.alloc ?_ (by first | omega | (simp; done) | (simp; omega)) _ | refine Below.drew ?_ | refine below_drewN ?_ _))) (hb1.mono (by simp)))
    have hrow1 : ∃ x y, w1.heap[w.heap.size]? = some (.cells #[x, y] 112 (0, 0)) := ⟨_, _, (hb1.block w.heap.size (by simp)).trans (heap_alloc_new w _)⟩
    have HR1 := Lib.hid hrow1
    obtain ⟨hcl, hfr⟩ := stands hb1
    have hz := hb1.size
    clear hb1 hrow1
    have h10 : w1.cell? ⟨w.heap.size, 0, none⟩ = some (.string ⟨#[]⟩) := by rw [hcl _ _ (by simp)]; simp [go_sem]
    have h11 : w1.cell? ⟨w.heap.size, 1, none⟩ = some (.string ⟨#[]⟩) := by rw [hcl _ _ (by simp)]; simp [go_sem]
    have f10 : w1.frozen? ⟨w.heap.size, 0, none⟩ = false := by rw [hfr _ _ (by simp)]; simp [go_sem]
    have f11 : w1.frozen? ⟨w.heap.size, 1, none⟩ = false := by rw [hfr _ _ (by simp)]; simp [go_sem]
    have hz1 : w.heap.size < w1.heap.size := by simp at hz; omega
    clear hcl hfr hz
    go_wp2_with fail
    refine (HS2.out _).mono ?_
    rintro e w2 ⟨a2, cap2, rfl, ho2, hb2⟩
    obtain ⟨g2, rfl, hg2⟩ := own_first ho2
    rw [HX2.out] at hg2
    clear ho2
    have h20 : w2.cell? ⟨w.heap.size, 0, none⟩ = some (.string ⟨#[]⟩) := (bcell hb2 hz1).trans h10
    have h21 : w2.cell? ⟨w.heap.size, 1, none⟩ = some (.string ⟨#[]⟩) := (bcell hb2 hz1).trans h11
    have f20 : w2.frozen? ⟨w.heap.size, 0, none⟩ = false := (hb2.frozen (p := ⟨w.heap.size, 0, none⟩) hz1).trans f10
    have f21 : w2.frozen? ⟨w.heap.size, 1, none⟩ = false := (hb2.frozen (p := ⟨w.heap.size, 1, none⟩) hz1).trans f11
    have hz2 : w.heap.size < w2.heap.size := Nat.lt_of_lt_of_le hz1 hb2.size
    have hrow2 : ∃ x y, w2.heap[w.heap.size]? = some (.cells #[x, y] 112 (0, 0)) := by
      obtain ⟨x, y, h⟩ := HR1.out
      exact ⟨x, y, by rw [hb2.block _ hz1]; exact h⟩
    have HR2 := Lib.hid hrow2
    have HB2 := Lib.hid (HB1.out.trans (hb2.mono HB1.out.size))
    clear hb2 h10 h11 f10 f11 hz1 hrow2
    go_wp2
    obtain ⟨s0, s1, s2⟩ := two_set (w := w2) (B := w.heap.size) (.string ⟨#[]⟩) (.string ⟨#[]⟩) (a := .string ⟨#[]⟩) (b := .string ⟨#[]⟩) (h20) (h21)
    refine bodyPost_ret (v := .tuple #[.agg #[.string ⟨#[]⟩, .string ⟨#[]⟩], .bool false]) (by simp [results, Tryd.results86, go_sem, s1, s2]) rfl ⟨⟨#[]⟩, ⟨#[]⟩, false, rfl, .inr ⟨rfl, HDN.out⟩, below_two HB2.out _ _⟩
  have hq1 : ((ask.size : Int) == ((text.size - A.size : Nat) : Int)) = false := by rw [beq_eq_false_iff_ne]; omega
  have hq2 : ((ask.size : Int) == (text.size : Int) - (A.size : Int)) = false := by rw [beq_eq_false_iff_ne]; omega
  have hq3 : ((ask.size : Int) == ((text.extract A.size text.size).size : Int)) = false := by rw [hrs, beq_eq_false_iff_ne]; omega
  obtain ⟨rep, hrep⟩ : ∃ x : ByteArray, (text.extract A.size text.size).extract (ask.size + 1) (text.size - A.size) = x := ⟨_, rfl⟩
  have hrb : bs rep = (bs (text.extract A.size text.size)).drop (ask.size + 1) := by rw [← hrep, ← hrs, extract_bs']
  have hrsz : rep.size ≤ 4000000000 := by rw [← bs_len, hrb, List.length_drop, bs_len]; omega
  have HZ3 : Hid (Tx.dec k (bs s) = if Tx.okE (recE ask rep) && (Tx.lineE k (recE ask rep) == bs s) then some (recE ask rep) else none) := by
    show _ = _
    rw [← HDC.out, HZ2.out, if_neg hc3, ← hrb]; rfl
  have hG := fun w => l25Good_any ask rep w (by omega) (by omega)
  have HG := Lib.hid hG
  have a9 := add_runs (P := Tryd.prog) (a := s) (b := ⟨#[10]⟩) (by omega) (by decide)
  have hbnd : ask.size + 1 ≤ (text.extract A.size text.size).size := by omega
  have HRS := Lib.hid hrs; clear hrs
  clear HZ2 HDC hrest hrb hG hc3
  cases hok : Tx.okE (recE ask rep)
  case false =>
    rw [hok] at HG HZ3
    have HDN : Hid (Tx.dec k (bs s) = none) := by
      show _ = _
      rw [HZ3.out]; rfl
    clear hok HZ3
    unfold recV at HG
    go_enter Tryd.func86, Tryd.ntmps86
    go_wp2_with fail
    refine (HN.out _).mono ?_
    rintro e w' ⟨rfl, m, rfl⟩
    go_wp2_with fail
    refine (HS1.out _).mono ?_
    rintro e w1 ⟨a, cap, rfl, ho, hb1⟩
    obtain ⟨g, rfl, hg⟩ := own_first ho
    rw [HX.out] at hg
    clear ho
    have HB1 := Lib.hid (show Below w.heap.size w w1 from Below.trans (by (repeat (first | exact Below.refl _ _ | assumption | refine Below.setCell ?_ (by first | omega | (simp; done) | (simp; omega)) _ | refine Below.alloc ?_ (by first | omega | (simp; done) | (simp; omega)) _ | refine Below.drew ?_ | refine below_drewN ?_ _))) (hb1.mono (by simp)))
    have hrow1 : ∃ x y, w1.heap[w.heap.size]? = some (.cells #[x, y] 112 (0, 0)) := ⟨_, _, (hb1.block w.heap.size (by simp)).trans (heap_alloc_new w _)⟩
    have HR1 := Lib.hid hrow1
    obtain ⟨hcl, hfr⟩ := stands hb1
    have hz := hb1.size
    clear hb1 hrow1
    have h10 : w1.cell? ⟨w.heap.size, 0, none⟩ = some (.string ⟨#[]⟩) := by rw [hcl _ _ (by simp)]; simp [go_sem]
    have h11 : w1.cell? ⟨w.heap.size, 1, none⟩ = some (.string ⟨#[]⟩) := by rw [hcl _ _ (by simp)]; simp [go_sem]
    have f10 : w1.frozen? ⟨w.heap.size, 0, none⟩ = false := by rw [hfr _ _ (by simp)]; simp [go_sem]
    have f11 : w1.frozen? ⟨w.heap.size, 1, none⟩ = false := by rw [hfr _ _ (by simp)]; simp [go_sem]
    have hz1 : w.heap.size < w1.heap.size := by simp at hz; omega
    clear hcl hfr hz
    go_wp2_with fail
    refine (HS2.out _).mono ?_
    rintro e w2 ⟨a2, cap2, rfl, ho2, hb2⟩
    obtain ⟨g2, rfl, hg2⟩ := own_first ho2
    rw [HX2.out] at hg2
    clear ho2
    have h20 : w2.cell? ⟨w.heap.size, 0, none⟩ = some (.string ⟨#[]⟩) := (bcell hb2 hz1).trans h10
    have h21 : w2.cell? ⟨w.heap.size, 1, none⟩ = some (.string ⟨#[]⟩) := (bcell hb2 hz1).trans h11
    have f20 : w2.frozen? ⟨w.heap.size, 0, none⟩ = false := (hb2.frozen (p := ⟨w.heap.size, 0, none⟩) hz1).trans f10
    have f21 : w2.frozen? ⟨w.heap.size, 1, none⟩ = false := (hb2.frozen (p := ⟨w.heap.size, 1, none⟩) hz1).trans f11
    have hz2 : w.heap.size < w2.heap.size := Nat.lt_of_lt_of_le hz1 hb2.size
    have hrow2 : ∃ x y, w2.heap[w.heap.size]? = some (.cells #[x, y] 112 (0, 0)) := by
      obtain ⟨x, y, h⟩ := HR1.out
      exact ⟨x, y, by rw [hb2.block _ hz1]; exact h⟩
    have HR2 := Lib.hid hrow2
    have HB2 := Lib.hid (HB1.out.trans (hb2.mono HB1.out.size))
    clear hb2 h10 h11 f10 f11 hz1 hrow2
    go_wp2_with fail
    have g0 : (w2.alloc (.cells #[.string ask, .string rep] 112)).cell? ⟨w2.heap.size, 0, none⟩ = some (.string ask) := alloc_cell 0
    have g1 : (w2.alloc (.cells #[.string ask, .string rep] 112)).cell? ⟨w2.heap.size, 1, none⟩ = some (.string rep) := alloc_cell 1
    have gk : Kr w w2.heap.size (w2.alloc (.cells #[.string ask, .string rep] 112)) := ⟨HB2.out.alloc HB2.out.size _, hz2, by simp, by
      obtain ⟨x, y, h⟩ := HR2.out
      exact ⟨x, y, (Below.heap_alloc w2 _ _ hz2).trans h⟩⟩
    have hS0 := kr_drew g0 g1 gk
    clear h20 h21 f20 f21
    refine wp_region_held_drew (S := fun w' => w'.cell? ⟨w2.heap.size, 0, none⟩ = some (.string ask) ∧ w'.cell? ⟨w2.heap.size, 1, none⟩ = some (.string rep) ∧ Kr w w2.heap.size w') (by kernel_rfl) hS0 (fun hHeld => ?_)
    refine wpAnyH_take (i := 0) (v := ?v0) rfl (by kernel_rfl) (by kernel_rfl) (by kernel_rfl) (fun _ _ _ h => h) (Or.inl ⟨by rfl, ?hy0⟩) (by assumption) ?rest0
    case hy0 => (intro wq hSw; (try dsimp only at hSw); go_split_ands; go_simp; first | done | with_reducible rfl)
    (try simp only [Act.put, List.setIfInBounds_toArray])
    refine wpAnyH_take (i := 1) (v := ?v1) rfl (by kernel_rfl) (by kernel_rfl) (by kernel_rfl) (fun _ _ _ h => h) (Or.inl ⟨by rfl, ?hy1⟩) (by assumption) ?rest1
    case hy1 => (intro wq hSw; (try dsimp only at hSw); go_split_ands; go_simp; first | done | with_reducible rfl)
    (try simp only [Act.put])
    refine wpAnyH_ready (rs := [2]) (by kernel_rfl) (by simp) ?_
    refine AllReadyH.cons rfl (fun K hK => ?_) AllReadyH.nil
    go_simp
    go_at_call 107
    refine (HG.out _).mono ?_
    rintro e w' ⟨rfl, hb⟩
    have hS := kr_next (c := .string ask) (r := .string rep) hS0.1 hS0.2.1 hS0.2.2 hb
    obtain ⟨x0, y0, z0, z1, f0, f1, hSs⟩ := kr_set (.string ask) (.string rep) hS
    clear hHeld hS0 hb
    (try go_wp2_with fail)
    refine hK.out _ _ hS (fun hHeld => ?_)
    clear hK K
    (try simp only [Act.put, List.setIfInBounds_toArray, List.set_cons_zero, List.set_cons_succ])
    refine wpAnyH_take (i := 3) (v := ?v3) rfl (by kernel_rfl) (by kernel_rfl) (by kernel_rfl) (fun _ _ _ h => h) (Or.inl ⟨by rfl, ?hy3⟩) (by assumption) ?rest3
    case hy3 => (intro wq hSw; (try dsimp only at hSw); go_split_ands; go_simp; first | done | with_reducible rfl)
    (try simp only [Act.put, List.setIfInBounds_toArray])
    refine wpAnyH_take (i := 4) (v := undef) rfl (by kernel_rfl) (by kernel_rfl) (by kernel_rfl) (fun _ _ _ h => h) (Or.inr ⟨by rfl, rfl⟩) (by assumption) ?_
    (try simp only [Act.put])
    refine wpAnyH_take (i := 5) (v := undef) rfl (by kernel_rfl) (by kernel_rfl) (by kernel_rfl) (fun _ _ _ h => h) (Or.inr ⟨by rfl, rfl⟩) (by assumption) ?_
    (try simp only [Act.put])
    refine wpAnyH_take (i := 6) (v := undef) rfl (by kernel_rfl) (by kernel_rfl) (by kernel_rfl) (fun _ _ _ h => h) (Or.inr ⟨by rfl, rfl⟩) (by assumption) ?_
    (try simp only [Act.put])
    refine wpAnyH_take (i := 7) (v := undef) rfl (by kernel_rfl) (by kernel_rfl) (by kernel_rfl) (fun _ _ _ h => h) (Or.inr ⟨by rfl, rfl⟩) (by assumption) ?_
    (try simp only [Act.put])
    refine wpAnyH_take (i := 8) (v := undef) rfl (by kernel_rfl) (by kernel_rfl) (by kernel_rfl) (fun _ _ _ h => h) (Or.inr ⟨by rfl, rfl⟩) (by assumption) ?_
    (try simp only [Act.put])
    refine wpAnyH_take (i := 9) (v := undef) rfl (by kernel_rfl) (by kernel_rfl) (by kernel_rfl) (fun _ _ _ h => h) (Or.inr ⟨by rfl, rfl⟩) (by assumption) ?_
    (try simp only [Act.put])
    refine wpAnyH_take (i := 10) (v := ?v10) rfl (by kernel_rfl) (by kernel_rfl) (by kernel_rfl) (fun _ _ _ h => h) (Or.inl ⟨by rfl, ?hy10⟩) (by assumption) ?rest10
    case hy10 => (intro wq hSw; (try dsimp only at hSw); go_split_ands; go_simp; first | done | with_reducible rfl)
    (try simp only [Act.put])
    refine wpAnyH_ready (rs := [11]) (by kernel_rfl) (by simp) ?_
    refine AllReadyH.cons rfl (fun K hK => ?_) AllReadyH.nil
    go_simp
    clear hHeld
    refine hK.out _ _ hSs (fun hHeld => ?_)
    clear hK K
    (try simp only [Act.put, List.setIfInBounds_toArray, List.set_cons_zero, List.set_cons_succ])
    refine wpAnyH_take (i := 12) (v := ?v12) rfl (by kernel_rfl) (by kernel_rfl) (by kernel_rfl) (fun _ _ _ h => h) (Or.inl ⟨by rfl, ?hy12⟩) (by assumption) ?rest12
    case hy12 => (intro wq hSw; (try dsimp only at hSw); go_split_ands; go_simp; first | done | with_reducible rfl)
    (try simp only [Act.put, List.setIfInBounds_toArray])
    refine wpAnyH_done (by kernel_rfl) ?_ _
    (try simp [List.set_cons_zero, List.set_cons_succ])
    all_goals
      go_wp2
      obtain ⟨s0, s1, s2⟩ := two_set (.string ask) (.string rep) z0 z1
      refine bodyPost_ret (v := .tuple #[.agg #[.string ask, .string rep], .bool false]) (by simp [results, Tryd.results86, go_sem, s1, s2]) rfl ⟨ask, rep, false, rfl, .inr ⟨rfl, HDN.out⟩, hSs.2.2.bel⟩
  rw [hok] at HG HZ3
  obtain ⟨⟨_, c90, _⟩, r200, _⟩ := Tx.okE_parts hok
  have hc9 : ask.size ≤ 90 := by rw [← bs_len]; exact c90
  have hr2 : rep.size ≤ 200 := by rw [← bs_len]; exact r200
  have hL : ∀ w, Calls Tryd.prog 108 #[.int .i64 k, recV ask rep] w fun e w' => e = .returned (.string (encB k ask rep)) ∧ Below w.heap.size w w' := fun w => by
    have h := l25Line_any (k : Int) ask rep w (by omega) (by omega) (by omega) (by omega)
    rw [Int.toNat_natCast] at h
    exact h
  have HL := Lib.hid hL
  have hcq : ((encB k ask rep).toList == (s ++ ⟨#[10]⟩).toList) = (Tx.lineE k (recE ask rep) == bs s) := enc_cmp
  clear hL c90 r200 hok
  generalize encB k ask rep = R at HL hcq
  unfold recV at HG HL
  cases hln : Tx.lineE k (recE ask rep) == bs s
  case false =>
    rw [hln] at hcq HZ3
    have HDN : Hid (Tx.dec k (bs s) = none) := by
      show _ = _
      rw [HZ3.out]; rfl
    clear hln HZ3
    go_enter Tryd.func86, Tryd.ntmps86
    go_wp2_with fail
    refine (HN.out _).mono ?_
    rintro e w' ⟨rfl, m, rfl⟩
    go_wp2_with fail
    refine (HS1.out _).mono ?_
    rintro e w1 ⟨a, cap, rfl, ho, hb1⟩
    obtain ⟨g, rfl, hg⟩ := own_first ho
    rw [HX.out] at hg
    clear ho
    have HB1 := Lib.hid (show Below w.heap.size w w1 from Below.trans (by (repeat (first | exact Below.refl _ _ | assumption | refine Below.setCell ?_ (by first | omega | (simp; done) | (simp; omega)) _ | refine Below.alloc ?_ (by first | omega | (simp; done) | (simp; omega)) _ | refine Below.drew ?_ | refine below_drewN ?_ _))) (hb1.mono (by simp)))
    have hrow1 : ∃ x y, w1.heap[w.heap.size]? = some (.cells #[x, y] 112 (0, 0)) := ⟨_, _, (hb1.block w.heap.size (by simp)).trans (heap_alloc_new w _)⟩
    have HR1 := Lib.hid hrow1
    obtain ⟨hcl, hfr⟩ := stands hb1
    have hz := hb1.size
    clear hb1 hrow1
    have h10 : w1.cell? ⟨w.heap.size, 0, none⟩ = some (.string ⟨#[]⟩) := by rw [hcl _ _ (by simp)]; simp [go_sem]
    have h11 : w1.cell? ⟨w.heap.size, 1, none⟩ = some (.string ⟨#[]⟩) := by rw [hcl _ _ (by simp)]; simp [go_sem]
    have f10 : w1.frozen? ⟨w.heap.size, 0, none⟩ = false := by rw [hfr _ _ (by simp)]; simp [go_sem]
    have f11 : w1.frozen? ⟨w.heap.size, 1, none⟩ = false := by rw [hfr _ _ (by simp)]; simp [go_sem]
    have hz1 : w.heap.size < w1.heap.size := by simp at hz; omega
    clear hcl hfr hz
    go_wp2_with fail
    refine (HS2.out _).mono ?_
    rintro e w2 ⟨a2, cap2, rfl, ho2, hb2⟩
    obtain ⟨g2, rfl, hg2⟩ := own_first ho2
    rw [HX2.out] at hg2
    clear ho2
    have h20 : w2.cell? ⟨w.heap.size, 0, none⟩ = some (.string ⟨#[]⟩) := (bcell hb2 hz1).trans h10
    have h21 : w2.cell? ⟨w.heap.size, 1, none⟩ = some (.string ⟨#[]⟩) := (bcell hb2 hz1).trans h11
    have f20 : w2.frozen? ⟨w.heap.size, 0, none⟩ = false := (hb2.frozen (p := ⟨w.heap.size, 0, none⟩) hz1).trans f10
    have f21 : w2.frozen? ⟨w.heap.size, 1, none⟩ = false := (hb2.frozen (p := ⟨w.heap.size, 1, none⟩) hz1).trans f11
    have hz2 : w.heap.size < w2.heap.size := Nat.lt_of_lt_of_le hz1 hb2.size
    have hrow2 : ∃ x y, w2.heap[w.heap.size]? = some (.cells #[x, y] 112 (0, 0)) := by
      obtain ⟨x, y, h⟩ := HR1.out
      exact ⟨x, y, by rw [hb2.block _ hz1]; exact h⟩
    have HR2 := Lib.hid hrow2
    have HB2 := Lib.hid (HB1.out.trans (hb2.mono HB1.out.size))
    clear hb2 h10 h11 f10 f11 hz1 hrow2
    go_wp2_with fail
    have g0 : (w2.alloc (.cells #[.string ask, .string rep] 112)).cell? ⟨w2.heap.size, 0, none⟩ = some (.string ask) := alloc_cell 0
    have g1 : (w2.alloc (.cells #[.string ask, .string rep] 112)).cell? ⟨w2.heap.size, 1, none⟩ = some (.string rep) := alloc_cell 1
    have gk : Kr w w2.heap.size (w2.alloc (.cells #[.string ask, .string rep] 112)) := ⟨HB2.out.alloc HB2.out.size _, hz2, by simp, by
      obtain ⟨x, y, h⟩ := HR2.out
      exact ⟨x, y, (Below.heap_alloc w2 _ _ hz2).trans h⟩⟩
    have hS0 := kr_drew g0 g1 gk
    clear h20 h21 f20 f21
    go_region_held3 (fun w' => w'.cell? ⟨w2.heap.size, 0, none⟩ = some (.string ask) ∧ w'.cell? ⟨w2.heap.size, 1, none⟩ = some (.string rep) ∧ Kr w w2.heap.size w') (go_keep)
      (first | ((try go_split_ands); go_at_call 107; refine (HG.out _).mono ?_; rintro e w' ⟨rfl, hb⟩; have hS := kr_next (c := .string ask) (r := .string rep) (by assumption) (by assumption) (by assumption) hb; obtain ⟨x0, y0, z0, z1, f0, f1, hSs⟩ := kr_set (.string ask) (.string rep) hS) | ((try go_split_ands); go_at_call 108; refine (HL.out _).mono ?_; rintro e w' ⟨rfl, hb⟩; have hS := kr_next (c := .string ask) (r := .string rep) (by assumption) (by assumption) (by assumption) hb; obtain ⟨x0, y0, z0, z1, f0, f1, hSs⟩ := kr_set (.string ask) (.string rep) hS))
    all_goals
      go_wp2
      obtain ⟨s0, s1, s2⟩ := two_set (.string ask) (.string rep) z0 z1
      refine bodyPost_ret (v := .tuple #[.agg #[.string ask, .string rep], .bool false]) (by simp [results, Tryd.results86, go_sem, s1, s2]) rfl ⟨ask, rep, false, rfl, .inr ⟨rfl, HDN.out⟩, hSs.2.2.bel⟩
  rw [hln] at hcq HZ3
  have HDS : Hid (Tx.dec k (bs s) = some (recE ask rep)) := by
    show _ = _
    rw [HZ3.out]; rfl
  clear hln HZ3
  go_enter Tryd.func86, Tryd.ntmps86
  go_wp2_with fail
  refine (HN.out _).mono ?_
  rintro e w' ⟨rfl, m, rfl⟩
  go_wp2_with fail
  refine (HS1.out _).mono ?_
  rintro e w1 ⟨a, cap, rfl, ho, hb1⟩
  obtain ⟨g, rfl, hg⟩ := own_first ho
  rw [HX.out] at hg
  clear ho
  have HB1 := Lib.hid (show Below w.heap.size w w1 from Below.trans (by (repeat (first | exact Below.refl _ _ | assumption | refine Below.setCell ?_ (by first | omega | (simp; done) | (simp; omega)) _ | refine Below.alloc ?_ (by first | omega | (simp; done) | (simp; omega)) _ | refine Below.drew ?_ | refine below_drewN ?_ _))) (hb1.mono (by simp)))
  have hrow1 : ∃ x y, w1.heap[w.heap.size]? = some (.cells #[x, y] 112 (0, 0)) := ⟨_, _, (hb1.block w.heap.size (by simp)).trans (heap_alloc_new w _)⟩
  have HR1 := Lib.hid hrow1
  obtain ⟨hcl, hfr⟩ := stands hb1
  have hz := hb1.size
  clear hb1 hrow1
  have h10 : w1.cell? ⟨w.heap.size, 0, none⟩ = some (.string ⟨#[]⟩) := by rw [hcl _ _ (by simp)]; simp [go_sem]
  have h11 : w1.cell? ⟨w.heap.size, 1, none⟩ = some (.string ⟨#[]⟩) := by rw [hcl _ _ (by simp)]; simp [go_sem]
  have f10 : w1.frozen? ⟨w.heap.size, 0, none⟩ = false := by rw [hfr _ _ (by simp)]; simp [go_sem]
  have f11 : w1.frozen? ⟨w.heap.size, 1, none⟩ = false := by rw [hfr _ _ (by simp)]; simp [go_sem]
  have hz1 : w.heap.size < w1.heap.size := by simp at hz; omega
  clear hcl hfr hz
  go_wp2_with fail
  refine (HS2.out _).mono ?_
  rintro e w2 ⟨a2, cap2, rfl, ho2, hb2⟩
  obtain ⟨g2, rfl, hg2⟩ := own_first ho2
  rw [HX2.out] at hg2
  clear ho2
  have h20 : w2.cell? ⟨w.heap.size, 0, none⟩ = some (.string ⟨#[]⟩) := (bcell hb2 hz1).trans h10
  have h21 : w2.cell? ⟨w.heap.size, 1, none⟩ = some (.string ⟨#[]⟩) := (bcell hb2 hz1).trans h11
  have f20 : w2.frozen? ⟨w.heap.size, 0, none⟩ = false := (hb2.frozen (p := ⟨w.heap.size, 0, none⟩) hz1).trans f10
  have f21 : w2.frozen? ⟨w.heap.size, 1, none⟩ = false := (hb2.frozen (p := ⟨w.heap.size, 1, none⟩) hz1).trans f11
  have hz2 : w.heap.size < w2.heap.size := Nat.lt_of_lt_of_le hz1 hb2.size
  have hrow2 : ∃ x y, w2.heap[w.heap.size]? = some (.cells #[x, y] 112 (0, 0)) := by
    obtain ⟨x, y, h⟩ := HR1.out
    exact ⟨x, y, by rw [hb2.block _ hz1]; exact h⟩
  have HR2 := Lib.hid hrow2
  have HB2 := Lib.hid (HB1.out.trans (hb2.mono HB1.out.size))
  clear hb2 h10 h11 f10 f11 hz1 hrow2
  go_wp2_with fail
  have g0 : (w2.alloc (.cells #[.string ask, .string rep] 112)).cell? ⟨w2.heap.size, 0, none⟩ = some (.string ask) := alloc_cell 0
  have g1 : (w2.alloc (.cells #[.string ask, .string rep] 112)).cell? ⟨w2.heap.size, 1, none⟩ = some (.string rep) := alloc_cell 1
  have gk : Kr w w2.heap.size (w2.alloc (.cells #[.string ask, .string rep] 112)) := ⟨HB2.out.alloc HB2.out.size _, hz2, by simp, by
    obtain ⟨x, y, h⟩ := HR2.out
    exact ⟨x, y, (Below.heap_alloc w2 _ _ hz2).trans h⟩⟩
  have hS0 := kr_drew g0 g1 gk
  clear h20 h21 f20 f21
  go_region_held3 (fun w' => w'.cell? ⟨w2.heap.size, 0, none⟩ = some (.string ask) ∧ w'.cell? ⟨w2.heap.size, 1, none⟩ = some (.string rep) ∧ Kr w w2.heap.size w') (go_keep)
    (first | ((try go_split_ands); go_at_call 107; refine (HG.out _).mono ?_; rintro e w' ⟨rfl, hb⟩; have hS := kr_next (c := .string ask) (r := .string rep) (by assumption) (by assumption) (by assumption) hb; obtain ⟨x0, y0, z0, z1, f0, f1, hSs⟩ := kr_set (.string ask) (.string rep) hS) | ((try go_split_ands); go_at_call 108; refine (HL.out _).mono ?_; rintro e w' ⟨rfl, hb⟩; have hS := kr_next (c := .string ask) (r := .string rep) (by assumption) (by assumption) (by assumption) hb; obtain ⟨x0, y0, z0, z1, f0, f1, hSs⟩ := kr_set (.string ask) (.string rep) hS))
  all_goals
    go_wp2
    obtain ⟨s0, s1, s2⟩ := two_set (.string ask) (.string rep) z0 z1
    refine bodyPost_ret (v := .tuple #[.agg #[.string ask, .string rep], .bool true]) (by simp [results, Tryd.results86, go_sem, s1, s2]) rfl ⟨ask, rep, true, rfl, .inl ⟨rfl, HDS.out⟩, hSs.2.2.bel⟩

end Go.Proofs.YtoebegdepnigbaaDoor

/- Walks on texts: all records of a text, by the reference. -/
namespace Go.Proofs.YtoebegdepnigbaaDoor
open Go.RowKit
set_option linter.unusedVariables false

theorem own_head {w : World} {base : Nat} {e : TypeId} {a : Option Addr} {n c : Nat} {x : Value} {xs : List Value} (h : w.ownsRow base e 1 (.slice a n c) n (x :: xs)) :
    ∃ g, a = some ⟨g, 0, none⟩ ∧ w.cell? ⟨g, 0, none⟩ = some x ∧ base ≤ g ∧ g < w.heap.size := by
  obtain ⟨g, hg, hc⟩ := own_first h
  subst hg
  have := h.lt g rfl
  exact ⟨g, rfl, hc, this.1, this.2⟩

def OpenEnd (w : World) (s : ByteArray) (e : Ending) (w' : World) : Prop :=
  ∃ (a : Option Addr) (c : Nat), e = .returned (.tuple #[.slice a (Tx.rd 60 (bs s)).length c, .int .i64 (Tx.total (Tx.rd 60 (bs s)) : Nat)]) ∧
    w'.ownsRow w.heap.size 112 2 (.slice a (Tx.rd 60 (bs s)).length c) (Tx.rd 60 (bs s)).length (flat encL ((Tx.rd 60 (bs s)).map (·.1))) ∧ Below w.heap.size w w'

set_option maxRecDepth 100000 in
set_option maxHeartbeats 4000000 in
theorem l25Open_any (s : ByteArray) (w : World) (hs : s.size ≤ 4000000000) :
    Calls Tryd.prog 72 #[.string s] w (OpenEnd w s) := by
  have E1 := Lib.hid (own_lit (w := w) (e := 112) (size := 2) #[] 0 (by omega) rfl)
  go_enter Tryd.func72, Tryd.ntmps72
  go_wp2
  go_loopw [4, 5] (fun v i wr => ∃ (acc : List (Tx.Rec × Nat)) (n : Nat), acc.length + n = 60 ∧ acc ++ Tx.rd n ((bs s).drop (Tx.total acc)) = Tx.rd 60 (bs s) ∧ Tx.total acc ≤ s.size ∧ i = .int .i64 (Tx.total acc : Nat) ∧
      wr.ownsRow w.heap.size 112 2 v acc.length (flat encL (acc.map (·.1))) ∧ Below w.heap.size w wr) (fun v _ _ => match v with | .slice _ n _ => 61 - n | _ => 0)
  case atStart => exact ⟨[], 60, rfl, rfl, by simp [Tx.total], rfl, E1.out, (Below.refl _ _).alloc (Nat.le_refl _) _⟩
  case round =>
    obtain ⟨acc, n, hn, hrd, hat, rfl, hown, hb⟩ := hrel
    obtain ⟨a1, c1, hv⟩ := own_slice hown
    subst hv
    clear E1
    have HB := Lib.hid hb; clear hb
    have HO := Lib.hid hown; clear hown
    have HRD := Lib.hid hrd; clear hrd
    have fin : Hid (Tx.rd n ((bs s).drop (Tx.total acc)) = [] → acc = Tx.rd 60 (bs s)) := by
      intro h
      have := HRD.out
      rw [h, List.append_nil] at this
      exact this
    by_cases hlt : Tx.total acc < s.size
    case neg =>
      have HE : Hid (acc = Tx.rd 60 (bs s)) := fin.out (by
        rw [List.drop_of_length_le (by rw [bs_len]; omega)]
        cases n with
        | zero => rfl
        | succ m => rw [Tx.rd]; have : Tx.step (59 - m) [] = none := by simp [Tx.step]
                    rw [this])
      have HT : Hid (Tx.total acc = Tx.total (Tx.rd 60 (bs s))) := by show _ = _; rw [HE.out]
      generalize Tx.total acc = at0 at *
      go_wp2
      go_ret2
      refine ⟨a1, c1, ret_v2 (by rw [HE.out]; rfl) (by rw [← HT.out]; rfl), ?_, HB.out⟩
      have h := HO.out
      rw [HE.out] at h
      exact h
    by_cases hn0 : n = 0
    · subst hn0
      have HE : Hid (acc = Tx.rd 60 (bs s)) := fin.out rfl
      have HT : Hid (Tx.total acc = Tx.total (Tx.rd 60 (bs s))) := by show _ = _; rw [HE.out]
      generalize Tx.total acc = at0 at *
      go_wp2
      go_ret2
      refine ⟨a1, c1, ret_v2 (by rw [HE.out]; rfl) (by rw [← HT.out]; rfl), ?_, HB.out⟩
      have h := HO.out
      rw [HE.out] at h
      exact h
    obtain ⟨m, rfl⟩ : ∃ m, n = m + 1 := ⟨n - 1, by omega⟩
    have hk60 : acc.length < 60 := by omega
    obtain ⟨line, hline⟩ : ∃ x, bs x = Tx.upto 10 (bs (s.extract (Tx.total acc) s.size)) := ⟨ba _, rfl⟩
    have hxs : (s.extract (Tx.total acc) s.size).size ≤ 4000000000 := by rw [← bs_len, extract_bs, List.length_drop, bs_len]; omega
    have hls : line.size ≤ s.size := by
      have := Tx.upto_len 10 (bs (s.extract (Tx.total acc) s.size))
      rw [← hline, bs_len, extract_bs, List.length_drop, bs_len] at this
      omega
    obtain ⟨P, hP, hPm⟩ := splitL_head 10 (bs (s.extract (Tx.total acc) s.size))
    have hS := fun w => l1Split_any (s.extract (Tx.total acc) s.size) 10 10 w hxs rfl
    rw [hP, ← hline] at hS
    have HS := Lib.hid hS
    have HX := Lib.hid (show strL (bs line) = .string line by unfold strL; rw [ba_bs])
    have HR := Lib.hid (fun w => l25Read_any acc.length line w hk60 (by omega))
    have hstep : Tx.step (59 - m) ((bs s).drop (Tx.total acc)) = if P ≠ [] then (Tx.dec acc.length (bs line)).map fun e => (e, line.size + 1) else none := by
      unfold Tx.step
      rw [← extract_bs, show 59 - m = acc.length by omega]
      by_cases h : (10 : UInt8) ∈ bs (s.extract (Tx.total acc) s.size)
      · rw [if_pos h, if_pos (hPm.1 h), ← hline, bs_len]
      · rw [if_neg h, if_neg (fun e => h (hPm.2 e))]
    have HST := Lib.hid hstep
    have HIN := Lib.hid (fun h : (10 : UInt8) ∈ bs (s.extract (Tx.total acc) s.size) => Tx.upto_lt h)
    have HPM := Lib.hid hPm
    have HLN := Lib.hid hline
    clear hP hPm hS hstep hline hxs hn0
    cases P with
    | nil =>
      have HE : Hid (acc = Tx.rd 60 (bs s)) := fin.out (by rw [Tx.rd, HST.out, if_neg (by simp)])
      have HT : Hid (Tx.total acc = Tx.total (Tx.rd 60 (bs s))) := by show _ = _; rw [HE.out]
      generalize Tx.total acc = at0 at *
      clear HST HIN HPM HLN HRD
      go_wp2_with fail
      refine (HS.out _).mono ?_
      rintro e w1 ⟨a, cap, rfl, ho, hb1⟩
      obtain ⟨g, rfl, hg, hge, hgl⟩ := own_head ho
      rw [HX.out] at hg
      clear ho
      have HB1 := Lib.hid (HB.out.trans (hb1.mono HB.out.size))
      have HO1 := Lib.hid (own_below HO.out (Nat.le_refl _) hb1)
      have hvb : ∀ k, (Value.slice a1 acc.length c1).ownBlock = some k → k < g := fun k hk => Nat.lt_of_lt_of_le (HO.out.lt k hk).2 hge
      have HVB := Lib.hid hvb
      clear hb1 hge hvb
      go_wp2_with fail
      refine (HR.out _).mono ?_
      rintro e w2 ⟨c, r, b, rfl, hcase, hb2⟩
      have HCS := Lib.hid hcase; clear hcase
      have hg2 : w2.cell? ⟨g, 0, none⟩ = some (.string line) := (bcell hb2 hgl).trans hg
      have hgl2 : g < w2.heap.size := Nat.lt_of_lt_of_le hgl hb2.size
      have HB2 := Lib.hid (show Below w.heap.size w (w2.alloc (.cells #[.string c, .string r] 112)) from (HB1.out.trans (hb2.mono HB1.out.size)).alloc (Nat.le_trans HB1.out.size hb2.size) _)
      have HO2 := Lib.hid (own_below (own_below HO1.out (Nat.le_refl _) hb2) (w' := w2.alloc (.cells #[.string c, .string r] 112)) (Nat.le_refl _) ((Below.refl _ _).alloc (Nat.le_refl _) _))
      clear hb2 hg hgl
      unfold recV
      go_wp2
      go_ret2
      refine ⟨a1, c1, ret_v2 (by rw [HE.out]; rfl) (by rw [← HT.out]; rfl), ?_, HB2.out⟩
      have h := HO2.out
      rw [HE.out] at h
      exact h
    | cons p0 P' =>
      have hlen : ((P'.length + 1 + 1 : Nat) : Int) ≥ 2 := by omega
      cases hd : Tx.dec acc.length (bs line) with
      | none =>
        have HE : Hid (acc = Tx.rd 60 (bs s)) := fin.out (by rw [Tx.rd, HST.out, if_pos (by simp), hd]; simp only [Option.map_none])
        have HT : Hid (Tx.total acc = Tx.total (Tx.rd 60 (bs s))) := by show _ = _; rw [HE.out]
        generalize Tx.total acc = at0 at *
        have HD := Lib.hid hd
        clear HST HIN HPM HLN HRD hd
        go_wp2_with fail
        refine (HS.out _).mono ?_
        rintro e w1 ⟨a, cap, rfl, ho, hb1⟩
        obtain ⟨g, rfl, hg, hge, hgl⟩ := own_head ho
        rw [HX.out] at hg
        clear ho
        have HB1 := Lib.hid (HB.out.trans (hb1.mono HB.out.size))
        have HO1 := Lib.hid (own_below HO.out (Nat.le_refl _) hb1)
        have hvb : ∀ k, (Value.slice a1 acc.length c1).ownBlock = some k → k < g := fun k hk => Nat.lt_of_lt_of_le (HO.out.lt k hk).2 hge
        have HVB := Lib.hid hvb
        clear hb1 hge hvb
        go_wp2_with fail
        refine (HR.out _).mono ?_
        rintro e w2 ⟨c, r, b, rfl, hcase, hb2⟩
        have HCS := Lib.hid hcase; clear hcase
        have hg2 : w2.cell? ⟨g, 0, none⟩ = some (.string line) := (bcell hb2 hgl).trans hg
        have hgl2 : g < w2.heap.size := Nat.lt_of_lt_of_le hgl hb2.size
        have HB2 := Lib.hid (show Below w.heap.size w (w2.alloc (.cells #[.string c, .string r] 112)) from (HB1.out.trans (hb2.mono HB1.out.size)).alloc (Nat.le_trans HB1.out.size hb2.size) _)
        have HO2 := Lib.hid (own_below (own_below HO1.out (Nat.le_refl _) hb2) (w' := w2.alloc (.cells #[.string c, .string r] 112)) (Nat.le_refl _) ((Below.refl _ _).alloc (Nat.le_refl _) _))
        clear hb2 hg hgl
        unfold recV
        obtain rfl : b = false := by
          rcases HCS.out with ⟨_, h⟩ | ⟨h, _⟩
          · rw [HD.out] at h; cases h
          · exact h
        go_wp2
        go_ret2
        refine ⟨a1, c1, ret_v2 (by rw [HE.out]; rfl) (by rw [← HT.out]; rfl), ?_, HB2.out⟩
        have h := HO2.out
        rw [HE.out] at h
        exact h
      | some e0 =>
        have HD := Lib.hid hd
        have hin : (10 : UInt8) ∈ bs (s.extract (Tx.total acc) s.size) := HPM.out.2 (by simp)
        have hle : Tx.total acc + (line.size + 1) ≤ s.size := by
          have h := HIN.out hin
          rw [← HLN.out, bs_len, extract_bs, List.length_drop, bs_len] at h
          omega
        have HE : Hid ((acc ++ [(e0, line.size + 1)]) ++ Tx.rd m ((bs s).drop (Tx.total (acc ++ [(e0, line.size + 1)]))) = Tx.rd 60 (bs s)) := by
          show _ = _
          have h := HRD.out
          rw [Tx.rd, HST.out, if_pos (by simp), hd] at h
          simp only [Option.map_some] at h
          rw [Tx.total_append, Tx.total_cons, Tx.total_nil, ← h, List.drop_drop, List.append_assoc]
          simp
        have HTO : Hid (Tx.total (acc ++ [(e0, line.size + 1)]) = Tx.total acc + (line.size + 1)) := by
          show _ = _
          rw [Tx.total_append, Tx.total_cons, Tx.total_nil]
        have hn40 : acc.length + 1 ≤ 1099511627776 := by omega
        clear HST HIN HPM HLN HRD hd hin fin
        generalize Tx.total acc = at0 at *
        go_wp2_with fail
        refine (HS.out _).mono ?_
        rintro e w1 ⟨a, cap, rfl, ho, hb1⟩
        obtain ⟨g, rfl, hg, hge, hgl⟩ := own_head ho
        rw [HX.out] at hg
        clear ho
        have HB1 := Lib.hid (HB.out.trans (hb1.mono HB.out.size))
        have HO1 := Lib.hid (own_below HO.out (Nat.le_refl _) hb1)
        have hvb : ∀ k, (Value.slice a1 acc.length c1).ownBlock = some k → k < g := fun k hk => Nat.lt_of_lt_of_le (HO.out.lt k hk).2 hge
        have HVB := Lib.hid hvb
        clear hb1 hge hvb
        go_wp2_with fail
        refine (HR.out _).mono ?_
        rintro e w2 ⟨c, r, b, rfl, hcase, hb2⟩
        have HCS := Lib.hid hcase; clear hcase
        have hg2 : w2.cell? ⟨g, 0, none⟩ = some (.string line) := (bcell hb2 hgl).trans hg
        have hgl2 : g < w2.heap.size := Nat.lt_of_lt_of_le hgl hb2.size
        have HB2 := Lib.hid (show Below w.heap.size w (w2.alloc (.cells #[.string c, .string r] 112)) from (HB1.out.trans (hb2.mono HB1.out.size)).alloc (Nat.le_trans HB1.out.size hb2.size) _)
        have HO2 := Lib.hid (own_below (own_below HO1.out (Nat.le_refl _) hb2) (w' := w2.alloc (.cells #[.string c, .string r] 112)) (Nat.le_refl _) ((Below.refl _ _).alloc (Nat.le_refl _) _))
        clear hb2 hg hgl
        unfold recV
        obtain ⟨rfl, hce⟩ : b = true ∧ recE c r = e0 := by
          rcases HCS.out with ⟨h1, h⟩ | ⟨_, h⟩
          · rw [HD.out] at h; injection h with h; exact ⟨h1, h.symm⟩
          · rw [HD.out] at h; cases h
        have HCE : Hid (encL e0 = [.string c, .string r]) := by
          show _ = _
          rw [← hce]
          unfold encL recE
          simp only [ba_bs]
        clear hce HCS
        have hbs2 : w.heap.size ≤ (w2.alloc (.cells #[.string c, .string r] 112)).heap.size := HB2.out.size
        have hgl3 : g < (w2.alloc (.cells #[.string c, .string r] 112)).heap.size := by simp; omega
        go_wp2_with (at_builtin; refine wpList_app1 slL rfl (.tmp 39) (.tmp 41) rfl rfl HO2.out [.string c, .string r] rfl rfl (by simp) (by simp [Value.oneCell']) hn40 hbs2 ?_; intro v' w3 hown3 hg3 ht3; have HO3 := Lib.hid hown3; have HB3 := Lib.hid (below_app HB2.out hbs2 HO2.out (Nat.le_refl _) hg3); have hg4 : w3.cell? ⟨g, 0, none⟩ = some (.string line) := (World.cell?_of_block (w := w2.alloc (.cells #[.string c, .string r] 112)) (w' := w3) (a := ⟨g, 0, none⟩) (hg3.block g hgl3 (fun e => Nat.lt_irrefl _ (HVB.out g e.symm)))).trans ((bcell (Below.refl _ _ |>.alloc (Nat.le_refl _) _ : Below w2.heap.size w2 (w2.alloc (.cells #[.string c, .string r] 112))) hgl2).trans hg2); clear hown3 hg3 ht3)
        go_roundw
        case rel =>
          refine ⟨acc ++ [(e0, line.size + 1)], m, (by simp <;> omega), HE.out, by rw [HTO.out]; omega, by rw [HTO.out]; go_num, ?_, HB3.out⟩
          have h := HO3.out
          rw [List.length_append, List.map_append, flat_append]
          show w3.ownsRow _ _ _ _ _ (_ ++ flat encL [e0])
          rw [flat_one, HCE.out]
          exact h
        case measure =>
          obtain ⟨x1, y1, hx⟩ := own_slice HO3.out
          rw [hx]
          simp
          omega

end Go.Proofs.YtoebegdepnigbaaDoor

/- Walks on texts: RecoverLog by both. -/
namespace Go.Proofs.YtoebegdepnigbaaDoor
open Go.RowKit
set_option linter.unusedVariables false

def logV (d p : ByteArray) (n : Int) : Value := .agg #[.string d, .string p, .int .i64 n]

theorem three_set {w : World} {B : Nat} {a b c : Value} (x y z : Value) (h0 : w.cell? ⟨B, 0, none⟩ = some a) (h1 : w.cell? ⟨B, 1, none⟩ = some b) (h2 : w.cell? ⟨B, 2, none⟩ = some c) :
    (w.setCell ⟨B, 0, none⟩ x).cell? ⟨B, 0, none⟩ = some x ∧ ((w.setCell ⟨B, 0, none⟩ x).setCell ⟨B, 1, none⟩ y).cell? ⟨B, 0, none⟩ = some x ∧ ((w.setCell ⟨B, 0, none⟩ x).setCell ⟨B, 1, none⟩ y).cell? ⟨B, 1, none⟩ = some y ∧
    (((w.setCell ⟨B, 0, none⟩ x).setCell ⟨B, 1, none⟩ y).setCell ⟨B, 2, none⟩ z).cell? ⟨B, 0, none⟩ = some x ∧ (((w.setCell ⟨B, 0, none⟩ x).setCell ⟨B, 1, none⟩ y).setCell ⟨B, 2, none⟩ z).cell? ⟨B, 1, none⟩ = some y ∧ (((w.setCell ⟨B, 0, none⟩ x).setCell ⟨B, 1, none⟩ y).setCell ⟨B, 2, none⟩ z).cell? ⟨B, 2, none⟩ = some z := by
  obtain ⟨s0, s1, s2⟩ := two_set x y h0 h1
  have n02 : (⟨B, 0, none⟩ : Addr) ≠ ⟨B, 2, none⟩ := by simp
  have n12 : (⟨B, 1, none⟩ : Addr) ≠ ⟨B, 2, none⟩ := by simp
  have e2 : ((w.setCell ⟨B, 0, none⟩ x).setCell ⟨B, 1, none⟩ y).cell? ⟨B, 2, none⟩ = some c := by
    rw [World.cell?_setCell_other (h := n12), World.cell?_setCell_other (h := n02)]; exact h2
  exact ⟨s0, s1, s2, (World.cell?_setCell_other (h := n02.symm) ..).trans s1, (World.cell?_setCell_other (h := n12.symm) ..).trans s2, World.cell?_setCell_same' _ _ _ (by rw [e2]; rfl)⟩

theorem below_three {w w1 : World} {B : Nat} (h : Below B w w1) (x y z : Value) : Below B w (((w1.setCell ⟨B, 0, none⟩ x).setCell ⟨B, 1, none⟩ y).setCell ⟨B, 2, none⟩ z) :=
  Below.setCell (p := ⟨B, 2, none⟩) (below_two h x y) (Nat.le_refl _) _

theorem zero_ends (r : List (Tx.Rec × Nat)) : (Value.int .i64 0 :: (endsL r).map (Value.int .i64))[r.length]? = some (.int .i64 (Tx.total r : Nat)) := by
  cases h : r.length with
  | zero =>
    have : r = [] := List.eq_nil_of_length_eq_zero h
    subst this; rfl
  | succ n =>
    rw [List.getElem?_cons_succ, List.getElem?_map]
    unfold endsL
    rw [List.getElem?_map, h]
    simp only [Nat.lt_succ_self, List.getElem?_range, Option.map_some]
    rw [← h, List.take_length]

theorem big_end {s : ByteArray} : Tx.total (Tx.rd 60 (bs s)) ≤ s.size := by rw [← bs_len]; exact (Tx.rd_total 60 (bs s)).1

def recD (s : ByteArray) : ByteArray := s.extract 0 (Tx.total (Tx.rd 60 (bs s)))

end Go.Proofs.YtoebegdepnigbaaDoor
