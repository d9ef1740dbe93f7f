/- Several texts in one: lemmas and walks of the functions that the law reaches. -/
import Derived.Test.YtcncjedhpnaoaaaY19
import Derived.Deep.RegionLaw

namespace Go.Proofs.Ytcncjedhpnaoaaa
open Go.RowKit Go.Sort
set_option linter.unusedVariables false

/-- Records that can be read behind a slice. -/
structure Rd (w : World) (a : Option Addr) (n c : Nat) (rs : List (Int × Int)) : Prop where
  recs : RecsAt w a rs
  len : rs.length = n
  nil : NilOk a c
  cap : n ≤ c
theorem Rd.below {w w' : World} {B : Nat} {a : Option Addr} {n c : Nat} {rs : List (Int × Int)} (h : Rd w a n c rs) (hB : w.heap.size ≤ B) (hb : Below B w w') : Rd w' a n c rs :=
  ⟨h.recs.below hB hb, h.len, h.nil, h.cap⟩
theorem Rd.same {w w' : World} {a : Option Addr} {n c : Nat} {rs : List (Int × Int)} (h : Rd w a n c rs) (hb : Below w.heap.size w w') : Rd w' a n c rs := h.below (Nat.le_refl _) hb
theorem Rd.at {w : World} {a : Option Addr} {n c : Nat} {rs : List (Int × Int)} (h : Rd w a n c rs) {k : Nat} (hk : k < n) :
    ∃ b off, a = some ⟨b, off, none⟩ ∧ w.cell? ⟨b, off + k * 2, none⟩ = some (.int .i64 (rs.getD k (0, 0)).1) ∧ w.cell? ⟨b, off + k * 2 + 1, none⟩ = some (.int .i64 (rs.getD k (0, 0)).2) :=
  h.recs.at (by rw [h.len]; exact hk)

end Go.Proofs.Ytcncjedhpnaoaaa

namespace Go.Proofs.Ytcncjedhpnaoaaa
open Go.RowKit Go.Sort
set_option linter.unusedVariables false

theorem IntsAt.grownR {w w' : World} {row : Option Nat} {a : Option Addr} {l : List Int} (h : IntsAt w a l) (hg : w.grownBy w' row) (hne : ∀ b off, a = some ⟨b, off, none⟩ → row ≠ some b) : IntsAt w' a l := by
  rcases h with h | ⟨b, off, e, h1, h2⟩
  · exact .inl h
  · refine .inr ⟨b, off, e, Nat.lt_of_lt_of_le h1 hg.size, fun j hj => ?_⟩
    have := hg.block b h1 (Ne.symm (hne b off e))
    rw [← h2 j hj]
    simp only [World.cell?, this]

/-- The closure of 'sorting' compares places. -/
theorem sort_is (pc g : Nat) (a : Option Addr) (c : Nat) (l : List Int) (hl : l.length ≤ 1000) (hpc : pc ≠ g) (ha : ∀ b off, a = some ⟨b, off, none⟩ → b ≠ g) :
    II.CmpIs (fun x => 0 ≤ x ∧ x < (l.length : Int)) (fun W => pc < W.heap.size ∧ SortI pc a c l W) g (ltP l) (.func (.func 45) #[] #[.pointer (some ⟨pc, 0, none⟩)]) := by
  refine ⟨fun w w' ⟨h0, h1, h2⟩ hg => ⟨Nat.lt_of_lt_of_le h0 hg.size, ?_, h2.grownR hg (fun b off e he => by injection he with he; exact ha b off e he.symm)⟩, 45, #[.pointer (some ⟨pc, 0, none⟩)], rfl, fun args w => by kernel_rfl, fun r s w hr hs ⟨_, hI⟩ => ?_⟩
  · have := hg.block pc h0 (by intro e; injection e with e; exact hpc e)
    rw [← h1]
    simp only [World.cell?, this]
  · exact sortCmp_any pc a c l r s w hl hr hs hI

set_option maxRecDepth 100000 in
set_option maxHeartbeats 4000000 in
theorem sorting_any (a : Option Addr) (cc n : Nat) (l : List Int) (w : World) (hl : l.length = n) (hn : n ≤ 1000) (ha : ∀ b off, a = some ⟨b, off, none⟩ → b < w.heap.size) (h : IntsAt w a l) :
    Calls Try.prog 31 #[.slice a n cc] w fun e w' => ∃ (g c' : Nat), e = .returned (.slice (some ⟨g, 0, none⟩) n c') ∧ w'.ownsRow w.heap.size 3 1 (.slice (some ⟨g, 0, none⟩) n c') n ((sortP l).map (Value.int .i64)) ∧ Below w.heap.size w w' := by
  have hbx : Below w.heap.size w (w.alloc (.cells #[.slice a n cc] 25)) := (Below.refl w.heap.size w).alloc (Nat.le_refl _) _
  have HBX := Lib.hid hbx
  have hcell : (w.alloc (.cells #[.slice a n cc] 25)).cell? ⟨w.heap.size, 0, none⟩ = some (.slice a n cc) := cells_new w [.slice a n cc] 25 0 _ rfl
  have HSI : Hid (SortI w.heap.size a cc l (w.alloc (.cells #[.slice a n cc] 25))) := ⟨by rw [hl]; exact hcell, h.below (Nat.le_refl _) hbx⟩
  have hsz : (w.alloc (.cells #[.slice a n cc] 25)).heap.size = w.heap.size + 1 := by simp
  have HA := Lib.hid ha
  have HLN := Lib.hid hl
  have E0 := Lib.hid (own_lit (w := w.alloc (.cells #[.slice a n cc] 25)) (e := 3) (size := 1) #[] 0 (by omega) rfl)
  have B0 := Lib.hid (show Below (w.heap.size + 1) (w.alloc (.cells #[.slice a n cc] 25)) ((w.alloc (.cells #[.slice a n cc] 25)).alloc (.cells #[] 3)) from (Below.refl _ _).alloc (by rw [hsz]; exact Nat.le_refl _) _)
  rw [hsz] at E0
  have HSZ := Lib.hid hsz
  clear h hl hsz ha hbx
  have c0 := hcell
  clear hcell
  go_enter Try.func31, Try.ntmps31
  go_wp2_with fail
  go_loopw [3, 8] (fun v i wr => ∃ k : Nat, i = .int .i64 k ∧ k ≤ n ∧ wr.ownsRow (w.heap.size + 1) 3 1 v k ((upTo k).map (Value.int .i64)) ∧ (∃ g, v.ownBlock = some g) ∧ Below (w.heap.size + 1) (w.alloc (.cells #[.slice a n cc] 25)) wr) (fun _ i _ => n - (intOf i).toNat)
  case atStart => exact ⟨0, rfl, by omega, by first | exact E0.out | simpa using E0.out, ⟨_, rfl⟩, B0.out⟩
  case round =>
    obtain ⟨k, rfl, hk, hown, ⟨g0, hg0⟩, hb⟩ := hrel
    have HO := Lib.hid hown; have HB := Lib.hid hb
    clear hown hb E0 B0
    obtain ⟨a', c', rfl⟩ := own_slice HO.out
    obtain ⟨g, hga, hg1, hg2⟩ := own_addr HO.out (by rw [hg0]; simp)
    subst hga
    clear hg0 g0
    have hbs := HB.out.size
    rw [HSZ.out] at hbs
    by_cases hlt : k < n
    · have q1 : decide ((k : Int) < (n : Int)) = true := decide_eq_true (by omega)
      have hn40 : k + 1 ≤ 1099511627776 := by omega
      go_wp2_with (at_builtin; refine wpList_app1 slInt rfl _ _ rfl rfl HO.out [.int .i64 k] rfl rfl (by simp) (by simp [Value.oneCell']) hn40 hbs ?_; intro v' w2 hown' hg ht)
      have HO4 := Lib.hid hown'
      have HB4 := Lib.hid (below_app HB.out hbs HO.out (Nat.le_refl _) hg)
      have HT4 : Hid (∃ q, v'.ownBlock = some q) := by
        rcases ht with h | h
        · exact ⟨g, h⟩
        · exact ⟨_, h⟩
      clear hown' hg ht
      go_roundw
      case rel => exact ⟨k + 1, by go_num, by omega, by rw [upTo_succ, List.map_append]; exact HO4.out, HT4.out, HB4.out⟩
      case measure => simp [intOf] <;> omega
    obtain rfl : k = n := by omega
    have q1 : decide ((k : Int) < (k : Int)) = false := by simp
    have hbw : Below w.heap.size w wr := HBX.out.trans (HB.out.mono (Nat.le_succ _))
    have HSW : Hid (w.heap.size < wr.heap.size ∧ SortI w.heap.size a cc l wr) := by
      refine ⟨by omega, (HB.out.cell (p := ⟨w.heap.size, 0, none⟩) (by simp)).trans HSI.out.1, ?_⟩
      exact HSI.out.2.below (by rw [HSZ.out]; exact Nat.le_refl _) HB.out
    have HIS := Lib.hid (sort_is w.heap.size g a cc l (by rw [HLN.out]; exact hn) (by omega) (fun b off e he => by have := HA.out b off e; omega))
    have HSS := Lib.hid (II.sortStable_any (Mg.swK (keyAt l)) (w.heap.size + 1) g c' k (upTo k) wr (upTo_len k) hn (fun y hy => by rw [HLN.out]; exact upTo_mem hy) HSW.out HIS.out (by rw [II.flat_map]; exact HO.out))
    have HBW := Lib.hid hbw
    clear hbw HIS HSW
    go_wp2_with fail
    refine HSS.out.mono ?_
    rintro e w5 ⟨rfl, ho, hg⟩
    rw [II.flat_map] at ho
    have HO5 := Lib.hid (own_mono ho (Nat.le_succ _))
    have HB5 := Lib.hid (HBW.out.grown hg HBW.out.size (fun q hq => by injection hq with hq; omega))
    have HSP : Hid (sortP l = Mg.srt (ltP l) (upTo k)) := by show _ = _; unfold sortP; rw [HLN.out]
    clear ho hg
    go_wp2
    go_ret
    exact ⟨g, c', rfl, by rw [HSP.out]; exact HO5.out, HB5.out⟩

end Go.Proofs.Ytcncjedhpnaoaaa

