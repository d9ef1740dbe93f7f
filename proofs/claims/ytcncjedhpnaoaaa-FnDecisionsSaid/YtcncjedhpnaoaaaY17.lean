/- Several texts in one: lemmas and walks of the functions that the law reaches. -/
import Derived.Test.YtcncjedhpnaoaaaY13
import Derived.Test.YtcncjedhpnaoaaaY16

namespace Go.Proofs.Ytcncjedhpnaoaaa
open Go.RowKit Go.Sort
set_option linter.unusedVariables false

theorem ch_of_below {w w' : World} (lo hi : Nat) (h : Below w.heap.size w w') : Ch w w' lo hi := ⟨h.os, h.tape, h.output, h.size, fun k hk _ => h.block k hk⟩
theorem ch_trans {w w' w'' : World} {lo hi : Nat} (h : Ch w w' lo hi) (h2 : Ch w' w'' lo hi) : Ch w w'' lo hi :=
  ⟨h2.os.trans h.os, h2.tape.trans h.tape, h2.output.trans h.output, Nat.le_trans h.size h2.size, fun k hk hx => (h2.block k (Nat.lt_of_lt_of_le hk h.size) hx).trans (h.block k hk hx)⟩
theorem ch_far {w w' w'' : World} {lo hi g : Nat} (h : Ch w w' lo hi) (h2 : w'.grownBy w'' (some g)) (hg : w.heap.size ≤ g) : Ch w w'' lo hi :=
  ⟨h2.os.trans h.os, h2.tape.trans h.tape, h2.output.trans h.output, Nat.le_trans h.size h2.size, fun k hk hx => (h2.block k (Nat.lt_of_lt_of_le hk h.size) (fun e => by injection e with e; omega)).trans (h.block k hk hx)⟩

/-- What a function value does with the permutations of n items: 'I k' holds behind the first k of them; 'J' where it has said no. It writes the blocks from lo to hi alone of what was there. -/
def YieldsC (w0 : World) (n : Nat) (hv : Value) (lo hi : Nat) (I : Nat → World → Prop) (J : World → Prop) : Prop :=
  ∃ G cp, hv = .func (.func G) #[] cp ∧ (∀ args w, (callFunc G args).run Try.prog w = .ok (.enter G args) w) ∧
    ∀ (k : Nat) (p : List Int) (W : World) (x : Addr) (c : Nat), (Pm.allP n)[k]? = some p → I k W → w0.heap.size ≤ W.heap.size → w0.heap.size ≤ x.block → IntsAt W (some x) p →
      Calls Try.prog G (#[.slice (some x) n c] ++ cp) W fun e W' => ∃ b : Bool, e = .returned (.bool b) ∧ Ch W W' lo hi ∧ (b = true → I (k + 1) W') ∧ (b = false → J W')

set_option maxRecDepth 100000 in
set_option maxHeartbeats 4000000 in
theorem permutationsC_any (m : Nat) (hm : m + 1 ≤ 5) (hv : Value) (lo hi : Nat) (I : Nat → World → Prop) (J : World → Prop) (w : World) (hr : hi ≤ w.heap.size)
    (hI : ∀ k W W' g, w.heap.size ≤ g → I k W → W.grownBy W' (some g) → I k W') (h0 : ∀ W, Below w.heap.size w W → I 0 W)
    (hy : YieldsC w (m + 1) hv lo hi I J) :
    Calls Try.prog 23 #[.int .i64 ((m : Int) + 1), hv] w fun e w' => e = .returned (.tuple #[]) ∧ Ch w w' lo hi ∧ (I (Pm.allP (m + 1)).length w' ∨ J w') := by
  obtain ⟨G, cp, rfl, hcall, hy⟩ := hy
  have E0 := Lib.hid (own_lit (w := w) (e := 3) (size := 1) #[] 0 (by omega) rfl)
  have B0 := Lib.hid (show Below w.heap.size w (w.alloc (.cells #[] 3)) from (Below.refl _ _).alloc (Nat.le_refl _) _)
  have HY := Lib.hid hy; have HI := Lib.hid hI; have H0 := Lib.hid h0; have HR := Lib.hid hr
  clear hy hI h0 hr
  go_enter Try.func23, Try.ntmps23
  go_wp2
  go_loopw [4, 5, 8] (fun v _ i wr => ∃ k : Nat, k ≤ m + 1 ∧ i = .int .i64 k ∧ wr.ownsRow w.heap.size 3 1 v k ((Pm.first k).map (Value.int .i64)) ∧ Below w.heap.size w wr) (fun _ _ i _ => m + 1 - (intOf i).toNat)
  case atStart => exact ⟨0, by omega, rfl, E0.out, B0.out⟩
  case round =>
    obtain ⟨k, hk, rfl, hown, hb⟩ := hrel
    obtain ⟨a', c', rfl⟩ := own_slice hown
    have HO := Lib.hid hown; have HB := Lib.hid hb
    clear hown hb E0 B0
    by_cases hlt : k < m + 1
    · have h3 : decide ((k : Int) < (m : Int) + 1) = true := by simp; omega
      have hn40 : k + 1 ≤ 1099511627776 := by omega
      have hbs := HB.out.size
      go_wp2_with (at_builtin; refine wpList_app1 slInt rfl _ _ rfl rfl HO.out [.int .i64 k] rfl rfl (by simp) (by simp [Value.oneCell']) hn40 hbs ?_; intro v' w2 hown' hg ht)
      have HO4 := Lib.hid hown'
      have HB4 := Lib.hid (below_app HB.out hbs HO.out (Nat.le_refl _) hg)
      clear hown' hg ht
      go_wp2
      go_roundw
      case rel => exact ⟨k + 1, by omega, by go_num, by rw [first_succ, List.map_append]; exact HO4.out, HB4.out⟩
      case measure => simp [intOf] <;> omega
    · obtain rfl : k = m + 1 := by omega
      have h3 : decide ((((m + 1 : Nat)) : Int) < (m : Int) + 1) = false := by simp
      obtain ⟨g, rfl, hg1, hg2, _⟩ := own_cell HO.out (by omega)
      have HI0 := Lib.hid (H0.out wr HB.out)
      have HG0 := Lib.hid (ch_of_below lo hi HB.out)
      have HPF := Lib.hid (Pm.allP_first (n := m + 1) (by omega) hm)
      have HNX := Lib.hid (fun k p => Pm.allP_next (n := m + 1) (by omega) hm (k := k) (p := p))
      have HPO := Lib.hid (fun p => Pm.allP_ok (n := m + 1) (by omega) hm (p := p))
      clear HB hk
      go_wp2
      go_loopg [] (Pm.allP (m + 1)).length (fun mm wq => ∃ (k : Nat) (p : List Int), (Pm.allP (m + 1))[k]? = some p ∧ mm + k = (Pm.allP (m + 1)).length ∧ I k wq ∧ Ch w wq lo hi ∧
        wq.ownsRow w.heap.size 3 1 (.slice (some ⟨g, 0, none⟩) (m + 1) c') (m + 1) (p.map (Value.int .i64)))
      case atStart => exact ⟨0, _, HPF.out, by omega, HI0.out, HG0.out, HO.out⟩
      case round =>
        obtain ⟨k, p, hkp, hmm, hik, hgr, ho⟩ := hrel
        have HKP := Lib.hid hkp; have HMM := Lib.hid hmm; have HO5 := Lib.hid ho; have HGR := Lib.hid hgr
        have hnp := HPO.out p (List.mem_of_getElem? hkp)
        have hkl : k < (Pm.allP (m + 1)).length := (List.getElem?_eq_some_iff.1 hkp).1
        have HPL : Hid (p.length = m + 1) := hnp.1
        have HYC := Lib.hid (HY.out k p wr ⟨g, 0, none⟩ c' hkp hik hgr.size hg1 (ints_of_own ho))
        have hcall := hcall (#[.slice (some ⟨g, 0, none⟩) (m + 1) c'] ++ cp)
        have HKL := Lib.hid hkl
        clear hnp hkp hmm hik hgr ho hkl HY HO
        go_wp2_with fail
        refine HYC.out.mono ?_
        rintro e w3 ⟨b, rfl, hg3, hi3, hj3⟩
        have HO6 := Lib.hid (hg3.own HO5.out (fun k hk => .inr (by have h2 : g = k := Option.some.inj hk; have := HR.out; omega)))
        have HG6 := Lib.hid (ch_trans HGR.out hg3)
        cases b
        · have HJ3 := Lib.hid (hj3 rfl)
          clear hg3 hi3 hj3
          go_wp2_with fail
          go_end0
          exact ⟨rfl, HG6.out, .inr HJ3.out⟩
        · have HI3 := Lib.hid (hi3 rfl)
          have HNP := Lib.hid (nextPermutation_any w.heap.size g c' m p w3 HPL.out (by omega) HO6.out)
          have HN1 := Lib.hid (HNX.out k p HKP.out)
          clear hg3 hi3 hj3
          go_wp2_with fail
          refine HNP.out.mono ?_
          rintro e w4 ⟨rfl, ho4, hg4⟩
          have HI4 := Lib.hid (HI.out _ _ _ g hg1 HI3.out hg4)
          have HG7 := Lib.hid (ch_far HG6.out hg4 hg1)
          have HO7 := Lib.hid ho4
          clear ho4 hg4
          rw [HN1.out] at HO7
          rw [HN1.out]
          cases hnx : (Pm.allP (m + 1))[k + 1]? with
          | none =>
            rw [hnx] at HO7
            have hkl2 : k + 1 = (Pm.allP (m + 1)).length := by
              have := List.getElem?_eq_none_iff.1 hnx
              have := HKL.out
              omega
            rw [hkl2] at HI4
            clear hnx
            go_wp2_with fail
            go_end0
            exact ⟨rfl, HG7.out, .inl HI4.out⟩
          | some p' =>
            rw [hnx] at HO7
            have HNX2 := Lib.hid hnx
            clear hnx
            go_wp2_with fail
            go_roundg (gk - 1)
            case measure => have := HMM.out; have := HKL.out; omega
            case rel => exact ⟨k + 1, p', HNX2.out, by have := HMM.out; have := HKL.out; omega, HI4.out, HG7.out, HO7.out⟩

end Go.Proofs.Ytcncjedhpnaoaaa

namespace Go.Proofs.Ytcncjedhpnaoaaa
open Go.RowKit Go.Sort
set_option linter.unusedVariables false

theorem grown_setD (W : World) (pc : Nat) (u : Value) : W.grownBy (W.setCell ⟨pc, 0, none⟩ u) (some pc) :=
  ⟨rfl, rfl, rfl, by simp, fun k _ hk => heap_setCell_other W ⟨pc, 0, none⟩ k u (fun e => hk (by simp [e]))⟩

/-- The two numbers behind the first k permutations. -/
structure DCI (w0 W : World) (b lo n : Nat) (ns : List Dt.Nd) (a : Option Addr) (c k : Nat) : Prop where
  ch : Below w0.heap.size w0 W
  cell : W.cell? ⟨b, 0, none⟩ = some (.slice a ns.length c)
  most : W.heap[lo]? = some (.cells #[.int .i64 (Dt.mostTo ns ((Pm.allP n).take k) : Nat)] 3 (0, 0))
  tot : W.heap[lo + 1]? = some (.cells #[.int .i64 (Dt.totTo ns ((Pm.allP n).take k) : Nat)] 3 (0, 0))

set_option maxHeartbeats 2000000 in
theorem dc1_any (b lo M T : Nat) (a : Option Addr) (c : Nat) (ns : List Dt.Nd) (x : Addr) (cx n : Nat) (p : List Int) (w : World) (hn : p.length = n) (hn2 : n ≤ 64) (hok : Dt.okTree (n : Int) ns = true) (hM : M ≤ 100000) (hT : T ≤ 100000) (h : NodesAt w a ns) (hx : IntsAt w (some x) p)
    (hb : w.cell? ⟨b, 0, none⟩ = some (.slice a ns.length c)) (h1 : w.heap[lo]? = some (.cells #[.int .i64 (M : Int)] 3 (0, 0))) (h2 : w.heap[lo + 1]? = some (.cells #[.int .i64 (T : Int)] 3 (0, 0))) :
    Calls Try.prog 28 #[.slice (some x) n cx, .pointer (some ⟨b, 0, none⟩), .pointer (some ⟨lo, 0, none⟩), .pointer (some ⟨lo + 1, 0, none⟩)] w fun e w' => e = .returned (.bool true) ∧ Ch w w' lo (lo + 2) ∧
      w'.heap[lo]? = some (.cells #[.int .i64 ((max M (Dt.runT ns p).2 : Nat) : Int)] 3 (0, 0)) ∧ w'.heap[lo + 1]? = some (.cells #[.int .i64 ((T + (Dt.runT ns p).2 : Nat) : Int)] 3 (0, 0)) := by
  subst hn
  obtain ⟨o1, o2, o3, o4, o5, _⟩ := Dt.okTree_iff hok
  rw [Int.toNat_natCast] at o5
  have hrl := (Dt.runT_ok (zs := p) o5 o3).2.2
  have HD := Lib.hid (decide_any a c ns (some x) cx p w hn2 hok h hx)
  clear h hx hok o5
  have s1 : lo < w.heap.size := (Array.getElem?_eq_some_iff.1 h1).1
  have s2 : lo + 1 < w.heap.size := (Array.getElem?_eq_some_iff.1 h2).1
  have H1 := Lib.hid h1; have H2 := Lib.hid h2
  clear h1 h2
  go_enter Try.func28, Try.ntmps28
  go_wp2_with fail
  refine HD.out.mono ?_
  rintro e w1 ⟨g, cg, rfl, _, hb1⟩
  have HB1 := Lib.hid hb1
  have HA := Lib.hid (block_below H1.out hb1 s1)
  have HC := Lib.hid (block_below H2.out hb1 s2)
  have e1 := row_cell HA.out 0
  have e2 := row_cell HC.out 0
  have f1 : w1.frozen? ⟨lo, 0, none⟩ = false := free_of_one HA.out
  have f2 : w1.frozen? ⟨lo + 1, 0, none⟩ = false := free_of_one HC.out
  simp at e1 e2
  generalize hR : (Dt.runT ns p).2 = R at hrl ⊢
  have HR := Lib.hid hR; clear hR
  clear hb1 hb
  go_wp2
  go_ret
  rw [HR.out]
  have hmx : max (M : Int) (R : Int) = ((max M R : Nat) : Int) := by omega
  have hsm : (T : Int) + (R : Int) = ((T + R : Nat) : Int) := by omega
  rw [hmx, hsm]
  refine ⟨rfl, ?_, ?_, ?_⟩
  · exact ((ch_of_below lo (lo + 2) HB1.out).grow (grown_setD w1 lo _) (fun k e => by injection e with e; omega)).grow (grown_setD _ (lo + 1) _) (fun k e => by injection e with e; omega)
  · exact (heap_setCell_other _ ⟨lo + 1, 0, none⟩ lo _ (by simp)).trans (heap_setCell_same w1 lo 0 _ _ _ HA.out)
  · exact heap_setCell_same _ (lo + 1) 0 _ _ _ ((heap_setCell_other _ ⟨lo, 0, none⟩ (lo + 1) _ (by simp)).trans HC.out)

theorem Dt.most_fold {n : Nat} {ns : List Dt.Nd} (h : Dt.nodesOk n ns = true) (h1 : 1 ≤ ns.length) : ∀ (ps : List (List Int)) (m0 : Nat), m0 ≤ ns.length → ps.foldl (fun m p => max m (Dt.runT ns p).2) m0 ≤ ns.length
  | [], m0, hm => hm
  | p :: ps, m0, hm => Dt.most_fold h h1 ps _ (by have := (Dt.runT_ok (zs := p) h h1).2.2; show max m0 _ ≤ _; omega)
theorem Dt.mostTo_le {n : Nat} {ns : List Dt.Nd} (h : Dt.nodesOk n ns = true) (h1 : 1 ≤ ns.length) (ps : List (List Int)) : Dt.mostTo ns ps ≤ ns.length := Dt.most_fold h h1 ps 0 (Nat.zero_le _)
theorem Dt.tot_fold {n : Nat} {ns : List Dt.Nd} (h : Dt.nodesOk n ns = true) (h1 : 1 ≤ ns.length) : ∀ (ps : List (List Int)) (m0 : Nat), ps.foldl (fun m p => m + (Dt.runT ns p).2) m0 ≤ m0 + ps.length * ns.length
  | [], m0 => by simp
  | p :: ps, m0 => by
    have h2 := (Dt.runT_ok (zs := p) h h1).2.2
    have h3 := Dt.tot_fold h h1 ps (m0 + (Dt.runT ns p).2)
    rw [List.foldl_cons, List.length_cons, Nat.add_mul]
    omega
theorem Dt.totTo_le {n : Nat} {ns : List Dt.Nd} (h : Dt.nodesOk n ns = true) (h1 : 1 ≤ ns.length) (ps : List (List Int)) : Dt.totTo ns ps ≤ ps.length * ns.length := by
  have := Dt.tot_fold h h1 ps 0
  rw [Nat.zero_add] at this
  exact this

theorem DCI.far {w0 W W' : World} {b lo n k g : Nat} {ns : List Dt.Nd} {a : Option Addr} {c : Nat} (h : DCI w0 W b lo n ns a c k) (hg : W.grownBy W' (some g)) (h1 : lo + 2 ≤ g) (h2 : w0.heap.size ≤ g) (h3 : b < lo) : DCI w0 W' b lo n ns a c k := by
  have s1 : lo < W.heap.size := (Array.getElem?_eq_some_iff.1 h.most).1
  have s2 : lo + 1 < W.heap.size := (Array.getElem?_eq_some_iff.1 h.tot).1
  refine ⟨⟨hg.os.trans h.ch.os, hg.tape.trans h.ch.tape, hg.output.trans h.ch.output, Nat.le_trans h.ch.size hg.size, fun k hk => (hg.block k (Nat.lt_of_lt_of_le hk h.ch.size) (fun e => by injection e with e; omega)).trans (h.ch.block k hk)⟩, ?_, ?_, ?_⟩
  · exact (World.cell?_of_block (w := W) (w' := W') (a := ⟨b, 0, none⟩) (hg.block b (by omega) (fun e => by injection e with e; omega))).trans h.cell
  · exact (hg.block lo s1 (fun e => by injection e with e; omega)).trans h.most
  · exact (hg.block (lo + 1) s2 (fun e => by injection e with e; omega)).trans h.tot

set_option maxHeartbeats 2000000 in
theorem dc_yields (w0 w : World) (b lo m : Nat) (ns : List Dt.Nd) (a : Option Addr) (c : Nat) (hm : m + 1 ≤ 5) (hok : Dt.okTree ((m + 1 : Nat) : Int) ns = true) (h : NodesAt w0 a ns) (hw : Below w0.heap.size w0 w) (hlo : w0.heap.size ≤ b) (hbl : b < lo) :
    YieldsC w (m + 1) (.func (.func 28) #[] #[.pointer (some ⟨b, 0, none⟩), .pointer (some ⟨lo, 0, none⟩), .pointer (some ⟨lo + 1, 0, none⟩)]) lo (lo + 2) (fun k W => DCI w0 W b lo (m + 1) ns a c k) (fun _ => False) := by
  refine ⟨_, _, rfl, fun args w => by kernel_rfl, fun k p W x cx hkp hI hsz hxb hx => ?_⟩
  obtain ⟨o1, o2, o3, o4, o5, _⟩ := Dt.okTree_iff hok
  rw [Int.toNat_natCast] at o5
  have hpn := (Pm.allP_ok (n := m + 1) (by omega) hm (List.mem_of_getElem? hkp)).1
  have hal := Pm.allP_len (n := m + 1) (by omega) hm
  have htk : ((Pm.allP (m + 1)).take k).length ≤ 120 := by rw [List.length_take]; omega
  have hM := Dt.mostTo_le o5 o3 ((Pm.allP (m + 1)).take k)
  have hT := Dt.totTo_le o5 o3 ((Pm.allP (m + 1)).take k)
  have hT2 : ((Pm.allP (m + 1)).take k).length * ns.length ≤ 120 * 255 := Nat.mul_le_mul htk o4
  have e : (Pm.allP (m + 1)).take (k + 1) = (Pm.allP (m + 1)).take k ++ [p] := by
    rw [List.take_add_one, hkp]; rfl
  refine (dc1_any b lo _ _ a c ns x cx (m + 1) p W hpn (by omega) hok (by omega) (by omega) (h.same hI.ch) hx hI.cell hI.most hI.tot).mono ?_
  rintro e' W' ⟨rfl, hc, h1, h2⟩
  refine ⟨true, rfl, hc, fun _ => ⟨hc.below hI.ch (by omega), ?_, ?_, ?_⟩, fun h => by cases h⟩
  · exact (hc.cell (World.block_lt_of_cell? W _ hI.cell) (.inl hbl)).trans hI.cell
  · rw [e, Dt.mostTo_snoc]; exact h1
  · rw [e, Dt.totTo_snoc]; exact h2

set_option maxHeartbeats 2000000 in
theorem decisionCost_any (a : Option Addr) (c : Nat) (ns : List Dt.Nd) (n : Int) (w : World) (hbig : ns.length ≤ 9223372036854775807) (h : NodesAt w a ns) :
    Calls Try.prog 10 #[.slice a ns.length c, .int .i64 n] w fun e w' => e = .returned (if Dt.okTree n ns then .tuple #[.int .i64 (Dt.mostTo ns (Pm.allP n.toNat) : Nat), .int .i64 (Dt.totTo ns (Pm.allP n.toNat) : Nat), .bool true] else .tuple #[.int .i64 0, .int .i64 0, .bool false]) ∧ Below w.heap.size w w' := by
  have HV := Lib.hid (fun (W : World) (hb : Below w.heap.size w W) => isValidDecisions_any a c ns n W hbig (h.same hb))
  have H := Lib.hid h; clear h
  cases hok : Dt.okTree n ns
  · have HK := Lib.hid hok; clear hok
    rw [if_neg (by simp)]
    go_enter Try.func10, Try.ntmps10
    go_wp2_with fail
    refine (HV.out _ (by (repeat (first | exact Below.refl _ _ | assumption | refine Below.setCell ?_ (by first | omega | (simp; done) | (simp; omega)) _ | refine Below.alloc ?_ (by first | omega | (simp; done) | (simp; omega)) _ | refine Below.drew ?_ | refine below_drewN ?_ _)))).mono ?_
    rintro e w1 ⟨rfl, hb1⟩
    rw [HK.out]
    have HB1 := Lib.hid (show Below w.heap.size w w1 from Below.trans (by (repeat (first | exact Below.refl _ _ | assumption | refine Below.setCell ?_ (by first | omega | (simp; done) | (simp; omega)) _ | refine Below.alloc ?_ (by first | omega | (simp; done) | (simp; omega)) _ | refine Below.drew ?_ | refine below_drewN ?_ _))) (hb1.mono (by simp))); clear hb1
    go_wp2
    go_ret3
    exact ⟨rfl, HB1.out⟩
  · obtain ⟨o1, o2, o3, o4, o5, _⟩ := Dt.okTree_iff hok
    obtain ⟨m, rfl⟩ : ∃ m : Nat, n = ((m + 1 : Nat) : Int) := ⟨(n - 1).toNat, by omega⟩
    have HK := Lib.hid hok; clear hok o5
    have hm : m + 1 ≤ 5 := by omega
    rw [if_pos rfl, Int.toNat_natCast]
    have hmf := hmf
    go_enter Try.func10, Try.ntmps10
    go_wp2_with fail
    refine (HV.out _ (by (repeat (first | exact Below.refl _ _ | assumption | refine Below.setCell ?_ (by first | omega | (simp; done) | (simp; omega)) _ | refine Below.alloc ?_ (by first | omega | (simp; done) | (simp; omega)) _ | refine Below.drew ?_ | refine below_drewN ?_ _)))).mono ?_
    rintro e w1 ⟨rfl, hb1⟩
    rw [HK.out]
    have u1 : w1.cell? ⟨w.heap.size, 0, none⟩ = some (.slice a ns.length c) := (hb1.cell (p := ⟨w.heap.size, 0, none⟩) (by simp)).trans (by simp [go_sem])
    have HB1 := Lib.hid (show Below w.heap.size w w1 from Below.trans (by (repeat (first | exact Below.refl _ _ | assumption | refine Below.setCell ?_ (by first | omega | (simp; done) | (simp; omega)) _ | refine Below.alloc ?_ (by first | omega | (simp; done) | (simp; omega)) _ | refine Below.drew ?_ | refine below_drewN ?_ _))) (hb1.mono (by simp)))
    have HU := Lib.hid u1
    have hlt : w.heap.size < w1.heap.size := by have := hb1.size; simp at this; omega
    clear hb1
    go_wp2_with fail
    obtain ⟨W, hW⟩ : ∃ W, W = (w1.alloc (.cells #[.int .i64 0] 3)).alloc (.cells #[.int .i64 0] 3) := ⟨_, rfl⟩
    have hWs : W.heap.size = w1.heap.size + 2 := by rw [hW]; simp
    have hb2 : Below w1.heap.size w1 W := by rw [hW]; (repeat (first | exact Below.refl _ _ | assumption | refine Below.setCell ?_ (by first | omega | (simp; done) | (simp; omega)) _ | refine Below.alloc ?_ (by first | omega | (simp; done) | (simp; omega)) _ | refine Below.drew ?_ | refine below_drewN ?_ _))
    have q1 : W.heap[w1.heap.size]? = some (.cells #[.int .i64 0] 3 (0, 0)) := by rw [hW]; exact block_below (block_new w1 _) ((Below.refl _ _).alloc (Nat.le_refl _) _) (by simp)
    have q2 : W.heap[w1.heap.size + 1]? = some (.cells #[.int .i64 0] 3 (0, 0)) := by
      rw [hW]
      have := block_new (w1.alloc (.cells #[.int .i64 0] 3)) (.cells #[.int .i64 0] 3)
      simpa using this
    rw [← hW]; clear hW
    have hbW := HB1.out.trans (hb2.mono HB1.out.size)
    have hcW := (hb2.cell (p := ⟨w.heap.size, 0, none⟩) hlt).trans HU.out
    have HP := Lib.hid (permutationsC_any m hm _ w1.heap.size (w1.heap.size + 2) (fun k W' => DCI w W' w.heap.size w1.heap.size (m + 1) ns a c k) (fun _ => False) W (by omega)
      (fun k W1 W2 g hg hi hgr => hi.far hgr (by omega) (by omega) hlt)
      (fun W' hb => ⟨hbW.trans (hb.mono hbW.size), (hb.cell (p := ⟨w.heap.size, 0, none⟩) (by show w.heap.size < _; omega)).trans hcW, by rw [List.take_zero]; exact block_below q1 hb (by omega), by rw [List.take_zero]; exact block_below q2 hb (by omega)⟩)
      (dc_yields w W w.heap.size w1.heap.size m ns a c hm HK.out H.out hbW (Nat.le_refl _) hlt))
    clear hb2 q1 q2 hbW hcW
    refine HP.out.mono ?_
    rintro e w2 ⟨rfl, _, hI | hJ⟩
    case inr => exact absurd hJ id
    have HI := Lib.hid hI.ch
    have e1 := row_cell hI.most 0
    have e2 := row_cell hI.tot 0
    rw [List.take_length] at e1 e2
    simp at e1 e2
    clear hI HP
    generalize hM : Dt.mostTo ns (Pm.allP (m + 1)) = M at e1
    generalize hT : Dt.totTo ns (Pm.allP (m + 1)) = T at e2
    have HM := Lib.hid hM; have HT := Lib.hid hT; clear hM hT
    go_wp2_with fail
    first | go_quiet (fail) | go_still_tail 3, (by kernel_rfl)
    go_wp2
    go_ret3
    rw [HM.out, HT.out]
    exact ⟨rfl, below_drewN HI.out _⟩

end Go.Proofs.Ytcncjedhpnaoaaa

namespace Go.Proofs.Ytcncjedhpnaoaaa
open Go.RowKit
set_option linter.unusedVariables false

theorem rfind_some {n : Nat} {q : Nat → Bool} {m : Nat} (hm : m < n) (h : q m = true) (hall : ∀ j, j < m → q j = false) : (List.range n).find? q = some m := by
  rw [List.find?_range_eq_some]
  refine ⟨h, by simpa using hm, fun j hj => by simp [hall j hj]⟩

theorem rfind_none {n : Nat} {q : Nat → Bool} (hall : ∀ j, j < n → q j = false) : (List.range n).find? q = none := by
  rw [List.find?_range_eq_none]
  intro j hj; simp [hall j hj]

def descAt (zs : List Int) (m : Nat) : Bool := decide (zs.getD (m + 1) 0 < zs.getD m 0)

def fdesc (zs : List Int) : Int := match (List.range (zs.length - 1)).find? (descAt zs) with | some m => m | none => -1

theorem fdesc_some {zs : List Int} {m : Nat} (hm : m + 1 < zs.length) (h : descAt zs m = true) (hall : ∀ j, j < m → descAt zs j = false) : fdesc zs = m := by
  unfold fdesc; rw [rfind_some (by omega) h hall]

theorem fdesc_none {zs : List Int} (hall : ∀ j, j + 1 < zs.length → descAt zs j = false) : fdesc zs = -1 := by
  unfold fdesc; rw [rfind_none (fun j hj => hall j (by omega))]

set_option maxRecDepth 100000 in
set_option maxHeartbeats 400000 in
theorem descentD_any (a : Option Addr) (cap : Nat) (zs : List Int) (w : World) (hlen : zs.length ≤ 1048576) (h : IntsAt w a zs) :
    Calls Try.prog 25 #[.slice a zs.length cap] w fun e w' => e = .returned (.int .i64 (fdesc zs)) ∧ Below w.heap.size w w' := by
  have H := Lib.hid h; clear h
  go_enter Try.func25, Try.ntmps25
  go_wp2
  go_loopw [3] (fun i wr => ∃ m : Nat, m ≤ zs.length ∧ i = .int .i64 ((m : Int) + 1) ∧ (∀ j, j < m → descAt zs j = false) ∧ Below w.heap.size w wr) (fun i _ => zs.length + 1 - (intOf i).toNat)
  case atStart => exact ⟨0, by omega, rfl, by intro j h; omega, Below.refl _ _⟩
  case round =>
    obtain ⟨m, hm, rfl, hall, hb⟩ := hrel
    have Hall := Lib.hid hall; clear hall
    have HB := Lib.hid hb; clear hb
    by_cases h1 : m + 1 < zs.length
    · obtain ⟨b, off, rfl, hc1⟩ := (H.out.below (Nat.le_refl _) HB.out).at (show m < zs.length by omega)
      obtain ⟨b', off', e, hc2⟩ := (H.out.below (Nat.le_refl _) HB.out).at h1
      simp only [Option.some.injEq, Addr.mk.injEq, and_true] at e
      obtain ⟨rfl, rfl⟩ := e
      have HD : Hid (descAt zs m = decide (zs.getD (m + 1) 0 < zs.getD m 0)) := rfl
      generalize zs.getD m 0 = x at hc1 HD
      generalize zs.getD (m + 1) 0 = y at hc2 HD
      by_cases hyx : y < x
      · go_wp2_with fail
        go_quiet (fail)
        go_wp2
        go_ret
        exact ⟨ret_int (by rw [fdesc_some h1 (by rw [HD.out]; simpa using hyx) Hall.out]), below_drewN HB.out _⟩
      · have hd : decide (y < x) = false := by simpa using hyx
        go_wp2_with fail
        go_quiet (fail)
        go_wp2
        go_roundw
        case rel =>
          refine ⟨m + 1, by omega, by go_num, fun j hj => ?_, below_drewN HB.out _⟩
          rcases Nat.lt_succ_iff_lt_or_eq.1 hj with h | rfl
          · exact Hall.out j h
          · rw [HD.out]; exact hd
        case measure => simp [intOf]; omega
    · go_wp2
      go_ret
      exact ⟨ret_int (by rw [fdesc_none (fun j hj => Hall.out j (by omega))]), HB.out⟩

theorem fdesc_good (l : List Int) : decide (0 ≤ fdesc l) = !Dt.upB l := by
  unfold fdesc Dt.upB
  cases h : (List.range (l.length - 1)).find? (descAt l) with
  | none =>
    have h2 : (List.range (l.length - 1)).all (fun i => decide (l.getD i 0 ≤ l.getD (i + 1) 0)) = true := by
      rw [List.all_eq_true]
      intro i hi
      have := List.find?_eq_none.1 h i hi
      unfold descAt at this
      simp only [decide_eq_true_eq] at this ⊢
      omega
    rw [h2]; rfl
  | some m =>
    have h2 : (List.range (l.length - 1)).all (fun i => decide (l.getD i 0 ≤ l.getD (i + 1) 0)) = false := by
      rw [List.all_eq_false]
      have h3 := List.find?_some h
      unfold descAt at h3
      refine ⟨m, List.mem_of_find?_eq_some h, ?_⟩
      simp only [decide_eq_true_eq] at h3 ⊢
      omega
    rw [h2]
    simp

theorem appl_snoc {o p : List Int} {k : Nat} (h : k < o.length) : Dt.appl (o.take (k + 1)) p = Dt.appl (o.take k) p ++ [p.getD (o.getD k 0).toNat 0] := by
  unfold Dt.appl
  rw [List.take_add_one, List.getElem?_eq_getElem h, List.map_append, List.getD_eq_getElem?_getD (l := o), List.getElem?_eq_getElem h]; rfl

set_option maxRecDepth 100000 in
set_option maxHeartbeats 2000000 in
theorem apply_any (a : Option Addr) (c : Nat) (o : List Int) (ax : Option Addr) (cx : Nat) (p : List Int) (w : World) (hl : o.length = p.length) (hl2 : o.length ≤ 1000) (hok : okPerm o = true) (h : IntsAt w a o) (hx : IntsAt w ax p) :
    Calls Try.prog 26 #[.slice a o.length c, .slice ax p.length cx] w fun e w' => ∃ x c, e = .returned (.slice x o.length c) ∧ w'.ownsRow w.heap.size 3 1 (.slice x o.length c) o.length ((Dt.appl o p).map (Value.int .i64)) ∧ Below w.heap.size w w' := by
  have E0 := Lib.hid (own_lit (w := w) (e := 3) (size := 1) #[] 0 (by omega) rfl)
  have B0 := Lib.hid (show Below w.heap.size w (w.alloc (.cells #[] 3)) from (Below.refl _ _).alloc (Nat.le_refl _) _)
  have H := Lib.hid h; have HX := Lib.hid hx; have HOK := Lib.hid hok; have HL := Lib.hid hl
  clear h hx hok hl
  go_enter Try.func26, Try.ntmps26
  go_wp2
  go_loopw [5, 7, 11] (fun v _ i wr => ∃ k : Nat, k ≤ o.length ∧ i = .int .i64 k ∧ wr.ownsRow w.heap.size 3 1 v k ((Dt.appl (o.take k) p).map (Value.int .i64)) ∧ Below w.heap.size w wr) (fun _ _ i _ => o.length - (intOf i).toNat)
  case atStart => exact ⟨0, by omega, rfl, E0.out, B0.out⟩
  case round =>
    obtain ⟨k, hk, rfl, hown, hb⟩ := hrel
    obtain ⟨a', c', rfl⟩ := own_slice hown
    have HO := Lib.hid hown; have HB := Lib.hid hb
    clear hown hb E0 B0
    by_cases hlt : k < o.length
    · obtain ⟨x0, x1⟩ := okPerm_at HOK.out hlt
      obtain ⟨b, off, rfl, hc1⟩ := (H.out.below (Nat.le_refl _) HB.out).at hlt
      have HS := Lib.hid (appl_snoc (p := p) hlt)
      generalize o.getD k 0 = q at x0 x1 hc1 HS
      obtain ⟨j, rfl⟩ := Int.eq_ofNat_of_zero_le x0
      rw [Int.toNat_natCast] at HS
      have hjp : j < p.length := by have := HL.out; omega
      obtain ⟨bx, ox, rfl, hc2⟩ := (HX.out.below (Nat.le_refl _) HB.out).at hjp
      generalize p.getD j 0 = y at hc2 HS
      have hn40 : k + 1 ≤ 1099511627776 := by omega
      have hbs := HB.out.size
      clear x0 x1
      go_wp2_with (at_builtin; refine wpList_app1 slInt rfl _ _ rfl rfl HO.out [.int .i64 y] rfl rfl (by simp) (by simp [Value.oneCell']) hn40 hbs ?_; intro v' w2 hown' hg ht)
      have HO4 := Lib.hid hown'
      have HB4 := Lib.hid (below_app HB.out hbs HO.out (Nat.le_refl _) hg)
      clear hown' hg ht
      go_wp2
      go_roundw
      case rel => exact ⟨k + 1, by omega, by go_num, by rw [HS.out, List.map_append]; exact HO4.out, HB4.out⟩
      case measure => simp [intOf] <;> omega
    · obtain rfl : k = o.length := by omega
      rw [List.take_length] at HO
      go_wp2
      go_ret
      exact ⟨a', c', rfl, HO.out, HB.out⟩

set_option maxHeartbeats 2000000 in
theorem fm1_any (b lo : Nat) (z : Addr) (cz : Nat) (a : Option Addr) (c : Nat) (ns : List Dt.Nd) (x : Addr) (cx n : Nat) (p : List Int) (w : World) (hn : p.length = n) (hn2 : n ≤ 64) (hok : Dt.okTree (n : Int) ns = true) (h : NodesAt w a ns) (hx : IntsAt w (some x) p)
    (hb : w.cell? ⟨b, 0, none⟩ = some (.slice a ns.length c)) (h1 : w.heap[lo]? = some (.cells #[.slice (some z) 0 cz] 25 (0, 0))) :
    Calls Try.prog 24 #[.slice (some x) n cx, .pointer (some ⟨b, 0, none⟩), .pointer (some ⟨lo, 0, none⟩)] w fun e w' => e = .returned (.bool (Dt.good ns p)) ∧ Ch w w' lo (lo + 1) ∧
      (Dt.good ns p = true → w'.heap[lo]? = some (.cells #[.slice (some z) 0 cz] 25 (0, 0))) ∧ (Dt.good ns p = false → ∃ g cg, w'.heap[lo]? = some (.cells #[.slice (some ⟨g, 0, none⟩) n cg] 25 (0, 0)) ∧ w'.ownsRow w.heap.size 3 1 (.slice (some ⟨g, 0, none⟩) n cg) n (p.map (Value.int .i64))) := by
  subst hn
  obtain ⟨o1, o2, o3, o4, o5, _⟩ := Dt.okTree_iff hok
  rw [Int.toNat_natCast] at o5
  obtain ⟨r1, r2, _⟩ := Dt.runT_ok (zs := p) o5 o3
  have R1 := Lib.hid r1; have R2 := Lib.hid r2
  clear r1 r2
  have HD := Lib.hid (decide_any a c ns (some x) cx p w hn2 hok h hx)
  have HX := Lib.hid hx
  clear h hx hok o5
  have s1 : lo < w.heap.size := (Array.getElem?_eq_some_iff.1 h1).1
  have H1 := Lib.hid h1
  have HG : Hid (Dt.good ns p = !decide (0 ≤ fdesc (Dt.appl (Dt.runT ns p).1 p))) := by show _ = _; rw [fdesc_good, Bool.not_not]; rfl
  clear h1
  go_enter Try.func24, Try.ntmps24
  go_wp2_with fail
  refine HD.out.mono ?_
  rintro e w1 ⟨g, cg, rfl, ho1, hb1⟩
  have HB1 := Lib.hid hb1
  have HI1 := Lib.hid (ownInts ho1)
  clear hb1 hb ho1
  generalize (Dt.runT ns p).1 = o at R1 R2 HI1 HG ⊢
  generalize (Dt.runT ns p).2 = R at ⊢
  go_wp2_with fail
  refine (apply_any _ _ o _ _ p _ R1.out (by have := R1.out; omega) R2.out HI1.out (HX.out.below (Nat.le_refl _) HB1.out)).mono ?_
  rintro e w2 ⟨x2, c2, rfl, ho2, hb2⟩
  have hal : (Dt.appl o p).length = o.length := by simp [Dt.appl]
  have HI2 := Lib.hid (ownInts ho2)
  have HB2 := Lib.hid (HB1.out.trans (hb2.mono HB1.out.size))
  clear hb2 ho2
  have HDS := Lib.hid (descentD_any x2 c2 (Dt.appl o p) w2 (by have := R1.out; omega) HI2.out)
  rw [hal] at HDS
  generalize fdesc (Dt.appl o p) = D at HDS HG
  clear hal
  go_wp2_with fail
  refine HDS.out.mono ?_
  rintro e w3 ⟨rfl, hb3⟩
  have HB3 := Lib.hid (HB2.out.trans (hb3.mono HB2.out.size)); clear hb3
  have HA := Lib.hid (block_below H1.out HB3.out s1)
  have e1 := row_cell HA.out 0
  have f1 : w3.frozen? ⟨lo, 0, none⟩ = false := free_of_one HA.out
  simp at e1
  by_cases hd : 0 ≤ D
  · go_wp2_with fail
    refine (copyOfD_any _ cx p _ (by omega) (HX.out.below (Nat.le_refl _) HB3.out)).mono ?_
    rintro e w4 ⟨g4, c4, rfl, ho4, hb4⟩
    have HA4 := Lib.hid (block_below HA.out hb4 (Nat.lt_of_lt_of_le s1 HB3.out.size))
    have HO4 := Lib.hid ho4
    have HB4 := Lib.hid (HB3.out.trans (hb4.mono HB3.out.size))
    have e4 := row_cell HA4.out 0
    have f4 : w4.frozen? ⟨lo, 0, none⟩ = false := free_of_one HA4.out
    simp at e4
    have s3 := HB3.out.size
    have hp0 : ((p.length : Int) == 0) = false := beq_eq_false_iff_ne.2 (by omega)
    clear ho4 hb4 e1 f1
    go_wp2
    go_ret
    rw [HG.out, decide_eq_true hd]
    refine ⟨ret_bool (by show _ = false; first | rfl | exact hp0 | exact decide_eq_false (by omega)), (ch_of_below lo (lo + 1) HB4.out).grow (grown_setD w4 lo _) (fun k e => by injection e with e; omega), fun h => by simp at h, fun _ => ⟨g4, c4, heap_setCell_same w4 lo 0 _ _ _ HA4.out, ?_⟩⟩
    have hg4 := (HO4.out.lt g4 rfl).1
    exact own_mono (own_other HO4.out (grown_setD w4 lo _) (fun k hk e => by have hk : g4 = k := Option.some.inj hk; injection e with e; omega)) HB3.out.size
  · go_wp2
    go_ret
    rw [HG.out, decide_eq_false (by omega)]
    exact ⟨rfl, ch_of_below lo (lo + 1) HB3.out, fun _ => HA.out, fun h => by simp at h⟩

end Go.Proofs.Ytcncjedhpnaoaaa

namespace Go.Proofs.Ytcncjedhpnaoaaa
open Go.RowKit Go.Sort
set_option linter.unusedVariables false

/-- A list that a call has made, and a truth value beside it. -/
def Run2 (w : World) (q : List Int × Bool) (e : Ending) (w' : World) : Prop :=
  ∃ (x : Option Addr) (c : Nat), e = .returned (.tuple #[.slice x q.1.length c, .bool q.2]) ∧ w'.ownsRow w.heap.size 3 1 (.slice x q.1.length c) q.1.length (q.1.map (Value.int .i64)) ∧ Below w.heap.size w w'
def fmQ (n : Int) (ns : List Dt.Nd) : List Int × Bool := if Dt.okTree n ns = true then (Dt.firstBad ns (Pm.allP n.toNat), true) else ([], false)

/-- Nothing is wrong with the first k permutations. -/
structure FMI (w0 W : World) (b lo z n : Nat) (ns : List Dt.Nd) (a : Option Addr) (c k : Nat) : Prop where
  ch : Below w0.heap.size w0 W
  cell : W.cell? ⟨b, 0, none⟩ = some (.slice a ns.length c)
  row : W.heap[lo]? = some (.cells #[.slice (some ⟨z, 0, none⟩) 0 0] 25 (0, 0))
  own : W.ownsRow w0.heap.size 3 1 (.slice (some ⟨z, 0, none⟩) 0 0) 0 []
  all : ∀ j p, j < k → (Pm.allP n)[j]? = some p → Dt.good ns p = true
/-- The first wrong one is kept. -/
def FMJ (w0 : World) (lo n : Nat) (ns : List Dt.Nd) (W : World) : Prop :=
  Below w0.heap.size w0 W ∧ ∃ g cg p, p = Dt.firstBad ns (Pm.allP n) ∧ p.length = n ∧ W.heap[lo]? = some (.cells #[.slice (some ⟨g, 0, none⟩) n cg] 25 (0, 0)) ∧ W.ownsRow w0.heap.size 3 1 (.slice (some ⟨g, 0, none⟩) n cg) n (p.map (Value.int .i64))

theorem Dt.firstBad_at {ns : List Dt.Nd} {ps : List (List Int)} {k : Nat} {p : List Int} (h : ps[k]? = some p) (hb : Dt.good ns p = false) (hall : ∀ j p, j < k → ps[j]? = some p → Dt.good ns p = true) : Dt.firstBad ns ps = p := by
  unfold Dt.firstBad
  obtain ⟨hk, e⟩ := List.getElem?_eq_some_iff.1 h
  have : ps.find? (fun p => !Dt.good ns p) = some p := by
    rw [List.find?_eq_some_iff_getElem]
    refine ⟨by rw [hb]; rfl, k, hk, e, fun j hj => ?_⟩
    rw [hall j _ hj (List.getElem?_eq_getElem (by omega))]; rfl
  rw [this]; rfl
theorem Dt.firstBad_none {ns : List Dt.Nd} {ps : List (List Int)} (hall : ∀ j p, j < ps.length → ps[j]? = some p → Dt.good ns p = true) : Dt.firstBad ns ps = [] := by
  unfold Dt.firstBad
  have : ps.find? (fun p => !Dt.good ns p) = none := by
    rw [List.find?_eq_none]
    intro p hp
    obtain ⟨j, hj, e⟩ := List.getElem_of_mem hp
    rw [hall j p hj (by rw [List.getElem?_eq_getElem hj, e])]; simp
  rw [this]; rfl

theorem FMI.far {w0 W W' : World} {b lo z n k g : Nat} {ns : List Dt.Nd} {a : Option Addr} {c : Nat} (h : FMI w0 W b lo z n ns a c k) (hg : W.grownBy W' (some g)) (h1 : lo + 1 ≤ g) (h2 : w0.heap.size ≤ g) (h3 : b < lo) (h4 : z < lo) : FMI w0 W' b lo z n ns a c k := by
  have s1 : lo < W.heap.size := (Array.getElem?_eq_some_iff.1 h.row).1
  refine ⟨⟨hg.os.trans h.ch.os, hg.tape.trans h.ch.tape, hg.output.trans h.ch.output, Nat.le_trans h.ch.size hg.size, fun k hk => (hg.block k (Nat.lt_of_lt_of_le hk h.ch.size) (fun e => by injection e with e; omega)).trans (h.ch.block k hk)⟩, ?_, ?_, ?_, h.all⟩
  · exact (World.cell?_of_block (w := W) (w' := W') (a := ⟨b, 0, none⟩) (hg.block b (by omega) (fun e => by injection e with e; omega))).trans h.cell
  · exact (hg.block lo s1 (fun e => by injection e with e; omega)).trans h.row
  · exact own_other h.own hg (fun k hk e => by have hk : z = k := Option.some.inj hk; injection e with e; omega)

set_option maxHeartbeats 2000000 in
theorem fm_yields (w0 w : World) (b lo z m : Nat) (ns : List Dt.Nd) (a : Option Addr) (c : Nat) (hm : m + 1 ≤ 5) (hok : Dt.okTree ((m + 1 : Nat) : Int) ns = true) (h : NodesAt w0 a ns) (hw : Below w0.heap.size w0 w) (hlo : w0.heap.size ≤ b) (hbl : b < lo) (hz : z < lo) :
    YieldsC w (m + 1) (.func (.func 24) #[] #[.pointer (some ⟨b, 0, none⟩), .pointer (some ⟨lo, 0, none⟩)]) lo (lo + 1) (fun k W => FMI w0 W b lo z (m + 1) ns a c k) (FMJ w0 lo (m + 1) ns) := by
  refine ⟨_, _, rfl, fun args w => by kernel_rfl, fun k p W x cx hkp hI hsz hxb hx => ?_⟩
  have hpn := (Pm.allP_ok (n := m + 1) (by omega) hm (List.mem_of_getElem? hkp)).1
  refine (fm1_any b lo ⟨z, 0, none⟩ 0 a c ns x cx (m + 1) p W hpn (by omega) hok (h.same hI.ch) hx hI.cell hI.row).mono ?_
  rintro e' W' ⟨rfl, hc, h1, h2⟩
  have hch := hc.below hI.ch (by omega)
  refine ⟨_, rfl, hc, fun hg => ⟨hch, ?_, h1 hg, hc.own hI.own (fun k hk => .inl (by have hk : z = k := Option.some.inj hk; omega)), fun j p' hj hp' => ?_⟩, fun hg => ?_⟩
  · exact (hc.cell (World.block_lt_of_cell? W _ hI.cell) (.inl hbl)).trans hI.cell
  · rcases Nat.lt_succ_iff_lt_or_eq.1 hj with h | rfl
    · exact hI.all j p' h hp'
    · rw [hkp] at hp'; injection hp' with hp'; rw [← hp']; exact hg
  · obtain ⟨g, cg, h3, h4⟩ := h2 hg
    exact ⟨hch, g, cg, p, (Dt.firstBad_at hkp hg hI.all).symm, hpn, h3, own_mono h4 hI.ch.size⟩

set_option maxHeartbeats 2000000 in
theorem firstMistake_any (a : Option Addr) (c : Nat) (ns : List Dt.Nd) (n : Int) (w : World) (hbig : ns.length ≤ 9223372036854775807) (h : NodesAt w a ns) :
    Calls Try.prog 9 #[.slice a ns.length c, .int .i64 n] w (Run2 w (fmQ n ns)) := by
  have HV := Lib.hid (fun (W : World) (hb : Below w.heap.size w W) => isValidDecisions_any a c ns n W hbig (h.same hb))
  have H := Lib.hid h; clear h
  cases hok : Dt.okTree n ns
  · have HK := Lib.hid hok
    have HQ : Hid (fmQ n ns = ([], false)) := by show _ = _; unfold fmQ; rw [hok]; rfl
    clear hok
    go_enter Try.func9, Try.ntmps9
    go_wp2_with fail
    refine (HV.out _ (by (repeat (first | exact Below.refl _ _ | assumption | refine Below.setCell ?_ (by first | omega | (simp; done) | (simp; omega)) _ | refine Below.alloc ?_ (by first | omega | (simp; done) | (simp; omega)) _ | refine Below.drew ?_ | refine below_drewN ?_ _)))).mono ?_
    rintro e w1 ⟨rfl, hb1⟩
    rw [HK.out]
    have HB1 := Lib.hid (show Below w.heap.size w w1 from Below.trans (by (repeat (first | exact Below.refl _ _ | assumption | refine Below.setCell ?_ (by first | omega | (simp; done) | (simp; omega)) _ | refine Below.alloc ?_ (by first | omega | (simp; done) | (simp; omega)) _ | refine Below.drew ?_ | refine below_drewN ?_ _))) (hb1.mono (by simp))); clear hb1
    go_wp2
    go_ret2
    rw [HQ.out]
    exact ⟨none, 0, rfl, ⟨rfl, .inl ⟨rfl, rfl⟩⟩, HB1.out⟩
  · obtain ⟨o1, o2, o3, o4, o5, _⟩ := Dt.okTree_iff hok
    obtain ⟨m, rfl⟩ : ∃ m : Nat, n = ((m + 1 : Nat) : Int) := ⟨(n - 1).toNat, by omega⟩
    have HK := Lib.hid hok
    have HQ : Hid (fmQ ((m + 1 : Nat) : Int) ns = (Dt.firstBad ns (Pm.allP (m + 1)), true)) := by show _ = _; unfold fmQ; rw [hok, if_pos rfl, Int.toNat_natCast]
    clear hok o5
    have hm : m + 1 ≤ 5 := by omega
    have hmf := hmf
    go_enter Try.func9, Try.ntmps9
    go_wp2_with fail
    refine (HV.out _ (by (repeat (first | exact Below.refl _ _ | assumption | refine Below.setCell ?_ (by first | omega | (simp; done) | (simp; omega)) _ | refine Below.alloc ?_ (by first | omega | (simp; done) | (simp; omega)) _ | refine Below.drew ?_ | refine below_drewN ?_ _)))).mono ?_
    rintro e w1 ⟨rfl, hb1⟩
    rw [HK.out]
    have u1 : w1.cell? ⟨w.heap.size, 0, none⟩ = some (.slice a ns.length c) := (hb1.cell (p := ⟨w.heap.size, 0, none⟩) (by simp)).trans (by simp [go_sem])
    have HB1 := Lib.hid (show Below w.heap.size w w1 from Below.trans (by (repeat (first | exact Below.refl _ _ | assumption | refine Below.setCell ?_ (by first | omega | (simp; done) | (simp; omega)) _ | refine Below.alloc ?_ (by first | omega | (simp; done) | (simp; omega)) _ | refine Below.drew ?_ | refine below_drewN ?_ _))) (hb1.mono (by simp)))
    have HU := Lib.hid u1
    have hlt : w.heap.size < w1.heap.size := by have := hb1.size; simp at this; omega
    clear hb1
    go_wp2_with fail
    obtain ⟨W, hW⟩ : ∃ W, W = (w1.alloc (.cells #[] 3)).alloc (.cells #[.slice (some ⟨w1.heap.size, 0, none⟩) 0 0] 25) := ⟨_, rfl⟩
    have hWs : W.heap.size = w1.heap.size + 2 := by rw [hW]; simp
    have hb2 : Below w1.heap.size w1 W := by rw [hW]; (repeat (first | exact Below.refl _ _ | assumption | refine Below.setCell ?_ (by first | omega | (simp; done) | (simp; omega)) _ | refine Below.alloc ?_ (by first | omega | (simp; done) | (simp; omega)) _ | refine Below.drew ?_ | refine below_drewN ?_ _))
    have q1 : W.ownsRow w1.heap.size 3 1 (.slice (some ⟨w1.heap.size, 0, none⟩) 0 0) 0 [] := by
      rw [hW]
      exact own_below (own_lit (w := w1) (e := 3) (size := 1) #[] 0 (by omega) rfl) (Nat.le_refl _) ((Below.refl _ _).alloc (Nat.le_refl _) _)
    have q2 : W.heap[w1.heap.size + 1]? = some (.cells #[.slice (some ⟨w1.heap.size, 0, none⟩) 0 0] 25 (0, 0)) := by
      rw [hW]
      have := block_new (w1.alloc (.cells #[] 3)) (.cells #[.slice (some ⟨w1.heap.size, 0, none⟩) 0 0] 25)
      simpa using this
    rw [← hW]; clear hW
    have hbW := HB1.out.trans (hb2.mono HB1.out.size)
    have hcW := (hb2.cell (p := ⟨w.heap.size, 0, none⟩) hlt).trans HU.out
    have HP := Lib.hid (permutationsC_any m hm _ (w1.heap.size + 1) (w1.heap.size + 1 + 1) (fun k W' => FMI w W' w.heap.size (w1.heap.size + 1) w1.heap.size (m + 1) ns a c k) (FMJ w (w1.heap.size + 1) (m + 1) ns) W (by omega)
      (fun k W1 W2 g hg hi hgr => hi.far hgr (by omega) (by omega) (by omega) (by omega))
      (fun W' hb => ⟨hbW.trans (hb.mono hbW.size), (hb.cell (p := ⟨w.heap.size, 0, none⟩) (by show w.heap.size < _; omega)).trans hcW, block_below q2 hb (by omega), own_mono (own_below q1 (Nat.le_refl _) hb) HB1.out.size, fun j p hj => by omega⟩)
      (fm_yields w W w.heap.size (w1.heap.size + 1) w1.heap.size m ns a c hm HK.out H.out hbW (Nat.le_refl _) (by omega) (by omega)))
    clear hb2 q1 q2 hbW hcW
    refine HP.out.mono ?_
    rintro e w2 ⟨rfl, _, hI | hJ⟩
    · have HI := Lib.hid hI.ch
      have HO := Lib.hid hI.own
      have HE := Lib.hid (Dt.firstBad_none hI.all)
      have e1 := row_cell hI.row 0
      simp at e1
      clear hI HP
      go_wp2
      go_ret2
      rw [HQ.out, HE.out]
      exact ⟨_, _, rfl, HO.out, HI.out⟩
    · obtain ⟨hch, g, cg, p, hp, hpl, hrow, hown⟩ := hJ
      have HI := Lib.hid hch
      have HO := Lib.hid hown
      have HE := Lib.hid hp
      have HL := Lib.hid hpl
      have e1 := row_cell hrow 0
      simp at e1
      clear hch hown hp hpl hrow HP
      go_wp2
      go_ret2
      rw [HQ.out, ← HE.out]
      refine ⟨some ⟨g, 0, none⟩, cg, ?_, ?_, HI.out⟩
      · show _ = Ending.returned (.tuple #[.slice (some ⟨g, 0, none⟩) p.length cg, .bool true])
        rw [HL.out]; rfl
      · show w2.ownsRow w.heap.size 3 1 (.slice (some ⟨g, 0, none⟩) p.length cg) p.length (p.map (Value.int .i64))
        rw [HL.out]; exact HO.out

end Go.Proofs.Ytcncjedhpnaoaaa

