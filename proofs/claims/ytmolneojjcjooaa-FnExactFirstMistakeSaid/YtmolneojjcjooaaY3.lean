/- Several texts in one: lemmas and walks of the functions that the laws reach. -/
import Derived.Test.YtmolneojjcjooaaY2
import Derived.Test.YtmolneojjcjooaaY1
import Derived.ProofKit
import Derived.OpenShut
import Derived.Deep.Slices
import Derived.Deep.Fields
import Derived.ChangeSame
import Derived.Lib.SmallJoins

/- Walks: the reference's check of decision trees. -/
namespace Go.Proofs.Ytmolneojjcjooaa
open Go.RowKit
set_option linter.unusedVariables false

set_option maxHeartbeats 400000 in
theorem l23Good_any (a : Option Addr) (cap : Nat) (ns : List Dt.Nd) (n : Int) (w : World) (hbig : ns.length ≤ 9223372036854775807) (h : NodesAt w a ns) :
    Calls Try.prog 59 #[.slice a ns.length cap, .int .i64 n] w fun e w' => e = .returned (.bool (Dt.okTree n ns)) ∧ Below w.heap.size w w' := by
  have H := Lib.hid h; clear h
  cases h1 : inB n 1 5
  · have HE := Lib.hid (Dt.okTree_no1 (ns := ns) h1)
    have HI := l1In_isD h1
    clear h1
    go_enter Try.func59, Try.ntmps59
    go_wp2_with (go_at_call 118; refine (HI.out _).mono ?_; rintro e w' ⟨rfl, rfl⟩)
    go_ret
    exact ⟨ret_bool HE.out.symm, Below.refl _ _⟩
  have HI1 := l1In_isD h1
  have H1 := Lib.hid h1
  obtain ⟨n1, n5⟩ := inB_iff.1 h1; clear h1
  obtain ⟨m, rfl⟩ := Int.eq_ofNat_of_zero_le (show (0 : Int) ≤ n by omega)
  cases h2 : inB (ns.length : Int) 1 255
  · have HE := Lib.hid (Dt.okTree_no2 (n := (m : Int)) h2)
    have H2 := Lib.hid h2
    clear h2
    go_enter Try.func59, Try.ntmps59
    go_wp2_with (go_at_call 118; refine (l1In_any _ _ _ _).mono ?_; rintro e w' ⟨rfl, rfl⟩; first | rw [H1.out] | rw [H2.out])
    go_ret
    exact ⟨ret_bool HE.out.symm, Below.refl _ _⟩
  have HI2 := l1In_isD h2
  have H2 := Lib.hid h2
  obtain ⟨l1, l5⟩ := inB_iff.1 h2; clear h2
  go_enter Try.func59, Try.ntmps59
  go_wp2_with (first | (go_at_call 118; refine (l1In_any _ _ _ _).mono ?_; rintro e w' ⟨rfl, rfl⟩; first | rw [H1.out] | rw [H2.out]) | (at_make; refine wpList_mk slInt rfl _ _ rfl ns.length rfl rfl (by omega) ?_))
  intro w1 hown hb hsz
  have hown : w1.ownsRow w.heap.size 3 1 (.slice (some ⟨w.heap.size, 0, none⟩) ns.length ns.length) ns.length ((Dt.ctL ns 0).map (Value.int .i64)) := by
    rw [Dt.ctL_zero, ← toList_madeCells_one]; simpa [Value.cells] using hown
  have HO := Lib.hid hown; clear hown
  have HB := Lib.hid hb; clear hb hsz
  go_wp2
  go_loopw [7] (fun i wr => ∃ k : Nat, k ≤ ns.length ∧ i = .int .i64 k ∧ (∀ j, j < k → Dt.okNode m j ns.length (ns.getD j Dt.nd0) = true) ∧ wr.ownsRow w.heap.size 3 1 (.slice (some ⟨w.heap.size, 0, none⟩) ns.length ns.length) ns.length ((Dt.ctL ns k).map (Value.int .i64)) ∧ Below w.heap.size w wr) (fun i _ => ns.length - (intOf i).toNat)
  case atStart => exact ⟨0, by omega, rfl, by intro j h; omega, HO.out, HB.out⟩
  case round =>
    obtain ⟨k, hk, rfl, hall, hown, hb⟩ := hrel
    have HA := Lib.hid hall; clear hall HO HB
    have HB := Lib.hid hb; clear hb
    have HOW := Lib.hid hown; clear hown
    by_cases hlt : k < ns.length
    · obtain ⟨b, off, rfl, hn0⟩ := H.out.at hlt
      have hbw := World.block_lt_of_cell? w _ hn0.c0
      have hn := hn0.below HB.out
      have HN := Lib.hid hn0; clear hn0
      obtain ⟨c0, c1, c2, c3, ⟨x, cx, c4, hi, _⟩, hbg⟩ := hn
      have HI := Lib.hid hi; clear hi
      generalize hd : ns.getD k Dt.nd0 = d at c0 c1 c2 c3 c4 HI hbg HN
      have HD := Lib.hid hd; clear hd
      obtain ⟨d1, d2, d3, d4, o⟩ := d
      simp only [Dt.Nd.a, Dt.Nd.b, Dt.Nd.l, Dt.Nd.g, Dt.Nd.o] at c0 c1 c2 c3 c4 hbg
      go_wp2_with fail
      refine (l23Node_any d1 d2 d3 d4 x cx o m k ns.length _ (by omega) (by omega) (by omega) (by omega) hbg HI.out).mono ?_
      rintro e w2 ⟨rfl, hb2⟩
      have hbk : b < wr.heap.size := Nat.lt_of_lt_of_le hbw HB.out.size
      have e4 : w2.cell? ⟨b, off + k * 5 + 4, none⟩ = some (.slice x o.length cx) := (hb2.cell (p := ⟨b, off + k * 5 + 4, none⟩) hbk).trans c4
      have e3 : w2.cell? ⟨b, off + k * 5 + 3, none⟩ = some (.int .i64 d4) := (hb2.cell (p := ⟨b, off + k * 5 + 3, none⟩) hbk).trans c3
      have e2 : w2.cell? ⟨b, off + k * 5 + 2, none⟩ = some (.int .i64 d3) := (hb2.cell (p := ⟨b, off + k * 5 + 2, none⟩) hbk).trans c2
      have HB2 := Lib.hid (HB.out.trans (hb2.mono HB.out.size))
      have HO2 := Lib.hid (own_below HOW.out (Nat.le_refl _) hb2)
      have hnb : b ≠ w.heap.size := by have : b < w.heap.size := hbw; omega
      have hnb2 : w.heap.size ≠ b := by have : b < w.heap.size := hbw; omega
      clear hb2 c0 c1 c2 c3 c4
      cases hok : Dt.okNode m k ns.length (d1, d2, d3, d4, o)
      · have HV := Lib.hid hok; clear hok
        go_wp2
        go_ret
        exact ⟨ret_bool (Dt.okTree_no3 hlt (by rw [HD.out]; exact HV.out)).symm, HB2.out⟩
      · have HV := Lib.hid hok
        have HA2 : Hid (∀ j, j < k + 1 → Dt.okNode m j ns.length (ns.getD j Dt.nd0) = true) := fun j hj => by
          rcases Nat.lt_succ_iff_lt_or_eq.1 hj with h | rfl
          · exact HA.out j h
          · rw [HD.out]; exact HV.out
        by_cases h0 : 0 < o.length
        · clear hok
          go_wp2
          go_roundw
          case rel => exact ⟨k + 1, by omega, by go_num, HA2.out, by rw [Dt.ctL_leaf hlt (by rw [HD.out]; exact h0)]; exact HO2.out, HB2.out⟩
          case measure => simp [intOf]; omega
        · have h00 : o.length = 0 := by omega
          obtain ⟨_, _, p1, p2⟩ := Dt.okNode_in hok h00
          have hne := Dt.okNode_ne hok h00
          simp only [Dt.Nd.l, Dt.Nd.g] at p1 p2 hne
          clear hok
          obtain ⟨l, rfl⟩ := Int.eq_ofNat_of_zero_le (show (0 : Int) ≤ d3 by omega)
          obtain ⟨g, rfl⟩ := Int.eq_ofNat_of_zero_le (show (0 : Int) ≤ d4 by omega)
          have hl : l < ns.length := by omega
          have hg : g < ns.length := by omega
          have hne : l ≠ g := by omega
          have hne2 : g ≠ l := by omega
          have hq1 := (HO2.out.cellAt l (by omega)).trans (Dt.ctL_map hl)
          have hq2 := (HO2.out.cellAt g (by omega)).trans (Dt.ctL_map hg)
          have hf1 := HO2.out.frozenAt l
          have hf2 := HO2.out.frozenAt g
          have hp1 := Dt.parN_le (ns.take k) l
          have hp2 := Dt.parN_le (ns.take k) g
          have htk : (ns.take k).length ≤ 255 := by simp; omega
          have HR := Lib.hid ((HO2.out.stored l (.int .i64 (((Dt.parN (ns.take k) l : Nat) : Int) + 1))).1.stored g (.int .i64 (((Dt.parN (ns.take k) g : Nat) : Int) + 1))).1
          have HS := Lib.hid (Dt.ctL_in hlt (by rw [HD.out]; exact h00) (by rw [HD.out]) (by rw [HD.out]) hl hg hne)
          generalize Dt.parN (ns.take k) l = c1 at hq1 hp1 HR HS
          generalize Dt.parN (ns.take k) g = c2 at hq2 hp2 HR HS
          go_wp2
          go_roundw
          case rel => exact ⟨k + 1, by omega, by go_num, HA2.out, by rw [← HS.out]; exact HR.out, Below.setCell (p := ⟨w.heap.size, g, none⟩) (Below.setCell (p := ⟨w.heap.size, l, none⟩) HB2.out (Nat.le_refl _) _) (Nat.le_refl _) _⟩
          case measure => simp [intOf]; omega
    · have e : k = ns.length := by omega
      subst e
      have HE := Lib.hid (Dt.okTree_yes H1.out H2.out HA.out)
      go_wp2
      go_loopw [8] (fun i wq => ∃ k : Nat, 1 ≤ k ∧ k ≤ ns.length ∧ i = .int .i64 k ∧ (∀ j, j + 1 < k → Dt.parN ns (j + 1) = 1) ∧ wq = wr) (fun i _ => ns.length - (intOf i).toNat)
      case atStart => exact ⟨1, by omega, by omega, rfl, by intro j h; omega, rfl⟩
      case round =>
        obtain ⟨k, hk1, hk2, rfl, hall, rfl⟩ := hrel
        have HP := Lib.hid hall; clear hall
        by_cases hlt : k < ns.length
        · have hq1 := (HOW.out.cellAt k (by omega)).trans (Dt.ctL_map hlt)
          rw [List.take_length] at hq1
          generalize hp : Dt.parN ns k = c1 at hq1
          have HPP := Lib.hid hp; clear hp
          by_cases h1 : c1 = 1
          · subst h1
            go_wp2
            go_roundw
            case rel =>
              refine ⟨k + 1, by omega, by omega, by go_num, fun j hj => ?_, by trivial⟩
              by_cases e : j + 1 = k
              · rw [e]; exact HPP.out
              · exact HP.out j (by omega)
            case measure => simp [intOf]; omega
          · have hne : ((c1 : Int) != 1) = true := by simp; omega
            go_wp2
            go_ret
            refine ⟨ret_bool ?_, HB.out⟩
            rw [HE.out]
            symm
            unfold Dt.parsOk
            rw [List.all_eq_false]
            refine ⟨k - 1, List.mem_range.2 (by omega), ?_⟩
            rw [show k - 1 + 1 = k by omega, HPP.out]
            simp [h1]
        · go_wp2
          go_ret
          refine ⟨ret_bool ?_, HB.out⟩
          rw [HE.out]
          symm
          unfold Dt.parsOk
          rw [List.all_eq_true]
          intro j hj
          have hj := List.mem_range.1 hj
          rw [HP.out j (by omega)]; rfl

set_option maxHeartbeats 400000 in
theorem specIsValidDecisions_any (a : Option Addr) (cap : Nat) (ns : List Dt.Nd) (n : Int) (w : World) (hbig : ns.length ≤ 9223372036854775807) (h : NodesAt w a ns) :
    Calls Try.prog 12 #[.slice a ns.length cap, .int .i64 n] w fun e w' => e = .returned (.bool (Dt.okTree n ns)) ∧ Below w.heap.size w w' := by
  have HG := Lib.hid (l23Good_any a cap ns n w hbig h); clear h
  go_enter Try.func12, Try.ntmps12
  go_wp2_with fail
  refine HG.out.mono ?_
  rintro e w2 ⟨rfl, hb2⟩
  have HB := Lib.hid hb2; clear hb2
  go_wp2
  go_ret
  exact ⟨rfl, HB.out⟩

end Go.Proofs.Ytmolneojjcjooaa

/- Walks: the law of IsValidDecisions. -/
namespace Go.Proofs.Ytmolneojjcjooaa
open Go.RowKit
set_option linter.unusedVariables false

set_option maxHeartbeats 1000000 in
theorem lawIsValidDecisions_any (a : Option Addr) (c : Nat) (ns : List Dt.Nd) (n : Int) (w : World) (hbig : ns.length ≤ 9223372036854775807) (h : NodesAt w a ns) :
    Calls Try.prog 3 #[.slice a ns.length c, .int .i64 n] w fun e w' => e = .returned (.bool true) ∧ Below w.heap.size w w' := by
  have HZ := Lib.hid (szDecisionNodeS_any a c ns 1048576 w hbig (by omega) (by omega) h)
  have H := Lib.hid h; clear h
  go_enter Try.func3, Try.ntmps3
  go_wp2_with fail
  refine HZ.out.mono ?_
  rintro e w0 ⟨r, rfl, r0, r1, hr, hb0⟩
  have HB0 := Lib.hid hb0; clear hb0 HZ
  have HR := Lib.hid hr; clear hr
  by_cases hr0 : r < 0
  · go_wp2_with fail
    go_ret
    exact ⟨rfl, HB0.out⟩
  · obtain ⟨hl, ho⟩ := HR.out (by omega)
    have HO := Lib.hid ho; clear ho HR
    go_wp2_with fail
    refine (toDecisionNodeS_any a c ns _ hl HO.out (H.out.same HB0.out)).mono ?_
    rintro e w1 ⟨gs1, rfl, _, hn1, hb1⟩
    have HB1 := Lib.hid (HB0.out.trans (hb1.mono HB0.out.size)); clear hb1
    go_wp2_with fail
    refine (specIsValidDecisions_any _ _ ns n _ hbig hn1).mono ?_
    rintro e w2 ⟨rfl, hb2⟩
    have HB2 := Lib.hid (HB1.out.trans (hb2.mono HB1.out.size)); clear hb2 hn1
    go_wp2_with fail
    refine (toDecisionNodeS_any a c ns _ hl HO.out (H.out.same HB2.out)).mono ?_
    rintro e w3 ⟨gs3, rfl, _, hn3, hb3⟩
    have HN3 := Lib.hid hn3; clear hn3
    have HB3 := Lib.hid (HB2.out.trans (hb3.mono HB2.out.size)); clear hb3
    go_wp2_with fail
    refine (isValidDecisions_any _ _ ns n _ hbig HN3.out).mono ?_
    rintro e w4 ⟨rfl, hb4⟩
    have HB4 := Lib.hid (HB3.out.trans (hb4.mono HB3.out.size))
    have HN4 := Lib.hid (HN3.out.same hb4); clear hb4
    generalize Dt.okTree n ns = q
    have hq : (q != q) = false := by simp
    go_wp2_with fail
    refine (toDecisionNodeS_any a c ns _ hl HO.out (H.out.same HB4.out)).mono ?_
    rintro e w5 ⟨gs5, rfl, _, hn5, hb5⟩
    have HN5 := Lib.hid hn5; clear hn5
    have HN45 := Lib.hid (HN4.out.same hb5)
    have HB5 := Lib.hid (HB4.out.trans (hb5.mono HB4.out.size)); clear hb5
    go_wp2_with fail
    refine (eqDecisionNodeS_any _ _ _ _ ns ns _ hbig hbig HN45.out HN5.out).mono ?_
    rintro e w6 ⟨rfl, hb6⟩
    have HB6 := Lib.hid (HB5.out.trans (hb6.mono HB5.out.size)); clear hb6
    rw [decide_eq_true rfl]
    go_wp2
    go_ret
    exact ⟨rfl, HB6.out⟩

end Go.Proofs.Ytmolneojjcjooaa

/- General: what comes in as a list of structs, read as cells. -/
namespace Go.Proofs.Ytmolneojjcjooaa
open Go.ChangeShapes Go.WideShapes Go.Deep Go.RowKit Go.Joins
set_option linter.unusedVariables false

section
variable {H : Type} {enc : TypeId × Value → H} {P : Program} {w : World} {base : Nat} {spare : Nat → Bool} {held : Bool}
theorem open_slice_fields {t e : TypeId} {fs : Array Field} {fuel : Nat} {cs : List Value} {x : DataW H × List MemPlace} (ht : P.underlying t = some (.slice e)) (he : P.underlying e = some (.struct fs))
    (hone : oneCellFields P fs = true) (hC : P.cellsOf e = fs.size) (h : DataW.trod enc P w base spare held fuel t cs = some x) :
    (cs = [.slice none 0 0] ∧ x = (.nil, [])) ∨
    ∃ (a : Addr) (len cap m : Nat) (D : Nat → DataW H) (Pl : Nat → List MemPlace), cs = [.slice (some a) len cap] ∧ base ≤ a.block ∧ len ≤ cap ∧ cap ≤ maxLen ∧ m = (if spare a.block then cap else len) ∧
      x = (.slice ((List.range len).map D) ((List.range (m - len)).map fun j => D (len + j)), MemPlace.row a (m * fs.size) ++ (List.range m).flatMap Pl) ∧
      ∀ i, i < m → ∃ (ys : List (DataW H × List MemPlace)) (n : Nat), D i = .agg (ys.map (·.1)) ∧ Pl i = ys.flatMap (·.2) ∧ ys.length = fs.size ∧
        ∀ (j : Nat) (f : Field), fs[j]? = some f → ∃ (v : Value) (y : DataW H × List MemPlace), w.cell? (a.add (i * fs.size + j)) = some v ∧ ys[j]? = some y ∧ DataW.trod enc P w base spare held n f.type [v] = some y := by
  rcases open_slice ht h with h0 | ⟨a, len, cap, m, n, D, Pl, hcs, hb, hl, hm, hmm, hx, hi⟩
  · exact .inl h0
  · refine .inr ⟨a, len, cap, m, D, Pl, hcs, hb, hl, hm, hmm, by rw [hC] at hx; exact hx, fun i him => ?_⟩
    obtain ⟨cs', hc, ht'⟩ := hi i him
    rw [hC] at hc
    obtain ⟨ys, n', hn', hy, hlen, hyl, hf⟩ := DataW.trod_struct he ht'
    obtain ⟨_, hcl, hat⟩ := World.cells?_some hc
    simp only [Prod.mk.injEq] at hy
    refine ⟨ys, n', hy.1, hy.2, hyl, fun j f hj => ?_⟩
    obtain ⟨ho, hk⟩ := hone_of hone j f hj
    have hjl : j < fs.size := (Array.getElem?_eq_some_iff.1 hj).1
    have hcell := hat j hjl
    have hv : cs'[j]? = some (cs'[j]'(by omega)) := List.getElem?_eq_getElem (by omega)
    have h1 := hf j f hj
    rw [ho, hk] at h1
    have hone' : (cs'.drop j).take 1 = [cs'[j]'(by omega)] := by
      rw [List.drop_eq_getElem_cons (by omega)]
      rfl
    rw [hone'] at h1
    have hys : ys[j]? = some (ys[j]'(by omega)) := List.getElem?_eq_getElem (by omega)
    refine ⟨_, _, ?_, hys, h1.trans hys⟩
    rw [← Go.Deep.add_add, hcell, hv]
end

section
variable {H : Type} {enc : TypeId × Value → H} {P : Program} {w : World} {base : Nat} {spare : Nat → Bool} {held : Bool}
theorem open_agg5 {r : Reach} {b0 : Nat} {t : TypeId} {f0 f1 f2 f3 f4 : Field} {v : Value} {d : DataW H} {p : List MemPlace} (hs : P.underlying t = some (.struct #[f0, f1, f2, f3, f4])) (hone : oneCellFields P #[f0, f1, f2, f3, f4] = true) (hC : P.cellsOf t = 5)
    (hv : Value.okWide P w r b0 t v) (h : DataW.Trod enc P w base spare held t v d p) :
    ∃ (v0 v1 v2 v3 v4 : Value) (y0 y1 y2 y3 y4 : DataW H × List MemPlace) (n : Nat), v = .agg #[v0, v1, v2, v3, v4] ∧ d = .agg [y0.1, y1.1, y2.1, y3.1, y4.1] ∧ p = y0.2 ++ (y1.2 ++ (y2.2 ++ (y3.2 ++ y4.2))) ∧
      DataW.trod enc P w base spare held n f0.type [v0] = some y0 ∧ DataW.trod enc P w base spare held n f1.type [v1] = some y1 ∧ DataW.trod enc P w base spare held n f2.type [v2] = some y2 ∧ DataW.trod enc P w base spare held n f3.type [v3] = some y3 ∧ DataW.trod enc P w base spare held n f4.type [v4] = some y4 := by
  obtain ⟨cs, rfl, hsz⟩ := okWide_struct hs hv
  obtain ⟨l⟩ := cs
  match l, hsz.trans hC with
  | [c0, c1, c2, c3, c4], _ =>
    obtain ⟨fuel, hf⟩ := h
    obtain ⟨xs, n, _, hx, _, hlen, hg⟩ := DataW.trod_struct hs hf
    obtain ⟨o0, k0⟩ := hone_of hone 0 f0 rfl
    obtain ⟨o1, k1⟩ := hone_of hone 1 f1 rfl
    obtain ⟨o2, k2⟩ := hone_of hone 2 f2 rfl
    obtain ⟨o3, k3⟩ := hone_of hone 3 f3 rfl
    obtain ⟨o4, k4⟩ := hone_of hone 4 f4 rfl
    match xs, hlen with
    | [y0, y1, y2, y3, y4], _ =>
      simp only [Prod.mk.injEq] at hx
      exact ⟨c0, c1, c2, c3, c4, y0, y1, y2, y3, y4, n, rfl, by simpa using hx.1, by simpa using hx.2, by simpa [Value.cells, o0, k0] using hg 0 f0 rfl, by simpa [Value.cells, o1, k1] using hg 1 f1 rfl, by simpa [Value.cells, o2, k2] using hg 2 f2 rfl, by simpa [Value.cells, o3, k3] using hg 3 f3 rfl, by simpa [Value.cells, o4, k4] using hg 4 f4 rfl⟩

end

section
variable {H : Type} {enc : TypeId × Value → H} {P : Program} {w : World} {base : Nat} {spare : Nat → Bool} {held : Bool}
/-- A struct by value of one cell and a struct of three. -/
theorem open_agg13 {r : Reach} {b0 : Nat} {t : TypeId} {f0 f1 g0 g1 g2 : Field} {v : Value} {d : DataW H} {p : List MemPlace} (hs : P.underlying t = some (.struct #[f0, f1])) (hs2 : P.underlying f1.type = some (.struct #[g0, g1, g2]))
    (o0 : f0.offset = 0) (o1 : f1.offset = 1) (k0 : P.cellsOf f0.type = 1) (k1 : P.cellsOf f1.type = 3) (hone : oneCellFields P #[g0, g1, g2] = true) (hC : P.cellsOf t = 4)
    (hv : Value.okWide P w r b0 t v) (h : DataW.Trod enc P w base spare held t v d p) :
    ∃ (v0 v1 v2 v3 : Value) (y0 z1 z2 z3 : DataW H × List MemPlace) (n m : Nat), v = .agg #[v0, v1, v2, v3] ∧
      DataW.trod enc P w base spare held n f0.type [v0] = some y0 ∧ DataW.trod enc P w base spare held m g0.type [v1] = some z1 ∧ DataW.trod enc P w base spare held m g1.type [v2] = some z2 ∧ DataW.trod enc P w base spare held m g2.type [v3] = some z3 := by
  obtain ⟨cs, rfl, hsz⟩ := okWide_struct hs hv
  obtain ⟨l⟩ := cs
  match l, hsz.trans hC with
  | [c0, c1, c2, c3], _ =>
    obtain ⟨fuel, hf⟩ := h
    obtain ⟨xs, n, _, hx, _, hlen, hg⟩ := DataW.trod_struct hs hf
    match xs, hlen with
    | [y0, y1], _ =>
      have h0 := hg 0 f0 rfl
      have h1 := hg 1 f1 rfl
      rw [o0, k0] at h0
      rw [o1, k1] at h1
      have h1' : DataW.trod enc P w base spare held n f1.type [c1, c2, c3] = some y1 := by simpa [Value.cells] using h1
      obtain ⟨zs, m, _, hz, _, hlen2, hg2⟩ := DataW.trod_struct hs2 h1'
      obtain ⟨p0, q0⟩ := hone_of hone 0 g0 rfl
      obtain ⟨p1, q1⟩ := hone_of hone 1 g1 rfl
      obtain ⟨p2, q2⟩ := hone_of hone 2 g2 rfl
      match zs, hlen2 with
      | [z1, z2, z3], _ =>
        exact ⟨c0, c1, c2, c3, y0, z1, z2, z3, n, m, rfl, by simpa [Value.cells] using h0, by simpa [p0, q0] using hg2 0 g0 rfl, by simpa [p1, q1] using hg2 1 g1 rfl, by simpa [p2, q2] using hg2 2 g2 rfl⟩
end

theorem recs_of_cells {w : World} {x : Addr} {len : Nat} (h : ∀ i, i < len → ∃ k t : Int, w.cell? (x.add (i * 2)) = some (.int .i64 k) ∧ w.cell? (x.add (i * 2 + 1)) = some (.int .i64 t)) :
    ∃ rs : List (Int × Int), rs.length = len ∧ RecsAt w (some x) rs := by
  by_cases h0 : len = 0
  · subst h0; exact ⟨[], rfl, .inl rfl⟩
  · obtain ⟨b, off, spot⟩ := x
    obtain ⟨k0, t0, hc0, _⟩ := h 0 (by omega)
    have hs : spot = none := by simpa [Addr.add] using World.cell?_spot hc0
    subst hs
    have hlt := World.block_lt_of_cell? w _ hc0
    have hadd : ∀ j, (⟨b, off, none⟩ : Addr).add j = ⟨b, off + j, none⟩ := fun j => by unfold Addr.add; split <;> simp_all
    have key : ∀ n, n ≤ len → ∃ rs : List (Int × Int), rs.length = n ∧ ∀ j, j < n → w.cell? ⟨b, off + j * 2, none⟩ = some (.int .i64 (rs.getD j (0, 0)).1) ∧ w.cell? ⟨b, off + j * 2 + 1, none⟩ = some (.int .i64 (rs.getD j (0, 0)).2) := by
      intro n
      induction n with
      | zero => intro _; exact ⟨[], rfl, fun j hj => by omega⟩
      | succ n ih =>
        intro hn
        obtain ⟨rs, hl, hr⟩ := ih (by omega)
        obtain ⟨k, t, hk, ht⟩ := h n (by omega)
        rw [hadd] at hk ht
        refine ⟨rs ++ [(k, t)], by simp [hl], fun j hj => ?_⟩
        by_cases e : j = n
        · subst e
          have : (rs ++ [(k, t)]).getD j (0, 0) = (k, t) := by simp [List.getD, ← hl]
          rw [this]
          exact ⟨hk, by rw [Nat.add_assoc]; exact ht⟩
        · have : (rs ++ [(k, t)]).getD j (0, 0) = rs.getD j (0, 0) := by simp [List.getD, List.getElem?_append_left (show j < rs.length by omega)]
          rw [this]
          exact hr j (by omega)
    obtain ⟨rs, hl, hr⟩ := key len (Nat.le_refl _)
    exact ⟨rs, hl, .inr ⟨b, off, rfl, by simpa [Addr.add] using hlt, fun j hj => hr j (by omega)⟩⟩

theorem int_in {n : Int} (h : (Lit.int .i64 n).wf = true) : -9223372036854775808 ≤ n ∧ n ≤ 9223372036854775807 := by
  simp only [Lit.wf, Bool.and_eq_true, decide_eq_true_eq] at h
  have e1 : IntKind.i64.min = -9223372036854775808 := by decide
  have e2 : IntKind.i64.max = 9223372036854775807 := by decide
  rw [e1, e2] at h
  exact h

end Go.Proofs.Ytmolneojjcjooaa
