/- Several texts in one: lemmas and walks of the functions that the laws reach. -/
import Derived.Test.YtoebegdepnigbaaDoorY6
import Derived.Deep.RegionHeld3
import Derived.Test.YtoebegdepnigbaaDoorY3
import Derived.ProofKit
import Derived.OpenShut
import Derived.Deep.Slices
import Derived.Deep.Fields
import Derived.ChangeSame
import Derived.Lib.SmallJoins
import Derived.Test.YtoebegdepnigbaaDoorY2
import Derived.Lib.LaidTab
import Derived.Test.YtoebegdepnigbaaDoorRows
import Derived.LaidMore
import Derived.Stop.Joined
import Derived.MakeChecks

/- The law FnExactFormatConsole: its walk. -/
namespace Go.Proofs.YtoebegdepnigbaaDoor
open Go.RowKit
set_option linter.unusedVariables false

set_option maxRecDepth 100000 in
set_option maxHeartbeats 4000000 in
theorem lawFormatConsole_any (a : Option Addr) (c : Nat) (rs : List (Int × Int)) (d p : ByteArray) (n : Int) (w : World) (ht : Tab w) (hl : rs.length ≤ 9223372036854775807) (hd : d.size ≤ 9223372036854775807) (hp : p.size ≤ 9223372036854775807) (h : RecsAt w a rs) :
    Calls Tryd.prog 4 #[conV a rs.length c d p n] w fun e w' => e = .returned (.bool true) ∧ Below w.heap.size w w' := by
  have HB0 := Lib.hid (below_new w (.cells #[.slice a rs.length c, .string d, .string p, .int .i64 n] 36))
  have HL0 := Lib.hid (L4.mk' w (.slice a rs.length c) (.string d) (.string p) (.int .i64 n) 36)
  have HR0 := Lib.hid (h.below (Nat.le_refl _) HB0.out)
  have HT := Lib.hid ht
  clear h ht
  by_cases hl1 : (rs.length : Int) + d.size + p.size ≤ 1048576
  case neg =>
    have HS := Lib.hid (fun w => szConsole_no a c rs d p n 1048576 w hl hd hp (by omega) (by omega) (by omega))
    unfold conV at *
    go_enter Tryd.func4, Tryd.ntmps4
    go_wp2_with fail
    refine (HS.out _).mono ?_
    rintro e w1 ⟨rfl, hb⟩
    have HB1 := Lib.hid (HB0.out.trans (hb.mono HB0.out.size))
    clear hb
    go_wp2
    go_ret
    exact ⟨rfl, HB1.out⟩
  have HS := Lib.hid (fun w => szConsole_yes a c rs d p n 1048576 w (by omega) (by omega) hl1)
  have hpos : 0 ≤ (1048576 : Int) - rs.length - d.size - p.size := by omega
  have HTC := Lib.hid (fun w h => toConsole_any a c rs d p n w (by omega) h)
  have HG := Lib.hid (fun a w h => sFormatConsole_any a rs.length rs d p n w (by omega) (by omega) (by omega) h)
  have HI := Lib.hid (fun a w ht h => formatConsole_any a rs.length rs d p n w (by omega) (by omega) (by omega) ht h)
  have HE := Lib.hid (fun a a' w h h' => eqConsole_same a a' rs.length rs.length rs d p n w (by omega) h h')
  unfold FcEnd at HG HI
  generalize (okRecs rs && Tx.okLog (logOf d p n)) = ok at HG HI
  generalize ba (if ok = true then conT rs else []) = tx at HG HI
  have hbb : (ok != ok) = false := by simp
  have htt : (!(tx.toList == tx.toList)) = false := by simp
  unfold conV at *
  go_enter Tryd.func4, Tryd.ntmps4
  go_wp2_with fail
  refine (HS.out _).mono ?_
  rintro e w1 ⟨rfl, hb⟩
  have HB1 := Lib.hid (HB0.out.trans (hb.mono HB0.out.size))
  have HL1 := Lib.hid (HL0.out.next hb)
  have HR1 := Lib.hid (contents HR0.out hb)
  clear hb
  obtain ⟨u0, u1, u2, u3, _⟩ := HL1.out
  go_wp2_with fail
  refine (HTC.out _ HR1.out).mono ?_
  rintro e w2 ⟨gw, rfl, ho, hb⟩
  have HB2 := Lib.hid (HB1.out.trans (hb.mono HB1.out.size))
  have HL2 := Lib.hid (HL1.out.next hb)
  have HR2 := Lib.hid (contents HR1.out hb)
  have HW2 := Lib.hid (ownRecs ho)
  clear hb ho u0 u1 u2 u3
  go_wp2_with fail
  refine (HG.out _ _ HW2.out).mono ?_
  rintro e w3 ⟨rfl, hb⟩
  have HB3 := Lib.hid (HB2.out.trans (hb.mono HB2.out.size))
  have HL3 := Lib.hid (HL2.out.next hb)
  have HR3 := Lib.hid (contents HR2.out hb)
  clear hb
  obtain ⟨u0, u1, u2, u3, _⟩ := HL3.out
  go_wp2_with fail
  refine (HTC.out _ HR3.out).mono ?_
  rintro e w4 ⟨gx, rfl, ho, hb⟩
  have HB4 := Lib.hid (HB3.out.trans (hb.mono HB3.out.size))
  have HL4 := Lib.hid (HL3.out.next hb)
  have HR4 := Lib.hid (contents HR3.out hb)
  have HX4 := Lib.hid (ownRecs ho)
  clear hb ho u0 u1 u2 u3
  have HA4 := Lib.hid (below_new w4 (.cells #[.slice (some ⟨gx, 0, none⟩) rs.length rs.length, .string d, .string p, .int .i64 n] 41))
  have HL5 := L4.mk' w4 (.slice (some ⟨gx, 0, none⟩) rs.length rs.length) (.string d) (.string p) (.int .i64 n) 41
  have S5 := Lib.hid (Kd2.mk (HL4.out.next HA4.out) HL5 (HB4.out.trans (HA4.out.mono HB4.out.size)) (contents HR4.out HA4.out) (contents HX4.out HA4.out))
  clear HL5 HB4 HL4 HR4 HX4 HA4
  go_wp2_with fail
  refine (HI.out _ _ (HT.out.below S5.out.bel) S5.out.rg).mono ?_
  rintro e w6 ⟨rfl, hb⟩
  have S6 := Lib.hid (S5.out.next hb); clear hb
  go_wp2_with fail
  obtain ⟨KK, k0, kall, knext, kra, krg, kbel⟩ : ∃ KK : World → Prop, KK w6.drew ∧ (∀ w', KK w' → w'.cell? ⟨w.heap.size, 0, none⟩ = some (.slice a rs.length c) ∧ w'.cell? ⟨w.heap.size, 1, none⟩ = some (.string d) ∧ w'.cell? ⟨w.heap.size, 2, none⟩ = some (.string p) ∧ w'.cell? ⟨w.heap.size, 3, none⟩ = some (.int .i64 n) ∧ w'.cell? ⟨w4.heap.size, 0, none⟩ = some (.slice (some ⟨gx, 0, none⟩) rs.length rs.length) ∧ w'.cell? ⟨w4.heap.size, 1, none⟩ = some (.string d) ∧ w'.cell? ⟨w4.heap.size, 2, none⟩ = some (.string p) ∧ w'.cell? ⟨w4.heap.size, 3, none⟩ = some (.int .i64 n) ∧ KK w') ∧ (∀ w' w'', KK w' → Below w'.heap.size w' w'' → KK w'') ∧ (∀ w', KK w' → RecsAt w' a rs) ∧ (∀ w', KK w' → RecsAt w' (some ⟨gx, 0, none⟩) rs) ∧ (∀ w', KK w' → Below w.heap.size w w') :=
    ⟨_, S6.out.drew, fun _ h => h.all, fun _ _ h hb => h.next hb, fun _ h => h.ra, fun _ h => h.rg, fun _ h => h.bel⟩
  clear S5 S6
  have k1 := kall _ k0
  have hkall := Lib.hid kall; have hknext := Lib.hid knext; have hkra := Lib.hid kra; have hkrg := Lib.hid krg; have hkbel := Lib.hid kbel
  clear kall knext kra krg kbel k0
  go_region_held3 (fun w' => w'.cell? ⟨w.heap.size, 0, none⟩ = some (.slice a rs.length c) ∧ w'.cell? ⟨w.heap.size, 1, none⟩ = some (.string d) ∧ w'.cell? ⟨w.heap.size, 2, none⟩ = some (.string p) ∧ w'.cell? ⟨w.heap.size, 3, none⟩ = some (.int .i64 n) ∧ w'.cell? ⟨w4.heap.size, 0, none⟩ = some (.slice (some ⟨gx, 0, none⟩) rs.length rs.length) ∧ w'.cell? ⟨w4.heap.size, 1, none⟩ = some (.string d) ∧ w'.cell? ⟨w4.heap.size, 2, none⟩ = some (.string p) ∧ w'.cell? ⟨w4.heap.size, 3, none⟩ = some (.int .i64 n) ∧ KK w') (go_keep)
    (first | ((try go_split_ands); go_at_call 15; refine (HTC.out _ (hkra.out _ (by assumption))).mono ?_; rintro e w' ⟨gy, rfl, ho, hb⟩; have HY := Lib.hid (ownRecs ho); have hk := hknext.out _ _ (by assumption) hb; have hS := hkall.out _ hk; clear ho hb) | ((try go_split_ands); go_at_call 17; refine (HE.out _ _ _ (hkrg.out _ (by assumption)) HY.out).mono ?_; rintro e w'' ⟨rfl, hb⟩; have hk := hknext.out _ _ (by assumption) hb; have hS := hkall.out _ hk; clear hb))
  have HF := Lib.hid (hkbel.out _ hk)
  clear hk hS
  go_wp2
  go_ret
  exact ⟨rfl, HF.out⟩

end Go.Proofs.YtoebegdepnigbaaDoor

/- General: what comes in as a list of structs, read as cells. -/
namespace Go.Proofs.YtoebegdepnigbaaDoor
open Go.ChangeShapes Go.WideShapes Go.Deep Go.RowKit Go.Joins
set_option linter.unusedVariables false

section
variable {H : Type} {enc : TypeId × Value → H} {P : Program} {w : World} {base : Nat} {spare : Nat → Bool} {held : Bool}
theorem open_slice_fields {t e : TypeId} {fs : Array Field} {fuel : Nat} {cs : List Value} {x : DataW H × List MemPlace} (ht : P.underlying t = some (.slice e)) (he : P.underlying e = some (.struct fs))
    (hone : oneCellFields P fs = true) (hC : P.cellsOf e = fs.size) (h : DataW.trod enc P w base spare held fuel t cs = some x) :
    (cs = [.slice none 0 0] ∧ x = (.nil, [])) ∨
    ∃ (a : Addr) (len cap m : Nat) (D : Nat → DataW H) (Pl : Nat → List MemPlace), cs = [.slice (some a) len cap] ∧ base ≤ a.block ∧ len ≤ cap ∧ cap ≤ maxLen ∧ m = (if spare a.block then cap else len) ∧
      x = (.slice ((List.range len).map D) ((List.range (m - len)).map fun j => D (len + j)), MemPlace.row a (m * fs.size) ++ (List.range m).flatMap Pl) ∧
      ∀ i, i < m → ∃ (ys : List (DataW H × List MemPlace)) (n : Nat), D i = .agg (ys.map (·.1)) ∧ Pl i = ys.flatMap (·.2) ∧ ys.length = fs.size ∧
        ∀ (j : Nat) (f : Field), fs[j]? = some f → ∃ (v : Value) (y : DataW H × List MemPlace), w.cell? (a.add (i * fs.size + j)) = some v ∧ ys[j]? = some y ∧ DataW.trod enc P w base spare held n f.type [v] = some y := by
  rcases open_slice ht h with h0 | ⟨a, len, cap, m, n, D, Pl, hcs, hb, hl, hm, hmm, hx, hi⟩
  · exact .inl h0
  · refine .inr ⟨a, len, cap, m, D, Pl, hcs, hb, hl, hm, hmm, by rw [hC] at hx; exact hx, fun i him => ?_⟩
    obtain ⟨cs', hc, ht'⟩ := hi i him
    rw [hC] at hc
    obtain ⟨ys, n', hn', hy, hlen, hyl, hf⟩ := DataW.trod_struct he ht'
    obtain ⟨_, hcl, hat⟩ := World.cells?_some hc
    simp only [Prod.mk.injEq] at hy
    refine ⟨ys, n', hy.1, hy.2, hyl, fun j f hj => ?_⟩
    obtain ⟨ho, hk⟩ := hone_of hone j f hj
    have hjl : j < fs.size := (Array.getElem?_eq_some_iff.1 hj).1
    have hcell := hat j hjl
    have hv : cs'[j]? = some (cs'[j]'(by omega)) := List.getElem?_eq_getElem (by omega)
    have h1 := hf j f hj
    rw [ho, hk] at h1
    have hone' : (cs'.drop j).take 1 = [cs'[j]'(by omega)] := by
      rw [List.drop_eq_getElem_cons (by omega)]
      rfl
    rw [hone'] at h1
    have hys : ys[j]? = some (ys[j]'(by omega)) := List.getElem?_eq_getElem (by omega)
    refine ⟨_, _, ?_, hys, h1.trans hys⟩
    rw [← Go.Deep.add_add, hcell, hv]
end

section
variable {H : Type} {enc : TypeId × Value → H} {P : Program} {w : World} {base : Nat} {spare : Nat → Bool} {held : Bool}
theorem open_agg5 {r : Reach} {b0 : Nat} {t : TypeId} {f0 f1 f2 f3 f4 : Field} {v : Value} {d : DataW H} {p : List MemPlace} (hs : P.underlying t = some (.struct #[f0, f1, f2, f3, f4])) (hone : oneCellFields P #[f0, f1, f2, f3, f4] = true) (hC : P.cellsOf t = 5)
    (hv : Value.okWide P w r b0 t v) (h : DataW.Trod enc P w base spare held t v d p) :
    ∃ (v0 v1 v2 v3 v4 : Value) (y0 y1 y2 y3 y4 : DataW H × List MemPlace) (n : Nat), v = .agg #[v0, v1, v2, v3, v4] ∧ d = .agg [y0.1, y1.1, y2.1, y3.1, y4.1] ∧ p = y0.2 ++ (y1.2 ++ (y2.2 ++ (y3.2 ++ y4.2))) ∧
      DataW.trod enc P w base spare held n f0.type [v0] = some y0 ∧ DataW.trod enc P w base spare held n f1.type [v1] = some y1 ∧ DataW.trod enc P w base spare held n f2.type [v2] = some y2 ∧ DataW.trod enc P w base spare held n f3.type [v3] = some y3 ∧ DataW.trod enc P w base spare held n f4.type [v4] = some y4 := by
  obtain ⟨cs, rfl, hsz⟩ := okWide_struct hs hv
  obtain ⟨l⟩ := cs
  match l, hsz.trans hC with
  | [c0, c1, c2, c3, c4], _ =>
    obtain ⟨fuel, hf⟩ := h
    obtain ⟨xs, n, _, hx, _, hlen, hg⟩ := DataW.trod_struct hs hf
    obtain ⟨o0, k0⟩ := hone_of hone 0 f0 rfl
    obtain ⟨o1, k1⟩ := hone_of hone 1 f1 rfl
    obtain ⟨o2, k2⟩ := hone_of hone 2 f2 rfl
    obtain ⟨o3, k3⟩ := hone_of hone 3 f3 rfl
    obtain ⟨o4, k4⟩ := hone_of hone 4 f4 rfl
    match xs, hlen with
    | [y0, y1, y2, y3, y4], _ =>
      simp only [Prod.mk.injEq] at hx
      exact ⟨c0, c1, c2, c3, c4, y0, y1, y2, y3, y4, n, rfl, by simpa using hx.1, by simpa using hx.2, by simpa [Value.cells, o0, k0] using hg 0 f0 rfl, by simpa [Value.cells, o1, k1] using hg 1 f1 rfl, by simpa [Value.cells, o2, k2] using hg 2 f2 rfl, by simpa [Value.cells, o3, k3] using hg 3 f3 rfl, by simpa [Value.cells, o4, k4] using hg 4 f4 rfl⟩

end

section
variable {H : Type} {enc : TypeId × Value → H} {P : Program} {w : World} {base : Nat} {spare : Nat → Bool} {held : Bool}
/-- A struct by value of one cell and a struct of three. -/
theorem open_agg13 {r : Reach} {b0 : Nat} {t : TypeId} {f0 f1 g0 g1 g2 : Field} {v : Value} {d : DataW H} {p : List MemPlace} (hs : P.underlying t = some (.struct #[f0, f1])) (hs2 : P.underlying f1.type = some (.struct #[g0, g1, g2]))
    (o0 : f0.offset = 0) (o1 : f1.offset = 1) (k0 : P.cellsOf f0.type = 1) (k1 : P.cellsOf f1.type = 3) (hone : oneCellFields P #[g0, g1, g2] = true) (hC : P.cellsOf t = 4)
    (hv : Value.okWide P w r b0 t v) (h : DataW.Trod enc P w base spare held t v d p) :
    ∃ (v0 v1 v2 v3 : Value) (y0 z1 z2 z3 : DataW H × List MemPlace) (n m : Nat), v = .agg #[v0, v1, v2, v3] ∧
      DataW.trod enc P w base spare held n f0.type [v0] = some y0 ∧ DataW.trod enc P w base spare held m g0.type [v1] = some z1 ∧ DataW.trod enc P w base spare held m g1.type [v2] = some z2 ∧ DataW.trod enc P w base spare held m g2.type [v3] = some z3 := by
  obtain ⟨cs, rfl, hsz⟩ := okWide_struct hs hv
  obtain ⟨l⟩ := cs
  match l, hsz.trans hC with
  | [c0, c1, c2, c3], _ =>
    obtain ⟨fuel, hf⟩ := h
    obtain ⟨xs, n, _, hx, _, hlen, hg⟩ := DataW.trod_struct hs hf
    match xs, hlen with
    | [y0, y1], _ =>
      have h0 := hg 0 f0 rfl
      have h1 := hg 1 f1 rfl
      rw [o0, k0] at h0
      rw [o1, k1] at h1
      have h1' : DataW.trod enc P w base spare held n f1.type [c1, c2, c3] = some y1 := by simpa [Value.cells] using h1
      obtain ⟨zs, m, _, hz, _, hlen2, hg2⟩ := DataW.trod_struct hs2 h1'
      obtain ⟨p0, q0⟩ := hone_of hone 0 g0 rfl
      obtain ⟨p1, q1⟩ := hone_of hone 1 g1 rfl
      obtain ⟨p2, q2⟩ := hone_of hone 2 g2 rfl
      match zs, hlen2 with
      | [z1, z2, z3], _ =>
        exact ⟨c0, c1, c2, c3, y0, z1, z2, z3, n, m, rfl, by simpa [Value.cells] using h0, by simpa [p0, q0] using hg2 0 g0 rfl, by simpa [p1, q1] using hg2 1 g1 rfl, by simpa [p2, q2] using hg2 2 g2 rfl⟩
end

theorem recs_of_cells {w : World} {x : Addr} {len : Nat} (h : ∀ i, i < len → ∃ k t : Int, w.cell? (x.add (i * 2)) = some (.int .i64 k) ∧ w.cell? (x.add (i * 2 + 1)) = some (.int .i64 t)) :
    ∃ rs : List (Int × Int), rs.length = len ∧ RecsAt w (some x) rs := by
  by_cases h0 : len = 0
  · subst h0; exact ⟨[], rfl, .inl rfl⟩
  · obtain ⟨b, off, spot⟩ := x
    obtain ⟨k0, t0, hc0, _⟩ := h 0 (by omega)
    have hs : spot = none := by simpa [Addr.add] using World.cell?_spot hc0
    subst hs
    have hlt := World.block_lt_of_cell? w _ hc0
    have hadd : ∀ j, (⟨b, off, none⟩ : Addr).add j = ⟨b, off + j, none⟩ := fun j => by unfold Addr.add; split <;> simp_all
    have key : ∀ n, n ≤ len → ∃ rs : List (Int × Int), rs.length = n ∧ ∀ j, j < n → w.cell? ⟨b, off + j * 2, none⟩ = some (.int .i64 (rs.getD j (0, 0)).1) ∧ w.cell? ⟨b, off + j * 2 + 1, none⟩ = some (.int .i64 (rs.getD j (0, 0)).2) := by
      intro n
      induction n with
      | zero => intro _; exact ⟨[], rfl, fun j hj => by omega⟩
      | succ n ih =>
        intro hn
        obtain ⟨rs, hl, hr⟩ := ih (by omega)
        obtain ⟨k, t, hk, ht⟩ := h n (by omega)
        rw [hadd] at hk ht
        refine ⟨rs ++ [(k, t)], by simp [hl], fun j hj => ?_⟩
        by_cases e : j = n
        · subst e
          have : (rs ++ [(k, t)]).getD j (0, 0) = (k, t) := by simp [List.getD, ← hl]
          rw [this]
          exact ⟨hk, by rw [Nat.add_assoc]; exact ht⟩
        · have : (rs ++ [(k, t)]).getD j (0, 0) = rs.getD j (0, 0) := by simp [List.getD, List.getElem?_append_left (show j < rs.length by omega)]
          rw [this]
          exact hr j (by omega)
    obtain ⟨rs, hl, hr⟩ := key len (Nat.le_refl _)
    exact ⟨rs, hl, .inr ⟨b, off, rfl, by simpa [Addr.add] using hlt, fun j hj => hr j (by omega)⟩⟩

theorem int_in {n : Int} (h : (Lit.int .i64 n).wf = true) : -9223372036854775808 ≤ n ∧ n ≤ 9223372036854775807 := by
  simp only [Lit.wf, Bool.and_eq_true, decide_eq_true_eq] at h
  have e1 : IntKind.i64.min = -9223372036854775808 := by decide
  have e2 : IntKind.i64.max = 9223372036854775807 := by decide
  rw [e1, e2] at h
  exact h

end Go.Proofs.YtoebegdepnigbaaDoor

/- From the row's condition to the table's fact. -/
namespace Go.Proofs.YtoebegdepnigbaaDoor
open Go.RowKit
set_option linter.unusedVariables false

theorem tabIs_of_vars {P : Program} {W : World} {name : String} {k : IntKind} {zs : List Int} {rest : List (String × DataW Unit)} {ps : List MemPlace} {g : Nat} {t e : TypeId} {n : Nat}
    (hg : P.globalNamed name = some g) (hty : (P.globals[g]?).map (·.type) = some t) (ht : P.underlying t = some (.array n e)) (he : P.underlying e = some (.int k)) (hce : P.cellsOf e = 1) (hct : P.cellsOf t = n)
    (h : DataW.LaidVars P W ((name, Lib.tabData k zs) :: rest) ps) : Lib.TabIs P W name k zs := by
  obtain ⟨g', t', cs, fuel, p, q, hg', ht', hvar, hd, _, _⟩ := h
  obtain rfl := Option.some.inj (hg.symm.trans hg')
  obtain rfl := Option.some.inj (hty.symm.trans ht')
  unfold Lib.TabIs
  rw [hvar, ← Lib.cells_of_tab ht he hce hct hd]

theorem laidVars_tail {P : Program} {W : World} {x : String × DataW Unit} {l : List (String × DataW Unit)} {ps : List MemPlace} (h : DataW.LaidVars P W (x :: l) ps) : ∃ q, DataW.LaidVars P W l q := by
  obtain ⟨g', t', cs, fuel, p, q, hg', ht', hvar, hd, hr, _⟩ := h
  exact ⟨q, hr⟩

theorem pow_datum : (Rows.laid_internal_strconv_uint64pow10 : DataW Unit) = Lib.tabData .u64 Lib.pow10Tab := by kernel_rfl

theorem tab_of_laid {W : World} {a b : String × DataW Unit} (h : laidMet Tryd.prog [a, b, ("internal/strconv.uint64pow10", Rows.laid_internal_strconv_uint64pow10)] W) : Tab W := by
  obtain ⟨ps, h, _⟩ := h
  obtain ⟨q, h⟩ := laidVars_tail h
  obtain ⟨q, h⟩ := laidVars_tail h
  rw [pow_datum] at h
  have hg : Tryd.prog.globalNamed "internal/strconv.uint64pow10" = some 1 := by kernel_rfl
  have hty : (Tryd.prog.globals[1]?).map (·.type) = some 132 := by kernel_rfl
  exact tabIs_of_vars hg hty Tryd.underlying132 Tryd.underlying106 (by kernel_rfl) (by kernel_rfl) h

end Go.Proofs.YtoebegdepnigbaaDoor

/- The package-level tables that the rows list, as the program's start lays them: the condition can be met, and what it gives. -/
namespace Go.Proofs.YtoebegdepnigbaaDoor
open Go.RowKit
def lst : List (String × DataW Unit) := [("math/bits.deBruijn32tab", Rows.laid_math_bits_deBruijn32tab), ("math/bits.deBruijn64tab", Rows.laid_math_bits_deBruijn64tab), ("internal/strconv.uint64pow10", Rows.laid_internal_strconv_uint64pow10)]
theorem own : ownKnob Tryd.prog.godebug = none := by kernel_rfl
theorem laidOut : laidOutB Tryd.prog = true := by kernel_rfl

theorem door_met (os : Os) (args : Array Value) : laidMetH Tryd.prog lst ((World.doorLaid Tryd.prog 400 os).forCall (fun _ _ => 0) ⟨#[], args, []⟩).memory :=
  laidMetH_of_parts3 (fuel := 8) (laidMet_of_run' 8 (by kernel_rfl) (by kernel_rfl)) (by kernel_rfl) (by kernel_rfl)
theorem of_laid {W : World} (h : laidMetH Tryd.prog lst W) : Tab W := by
  rw [MakeChecks.laidMetH_plain _ _ _ (by kernel_rfl)] at h
  exact tab_of_laid h

theorem door_shaped (os : Os) (args : Array Value) : ((World.doorLaid Tryd.prog 400 os).forCall (fun _ _ => 0) ⟨#[], args, []⟩).Shaped Tryd.prog := World.shaped_of_RefB (by kernel_rfl) (by kernel_rfl)
end Go.Proofs.YtoebegdepnigbaaDoor
