/- Several texts in one: lemmas and walks of the functions that the laws reach. -/
import Derived.Test.YtmolneojjcjooaaY1
import Derived.Test.YtmolneojjcjooaaY0
import Derived.Below

/- Walks: rows of nodes of decision trees, measured and compared. -/
namespace Go.Proofs.Ytmolneojjcjooaa
open Go.RowKit
set_option linter.unusedVariables false

set_option maxHeartbeats 400000 in
theorem szDecisionNodeS_any (a : Option Addr) (c : Nat) (ns : List Dt.Nd) (l : Int) (w : World) (hbig : ns.length ≤ 9223372036854775807) (h0 : 0 ≤ l) (h1 : l ≤ 1048576) (h : NodesAt w a ns) :
    Calls Try.prog 11 #[.slice a ns.length c, .int .i64 l] w fun e w' => ∃ r : Int, e = .returned (.int .i64 r) ∧ -1 ≤ r ∧ r ≤ l ∧ (0 ≤ r → ns.length ≤ 1048576 ∧ ∀ j, j < ns.length → (ns.getD j Dt.nd0).o.length ≤ 1048576) ∧ Below w.heap.size w w' := by
  have H := Lib.hid h; clear h
  by_cases hl : (ns.length : Int) ≤ l
  case neg =>
    go_enter Try.func11, Try.ntmps11
    go_wp2
    go_ret
    exact ⟨-1, rfl, by omega, by omega, by omega, Below.refl _ _⟩
  go_enter Try.func11, Try.ntmps11
  go_wp2
  go_loopw [1, 5] (fun q i wr => ∃ (k : Nat) (r : Int), k ≤ ns.length ∧ i = .int .i64 k ∧ q = .int .i64 r ∧ 0 ≤ r ∧ r ≤ l ∧ (∀ j, j < k → (ns.getD j Dt.nd0).o.length ≤ 1048576) ∧ Below w.heap.size w wr) (fun _ i _ => ns.length - (intOf i).toNat)
  case atStart => exact ⟨0, l - ns.length, by omega, rfl, rfl, by omega, by omega, by intro j h; omega, Below.refl _ _⟩
  case round =>
    obtain ⟨k, r, hk, rfl, rfl, hr0, hr1, hall, hb⟩ := hrel
    have HA := Lib.hid hall; clear hall
    have HB := Lib.hid hb; clear hb
    by_cases hlt : k < ns.length
    · obtain ⟨b, off, rfl, hn⟩ := (H.out.same HB.out).at hlt
      have HN := Lib.hid hn
      obtain ⟨c0, c1, c2, c3, ⟨x, cx, c4, hi, _⟩, hbg⟩ := hn
      have HI := Lib.hid hi; clear hi
      generalize hd : ns.getD k Dt.nd0 = d at c0 c1 c2 c3 c4 HI hbg HN
      have HD := Lib.hid hd; clear hd
      obtain ⟨d1, d2, d3, d4, o⟩ := d
      simp only [Dt.Nd.a, Dt.Nd.b, Dt.Nd.l, Dt.Nd.g, Dt.Nd.o] at c0 c1 c2 c3 c4 hbg
      go_wp2_with fail
      refine (szDecisionNode_any d1 d2 d3 d4 x cx o.length r _ hbg (by omega) (by omega)).mono ?_
      rintro e w2 ⟨rfl, hb2⟩
      have HB2 := Lib.hid (HB.out.trans (hb2.mono HB.out.size))
      clear hb2
      by_cases ho : (o.length : Int) ≤ r
      · rw [if_pos ho]
        go_wp2
        go_roundw
        case rel =>
          refine ⟨k + 1, r - o.length, by omega, by go_num, rfl, by omega, by omega, fun j hj => ?_, HB2.out⟩
          rcases Nat.lt_succ_iff_lt_or_eq.1 hj with h | rfl
          · exact HA.out j h
          · rw [HD.out]; show o.length ≤ 1048576; omega
        case measure => simp [intOf]; omega
      · rw [if_neg ho]
        go_wp2
        go_ret
        exact ⟨-1, rfl, by omega, by omega, by omega, HB2.out⟩
    · go_wp2
      go_ret
      exact ⟨r, rfl, by omega, by omega, fun _ => ⟨by omega, fun j hj => HA.out j (by omega)⟩, HB.out⟩

set_option maxHeartbeats 400000 in
theorem eqDecisionNode_any (d1 d2 d3 d4 : Int) (a : Option Addr) (c : Nat) (o : List Int) (e1 e2 e3 e4 : Int) (a' : Option Addr) (c' : Nat) (o' : List Int) (w : World) (hl : o.length ≤ 9223372036854775807) (hl' : o'.length ≤ 9223372036854775807) (h : IntsAt w a o) (h' : IntsAt w a' o') :
    Calls Try.prog 65 #[.agg #[.int .i64 d1, .int .i64 d2, .int .i64 d3, .int .i64 d4, .slice a o.length c], .agg #[.int .i64 e1, .int .i64 e2, .int .i64 e3, .int .i64 e4, .slice a' o'.length c']] w fun e w' => e = .returned (.bool (decide (((d1, d2, d3, d4, o) : Dt.Nd) = (e1, e2, e3, e4, o')))) ∧ Below w.heap.size w w' := by
  have H := Lib.hid h; clear h
  have H' := Lib.hid h'; clear h'
  by_cases h1 : d1 = e1
  case neg =>
    have hd : decide (((d1, d2, d3, d4, o) : Dt.Nd) = (e1, e2, e3, e4, o')) = false := decide_eq_false (fun e => h1 (by injection e))
    have HD := Lib.hid hd; clear hd
    have hne : (d1 != e1) = true := by simpa using h1
    go_enter Try.func65, Try.ntmps65
    go_wp2
    go_ret
    refine ⟨ret_bool HD.out.symm, ?_⟩
    (repeat (first | exact Below.refl _ _ | assumption | refine Below.setCell ?_ (by first | omega | (simp; done) | (simp; omega)) _ | refine Below.alloc ?_ (by first | omega | (simp; done) | (simp; omega)) _ | refine Below.drew ?_ | refine below_drewN ?_ _))
  subst h1
  have q1 : (d1 != d1) = false := by simp
  by_cases h2 : d2 = e2
  case neg =>
    have hd : decide (((d1, d2, d3, d4, o) : Dt.Nd) = (d1, e2, e3, e4, o')) = false := decide_eq_false (fun e => h2 (by injection e with e a; injection a))
    have HD := Lib.hid hd; clear hd
    have hne : (d2 != e2) = true := by simpa using h2
    go_enter Try.func65, Try.ntmps65
    go_wp2
    go_ret
    refine ⟨ret_bool HD.out.symm, ?_⟩
    (repeat (first | exact Below.refl _ _ | assumption | refine Below.setCell ?_ (by first | omega | (simp; done) | (simp; omega)) _ | refine Below.alloc ?_ (by first | omega | (simp; done) | (simp; omega)) _ | refine Below.drew ?_ | refine below_drewN ?_ _))
  subst h2
  have q2 : (d2 != d2) = false := by simp
  by_cases h3 : d3 = e3
  case neg =>
    have hd : decide (((d1, d2, d3, d4, o) : Dt.Nd) = (d1, d2, e3, e4, o')) = false := decide_eq_false (fun e => h3 (by injection e with e a; injection a with a b; injection b))
    have HD := Lib.hid hd; clear hd
    have hne : (d3 != e3) = true := by simpa using h3
    go_enter Try.func65, Try.ntmps65
    go_wp2
    go_ret
    refine ⟨ret_bool HD.out.symm, ?_⟩
    (repeat (first | exact Below.refl _ _ | assumption | refine Below.setCell ?_ (by first | omega | (simp; done) | (simp; omega)) _ | refine Below.alloc ?_ (by first | omega | (simp; done) | (simp; omega)) _ | refine Below.drew ?_ | refine below_drewN ?_ _))
  subst h3
  have q3 : (d3 != d3) = false := by simp
  by_cases h4 : d4 = e4
  case neg =>
    have hd : decide (((d1, d2, d3, d4, o) : Dt.Nd) = (d1, d2, d3, e4, o')) = false := decide_eq_false (fun e => h4 (by injection e with e a; injection a with a b; injection b with b c; injection c))
    have HD := Lib.hid hd; clear hd
    have hne : (d4 != e4) = true := by simpa using h4
    go_enter Try.func65, Try.ntmps65
    go_wp2
    go_ret
    refine ⟨ret_bool HD.out.symm, ?_⟩
    (repeat (first | exact Below.refl _ _ | assumption | refine Below.setCell ?_ (by first | omega | (simp; done) | (simp; omega)) _ | refine Below.alloc ?_ (by first | omega | (simp; done) | (simp; omega)) _ | refine Below.drew ?_ | refine below_drewN ?_ _))
  subst h4
  have q4 : (d4 != d4) = false := by simp
  have hd : decide (((d1, d2, d3, d4, o) : Dt.Nd) = (d1, d2, d3, d4, o')) = decide (o = o') := by simp
  rw [hd]; clear hd
  go_enter Try.func65, Try.ntmps65
  go_wp2_with fail
  refine (eqIntS_any a a' c c' o o' _ hl hl' (H.out.below (Nat.le_refl _) (by (repeat (first | exact Below.refl _ _ | assumption | refine Below.setCell ?_ (by first | omega | (simp; done) | (simp; omega)) _ | refine Below.alloc ?_ (by first | omega | (simp; done) | (simp; omega)) _ | refine Below.drew ?_ | refine below_drewN ?_ _)))) (H'.out.below (Nat.le_refl _) (by (repeat (first | exact Below.refl _ _ | assumption | refine Below.setCell ?_ (by first | omega | (simp; done) | (simp; omega)) _ | refine Below.alloc ?_ (by first | omega | (simp; done) | (simp; omega)) _ | refine Below.drew ?_ | refine below_drewN ?_ _))))).mono ?_
  rintro e w2 ⟨rfl, hb2⟩
  have HB2 := Lib.hid (show Below w.heap.size w w2 from Below.trans (by (repeat (first | exact Below.refl _ _ | assumption | refine Below.setCell ?_ (by first | omega | (simp; done) | (simp; omega)) _ | refine Below.alloc ?_ (by first | omega | (simp; done) | (simp; omega)) _ | refine Below.drew ?_ | refine below_drewN ?_ _))) (hb2.mono (by simp; try omega)))
  clear hb2
  by_cases ho : o = o'
  · have hd : decide (o = o') = true := decide_eq_true ho
    rw [hd]
    have HO := Lib.hid ho; clear hd ho
    go_wp2
    go_ret
    exact ⟨ret_bool (decide_eq_true HO.out).symm, HB2.out⟩
  · have hd : decide (o = o') = false := decide_eq_false ho
    rw [hd]
    have HO := Lib.hid ho; clear hd ho
    go_wp2
    go_ret
    exact ⟨ret_bool (decide_eq_false HO.out).symm, HB2.out⟩

set_option maxRecDepth 100000 in
set_option maxHeartbeats 800000 in
theorem eqDecisionNodeS_any (a a' : Option Addr) (cap cap' : Nat) (zs ys : List Dt.Nd) (w : World) (hlen : zs.length ≤ 9223372036854775807) (hlen' : ys.length ≤ 9223372036854775807) (h : NodesAt w a zs) (h' : NodesAt w a' ys) :
    Calls Try.prog 15 #[.slice a zs.length cap, .slice a' ys.length cap'] w fun e w' => e = .returned (.bool (decide (zs = ys))) ∧ Below w.heap.size w w' := by
  have H := Lib.hid h; clear h
  have H' := Lib.hid h'; clear h'
  by_cases hl : zs.length = ys.length
  · have HL := Lib.hid hl
    have hne : ((zs.length : Int) != (ys.length : Int)) = false := by rw [hl]; simp
    clear hl
    go_enter Try.func15, Try.ntmps15
    go_wp2
    go_loopw [5] (fun i wr => ∃ k : Nat, k ≤ zs.length ∧ i = .int .i64 k ∧ (∀ j, j < k → zs.getD j Dt.nd0 = ys.getD j Dt.nd0) ∧ Below w.heap.size w wr) (fun i _ => zs.length - (intOf i).toNat)
    case atStart => exact ⟨0, by omega, rfl, by intro j h; omega, Below.refl _ _⟩
    case round =>
      obtain ⟨k, hk, rfl, hall, hb⟩ := hrel
      have HA := Lib.hid hall; clear hall
      have HB := Lib.hid hb; clear hb
      by_cases hlt : k < zs.length
      · obtain ⟨b, off, rfl, hn⟩ := (H.out.same HB.out).at hlt
        have hlt' : k < ys.length := by rw [← HL.out]; exact hlt
        obtain ⟨b', off', rfl, hn'⟩ := (H'.out.same HB.out).at hlt'
        obtain ⟨c0, c1, c2, c3, ⟨x, cx, c4, hi, _⟩, hbg⟩ := hn
        obtain ⟨c0', c1', c2', c3', ⟨x', cx', c4', hi', _⟩, hbg'⟩ := hn'
        have HI := Lib.hid hi; clear hi
        have HI' := Lib.hid hi'; clear hi'
        generalize hx : zs.getD k Dt.nd0 = d at c0 c1 c2 c3 c4 HI hbg
        generalize hy : ys.getD k Dt.nd0 = d' at c0' c1' c2' c3' c4' HI' hbg'
        have HX := Lib.hid hx; clear hx
        have HY := Lib.hid hy; clear hy
        obtain ⟨d1, d2, d3, d4, o⟩ := d
        obtain ⟨e1, e2, e3, e4, o'⟩ := d'
        simp only [Dt.Nd.a, Dt.Nd.b, Dt.Nd.l, Dt.Nd.g, Dt.Nd.o] at c0 c1 c2 c3 c4 hbg c0' c1' c2' c3' c4' hbg'
        go_wp2_with fail
        go_still_tail 8, (by kernel_rfl)
        go_wp2_with fail
        refine (eqDecisionNode_any d1 d2 d3 d4 x cx o e1 e2 e3 e4 x' cx' o' _ hbg hbg' (HI.out.below (Nat.le_refl _) (by (repeat (first | exact Below.refl _ _ | assumption | refine Below.setCell ?_ (by first | omega | (simp; done) | (simp; omega)) _ | refine Below.alloc ?_ (by first | omega | (simp; done) | (simp; omega)) _ | refine Below.drew ?_ | refine below_drewN ?_ _)))) (HI'.out.below (Nat.le_refl _) (by (repeat (first | exact Below.refl _ _ | assumption | refine Below.setCell ?_ (by first | omega | (simp; done) | (simp; omega)) _ | refine Below.alloc ?_ (by first | omega | (simp; done) | (simp; omega)) _ | refine Below.drew ?_ | refine below_drewN ?_ _))))).mono ?_
        rintro e w2 ⟨rfl, hb2⟩
        have HB2 := Lib.hid (HB.out.trans ((Below.refl _ _).drew.trans (hb2.mono HB.out.size)))
        clear hb2
        by_cases hxy : ((d1, d2, d3, d4, o) : Dt.Nd) = (e1, e2, e3, e4, o')
        · have hd : decide (((d1, d2, d3, d4, o) : Dt.Nd) = (e1, e2, e3, e4, o')) = true := decide_eq_true hxy
          rw [hd]
          have HQ := Lib.hid hxy; clear hxy hd
          go_wp2
          go_roundw
          case rel =>
            refine ⟨k + 1, by omega, by go_num, fun j hj => ?_, HB2.out⟩
            rcases Nat.lt_succ_iff_lt_or_eq.1 hj with h | rfl
            · exact HA.out j h
            · rw [HX.out, HY.out, HQ.out]
          case measure => simp [intOf]; omega
        · have hd : decide (((d1, d2, d3, d4, o) : Dt.Nd) = (e1, e2, e3, e4, o')) = false := decide_eq_false hxy
          rw [hd]
          have HQ := Lib.hid hxy; clear hxy hd
          go_wp2
          go_ret
          refine ⟨ret_bool ?_, HB2.out⟩
          symm; apply decide_eq_false
          intro e
          exact HQ.out (by rw [← HX.out, ← HY.out, e])
      · go_wp2
        go_ret
        refine ⟨ret_bool ?_, HB.out⟩
        symm; apply decide_eq_true
        apply List.ext_getElem HL.out
        intro j h1 h2
        have := HA.out j (by omega)
        simpa [List.getD, h1, h2] using this
  · have hne : ((zs.length : Int) != (ys.length : Int)) = true := by simpa using (by omega : ¬ (zs.length : Int) = ys.length)
    have HL := Lib.hid hl; clear hl
    go_enter Try.func15, Try.ntmps15
    go_wp2
    go_ret
    refine ⟨ret_bool ?_, Below.refl _ _⟩
    symm; apply decide_eq_false
    intro e
    exact HL.out (by rw [e])

end Go.Proofs.Ytmolneojjcjooaa

/- Walks: rows of nodes of decision trees, turned. -/
namespace Go.Proofs.Ytmolneojjcjooaa
open Go.RowKit
set_option linter.unusedVariables false

/-- A row of nodes of the call's own whose first k are laid, each order in a block of its own. -/
structure TN (B : Nat) (w : World) (g k : Nat) (ns : List Dt.Nd) (gs : Nat → Nat) : Prop where
  row : ∃ xs : List Value, w.ownsRow B 86 5 (.slice (some ⟨g, 0, none⟩) ns.length ns.length) ns.length xs ∧ ∀ j, j < k → xs[j * 5 + 0]? = some (.int .i64 (ns.getD j Dt.nd0).a) ∧ xs[j * 5 + 1]? = some (.int .i64 (ns.getD j Dt.nd0).b) ∧ xs[j * 5 + 2]? = some (.int .i64 (ns.getD j Dt.nd0).l) ∧ xs[j * 5 + 3]? = some (.int .i64 (ns.getD j Dt.nd0).g) ∧ xs[j * 5 + 4]? = some (.slice (some ⟨gs j, 0, none⟩) (ns.getD j Dt.nd0).o.length (ns.getD j Dt.nd0).o.length)
  ord : ∀ j, j < k → w.ownsRow B 3 1 (.slice (some ⟨gs j, 0, none⟩) (ns.getD j Dt.nd0).o.length (ns.getD j Dt.nd0).o.length) (ns.getD j Dt.nd0).o.length ((ns.getD j Dt.nd0).o.map (Value.int .i64))
  far : ∀ j, j < k → gs j ≠ g ∧ gs j < w.heap.size ∧ ∀ i, i < k → i ≠ j → gs i ≠ gs j

theorem TN.lt {B : Nat} {w : World} {g k : Nat} {ns : List Dt.Nd} {gs : Nat → Nat} (h : TN B w g k ns gs) : g < w.heap.size := by
  obtain ⟨xs, ho, _⟩ := h.row
  exact (ho.lt g rfl).2
theorem TN.step {B : Nat} {w w2 w3 : World} {g k g2 : Nat} {ns : List Dt.Nd} {gs : Nat → Nat} {d1 d2 d3 d4 : Int} {o : List Int} (h : TN B w g k ns gs) (hd : ns.getD k Dt.nd0 = (d1, d2, d3, d4, o)) (hk : k < ns.length) (hB : B ≤ w.heap.size) (hb : Below w.heap.size w w2)
    (ho : w2.ownsRow w.heap.size 3 1 (.slice (some ⟨g2, 0, none⟩) o.length o.length) o.length (o.map (Value.int .i64)))
    {xs : List Value} (hx : ∀ j, j < k → xs[j * 5 + 0]? = some (.int .i64 (ns.getD j Dt.nd0).a) ∧ xs[j * 5 + 1]? = some (.int .i64 (ns.getD j Dt.nd0).b) ∧ xs[j * 5 + 2]? = some (.int .i64 (ns.getD j Dt.nd0).l) ∧ xs[j * 5 + 3]? = some (.int .i64 (ns.getD j Dt.nd0).g) ∧ xs[j * 5 + 4]? = some (.slice (some ⟨gs j, 0, none⟩) (ns.getD j Dt.nd0).o.length (ns.getD j Dt.nd0).o.length))
    (hl : xs.length = ns.length * 5)
    (h3 : w3.ownsRow B 86 5 (.slice (some ⟨g, 0, none⟩) ns.length ns.length) ns.length (xs.take (k * 5) ++ [.int .i64 d1, .int .i64 d2, .int .i64 d3, .int .i64 d4, .slice (some ⟨g2, 0, none⟩) o.length o.length] ++ xs.drop (k * 5 + 5)))
    (hg : w2.grownBy w3 (some g)) : TN B w3 g (k + 1) ns (fun j => if j = k then g2 else gs j) := by
  have hgl := h.lt
  have hg2 := ho.lt g2 rfl
  have take : ∀ j i, j < k → i < 5 → (xs.take (k * 5) ++ [Value.int .i64 d1, .int .i64 d2, .int .i64 d3, .int .i64 d4, .slice (some ⟨g2, 0, none⟩) o.length o.length] ++ xs.drop (k * 5 + 5))[j * 5 + i]? = xs[j * 5 + i]? := fun j i hj hi => by
    rw [List.getElem?_append_left (by simp; omega), List.getElem?_append_left (by simp; omega), List.getElem?_take, if_pos (by omega)]
  have mid : ∀ i, i < 5 → (xs.take (k * 5) ++ [Value.int .i64 d1, .int .i64 d2, .int .i64 d3, .int .i64 d4, .slice (some ⟨g2, 0, none⟩) o.length o.length] ++ xs.drop (k * 5 + 5))[k * 5 + i]? = [Value.int .i64 d1, .int .i64 d2, .int .i64 d3, .int .i64 d4, .slice (some ⟨g2, 0, none⟩) o.length o.length][i]? := fun i hi => by
    have e : (xs.take (k * 5)).length = k * 5 := by simp; omega
    rw [List.getElem?_append_left (by simp; omega), List.getElem?_append_right (by omega), e, Nat.add_sub_cancel_left]
  refine ⟨⟨_, h3, fun j hj => ?_⟩, fun j hj => ?_, fun j hj => ?_⟩
  · by_cases e : j = k
    · subst e
      rw [mid 0 (by omega), mid 1 (by omega), mid 2 (by omega), mid 3 (by omega), mid 4 (by omega), hd, if_pos rfl]
      exact ⟨rfl, rfl, rfl, rfl, rfl⟩
    · have hj' : j < k := by omega
      rw [take j 0 hj' (by omega), take j 1 hj' (by omega), take j 2 hj' (by omega), take j 3 hj' (by omega), take j 4 hj' (by omega), if_neg e]
      exact hx j hj'
  · by_cases e : j = k
    · subst e
      rw [hd, if_pos rfl]
      exact own_mono (own_other ho hg (fun q hq e2 => by have hq : g2 = q := Option.some.inj hq; have e2 : g = q := Option.some.inj e2; omega)) hB
    · have hj' : j < k := by omega
      rw [if_neg e]
      exact own_other (own_below (h.ord j hj') (Nat.le_refl _) hb) hg (fun q hq e2 => by have hq : gs j = q := Option.some.inj hq; have e2 : g = q := Option.some.inj e2; exact (h.far j hj').1 (by omega))
  · have hsz := hb.size
    have hs3 := hg.size
    by_cases e : j = k
    · subst e
      rw [if_pos rfl]
      refine ⟨by omega, by omega, fun i hi hne => ?_⟩
      rw [if_neg hne]
      have := (h.far i (by omega)).2.1
      omega
    · have hj' : j < k := by omega
      obtain ⟨f1, f2, f3⟩ := h.far j hj'
      rw [if_neg e]
      refine ⟨f1, by omega, fun i hi hne => ?_⟩
      by_cases e2 : i = k
      · rw [if_pos e2]; omega
      · rw [if_neg e2]; exact f3 i (by omega) hne
theorem TN.nodes {B : Nat} {w : World} {g : Nat} {ns : List Dt.Nd} {gs : Nat → Nat} (h : TN B w g ns.length ns gs) (hb : ∀ j, j < ns.length → (ns.getD j Dt.nd0).o.length ≤ 1048576) : NodesAt w (some ⟨g, 0, none⟩) ns := by
  by_cases h0 : ns.length = 0
  · exact .inl (List.eq_nil_of_length_eq_zero h0)
  · obtain ⟨xs, ho, hx⟩ := h.row
    obtain ⟨g', e, _, hlt, hc⟩ := own_cell ho (by omega)
    injection e with e; injection e with e; subst e
    refine .inr ⟨g, 0, rfl, hlt, fun j hj => ?_⟩
    obtain ⟨x0, x1, x2, x3, x4⟩ := hx j hj
    rw [Nat.zero_add]
    exact ⟨(hc (j * 5 + 0) (by omega)).trans x0, (hc (j * 5 + 1) (by omega)).trans x1, (hc (j * 5 + 2) (by omega)).trans x2, (hc (j * 5 + 3) (by omega)).trans x3, ⟨_, _, (hc (j * 5 + 4) (by omega)).trans x4, ownInts (h.ord j hj), nilOk_some _ _⟩, by have := hb j hj; omega⟩
theorem TN.own {B : Nat} {w : World} {g : Nat} {ns : List Dt.Nd} {gs : Nat → Nat} (h : TN B w g ns.length ns gs) : NsW w B w.heap.size g ns.length gs (fun j => (ns.getD j Dt.nd0).o.length) := by
  have hl := h.lt
  obtain ⟨xs, ho, hx⟩ := h.row
  exact ⟨⟨xs, ho, fun j hj => (hx j hj).2.2.2.2⟩, fun j hj => ⟨_, h.ord j hj⟩, hl, fun j hj => ⟨(h.far j hj).2.1, (h.far j hj).1, (h.far j hj).2.2⟩⟩

set_option maxHeartbeats 400000 in
theorem toDecisionNodeS_any (a : Option Addr) (cap : Nat) (ns : List Dt.Nd) (w : World) (hlen : ns.length ≤ 1048576) (hos : ∀ j, j < ns.length → (ns.getD j Dt.nd0).o.length ≤ 1048576) (h : NodesAt w a ns) :
    Calls Try.prog 13 #[.slice a ns.length cap] w fun e w' => ∃ gs, e = .returned (.slice (some ⟨w.heap.size, 0, none⟩) ns.length ns.length) ∧
      NsW w' w.heap.size w'.heap.size w.heap.size ns.length gs (fun j => (ns.getD j Dt.nd0).o.length) ∧ NodesAt w' (some ⟨w.heap.size, 0, none⟩) ns ∧ Below w.heap.size w w' := by
  have H := Lib.hid h; clear h
  have HO := Lib.hid hos; clear hos
  go_enter Try.func13, Try.ntmps13
  go_wp2_with (at_make; refine wpList_mk slNode rfl _ _ rfl ns.length rfl rfl (by omega) ?_)
  intro w1 hown hb hsz
  have HT := Lib.hid (show TN w.heap.size w1 w.heap.size 0 ns (fun _ => 0) from ⟨⟨_, hown, by intro j h; omega⟩, by intro j h; omega, by intro j h; omega⟩)
  have HB := Lib.hid hb; clear hb hsz hown
  go_wp2
  go_loopw [4] (fun i wr => ∃ (k : Nat) (gs : Nat → Nat), k ≤ ns.length ∧ i = .int .i64 k ∧ TN w.heap.size wr w.heap.size k ns gs ∧ Below w.heap.size w wr) (fun i _ => ns.length - (intOf i).toNat)
  case atStart => exact ⟨0, _, by omega, rfl, HT.out, HB.out⟩
  case round =>
    obtain ⟨k, gs, hk, rfl, ht, hb⟩ := hrel
    clear HT HB
    have HT := Lib.hid ht; clear ht
    have HB := Lib.hid hb; clear hb
    by_cases hlt : k < ns.length
    · obtain ⟨b, off, rfl, hn⟩ := (H.out.same HB.out).at hlt
      have hol := HO.out k hlt
      obtain ⟨c0, c1, c2, c3, ⟨x, cx, c4, hi, _⟩, hbg⟩ := hn
      have HI := Lib.hid hi; clear hi
      clear hbg
      generalize hd : ns.getD k Dt.nd0 = d at c0 c1 c2 c3 c4 HI hol
      have HD := Lib.hid hd; clear hd
      obtain ⟨d1, d2, d3, d4, o⟩ := d
      simp only [Dt.Nd.a, Dt.Nd.b, Dt.Nd.l, Dt.Nd.g, Dt.Nd.o] at c0 c1 c2 c3 c4 hol
      go_wp2_with fail
      refine (toDecisionNode_any d1 d2 d3 d4 x cx o _ hol HI.out).mono ?_
      rintro e w2 ⟨g2, hg0, hg1, rfl, ho2, hb2⟩
      have HO2 := Lib.hid ho2; clear ho2
      have HC := Lib.hid hb2
      have HB2 := Lib.hid (HB.out.trans (hb2.mono (HB.out.size)))
      clear hb2
      obtain ⟨xs, hown, hxs⟩ := HT.out.row
      have HX := Lib.hid hxs; clear hxs
      have HL := Lib.hid hown.1
      have HOW := Lib.hid (own_below hown (Nat.le_refl _) HC.out); clear hown
      go_wp2_with (refine wpList_put slNode rfl (.tmp 21) (.tmp 20) rfl k rfl [.int .i64 d1, .int .i64 d2, .int .i64 d3, .int .i64 d4, .slice (some ⟨g2, 0, none⟩) o.length o.length] rfl rfl (by simp [Value.oneCell']) HOW.out hlt ?_)
      intro w3 ho3 hg3
      have HB3 := Lib.hid (below_app HB2.out HB2.out.size HOW.out (Nat.le_refl _) hg3)
      have HT3 := Lib.hid (HT.out.step HD.out hlt HB.out.size HC.out HO2.out HX.out HL.out (by simpa using ho3) hg3)
      clear ho3 hg3 HT HOW
      go_wp2
      go_roundw
      case rel => exact ⟨k + 1, _, by omega, by go_num, HT3.out, HB3.out⟩
      case measure => simp [intOf]; omega
    · have e : k = ns.length := by omega
      subst e
      go_wp2
      go_ret
      exact ⟨gs, rfl, HT.out.own, HT.out.nodes HO.out, HB.out⟩

end Go.Proofs.Ytmolneojjcjooaa

/- Walks: nodes of decision trees that may stand in a tree. -/
namespace Go.Proofs.Ytmolneojjcjooaa
open Go.RowKit
set_option linter.unusedVariables false

set_option maxHeartbeats 400000 in
theorem isDecision_any (d1 d2 d3 d4 : Int) (a : Option Addr) (c : Nat) (o : List Int) (n i size : Nat) (w : World) (hn : 1 ≤ n) (hn5 : n ≤ 5) (hi : i ≤ 255) (hs : size ≤ 255) (hl : o.length ≤ 9223372036854775807) (h : IntsAt w a o) :
    Calls Try.prog 62 #[.agg #[.int .i64 d1, .int .i64 d2, .int .i64 d3, .int .i64 d4, .slice a o.length c], .int .i64 n, .int .i64 i, .int .i64 size] w fun e w' => e = .returned (.bool (Dt.okNode n i size (d1, d2, d3, d4, o))) ∧ Below w.heap.size w w' := by
  have H := Lib.hid h; clear h
  by_cases h0 : 0 < o.length
  · have HK : Hid (Dt.okNode n i size (d1, d2, d3, d4, o) = ((d1 == 0 && d2 == 0 && d3 == 0 && d4 == 0) && (decide (o.length = n) && okPerm o))) := by show _ = _; unfold Dt.okNode; rw [if_pos h0]
    go_enter Try.func62, Try.ntmps62
    go_wp2_with (go_at_call 134; refine (isValidPermutation_any a c o _ hl (H.out.below (Nat.le_refl _) (by (repeat (first | exact Below.refl _ _ | assumption | refine Below.setCell ?_ (by first | omega | (simp; done) | (simp; omega)) _ | refine Below.alloc ?_ (by first | omega | (simp; done) | (simp; omega)) _ | refine Below.drew ?_ | refine below_drewN ?_ _))))).mono ?_; rintro e w' ⟨rfl, hb⟩)
    all_goals go_ret
    all_goals refine ⟨ret_bool ?_, ?_⟩
    all_goals first | ((try clear hb); have hk := HK.out; clear HK H; rw [hk]; clear hk; (first | (have e9 : o.length = n := by omega) | (have e9 : ¬ o.length = n := by omega) | skip); simp [*]; done) | ((repeat (first | exact Below.refl _ _ | assumption | refine Below.setCell ?_ (by first | omega | (simp; done) | (simp; omega)) _ | refine Below.alloc ?_ (by first | omega | (simp; done) | (simp; omega)) _ | refine Below.drew ?_ | refine below_drewN ?_ _)); done) | (exact Below.trans (by (repeat (first | exact Below.refl _ _ | assumption | refine Below.setCell ?_ (by first | omega | (simp; done) | (simp; omega)) _ | refine Below.alloc ?_ (by first | omega | (simp; done) | (simp; omega)) _ | refine Below.drew ?_ | refine below_drewN ?_ _))) (hb.mono (by simp))) | skip
  · have HK : Hid (Dt.okNode n i size (d1, d2, d3, d4, o) = ((d1 != d2 && inB d1 0 ((n : Int) - 1) && inB d2 0 ((n : Int) - 1)) && (d3 != d4 && inB d3 ((i : Int) + 1) ((size : Int) - 1) && inB d4 ((i : Int) + 1) ((size : Int) - 1)))) := by show _ = _; unfold Dt.okNode; rw [if_neg h0]
    have h00 : o.length = 0 := by omega
    go_enter Try.func62, Try.ntmps62
    go_wp2_with (go_at_call 61; refine (in_any _ _ _ _).mono ?_; rintro e w' ⟨rfl, rfl⟩)
    all_goals go_ret
    all_goals refine ⟨ret_bool ?_, ?_⟩
    all_goals first | ((try clear hb); have hk := HK.out; clear HK H; rw [hk]; clear hk; (first | (have e9 : o.length = n := by omega) | (have e9 : ¬ o.length = n := by omega) | skip); simp [*]; done) | ((repeat (first | exact Below.refl _ _ | assumption | refine Below.setCell ?_ (by first | omega | (simp; done) | (simp; omega)) _ | refine Below.alloc ?_ (by first | omega | (simp; done) | (simp; omega)) _ | refine Below.drew ?_ | refine below_drewN ?_ _)); done) | (exact Below.trans (by (repeat (first | exact Below.refl _ _ | assumption | refine Below.setCell ?_ (by first | omega | (simp; done) | (simp; omega)) _ | refine Below.alloc ?_ (by first | omega | (simp; done) | (simp; omega)) _ | refine Below.drew ?_ | refine below_drewN ?_ _))) (hb.mono (by simp))) | (have hk := HK.out; clear HK H; rw [hk]; clear hk h00 h0 hn hn5 hi hs hl; grind) | (have hk := HK.out; clear HK H; rw [hk]; clear hk; cases inB d4 ((i : Int) + 1) ((size : Int) - 1) <;> simp_all; done) | skip

end Go.Proofs.Ytmolneojjcjooaa

/- Walks: the check 'all' on numbers. -/
namespace Go.Proofs.Ytmolneojjcjooaa
open Go.RowKit
set_option linter.unusedVariables false

/-- A function value that answers a predicate on numbers of a kind; it may make memory of its own. -/
def IsPredI (w : World) (hv : Value) (D : Int → Prop) (p : Int → Bool) : Prop :=
  ∃ G cp, hv = .func (.func G) #[] cp ∧ (∀ args w, (callFunc G args).run Try.prog w = .ok (.enter G args) w) ∧ ∀ w1, Below w.heap.size w w1 → ∀ x : Int, D x → Calls Try.prog G (#[.int .i64 x] ++ cp) w1 fun e w' => e = .returned (.bool (p x)) ∧ Below w1.heap.size w1 w'

set_option maxHeartbeats 400000 in
theorem allcI_any (pc : Nat) (hv : Value) (D : Int → Prop) (p : Int → Bool) (w0 w : World) (hp : IsPredI w0 hv D p) (hb : Below w0.heap.size w0 w) (hc : w.cell? ⟨pc, 0, none⟩ = some hv) (x : Int) (hD : D x) :
    Calls Try.prog 136 #[.int .i64 x, .pointer (some ⟨pc, 0, none⟩)] w fun e w' => e = .returned (.bool (!p x)) ∧ Below w.heap.size w w' := by
  obtain ⟨G, cp, rfl, hcall, hp⟩ := hp
  have hsz := World.block_lt_of_cell? w _ hc
  have HP := Lib.hid (hp _ hb x hD)
  clear hp hb hD
  have hcall := hcall (#[.int .i64 x] ++ cp)
  go_enter Try.func136, Try.ntmps136
  go_wp2_with fail
  refine HP.out.mono ?_
  rintro e w' ⟨rfl, hb3⟩
  have HB3 := Lib.hid hb3
  clear hb3
  go_wp2
  go_ret
  exact ⟨rfl, HB3.out⟩

set_option maxHeartbeats 400000 in
theorem indexFuncI_any (a : Option Addr) (cap : Nat) (zs : List (Int)) (pc : Nat) (hv : Value) (D : Int → Prop) (p : Int → Bool) (w0 w : World) (hbig : zs.length ≤ 9223372036854775807) (h : IntsAt w a zs)
    (hp : IsPredI w0 hv D p) (hD : ∀ x ∈ zs, D x) (hb : Below w0.heap.size w0 w) (hc : w.cell? ⟨pc, 0, none⟩ = some hv) :
    Calls Try.prog 183 #[.slice a zs.length cap, .func (.func 136) #[] #[.pointer (some ⟨pc, 0, none⟩)]] w
      fun e w' => (∃ n : Int, e = .returned (.int .i64 n) ∧ decide (0 ≤ n) = zs.any (fun x => !p x)) ∧ Below w.heap.size w w' := by
  have hsz := World.block_lt_of_cell? w _ hc
  have H := Lib.hid h; clear h
  have HDD := Lib.hid hD; clear hD
  have HC := Lib.hid hc; clear hc
  have HP := Lib.hid hp; clear hp
  have HB := Lib.hid hb; clear hb
  have HZ := Lib.hid hsz; clear hsz
  go_enter Try.func183, Try.ntmps183
  go_wp2
  go_loopw [8] (fun i wr => ∃ k : Nat, k ≤ zs.length ∧ i = .int .i64 k ∧ (∀ j, j < k → p (zs.getD j 0) = true) ∧ Below w.heap.size w wr) (fun i _ => zs.length - (intOf i).toNat)
  case atStart => exact ⟨0, by omega, rfl, by intro j h; omega, Below.refl _ _⟩
  case round =>
    obtain ⟨k, hk, rfl, hall, hbr⟩ := hrel
    have Hall := Lib.hid hall; clear hall
    by_cases h1 : k < zs.length
    · obtain ⟨b, off, rfl, hc1⟩ := (H.out.below (Nat.le_refl _) hbr).at h1
      have hcw : wr.cell? ⟨pc, 0, none⟩ = some hv := (hbr.cell (p := ⟨pc, 0, none⟩) HZ.out).trans HC.out
      have HQ := Lib.hid (allcI_any pc hv D p w0 wr HP.out (HB.out.trans (hbr.mono HB.out.size)) hcw (zs.getD k 0) (by rw [List.getD_eq_getElem?_getD, List.getElem?_eq_getElem h1]; exact HDD.out _ (List.getElem_mem h1)))
      generalize hx : zs.getD k 0 = x at hc1 HQ
      have Hx := Lib.hid hx; clear hx hcw
      have HBR := Lib.hid hbr; clear hbr
      go_wp2_with fail
      refine HQ.out.mono ?_
      rintro e w2 ⟨rfl, hb2⟩
      have HB2 := Lib.hid (HBR.out.trans (hb2.mono HBR.out.size)); clear hb2
      cases hq : p x
      · have HV := Lib.hid hq; clear hq
        go_wp2
        go_ret
        refine ⟨⟨_, rfl, ?_⟩, HB2.out⟩
        rw [List.any_eq_true.2 ⟨zs[k], List.getElem_mem h1, by
          have : zs[k] = x := by rw [← Hx.out]; simp [List.getD, h1]
          rw [this, HV.out]; rfl⟩]
        simp
      · have HV := Lib.hid hq; clear hq
        go_wp2
        go_roundw
        case rel =>
          refine ⟨k + 1, by omega, by go_num, fun j hj => ?_, HB2.out⟩
          rcases Nat.lt_succ_iff_lt_or_eq.1 hj with h | rfl
          · exact Hall.out j h
          · rw [Hx.out]; exact HV.out
        case measure => simp [intOf]; omega
    · have HBR := Lib.hid hbr; clear hbr
      go_wp2
      go_ret
      refine ⟨⟨_, rfl, ?_⟩, HBR.out⟩
      rw [List.any_eq_false.2 (fun x hx => by
        obtain ⟨j, hj, rfl⟩ := List.getElem_of_mem hx
        have := Hall.out j (by omega)
        simp only [List.getD, List.getElem?_eq_getElem hj, Option.getD_some] at this
        simp [this])]
      rfl

set_option maxHeartbeats 400000 in
theorem containsFuncI_any (a : Option Addr) (cap : Nat) (zs : List (Int)) (pc : Nat) (hv : Value) (D : Int → Prop) (p : Int → Bool) (w0 w : World) (hbig : zs.length ≤ 9223372036854775807) (h : IntsAt w a zs)
    (hp : IsPredI w0 hv D p) (hD : ∀ x ∈ zs, D x) (hb : Below w0.heap.size w0 w) (hc : w.cell? ⟨pc, 0, none⟩ = some hv) :
    Calls Try.prog 135 #[.slice a zs.length cap, .func (.func 136) #[] #[.pointer (some ⟨pc, 0, none⟩)]] w
      fun e w' => e = .returned (.bool (zs.any (fun x => !p x))) ∧ Below w.heap.size w w' := by
  have HI := Lib.hid (indexFuncI_any a cap zs pc hv D p w0 w hbig h hp hD hb hc)
  clear h hp hb hc hD
  go_enter Try.func135, Try.ntmps135
  go_wp2_with fail
  refine HI.out.mono ?_
  rintro e w2 ⟨⟨n, rfl, hn⟩, hb2⟩
  have HN := Lib.hid hn; clear hn
  have HB := Lib.hid hb2; clear hb2
  go_wp2
  go_ret
  exact ⟨ret_bool HN.out, HB.out⟩

set_option maxHeartbeats 400000 in
theorem allI_any (a : Option Addr) (cap : Nat) (zs : List (Int)) (hv : Value) (D : Int → Prop) (p : Int → Bool) (w : World) (hbig : zs.length ≤ 9223372036854775807) (h : IntsAt w a zs) (hp : IsPredI w hv D p) (hD : ∀ x ∈ zs, D x) :
    Calls Try.prog 63 #[.slice a zs.length cap, hv] w fun e w' => e = .returned (.bool (zs.all p)) ∧ Below w.heap.size w w' := by
  have hb : Below w.heap.size w (w.alloc (.cells #[hv] 90)) := (Below.refl _ _).alloc (Nat.le_refl _) _
  have hc : (w.alloc (.cells #[hv] 90)).cell? ⟨w.heap.size, 0, none⟩ = some hv := by rw [World.cell?_alloc_at _ _ _ _ rfl]; rfl
  have HI := Lib.hid (containsFuncI_any a cap zs w.heap.size hv D p w _ hbig (h.below (Nat.le_refl _) hb) hp hD hb hc)
  have HB := Lib.hid hb
  have he : (!zs.any (fun x => !p x)) = zs.all p := by rw [List.not_any_eq_all_not]; simp
  have HE := Lib.hid he; clear he
  have hmf := hmf
  obtain ⟨G, cp, rfl, _⟩ := hp
  clear h hb hc hD
  go_enter Try.func63, Try.ntmps63
  go_wp2_with fail
  refine HI.out.mono ?_
  rintro e w2 ⟨rfl, hb2⟩
  have HB2 := Lib.hid (HB.out.trans (hb2.mono HB.out.size)); clear hb2
  go_wp2
  go_ret
  exact ⟨ret_bool HE.out, HB2.out⟩



theorem in_isD {x lo hi : Int} {b : Bool} (h : inB x lo hi = b) : Hid (∀ w, Calls Try.prog 61 #[.int .i64 x, .int .i64 lo, .int .i64 hi] w fun e w' => e = .returned (.bool b) ∧ w' = w) := fun w => by
  have := in_any x lo hi w
  rw [h] at this
  exact this.mono (fun _ _ ⟨h1, h2⟩ => ⟨h1, h2.symm⟩)
theorem l1In_isD {x lo hi : Int} {b : Bool} (h : inB x lo hi = b) : Hid (∀ w, Calls Try.prog 118 #[.int .i64 x, .int .i64 lo, .int .i64 hi] w fun e w' => e = .returned (.bool b) ∧ w' = w) := fun w => by
  have := l1In_any x lo hi w
  rw [h] at this
  exact this.mono (fun _ _ ⟨h1, h2⟩ => ⟨h1, h2.symm⟩)

end Go.Proofs.Ytmolneojjcjooaa

/- Plain law: how often each place of a tree is gone to. -/
namespace Go.Proofs.Ytmolneojjcjooaa
open Go.RowKit
set_option linter.unusedVariables false

def Dt.ctL (ns : List Dt.Nd) (k : Nat) : List Int := (List.range ns.length).map fun j => ((Dt.parN (ns.take k) j : Nat) : Int)
theorem Dt.ctL_len (ns : List Dt.Nd) (k : Nat) : (Dt.ctL ns k).length = ns.length := by simp [Dt.ctL]
theorem Dt.ctL_get {ns : List Dt.Nd} {k j : Nat} (h : j < ns.length) : (Dt.ctL ns k)[j]? = some ((Dt.parN (ns.take k) j : Nat) : Int) := by simp [Dt.ctL, h]
theorem Dt.ctL_map {ns : List Dt.Nd} {k j : Nat} (h : j < ns.length) : ((Dt.ctL ns k).map (Value.int .i64))[j]? = some (.int .i64 ((Dt.parN (ns.take k) j : Nat) : Int)) := by rw [List.getElem?_map, Dt.ctL_get h]; rfl
theorem Dt.ctL_zero (ns : List Dt.Nd) : (Dt.ctL ns 0).map (Value.int .i64) = List.replicate ns.length (.int .i64 0) := by
  apply List.ext_getElem
  · simp [Dt.ctL]
  · intro i h1 h2; simp [Dt.ctL, Dt.parN]
theorem Dt.ctL_leaf {ns : List Dt.Nd} {k : Nat} (h : k < ns.length) (h0 : 0 < (ns.getD k Dt.nd0).o.length) : Dt.ctL ns (k + 1) = Dt.ctL ns k := by
  unfold Dt.ctL
  apply List.map_congr_left
  intro j _
  rw [Dt.parN_snoc h, if_neg (by omega), if_neg (by omega)]; rfl
theorem Dt.ctL_in {ns : List Dt.Nd} {k l g : Nat} (h : k < ns.length) (h0 : (ns.getD k Dt.nd0).o.length = 0) (hl : (ns.getD k Dt.nd0).l = (l : Int)) (hg : (ns.getD k Dt.nd0).g = (g : Int)) (hll : l < ns.length) (hgl : g < ns.length) (hne : l ≠ g) :
    (((Dt.ctL ns k).map (Value.int .i64)).set l (.int .i64 (((Dt.parN (ns.take k) l : Nat) : Int) + 1))).set g (.int .i64 (((Dt.parN (ns.take k) g : Nat) : Int) + 1)) = (Dt.ctL ns (k + 1)).map (Value.int .i64) := by
  apply List.ext_getElem?
  intro j
  by_cases hj : j < ns.length
  · rw [Dt.ctL_map hj, List.getElem?_set, List.getElem?_set, Dt.parN_snoc h, hl, hg]
    have e : ((Dt.ctL ns k).map (Value.int .i64)).length = ns.length := by simp [Dt.ctL]
    rw [List.length_set, e]
    by_cases e1 : g = j
    · subst e1
      rw [if_pos rfl, if_pos hj, if_neg (by omega), if_pos ⟨h0, rfl⟩]
      simp
    · rw [if_neg e1]
      by_cases e2 : l = j
      · subst e2
        rw [if_pos rfl, if_pos hj, if_pos ⟨h0, rfl⟩, if_neg (by omega)]
        simp
      · rw [if_neg e2, Dt.ctL_map hj, if_neg (by omega), if_neg (by omega)]; rfl
  · rw [List.getElem?_eq_none (by simp [Dt.ctL]; omega), List.getElem?_eq_none (by simp [Dt.ctL]; omega)]
theorem Dt.ctL_pars (ns : List Dt.Nd) : ((Dt.ctL ns ns.length).drop 1).all (fun x => decide (x = 1)) = Dt.parsOk ns := by
  unfold Dt.parsOk
  rw [Bool.eq_iff_iff, List.all_eq_true, List.all_eq_true]
  constructor
  · intro h j hj
    have hj := List.mem_range.1 hj
    have hm : ((Dt.parN ns (j + 1) : Nat) : Int) ∈ (Dt.ctL ns ns.length).drop 1 := by
      rw [List.mem_iff_getElem?]
      refine ⟨j, ?_⟩
      rw [List.getElem?_drop, Nat.add_comm, Dt.ctL_get (by omega), List.take_length]
    have := h _ hm
    simp only [decide_eq_true_eq] at this ⊢
    omega
  · intro h x hx
    obtain ⟨j, hj⟩ := List.mem_iff_getElem?.1 hx
    rw [List.getElem?_drop] at hj
    have hlt : 1 + j < ns.length := by
      have := (List.getElem?_eq_some_iff.1 hj).1
      simpa [Dt.ctL] using this
    rw [Dt.ctL_get hlt, List.take_length] at hj
    have := h j (List.mem_range.2 (by omega))
    simp only [decide_eq_true_eq] at this
    injection hj with hj
    rw [Nat.add_comm] at this
    rw [← hj, this]; rfl
theorem Dt.okTree_no1 {n : Int} {ns : List Dt.Nd} (h : inB n 1 5 = false) : Dt.okTree n ns = false := by unfold Dt.okTree; rw [h]; rfl
theorem Dt.okTree_no2 {n : Int} {ns : List Dt.Nd} (h : inB (ns.length : Int) 1 255 = false) : Dt.okTree n ns = false := by unfold Dt.okTree; rw [h]; simp
theorem Dt.okTree_no3 {m k : Nat} {ns : List Dt.Nd} (hk : k < ns.length) (h : Dt.okNode m k ns.length (ns.getD k Dt.nd0) = false) : Dt.okTree (m : Int) ns = false := by unfold Dt.okTree; rw [Int.toNat_natCast, Dt.nodesOk_no hk h]; simp
theorem Dt.okTree_yes {m : Nat} {ns : List Dt.Nd} (h1 : inB (m : Int) 1 5 = true) (h2 : inB (ns.length : Int) 1 255 = true) (h : ∀ j, j < ns.length → Dt.okNode m j ns.length (ns.getD j Dt.nd0) = true) : Dt.okTree (m : Int) ns = Dt.parsOk ns := by unfold Dt.okTree; rw [h1, h2, Int.toNat_natCast, Dt.nodesOk_yes h]; simp

theorem Dt.okNode_ne {n i size : Nat} {d : Dt.Nd} (h : Dt.okNode n i size d = true) (h0 : d.o.length = 0) : d.l ≠ d.g := by
  unfold Dt.okNode at h
  rw [if_neg (by omega)] at h
  simp only [Bool.and_eq_true] at h
  simpa using h.2.1.1

theorem ints_dropD {w : World} {b n : Nat} {zs : List Int} (h : IntsAt w (some ⟨b, 0, none⟩) zs) (i : Nat) : IntsAt w (some ⟨b, i, none⟩) (zs.drop i) := by
  rcases h with rfl | ⟨b', off, e, h1, h2⟩
  · exact .inl (by simp)
  · injection e with e; injection e with e1 e2; subst e1; subst e2
    refine .inr ⟨b, i, rfl, h1, fun j hj => ?_⟩
    have hj' : i + j < zs.length := by simp at hj; omega
    have := h2 (i + j) hj'
    rw [Nat.zero_add] at this
    rw [this]
    simp [List.getD, List.getElem?_drop]

end Go.Proofs.Ytmolneojjcjooaa

/- Walks: the program's check of decision trees. -/
namespace Go.Proofs.Ytmolneojjcjooaa
open Go.RowKit
set_option linter.unusedVariables false

set_option maxHeartbeats 400000 in
theorem isOne_pred (w : World) : IsPredI w (.func (.func 64) #[] #[]) (fun _ => True) (fun x => decide (x = 1)) := by
  refine ⟨_, _, rfl, fun args w => by kernel_rfl, fun w1 hb x _ => ?_⟩
  show Calls Try.prog 64 #[.int .i64 x] w1 _
  by_cases h : x = 1
  · subst h
    go_enter Try.func64, Try.ntmps64
    go_wp2
    go_ret
    exact ⟨rfl, Below.refl _ _⟩
  · have hn : (x == 1) = false := by simpa using h
    go_enter Try.func64, Try.ntmps64
    go_wp2
    go_ret
    exact ⟨ret_bool rfl, Below.refl _ _⟩

set_option maxHeartbeats 400000 in
theorem isValidDecisions_any (a : Option Addr) (cap : Nat) (ns : List Dt.Nd) (n : Int) (w : World) (hbig : ns.length ≤ 9223372036854775807) (h : NodesAt w a ns) :
    Calls Try.prog 14 #[.slice a ns.length cap, .int .i64 n] w fun e w' => e = .returned (.bool (Dt.okTree n ns)) ∧ Below w.heap.size w w' := by
  have H := Lib.hid h; clear h
  cases h1 : inB n 1 5
  · have HE := Lib.hid (Dt.okTree_no1 (ns := ns) h1)
    have HI := in_isD h1
    clear h1
    go_enter Try.func14, Try.ntmps14
    go_wp2_with (go_at_call 61; refine (HI.out _).mono ?_; rintro e w' ⟨rfl, rfl⟩)
    go_ret
    exact ⟨ret_bool HE.out.symm, Below.refl _ _⟩
  have HI1 := in_isD h1
  have H1 := Lib.hid h1
  obtain ⟨n1, n5⟩ := inB_iff.1 h1; clear h1
  obtain ⟨m, rfl⟩ := Int.eq_ofNat_of_zero_le (show (0 : Int) ≤ n by omega)
  cases h2 : inB (ns.length : Int) 1 255
  · have HE := Lib.hid (Dt.okTree_no2 (n := (m : Int)) h2)
    have H2 := Lib.hid h2
    clear h2
    go_enter Try.func14, Try.ntmps14
    go_wp2_with (go_at_call 61; refine (in_any _ _ _ _).mono ?_; rintro e w' ⟨rfl, rfl⟩; first | rw [H1.out] | rw [H2.out])
    go_ret
    exact ⟨ret_bool HE.out.symm, Below.refl _ _⟩
  have HI2 := in_isD h2
  have H2 := Lib.hid h2
  obtain ⟨l1, l5⟩ := inB_iff.1 h2; clear h2
  go_enter Try.func14, Try.ntmps14
  go_wp2_with (first | (go_at_call 61; refine (in_any _ _ _ _).mono ?_; rintro e w' ⟨rfl, rfl⟩; first | rw [H1.out] | rw [H2.out]) | (at_make; refine wpList_mk slInt rfl _ _ rfl ns.length rfl rfl (by omega) ?_))
  intro w1 hown hb hsz
  have hown : w1.ownsRow w.heap.size 3 1 (.slice (some ⟨w.heap.size, 0, none⟩) ns.length ns.length) ns.length ((Dt.ctL ns 0).map (Value.int .i64)) := by
    rw [Dt.ctL_zero, ← toList_madeCells_one]; simpa [Value.cells] using hown
  have HO := Lib.hid hown; clear hown
  have HB := Lib.hid hb; clear hb hsz
  go_wp2
  go_loopw [6, 7, 22] (fun _ _ i wr => ∃ k : Nat, k ≤ ns.length ∧ i = .int .i64 k ∧ (∀ j, j < k → Dt.okNode m j ns.length (ns.getD j Dt.nd0) = true) ∧ wr.ownsRow w.heap.size 3 1 (.slice (some ⟨w.heap.size, 0, none⟩) ns.length ns.length) ns.length ((Dt.ctL ns k).map (Value.int .i64)) ∧ Below w.heap.size w wr) (fun _ _ i _ => ns.length - (intOf i).toNat)
  case atStart => exact ⟨0, by omega, rfl, by intro j h; omega, HO.out, HB.out⟩
  case round =>
    obtain ⟨k, hk, rfl, hall, hown, hb⟩ := hrel
    have HA := Lib.hid hall; clear hall HO HB
    have HB := Lib.hid hb; clear hb
    have HOW := Lib.hid hown; clear hown
    by_cases hlt : k < ns.length
    · obtain ⟨b, off, rfl, hn⟩ := (H.out.same HB.out).at hlt
      obtain ⟨c0, c1, c2, c3, ⟨x, cx, c4, hi, _⟩, hbg⟩ := hn
      have HI := Lib.hid hi; clear hi
      generalize hd : ns.getD k Dt.nd0 = d at c0 c1 c2 c3 c4 HI hbg
      have HD := Lib.hid hd; clear hd
      obtain ⟨d1, d2, d3, d4, o⟩ := d
      simp only [Dt.Nd.a, Dt.Nd.b, Dt.Nd.l, Dt.Nd.g, Dt.Nd.o] at c0 c1 c2 c3 c4 hbg
      go_wp2_with fail
      refine (isDecision_any d1 d2 d3 d4 x cx o m k ns.length _ (by omega) (by omega) (by omega) (by omega) hbg (HI.out.below (Nat.le_refl _) (by (repeat (first | exact Below.refl _ _ | assumption | refine Below.setCell ?_ (by first | omega | (simp; done) | (simp; omega)) _ | refine Below.alloc ?_ (by first | omega | (simp; done) | (simp; omega)) _ | refine Below.drew ?_ | refine below_drewN ?_ _))))).mono ?_
      rintro e w2 ⟨rfl, hb2⟩
      have e4 : w2.cell? ⟨wr.heap.size, 4, none⟩ = some (.slice x o.length cx) := (hb2.cell (p := ⟨wr.heap.size, 4, none⟩) (by simp)).trans (by simp [go_sem])
      have e3 : w2.cell? ⟨wr.heap.size, 3, none⟩ = some (.int .i64 d4) := (hb2.cell (p := ⟨wr.heap.size, 3, none⟩) (by simp)).trans (by simp [go_sem])
      have e2 : w2.cell? ⟨wr.heap.size, 2, none⟩ = some (.int .i64 d3) := (hb2.cell (p := ⟨wr.heap.size, 2, none⟩) (by simp)).trans (by simp [go_sem])
      have HC := Lib.hid (show Below wr.heap.size wr w2 from Below.trans (by (repeat (first | exact Below.refl _ _ | assumption | refine Below.setCell ?_ (by first | omega | (simp; done) | (simp; omega)) _ | refine Below.alloc ?_ (by first | omega | (simp; done) | (simp; omega)) _ | refine Below.drew ?_ | refine below_drewN ?_ _))) (hb2.mono (by simp)))
      have HB2 := Lib.hid (HB.out.trans (HC.out.mono HB.out.size))
      have HO2 := Lib.hid (own_below HOW.out (Nat.le_refl _) HC.out)
      have hne0 : w.heap.size < wr.heap.size := (HOW.out.lt _ rfl).2
      clear hb2 c0 c1 c2 c3 c4
      cases hok : Dt.okNode m k ns.length (d1, d2, d3, d4, o)
      · have HV := Lib.hid hok; clear hok
        go_wp2
        go_ret
        exact ⟨ret_bool (Dt.okTree_no3 hlt (by rw [HD.out]; exact HV.out)).symm, HB2.out⟩
      · have HV := Lib.hid hok
        have HA2 : Hid (∀ j, j < k + 1 → Dt.okNode m j ns.length (ns.getD j Dt.nd0) = true) := fun j hj => by
          rcases Nat.lt_succ_iff_lt_or_eq.1 hj with h | rfl
          · exact HA.out j h
          · rw [HD.out]; exact HV.out
        by_cases h0 : 0 < o.length
        · clear hok
          go_wp2
          go_roundw
          case rel => exact ⟨k + 1, by omega, by go_num, HA2.out, by rw [Dt.ctL_leaf hlt (by rw [HD.out]; exact h0)]; exact HO2.out, HB2.out⟩
          case measure => simp [intOf]; omega
        · have h00 : o.length = 0 := by omega
          obtain ⟨_, _, p1, p2⟩ := Dt.okNode_in hok h00
          have hne := Dt.okNode_ne hok h00
          simp only [Dt.Nd.l, Dt.Nd.g] at p1 p2 hne
          clear hok
          obtain ⟨l, rfl⟩ := Int.eq_ofNat_of_zero_le (show (0 : Int) ≤ d3 by omega)
          obtain ⟨g, rfl⟩ := Int.eq_ofNat_of_zero_le (show (0 : Int) ≤ d4 by omega)
          have hl : l < ns.length := by omega
          have hg : g < ns.length := by omega
          have hne : l ≠ g := by omega
          have hne2 : g ≠ l := by omega
          have hq1 := (HO2.out.cellAt l (by omega)).trans (Dt.ctL_map hl)
          have hq2 := (HO2.out.cellAt g (by omega)).trans (Dt.ctL_map hg)
          have hf1 := HO2.out.frozenAt l
          have hf2 := HO2.out.frozenAt g
          have hp1 := Dt.parN_le (ns.take k) l
          have hp2 := Dt.parN_le (ns.take k) g
          have htk : (ns.take k).length ≤ 255 := by simp; omega
          have HR := Lib.hid ((HO2.out.stored l (.int .i64 (((Dt.parN (ns.take k) l : Nat) : Int) + 1))).1.stored g (.int .i64 (((Dt.parN (ns.take k) g : Nat) : Int) + 1))).1
          have HS := Lib.hid (Dt.ctL_in hlt (by rw [HD.out]; exact h00) (by rw [HD.out]) (by rw [HD.out]) hl hg hne)
          generalize Dt.parN (ns.take k) l = c1 at hq1 hp1 HR HS
          generalize Dt.parN (ns.take k) g = c2 at hq2 hp2 HR HS
          go_wp2
          go_roundw
          case rel => exact ⟨k + 1, by omega, by go_num, HA2.out, by rw [← HS.out]; exact HR.out, Below.setCell (p := ⟨w.heap.size, g, none⟩) (Below.setCell (p := ⟨w.heap.size, l, none⟩) HB2.out (Nat.le_refl _) _) (Nat.le_refl _) _⟩
          case measure => simp [intOf]; omega
    · have e : k = ns.length := by omega
      subst e
      have hdl : ((Dt.ctL ns ns.length).drop 1).length = ns.length - 1 := by simp [Dt.ctL]
      have HE := Lib.hid (Dt.okTree_yes H1.out H2.out HA.out)
      have HALL : Hid (∀ x c, IntsAt wr x ((Dt.ctL ns ns.length).drop 1) → Calls Try.prog 63 #[.slice x (ns.length - 1) c, .func (.func 64) #[] #[]] wr fun e w' => e = .returned (.bool (Dt.parsOk ns)) ∧ Below wr.heap.size wr w') := by
        intro x c hx
        have := allI_any x c ((Dt.ctL ns ns.length).drop 1) _ _ _ wr (by rw [hdl]; omega) hx (isOne_pred wr) (fun _ _ => trivial)
        rw [hdl, Dt.ctL_pars] at this
        exact this
      have HX := Lib.hid (ints_dropD (n := 0) (ownInts HOW.out) 1)
      go_wp2_with fail
      · have h9 : ns.length - 1 = 0 := by omega
        have hA := HALL.out (some ⟨w.heap.size, 0, none⟩) 0 (.inl (List.eq_nil_of_length_eq_zero (by omega)))
        rw [h9] at hA
        refine hA.mono ?_
        rintro e w3 ⟨rfl, hb3⟩
        have HB3 := Lib.hid (HB.out.trans (hb3.mono HB.out.size)); clear hb3
        go_wp2
        go_ret
        exact ⟨ret_bool HE.out.symm, HB3.out⟩
      · refine (HALL.out _ _ HX.out).mono ?_
        rintro e w3 ⟨rfl, hb3⟩
        have HB3 := Lib.hid (HB.out.trans (hb3.mono HB.out.size)); clear hb3
        go_wp2
        go_ret
        exact ⟨ret_bool HE.out.symm, HB3.out⟩

end Go.Proofs.Ytmolneojjcjooaa

/- Walks: nodes of decision trees that may stand in a tree. -/
namespace Go.Proofs.Ytmolneojjcjooaa
open Go.RowKit
set_option linter.unusedVariables false

set_option maxHeartbeats 400000 in
theorem l23Node_any (d1 d2 d3 d4 : Int) (a : Option Addr) (c : Nat) (o : List Int) (n i size : Nat) (w : World) (hn : 1 ≤ n) (hn5 : n ≤ 5) (hi : i ≤ 255) (hs : size ≤ 255) (hl : o.length ≤ 9223372036854775807) (h : IntsAt w a o) :
    Calls Try.prog 133 #[.agg #[.int .i64 d1, .int .i64 d2, .int .i64 d3, .int .i64 d4, .slice a o.length c], .int .i64 i, .int .i64 size, .int .i64 n] w fun e w' => e = .returned (.bool (Dt.okNode n i size (d1, d2, d3, d4, o))) ∧ Below w.heap.size w w' := by
  have H := Lib.hid h; clear h
  by_cases h0 : 0 < o.length
  · have HK : Hid (Dt.okNode n i size (d1, d2, d3, d4, o) = ((d1 == 0 && d2 == 0 && d3 == 0 && d4 == 0) && (decide (o.length = n) && okPerm o))) := by show _ = _; unfold Dt.okNode; rw [if_pos h0]
    go_enter Try.func133, Try.ntmps133
    go_wp2_with (go_at_call 182; refine (l3Good_any a c o _ hl (H.out.below (Nat.le_refl _) (by (repeat (first | exact Below.refl _ _ | assumption | refine Below.setCell ?_ (by first | omega | (simp; done) | (simp; omega)) _ | refine Below.alloc ?_ (by first | omega | (simp; done) | (simp; omega)) _ | refine Below.drew ?_ | refine below_drewN ?_ _))))).mono ?_; rintro e w' ⟨rfl, hb⟩; obtain ⟨hcl, hfr⟩ := standsN hb)
    all_goals go_ret
    all_goals refine ⟨ret_bool ?_, ?_⟩
    all_goals first | ((try clear hcl hfr); (try clear hb); have hk := HK.out; clear HK H; rw [hk]; clear hk; (first | (have e9 : o.length = n := by omega) | (have e9 : ¬ o.length = n := by omega) | skip); simp [*]; done) | ((repeat (first | exact Below.refl _ _ | assumption | refine Below.setCell ?_ (by first | omega | (simp; done) | (simp; omega)) _ | refine Below.alloc ?_ (by first | omega | (simp; done) | (simp; omega)) _ | refine Below.drew ?_ | refine below_drewN ?_ _)); done) | (exact Below.trans (by (repeat (first | exact Below.refl _ _ | assumption | refine Below.setCell ?_ (by first | omega | (simp; done) | (simp; omega)) _ | refine Below.alloc ?_ (by first | omega | (simp; done) | (simp; omega)) _ | refine Below.drew ?_ | refine below_drewN ?_ _))) (hb.mono (by simp))) | skip
  · have HK : Hid (Dt.okNode n i size (d1, d2, d3, d4, o) = ((d1 != d2 && inB d1 0 ((n : Int) - 1) && inB d2 0 ((n : Int) - 1)) && (d3 != d4 && inB d3 ((i : Int) + 1) ((size : Int) - 1) && inB d4 ((i : Int) + 1) ((size : Int) - 1)))) := by show _ = _; unfold Dt.okNode; rw [if_neg h0]
    have h00 : o.length = 0 := by omega
    go_enter Try.func133, Try.ntmps133
    go_wp2_with (go_at_call 118; refine (l1In_any _ _ _ _).mono ?_; rintro e w' ⟨rfl, rfl⟩)
    all_goals go_ret
    all_goals refine ⟨ret_bool ?_, ?_⟩
    all_goals first | ((try clear hcl hfr); (try clear hb); have hk := HK.out; clear HK H; rw [hk]; clear hk; (first | (have e9 : o.length = n := by omega) | (have e9 : ¬ o.length = n := by omega) | skip); simp [*]; done) | ((repeat (first | exact Below.refl _ _ | assumption | refine Below.setCell ?_ (by first | omega | (simp; done) | (simp; omega)) _ | refine Below.alloc ?_ (by first | omega | (simp; done) | (simp; omega)) _ | refine Below.drew ?_ | refine below_drewN ?_ _)); done) | (exact Below.trans (by (repeat (first | exact Below.refl _ _ | assumption | refine Below.setCell ?_ (by first | omega | (simp; done) | (simp; omega)) _ | refine Below.alloc ?_ (by first | omega | (simp; done) | (simp; omega)) _ | refine Below.drew ?_ | refine below_drewN ?_ _))) (hb.mono (by simp))) | (have hk := HK.out; clear HK H; rw [hk]; clear hk h00 h0 hn hn5 hi hs hl; grind) | (have hk := HK.out; clear HK H; rw [hk]; clear hk; cases inB d4 ((i : Int) + 1) ((size : Int) - 1) <;> simp_all; done) | skip

end Go.Proofs.Ytmolneojjcjooaa
