/- Several texts in one: lemmas and walks of the functions that the law reaches. -/
import Derived.Test.YtcncjedhpnaoaaaY8
import Derived.Test.YtcncjedhpnaoaaaY12

namespace Go.Proofs.Ytcncjedhpnaoaaa
open Go.RowKit
set_option linter.unusedVariables false

set_option maxHeartbeats 2000000 in
theorem copyOfD_any (x : Addr) (cap : Nat) (zs : List Int) (w : World) (hlen : zs.length ≤ 1000) (h : IntsAt w (some x) zs) :
    Calls Try.prog 27 #[.slice (some x) zs.length cap] w (OwnEnd w zs zs.length) := by
  have E0 := Lib.hid (own_lit (w := w) (e := 3) (size := 1) #[] 0 (by omega) rfl)
  have HB := Lib.hid (show Below w.heap.size w (w.alloc (.cells #[] 3)) from (Below.refl _ _).alloc (Nat.le_refl _) _)
  have HN := Lib.hid (ints_news (h.below (Nat.le_refl _) HB.out))
  have hl : (zs.map (Value.int .i64)).length = zs.length * 1 := by simp
  have hsm : 0 + zs.length ≤ 1099511627776 := by omega
  have hle : w.heap.size ≤ (w.alloc (.cells #[] 3)).heap.size := by simp
  have HL := Lib.hid hl; have HS := Lib.hid hsm; have HLE := Lib.hid hle
  clear h hl hsm hle
  go_enter Try.func27, Try.ntmps27
  go_wp2_with (at_builtin; refine wpList_appX (v := .slice (some ⟨w.heap.size, 0, none⟩) 0 0) slInt rfl _ _ rfl rfl E0.out rfl HL.out HN.out (by simp [Value.oneCell']) HS.out HLE.out ?_; intro v' w2 hown2 hg2 ht2; obtain ⟨a', c', rfl⟩ := own_slice hown2; have HO := Lib.hid hown2; have HG := Lib.hid hg2; have HT := Lib.hid ht2; clear hown2 hg2 ht2)
  go_wp2
  go_ret
  obtain ⟨g, rfl, _, _⟩ := own_addr HO.out (by
    rcases HT.out with h | h
    · rw [h]; simp [Value.ownBlock]
    · rw [h]; simp)
  refine ⟨g, c', ?_, ?_, HB.out.grown HG.out (by simp) (fun k hk => ?_)⟩
  · rfl
  · have := HO.out
    rw [Nat.zero_add] at this
    simpa using this
  · simp [Value.ownBlock] at hk; omega

/-- A list that a call has made, and a number beside it. -/
def RunEnd (w : World) (r : List Int × Nat) (e : Ending) (w' : World) : Prop :=
  ∃ (g c : Nat), e = .returned (.tuple #[.slice (some ⟨g, 0, none⟩) r.1.length c, .int .i64 r.2]) ∧ w'.ownsRow w.heap.size 3 1 (.slice (some ⟨g, 0, none⟩) r.1.length c) r.1.length (r.1.map (Value.int .i64)) ∧ Below w.heap.size w w'

set_option maxRecDepth 100000 in
set_option maxHeartbeats 1000000 in
theorem decide_any (a : Option Addr) (c : Nat) (ns : List Dt.Nd) (ax : Option Addr) (cx : Nat) (zs : List Int) (w : World) (hz : zs.length ≤ 64) (hok : Dt.okTree (zs.length : Int) ns = true) (h : NodesAt w a ns) (hx : IntsAt w ax zs) :
    Calls Try.prog 20 #[.slice a ns.length c, .slice ax zs.length cx] w (RunEnd w (Dt.runT ns zs)) := by
  obtain ⟨o1, o2, o3, o4, o5, _⟩ := Dt.okTree_iff hok
  rw [Int.toNat_natCast] at o5
  have HN := Lib.hid o5; clear o5 hok
  have H := Lib.hid h; clear h
  have HX := Lib.hid hx; clear hx
  go_enter Try.func20, Try.ntmps20
  go_wp2
  go_loopw [6, 7, 8] (fun q i _ wr => ∃ (k f n : Nat), k < ns.length ∧ i = .int .i64 k ∧ q = .int .i64 n ∧ n ≤ k ∧ ns.length ≤ k + f ∧ Dt.run ns zs f k n = Dt.runT ns zs ∧ Below w.heap.size w wr) (fun _ i _ _ => ns.length - (intOf i).toNat)
  case atStart => exact ⟨0, ns.length, 0, by omega, rfl, rfl, by omega, by omega, rfl, Below.refl _ _⟩
  case round =>
    obtain ⟨k, f, n, hk, rfl, rfl, hn, hf, hrun, hb⟩ := hrel
    have HB := Lib.hid hb; clear hb
    obtain ⟨f, rfl⟩ : ∃ f', f = f' + 1 := ⟨f - 1, by omega⟩
    have hno := Dt.nodesOk_at HN.out hk
    obtain ⟨b, off, rfl, hn1⟩ := (H.out.same HB.out).at hk
    obtain ⟨c0, c1, c2, c3, ⟨x, cc, c4, hi, _⟩, hbg⟩ := hn1
    have HI := Lib.hid hi; clear hi
    by_cases h0 : 0 < (ns.getD k Dt.nd0).o.length
    · rw [Dt.run_leaf h0] at hrun
      have hol := (Dt.okNode_leaf hno h0).1
      generalize hd : ns.getD k Dt.nd0 = d at c0 c1 c2 c3 c4 HI hbg hrun h0 hol hno
      clear hd hno
      have HR := Lib.hid hrun; clear hrun
      obtain ⟨d1, d2, d3, d4, o⟩ := d
      simp only [Dt.Nd.a, Dt.Nd.b, Dt.Nd.l, Dt.Nd.g, Dt.Nd.o] at c0 c1 c2 c3 c4 hbg h0 hol
      have hol2 : o.length ≤ 1000 := by omega
      clear hol
      obtain ⟨bo, oo, rfl, _⟩ := HI.out.at h0
      go_wp2_with fail
      refine (copyOfD_any _ cc o _ hol2 (HI.out.below (Nat.le_refl _) (by (repeat (first | exact Below.refl _ _ | assumption | refine Below.setCell ?_ (by first | omega | (simp; done) | (simp; omega)) _ | refine Below.alloc ?_ (by first | omega | (simp; done) | (simp; omega)) _ | refine Below.drew ?_ | refine below_drewN ?_ _))))).mono ?_
      rintro e w2 ⟨g2, cg, rfl, ho2, hb2⟩
      have HO := Lib.hid (own_mono ho2 (show w.heap.size ≤ _ by have := HB.out.size; simp; omega))
      have HB2 := Lib.hid (show Below w.heap.size w w2 from HB.out.trans (Below.trans (by have := HB.out.size; (repeat (first | exact Below.refl _ _ | assumption | refine Below.setCell ?_ (by first | omega | (simp; done) | (simp; omega)) _ | refine Below.alloc ?_ (by first | omega | (simp; done) | (simp; omega)) _ | refine Below.drew ?_ | refine below_drewN ?_ _))) (hb2.mono (by have := HB.out.size; simp; omega))))
      clear hb2 ho2
      go_wp2
      go_ret2
      rw [← HR.out]
      exact ⟨g2, cg, rfl, HO.out, HB2.out⟩
    · have h00 : (ns.getD k Dt.nd0).o.length = 0 := by omega
      obtain ⟨⟨p1, p2⟩, ⟨p3, p4⟩, ⟨p5, p6⟩, p7, p8⟩ := Dt.okNode_in hno h00
      by_cases hlt : zs.getD (ns.getD k Dt.nd0).a.toNat 0 < zs.getD (ns.getD k Dt.nd0).b.toNat 0
      · rw [Dt.run_less h00 hlt] at hrun
        generalize hd : ns.getD k Dt.nd0 = d at c0 c1 c2 c3 c4 HI hbg hrun h00 hlt p1 p2 p3 p4 p5 p6 p7 p8
        clear hd hno h0
        obtain ⟨d1, d2, d3, d4, o⟩ := d
        simp only [Dt.Nd.a, Dt.Nd.b, Dt.Nd.l, Dt.Nd.g, Dt.Nd.o] at c0 c1 c2 c3 c4 hbg h00 hlt p1 p2 p3 p4 p5 p6 p7 p8 hrun
        obtain ⟨x1, rfl⟩ := Int.eq_ofNat_of_zero_le p1
        obtain ⟨x2, rfl⟩ := Int.eq_ofNat_of_zero_le p3
        obtain ⟨x3, rfl⟩ := Int.eq_ofNat_of_zero_le (show (0 : Int) ≤ d3 by omega)
        obtain ⟨x4, rfl⟩ := Int.eq_ofNat_of_zero_le (show (0 : Int) ≤ d4 by omega)
        simp only [Int.toNat_natCast] at hlt hrun
        obtain ⟨bz, oz, rfl, hz1⟩ := (HX.out.below (Nat.le_refl _) HB.out).at (show x1 < zs.length by omega)
        obtain ⟨bz', oz', e, hz2⟩ := (HX.out.below (Nat.le_refl _) HB.out).at (show x2 < zs.length by omega)
        injection e with e; injection e with e1 e2; subst e1; subst e2
        have hl1 : x1 < zs.length := by omega
        have hl2 : x2 < zs.length := by omega
        have HR := Lib.hid hrun; clear hrun
        generalize zs.getD x1 0 = y1 at hz1 hlt
        generalize zs.getD x2 0 = y2 at hz2 hlt
        go_wp2_with fail
        obtain ⟨W, hW⟩ : ∃ W, W = wr.alloc (.cells #[.int .i64 (x1 : Int), .int .i64 (x2 : Int), .int .i64 (x3 : Int), .int .i64 (x4 : Int), .slice x 0 cc] 55) := ⟨_, rfl⟩
        have bW : Below wr.heap.size wr W := by rw [hW]; (repeat (first | exact Below.refl _ _ | assumption | refine Below.setCell ?_ (by first | omega | (simp; done) | (simp; omega)) _ | refine Below.alloc ?_ (by first | omega | (simp; done) | (simp; omega)) _ | refine Below.drew ?_ | refine below_drewN ?_ _))
        have u0 : W.cell? ⟨wr.heap.size, 0, none⟩ = some (.int .i64 (x1 : Int)) := by rw [hW]; simp [go_sem]
        have u1 : W.cell? ⟨wr.heap.size, 1, none⟩ = some (.int .i64 (x2 : Int)) := by rw [hW]; simp [go_sem]
        have u2 : W.cell? ⟨wr.heap.size, 2, none⟩ = some (.int .i64 (x3 : Int)) := by rw [hW]; simp [go_sem]
        have u3 : W.cell? ⟨wr.heap.size, 3, none⟩ = some (.int .i64 (x4 : Int)) := by rw [hW]; simp [go_sem]
        have hz1 := (bW.cell (p := ⟨bz, oz + x1, none⟩) (World.block_lt_of_cell? wr _ hz1)).trans hz1
        have hz2 := (bW.cell (p := ⟨bz, oz + x2, none⟩) (World.block_lt_of_cell? wr _ hz2)).trans hz2
        have HB4 := Lib.hid (HB.out.trans (bW.mono HB.out.size))
        rw [← hW]
        clear hW bW c0 c1 c2 c3 c4
        go_still_tail 10, (by kernel_rfl)
        go_wp2
        go_roundw
        case rel => exact ⟨x3, f, n + 1, by omega, by go_num, by go_num, by omega, by omega, HR.out, by have := HB4.out; (repeat (first | exact Below.refl _ _ | assumption | refine Below.setCell ?_ (by first | omega | (simp; done) | (simp; omega)) _ | refine Below.alloc ?_ (by first | omega | (simp; done) | (simp; omega)) _ | refine Below.drew ?_ | refine below_drewN ?_ _))⟩
        case measure => simp [intOf]; omega
      · rw [Dt.run_more h00 hlt] at hrun
        generalize hd : ns.getD k Dt.nd0 = d at c0 c1 c2 c3 c4 HI hbg hrun h00 hlt p1 p2 p3 p4 p5 p6 p7 p8
        clear hd hno h0
        obtain ⟨d1, d2, d3, d4, o⟩ := d
        simp only [Dt.Nd.a, Dt.Nd.b, Dt.Nd.l, Dt.Nd.g, Dt.Nd.o] at c0 c1 c2 c3 c4 hbg h00 hlt p1 p2 p3 p4 p5 p6 p7 p8 hrun
        obtain ⟨x1, rfl⟩ := Int.eq_ofNat_of_zero_le p1
        obtain ⟨x2, rfl⟩ := Int.eq_ofNat_of_zero_le p3
        obtain ⟨x3, rfl⟩ := Int.eq_ofNat_of_zero_le (show (0 : Int) ≤ d3 by omega)
        obtain ⟨x4, rfl⟩ := Int.eq_ofNat_of_zero_le (show (0 : Int) ≤ d4 by omega)
        simp only [Int.toNat_natCast] at hlt hrun
        obtain ⟨bz, oz, rfl, hz1⟩ := (HX.out.below (Nat.le_refl _) HB.out).at (show x1 < zs.length by omega)
        obtain ⟨bz', oz', e, hz2⟩ := (HX.out.below (Nat.le_refl _) HB.out).at (show x2 < zs.length by omega)
        injection e with e; injection e with e1 e2; subst e1; subst e2
        have hl1 : x1 < zs.length := by omega
        have hl2 : x2 < zs.length := by omega
        have HR := Lib.hid hrun; clear hrun
        generalize zs.getD x1 0 = y1 at hz1 hlt
        generalize zs.getD x2 0 = y2 at hz2 hlt
        go_wp2_with fail
        obtain ⟨W, hW⟩ : ∃ W, W = wr.alloc (.cells #[.int .i64 (x1 : Int), .int .i64 (x2 : Int), .int .i64 (x3 : Int), .int .i64 (x4 : Int), .slice x 0 cc] 55) := ⟨_, rfl⟩
        have bW : Below wr.heap.size wr W := by rw [hW]; (repeat (first | exact Below.refl _ _ | assumption | refine Below.setCell ?_ (by first | omega | (simp; done) | (simp; omega)) _ | refine Below.alloc ?_ (by first | omega | (simp; done) | (simp; omega)) _ | refine Below.drew ?_ | refine below_drewN ?_ _))
        have u0 : W.cell? ⟨wr.heap.size, 0, none⟩ = some (.int .i64 (x1 : Int)) := by rw [hW]; simp [go_sem]
        have u1 : W.cell? ⟨wr.heap.size, 1, none⟩ = some (.int .i64 (x2 : Int)) := by rw [hW]; simp [go_sem]
        have u2 : W.cell? ⟨wr.heap.size, 2, none⟩ = some (.int .i64 (x3 : Int)) := by rw [hW]; simp [go_sem]
        have u3 : W.cell? ⟨wr.heap.size, 3, none⟩ = some (.int .i64 (x4 : Int)) := by rw [hW]; simp [go_sem]
        have hz1 := (bW.cell (p := ⟨bz, oz + x1, none⟩) (World.block_lt_of_cell? wr _ hz1)).trans hz1
        have hz2 := (bW.cell (p := ⟨bz, oz + x2, none⟩) (World.block_lt_of_cell? wr _ hz2)).trans hz2
        have HB4 := Lib.hid (HB.out.trans (bW.mono HB.out.size))
        rw [← hW]
        clear hW bW c0 c1 c2 c3 c4
        go_still_tail 10, (by kernel_rfl)
        go_wp2
        go_roundw
        case rel => exact ⟨x4, f, n + 1, by omega, by go_num, by go_num, by omega, by omega, HR.out, by have := HB4.out; (repeat (first | exact Below.refl _ _ | assumption | refine Below.setCell ?_ (by first | omega | (simp; done) | (simp; omega)) _ | refine Below.alloc ?_ (by first | omega | (simp; done) | (simp; omega)) _ | refine Below.drew ?_ | refine below_drewN ?_ _))⟩
        case measure => simp [intOf]; omega

end Go.Proofs.Ytcncjedhpnaoaaa

namespace Go.Proofs.Ytcncjedhpnaoaaa
open Go.RowKit
set_option linter.unusedVariables false

theorem okList_lenD {zs : List Int} (h : okList zs = true) : zs.length ≤ 64 := by
  unfold okList at h; rw [Bool.and_eq_true] at h; simpa using h.1

/-- A list that a call has made, a number and a truth value beside it. -/
def Run3 (w : World) (q : (List Int × Nat) × Bool) (e : Ending) (w' : World) : Prop :=
  ∃ (x : Option Addr) (c : Nat), e = .returned (.tuple #[.slice x q.1.1.length c, .int .i64 q.1.2, .bool q.2]) ∧ w'.ownsRow w.heap.size 3 1 (.slice x q.1.1.length c) q.1.1.length (q.1.1.map (Value.int .i64)) ∧ Below w.heap.size w w'
def runQ (ns : List Dt.Nd) (zs : List Int) : (List Int × Nat) × Bool := if okList zs = true ∧ Dt.okTree (zs.length : Int) ns = true then (Dt.runT ns zs, true) else (([], 0), false)
theorem runQ_no1 {ns : List Dt.Nd} {zs : List Int} (h : okList zs = false) : runQ ns zs = (([], 0), false) := by unfold runQ; rw [if_neg (by rw [h]; simp)]
theorem runQ_no2 {ns : List Dt.Nd} {zs : List Int} (h : Dt.okTree (zs.length : Int) ns = false) : runQ ns zs = (([], 0), false) := by unfold runQ; rw [if_neg (by rw [h]; simp)]
theorem runQ_yes {ns : List Dt.Nd} {zs : List Int} (h : okList zs = true) (h2 : Dt.okTree (zs.length : Int) ns = true) : runQ ns zs = (Dt.runT ns zs, true) := by unfold runQ; rw [if_pos ⟨h, h2⟩]
set_option maxHeartbeats 1000000 in
theorem runDecisions_any (a : Option Addr) (c : Nat) (ns : List Dt.Nd) (ax : Option Addr) (cx : Nat) (zs : List Int) (w : World) (hbig : ns.length ≤ 9223372036854775807) (hbz : zs.length ≤ 9223372036854775807) (h : NodesAt w a ns) (hx : IntsAt w ax zs) :
    Calls Try.prog 6 #[.slice a ns.length c, .slice ax zs.length cx] w (Run3 w (runQ ns zs)) := by
  have HL := Lib.hid (isValidList_any ax cx zs w hbz hx)
  have HV := Lib.hid (fun (W : World) (hb : Below w.heap.size w W) => isValidDecisions_any a c ns (zs.length : Int) W hbig (h.same hb))
  have H := Lib.hid h; clear h
  have HX := Lib.hid hx; clear hx
  cases h1 : okList zs
  · have HQ := Lib.hid (runQ_no1 (ns := ns) h1)
    rw [h1] at HL
    clear h1
    go_enter Try.func6, Try.ntmps6
    go_wp2_with fail
    refine HL.out.mono ?_
    rintro e w' ⟨rfl, hb1⟩
    have HB := Lib.hid hb1; clear hb1
    go_wp2
    go_ret3
    rw [HQ.out]
    exact ⟨none, 0, rfl, ⟨rfl, .inl ⟨rfl, rfl⟩⟩, HB.out⟩
  · rw [h1] at HL
    cases h2 : Dt.okTree (zs.length : Int) ns
    · have HQ := Lib.hid (runQ_no2 h2)
      rw [h2] at HV
      clear h1 h2
      go_enter Try.func6, Try.ntmps6
      go_wp2_with fail
      refine HL.out.mono ?_
      rintro e w' ⟨rfl, hb1⟩
      have HB1 := Lib.hid hb1; clear hb1
      go_wp2_with fail
      refine (HV.out _ HB1.out).mono ?_
      rintro e w2 ⟨rfl, hb2⟩
      have HB := Lib.hid (HB1.out.trans (hb2.mono HB1.out.size)); clear hb2
      go_wp2
      go_ret3
      rw [HQ.out]
      exact ⟨none, 0, rfl, ⟨rfl, .inl ⟨rfl, rfl⟩⟩, HB.out⟩
    · have HQ := Lib.hid (runQ_yes h1 h2)
      have HOK := Lib.hid h2
      have hl := okList_lenD h1
      rw [h2] at HV
      clear h1 h2
      go_enter Try.func6, Try.ntmps6
      go_wp2_with fail
      refine HL.out.mono ?_
      rintro e w' ⟨rfl, hb1⟩
      have HB1 := Lib.hid hb1; clear hb1
      go_wp2_with fail
      refine (HV.out _ HB1.out).mono ?_
      rintro e w2 ⟨rfl, hb2⟩
      have HB := Lib.hid (HB1.out.trans (hb2.mono HB1.out.size)); clear hb2
      go_wp2_with fail
      refine (decide_any a c ns ax cx zs _ hl HOK.out (H.out.same HB.out) (HX.out.below (Nat.le_refl _) HB.out)).mono ?_
      rintro e w3 ⟨g, cg, rfl, ho, hb3⟩
      have HO := Lib.hid (own_mono ho HB.out.size)
      have HB3 := Lib.hid (HB.out.trans (hb3.mono HB.out.size)); clear hb3 ho
      go_wp2
      go_ret3
      rw [HQ.out]
      exact ⟨_, cg, rfl, HO.out, HB3.out⟩

end Go.Proofs.Ytcncjedhpnaoaaa

