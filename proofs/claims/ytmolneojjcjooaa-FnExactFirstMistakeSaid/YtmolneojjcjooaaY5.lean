/- Several texts in one: lemmas and walks of the functions that the laws reach. -/
import Derived.Test.YtmolneojjcjooaaY2
import Derived.Test.YtmolneojjcjooaaY3
import Derived.Test.YtmolneojjcjooaaY4
import Derived.Test.YtmolneojjcjooaaY1
import Derived.Test.YtmolneojjcjooaaY0

/- Walks: what a decision tree decides. -/
namespace Go.Proofs.Ytmolneojjcjooaa
open Go.RowKit
set_option linter.unusedVariables false

set_option maxHeartbeats 2000000 in
theorem copyOfD_any (x : Addr) (cap : Nat) (zs : List Int) (w : World) (hlen : zs.length ≤ 1000) (h : IntsAt w (some x) zs) :
    Calls Try.prog 84 #[.slice (some x) zs.length cap] w (OwnEnd w zs zs.length) := by
  have E0 := Lib.hid (own_lit (w := w) (e := 3) (size := 1) #[] 0 (by omega) rfl)
  have HB := Lib.hid (show Below w.heap.size w (w.alloc (.cells #[] 3)) from (Below.refl _ _).alloc (Nat.le_refl _) _)
  have HN := Lib.hid (ints_news (h.below (Nat.le_refl _) HB.out))
  have hl : (zs.map (Value.int .i64)).length = zs.length * 1 := by simp
  have hsm : 0 + zs.length ≤ 1099511627776 := by omega
  have hle : w.heap.size ≤ (w.alloc (.cells #[] 3)).heap.size := by simp
  have HL := Lib.hid hl; have HS := Lib.hid hsm; have HLE := Lib.hid hle
  clear h hl hsm hle
  go_enter Try.func84, Try.ntmps84
  go_wp2_with (at_builtin; refine wpList_appX (v := .slice (some ⟨w.heap.size, 0, none⟩) 0 0) slInt rfl _ _ rfl rfl E0.out rfl HL.out HN.out (by simp [Value.oneCell']) HS.out HLE.out ?_; intro v' w2 hown2 hg2 ht2; obtain ⟨a', c', rfl⟩ := own_slice hown2; have HO := Lib.hid hown2; have HG := Lib.hid hg2; have HT := Lib.hid ht2; clear hown2 hg2 ht2)
  go_wp2
  go_ret
  obtain ⟨g, rfl, _, _⟩ := own_addr HO.out (by
    rcases HT.out with h | h
    · rw [h]; simp [Value.ownBlock]
    · rw [h]; simp)
  refine ⟨g, c', ?_, ?_, HB.out.grown HG.out (by simp) (fun k hk => ?_)⟩
  · rfl
  · have := HO.out
    rw [Nat.zero_add] at this
    simpa using this
  · simp [Value.ownBlock] at hk; omega


/-- A list that a call has made, and a number beside it. -/
def RunEnd (w : World) (r : List Int × Nat) (e : Ending) (w' : World) : Prop :=
  ∃ (g c : Nat), e = .returned (.tuple #[.slice (some ⟨g, 0, none⟩) r.1.length c, .int .i64 r.2]) ∧ w'.ownsRow w.heap.size 3 1 (.slice (some ⟨g, 0, none⟩) r.1.length c) r.1.length (r.1.map (Value.int .i64)) ∧ Below w.heap.size w w'

set_option maxRecDepth 100000 in
set_option maxHeartbeats 1000000 in
theorem decide_any (a : Option Addr) (c : Nat) (ns : List Dt.Nd) (ax : Option Addr) (cx : Nat) (zs : List Int) (w : World) (hz : zs.length ≤ 64) (hok : Dt.okTree (zs.length : Int) ns = true) (h : NodesAt w a ns) (hx : IntsAt w ax zs) :
    Calls Try.prog 69 #[.slice a ns.length c, .slice ax zs.length cx] w (RunEnd w (Dt.runT ns zs)) := by
  obtain ⟨o1, o2, o3, o4, o5, _⟩ := Dt.okTree_iff hok
  rw [Int.toNat_natCast] at o5
  have HN := Lib.hid o5; clear o5 hok
  have H := Lib.hid h; clear h
  have HX := Lib.hid hx; clear hx
  go_enter Try.func69, Try.ntmps69
  go_wp2
  go_loopw [6, 7, 8] (fun q i _ wr => ∃ (k f n : Nat), k < ns.length ∧ i = .int .i64 k ∧ q = .int .i64 n ∧ n ≤ k ∧ ns.length ≤ k + f ∧ Dt.run ns zs f k n = Dt.runT ns zs ∧ Below w.heap.size w wr) (fun _ i _ _ => ns.length - (intOf i).toNat)
  case atStart => exact ⟨0, ns.length, 0, by omega, rfl, rfl, by omega, by omega, rfl, Below.refl _ _⟩
  case round =>
    obtain ⟨k, f, n, hk, rfl, rfl, hn, hf, hrun, hb⟩ := hrel
    have HB := Lib.hid hb; clear hb
    obtain ⟨f, rfl⟩ : ∃ f', f = f' + 1 := ⟨f - 1, by omega⟩
    have hno := Dt.nodesOk_at HN.out hk
    obtain ⟨b, off, rfl, hn1⟩ := (H.out.same HB.out).at hk
    obtain ⟨c0, c1, c2, c3, ⟨x, cc, c4, hi, _⟩, hbg⟩ := hn1
    have HI := Lib.hid hi; clear hi
    by_cases h0 : 0 < (ns.getD k Dt.nd0).o.length
    · rw [Dt.run_leaf h0] at hrun
      have hol := (Dt.okNode_leaf hno h0).1
      generalize hd : ns.getD k Dt.nd0 = d at c0 c1 c2 c3 c4 HI hbg hrun h0 hol hno
      clear hd hno
      have HR := Lib.hid hrun; clear hrun
      obtain ⟨d1, d2, d3, d4, o⟩ := d
      simp only [Dt.Nd.a, Dt.Nd.b, Dt.Nd.l, Dt.Nd.g, Dt.Nd.o] at c0 c1 c2 c3 c4 hbg h0 hol
      have hol2 : o.length ≤ 1000 := by omega
      clear hol
      obtain ⟨bo, oo, rfl, _⟩ := HI.out.at h0
      go_wp2_with fail
      refine (copyOfD_any _ cc o _ hol2 (HI.out.below (Nat.le_refl _) (by (repeat (first | exact Below.refl _ _ | assumption | refine Below.setCell ?_ (by first | omega | (simp; done) | (simp; omega)) _ | refine Below.alloc ?_ (by first | omega | (simp; done) | (simp; omega)) _ | refine Below.drew ?_ | refine below_drewN ?_ _))))).mono ?_
      rintro e w2 ⟨g2, cg, rfl, ho2, hb2⟩
      have HO := Lib.hid (own_mono ho2 (show w.heap.size ≤ _ by have := HB.out.size; simp; omega))
      have HB2 := Lib.hid (show Below w.heap.size w w2 from HB.out.trans (Below.trans (by have := HB.out.size; (repeat (first | exact Below.refl _ _ | assumption | refine Below.setCell ?_ (by first | omega | (simp; done) | (simp; omega)) _ | refine Below.alloc ?_ (by first | omega | (simp; done) | (simp; omega)) _ | refine Below.drew ?_ | refine below_drewN ?_ _))) (hb2.mono (by have := HB.out.size; simp; omega))))
      clear hb2 ho2
      go_wp2
      go_ret2
      rw [← HR.out]
      exact ⟨g2, cg, rfl, HO.out, HB2.out⟩
    · have h00 : (ns.getD k Dt.nd0).o.length = 0 := by omega
      obtain ⟨⟨p1, p2⟩, ⟨p3, p4⟩, ⟨p5, p6⟩, p7, p8⟩ := Dt.okNode_in hno h00
      by_cases hlt : zs.getD (ns.getD k Dt.nd0).a.toNat 0 < zs.getD (ns.getD k Dt.nd0).b.toNat 0
      · rw [Dt.run_less h00 hlt] at hrun
        generalize hd : ns.getD k Dt.nd0 = d at c0 c1 c2 c3 c4 HI hbg hrun h00 hlt p1 p2 p3 p4 p5 p6 p7 p8
        clear hd hno h0
        obtain ⟨d1, d2, d3, d4, o⟩ := d
        simp only [Dt.Nd.a, Dt.Nd.b, Dt.Nd.l, Dt.Nd.g, Dt.Nd.o] at c0 c1 c2 c3 c4 hbg h00 hlt p1 p2 p3 p4 p5 p6 p7 p8 hrun
        obtain ⟨x1, rfl⟩ := Int.eq_ofNat_of_zero_le p1
        obtain ⟨x2, rfl⟩ := Int.eq_ofNat_of_zero_le p3
        obtain ⟨x3, rfl⟩ := Int.eq_ofNat_of_zero_le (show (0 : Int) ≤ d3 by omega)
        obtain ⟨x4, rfl⟩ := Int.eq_ofNat_of_zero_le (show (0 : Int) ≤ d4 by omega)
        simp only [Int.toNat_natCast] at hlt hrun
        obtain ⟨bz, oz, rfl, hz1⟩ := (HX.out.below (Nat.le_refl _) HB.out).at (show x1 < zs.length by omega)
        obtain ⟨bz', oz', e, hz2⟩ := (HX.out.below (Nat.le_refl _) HB.out).at (show x2 < zs.length by omega)
        injection e with e; injection e with e1 e2; subst e1; subst e2
        have hl1 : x1 < zs.length := by omega
        have hl2 : x2 < zs.length := by omega
        have HR := Lib.hid hrun; clear hrun
        generalize zs.getD x1 0 = y1 at hz1 hlt
        generalize zs.getD x2 0 = y2 at hz2 hlt
        go_wp2_with fail
        obtain ⟨W, hW⟩ : ∃ W, W = wr.alloc (.cells #[.int .i64 (x1 : Int), .int .i64 (x2 : Int), .int .i64 (x3 : Int), .int .i64 (x4 : Int), .slice x 0 cc] 86) := ⟨_, rfl⟩
        have bW : Below wr.heap.size wr W := by rw [hW]; (repeat (first | exact Below.refl _ _ | assumption | refine Below.setCell ?_ (by first | omega | (simp; done) | (simp; omega)) _ | refine Below.alloc ?_ (by first | omega | (simp; done) | (simp; omega)) _ | refine Below.drew ?_ | refine below_drewN ?_ _))
        have u0 : W.cell? ⟨wr.heap.size, 0, none⟩ = some (.int .i64 (x1 : Int)) := by rw [hW]; simp [go_sem]
        have u1 : W.cell? ⟨wr.heap.size, 1, none⟩ = some (.int .i64 (x2 : Int)) := by rw [hW]; simp [go_sem]
        have u2 : W.cell? ⟨wr.heap.size, 2, none⟩ = some (.int .i64 (x3 : Int)) := by rw [hW]; simp [go_sem]
        have u3 : W.cell? ⟨wr.heap.size, 3, none⟩ = some (.int .i64 (x4 : Int)) := by rw [hW]; simp [go_sem]
        have hz1 := (bW.cell (p := ⟨bz, oz + x1, none⟩) (World.block_lt_of_cell? wr _ hz1)).trans hz1
        have hz2 := (bW.cell (p := ⟨bz, oz + x2, none⟩) (World.block_lt_of_cell? wr _ hz2)).trans hz2
        have HB4 := Lib.hid (HB.out.trans (bW.mono HB.out.size))
        rw [← hW]
        clear hW bW c0 c1 c2 c3 c4
        go_still_tail 10, (by kernel_rfl)
        go_wp2
        go_roundw
        case rel => exact ⟨x3, f, n + 1, by omega, by go_num, by go_num, by omega, by omega, HR.out, by have := HB4.out; (repeat (first | exact Below.refl _ _ | assumption | refine Below.setCell ?_ (by first | omega | (simp; done) | (simp; omega)) _ | refine Below.alloc ?_ (by first | omega | (simp; done) | (simp; omega)) _ | refine Below.drew ?_ | refine below_drewN ?_ _))⟩
        case measure => simp [intOf]; omega
      · rw [Dt.run_more h00 hlt] at hrun
        generalize hd : ns.getD k Dt.nd0 = d at c0 c1 c2 c3 c4 HI hbg hrun h00 hlt p1 p2 p3 p4 p5 p6 p7 p8
        clear hd hno h0
        obtain ⟨d1, d2, d3, d4, o⟩ := d
        simp only [Dt.Nd.a, Dt.Nd.b, Dt.Nd.l, Dt.Nd.g, Dt.Nd.o] at c0 c1 c2 c3 c4 hbg h00 hlt p1 p2 p3 p4 p5 p6 p7 p8 hrun
        obtain ⟨x1, rfl⟩ := Int.eq_ofNat_of_zero_le p1
        obtain ⟨x2, rfl⟩ := Int.eq_ofNat_of_zero_le p3
        obtain ⟨x3, rfl⟩ := Int.eq_ofNat_of_zero_le (show (0 : Int) ≤ d3 by omega)
        obtain ⟨x4, rfl⟩ := Int.eq_ofNat_of_zero_le (show (0 : Int) ≤ d4 by omega)
        simp only [Int.toNat_natCast] at hlt hrun
        obtain ⟨bz, oz, rfl, hz1⟩ := (HX.out.below (Nat.le_refl _) HB.out).at (show x1 < zs.length by omega)
        obtain ⟨bz', oz', e, hz2⟩ := (HX.out.below (Nat.le_refl _) HB.out).at (show x2 < zs.length by omega)
        injection e with e; injection e with e1 e2; subst e1; subst e2
        have hl1 : x1 < zs.length := by omega
        have hl2 : x2 < zs.length := by omega
        have HR := Lib.hid hrun; clear hrun
        generalize zs.getD x1 0 = y1 at hz1 hlt
        generalize zs.getD x2 0 = y2 at hz2 hlt
        go_wp2_with fail
        obtain ⟨W, hW⟩ : ∃ W, W = wr.alloc (.cells #[.int .i64 (x1 : Int), .int .i64 (x2 : Int), .int .i64 (x3 : Int), .int .i64 (x4 : Int), .slice x 0 cc] 86) := ⟨_, rfl⟩
        have bW : Below wr.heap.size wr W := by rw [hW]; (repeat (first | exact Below.refl _ _ | assumption | refine Below.setCell ?_ (by first | omega | (simp; done) | (simp; omega)) _ | refine Below.alloc ?_ (by first | omega | (simp; done) | (simp; omega)) _ | refine Below.drew ?_ | refine below_drewN ?_ _))
        have u0 : W.cell? ⟨wr.heap.size, 0, none⟩ = some (.int .i64 (x1 : Int)) := by rw [hW]; simp [go_sem]
        have u1 : W.cell? ⟨wr.heap.size, 1, none⟩ = some (.int .i64 (x2 : Int)) := by rw [hW]; simp [go_sem]
        have u2 : W.cell? ⟨wr.heap.size, 2, none⟩ = some (.int .i64 (x3 : Int)) := by rw [hW]; simp [go_sem]
        have u3 : W.cell? ⟨wr.heap.size, 3, none⟩ = some (.int .i64 (x4 : Int)) := by rw [hW]; simp [go_sem]
        have hz1 := (bW.cell (p := ⟨bz, oz + x1, none⟩) (World.block_lt_of_cell? wr _ hz1)).trans hz1
        have hz2 := (bW.cell (p := ⟨bz, oz + x2, none⟩) (World.block_lt_of_cell? wr _ hz2)).trans hz2
        have HB4 := Lib.hid (HB.out.trans (bW.mono HB.out.size))
        rw [← hW]
        clear hW bW c0 c1 c2 c3 c4
        go_still_tail 10, (by kernel_rfl)
        go_wp2
        go_roundw
        case rel => exact ⟨x4, f, n + 1, by omega, by go_num, by go_num, by omega, by omega, HR.out, by have := HB4.out; (repeat (first | exact Below.refl _ _ | assumption | refine Below.setCell ?_ (by first | omega | (simp; done) | (simp; omega)) _ | refine Below.alloc ?_ (by first | omega | (simp; done) | (simp; omega)) _ | refine Below.drew ?_ | refine below_drewN ?_ _))⟩
        case measure => simp [intOf]; omega

set_option maxRecDepth 100000 in
set_option maxHeartbeats 1000000 in
theorem l23Run_any (a : Option Addr) (c : Nat) (ns : List Dt.Nd) (ax : Option Addr) (cx : Nat) (zs : List Int) (w : World) (hz : zs.length ≤ 64) (hok : Dt.okTree (zs.length : Int) ns = true) (h : NodesAt w a ns) (hx : IntsAt w ax zs) :
    Calls Try.prog 67 #[.slice a ns.length c, .slice ax zs.length cx] w (RunEnd w (Dt.runT ns zs)) := by
  obtain ⟨o1, o2, o3, o4, o5, _⟩ := Dt.okTree_iff hok
  rw [Int.toNat_natCast] at o5
  have HN := Lib.hid o5; clear o5 hok
  have H := Lib.hid h; clear h
  have HX := Lib.hid hx; clear hx
  go_enter Try.func67, Try.ntmps67
  go_wp2
  go_loopw [6, 7] (fun i q wr => ∃ (k f n : Nat), k < ns.length ∧ i = .int .i64 k ∧ q = .int .i64 n ∧ n ≤ k ∧ ns.length ≤ k + f ∧ Dt.run ns zs f k n = Dt.runT ns zs ∧ Below w.heap.size w wr) (fun i _ _ => ns.length - (intOf i).toNat)
  case atStart => exact ⟨0, ns.length, 0, by omega, rfl, rfl, by omega, by omega, rfl, Below.refl _ _⟩
  case round =>
    obtain ⟨k, f, n, hk, rfl, rfl, hn, hf, hrun, hb⟩ := hrel
    have HB := Lib.hid hb; clear hb
    obtain ⟨f, rfl⟩ : ∃ f', f = f' + 1 := ⟨f - 1, by omega⟩
    have hno := Dt.nodesOk_at HN.out hk
    obtain ⟨b, off, rfl, hn1⟩ := (H.out.same HB.out).at hk
    obtain ⟨c0, c1, c2, c3, ⟨x, cc, c4, hi, _⟩, hbg⟩ := hn1
    have HI := Lib.hid hi; clear hi
    by_cases h0 : 0 < (ns.getD k Dt.nd0).o.length
    · rw [Dt.run_leaf h0] at hrun
      have hol := (Dt.okNode_leaf hno h0).1
      generalize hd : ns.getD k Dt.nd0 = d at c0 c1 c2 c3 c4 HI hbg hrun h0 hol hno
      clear hd hno
      have HR := Lib.hid hrun; clear hrun
      obtain ⟨d1, d2, d3, d4, o⟩ := d
      simp only [Dt.Nd.a, Dt.Nd.b, Dt.Nd.l, Dt.Nd.g, Dt.Nd.o] at c0 c1 c2 c3 c4 hbg h0 hol
      have hol2 : o.length ≤ 1000 := by omega
      clear hol
      obtain ⟨bo, oo, rfl, _⟩ := HI.out.at h0
      go_wp2_with fail
      refine (l1Own_any _ cc o _ hol2 HI.out).mono ?_
      rintro e w2 ⟨g2, cg, rfl, ho2, hb2⟩
      have HO := Lib.hid (own_mono ho2 HB.out.size)
      have HB2 := Lib.hid (show Below w.heap.size w w2 from HB.out.trans (hb2.mono HB.out.size))
      clear hb2 ho2
      go_wp2
      go_ret2
      rw [← HR.out]
      exact ⟨g2, cg, rfl, HO.out, HB2.out⟩
    · have h00 : (ns.getD k Dt.nd0).o.length = 0 := by omega
      obtain ⟨⟨p1, p2⟩, ⟨p3, p4⟩, ⟨p5, p6⟩, p7, p8⟩ := Dt.okNode_in hno h00
      by_cases hlt : zs.getD (ns.getD k Dt.nd0).a.toNat 0 < zs.getD (ns.getD k Dt.nd0).b.toNat 0
      · rw [Dt.run_less h00 hlt] at hrun
        generalize hd : ns.getD k Dt.nd0 = d at c0 c1 c2 c3 c4 HI hbg hrun h00 hlt p1 p2 p3 p4 p5 p6 p7 p8
        clear hd hno h0
        obtain ⟨d1, d2, d3, d4, o⟩ := d
        simp only [Dt.Nd.a, Dt.Nd.b, Dt.Nd.l, Dt.Nd.g, Dt.Nd.o] at c0 c1 c2 c3 c4 hbg h00 hlt p1 p2 p3 p4 p5 p6 p7 p8 hrun
        obtain ⟨x1, rfl⟩ := Int.eq_ofNat_of_zero_le p1
        obtain ⟨x2, rfl⟩ := Int.eq_ofNat_of_zero_le p3
        obtain ⟨x3, rfl⟩ := Int.eq_ofNat_of_zero_le (show (0 : Int) ≤ d3 by omega)
        obtain ⟨x4, rfl⟩ := Int.eq_ofNat_of_zero_le (show (0 : Int) ≤ d4 by omega)
        simp only [Int.toNat_natCast] at hlt hrun
        obtain ⟨bz, oz, rfl, hz1⟩ := (HX.out.below (Nat.le_refl _) HB.out).at (show x1 < zs.length by omega)
        obtain ⟨bz', oz', e, hz2⟩ := (HX.out.below (Nat.le_refl _) HB.out).at (show x2 < zs.length by omega)
        injection e with e; injection e with e1 e2; subst e1; subst e2
        have hl1 : x1 < zs.length := by omega
        have hl2 : x2 < zs.length := by omega
        have HR := Lib.hid hrun; clear hrun
        generalize zs.getD x1 0 = y1 at hz1 hlt
        generalize zs.getD x2 0 = y2 at hz2 hlt
        go_wp2_with fail
        go_still_tail 16, (by kernel_rfl)
        go_wp2
        go_roundw
        case rel => exact ⟨x3, f, n + 1, by omega, by go_num, by go_num, by omega, by omega, HR.out, by have := HB.out; (repeat (first | exact Below.refl _ _ | assumption | refine Below.setCell ?_ (by first | omega | (simp; done) | (simp; omega)) _ | refine Below.alloc ?_ (by first | omega | (simp; done) | (simp; omega)) _ | refine Below.drew ?_ | refine below_drewN ?_ _))⟩
        case measure => simp [intOf]; omega
      · rw [Dt.run_more h00 hlt] at hrun
        generalize hd : ns.getD k Dt.nd0 = d at c0 c1 c2 c3 c4 HI hbg hrun h00 hlt p1 p2 p3 p4 p5 p6 p7 p8
        clear hd hno h0
        obtain ⟨d1, d2, d3, d4, o⟩ := d
        simp only [Dt.Nd.a, Dt.Nd.b, Dt.Nd.l, Dt.Nd.g, Dt.Nd.o] at c0 c1 c2 c3 c4 hbg h00 hlt p1 p2 p3 p4 p5 p6 p7 p8 hrun
        obtain ⟨x1, rfl⟩ := Int.eq_ofNat_of_zero_le p1
        obtain ⟨x2, rfl⟩ := Int.eq_ofNat_of_zero_le p3
        obtain ⟨x3, rfl⟩ := Int.eq_ofNat_of_zero_le (show (0 : Int) ≤ d3 by omega)
        obtain ⟨x4, rfl⟩ := Int.eq_ofNat_of_zero_le (show (0 : Int) ≤ d4 by omega)
        simp only [Int.toNat_natCast] at hlt hrun
        obtain ⟨bz, oz, rfl, hz1⟩ := (HX.out.below (Nat.le_refl _) HB.out).at (show x1 < zs.length by omega)
        obtain ⟨bz', oz', e, hz2⟩ := (HX.out.below (Nat.le_refl _) HB.out).at (show x2 < zs.length by omega)
        injection e with e; injection e with e1 e2; subst e1; subst e2
        have hl1 : x1 < zs.length := by omega
        have hl2 : x2 < zs.length := by omega
        have HR := Lib.hid hrun; clear hrun
        generalize zs.getD x1 0 = y1 at hz1 hlt
        generalize zs.getD x2 0 = y2 at hz2 hlt
        go_wp2_with fail
        go_still_tail 16, (by kernel_rfl)
        go_wp2
        go_roundw
        case rel => exact ⟨x4, f, n + 1, by omega, by go_num, by go_num, by omega, by omega, HR.out, by have := HB.out; (repeat (first | exact Below.refl _ _ | assumption | refine Below.setCell ?_ (by first | omega | (simp; done) | (simp; omega)) _ | refine Below.alloc ?_ (by first | omega | (simp; done) | (simp; omega)) _ | refine Below.drew ?_ | refine below_drewN ?_ _))⟩
        case measure => simp [intOf]; omega

end Go.Proofs.Ytmolneojjcjooaa

/- Walks: RunDecisions of the program and of the reference. -/
namespace Go.Proofs.Ytmolneojjcjooaa
open Go.RowKit
set_option linter.unusedVariables false

theorem okList_lenD {zs : List Int} (h : okList zs = true) : zs.length ≤ 64 := by
  unfold okList at h; rw [Bool.and_eq_true] at h; simpa using h.1

/-- A list that a call has made, a number and a truth value beside it. -/
def Run3 (w : World) (q : (List Int × Nat) × Bool) (e : Ending) (w' : World) : Prop :=
  ∃ (x : Option Addr) (c : Nat), e = .returned (.tuple #[.slice x q.1.1.length c, .int .i64 q.1.2, .bool q.2]) ∧ w'.ownsRow w.heap.size 3 1 (.slice x q.1.1.length c) q.1.1.length (q.1.1.map (Value.int .i64)) ∧ Below w.heap.size w w'
def runQ (ns : List Dt.Nd) (zs : List Int) : (List Int × Nat) × Bool := if okList zs = true ∧ Dt.okTree (zs.length : Int) ns = true then (Dt.runT ns zs, true) else (([], 0), false)
theorem runQ_no1 {ns : List Dt.Nd} {zs : List Int} (h : okList zs = false) : runQ ns zs = (([], 0), false) := by unfold runQ; rw [if_neg (by rw [h]; simp)]
theorem runQ_no2 {ns : List Dt.Nd} {zs : List Int} (h : Dt.okTree (zs.length : Int) ns = false) : runQ ns zs = (([], 0), false) := by unfold runQ; rw [if_neg (by rw [h]; simp)]
theorem runQ_yes {ns : List Dt.Nd} {zs : List Int} (h : okList zs = true) (h2 : Dt.okTree (zs.length : Int) ns = true) : runQ ns zs = (Dt.runT ns zs, true) := by unfold runQ; rw [if_pos ⟨h, h2⟩]
theorem runQ_len (ns : List Dt.Nd) (zs : List Int) : (runQ ns zs).1.1.length ≤ 1000 := by
  unfold runQ
  split
  · rename_i h
    obtain ⟨o1, o2, o3, o4, o5, _⟩ := Dt.okTree_iff h.2
    rw [Int.toNat_natCast] at o5
    have := (Dt.runT_ok (zs := zs) o5 o3).1
    show (Dt.runT ns zs).1.length ≤ 1000
    omega
  · show ([] : List Int).length ≤ 1000
    simp

set_option maxHeartbeats 1000000 in
theorem runDecisions_any (a : Option Addr) (c : Nat) (ns : List Dt.Nd) (ax : Option Addr) (cx : Nat) (zs : List Int) (w : World) (hbig : ns.length ≤ 9223372036854775807) (hbz : zs.length ≤ 9223372036854775807) (h : NodesAt w a ns) (hx : IntsAt w ax zs) :
    Calls Try.prog 18 #[.slice a ns.length c, .slice ax zs.length cx] w (Run3 w (runQ ns zs)) := by
  have HL := Lib.hid (isValidList_any ax cx zs w hbz hx)
  have HV := Lib.hid (fun (W : World) (hb : Below w.heap.size w W) => isValidDecisions_any a c ns (zs.length : Int) W hbig (h.same hb))
  have H := Lib.hid h; clear h
  have HX := Lib.hid hx; clear hx
  cases h1 : okList zs
  · have HQ := Lib.hid (runQ_no1 (ns := ns) h1)
    rw [h1] at HL
    clear h1
    go_enter Try.func18, Try.ntmps18
    go_wp2_with fail
    refine HL.out.mono ?_
    rintro e w' ⟨rfl, hb1⟩
    have HB := Lib.hid hb1; clear hb1
    go_wp2
    go_ret3
    rw [HQ.out]
    exact ⟨none, 0, rfl, ⟨rfl, .inl ⟨rfl, rfl⟩⟩, HB.out⟩
  · rw [h1] at HL
    cases h2 : Dt.okTree (zs.length : Int) ns
    · have HQ := Lib.hid (runQ_no2 h2)
      rw [h2] at HV
      clear h1 h2
      go_enter Try.func18, Try.ntmps18
      go_wp2_with fail
      refine HL.out.mono ?_
      rintro e w' ⟨rfl, hb1⟩
      have HB1 := Lib.hid hb1; clear hb1
      go_wp2_with fail
      refine (HV.out _ HB1.out).mono ?_
      rintro e w2 ⟨rfl, hb2⟩
      have HB := Lib.hid (HB1.out.trans (hb2.mono HB1.out.size)); clear hb2
      go_wp2
      go_ret3
      rw [HQ.out]
      exact ⟨none, 0, rfl, ⟨rfl, .inl ⟨rfl, rfl⟩⟩, HB.out⟩
    · have HQ := Lib.hid (runQ_yes h1 h2)
      have HOK := Lib.hid h2
      have hl := okList_lenD h1
      rw [h2] at HV
      clear h1 h2
      go_enter Try.func18, Try.ntmps18
      go_wp2_with fail
      refine HL.out.mono ?_
      rintro e w' ⟨rfl, hb1⟩
      have HB1 := Lib.hid hb1; clear hb1
      go_wp2_with fail
      refine (HV.out _ HB1.out).mono ?_
      rintro e w2 ⟨rfl, hb2⟩
      have HB := Lib.hid (HB1.out.trans (hb2.mono HB1.out.size)); clear hb2
      go_wp2_with fail
      refine (decide_any a c ns ax cx zs _ hl HOK.out (H.out.same HB.out) (HX.out.below (Nat.le_refl _) HB.out)).mono ?_
      rintro e w3 ⟨g, cg, rfl, ho, hb3⟩
      have HO := Lib.hid (own_mono ho HB.out.size)
      have HB3 := Lib.hid (HB.out.trans (hb3.mono HB.out.size)); clear hb3 ho
      go_wp2
      go_ret3
      rw [HQ.out]
      exact ⟨_, cg, rfl, HO.out, HB3.out⟩

set_option maxHeartbeats 1000000 in
theorem specRunDecisions_any (a : Option Addr) (c : Nat) (ns : List Dt.Nd) (ax : Option Addr) (cx : Nat) (zs : List Int) (w : World) (hbig : ns.length ≤ 9223372036854775807) (hbz : zs.length ≤ 9223372036854775807) (h : NodesAt w a ns) (hx : IntsAt w ax zs) :
    Calls Try.prog 16 #[.slice a ns.length c, .slice ax zs.length cx] w (Run3 w (runQ ns zs)) := by
  have HL := Lib.hid (l2List_any ax cx zs w hbz hx)
  have HV := Lib.hid (l23Good_any a c ns (zs.length : Int) w hbig h)
  have H := Lib.hid h; clear h
  have HX := Lib.hid hx; clear hx
  cases h1 : okList zs
  · have HQ := Lib.hid (runQ_no1 (ns := ns) h1)
    rw [h1] at HL
    clear h1
    go_enter Try.func16, Try.ntmps16
    go_wp2_with (refine HL.out.mono ?_; rintro e w' ⟨rfl, rfl⟩)
    go_ret3
    rw [HQ.out]
    exact ⟨_, _, rfl, own_lit #[] 0 (by omega) rfl, by (repeat (first | exact Below.refl _ _ | assumption | refine Below.setCell ?_ (by first | omega | (simp; done) | (simp; omega)) _ | refine Below.alloc ?_ (by first | omega | (simp; done) | (simp; omega)) _ | refine Below.drew ?_ | refine below_drewN ?_ _))⟩
  · rw [h1] at HL
    cases h2 : Dt.okTree (zs.length : Int) ns
    · have HQ := Lib.hid (runQ_no2 h2)
      rw [h2] at HV
      clear h1 h2
      go_enter Try.func16, Try.ntmps16
      go_wp2_with fail
      refine HL.out.mono ?_
      rintro e w' ⟨rfl, rfl⟩
      go_wp2_with fail
      refine HV.out.mono ?_
      rintro e w2 ⟨rfl, hb2⟩
      have HB := Lib.hid hb2; clear hb2
      go_wp2
      go_ret3
      rw [HQ.out]
      exact ⟨_, _, rfl, own_mono (own_lit #[] 0 (by omega) rfl) HB.out.size, by have := HB.out; have := HB.out.size; (repeat (first | exact Below.refl _ _ | assumption | refine Below.setCell ?_ (by first | omega | (simp; done) | (simp; omega)) _ | refine Below.alloc ?_ (by first | omega | (simp; done) | (simp; omega)) _ | refine Below.drew ?_ | refine below_drewN ?_ _))⟩
    · have HQ := Lib.hid (runQ_yes h1 h2)
      have HOK := Lib.hid h2
      have hl := okList_lenD h1
      rw [h2] at HV
      clear h1 h2
      go_enter Try.func16, Try.ntmps16
      go_wp2_with fail
      refine HL.out.mono ?_
      rintro e w' ⟨rfl, rfl⟩
      go_wp2_with fail
      refine HV.out.mono ?_
      rintro e w2 ⟨rfl, hb2⟩
      have HB := Lib.hid hb2; clear hb2
      go_wp2_with fail
      refine (l23Run_any a c ns ax cx zs _ hl HOK.out (H.out.same HB.out) (HX.out.below (Nat.le_refl _) HB.out)).mono ?_
      rintro e w3 ⟨g, cg, rfl, ho, hb3⟩
      have HO := Lib.hid (own_mono ho HB.out.size)
      have HB3 := Lib.hid (HB.out.trans (hb3.mono HB.out.size)); clear hb3 ho
      go_wp2
      go_ret3
      rw [HQ.out]
      exact ⟨_, cg, rfl, HO.out, HB3.out⟩

end Go.Proofs.Ytmolneojjcjooaa

/- Walks: marks on ints and on nodes of decision trees; what is held. -/
namespace Go.Proofs.Ytmolneojjcjooaa
open Go.RowKit
set_option linter.unusedVariables false

set_option maxHeartbeats 400000 in
theorem markIntS_any (B : Nat) (a : Option Addr) (c n : Nat) (xs : List Value) (k : Int) (w : World) (hn : n ≤ 1048576) (hk0 : 0 ≤ k) (hk1 : k ≤ 4398046511104) (h : w.ownsRow B 3 1 (.slice a n c) n xs) :
    Calls Try.prog 21 #[.slice a n c, .int .i64 k] w fun e w' => e = .returned (.int .i64 (k + n)) ∧ (∃ ys, w'.ownsRow B 3 1 (.slice a n c) n ys) ∧ w.grownBy w' (Value.slice a n c).ownBlock := by
  have H := Lib.hid h; clear h
  go_enter Try.func21, Try.ntmps21
  go_wp2
  go_loopw [1, 5] (fun v i wr => ∃ j : Nat, j ≤ n ∧ i = .int .i64 j ∧ v = .int .i64 (k + j) ∧ (∃ ys, wr.ownsRow B 3 1 (.slice a n c) n ys) ∧ w.grownBy wr (Value.slice a n c).ownBlock) (fun _ i _ => n - (intOf i).toNat)
  case atStart => exact ⟨0, by omega, rfl, by simp, ⟨xs, H.out⟩, grown_refl _ _⟩
  case round =>
    obtain ⟨j, hj, rfl, rfl, ⟨ys, hown⟩, hg⟩ := hrel
    by_cases hlt : j < n
    · obtain ⟨g, rfl, _, _, hc⟩ := own_cell hown (by omega)
      have hq1 := hc j (by omega)
      obtain ⟨z, hc1⟩ : ∃ z, wr.cell? ⟨g, j, none⟩ = some z := ⟨_, by rw [hq1, List.getElem?_eq_getElem (by rw [hown.1]; omega)]⟩
      clear hq1
      have hf1 := hown.frozenAt j
      have HR := Lib.hid (hown.stored j (.int .i64 (k + j)))
      have HG := Lib.hid hg
      clear hc hown hg
      go_wp2
      go_roundw
      case rel => exact ⟨j + 1, by omega, by go_num, by go_num, ⟨_, HR.out.1⟩, grown_trans HG.out HR.out.2⟩
      case measure => simp [intOf]; omega
    · have e : j = n := by omega
      subst e
      have HO := Lib.hid hown
      have HG := Lib.hid hg
      clear hown hg
      go_wp2
      go_ret
      exact ⟨rfl, ⟨_, HO.out⟩, HG.out⟩

set_option maxHeartbeats 400000 in
theorem heldIntS_any (a : Option Addr) (c n : Nat) (xs : List Int) (k : Int) (w : World) (hn : n ≤ 1048576) (hk0 : 0 ≤ k) (hk1 : k ≤ 4398046511104) (hl : xs.length = n) (h : IntsAt w a xs) (hm : ∀ j, j < n → xs.getD j 0 = k + (j : Int)) :
    Calls Try.prog 22 #[.slice a n c, .int .i64 k] w fun e w' => e = .returned (.int .i64 (k + (n : Int))) ∧ w = w' := by
  have H := Lib.hid h; clear h
  have HM := Lib.hid hm; clear hm
  have HL := Lib.hid hl; clear hl
  go_enter Try.func22, Try.ntmps22
  go_wp2
  go_loop [1, 5] (fun v i => ∃ j : Nat, j ≤ n ∧ i = .int .i64 j ∧ v = .int .i64 (k + (j : Int))) (fun _ i => n - (intOf i).toNat)
  case atStart => exact ⟨0, by omega, rfl, by simp⟩
  case round =>
    obtain ⟨j, hj, rfl, rfl⟩ := hrel
    by_cases hlt : j < n
    · obtain ⟨b, off, rfl, hc1⟩ := H.out.at (show j < xs.length by rw [HL.out]; exact hlt)
      rw [HM.out j hlt] at hc1
      have q1 : ((k + (j : Int)) != (k + (j : Int))) = false := by simp
      go_wp2
      go_round
      case rel => exact ⟨j + 1, by omega, by go_num, by go_num⟩
      case measure => simp [intOf]; omega
    · have e : j = n := by omega
      subst e
      go_wp2
      go_ret
      exact ⟨rfl, rfl⟩

/-- Marked: what 'markIntS' leaves. -/
def mkI (n : Nat) (k : Int) (xs : List Int) (j : Nat) : List Int := (List.range n).map fun i : Nat => if i < j then k + (i : Int) else xs.getD i 0
theorem mkI_len (n : Nat) (k : Int) (xs : List Int) (j : Nat) : (mkI n k xs j).length = n := by simp [mkI]
theorem mkI_at {n j i : Nat} {k : Int} {xs : List Int} (h : i < n) : (mkI n k xs j).getD i 0 = if i < j then k + (i : Int) else xs.getD i 0 := by
  unfold mkI
  rw [List.getD_eq_getElem?_getD, List.getElem?_map, List.getElem?_range h]; rfl
theorem mkI_zero {n : Nat} {k : Int} {xs : List Int} (h : xs.length = n) : mkI n k xs 0 = xs := by
  refine List.ext_getElem (by rw [mkI_len, h]) fun i h1 h2 => ?_
  have := mkI_at (k := k) (xs := xs) (j := 0) (show i < n by rw [mkI_len] at h1; exact h1)
  rw [List.getD_eq_getElem?_getD, List.getElem?_eq_getElem h1, if_neg (by omega), List.getD_eq_getElem?_getD, List.getElem?_eq_getElem h2] at this
  exact this
theorem mkI_succ {n j : Nat} {k : Int} {xs : List Int} (h : j < n) : (mkI n k xs j).set j (k + (j : Int)) = mkI n k xs (j + 1) := by
  refine List.ext_getElem (by rw [List.length_set, mkI_len, mkI_len]) fun i h1 h2 => ?_
  have hi : i < n := by rw [mkI_len] at h2; exact h2
  have e1 := mkI_at (k := k) (xs := xs) (j := j) hi
  have e2 := mkI_at (k := k) (xs := xs) (j := j + 1) hi
  rw [List.getD_eq_getElem?_getD, List.getElem?_eq_getElem h2] at e2
  rw [List.getD_eq_getElem?_getD, List.getElem?_eq_getElem (by rw [mkI_len]; exact hi)] at e1
  rw [List.getElem_set]
  have e1 : (mkI n k xs j)[i]'(by rw [mkI_len]; exact hi) = _ := e1
  have e2 : (mkI n k xs (j + 1))[i] = _ := e2
  rw [e2]
  split
  · rename_i h; subst h; rw [if_pos (by omega)]
  · rw [e1]
    by_cases hij : i < j
    · rw [if_pos hij, if_pos (by omega)]
    · rw [if_neg hij, if_neg (by omega)]

set_option maxHeartbeats 400000 in
theorem markIntS_at (B : Nat) (a : Option Addr) (c n : Nat) (xs : List Int) (k : Int) (w : World) (hn : n ≤ 1048576) (hk0 : 0 ≤ k) (hk1 : k ≤ 4398046511104) (hl : xs.length = n) (h : w.ownsRow B 3 1 (.slice a n c) n (xs.map (Value.int .i64))) :
    Calls Try.prog 21 #[.slice a n c, .int .i64 k] w fun e w' => e = .returned (.int .i64 (k + n)) ∧ w'.ownsRow B 3 1 (.slice a n c) n ((mkI n k xs n).map (Value.int .i64)) ∧ w.grownBy w' (Value.slice a n c).ownBlock := by
  have HZ : Hid (mkI n k xs 0 = xs) := mkI_zero hl
  have HS := Lib.hid (fun j (hj : j < n) => mkI_succ (k := k) (xs := xs) hj)
  have HLN := Lib.hid (fun j => mkI_len n k xs j)
  rw [← HZ.out] at h
  have H := Lib.hid h; clear h
  go_enter Try.func21, Try.ntmps21
  go_wp2
  go_loopw [1, 5] (fun v i wr => ∃ j : Nat, j ≤ n ∧ i = .int .i64 j ∧ v = .int .i64 (k + j) ∧ wr.ownsRow B 3 1 (.slice a n c) n ((mkI n k xs j).map (Value.int .i64)) ∧ w.grownBy wr (Value.slice a n c).ownBlock) (fun _ i _ => n - (intOf i).toNat)
  case atStart => exact ⟨0, by omega, rfl, by simp, H.out, grown_refl _ _⟩
  case round =>
    obtain ⟨j, hj, rfl, rfl, hown, hg⟩ := hrel
    by_cases hlt : j < n
    · obtain ⟨g, rfl, _, _, hc⟩ := own_cell hown (by omega)
      have hq1 := hc j (by omega)
      obtain ⟨z, hc1⟩ : ∃ z, wr.cell? ⟨g, j, none⟩ = some z := ⟨_, by rw [hq1, List.getElem?_eq_getElem (by rw [hown.1]; omega)]⟩
      clear hq1
      have hf1 := hown.frozenAt j
      have hst := hown.stored j (.int .i64 (k + j))
      rw [← List.map_set, HS.out j hlt] at hst
      have HR := Lib.hid hst
      have HG := Lib.hid hg
      clear hc hown hg hst
      go_wp2
      go_roundw
      case rel => exact ⟨j + 1, by omega, by go_num, by go_num, HR.out.1, grown_trans HG.out HR.out.2⟩
      case measure => simp [intOf]; omega
    · have e : j = n := by omega
      subst e
      have HO := Lib.hid hown
      have HG := Lib.hid hg
      clear hown hg
      go_wp2
      go_ret
      exact ⟨rfl, HO.out, HG.out⟩

theorem NsW.put {w : World} {lo hi g n : Nat} {gs ms : Nat → Nat} (h : NsW w lo hi g n gs ms) {j q : Nat} (hj : j < n) (hq : q < 4) (v : Value) : NsW (w.setCell ⟨g, j * 5 + q, none⟩ v) lo hi g n gs ms := by
  obtain ⟨⟨xs, h1, h2⟩, h3, h4, h5⟩ := h
  refine ⟨⟨_, (h1.stored (j * 5 + q) v).1, fun i hi => ?_⟩, fun i hi => ?_, h4, h5⟩
  · rw [List.getElem?_set, if_neg (by omega)]; exact h2 i hi
  · obtain ⟨ys, h6⟩ := h3 i hi
    exact ⟨ys, ownsRow_setCell_other h6 (a := ⟨g, j * 5 + q, none⟩) (fun e => by have e : gs i = g := Option.some.inj e; exact (h5 i hi).2.1 e) v⟩
theorem NsW.lo {w : World} {lo hi g n : Nat} {gs ms : Nat → Nat} (h : NsW w lo hi g n gs ms) : lo ≤ g ∧ g < hi := by
  obtain ⟨⟨xs, h1, h2⟩, h3, h4, h5⟩ := h
  exact ⟨(h1.lt g rfl).1, h4⟩
theorem NsW.chs {w w' : World} {lo hi g n : Nat} {gs ms : Nat → Nat} (h : NsW w lo hi g n gs ms) (hc : Ch w' w lo hi) (q : Nat) (v : Value) : Ch w' (w.setCell ⟨g, q, none⟩ v) lo hi := by
  obtain ⟨⟨xs, h1, h2⟩, h3, h4, h5⟩ := h
  exact hc.grow (h1.stored q v).2 (fun k e => by
    have e : g = k := Option.some.inj e
    have := (h1.lt g rfl).1
    omega)
theorem NsW.cell {w : World} {lo hi g n : Nat} {gs ms : Nat → Nat} (h : NsW w lo hi g n gs ms) {j q : Nat} (hj : j < n) (hq : q < 5) : (∃ z, w.cell? ⟨g, j * 5 + q, none⟩ = some z) ∧ w.frozen? ⟨g, j * 5 + q, none⟩ = false := by
  obtain ⟨⟨xs, h1, h2⟩, h3, h4, h5⟩ := h
  refine ⟨?_, h1.frozenAt _⟩
  have hl := h1.1
  exact ⟨_, (h1.cellAt (j * 5 + q) (by omega)).trans (List.getElem?_eq_getElem (by omega))⟩
theorem NsW.order {w : World} {lo hi g n : Nat} {gs ms : Nat → Nat} (h : NsW w lo hi g n gs ms) {j : Nat} (hj : j < n) : w.cell? ⟨g, j * 5 + 4, none⟩ = some (.slice (some ⟨gs j, 0, none⟩) (ms j) (ms j)) := by
  obtain ⟨⟨xs, h1, h2⟩, h3, h4, h5⟩ := h
  exact (h1.cellAt (j * 5 + 4) (by omega)).trans (h2 j hj)
theorem NsW.mark {w w' : World} {lo hi g n : Nat} {gs ms : Nat → Nat} (h : NsW w lo hi g n gs ms) {j : Nat} (hj : j < n) {ys : List Value} (ho : w'.ownsRow lo 3 1 (.slice (some ⟨gs j, 0, none⟩) (ms j) (ms j)) (ms j) ys) (hg : w.grownBy w' (some (gs j))) : NsW w' lo hi g n gs ms := by
  obtain ⟨⟨xs, h1, h2⟩, h3, h4, h5⟩ := h
  refine ⟨⟨xs, own_other h1 hg (fun k hk e => ?_), h2⟩, fun i hi => ?_, h4, h5⟩
  · have hk : g = k := Option.some.inj hk
    have e : gs j = k := Option.some.inj e
    exact (h5 j hj).2.1 (by omega)
  · by_cases e : i = j
    · subst e; exact ⟨_, ho⟩
    · obtain ⟨zs, h6⟩ := h3 i hi
      refine ⟨zs, own_other h6 hg (fun k hk e2 => ?_)⟩
      have hk : gs i = k := Option.some.inj hk
      have e2 : gs j = k := Option.some.inj e2
      exact (h5 j hj).2.2 i hi e (by omega)

set_option maxHeartbeats 1000000 in
theorem markDecisionNodeS_any (lo hi g n : Nat) (gs ms : Nat → Nat) (k : Int) (w : World) (hn : n ≤ 1048576) (hm : ∀ j, j < n → ms j ≤ 1048576) (hk0 : 0 ≤ k) (hk1 : k ≤ 1000) (h : NsW w lo hi g n gs ms) :
    Calls Try.prog 20 #[.slice (some ⟨g, 0, none⟩) n n, .int .i64 k] w fun e w' => ∃ r : Int, e = .returned (.int .i64 r) ∧ 0 ≤ r ∧ r ≤ 2199023255552 ∧ Ch w w' lo hi := by
  have H := Lib.hid h; clear h
  have HM := Lib.hid hm; clear hm
  go_enter Try.func20, Try.ntmps20
  go_wp2
  go_loopw [1, 5] (fun v i wr => ∃ (j : Nat) (r : Int), j ≤ n ∧ i = .int .i64 j ∧ v = .int .i64 r ∧ 0 ≤ r ∧ r ≤ k + 1048580 * (j : Int) ∧ NsW wr lo hi g n gs ms ∧ Ch w wr lo hi) (fun _ i _ => n - (intOf i).toNat)
  case atStart => exact ⟨0, k, by omega, rfl, rfl, by omega, by omega, H.out, ch_refl _ _ _⟩
  case round =>
    obtain ⟨j, r, hj, rfl, rfl, hr0, hr1, hN, hC⟩ := hrel
    by_cases hlt : j < n
    · have hmj := HM.out j hlt
      have N1 := hN.put hlt (show 0 < 4 by omega) (.int .i64 r)
      have C1 := hN.chs hC (j * 5 + 0) (.int .i64 r)
      have N2 := N1.put hlt (show 1 < 4 by omega) (.int .i64 (r + 1))
      have C2 := N1.chs C1 (j * 5 + 1) (.int .i64 (r + 1))
      have N3 := N2.put hlt (show 2 < 4 by omega) (.int .i64 (r + 1 + 1))
      have C3 := N2.chs C2 (j * 5 + 2) (.int .i64 (r + 1 + 1))
      have N4 := N3.put hlt (show 3 < 4 by omega) (.int .i64 (r + 1 + 1 + 1))
      have C4 := N3.chs C3 (j * 5 + 3) (.int .i64 (r + 1 + 1 + 1))
      obtain ⟨⟨z0, q0⟩, f0⟩ := hN.cell hlt (show 0 < 5 by omega)
      obtain ⟨⟨z1, q1⟩, f1⟩ := N1.cell hlt (show 1 < 5 by omega)
      obtain ⟨⟨z2, q2⟩, f2⟩ := N2.cell hlt (show 2 < 5 by omega)
      obtain ⟨⟨z3, q3⟩, f3⟩ := N3.cell hlt (show 3 < 5 by omega)
      have q4 := N4.order hlt
      simp only [Nat.add_zero] at q0 f0 q1 f1 q2 f2 q3 f3 q4 N4 C4
      have HN4 := Lib.hid N4
      have HC4 := Lib.hid C4
      clear N1 N2 N3 N4 C1 C2 C3 C4 hN hC
      go_wp2_with fail
      obtain ⟨ys, hoy⟩ := HN4.out.ord j hlt
      refine (markIntS_any lo _ _ (ms j) ys _ _ hmj (by omega) (by omega) hoy).mono ?_
      rintro e w2 ⟨rfl, ⟨ys2, ho2⟩, hg2⟩
      have hgj := (hoy.lt (gs j) rfl).1
      have hgh := (HN4.out.far.2 j hlt).1
      have HN5 := Lib.hid (HN4.out.mark hlt ho2 hg2)
      have HC5 := Lib.hid (HC4.out.grow hg2 (fun k e => by have e : gs j = k := Option.some.inj e; omega))
      clear ho2 hg2 hoy q0 q1 q2 q3 q4 f0 f1 f2 f3
      go_wp2
      go_roundw
      case rel => exact ⟨j + 1, r + 1 + 1 + 1 + 1 + (ms j : Int), by omega, by go_num, by go_num, by omega, by omega, HN5.out, HC5.out⟩
      case measure => simp [intOf]; omega
    · have HC := Lib.hid hC; clear hC hN
      go_wp2
      go_ret
      exact ⟨r, rfl, by omega, by omega, HC.out⟩

end Go.Proofs.Ytmolneojjcjooaa

/- Walks: the law of RunDecisions. -/
namespace Go.Proofs.Ytmolneojjcjooaa
open Go.RowKit
set_option linter.unusedVariables false

/-- What stands while the law of RunDecisions compares. -/
structure RC (w W : World) (lo hi B11 : Nat) (gs : Nat → Nat) (ns : List Dt.Nd) (zs : List Int) (x6 x11 : Option Addr) (c6 c11 : Nat) (ql : List Int) : Prop where
  bel : Below w.heap.size w W
  old : w.heap.size ≤ lo ∧ lo < hi ∧ hi < B11
  nsw : NsW W lo hi lo ns.length gs (fun j => (ns.getD j Dt.nd0).o.length)
  t9 : NodesAt W (some ⟨lo, 0, none⟩) ns
  t10 : W.ownsRow hi 3 1 (.slice (some ⟨hi, 0, none⟩) zs.length zs.length) zs.length (zs.map (Value.int .i64))
  t6 : W.ownsRow w.heap.size 3 1 (.slice x6 ql.length c6) ql.length (ql.map (Value.int .i64))
  f6 : ∀ k, (Value.slice x6 ql.length c6).ownBlock = some k → k < lo
  t11 : W.ownsRow B11 3 1 (.slice x11 ql.length c11) ql.length (ql.map (Value.int .i64))

theorem RC.same {w W W' : World} {lo hi B11 : Nat} {gs : Nat → Nat} {ns : List Dt.Nd} {zs : List Int} {x6 x11 : Option Addr} {c6 c11 : Nat} {ql : List Int} (h : RC w W lo hi B11 gs ns zs x6 x11 c6 c11 ql) (hb : Below W.heap.size W W') : RC w W' lo hi B11 gs ns zs x6 x11 c6 c11 ql :=
  ⟨h.bel.trans (hb.mono h.bel.size), h.old, h.nsw.same hb, h.t9.same hb, own_below h.t10 (Nat.le_refl _) hb, own_below h.t6 (Nat.le_refl _) hb, h.f6, own_below h.t11 (Nat.le_refl _) hb⟩

/-- What stands behind the marks. -/
structure RD (w W : World) (x6 x11 : Option Addr) (c6 c11 : Nat) (ql ml : List Int) : Prop where
  bel : Below w.heap.size w W
  t6 : IntsAt W x6 ql
  t11 : IntsAt W x11 ml
theorem RD.same {w W W' : World} {x6 x11 : Option Addr} {c6 c11 : Nat} {ql ml : List Int} (h : RD w W x6 x11 c6 c11 ql ml) (hb : Below W.heap.size W W') : RD w W' x6 x11 c6 c11 ql ml :=
  ⟨h.bel.trans (hb.mono h.bel.size), h.t6.below (Nat.le_refl _) hb, h.t11.below (Nat.le_refl _) hb⟩

set_option maxHeartbeats 2000000 in
theorem lawRunDecisions_any (a : Option Addr) (c : Nat) (ns : List Dt.Nd) (az : Option Addr) (cz : Nat) (zs : List Int) (w : World) (hbig : ns.length ≤ 9223372036854775807) (h : NodesAt w a ns) (hbz : zs.length ≤ 9223372036854775807) (hz : IntsAt w az zs) :
    Calls Try.prog 4 #[.slice a ns.length c, .slice az zs.length cz] w fun e w' => e = .returned (.bool true) ∧ Below w.heap.size w w' := by
  by_cases lz : zs.length ≤ 1048576
  case neg =>
    go_enter Try.func4, Try.ntmps4
    go_wp2
    go_ret
    exact ⟨rfl, Below.refl _ _⟩
  have HS := Lib.hid (szDecisionNodeS_any a c ns 1048576 w hbig (by omega) (by omega) h)
  have H := Lib.hid h; clear h
  have HZ := Lib.hid hz; clear hz
  have hqlen := runQ_len ns zs
  have HSP := Lib.hid (fun (x : Option Addr) (cx : Nat) (y : Option Addr) (cy : Nat) (W : World) h1 h2 => specRunDecisions_any x cx ns y cy zs W hbig hbz h1 h2)
  have HIM := Lib.hid (fun (x : Option Addr) (cx : Nat) (y : Option Addr) (cy : Nat) (W : World) h1 h2 => runDecisions_any x cx ns y cy zs W hbig hbz h1 h2)
  generalize runQ ns zs = q at hqlen HSP HIM
  obtain ⟨⟨ql, qn⟩, qb⟩ := q
  have hql : ql.length ≤ 1000 := hqlen
  clear hqlen
  have n1 : ((qn : Int) != (qn : Int)) = false := by simp
  have n2 : (qb != qb) = false := by simp
  go_enter Try.func4, Try.ntmps4
  go_wp2_with fail
  refine HS.out.mono ?_
  rintro e w0 ⟨r, rfl, r0, r1, hr, hb0⟩
  have HB0 := Lib.hid hb0; clear hb0 HS
  have HR := Lib.hid hr; clear hr
  by_cases hr0 : r < 0
  · go_wp2_with fail
    go_ret
    exact ⟨rfl, HB0.out⟩
  obtain ⟨hl, ho⟩ := HR.out (by omega)
  have HO := Lib.hid ho; clear ho HR
  go_wp2_with fail
  refine (toDecisionNodeS_any a c ns _ hl HO.out (H.out.same HB0.out)).mono ?_
  rintro e w1 ⟨gs1, rfl, _, hn1, hb1⟩
  have HN1 := Lib.hid hn1; clear hn1
  have HB1 := Lib.hid (HB0.out.trans (hb1.mono HB0.out.size)); clear hb1
  go_wp2_with fail
  refine (toIntS_any az cz zs _ lz (HZ.out.below (Nat.le_refl _) HB1.out)).mono ?_
  rintro e w2 ⟨rfl, ho2, hb2⟩
  have HN2 := Lib.hid (HN1.out.same hb2)
  have HI2 := Lib.hid (ownInts ho2)
  have HB2 := Lib.hid (HB1.out.trans (hb2.mono HB1.out.size)); clear hb2 ho2 HN1
  go_wp2_with fail
  refine (HSP.out _ _ _ _ _ HN2.out HI2.out).mono ?_
  rintro e w3 ⟨x6, c6, rfl, ho6, hb3⟩
  have HX6 := Lib.hid (own_mono ho6 HB2.out.size); clear ho6 HN2 HI2
  have HB3 := Lib.hid (HB2.out.trans (hb3.mono HB2.out.size)); clear hb3
  go_wp2_with fail
  refine (toDecisionNodeS_any a c ns _ hl HO.out (H.out.same HB3.out)).mono ?_
  rintro e w4 ⟨gs, rfl, hw4, hn4, hb4⟩
  have HW4 := Lib.hid hw4; have HN4 := Lib.hid hn4; clear hn4
  have HX64 := Lib.hid (own_below HX6.out (Nat.le_refl _) hb4)
  have HB4 := Lib.hid (HB3.out.trans (hb4.mono HB3.out.size)); clear hb4
  have hlo := hw4.lo.2; clear hw4
  go_wp2_with fail
  refine (toIntS_any az cz zs _ lz (HZ.out.below (Nat.le_refl _) HB4.out)).mono ?_
  rintro e w5 ⟨rfl, ho5, hb5⟩
  have h45 := (ho5.lt _ rfl).2
  have HW5 := Lib.hid (HW4.out.same hb5); have HN5 := Lib.hid (HN4.out.same hb5)
  have HX65 := Lib.hid (own_below HX64.out (Nat.le_refl _) hb5)
  have HT5 := Lib.hid ho5; clear ho5
  have HB5 := Lib.hid (HB4.out.trans (hb5.mono HB4.out.size)); clear hb5 HW4 HN4 HX64
  go_wp2_with fail
  refine (HIM.out _ _ _ _ _ HN5.out (ownInts HT5.out)).mono ?_
  rintro e w6 ⟨x11, c11, rfl, ho11, hb6⟩
  have HRC : Hid (RC w w6 w3.heap.size w4.heap.size w5.heap.size gs ns zs x6 x11 c6 c11 ql) :=
    ⟨HB5.out.trans (hb6.mono HB5.out.size), ⟨HB3.out.size, hlo, h45⟩, HW5.out.same hb6, HN5.out.same hb6, own_below HT5.out (Nat.le_refl _) hb6, own_below HX65.out (Nat.le_refl _) hb6, fun k hk => (HX6.out.lt k hk).2, ho11⟩
  clear ho11 hb6 HW5 HN5 HX65 HT5 HX6 h45
  go_wp2_with fail
  refine (eqIntS_any _ _ _ _ ql ql _ (by omega) (by omega) (ownInts HRC.out.t11) (ownInts HRC.out.t6)).mono ?_
  rintro e w7 ⟨rfl, hb7⟩
  have HRC7 := Lib.hid (HRC.out.same hb7); clear hb7 HRC
  rw [decide_eq_true rfl]
  go_wp2_with fail
  refine (toDecisionNodeS_any a c ns _ hl HO.out (H.out.same HRC7.out.bel)).mono ?_
  rintro e w8 ⟨gs8, rfl, _, hn8, hb8⟩
  have HN8 := Lib.hid hn8; clear hn8
  have HRC8 := Lib.hid (HRC7.out.same hb8); clear hb8 HRC7
  go_wp2_with fail
  refine (eqDecisionNodeS_any _ _ _ _ ns ns _ hbig hbig HRC8.out.t9 HN8.out).mono ?_
  rintro e w9 ⟨rfl, hb9⟩
  have HRC9 := Lib.hid (HRC8.out.same hb9); clear hb9 HRC8 HN8
  rw [decide_eq_true rfl]
  go_wp2_with fail
  refine (toIntS_any az cz zs _ lz (HZ.out.below (Nat.le_refl _) HRC9.out.bel)).mono ?_
  rintro e w10 ⟨rfl, ho10, hb10⟩
  have HI10 := Lib.hid (ownInts ho10); clear ho10
  have HRC10 := Lib.hid (HRC9.out.same hb10); clear hb10 HRC9
  go_wp2_with fail
  refine (eqIntS_any _ _ _ _ zs zs _ (by omega) (by omega) (ownInts HRC10.out.t10) HI10.out).mono ?_
  rintro e w11 ⟨rfl, hb11⟩
  have HRC11 := Lib.hid (HRC10.out.same hb11); clear hb11 HRC10 HI10
  rw [decide_eq_true rfl]
  go_wp2_with fail
  refine (markDecisionNodeS_any _ _ _ _ gs _ 1 _ hl HO.out (by omega) (by omega) HRC11.out.nsw).mono ?_
  rintro e w12 ⟨k, rfl, k0, k1, hc⟩
  obtain ⟨ob1, ob2, ob3⟩ := HRC11.out.old
  have HBm := Lib.hid (hc.below HRC11.out.bel ob1)
  have HT10 := Lib.hid (hc.own HRC11.out.t10 (fun k hk => by have hk : w4.heap.size = k := Option.some.inj hk; omega))
  have HT6 := Lib.hid (hc.own HRC11.out.t6 (fun k hk => .inl (HRC11.out.f6 k hk)))
  have HT11 := Lib.hid (hc.own HRC11.out.t11 (fun k hk => by have := (HRC11.out.t11.lt k hk).1; omega))
  have HF6 := Lib.hid HRC11.out.f6
  clear hc HRC11
  go_wp2_with fail
  refine (markIntS_any _ _ _ _ _ k _ lz k0 (by omega) HT10.out).mono ?_
  rintro e w13 ⟨rfl, _, hg13⟩
  have HBm13 := Lib.hid (below_app HBm.out HBm.out.size HT10.out (show w.heap.size ≤ w4.heap.size by omega) hg13)
  have HT63 := Lib.hid (own_other HT6.out hg13 (fun k hk e => by have e : w4.heap.size = k := Option.some.inj e; have := HF6.out k hk; omega))
  have HT113 := Lib.hid (own_other HT11.out hg13 (fun k hk e => by have e : w4.heap.size = k := Option.some.inj e; have := (HT11.out.lt k hk).1; omega))
  clear hg13 HBm HT10 HT6 HT11
  go_wp2_with fail
  refine (eqIntS_any _ _ _ _ ql ql _ (by omega) (by omega) (ownInts HT113.out) (ownInts HT63.out)).mono ?_
  rintro e w14 ⟨rfl, hb14⟩
  have HBm14 := Lib.hid (HBm13.out.trans (hb14.mono HBm13.out.size))
  have HT64 := Lib.hid (own_below HT63.out (Nat.le_refl _) hb14)
  have HT114 := Lib.hid (own_below HT113.out (Nat.le_refl _) hb14)
  clear hb14 HBm13 HT63 HT113
  rw [decide_eq_true rfl]
  go_wp2_with fail
  refine (markIntS_at _ _ _ ql.length ql 1 _ (by omega) (by omega) (by omega) rfl HT114.out).mono ?_
  rintro e w15 ⟨rfl, ho15, hg15⟩
  have HRD : Hid (RD w w15 x6 x11 c6 c11 ql (mkI ql.length 1 ql ql.length)) :=
    ⟨below_app HBm14.out HBm14.out.size HT114.out (show w.heap.size ≤ w5.heap.size by omega) hg15, ownInts (own_other HT64.out hg15 (fun k hk e => by have := HF6.out k hk; have := (HT114.out.lt k e).1; omega)), ownInts ho15⟩
  clear ho15 hg15 HBm14 HT64 HT114
  have HMK : Hid (∀ j, j < ql.length → (mkI ql.length 1 ql ql.length).getD j 0 = 1 + (j : Int)) := fun j hj => by rw [mkI_at hj, if_pos hj]
  have HML := Lib.hid (mkI_len ql.length 1 ql ql.length)
  generalize mkI ql.length 1 ql ql.length = ml at HRD HMK HML
  go_wp2_with fail
  refine (heldIntS_any _ _ ql.length ml 1 _ (by omega) (by omega) (by omega) HML.out HRD.out.t11 HMK.out).mono ?_
  rintro e w' ⟨rfl, rfl⟩
  have n3 : (((1 : Int) + (ql.length : Int)) != ((1 : Int) + (ql.length : Int))) = false := by simp
  go_wp2_with fail
  refine (toDecisionNodeS_any a c ns _ hl HO.out (H.out.same HRD.out.bel)).mono ?_
  rintro e w16 ⟨gs16, rfl, _, hn16, hb16⟩
  have HN16 := Lib.hid hn16; clear hn16
  have HRD16 := Lib.hid (HRD.out.same hb16); clear hb16 HRD
  go_wp2_with fail
  refine (toIntS_any az cz zs _ lz (HZ.out.below (Nat.le_refl _) HRD16.out.bel)).mono ?_
  rintro e w17 ⟨rfl, ho17, hb17⟩
  have HI17 := Lib.hid (ownInts ho17); clear ho17
  have HN17 := Lib.hid (HN16.out.same hb17)
  have HRD17 := Lib.hid (HRD16.out.same hb17); clear hb17 HRD16 HN16
  go_wp2_with fail
  refine (HIM.out _ _ _ _ _ HN17.out HI17.out).mono ?_
  rintro e w18 ⟨x17, c17, rfl, ho18, hb18⟩
  have HI18 := Lib.hid (ownInts ho18); clear ho18 HN17 HI17
  have HRD18 := Lib.hid (HRD17.out.same hb18); clear hb18 HRD17
  go_wp2_with fail
  refine (eqIntS_any _ _ _ _ ql ql _ (by omega) (by omega) HI18.out HRD18.out.t6).mono ?_
  rintro e w19 ⟨rfl, hb19⟩
  have HRD19 := Lib.hid (HRD18.out.same hb19); clear hb19 HRD18 HI18
  rw [decide_eq_true rfl]
  go_wp2_with fail
  refine (heldIntS_any _ _ ql.length ml 1 _ (by omega) (by omega) (by omega) HML.out HRD19.out.t11 HMK.out).mono ?_
  rintro e w' ⟨rfl, rfl⟩
  go_wp2
  go_ret
  exact ⟨rfl, HRD19.out.bel⟩

end Go.Proofs.Ytmolneojjcjooaa
