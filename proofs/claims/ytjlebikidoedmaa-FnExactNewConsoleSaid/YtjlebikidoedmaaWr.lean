/- The law FnExactNewConsole: its walk. -/
import Derived.Test.YtjlebikidoedmaaWq
namespace Go.Proofs.Ytjlebikidoedmaa
open Go.RowKit
set_option linter.unusedVariables false

set_option maxHeartbeats 400000 in
theorem markConsole_any (B : Nat) (a : Option Addr) (c : Nat) (rs : List (Int × Int)) (d p : ByteArray) (m : Int) (k : Int) (w : World) (hn : rs.length ≤ 1048576) (hk0 : 0 ≤ k) (hk1 : k ≤ 1099511627776) (hB : B ≤ w.heap.size) (h : w.ownsRow B 54 2 (.slice a rs.length c) rs.length (flat encR rs)) :
    Calls Try.prog 34 #[.agg #[.slice a rs.length c, .string d, .string p, .int .i64 m], .int .i64 k] w fun e w' => e = .returned (.int .i64 (k + 2 * (rs.length : Int))) ∧ w'.ownsRow B 54 2 (.slice a rs.length c) rs.length (flat encR (mkR rs k rs.length)) ∧ w.grownBy w' (Value.slice a rs.length c).ownBlock := by
  have HM := Lib.hid (markRecordS_any B a c rs k _ hn hk0 hk1 (h.alloc (.cells #[.slice a rs.length c, .string d, .string p, .int .i64 m] 60)))
  clear h
  go_enter Try.func34, Try.ntmps34
  go_wp2_with fail
  refine HM.out.mono ?_
  rintro e w1 ⟨rfl, ho, hg⟩
  have HO := Lib.hid ho
  have HG := Lib.hid (grownBy_pre hg)
  clear ho hg
  go_wp2
  go_ret
  exact ⟨rfl, HO.out, HG.out⟩

set_option maxHeartbeats 400000 in
theorem heldConsole_any (a : Option Addr) (c : Nat) (rs : List (Int × Int)) (d p : ByteArray) (m : Int) (k : Int) (w : World) (hn : rs.length ≤ 1048576) (hk0 : 0 ≤ k) (hk1 : k ≤ 1099511627776) (h : RecsAt w a rs) (hm : ∀ j, j < rs.length → rs.getD j (0, 0) = (k + 2 * (j : Int), k + 2 * (j : Int) + 1)) :
    Calls Try.prog 35 #[.agg #[.slice a rs.length c, .string d, .string p, .int .i64 m], .int .i64 k] w fun e w' => e = .returned (.int .i64 (k + 2 * (rs.length : Int))) ∧ Below w.heap.size w w' := by
  have hb : Below w.heap.size w (w.alloc (.cells #[.slice a rs.length c, .string d, .string p, .int .i64 m] 60)) := (Below.refl _ _).alloc (Nat.le_refl _) _
  have HM := Lib.hid (heldRecordS_any a c rs k _ hn hk0 hk1 (h.below (Nat.le_refl _) hb) hm)
  have HB := Lib.hid hb
  clear h hb hm
  go_enter Try.func35, Try.ntmps35
  go_wp2_with fail
  refine HM.out.mono ?_
  rintro e w1 ⟨rfl, rfl⟩
  go_wp2
  go_ret
  exact ⟨rfl, HB.out⟩

theorem eqC_same (rs : List (Int × Int)) (d p : ByteArray) (c : Int) : eqC rs d p c rs d p c = true := by simp [eqC, eqL]

theorem encR_len' (rs : List (Int × Int)) (k : Int) : (mkR rs k rs.length).length = rs.length := mkR_len rs k _

/-- What holds of the two consoles and of the copied argument while the law goes on. -/
structure NC (W0 w : World) (a aw ag : Option Addr) (zs : List Int) (rw rg : List (Int × Int)) (cw cg b3 b6 bx Bg : Nat) : Prop where
  b : Below W0.heap.size W0 w
  h : IntsAt w a zs
  ox : ∃ xs, w.ownsRow bx 3 1 (.slice (some ⟨bx, 0, none⟩) zs.length zs.length) zs.length xs
  og : w.ownsRow Bg 54 2 (.slice ag rg.length cg) rg.length (flat encR rg)
  hw : RecsAt w aw rw
  r3 : w.heap[b3]? = some (.cells #[.slice aw rw.length cw, .string ⟨#[]⟩, .string ⟨#[]⟩, .int .i64 0] 60 (0, 0))
  r6 : w.heap[b6]? = some (.cells #[.slice ag rg.length cg, .string ⟨#[]⟩, .string ⟨#[]⟩, .int .i64 0] 60 (0, 0))

theorem NC.below {W0 w w' : World} {a aw ag : Option Addr} {zs : List Int} {rw rg : List (Int × Int)} {cw cg b3 b6 bx Bg : Nat} (s : NC W0 w a aw ag zs rw rg cw cg b3 b6 bx Bg) (hb : Below w.heap.size w w') : NC W0 w' a aw ag zs rw rg cw cg b3 b6 bx Bg :=
  ⟨s.b.trans (hb.mono s.b.size), s.h.below (Nat.le_refl _) hb, s.ox.imp fun _ h => own_below h (Nat.le_refl _) hb, own_below s.og (Nat.le_refl _) hb, s.hw.below (Nat.le_refl _) hb,
    block_below s.r3 hb (Array.getElem?_eq_some_iff.1 s.r3).1, block_below s.r6 hb (Array.getElem?_eq_some_iff.1 s.r6).1⟩

set_option maxHeartbeats 4000000 in
theorem lawNewConsole_any (a : Option Addr) (cap : Nat) (zs : List Int) (w : World) (hbig : zs.length ≤ 9223372036854775807) (h : IntsAt w a zs) :
    Calls Try.prog 9 #[.slice a zs.length cap] w fun e w' => e = .returned (.bool true) ∧ Below w.heap.size w w' := by
  by_cases hl : zs.length ≤ 1048576
  case neg =>
    clear h
    go_enter Try.func9, Try.ntmps9
    go_wp2
    go_ret
    exact ⟨rfl, Below.refl _ _⟩
  have H := Lib.hid h; clear h
  have HN := Lib.hid (ncRecs_len zs)
  have nb : (ncRecs zs).length ≤ 1048576 := by have := HN.out; omega
  have nb2 : (ncRecs zs).length ≤ 9223372036854775807 := by omega
  have NB := Lib.hid nb
  have NB2 := Lib.hid nb2
  clear nb nb2
  go_enter Try.func9, Try.ntmps9
  go_wp2_with fail
  refine (toIntS_any a cap zs _ hl H.out).mono ?_
  rintro e w1 ⟨rfl, ho, hb⟩
  have HS := Lib.hid (ownInts ho)
  have HB1 := Lib.hid hb
  clear ho hb
  go_wp2_with fail
  refine (specNewConsole_any _ _ zs _ hbig HS.out).mono ?_
  rintro e w2 ⟨aw, cw, rfl, ho, hb⟩
  have HW := Lib.hid (ownRecs ho)
  have HWb0 : Hid (∀ b off, aw = some ⟨b, off, none⟩ → b < w2.heap.size) := fun b off e => (ho.lt b (by rw [e]; rfl)).2
  have HB2 := Lib.hid (HB1.out.trans (hb.mono HB1.out.size))
  have HC2 : Hid (Below w2.heap.size w2 (w2.alloc (.cells #[.slice aw (ncRecs zs).length cw, .string ⟨#[]⟩, .string ⟨#[]⟩, .int .i64 0] 60))) := (Below.refl _ _).alloc (Nat.le_refl _) _
  have HR3 := Lib.hid (block_new w2 (.cells #[.slice aw (ncRecs zs).length cw, .string ⟨#[]⟩, .string ⟨#[]⟩, .int .i64 0] 60))
  have HB2' := Lib.hid (HB2.out.trans (HC2.out.mono HB2.out.size))
  have HW' := Lib.hid (HW.out.below (Nat.le_refl _) HC2.out)
  have HZ3 : Hid (w2.heap.size < (w2.alloc (.cells #[.slice aw (ncRecs zs).length cw, .string ⟨#[]⟩, .string ⟨#[]⟩, .int .i64 0] 60)).heap.size) := by show _ < _; simp
  clear ho hb HS
  go_wp2_with fail
  generalize hQ3 : w2.alloc (.cells #[.slice aw (ncRecs zs).length cw, .string ⟨#[]⟩, .string ⟨#[]⟩, .int .i64 0] 60) = w3 at HR3 HB2' HW' HZ3 ⊢
  clear hQ3 HC2 HW HB2
  have HWb : Hid (∀ b off, aw = some ⟨b, off, none⟩ → b < w3.heap.size) := fun b off e => Nat.lt_trans (HWb0.out b off e) HZ3.out
  refine (toIntS_any a cap zs _ hl (H.out.below (Nat.le_refl _) HB2'.out)).mono ?_
  rintro e w4 ⟨rfl, ho, hb⟩
  have OX := Lib.hid ho
  have HR3' := Lib.hid (block_below HR3.out hb HZ3.out)
  have HW4 := Lib.hid (HW'.out.below (Nat.le_refl _) hb)
  have HB4 := Lib.hid (HB2'.out.trans (hb.mono HB2'.out.size))
  have hw34 := (ho.lt w3.heap.size rfl).2
  have HW34 := Lib.hid hw34
  clear ho hb HR3 HW' hw34
  go_wp2_with fail
  refine (implNewConsole_any _ _ zs _ hbig (ownInts OX.out)).mono ?_
  rintro e w5 ⟨ag, cg, rfl, ho, hb⟩
  have OG := Lib.hid ho
  have HO5 : Hid (∀ k, (Value.slice ag (ncRecs zs).length cg).ownBlock = some k → k < w5.heap.size) := fun k hk => (ho.lt k hk).2
  have OX5 := Lib.hid (own_below OX.out (Nat.le_refl _) hb)
  have HR5 := Lib.hid (block_below HR3'.out hb (Nat.lt_trans HZ3.out HW34.out))
  have HW5 := Lib.hid (HW4.out.below (Nat.le_refl _) hb)
  have HB5 := Lib.hid (HB4.out.trans (hb.mono HB4.out.size))
  have HZ45 := Lib.hid hb.size
  clear ho hb HR3' HW4
  have HC5 : Hid (Below w5.heap.size w5 (w5.alloc (.cells #[.slice ag (ncRecs zs).length cg, .string ⟨#[]⟩, .string ⟨#[]⟩, .int .i64 0] 60))) := (Below.refl _ _).alloc (Nat.le_refl _) _
  have HR6 := Lib.hid (block_new w5 (.cells #[.slice ag (ncRecs zs).length cg, .string ⟨#[]⟩, .string ⟨#[]⟩, .int .i64 0] 60))
  have OG6 := Lib.hid (own_below OG.out (Nat.le_refl _) HC5.out)
  have OX6 := Lib.hid (own_below OX5.out (Nat.le_refl _) HC5.out)
  have HQ6 := Lib.hid (block_below HR5.out HC5.out (by have := HZ3.out; have := HW34.out; have := HZ45.out; omega))
  have HW6 := Lib.hid (HW5.out.below (Nat.le_refl _) HC5.out)
  have HB6 := Lib.hid (HB5.out.trans (HC5.out.mono HB5.out.size))
  have HZ56 : Hid (w5.heap.size < (w5.alloc (.cells #[.slice ag (ncRecs zs).length cg, .string ⟨#[]⟩, .string ⟨#[]⟩, .int .i64 0] 60)).heap.size) := by show _ < _; simp
  have HWne : Hid (∀ b off, aw = some ⟨b, off, none⟩ → b < w3.heap.size) := HWb.out
  obtain ⟨c0, c1, c2, c3⟩ := cells4 HQ6.out
  go_wp2_with fail
  generalize hQ6 : w5.alloc (.cells #[.slice ag (ncRecs zs).length cg, .string ⟨#[]⟩, .string ⟨#[]⟩, .int .i64 0] 60) = w6 at HR6 OG6 OX6 HQ6 HW6 HB6 HZ56 c0 c1 c2 c3 ⊢
  clear hQ6 HC5 OG OX5 HR5 HW5 HB5 c0 c1 c2 c3
  refine (eqConsole_any ag cg (ncRecs zs) ⟨#[]⟩ ⟨#[]⟩ 0 aw cw (ncRecs zs) ⟨#[]⟩ ⟨#[]⟩ 0 _ NB2.out NB2.out (ownRecs OG6.out) HW6.out).mono ?_
  rw [eqC_same]
  rintro e w7 ⟨rfl, hb⟩
  have S7 := Lib.hid ((NC.mk HB6.out (H.out.below (Nat.le_refl _) HB6.out) ⟨_, OX6.out⟩ OG6.out HW6.out HQ6.out HR6.out : NC w w6 a aw ag zs (ncRecs zs) (ncRecs zs) cw cg w2.heap.size w5.heap.size w3.heap.size w4.heap.size).below hb)
  have HX7 := Lib.hid ((ownInts OX6.out).below (Nat.le_refl _) hb)
  clear hb HB6 OX6 OG6 HW6 HQ6 HR6
  go_wp2_with fail
  refine (toIntS_any a cap zs _ hl S7.out.h).mono ?_
  rintro e w8 ⟨rfl, ho, hb⟩
  have S8 := Lib.hid (S7.out.below hb)
  have HX8 := Lib.hid (HX7.out.below (Nat.le_refl _) hb)
  have HY8 := Lib.hid (ownInts ho)
  clear ho hb S7 HX7
  go_wp2_with fail
  refine (eqIntS_any _ _ _ _ zs zs _ hbig hbig HX8.out HY8.out).mono ?_
  rintro e w9 ⟨rfl, hb⟩
  have S9 := Lib.hid (S8.out.below hb)
  clear hb S8 HX8 HY8
  obtain ⟨xs9, ox9⟩ := S9.out.ox
  have OX9 := Lib.hid ox9; clear ox9
  go_wp2_with fail
  refine (markIntS_any _ _ _ zs.length xs9 1 _ hl (by omega) (by omega) OX9.out).mono ?_
  rintro e w10 ⟨rfl, ho, hg⟩
  have hg : w9.grownBy w10 (some w3.heap.size) := hg
  have S10 : Hid (NC w w10 a aw ag zs (ncRecs zs) (ncRecs zs) cw cg w2.heap.size w5.heap.size w3.heap.size w4.heap.size) := by
    have s := S9.out
    have hb10 := s.b.grown hg s.b.size (fun k hk => by injection hk with hk; rw [← hk]; exact HB2'.out.size)
    refine ⟨hb10, H.out.below (Nat.le_refl _) hb10, ho, ?_, ?_, ?_, ?_⟩
    · exact own_other s.og hg (fun k hk e => by injection e with e; have := (s.og.lt _ hk).1; have := HW34.out; omega)
    · exact s.hw.grown hg (fun b off e e2 => by injection e2 with e2; have := HWb.out _ _ e; omega)
    · exact block_row s.r3 hg (fun e => by injection e with e; have := HZ3.out; omega)
    · exact block_row s.r6 hg (fun e => by injection e with e; have := HW34.out; have := HZ45.out; omega)
  clear ho
  clear hg OX9 S9
  obtain ⟨c0, c1, c2, c3⟩ := cells4 S10.out.r3
  obtain ⟨k0, k1, k2, k3⟩ := cells4 S10.out.r6
  go_wp2_with fail
  refine (eqConsole_any ag cg (ncRecs zs) ⟨#[]⟩ ⟨#[]⟩ 0 aw cw (ncRecs zs) ⟨#[]⟩ ⟨#[]⟩ 0 _ NB2.out NB2.out (ownRecs S10.out.og) S10.out.hw).mono ?_
  rw [eqC_same]
  rintro e w11 ⟨rfl, hb⟩
  have S11 := Lib.hid (S10.out.below hb)
  clear hb S10 c0 c1 c2 c3 k0 k1 k2 k3
  obtain ⟨k0, k1, k2, k3⟩ := cells4 S11.out.r6
  go_wp2_with fail
  refine (markConsole_any _ ag cg (ncRecs zs) ⟨#[]⟩ ⟨#[]⟩ 0 1 _ NB.out (by omega) (by omega) ?hB S11.out.og).mono ?_
  case hB => have := S11.out.r6; have := (Array.getElem?_eq_some_iff.1 this).1; have := HZ45.out; omega
  rintro e w12 ⟨rfl, ho, hg⟩
  have S12 : Hid (NC w w12 a aw ag zs (ncRecs zs) (mkR (ncRecs zs) 1 (ncRecs zs).length) cw cg w2.heap.size w5.heap.size w3.heap.size w4.heap.size) := by
    have s := S11.out
    have hlt := fun k hk => (s.og.lt k hk).1
    have hb12 := s.b.grown hg s.b.size (fun k hk => Nat.le_trans HB4.out.size (hlt k hk))
    refine ⟨hb12, H.out.below (Nat.le_refl _) hb12, s.ox.imp fun _ h => own_other h hg (fun k hk e => by have hk : some w3.heap.size = some k := hk; injection hk with hk; have := hlt _ e; have := HW34.out; omega), by rw [mkR_len]; exact ho, ?_, ?_, ?_⟩
    · exact s.hw.grown hg (fun b off e e2 => by have := HWb.out _ _ e; have := hlt _ e2; have := HW34.out; omega)
    · exact block_row s.r3 hg (fun e => by have := hlt _ e; have := HZ3.out; have := HW34.out; omega)
    · rw [mkR_len]
      exact block_row s.r6 hg (fun e => by have := HO5.out _ e; omega)
  clear ho hg S11 k0 k1 k2 k3
  have HMA := Lib.hid (fun j (hj : j < (mkR (ncRecs zs) 1 (ncRecs zs).length).length) => mkR_at (k := 1) (rs := ncRecs zs) (j := j) (by rw [mkR_len] at hj; exact hj))
  obtain ⟨k0, k1, k2, k3⟩ := cells4 S12.out.r6
  have HC1 := Lib.hid (heldConsole_any ag cg (mkR (ncRecs zs) 1 (ncRecs zs).length) ⟨#[]⟩ ⟨#[]⟩ 0 1 _ (by rw [mkR_len]; exact NB.out) (by omega) (by omega) (ownRecs S12.out.og) HMA.out)
  rw [mkR_len] at k0 HC1
  go_wp2_with fail
  refine HC1.out.mono ?_
  rintro e w13 ⟨rfl, hb⟩
  have S13 := Lib.hid (S12.out.below hb)
  clear hb S12 k0 k1 k2 k3 HC1
  go_wp2_with fail
  refine (toIntS_any a cap zs _ hl S13.out.h).mono ?_
  rintro e w14 ⟨rfl, ho, hb⟩
  have S14 := Lib.hid (S13.out.below hb)
  have HY14 := Lib.hid (ownInts ho)
  clear ho hb S13
  go_wp2_with fail
  refine (implNewConsole_any _ _ zs _ hbig HY14.out).mono ?_
  rintro e w15 ⟨ah, ch, rfl, ho, hb⟩
  have S15 := Lib.hid (S14.out.below hb)
  have HH15 := Lib.hid (ownRecs ho)
  clear ho hb S14 HY14
  have HC16 : Hid (Below w15.heap.size w15 (w15.alloc (.cells #[.slice ah (ncRecs zs).length ch, .string ⟨#[]⟩, .string ⟨#[]⟩, .int .i64 0] 60))) := (Below.refl _ _).alloc (Nat.le_refl _) _
  have S16 := Lib.hid (S15.out.below HC16.out)
  have HH16 := Lib.hid (HH15.out.below (Nat.le_refl _) HC16.out)
  obtain ⟨c0, c1, c2, c3⟩ := cells4 S16.out.r3
  go_wp2_with fail
  refine (eqConsole_any ah ch (ncRecs zs) ⟨#[]⟩ ⟨#[]⟩ 0 aw cw (ncRecs zs) ⟨#[]⟩ ⟨#[]⟩ 0 _ NB2.out NB2.out HH16.out S16.out.hw).mono ?_
  rw [eqC_same]
  rintro e w17 ⟨rfl, hb⟩
  have S17 := Lib.hid (S16.out.below hb)
  clear hb c0 c1 c2 c3 S15 HH15 HC16 S16 HH16
  obtain ⟨k0, k1, k2, k3⟩ := cells4 S17.out.r6
  have HC1 := Lib.hid (heldConsole_any ag cg (mkR (ncRecs zs) 1 (ncRecs zs).length) ⟨#[]⟩ ⟨#[]⟩ 0 1 _ (by rw [mkR_len]; exact NB.out) (by omega) (by omega) (ownRecs S17.out.og) HMA.out)
  rw [mkR_len] at k0 HC1
  go_wp2_with fail
  refine HC1.out.mono ?_
  rintro e w18 ⟨rfl, hb⟩
  have S18 := Lib.hid (S17.out.below hb)
  clear hb S17 k0 k1 k2 k3 HC1
  go_wp2
  go_ret
  exact ⟨rfl, S18.out.b⟩

end Go.Proofs.Ytjlebikidoedmaa
