/- Walks on texts: all records of a text, by the reference. -/
import Derived.Test.YtfdhicojnbicgaaDoorTk
import Derived.Test.YtfdhicojnbicgaaDoorTm
namespace Go.Proofs.YtfdhicojnbicgaaDoor
open Go.RowKit
set_option linter.unusedVariables false

theorem own_head {w : World} {base : Nat} {e : TypeId} {a : Option Addr} {n c : Nat} {x : Value} {xs : List Value} (h : w.ownsRow base e 1 (.slice a n c) n (x :: xs)) :
    ∃ g, a = some ⟨g, 0, none⟩ ∧ w.cell? ⟨g, 0, none⟩ = some x ∧ base ≤ g ∧ g < w.heap.size := by
  obtain ⟨g, hg, hc⟩ := own_first h
  subst hg
  have := h.lt g rfl
  exact ⟨g, rfl, hc, this.1, this.2⟩

def OpenEnd (w : World) (s : ByteArray) (e : Ending) (w' : World) : Prop :=
  ∃ (a : Option Addr) (c : Nat), e = .returned (.tuple #[.slice a (Tx.rd 60 (bs s)).length c, .int .i64 (Tx.total (Tx.rd 60 (bs s)) : Nat)]) ∧
    w'.ownsRow w.heap.size 27 2 (.slice a (Tx.rd 60 (bs s)).length c) (Tx.rd 60 (bs s)).length (flat encL ((Tx.rd 60 (bs s)).map (·.1))) ∧ Below w.heap.size w w'

set_option maxRecDepth 100000 in
set_option maxHeartbeats 4000000 in
theorem l25Open_any (s : ByteArray) (w : World) (hs : s.size ≤ 4000000000) :
    Calls Tryd.prog 54 #[.string s] w (OpenEnd w s) := by
  have E1 := Lib.hid (own_lit (w := w) (e := 27) (size := 2) #[] 0 (by omega) rfl)
  go_enter Tryd.func54, Tryd.ntmps54
  go_wp2
  go_loopw [4, 5] (fun v i wr => ∃ (acc : List (Tx.Rec × Nat)) (n : Nat), acc.length + n = 60 ∧ acc ++ Tx.rd n ((bs s).drop (Tx.total acc)) = Tx.rd 60 (bs s) ∧ Tx.total acc ≤ s.size ∧ i = .int .i64 (Tx.total acc : Nat) ∧
      wr.ownsRow w.heap.size 27 2 v acc.length (flat encL (acc.map (·.1))) ∧ Below w.heap.size w wr) (fun v _ _ => match v with | .slice _ n _ => 61 - n | _ => 0)
  case atStart => exact ⟨[], 60, rfl, rfl, by simp [Tx.total], rfl, E1.out, (Below.refl _ _).alloc (Nat.le_refl _) _⟩
  case round =>
    obtain ⟨acc, n, hn, hrd, hat, rfl, hown, hb⟩ := hrel
    obtain ⟨a1, c1, hv⟩ := own_slice hown
    subst hv
    clear E1
    have HB := Lib.hid hb; clear hb
    have HO := Lib.hid hown; clear hown
    have HRD := Lib.hid hrd; clear hrd
    have fin : Hid (Tx.rd n ((bs s).drop (Tx.total acc)) = [] → acc = Tx.rd 60 (bs s)) := by
      intro h
      have := HRD.out
      rw [h, List.append_nil] at this
      exact this
    by_cases hlt : Tx.total acc < s.size
    case neg =>
      have HE : Hid (acc = Tx.rd 60 (bs s)) := fin.out (by
        rw [List.drop_of_length_le (by rw [bs_len]; omega)]
        cases n with
        | zero => rfl
        | succ m => rw [Tx.rd]; have : Tx.step (59 - m) [] = none := by simp [Tx.step]
                    rw [this])
      have HT : Hid (Tx.total acc = Tx.total (Tx.rd 60 (bs s))) := by show _ = _; rw [HE.out]
      generalize Tx.total acc = at0 at *
      go_wp2
      go_ret2
      refine ⟨a1, c1, ret_v2 (by rw [HE.out]; rfl) (by rw [← HT.out]; rfl), ?_, HB.out⟩
      have h := HO.out
      rw [HE.out] at h
      exact h
    by_cases hn0 : n = 0
    · subst hn0
      have HE : Hid (acc = Tx.rd 60 (bs s)) := fin.out rfl
      have HT : Hid (Tx.total acc = Tx.total (Tx.rd 60 (bs s))) := by show _ = _; rw [HE.out]
      generalize Tx.total acc = at0 at *
      go_wp2
      go_ret2
      refine ⟨a1, c1, ret_v2 (by rw [HE.out]; rfl) (by rw [← HT.out]; rfl), ?_, HB.out⟩
      have h := HO.out
      rw [HE.out] at h
      exact h
    obtain ⟨m, rfl⟩ : ∃ m, n = m + 1 := ⟨n - 1, by omega⟩
    have hk60 : acc.length < 60 := by omega
    obtain ⟨line, hline⟩ : ∃ x, bs x = Tx.upto 10 (bs (s.extract (Tx.total acc) s.size)) := ⟨ba _, rfl⟩
    have hxs : (s.extract (Tx.total acc) s.size).size ≤ 4000000000 := by rw [← bs_len, extract_bs, List.length_drop, bs_len]; omega
    have hls : line.size ≤ s.size := by
      have := Tx.upto_len 10 (bs (s.extract (Tx.total acc) s.size))
      rw [← hline, bs_len, extract_bs, List.length_drop, bs_len] at this
      omega
    obtain ⟨P, hP, hPm⟩ := splitL_head 10 (bs (s.extract (Tx.total acc) s.size))
    have hS := fun w => l1Split_any (s.extract (Tx.total acc) s.size) 10 10 w hxs rfl
    rw [hP, ← hline] at hS
    have HS := Lib.hid hS
    have HX := Lib.hid (show strL (bs line) = .string line by unfold strL; rw [ba_bs])
    have HR := Lib.hid (fun w => l25Read_any acc.length line w hk60 (by omega))
    have hstep : Tx.step (59 - m) ((bs s).drop (Tx.total acc)) = if P ≠ [] then (Tx.dec acc.length (bs line)).map fun e => (e, line.size + 1) else none := by
      unfold Tx.step
      rw [← extract_bs, show 59 - m = acc.length by omega]
      by_cases h : (10 : UInt8) ∈ bs (s.extract (Tx.total acc) s.size)
      · rw [if_pos h, if_pos (hPm.1 h), ← hline, bs_len]
      · rw [if_neg h, if_neg (fun e => h (hPm.2 e))]
    have HST := Lib.hid hstep
    have HIN := Lib.hid (fun h : (10 : UInt8) ∈ bs (s.extract (Tx.total acc) s.size) => Tx.upto_lt h)
    have HPM := Lib.hid hPm
    have HLN := Lib.hid hline
    clear hP hPm hS hstep hline hxs hn0
    cases P with
    | nil =>
      have HE : Hid (acc = Tx.rd 60 (bs s)) := fin.out (by rw [Tx.rd, HST.out, if_neg (by simp)])
      have HT : Hid (Tx.total acc = Tx.total (Tx.rd 60 (bs s))) := by show _ = _; rw [HE.out]
      generalize Tx.total acc = at0 at *
      clear HST HIN HPM HLN HRD
      go_wp2_with fail
      refine (HS.out _).mono ?_
      rintro e w1 ⟨a, cap, rfl, ho, hb1⟩
      obtain ⟨g, rfl, hg, hge, hgl⟩ := own_head ho
      rw [HX.out] at hg
      clear ho
      have HB1 := Lib.hid (HB.out.trans (hb1.mono HB.out.size))
      have HO1 := Lib.hid (own_below HO.out (Nat.le_refl _) hb1)
      have hvb : ∀ k, (Value.slice a1 acc.length c1).ownBlock = some k → k < g := fun k hk => Nat.lt_of_lt_of_le (HO.out.lt k hk).2 hge
      have HVB := Lib.hid hvb
      clear hb1 hge hvb
      go_wp2_with fail
      refine (HR.out _).mono ?_
      rintro e w2 ⟨c, r, b, rfl, hcase, hb2⟩
      have HCS := Lib.hid hcase; clear hcase
      have hg2 : w2.cell? ⟨g, 0, none⟩ = some (.string line) := (bcell hb2 hgl).trans hg
      have hgl2 : g < w2.heap.size := Nat.lt_of_lt_of_le hgl hb2.size
      have HB2 := Lib.hid (show Below w.heap.size w (w2.alloc (.cells #[.string c, .string r] 27)) from (HB1.out.trans (hb2.mono HB1.out.size)).alloc (Nat.le_trans HB1.out.size hb2.size) _)
      have HO2 := Lib.hid (own_below (own_below HO1.out (Nat.le_refl _) hb2) (w' := w2.alloc (.cells #[.string c, .string r] 27)) (Nat.le_refl _) ((Below.refl _ _).alloc (Nat.le_refl _) _))
      clear hb2 hg hgl
      unfold recV
      go_wp2
      go_ret2
      refine ⟨a1, c1, ret_v2 (by rw [HE.out]; rfl) (by rw [← HT.out]; rfl), ?_, HB2.out⟩
      have h := HO2.out
      rw [HE.out] at h
      exact h
    | cons p0 P' =>
      have hlen : ((P'.length + 1 + 1 : Nat) : Int) ≥ 2 := by omega
      cases hd : Tx.dec acc.length (bs line) with
      | none =>
        have HE : Hid (acc = Tx.rd 60 (bs s)) := fin.out (by rw [Tx.rd, HST.out, if_pos (by simp), hd]; simp only [Option.map_none])
        have HT : Hid (Tx.total acc = Tx.total (Tx.rd 60 (bs s))) := by show _ = _; rw [HE.out]
        generalize Tx.total acc = at0 at *
        have HD := Lib.hid hd
        clear HST HIN HPM HLN HRD hd
        go_wp2_with fail
        refine (HS.out _).mono ?_
        rintro e w1 ⟨a, cap, rfl, ho, hb1⟩
        obtain ⟨g, rfl, hg, hge, hgl⟩ := own_head ho
        rw [HX.out] at hg
        clear ho
        have HB1 := Lib.hid (HB.out.trans (hb1.mono HB.out.size))
        have HO1 := Lib.hid (own_below HO.out (Nat.le_refl _) hb1)
        have hvb : ∀ k, (Value.slice a1 acc.length c1).ownBlock = some k → k < g := fun k hk => Nat.lt_of_lt_of_le (HO.out.lt k hk).2 hge
        have HVB := Lib.hid hvb
        clear hb1 hge hvb
        go_wp2_with fail
        refine (HR.out _).mono ?_
        rintro e w2 ⟨c, r, b, rfl, hcase, hb2⟩
        have HCS := Lib.hid hcase; clear hcase
        have hg2 : w2.cell? ⟨g, 0, none⟩ = some (.string line) := (bcell hb2 hgl).trans hg
        have hgl2 : g < w2.heap.size := Nat.lt_of_lt_of_le hgl hb2.size
        have HB2 := Lib.hid (show Below w.heap.size w (w2.alloc (.cells #[.string c, .string r] 27)) from (HB1.out.trans (hb2.mono HB1.out.size)).alloc (Nat.le_trans HB1.out.size hb2.size) _)
        have HO2 := Lib.hid (own_below (own_below HO1.out (Nat.le_refl _) hb2) (w' := w2.alloc (.cells #[.string c, .string r] 27)) (Nat.le_refl _) ((Below.refl _ _).alloc (Nat.le_refl _) _))
        clear hb2 hg hgl
        unfold recV
        obtain rfl : b = false := by
          rcases HCS.out with ⟨_, h⟩ | ⟨h, _⟩
          · rw [HD.out] at h; cases h
          · exact h
        go_wp2
        go_ret2
        refine ⟨a1, c1, ret_v2 (by rw [HE.out]; rfl) (by rw [← HT.out]; rfl), ?_, HB2.out⟩
        have h := HO2.out
        rw [HE.out] at h
        exact h
      | some e0 =>
        have HD := Lib.hid hd
        have hin : (10 : UInt8) ∈ bs (s.extract (Tx.total acc) s.size) := HPM.out.2 (by simp)
        have hle : Tx.total acc + (line.size + 1) ≤ s.size := by
          have h := HIN.out hin
          rw [← HLN.out, bs_len, extract_bs, List.length_drop, bs_len] at h
          omega
        have HE : Hid ((acc ++ [(e0, line.size + 1)]) ++ Tx.rd m ((bs s).drop (Tx.total (acc ++ [(e0, line.size + 1)]))) = Tx.rd 60 (bs s)) := by
          show _ = _
          have h := HRD.out
          rw [Tx.rd, HST.out, if_pos (by simp), hd] at h
          simp only [Option.map_some] at h
          rw [Tx.total_append, Tx.total_cons, Tx.total_nil, ← h, List.drop_drop, List.append_assoc]
          simp
        have HTO : Hid (Tx.total (acc ++ [(e0, line.size + 1)]) = Tx.total acc + (line.size + 1)) := by
          show _ = _
          rw [Tx.total_append, Tx.total_cons, Tx.total_nil]
        have hn40 : acc.length + 1 ≤ 1099511627776 := by omega
        clear HST HIN HPM HLN HRD hd hin fin
        generalize Tx.total acc = at0 at *
        go_wp2_with fail
        refine (HS.out _).mono ?_
        rintro e w1 ⟨a, cap, rfl, ho, hb1⟩
        obtain ⟨g, rfl, hg, hge, hgl⟩ := own_head ho
        rw [HX.out] at hg
        clear ho
        have HB1 := Lib.hid (HB.out.trans (hb1.mono HB.out.size))
        have HO1 := Lib.hid (own_below HO.out (Nat.le_refl _) hb1)
        have hvb : ∀ k, (Value.slice a1 acc.length c1).ownBlock = some k → k < g := fun k hk => Nat.lt_of_lt_of_le (HO.out.lt k hk).2 hge
        have HVB := Lib.hid hvb
        clear hb1 hge hvb
        go_wp2_with fail
        refine (HR.out _).mono ?_
        rintro e w2 ⟨c, r, b, rfl, hcase, hb2⟩
        have HCS := Lib.hid hcase; clear hcase
        have hg2 : w2.cell? ⟨g, 0, none⟩ = some (.string line) := (bcell hb2 hgl).trans hg
        have hgl2 : g < w2.heap.size := Nat.lt_of_lt_of_le hgl hb2.size
        have HB2 := Lib.hid (show Below w.heap.size w (w2.alloc (.cells #[.string c, .string r] 27)) from (HB1.out.trans (hb2.mono HB1.out.size)).alloc (Nat.le_trans HB1.out.size hb2.size) _)
        have HO2 := Lib.hid (own_below (own_below HO1.out (Nat.le_refl _) hb2) (w' := w2.alloc (.cells #[.string c, .string r] 27)) (Nat.le_refl _) ((Below.refl _ _).alloc (Nat.le_refl _) _))
        clear hb2 hg hgl
        unfold recV
        obtain ⟨rfl, hce⟩ : b = true ∧ recE c r = e0 := by
          rcases HCS.out with ⟨h1, h⟩ | ⟨_, h⟩
          · rw [HD.out] at h; injection h with h; exact ⟨h1, h.symm⟩
          · rw [HD.out] at h; cases h
        have HCE : Hid (encL e0 = [.string c, .string r]) := by
          show _ = _
          rw [← hce]
          unfold encL recE
          simp only [ba_bs]
        clear hce HCS
        have hbs2 : w.heap.size ≤ (w2.alloc (.cells #[.string c, .string r] 27)).heap.size := HB2.out.size
        have hgl3 : g < (w2.alloc (.cells #[.string c, .string r] 27)).heap.size := by simp; omega
        go_wp2_with (at_builtin; refine wpList_app1 slL rfl (.tmp 39) (.tmp 41) rfl rfl HO2.out [.string c, .string r] rfl rfl (by simp) (by simp [Value.oneCell']) hn40 hbs2 ?_; intro v' w3 hown3 hg3 ht3; have HO3 := Lib.hid hown3; have HB3 := Lib.hid (below_app HB2.out hbs2 HO2.out (Nat.le_refl _) hg3); have hg4 : w3.cell? ⟨g, 0, none⟩ = some (.string line) := (World.cell?_of_block (w := w2.alloc (.cells #[.string c, .string r] 27)) (w' := w3) (a := ⟨g, 0, none⟩) (hg3.block g hgl3 (fun e => Nat.lt_irrefl _ (HVB.out g e.symm)))).trans ((bcell (Below.refl _ _ |>.alloc (Nat.le_refl _) _ : Below w2.heap.size w2 (w2.alloc (.cells #[.string c, .string r] 27))) hgl2).trans hg2); clear hown3 hg3 ht3)
        go_roundw
        case rel =>
          refine ⟨acc ++ [(e0, line.size + 1)], m, (by simp <;> omega), HE.out, by rw [HTO.out]; omega, by rw [HTO.out]; go_num, ?_, HB3.out⟩
          have h := HO3.out
          rw [List.length_append, List.map_append, flat_append]
          show w3.ownsRow _ _ _ _ _ (_ ++ flat encL [e0])
          rw [flat_one, HCE.out]
          exact h
        case measure =>
          obtain ⟨x1, y1, hx⟩ := own_slice HO3.out
          rw [hx]
          simp
          omega

end Go.Proofs.YtfdhicojnbicgaaDoor
