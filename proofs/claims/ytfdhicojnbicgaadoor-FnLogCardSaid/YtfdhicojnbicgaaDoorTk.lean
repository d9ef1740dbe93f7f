/- Walks on texts: all records of a text, by the program. -/
import Derived.Test.YtfdhicojnbicgaaDoorTj
import Derived.Test.YtfdhicojnbicgaaDoorKc
import Derived.Test.YtfdhicojnbicgaaDoorKe
namespace Go.Proofs.YtfdhicojnbicgaaDoor
open Go.RowKit
set_option linter.unusedVariables false

theorem Tryd.infoL : (Tryd.prog.info? 27).map (fun i => (i.zero, i.size, i.bytes)) = some (some (.agg #[.string ⟨#[]⟩, .string ⟨#[]⟩]), 2, 32) := by kernel_rfl
theorem slL : SlT Tryd.prog 48 27 (.agg #[.string ⟨#[]⟩, .string ⟨#[]⟩]) 2 32 := ⟨Tryd.underlying48, info_parts Tryd.infoL, rfl, by decide, by decide⟩
theorem Tryd.infoI : (Tryd.prog.info? 3).map (fun i => (i.zero, i.size, i.bytes)) = some (some (.int .i64 0), 1, 8) := by kernel_rfl
theorem slI : SlT Tryd.prog 79 3 (.int .i64 0) 1 8 := ⟨Tryd.underlying79, info_parts Tryd.infoI, rfl, by decide, by decide⟩

def encL (e : Tx.Rec) : List Value := [.string (ba e.1), .string (ba e.2)]
theorem encL_len (e : Tx.Rec) : (encL e).length = 2 := rfl
def endsL (r : List (Tx.Rec × Nat)) : List Int := (List.range r.length).map fun i => ((Tx.total (r.take (i + 1)) : Nat) : Int)
theorem endsL_len (r : List (Tx.Rec × Nat)) : (endsL r).length = r.length := by simp [endsL]
theorem endsL_snoc (r : List (Tx.Rec × Nat)) (x : Tx.Rec × Nat) : endsL (r ++ [x]) = endsL r ++ [((Tx.total r : Nat) : Int) + (x.2 : Int)] := by
  unfold endsL
  rw [List.length_append, List.length_singleton, List.range_succ, List.map_append]
  congr 1
  · apply List.map_congr_left
    intro i hi
    rw [List.mem_range] at hi
    rw [List.take_append_of_le_length (by omega)]
  · simp only [List.map_cons, List.map_nil]
    rw [List.take_of_length_le (by simp), Tx.total_append, Tx.total_cons, Tx.total_nil]
    simp

theorem extract_bs (s : ByteArray) (a : Nat) : bs (s.extract a s.size) = (bs s).drop a := by
  unfold bs; rw [Lib.extract_to_end]

/-- The two lists that are read off a text, as they lie. -/
def ReadEnd (w : World) (s : ByteArray) (e : Ending) (w' : World) : Prop :=
  ∃ (a1 a2 : Option Addr) (c1 c2 : Nat), e = .returned (.tuple #[.slice a1 (Tx.rd 60 (bs s)).length c1, .slice a2 (Tx.rd 60 (bs s)).length c2]) ∧
    Two w' w.heap.size 27 2 (.slice a1 (Tx.rd 60 (bs s)).length c1) (Tx.rd 60 (bs s)).length (flat encL ((Tx.rd 60 (bs s)).map (·.1))) 3 1 (.slice a2 (Tx.rd 60 (bs s)).length c2) (Tx.rd 60 (bs s)).length ((endsL (Tx.rd 60 (bs s))).map (Value.int .i64)) ∧ Below w.heap.size w w'

set_option maxRecDepth 100000 in
set_option maxHeartbeats 2000000 in
theorem read_any (s : ByteArray) (w : World) (hs : s.size ≤ 4000000000) (ht : Tab w) :
    Calls Tryd.prog 55 #[.string s] w (ReadEnd w s) := by
  have E1 := own_lit (w := w) (e := 27) (size := 2) #[] 0 (by omega) rfl
  have E2 := own_lit (w := w.alloc (.cells #[] 27)) (e := 3) (size := 1) #[] 0 (by omega) rfl
  have E : Hid (Two ((w.alloc (.cells #[] 27)).alloc (.cells #[] 3)) w.heap.size 27 2 (.slice (some ⟨w.heap.size, 0, none⟩) 0 0) 0 [] 3 1 (.slice (some ⟨w.heap.size + 1, 0, none⟩) 0 0) 0 []) :=
    ⟨own_below E1 (Nat.le_refl _) ((Below.refl _ _).alloc (Nat.le_refl _) _), own_mono (by simpa using E2) (by simp), by intro k h1 h2; simp [Value.ownBlock] at h1 h2; omega⟩
  have HT := Lib.hid ht; clear ht E1 E2
  go_enter Tryd.func55, Tryd.ntmps55
  go_wp2
  go_loopw [4, 5, 6] (fun v u i wr => ∃ (acc : List (Tx.Rec × Nat)) (n : Nat), acc.length + n = 60 ∧ acc ++ Tx.rd n ((bs s).drop (Tx.total acc)) = Tx.rd 60 (bs s) ∧ Tx.total acc ≤ s.size ∧ i = .int .i64 (Tx.total acc : Nat) ∧
      Two wr w.heap.size 27 2 v acc.length (flat encL (acc.map (·.1))) 3 1 u acc.length ((endsL acc).map (Value.int .i64)) ∧ Below w.heap.size w wr) (fun v _ _ _ => match v with | .slice _ n _ => 61 - n | _ => 0)
  case atStart => exact ⟨[], 60, rfl, rfl, by simp [Tx.total], rfl, E.out, by (repeat (first | exact Below.refl _ _ | assumption | refine Below.setCell ?_ (by first | omega | (simp; done) | (simp; omega)) _ | refine Below.alloc ?_ (by first | omega | (simp; done) | (simp; omega)) _ | refine Below.drew ?_ | refine below_drewN ?_ _))⟩
  case round =>
    obtain ⟨acc, n, hn, hrd, hat, rfl, htwo, hb⟩ := hrel
    obtain ⟨a1, c1, hv⟩ := own_slice htwo.1
    obtain ⟨a2, c2, hu⟩ := own_slice htwo.2
    subst hv
    subst hu
    clear E
    have HB := Lib.hid hb; clear hb
    have HTw := Lib.hid htwo; clear htwo
    have HTR := Lib.hid (HT.out.below HB.out)
    have HRD := Lib.hid hrd; clear hrd
    have hxs : (s.extract (Tx.total acc) s.size).size ≤ 4000000000 := by rw [← bs_len, extract_bs, List.length_drop, bs_len]; omega
    cases hst : Tx.step acc.length (bs (s.extract (Tx.total acc) s.size)) with
    | none =>
      have HD := Lib.hid (fun w ht => decode_none acc.length (s.extract (Tx.total acc) s.size) w hxs (by omega) ht hst)
      have HE : Hid (acc = Tx.rd 60 (bs s)) := by
        have h := HRD.out
        rw [extract_bs] at hst
        cases n with
        | zero => rw [Tx.rd, List.append_nil] at h; exact h
        | succ m =>
          rw [Tx.rd, show 59 - m = acc.length by omega, hst] at h
          show _ = _
          simpa using h
      clear hst hxs
      generalize Tx.total acc = at0 at *
      go_wp2_with fail
      refine (HD.out _ HTR.out).mono ?_
      rintro e w1 ⟨rfl, hb1⟩
      have HB1 := Lib.hid (HB.out.trans (hb1.mono HB.out.size))
      have HTw1 := Lib.hid (HTw.out.below hb1); clear hb1
      unfold zRec
      go_wp2
      go_ret2
      refine ⟨a1, a2, c1, c2, ret_v2 (by rw [HE.out]; rfl) (by rw [HE.out]; rfl), ?_, ?_⟩
      · have h := (HTw1.out.below (w' := w1.alloc (.cells #[.string ⟨#[]⟩, .string ⟨#[]⟩] 27)) ((Below.refl _ _).alloc (Nat.le_refl _) _))
        rw [HE.out] at h
        exact h
      · exact HB1.out.alloc HB1.out.size _
    | some x =>
      obtain ⟨e0, l⟩ := x
      have HD := Lib.hid (fun w ht => decode_some acc.length (s.extract (Tx.total acc) s.size) e0 l w hxs ht hst)
      obtain ⟨m, rfl⟩ : ∃ m, n = m + 1 := by
        obtain ⟨hk, _⟩ := Tx.step_iff.1 hst
        exact ⟨n - 1, by omega⟩
      have hlt : Tx.total acc + l ≤ s.size := by
        obtain ⟨_, _, hl, tl, htl⟩ := Tx.step_iff.1 hst
        have := congrArg List.length htl
        rw [bs_len] at this
        simp at this
        omega
      have HE : Hid ((acc ++ [(e0, l)]) ++ Tx.rd m ((bs s).drop (Tx.total (acc ++ [(e0, l)]))) = Tx.rd 60 (bs s)) := by
        show _ = _
        have h := HRD.out
        rw [extract_bs] at hst
        rw [Tx.rd, show 59 - m = acc.length by omega, hst] at h
        simp only at h
        rw [Tx.total_append, Tx.total_cons, Tx.total_nil, ← h, List.drop_drop, List.append_assoc]
        simp
      have hEN := Lib.hid (endsL_snoc acc (e0, l))
      have HTO : Hid (Tx.total (acc ++ [(e0, l)]) = Tx.total acc + l) := by
        show _ = _
        rw [Tx.total_append, Tx.total_cons, Tx.total_nil]; simp
      clear hst hxs
      generalize Tx.total acc = at0 at *
      unfold recVE recV at HD
      have hn40 : acc.length + 1 ≤ 1099511627776 := by omega
      go_wp2_with fail
      refine (HD.out _ HTR.out).mono ?_
      rintro e w1 ⟨rfl, hb1⟩
      have HB1 := Lib.hid (show Below w.heap.size w (w1.alloc (.cells #[.string (ba e0.1), .string (ba e0.2)] 27)) from (HB.out.trans (hb1.mono HB.out.size)).alloc (Nat.le_trans HB.out.size hb1.size) _)
      have HTw1 := Lib.hid ((HTw.out.below hb1).below (w' := w1.alloc (.cells #[.string (ba e0.1), .string (ba e0.2)] 27)) ((Below.refl _ _).alloc (Nat.le_refl _) _))
      have hbs1 : w.heap.size ≤ (w1.alloc (.cells #[.string (ba e0.1), .string (ba e0.2)] 27)).heap.size := HB1.out.size
      clear hb1
      go_wp2_with (first
        | (at_builtin; refine wpList_app1 slL rfl (.tmp 29) (.tmp 31) rfl rfl HTw1.out.1 [.string (ba e0.1), .string (ba e0.2)] rfl rfl (by simp) (by simp [Value.oneCell']) hn40 hbs1 ?_; intro v' w2 hown2 hg2 ht2; have HTw2 := Lib.hid (HTw1.out.app1 hown2 hg2 ht2); have HB2 := Lib.hid (below_app HB1.out hbs1 HTw1.out.1 (Nat.le_refl _) hg2); have hbs2 := HB2.out.size; clear hown2 hg2 ht2)
        | (at_builtin; refine wpList_app1 slI rfl (.tmp 33) (.tmp 35) rfl rfl HTw2.out.2 [.int .i64 ((at0 : Int) + (l : Int))] rfl rfl (by simp) (by simp [Value.oneCell']) hn40 hbs2 ?_; intro u' w3 hown3 hg3 ht3; have HTw3 := Lib.hid (HTw2.out.app2 hown3 hg3 ht3); have HB3 := Lib.hid (below_app HB2.out hbs2 HTw2.out.2 (Nat.le_refl _) hg3); clear hown3 hg3 ht3))
      go_roundw
      case rel =>
        refine ⟨acc ++ [(e0, l)], m, by simp; omega, HE.out, by rw [HTO.out]; omega, by rw [HTO.out]; go_num, ?_, HB3.out⟩
        have h := HTw3.out
        rw [List.length_append, List.map_append, flat_append, hEN.out, List.map_append]
        exact h
      case measure =>
        obtain ⟨x1, y1, hx⟩ := own_slice HTw3.out.1
        rw [hx]
        simp
        omega

end Go.Proofs.YtfdhicojnbicgaaDoor
