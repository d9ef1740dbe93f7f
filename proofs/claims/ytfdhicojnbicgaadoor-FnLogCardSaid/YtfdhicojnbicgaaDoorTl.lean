/- Walks on texts: the parts of a text, by the reference. -/
import Derived.Test.YtfdhicojnbicgaaDoorTj
import Derived.Test.YtfdhicojnbicgaaDoorKb
namespace Go.Proofs.YtfdhicojnbicgaaDoor
open Go.RowKit
set_option linter.unusedVariables false

def splitL (c : UInt8) : List UInt8 → List (List UInt8)
  | [] => [[]]
  | x :: t => if x = c then [] :: splitL c t else match splitL c t with
    | [] => [[x]]
    | h :: r => (x :: h) :: r
theorem splitL_app {c : UInt8} (b : List UInt8) : ∀ {a : List UInt8}, c ∉ a → splitL c (a ++ c :: b) = a :: splitL c b
  | [], _ => by simp [splitL]
  | x :: t, h => by
    have hx : x ≠ c := fun e => h (by simp [e])
    have ih := splitL_app b (a := t) (fun m => h (List.mem_cons_of_mem _ m))
    rw [List.cons_append, splitL, if_neg hx, ih]
theorem splitL_none {c : UInt8} : ∀ {a : List UInt8}, c ∉ a → splitL c a = [a]
  | [], _ => rfl
  | x :: t, h => by
    have hx : x ≠ c := fun e => h (by simp [e])
    have ih := splitL_none (a := t) (fun m => h (List.mem_cons_of_mem _ m))
    rw [splitL, if_neg hx, ih]
theorem splitL_head (c : UInt8) (s : List UInt8) : ∃ r, splitL c s = Tx.upto c s :: r ∧ (c ∈ s ↔ r ≠ []) := by
  by_cases h : c ∈ s
  · obtain ⟨a, b, rfl, hn⟩ := Tx.parts h
    refine ⟨splitL c b, by rw [splitL_app b hn, Tx.upto_app b hn], ⟨fun _ e => ?_, fun _ => h⟩⟩
    by_cases hb : c ∈ b
    · obtain ⟨a', b', rfl, hn'⟩ := Tx.parts hb
      rw [splitL_app b' hn'] at e; cases e
    · rw [splitL_none hb] at e; cases e
  · exact ⟨[], by rw [splitL_none h, Tx.upto_none h], ⟨fun m => absurd m h, fun m => absurd rfl m⟩⟩
theorem splitL_len (c : UInt8) (s : List UInt8) : (splitL c s).length ≤ s.length + 1 := by
  induction s with
  | nil => simp [splitL]
  | cons x t ih =>
    rw [splitL]
    split
    · simp; omega
    · split
      · simp
      · rename_i h r e; rw [e] at ih; simp at ih ⊢; omega

theorem Tryd.infoS : (Tryd.prog.info? 9).map (fun i => (i.zero, i.size, i.bytes)) = some (some (.string ⟨#[]⟩), 1, 16) := by kernel_rfl
theorem slS : SlT Tryd.prog 104 9 (.string ⟨#[]⟩) 1 16 := ⟨Tryd.underlying104, info_parts Tryd.infoS, rfl, by decide, by decide⟩

def strL (l : List UInt8) : Value := .string (ba l)
def SplitEnd (w : World) (P : List (List UInt8)) (e : Ending) (w' : World) : Prop :=
  ∃ (a : Option Addr) (cap : Nat), e = .returned (.slice a P.length cap) ∧ w'.ownsRow w.heap.size 9 1 (.slice a P.length cap) P.length (P.map strL) ∧ Below w.heap.size w w'

theorem piece_bs (s : ByteArray) (a b : Nat) : bs (s.extract a b) = ((bs s).drop a).take (b - a) := by
  unfold bs; rw [Lib.extract_data]
theorem extract_bs' (s : ByteArray) (a : Nat) : bs (s.extract a s.size) = (bs s).drop a := by
  unfold bs; rw [Lib.extract_to_end]
theorem piece_str (s : ByteArray) (a b : Nat) : Value.string (s.extract a b) = strL (((bs s).drop a).take (b - a)) := by
  unfold strL; rw [← piece_bs, ba_bs]

set_option maxRecDepth 100000 in
set_option maxHeartbeats 2000000 in
theorem l1Split_any (s : ByteArray) (c : UInt8) (n : Int) (w : World) (hs : s.size ≤ 4000000000) (hn : n = (c.toNat : Int)) :
    Calls Tryd.prog 81 #[.string s, .int .u8 n] w (SplitEnd w (splitL c (bs s))) := by
  have HN := Lib.hid hn; clear hn
  have E1 := Lib.hid (own_lit (w := w) (e := 9) (size := 1) #[] 0 (by omega) rfl)
  go_enter Tryd.func81, Tryd.ntmps81
  go_wp2
  go_loopw [5, 6, 7] (fun v f i wr => ∃ (acc : List (List UInt8)) (f0 k : Nat), f0 ≤ k ∧ k ≤ s.size ∧ f = .int .i64 f0 ∧ i = .int .i64 k ∧ acc.length ≤ f0 ∧ acc ++ splitL c ((bs s).drop f0) = splitL c (bs s) ∧ c ∉ ((bs s).drop f0).take (k - f0) ∧
      wr.ownsRow w.heap.size 9 1 v acc.length (acc.map strL) ∧ Below w.heap.size w wr) (fun _ _ i _ => s.size - (intOf i).toNat)
  case atStart => exact ⟨[], 0, 0, by omega, by omega, rfl, rfl, by simp, by simp, by simp, E1.out, (Below.refl _ _).alloc (Nat.le_refl _) _⟩
  case round =>
    obtain ⟨acc, f0, k, hfk, hk, rfl, rfl, hacc, hspl, hno, hown, hb⟩ := hrel
    clear E1
    have HO := Lib.hid hown; clear hown
    have HB := Lib.hid hb; clear hb
    have HS := Lib.hid hspl; clear hspl
    have HX := Lib.hid hno; clear hno
    have hn40 : acc.length + 1 ≤ 1099511627776 := by omega
    have hbs : w.heap.size ≤ wr.heap.size := HB.out.size
    by_cases hlt : k < s.size
    · have hpiece : (bs s).drop f0 = ((bs s).drop f0).take (k - f0) ++ s[k] :: (bs s).drop (k + 1) := by
        have h1 := (List.take_append_drop (k - f0) ((bs s).drop f0)).symm
        have h2 : (bs s).drop k = s[k] :: (bs s).drop (k + 1) := List.drop_eq_getElem_cons (by rw [bs_len]; exact hlt)
        rw [List.drop_drop, show f0 + (k - f0) = k by omega, h2] at h1
        exact h1
      by_cases hc : s[k] = c
      · have hb1 : ((s[k].toNat : Int) == n) = true := by rw [HN.out, hc]; simp
        have HS2 : Hid ((acc ++ [((bs s).drop f0).take (k - f0)]) ++ splitL c ((bs s).drop (k + 1)) = splitL c (bs s)) := by
          show _ = _
          rw [← HS.out, hpiece, hc, splitL_app _ HX.out, List.append_assoc]
          rw [← hc, ← hpiece]; rfl
        have HP := Lib.hid (piece_str s f0 k)
        clear hpiece hc
        go_wp2_with (at_builtin; refine wpList_app1 slS rfl (.tmp 20) (.tmp 25) rfl rfl HO.out [.string (s.extract f0 k)] rfl rfl (by simp) (by simp [Value.oneCell']) hn40 hbs ?_; intro v' w2 hown2 hg2 ht2; have HO2 := Lib.hid hown2; have HB2 := Lib.hid (below_app HB.out hbs HO.out (Nat.le_refl _) hg2); clear hown2 hg2 ht2)
        go_roundw
        case rel =>
          refine ⟨acc ++ [((bs s).drop f0).take (k - f0)], k + 1, k + 1, by omega, by omega, by go_num, by go_num, by simp; omega, HS2.out, by simp, ?_, HB2.out⟩
          have h := HO2.out
          rw [HP.out] at h
          rw [List.length_append, List.map_append]
          exact h
        case measure => simp [intOf]; omega
      · have hb1 : ((s[k].toNat : Int) == n) = false := by
          rw [HN.out, beq_eq_false_iff_ne]
          intro e
          exact hc (UInt8.toNat_inj.1 (by omega))
        have HX2 : Hid (c ∉ ((bs s).drop f0).take (k + 1 - f0)) := by
          show c ∉ _
          rw [hpiece, show k + 1 - f0 = (k - f0) + 1 by omega]
          have hl : (((bs s).drop f0).take (k - f0)).length = k - f0 := by rw [List.length_take, List.length_drop, bs_len]; omega
          intro hm
          rw [List.take_append, hl, List.mem_append] at hm
          rcases hm with hm | hm
          · exact HX.out (List.mem_of_mem_take hm)
          · rw [show k - f0 + 1 - (k - f0) = 1 by omega] at hm
            simp at hm
            exact hc hm.symm
        clear hpiece hc
        go_wp2
        go_roundw
        case rel => exact ⟨acc, f0, k + 1, by omega, by omega, rfl, by go_num, hacc, HS.out, HX2.out, HO.out, HB.out⟩
        case measure => simp [intOf]; omega
    · obtain rfl : k = s.size := by omega
      have HE : Hid (acc ++ [((bs s).drop f0).take (s.size - f0)] = splitL c (bs s)) := by
        show _ = _
        rw [← HS.out]
        have e : ((bs s).drop f0).take (s.size - f0) = (bs s).drop f0 := List.take_of_length_le (by rw [List.length_drop, bs_len]; omega)
        have h := HX.out
        rw [e] at h ⊢
        rw [splitL_none h]
      have HP := Lib.hid (piece_str s f0 s.size)
      go_wp2_with (at_builtin; refine wpList_app1 slS rfl (.tmp 29) (.tmp 33) rfl rfl HO.out [.string (s.extract f0 s.size)] rfl rfl (by simp) (by simp [Value.oneCell']) hn40 hbs ?_; intro v' w2 hown2 hg2 ht2; have HO2 := Lib.hid hown2; have HB2 := Lib.hid (below_app HB.out hbs HO.out (Nat.le_refl _) hg2); clear hown2 hg2 ht2)
      go_ret
      obtain ⟨a', c', hv⟩ := own_slice HO2.out
      have h := HO2.out
      rw [hv, HP.out] at h
      refine ⟨a', c', ?_, ?_, HB2.out⟩
      · show Ending.returned v' = _
        rw [hv, ← HE.out, List.length_append]; rfl
      · rw [← HE.out, List.length_append, List.map_append]
        exact h

end Go.Proofs.YtfdhicojnbicgaaDoor
