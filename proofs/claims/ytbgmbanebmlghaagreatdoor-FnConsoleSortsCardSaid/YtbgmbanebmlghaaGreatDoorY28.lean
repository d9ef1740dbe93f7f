/- Several texts in one: lemmas and walks of the functions that the law reaches. -/
import Derived.Test.YtbgmbanebmlghaaGreatDoorY7
import Derived.Test.YtbgmbanebmlghaaGreatDoorY25

namespace Go.Proofs.YtbgmbanebmlghaaGreatDoor
open Go.RowKit
set_option linter.unusedVariables false

theorem join_snoc (sep y : List UInt8) : ∀ xs : List (List UInt8), Lib.join (xs ++ [y]) sep = (if xs = [] then [] else Lib.join xs sep ++ sep) ++ y
  | [] => by simp [Lib.join_one]
  | x :: r => by
    rw [List.cons_append, Lib.join_cons, Lib.join_cons, if_neg (by simp)]
    simp [Lib.joinTail]
theorem itoa_len (n : Int) (h0 : -9223372036854775808 ≤ n) (h1 : n ≤ 9223372036854775807) : (Lib.itoa n).length ≤ 20 := by
  unfold Lib.itoa
  split
  · have := Tx.digits_len 18 n.natAbs (by omega)
    simp; omega
  · have := Tx.digits_len 18 n.toNat (by omega)
    omega
theorem join_le {m : Nat} (sep : List UInt8) (hs : sep.length ≤ 1) : ∀ {xs : List (List UInt8)}, (∀ x ∈ xs, x.length ≤ m) → (Lib.join xs sep).length ≤ xs.length * (m + 1)
  | [], _ => by simp [Lib.join]
  | [x], h => by have := h x (by simp); rw [Lib.join_one]; simp; omega
  | x :: y :: r, h => by
    have ih := join_le sep hs (xs := y :: r) (fun z hz => h z (List.mem_cons_of_mem _ hz))
    have hx := h x (by simp)
    rw [Lib.join_length] at ih ⊢
    simp only [Lib.lens, List.length_cons, List.map_cons, List.sum_cons] at ih ⊢
    have e : (r.length + 1 + 1) * (m + 1) = (r.length + 1) * (m + 1) + (m + 1) := by rw [Nat.add_mul, Nat.one_mul]
    have e2 : sep.length * (r.length + 1) = sep.length * r.length + sep.length := by rw [Nat.mul_succ]
    omega

theorem itoaI_any (n : Int) (w : World) (h0 : -9223372036854775808 ≤ n) (h1 : n ≤ 9223372036854775807) (ht : Tab w) :
    Calls Tryz.prog 60 #[.int .i64 n] w fun e w' => e = .returned (.string (ba (Lib.itoa n))) ∧ Below w.heap.size w w' :=
  (Tryz.strconv_Itoa n h0 h1 w ht).mono fun e w' ⟨he, k, os, hw⟩ => ⟨he, by rw [hw]; exact Lib.below_grow _ _ (Nat.le_refl _) _ _⟩

theorem below_trI {B : Nat} {w w1 w2 : World} (h : Below B w w1) (hb : Below w1.heap.size w1 w2) (hB : B ≤ w1.heap.size) : Below B w w2 := h.trans (hb.mono hB)
def numB (n : Int) : ByteArray := ba (Lib.itoa n)
theorem numB_size {n : Int} (h0 : -9223372036854775808 ≤ n) (h1 : n ≤ 9223372036854775807) : (numB n).size ≤ 20 := by unfold numB; rw [ba_size]; exact itoa_len n h0 h1
theorem itoaB_any (n : Int) (w : World) (h0 : -1000000 ≤ n) (h1 : n ≤ 1000000) (ht : Tab w) : Calls Tryz.prog 60 #[.int .i64 n] w fun e w' => e = .returned (.string (numB n)) ∧ Below w.heap.size w w' := itoaI_any n w (by omega) (by omega) ht

def numT (sep : UInt8) (zs : List Int) : List UInt8 := if zs = [] then [45] else Lib.join (zs.map Lib.itoa) [sep]
theorem own_strs {w : World} {base g n c : Nat} {xs : List (List UInt8)} (h : w.ownsRow base 9 1 (.slice (some ⟨g, 0, none⟩) n c) n (xs.map strL)) : ∀ (j : Nat) x, (xs.map ba)[j]? = some x → w.cell? ⟨g, 0 + j, none⟩ = some (.string x) := by
  intro j x hx
  have hj := h.cells (g := g) rfl j (.string x) (by rw [List.getElem?_map] at hx ⊢; cases hq : xs[j]? with
    | none => rw [hq] at hx; simp at hx
    | some y => rw [hq] at hx; simp at hx; rw [← hx]; rfl)
  rw [addr_add_zero] at hj
  rw [Nat.zero_add]; exact hj
theorem data_ba (xs : List (List UInt8)) : (xs.map ba).map (·.data.toList) = xs := by
  rw [List.map_map]
  conv => rhs; rw [← List.map_id xs]
  rfl
theorem join_any (g c : Nat) (xs : List (List UInt8)) (sep : UInt8) (w : World) (hn : xs.length ≤ 1000) (hx : ∀ x ∈ xs, x.length ≤ 100) (base : Nat) (h : w.ownsRow base 9 1 (.slice (some ⟨g, 0, none⟩) xs.length c) xs.length (xs.map strL)) :
    Calls Tryz.prog 83 #[.slice (some ⟨g, 0, none⟩) xs.length c, .string ⟨#[sep]⟩] w fun e w' => e = .returned (.string (ba (Lib.join xs [sep]))) ∧ Below w.heap.size w w' := by
  have hl := join_le [sep] (by simp) hx
  have hc : xs.length ≤ c := by
    rcases h.2 with ⟨h2, _⟩ | ⟨g', cap, cur, hv, _, _, hn', _⟩
    · cases h2
    · simp only [Value.slice.injEq] at hv
      obtain ⟨_, _, rfl⟩ := hv
      exact hn'
  have hj := Tryz.strings_Join g 0 c (xs.map ba) ⟨#[sep]⟩ w (own_strs h) (h.lt g rfl).2 (by simp; omega) (by simpa using hc) (by rw [data_ba]; show (Lib.join xs [sep]).length ≤ _; omega)
  rw [data_ba, List.length_map] at hj
  exact hj

theorem itoas_succ {zs : List Int} {k : Nat} (hk : k < zs.length) : (zs.take (k + 1)).map Lib.itoa = (zs.take k).map Lib.itoa ++ [Lib.itoa (zs.getD k 0)] := by
  rw [List.take_add_one, List.map_append]
  simp [List.getD, List.getElem?_eq_getElem hk]

set_option maxRecDepth 100000 in
set_option maxHeartbeats 2000000 in
theorem numbersText_any (a : Option Addr) (c : Nat) (zs : List Int) (sep : UInt8) (w : World) (hl : zs.length ≤ 1000) (hz : ∀ x ∈ zs, -9223372036854775808 ≤ x ∧ x ≤ 9223372036854775807) (ht : Tab w) (h : IntsAt w a zs) :
    Calls Tryz.prog 188 #[.slice a zs.length c, .string ⟨#[sep]⟩] w fun e w' => e = .returned (.string (ba (numT sep zs))) ∧ Below w.heap.size w w' := by
  by_cases h0 : zs = []
  · subst h0
    go_enter Tryz.func188, Tryz.ntmps188
    go_wp2
    go_ret
    exact ⟨rfl, Below.refl _ _⟩
  have hpos : 0 < zs.length := List.length_pos_iff.2 h0
  have HN : Hid (numT sep zs = Lib.join (zs.map Lib.itoa) [sep]) := if_neg h0
  have H := Lib.hid h
  have HT := Lib.hid ht
  have HZ := Lib.hid hz
  have q0 : decide ((zs.length : Int) = 0) = false := decide_eq_false (by omega)
  have E1 := Lib.hid (own_lit (w := w) (e := 9) (size := 1) #[] 0 (by omega) rfl)
  clear h ht hz h0
  go_enter Tryz.func188, Tryz.ntmps188
  go_wp2
  go_loopw [5, 14] (fun v i wr => ∃ k : Nat, k ≤ zs.length ∧ i = .int .i64 k ∧ wr.ownsRow w.heap.size 9 1 v k (((zs.take k).map Lib.itoa).map strL) ∧ Below w.heap.size w wr) (fun _ i _ => zs.length - (intOf i).toNat)
  case atStart => exact ⟨0, by omega, rfl, E1.out, (Below.refl _ _).alloc (Nat.le_refl _) _⟩
  case round =>
    obtain ⟨k, hk, rfl, hown, hb⟩ := hrel
    clear E1
    have HO := Lib.hid hown; clear hown
    have HB := Lib.hid hb; clear hb
    by_cases hlt : k < zs.length
    · have hc1 := (H.out.below (Nat.le_refl _) HB.out).at hlt
      have hxr : -9223372036854775808 ≤ zs.getD k 0 ∧ zs.getD k 0 ≤ 9223372036854775807 := HZ.out _ (by rw [List.getD_eq_getElem?_getD, List.getElem?_eq_getElem hlt]; exact List.getElem_mem hlt)
      have hs := itoas_succ hlt
      obtain ⟨x, hx⟩ : ∃ x, zs.getD k 0 = x := ⟨_, rfl⟩
      rw [hx] at hc1 hxr hs
      have HS := Lib.hid hs; clear hs hx
      have HI := Lib.hid (itoaI_any x wr hxr.1 hxr.2 (HT.out.below HB.out))
      have hn : k + 1 ≤ 1099511627776 := by omega
      obtain ⟨b, off, rfl, hc1⟩ := hc1
      go_wp2_with fail
      refine HI.out.mono ?_
      rintro e w1 ⟨rfl, hb1⟩
      have HO1 := Lib.hid (own_below HO.out (Nat.le_refl _) hb1)
      have HB1 := Lib.hid (below_trI HB.out hb1 HB.out.size)
      have hbs := HB1.out.size
      clear hb1 HO HB
      go_wp2_with (at_builtin; refine wpList_app1 slS rfl (.tmp 18) (.tmp 21) rfl rfl HO1.out [.string (ba (Lib.itoa x))] rfl rfl (by simp) (by simp [Value.oneCell']) hn hbs ?_; intro v' w2 hown2 hg2 ht2)
      have HO2 := Lib.hid hown2
      have HB2 := Lib.hid (below_app HB1.out hbs HO1.out (Nat.le_refl _) hg2)
      clear hown2 hg2 ht2 hbs hn
      go_roundw
      case rel =>
        refine ⟨k + 1, by omega, by go_num, ?_, HB2.out⟩
        rw [HS.out, List.map_append]
        exact HO2.out
      case measure => simp [intOf]; omega
    · obtain rfl : k = zs.length := by omega
      have ho := HO.out
      rw [List.take_length] at ho
      obtain ⟨a', c', rfl⟩ := own_slice ho
      obtain ⟨g, rfl, _⟩ := own_at (i := 0) (x := strL (Lib.itoa (zs.getD 0 0))) ho (by rw [List.map_map, List.getElem?_map, List.getElem?_eq_getElem hpos]; simp [List.getD, List.getElem?_eq_getElem hpos])
      have HJ : Hid _ := Lib.hid (join_any g c' (zs.map Lib.itoa) sep wr (by simpa using hl) (fun x hx => by obtain ⟨n, hn, rfl⟩ := List.mem_map.1 hx; have := itoa_len n (HZ.out n hn).1 (HZ.out n hn).2; omega) w.heap.size (by rw [List.length_map]; exact ho))
      have HJ2 : Hid _ := Lib.hid (by have h := HJ.out; rw [List.length_map] at h; exact h)
      clear ho HO HJ
      go_wp2_with fail
      refine HJ2.out.mono ?_
      rintro e w3 ⟨rfl, hb3⟩
      have HB3 := Lib.hid (below_trI HB.out hb3 HB.out.size)
      clear hb3
      go_wp2
      go_ret
      exact ⟨ret_str (by rw [HN.out]), HB3.out⟩

end Go.Proofs.YtbgmbanebmlghaaGreatDoor

namespace Go.Proofs.YtbgmbanebmlghaaGreatDoor
open Go.RowKit
set_option linter.unusedVariables false

theorem Tryz.infoL : (Tryz.prog.info? 68).map (fun i => (i.zero, i.size, i.bytes)) = some (some (.agg #[.string ⟨#[]⟩, .string ⟨#[]⟩]), 2, 32) := by kernel_rfl
theorem slL : SlT Tryz.prog 64 68 (.agg #[.string ⟨#[]⟩, .string ⟨#[]⟩]) 2 32 := ⟨Tryz.underlying64, info_parts Tryz.infoL, rfl, by decide, by decide⟩
theorem Tryz.infoI : (Tryz.prog.info? 3).map (fun i => (i.zero, i.size, i.bytes)) = some (some (.int .i64 0), 1, 8) := by kernel_rfl
theorem slI : SlT Tryz.prog 24 3 (.int .i64 0) 1 8 := ⟨Tryz.underlying24, info_parts Tryz.infoI, rfl, by decide, by decide⟩

def encL (e : Tx.Rec) : List Value := [.string (ba e.1), .string (ba e.2)]
def endsL (r : List (Tx.Rec × Nat)) : List Int := (List.range r.length).map fun i => ((Tx.total (r.take (i + 1)) : Nat) : Int)
theorem endsL_snoc (r : List (Tx.Rec × Nat)) (x : Tx.Rec × Nat) : endsL (r ++ [x]) = endsL r ++ [((Tx.total r : Nat) : Int) + (x.2 : Int)] := by
  unfold endsL
  rw [List.length_append, List.length_singleton, List.range_succ, List.map_append]
  congr 1
  · apply List.map_congr_left
    intro i hi
    rw [List.mem_range] at hi
    rw [List.take_append_of_le_length (by omega)]
  · simp only [List.map_cons, List.map_nil]
    rw [List.take_of_length_le (by simp), Tx.total_append, Tx.total_cons, Tx.total_nil]
    simp

theorem extract_bs (s : ByteArray) (a : Nat) : bs (s.extract a s.size) = (bs s).drop a := by
  unfold bs; rw [Lib.extract_to_end]

/-- The two lists that are read off a text, as they lie. -/
def ReadEnd (w : World) (s : ByteArray) (e : Ending) (w' : World) : Prop :=
  ∃ (a1 a2 : Option Addr) (c1 c2 : Nat), e = .returned (.tuple #[.slice a1 (Tx.rd 60 (bs s)).length c1, .slice a2 (Tx.rd 60 (bs s)).length c2]) ∧
    Two w' w.heap.size 68 2 (.slice a1 (Tx.rd 60 (bs s)).length c1) (Tx.rd 60 (bs s)).length (flat encL ((Tx.rd 60 (bs s)).map (·.1))) 3 1 (.slice a2 (Tx.rd 60 (bs s)).length c2) (Tx.rd 60 (bs s)).length ((endsL (Tx.rd 60 (bs s))).map (Value.int .i64)) ∧ Below w.heap.size w w'

set_option maxRecDepth 100000 in
set_option maxHeartbeats 2000000 in
theorem read_any (s : ByteArray) (w : World) (hs : s.size ≤ 4000000000) (ht : Tab w) :
    Calls Tryz.prog 89 #[.string s] w (ReadEnd w s) := by
  have E1 := own_lit (w := w) (e := 68) (size := 2) #[] 0 (by omega) rfl
  have E2 := own_lit (w := w.alloc (.cells #[] 68)) (e := 3) (size := 1) #[] 0 (by omega) rfl
  have E : Hid (Two ((w.alloc (.cells #[] 68)).alloc (.cells #[] 3)) w.heap.size 68 2 (.slice (some ⟨w.heap.size, 0, none⟩) 0 0) 0 [] 3 1 (.slice (some ⟨w.heap.size + 1, 0, none⟩) 0 0) 0 []) :=
    ⟨own_below E1 (Nat.le_refl _) ((Below.refl _ _).alloc (Nat.le_refl _) _), own_mono (by simpa using E2) (by simp), by intro k h1 h2; simp [Value.ownBlock] at h1 h2; omega⟩
  have HT := Lib.hid ht; clear ht E1 E2
  go_enter Tryz.func89, Tryz.ntmps89
  go_wp2
  go_loopw [4, 5, 6] (fun v u i wr => ∃ (acc : List (Tx.Rec × Nat)) (n : Nat), acc.length + n = 60 ∧ acc ++ Tx.rd n ((bs s).drop (Tx.total acc)) = Tx.rd 60 (bs s) ∧ Tx.total acc ≤ s.size ∧ i = .int .i64 (Tx.total acc : Nat) ∧
      Two wr w.heap.size 68 2 v acc.length (flat encL (acc.map (·.1))) 3 1 u acc.length ((endsL acc).map (Value.int .i64)) ∧ Below w.heap.size w wr) (fun v _ _ _ => match v with | .slice _ n _ => 61 - n | _ => 0)
  case atStart => exact ⟨[], 60, rfl, rfl, by simp [Tx.total], rfl, E.out, by (repeat (first | exact Below.refl _ _ | assumption | refine Below.setCell ?_ (by first | omega | (simp; done) | (simp; omega)) _ | refine Below.alloc ?_ (by first | omega | (simp; done) | (simp; omega)) _ | refine Below.drew ?_ | refine below_drewN ?_ _))⟩
  case round =>
    obtain ⟨acc, n, hn, hrd, hat, rfl, htwo, hb⟩ := hrel
    obtain ⟨a1, c1, hv⟩ := own_slice htwo.1
    obtain ⟨a2, c2, hu⟩ := own_slice htwo.2
    subst hv
    subst hu
    clear E
    have HB := Lib.hid hb; clear hb
    have HTw := Lib.hid htwo; clear htwo
    have HTR := Lib.hid (HT.out.below HB.out)
    have HRD := Lib.hid hrd; clear hrd
    have hxs : (s.extract (Tx.total acc) s.size).size ≤ 4000000000 := by rw [← bs_len, extract_bs, List.length_drop, bs_len]; omega
    cases hst : Tx.step acc.length (bs (s.extract (Tx.total acc) s.size)) with
    | none =>
      have HD := Lib.hid (fun w ht => decode_none acc.length (s.extract (Tx.total acc) s.size) w hxs (by omega) ht hst)
      have HE : Hid (acc = Tx.rd 60 (bs s)) := by
        have h := HRD.out
        rw [extract_bs] at hst
        cases n with
        | zero => rw [Tx.rd, List.append_nil] at h; exact h
        | succ m =>
          rw [Tx.rd, show 59 - m = acc.length by omega, hst] at h
          show _ = _
          simpa using h
      clear hst hxs
      generalize Tx.total acc = at0 at *
      go_wp2_with fail
      refine (HD.out _ HTR.out).mono ?_
      rintro e w1 ⟨rfl, hb1⟩
      have HB1 := Lib.hid (HB.out.trans (hb1.mono HB.out.size))
      have HTw1 := Lib.hid (HTw.out.below hb1); clear hb1
      unfold zRec
      go_wp2
      go_ret2
      refine ⟨a1, a2, c1, c2, ret_v2 (by rw [HE.out]; rfl) (by rw [HE.out]; rfl), ?_, ?_⟩
      · have h := (HTw1.out.below (w' := w1.alloc (.cells #[.string ⟨#[]⟩, .string ⟨#[]⟩] 68)) ((Below.refl _ _).alloc (Nat.le_refl _) _))
        rw [HE.out] at h
        exact h
      · exact HB1.out.alloc HB1.out.size _
    | some x =>
      obtain ⟨e0, l⟩ := x
      have HD := Lib.hid (fun w ht => decode_some acc.length (s.extract (Tx.total acc) s.size) e0 l w hxs ht hst)
      obtain ⟨m, rfl⟩ : ∃ m, n = m + 1 := by
        obtain ⟨hk, _⟩ := Tx.step_iff.1 hst
        exact ⟨n - 1, by omega⟩
      have hlt : Tx.total acc + l ≤ s.size := by
        obtain ⟨_, _, hl, tl, htl⟩ := Tx.step_iff.1 hst
        have := congrArg List.length htl
        rw [bs_len] at this
        simp at this
        omega
      have HE : Hid ((acc ++ [(e0, l)]) ++ Tx.rd m ((bs s).drop (Tx.total (acc ++ [(e0, l)]))) = Tx.rd 60 (bs s)) := by
        show _ = _
        have h := HRD.out
        rw [extract_bs] at hst
        rw [Tx.rd, show 59 - m = acc.length by omega, hst] at h
        simp only at h
        rw [Tx.total_append, Tx.total_cons, Tx.total_nil, ← h, List.drop_drop, List.append_assoc]
        simp
      have hEN := Lib.hid (endsL_snoc acc (e0, l))
      have HTO : Hid (Tx.total (acc ++ [(e0, l)]) = Tx.total acc + l) := by
        show _ = _
        rw [Tx.total_append, Tx.total_cons, Tx.total_nil]; simp
      clear hst hxs
      generalize Tx.total acc = at0 at *
      unfold recVE recV at HD
      have hn40 : acc.length + 1 ≤ 1099511627776 := by omega
      go_wp2_with fail
      refine (HD.out _ HTR.out).mono ?_
      rintro e w1 ⟨rfl, hb1⟩
      have HB1 := Lib.hid (show Below w.heap.size w (w1.alloc (.cells #[.string (ba e0.1), .string (ba e0.2)] 68)) from (HB.out.trans (hb1.mono HB.out.size)).alloc (Nat.le_trans HB.out.size hb1.size) _)
      have HTw1 := Lib.hid ((HTw.out.below hb1).below (w' := w1.alloc (.cells #[.string (ba e0.1), .string (ba e0.2)] 68)) ((Below.refl _ _).alloc (Nat.le_refl _) _))
      have hbs1 : w.heap.size ≤ (w1.alloc (.cells #[.string (ba e0.1), .string (ba e0.2)] 68)).heap.size := HB1.out.size
      clear hb1
      go_wp2_with (first
        | (at_builtin; refine wpList_app1 slL rfl (.tmp 29) (.tmp 31) rfl rfl HTw1.out.1 [.string (ba e0.1), .string (ba e0.2)] rfl rfl (by simp) (by simp [Value.oneCell']) hn40 hbs1 ?_; intro v' w2 hown2 hg2 ht2; have HTw2 := Lib.hid (HTw1.out.app1 hown2 hg2 ht2); have HB2 := Lib.hid (below_app HB1.out hbs1 HTw1.out.1 (Nat.le_refl _) hg2); have hbs2 := HB2.out.size; clear hown2 hg2 ht2)
        | (at_builtin; refine wpList_app1 slI rfl (.tmp 33) (.tmp 35) rfl rfl HTw2.out.2 [.int .i64 ((at0 : Int) + (l : Int))] rfl rfl (by simp) (by simp [Value.oneCell']) hn40 hbs2 ?_; intro u' w3 hown3 hg3 ht3; have HTw3 := Lib.hid (HTw2.out.app2 hown3 hg3 ht3); have HB3 := Lib.hid (below_app HB2.out hbs2 HTw2.out.2 (Nat.le_refl _) hg3); clear hown3 hg3 ht3))
      go_roundw
      case rel =>
        refine ⟨acc ++ [(e0, l)], m, by simp; omega, HE.out, by rw [HTO.out]; omega, by rw [HTO.out]; go_num, ?_, HB3.out⟩
        have h := HTw3.out
        rw [List.length_append, List.map_append, flat_append, hEN.out, List.map_append]
        exact h
      case measure =>
        obtain ⟨x1, y1, hx⟩ := own_slice HTw3.out.1
        rw [hx]
        simp
        omega

end Go.Proofs.YtbgmbanebmlghaaGreatDoor

