/- Several texts in one: lemmas and walks of the functions that the law reaches. -/
import Derived.Test.YtaaogoajhdaekaaY22
import Derived.Test.YtaaogoajhdaekaaY24
import Derived.Test.YtaaogoajhdaekaaY26

namespace Go.Proofs.Ytaaogoajhdaekaa
open Go.RowKit Go.Sort
set_option linter.unusedVariables false

set_option maxHeartbeats 1000000 in
theorem vAtT_any (a : Option Addr) (c : Nat) (cs : List Int) (i : Nat) (w : World) (hl : cs.length ≤ 65537) (hi : i ≤ 1000) (h : BytesAt w a cs) :
    Calls Try.prog 10 #[.slice a cs.length c, .int .i64 i] w fun e w' => (∃ r : Int, e = .returned (.int .i64 r) ∧ 0 ≤ r ∧ r ≤ 255) ∧ w = w' := by
  by_cases hlt : i < cs.length
  · obtain ⟨b, off, rfl, hc, hb0, hb1⟩ := h.at hlt
    generalize cs.getD i 0 = x at hc hb0 hb1
    have h3 : decide ((i : Int) < (cs.length : Int)) = true := decide_eq_true (by omega)
    have b1 : (0 : Int) ≤ (i : Int) := by omega
    have b2 : (i : Int) < (cs.length : Int) := by omega
    clear h
    go_enter Try.func10, Try.ntmps10
    go_wp2
    go_ret
    exact ⟨⟨x, rfl, hb0, hb1⟩, rfl⟩
  · have h3 : decide ((i : Int) < (cs.length : Int)) = false := decide_eq_false (by omega)
    have b1 : (0 : Int) ≤ (i : Int) := by omega
    have b2 : (i : Int) * 7 ≤ 7000 := by omega
    have b3 : (0 : Int) ≤ (i : Int) * 7 + (cs.length : Int) := by omega
    have b4 : (i : Int) * 7 + (cs.length : Int) ≤ 100000 := by omega
    have q1 : 0 ≤ ((i : Int) * 7 + (cs.length : Int)).tmod 256 := Int.tmod_nonneg _ b3
    have q2 : ((i : Int) * 7 + (cs.length : Int)).tmod 256 ≤ 255 := by have := Int.tmod_lt_of_pos ((i : Int) * 7 + (cs.length : Int)) (b := 256) (by omega); omega
    have Q := Lib.hid (And.intro q1 q2)
    clear h q1 q2
    go_enter Try.func10, Try.ntmps10
    go_wp2
    go_ret
    exact ⟨⟨_, rfl, Q.out.1, Q.out.2⟩, rfl⟩

theorem mrg_mapT {α β : Type} {lt1 : α → α → Bool} {lt2 : β → β → Bool} (f : α → β) (h : ∀ a b, lt1 a b = lt2 (f a) (f b)) : ∀ (A B : List α), (Mg.mrg lt1 A B).map f = Mg.mrg lt2 (A.map f) (B.map f)
  | [], B => by simp [Mg.mrg_nil]
  | a :: A, [] => by simp [Mg.nil_mrg]
  | a :: A, b :: B => by
    cases hc : lt1 b a
    · rw [Mg.mrg_ge hc, List.map_cons, mrg_mapT f h A (b :: B), List.map_cons, List.map_cons, Mg.mrg_ge (by rw [← h]; exact hc)]
    · rw [Mg.mrg_lt hc, List.map_cons, mrg_mapT f h (a :: A) B, List.map_cons, List.map_cons, Mg.mrg_lt (by rw [← h]; exact hc)]
termination_by A B => A.length + B.length
theorem srt_mapT {α β : Type} {lt1 : α → α → Bool} {lt2 : β → β → Bool} (f : α → β) (h : ∀ a b, lt1 a b = lt2 (f a) (f b)) (l : List α) : (Mg.srt lt1 l).map f = Mg.srt lt2 (l.map f) := by
  refine Mg.list_snoc (P := fun l => (Mg.srt lt1 l).map f = Mg.srt lt2 (l.map f)) rfl ?_ l
  intro l x ih
  rw [Mg.srt_snoc, mrg_mapT f h, ih, List.map_append, List.map_cons, List.map_nil, Mg.srt_snoc]

theorem adL_stT (rs : List (Int × Int)) : adL rs = stAns rs := by
  unfold adL stAns
  split
  · rw [Ad.adS_eq ltR (Mg.swK Prod.fst), (parts_ok rs).1]; rfl
  · rfl
theorem ints_same {w w' : World} {a : Option Addr} {zs : List Int} (h : IntsAt w a zs) (hb : Below w.heap.size w w') : IntsAt w' a zs := h.below (Nat.le_refl _) hb
/-- The keys, the sorted keys, and the lists that have come back. -/
structure Tp (W : World) (kb : Nat) (keys : List Int) (sa : Option Addr) (S : List Int) (l : List Nat) : Prop where
  k : IntsAt W (some ⟨kb, 0, none⟩) keys
  s : IntsAt W sa S
  r : ∀ g ∈ l, IntsAt W (some ⟨g, 0, none⟩) S
theorem Tp.same {W W' : World} {kb : Nat} {keys S : List Int} {sa : Option Addr} {l : List Nat} (h : Tp W kb keys sa S l) (hb : Below W.heap.size W W') : Tp W' kb keys sa S l :=
  ⟨ints_same h.k hb, ints_same h.s hb, fun g hg => ints_same (h.r g hg) hb⟩
theorem Tp.add {W W' : World} {kb : Nat} {keys S : List Int} {sa : Option Addr} {l : List Nat} {g n c B : Nat} (h : Tp W kb keys sa S l) (hb : Below W.heap.size W W') (ho : W'.ownsRow B 3 1 (.slice (some ⟨g, 0, none⟩) n c) n (S.map (Value.int .i64))) : Tp W' kb keys sa S (g :: l) :=
  ⟨ints_same h.k hb, ints_same h.s hb, fun q hq => by
    rcases List.mem_cons.1 hq with rfl | hq
    · exact ints_of_own ho
    · exact ints_same (h.r q hq) hb⟩
theorem okKeys {L : List (Int × Int)} (h : okRecs L = true) : okList (L.map Prod.fst) = true := by
  unfold okRecs at h
  unfold okList
  rw [Bool.and_eq_true] at h ⊢
  refine ⟨by rw [List.length_map]; exact h.1, ?_⟩
  rw [List.all_map]
  refine List.all_eq_true.2 fun r hr => ?_
  have := List.all_eq_true.1 h.2 r hr
  unfold okRec at this
  rw [Bool.and_eq_true] at this
  exact this.1
theorem keys_sorted (L : List (Int × Int)) : (srtR L).map Prod.fst = Mg.srtI (L.map Prod.fst) := by
  unfold srtR Mg.srtI
  exact srt_mapT (lt1 := Mg.ltK Prod.fst) (lt2 := Mg.ltI) Prod.fst (fun a b => rfl) L
theorem take_keys {L : List (Int × Int)} {k : Nat} (hk : k < L.length) : (L.take (k + 1)).map Prod.fst = (L.take k).map Prod.fst ++ [(L.getD k (0, 0)).1] := by
  rw [List.take_add_one, List.getElem?_eq_getElem hk, List.map_append, List.getD_eq_getElem?_getD, List.getElem?_eq_getElem hk]
  rfl

set_option maxRecDepth 100000 in
set_option maxHeartbeats 8000000 in
theorem lawTop_any (ac : Option Addr) (cc : Nat) (cs : List Int) (w : World) (hbig : cs.length ≤ 9223372036854775807) (h : BytesAt w ac cs) :
    Calls Try.prog 3 #[.slice ac cs.length cc] w fun e w' => e = .returned (.bool true) ∧ Below w.heap.size w w' := by
  have HV := Lib.hid (vBigG_any ac cs.length cc w hbig)
  by_cases hl : 65536 < cs.length
  · rw [decide_eq_true hl] at HV
    clear h
    go_enter Try.func3, Try.ntmps3
    go_wp2_with (go_at_call 4; refine HV.out.mono ?_; rintro e w' ⟨rfl, rfl⟩)
    go_ret
    exact ⟨rfl, Below.refl _ _⟩
  rw [decide_eq_false hl] at HV
  have HD := Lib.hid (vKeys_any ac cc cs w (by omega) h)
  have HVA := Lib.hid (fun (i : Nat) (hi : i ≤ 1000) W (hb : Below w.heap.size w W) => vAtT_any ac cc cs i W (by omega) hi (h.below (Nat.le_refl _) hb))
  clear h
  go_enter Try.func3, Try.ntmps3
  go_wp2_with fail
  refine HV.out.mono ?_
  rintro e w1 ⟨rfl, rfl⟩
  go_wp2_with fail
  refine HD.out.mono ?_
  rintro e w1 ⟨a, n, c, L, rfl, hr, hok, hb⟩
  have hn64 : n ≤ 64 := by rw [← hr.len]; exact okRecs_le hok
  have HOK := Lib.hid hok; have HL1 := Lib.hid hr; have HB1 := Lib.hid hb
  have HST : Hid (stAns L = srtR L) := by show _ = _; unfold stAns; rw [if_pos hok]
  clear hr hb HD HV hok
  have HI := Lib.hid (implStableSort_any a n c L w1 (by omega) HL1.out)
  unfold RdEnd at HI
  rw [HOK.out, HST.out] at HI
  go_wp2_with fail
  refine HI.out.mono ?_
  rintro e w2 ⟨a2, n2, c2, rfl, hr, hb⟩
  have hn2 : n2 = n := by rw [← hr.len, srtR_len]; exact HL1.out.len
  subst hn2
  have HS2 := Lib.hid hr; have HL2 := Lib.hid (HL1.out.same hb); have HB2 := Lib.hid (below_tr HB1.out hb HB1.out.size)
  clear hr hb HI HL1 HB1
  have HI := Lib.hid (implMergeSort_any a n2 c L w2 (by omega) HL2.out)
  unfold Rd3 at HI
  rw [HOK.out, HST.out] at HI
  generalize ((msC L : Nat) : Int) = zc at HI
  go_wp2_with fail
  refine HI.out.mono ?_
  rintro e w3 ⟨a3, n3, c3, rfl, hr, hb⟩
  have hn3 : n3 = n2 := by rw [← hr.len, srtR_len]; exact HL2.out.len
  subst hn3
  have HS3 := Lib.hid (HS2.out.same hb); have HL3 := Lib.hid (HL2.out.same hb); have HB3 := Lib.hid (below_tr HB2.out hb HB2.out.size)
  have HM3 := Lib.hid hr
  clear hr hb HI HL2 HB2 HS2
  have HI := Lib.hid (implAdaptive_any a n3 c L w3 (by omega) HL3.out)
  unfold AdEnd at HI
  rw [HOK.out, adL_stT, HST.out] at HI
  generalize ((adN L : Nat) : Int) = zc2 at HI
  go_wp2_with fail
  refine HI.out.mono ?_
  rintro e w4 ⟨a4, n4, c4, rfl, hr, hb⟩
  have hn4 : n4 = n3 := by rw [← hr.len, srtR_len]; exact HL3.out.len
  subst hn4
  have HS4 := Lib.hid (HS3.out.same hb); have HL4 := Lib.hid (HL3.out.same hb); have HB4 := Lib.hid (below_tr HB3.out hb HB3.out.size)
  have HM4 := Lib.hid (HM3.out.same hb); have HA4 := Lib.hid hr
  clear hr hb HI HL3 HB3 HS3 HM3
  have HV1 := Lib.hid (HVA.out 1 (by omega) w4 HB4.out)
  have HV2 := Lib.hid (HVA.out 2 (by omega) w4 HB4.out)
  go_wp2_with fail
  refine HV1.out.mono ?_
  rintro e w' ⟨⟨r1, rfl, hr1, hr2⟩, rfl⟩
  go_wp2_with fail
  refine HV2.out.mono ?_
  rintro e w' ⟨⟨r3, rfl, hr3, hr4⟩, rfl⟩
  have e1 : r1.tmod 8 = r1 % 8 := Int.tmod_eq_emod_of_nonneg hr1
  have e2 : r3.tmod 4 = r3 % 4 := Int.tmod_eq_emod_of_nonneg hr3
  have HXE := Lib.hid (implExternalSort_any a n4 c L (1 + r1 % 8) (2 + r3 % 4) 1 w4 (by omega) HL4.out)
  have hpo : planOk (1 + r1 % 8) (2 + r3 % 4) 1 = true := by
    unfold planOk
    rw [inB_true (by omega) (by omega), inB_true (by omega) (by omega), inB_true (by omega) (by omega)]; rfl
  have hex : exOk L (1 + r1 % 8) (2 + r3 % 4) 1 = true := by unfold exOk; rw [HOK.out, hpo]; rfl
  have hxl : exL L (1 + r1 % 8) (2 + r3 % 4) 1 = srtR L := by unfold exL; rw [if_pos hex]; rfl
  unfold ExEndO at HXE
  rw [hex, hxl] at HXE
  generalize exC L (1 + r1 % 8) (2 + r3 % 4) 1 = Q at HXE
  obtain ⟨d0, d1, d2, d3⟩ := Q
  simp only [costV] at HXE
  clear hpo hex hxl HV1 HV2
  go_wp2_with fail
  refine HXE.out.mono ?_
  rintro e w5 ⟨a5, n5, c5, rfl, hr, -, hb⟩
  have hn5 : n5 = n4 := by rw [← hr.len, srtR_len]; exact HL4.out.len
  subst hn5
  have hbn := belowNew w5 (.cells #[.int .i64 d0, .int .i64 d1, .int .i64 d2, .int .i64 d3] 31)
  have hbx := below_tr hb hbn hb.size
  have HS5 := Lib.hid (HS4.out.same hbx); have HL5 := Lib.hid (HL4.out.same hbx); have HB5 := Lib.hid (below_tr HB4.out hbx HB4.out.size)
  have HM5 := Lib.hid (HM4.out.same hbx); have HA5 := Lib.hid (HA4.out.same hbx); have HX5 := Lib.hid (hr.same hbn)
  clear hr hb hbn hbx HXE HL4 HB4 HS4 HM4 HA4 e1 e2 hr1 hr2 hr3 hr4
  have HI := Lib.hid (fun W (h1 : Rd W a3 n5 c3 (srtR L)) (h2 : Rd W a2 n5 c2 (srtR L)) => vRecords_any a3 a2 n5 n5 c3 c2 (srtR L) (srtR L) W (by omega) (by omega) h1 h2)
  have HI2 := Lib.hid (fun W (h1 : Rd W a4 n5 c4 (srtR L)) (h2 : Rd W a2 n5 c2 (srtR L)) => vRecords_any a4 a2 n5 n5 c4 c2 (srtR L) (srtR L) W (by omega) (by omega) h1 h2)
  have HI3 := Lib.hid (fun W (h1 : Rd W a5 n5 c5 (srtR L)) (h2 : Rd W a2 n5 c2 (srtR L)) => vRecords_any a5 a2 n5 n5 c5 c2 (srtR L) (srtR L) W (by omega) (by omega) h1 h2)
  rw [decide_eq_true rfl] at HI HI2 HI3
  go_wp2_with fail
  refine (HI.out _ HM5.out HS5.out).mono ?_
  rintro e w6 ⟨rfl, hb⟩
  have HS6 := Lib.hid (HS5.out.same hb); have HL6 := Lib.hid (HL5.out.same hb); have HB6 := Lib.hid (below_tr HB5.out hb HB5.out.size)
  have HA6 := Lib.hid (HA5.out.same hb); have HX6 := Lib.hid (HX5.out.same hb)
  clear hb HI HL5 HB5 HS5 HM5 HA5 HX5
  go_wp2_with fail
  refine (HI2.out _ HA6.out HS6.out).mono ?_
  rintro e w7 ⟨rfl, hb⟩
  have HS7 := Lib.hid (HS6.out.same hb); have HL7 := Lib.hid (HL6.out.same hb); have HB7 := Lib.hid (below_tr HB6.out hb HB6.out.size)
  have HX7 := Lib.hid (HX6.out.same hb)
  clear hb HI2 HL6 HB6 HS6 HA6 HX6
  go_wp2_with fail
  refine (HI3.out _ HX7.out HS7.out).mono ?_
  rintro e w8 ⟨rfl, hb⟩
  have HS8 := Lib.hid (HS7.out.same hb); have HL8 := Lib.hid (HL7.out.same hb); have HB8 := Lib.hid (below_tr HB7.out hb HB7.out.size)
  clear hb HI3 HL7 HB7 HS7 HX7
  -- the keys
  have o1 := own_lit (w := w8) (e := 3) (size := 1) #[] 0 (by omega) rfl
  have o2 := own_lit (w := w8.alloc (.cells #[] 3)) (e := 3) (size := 1) #[] 0 (by omega) rfl
  rw [size_al] at o2
  have HT : Hid (Two ((w8.alloc (.cells #[] 3)).alloc (.cells #[] 3)) w8.heap.size 3 1 (.slice (some ⟨w8.heap.size, 0, none⟩) 0 0) 0 [] 3 1 (.slice (some ⟨w8.heap.size + 1, 0, none⟩) 0 0) 0 []) :=
    ⟨o1.alloc _, own_mono o2 (by omega), fun k hk e => by simp [Value.ownBlock] at hk e; omega⟩
  have hb2 : Below w8.heap.size w8 ((w8.alloc (.cells #[] 3)).alloc (.cells #[] 3)) := ((Below.refl _ _).alloc (Nat.le_refl _) _).alloc (by simp) _
  have HB9 := Lib.hid hb2
  have hln := HL8.out.len
  have hls : (srtR L).length = n5 := by rw [srtR_len]; exact hln
  have HLN := Lib.hid hln; have HLS := Lib.hid hls
  clear o1 o2 hb2 hln hls
  go_wp2
  go_loopw [15, 16, 17] (fun v u iv wr => ∃ k : Nat, iv = .int .i64 k ∧ k ≤ n5 ∧ Two wr w8.heap.size 3 1 v k (((L.take k).map Prod.fst).map (Value.int .i64)) 3 1 u k ((((srtR L).take k).map Prod.fst).map (Value.int .i64)) ∧ (∃ g, v.ownBlock = some g) ∧ (∃ g, u.ownBlock = some g) ∧ Below w8.heap.size w8 wr) (fun _ _ iv _ => n5 - (intOf iv).toNat)
  case atStart => exact ⟨0, rfl, by omega, HT.out, ⟨_, rfl⟩, ⟨_, rfl⟩, HB9.out⟩
  case round =>
    obtain ⟨k, rfl, hk, hT, ⟨g1, hg1⟩, ⟨g2, hg2⟩, hb⟩ := hrel
    have HT3 := Lib.hid hT; have HB3 := Lib.hid hb; have HG1 := Lib.hid hg1; have HG2 := Lib.hid hg2
    clear hT hb HT HB9 hg1 hg2
    obtain ⟨b1, k1, rfl⟩ := own_slice HT3.out.fst
    obtain ⟨b2, k2, rfl⟩ := own_slice HT3.out.snd
    by_cases hlt : k < n5
    · have h3 : decide ((k : Int) < (n5 : Int)) = true := decide_eq_true (by omega)
      obtain ⟨b, o, rfl, p1, p2⟩ := HL8.out.at hlt
      obtain ⟨b', o', rfl, p3, p4⟩ := HS8.out.at hlt
      have HCL := Lib.hid (fun (W : World) (hW : Below w8.heap.size w8 W) => (hW.cell (p := ⟨b, o + k * 2, none⟩) (World.block_lt_of_cell? w8 _ p1)).trans p1)
      have HCS := Lib.hid (fun (W : World) (hW : Below w8.heap.size w8 W) => (hW.cell (p := ⟨b', o' + k * 2, none⟩) (World.block_lt_of_cell? w8 _ p3)).trans p3)
      have HTK := Lib.hid (take_keys (L := L) (k := k) (by rw [HLN.out]; exact hlt))
      have HTS := Lib.hid (take_keys (L := srtR L) (k := k) (by rw [HLS.out]; exact hlt))
      clear p1 p2 p3 p4
      generalize (L.getD k (0, 0)).1 = X at HCL HTK
      generalize ((srtR L).getD k (0, 0)).1 = Y at HCS HTS
      have p1 := HCL.out wr HB3.out
      have hn1 : k + 1 ≤ 1099511627776 := by omega
      have hbs := HB3.out.size
      have q1 : (k : Int) < (n5 : Int) := by omega
      have q2 : (0 : Int) ≤ (k : Int) := by omega
      have q3 := HS8.out.cap
      go_wp2_with (first
        | (at_builtin; refine wpList_app1 slInt rfl _ _ rfl rfl HT3.out.fst [.int .i64 X] rfl rfl (by simp) (by simp [Value.oneCell']) hn1 hbs ?_; intro v1 w10 ho4 hg4 ht4; have HT4 := Lib.hid (HT3.out.app1 ho4 hg4 ht4); have HB4 := Lib.hid (below_app HB3.out hbs HT3.out.fst (Nat.le_refl _) hg4); have hbs4 := HB4.out.size; have p3 := HCS.out _ HB4.out; have HG4 : Hid (∃ g, v1.ownBlock = some g) := (by rcases ht4 with h | h; exact ⟨g1, h.trans HG1.out⟩; exact ⟨_, h⟩); clear ho4 hg4 ht4)
        | (at_builtin; refine wpList_app1 slInt rfl _ _ rfl rfl HT4.out.snd [.int .i64 Y] rfl rfl (by simp) (by simp [Value.oneCell']) hn1 hbs4 ?_; intro v2 w11 ho5 hg5 ht5; have HT5 := Lib.hid (HT4.out.app2 ho5 hg5 ht5); have HB5 := Lib.hid (below_app HB4.out hbs4 HT4.out.snd (Nat.le_refl _) hg5); have HG5 : Hid (∃ g, v2.ownBlock = some g) := (by rcases ht5 with h | h; exact ⟨g2, h.trans HG2.out⟩; exact ⟨_, h⟩); clear ho5 hg5 ht5))
      go_roundw
      case rel => exact ⟨k + 1, by go_num, by omega, by rw [HTK.out, HTS.out, List.map_append, List.map_append]; exact HT5.out, HG4.out, HG5.out, HB5.out⟩
      case measure => simp [intOf] <;> omega
    obtain rfl : k = n5 := by omega
    have h3 : decide ((k : Int) < (k : Int)) = false := by simp
    rw [List.take_of_length_le (by rw [HLN.out]; exact Nat.le_refl _), List.take_of_length_le (by rw [HLS.out]; exact Nat.le_refl _)] at HT3
    have HKS : Hid ((srtR L).map Prod.fst = Mg.srtI (L.map Prod.fst)) := keys_sorted L
    rw [HKS.out] at HT3
    obtain ⟨g, hg, _⟩ := own_addr HT3.out.fst (by rw [HG1.out]; simp)
    subst hg
    have HTP : Hid (Tp wr g (L.map Prod.fst) b2 (Mg.srtI (L.map Prod.fst)) []) := ⟨ints_of_own HT3.out.fst, ints_of_own HT3.out.snd, fun _ h => nomatch h⟩
    have HKL : Hid ((L.map Prod.fst).length = k) := by show _ = _; rw [List.length_map]; exact HLN.out
    have HKO := Lib.hid (okKeys HOK.out)
    have HB9 := Lib.hid (below_tr HB8.out HB3.out HB8.out.size)
    have HSL : Hid ((Mg.srtI (L.map Prod.fst)).length = k) := by show _ = _; rw [srtI_len]; exact HKL.out
    clear HT3 HB8 HS8 HL8 HG1 HG2 HB3 HKS HLN HLS HOK HST
    generalize L.map Prod.fst = K at HTP HKL HKO HSL
    generalize hS : Mg.srtI K = S at HTP HSL
    have HSE := Lib.hid hS
    clear hS
    obtain ⟨R1, c91, v91, hR1⟩ : ∃ R c v, Es.gapd 1 K = (R, c, v) := ⟨_, _, _, rfl⟩
    have hR1' : R1 = S := by have := Es.gapd_sorts K; rw [hR1] at this; exact this.trans HSE.out
    subst hR1'
    obtain ⟨R2, s92, hR2⟩ : ∃ R s, Es.qk 1 65 K = (R, s) := ⟨_, _, rfl⟩
    obtain ⟨s92, p92⟩ := s92
    have hR2' : R2 = R1 := by have := Es.qk_sorts 1 65 K; rw [hR2] at this; exact this.trans HSE.out
    subst hR2'
    have J1 := Lib.hid (fun (W : World) (hW : IntsAt W (some ⟨g, 0, none⟩) K) => insertionSortI_any ⟨g, 0, none⟩ k1 k c91 v91 K R2 W HKL.out HKO.out hR1 hW)
    have J2 := Lib.hid (fun (W : World) (hW : IntsAt W (some ⟨g, 0, none⟩) K) => binaryInsertion_any ⟨g, 0, none⟩ k1 k K W HKL.out HKO.out hW)
    have J3 := Lib.hid (fun (W : World) (hW : IntsAt W (some ⟨g, 0, none⟩) K) => selection_any ⟨g, 0, none⟩ k1 k K W HKL.out HKO.out hW)
    have J4 := Lib.hid (fun (W : World) (hW : IntsAt W (some ⟨g, 0, none⟩) K) => bubble_any ⟨g, 0, none⟩ k1 k K W HKL.out HKO.out hW)
    have J6 := Lib.hid (fun (W : World) (hW : IntsAt W (some ⟨g, 0, none⟩) K) => quickSort_any ⟨g, 0, none⟩ k1 k s92 p92 K R2 W HKL.out HKO.out hR2 hW)
    have J8 := Lib.hid (fun (W : World) (b c0 : Nat) (hW : IntsAt W (some ⟨g, 0, none⟩) K) (hG : IntsAt W (some ⟨b, 0, none⟩) [7, 3, 1]) => shell731_any ⟨g, 0, none⟩ k1 k b c0 K W HKL.out HKO.out hW hG)
    unfold SortEnd1 SortEnd at J2 J3 J8
    unfold SortEnd2 SortEnd at J4
    unfold SortEnd at J1 J6
    rw [HSE.out] at J2 J3 J4 J8
    clear hR1 hR2
    go_wp2_with fail
    refine (J1.out _ HTP.out.k).mono ?_
    rintro e wa ⟨gx1, mx1, rfl, ho, hb⟩
    have HTPx1 := Lib.hid (HTP.out.add hb ho); have HBx1 := Lib.hid (below_tr HB9.out hb HB9.out.size)
    clear ho hb HTP HB9
    go_wp2_with fail
    refine (J2.out _ HTPx1.out.k).mono ?_
    rintro e wb ⟨y2, gx2, mx2, rfl, ho, hb⟩
    have HTPx2 := Lib.hid (HTPx1.out.add hb ho); have HBx2 := Lib.hid (below_tr HBx1.out hb HBx1.out.size)
    clear ho hb HTPx1 HBx1
    go_wp2_with fail
    refine (J3.out _ HTPx2.out.k).mono ?_
    rintro e wc ⟨y3, gx3, mx3, rfl, ho, hb⟩
    have HTPx3 := Lib.hid (HTPx2.out.add hb ho); have HBx3 := Lib.hid (below_tr HBx2.out hb HBx2.out.size)
    clear ho hb HTPx2 HBx2
    go_wp2_with fail
    refine (J4.out _ HTPx3.out.k).mono ?_
    rintro e wd ⟨y4, z4, gx4, mx4, rfl, ho, hb⟩
    have HTPx4 := Lib.hid (HTPx3.out.add hb ho); have HBx4 := Lib.hid (below_tr HBx3.out hb HBx3.out.size)
    clear ho hb HTPx3 HBx3
    go_wp2_with fail
    refine (HVA.out 3 (by omega) wd HBx4.out).mono ?_
    rintro e w' ⟨⟨r5, rfl, hr1, hr2⟩, rfl⟩
    have e1 : r5.tmod 7 = r5 % 7 := Int.tmod_eq_emod_of_nonneg hr1
    obtain ⟨d, hd⟩ : ∃ d : Nat, 2 + r5 % 7 = (d : Int) := ⟨(2 + r5 % 7).toNat, by omega⟩
    have hd2 : 2 ≤ d := by omega
    have hd8 : d ≤ 8 := by omega
    obtain ⟨R5, s95, hR5⟩ : ∃ R s, Es.hsort d K = (R, s) := ⟨_, _, rfl⟩
    have hR5' : R5 = R2 := by have := Es.hsort_sorts (d := d) (by omega) K; rw [hR5] at this; exact this.trans HSE.out
    subst hR5'
    have J5 := Lib.hid (heapSortI_any ⟨g, 0, none⟩ k1 k d s95 K R5 wd HKL.out HKO.out hd2 hd8 hR5 HTPx4.out.k)
    unfold SortEnd at J5
    rw [← hd] at J5
    clear hR5 hr1 hr2 hd hd2 hd8
    go_wp2_with fail
    refine (J5.out).mono ?_
    rintro e we ⟨gx5, mx5, rfl, ho, hb⟩
    have HTPx5 := Lib.hid (HTPx4.out.add hb ho); have HBx5 := Lib.hid (below_tr HBx4.out hb HBx4.out.size)
    clear ho hb HTPx4 HBx4
    clear e1
    go_wp2_with fail
    refine (J6.out _ HTPx5.out.k).mono ?_
    rintro e wf ⟨gx6, mx6, rfl, ho, hb⟩
    have HTPx6 := Lib.hid (HTPx5.out.add hb ho); have HBx6 := Lib.hid (below_tr HBx5.out hb HBx5.out.size)
    clear ho hb HTPx5 HBx5
    go_wp2_with fail
    refine (HVA.out 4 (by omega) wf HBx6.out).mono ?_
    rintro e w' ⟨⟨r7, rfl, hr1, hr2⟩, rfl⟩
    have e1 : r7.tmod 6 = r7 % 6 := Int.tmod_eq_emod_of_nonneg hr1
    obtain ⟨u, hu⟩ : ∃ u : Nat, r7 % 6 = (u : Int) := ⟨(r7 % 6).toNat, by omega⟩
    have hu20 : u ≤ 20 := by omega
    obtain ⟨R7, s97, hR7⟩ : ∃ R s, Es.qk 5 u K = (R, s) := ⟨_, _, rfl⟩
    obtain ⟨s97, p97⟩ := s97
    have hR7' : R7 = R5 := by have := Es.qk_sorts 5 u K; rw [hR7] at this; exact this.trans HSE.out
    subst hR7'
    have J7 := Lib.hid (introSort_any ⟨g, 0, none⟩ k1 k u s97 p97 K R7 wf HKL.out HKO.out hu20 hR7 HTPx6.out.k)
    unfold SortEnd at J7
    rw [← hu] at J7
    clear hR7 hr1 hr2 hu hu20
    go_wp2_with fail
    refine (J7.out).mono ?_
    rintro e wg ⟨gx7, mx7, rfl, ho, hb⟩
    have HTPx7 := Lib.hid (HTPx6.out.add hb ho); have HBx7 := Lib.hid (below_tr HBx6.out hb HBx6.out.size)
    clear ho hb HTPx6 HBx6
    have hbn := belowNew wg (.cells #[.int .i64 7, .int .i64 3, .int .i64 1] 3)
    have HG8 : Hid (IntsAt (wg.alloc (.cells #[.int .i64 7, .int .i64 3, .int .i64 1] 3)) (some ⟨wg.heap.size, 0, none⟩) [7, 3, 1]) :=
      ints_of_own (base := wg.heap.size) (e := 3) (n := 3) (c := 3) (own_lit (w := wg) (e := 3) (size := 1) #[.int .i64 7, .int .i64 3, .int .i64 1] 3 (by omega) rfl)
    have HTP8 := Lib.hid (HTPx7.out.same hbn); have HB8 := Lib.hid (below_tr HBx7.out hbn HBx7.out.size)
    clear hbn e1
    go_wp2_with fail
    refine (J8.out _ wg.heap.size 3 HTP8.out.k HG8.out).mono ?_
    rintro e wh ⟨y8, gx8, mx8, rfl, ho, hb⟩
    have HTPx8 := Lib.hid (HTP8.out.add hb ho); have HBx8 := Lib.hid (below_tr HB8.out hb HB8.out.size)
    clear ho hb HTP8 HB8
    have hmem : ∀ q ∈ [gx8, gx7, gx6, gx5, gx4, gx3, gx2, gx1], ∀ cq : Nat, ∀ W, Tp W g K b2 R7 [gx8, gx7, gx6, gx5, gx4, gx3, gx2, gx1] → Calls Try.prog 20 #[.slice (some ⟨q, 0, none⟩) k cq, .slice b2 k k2] W fun e w' => e = .returned (.bool true) ∧ Below W.heap.size W w' := fun q hq cq W hW =>
      vInts_same (some ⟨q, 0, none⟩) b2 cq k2 k R7 W HSL.out (by omega) (hW.r q hq) hW.s
    have V := Lib.hid hmem
    clear hmem
    go_wp2_with fail
    refine (V.out gx1 (by simp) _ _ HTPx8.out).mono ?_
    rintro e v1 ⟨rfl, hb⟩
    have T1 := Lib.hid (HTPx8.out.same hb); have B1 := Lib.hid (below_tr HBx8.out hb HBx8.out.size)
    clear hb HTPx8 HBx8
    go_wp2_with fail
    refine (V.out gx2 (by simp) _ _ T1.out).mono ?_
    rintro e v2 ⟨rfl, hb⟩
    have T2 := Lib.hid (T1.out.same hb); have B2 := Lib.hid (below_tr B1.out hb B1.out.size)
    clear hb T1 B1
    go_wp2_with fail
    refine (V.out gx3 (by simp) _ _ T2.out).mono ?_
    rintro e v3 ⟨rfl, hb⟩
    have T3 := Lib.hid (T2.out.same hb); have B3 := Lib.hid (below_tr B2.out hb B2.out.size)
    clear hb T2 B2
    go_wp2_with fail
    refine (V.out gx4 (by simp) _ _ T3.out).mono ?_
    rintro e v4 ⟨rfl, hb⟩
    have T4 := Lib.hid (T3.out.same hb); have B4 := Lib.hid (below_tr B3.out hb B3.out.size)
    clear hb T3 B3
    go_wp2_with fail
    refine (V.out gx5 (by simp) _ _ T4.out).mono ?_
    rintro e v5 ⟨rfl, hb⟩
    have T5 := Lib.hid (T4.out.same hb); have B5 := Lib.hid (below_tr B4.out hb B4.out.size)
    clear hb T4 B4
    go_wp2_with fail
    refine (V.out gx6 (by simp) _ _ T5.out).mono ?_
    rintro e v6 ⟨rfl, hb⟩
    have T6 := Lib.hid (T5.out.same hb); have B6 := Lib.hid (below_tr B5.out hb B5.out.size)
    clear hb T5 B5
    go_wp2_with fail
    refine (V.out gx7 (by simp) _ _ T6.out).mono ?_
    rintro e v7 ⟨rfl, hb⟩
    have T7 := Lib.hid (T6.out.same hb); have B7 := Lib.hid (below_tr B6.out hb B6.out.size)
    clear hb T6 B6
    go_wp2_with fail
    refine (V.out gx8 (by simp) _ _ T7.out).mono ?_
    rintro e v8 ⟨rfl, hb⟩
    have T8 := Lib.hid (T7.out.same hb); have B8 := Lib.hid (below_tr B7.out hb B7.out.size)
    clear hb T7 B7
    go_wp2
    go_ret
    exact ⟨rfl, B8.out⟩
end Go.Proofs.Ytaaogoajhdaekaa

