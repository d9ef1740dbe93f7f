/- Several texts in one: lemmas and walks of the functions that the laws reach. -/
import Derived.Test.YtkckmjajjdpodaaY30

/- Walks: how many passes; one pass; the counts of digits; the radix sort. -/
namespace Go.Proofs.Ytkckmjajjdpodaa
open Go.RowKit Go.Sort
set_option linter.unusedVariables false

theorem okRecs_key {L : List (Int × Int)} (h : okRecs L = true) : ∀ r ∈ L, -100000 ≤ r.1 ∧ r.1 ≤ 100000 := by
  unfold okRecs at h
  simp only [Bool.and_eq_true, decide_eq_true_eq, List.all_eq_true] at h
  intro r hr
  have := h.2 r hr
  unfold okRec okKey at this
  rw [Bool.and_eq_true] at this
  exact inB_iff.1 this.1

set_option maxRecDepth 100000 in
set_option maxHeartbeats 2000000 in
theorem passesNeeded_any (a : Option Addr) (n c B : Nat) (L : List (Int × Int)) (w : World) (hn : n ≤ 1000) (hB : 2 ≤ B) (hB2 : B ≤ 256) (hL : ∀ r ∈ L, -100000 ≤ r.1 ∧ r.1 ≤ 100000) (h : Rd w a n c L) :
    Calls Try.prog 112 #[.slice a n c, .int .i64 B] w fun e w' => e = .returned (.int .i64 ((Mg.npL B L : Nat) : Int)) ∧ Below w.heap.size w w' := by
  have hlen := h.len
  by_cases h0 : n = 0
  · subst h0
    have hE : L = [] := List.eq_nil_of_length_eq_zero hlen
    have HE : Hid (Mg.npL B L = 0) := by show _ = _; rw [hE]; rfl
    clear h hL hE hlen
    go_enter Try.func112, Try.ntmps112
    go_wp2
    go_ret
    exact ⟨by rw [HE.out]; rfl, Below.refl _ _⟩
  have HM := Lib.hid (maxFunc_any a n c L w (by omega) hn h)
  have q0 : ((n : Int) == 0) = false := by rw [beq_eq_false_iff_ne]; omega
  have HL := Lib.hid hL
  have h3 : (B : Int) ≠ 0 := by omega
  have h4 : ((B : Int) == 0) = false := by rw [beq_eq_false_iff_ne]; exact h3
  unfold cmpV at HM
  clear h hL
  go_enter Try.func112, Try.ntmps112
  go_wp2_with fail
  refine HM.out.mono ?_
  rintro e w1 ⟨⟨⟨m1, m2⟩, rfl, hm⟩, hb⟩
  have HB := Lib.hid hb
  obtain ⟨x, hx⟩ : ∃ x : Nat, m1 + 100000 = (x : Int) ∧ x ≤ 200000 := by
    have := HL.out _ hm.1
    exact ⟨(m1 + 100000).toNat, by omega, by omega⟩
  obtain ⟨hx, hx2⟩ := hx
  have hnp : Mg.npL B L = Mg.nd B x := by
    unfold Mg.npL
    rw [if_neg (by intro e; have := List.isEmpty_iff.1 e; rw [this] at hlen; simp at hlen; omega), Mg.mxN_is hm.1 hm.2]
    congr 1
    unfold Mg.nk; simp only; omega
  have HNP := Lib.hid hnp
  have h18 := Mg.nd_18 hB hx2
  have hfld : ∀ W, (Instr.field 72 (.agg #[.int .i64 m1, .int .i64 m2]) 0).run Try.prog W = .ok (.int .i64 m1) W := fun W => by kernel_rfl
  have h5 : (x : Int).tdiv (B : Int) = ((x / B : Nat) : Int) := div_quot (by omega)
  have h6 : (x : Int) / (B : Int) = ((x / B : Nat) : Int) := (Int.natCast_ediv _ _).symm
  have hm1 : -100000 ≤ m1 ∧ m1 ≤ 100000 := HL.out _ hm.1
  have hle : x / B ≤ x := Nat.div_le_self _ _
  have hm1a := hm1.1
  have hm1b := hm1.2
  have HD : Hid (Mg.nd B x = if 0 < x / B then 1 + Mg.nd B (x / B) else 1) := by
    show _ = _
    split
    · rename_i h; exact Mg.nd_go h hB
    · rename_i h; exact Mg.nd_end (Nat.eq_zero_of_not_pos h)
  generalize Mg.nd B x = N at HNP h18 HD
  obtain ⟨y, hy⟩ : ∃ y, x / B = y := ⟨_, rfl⟩
  rw [hy] at h5 h6 hle HD
  clear hb hm hnp hm1 hy
  go_wp2_with fail
  go_loopw [5, 6] (fun nv pv wr => ∃ k p : Nat, nv = .int .i64 k ∧ pv = .int .i64 p ∧ k ≤ 200000 ∧ p ≤ 18 ∧ Hid ((p + if 0 < k then Mg.nd B k else 0) = N) ∧ Below w.heap.size w wr) (fun nv _ _ => (intOf nv).toNat)
  case atStart => exact ⟨y, 1, by first | rfl | (simp [h5]), rfl, by omega, by omega, Lib.hid (by rw [HD.out]; split <;> rfl), HB.out⟩
  case round =>
    obtain ⟨k, p, rfl, rfl, hk, hp, HP, hb⟩ := hrel
    have HB1 := Lib.hid hb
    clear hb HB h5 h6 HD hx hfld
    by_cases h1 : 0 < k
    · have q1 : decide ((0 : Int) < (k : Int)) = true := decide_eq_true (by omega)
      have h5 : (k : Int).tdiv (B : Int) = ((k / B : Nat) : Int) := div_quot (by omega)
      have h6 : (k : Int) / (B : Int) = ((k / B : Nat) : Int) := (Int.natCast_ediv _ _).symm
      have hlt : k / B < k := Nat.div_lt_self h1 hB
      have HX : Hid ((p + 1 + if 0 < k / B then Mg.nd B (k / B) else 0) = N ∧ p + 1 ≤ 18) := by
        show _ ∧ _
        have h7 := HP.out
        rw [if_pos h1] at h7
        by_cases h8 : 0 < k / B
        · rw [Mg.nd_go h8 hB] at h7
          rw [if_pos h8]; omega
        · rw [Mg.nd_end (Nat.eq_zero_of_not_pos h8)] at h7
          rw [if_neg h8]; omega
      generalize k / B = z at h5 h6 hlt HX
      go_wp2
      go_roundw
      case rel => exact ⟨z, p + 1, by first | rfl | go_num, by go_num, by omega, HX.out.2, Lib.hid HX.out.1, HB1.out⟩
      case measure => simp [intOf] <;> omega
    · have q1 : decide ((0 : Int) < (k : Int)) = false := decide_eq_false (by omega)
      have hpx : Mg.npL B L = p := by
        have h7 := HP.out
        rw [if_neg h1] at h7
        rw [HNP.out]; omega
      have HPX := Lib.hid hpx
      clear hpx
      go_wp2
      go_ret
      exact ⟨by rw [HPX.out]; rfl, HB1.out⟩

set_option maxRecDepth 100000 in
set_option maxHeartbeats 2000000 in
theorem passesNeeded2_any (a : Option Addr) (n c B : Nat) (L : List (Int × Int)) (w : World) (hok : okRecs L = true) (hB : 2 ≤ B) (hB2 : B ≤ 256) (h : Rd w a n c L) :
    Calls Try.prog 45 #[.slice a n c, .int .i64 B] w fun e w' => e = .returned (.tuple #[.int .i64 ((Mg.npL B L : Nat) : Int), .bool true]) ∧ Below w.heap.size w w' := by
  have hlen := h.len
  have h64 := okRecs_le hok
  have HV : Hid (Calls Try.prog 81 #[.slice a n c] w fun e w' => e = .returned (.bool true) ∧ Below w.heap.size w w') := by
    have h1 := isValidRecords_any a c L w (by omega) h.recs
    rw [hlen, hok] at h1; exact h1
  have HX := Lib.hid (fun W => isRadix_any B 0 W)
  rw [show rxOk B 0 = true from rxOk_nat (p := 0) hB hB2 (by omega)] at HX
  have HP := Lib.hid (fun W (hb : Below w.heap.size w W) => passesNeeded_any a n c B L W (by omega) hB hB2 (okRecs_key hok) (h.same hb))
  generalize Mg.npL B L = N at HP
  clear h hok hlen h64 hB hB2
  go_enter Try.func45, Try.ntmps45
  go_wp2_with fail
  refine HV.out.mono ?_
  rintro e w1 ⟨rfl, hb⟩
  have HB := Lib.hid hb; clear hb
  go_wp2_with fail
  refine (HX.out _).mono ?_
  rintro e w2 ⟨rfl, rfl⟩
  go_wp2_with fail
  refine (HP.out _ HB.out).mono ?_
  rintro e w2 ⟨rfl, hb⟩
  have HB2 := Lib.hid (below_tr HB.out hb HB.out.size)
  clear hb
  go_wp2
  go_ret2
  exact ⟨rfl, HB2.out⟩

set_option maxRecDepth 100000 in
set_option maxHeartbeats 2000000 in
theorem radixPass_any (a : Option Addr) (n c B p : Nat) (L : List (Int × Int)) (w : World) (hok : okRecs L = true) (hB : 2 ≤ B) (hB2 : B ≤ 256) (hp : p ≤ 17) (h : Rd w a n c L) :
    Calls Try.prog 46 #[.slice a n c, .int .i64 B, .int .i64 p] w (RdEnd w (passL B p L) true) := by
  have hlen := h.len
  have h64 := okRecs_le hok
  have HV : Hid (Calls Try.prog 81 #[.slice a n c] w fun e w' => e = .returned (.bool true) ∧ Below w.heap.size w w') := by
    have h1 := isValidRecords_any a c L w (by omega) h.recs
    rw [hlen, hok] at h1; exact h1
  have HX := Lib.hid (fun W => isRadix_any B p W)
  rw [rxOk_nat hB hB2 hp] at HX
  have HP := Lib.hid (fun W (hb : Below w.heap.size w W) => pass_any a n c B p L W (by omega) hB hB2 hp (h.same hb))
  clear h hok hlen h64 hB hB2 hp
  unfold OwnR at HP
  unfold RdEnd
  go_enter Try.func46, Try.ntmps46
  go_wp2_with fail
  refine HV.out.mono ?_
  rintro e w1 ⟨rfl, hb⟩
  have HB := Lib.hid hb; clear hb
  go_wp2_with fail
  refine (HX.out _).mono ?_
  rintro e w2 ⟨rfl, rfl⟩
  go_wp2_with fail
  refine (HP.out _ HB.out).mono ?_
  rintro e w2 ⟨g, c2, rfl, ho, hb⟩
  have HO := Lib.hid (rd_own ho)
  have HB2 := Lib.hid (below_tr HB.out hb HB.out.size)
  clear ho hb
  go_wp2
  go_ret2
  exact ⟨_, _, _, rfl, HO.out, HB2.out⟩

/-- The list behind the first places. -/
def passLs (B : Nat) (L : List (Int × Int)) : Nat → List (Int × Int)
  | 0 => L
  | p + 1 => passL B p (passLs B L p)
theorem passLs_len (B : Nat) (L : List (Int × Int)) : ∀ p, (passLs B L p).length = L.length
  | 0 => rfl
  | p + 1 => (passL_len _ _ _).trans (passLs_len B L p)
theorem passLs_pas {B : Nat} {L : List (Int × Int)} (hB : 0 < B) (hL : ∀ r ∈ L, -100000 ≤ r.1 ∧ r.1 ≤ 100000) : ∀ p, passLs B L p = Mg.pasS B p L
  | 0 => (Mg.pas_zero B L).symm
  | p + 1 => by
    have ih := passLs_pas hB hL p
    show passL B p (passLs B L p) = _
    rw [passL_valid hB (by rw [ih]; intro r hr; exact hL r (Mg.pas_mem.1 hr)), ih, Mg.pas_succ hB]

set_option maxRecDepth 100000 in
set_option maxHeartbeats 4000000 in
theorem radixSort_any (a : Option Addr) (n c B : Nat) (L : List (Int × Int)) (w : World) (hok : okRecs L = true) (hB : 2 ≤ B) (hB2 : B ≤ 256) (h : Rd w a n c L) :
    Calls Try.prog 44 #[.slice a n c, .int .i64 B] w fun e w' => ∃ (a' : Option Addr) (c' : Nat), e = .returned (.tuple #[.slice a' n c', .int .i64 ((Mg.npL B L : Nat) : Int), .bool true]) ∧ Rd w' a' n c' (srtR L) ∧ Below w.heap.size w w' := by
  have hlen := h.len
  have h64 := okRecs_le hok
  have HV : Hid (Calls Try.prog 81 #[.slice a n c] w fun e w' => e = .returned (.bool true) ∧ Below w.heap.size w w') := by
    have h1 := isValidRecords_any a c L w (by omega) h.recs
    rw [hlen, hok] at h1; exact h1
  have HX := Lib.hid (fun W => isRadix_any B 0 W)
  rw [show rxOk B 0 = true from rxOk_nat (p := 0) hB hB2 (by omega)] at HX
  have HC : Hid (∀ W, Below w.heap.size w W → Calls Try.prog 111 #[.slice a n c] W (OwnR W L n)) := fun W hb => by
    have h1 := copyOfR_any a c L W (by omega) (h.same hb).recs h.nil
    rw [hlen] at h1; exact h1
  have HP := Lib.hid (fun W (hb : Below w.heap.size w W) => passesNeeded_any a n c B L W (by omega) hB hB2 (okRecs_key hok) (h.same hb))
  have h18 := Mg.npL_18 (B := B) hB (okRecs_key hok)
  have HPS := Lib.hid (fun (x : Option Addr) (d p : Nat) (K : List (Int × Int)) W (hp : p ≤ 17) (hr : Rd W x n d K) => pass_any x n d B p K W (by omega) hB hB2 hp hr)
  have HEND : Hid (passLs B L (Mg.npL B L) = srtR L) := by
    show _ = _
    rw [passLs_pas (by omega) (okRecs_key hok)]
    exact Mg.pas_np hB (okRecs_key hok)
  generalize Mg.npL B L = N at HP h18 HEND
  have hn64 : n ≤ 64 := by omega
  clear h hok h64
  unfold OwnR at HC HPS
  go_enter Try.func44, Try.ntmps44
  go_wp2_with fail
  refine HV.out.mono ?_
  rintro e w1 ⟨rfl, hb⟩
  have HB := Lib.hid hb; clear hb
  go_wp2_with fail
  refine (HX.out _).mono ?_
  rintro e w2 ⟨rfl, rfl⟩
  go_wp2_with fail
  refine (HC.out _ HB.out).mono ?_
  rintro e w2 ⟨g, c2, rfl, ho, hb⟩
  have HO := Lib.hid (rd_own ho)
  have HB2 := Lib.hid (below_tr HB.out hb HB.out.size)
  clear ho hb HB
  go_wp2_with fail
  refine (HP.out _ HB2.out).mono ?_
  rintro e w3 ⟨rfl, hb⟩
  have HO3 := Lib.hid (HO.out.same hb)
  have HB3 := Lib.hid (below_tr HB2.out hb HB2.out.size)
  clear hb HB2 HO HC HP HV
  go_wp2_with fail
  go_loopw [7, 24] (fun lv iv wr => ∃ (i : Nat) (x : Option Addr) (d : Nat), iv = .int .i64 i ∧ lv = .slice x n d ∧ i ≤ N ∧ Rd wr x n d (passLs B L i) ∧ Below w.heap.size w wr) (fun _ iv _ => N - (intOf iv).toNat)
  case atStart => exact ⟨0, _, _, rfl, rfl, by omega, HO3.out, HB3.out⟩
  case round =>
    obtain ⟨i, x, d, rfl, rfl, hi, hrd, hb⟩ := hrel
    have HR := Lib.hid hrd; have HB4 := Lib.hid hb
    clear hrd hb HO3 HB3
    by_cases hlt : i < N
    · have q1 : decide ((i : Int) < (N : Int)) = true := decide_eq_true (by omega)
      have hi17 : i ≤ 17 := by omega
      go_wp2_with fail
      refine (HPS.out x d i _ _ hi17 HR.out).mono ?_
      rintro e w5 ⟨g5, c5, rfl, ho, hb⟩
      have HO5 : Hid (Rd w5 (some ⟨g5, 0, none⟩) n c5 (passLs B L (i + 1))) := rd_own ho
      have HB5 := Lib.hid (below_tr HB4.out hb HB4.out.size)
      clear ho hb
      go_wp2
      go_roundw
      case rel => exact ⟨i + 1, _, _, by go_num, rfl, by omega, HO5.out, HB5.out⟩
      case measure => simp [intOf] <;> omega
    · obtain rfl : i = N := by omega
      have q1 : decide ((i : Int) < (i : Int)) = false := by simp
      rw [HEND.out] at HR
      go_wp2
      refine bodyPost_ret (v := .tuple #[.slice x n d, .int .i64 i, .bool true]) (by simp [results, Try.results44, go_sem]) rfl ?_
      exact ⟨x, d, rfl, HR.out, HB4.out⟩

end Go.Proofs.Ytkckmjajjdpodaa

/- Walks: the counts of digits; sums; drawn keys. -/
namespace Go.Proofs.Ytkckmjajjdpodaa
open Go.RowKit Go.Sort
set_option linter.unusedVariables false

theorem sum_bump : ∀ {cs : List Int} {d : Nat}, d < cs.length → (cs.set d (cs.getD d 0 + 1)).sum = cs.sum + 1
  | [], d, h => by simp at h
  | x :: l, 0, h => by simp; omega
  | x :: l, d + 1, h => by
    have ih := sum_bump (cs := l) (d := d) (by simpa using h)
    simp only [List.set_cons_succ, List.sum_cons, List.getD_cons_succ]
    omega
theorem sum_ge : ∀ {cs : List Int} {d : Nat}, (∀ x ∈ cs, 0 ≤ x) → cs.getD d 0 ≤ cs.sum ∧ 0 ≤ cs.sum
  | [], d, _ => by simp
  | x :: l, 0, h => by
    have h1 := h x (by simp)
    have ih := sum_ge (cs := l) (d := 0) (fun y hy => h y (List.mem_cons_of_mem _ hy))
    simp only [List.sum_cons, List.getD_cons_zero]; omega
  | x :: l, d + 1, h => by
    have h1 := h x (by simp)
    have ih := sum_ge (cs := l) (d := d) (fun y hy => h y (List.mem_cons_of_mem _ hy))
    simp only [List.sum_cons, List.getD_cons_succ]; omega

set_option maxRecDepth 100000 in
set_option maxHeartbeats 4000000 in
theorem digitCounts_any (a : Option Addr) (n c B p : Nat) (L : List (Int × Int)) (w : World) (hok : okRecs L = true) (hB : 2 ≤ B) (hB2 : B ≤ 256) (hp : p ≤ 17) (h : Rd w a n c L) :
    Calls Try.prog 47 #[.slice a n c, .int .i64 B, .int .i64 p] w fun e w' => ∃ (g : Nat) (cs : List Int), e = .returned (.tuple #[.slice (some ⟨g, 0, none⟩) B B, .bool true]) ∧ IntsAt w' (some ⟨g, 0, none⟩) cs ∧ cs.length = B ∧ cs.sum = (n : Int) ∧ (∀ x ∈ cs, 0 ≤ x) ∧ Below w.heap.size w w' := by
  have hlen := h.len
  have h64 := okRecs_le hok
  have HV : Hid (Calls Try.prog 81 #[.slice a n c] w fun e w' => e = .returned (.bool true) ∧ Below w.heap.size w w') := by
    have h1 := isValidRecords_any a c L w (by omega) h.recs
    rw [hlen, hok] at h1; exact h1
  have HX := Lib.hid (fun W => isRadix_any B p W)
  rw [rxOk_nat hB hB2 hp] at HX
  have HKEY := Lib.hid (okRecs_key hok)
  have HDG := Lib.hid (fun (k : Int) W (h0 : -100000 ≤ k) (h1 : k ≤ 100000) => digit_any k B p W h0 h1 hB hB2 hp)
  have H := Lib.hid h
  have hn64 : n ≤ 64 := by omega
  have hB0 : (0 : Int) ≤ (B : Int) := by omega
  clear h hok h64
  go_enter Try.func47, Try.ntmps47
  go_wp2_with fail
  refine HV.out.mono ?_
  rintro e w1 ⟨rfl, hb⟩
  have HB := Lib.hid hb; clear hb
  go_wp2_with fail
  refine (HX.out _).mono ?_
  rintro e w2 ⟨rfl, rfl⟩
  go_wp2_with (at_make; refine wpList_mk slInt rfl _ _ rfl B rfl rfl (by omega) ?_)
  intro w2 hown hb hsz
  have HO := Lib.hid (made_intsL (by simpa [Value.cells] using hown))
  have HB2 := Lib.hid (below_tr HB.out hb HB.out.size)
  have HZ : Hid ((List.replicate B (0 : Int)).length = B ∧ (List.replicate B (0 : Int)).sum = ((0 : Nat) : Int) ∧ ∀ x ∈ List.replicate B (0 : Int), 0 ≤ x) := ⟨by simp, by simp, fun x hx => by have := List.eq_of_mem_replicate hx; omega⟩
  have hgw : w.heap.size ≤ w1.heap.size := HB.out.size
  clear hown hb HV HB
  generalize w1.heap.size = g at HO hgw hsz ⊢
  go_wp2_with fail
  go_loopw [24] (fun iv wr => ∃ (k : Nat) (cs : List Int), iv = .int .i64 k ∧ k ≤ n ∧ cs.length = B ∧ Hid (cs.sum = (k : Int)) ∧ Hid (∀ x ∈ cs, 0 ≤ x) ∧ wr.ownsRow g 3 1 (.slice (some ⟨g, 0, none⟩) B B) B (intsL cs) ∧ Below w.heap.size w wr) (fun iv _ => n - (intOf iv).toNat)
  case atStart => exact ⟨0, _, rfl, by omega, HZ.out.1, Lib.hid HZ.out.2.1, Lib.hid HZ.out.2.2, HO.out, HB2.out⟩
  case round =>
    obtain ⟨k, cs, rfl, hk, hcl, HSUM, HPOS, ho, hb⟩ := hrel
    have HO3 := Lib.hid ho; have HB3 := Lib.hid hb
    clear ho hb HO HB2 HZ
    by_cases hlt : k < n
    · have q1 : decide ((k : Int) < (n : Int)) = true := decide_eq_true (by omega)
      obtain ⟨b, o, rfl, c1, c2⟩ := (H.out.same HB3.out).at hlt
      obtain ⟨⟨x, y⟩, hX⟩ : ∃ X, L.getD k (0, 0) = X := ⟨_, rfl⟩
      rw [hX] at c1 c2
      have hmem : (x, y) ∈ L := by
        rw [← hX, List.getD_eq_getElem?_getD, List.getElem?_eq_getElem (by omega)]
        exact List.getElem_mem (by omega)
      have hkx := HKEY.out _ hmem
      have HD := Lib.hid (fun W => HDG.out x W hkx.1 hkx.2)
      have hd := Mg.dgN_lt (B := B) (p := p) (n := Mg.nk (x, 0)) (by omega)
      obtain ⟨d, hdd⟩ : ∃ d, Mg.dgN B p (Mg.nk (x, 0)) = d := ⟨_, rfl⟩
      rw [hdd] at HD hd
      have hbn := belowNewL wr (.cells #[.int .i64 x, .int .i64 y] 72)
      have HO4 := Lib.hid (own_below HO3.out (Nat.le_refl _) hbn)
      have HB4 := Lib.hid (below_tr HB3.out hbn HB3.out.size)
      have hle := sum_ge (d := d) HPOS.out
      rw [HSUM.out] at hle
      obtain ⟨v, hv⟩ : ∃ v, cs.getD d 0 = v := ⟨_, rfl⟩
      have hv0 : 0 ≤ v := by
        rw [← hv, List.getD_eq_getElem?_getD, List.getElem?_eq_getElem (by omega)]
        exact HPOS.out _ (List.getElem_mem (by omega))
      rw [hv] at hle
      have hc1 := HO4.out.cellAt d (by omega)
      have hcv : (intsL cs)[d]? = some (.int .i64 v) := by
        unfold intsL
        rw [List.getElem?_map, List.getElem?_eq_getElem (by omega), ← hv, List.getD_eq_getElem?_getD, List.getElem?_eq_getElem (by omega)]; rfl
      rw [hcv] at hc1
      have hf1 := HO4.out.frozenAt d
      have R := HO4.out.stored d (.int .i64 (v + 1))
      have hset : (intsL cs).set d (.int .i64 (v + 1)) = intsL (cs.set d (v + 1)) := by unfold intsL; rw [List.map_set]
      rw [hset] at R
      have HR := Lib.hid R.1
      have HBR := Lib.hid (HB4.out.grown R.2 HB4.out.size (fun q hq => by injection hq with hq; omega))
      have HS2 : Hid ((cs.set d (v + 1)).length = B ∧ (cs.set d (v + 1)).sum = ((k + 1 : Nat) : Int) ∧ ∀ x ∈ cs.set d (v + 1), 0 ≤ x) := by
        refine ⟨by simp [hcl], ?_, fun z hz => ?_⟩
        · rw [← hv, sum_bump (by omega), HSUM.out]; omega
        · rcases List.mem_or_eq_of_mem_set hz with h1 | h1
          · exact HPOS.out z h1
          · omega
      have t0 : ((d : Int)).toNat = d := by omega
      have b0 : (0 : Int) ≤ (d : Int) := by omega
      have b1 : (d : Int) < (B : Int) := by omega
      have t1 : ((k : Int)).toNat = k := by omega
      have b2 : (0 : Int) ≤ (k : Int) := by omega
      have b3 : (k : Int) < (n : Int) := by omega
      have hv1 := hle.1
      have e0 := row_cell (block_new wr (.cells #[.int .i64 x, .int .i64 y] 72)) 0
      clear hX hmem hkx hdd hbn HO3 HB3 hle hv hcv hset R HO4 HB4 HSUM HPOS
      go_wp2_with fail
      refine (HD.out _).mono ?_
      rintro e w5 ⟨rfl, rfl⟩
      go_wp2_with fail
      go_roundw
      case rel => exact ⟨k + 1, _, by go_num, by omega, HS2.out.1, Lib.hid HS2.out.2.1, Lib.hid HS2.out.2.2, HR.out, HBR.out⟩
      case measure => simp [intOf] <;> omega
    · obtain rfl : k = n := by omega
      have q1 : decide ((k : Int) < (k : Int)) = false := by simp
      go_wp2
      refine bodyPost_ret (v := .tuple #[.slice (some ⟨g, 0, none⟩) B B, .bool true]) (by simp [results, Try.results47, go_sem]) rfl ?_
      exact ⟨g, cs, rfl, ints_of_own HO3.out, hcl, HSUM.out, HPOS.out, HB3.out⟩

set_option maxHeartbeats 1000000 in
theorem rSum_any (a : Option Addr) (B c : Nat) (cs : List Int) (k : Nat) (w : World) (hk : k ≤ 1000) (hl : cs.length = B) (hB : B ≤ 1000) (hs : cs.sum = (k : Int)) (h0 : ∀ x ∈ cs, 0 ≤ x) (h : IntsAt w a cs) :
    Calls Try.prog 48 #[.slice a B c] w fun e w' => e = .returned (.int .i64 (k : Int)) ∧ w = w' := by
  have H := Lib.hid h; have HS := Lib.hid hs; have H0 := Lib.hid h0
  clear h hs h0
  have HT : Hid (∀ i, (cs.take i).sum ≤ (k : Int) ∧ 0 ≤ (cs.take i).sum) := fun i => by
    have h1 : (cs.take i).sum + (cs.drop i).sum = (k : Int) := by rw [← List.sum_append, List.take_append_drop, HS.out]
    have h2 := sum_ge (cs := cs.drop i) (d := 0) (fun x hx => H0.out x (List.mem_of_mem_drop hx))
    have h3 := sum_ge (cs := cs.take i) (d := 0) (fun x hx => H0.out x (List.mem_of_mem_take hx))
    omega
  go_enter Try.func48, Try.ntmps48
  go_wp2
  go_loopw [3, 4] (fun sv iv wr => ∃ (i : Nat) (s : Int), iv = .int .i64 i ∧ sv = .int .i64 s ∧ i ≤ B ∧ Hid (s = (cs.take i).sum) ∧ w = wr) (fun _ iv _ => B - (intOf iv).toNat)
  case atStart => exact ⟨0, 0, rfl, rfl, by omega, Lib.hid (by simp), rfl⟩
  case round =>
    obtain ⟨i, s, rfl, rfl, hi, HSU, rfl⟩ := hrel
    by_cases hlt : i < B
    · have q1 : decide ((i : Int) < (B : Int)) = true := decide_eq_true (by omega)
      obtain ⟨b, off, rfl, hc⟩ := H.out.at (show i < cs.length by omega)
      obtain ⟨x, hx⟩ : ∃ x, cs.getD i 0 = x := ⟨_, rfl⟩
      rw [hx] at hc
      have hnx : (cs.take (i + 1)).sum = s + x := by
        rw [List.take_succ_eq_append_getElem (by omega), List.sum_append, ← HSU.out, ← hx, List.getD_eq_getElem?_getD, List.getElem?_eq_getElem (by omega)]; simp
      have hb := HT.out (i + 1)
      rw [hnx] at hb
      obtain ⟨hb1, hb2⟩ := hb
      have HN := Lib.hid hnx.symm
      have t0 : ((i : Int)).toNat = i := by omega
      have b0 : (0 : Int) ≤ (i : Int) := by omega
      have b1 : (i : Int) < (B : Int) := by omega
      clear hnx hx
      go_wp2
      go_roundw
      case rel => exact ⟨i + 1, s + x, by go_num, by first | rfl | go_num, by omega, HN, (by first | rfl | trivial)⟩
      case measure => simp [intOf] <;> omega
    · obtain rfl : i = B := by omega
      have q1 : decide ((i : Int) < (i : Int)) = false := by simp
      have hE : s = (k : Int) := by rw [HSU.out, List.take_of_length_le (by omega), HS.out]
      have HE := Lib.hid hE
      clear hE
      go_wp2
      go_ret
      exact ⟨by rw [HE.out]; rfl, rfl⟩

set_option maxHeartbeats 400000 in
theorem drawStableSortE_any (ac : Option Addr) (c : Nat) (cs : List Int) (w : World) (hl : cs.length ≤ 65537) (h : BytesAt w ac cs) :
    Calls Try.prog 109 #[.slice ac cs.length c] w (RdDraw w) := by
  have HD := Lib.hid (drawIV_any ac c cs w hl h)
  clear h
  unfold RdDraw at *
  go_enter Try.func109, Try.ntmps109
  go_wp2_with fail
  refine HD.out.mono ?_
  rintro e w1 ⟨a, n, c, rs, rfl, h1, h2, h3⟩
  have H1 := Lib.hid h1; have H3 := Lib.hid h3
  clear h1 h3
  go_wp2
  go_ret
  exact ⟨_, _, _, _, rfl, H1.out, h2, H3.out⟩
theorem specIsValidRecordsE_any (a : Option Addr) (n cap : Nat) (rs : List (Int × Int)) (w : World) (hbig : n ≤ 9223372036854775807) (h : Rd w a n cap rs) :
    Calls Try.prog 38 #[.slice a n cap] w fun e w' => e = .returned (.bool (okRecs rs)) ∧ w = w' := by
  have hl := h.len
  subst hl
  have H := Lib.hid (l2Records_any a cap rs w hbig h.recs)
  clear h
  go_enter Try.func38, Try.ntmps38
  go_wp2_with fail
  refine H.out.mono ?_
  rintro e w1 ⟨rfl, rfl⟩
  go_wp2
  go_ret
  exact ⟨rfl, rfl⟩

set_option maxRecDepth 100000 in
set_option maxHeartbeats 1000000 in
theorem vKeys_any (ac : Option Addr) (c : Nat) (cs : List Int) (w : World) (hl : cs.length ≤ 65537) (h : BytesAt w ac cs) :
    Calls Try.prog 43 #[.slice ac cs.length c] w fun e w' => ∃ (a : Option Addr) (n c : Nat) (L : List (Int × Int)), e = .returned (.slice a n c) ∧ Rd w' a n c L ∧ okRecs L = true ∧ Below w.heap.size w w' := by
  have HD := Lib.hid (drawStableSortE_any ac c cs w hl h)
  clear h
  unfold RdDraw at HD
  go_enter Try.func43, Try.ntmps43
  go_wp2_with fail
  refine HD.out.mono ?_
  rintro e w1 ⟨a, n, c1, L, rfl, hr, hn, hb⟩
  have HR := Lib.hid hr; have HB := Lib.hid hb
  have HV := Lib.hid (specIsValidRecordsE_any a n c1 L w1 (by omega) hr)
  clear hr hb HD
  cases hok : okRecs L
  · rw [hok] at HV
    have hbn := belowNewL w1 (.cells #[.int .i64 2, .int .i64 0, .int .i64 1, .int .i64 1, .int .i64 2, .int .i64 2] 72)
    have HB2 := Lib.hid (below_tr HB.out hbn HB.out.size)
    have HL : Hid (Rd (w1.alloc (.cells #[.int .i64 2, .int .i64 0, .int .i64 1, .int .i64 1, .int .i64 2, .int .i64 2] 72)) (some ⟨w1.heap.size, 0, none⟩) 3 3 [(2, 0), (1, 1), (2, 2)]) :=
      rd_own (B := w1.heap.size) (own_lit (w := w1) (e := 72) (size := 2) #[.int .i64 2, .int .i64 0, .int .i64 1, .int .i64 1, .int .i64 2, .int .i64 2] 3 (by omega) rfl)
    clear hbn hok
    go_wp2_with fail
    refine HV.out.mono ?_
    rintro e w2 ⟨rfl, rfl⟩
    go_wp2
    go_ret
    exact ⟨_, _, _, _, rfl, HL.out, by decide, HB2.out⟩
  · rw [hok] at HV
    have HOK := Lib.hid hok
    clear hok
    go_wp2_with fail
    refine HV.out.mono ?_
    rintro e w2 ⟨rfl, rfl⟩
    go_wp2
    go_ret
    exact ⟨_, _, _, _, rfl, HR.out, HOK.out, HB.out⟩

end Go.Proofs.Ytkckmjajjdpodaa

/- Walks: the counting sort of both packages; the places of the sorted list. -/
namespace Go.Proofs.Ytkckmjajjdpodaa
open Go.RowKit Go.Sort
set_option linter.unusedVariables false

def ckOk (L : List (Int × Int)) (low high : Int) : Bool := okRecs L && (okKey low && inB high low (low + 1000)) && L.all (fun r => inB r.1 low high)
def ckL (L : List (Int × Int)) (low high : Int) : List (Int × Int) := if ckOk L low high = true then srtR L else []

set_option maxRecDepth 100000 in
set_option maxHeartbeats 1000000 in
theorem ckCmp_any (p4 p5 : Nat) (low high : Int) (r : Int × Int) (w : World) (h4 : w.cell? ⟨p4, 0, none⟩ = some (.int .i64 low)) (h5 : w.cell? ⟨p5, 0, none⟩ = some (.int .i64 high)) :
    Calls Try.prog 122 #[.agg #[.int .i64 r.1, .int .i64 r.2], .pointer (some ⟨p4, 0, none⟩), .pointer (some ⟨p5, 0, none⟩)] w fun e w' => e = .returned (.bool (inB r.1 low high)) ∧ Below w.heap.size w w' := by
  obtain ⟨r1, r2⟩ := r
  have hb := belowNewL w (.cells #[.int .i64 r1, .int .i64 r2] 72)
  have c4 := (hb.cell (p := ⟨p4, 0, none⟩) (World.block_lt_of_cell? w _ h4)).trans h4
  have c5 := (hb.cell (p := ⟨p5, 0, none⟩) (World.block_lt_of_cell? w _ h5)).trans h5
  have HB := Lib.hid hb
  have HI := Lib.hid (fun W => in_any r1 low high W)
  show Calls _ _ _ _ fun e w' => e = .returned (.bool (inB r1 low high)) ∧ _
  generalize inB r1 low high = q at HI
  clear hb h4 h5
  go_enter Try.func122, Try.ntmps122
  go_wp2_with fail
  refine (HI.out _).mono ?_
  rintro e w1 ⟨rfl, rfl⟩
  go_wp2
  go_ret
  exact ⟨rfl, HB.out⟩

set_option maxRecDepth 100000 in
set_option maxHeartbeats 2000000 in
theorem implCountingSort_any (a : Option Addr) (n c : Nat) (L : List (Int × Int)) (low high : Int) (w : World) (hbig : n ≤ 1000) (hlo : -200000 ≤ low ∧ low ≤ 200000) (h : Rd w a n c L) :
    Calls Try.prog 52 #[.slice a n c, .int .i64 low, .int .i64 high] w (RdEnd w (ckL L low high) (ckOk L low high)) := by
  obtain ⟨wb, hwb⟩ : ∃ W, W = (w.alloc (.cells #[.int .i64 low] 3)).alloc (.cells #[.int .i64 high] 3) := ⟨_, rfl⟩
  have b1 := belowNewL w (.cells #[.int .i64 low] 3)
  have b2 : Below (w.alloc (.cells #[.int .i64 low] 3)).heap.size (w.alloc (.cells #[.int .i64 low] 3)) wb := by rw [hwb]; exact belowNewL _ _
  have HB := Lib.hid (below_tr b1 b2 b1.size)
  have HP4 := Lib.hid (block_below (block_new w (.cells #[.int .i64 low] 3)) b2 (by simp))
  have HP5 : Hid (wb.heap[w.heap.size + 1]? = some (.cells #[.int .i64 high] 3 (0, 0))) := by
    show _ = _
    have := block_new (w.alloc (.cells #[.int .i64 low] 3)) (.cells #[.int .i64 high] 3)
    rw [hwb]
    simpa using this
  have HR := Lib.hid ((h.same b1).same b2)
  have hlen := h.len
  have HV : Hid (∀ W, Below wb.heap.size wb W → Calls Try.prog 81 #[.slice a n c] W fun e w' => e = .returned (.bool (okRecs L)) ∧ Below W.heap.size W w') := fun W hb => by
    have h1 := isValidRecords_any a c L W (by omega) (HR.out.same hb).recs
    rw [hlen] at h1; exact h1
  have H1 := Lib.hid (fun W => isKey_any low W)
  have H2 := Lib.hid (fun W => in_any high low (low + 1000) W)
  obtain ⟨hlo1, hlo2⟩ := hlo
  have c4 := row_cell HP4.out 0
  have c5 := row_cell HP5.out 0
  have c4 : wb.cell? ⟨w.heap.size, 0, none⟩ = some (.int .i64 low) := c4
  have c5 : wb.cell? ⟨w.heap.size + 1, 0, none⟩ = some (.int .i64 high) := c5
  have hck : ckOk L low high = (okRecs L && (okKey low && inB high low (low + 1000)) && L.all (fun r => inB r.1 low high)) := rfl
  have HCK := Lib.hid hck
  have HCL : Hid (ckOk L low high = false → ckL L low high = []) := fun e => by unfold ckL; rw [e]; rfl
  have HCT : Hid (ckOk L low high = true → ckL L low high = srtR L) := fun e => by unfold ckL; rw [if_pos e]
  clear h b1 b2 hck
  subst hwb
  unfold RdEnd
  obtain ⟨bd, hbd⟩ : ∃ bd, (okKey low && inB high low (low + 1000)) = bd := ⟨_, rfl⟩
  rw [hbd] at HCK
  cases hk : okKey low
  case' false =>
    rw [hk] at H1 hbd
    obtain rfl : bd = false := hbd.symm
    clear hk hbd
    go_enter Try.func52, Try.ntmps52
    go_wp2_with fail
    refine (H1.out _).mono ?_
    rintro e w1 ⟨rfl, rfl⟩
    go_wp2_with fail
  case' true =>
    rw [hk] at H1 hbd
    rw [Bool.true_and] at hbd
    rw [hbd] at H2
    clear hk hbd
    go_enter Try.func52, Try.ntmps52
    go_wp2_with fail
    refine (H1.out _).mono ?_
    rintro e w1 ⟨rfl, rfl⟩
    go_wp2_with fail
    refine (H2.out _).mono ?_
    rintro e w1 ⟨rfl, rfl⟩
    go_wp2_with fail
  all_goals
    refine (HV.out _ (Below.refl _ _)).mono ?_
    rintro e w2 ⟨rfl, hb⟩
    have HB2 := Lib.hid (below_tr HB.out hb HB.out.size)
    have HP42 := Lib.hid (block_below HP4.out hb (hlt_ofL HP4.out))
    have HP52 := Lib.hid (block_below HP5.out hb (hlt_ofL HP5.out))
    have HR2 := Lib.hid (HR.out.same hb)
    clear hb HV
  case' true =>
    cases bd
    case' true =>
      cases hok : okRecs L
      case' true =>
        rw [hok] at HCK
        have hp : IsPredR w2 (.func (.func 122) #[] #[.pointer (some ⟨w.heap.size, 0, none⟩), .pointer (some ⟨w.heap.size + 1, 0, none⟩)]) (fun r => inB r.1 low high) :=
          ⟨122, #[.pointer (some ⟨w.heap.size, 0, none⟩), .pointer (some ⟨w.heap.size + 1, 0, none⟩)], rfl, fun _ _ => by kernel_rfl, fun w1 hb x => ckCmp_any w.heap.size (w.heap.size + 1) low high x w1 (row_cell (block_below HP42.out hb (hlt_ofL HP42.out)) 0) (row_cell (block_below HP52.out hb (hlt_ofL HP52.out)) 0)⟩
        have HA : Hid (Calls Try.prog 121 #[.slice a n c, .func (.func 122) #[] #[.pointer (some ⟨w.heap.size, 0, none⟩), .pointer (some ⟨w.heap.size + 1, 0, none⟩)]] w2 fun e w' => e = .returned (.bool (L.all (fun r => inB r.1 low high))) ∧ Below w2.heap.size w2 w') := by
          have h1 := allR_any a c L _ (fun r => inB r.1 low high) w2 (by omega) HR2.out.recs hp
          rw [hlen] at h1; exact h1
        generalize (L.all (fun r => inB r.1 low high)) = al at HA HCK
        clear hp hok
        go_wp2_with fail
        refine HA.out.mono ?_
        rintro e w3 ⟨rfl, hb⟩
        have HB3 := Lib.hid (below_tr HB2.out hb HB2.out.size)
        have HR3 := Lib.hid (HR2.out.same hb)
        clear hb HA
        cases al
        · have hc : ckOk L low high = false := HCK.out
          have HO := Lib.hid hc; have HE := Lib.hid (HCL.out hc)
          clear hc
          go_wp2
          go_ret2
          exact ⟨none, 0, 0, by rw [HO.out]; rfl, by rw [HE.out]; exact rd_nil _, HB3.out⟩
        · have hc : ckOk L low high = true := HCK.out
          have HO := Lib.hid hc; have HE := Lib.hid (HCT.out hc)
          have HST : Hid (Calls Try.prog 91 #[.slice a n c] w3 (OwnR w3 (srtR L) n)) := by
            have h1 := stable_any a c L w3 (by omega) HR3.out.recs HR3.out.nil
            rw [hlen] at h1; exact h1
          unfold OwnR at HST
          clear hc
          go_wp2_with fail
          refine HST.out.mono ?_
          rintro e w4 ⟨g, c4, rfl, ho, hb⟩
          have HO4 := Lib.hid (rd_own ho)
          have HB4 := Lib.hid (below_tr HB3.out hb HB3.out.size)
          clear ho hb
          go_wp2
          go_ret2
          exact ⟨_, _, _, by rw [HO.out]; rfl, by rw [HE.out]; exact HO4.out, HB4.out⟩
      case' false =>
        rw [hok] at HCK
        have hc : ckOk L low high = false := HCK.out
        have HO := Lib.hid hc; have HE := Lib.hid (HCL.out hc)
        clear hc hok
    case' false =>
      have hc : ckOk L low high = false := by rw [HCK.out]; simp
      have HO := Lib.hid hc; have HE := Lib.hid (HCL.out hc)
      clear hc
  case' false =>
    have hc : ckOk L low high = false := by rw [HCK.out]; simp
    have HO := Lib.hid hc; have HE := Lib.hid (HCL.out hc)
    clear hc
  all_goals
    go_wp2
    all_goals
      go_ret2
      exact ⟨none, 0, 0, by rw [HO.out]; rfl, by rw [HE.out]; exact rd_nil _, HB2.out⟩

end Go.Proofs.Ytkckmjajjdpodaa

/- Walks: the reference's counting sort; the places of the sorted list. -/
namespace Go.Proofs.Ytkckmjajjdpodaa
open Go.RowKit Go.Sort
set_option linter.unusedVariables false

set_option maxRecDepth 100000 in
set_option maxHeartbeats 2000000 in
theorem specCountingSort_any (a : Option Addr) (n c : Nat) (L : List (Int × Int)) (low high : Int) (w : World) (hbig : n ≤ 1000) (hlo : -200000 ≤ low ∧ low ≤ 200000) (h : Rd w a n c L) :
    Calls Try.prog 53 #[.slice a n c, .int .i64 low, .int .i64 high] w (RdEnd w (ckL L low high) (ckOk L low high)) := by
  have hlen := h.len
  have HR := Lib.hid h
  have HV : Hid (Calls Try.prog 83 #[.slice a n c] w fun e w' => e = .returned (.bool (okRecs L)) ∧ w = w') := by
    have h1 := l2Records_any a c L w (by omega) h.recs
    rw [hlen] at h1; exact h1
  have H1 := Lib.hid (fun W => l1In_any low (-100000) 100000 W)
  have H2 := Lib.hid (fun W => l1In_any high low (low + 1000) W)
  have H3 := Lib.hid (fun x W => l1In_any x low high W)
  obtain ⟨hlo1, hlo2⟩ := hlo
  have hck : ckOk L low high = (okRecs L && (inB low (-100000) 100000 && inB high low (low + 1000)) && L.all (fun r => inB r.1 low high)) := rfl
  have HCK := Lib.hid hck
  have HCL : Hid (ckOk L low high = false → ckL L low high = []) := fun e => by unfold ckL; rw [e]; rfl
  have HCT : Hid (ckOk L low high = true → ckL L low high = srtR L) := fun e => by unfold ckL; rw [if_pos e]
  clear h hck
  unfold RdEnd
  cases hok : okRecs L
  · rw [hok] at HV HCK
    have hc : ckOk L low high = false := HCK.out
    have HO := Lib.hid hc; have HE := Lib.hid (HCL.out hc)
    clear hc hok
    go_enter Try.func53, Try.ntmps53
    go_wp2_with fail
    refine HV.out.mono ?_
    rintro e w1 ⟨rfl, rfl⟩
    go_wp2
    go_ret2
    exact ⟨none, 0, 0, by rw [HO.out]; rfl, by rw [HE.out]; exact rd_nil _, Below.refl _ _⟩
  rw [hok] at HV HCK
  cases h1 : inB low (-100000) 100000
  · rw [h1] at H1 HCK
    have hc : ckOk L low high = false := HCK.out
    have HO := Lib.hid hc; have HE := Lib.hid (HCL.out hc)
    clear hc hok h1
    go_enter Try.func53, Try.ntmps53
    go_wp2_with fail
    refine HV.out.mono ?_
    rintro e w1 ⟨rfl, rfl⟩
    go_wp2_with fail
    refine (H1.out _).mono ?_
    rintro e w1 ⟨rfl, rfl⟩
    go_wp2
    go_ret2
    exact ⟨none, 0, 0, by rw [HO.out]; rfl, by rw [HE.out]; exact rd_nil _, Below.refl _ _⟩
  rw [h1] at H1 HCK
  cases h2 : inB high low (low + 1000)
  · rw [h2] at H2 HCK
    have hc : ckOk L low high = false := HCK.out
    have HO := Lib.hid hc; have HE := Lib.hid (HCL.out hc)
    clear hc hok h1 h2
    go_enter Try.func53, Try.ntmps53
    go_wp2_with fail
    refine HV.out.mono ?_
    rintro e w1 ⟨rfl, rfl⟩
    go_wp2_with fail
    refine (H1.out _).mono ?_
    rintro e w1 ⟨rfl, rfl⟩
    go_wp2_with fail
    refine (H2.out _).mono ?_
    rintro e w1 ⟨rfl, rfl⟩
    go_wp2
    go_ret2
    exact ⟨none, 0, 0, by rw [HO.out]; rfl, by rw [HE.out]; exact rd_nil _, Below.refl _ _⟩
  rw [h2] at H2 HCK
  clear hok h1 h2
  go_enter Try.func53, Try.ntmps53
  go_wp2_with fail
  refine HV.out.mono ?_
  rintro e w1 ⟨rfl, rfl⟩
  go_wp2_with fail
  refine (H1.out _).mono ?_
  rintro e w1 ⟨rfl, rfl⟩
  go_wp2_with fail
  refine (H2.out _).mono ?_
  rintro e w1 ⟨rfl, rfl⟩
  go_wp2_with fail
  go_loopw [8] (fun iv wr => ∃ i : Nat, iv = .int .i64 i ∧ i ≤ n ∧ Hid (∀ j, j < i → inB (L.getD j (0, 0)).1 low high = true) ∧ w = wr) (fun iv _ => n - (intOf iv).toNat)
  case atStart => exact ⟨0, rfl, by omega, Lib.hid (fun j hj => by omega), rfl⟩
  case round =>
    obtain ⟨i, rfl, hi, HALL, rfl⟩ := hrel
    by_cases hlt : i < n
    · have q1 : decide ((i : Int) < (n : Int)) = true := decide_eq_true (by omega)
      obtain ⟨b, o, rfl, c1, c2⟩ := HR.out.at hlt
      obtain ⟨⟨x, y⟩, hX⟩ : ∃ X, L.getD i (0, 0) = X := ⟨_, rfl⟩
      rw [hX] at c1 c2
      have HX := Lib.hid hX
      have t0 : ((i : Int)).toNat = i := by omega
      have b0 : (0 : Int) ≤ (i : Int) := by omega
      have b2 : (i : Int) < (n : Int) := by omega
      have H4 := Lib.hid (H3.out x)
      clear hX
      cases hq : inB x low high
      · rw [hq] at H4
        have hal : L.all (fun r => inB r.1 low high) = false := by
          rw [List.all_eq_false]
          refine ⟨(x, y), ?_, by rw [hq]; simp⟩
          rw [← HX.out, List.getD_eq_getElem?_getD, List.getElem?_eq_getElem (by omega)]
          exact List.getElem_mem (by omega)
        have hc : ckOk L low high = false := by rw [HCK.out, hal]; rfl
        have HO := Lib.hid hc; have HE := Lib.hid (HCL.out hc)
        clear hc hal hq
        go_wp2_with fail
        refine (H4.out _).mono ?_
        rintro e w1 ⟨rfl, rfl⟩
        go_wp2
        go_ret2
        exact ⟨none, 0, 0, by rw [HO.out]; rfl, by rw [HE.out]; exact rd_nil _, Below.refl _ _⟩
      · rw [hq] at H4
        have HQ := Lib.hid hq
        clear hq
        go_wp2_with fail
        refine (H4.out _).mono ?_
        rintro e w1 ⟨rfl, rfl⟩
        go_wp2
        go_roundw
        case rel => exact ⟨i + 1, by go_num, by omega, Lib.hid (fun j hj => by
          rcases Nat.lt_succ_iff_lt_or_eq.1 hj with h | rfl
          · exact HALL.out j h
          · rw [HX.out]; exact HQ.out), (by first | rfl | trivial)⟩
        case measure => simp [intOf] <;> omega
    · obtain rfl : i = n := by omega
      have q1 : decide ((i : Int) < (i : Int)) = false := by simp
      have hal : L.all (fun r => inB r.1 low high) = true := by
        rw [List.all_eq_true]
        intro r hr
        obtain ⟨j, hj, rfl⟩ := List.getElem_of_mem hr
        have := HALL.out j (by omega)
        rw [List.getD_eq_getElem?_getD, List.getElem?_eq_getElem hj] at this
        exact this
      have hc : ckOk L low high = true := by rw [HCK.out, hal]; rfl
      have HO := Lib.hid hc; have HE := Lib.hid (HCT.out hc)
      have HST : Hid (Calls Try.prog 123 #[.slice a i c] w (OwnR w (srtR L) i)) := by
        have h1 := l2StableR_any a c L w (by omega) HR.out.recs HR.out.nil
        rw [hlen] at h1; exact h1
      unfold OwnR at HST
      clear hc hal
      go_wp2_with fail
      refine HST.out.mono ?_
      rintro e w4 ⟨g, c4, rfl, ho, hb⟩
      have HO4 := Lib.hid (rd_own ho)
      have HB4 := Lib.hid hb
      clear ho hb
      go_wp2
      go_ret2
      exact ⟨_, _, _, by rw [HO.out]; rfl, by rw [HE.out]; exact HO4.out, HB4.out⟩

set_option maxRecDepth 100000 in
set_option maxHeartbeats 2000000 in
theorem inverse_any (a : Option Addr) (n c : Nat) (L : List (Int × Int)) (w : World) (hn : L.length = n) (hn2 : n ≤ 1000) (h : IntsAt w a (sortP (keysL L))) :
    Calls Try.prog 124 #[.slice a n c] w fun e w' => ∃ (g : Nat) (q : List Int), e = .returned (.slice (some ⟨g, 0, none⟩) n n) ∧ IntsAt w' (some ⟨g, 0, none⟩) q ∧ InvOf (sortP (keysL L)) q ∧ Below w.heap.size w w' := by
  have H := Lib.hid h
  have hpl : (sortP (keysL L)).length = n := by rw [sortP_len, keysL_len, hn]
  have hkl : (keysL L).length = n := by rw [keysL_len, hn]
  have HAT : Hid (∀ j, j < n → ∃ i : Nat, i < n ∧ (sortP (keysL L))[j]? = some (i : Int)) := fun j hj => by
    have := sortP_at (l := keysL L) (j := j) (by omega)
    rw [hkl] at this; exact this
  have HINJ := Lib.hid (fun (j k : Nat) (x : Int) (h1 : (sortP (keysL L))[j]? = some x) (h2 : (sortP (keysL L))[k]? = some x) => sortP_inj h1 h2)
  generalize sortP (keysL L) = p at H hpl HAT HINJ ⊢
  have HPL := Lib.hid hpl
  clear h hn hkl hpl
  go_enter Try.func124, Try.ntmps124
  go_wp2_with (at_make; refine wpList_mk slInt rfl _ _ rfl n rfl rfl (by omega) ?_)
  intro w2 hown hb hsz
  have HO := Lib.hid (made_intsL (by simpa [Value.cells] using hown))
  have HB2 := Lib.hid hb
  clear hown hb
  go_wp2_with fail
  go_loopw [11] (fun iv wr => ∃ (k : Nat) (q : List Int), iv = .int .i64 k ∧ k ≤ n ∧ q.length = n ∧ Hid (∀ (j i : Nat), j < k → p[j]? = some (i : Int) → q[i]? = some (j : Int)) ∧ wr.ownsRow w.heap.size 3 1 (.slice (some ⟨w.heap.size, 0, none⟩) n n) n (intsL q) ∧ Below w.heap.size w wr) (fun iv _ => n - (intOf iv).toNat)
  case atStart => exact ⟨0, List.replicate n 0, rfl, by omega, by simp, Lib.hid (fun j i hj => by omega), HO.out, HB2.out⟩
  case round =>
    obtain ⟨k, q, rfl, hk, hql, HQ, ho, hb⟩ := hrel
    have HO3 := Lib.hid ho; have HB3 := Lib.hid hb
    clear ho hb HO HB2
    by_cases hlt : k < n
    · have q1 : decide ((k : Int) < (n : Int)) = true := decide_eq_true (by omega)
      obtain ⟨i, hi, hpk⟩ := HAT.out k hlt
      obtain ⟨b, off, rfl, hc⟩ := (H.out.below (Nat.le_refl _) HB3.out).at (show k < p.length by rw [HPL.out]; exact hlt)
      have hpv : p.getD k 0 = (i : Int) := by rw [List.getD_eq_getElem?_getD, hpk]; rfl
      rw [hpv] at hc
      have HPK := Lib.hid hpk
      have hc1 := HO3.out.cellAt i (by omega)
      obtain ⟨v, hv⟩ : ∃ v, q.getD i 0 = v := ⟨_, rfl⟩
      have hcv : (intsL q)[i]? = some (.int .i64 v) := by
        rw [List.getElem?_map, List.getElem?_eq_getElem (by omega), ← hv, List.getD_eq_getElem?_getD, List.getElem?_eq_getElem (by omega)]; rfl
      rw [hcv] at hc1
      have hf1 := HO3.out.frozenAt i
      have R := HO3.out.stored i (.int .i64 (k : Int))
      have hset : (intsL q).set i (.int .i64 (k : Int)) = intsL (q.set i (k : Int)) := by unfold intsL; rw [List.map_set]
      rw [hset] at R
      have HR := Lib.hid R.1
      have HBR := Lib.hid (HB3.out.grown R.2 HB3.out.size (fun q hq => by injection hq with hq; omega))
      have HN : Hid (∀ (j i' : Nat), j < k + 1 → p[j]? = some (i' : Int) → (q.set i (k : Int))[i']? = some (j : Int)) := fun j i' hj hp => by
        rcases Nat.lt_succ_iff_lt_or_eq.1 hj with h | rfl
        · have hne : i ≠ i' := fun e => by subst e; have := HINJ.out _ _ _ hp HPK.out; omega
          rw [List.getElem?_set_ne hne]
          exact HQ.out j i' h hp
        · rw [HPK.out] at hp
          have e : i = i' := by injection hp with hp; omega
          subst e
          rw [List.getElem?_set_self (by omega)]
      have t0 : ((k : Int)).toNat = k := by omega
      have b0 : (0 : Int) ≤ (k : Int) := by omega
      have b1 : (k : Int) < (n : Int) := by omega
      have t1 : ((i : Int)).toNat = i := by omega
      have b2 : (0 : Int) ≤ (i : Int) := by omega
      have b3 : (i : Int) < (n : Int) := by omega
      clear hpk hpv hv hcv R hset HO3 HB3 HQ
      go_wp2_with fail
      go_roundw
      case rel => exact ⟨k + 1, _, by go_num, by omega, by rw [List.length_set]; exact hql, HN, HR.out, HBR.out⟩
      case measure => simp [intOf] <;> omega
    · obtain rfl : k = n := by omega
      have q1 : decide ((k : Int) < (k : Int)) = false := by simp
      have HI : Hid (InvOf p q) := ⟨by rw [hql, HPL.out], fun j i hp => by
        have hj : j < k := by
          rw [← HPL.out]
          exact (List.getElem?_eq_some_iff.1 hp).1
        exact HQ.out j i hj hp⟩
      go_wp2
      go_ret
      exact ⟨_, q, rfl, ints_of_own HO3.out, HI.out, HB3.out⟩

set_option maxRecDepth 100000 in
set_option maxHeartbeats 2000000 in
theorem sortedPositions_any (a : Option Addr) (n c : Nat) (L : List (Int × Int)) (w : World) (hbig : n ≤ 1000) (h : Rd w a n c L) :
    Calls Try.prog 54 #[.slice a n c] w fun e w' => (∃ (a' : Option Addr) (m c' : Nat) (q : List Int), e = .returned (.tuple #[.slice a' m c', .bool (okRecs L)]) ∧ (okRecs L = true → m = n ∧ InvOf (sortP (keysL L)) q ∧ IntsAt w' a' q) ∧ (okRecs L = false → m = 0)) ∧ Below w.heap.size w w' := by
  have hlen := h.len
  have HV : Hid (Calls Try.prog 81 #[.slice a n c] w fun e w' => e = .returned (.bool (okRecs L)) ∧ Below w.heap.size w w') := by
    have h1 := isValidRecords_any a c L w (by omega) h.recs
    rw [hlen] at h1; exact h1
  have HR := Lib.hid h
  clear h
  cases hok : okRecs L
  · rw [hok] at HV
    clear hok
    go_enter Try.func54, Try.ntmps54
    go_wp2_with fail
    refine HV.out.mono ?_
    rintro e w1 ⟨rfl, hb⟩
    have HB := Lib.hid hb; clear hb
    go_wp2
    go_ret2
    exact ⟨⟨none, 0, 0, [], rfl, (fun e => by cases e), fun _ => rfl⟩, HB.out⟩
  · rw [hok] at HV
    clear hok
    go_enter Try.func54, Try.ntmps54
    go_wp2_with fail
    refine HV.out.mono ?_
    rintro e w1 ⟨rfl, hb⟩
    have HB := Lib.hid hb
    have HKO : Hid (Calls Try.prog 97 #[.slice a n c] w1 fun e w' => ∃ a' c', e = .returned (.slice a' n c') ∧ w'.ownsRow w1.heap.size 3 1 (.slice a' n c') n ((keysL L).map (Value.int .i64)) ∧ Below w1.heap.size w1 w') := by
      have h1 := keysOf_any a c L w1 (by omega) (HR.out.same hb).recs
      rw [keysL_len, hlen] at h1; exact h1
    clear hb HV
    go_wp2_with fail
    refine HKO.out.mono ?_
    rintro e w2 ⟨a2, c2, rfl, ho, hb⟩
    have HB2 := Lib.hid (below_tr HB.out hb HB.out.size)
    have HSO := Lib.hid (sorting_any a2 c2 n (keysL L) w2 (by rw [keysL_len, hlen]) hbig (fun b off e => (ho.lt b (by rw [e]; rfl)).2) (ints_of_own ho))
    clear ho hb HKO HB
    go_wp2_with fail
    refine HSO.out.mono ?_
    rintro e w3 ⟨g, c3, rfl, ho, hb⟩
    have HB3 := Lib.hid (below_tr HB2.out hb HB2.out.size)
    have HIV := Lib.hid (inverse_any (some ⟨g, 0, none⟩) n c3 L w3 hlen hbig (ints_of_own ho))
    clear ho hb HSO HB2
    go_wp2_with fail
    refine HIV.out.mono ?_
    rintro e w4 ⟨g4, q, rfl, hi, hq, hb⟩
    have HB4 := Lib.hid (below_tr HB3.out hb HB3.out.size)
    have HQ := Lib.hid (And.intro hq hi)
    clear hi hq hb
    go_wp2
    go_ret2
    exact ⟨⟨_, n, n, q, rfl, (fun _ => ⟨rfl, HQ.out.1, HQ.out.2⟩), (fun e => by cases e)⟩, HB4.out⟩

end Go.Proofs.Ytkckmjajjdpodaa

/- Walks: the draws of the law FnDigits. -/
namespace Go.Proofs.Ytkckmjajjdpodaa
open Go.RowKit Go.Sort
set_option linter.unusedVariables false

set_option maxRecDepth 100000 in
set_option maxHeartbeats 4000000 in
theorem base_any (bc : Nat) (ac : Option Addr) (cs : List Int) (M : Int) (w : World) (hM : M ≤ 1099511400000) (h : Cur w bc ac cs M) :
    Calls Try.prog 117 #[.pointer (some ⟨bc, 0, none⟩)] w fun e w' => (∃ x : Int, e = .returned (.int .i64 x) ∧ 1 ≤ x ∧ x ≤ 257) ∧ Cur w' bc ac cs (M + 4) ∧ w.grownBy w' (some bc) := by
  have hbc := h.lt
  have hbn := belowNewL w (.cells #[.int .i64 2, .int .i64 3, .int .i64 10, .int .i64 16, .int .i64 256, .int .i64 257, .int .i64 1] 3)
  have HC := Lib.hid (h.below hbn)
  have HG := Lib.hid (grown_of_below (row := some bc) hbn)
  clear h hbn
  go_enter Try.func117, Try.ntmps117
  go_wp2_with fail
  refine (pick_any bc ac cs M 9 _ (by omega) (by omega) HC.out).mono ?_
  rintro e w1 ⟨⟨z, rfl, hz0, hz1⟩, hc, hg⟩
  have HC1 := Lib.hid hc
  have HG1 := Lib.hid (grown_trans HG.out hg)
  have HIa := Lib.hid (ints_grownSL (lit_ints w [2, 3, 10, 16, 256, 257, 1] (by decide)) hg (fun b off e e2 => by injection e with e; injection e with e; injection e2 with e2; omega))
  obtain ⟨v, hv⟩ : ∃ v : Int, z.tdiv 4 = v := ⟨_, rfl⟩
  have hv2 : 0 ≤ v ∧ v ≤ 2 := by rw [← hv, Int.tdiv_eq_ediv_of_nonneg hz0]; omega
  obtain ⟨hv0, hv1⟩ := hv2
  obtain ⟨q, hq⟩ : ∃ q : Nat, (5 + v).toNat = q := ⟨_, rfl⟩
  have hq2 : 5 ≤ q ∧ q ≤ 7 := by omega
  have hyl : ([2, 3, 10, 16, 256, 257, 1].take q : List Int).length = q := by simp; omega
  have AM := among_any bc ac cs _ _ 7 ([2, 3, 10, 16, 256, 257, 1].take q) w1 (by omega) (by omega) (by omega) HC1.out (ints_takeSL HIa.out q) (fun b off e => by injection e with e; injection e with e; omega)
  rw [hyl] at AM
  have HAM := Lib.hid AM
  clear AM hc hg HC HG HIa hz0 hz1
  go_wp2_with fail
  refine HAM.out.mono ?_
  rintro e wb ⟨⟨x, rfl, hx⟩, hc, hg⟩
  have hx2 : 1 ≤ x ∧ x ≤ 257 := by
    have := List.mem_of_mem_take hx
    simp at this; omega
  have HCE := Lib.hid hc
  have HGE := Lib.hid (grown_trans HG1.out hg)
  clear hc hg hx HAM HC1 HG1
  go_wp2
  go_ret
  exact ⟨⟨x, rfl, hx2.1, hx2.2⟩, HCE.out.mono (by omega), HGE.out⟩

set_option maxRecDepth 100000 in
set_option maxHeartbeats 4000000 in
theorem l8Key_any (bc : Nat) (ac : Option Addr) (cs : List Int) (M : Int) (w : World) (hM : M ≤ 1099511400000) (h : Cur w bc ac cs M) :
    Calls Try.prog 116 #[.pointer (some ⟨bc, 0, none⟩)] w fun e w' => (∃ x : Int, e = .returned (.int .i64 x) ∧ -100000 ≤ x ∧ x ≤ 100001) ∧ Cur w' bc ac cs (M + 6) ∧ w.grownBy w' (some bc) := by
  have HC := Lib.hid h
  clear h
  go_enter Try.func116, Try.ntmps116
  go_wp2_with fail
  refine (pick_any bc ac cs M 200 _ (by omega) (by omega) HC.out).mono ?_
  rintro e w1 ⟨⟨r, rfl, hr0, hr1⟩, hc, hg⟩
  have hbc := hc.lt
  have hbn := belowNewL w1 (.cells #[.int .i64 (r - 100), .int .i64 0, .int .i64 100000, .int .i64 (-100000), .int .i64 100001, .int .i64 12345] 3)
  have HC1 := Lib.hid (hc.below hbn)
  have HG1 := Lib.hid (grown_trans hg (grown_of_below (row := some bc) hbn))
  have hr2 : -100 ≤ r - 100 ∧ r - 100 ≤ 100 := by omega
  clear hc hg hbn HC hr1
  go_wp2_with fail
  refine (pick_any bc ac cs _ 5 _ (by omega) (by omega) HC1.out).mono ?_
  rintro e w2 ⟨⟨z, rfl, hz0, hz1⟩, hc, hg⟩
  have HC2 := Lib.hid hc
  have HG2 := Lib.hid (grown_trans HG1.out hg)
  have HIa := Lib.hid (ints_grownSL (lit_ints w1 [r - 100, 0, 100000, -100000, 100001, 12345] (by simp)) hg (fun b off e e2 => by injection e with e; injection e with e; injection e2 with e2; omega))
  obtain ⟨v, hv⟩ : ∃ v : Int, z.tdiv 2 = v := ⟨_, rfl⟩
  have hv2 : 0 ≤ v ∧ v ≤ 2 := by rw [← hv, Int.tdiv_eq_ediv_of_nonneg hz0]; omega
  obtain ⟨hv0, hv1⟩ := hv2
  obtain ⟨q, hq⟩ : ∃ q : Nat, (4 + v).toNat = q := ⟨_, rfl⟩
  have hq2 : 4 ≤ q ∧ q ≤ 6 := by omega
  have hyl : ([r - 100, 0, 100000, -100000, 100001, 12345].take q : List Int).length = q := by simp; omega
  have AM := among_any bc ac cs _ _ 6 ([r - 100, 0, 100000, -100000, 100001, 12345].take q) w2 (by omega) (by omega) (by omega) HC2.out (ints_takeSL HIa.out q) (fun b off e => by injection e with e; injection e with e; omega)
  rw [hyl] at AM
  have HAM := Lib.hid AM
  clear AM hc hg HC1 HG1 HIa hz0 hz1
  go_wp2_with fail
  refine HAM.out.mono ?_
  rintro e wb ⟨⟨x, rfl, hx⟩, hc, hg⟩
  have hx2 : -100000 ≤ x ∧ x ≤ 100001 := by
    have := List.mem_of_mem_take hx
    simp at this; omega
  have HCE := Lib.hid hc
  have HGE := Lib.hid (grown_trans HG2.out hg)
  clear hc hg hx HAM HC2 HG2
  go_wp2
  go_ret
  exact ⟨⟨x, rfl, hx2.1, hx2.2⟩, HCE.out.mono (by omega), HGE.out⟩

/-- Three drawn numbers; a drawn list and two numbers. -/
def DiDraw (w : World) (e : Ending) (w' : World) : Prop :=
  ∃ (k b p : Int), e = .returned (.tuple #[.int .i64 k, .int .i64 b, .int .i64 p]) ∧ (-100000 ≤ k ∧ k ≤ 100001) ∧ (1 ≤ b ∧ b ≤ 257) ∧ Below w.heap.size w w'
def CkDraw (w : World) (e : Ending) (w' : World) : Prop :=
  ∃ (a : Option Addr) (n c : Nat) (L : List (Int × Int)) (lo hi : Int), e = .returned (.tuple #[.slice a n c, .int .i64 lo, .int .i64 hi]) ∧ Rd w' a n c L ∧ n ≤ 70 ∧ (-200000 ≤ lo ∧ lo ≤ 200000) ∧ Below w.heap.size w w'

set_option maxRecDepth 100000 in
set_option maxHeartbeats 4000000 in
theorem drawDigitOf_any (ac : Option Addr) (c : Nat) (cs : List Int) (w : World) (hl : cs.length ≤ 65537) (h : BytesAt w ac cs) :
    Calls Try.prog 50 #[.slice ac cs.length c] w (DiDraw w) := by
  obtain ⟨h1, h2, h3⟩ := cur_start (c := c) hl h
  have HC := Lib.hid h1; have HB := Lib.hid h3
  clear h h1 h2 h3
  unfold DiDraw
  go_enter Try.func50, Try.ntmps50
  go_wp2_with fail
  refine (l8Key_any w.heap.size ac cs 0 _ (by omega) HC.out).mono ?_
  rintro e w1 ⟨⟨k, rfl, hk0, hk1⟩, hc, hg⟩
  have HB1 := Lib.hid (HB.out.grown hg HB.out.size (fun k hk => by injection hk with hk; omega))
  have HC1 := Lib.hid hc
  clear hc hg HC HB
  go_wp2_with fail
  refine (base_any w.heap.size ac cs _ _ (by omega) HC1.out).mono ?_
  rintro e w2 ⟨⟨b, rfl, hb0, hb1⟩, hc, hg⟩
  have hz2 := hc.lt
  have hbn := belowNewL w2 (.cells #[.int .i64 0, .int .i64 1, .int .i64 2, .int .i64 5, .int .i64 17, .int .i64 18, .int .i64 (-1)] 3)
  have hb2 := HB1.out.grown hg HB1.out.size (fun k hk => by injection hk with hk; omega)
  have HB2 := Lib.hid (below_tr hb2 hbn hb2.size)
  have HC2 := Lib.hid (hc.below hbn)
  clear hc hg HC1 HB1 hbn hb2
  go_wp2_with fail
  refine (pick_any w.heap.size ac cs _ 9 _ (by omega) (by omega) HC2.out).mono ?_
  rintro e w3 ⟨⟨z, rfl, hz0, hz1⟩, hc, hg⟩
  have HC3 := Lib.hid hc
  have HB3 := Lib.hid (HB2.out.grown hg HB2.out.size (fun k hk => by injection hk with hk; omega))
  have HIa := Lib.hid (ints_grownSL (lit_ints w2 [0, 1, 2, 5, 17, 18, -1] (by decide)) hg (fun b off e e2 => by injection e with e; injection e with e; injection e2 with e2; omega))
  obtain ⟨v, hv⟩ : ∃ v : Int, z.tdiv 4 = v := ⟨_, rfl⟩
  have hv2 : 0 ≤ v ∧ v ≤ 2 := by rw [← hv, Int.tdiv_eq_ediv_of_nonneg hz0]; omega
  obtain ⟨hv0, hv1⟩ := hv2
  obtain ⟨q, hq⟩ : ∃ q : Nat, (5 + v).toNat = q := ⟨_, rfl⟩
  have hq2 : 5 ≤ q ∧ q ≤ 7 := by omega
  have hyl : ([0, 1, 2, 5, 17, 18, -1].take q : List Int).length = q := by simp; omega
  have AM := among_any w.heap.size ac cs _ _ 7 ([0, 1, 2, 5, 17, 18, -1].take q) w3 (by omega) (by omega) (by omega) HC3.out (ints_takeSL HIa.out q) (fun b off e => by injection e with e; injection e with e; omega)
  rw [hyl] at AM
  have HAM := Lib.hid AM
  clear AM hc hg HC2 HB2 HIa hz0 hz1
  go_wp2_with fail
  refine HAM.out.mono ?_
  rintro e wb ⟨⟨x, rfl, hx⟩, hc, hg⟩
  have HBE := Lib.hid (HB3.out.grown hg HB3.out.size (fun k hk => by injection hk with hk; omega))
  clear hc hg hx HAM HC3 HB3
  go_wp2
  refine bodyPost_ret (v := .tuple #[.int .i64 k, .int .i64 b, .int .i64 x]) (by simp [results, Try.results50, go_sem]) rfl ?_
  exact ⟨_, _, _, rfl, ⟨hk0, hk1⟩, ⟨hb0, hb1⟩, HBE.out⟩

end Go.Proofs.Ytkckmjajjdpodaa
