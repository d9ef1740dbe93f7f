/- Several texts in one: lemmas and walks of the functions that the laws reach. -/
import Derived.Test.YtkckmjajjdpodaaY19

/- Walks: runs are made and merged by the reference: each list given back is the caller's own. -/
namespace Go.Proofs.Ytkckmjajjdpodaa
open Go.RowKit Go.Sort
set_option linter.unusedVariables false

set_option maxRecDepth 100000 in
set_option maxHeartbeats 1000000 in
theorem l17RunsO_any (a : Option Addr) (n c m : Nat) (L : List (Int × Int)) (w : World) (hn : n ≤ 1000) (hm0 : 0 < m) (hm : m ≤ 1000) (h : Rd w a n c L) :
    Calls Try.prog 144 #[.slice a n c, .int .i64 m] w (LsEndO w (Mg.runsOf m L)) := by
  have H := Lib.hid h
  have HL0 := Lib.hid (loO_nil w)
  have HB0 := Lib.hid (belowNew w (.cells #[] 24))
  have hlen := h.len
  have hcap := h.cap
  clear h
  unfold LsEndO
  go_enter Try.func144, Try.ntmps144
  go_wp2
  go_loopw [5, 6] (fun o iv wr => ∃ (i k : Nat) (hs : List Value) (D : List (List (Int × Int))), iv = .int .i64 i ∧ i ≤ n + m ∧ k ≤ i ∧ LoO wr w.heap.size o k hs D ∧ Hid (D ++ Mg.runsOf m (L.drop i) = Mg.runsOf m L) ∧ Below w.heap.size w wr) (fun _ iv _ => n - (intOf iv).toNat)
  case atStart => exact ⟨0, 0, [], [], rfl, by omega, by omega, HL0.out, Lib.hid rfl, HB0.out⟩
  case round =>
    obtain ⟨i, k, hs, D, rfl, hi, hk, hlo, HDD, hb⟩ := hrel
    have HL1 := Lib.hid hlo; have HB1 := Lib.hid hb
    obtain ⟨oa, oc, rfl⟩ := own_slice hlo.own
    clear hlo hb HL0 HB0
    by_cases hlt : i < n
    · have q1 : decide ((i : Int) < (n : Int)) = true := decide_eq_true (by omega)
      obtain ⟨b, off, rfl, _⟩ := recs_addr H.out.recs (by omega)
      obtain ⟨hh, hhd⟩ : ∃ hh, hh = min (i + m) n := ⟨_, rfl⟩
      have hh1 : i < hh ∧ hh ≤ n ∧ hh ≤ i + m := by omega
      have hmin : min ((i : Int) + (m : Int)) (n : Int) = (hh : Int) := by omega
      have hpart : (L.drop i).take (hh - i) = (L.drop i).take m := by
        rcases Nat.lt_or_ge (i + m) n with h | h
        · congr 1; omega
        · rw [List.take_of_length_le (by rw [List.length_drop]; omega), List.take_of_length_le (by rw [List.length_drop]; omega)]
      clear hhd
      have hci : ¬ c = i := by omega
      have b1 : (0 : Int) ≤ (i : Int) := by omega
      have b2 : (i : Int) ≤ (hh : Int) := by omega
      have b3 : (hh : Int) ≤ (c : Int) := by omega
      have t1 : ((i : Int)).toNat = i := by omega
      have t2 : ((hh : Int)).toNat = hh := by omega
      have HR := Lib.hid (rd_mid (H.out.same HB1.out) (i := i) (h := hh) (by omega) hh1.2.1)
      have HST := Lib.hid (l2StableR_any (some ⟨b, off + i * 2, none⟩) (c - i) ((L.drop i).take (hh - i)) wr (by rw [HR.out.len]; omega) HR.out.recs HR.out.nil)
      rw [HR.out.len, hpart] at HST
      have HNX : Hid (Mg.runsOf m (L.drop i) = Mg.srtP ((L.drop i).take m) :: Mg.runsOf m (L.drop (i + m))) := by
        show _ = _
        rw [runsOf_step hm0 (by intro e; have := congrArg List.length e; rw [List.length_drop] at this; simp at this; omega), List.drop_drop]
      have hobs : ∀ b, (Value.slice oa k oc).ownBlock = some b → b < wr.heap.size := fun b e => (HL1.out.own.lt b e).2
      have hBw := HB1.out.size
      have hk1 : k + 1 ≤ 1099511627776 := by omega
      clear HR hpart
      go_wp2_with fail
      refine (l1Least_any _ _ _).mono ?_
      rintro e w1 ⟨rfl, rfl⟩
      rw [hmin]
      go_wp2_with fail
      refine HST.out.mono ?_
      rintro e w2 ⟨g, c2, rfl, ho, hb⟩
      have HE : Hid (w2.ownsRow wr.heap.size 72 2 (.slice (some ⟨g, 0, none⟩) (hh - i) c2) (hh - i) (flat encR (Mg.srtP ((L.drop i).take m)))) := ho
      have hg2 : wr.heap.size ≤ g ∧ g < w2.heap.size := ho.lt g rfl
      have HL2 := Lib.hid (HL1.out.same hb)
      have HB2 := Lib.hid (below_tr HB1.out hb HB1.out.size)
      clear ho hb HST HL1 HB1
      go_wp2_with (at_builtin; refine wpList_app1 (v := .slice oa k oc) slLs rfl _ _ rfl rfl HL2.out.own [.slice (some ⟨g, 0, none⟩) (hh - i) c2] rfl rfl (by simp) (by simp [Value.oneCell']) hk1 (by omega) ?_; intro v' w7 hown' hg' ht'; generalize hGG : wpList _ _ _ _ _ _ = GG)
      have HL8 := Lib.hid (HL2.out.app HE.out (fun b off e => by injection e with e; injection e with e1 e2; exact ⟨by omega, fun e3 => by have := hobs b e3; omega, by omega⟩) hown' hg' (fun b e => ht'.elim (fun h => .inl (h ▸ e)) (fun h => .inr (by rw [h] at e; injection e with e; omega))))
      have HB8 := Lib.hid (HB2.out.grown hg' HB2.out.size (fun b e => (HL2.out.own.lt b e).1))
      clear hown' hg' ht' HL2 HB2 HE
      subst hGG
      go_wp2
      go_roundw
      case rel => exact ⟨i + m, k + 1, _, _, by go_num, by omega, by omega, HL8.out, Lib.hid (by rw [List.append_assoc, ← HDD.out, HNX.out]; rfl), HB8.out⟩
      case measure => simp [intOf] <;> omega
    · have q1 : decide ((i : Int) < (n : Int)) = false := decide_eq_false (by omega)
      have HD2 : Hid (D = Mg.runsOf m L) := by
        show _ = _
        rw [← HDD.out, List.drop_of_length_le (by omega), runsOf_nil, List.append_nil]
      have HLS := HL1
      rw [HD2.out] at HLS
      go_wp2
      go_ret
      exact ⟨_, _, _, _, rfl, HLS.out, HB1.out⟩

set_option maxRecDepth 100000 in
set_option maxHeartbeats 2000000 in
theorem l17PassO_any (a : Option Addr) (n c m : Nat) (rs : List (List (Int × Int))) (w : World) (hn : n ≤ 1000) (hm0 : 0 < m) (hm : m ≤ 16) (h : LsAt w a n c rs) (hN : rs.flatten.length ≤ 1000) (ha : ∀ r ∈ rs, Mg.Asc Mg.ltF r) :
    Calls Try.prog 146 #[.slice a n c, .int .i64 m] w (LsEndO2 w (Mg.passOf m rs) (Mg.passC m rs)) := by
  have H := Lib.hid h; have HA := Lib.hid ha
  have HNN := Lib.hid hN
  have HL0 := Lib.hid (loO_nil w)
  have HB0 := Lib.hid (belowNew w (.cells #[] 24))
  have hlen := h.len
  have hcap := h.cap
  have hpc : Mg.passC m rs ≤ 5000 := by have := Mg.passC_le hm0 hm rs; omega
  obtain ⟨PC, hPC⟩ : ∃ q, Mg.passC m rs = q := ⟨_, rfl⟩
  rw [hPC] at hpc
  have HPC := Lib.hid hPC
  rw [hPC]
  clear h ha hPC hN
  unfold LsEndO2
  go_enter Try.func146, Try.ntmps146
  go_wp2
  go_loopw [6, 7, 8] (fun o qv iv wr => ∃ (i k q : Nat) (hs : List Value) (D : List (List (Int × Int))), iv = .int .i64 i ∧ qv = .int .i64 q ∧ i ≤ n + m ∧ k ≤ i ∧ LoO wr w.heap.size o k hs D ∧ Hid (D ++ Mg.passOf m (rs.drop i) = Mg.passOf m rs) ∧ Hid (q + Mg.passC m (rs.drop i) = PC) ∧ Below w.heap.size w wr) (fun _ _ iv _ => n - (intOf iv).toNat)
  case atStart => exact ⟨0, 0, 0, [], [], rfl, rfl, by omega, by omega, HL0.out, Lib.hid rfl, Lib.hid (by rw [List.drop_zero, HPC.out]; omega), HB0.out⟩
  case round =>
    obtain ⟨i, k, q, hs, D, rfl, rfl, hi, hk, hlo, HDD, HQ, hb⟩ := hrel
    have HL1 := Lib.hid hlo; have HB1 := Lib.hid hb
    obtain ⟨oa, oc, rfl⟩ := own_slice hlo.own
    clear hlo hb HL0 HB0
    by_cases hlt : i < n
    · have q1 : decide ((i : Int) < (n : Int)) = true := decide_eq_true (by omega)
      obtain ⟨b, off, rfl⟩ := lsAt_addr H.out (by omega)
      obtain ⟨hh, hhd⟩ : ∃ hh, hh = min (i + m) n := ⟨_, rfl⟩
      have hh1 : i < hh ∧ hh ≤ n ∧ hh ≤ i + m := by omega
      have hmin : min ((i : Int) + (m : Int)) (n : Int) = (hh : Int) := by omega
      have hpart : (rs.drop i).take (hh - i) = (rs.drop i).take m := by
        rcases Nat.lt_or_ge (i + m) n with h | h
        · congr 1; omega
        · rw [List.take_of_length_le (by rw [List.length_drop]; omega), List.take_of_length_le (by rw [List.length_drop]; omega)]
      clear hhd
      have hci : ¬ c = i := by omega
      have b1 : (0 : Int) ≤ (i : Int) := by omega
      have b2 : (i : Int) ≤ (hh : Int) := by omega
      have b3 : (hh : Int) ≤ (c : Int) := by omega
      have t1 : ((i : Int)).toNat = i := by omega
      have t2 : ((hh : Int)).toNat = hh := by omega
      have HG := Lib.hid ((H.out.same HB1.out).part i (hh - i) (by omega))
      rw [hpart] at HG
      have hgl : ((rs.drop i).take m).length = hh - i := HG.out.len
      have hga : ∀ r ∈ (rs.drop i).take m, Mg.Asc Mg.ltF r := fun r hr => HA.out r (List.mem_of_mem_drop (List.mem_of_mem_take hr))
      have hgN : ((rs.drop i).take m).flatten.length ≤ 1000 := Nat.le_trans flat_part_le HNN.out
      have hne : rs.drop i ≠ [] := by intro e; have := congrArg List.length e; rw [List.length_drop] at this; simp at this; omega
      have HNX : Hid (Mg.passOf m (rs.drop i) = Mg.srtP ((rs.drop i).take m).flatten :: Mg.passOf m (rs.drop (i + m))) := by
        show _ = _
        rw [passOf_step hm0 hne, List.drop_drop]
      have HQX : Hid (Mg.passC m (rs.drop i) = Mg.kcs ((rs.drop i).take m) + Mg.passC m (rs.drop (i + m))) := by
        show _ = _
        rw [passC_step hm0 hne, List.drop_drop]
      have hobs : ∀ b, (Value.slice oa k oc).ownBlock = some b → b < wr.heap.size := fun b e => (HL1.out.own.lt b e).2
      have hBw := HB1.out.size
      have hk1 : k + 1 ≤ 1099511627776 := by omega
      have hqq : q + Mg.kcs ((rs.drop i).take m) ≤ 5000 := by have h1 := HQ.out; rw [HQX.out] at h1; omega
      by_cases h1 : hh - i = 1
      · have q2 : (((hh - i : Nat) : Int) == 1) = true := by rw [h1]; rfl
        have q2' : ((hh - i == 1) : Bool) = true := by rw [h1]; rfl
        obtain ⟨r0, hr0⟩ : ∃ r0, (rs.drop i).take m = [r0] := by
          match hX : (rs.drop i).take m with
          | [] => rw [hX] at hgl; simp at hgl; omega
          | [r0] => exact ⟨r0, rfl⟩
          | _ :: _ :: _ => rw [hX] at hgl; simp at hgl; omega
        rw [hr0] at HG HNX HQX hqq hga hgN
        have hk0 : Mg.kcs [r0] = 0 := Mg.kcs_one r0
        have hs0 : Mg.srtP [r0].flatten = r0 := by
          rw [show [r0].flatten = r0 by simp]
          exact Mg.srt_of_asc (hga r0 (by simp))
        rw [hs0] at HNX
        rw [hk0] at HQX
        obtain ⟨hb1, ho1, x0, d0, e0, hc0, hrd0⟩ := HG.out.at (k := 0) (by omega)
        injection e0 with e0
        injection e0 with e1 e2
        subst e1 e2
        have hc0 : wr.cell? ⟨b, off + i, none⟩ = some (.slice x0 r0.length d0) := hc0
        have hrd0 : Rd wr x0 r0.length d0 r0 := hrd0
        have hr0l : r0.length ≤ 1000 := by have : [r0].flatten.length = r0.length := by simp
                                           omega
        obtain ⟨m0, hm0'⟩ : ∃ m0, r0.length = m0 := ⟨_, rfl⟩
        rw [hm0'] at hc0 hrd0 hr0l
        have E0 := Lib.hid (own_lit (w := wr) (e := 72) (size := 2) #[] 0 (by omega) rfl)
        have hbn := belowNew wr (.cells #[] 72)
        have HRa := Lib.hid (hrd0.same hbn)
        have hca : (wr.alloc (.cells #[] 72)).cell? ⟨b, off + i, none⟩ = some (.slice x0 m0 d0) := (hbn.cell (p := ⟨b, off + i, none⟩) (World.block_lt_of_cell? wr _ hc0)).trans hc0
        have hsa : (wr.alloc (.cells #[] 72)).heap.size = wr.heap.size + 1 := by simp
        have HBa := Lib.hid (below_tr HB1.out hbn HB1.out.size)
        have HLa := Lib.hid (HL1.out.same hbn)
        clear hne hga hgN hgl HG hr0 hk0 hs0 hbn hrd0
        go_wp2_with fail
        refine (l1Least_any _ _ _).mono ?_
        rintro e w1 ⟨rfl, rfl⟩
        rw [hmin]
        go_wp2_with (at_builtin; refine wpList_appR (v := .slice (some ⟨wr.heap.size, 0, none⟩) 0 0) slRec rfl _ _ rfl rfl E0.out rfl HRa.out.recs HRa.out.len HRa.out.nil (by omega) (by omega) ?_; intro v' w2 hown2 hg2 ht2; rw [Nat.zero_add] at hown2; generalize hGG : wpList _ _ _ _ _ _ = GG)
        obtain ⟨a2, c2, rfl⟩ := own_slice hown2
        have hown3 : w2.ownsRow wr.heap.size 72 2 (.slice a2 m0 c2) m0 (flat encR r0) := hown2
        have HE : Hid (w2.ownsRow wr.heap.size 72 2 (.slice a2 m0 c2) m0 (flat encR r0)) := hown3
        have hg3 := own_far' hown3
        have HL2 := Lib.hid (HLa.out.grow2 (S := wr.heap.size) hg2 (fun b e => by simp [Value.ownBlock] at e; omega) (fun b e => by have := hobs b e; simp [Value.ownBlock]; omega) (fun j b off m c e => (HL1.out.lo.far j b off m c e).2.2))
        have HB2 := Lib.hid (HBa.out.grown hg2 HBa.out.size (fun b e => by simp [Value.ownBlock] at e; omega))
        have hsz2 := hg2.size
        clear hown2 hg2 ht2 hown3 HLa HBa E0 HRa hca HL1 HB1 hc0
        subst hGG
        go_wp2_with (at_builtin; refine wpList_app1 (v := .slice oa k oc) slLs rfl _ _ rfl rfl HL2.out.own [.slice a2 m0 c2] rfl rfl (by simp) (by simp [Value.oneCell']) hk1 (by omega) ?_; intro v' w7 hown' hg' ht'; generalize hGG : wpList _ _ _ _ _ _ = GG)
        have HL8 := Lib.hid (HL2.out.app HE.out (fun b off e => ⟨by have := hg3 b off e; omega, fun e3 => by have := hobs b e3; have := hg3 b off e; omega, (hg3 b off e).2⟩) hown' hg' (fun b e => ht'.elim (fun h => .inl (h ▸ e)) (fun h => .inr (by rw [h] at e; injection e with e; omega))))
        have HB8 := Lib.hid (HB2.out.grown hg' HB2.out.size (fun b e => (HL2.out.own.lt b e).1))
        clear hown' hg' ht' HL2 HB2 HE
        subst hGG
        go_wp2
        go_roundw
        case rel => exact ⟨i + m, k + 1, q, _, _, by go_num, by go_num, by omega, by omega, HL8.out, Lib.hid (by rw [List.append_assoc, ← HDD.out, HNX.out]; rfl), Lib.hid (by have := HQ.out; rw [HQX.out] at this; omega), HB8.out⟩
        case measure => simp [intOf] <;> omega
      · have q2 : (((hh - i : Nat) : Int) == 1) = false := by rw [beq_eq_false_iff_ne]; omega
        have q2' : ((hh - i == 1) : Bool) = false := by rw [beq_eq_false_iff_ne]; omega
        have HKW := Lib.hid (l16Merge_any b (off + i) (hh - i) (c - i) ((rs.drop i).take m) wr (by omega) (by omega) HG.out hgN hga)
        unfold KwEnd at HKW
        have hfl := srtP_len ((rs.drop i).take m).flatten
        generalize hNg : ((rs.drop i).take m).flatten.length = Ng at HKW hfl
        generalize hKg : Mg.kcs ((rs.drop i).take m) = Kg at HKW hqq HQX
        clear hne hga hgN hgl HG hNg hKg
        go_wp2_with fail
        refine (l1Least_any _ _ _).mono ?_
        rintro e w1 ⟨rfl, rfl⟩
        rw [hmin]
        go_wp2_with fail
        refine HKW.out.mono ?_
        rintro e w2 ⟨g, c2, rfl, ho, hb⟩
        have HE : Hid (w2.ownsRow wr.heap.size 72 2 (.slice (some ⟨g, 0, none⟩) Ng c2) Ng (flat encR (Mg.srtP ((rs.drop i).take m).flatten))) := ho
        have hg2 : wr.heap.size ≤ g ∧ g < w2.heap.size := ho.lt g rfl
        have HL2 := Lib.hid (HL1.out.same hb)
        have HB2 := Lib.hid (below_tr HB1.out hb HB1.out.size)
        clear ho hb HKW HL1 HB1
        go_wp2_with (at_builtin; refine wpList_app1 (v := .slice oa k oc) slLs rfl _ _ rfl rfl HL2.out.own [.slice (some ⟨g, 0, none⟩) Ng c2] rfl rfl (by simp) (by simp [Value.oneCell']) hk1 (by omega) ?_; intro v' w7 hown' hg' ht'; generalize hGG : wpList _ _ _ _ _ _ = GG)
        have HL8 := Lib.hid (HL2.out.app HE.out (fun b off e => by injection e with e; injection e with e1 e2; exact ⟨by omega, fun e3 => by have := hobs b e3; omega, by omega⟩) hown' hg' (fun b e => ht'.elim (fun h => .inl (h ▸ e)) (fun h => .inr (by rw [h] at e; injection e with e; omega))))
        have HB8 := Lib.hid (HB2.out.grown hg' HB2.out.size (fun b e => (HL2.out.own.lt b e).1))
        clear hown' hg' ht' HL2 HB2 HE
        subst hGG
        go_wp2
        go_roundw
        case rel => exact ⟨i + m, k + 1, q + Kg, _, _, by go_num, by go_num, by omega, by omega, HL8.out, Lib.hid (by rw [List.append_assoc, ← HDD.out, HNX.out]; rfl), Lib.hid (by have := HQ.out; rw [HQX.out] at this; omega), HB8.out⟩
        case measure => simp [intOf] <;> omega
    · have q1 : decide ((i : Int) < (n : Int)) = false := decide_eq_false (by omega)
      have HD2 : Hid (D = Mg.passOf m rs) := by
        show _ = _
        rw [← HDD.out, List.drop_of_length_le (by omega), passOf_nil, List.append_nil]
      have hqp : PC = q := by
        have := HQ.out
        rw [List.drop_of_length_le (by omega), passC_nil] at this; omega
      have HLS := HL1
      rw [HD2.out] at HLS
      subst hqp
      go_wp2
      go_ret2
      exact ⟨_, _, _, _, rfl, HLS.out, HB1.out⟩

end Go.Proofs.Ytkckmjajjdpodaa
