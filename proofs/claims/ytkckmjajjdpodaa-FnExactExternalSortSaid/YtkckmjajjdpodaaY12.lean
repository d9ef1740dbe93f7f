/- Several texts in one: lemmas and walks of the functions that the laws reach. -/
import Derived.Test.YtkckmjajjdpodaaY11
import Derived.Test.YtkckmjajjdpodaaY7

/- Walks: runs are made, merged in passes, counted by blocks; of both packages. -/
namespace Go.Proofs.Ytkckmjajjdpodaa
open Go.RowKit Go.Sort
set_option linter.unusedVariables false

/-- Lists of lists, given back. -/
def LsEnd (w : World) (Ls : List (List (Int × Int))) (e : Ending) (w' : World) : Prop :=
  ∃ (a : Option Addr) (n c : Nat) (hs : List Value), e = .returned (.slice a n c) ∧ LoH w' w.heap.size (.slice a n c) n hs Ls ∧ Below w.heap.size w w'

theorem runsOf_step {m : Nat} (hm : 0 < m) {l : List (Int × Int)} (hl : l ≠ []) : Mg.runsOf m l = Mg.srtP (l.take m) :: Mg.runsOf m (l.drop m) := by
  unfold Mg.runsOf
  rw [Mg.chunk_step hm hl, List.map_cons]
theorem runsOf_nil (m : Nat) : Mg.runsOf m [] = [] := by unfold Mg.runsOf; rw [Mg.chunk_nil]; rfl
theorem rd_mid {w : World} {b o n c i h : Nat} {rs : List (Int × Int)} (hr : Rd w (some ⟨b, o, none⟩) n c rs) (hih : i ≤ h) (hn : h ≤ n) : Rd w (some ⟨b, o + i * 2, none⟩) (h - i) (c - i) ((rs.drop i).take (h - i)) := by
  have h1 := rd_hi hr (h := i) (by omega)
  exact rd_lo h1 (by omega)


set_option maxHeartbeats 400000 in
theorem l1Least_any (x y : Int) (w : World) : Calls Try.prog 119 #[.int .i64 x, .int .i64 y] w fun e w' => e = .returned (.int .i64 (min x y)) ∧ w = w' := by
  by_cases h : x < y
  all_goals
    go_enter Try.func119, Try.ntmps119
    go_wp2
    go_ret
    exact ⟨ret_int (by omega), rfl⟩

set_option maxRecDepth 100000 in
set_option maxHeartbeats 1000000 in
theorem makeRuns_any (a : Option Addr) (n c m : Nat) (L : List (Int × Int)) (w : World) (hn : n ≤ 1000) (hm0 : 0 < m) (hm : m ≤ 1000) (h : Rd w a n c L) :
    Calls Try.prog 143 #[.slice a n c, .int .i64 m] w (LsEnd w (Mg.runsOf m L)) := by
  have H := Lib.hid h
  have HL0 := Lib.hid (loH_nil w)
  have HB0 := Lib.hid (belowNew w (.cells #[] 24))
  have hlen := h.len
  have hcap := h.cap
  clear h
  unfold LsEnd
  go_enter Try.func143, Try.ntmps143
  go_wp2
  go_loopw [5, 6] (fun o iv wr => ∃ (i k : Nat) (hs : List Value) (D : List (List (Int × Int))), iv = .int .i64 i ∧ i ≤ n + m ∧ k ≤ i ∧ LoH wr w.heap.size o k hs D ∧ Hid (D ++ Mg.runsOf m (L.drop i) = Mg.runsOf m L) ∧ Below w.heap.size w wr) (fun _ iv _ => n - (intOf iv).toNat)
  case atStart => exact ⟨0, 0, [], [], rfl, by omega, by omega, HL0.out, Lib.hid rfl, HB0.out⟩
  case round =>
    obtain ⟨i, k, hs, D, rfl, hi, hk, hlo, HDD, hb⟩ := hrel
    have HL1 := Lib.hid hlo; have HB1 := Lib.hid hb
    obtain ⟨oa, oc, rfl⟩ := own_slice hlo.own
    clear hlo hb HL0 HB0
    by_cases hlt : i < n
    · have q1 : decide ((i : Int) < (n : Int)) = true := decide_eq_true (by omega)
      obtain ⟨b, off, rfl, _⟩ := recs_addr H.out.recs (by omega)
      obtain ⟨hh, hhd⟩ : ∃ hh, hh = min (i + m) n := ⟨_, rfl⟩
      have hh1 : i < hh ∧ hh ≤ n ∧ hh ≤ i + m := by omega
      have hmin : min ((i : Int) + (m : Int)) (n : Int) = (hh : Int) := by omega
      have hpart : (L.drop i).take (hh - i) = (L.drop i).take m := by
        rcases Nat.lt_or_ge (i + m) n with h | h
        · congr 1; omega
        · rw [List.take_of_length_le (by rw [List.length_drop]; omega), List.take_of_length_le (by rw [List.length_drop]; omega)]
      clear hhd
      have hci : ¬ c = i := by omega
      have b1 : (0 : Int) ≤ (i : Int) := by omega
      have b2 : (i : Int) ≤ (hh : Int) := by omega
      have b3 : (hh : Int) ≤ (c : Int) := by omega
      have t1 : ((i : Int)).toNat = i := by omega
      have t2 : ((hh : Int)).toNat = hh := by omega
      have HR := Lib.hid (rd_mid (H.out.same HB1.out) (i := i) (h := hh) (by omega) hh1.2.1)
      have HST := Lib.hid (stable_any (some ⟨b, off + i * 2, none⟩) (c - i) ((L.drop i).take (hh - i)) wr (by rw [HR.out.len]; omega) HR.out.recs HR.out.nil)
      rw [HR.out.len, hpart] at HST
      have HNX : Hid (Mg.runsOf m (L.drop i) = Mg.srtP ((L.drop i).take m) :: Mg.runsOf m (L.drop (i + m))) := by
        show _ = _
        rw [runsOf_step hm0 (by intro e; have := congrArg List.length e; rw [List.length_drop] at this; simp at this; omega), List.drop_drop]
      have hobs : ∀ b, (Value.slice oa k oc).ownBlock = some b → b < wr.heap.size := fun b e => (HL1.out.own.lt b e).2
      have hBw := HB1.out.size
      have hk1 : k + 1 ≤ 1099511627776 := by omega
      clear HR hpart
      go_wp2_with fail
      refine HST.out.mono ?_
      rintro e w2 ⟨g, c2, rfl, ho, hb⟩
      have HE : Hid (Rd w2 (some ⟨g, 0, none⟩) (hh - i) c2 (Mg.srtP ((L.drop i).take m))) := rd_own ho
      have hg2 : wr.heap.size ≤ g ∧ g < w2.heap.size := ho.lt g rfl
      have HL2 := Lib.hid (HL1.out.same hb)
      have HB2 := Lib.hid (below_tr HB1.out hb HB1.out.size)
      clear ho hb HST HL1 HB1
      go_wp2_with (at_builtin; refine wpList_app1 (v := .slice oa k oc) slLs rfl _ _ rfl rfl HL2.out.own [.slice (some ⟨g, 0, none⟩) (hh - i) c2] rfl rfl (by simp) (by simp [Value.oneCell']) hk1 (by omega) ?_; intro v' w7 hown' hg' ht'; generalize hGG : wpList _ _ _ _ _ _ = GG)
      have HL8 := Lib.hid (HL2.out.app HE.out (fun b off e => by injection e with e; injection e with e1 e2; exact ⟨by omega, fun e3 => by have := hobs b e3; omega, by omega⟩) hown' hg' (fun b e => ht'.elim (fun h => .inl (h ▸ e)) (fun h => .inr (by rw [h] at e; injection e with e; omega))))
      have HB8 := Lib.hid (HB2.out.grown hg' HB2.out.size (fun b e => (HL2.out.own.lt b e).1))
      clear hown' hg' ht' HL2 HB2 HE
      subst hGG
      go_wp2
      go_roundw
      case rel => exact ⟨i + m, k + 1, _, _, by go_num, by omega, by omega, HL8.out, Lib.hid (by rw [List.append_assoc, ← HDD.out, HNX.out]; rfl), HB8.out⟩
      case measure => simp [intOf] <;> omega
    · have q1 : decide ((i : Int) < (n : Int)) = false := decide_eq_false (by omega)
      have HD2 : Hid (D = Mg.runsOf m L) := by
        show _ = _
        rw [← HDD.out, List.drop_of_length_le (by omega), runsOf_nil, List.append_nil]
      have HLS := HL1
      rw [HD2.out] at HLS
      go_wp2
      go_ret
      exact ⟨_, _, _, _, rfl, HLS.out, HB1.out⟩

set_option maxRecDepth 100000 in
set_option maxHeartbeats 1000000 in
theorem l17Runs_any (a : Option Addr) (n c m : Nat) (L : List (Int × Int)) (w : World) (hn : n ≤ 1000) (hm0 : 0 < m) (hm : m ≤ 1000) (h : Rd w a n c L) :
    Calls Try.prog 144 #[.slice a n c, .int .i64 m] w (LsEnd w (Mg.runsOf m L)) := by
  have H := Lib.hid h
  have HL0 := Lib.hid (loH_nil w)
  have HB0 := Lib.hid (belowNew w (.cells #[] 24))
  have hlen := h.len
  have hcap := h.cap
  clear h
  unfold LsEnd
  go_enter Try.func144, Try.ntmps144
  go_wp2
  go_loopw [5, 6] (fun o iv wr => ∃ (i k : Nat) (hs : List Value) (D : List (List (Int × Int))), iv = .int .i64 i ∧ i ≤ n + m ∧ k ≤ i ∧ LoH wr w.heap.size o k hs D ∧ Hid (D ++ Mg.runsOf m (L.drop i) = Mg.runsOf m L) ∧ Below w.heap.size w wr) (fun _ iv _ => n - (intOf iv).toNat)
  case atStart => exact ⟨0, 0, [], [], rfl, by omega, by omega, HL0.out, Lib.hid rfl, HB0.out⟩
  case round =>
    obtain ⟨i, k, hs, D, rfl, hi, hk, hlo, HDD, hb⟩ := hrel
    have HL1 := Lib.hid hlo; have HB1 := Lib.hid hb
    obtain ⟨oa, oc, rfl⟩ := own_slice hlo.own
    clear hlo hb HL0 HB0
    by_cases hlt : i < n
    · have q1 : decide ((i : Int) < (n : Int)) = true := decide_eq_true (by omega)
      obtain ⟨b, off, rfl, _⟩ := recs_addr H.out.recs (by omega)
      obtain ⟨hh, hhd⟩ : ∃ hh, hh = min (i + m) n := ⟨_, rfl⟩
      have hh1 : i < hh ∧ hh ≤ n ∧ hh ≤ i + m := by omega
      have hmin : min ((i : Int) + (m : Int)) (n : Int) = (hh : Int) := by omega
      have hpart : (L.drop i).take (hh - i) = (L.drop i).take m := by
        rcases Nat.lt_or_ge (i + m) n with h | h
        · congr 1; omega
        · rw [List.take_of_length_le (by rw [List.length_drop]; omega), List.take_of_length_le (by rw [List.length_drop]; omega)]
      clear hhd
      have hci : ¬ c = i := by omega
      have b1 : (0 : Int) ≤ (i : Int) := by omega
      have b2 : (i : Int) ≤ (hh : Int) := by omega
      have b3 : (hh : Int) ≤ (c : Int) := by omega
      have t1 : ((i : Int)).toNat = i := by omega
      have t2 : ((hh : Int)).toNat = hh := by omega
      have HR := Lib.hid (rd_mid (H.out.same HB1.out) (i := i) (h := hh) (by omega) hh1.2.1)
      have HST := Lib.hid (l2StableR_any (some ⟨b, off + i * 2, none⟩) (c - i) ((L.drop i).take (hh - i)) wr (by rw [HR.out.len]; omega) HR.out.recs HR.out.nil)
      rw [HR.out.len, hpart] at HST
      have HNX : Hid (Mg.runsOf m (L.drop i) = Mg.srtP ((L.drop i).take m) :: Mg.runsOf m (L.drop (i + m))) := by
        show _ = _
        rw [runsOf_step hm0 (by intro e; have := congrArg List.length e; rw [List.length_drop] at this; simp at this; omega), List.drop_drop]
      have hobs : ∀ b, (Value.slice oa k oc).ownBlock = some b → b < wr.heap.size := fun b e => (HL1.out.own.lt b e).2
      have hBw := HB1.out.size
      have hk1 : k + 1 ≤ 1099511627776 := by omega
      clear HR hpart
      go_wp2_with fail
      refine (l1Least_any _ _ _).mono ?_
      rintro e w1 ⟨rfl, rfl⟩
      rw [hmin]
      go_wp2_with fail
      refine HST.out.mono ?_
      rintro e w2 ⟨g, c2, rfl, ho, hb⟩
      have HE : Hid (Rd w2 (some ⟨g, 0, none⟩) (hh - i) c2 (Mg.srtP ((L.drop i).take m))) := rd_own ho
      have hg2 : wr.heap.size ≤ g ∧ g < w2.heap.size := ho.lt g rfl
      have HL2 := Lib.hid (HL1.out.same hb)
      have HB2 := Lib.hid (below_tr HB1.out hb HB1.out.size)
      clear ho hb HST HL1 HB1
      go_wp2_with (at_builtin; refine wpList_app1 (v := .slice oa k oc) slLs rfl _ _ rfl rfl HL2.out.own [.slice (some ⟨g, 0, none⟩) (hh - i) c2] rfl rfl (by simp) (by simp [Value.oneCell']) hk1 (by omega) ?_; intro v' w7 hown' hg' ht'; generalize hGG : wpList _ _ _ _ _ _ = GG)
      have HL8 := Lib.hid (HL2.out.app HE.out (fun b off e => by injection e with e; injection e with e1 e2; exact ⟨by omega, fun e3 => by have := hobs b e3; omega, by omega⟩) hown' hg' (fun b e => ht'.elim (fun h => .inl (h ▸ e)) (fun h => .inr (by rw [h] at e; injection e with e; omega))))
      have HB8 := Lib.hid (HB2.out.grown hg' HB2.out.size (fun b e => (HL2.out.own.lt b e).1))
      clear hown' hg' ht' HL2 HB2 HE
      subst hGG
      go_wp2
      go_roundw
      case rel => exact ⟨i + m, k + 1, _, _, by go_num, by omega, by omega, HL8.out, Lib.hid (by rw [List.append_assoc, ← HDD.out, HNX.out]; rfl), HB8.out⟩
      case measure => simp [intOf] <;> omega
    · have q1 : decide ((i : Int) < (n : Int)) = false := decide_eq_false (by omega)
      have HD2 : Hid (D = Mg.runsOf m L) := by
        show _ = _
        rw [← HDD.out, List.drop_of_length_le (by omega), runsOf_nil, List.append_nil]
      have HLS := HL1
      rw [HD2.out] at HLS
      go_wp2
      go_ret
      exact ⟨_, _, _, _, rfl, HLS.out, HB1.out⟩

end Go.Proofs.Ytkckmjajjdpodaa

/- Walks: a pass over runs, of both packages. -/
namespace Go.Proofs.Ytkckmjajjdpodaa
open Go.RowKit Go.Sort
set_option linter.unusedVariables false

theorem passOf_step {m : Nat} (hm : 0 < m) {l : List (List (Int × Int))} (hl : l ≠ []) : Mg.passOf m l = Mg.srtP (l.take m).flatten :: Mg.passOf m (l.drop m) := by
  unfold Mg.passOf
  rw [Mg.chunk_step hm hl, List.map_cons]
theorem passOf_nil (m : Nat) : Mg.passOf m [] = [] := by unfold Mg.passOf; rw [Mg.chunk_nil]; rfl
theorem passC_step {m : Nat} (hm : 0 < m) {l : List (List (Int × Int))} (hl : l ≠ []) : Mg.passC m l = Mg.kcs (l.take m) + Mg.passC m (l.drop m) := by
  unfold Mg.passC
  rw [Mg.chunk_step hm hl, List.map_cons, List.sum_cons]
theorem passC_nil (m : Nat) : Mg.passC m [] = 0 := by unfold Mg.passC; rw [Mg.chunk_nil]; rfl
theorem flat_part_le {rs : List (List (Int × Int))} {i m : Nat} : ((rs.drop i).take m).flatten.length ≤ rs.flatten.length := by
  have h1 : rs = rs.take i ++ ((rs.drop i).take m ++ (rs.drop i).drop m) := by rw [List.take_append_drop, List.take_append_drop]
  conv => rhs; rw [h1]
  rw [List.flatten_append, List.flatten_append, List.length_append, List.length_append]; omega

/-- Lists of lists and a number, given back. -/
def LsEnd2 (w : World) (Ls : List (List (Int × Int))) (q : Nat) (e : Ending) (w' : World) : Prop :=
  ∃ (a : Option Addr) (n c : Nat) (hs : List Value), e = .returned (.tuple #[.slice a n c, .int .i64 q]) ∧ LoH w' w.heap.size (.slice a n c) n hs Ls ∧ Below w.heap.size w w'

set_option maxRecDepth 100000 in
set_option maxHeartbeats 2000000 in
theorem mergePass_any (a : Option Addr) (n c m : Nat) (rs : List (List (Int × Int))) (w : World) (hn : n ≤ 1000) (hm0 : 0 < m) (hm : m ≤ 16) (h : LsAt w a n c rs) (hN : rs.flatten.length ≤ 1000) (ha : ∀ r ∈ rs, Mg.Asc Mg.ltF r) :
    Calls Try.prog 145 #[.slice a n c, .int .i64 m] w (LsEnd2 w (Mg.passOf m rs) (Mg.passC m rs)) := by
  have H := Lib.hid h; have HA := Lib.hid ha
  have HNN := Lib.hid hN
  have HL0 := Lib.hid (loH_nil w)
  have HB0 := Lib.hid (belowNew w (.cells #[] 24))
  have hlen := h.len
  have hcap := h.cap
  have hpc : Mg.passC m rs ≤ 5000 := by have := Mg.passC_le hm0 hm rs; omega
  obtain ⟨PC, hPC⟩ : ∃ q, Mg.passC m rs = q := ⟨_, rfl⟩
  rw [hPC] at hpc
  have HPC := Lib.hid hPC
  rw [hPC]
  clear h ha hPC hN
  unfold LsEnd2
  go_enter Try.func145, Try.ntmps145
  go_wp2
  go_loopw [6, 7, 8] (fun o qv iv wr => ∃ (i k q : Nat) (hs : List Value) (D : List (List (Int × Int))), iv = .int .i64 i ∧ qv = .int .i64 q ∧ i ≤ n + m ∧ k ≤ i ∧ LoH wr w.heap.size o k hs D ∧ Hid (D ++ Mg.passOf m (rs.drop i) = Mg.passOf m rs) ∧ Hid (q + Mg.passC m (rs.drop i) = PC) ∧ Below w.heap.size w wr) (fun _ _ iv _ => n - (intOf iv).toNat)
  case atStart => exact ⟨0, 0, 0, [], [], rfl, rfl, by omega, by omega, HL0.out, Lib.hid rfl, Lib.hid (by rw [List.drop_zero, HPC.out]; omega), HB0.out⟩
  case round =>
    obtain ⟨i, k, q, hs, D, rfl, rfl, hi, hk, hlo, HDD, HQ, hb⟩ := hrel
    have HL1 := Lib.hid hlo; have HB1 := Lib.hid hb
    obtain ⟨oa, oc, rfl⟩ := own_slice hlo.own
    clear hlo hb HL0 HB0
    by_cases hlt : i < n
    · have q1 : decide ((i : Int) < (n : Int)) = true := decide_eq_true (by omega)
      obtain ⟨b, off, rfl⟩ := lsAt_addr H.out (by omega)
      obtain ⟨hh, hhd⟩ : ∃ hh, hh = min (i + m) n := ⟨_, rfl⟩
      have hh1 : i < hh ∧ hh ≤ n ∧ hh ≤ i + m := by omega
      have hmin : min ((i : Int) + (m : Int)) (n : Int) = (hh : Int) := by omega
      have hpart : (rs.drop i).take (hh - i) = (rs.drop i).take m := by
        rcases Nat.lt_or_ge (i + m) n with h | h
        · congr 1; omega
        · rw [List.take_of_length_le (by rw [List.length_drop]; omega), List.take_of_length_le (by rw [List.length_drop]; omega)]
      clear hhd
      have hci : ¬ c = i := by omega
      have b1 : (0 : Int) ≤ (i : Int) := by omega
      have b2 : (i : Int) ≤ (hh : Int) := by omega
      have b3 : (hh : Int) ≤ (c : Int) := by omega
      have t1 : ((i : Int)).toNat = i := by omega
      have t2 : ((hh : Int)).toNat = hh := by omega
      have HG := Lib.hid ((H.out.same HB1.out).part i (hh - i) (by omega))
      rw [hpart] at HG
      have hgl : ((rs.drop i).take m).length = hh - i := HG.out.len
      have hga : ∀ r ∈ (rs.drop i).take m, Mg.Asc Mg.ltF r := fun r hr => HA.out r (List.mem_of_mem_drop (List.mem_of_mem_take hr))
      have hgN : ((rs.drop i).take m).flatten.length ≤ 1000 := Nat.le_trans flat_part_le HNN.out
      have hne : rs.drop i ≠ [] := by intro e; have := congrArg List.length e; rw [List.length_drop] at this; simp at this; omega
      have HNX : Hid (Mg.passOf m (rs.drop i) = Mg.srtP ((rs.drop i).take m).flatten :: Mg.passOf m (rs.drop (i + m))) := by
        show _ = _
        rw [passOf_step hm0 hne, List.drop_drop]
      have HQX : Hid (Mg.passC m (rs.drop i) = Mg.kcs ((rs.drop i).take m) + Mg.passC m (rs.drop (i + m))) := by
        show _ = _
        rw [passC_step hm0 hne, List.drop_drop]
      have hobs : ∀ b, (Value.slice oa k oc).ownBlock = some b → b < wr.heap.size := fun b e => (HL1.out.own.lt b e).2
      have hBw := HB1.out.size
      have hk1 : k + 1 ≤ 1099511627776 := by omega
      have hqq : q + Mg.kcs ((rs.drop i).take m) ≤ 5000 := by have h1 := HQ.out; rw [HQX.out] at h1; omega
      have HKW := Lib.hid (kWay_any b (off + i) (hh - i) (c - i) ((rs.drop i).take m) wr (by omega) (by omega) HG.out hgN hga)
      unfold KwEnd at HKW
      have hfl := srtP_len ((rs.drop i).take m).flatten
      generalize hNg : ((rs.drop i).take m).flatten.length = Ng at HKW hfl
      generalize hKg : Mg.kcs ((rs.drop i).take m) = Kg at HKW hqq HQX
      clear hne hga hgN hgl HG hNg hKg
      go_wp2_with fail
      refine HKW.out.mono ?_
      rintro e w2 ⟨g, c2, rfl, ho, hb⟩
      have HE : Hid (Rd w2 (some ⟨g, 0, none⟩) Ng c2 (Mg.srtP ((rs.drop i).take m).flatten)) := rd_own ho
      have hg2 : wr.heap.size ≤ g ∧ g < w2.heap.size := ho.lt g rfl
      have HL2 := Lib.hid (HL1.out.same hb)
      have HB2 := Lib.hid (below_tr HB1.out hb HB1.out.size)
      clear ho hb HKW HL1 HB1
      go_wp2_with (at_builtin; refine wpList_app1 (v := .slice oa k oc) slLs rfl _ _ rfl rfl HL2.out.own [.slice (some ⟨g, 0, none⟩) Ng c2] rfl rfl (by simp) (by simp [Value.oneCell']) hk1 (by omega) ?_; intro v' w7 hown' hg' ht'; generalize hGG : wpList _ _ _ _ _ _ = GG)
      have HL8 := Lib.hid (HL2.out.app HE.out (fun b off e => by injection e with e; injection e with e1 e2; exact ⟨by omega, fun e3 => by have := hobs b e3; omega, by omega⟩) hown' hg' (fun b e => ht'.elim (fun h => .inl (h ▸ e)) (fun h => .inr (by rw [h] at e; injection e with e; omega))))
      have HB8 := Lib.hid (HB2.out.grown hg' HB2.out.size (fun b e => (HL2.out.own.lt b e).1))
      clear hown' hg' ht' HL2 HB2 HE
      subst hGG
      go_wp2
      go_roundw
      case rel => exact ⟨i + m, k + 1, q + Kg, _, _, by go_num, by go_num, by omega, by omega, HL8.out, Lib.hid (by rw [List.append_assoc, ← HDD.out, HNX.out]; rfl), Lib.hid (by have := HQ.out; rw [HQX.out] at this; omega), HB8.out⟩
      case measure => simp [intOf] <;> omega
    · have q1 : decide ((i : Int) < (n : Int)) = false := decide_eq_false (by omega)
      have HD2 : Hid (D = Mg.passOf m rs) := by
        show _ = _
        rw [← HDD.out, List.drop_of_length_le (by omega), passOf_nil, List.append_nil]
      have hqp : PC = q := by
        have := HQ.out
        rw [List.drop_of_length_le (by omega), passC_nil] at this; omega
      have HLS := HL1
      rw [HD2.out] at HLS
      subst hqp
      go_wp2
      go_ret2
      exact ⟨_, _, _, _, rfl, HLS.out, HB1.out⟩

end Go.Proofs.Ytkckmjajjdpodaa

/- Walks: a pass over runs, the reference's. -/
namespace Go.Proofs.Ytkckmjajjdpodaa
open Go.RowKit Go.Sort
set_option linter.unusedVariables false

set_option maxRecDepth 100000 in
set_option maxHeartbeats 2000000 in
theorem l17Pass_any (a : Option Addr) (n c m : Nat) (rs : List (List (Int × Int))) (w : World) (hn : n ≤ 1000) (hm0 : 0 < m) (hm : m ≤ 16) (h : LsAt w a n c rs) (hN : rs.flatten.length ≤ 1000) (ha : ∀ r ∈ rs, Mg.Asc Mg.ltF r) :
    Calls Try.prog 146 #[.slice a n c, .int .i64 m] w (LsEnd2 w (Mg.passOf m rs) (Mg.passC m rs)) := by
  have H := Lib.hid h; have HA := Lib.hid ha
  have HNN := Lib.hid hN
  have HL0 := Lib.hid (loH_nil w)
  have HB0 := Lib.hid (belowNew w (.cells #[] 24))
  have hlen := h.len
  have hcap := h.cap
  have hpc : Mg.passC m rs ≤ 5000 := by have := Mg.passC_le hm0 hm rs; omega
  obtain ⟨PC, hPC⟩ : ∃ q, Mg.passC m rs = q := ⟨_, rfl⟩
  rw [hPC] at hpc
  have HPC := Lib.hid hPC
  rw [hPC]
  clear h ha hPC hN
  unfold LsEnd2
  go_enter Try.func146, Try.ntmps146
  go_wp2
  go_loopw [6, 7, 8] (fun o qv iv wr => ∃ (i k q : Nat) (hs : List Value) (D : List (List (Int × Int))), iv = .int .i64 i ∧ qv = .int .i64 q ∧ i ≤ n + m ∧ k ≤ i ∧ LoH wr w.heap.size o k hs D ∧ Hid (D ++ Mg.passOf m (rs.drop i) = Mg.passOf m rs) ∧ Hid (q + Mg.passC m (rs.drop i) = PC) ∧ Below w.heap.size w wr) (fun _ _ iv _ => n - (intOf iv).toNat)
  case atStart => exact ⟨0, 0, 0, [], [], rfl, rfl, by omega, by omega, HL0.out, Lib.hid rfl, Lib.hid (by rw [List.drop_zero, HPC.out]; omega), HB0.out⟩
  case round =>
    obtain ⟨i, k, q, hs, D, rfl, rfl, hi, hk, hlo, HDD, HQ, hb⟩ := hrel
    have HL1 := Lib.hid hlo; have HB1 := Lib.hid hb
    obtain ⟨oa, oc, rfl⟩ := own_slice hlo.own
    clear hlo hb HL0 HB0
    by_cases hlt : i < n
    · have q1 : decide ((i : Int) < (n : Int)) = true := decide_eq_true (by omega)
      obtain ⟨b, off, rfl⟩ := lsAt_addr H.out (by omega)
      obtain ⟨hh, hhd⟩ : ∃ hh, hh = min (i + m) n := ⟨_, rfl⟩
      have hh1 : i < hh ∧ hh ≤ n ∧ hh ≤ i + m := by omega
      have hmin : min ((i : Int) + (m : Int)) (n : Int) = (hh : Int) := by omega
      have hpart : (rs.drop i).take (hh - i) = (rs.drop i).take m := by
        rcases Nat.lt_or_ge (i + m) n with h | h
        · congr 1; omega
        · rw [List.take_of_length_le (by rw [List.length_drop]; omega), List.take_of_length_le (by rw [List.length_drop]; omega)]
      clear hhd
      have hci : ¬ c = i := by omega
      have b1 : (0 : Int) ≤ (i : Int) := by omega
      have b2 : (i : Int) ≤ (hh : Int) := by omega
      have b3 : (hh : Int) ≤ (c : Int) := by omega
      have t1 : ((i : Int)).toNat = i := by omega
      have t2 : ((hh : Int)).toNat = hh := by omega
      have HG := Lib.hid ((H.out.same HB1.out).part i (hh - i) (by omega))
      rw [hpart] at HG
      have hgl : ((rs.drop i).take m).length = hh - i := HG.out.len
      have hga : ∀ r ∈ (rs.drop i).take m, Mg.Asc Mg.ltF r := fun r hr => HA.out r (List.mem_of_mem_drop (List.mem_of_mem_take hr))
      have hgN : ((rs.drop i).take m).flatten.length ≤ 1000 := Nat.le_trans flat_part_le HNN.out
      have hne : rs.drop i ≠ [] := by intro e; have := congrArg List.length e; rw [List.length_drop] at this; simp at this; omega
      have HNX : Hid (Mg.passOf m (rs.drop i) = Mg.srtP ((rs.drop i).take m).flatten :: Mg.passOf m (rs.drop (i + m))) := by
        show _ = _
        rw [passOf_step hm0 hne, List.drop_drop]
      have HQX : Hid (Mg.passC m (rs.drop i) = Mg.kcs ((rs.drop i).take m) + Mg.passC m (rs.drop (i + m))) := by
        show _ = _
        rw [passC_step hm0 hne, List.drop_drop]
      have hobs : ∀ b, (Value.slice oa k oc).ownBlock = some b → b < wr.heap.size := fun b e => (HL1.out.own.lt b e).2
      have hBw := HB1.out.size
      have hk1 : k + 1 ≤ 1099511627776 := by omega
      have hqq : q + Mg.kcs ((rs.drop i).take m) ≤ 5000 := by have h1 := HQ.out; rw [HQX.out] at h1; omega
      by_cases h1 : hh - i = 1
      · have q2 : (((hh - i : Nat) : Int) == 1) = true := by rw [h1]; rfl
        have q2' : ((hh - i == 1) : Bool) = true := by rw [h1]; rfl
        obtain ⟨r0, hr0⟩ : ∃ r0, (rs.drop i).take m = [r0] := by
          match hX : (rs.drop i).take m with
          | [] => rw [hX] at hgl; simp at hgl; omega
          | [r0] => exact ⟨r0, rfl⟩
          | _ :: _ :: _ => rw [hX] at hgl; simp at hgl; omega
        rw [hr0] at HG HNX HQX hqq hga hgN
        have hk0 : Mg.kcs [r0] = 0 := Mg.kcs_one r0
        have hs0 : Mg.srtP [r0].flatten = r0 := by
          rw [show [r0].flatten = r0 by simp]
          exact Mg.srt_of_asc (hga r0 (by simp))
        rw [hs0] at HNX
        rw [hk0] at HQX
        obtain ⟨hb1, ho1, x0, d0, e0, hc0, hrd0⟩ := HG.out.at (k := 0) (by omega)
        injection e0 with e0
        injection e0 with e1 e2
        subst e1 e2
        have hc0 : wr.cell? ⟨b, off + i, none⟩ = some (.slice x0 r0.length d0) := hc0
        have hrd0 : Rd wr x0 r0.length d0 r0 := hrd0
        have hr0l : r0.length ≤ 1000 := by have : [r0].flatten.length = r0.length := by simp
                                           omega
        obtain ⟨m0, hm0'⟩ : ∃ m0, r0.length = m0 := ⟨_, rfl⟩
        rw [hm0'] at hc0 hrd0 hr0l
        have E0 := Lib.hid (own_lit (w := wr) (e := 72) (size := 2) #[] 0 (by omega) rfl)
        have hbn := belowNew wr (.cells #[] 72)
        have HRa := Lib.hid (hrd0.same hbn)
        have hca : (wr.alloc (.cells #[] 72)).cell? ⟨b, off + i, none⟩ = some (.slice x0 m0 d0) := (hbn.cell (p := ⟨b, off + i, none⟩) (World.block_lt_of_cell? wr _ hc0)).trans hc0
        have hsa : (wr.alloc (.cells #[] 72)).heap.size = wr.heap.size + 1 := by simp
        have HBa := Lib.hid (below_tr HB1.out hbn HB1.out.size)
        have HLa := Lib.hid (HL1.out.same hbn)
        clear hne hga hgN hgl HG hr0 hk0 hs0 hbn hrd0
        go_wp2_with fail
        refine (l1Least_any _ _ _).mono ?_
        rintro e w1 ⟨rfl, rfl⟩
        rw [hmin]
        go_wp2_with (at_builtin; refine wpList_appR (v := .slice (some ⟨wr.heap.size, 0, none⟩) 0 0) slRec rfl _ _ rfl rfl E0.out rfl HRa.out.recs HRa.out.len HRa.out.nil (by omega) (by omega) ?_; intro v' w2 hown2 hg2 ht2; rw [Nat.zero_add] at hown2; generalize hGG : wpList _ _ _ _ _ _ = GG)
        obtain ⟨a2, c2, rfl⟩ := own_slice hown2
        have hown3 : w2.ownsRow wr.heap.size 72 2 (.slice a2 m0 c2) m0 (flat encR r0) := hown2
        have HE : Hid (Rd w2 a2 m0 c2 r0) := rd_own hown3
        have hg3 := own_far' hown3
        have HL2 := Lib.hid (HLa.out.grow2 (S := wr.heap.size) hg2 (fun b e => by simp [Value.ownBlock] at e; omega) (fun b e => by have := hobs b e; simp [Value.ownBlock]; omega) (fun j b off m c e => (HL1.out.far j b off m c e).2.2))
        have HB2 := Lib.hid (HBa.out.grown hg2 HBa.out.size (fun b e => by simp [Value.ownBlock] at e; omega))
        have hsz2 := hg2.size
        clear hown2 hg2 ht2 hown3 HLa HBa E0 HRa hca HL1 HB1 hc0
        subst hGG
        go_wp2_with (at_builtin; refine wpList_app1 (v := .slice oa k oc) slLs rfl _ _ rfl rfl HL2.out.own [.slice a2 m0 c2] rfl rfl (by simp) (by simp [Value.oneCell']) hk1 (by omega) ?_; intro v' w7 hown' hg' ht'; generalize hGG : wpList _ _ _ _ _ _ = GG)
        have HL8 := Lib.hid (HL2.out.app HE.out (fun b off e => ⟨by have := hg3 b off e; omega, fun e3 => by have := hobs b e3; have := hg3 b off e; omega, (hg3 b off e).2⟩) hown' hg' (fun b e => ht'.elim (fun h => .inl (h ▸ e)) (fun h => .inr (by rw [h] at e; injection e with e; omega))))
        have HB8 := Lib.hid (HB2.out.grown hg' HB2.out.size (fun b e => (HL2.out.own.lt b e).1))
        clear hown' hg' ht' HL2 HB2 HE
        subst hGG
        go_wp2
        go_roundw
        case rel => exact ⟨i + m, k + 1, q, _, _, by go_num, by go_num, by omega, by omega, HL8.out, Lib.hid (by rw [List.append_assoc, ← HDD.out, HNX.out]; rfl), Lib.hid (by have := HQ.out; rw [HQX.out] at this; omega), HB8.out⟩
        case measure => simp [intOf] <;> omega
      · have q2 : (((hh - i : Nat) : Int) == 1) = false := by rw [beq_eq_false_iff_ne]; omega
        have q2' : ((hh - i == 1) : Bool) = false := by rw [beq_eq_false_iff_ne]; omega
        have HKW := Lib.hid (l16Merge_any b (off + i) (hh - i) (c - i) ((rs.drop i).take m) wr (by omega) (by omega) HG.out hgN hga)
        unfold KwEnd at HKW
        have hfl := srtP_len ((rs.drop i).take m).flatten
        generalize hNg : ((rs.drop i).take m).flatten.length = Ng at HKW hfl
        generalize hKg : Mg.kcs ((rs.drop i).take m) = Kg at HKW hqq HQX
        clear hne hga hgN hgl HG hNg hKg
        go_wp2_with fail
        refine (l1Least_any _ _ _).mono ?_
        rintro e w1 ⟨rfl, rfl⟩
        rw [hmin]
        go_wp2_with fail
        refine HKW.out.mono ?_
        rintro e w2 ⟨g, c2, rfl, ho, hb⟩
        have HE : Hid (Rd w2 (some ⟨g, 0, none⟩) Ng c2 (Mg.srtP ((rs.drop i).take m).flatten)) := rd_own ho
        have hg2 : wr.heap.size ≤ g ∧ g < w2.heap.size := ho.lt g rfl
        have HL2 := Lib.hid (HL1.out.same hb)
        have HB2 := Lib.hid (below_tr HB1.out hb HB1.out.size)
        clear ho hb HKW HL1 HB1
        go_wp2_with (at_builtin; refine wpList_app1 (v := .slice oa k oc) slLs rfl _ _ rfl rfl HL2.out.own [.slice (some ⟨g, 0, none⟩) Ng c2] rfl rfl (by simp) (by simp [Value.oneCell']) hk1 (by omega) ?_; intro v' w7 hown' hg' ht'; generalize hGG : wpList _ _ _ _ _ _ = GG)
        have HL8 := Lib.hid (HL2.out.app HE.out (fun b off e => by injection e with e; injection e with e1 e2; exact ⟨by omega, fun e3 => by have := hobs b e3; omega, by omega⟩) hown' hg' (fun b e => ht'.elim (fun h => .inl (h ▸ e)) (fun h => .inr (by rw [h] at e; injection e with e; omega))))
        have HB8 := Lib.hid (HB2.out.grown hg' HB2.out.size (fun b e => (HL2.out.own.lt b e).1))
        clear hown' hg' ht' HL2 HB2 HE
        subst hGG
        go_wp2
        go_roundw
        case rel => exact ⟨i + m, k + 1, q + Kg, _, _, by go_num, by go_num, by omega, by omega, HL8.out, Lib.hid (by rw [List.append_assoc, ← HDD.out, HNX.out]; rfl), Lib.hid (by have := HQ.out; rw [HQX.out] at this; omega), HB8.out⟩
        case measure => simp [intOf] <;> omega
    · have q1 : decide ((i : Int) < (n : Int)) = false := decide_eq_false (by omega)
      have HD2 : Hid (D = Mg.passOf m rs) := by
        show _ = _
        rw [← HDD.out, List.drop_of_length_le (by omega), passOf_nil, List.append_nil]
      have hqp : PC = q := by
        have := HQ.out
        rw [List.drop_of_length_le (by omega), passC_nil] at this; omega
      have HLS := HL1
      rw [HD2.out] at HLS
      subst hqp
      go_wp2
      go_ret2
      exact ⟨_, _, _, _, rfl, HLS.out, HB1.out⟩

end Go.Proofs.Ytkckmjajjdpodaa

/- Walks: MakeRuns and MergePass of both packages. -/
namespace Go.Proofs.Ytkckmjajjdpodaa
open Go.RowKit Go.Sort
set_option linter.unusedVariables false

def LsEndB (w : World) (Ls : List (List (Int × Int))) (ok : Bool) (e : Ending) (w' : World) : Prop :=
  ∃ (a : Option Addr) (n c : Nat), e = .returned (.tuple #[.slice a n c, .bool ok]) ∧ LsAt w' a n c Ls ∧ Below w.heap.size w w'
def LsEndC (w : World) (Ls : List (List (Int × Int))) (q : Nat) (ok : Bool) (e : Ending) (w' : World) : Prop :=
  ∃ (a : Option Addr) (n c : Nat), e = .returned (.tuple #[.slice a n c, .int .i64 q, .bool ok]) ∧ LsAt w' a n c Ls ∧ Below w.heap.size w w'
theorem ls_nil (w : World) : LsAt w none 0 0 [] := ⟨⟨[], .inl rfl, hds_nil _⟩, rfl, fun _ => rfl, Nat.le_refl _⟩
theorem ls_some (w : World) (x : Addr) (c : Nat) : LsAt w (some x) 0 c [] := ⟨⟨[], .inl rfl, hds_nil _⟩, rfl, nilOk_some _ _, Nat.zero_le _⟩
def mrOk (m : Int) (L : List (Int × Int)) : Bool := okRecs L && inB m 1 64
def mrOut (m : Int) (L : List (Int × Int)) : List (List (Int × Int)) := if mrOk m L = true then Mg.runsOf m.toNat L else []
def mpOk (k : Int) (Ls : List (List (Int × Int))) : Bool := inB k 2 16 && lsOk Ls
def mpOut (k : Int) (Ls : List (List (Int × Int))) : List (List (Int × Int)) := if mpOk k Ls = true then Mg.passOf k.toNat Ls else []
def mpC (k : Int) (Ls : List (List (Int × Int))) : Nat := if mpOk k Ls = true then Mg.passC k.toNat Ls else 0

set_option maxRecDepth 100000 in
set_option maxHeartbeats 4000000 in
theorem implMakeRuns_any (a : Option Addr) (n c : Nat) (m : Int) (L : List (Int × Int)) (w : World) (hn : n ≤ 1000) (h : Rd w a n c L) :
    Calls Try.prog 73 #[.slice a n c, .int .i64 m] w (LsEndB w (mrOut m L) (mrOk m L)) := by
  have H := Lib.hid h
  obtain ⟨hr, rfl, hnil, hcap⟩ := h
  have HV := Lib.hid (isValidRecords_any a c L w (by omega) hr)
  clear hr hnil hcap
  unfold LsEndB
  cases hok : okRecs L
  · have HO : Hid (mrOk m L = false) := by show _ = _; unfold mrOk; rw [hok]; rfl
    have HU : Hid (mrOut m L = []) := by show _ = _; unfold mrOut; rw [HO.out]; rfl
    rw [hok] at HV
    clear hok
    go_enter Try.func73, Try.ntmps73
    go_wp2_with (first | (go_at_call 81; refine HV.out.mono ?_; rintro e w1 ⟨rfl, hb⟩; have HB := Lib.hid hb; clear hb))
    go_ret2
    exact ⟨none, 0, 0, by rw [HO.out]; rfl, by rw [HU.out]; exact ls_nil _, HB.out⟩
  · have hl := okRecs_le hok
    rw [hok] at HV
    have HIN : Hid (∀ W, Calls Try.prog 86 #[.int .i64 m, .int .i64 1, .int .i64 64] W fun e w' => e = .returned (.bool (inB m 1 64)) ∧ W = w') := fun W => in_any m 1 64 W
    cases hin : inB m 1 64
    · have HO : Hid (mrOk m L = false) := by show _ = _; unfold mrOk; rw [hok, hin]; rfl
      have HU : Hid (mrOut m L = []) := by show _ = _; unfold mrOut; rw [HO.out]; rfl
      rw [hin] at HIN
      clear hok hin
      go_enter Try.func73, Try.ntmps73
      go_wp2_with (first | (go_at_call 81; refine HV.out.mono ?_; rintro e w1 ⟨rfl, hb⟩; have HB := Lib.hid hb; clear hb) | (go_at_call 86; refine (HIN.out _).mono ?_; rintro e w2 ⟨rfl, rfl⟩))
      go_ret2
      exact ⟨none, 0, 0, by rw [HO.out]; rfl, by rw [HU.out]; exact ls_nil _, HB.out⟩
    · have HO : Hid (mrOk m L = true) := by show _ = _; unfold mrOk; rw [hok, hin]; rfl
      have HU : Hid (mrOut m L = Mg.runsOf m.toNat L) := by show _ = _; unfold mrOut; rw [if_pos HO.out]
      obtain ⟨i1, i2⟩ := inB_iff.1 hin
      rw [hin] at HIN
      obtain ⟨k, rfl⟩ : ∃ k : Nat, m = (k : Int) := ⟨m.toNat, by omega⟩
      clear hok hin
      go_enter Try.func73, Try.ntmps73
      go_wp2_with (first | (go_at_call 81; refine HV.out.mono ?_; rintro e w1 ⟨rfl, hb⟩; have HB := Lib.hid hb; clear hb) | (go_at_call 86; refine (HIN.out _).mono ?_; rintro e w2 ⟨rfl, rfl⟩))
      have HM := Lib.hid (makeRuns_any a L.length c k L w1 (by omega) (by omega) (by omega) (H.out.same HB.out))
      unfold LsEnd at HM
      refine HM.out.mono ?_
      rintro e w2 ⟨a2, n2, c2, hs2, rfl, hlo, hb⟩
      have HB2 := Lib.hid (below_tr HB.out hb HB.out.size)
      have HL := Lib.hid hlo.ls
      clear hlo hb HM
      go_wp2
      go_ret2
      exact ⟨_, _, _, by rw [HO.out]; rfl, by rw [HU.out]; exact HL.out, HB2.out⟩

set_option maxRecDepth 100000 in
set_option maxHeartbeats 4000000 in
theorem specMakeRuns_any (a : Option Addr) (n c : Nat) (m : Int) (L : List (Int × Int)) (w : World) (hn : n ≤ 1000) (h : Rd w a n c L) :
    Calls Try.prog 74 #[.slice a n c, .int .i64 m] w (LsEndB w (mrOut m L) (mrOk m L)) := by
  have H := Lib.hid h
  obtain ⟨hr, rfl, hnil, hcap⟩ := h
  have HV := Lib.hid (l2Records_any a c L w (by omega) hr)
  have HE := Lib.hid (belowNew w (.cells #[] 24))
  clear hr hnil hcap
  unfold LsEndB
  cases hok : okRecs L
  · have HO : Hid (mrOk m L = false) := by show _ = _; unfold mrOk; rw [hok]; rfl
    have HU : Hid (mrOut m L = []) := by show _ = _; unfold mrOut; rw [HO.out]; rfl
    rw [hok] at HV
    clear hok
    go_enter Try.func74, Try.ntmps74
    go_wp2_with (first | (go_at_call 83; refine HV.out.mono ?_; rintro e w1 ⟨rfl, rfl⟩))
    go_ret2
    exact ⟨some _, 0, 0, by rw [HO.out]; rfl, by rw [HU.out]; exact ls_some _ _ _, HE.out⟩
  · have hl := okRecs_le hok
    rw [hok] at HV
    have HIN := Lib.hid (l1In_any m 1 64 w)
    cases hin : inB m 1 64
    · have HO : Hid (mrOk m L = false) := by show _ = _; unfold mrOk; rw [hok, hin]; rfl
      have HU : Hid (mrOut m L = []) := by show _ = _; unfold mrOut; rw [HO.out]; rfl
      rw [hin] at HIN
      clear hok hin
      go_enter Try.func74, Try.ntmps74
      go_wp2_with (first | (go_at_call 83; refine HV.out.mono ?_; rintro e w1 ⟨rfl, rfl⟩) | (go_at_call 89; refine HIN.out.mono ?_; rintro e w' ⟨rfl, rfl⟩))
      go_ret2
      exact ⟨some _, 0, 0, by rw [HO.out]; rfl, by rw [HU.out]; exact ls_some _ _ _, HE.out⟩
    · have HO : Hid (mrOk m L = true) := by show _ = _; unfold mrOk; rw [hok, hin]; rfl
      have HU : Hid (mrOut m L = Mg.runsOf m.toNat L) := by show _ = _; unfold mrOut; rw [if_pos HO.out]
      obtain ⟨i1, i2⟩ := inB_iff.1 hin
      rw [hin] at HIN
      obtain ⟨k, rfl⟩ : ∃ k : Nat, m = (k : Int) := ⟨m.toNat, by omega⟩
      have HM := Lib.hid (l17Runs_any a L.length c k L w (by omega) (by omega) (by omega) H.out)
      unfold LsEnd at HM
      clear hok hin
      go_enter Try.func74, Try.ntmps74
      go_wp2_with (first | (go_at_call 83; refine HV.out.mono ?_; rintro e w1 ⟨rfl, rfl⟩) | (go_at_call 89; refine HIN.out.mono ?_; rintro e w' ⟨rfl, rfl⟩))
      refine HM.out.mono ?_
      rintro e w2 ⟨a2, n2, c2, hs2, rfl, hlo, hb⟩
      have HB2 := Lib.hid hb
      have HL := Lib.hid hlo.ls
      clear hlo hb HM
      go_wp2
      go_ret2
      exact ⟨_, _, _, by rw [HO.out]; rfl, by rw [HU.out]; exact HL.out, HB2.out⟩

set_option maxRecDepth 100000 in
set_option maxHeartbeats 4000000 in
theorem implMergePass_any (a : Option Addr) (n c : Nat) (k : Int) (Ls : List (List (Int × Int))) (w : World) (hn : n ≤ 1000) (h : LsAt w a n c Ls) (hLb : ∀ i, (Ls.getD i []).length ≤ 1000000) :
    Calls Try.prog 77 #[.slice a n c, .int .i64 k] w (LsEndC w (mpOut k Ls) (mpC k Ls) (mpOk k Ls)) := by
  have H := Lib.hid h
  have HIN := Lib.hid (in_any k 2 16 w)
  have HAR := Lib.hid (areLists_any a n c Ls w hn h hLb)
  clear h hLb
  unfold LsEndC
  cases hin : inB k 2 16
  · have HO : Hid (mpOk k Ls = false) := by show _ = _; unfold mpOk; rw [hin]; rfl
    have HU : Hid (mpOut k Ls = []) := by show _ = _; unfold mpOut; rw [HO.out]; rfl
    have HC : Hid (mpC k Ls = 0) := by show _ = _; unfold mpC; rw [HO.out]; rfl
    rw [hin] at HIN
    clear hin
    go_enter Try.func77, Try.ntmps77
    go_wp2_with (go_at_call 86; refine HIN.out.mono ?_; rintro e w' ⟨rfl, rfl⟩)
    go_ret3
    exact ⟨none, 0, 0, by rw [HC.out, HO.out]; rfl, by rw [HU.out]; exact ls_nil _, Below.refl _ _⟩
  · obtain ⟨i1, i2⟩ := inB_iff.1 hin
    rw [hin] at HIN
    cases hls : lsOk Ls
    · have HO : Hid (mpOk k Ls = false) := by show _ = _; unfold mpOk; rw [hls]; simp
      have HU : Hid (mpOut k Ls = []) := by show _ = _; unfold mpOut; rw [HO.out]; rfl
      have HC : Hid (mpC k Ls = 0) := by show _ = _; unfold mpC; rw [HO.out]; rfl
      rw [hls] at HAR
      clear hin hls
      go_enter Try.func77, Try.ntmps77
      go_wp2_with (first | (go_at_call 86; refine HIN.out.mono ?_; rintro e w' ⟨rfl, rfl⟩) | (go_at_call 137; refine HAR.out.mono ?_; rintro e w1 ⟨rfl, hb⟩; have HB := Lib.hid hb; clear hb))
      go_ret3
      exact ⟨none, 0, 0, by rw [HC.out, HO.out]; rfl, by rw [HU.out]; exact ls_nil _, HB.out⟩
    · have HO : Hid (mpOk k Ls = true) := by show _ = _; unfold mpOk; rw [hls, hin]; rfl
      have HU : Hid (mpOut k Ls = Mg.passOf k.toNat Ls) := by show _ = _; unfold mpOut; rw [if_pos HO.out]
      have HC : Hid (mpC k Ls = Mg.passC k.toNat Ls) := by show _ = _; unfold mpC; rw [if_pos HO.out]
      obtain ⟨ha, hN⟩ := lsOk_asc hls
      have HA := Lib.hid ha; have HNN := Lib.hid hN
      rw [hls] at HAR
      obtain ⟨m, rfl⟩ : ∃ m : Nat, k = (m : Int) := ⟨k.toNat, by omega⟩
      rw [Int.toNat_natCast] at HU HC
      clear hin hls ha hN
      go_enter Try.func77, Try.ntmps77
      go_wp2_with (first | (go_at_call 86; refine HIN.out.mono ?_; rintro e w' ⟨rfl, rfl⟩) | (go_at_call 137; refine HAR.out.mono ?_; rintro e w1 ⟨rfl, hb⟩; have HB := Lib.hid hb; clear hb))
      have HKW := Lib.hid (mergePass_any a n c m Ls w1 hn (by omega) (by omega) (H.out.same HB.out) (by have := HNN.out; omega) HA.out)
      unfold LsEnd2 at HKW
      refine HKW.out.mono ?_
      rintro e w2 ⟨a2, n2, c2, hs2, rfl, hlo, hb⟩
      have HB2 := Lib.hid (below_tr HB.out hb HB.out.size)
      have HL := Lib.hid hlo.ls
      clear hlo hb HKW
      go_wp2
      go_ret3
      exact ⟨_, _, _, by rw [HC.out, HO.out]; rfl, by rw [HU.out]; exact HL.out, HB2.out⟩

set_option maxRecDepth 100000 in
set_option maxHeartbeats 4000000 in
theorem specMergePass_any (a : Option Addr) (n c : Nat) (k : Int) (Ls : List (List (Int × Int))) (w : World) (hn : n ≤ 1000) (h : LsAt w a n c Ls) (hLb : ∀ i, (Ls.getD i []).length ≤ 1000000) :
    Calls Try.prog 78 #[.slice a n c, .int .i64 k] w (LsEndC w (mpOut k Ls) (mpC k Ls) (mpOk k Ls)) := by
  have H := Lib.hid h
  have hl := h.len
  have HLb := Lib.hid hLb
  clear h hLb
  unfold LsEndC
  go_enter Try.func78, Try.ntmps78
  go_wp2
  go_loopw [7, 8] (fun tt iv wr => ∃ i tn : Nat, iv = .int .i64 i ∧ tt = .int .i64 tn ∧ i ≤ n ∧ tn ≤ 64 * i ∧ Hid (tn = totL (Ls.take i)) ∧ Hid ((Ls.take i).all ascOk = true) ∧ Below w.heap.size w wr) (fun _ iv _ => n - (intOf iv).toNat)
  case atStart => exact ⟨0, 0, rfl, rfl, by omega, by omega, Lib.hid rfl, Lib.hid rfl, Below.refl _ _⟩
  case round =>
    obtain ⟨i, tn, rfl, rfl, hi, ht, HT, HALL, hb⟩ := hrel
    have HB := Lib.hid hb
    clear hb
    by_cases hlt : i < n
    · have q1 : decide ((i : Int) < (n : Int)) = true := decide_eq_true (by omega)
      obtain ⟨lb, lof, xa, d, rfl, hc, hr⟩ := (H.out.same HB.out).at hlt
      obtain ⟨Lw, hLw⟩ : ∃ Lw, Ls.getD i [] = Lw := ⟨_, rfl⟩
      rw [hLw] at hc hr
      have HLW := Lib.hid hLw
      have hbig : Lw.length ≤ 1000000 := by have := HLb.out i; rw [hLw] at this; exact this
      clear hLw
      have b1 : (0 : Int) ≤ (i : Int) := by omega
      have b2 : (i : Int) < (n : Int) := by omega
      have t1 : ((i : Int)).toNat = i := by omega
      have H2 := Lib.hid (l2Records_any xa d Lw wr (by omega) hr.recs)
      have H3 := Lib.hid (l5Ascending_any xa Lw.length d Lw wr (by omega) hr)
      have HE3 := Lib.hid (HB.out.alloc HB.out.size (.cells #[] 24))
      cases h1 : okRecs Lw
      · have HF : Hid (mpOk k Ls = false) := by
          show _ = _
          unfold mpOk lsOk
          rw [all_no (i := i) (by omega) (by rw [HLW.out]; unfold ascOk; rw [h1]; rfl)]; simp
        have HU : Hid (mpOut k Ls = []) := by show _ = _; unfold mpOut; rw [HF.out]; rfl
        have HC : Hid (mpC k Ls = 0) := by show _ = _; unfold mpC; rw [HF.out]; rfl
        rw [h1] at H2
        clear h1 hr
        go_wp2_with (first | (go_at_call 83; refine H2.out.mono ?_; rintro e w2 ⟨rfl, rfl⟩))
        go_ret3
        exact ⟨some _, 0, 0, by rw [HC.out, HF.out]; rfl, by rw [HU.out]; exact ls_some _ _ _, HE3.out⟩
      cases h2 : upB ltR Lw
      · have HF : Hid (mpOk k Ls = false) := by
          show _ = _
          unfold mpOk lsOk
          rw [all_no (i := i) (by omega) (by rw [HLW.out]; unfold ascOk; rw [h1, h2]; rfl)]; simp
        have HU : Hid (mpOut k Ls = []) := by show _ = _; unfold mpOut; rw [HF.out]; rfl
        have HC : Hid (mpC k Ls = 0) := by show _ = _; unfold mpC; rw [HF.out]; rfl
        rw [h1] at H2; rw [h2] at H3
        clear h1 h2 hr HE3
        go_wp2_with (first | (go_at_call 83; refine H2.out.mono ?_; rintro e w2 ⟨rfl, rfl⟩) | (go_at_call 139; refine H3.out.mono ?_; rintro e w3 ⟨rfl, hb⟩; have HB3 := Lib.hid (below_tr HB.out hb HB.out.size); clear hb))
        go_ret3
        exact ⟨some _, 0, 0, by rw [HC.out, HF.out]; rfl, by rw [HU.out]; exact ls_some _ _ _, HB3.out.alloc HB3.out.size _⟩
      have HOK : Hid (ascOk Lw = true) := by show _ = _; unfold ascOk; rw [h1, h2]; rfl
      have hLl := okRecs_le h1
      rw [h1] at H2; rw [h2] at H3
      have HHC := Lib.hid (World.block_lt_of_cell? wr _ hc)
      have hcc := hc
      clear h1 h2 hr HE3
      go_wp2_with (first | (go_at_call 83; refine H2.out.mono ?_; rintro e w2 ⟨rfl, rfl⟩) | (go_at_call 139; refine H3.out.mono ?_; rintro e w3 ⟨rfl, hb⟩; have HB3 := Lib.hid (below_tr HB.out hb HB.out.size); have hc3 := (hb.cell (p := ⟨lb, lof + i, none⟩) HHC.out).trans hcc; clear hb))
      go_roundw
      case rel => exact ⟨i + 1, tn + Lw.length, by go_num, by go_num, by omega, by omega, Lib.hid (by rw [totL_step (by omega), HLW.out, ← HT.out]), Lib.hid (by rw [all_step (by omega), HALL.out, HLW.out, HOK.out]; rfl), HB3.out⟩
      case measure => simp [intOf] <;> omega
    · obtain rfl : i = n := by omega
      have q1 : decide ((i : Int) < (i : Int)) = false := by simp
      have HIN := Lib.hid (l1In_any k 2 16 wr)
      have HE3 := Lib.hid (HB.out.alloc HB.out.size (.cells #[] 24))
      have HE4 : Hid (lsOk Ls = decide (tn ≤ 64)) := by
        show _ = _
        have h1 := HALL.out
        have h2 := HT.out
        rw [List.take_of_length_le (by omega)] at h1 h2
        unfold lsOk
        rw [h1, h2]; rfl
      cases hin : inB k 2 16
      · have HO : Hid (mpOk k Ls = false) := by show _ = _; unfold mpOk; rw [hin]; rfl
        have HU : Hid (mpOut k Ls = []) := by show _ = _; unfold mpOut; rw [HO.out]; rfl
        have HC : Hid (mpC k Ls = 0) := by show _ = _; unfold mpC; rw [HO.out]; rfl
        rw [hin] at HIN
        clear hin
        go_wp2_with (go_at_call 89; refine HIN.out.mono ?_; rintro e w' ⟨rfl, rfl⟩)
        go_ret3
        exact ⟨some _, 0, 0, by rw [HC.out, HO.out]; rfl, by rw [HU.out]; exact ls_some _ _ _, HE3.out⟩
      obtain ⟨i1, i2⟩ := inB_iff.1 hin
      rw [hin] at HIN
      by_cases h64 : tn ≤ 64
      · have q2 : decide ((64 : Int) < (tn : Int)) = false := decide_eq_false (by omega)
        have hls : lsOk Ls = true := by rw [HE4.out, decide_eq_true h64]
        have HO : Hid (mpOk k Ls = true) := by show _ = _; unfold mpOk; rw [hin, hls]; rfl
        have HU : Hid (mpOut k Ls = Mg.passOf k.toNat Ls) := by show _ = _; unfold mpOut; rw [if_pos HO.out]
        have HC : Hid (mpC k Ls = Mg.passC k.toNat Ls) := by show _ = _; unfold mpC; rw [if_pos HO.out]
        obtain ⟨ha, hN⟩ := lsOk_asc hls
        have HA := Lib.hid ha; have HNN := Lib.hid hN
        obtain ⟨m, rfl⟩ : ∃ m : Nat, k = (m : Int) := ⟨k.toNat, by omega⟩
        rw [Int.toNat_natCast] at HU HC
        clear ha hN hls hin
        go_wp2_with (go_at_call 89; refine HIN.out.mono ?_; rintro e w' ⟨rfl, rfl⟩)
        have HKW := Lib.hid (l17Pass_any a i c m Ls wr hn (by omega) (by omega) (H.out.same HB.out) (by have := HNN.out; omega) HA.out)
        unfold LsEnd2 at HKW
        refine HKW.out.mono ?_
        rintro e w2 ⟨a2, n2, c2, hs2, rfl, hlo, hb⟩
        have HB2 := Lib.hid (below_tr HB.out hb HB.out.size)
        have HL := Lib.hid hlo.ls
        clear hlo hb HKW
        go_wp2
        go_ret3
        exact ⟨_, _, _, by rw [HC.out, HO.out]; rfl, by rw [HU.out]; exact HL.out, HB2.out⟩
      · have q2 : decide ((64 : Int) < (tn : Int)) = true := decide_eq_true (by omega)
        have HO : Hid (mpOk k Ls = false) := by show _ = _; unfold mpOk; rw [HE4.out, decide_eq_false h64]; simp
        have HU : Hid (mpOut k Ls = []) := by show _ = _; unfold mpOut; rw [HO.out]; rfl
        have HC : Hid (mpC k Ls = 0) := by show _ = _; unfold mpC; rw [HO.out]; rfl
        clear hin
        go_wp2_with (go_at_call 89; refine HIN.out.mono ?_; rintro e w' ⟨rfl, rfl⟩)
        go_ret3
        exact ⟨some _, 0, 0, by rw [HC.out, HO.out]; rfl, by rw [HU.out]; exact ls_some _ _ _, HE3.out⟩

end Go.Proofs.Ytkckmjajjdpodaa
