/- Several texts in one: lemmas and walks of the functions that the laws reach. -/
import Derived.Test.YtkckmjajjdpodaaY10
import Derived.Test.YtkckmjajjdpodaaY0
import Derived.Test.YtkckmjajjdpodaaY1
import Derived.ProofKit
import Derived.OpenShut
import Derived.Deep.Slices
import Derived.Deep.Fields
import Derived.ChangeSame
import Derived.Lib.SmallJoins

/- Walks: KWayMerge of both packages. -/
namespace Go.Proofs.Ytkckmjajjdpodaa
open Go.RowKit Go.Sort
set_option linter.unusedVariables false

def ascOk (L : List (Int × Int)) : Bool := okRecs L && upB ltR L
def totL (Ls : List (List (Int × Int))) : Nat := Ls.flatten.length
def lsOk (Ls : List (List (Int × Int))) : Bool := Ls.all ascOk && decide (totL Ls ≤ 64)
def kmOk (Ls : List (List (Int × Int))) : Bool := decide (1 ≤ Ls.length ∧ Ls.length ≤ 16) && lsOk Ls
def kmOut (Ls : List (List (Int × Int))) : List (Int × Int) := if kmOk Ls = true then Mg.srtP Ls.flatten else []
def kmC (Ls : List (List (Int × Int))) : Nat := if kmOk Ls = true then Mg.kcs Ls else 0
theorem totL_step {Ls : List (List (Int × Int))} {i : Nat} (h : i < Ls.length) : totL (Ls.take (i + 1)) = totL (Ls.take i) + (Ls.getD i []).length := by
  unfold totL
  rw [List.take_succ_eq_append_getElem h, List.flatten_append, List.length_append, List.getD_eq_getElem?_getD, List.getElem?_eq_getElem h]
  simp
theorem all_step {Ls : List (List (Int × Int))} {i : Nat} {p : List (Int × Int) → Bool} (h : i < Ls.length) : (Ls.take (i + 1)).all p = ((Ls.take i).all p && p (Ls.getD i [])) := by
  rw [List.take_succ_eq_append_getElem h, List.all_append, List.getD_eq_getElem?_getD, List.getElem?_eq_getElem h]
  simp
theorem all_no {Ls : List (List (Int × Int))} {i : Nat} {p : List (Int × Int) → Bool} (h : i < Ls.length) (hp : p (Ls.getD i []) = false) : Ls.all p = false := by
  rw [List.all_eq_false]
  rw [List.getD_eq_getElem?_getD, List.getElem?_eq_getElem h] at hp
  exact ⟨Ls[i], List.getElem_mem h, by simpa using hp⟩
theorem ascOk_len {L : List (Int × Int)} (h : ascOk L = true) : L.length ≤ 64 := by
  unfold ascOk at h
  simp only [Bool.and_eq_true] at h
  exact okRecs_le h.1

set_option maxRecDepth 100000 in
set_option maxHeartbeats 4000000 in
theorem areLists_any (a : Option Addr) (n c : Nat) (Ls : List (List (Int × Int))) (w : World) (hn : n ≤ 1000) (h : LsAt w a n c Ls) (hLb : ∀ i, (Ls.getD i []).length ≤ 1000000) :
    Calls Try.prog 137 #[.slice a n c] w fun e w' => e = .returned (.bool (lsOk Ls)) ∧ Below w.heap.size w w' := by
  have H := Lib.hid h
  have hl := h.len
  clear h
  go_enter Try.func137, Try.ntmps137
  go_wp2
  go_loopw [3, 8] (fun tt iv wr => ∃ i tn : Nat, iv = .int .i64 i ∧ tt = .int .i64 tn ∧ i ≤ n ∧ tn ≤ 64 * i ∧ Hid (tn = totL (Ls.take i)) ∧ Hid ((Ls.take i).all ascOk = true) ∧ Below w.heap.size w wr) (fun _ iv _ => n - (intOf iv).toNat)
  case atStart => exact ⟨0, 0, rfl, rfl, by omega, by omega, Lib.hid rfl, Lib.hid rfl, Below.refl _ _⟩
  case round =>
    obtain ⟨i, tn, rfl, rfl, hi, ht, HT, HALL, hb⟩ := hrel
    have HB := Lib.hid hb
    clear hb
    by_cases hlt : i < n
    · have q1 : decide ((i : Int) < (n : Int)) = true := decide_eq_true (by omega)
      obtain ⟨lb, lof, xa, d, rfl, hc, hr⟩ := (H.out.same HB.out).at hlt
      obtain ⟨Lw, hLw⟩ : ∃ Lw, Ls.getD i [] = Lw := ⟨_, rfl⟩
      rw [hLw] at hc hr
      have HLW := Lib.hid hLw
      clear hLw
      have b1 : (0 : Int) ≤ (i : Int) := by omega
      have t1 : ((i : Int)).toNat = i := by omega
      cases hok : ascOk Lw
      · have HF : Hid (lsOk Ls = false) := by
          show _ = _
          unfold lsOk
          rw [all_no (i := i) (by omega) (by rw [HLW.out]; exact hok)]; rfl
        have hbig : Lw.length ≤ 9223372036854775807 := by have := hLb i; rw [HLW.out] at this; omega
        · have HA := Lib.hid (areAscending_any xa Lw.length d Lw wr hbig hr)
          rw [show (okRecs Lw && upB ltR Lw) = false from hok] at HA
          clear hok hr
          go_wp2_with fail
          refine HA.out.mono ?_
          rintro e w2 ⟨rfl, hb⟩
          have HB2 := Lib.hid (below_tr HB.out hb HB.out.size)
          clear hb
          go_wp2
          go_ret
          exact ⟨ret_bool HF.out.symm, HB2.out⟩
      · have hLl := ascOk_len hok
        have HA := Lib.hid (areAscending_any xa Lw.length d Lw wr (by omega) hr)
        rw [show (okRecs Lw && upB ltR Lw) = true from hok] at HA
        have HOK := Lib.hid hok
        clear hok hr
        go_wp2_with fail
        refine HA.out.mono ?_
        rintro e w2 ⟨rfl, hb⟩
        have HB2 := Lib.hid (below_tr HB.out hb HB.out.size)
        clear hb
        go_wp2
        go_roundw
        case rel => exact ⟨i + 1, tn + Lw.length, by go_num, by go_num, by omega, by omega, Lib.hid (by rw [totL_step (by omega), HLW.out, ← HT.out]), Lib.hid (by rw [all_step (by omega), HALL.out, HLW.out, HOK.out]; rfl), HB2.out⟩
        case measure => simp [intOf] <;> omega
    · obtain rfl : i = n := by omega
      have q1 : decide ((i : Int) < (i : Int)) = false := by simp
      have HE : Hid (lsOk Ls = decide (tn ≤ 64)) := by
        show _ = _
        have h1 := HALL.out
        have h2 := HT.out
        rw [List.take_of_length_le (by omega)] at h1 h2
        unfold lsOk
        rw [h1, h2]; rfl
      go_wp2
      go_ret
      refine ⟨ret_bool ?_, HB.out⟩
      rw [HE.out]
      by_cases h64 : tn ≤ 64
      · rw [decide_eq_true h64, decide_eq_true (by omega)]
      · rw [decide_eq_false h64, decide_eq_false (by omega)]

theorem kmOk_eq {Ls : List (List (Int × Int))} {n : Nat} (hl : Ls.length = n) : kmOk Ls = (inB (n : Int) 1 16 && lsOk Ls) := by
  unfold kmOk inB
  rw [hl, ← Bool.decide_and]
  congr 1
  exact decide_eq_decide.2 (by omega)
theorem lsOk_asc {Ls : List (List (Int × Int))} (h : lsOk Ls = true) : (∀ l ∈ Ls, Mg.Asc Mg.ltF l) ∧ Ls.flatten.length ≤ 64 := by
  unfold lsOk at h
  simp only [Bool.and_eq_true, decide_eq_true_eq, List.all_eq_true] at h
  refine ⟨fun l hl => ?_, h.2⟩
  have := h.1 l hl
  unfold ascOk at this
  simp only [Bool.and_eq_true] at this
  exact upB_asc (Mg.swK Prod.fst) this.2
theorem srtP_len (l : List (Int × Int)) : (Mg.srtP l).length = l.length := Mg.srt_length l

set_option maxRecDepth 100000 in
set_option maxHeartbeats 4000000 in
theorem implKWayMerge_any (a : Option Addr) (n c : Nat) (Ls : List (List (Int × Int))) (w : World) (hn : n ≤ 1000) (h : LsAt w a n c Ls) (hLb : ∀ i, (Ls.getD i []).length ≤ 1000000) :
    Calls Try.prog 65 #[.slice a n c] w (Rd3 w (kmOut Ls) (kmC Ls : Nat) (kmOk Ls)) := by
  have H := Lib.hid h
  have hl := h.len
  have HE := Lib.hid (kmOk_eq hl)
  have HIN := Lib.hid (in_any (n : Int) 1 16 w)
  have HAR := Lib.hid (areLists_any a n c Ls w hn h hLb)
  clear h hLb
  unfold Rd3
  cases hin : inB (n : Int) 1 16
  · have HO : Hid (kmOk Ls = false) := by show _ = _; rw [HE.out, hin]; rfl
    have HU : Hid (kmOut Ls = []) := by show _ = _; unfold kmOut; rw [HO.out]; rfl
    have HC : Hid (kmC Ls = 0) := by show _ = _; unfold kmC; rw [HO.out]; rfl
    rw [hin] at HIN
    clear hin
    go_enter Try.func65, Try.ntmps65
    go_wp2_with (go_at_call 86; refine HIN.out.mono ?_; rintro e w' ⟨rfl, rfl⟩)
    go_ret3
    exact ⟨none, 0, 0, by rw [HC.out, HO.out]; rfl, by rw [HU.out]; exact rd_nil _, Below.refl _ _⟩
  · have hin' := inB_iff.1 hin
    have hk0 : 0 < n := by omega
    have hk : n ≤ 100 := by omega
    rw [hin] at HIN
    cases hls : lsOk Ls
    · have HO : Hid (kmOk Ls = false) := by show _ = _; rw [HE.out, hls]; simp
      have HU : Hid (kmOut Ls = []) := by show _ = _; unfold kmOut; rw [HO.out]; rfl
      have HC : Hid (kmC Ls = 0) := by show _ = _; unfold kmC; rw [HO.out]; rfl
      rw [hls] at HAR
      clear hin hls hin'
      go_enter Try.func65, Try.ntmps65
      go_wp2_with (first | (go_at_call 86; refine HIN.out.mono ?_; rintro e w' ⟨rfl, rfl⟩) | (go_at_call 137; refine HAR.out.mono ?_; rintro e w1 ⟨rfl, hb⟩; have HB := Lib.hid hb; clear hb))
      go_ret3
      exact ⟨none, 0, 0, by rw [HC.out, HO.out]; rfl, by rw [HU.out]; exact rd_nil _, HB.out⟩
    · have HO : Hid (kmOk Ls = true) := by show _ = _; rw [HE.out, hls, hin]; rfl
      have HU : Hid (kmOut Ls = Mg.srtP Ls.flatten) := by show _ = _; unfold kmOut; rw [if_pos HO.out]
      have HC : Hid (kmC Ls = Mg.kcs Ls) := by show _ = _; unfold kmC; rw [if_pos HO.out]
      obtain ⟨ha, hN⟩ := lsOk_asc hls
      have HA := Lib.hid ha; have HNN := Lib.hid hN
      rw [hls] at HAR
      obtain ⟨b, off, rfl⟩ := lsAt_addr H.out hk0
      clear hin hls hin' ha hN
      go_enter Try.func65, Try.ntmps65
      go_wp2_with (first | (go_at_call 86; refine HIN.out.mono ?_; rintro e w' ⟨rfl, rfl⟩) | (go_at_call 137; refine HAR.out.mono ?_; rintro e w1 ⟨rfl, hb⟩; have HB := Lib.hid hb; clear hb))
      have HKW := Lib.hid (kWay_any b off n c Ls w1 hk0 hk (H.out.same HB.out) (by have := HNN.out; omega) HA.out)
      unfold KwEnd at HKW
      generalize Ls.flatten.length = N at HKW
      refine HKW.out.mono ?_
      rintro e w2 ⟨g, c2, rfl, ho, hb⟩
      have HB2 := Lib.hid (below_tr HB.out hb HB.out.size)
      have HRD := Lib.hid (rd_own ho)
      clear ho hb HKW
      go_wp2
      go_ret3
      exact ⟨_, _, _, by rw [HC.out, HO.out]; rfl, by rw [HU.out]; exact HRD.out, HB2.out⟩

set_option maxRecDepth 100000 in
set_option maxHeartbeats 4000000 in
theorem specKWayMerge_any (a : Option Addr) (n c : Nat) (Ls : List (List (Int × Int))) (w : World) (hn : n ≤ 1000) (h : LsAt w a n c Ls) (hLb : ∀ i, (Ls.getD i []).length ≤ 1000000) :
    Calls Try.prog 66 #[.slice a n c] w (Rd3 w (kmOut Ls) (kmC Ls : Nat) (kmOk Ls)) := by
  have H := Lib.hid h
  have hl := h.len
  have HE := Lib.hid (kmOk_eq hl)
  have HIN := Lib.hid (l1In_any (n : Int) 1 16 w)
  have HLb := Lib.hid hLb
  have HE0 := Lib.hid (belowNew w (.cells #[] 72))
  clear h hLb
  unfold Rd3
  cases hin : inB (n : Int) 1 16
  · have HO : Hid (kmOk Ls = false) := by show _ = _; rw [HE.out, hin]; rfl
    have HU : Hid (kmOut Ls = []) := by show _ = _; unfold kmOut; rw [HO.out]; rfl
    have HC : Hid (kmC Ls = 0) := by show _ = _; unfold kmC; rw [HO.out]; rfl
    rw [hin] at HIN
    clear hin
    go_enter Try.func66, Try.ntmps66
    go_wp2_with (go_at_call 89; refine HIN.out.mono ?_; rintro e w' ⟨rfl, rfl⟩)
    go_ret3
    exact ⟨some _, 0, 0, by rw [HC.out, HO.out]; rfl, by rw [HU.out]; exact rd_some _ _ _, HE0.out⟩
  · have hin' := inB_iff.1 hin
    have hk0 : 0 < n := by omega
    have hk : n ≤ 100 := by omega
    rw [hin] at HIN
    have HE2 : Hid (kmOk Ls = lsOk Ls) := by show _ = _; rw [HE.out, hin]; rfl
    clear hin HE hin'
    go_enter Try.func66, Try.ntmps66
    go_wp2_with (go_at_call 89; refine HIN.out.mono ?_; rintro e w' ⟨rfl, rfl⟩)
    go_loopw [5, 6] (fun tt iv wr => ∃ i tn : Nat, iv = .int .i64 i ∧ tt = .int .i64 tn ∧ i ≤ n ∧ tn ≤ 64 * i ∧ Hid (tn = totL (Ls.take i)) ∧ Hid ((Ls.take i).all ascOk = true) ∧ Below w.heap.size w wr) (fun _ iv _ => n - (intOf iv).toNat)
    case atStart => exact ⟨0, 0, rfl, rfl, by omega, by omega, Lib.hid rfl, Lib.hid rfl, Below.refl _ _⟩
    case round =>
      obtain ⟨i, tn, rfl, rfl, hi, ht, HT, HALL, hb⟩ := hrel
      have HB := Lib.hid hb
      clear hb
      by_cases hlt : i < n
      · have q1 : decide ((i : Int) < (n : Int)) = true := decide_eq_true (by omega)
        obtain ⟨lb, lof, xa, d, rfl, hc, hr⟩ := (H.out.same HB.out).at hlt
        obtain ⟨Lw, hLw⟩ : ∃ Lw, Ls.getD i [] = Lw := ⟨_, rfl⟩
        rw [hLw] at hc hr
        have HLW := Lib.hid hLw
        have hbig : Lw.length ≤ 1000000 := by have := HLb.out i; rw [hLw] at this; exact this
        clear hLw
        have b1 : (0 : Int) ≤ (i : Int) := by omega
        have b2 : (i : Int) < (n : Int) := by omega
        have t1 : ((i : Int)).toNat = i := by omega
        have H2 := Lib.hid (l2Records_any xa d Lw wr (by omega) hr.recs)
        have H3 := Lib.hid (l5Ascending_any xa Lw.length d Lw wr (by omega) hr)
        have HE3 := Lib.hid (HB.out.alloc HB.out.size (.cells #[] 72))
        cases h1 : okRecs Lw
        · have HF : Hid (kmOk Ls = false) := by
            show _ = _
            rw [HE2.out]
            unfold lsOk
            rw [all_no (i := i) (by omega) (by rw [HLW.out]; unfold ascOk; rw [h1]; rfl)]; rfl
          have HU : Hid (kmOut Ls = []) := by show _ = _; unfold kmOut; rw [HF.out]; rfl
          have HC : Hid (kmC Ls = 0) := by show _ = _; unfold kmC; rw [HF.out]; rfl
          rw [h1] at H2
          clear h1 hr
          go_wp2_with (first | (go_at_call 83; refine H2.out.mono ?_; rintro e w2 ⟨rfl, rfl⟩))
          go_ret3
          exact ⟨some _, 0, 0, by rw [HC.out, HF.out]; rfl, by rw [HU.out]; exact rd_some _ _ _, HE3.out⟩
        cases h2 : upB ltR Lw
        · have HF : Hid (kmOk Ls = false) := by
            show _ = _
            rw [HE2.out]
            unfold lsOk
            rw [all_no (i := i) (by omega) (by rw [HLW.out]; unfold ascOk; rw [h1, h2]; rfl)]; rfl
          have HU : Hid (kmOut Ls = []) := by show _ = _; unfold kmOut; rw [HF.out]; rfl
          have HC : Hid (kmC Ls = 0) := by show _ = _; unfold kmC; rw [HF.out]; rfl
          rw [h1] at H2; rw [h2] at H3
          clear h1 h2 hr HE3
          go_wp2_with (first | (go_at_call 83; refine H2.out.mono ?_; rintro e w2 ⟨rfl, rfl⟩) | (go_at_call 139; refine H3.out.mono ?_; rintro e w3 ⟨rfl, hb⟩; have HB3 := Lib.hid (below_tr HB.out hb HB.out.size); clear hb))
          go_ret3
          exact ⟨some _, 0, 0, by rw [HC.out, HF.out]; rfl, by rw [HU.out]; exact rd_some _ _ _, HB3.out.alloc HB3.out.size _⟩
        have HOK : Hid (ascOk Lw = true) := by show _ = _; unfold ascOk; rw [h1, h2]; rfl
        have hLl := okRecs_le h1
        rw [h1] at H2; rw [h2] at H3
        have HHC := Lib.hid (World.block_lt_of_cell? wr _ hc)
        have hcc := hc
        clear h1 h2 hr HE3
        go_wp2_with (first | (go_at_call 83; refine H2.out.mono ?_; rintro e w2 ⟨rfl, rfl⟩) | (go_at_call 139; refine H3.out.mono ?_; rintro e w3 ⟨rfl, hb⟩; have HB3 := Lib.hid (below_tr HB.out hb HB.out.size); have hc3 := (hb.cell (p := ⟨lb, lof + i, none⟩) HHC.out).trans hcc; clear hb))
        go_roundw
        case rel => exact ⟨i + 1, tn + Lw.length, by go_num, by go_num, by omega, by omega, Lib.hid (by rw [totL_step (by omega), HLW.out, ← HT.out]), Lib.hid (by rw [all_step (by omega), HALL.out, HLW.out, HOK.out]; rfl), HB3.out⟩
        case measure => simp [intOf] <;> omega
      · obtain rfl : i = n := by omega
        have q1 : decide ((i : Int) < (i : Int)) = false := by simp
        have HE4 : Hid (kmOk Ls = decide (tn ≤ 64)) := by
          show _ = _
          have h1 := HALL.out
          have h2 := HT.out
          rw [List.take_of_length_le (by omega)] at h1 h2
          rw [HE2.out]
          unfold lsOk
          rw [h1, h2]; rfl
        by_cases h64 : tn ≤ 64
        · have q2 : decide ((64 : Int) < (tn : Int)) = false := decide_eq_false (by omega)
          have HO : Hid (kmOk Ls = true) := by show _ = _; rw [HE4.out, decide_eq_true h64]
          have HU : Hid (kmOut Ls = Mg.srtP Ls.flatten) := by show _ = _; unfold kmOut; rw [if_pos HO.out]
          have HC : Hid (kmC Ls = Mg.kcs Ls) := by show _ = _; unfold kmC; rw [if_pos HO.out]
          have hls : lsOk Ls = true := by rw [← HE2.out, HO.out]
          obtain ⟨ha, hN⟩ := lsOk_asc hls
          have HA := Lib.hid ha; have HNN := Lib.hid hN
          obtain ⟨b, off, rfl⟩ := lsAt_addr H.out hk0
          clear ha hN hls
          go_wp2_with fail
          have HKW := Lib.hid (l16Merge_any b off i c Ls wr hk0 hk (H.out.same HB.out) (by have := HNN.out; omega) HA.out)
          unfold KwEnd at HKW
          generalize Ls.flatten.length = N at HKW
          refine HKW.out.mono ?_
          rintro e w2 ⟨g, c2, rfl, ho, hb⟩
          have HB2 := Lib.hid (below_tr HB.out hb HB.out.size)
          have HRD := Lib.hid (rd_own ho)
          clear ho hb HKW
          go_wp2
          go_ret3
          exact ⟨_, _, _, by rw [HC.out, HO.out]; rfl, by rw [HU.out]; exact HRD.out, HB2.out⟩
        · have q2 : decide ((64 : Int) < (tn : Int)) = true := decide_eq_true (by omega)
          have HO : Hid (kmOk Ls = false) := by show _ = _; rw [HE4.out, decide_eq_false h64]
          have HU : Hid (kmOut Ls = []) := by show _ = _; unfold kmOut; rw [HO.out]; rfl
          have HC : Hid (kmC Ls = 0) := by show _ = _; unfold kmC; rw [HO.out]; rfl
          have HE3 := Lib.hid (HB.out.alloc HB.out.size (.cells #[] 72))
          go_wp2
          go_ret3
          exact ⟨some _, 0, 0, by rw [HC.out, HO.out]; rfl, by rw [HU.out]; exact rd_some _ _ _, HE3.out⟩

end Go.Proofs.Ytkckmjajjdpodaa

/- Lists of lists that the call itself makes; the draw of the law FnKWay. -/
namespace Go.Proofs.Ytkckmjajjdpodaa
open Go.RowKit Go.Sort
set_option linter.unusedVariables false

theorem Try.infoLsE : (Try.prog.info? 24).map (fun i => (i.zero, i.size, i.bytes)) = some (some (.slice none 0 0), 1, 24) := by kernel_rfl
theorem slLs : SlT Try.prog 89 24 (.slice none 0 0) 1 24 := ⟨Try.underlying89, info_parts Try.infoLsE, rfl, by decide, by decide⟩

theorem Rd.grown {w w' : World} {row : Option Nat} {a : Option Addr} {n c : Nat} {L : List (Int × Int)} (h : Rd w a n c L) (hg : w.grownBy w' row) (hne : ∀ b off, a = some ⟨b, off, none⟩ → row ≠ some b) : Rd w' a n c L :=
  ⟨h.recs.grown hg hne, h.len, h.nil, h.cap⟩

/-- A row of headers of the call's own, each list in a block of its own. -/
structure LoH (w : World) (B : Nat) (o : Value) (n : Nat) (hs : List Value) (Ls : List (List (Int × Int))) : Prop where
  own : w.ownsRow B 24 1 o n hs
  hds : Hds w hs Ls
  far : ∀ (j b off m c : Nat), hs[j]? = some (.slice (some ⟨b, off, none⟩) m c) → B ≤ b ∧ o.ownBlock ≠ some b ∧ b < w.heap.size
theorem LoH.len {w : World} {B n : Nat} {o : Value} {hs : List Value} {Ls : List (List (Int × Int))} (h : LoH w B o n hs Ls) : Ls.length = n := by
  rw [← h.hds.1]; have := h.own.1; omega
theorem loH_nil (w : World) : LoH (w.alloc (.cells #[] 24)) w.heap.size (.slice (some ⟨w.heap.size, 0, none⟩) 0 0) 0 [] [] :=
  ⟨own_lit (w := w) (e := 24) (size := 1) #[] 0 (by omega) rfl, hds_nil _, fun j b off m c h => by simp at h⟩
theorem LoH.mono {w : World} {B B' n : Nat} {o : Value} {hs : List Value} {Ls : List (List (Int × Int))} (h : LoH w B o n hs Ls) (hB : B' ≤ B) : LoH w B' o n hs Ls :=
  ⟨own_mono h.own hB, h.hds, fun j b off m c e => ⟨Nat.le_trans hB (h.far j b off m c e).1, (h.far j b off m c e).2⟩⟩
theorem LoH.same {w w' : World} {B n : Nat} {o : Value} {hs : List Value} {Ls : List (List (Int × Int))} (h : LoH w B o n hs Ls) (hb : Below w.heap.size w w') : LoH w' B o n hs Ls :=
  ⟨own_below h.own (Nat.le_refl _) hb, h.hds.same hb, fun j b off m c e => ⟨(h.far j b off m c e).1, (h.far j b off m c e).2.1, Nat.lt_of_lt_of_le (h.far j b off m c e).2.2 hb.size⟩⟩
theorem hds_grown {w w' : World} {row : Option Nat} {hs : List Value} {Ls : List (List (Int × Int))} (h : Hds w hs Ls) (hg : w.grownBy w' row) (hne : ∀ (j b off m c : Nat), hs[j]? = some (.slice (some ⟨b, off, none⟩) m c) → row ≠ some b) : Hds w' hs Ls := by
  refine ⟨h.1, fun j v L h1 h2 => ?_⟩
  obtain ⟨x, c, e, hr⟩ := h.2 j v L h1 h2
  refine ⟨x, c, e, hr.grown hg fun b off e2 => ?_⟩
  subst e e2
  exact hne j b off _ _ h1
theorem LoH.grow {w w' : World} {B n : Nat} {o : Value} {hs : List Value} {Ls : List (List (Int × Int))} {row : Option Nat} (h : LoH w B o n hs Ls) (hg : w.grownBy w' row) (hr : ∀ b, row = some b → b < B) : LoH w' B o n hs Ls :=
  ⟨own_other h.own hg (fun q hq e => by have := (h.own.lt q hq).1; have := hr _ e; omega), hds_grown h.hds hg (fun j b off m c e e2 => by have := (h.far j b off m c e).1; have := hr _ e2; omega), fun j b off m c e => ⟨(h.far j b off m c e).1, (h.far j b off m c e).2.1, Nat.lt_of_lt_of_le (h.far j b off m c e).2.2 hg.size⟩⟩
/-- Another block is written that lies behind all of the row's. -/
theorem LoH.grow2 {w w' : World} {B n S : Nat} {o : Value} {hs : List Value} {Ls : List (List (Int × Int))} {row : Option Nat} (h : LoH w B o n hs Ls) (hg : w.grownBy w' row) (hr : ∀ b, row = some b → S ≤ b) (ho : ∀ b, o.ownBlock = some b → row ≠ some b) (hf : ∀ (j b off m c : Nat), hs[j]? = some (.slice (some ⟨b, off, none⟩) m c) → b < S := by assumption) : LoH w' B o n hs Ls :=
  ⟨own_other h.own hg ho, hds_grown h.hds hg (fun j b off m c e e2 => by have := hf j b off m c e; have := hr _ e2; omega), fun j b off m c e => ⟨(h.far j b off m c e).1, (h.far j b off m c e).2.1, Nat.lt_of_lt_of_le (h.far j b off m c e).2.2 hg.size⟩⟩
theorem LoH.app {w w' : World} {B n m c : Nat} {o o' : Value} {hs : List Value} {Ls : List (List (Int × Int))} {x : Option Addr} {L : List (Int × Int)} (h : LoH w B o n hs Ls) (he : Rd w x m c L) (hx : ∀ b off, x = some ⟨b, off, none⟩ → B ≤ b ∧ o.ownBlock ≠ some b ∧ b < w.heap.size)
    (hown : w'.ownsRow B 24 1 o' (n + 1) (hs ++ [.slice x m c])) (hg : w.grownBy w' o.ownBlock) (ht : ∀ b, o'.ownBlock = some b → o.ownBlock = some b ∨ w.heap.size ≤ b) : LoH w' B o' (n + 1) (hs ++ [.slice x m c]) (Ls ++ [L]) := by
  refine ⟨hown, (hds_grown h.hds hg (fun j b off m c e => (h.far j b off m c e).2.1)).snoc (hdAt_rd (he.grown hg (fun b off e => (hx b off e).2.1))), fun j b off m2 c2 e => ?_⟩
  rcases Nat.lt_or_ge j hs.length with hj | hj
  · rw [List.getElem?_append_left hj] at e
    obtain ⟨f1, f2, f3⟩ := h.far j b off m2 c2 e
    refine ⟨f1, fun e2 => ?_, Nat.lt_of_lt_of_le f3 hg.size⟩
    rcases ht b e2 with h1 | h1
    · exact f2 h1
    · omega
  · rw [List.getElem?_append_right hj] at e
    obtain ⟨i, hi⟩ : ∃ i, j - hs.length = i := ⟨_, rfl⟩
    rw [hi] at e
    cases i with
    | zero =>
      simp at e
      obtain ⟨f1, f2, f3⟩ := hx b off e.1
      refine ⟨f1, fun e2 => ?_, Nat.lt_of_lt_of_le f3 hg.size⟩
      rcases ht b e2 with h1 | h1
      · exact f2 h1
      · omega
    | succ i => simp at e
theorem LoH.ls {w : World} {B n c : Nat} {a : Option Addr} {hs : List Value} {Ls : List (List (Int × Int))} (h : LoH w B (.slice a n c) n hs Ls) : LsAt w a n c Ls := lsAt_own h.own h.hds
/-- A list that the call owns. -/
theorem own_far' {w : World} {S m c : Nat} {e : TypeId} {x : Option Addr} {vs : List Value} {size : Nat} (h : w.ownsRow S e size (.slice x m c) m vs) : ∀ b off, x = some ⟨b, off, none⟩ → S ≤ b ∧ b < w.heap.size := fun b off e => by
  subst e; exact h.lt b rfl

/-- Drawn lists of lists. -/
def LsDraw (w : World) (e : Ending) (w' : World) : Prop :=
  ∃ (a : Option Addr) (n c : Nat) (Ls : List (List (Int × Int))), e = .returned (.slice a n c) ∧ LsAt w' a n c Ls ∧ n ≤ 30 ∧ (∀ i, (Ls.getD i []).length ≤ 70) ∧ Below w.heap.size w w'
theorem getD_snoc_le {Ls : List (List (Int × Int))} {L : List (Int × Int)} {B : Nat} (h : ∀ i, (Ls.getD i []).length ≤ B) (hL : L.length ≤ B) : ∀ i, ((Ls ++ [L]).getD i []).length ≤ B := by
  intro i
  rcases Nat.lt_or_ge i Ls.length with hi | hi
  · rw [List.getD_eq_getElem?_getD, List.getElem?_append_left hi, ← List.getD_eq_getElem?_getD]; exact h i
  · rw [List.getD_eq_getElem?_getD, List.getElem?_append_right hi]
    obtain ⟨j, hj⟩ : ∃ j, i - Ls.length = j := ⟨_, rfl⟩
    rw [hj]
    cases j with
    | zero => simpa using hL
    | succ j => simp

set_option maxRecDepth 100000 in
set_option maxHeartbeats 8000000 in
theorem drawKWayMerge_any (ac : Option Addr) (c : Nat) (cs : List Int) (w : World) (hl : cs.length ≤ 65537) (h : BytesAt w ac cs) :
    Calls Try.prog 64 #[.slice ac cs.length c] w (LsDraw w) := by
  obtain ⟨h1, h2, h3⟩ := cur_start (c := c) hl h
  obtain ⟨w1, hw1⟩ : ∃ W, W = w.alloc (.cells #[.slice ac cs.length c, .int .i64 0, .int .u64 0] 107) := ⟨_, rfl⟩
  rw [← hw1] at h1 h3
  have hsz : w1.heap.size = w.heap.size + 1 := by rw [hw1]; simp
  have hD0 : Drawn w1 w1 w.heap.size ac cs 0 := ⟨h1, grown_refl _ _, by omega, fun h0 b off e => by have := h2 h0 b off e; omega⟩
  have HD1 := Lib.hid (hD0.below (belowNew w1 (.cells #[] 24)))
  have HL1 := Lib.hid (loH_nil w1)
  have HB1 := Lib.hid h3
  subst hw1
  clear h h1 h2 h3 hD0
  unfold LsDraw
  go_enter Try.func64, Try.ntmps64
  go_wp2_with fail
  refine (pick_any w.heap.size ac cs 0 5 _ (by omega) (by omega) HD1.out.cur).mono ?_
  rintro e w2 ⟨⟨r, rfl, hr0, hr1⟩, hc, hg⟩
  have HD2 := Lib.hid (HD1.out.step hc hg)
  have HL2 := Lib.hid (HL1.out.grow hg (fun b e => by injection e with e; omega))
  clear hc hg HD1 HL1
  rw [hsz] at HL2
  have hwsz : w.heap.size < (w.alloc (.cells #[.slice ac cs.length c, .int .i64 0, .int .u64 0] 107)).heap.size := by omega
  generalize w.alloc (.cells #[.slice ac cs.length c, .int .i64 0, .int .u64 0] 107) = w1 at HD2 HB1 hwsz hsz
  go_wp2_with fail
  go_loopw [4, 5] (fun o iv wr => ∃ (x : Int) (n : Nat) (hs : List Value) (Ls : List (List (Int × Int))), iv = .int .i64 x ∧ -1 ≤ x ∧ (n : Int) + x ≤ 4 ∧ LoH wr (w.heap.size + 1) o n hs Ls ∧ Hid (∀ i, (Ls.getD i []).length ≤ 70) ∧ Drawn w1 wr w.heap.size ac cs (1000 * (n : Int) + 10)) (fun _ iv _ => (intOf iv + 1).toNat)
  case atStart => exact ⟨r, 0, [], [], rfl, by omega, by omega, HL2.out, Lib.hid (fun i => by simp), HD2.out.mono (by omega)⟩
  case round =>
    obtain ⟨x, n, hs, Ls, rfl, hx0, hx4, hlo, HLB, hd⟩ := hrel
    have HL3 := Lib.hid hlo; have HD3 := Lib.hid hd
    obtain ⟨oa, oc, rfl⟩ := own_slice hlo.own
    clear hlo hd HL2 HD2
    have hn5 : n ≤ 5 := by omega
    by_cases hx : 0 ≤ x
    · have q1 : decide ((0 : Int) ≤ x) = true := decide_eq_true hx
      have hh : cs ≠ [] → ∀ b off, ac = some ⟨b, off, none⟩ → b < wr.heap.size := fun h0 b off e => by
        have h1 := HD3.out.old.2 h0 b off e
        have h2 := HD3.out.grown.size
        omega
      have HRC := Lib.hid (records_any w.heap.size ac cs _ wr (by omega) HD3.out.cur hh)
      clear hh
      go_wp2_with fail
      refine HRC.out.mono ?_
      rintro e w3 ⟨a1, c1, L, rfl, ho, hl1, hD⟩
      have HD4 : Hid (Drawn w1 w3 w.heap.size ac cs (1000 * (n : Int) + 10 + 200)) := ⟨hD.cur, grown_trans HD3.out.grown hD.grown, HD3.out.old⟩
      have HL4 := Lib.hid (HL3.out.grow hD.grown (fun b e => by injection e with e; omega))
      have hsz3 := hD.grown.size
      have hobs : ∀ b, (Value.slice oa n oc).ownBlock = some b → b < wr.heap.size := fun b e => (HL3.out.own.lt b e).2
      have hBw : w.heap.size + 1 ≤ wr.heap.size := by have := HD3.out.grown.size; omega
      have HE : Hid (Rd w3 a1 L.length c1 L ∧ ∀ b off, a1 = some ⟨b, off, none⟩ → wr.heap.size ≤ b ∧ b < w3.heap.size) := ⟨rd_own ho, own_far' ho⟩
      clear ho hD HRC HL3 HD3
      obtain ⟨m, hm⟩ : ∃ m, L.length = m := ⟨_, rfl⟩
      rw [hm] at HE hl1
      rw [hm]
      by_cases h7 : 7 < m
      case' pos =>
        have q7 : decide ((7 : Int) < (m : Int)) = true := decide_eq_true (by omega)
        have hcap := HE.out.1.cap
        obtain ⟨b, off, rfl, _⟩ := recs_addr HE.out.1.recs (by omega)
        have b7 : (7 : Int) ≤ (c1 : Int) := by omega
        have HE2 : Hid (Rd w3 (some ⟨b, off, none⟩) 7 c1 (L.take 7) ∧ ∀ b' off', (some ⟨b, off, none⟩ : Option Addr) = some ⟨b', off', none⟩ → wr.heap.size ≤ b' ∧ b' < w3.heap.size) := ⟨rd_lo HE.out.1 (by omega), HE.out.2⟩
        clear HE hcap
        go_wp2_with fail
      case' neg =>
        have q7 : decide ((7 : Int) < (m : Int)) = false := decide_eq_false (by omega)
        have HE2 := HE
        clear HE
        go_wp2_with fail
      all_goals
        refine (one_any w.heap.size ac cs _ 20 _ ?h1 (by omega) HD4.out.cur).mono ?_
        case h1 => omega
        rintro e w4 ⟨⟨b4, rfl⟩, hc, hg⟩
        have HD5 := Lib.hid (HD4.out.step hc hg)
        have HL5 := Lib.hid (HL4.out.grow hg (fun b e => by injection e with e; omega))
        have HE5 := Lib.hid (And.intro (HE2.out.1.grown hg (fun b off e e2 => by injection e2 with e2; have := (HE2.out.2 b off e).1; omega)) (fun b off e => And.intro (HE2.out.2 b off e).1 (Nat.lt_of_lt_of_le (HE2.out.2 b off e).2 hg.size)))
        have hs34 := hg.size
        clear hc hg HD4 HL4 HE2
        have hbs := HD5.out.grown.size
        have hn1 : n + 1 ≤ 1099511627776 := by omega
        cases b4
      case neg.false =>
        have HST := Lib.hid (l2StableR_any (a1) c1 (L) w4 (by have := HE5.out.1.len; omega) HE5.out.1.recs HE5.out.1.nil)
        rw [show (L).length = m from HE5.out.1.len] at HST
        go_wp2_with fail
        refine HST.out.mono ?_
        rintro e w5 ⟨g6, c6, rfl, ho, hb⟩
        have HE6 : Hid (Rd w5 (some ⟨g6, 0, none⟩) m c6 (srtR (L)) ∧ ∀ b off, (some ⟨g6, 0, none⟩ : Option Addr) = some ⟨b, off, none⟩ → wr.heap.size ≤ b ∧ b < w5.heap.size) := ⟨rd_own ho, fun b off e => by have := own_far' ho b off e; omega⟩
        have HL6 := Lib.hid (HL5.out.same hb); have HD6 := Lib.hid (HD5.out.below hb)
        clear ho hb HST HE5 HL5 HD5
        have hbs5 := HE6.out.2
        have hw5 := HD6.out.grown.size
        go_wp2_with (at_builtin; refine wpList_app1 (v := .slice oa n oc) slLs rfl _ _ rfl rfl HL6.out.own [.slice (some ⟨g6, 0, none⟩) m c6] rfl rfl (by simp) (by simp [Value.oneCell']) hn1 (by omega) ?_; intro v' w7 hown' hg' ht'; generalize hGG : wpList _ _ _ _ _ _ = GG)
        have HL7 := Lib.hid (HL6.out.app HE6.out.1 (fun b off e => ⟨by have := HE6.out.2 b off e; omega, fun e2 => by have := HE6.out.2 b off e; have := hobs b e2; omega, (HE6.out.2 b off e).2⟩) hown' hg' (fun b e => ht'.elim (fun h => .inl (h ▸ e)) (fun h => .inr (by rw [h] at e; injection e with e; omega))))
        have HD7 := Lib.hid (HD6.out.app HL6.out.own (by omega) hg')
        have hle7 := HE6.out.1.len
        have HLB7 := Lib.hid (getD_snoc_le (L := srtR (L)) (B := 70) HLB.out (by rw [hle7]; omega))
        clear hown' hg' ht' HL6 HD6 HE6
        subst hGG
        go_wp2
        go_roundw
        case rel => exact ⟨x - 1, n + 1, _, _, by go_num, by omega, by omega, HL7.out, HLB7, HD7.out.mono (by omega)⟩
        case measure => simp [intOf] <;> omega
      case neg.true =>
        have HE6 := HE5; have HL6 := HL5; have HD6 := HD5
        clear HE5 HL5 HD5
        have hbs5 := HE6.out.2
        have hw5 := HD6.out.grown.size
        go_wp2_with (at_builtin; refine wpList_app1 (v := .slice oa n oc) slLs rfl _ _ rfl rfl HL6.out.own [.slice (a1) m c1] rfl rfl (by simp) (by simp [Value.oneCell']) hn1 (by omega) ?_; intro v' w7 hown' hg' ht'; generalize hGG : wpList _ _ _ _ _ _ = GG)
        have HL7 := Lib.hid (HL6.out.app HE6.out.1 (fun b off e => ⟨by have := HE6.out.2 b off e; omega, fun e2 => by have := HE6.out.2 b off e; have := hobs b e2; omega, (HE6.out.2 b off e).2⟩) hown' hg' (fun b e => ht'.elim (fun h => .inl (h ▸ e)) (fun h => .inr (by rw [h] at e; injection e with e; omega))))
        have HD7 := Lib.hid (HD6.out.app HL6.out.own (by omega) hg')
        have hle7 := HE6.out.1.len
        have HLB7 := Lib.hid (getD_snoc_le (L := L) (B := 70) HLB.out (by rw [hle7]; omega))
        clear hown' hg' ht' HL6 HD6 HE6
        subst hGG
        go_wp2
        go_roundw
        case rel => exact ⟨x - 1, n + 1, _, _, by go_num, by omega, by omega, HL7.out, HLB7, HD7.out.mono (by omega)⟩
        case measure => simp [intOf] <;> omega
      case pos.false =>
        have HST := Lib.hid (l2StableR_any (some ⟨b, off, none⟩) c1 (L.take 7) w4 (by have := HE5.out.1.len; omega) HE5.out.1.recs HE5.out.1.nil)
        rw [show (L.take 7).length = 7 from HE5.out.1.len] at HST
        go_wp2_with fail
        refine HST.out.mono ?_
        rintro e w5 ⟨g6, c6, rfl, ho, hb⟩
        have HE6 : Hid (Rd w5 (some ⟨g6, 0, none⟩) 7 c6 (srtR (L.take 7)) ∧ ∀ b off, (some ⟨g6, 0, none⟩ : Option Addr) = some ⟨b, off, none⟩ → wr.heap.size ≤ b ∧ b < w5.heap.size) := ⟨rd_own ho, fun b off e => by have := own_far' ho b off e; omega⟩
        have HL6 := Lib.hid (HL5.out.same hb); have HD6 := Lib.hid (HD5.out.below hb)
        clear ho hb HST HE5 HL5 HD5
        have hbs5 := HE6.out.2
        have hw5 := HD6.out.grown.size
        go_wp2_with (at_builtin; refine wpList_app1 (v := .slice oa n oc) slLs rfl _ _ rfl rfl HL6.out.own [.slice (some ⟨g6, 0, none⟩) 7 c6] rfl rfl (by simp) (by simp [Value.oneCell']) hn1 (by omega) ?_; intro v' w7 hown' hg' ht'; generalize hGG : wpList _ _ _ _ _ _ = GG)
        have HL7 := Lib.hid (HL6.out.app HE6.out.1 (fun b off e => ⟨by have := HE6.out.2 b off e; omega, fun e2 => by have := HE6.out.2 b off e; have := hobs b e2; omega, (HE6.out.2 b off e).2⟩) hown' hg' (fun b e => ht'.elim (fun h => .inl (h ▸ e)) (fun h => .inr (by rw [h] at e; injection e with e; omega))))
        have HD7 := Lib.hid (HD6.out.app HL6.out.own (by omega) hg')
        have hle7 := HE6.out.1.len
        have HLB7 := Lib.hid (getD_snoc_le (L := srtR (L.take 7)) (B := 70) HLB.out (by rw [hle7]; omega))
        clear hown' hg' ht' HL6 HD6 HE6
        subst hGG
        go_wp2
        go_roundw
        case rel => exact ⟨x - 1, n + 1, _, _, by go_num, by omega, by omega, HL7.out, HLB7, HD7.out.mono (by omega)⟩
        case measure => simp [intOf] <;> omega
      case pos.true =>
        have HE6 := HE5; have HL6 := HL5; have HD6 := HD5
        clear HE5 HL5 HD5
        have hbs5 := HE6.out.2
        have hw5 := HD6.out.grown.size
        go_wp2_with (at_builtin; refine wpList_app1 (v := .slice oa n oc) slLs rfl _ _ rfl rfl HL6.out.own [.slice (some ⟨b, off, none⟩) 7 c1] rfl rfl (by simp) (by simp [Value.oneCell']) hn1 (by omega) ?_; intro v' w7 hown' hg' ht'; generalize hGG : wpList _ _ _ _ _ _ = GG)
        have HL7 := Lib.hid (HL6.out.app HE6.out.1 (fun b off e => ⟨by have := HE6.out.2 b off e; omega, fun e2 => by have := HE6.out.2 b off e; have := hobs b e2; omega, (HE6.out.2 b off e).2⟩) hown' hg' (fun b e => ht'.elim (fun h => .inl (h ▸ e)) (fun h => .inr (by rw [h] at e; injection e with e; omega))))
        have HD7 := Lib.hid (HD6.out.app HL6.out.own (by omega) hg')
        have hle7 := HE6.out.1.len
        have HLB7 := Lib.hid (getD_snoc_le (L := L.take 7) (B := 70) HLB.out (by rw [hle7]; omega))
        clear hown' hg' ht' HL6 HD6 HE6
        subst hGG
        go_wp2
        go_roundw
        case rel => exact ⟨x - 1, n + 1, _, _, by go_num, by omega, by omega, HL7.out, HLB7, HD7.out.mono (by omega)⟩
        case measure => simp [intOf] <;> omega
    · have q1 : decide ((0 : Int) ≤ x) = false := decide_eq_false hx
      go_wp2_with fail
      refine (pick_any w.heap.size ac cs _ 24 _ ?h2 (by omega) HD3.out.cur).mono ?_
      case h2 => omega
      rintro e w4 ⟨⟨y, rfl, hy0, hy1⟩, hc, hg⟩
      have HD4 := Lib.hid (HD3.out.step hc hg)
      have HL4 := Lib.hid (HL3.out.grow hg (fun b e => by injection e with e; omega))
      clear hc hg HD3 HL3
      by_cases hy : y = 0
      · have q2 : (y == 0) = true := by simp [hy]
        have HZ : Hid (LsAt w4 none 0 0 []) := ⟨⟨[], .inl rfl, hds_nil _⟩, rfl, fun _ => rfl, Nat.le_refl _⟩
        clear hy
        go_wp2
        go_ret
        exact ⟨_, _, _, [], rfl, HZ.out, by omega, fun i => by simp, HB1.out.grown HD4.out.grown (by omega) (fun k hk => by injection hk with hk; omega)⟩
      have q2 : (y == 0) = false := by simpa using hy
      by_cases hy1' : y = 1
      · have q3 : (y == 1) = true := by simp [hy1']
        clear hy hy1' hy0 hy1
        go_wp2_with fail
        go_loopw [4] (fun o wr => ∃ (n : Nat) (hs : List Value) (Ls : List (List (Int × Int))), n ≤ 18 ∧ LoH wr (w.heap.size + 1) o n hs Ls ∧ Hid (∀ i, (Ls.getD i []).length ≤ 70) ∧ Drawn w1 wr w.heap.size ac cs (10000 + 10 * (n : Int))) (fun o _ => 20 - lenV o)
        case atStart => exact ⟨n, hs, Ls, by omega, HL4.out, HLB, HD4.out.mono (by omega)⟩
        case round =>
          obtain ⟨n, hs, Ls, hn18, hlo, HLB, hd⟩ := hrel
          have HL5 := Lib.hid hlo; have HD5 := Lib.hid hd
          obtain ⟨oa, oc, rfl⟩ := own_slice hlo.own
          clear hlo hd HL4 HD4
          go_wp2_with fail
          refine (pick_any w.heap.size ac cs _ 2 _ ?h3 (by omega) HD5.out.cur).mono ?_
          case h3 => omega
          rintro e w5 ⟨⟨z, rfl, hz0, hz1⟩, hc, hg⟩
          have HD6 := Lib.hid (HD5.out.step hc hg)
          have HL6 := Lib.hid (HL5.out.grow hg (fun b e => by injection e with e; omega))
          clear hc hg HD5 HL5
          by_cases hlt : (n : Int) < 16 + z
          · have q4 : decide ((n : Int) < 16 + z) = true := decide_eq_true hlt
            go_wp2_with fail
            refine (pick_any w.heap.size ac cs _ 4 _ ?h4 (by omega) HD6.out.cur).mono ?_
            case h4 => omega
            rintro e w6 ⟨⟨u, rfl, hu0, hu1⟩, hc, hg⟩
            have HD7 := Lib.hid ((HD6.out.step hc hg).below (belowNew w6 (.cells #[.int .i64 u, .int .i64 0] 72)))
            have HL7 := Lib.hid ((HL6.out.grow hg (fun b e => by injection e with e; omega)).same (belowNew w6 (.cells #[.int .i64 u, .int .i64 0] 72)))
            have hobs : ∀ b, (Value.slice oa n oc).ownBlock = some b → b < w6.heap.size := fun b e => Nat.lt_of_lt_of_le (HL6.out.own.lt b e).2 hg.size
            have hB6 : w.heap.size + 1 ≤ w6.heap.size := by have := (HD6.out.step hc hg).grown.size; omega
            have hoe := own_lit (w := w6) (e := 72) (size := 2) #[.int .i64 u, .int .i64 0] 1 (by omega) rfl
            have HE : Hid (Rd (w6.alloc (.cells #[.int .i64 u, .int .i64 0] 72)) (some ⟨w6.heap.size, 0, none⟩) 1 1 [(u, 0)]) := rd_own (B := w6.heap.size) hoe
            have hn1 : n + 1 ≤ 1099511627776 := by omega
            have hsza : (w6.alloc (.cells #[.int .i64 u, .int .i64 0] 72)).heap.size = w6.heap.size + 1 := by simp
            clear hc hg HD6 HL6 hoe
            go_wp2_with (at_builtin; refine wpList_app1 (v := .slice oa n oc) slLs rfl _ _ rfl rfl HL7.out.own [.slice (some ⟨w6.heap.size, 0, none⟩) 1 1] rfl rfl (by simp) (by simp [Value.oneCell']) hn1 (by omega) ?_; intro v' w7 hown' hg' ht'; generalize hGG : wpList _ _ _ _ _ _ = GG)
            have HL8 := Lib.hid (HL7.out.app HE.out (fun b off e => by injection e with e; injection e with e1 e2; exact ⟨by omega, fun e3 => by have := hobs b e3; omega, by omega⟩) hown' hg' (fun b e => ht'.elim (fun h => .inl (h ▸ e)) (fun h => .inr (by rw [h] at e; injection e with e; omega))))
            have HD8 := Lib.hid (HD7.out.app HL7.out.own (by omega) hg')
            have HLB8 := Lib.hid (getD_snoc_le (L := [(u, 0)]) (B := 70) HLB.out (by simp))
            obtain ⟨a8, c8, rfl⟩ := own_slice hown'
            clear hown' hg' ht' HL7 HD7 HE
            subst hGG
            go_wp2
            go_roundw
            case rel => exact ⟨n + 1, _, _, by omega, HL8.out, HLB8, HD8.out.mono (by omega)⟩
            case measure => simp only [lenV] <;> omega
          · have q4 : decide ((n : Int) < 16 + z) = false := decide_eq_false hlt
            have hszw := HD6.out.grown.size
            go_wp2
            go_ret
            exact ⟨_, _, _, _, rfl, HL6.out.ls, by omega, HLB.out, HB1.out.grown HD6.out.grown (by omega) (fun k hk => by injection hk with hk; omega)⟩
      have q3 : (y == 1) = false := by simpa using hy1'
      by_cases hy2 : y = 2
      · have q5 : (y == 2) = true := by simp [hy2]
        have hh : cs ≠ [] → ∀ b off, ac = some ⟨b, off, none⟩ → b < w4.heap.size := fun h0 b off e => by
          have h1 := HD4.out.old.2 h0 b off e
          have h2 := HD4.out.grown.size
          omega
        have HRC := Lib.hid (anyRecords_any w.heap.size ac cs _ w4 (by omega) HD4.out.cur hh)
        clear hy hy1' hy2 hh
        go_wp2_with fail
        refine HRC.out.mono ?_
        rintro e w5 ⟨a1, c1, L, rfl, ho, hl1, hD⟩
        have HD5 : Hid (Drawn w1 w5 w.heap.size ac cs (1000 * (n : Int) + 10 + 2 + 1000)) := ⟨hD.cur, grown_trans HD4.out.grown hD.grown, HD4.out.old⟩
        have HL5 := Lib.hid (HL4.out.grow hD.grown (fun b e => by injection e with e; omega))
        have hobs : ∀ b, (Value.slice oa n oc).ownBlock = some b → b < w4.heap.size := fun b e => (HL4.out.own.lt b e).2
        have hB4 : w.heap.size + 1 ≤ w4.heap.size := by have := HD4.out.grown.size; omega
        have hs45 := hD.grown.size
        have HE : Hid (Rd w5 a1 L.length c1 L ∧ ∀ b off, a1 = some ⟨b, off, none⟩ → w4.heap.size ≤ b ∧ b < w5.heap.size) := ⟨rd_own ho, own_far' ho⟩
        have hn1 : n + 1 ≤ 1099511627776 := by omega
        clear ho hD HRC HL4 HD4
        obtain ⟨m, hm⟩ : ∃ m, L.length = m := ⟨_, rfl⟩
        rw [hm] at HE hl1
        rw [hm]
        go_wp2_with (at_builtin; refine wpList_app1 (v := .slice oa n oc) slLs rfl _ _ rfl rfl HL5.out.own [.slice a1 m c1] rfl rfl (by simp) (by simp [Value.oneCell']) hn1 (by omega) ?_; intro v' w7 hown' hg' ht'; generalize hGG : wpList _ _ _ _ _ _ = GG)
        have HL8 := Lib.hid (HL5.out.app HE.out.1 (fun b off e => ⟨by have := HE.out.2 b off e; omega, fun e3 => by have := HE.out.2 b off e; have := hobs b e3; omega, (HE.out.2 b off e).2⟩) hown' hg' (fun b e => ht'.elim (fun h => .inl (h ▸ e)) (fun h => .inr (by rw [h] at e; injection e with e; omega))))
        have HD8 := Lib.hid (HD5.out.app HL5.out.own (by omega) hg')
        have HLB8 := Lib.hid (getD_snoc_le (L := L) (B := 70) HLB.out (by omega))
        obtain ⟨a8, c8, rfl⟩ := own_slice hown'
        have hszw := HD8.out.grown.size
        clear hown' hg' ht' HL5 HD5 HE
        subst hGG
        go_wp2
        go_ret
        exact ⟨_, _, _, _, rfl, HL8.out.ls, by omega, HLB8.out, HB1.out.grown HD8.out.grown (by omega) (fun k hk => by injection hk with hk; omega)⟩
      · have q5 : (y == 2) = false := by simpa using hy2
        have hszw := HD4.out.grown.size
        go_wp2
        go_ret
        exact ⟨_, _, _, _, rfl, HL4.out.ls, by omega, HLB.out, HB1.out.grown HD4.out.grown (by omega) (fun k hk => by injection hk with hk; omega)⟩

end Go.Proofs.Ytkckmjajjdpodaa

/- The law FnKWay: its walk. -/
namespace Go.Proofs.Ytkckmjajjdpodaa
open Go.RowKit Go.Sort
set_option linter.unusedVariables false

theorem okRecs_flat {Ls : List (List (Int × Int))} (h : lsOk Ls = true) : okRecs Ls.flatten = true := by
  unfold lsOk at h
  simp only [Bool.and_eq_true, decide_eq_true_eq, List.all_eq_true] at h
  have h2 := h.2
  unfold totL at h2
  unfold okRecs
  rw [Bool.and_eq_true]
  refine ⟨decide_eq_true h2, ?_⟩
  rw [List.all_eq_true]
  intro x hx
  obtain ⟨l, hl, hxl⟩ := List.mem_flatten.1 hx
  have h3 := h.1 l hl
  unfold ascOk okRecs at h3
  simp only [Bool.and_eq_true] at h3
  exact List.all_eq_true.1 h3.1.2 x hxl
theorem kmOk_ls {Ls : List (List (Int × Int))} (h : kmOk Ls = true) : lsOk Ls = true ∧ 1 ≤ Ls.length ∧ Ls.length ≤ 16 := by
  unfold kmOk at h
  simp only [Bool.and_eq_true, decide_eq_true_eq] at h
  exact ⟨h.2, h.1⟩
theorem kmOut_le (Ls : List (List (Int × Int))) : (kmOut Ls).length ≤ 64 := by
  unfold kmOut
  split
  · rename_i h
    rw [srtP_len]
    exact (lsOk_asc (kmOk_ls h).1).2
  · simp

set_option maxRecDepth 100000 in
set_option maxHeartbeats 4000000 in
theorem lawKWay_any (ac : Option Addr) (cc : Nat) (cs : List Int) (w : World) (hbig : cs.length ≤ 9223372036854775807) (h : BytesAt w ac cs) :
    Calls Try.prog 11 #[.slice ac cs.length cc] w fun e w' => e = .returned (.bool true) ∧ Below w.heap.size w w' := by
  have HV := Lib.hid (vBigG_any ac cs.length cc w hbig)
  by_cases hl : 65536 < cs.length
  · rw [decide_eq_true hl] at HV
    clear h
    go_enter Try.func11, Try.ntmps11
    go_wp2_with (go_at_call 15; refine HV.out.mono ?_; rintro e w' ⟨rfl, rfl⟩)
    go_ret
    exact ⟨rfl, Below.refl _ _⟩
  rw [decide_eq_false hl] at HV
  have HD := Lib.hid (drawKWayMerge_any ac cc cs w (by omega) h)
  clear h
  unfold LsDraw at HD
  go_enter Try.func11, Try.ntmps11
  go_wp2_with fail
  refine HV.out.mono ?_
  rintro e w1 ⟨rfl, rfl⟩
  go_wp2_with fail
  refine HD.out.mono ?_
  rintro e w1 ⟨a1, n1, c1, Ls, rfl, hls, hn1, hlb, hb⟩
  have HL1 := Lib.hid hls; have HB1 := Lib.hid hb
  have HLB : Hid (∀ i, (Ls.getD i []).length ≤ 1000000) := fun i => by have := hlb i; omega
  have hll : Ls.length = n1 := hls.len
  clear hls hb HD HV hlb
  go_wp2_with fail
  refine (implKWayMerge_any a1 n1 c1 Ls w1 (by omega) HL1.out HLB.out).mono ?_
  rintro e w2 ⟨a2, n2, c2, rfl, hr, hb⟩
  have HM2 := Lib.hid hr; have HB2 := Lib.hid (below_tr HB1.out hb HB1.out.size)
  have HL2 := Lib.hid (HL1.out.same hb)
  clear hr hb HL1 HB1
  go_wp2_with fail
  refine (specKWayMerge_any a1 n1 c1 Ls w2 (by omega) HL2.out HLB.out).mono ?_
  rintro e w3 ⟨a3, n3, c3, rfl, hr, hb⟩
  have HW3 := Lib.hid hr; have HB3 := Lib.hid (below_tr HB2.out hb HB2.out.size)
  have HL3 := Lib.hid (HL2.out.same hb); have HM3 := Lib.hid (HM2.out.same hb)
  clear hr hb HL2 HM2 HB2
  have hst := kmOut_le Ls
  have hn2 : n2 ≤ 64 := by rw [← HM3.out.len]; exact hst
  have hn3 : n3 ≤ 64 := by rw [← HW3.out.len]; exact hst
  have q1 : (kmOk Ls != kmOk Ls) = false := by simp
  have q2 : decide (kmOut Ls = kmOut Ls) = true := by simp
  have q3 : (((kmC Ls : Nat) : Int) != ((kmC Ls : Nat) : Int)) = false := by simp
  clear hst
  go_wp2_with fail
  refine (vRecords_any a2 a3 n2 n3 c2 c3 _ _ w3 (by omega) (by omega) HM3.out HW3.out).mono ?_
  rintro e w4 ⟨rfl, hb⟩
  have HB4 := Lib.hid (below_tr HB3.out hb HB3.out.size)
  have HL4 := Lib.hid (HL3.out.same hb); have HM4 := Lib.hid (HM3.out.same hb)
  clear hb HL3 HM3 HW3 HB3
  cases hok : kmOk Ls
  · have HE : Hid (n2 = 0) := by
      show _ = _
      rw [← HM4.out.len]; unfold kmOut; rw [hok]; rfl
    have HC : Hid (kmC Ls = 0) := by show _ = _; unfold kmC; rw [hok]; rfl
    have hn20 : n2 = 0 := HE.out
    subst hn20
    have q9 : (((kmC Ls : Nat) : Int) == 0) = true := by rw [HC.out]; rfl
    clear hok q1
    go_wp2
    go_ret
    exact ⟨rfl, HB4.out⟩
  obtain ⟨hlsok, hl1, hl16⟩ := kmOk_ls hok
  have hO : kmOut Ls = Mg.srtP Ls.flatten := by unfold kmOut; rw [if_pos hok]
  have hC : kmC Ls = Mg.kcs Ls := by unfold kmC; rw [if_pos hok]
  obtain ⟨N, hN⟩ : ∃ N, Ls.flatten.length = N := ⟨_, rfl⟩
  have hN64 : N ≤ 64 := by rw [← hN]; exact (lsOk_asc hlsok).2
  have hnn : n2 = N := by rw [← HM4.out.len, hO, srtP_len, hN]
  have hcb := Mg.kcs_le hl16
  rw [← hC, hN, hll] at hcb
  have HOKF := Lib.hid (okRecs_flat hlsok)
  have HNN := Lib.hid hN
  rw [hO] at HM4
  subst hnn
  generalize hK : kmC Ls = K at hcb q3
  have HK := Lib.hid hK
  clear hO hC q1 q2 q3 hok hK hN hlsok
  have E0 := Lib.hid (own_lit (w := w4) (e := 72) (size := 2) #[] 0 (by omega) rfl)
  have HBa := Lib.hid (belowNew w4 (.cells #[] 72))
  go_wp2_with fail
  go_loopw [10, 11] (fun o iv wr => ∃ (i t : Nat), iv = .int .i64 i ∧ i ≤ n1 ∧ t ≤ n2 ∧ Hid (t = totL (Ls.take i)) ∧ wr.ownsRow w4.heap.size 72 2 o t (flat encR (Ls.take i).flatten) ∧ o.ownBlock ≠ none ∧ Below w4.heap.size w4 wr) (fun _ iv _ => n1 - (intOf iv).toNat)
  case atStart => exact ⟨0, 0, rfl, by omega, by omega, Lib.hid rfl, E0.out, by simp [Value.ownBlock], HBa.out⟩
  case round =>
    obtain ⟨i, t, rfl, hi, htn, HT, hown, hob, hb⟩ := hrel
    obtain ⟨oa, oc, rfl⟩ := own_slice hown
    have HO5 := Lib.hid hown; have HOB := Lib.hid hob; have HB5 := Lib.hid hb
    clear hown hob hb E0 HBa
    by_cases hlt : i < n1
    · have q1 : decide ((i : Int) < (n1 : Int)) = true := decide_eq_true (by omega)
      obtain ⟨lb, lof, xa, d, rfl, hc, hr⟩ := (HL4.out.same HB5.out).at hlt
      obtain ⟨Lw, hLw⟩ : ∃ Lw, Ls.getD i [] = Lw := ⟨_, rfl⟩
      have HLW := Lib.hid hLw
      rw [hLw] at hc hr
      have hts := totL_step (Ls := Ls) (i := i) (by omega)
      rw [hLw, ← HT.out] at hts
      have htk : totL (Ls.take (i + 1)) ≤ n2 := by
        rw [← HNN.out]
        unfold totL
        have h1 : Ls.flatten = (Ls.take (i + 1)).flatten ++ (Ls.drop (i + 1)).flatten := by rw [← List.flatten_append, List.take_append_drop]
        rw [h1, List.length_append]; omega
      rw [hts] at htk
      have HTS := Lib.hid hts
      have HRD := Lib.hid hr
      have b1 : (0 : Int) ≤ (i : Int) := by omega
      have b2 : (i : Int) < (n1 : Int) := by omega
      have t1 : ((i : Int)).toNat = i := by omega
      have hbs := HB5.out.size
      obtain ⟨m, hm⟩ : ∃ m, Lw.length = m := ⟨_, rfl⟩
      rw [hm] at hc HRD htk
      clear hLw hts hr
      go_wp2_with (at_builtin; refine wpList_appR (v := .slice oa t oc) slRec rfl _ _ rfl rfl HO5.out rfl HRD.out.recs HRD.out.len HRD.out.nil (by omega) hbs ?_; intro v' w6 hown2 hg2 ht2; generalize hGG : wpList _ _ _ _ _ _ = GG)
      obtain ⟨a6, c6, rfl⟩ := own_slice hown2
      have HO6 : Hid (w6.ownsRow w4.heap.size 72 2 (.slice a6 (t + m) c6) (t + m) (flat encR (Ls.take (i + 1)).flatten)) := by
        show World.ownsRow _ _ _ _ _ _ _
        rw [List.take_succ_eq_append_getElem (by omega), List.flatten_append, flat_append]
        have : [Ls[i]].flatten = Lw := by
          rw [← HLW.out, List.getD_eq_getElem?_getD, List.getElem?_eq_getElem (by omega)]; simp
        rw [this]; exact hown2
      have HB6 := Lib.hid (below_app HB5.out hbs HO5.out (Nat.le_refl _) hg2)
      have HOB6 : Hid ((Value.slice a6 (t + m) c6).ownBlock ≠ none) := by
        show _ ≠ _
        rcases ht2 with h | h
        · rw [h]; exact HOB.out
        · rw [h]; simp
      clear hown2 hg2 ht2 HO5 HB5 HOB
      subst hGG
      go_wp2
      go_roundw
      case rel => exact ⟨i + 1, t + m, by go_num, by omega, htk, Lib.hid (by rw [HTS.out, hm]), HO6.out, HOB6.out, HB6.out⟩
      case measure => simp [intOf] <;> omega
    · have hin : n1 = i := by omega
      subst hin
      have q1 : decide ((n1 : Int) < (n1 : Int)) = false := by simp
      have htN : t = n2 := by
        have := HT.out
        rw [List.take_of_length_le (by omega)] at this
        rw [this, ← HNN.out]; rfl
      subst htN
      have HQ : Hid (Rd wr oa t oc Ls.flatten) := by
        have := HO5.out
        rw [List.take_of_length_le (by omega)] at this
        exact rd_own this
      have HM5 := Lib.hid (HM4.out.same HB5.out)
      have HB5' := Lib.hid (below_tr HB4.out HB5.out HB4.out.size)
      clear HO5 HOB HM4 HL4 HB4
      go_wp2_with fail
      have HSS := Lib.hid (implStableSort_any oa t oc Ls.flatten wr (by omega) HQ.out)
      have hst : stAns Ls.flatten = Mg.srtP Ls.flatten := by unfold stAns; rw [if_pos HOKF.out]; rfl
      rw [hst, HOKF.out] at HSS
      clear hst
      unfold RdEnd at HSS
      refine HSS.out.mono ?_
      rintro e w7 ⟨a7, n7, c7, rfl, hr, hb⟩
      have HR7 := Lib.hid hr; have HB7 := Lib.hid (below_tr HB5'.out hb HB5'.out.size)
      have HM7 := Lib.hid (HM5.out.same hb)
      have hn7 : n7 = t := by rw [← hr.len, srtP_len, HNN.out]
      clear hr hb HSS HQ
      subst hn7
      have q2 : decide (Mg.srtP Ls.flatten = Mg.srtP Ls.flatten) = true := by simp
      go_wp2_with fail
      refine (vRecords_any a7 a2 n7 n7 c7 c2 _ _ w7 (by omega) (by omega) HR7.out HM7.out).mono ?_
      rintro e w8 ⟨rfl, hb⟩
      have HB8 := Lib.hid (below_tr HB7.out hb HB7.out.size)
      clear hb
      have hz : decide ((K : Int) ≤ (n1 : Int) - 1 + 4 * (n7 : Int)) = true := decide_eq_true (by omega)
      go_wp2
      go_ret
      exact ⟨rfl, HB8.out⟩

end Go.Proofs.Ytkckmjajjdpodaa

/- General: what comes in as a list of structs, read as cells. -/
namespace Go.Proofs.Ytkckmjajjdpodaa
open Go.ChangeShapes Go.WideShapes Go.Deep Go.RowKit Go.Joins
set_option linter.unusedVariables false

section
variable {H : Type} {enc : TypeId × Value → H} {P : Program} {w : World} {base : Nat} {spare : Nat → Bool} {held : Bool}
theorem open_slice_fields {t e : TypeId} {fs : Array Field} {fuel : Nat} {cs : List Value} {x : DataW H × List MemPlace} (ht : P.underlying t = some (.slice e)) (he : P.underlying e = some (.struct fs))
    (hone : oneCellFields P fs = true) (hC : P.cellsOf e = fs.size) (h : DataW.trod enc P w base spare held fuel t cs = some x) :
    (cs = [.slice none 0 0] ∧ x = (.nil, [])) ∨
    ∃ (a : Addr) (len cap m : Nat) (D : Nat → DataW H) (Pl : Nat → List MemPlace), cs = [.slice (some a) len cap] ∧ base ≤ a.block ∧ len ≤ cap ∧ cap ≤ maxLen ∧ m = (if spare a.block then cap else len) ∧
      x = (.slice ((List.range len).map D) ((List.range (m - len)).map fun j => D (len + j)), MemPlace.row a (m * fs.size) ++ (List.range m).flatMap Pl) ∧
      ∀ i, i < m → ∃ (ys : List (DataW H × List MemPlace)) (n : Nat), D i = .agg (ys.map (·.1)) ∧ Pl i = ys.flatMap (·.2) ∧ ys.length = fs.size ∧
        ∀ (j : Nat) (f : Field), fs[j]? = some f → ∃ (v : Value) (y : DataW H × List MemPlace), w.cell? (a.add (i * fs.size + j)) = some v ∧ ys[j]? = some y ∧ DataW.trod enc P w base spare held n f.type [v] = some y := by
  rcases open_slice ht h with h0 | ⟨a, len, cap, m, n, D, Pl, hcs, hb, hl, hm, hmm, hx, hi⟩
  · exact .inl h0
  · refine .inr ⟨a, len, cap, m, D, Pl, hcs, hb, hl, hm, hmm, by rw [hC] at hx; exact hx, fun i him => ?_⟩
    obtain ⟨cs', hc, ht'⟩ := hi i him
    rw [hC] at hc
    obtain ⟨ys, n', hn', hy, hlen, hyl, hf⟩ := DataW.trod_struct he ht'
    obtain ⟨_, hcl, hat⟩ := World.cells?_some hc
    simp only [Prod.mk.injEq] at hy
    refine ⟨ys, n', hy.1, hy.2, hyl, fun j f hj => ?_⟩
    obtain ⟨ho, hk⟩ := hone_of hone j f hj
    have hjl : j < fs.size := (Array.getElem?_eq_some_iff.1 hj).1
    have hcell := hat j hjl
    have hv : cs'[j]? = some (cs'[j]'(by omega)) := List.getElem?_eq_getElem (by omega)
    have h1 := hf j f hj
    rw [ho, hk] at h1
    have hone' : (cs'.drop j).take 1 = [cs'[j]'(by omega)] := by
      rw [List.drop_eq_getElem_cons (by omega)]
      rfl
    rw [hone'] at h1
    have hys : ys[j]? = some (ys[j]'(by omega)) := List.getElem?_eq_getElem (by omega)
    refine ⟨_, _, ?_, hys, h1.trans hys⟩
    rw [← Go.Deep.add_add, hcell, hv]
end

section
variable {H : Type} {enc : TypeId × Value → H} {P : Program} {w : World} {base : Nat} {spare : Nat → Bool} {held : Bool}
theorem open_agg5 {r : Reach} {b0 : Nat} {t : TypeId} {f0 f1 f2 f3 f4 : Field} {v : Value} {d : DataW H} {p : List MemPlace} (hs : P.underlying t = some (.struct #[f0, f1, f2, f3, f4])) (hone : oneCellFields P #[f0, f1, f2, f3, f4] = true) (hC : P.cellsOf t = 5)
    (hv : Value.okWide P w r b0 t v) (h : DataW.Trod enc P w base spare held t v d p) :
    ∃ (v0 v1 v2 v3 v4 : Value) (y0 y1 y2 y3 y4 : DataW H × List MemPlace) (n : Nat), v = .agg #[v0, v1, v2, v3, v4] ∧ d = .agg [y0.1, y1.1, y2.1, y3.1, y4.1] ∧ p = y0.2 ++ (y1.2 ++ (y2.2 ++ (y3.2 ++ y4.2))) ∧
      DataW.trod enc P w base spare held n f0.type [v0] = some y0 ∧ DataW.trod enc P w base spare held n f1.type [v1] = some y1 ∧ DataW.trod enc P w base spare held n f2.type [v2] = some y2 ∧ DataW.trod enc P w base spare held n f3.type [v3] = some y3 ∧ DataW.trod enc P w base spare held n f4.type [v4] = some y4 := by
  obtain ⟨cs, rfl, hsz⟩ := okWide_struct hs hv
  obtain ⟨l⟩ := cs
  match l, hsz.trans hC with
  | [c0, c1, c2, c3, c4], _ =>
    obtain ⟨fuel, hf⟩ := h
    obtain ⟨xs, n, _, hx, _, hlen, hg⟩ := DataW.trod_struct hs hf
    obtain ⟨o0, k0⟩ := hone_of hone 0 f0 rfl
    obtain ⟨o1, k1⟩ := hone_of hone 1 f1 rfl
    obtain ⟨o2, k2⟩ := hone_of hone 2 f2 rfl
    obtain ⟨o3, k3⟩ := hone_of hone 3 f3 rfl
    obtain ⟨o4, k4⟩ := hone_of hone 4 f4 rfl
    match xs, hlen with
    | [y0, y1, y2, y3, y4], _ =>
      simp only [Prod.mk.injEq] at hx
      exact ⟨c0, c1, c2, c3, c4, y0, y1, y2, y3, y4, n, rfl, by simpa using hx.1, by simpa using hx.2, by simpa [Value.cells, o0, k0] using hg 0 f0 rfl, by simpa [Value.cells, o1, k1] using hg 1 f1 rfl, by simpa [Value.cells, o2, k2] using hg 2 f2 rfl, by simpa [Value.cells, o3, k3] using hg 3 f3 rfl, by simpa [Value.cells, o4, k4] using hg 4 f4 rfl⟩

end

section
variable {H : Type} {enc : TypeId × Value → H} {P : Program} {w : World} {base : Nat} {spare : Nat → Bool} {held : Bool}
/-- A struct by value of one cell and a struct of three. -/
theorem open_agg13 {r : Reach} {b0 : Nat} {t : TypeId} {f0 f1 g0 g1 g2 : Field} {v : Value} {d : DataW H} {p : List MemPlace} (hs : P.underlying t = some (.struct #[f0, f1])) (hs2 : P.underlying f1.type = some (.struct #[g0, g1, g2]))
    (o0 : f0.offset = 0) (o1 : f1.offset = 1) (k0 : P.cellsOf f0.type = 1) (k1 : P.cellsOf f1.type = 3) (hone : oneCellFields P #[g0, g1, g2] = true) (hC : P.cellsOf t = 4)
    (hv : Value.okWide P w r b0 t v) (h : DataW.Trod enc P w base spare held t v d p) :
    ∃ (v0 v1 v2 v3 : Value) (y0 z1 z2 z3 : DataW H × List MemPlace) (n m : Nat), v = .agg #[v0, v1, v2, v3] ∧
      DataW.trod enc P w base spare held n f0.type [v0] = some y0 ∧ DataW.trod enc P w base spare held m g0.type [v1] = some z1 ∧ DataW.trod enc P w base spare held m g1.type [v2] = some z2 ∧ DataW.trod enc P w base spare held m g2.type [v3] = some z3 := by
  obtain ⟨cs, rfl, hsz⟩ := okWide_struct hs hv
  obtain ⟨l⟩ := cs
  match l, hsz.trans hC with
  | [c0, c1, c2, c3], _ =>
    obtain ⟨fuel, hf⟩ := h
    obtain ⟨xs, n, _, hx, _, hlen, hg⟩ := DataW.trod_struct hs hf
    match xs, hlen with
    | [y0, y1], _ =>
      have h0 := hg 0 f0 rfl
      have h1 := hg 1 f1 rfl
      rw [o0, k0] at h0
      rw [o1, k1] at h1
      have h1' : DataW.trod enc P w base spare held n f1.type [c1, c2, c3] = some y1 := by simpa [Value.cells] using h1
      obtain ⟨zs, m, _, hz, _, hlen2, hg2⟩ := DataW.trod_struct hs2 h1'
      obtain ⟨p0, q0⟩ := hone_of hone 0 g0 rfl
      obtain ⟨p1, q1⟩ := hone_of hone 1 g1 rfl
      obtain ⟨p2, q2⟩ := hone_of hone 2 g2 rfl
      match zs, hlen2 with
      | [z1, z2, z3], _ =>
        exact ⟨c0, c1, c2, c3, y0, z1, z2, z3, n, m, rfl, by simpa [Value.cells] using h0, by simpa [p0, q0] using hg2 0 g0 rfl, by simpa [p1, q1] using hg2 1 g1 rfl, by simpa [p2, q2] using hg2 2 g2 rfl⟩
end

theorem recs_of_cells {w : World} {x : Addr} {len : Nat} (h : ∀ i, i < len → ∃ k t : Int, w.cell? (x.add (i * 2)) = some (.int .i64 k) ∧ w.cell? (x.add (i * 2 + 1)) = some (.int .i64 t)) :
    ∃ rs : List (Int × Int), rs.length = len ∧ RecsAt w (some x) rs := by
  by_cases h0 : len = 0
  · subst h0; exact ⟨[], rfl, .inl rfl⟩
  · obtain ⟨b, off, spot⟩ := x
    obtain ⟨k0, t0, hc0, _⟩ := h 0 (by omega)
    have hs : spot = none := by simpa [Addr.add] using World.cell?_spot hc0
    subst hs
    have hlt := World.block_lt_of_cell? w _ hc0
    have hadd : ∀ j, (⟨b, off, none⟩ : Addr).add j = ⟨b, off + j, none⟩ := fun j => by unfold Addr.add; split <;> simp_all
    have key : ∀ n, n ≤ len → ∃ rs : List (Int × Int), rs.length = n ∧ ∀ j, j < n → w.cell? ⟨b, off + j * 2, none⟩ = some (.int .i64 (rs.getD j (0, 0)).1) ∧ w.cell? ⟨b, off + j * 2 + 1, none⟩ = some (.int .i64 (rs.getD j (0, 0)).2) := by
      intro n
      induction n with
      | zero => intro _; exact ⟨[], rfl, fun j hj => by omega⟩
      | succ n ih =>
        intro hn
        obtain ⟨rs, hl, hr⟩ := ih (by omega)
        obtain ⟨k, t, hk, ht⟩ := h n (by omega)
        rw [hadd] at hk ht
        refine ⟨rs ++ [(k, t)], by simp [hl], fun j hj => ?_⟩
        by_cases e : j = n
        · subst e
          have : (rs ++ [(k, t)]).getD j (0, 0) = (k, t) := by simp [List.getD, ← hl]
          rw [this]
          exact ⟨hk, by rw [Nat.add_assoc]; exact ht⟩
        · have : (rs ++ [(k, t)]).getD j (0, 0) = rs.getD j (0, 0) := by simp [List.getD, List.getElem?_append_left (show j < rs.length by omega)]
          rw [this]
          exact hr j (by omega)
    obtain ⟨rs, hl, hr⟩ := key len (Nat.le_refl _)
    exact ⟨rs, hl, .inr ⟨b, off, rfl, by simpa [Addr.add] using hlt, fun j hj => hr j (by omega)⟩⟩

theorem int_in {n : Int} (h : (Lit.int .i64 n).wf = true) : -9223372036854775808 ≤ n ∧ n ≤ 9223372036854775807 := by
  simp only [Lit.wf, Bool.and_eq_true, decide_eq_true_eq] at h
  have e1 : IntKind.i64.min = -9223372036854775808 := by decide
  have e2 : IntKind.i64.max = 9223372036854775807 := by decide
  rw [e1, e2] at h
  exact h

end Go.Proofs.Ytkckmjajjdpodaa
