/- Several texts in one: lemmas and walks of the functions that the law reaches. -/
import Derived.Test.YtcdfinkefahloaaY9
import Derived.Test.YtcdfinkefahloaaY10

namespace Go.Proofs.Ytcdfinkefahloaa
open Go.RowKit Go.Sort
set_option linter.unusedVariables false
/-- The cells of an owned row of records. -/
theorem rec_cells {w : World} {base g n cap k : Nat} {e : TypeId} {d : List (Int × Int)} {r : Int × Int} (h : w.ownsRow base e 2 (.slice (some ⟨g, 0, none⟩) n cap) n (flat encR d)) (hk : d[k]? = some r) :
    w.cell? ⟨g, k * 2, none⟩ = some (.int .i64 r.1) ∧ w.cell? ⟨g, k * 2 + 1, none⟩ = some (.int .i64 r.2) := by
  have hlt : k < d.length := (List.getElem?_eq_some_iff.1 hk).1
  obtain ⟨b, off, e1, h1, h2⟩ := (recs_of_own h).at hlt
  injection e1 with e1
  injection e1 with e1 e2 _
  subst e1; subst e2
  rw [Nat.zero_add] at h1 h2
  rw [List.getD_eq_getElem?_getD, hk] at h1 h2
  exact ⟨h1, h2⟩

end Go.Proofs.Ytcdfinkefahloaa

namespace Go.Proofs.Ytcdfinkefahloaa
open Go.RowKit Go.Sort
set_option linter.unusedVariables false

/-- Records by their keys, stably. -/
def srtR (l : List (Int × Int)) : List (Int × Int) := Mg.srt (Mg.ltK Prod.fst) l
theorem srtR_len (l : List (Int × Int)) : (srtR l).length = l.length := Mg.srt_length l
theorem srtR_start (zs : List (Int × Int)) : zs = srtR (zs.take 1) ++ zs.drop 1 := by
  cases zs with
  | nil => rfl
  | cons a t => simp [srtR, Mg.srt_one]
theorem insR_start {zs : List (Int × Int)} {i : Nat} (hi : i < zs.length) : srtR (zs.take i) ++ zs.drop i = Mg.insSt (srtR (zs.take i)) (zs.getD i (0, 0)) i (zs.drop (i + 1)) := by
  have hl : (srtR (zs.take i)).length = i := by rw [srtR_len, List.length_take]; omega
  have h1 := Mg.insSt_top (srtR (zs.take i)) (zs.getD i (0, 0)) (zs.drop (i + 1))
  rw [hl] at h1
  rw [h1, List.drop_eq_getElem_cons hi, List.getD_eq_getElem?_getD, List.getElem?_eq_getElem hi]
  rfl
theorem insR_end {l : List (Int × Int)} {x : Int × Int} {k : Nat} {R : List (Int × Int)} (hk : k ≤ l.length) (hd : ∀ b ∈ (srtR l).drop k, x.1 < b.1) (hs : 0 < k → ¬ x.1 < ((srtR l).getD (k - 1) (0, 0)).1) : Mg.insSt (srtR l) x k R = srtR (l ++ [x]) ++ R := by
  have hl : (srtR l).length = l.length := srtR_len l
  refine Mg.insSt_srt (Mg.swK Prod.fst) (lt := Mg.ltK Prod.fst) (by show k ≤ (srtR l).length; omega) (fun b hb => by simpa [Mg.ltK] using hd b hb) (fun h0 => ?_)
  have h1 := hs h0
  rw [List.getD_eq_getElem?_getD, List.getElem?_eq_getElem (by omega)] at h1
  unfold srtR at h1
  simpa [Mg.ltK] using h1
theorem take_snocR {zs : List (Int × Int)} {i : Nat} (hi : i < zs.length) : zs.take i ++ [zs.getD i (0, 0)] = zs.take (i + 1) := by
  rw [List.take_add_one, List.getElem?_eq_getElem hi, List.getD_eq_getElem?_getD, List.getElem?_eq_getElem hi]
  rfl
/-- Records of the call's own, behind a call. -/
def OwnR (w : World) (l : List (Int × Int)) (n : Nat) (e : Ending) (w' : World) : Prop :=
  ∃ (g c : Nat), e = .returned (.slice (some ⟨g, 0, none⟩) n c) ∧ w'.ownsRow w.heap.size 32 2 (.slice (some ⟨g, 0, none⟩) n c) n (flat encR l) ∧ Below w.heap.size w w'

theorem insR_at {A R : List (Int × Int)} {x : Int × Int} {m : Nat} (hm : m < A.length) : (Mg.insSt A x (m + 1) R)[m]? = some (A.getD m (0, 0)) ∧ (Mg.insSt A x (m + 1) R)[m + 1]? = some x := by
  refine ⟨?_, Mg.insSt_at (by omega)⟩
  rw [Mg.insSt_before hm, List.getD_eq_getElem?_getD, List.getElem?_eq_getElem hm]; rfl
theorem insR_stepD {A R : List (Int × Int)} {x y : Int × Int} {m : Nat} (hm : m < A.length) (hy : A.getD m (0, 0) = y) : ((Mg.insSt A x (m + 1) R).set m x).set (m + 1) y = Mg.insSt A x m R := by
  have e1 : A[m] = y := by rw [← hy, List.getD_eq_getElem?_getD, List.getElem?_eq_getElem hm]; rfl
  rw [← e1]; exact Mg.insSt_step hm

set_option maxRecDepth 100000 in
set_option maxHeartbeats 8000000 in
theorem l2StableR_any (a : Option Addr) (cap : Nat) (zs : List (Int × Int)) (w : World) (hlen : zs.length ≤ 1000) (h : RecsAt w a zs) (hx : NilOk a cap) :
    Calls Try.prog 15 #[.slice a zs.length cap] w (OwnR w (srtR zs) zs.length) := by
  have E0 := Lib.hid (own_lit (w := w) (e := 32) (size := 2) #[] 0 (by omega) rfl)
  have HB := Lib.hid (show Below w.heap.size w (w.alloc (.cells #[] 32)) from (Below.refl _ _).alloc (Nat.le_refl _) _)
  have HU := Lib.hid (h.below (Nat.le_refl _) HB.out)
  have HX := Lib.hid hx
  have hsm : 0 + zs.length ≤ 1099511627776 := by omega
  have hle : w.heap.size ≤ (w.alloc (.cells #[] 32)).heap.size := by simp
  have HS := Lib.hid hsm; have HLE := Lib.hid hle
  clear h hsm hle hx
  have HS0 := Lib.hid (srtR_start zs)
  unfold OwnR
  go_enter Try.func15, Try.ntmps15
  go_wp2_with (at_builtin; refine wpList_appR (v := .slice (some ⟨w.heap.size, 0, none⟩) 0 0) slRec rfl _ _ rfl rfl E0.out rfl HU.out rfl HX.out HS.out HLE.out ?_; intro v' w2 hown2 hg2 ht2; obtain ⟨a', c, rfl⟩ := own_slice hown2; have HO := Lib.hid hown2; have HG := Lib.hid hg2; have HT := Lib.hid ht2; clear hown2 hg2 ht2)
  obtain ⟨g, rfl, _, _⟩ := own_addr HO.out (by
    rcases HT.out with h | h
    · rw [h]; simp [Value.ownBlock]
    · rw [h]; simp)
  have HB2 := Lib.hid (HB.out.grown HG.out (by simp) (fun k hk => by simp [Value.ownBlock] at hk; omega))
  rw [Nat.zero_add] at HO
  rw [show ([] : List Value) ++ flat encR zs = flat encR zs from rfl] at HO
  clear HT HG E0 HB HU HS HLE
  go_loopw [4] (fun v wr => ∃ i : Nat, v = .int .i64 i ∧ 1 ≤ i ∧ (i ≤ zs.length ∨ i = 1) ∧ wr.ownsRow w.heap.size 32 2 (.slice (some ⟨g, 0, none⟩) zs.length c) zs.length (flat encR (srtR (zs.take i) ++ zs.drop i)) ∧ Below w.heap.size w wr) (fun v _ => zs.length + 1 - (intOf v).toNat)
  case atStart => exact ⟨1, rfl, by omega, .inr rfl, by rw [← HS0.out]; exact HO.out, HB2.out⟩
  case round =>
    obtain ⟨i, rfl, hi1, hi2, hown, hb⟩ := hrel
    have HO2 := Lib.hid hown; have HB2 := Lib.hid hb
    clear hown hb
    by_cases hlt : i < zs.length
    case neg =>
      have HO3 := Lib.hid (show wr.ownsRow w.heap.size 32 2 (.slice (some ⟨g, 0, none⟩) zs.length c) zs.length (flat encR (srtR zs)) from by
        have := HO2.out
        rw [List.take_of_length_le (by omega), List.drop_of_length_le (by omega), List.append_nil] at this
        exact this)
      have h3 : decide ((i : Int) < (zs.length : Int)) = false := decide_eq_false (by omega)
      go_wp2
      go_ret
      exact ⟨g, c, rfl, HO3.out, HB2.out⟩
    have HI0 := Lib.hid (insR_start hlt)
    have HAL : Hid ((srtR (zs.take i)).length = i) := by show _ = _; rw [srtR_len, List.length_take]; omega
    have HEND := Lib.hid (fun (k : Nat) (hk : k ≤ i) (hd : ∀ b ∈ (srtR (zs.take i)).drop k, (zs.getD i (0, 0)).1 < b.1) (hs : 0 < k → ¬ (zs.getD i (0, 0)).1 < ((srtR (zs.take i)).getD (k - 1) (0, 0)).1) =>
      (insR_end (R := zs.drop (i + 1)) (by rw [List.length_take]; omega) hd hs).trans (by rw [take_snocR hlt]))
    rw [HI0.out] at HO2
    clear HI0
    generalize srtR (zs.take i) = A at HO2 HAL HEND
    generalize zs.getD i (0, 0) = X at HO2 HEND
    have HRL : Hid (∀ k, k ≤ i → (Mg.insSt A X k (zs.drop (i + 1))).length = zs.length) := fun k hk => by
      rw [Mg.insSt_len (by rw [HAL.out]; exact hk), HAL.out, List.length_drop]; omega
    generalize hR : zs.drop (i + 1) = R at HO2 HEND HRL
    have HR := Lib.hid hR; clear hR
    have h3 : decide ((i : Int) < (zs.length : Int)) = true := decide_eq_true (by omega)
    have hile : (i : Int) + 1 ≤ 9223372036854775807 := by omega
    go_wp2
    go_loopw [5] (fun v wq => ∃ k : Nat, v = .int .i64 k ∧ k ≤ i ∧ wq.ownsRow w.heap.size 32 2 (.slice (some ⟨g, 0, none⟩) zs.length c) zs.length (flat encR (Mg.insSt A X k R)) ∧ (∀ b ∈ A.drop k, X.1 < b.1) ∧ Below w.heap.size w wq) (fun v _ => (intOf v).toNat)
    case atStart => exact ⟨i, rfl, by omega, by have := Mg.insSt_top A X R; rw [HAL.out] at this; first | exact HO2.out | (rw [this]; exact HO2.out), by rw [List.drop_of_length_le (by rw [HAL.out]; omega)]; simp, HB2.out⟩
    case round =>
      obtain ⟨k, rfl, hk, ho, hd, hb⟩ := hrel
      have HO4 := Lib.hid ho; have HB4 := Lib.hid hb; have HD := Lib.hid hd
      clear ho hb hd HO2 HB2
      by_cases hk0 : 0 < k
      case neg =>
        obtain rfl : k = 0 := by omega
        have HE := Lib.hid (HEND.out 0 (by omega) HD.out (fun h => absurd h (by omega)))
        rw [HE.out] at HO4
        rw [show ((0 : Nat) : Int) = 0 from rfl]
        go_wp2_with fail
        go_quiet (fail)
        go_wp2
        go_roundw
        case rel => exact ⟨i + 1, by go_num, by omega, by omega, by rw [HR.out]; exact HO4.out, below_drewN HB4.out _⟩
        case measure => simp [intOf] <;> omega
      obtain ⟨m, rfl⟩ : ∃ m, k = m + 1 := ⟨k - 1, by omega⟩
      have hm : m < A.length := by rw [HAL.out]; omega
      obtain ⟨q1, q2⟩ := insR_at (R := R) (x := X) hm
      obtain ⟨c1, c1'⟩ := rec_cells HO4.out q1
      obtain ⟨c2, c2'⟩ := rec_cells HO4.out q2
      have HDR : Hid (A.drop m = A.getD m (0, 0) :: A.drop (m + 1)) := by
        show _ = _
        rw [List.drop_eq_getElem_cons hm, List.getD_eq_getElem?_getD, List.getElem?_eq_getElem hm]; rfl
      have HST := Lib.hid (fun (y : Int × Int) (hy : A.getD m (0, 0) = y) => insR_stepD (R := R) (x := X) hm hy)
      have HE1 := Lib.hid (fun hs => HEND.out (m + 1) hk HD.out hs)
      have HL1 := Lib.hid (HRL.out (m + 1) hk)
      obtain ⟨Y, hY⟩ : ∃ Y, A.getD m (0, 0) = Y := ⟨_, rfl⟩
      rw [hY] at c1 c1' HDR
      have HY := Lib.hid hY
      clear hY hm q1 q2
      obtain ⟨X1, X2⟩ := X
      obtain ⟨Y1, Y2⟩ := Y
      have hcast : ((m + 1 : Nat) : Int) = (m : Int) + 1 := by omega
      have b1 : (0 : Int) ≤ (m : Int) := by omega
      have b2 : (m : Int) + 1 < (zs.length : Int) := by omega
      have b3 : (m : Int) < (zs.length : Int) := by omega
      have hgw : w.heap.size ≤ g := ((HO4.out.lt g rfl).1)
      have hgr : g < wr.heap.size := ((HO4.out.lt g rfl).2)
      by_cases hyx : X1 < Y1
      · have hz : decide (X1 < Y1) = true := by simpa using hyx
        rw [hcast]
        go_wp2_with fail
        go_quiet (fail)
        have HYX := Lib.hid hyx
        have HO5 : Hid ((wr.drewN nq).ownsRow w.heap.size 32 2 (.slice (some ⟨g, 0, none⟩) zs.length c) zs.length (flat encR (Mg.insSt A (X1, X2) (m + 1) R))) := HO4.out
        have HB5 := Lib.hid (below_drewN HB4.out nq)
        have d1 : (wr.drewN nq).cell? ⟨g, m * 2, none⟩ = some (.int .i64 Y1) := c1
        have d1' : (wr.drewN nq).cell? ⟨g, m * 2 + 1, none⟩ = some (.int .i64 Y2) := c1'
        have hgq : g < (wr.drewN nq).heap.size := hgr
        have d2 : (wr.drewN nq).cell? ⟨g, (m + 1) * 2, none⟩ = some (.int .i64 X1) := c2
        have d2' : (wr.drewN nq).cell? ⟨g, (m + 1) * 2 + 1, none⟩ = some (.int .i64 X2) := c2'
        generalize wr.drewN nq = wq at HO5 HB5 d1 d1' d2 d2' hgq ⊢
        clear c1 c1' c2 c2' HO4 HB4 hgr HE1 HEND HRL HO HB2 hi2
        have hmn : m < zs.length := by omega
        have hmn1 : m + 1 < zs.length := by omega
        have HO6 := Lib.hid (HO5.out.alloc (.cells #[.int .i64 Y1, .int .i64 Y2] 32))
        have HB6 := Lib.hid (HB5.out.alloc HB5.out.size (.cells #[.int .i64 Y1, .int .i64 Y2] 32))
        have R6 := Lib.hid (block_new wq (.cells #[.int .i64 Y1, .int .i64 Y2] 32))
        go_wp2_with (refine wpList_put slRec rfl (.tmp 47) (.tmp 46) rfl m rfl [.int .i64 X1, .int .i64 X2] rfl rfl (by simp [Value.oneCell']) HO6.out hmn ?_)
        intro w7 ho7 hg7
        have HB7 := Lib.hid (below_app HB6.out HB6.out.size HO6.out (Nat.le_refl _) hg7)
        have hq := flat_put encR_len (Mg.insSt A (X1, X2) (m + 1) R) m (by rw [HL1.out]; exact hmn) (X1, X2)
        have HO7 : Hid (w7.ownsRow w.heap.size 32 2 (.slice (some ⟨g, 0, none⟩) zs.length c) zs.length (flat encR ((Mg.insSt A (X1, X2) (m + 1) R).set m (X1, X2)))) := by
          show w7.ownsRow _ _ _ _ _ _
          rw [← hq]; simpa [encR] using ho7
        obtain ⟨_, _, _, _, hold⟩ := hg7
        have R7 := (hold wq.heap.size (by simp) (by intro e; injection e with e; omega)).trans R6.out
        clear hold
        have r0 := row_cell R7 0
        have r1 := row_cell R7 1
        simp at r0 r1
        clear ho7 hq R7 R6 HO6 HB6 HO5 HB5 d1 d1' d2 d2'
        go_wp2_with (refine wpList_put slRec rfl (.tmp 51) (.tmp 50) rfl (m + 1) rfl [.int .i64 Y1, .int .i64 Y2] rfl rfl (by simp [Value.oneCell']) HO7.out hmn1 ?_)
        intro w8 ho8 hg8
        have HB8 := Lib.hid (below_app HB7.out HB7.out.size HO7.out (Nat.le_refl _) hg8)
        have hq := flat_put encR_len ((Mg.insSt A (X1, X2) (m + 1) R).set m (X1, X2)) (m + 1) (by rw [List.length_set, HL1.out]; exact hmn1) (Y1, Y2)
        rw [HST.out _ HY.out] at hq
        have HO8 : Hid (w8.ownsRow w.heap.size 32 2 (.slice (some ⟨g, 0, none⟩) zs.length c) zs.length (flat encR (Mg.insSt A (X1, X2) m R))) := by
          show w8.ownsRow _ _ _ _ _ _
          rw [← hq]; simpa [encR] using ho8
        clear ho8 hg8 hq HO7 HB7 r0 r1 HST HL1
        go_wp2
        go_roundw
        case rel => exact ⟨m, by go_num, by omega, HO8.out, by
          rw [HDR.out]
          intro b hb
          rcases List.mem_cons.1 hb with rfl | hb
          · exact HYX.out
          · exact HD.out b hb, HB8.out⟩
        case measure => simp [intOf] <;> omega
      · have hz : decide (X1 < Y1) = false := by simpa using hyx
        have HE := Lib.hid (HE1.out (fun _ => by rw [Nat.add_sub_cancel, HY.out]; simpa using hyx))
        rw [HE.out] at HO4
        rw [hcast]
        go_wp2_with fail
        go_quiet (fail)
        go_wp2
        go_roundw
        case rel => exact ⟨i + 1, by go_num, by omega, by omega, by rw [HR.out]; exact HO4.out, below_drewN HB4.out _⟩
        case measure => simp [intOf] <;> omega

theorem l2Stable_any (B : Nat) (a : Option Addr) (cap : Nat) (zs : List (Int × Int)) (w : World) (hlen : zs.length ≤ 1000) (h : w.ownsRow B 32 2 (.slice a zs.length cap) zs.length (flat encR zs)) :
    Calls Try.prog 15 #[.slice a zs.length cap] w (OwnR w (srtR zs) zs.length) :=
  l2StableR_any a cap zs w hlen (recs_of_own h) (nilOk_own h)

end Go.Proofs.Ytcdfinkefahloaa

namespace Go.Proofs.Ytcdfinkefahloaa
open Go.RowKit Go.Sort
set_option linter.unusedVariables false

/-- The comparison by keys. -/
abbrev ltR : Int × Int → Int × Int → Bool := Mg.ltK Prod.fst

def lenV : Value → Nat | .slice _ n _ => n | _ => 0

end Go.Proofs.Ytcdfinkefahloaa

