/- Several texts in one: lemmas and walks of the functions that the laws reach. -/
import Derived.Test.YthakkkljlpimlaaY9
import Derived.Test.YthakkkljlpimlaaY10
import Derived.Test.YthakkkljlpimlaaY4
import Derived.Deep.CutRange
import Derived.Deep.CutBlock

/- Walks: the adaptive merge sort of the reference. -/
namespace Go.Proofs.Ythakkkljlpimlaa
open Go.RowKit Go.Sort
set_option linter.unusedVariables false

theorem own_none {w : World} {B b : Nat} {e : TypeId} {size : Nat} (h : w.heap[b]? = some (.cells #[] e (0, 0))) (hB : B ≤ b) : w.ownsRow B e size (.slice (some ⟨b, 0, none⟩) 0 0) 0 [] :=
  ⟨by simp, .inr ⟨b, 0, #[], rfl, hB, h, Nat.le_refl _, Nat.zero_le _, by simp, by simp⟩⟩

/-- The state of the reference's loops. -/
structure SS (w2 w : World) (Z : Nat) (sv zv : Value) (hs : List Value) (ps : List (List (Int × Int))) : Prop where
  hS : w.ownsRow Z 24 1 sv ps.length hs
  hZ : w.ownsRow Z 3 1 zv ps.length (intV (Ad.sz ps))
  hl : HX w (XP Z sv zv) hs ps
  hb : Below Z w2 w
  hsz : Z ≤ w.heap.size
  hd : ∀ b, sv.ownBlock = some b → zv.ownBlock ≠ some b
theorem SS.below {w2 w w' : World} {Z : Nat} {sv zv : Value} {hs : List Value} {ps : List (List (Int × Int))} (h : SS w2 w Z sv zv hs ps) (hb : Below w.heap.size w w') : SS w2 w' Z sv zv hs ps :=
  ⟨own_below h.hS (Nat.le_refl _) hb, own_below h.hZ (Nat.le_refl _) hb, h.hl.imp fun v L hv => hv.grown (show w.grownBy w' none from grown_of_below hb) (fun b e => by cases e), below_tr h.hb hb h.hsz, Nat.le_trans h.hsz hb.size, h.hd⟩
/-- A list pushed: both rows grow. -/
theorem SS.push {w2 w w6 w7 : World} {Z : Nat} {sv zv sv' zv' : Value} {hs : List Value} {ps : List (List (Int × Int))} {v : Value} {L : List (Int × Int)} {g : Nat} (h : SS w2 w Z sv zv hs ps) (hv : LX w (fun b => b = g) v L) (hgZ : Z ≤ g) (hg1 : sv.ownBlock ≠ some g) (hg2 : zv.ownBlock ≠ some g)
    (ho : w6.ownsRow Z 24 1 sv' (ps.length + 1) (hs ++ [v])) (hg6 : w.grownBy w6 sv.ownBlock) (ht6 : ∀ b, sv'.ownBlock = some b → sv.ownBlock = some b ∨ w.heap.size ≤ b)
    (hz : w7.ownsRow Z 3 1 zv' (ps.length + 1) (intV (Ad.sz ps) ++ [.int .i64 ((L.length : Nat) : Int)])) (hg7 : w6.grownBy w7 zv.ownBlock) (ht7 : ∀ b, zv'.ownBlock = some b → zv.ownBlock = some b ∨ w6.heap.size ≤ b) :
    SS w2 w7 Z sv' zv' (hs ++ [v]) (ps ++ [L]) := by
  have z6 := hg6.size
  have z7 := hg7.size
  have hsl : ∀ b, sv.ownBlock = some b → b < w.heap.size := fun b e => (h.hS.lt b e).2
  have hzl : ∀ b, zv.ownBlock = some b → b < w.heap.size := fun b e => (h.hZ.lt b e).2
  have hsl6 : ∀ b, sv'.ownBlock = some b → b < w6.heap.size := fun b e => (ho.lt b e).2
  have hd' : ∀ b, sv'.ownBlock = some b → zv.ownBlock ≠ some b := fun b e e2 => by
    rcases ht6 b e with h1 | h1
    · exact h.hd b h1 e2
    · have := hzl b e2; omega
  have hl6 := HX.rows (cv' := sv') (pv' := zv) h.hl hg6 (fun b e => .inl e) ht6 (fun b e => .inl e)
  have hl7 := HX.rows (cv' := sv') (pv' := zv') hl6 hg7 (fun b e => .inr e) (fun b e => .inl e) ht7
  have hv7 : LX w7 (XP Z sv' zv') v L := by
    have h7 := (hv.grown hg6 (fun b e hb => hg1 (by rw [e, hb]))).grown hg7 (fun b e hb => hg2 (by rw [e, hb]))
    obtain ⟨x, c, rfl, hr, hx⟩ := h7
    obtain ⟨x0, c0, e0, _, hx0⟩ := hv
    injection e0 with e0 _ _
    subst e0
    refine ⟨x, c, rfl, hr, fun b off e => ⟨⟨?_, fun e2 => ?_, fun e2 => ?_⟩, (hx b off e).2⟩⟩
    · have h9 : b = g := (hx b off e).1
      omega
    · have h0 := hx0 b off e
      have h02 := h0.2
      have h01 : b = g := h0.1
      rcases ht6 b e2 with h1 | h1
      · exact hg1 (h01 ▸ h1)
      · omega
    · have h0 := hx0 b off e
      have h02 := h0.2
      have h01 : b = g := h0.1
      rcases ht7 b e2 with h1 | h1
      · exact hg2 (h01 ▸ h1)
      · omega
  have hz0 := h.hsz
  refine ⟨?_, ?_, hl7.snoc hv7, ?_, by omega, fun b e e2 => ?_⟩
  · rw [List.length_append]
    exact ho.kept hg7 (by cases hq : sv'.ownBlock with | none => exact .inl rfl | some bq => exact .inr fun e => hd' bq hq e.symm)
  · rw [List.length_append, Ad.sz_snoc]
    unfold intV at hz ⊢
    rw [List.map_append]; exact hz
  · exact (h.hb.grown hg6 h.hsz (fun b e => (h.hS.lt b e).1)).grown hg7 (Nat.le_trans h.hsz z6) (fun b e => (h.hZ.lt b e).1)
  · rcases ht7 b e2 with h1 | h1
    · exact hd' b e h1
    · have := hsl6 b e; omega

/-- Two neighbours, joined: both rows anew. -/
theorem SS.join {w2 w4 w5 w6 : World} {Z k : Nat} {sv zv sv' zv' v : Value} {hs : List Value} {ps : List (List (Int × Int))} (h : SS w2 w4 Z sv zv hs ps) (hk : k + 1 < ps.length) (hv : LX w4 (fun b => Z ≤ b) v (Mg.mrg ltR (ps.getD k []) (ps.getD (k + 1) [])))
    (ho : w5.ownsRow w4.heap.size 24 1 sv' (ps.length - 1) (hs.take k ++ [v] ++ hs.drop (k + 2))) (hb5 : Below w4.heap.size w4 w5)
    (hz : w6.ownsRow w5.heap.size 3 1 zv' (ps.length - 1) ((intV (Ad.sz ps)).take k ++ [.int .i64 (((ps.getD k []).length : Nat) + ((ps.getD (k + 1) []).length : Nat) : Int)] ++ (intV (Ad.sz ps)).drop (k + 2))) (hb6 : Below w5.heap.size w5 w6) :
    SS w2 w6 Z sv' zv' (hs.take k ++ [v] ++ hs.drop (k + 2)) (Ad.jn ltR k ps) := by
  have hl : (Ad.jn ltR k ps).length = ps.length - 1 := by have := Ad.jn_length ltR hk; omega
  have z5 := hb5.size
  have z6 := hb6.size
  have hz0 := h.hsz
  have hb46 : Below w4.heap.size w4 w6 := below_tr hb5 hb6 hb5.size
  have hsb : ∀ b, sv'.ownBlock = some b → w4.heap.size ≤ b ∧ b < w5.heap.size := fun b e => ho.lt b e
  have hzb : ∀ b, zv'.ownBlock = some b → w5.heap.size ≤ b := fun b e => (hz.lt b e).1
  have hne : ∀ b, b < w4.heap.size → sv'.ownBlock ≠ some b ∧ zv'.ownBlock ≠ some b := fun b hb => ⟨fun e => by have := (hsb b e).1; omega, fun e => by have := hzb b e; omega⟩
  have hl4 : HX w4 (XP Z sv' zv') hs ps := h.hl.imp fun u L hu => hu.shrink fun b hb hl => ⟨hb.1, (hne b hl).1, (hne b hl).2⟩
  have hv4 : LX w4 (XP Z sv' zv') v (Mg.mrg ltR (ps.getD k []) (ps.getD (k + 1) [])) := hv.shrink fun b hb hl => ⟨hb, (hne b hl).1, (hne b hl).2⟩
  have hj := hl4.join hk hv4
  rw [← cut_set hs k v (by rw [h.hl.1]; exact hk)] at hj
  refine ⟨?_, ?_, hj.imp fun u L hu => hu.grown (show w4.grownBy w6 none from grown_of_below hb46) (fun b e => by cases e), below_tr h.hb hb46 hz0, by omega, fun b e e2 => ?_⟩
  · rw [hl]; exact own_mono (own_below ho (Nat.le_refl _) hb6) hz0
  · rw [hl, Ad.sz_jn, intV_st, Ad.sz_getD, Ad.sz_getD]
    exact own_mono hz (by omega)
  · have h1 := (hsb b e).2
    have h2 := hzb b e2
    omega

/-- Reversed from the front, k steps. -/
def rvK (P : List (Int × Int)) (k : Nat) : List (Int × Int) := P.reverse.take k ++ P.drop k
theorem rvK_zero (P : List (Int × Int)) : rvK P 0 = P := by simp [rvK]
theorem rvK_end (P : List (Int × Int)) : rvK P P.length = P.reverse := by
  unfold rvK
  rw [List.drop_of_length_le (Nat.le_refl _), List.append_nil, List.take_of_length_le (by simp)]
theorem rvK_len (P : List (Int × Int)) {k : Nat} (hk : k ≤ P.length) : (rvK P k).length = P.length := by unfold rvK; rw [List.length_append, List.length_take, List.length_drop, List.length_reverse]; omega
theorem rvK_step {P : List (Int × Int)} {k : Nat} (hk : k < P.length) : (rvK P k).set k (P.getD (P.length - 1 - k) (0, 0)) = rvK P (k + 1) := by
  have h1 : P.drop k = P[k] :: P.drop (k + 1) := List.drop_eq_getElem_cons hk
  have h2 : P.reverse.take (k + 1) = P.reverse.take k ++ [P.getD (P.length - 1 - k) (0, 0)] := by
    rw [List.take_add_one, List.getElem?_reverse hk, List.getD_eq_getElem?_getD, List.getElem?_eq_getElem (by omega)]; rfl
  have h3 : (P.reverse.take k).length = k := by rw [List.length_take, List.length_reverse]; omega
  unfold rvK
  rw [h1, h2, List.set_append_right _ _ (by omega), h3, Nat.sub_self, List.append_assoc]
  rfl

theorem one_cellA {w : World} {b : Nat} {h : Value} (hc : w.cell? ⟨b, 0, none⟩ = some h) : ∀ j x, [h][j]? = some x → w.cell? ((⟨b, 0, none⟩ : Addr).add j) = some x := fun j x hx => by
  cases j with
  | zero =>
    simp only [List.getElem?_cons_zero, Option.some.injEq] at hx
    subst hx
    rw [addr_add_zero]; exact hc
  | succ j => simp at hx

def spL (rs : List (Int × Int)) : List (Int × Int) := adL rs
/-- Where the stack of the reference stands. -/
def stR (pl : List (List (Int × Int))) (i : Nat) : List (List (Int × Int)) × Nat :=
  if i ≤ pl.length then Ad.pushes ltR (pl.take i) else ((Ad.settle ltR true (Ad.pushes ltR pl).1).1, (Ad.pushes ltR pl).2 + (Ad.settle ltR true (Ad.pushes ltR pl).1).2)

set_option maxRecDepth 100000 in
set_option maxHeartbeats 8000000 in
theorem specAdaptive_any (a : Option Addr) (n c : Nat) (rs : List (Int × Int)) (w : World) (hn : n ≤ 1000) (h : Rd w a n c rs) :
    Calls Try.prog 7 #[.slice a n c] w (AdEnd w rs) := by
  have hl := h.len
  have HV : Hid (Calls Try.prog 21 #[.slice a n c] w fun e w' => e = .returned (.bool (okRecs rs)) ∧ w = w') := by
    have := l2Records_any a c rs w (by omega) h.recs
    rwa [hl] at this
  have H := Lib.hid h
  clear h
  unfold AdEnd
  by_cases hok : okRecs rs = true
  case neg =>
    have hok2 : okRecs rs = false := by simpa using hok
    have HA : Hid (adL rs = [] ∧ adN rs = 0) := by
      show _ ∧ _
      unfold adL adN
      rw [hok2]; exact ⟨rfl, rfl⟩
    rw [hok2] at HV ⊢
    rw [HA.out.1, HA.out.2]
    have HE0 := Lib.hid (own_lit (w := w) (e := 42) (size := 2) #[] 0 (by omega) rfl)
    have HBE := Lib.hid ((Below.refl w.heap.size w).alloc (Nat.le_refl _) (.cells #[] 42))
    clear hok hok2
    go_enter Try.func7, Try.ntmps7
    go_wp2_with fail
    refine HV.out.mono ?_
    rintro e w1 ⟨rfl, rfl⟩
    go_wp2
    go_ret3
    exact ⟨some ⟨w.heap.size, 0, none⟩, 0, 0, rfl, rd_own (rs := []) HE0.out, HBE.out⟩
  have h64 := okRecs_le64 hok
  have HA : Hid (adL rs = Ad.adS ltR (partsL rs) ∧ adN rs = Ad.adC ltR (partsL rs)) := by
    show _ ∧ _
    unfold adL adN
    rw [hok]; exact ⟨rfl, rfl⟩
  rw [hok] at HV ⊢
  rw [HA.out.1, HA.out.2]
  have HPK := Lib.hid (parts_ok rs)
  have HRK := Lib.hid (runs_ok rs _ 0 rfl (Nat.zero_le _)).1
  have HNR := Lib.hid (l5Runs_any a c rs w h64 H.out.recs)
  rw [hl] at HNR
  obtain ⟨RN, hRN⟩ : ∃ RN, runsFrom (keysL rs) 0 = RN := ⟨_, rfl⟩
  have HPL : Hid (partsL rs = RN.map (prtL rs)) := by show _ = _; unfold partsL; rw [hRN]
  rw [hRN] at HNR HRK
  clear hok hRN
  go_enter Try.func7, Try.ntmps7
  go_wp2_with fail
  refine HV.out.mono ?_
  rintro e w1 ⟨rfl, rfl⟩
  go_wp2_with fail
  refine HNR.out.mono ?_
  rintro e w2 ⟨ar, cr, rfl, hor, hbr⟩
  have HRR := Lib.hid (recs_of_own hor)
  have HB2 := Lib.hid hbr
  obtain ⟨pl, hpl⟩ : ∃ pl, RN.map (prtL rs) = pl := ⟨_, rfl⟩
  have HPL2 := Lib.hid hpl
  rw [hpl] at HPL
  have hRNl : RN.length ≤ 64 := by
    have := HPK.out.2.2
    rw [HPL.out, ← hpl, List.length_map] at this
    omega
  have hpll : pl.length = RN.length := by rw [← hpl, List.length_map]
  have htp : totP pl ≤ 64 := by have := HPK.out.2.1; rw [HPL.out] at this; omega
  have e0 := (own_lit (w := w2) (e := 24) (size := 1) #[] 0 (by omega) rfl).alloc (.cells #[] 3)
  have e1 := own_lit (w := w2.alloc (.cells #[] 24)) (e := 3) (size := 1) #[] 0 (by omega) rfl
  have z1 : (w2.alloc (.cells #[] 24)).heap.size = w2.heap.size + 1 := by simp
  rw [z1] at e1
  have HS0 : Hid (SS w2 ((w2.alloc (.cells #[] 24)).alloc (.cells #[] 3)) w2.heap.size (.slice (some ⟨w2.heap.size, 0, none⟩) 0 0) (.slice (some ⟨w2.heap.size + 1, 0, none⟩) 0 0) [] []) :=
    Lib.hid ⟨e0, own_mono e1 (by omega), HX.nil _ _, by (repeat (first | exact Below.refl _ _ | assumption | refine Below.setCell ?_ (by first | omega | (simp; done) | (simp; omega)) _ | refine Below.alloc ?_ (by first | omega | (simp; done) | (simp; omega)) _ | refine Below.drew ?_ | refine below_drewN ?_ _)), by simp; omega, fun b e e2 => by injection e with e; injection e2 with e2; have e' : w2.heap.size = b := e; have e2' : w2.heap.size + 1 = b := e2; omega⟩
  clear hpl hor hbr e0 e1 z1
  go_wp2
  generalize (w2.alloc (.cells #[] 24)).alloc (.cells #[] 3) = w3 at HS0 ⊢
  obtain ⟨Z, hZ⟩ : ∃ Z, w2.heap.size = Z := ⟨_, rfl⟩
  have HZ := Lib.hid hZ
  rw [hZ] at HS0 ⊢
  clear hZ
  go_loopw [6, 7, 8, 9] (fun sv zv cv iv wr => ∃ (i : Nat) (hs : List Value), iv = .int .i64 i ∧ i ≤ RN.length + 1 ∧ cv = .int .i64 (((stR pl i).2 : Nat) : Int) ∧ Hid (SS w2 wr Z sv zv hs (stR pl i).1)) (fun _ _ _ iv _ => RN.length + 1 - (intOf iv).toNat)
  case atStart => exact ⟨0, [], rfl, by omega, rfl, HS0⟩
  case round =>
    obtain ⟨i, hs, rfl, hi, rfl, HS⟩ := hrel
    clear HS0
    have bi : (0 : Int) ≤ (i : Int) := by omega
    by_cases hex : i = RN.length + 1
    case pos =>
      have q1 : decide ((i : Int) ≤ (RN.length : Int)) = false := decide_eq_false (by omega)
      have hst : stR pl i = ((Ad.settle ltR true (Ad.pushes ltR pl).1).1, (Ad.pushes ltR pl).2 + (Ad.settle ltR true (Ad.pushes ltR pl).1).2) := by unfold stR; rw [if_neg (by omega)]
      have HRES : Hid (Ad.adS ltR (partsL rs) = (stR pl i).1.getD 0 [] ∧ Ad.adC ltR (partsL rs) = (stR pl i).2) := by
        show _ ∧ _
        rw [hst, HPL.out]
        exact ⟨rfl, rfl⟩
      have HBW : Hid (Below w.heap.size w wr) := Lib.hid (HB2.out.trans (HS.out.hb.mono (by rw [← HZ.out]; exact HB2.out.size)))
      obtain ⟨ST, hST⟩ : ∃ ST, stR pl i = ST := ⟨_, rfl⟩
      rw [hST] at HRES HS hst ⊢
      obtain ⟨sa, sc, hsv⟩ := own_slice HS.out.hS
      subst hsv
      by_cases h0 : pl.length = 0
      · have e0 : pl = [] := List.eq_nil_of_length_eq_zero h0
        have e1 : ST = ([], 0) := by rw [hst, e0]; rfl
        subst e1
        have HE0 := Lib.hid (own_lit (w := wr) (e := 42) (size := 2) #[] 0 (by omega) rfl)
        have HBE := Lib.hid (below_tr HBW.out ((Below.refl wr.heap.size wr).alloc (Nat.le_refl _) (.cells #[] 42)) HBW.out.size)
        clear hST hst e0
        go_wp2
        go_ret3
        refine ⟨some ⟨wr.heap.size, 0, none⟩, 0, 0, ?_, ?_, HBE.out⟩
        · rw [HRES.out.2]; rfl
        · rw [HRES.out.1]; exact rd_own (rs := []) HE0.out
      · have e1 : ST.1 = [Ad.jall ltR pl] := by rw [hst]; exact Ad.ad_end ltR (Mg.swK Prod.fst) pl (by omega)
        obtain ⟨v, hv, x, cx, rfl, hrd, _⟩ := HS.out.hl.at (k := 0) (by rw [e1]; exact Nat.one_pos)
        have hLl : (ST.1.getD 0 []).length = rs.length := by
          rw [e1]
          show (Ad.jall ltR pl).length = _
          rw [← HPL.out, HPK.out.1]; exact Mg.srt_length rs
        have hrs1 : 1 ≤ rs.length := by have := HPK.out.2.2; rw [HPL.out] at this; omega
        obtain ⟨L, hL⟩ : ∃ L, ST.1.getD 0 [] = L := ⟨_, rfl⟩
        rw [hL] at hv hrd hLl HRES
        have hl1 : ST.1.length = 1 := by rw [e1]; rfl
        obtain ⟨bx, ox, rfl, _⟩ := recs_addr hrd.recs (by omega)
        have hS1 := HS.out.hS
        rw [hl1] at hS1
        obtain ⟨gs, gsc, hgs⟩ := own_posA hS1 (by omega)
        injection hgs with hgs hgs2 hgs3
        clear hgs2 hgs3
        subst hgs
        have c1 : wr.cell? ⟨gs, 0, none⟩ = some (.slice (some ⟨bx, ox, none⟩) L.length cx) := own_cellA hS1 hv
        have lgs := (hS1.lt gs rfl).2
        have hb9 : Below wr.heap.size wr (wr.alloc (.cells #[] 42)).drew := by (repeat (first | exact Below.refl _ _ | assumption | refine Below.setCell ?_ (by first | omega | (simp; done) | (simp; omega)) _ | refine Below.alloc ?_ (by first | omega | (simp; done) | (simp; omega)) _ | refine Below.drew ?_ | refine below_drewN ?_ _))
        have hb8 : Below wr.heap.size wr (wr.alloc (.cells #[] 42)) := by (repeat (first | exact Below.refl _ _ | assumption | refine Below.setCell ?_ (by first | omega | (simp; done) | (simp; omega)) _ | refine Below.alloc ?_ (by first | omega | (simp; done) | (simp; omega)) _ | refine Below.drew ?_ | refine below_drewN ?_ _))
        have HE0 := Lib.hid (own_lit (w := wr) (e := 42) (size := 2) #[] 0 (by omega) rfl)
        have HRA := Lib.hid (hrd.same hb8).recs
        have hLm : L.length ≤ 64 := by omega
        have hL0 : 0 < L.length := by omega
        obtain ⟨m, hm⟩ : ∃ m, L.length = m := ⟨_, rfl⟩
        have HLM := Lib.hid hm
        rw [hm] at c1 hLm hL0
        rw [hl1]
        have HB8 := Lib.hid hb8
        have hle : wr.heap.size ≤ (wr.alloc (.cells #[] 42)).heap.size := hb8.size
        clear hv hrd hLl hrs1 hL hl1 hS1 e1 hST hst hm hb8 hb9
        go_wp2_with (at_builtin; refine wpList_appR (v := .slice (some ⟨wr.heap.size, 0, none⟩) 0 0) slRec rfl _ _ rfl rfl HE0.out rfl HRA.out HLM.out (nilOk_some _ _) (by omega) hle ?_; intro v' w7 ho7 hg7 ht7; rw [Nat.zero_add] at ho7; obtain ⟨g9, cp9, rfl⟩ := own_posA ho7 hL0; have HO7 := Lib.hid ho7; have HG7 := Lib.hid hg7; clear ho7 hg7 ht7)
        have HB7 := Lib.hid (below_tr HBW.out (HB8.out.grown HG7.out hle (fun b e => by injection e with e; exact Nat.le_of_eq e)) HBW.out.size)
        go_ret3
        refine ⟨some ⟨g9, 0, none⟩, m, cp9, ?_, ?_, HB7.out⟩
        · rw [HRES.out.2]; rfl
        · rw [HRES.out.1]; exact rd_own HO7.out
    case neg =>
      have q1 : decide ((i : Int) ≤ (RN.length : Int)) = true := decide_eq_true (by omega)
      have hst : stR pl i = Ad.pushes ltR (pl.take i) := by unfold stR; rw [if_pos (by omega)]
      rw [hst] at HS ⊢
      obtain ⟨S, hS⟩ : ∃ S, Ad.pushes ltR (pl.take i) = S := ⟨_, rfl⟩
      rw [hS] at HS ⊢
      obtain ⟨p1, p2, p3, p4⟩ := push_info pl htp (by omega) (j := i) (by omega)
      rw [hS] at p1 p2 p3 p4
      have HSE := Lib.hid hS
      obtain ⟨za, zc, hzv⟩ := own_slice HS.out.hZ
      obtain ⟨sa, sc, hsv⟩ := own_slice HS.out.hS
      subst hzv
      subst hsv
      obtain ⟨N0, hN0⟩ : ∃ N0, S.1.length = N0 := ⟨_, rfl⟩
      rw [hN0] at HS p2 ⊢
      have HN0 := Lib.hid hN0
      clear hst hS hN0
      go_upto_if 32 with fail
      go_cut [6, 7, 10, 11] from 23 to 158 (fun sv zv pp kk wx => ∃ (hs' : List Value), Hid (SS w2 wx Z sv zv hs' (if i < RN.length then S.1 ++ [pl.getD i []] else S.1)))
      case first =>
        by_cases hlt : i < RN.length
        case neg =>
          have q2 : decide ((i : Int) < (RN.length : Int)) = false := decide_eq_false (by omega)
          go_wp2_with fail
          go_meet
          case rel => exact ⟨hs, by rw [if_neg hlt]; exact HS⟩
        case pos =>
          have q2 : decide ((i : Int) < (RN.length : Int)) = true := decide_eq_true (by omega)
          have q3 : (i : Int) < (RN.length : Int) := by omega
          obtain ⟨L, hL⟩ : ∃ L, pl.getD i [] = L := ⟨_, rfl⟩
          have HLL : Hid (pl.getD i [] = L) := hL
          obtain ⟨br, orr, rfl, r1, r2⟩ := (HRR.out.below (Nat.le_refl _) (HZ.out ▸ HS.out.hb)).at hlt
          have hmem : RN.getD i (0, 0) ∈ RN := by rw [List.getD_eq_getElem?_getD, List.getElem?_eq_getElem hlt]; exact List.getElem_mem hlt
          obtain ⟨f, b, hfb, hb1, hfb2⟩ := HRK.out _ hmem
          rw [hfb] at r1 r2
          have HLP : Hid (L = prt ((rs.drop f).take b)) := by
            show _ = _
            have e1 : pl[i]? = some (prt ((rs.drop f).take b)) := by
              rw [← HPL2.out, List.getElem?_map, List.getElem?_eq_getElem hlt]
              rw [List.getD_eq_getElem?_getD, List.getElem?_eq_getElem hlt] at hfb
              have hfb' : RN[i] = ((f : Int), (b : Int)) := hfb
              rw [hfb']; rfl
            rw [← hL, List.getD_eq_getElem?_getD, e1]; rfl
          clear hmem hfb hL
          obtain ⟨ba, oa, rfl, _⟩ := recs_addr H.out.recs (by omega)
          have hcap := H.out.cap
          have hBR : Below w.heap.size w wr := HB2.out.trans (HS.out.hb.mono (by rw [← HZ.out]; exact HB2.out.size))
          have HPT := Lib.hid (rd_lo (rd_hi (H.out.same hBR) (h := f) (by omega)) (h := b) (by omega))
          have HHW := Lib.hid (H.out.same hBR)
          have hPl : ((rs.drop f).take b).length = b := by rw [List.length_take, List.length_drop]; omega
          have hPg : ∀ k, k < b → ((rs.drop f).take b).getD k (0, 0) = rs.getD (f + k) (0, 0) := fun k hk => by
            simp only [List.getD_eq_getElem?_getD, List.getElem?_take, List.getElem?_drop, if_pos hk]
          obtain ⟨P, hP⟩ : ∃ P, (rs.drop f).take b = P := ⟨_, rfl⟩
          rw [hP] at HPT HLP hPl hPg
          have HPG := Lib.hid hPg
          clear hP hPg hBR
          have b1 : (0 : Int) ≤ (f : Int) := by omega
          have b2 : IntKind.i64.wrap ((f : Int) + (b : Int)) = (f : Int) + (b : Int) := by rw [IntKind.wrap_i64]; omega
          have b3 : (f : Int) ≤ (f : Int) + (b : Int) := by omega
          have b4 : (f : Int) + (b : Int) ≤ (c : Int) := by omega
          have b5 : ((f : Int) + (b : Int)).toNat = f + b := by omega
          have b6 : ¬ (c = f) := by omega
          have b7 : (0 : Int) ≤ (f : Int) + (b : Int) := by omega
          have r1a : wr.drew.cell? ⟨br, orr + i * 2, none⟩ = some (.int .i64 (f : Int)) := r1
          have r2a : wr.drew.cell? ⟨br, orr + i * 2 + 1, none⟩ = some (.int .i64 (b : Int)) := r2
          have hb9 : Below wr.heap.size wr (wr.alloc (.cells #[] 42)).drew := by (repeat (first | exact Below.refl _ _ | assumption | refine Below.setCell ?_ (by first | omega | (simp; done) | (simp; omega)) _ | refine Below.alloc ?_ (by first | omega | (simp; done) | (simp; omega)) _ | refine Below.drew ?_ | refine below_drewN ?_ _))
          have hbrl : br < wr.heap.size := by
            rcases HRR.out with h | ⟨b', o', h1, h2, _⟩
            · rw [h] at hlt
              exact absurd hlt (by simp)
            · injection h1 with h1
              injection h1 with h1 _
              subst h1
              have := HS.out.hsz
              have := HZ.out
              omega
          have r1b : (wr.alloc (.cells #[] 42)).drew.cell? ⟨br, orr + i * 2, none⟩ = some (.int .i64 (f : Int)) := (hb9.cell (p := ⟨br, orr + i * 2, none⟩) hbrl).trans r1
          have r2b : (wr.alloc (.cells #[] 42)).drew.cell? ⟨br, orr + i * 2 + 1, none⟩ = some (.int .i64 (b : Int)) := (hb9.cell (p := ⟨br, orr + i * 2 + 1, none⟩) hbrl).trans r2
          have HBRL := Lib.hid hbrl
          have HR12 := Lib.hid (And.intro r1 r2)
          have HOE : Hid ((wr.alloc (.cells #[] 42)).drew.ownsRow wr.heap.size 42 2 (.slice (some ⟨wr.heap.size, 0, none⟩) 0 0) 0 []) := Lib.hid (own_none (heap_alloc_new wr _) (Nat.le_refl _))
          have HCE : Hid (∀ j x, (flat encR P)[j]? = some x → (wr.alloc (.cells #[] 42)).drew.cell? ((⟨ba, oa + f * 2, none⟩ : Addr).add j) = some x) := Lib.hid (recs_newsN (HPT.out.same hb9).recs)
          have HOC : Hid (∀ u ∈ flat encR P, u.oneCell' = true) := Lib.hid recs_oneN
          clear r1 r2
          go_upto_region 11 with fail
          go_cut [10] from 23 to 158 (fun pp wx => ∃ g cp, pp = .slice (some ⟨g, 0, none⟩) b cp ∧ Hid (wx.ownsRow wr.heap.size 42 2 (.slice (some ⟨g, 0, none⟩) b cp) b (flat encR P)) ∧ Hid (Below wr.heap.size wr wx))
          case first =>
            go_region_held3 (fun w' => w'.cell? ⟨br, orr + i * 2, none⟩ = some (.int .i64 (f : Int)) ∧ w'.cell? ⟨br, orr + i * 2 + 1, none⟩ = some (.int .i64 (b : Int))) (go_keep)
              (first | (refine step_appX slRec rfl _ _ rfl wr.heap.size (.slice (some ⟨wr.heap.size, 0, none⟩) 0 0) 0 [] ⟨ba, oa + f * 2, none⟩ b (c - f) (flat encR P) (by simp [Act.eval, Act.put]) HOE.out (by simp [Act.eval, Act.put]) (by rw [flat_length encR_len, hPl]) HCE.out HOC.out (by omega) (by simp) ?_; intro v' w7 ho7 hg7 ht7; rw [Nat.zero_add, List.nil_append] at ho7; obtain ⟨g9, cp9, rfl⟩ := own_posA ho7 (by omega); have s1 := hg7.cell r1b (fun e => by injection e with e; have := HBRL.out; have e' : br = wr.heap.size := e; omega); have s2 := hg7.cell r2b (fun e => by injection e with e; have := HBRL.out; have e' : br = wr.heap.size := e; omega)))
            all_goals
              have HO7 := Lib.hid ho7
              have HB7 := Lib.hid (hb9.grown hg7 (by simp) (fun b e => by injection e with e; exact Nat.le_of_eq e))
              go_wp2_with fail
              go_meet
              case rel => exact ⟨g9, cp9, rfl, HO7, HB7⟩
          case rest =>
            obtain ⟨gp, cp, rfl, HO4, HB4⟩ := hcut
            clear r1a r2a r1b r2b hb9 HOE HCE HOC
            by_cases h1 : 1 < b
            case neg =>
              have d1 : decide (1 < (b : Int)) = false := decide_eq_false (by omega)
              have HPE : Hid (prt P = P) := by show _ = _; unfold prt; rw [if_neg (by omega)]
              go_wp2_with fail
              go_quiet (fail)
              have HO5 : Hid ((wc.drewN nq).ownsRow wr.heap.size 42 2 (.slice (some ⟨gp, 0, none⟩) b cp) b (flat encR L)) := by rw [HLP.out, HPE.out]; exact own_heap HO4.out rfl
              have HB5 := Lib.hid (below_drewN HB4.out nq)
              clear HO4 HB4
              generalize wc.drewN nq = w5 at HO5 HB5 ⊢
              have HS5 := Lib.hid (HS.out.below HB5.out)
              have hgl := HO5.out.lt gp rfl
              have hs5 := HB5.out.size
              have hLl : L.length = b := by rw [HLP.out, prt_len, hPl]
              have HSS : Hid (w5.ownsRow Z 24 1 (.slice sa N0 sc) N0 hs) := Lib.hid (by have := HS5.out.hS; rwa [HN0.out] at this)
              have HZZ : Hid (w5.ownsRow Z 3 1 (.slice za N0 zc) N0 (intV (Ad.sz S.1))) := Lib.hid (by have := HS5.out.hZ; rwa [HN0.out] at this)
              have hZ5 : Z ≤ w5.heap.size := HS5.out.hsz
              have HSL : Hid (∀ b, (Value.slice sa N0 sc).ownBlock = some b → b < wr.heap.size) := Lib.hid (fun b e => (HS.out.hS.lt b e).2)
              have HZL : Hid (∀ b, (Value.slice za N0 zc).ownBlock = some b → b < wr.heap.size) := Lib.hid (fun b e => (HS.out.hZ.lt b e).2)
              go_wp2_with (first
                | (at_builtin; refine wpList_app1 (v := .slice sa N0 sc) slLsA rfl _ _ rfl rfl HSS.out [.slice (some ⟨gp, 0, none⟩) b cp] rfl rfl (by simp) (by simp [Value.oneCell']) (by omega) hZ5 ?_; intro sv' w6 hown6 hg6 ht6; obtain ⟨sa', sc', rfl⟩ := own_slice hown6; have HO6 := Lib.hid hown6; have HG6 := Lib.hid hg6; have HT6 := Lib.hid ht6; have hZ6 : Z ≤ w6.heap.size := Nat.le_trans hZ5 hg6.size; have HZ6 := Lib.hid (HZZ.out.kept hg6 (by cases hq : (Value.slice za N0 zc).ownBlock with | none => exact .inl rfl | some bq => exact .inr fun e => HS5.out.hd bq e.symm hq)); clear hown6 hg6 ht6)
                | (at_builtin; refine wpList_app1 (v := .slice za N0 zc) slInt rfl _ _ rfl rfl HZ6.out [.int .i64 (b : Int)] rfl rfl (by simp) (by simp [Value.oneCell']) (by omega) hZ6 ?_; intro zv' w7 hown7 hg7 ht7; obtain ⟨za', zc', rfl⟩ := own_slice hown7; have HO7 := Lib.hid hown7; have HG7 := Lib.hid hg7; have HT7 := Lib.hid ht7; clear hown7 hg7 ht7))
              have HSN : Hid (SS w2 w7 Z (.slice sa' (N0 + 1) sc') (.slice za' (N0 + 1) zc') (hs ++ [.slice (some ⟨gp, 0, none⟩) b cp]) (S.1 ++ [L])) := Lib.hid (SS.push (g := gp) (w6 := w6) HS5.out
                ⟨some ⟨gp, 0, none⟩, cp, by rw [hLl], by rw [hLl]; exact rd_own HO5.out, fun b' off e => by injection e with e; injection e with e; subst e; exact ⟨rfl, hgl.2⟩⟩ (by have := HS.out.hsz; omega) (fun e => by have := HSL.out gp e; omega) (fun e => by have := HZL.out gp e; omega)
                (by rw [HN0.out]; exact HO6.out) HG6.out (fun b e => HT6.out.elim (fun h => .inl (h ▸ e)) (fun h => .inr (by rw [h] at e; injection e with e; omega)))
                (by rw [HN0.out, hLl]; exact HO7.out) HG7.out (fun b e => HT7.out.elim (fun h => .inl (h ▸ e)) (fun h => .inr (by rw [h] at e; injection e with e; omega))))
              clear HO6 HG6 HT6 HO7 HG7 HT7 HZ6 HSS HZZ HS5 HO5
              go_wp2_with fail
              go_meet
              case rel => exact ⟨_, by rw [if_pos hlt, HLL.out]; exact HSN⟩
            case pos =>
              have d1 : decide (1 < (b : Int)) = true := decide_eq_true (by omega)
              have hp0 : P[0]? = some (P.getD 0 (0, 0)) := by rw [List.getD_eq_getElem?_getD, List.getElem?_eq_getElem (by omega)]; rfl
              have hp1 : P[1]? = some (P.getD 1 (0, 0)) := by rw [List.getD_eq_getElem?_getD, List.getElem?_eq_getElem (by omega)]; rfl
              obtain ⟨c1, _⟩ := rec_cells HO4.out hp0
              obtain ⟨c2, _⟩ := rec_cells HO4.out hp1
              obtain ⟨X0, hX0⟩ : ∃ x, P.getD 0 (0, 0) = x := ⟨_, rfl⟩
              obtain ⟨X1, hX1⟩ : ∃ x, P.getD 1 (0, 0) = x := ⟨_, rfl⟩
              rw [hX0] at c1
              rw [hX1] at c2
              have c1' : wc.cell? ⟨gp, 0, none⟩ = some (.int .i64 X0.1) := by simpa using c1
              have c2' : wc.cell? ⟨gp, 2, none⟩ = some (.int .i64 X1.1) := by simpa using c2
              have d2 : (1 : Int) < (b : Int) := by omega
              have d3 : (0 : Int) < (b : Int) := by omega
              have d4 : 1 < b := h1
              have d5 : 0 < b := by omega
              clear c1 c2 hp0 hp1
              by_cases hd : X1.1 < X0.1
              case neg =>
                have e1 : decide (X1.1 < X0.1) = false := decide_eq_false hd
                have HPE : Hid (prt P = P) := by show _ = _; unfold prt; rw [hX0, hX1, if_neg (fun h => hd h.2)]
                clear hX0 hX1
                go_wp2_with fail
                go_quiet (fail)
                have HO5 : Hid ((wc.drewN nq).ownsRow wr.heap.size 42 2 (.slice (some ⟨gp, 0, none⟩) b cp) b (flat encR L)) := by rw [HLP.out, HPE.out]; exact own_heap HO4.out rfl
                have HB5 := Lib.hid (below_drewN HB4.out nq)
                clear HO4 HB4
                generalize wc.drewN nq = w5 at HO5 HB5 ⊢
                have HS5 := Lib.hid (HS.out.below HB5.out)
                have hgl := HO5.out.lt gp rfl
                have hs5 := HB5.out.size
                have hLl : L.length = b := by rw [HLP.out, prt_len, hPl]
                have HSS : Hid (w5.ownsRow Z 24 1 (.slice sa N0 sc) N0 hs) := Lib.hid (by have := HS5.out.hS; rwa [HN0.out] at this)
                have HZZ : Hid (w5.ownsRow Z 3 1 (.slice za N0 zc) N0 (intV (Ad.sz S.1))) := Lib.hid (by have := HS5.out.hZ; rwa [HN0.out] at this)
                have hZ5 : Z ≤ w5.heap.size := HS5.out.hsz
                have HSL : Hid (∀ b, (Value.slice sa N0 sc).ownBlock = some b → b < wr.heap.size) := Lib.hid (fun b e => (HS.out.hS.lt b e).2)
                have HZL : Hid (∀ b, (Value.slice za N0 zc).ownBlock = some b → b < wr.heap.size) := Lib.hid (fun b e => (HS.out.hZ.lt b e).2)
                go_wp2_with (first
                  | (at_builtin; refine wpList_app1 (v := .slice sa N0 sc) slLsA rfl _ _ rfl rfl HSS.out [.slice (some ⟨gp, 0, none⟩) b cp] rfl rfl (by simp) (by simp [Value.oneCell']) (by omega) hZ5 ?_; intro sv' w6 hown6 hg6 ht6; obtain ⟨sa', sc', rfl⟩ := own_slice hown6; have HO6 := Lib.hid hown6; have HG6 := Lib.hid hg6; have HT6 := Lib.hid ht6; have hZ6 : Z ≤ w6.heap.size := Nat.le_trans hZ5 hg6.size; have HZ6 := Lib.hid (HZZ.out.kept hg6 (by cases hq : (Value.slice za N0 zc).ownBlock with | none => exact .inl rfl | some bq => exact .inr fun e => HS5.out.hd bq e.symm hq)); clear hown6 hg6 ht6)
                  | (at_builtin; refine wpList_app1 (v := .slice za N0 zc) slInt rfl _ _ rfl rfl HZ6.out [.int .i64 (b : Int)] rfl rfl (by simp) (by simp [Value.oneCell']) (by omega) hZ6 ?_; intro zv' w7 hown7 hg7 ht7; obtain ⟨za', zc', rfl⟩ := own_slice hown7; have HO7 := Lib.hid hown7; have HG7 := Lib.hid hg7; have HT7 := Lib.hid ht7; clear hown7 hg7 ht7))
                have HSN : Hid (SS w2 w7 Z (.slice sa' (N0 + 1) sc') (.slice za' (N0 + 1) zc') (hs ++ [.slice (some ⟨gp, 0, none⟩) b cp]) (S.1 ++ [L])) := Lib.hid (SS.push (g := gp) (w6 := w6) HS5.out
                  ⟨some ⟨gp, 0, none⟩, cp, by rw [hLl], by rw [hLl]; exact rd_own HO5.out, fun b' off e => by injection e with e; injection e with e; subst e; exact ⟨rfl, hgl.2⟩⟩ (by have := HS.out.hsz; omega) (fun e => by have := HSL.out gp e; omega) (fun e => by have := HZL.out gp e; omega)
                  (by rw [HN0.out]; exact HO6.out) HG6.out (fun b e => HT6.out.elim (fun h => .inl (h ▸ e)) (fun h => .inr (by rw [h] at e; injection e with e; omega)))
                  (by rw [HN0.out, hLl]; exact HO7.out) HG7.out (fun b e => HT7.out.elim (fun h => .inl (h ▸ e)) (fun h => .inr (by rw [h] at e; injection e with e; omega))))
                clear HO6 HG6 HT6 HO7 HG7 HT7 HZ6 HSS HZZ HS5 HO5
                go_wp2_with fail
                go_meet
                case rel => exact ⟨_, by rw [if_pos hlt, HLL.out]; exact HSN⟩
              case pos =>
                have e1 : decide (X1.1 < X0.1) = true := decide_eq_true hd
                have HPE : Hid (prt P = P.reverse) := by show _ = _; unfold prt; rw [hX0, hX1, if_pos ⟨by omega, hd⟩]
                clear hX0 hX1
                go_wp2_with fail
                go_quiet (fail)
                have HO4d : Hid ((wc.drewN nq).ownsRow wr.heap.size 42 2 (.slice (some ⟨gp, 0, none⟩) b cp) b (flat encR (rvK P 0))) := by rw [rvK_zero]; exact own_heap HO4.out rfl
                have HB4d := Lib.hid (below_drewN HB4.out nq)
                have HGL := Lib.hid (HO4.out.lt gp rfl)
                clear HO4 HB4 c1' c2'
                generalize wc.drewN nq = w4 at HO4d HB4d ⊢
                go_wp2
                go_loopw [11] (fun kv wx => ∃ k : Nat, kv = .int .i64 k ∧ k ≤ b ∧ Hid (wx.ownsRow wr.heap.size 42 2 (.slice (some ⟨gp, 0, none⟩) b cp) b (flat encR (rvK P k))) ∧ Hid (Below wr.heap.size wr wx)) (fun kv _ => b - (intOf kv).toNat)
                case atStart => exact ⟨0, rfl, by omega, HO4d, HB4d⟩
                case round =>
                  rename World => wx
                  obtain ⟨k, rfl, hk, HO, HB⟩ := hrel
                  clear HO4d HB4d
                  have bk : (0 : Int) ≤ (k : Int) := by omega
                  by_cases hkb : k < b
                  case neg =>
                    have hkb2 : k = b := by omega
                    subst hkb2
                    have t1 : decide ((k : Int) < (k : Int)) = false := decide_eq_false (by omega)
                    have HE := Lib.hid (rvK_end P)
                    have HO5 : Hid (wx.ownsRow wr.heap.size 42 2 (.slice (some ⟨gp, 0, none⟩) k cp) k (flat encR L)) := by
                      have := HO.out
                      rw [show k = P.length from hPl.symm, HE.out] at this
                      rw [HLP.out, HPE.out]
                      rw [show k = P.length from hPl.symm]
                      exact this
                    have HB5 := HB
                    clear HO HB HPG
                    rename World => w5
                    have HS5 := Lib.hid (HS.out.below HB5.out)
                    have hgl := HO5.out.lt gp rfl
                    have hs5 := HB5.out.size
                    have hLl : L.length = k := by rw [HLP.out, prt_len, hPl]
                    have HSS : Hid (w5.ownsRow Z 24 1 (.slice sa N0 sc) N0 hs) := Lib.hid (by have := HS5.out.hS; rwa [HN0.out] at this)
                    have HZZ : Hid (w5.ownsRow Z 3 1 (.slice za N0 zc) N0 (intV (Ad.sz S.1))) := Lib.hid (by have := HS5.out.hZ; rwa [HN0.out] at this)
                    have hZ5 : Z ≤ w5.heap.size := HS5.out.hsz
                    have HSL : Hid (∀ b, (Value.slice sa N0 sc).ownBlock = some b → b < wr.heap.size) := Lib.hid (fun b e => (HS.out.hS.lt b e).2)
                    have HZL : Hid (∀ b, (Value.slice za N0 zc).ownBlock = some b → b < wr.heap.size) := Lib.hid (fun b e => (HS.out.hZ.lt b e).2)
                    go_wp2_with (first
                      | (at_builtin; refine wpList_app1 (v := .slice sa N0 sc) slLsA rfl _ _ rfl rfl HSS.out [.slice (some ⟨gp, 0, none⟩) k cp] rfl rfl (by simp) (by simp [Value.oneCell']) (by omega) hZ5 ?_; intro sv' w6 hown6 hg6 ht6; obtain ⟨sa', sc', rfl⟩ := own_slice hown6; have HO6 := Lib.hid hown6; have HG6 := Lib.hid hg6; have HT6 := Lib.hid ht6; have hZ6 : Z ≤ w6.heap.size := Nat.le_trans hZ5 hg6.size; have HZ6 := Lib.hid (HZZ.out.kept hg6 (by cases hq : (Value.slice za N0 zc).ownBlock with | none => exact .inl rfl | some bq => exact .inr fun e => HS5.out.hd bq e.symm hq)); clear hown6 hg6 ht6)
                      | (at_builtin; refine wpList_app1 (v := .slice za N0 zc) slInt rfl _ _ rfl rfl HZ6.out [.int .i64 (k : Int)] rfl rfl (by simp) (by simp [Value.oneCell']) (by omega) hZ6 ?_; intro zv' w7 hown7 hg7 ht7; obtain ⟨za', zc', rfl⟩ := own_slice hown7; have HO7 := Lib.hid hown7; have HG7 := Lib.hid hg7; have HT7 := Lib.hid ht7; clear hown7 hg7 ht7))
                    have HSN : Hid (SS w2 w7 Z (.slice sa' (N0 + 1) sc') (.slice za' (N0 + 1) zc') (hs ++ [.slice (some ⟨gp, 0, none⟩) k cp]) (S.1 ++ [L])) := Lib.hid (SS.push (g := gp) (w6 := w6) HS5.out
                      ⟨some ⟨gp, 0, none⟩, cp, by rw [hLl], by rw [hLl]; exact rd_own HO5.out, fun b' off e => by injection e with e; injection e with e; subst e; exact ⟨rfl, hgl.2⟩⟩ (by have := HS.out.hsz; omega) (fun e => by have := HSL.out gp e; omega) (fun e => by have := HZL.out gp e; omega)
                      (by rw [HN0.out]; exact HO6.out) HG6.out (fun b e => HT6.out.elim (fun h => .inl (h ▸ e)) (fun h => .inr (by rw [h] at e; injection e with e; omega)))
                      (by rw [HN0.out, hLl]; exact HO7.out) HG7.out (fun b e => HT7.out.elim (fun h => .inl (h ▸ e)) (fun h => .inr (by rw [h] at e; injection e with e; omega))))
                    clear HO6 HG6 HT6 HO7 HG7 HT7 HZ6 HSS HZZ HS5 HO5
                    go_wp2_with fail
                    go_meet
                    case rel => exact ⟨_, by rw [if_pos hlt, HLL.out]; exact HSN⟩
                  case pos =>
                    have t1 : decide ((k : Int) < (b : Int)) = true := decide_eq_true (by omega)
                    have t2 : (k : Int) < (b : Int) := by omega
                    obtain ⟨q, hq⟩ : ∃ q, q = f + (b - 1 - k) := ⟨_, rfl⟩
                    obtain ⟨bb', oo', hbb, y1, y2⟩ := ((HHW.out.same HB.out).at (k := q) (by omega))
                    injection hbb with hbb
                    injection hbb with hb1' hb2'
                    subst hb1'
                    subst hb2'
                    have hY : P.getD (P.length - 1 - k) (0, 0) = rs.getD q (0, 0) := by rw [HPG.out _ (by omega), hq, hPl]
                    obtain ⟨Y, hYe⟩ : ∃ Y, rs.getD q (0, 0) = Y := ⟨_, rfl⟩
                    have hstep := rvK_step (P := P) (k := k) (by omega)
                    rw [hY, hYe] at hstep
                    rw [hYe] at y1 y2
                    have HST := Lib.hid hstep
                    have HLN : Hid ((rvK P k).length = b) := Lib.hid (by rw [rvK_len P (by omega), hPl])
                    clear hY hYe hstep
                    obtain ⟨Y1, Y2⟩ := Y
                    have hold : (rvK P k)[k]? = some ((rvK P k).getD k (0, 0)) := by rw [List.getD_eq_getElem?_getD, List.getElem?_eq_getElem (by rw [HLN.out]; omega)]; rfl
                    obtain ⟨o1, o2⟩ := rec_cells HO.out hold
                    generalize (rvK P k).getD k (0, 0) = O at o1 o2 hold
                    obtain ⟨O1, O2⟩ := O
                    clear hold
                    have hgb : wr.heap.size ≤ gp := HGL.out.1
                    have hbal : ba < wr.heap.size := by
                      rcases HHW.out.recs with h | ⟨b', o', h1, h2, _⟩
                      · have := HHW.out.len
                        rw [h] at this
                        simp at this
                        omega
                      · injection h1 with h1
                        injection h1 with h1 _
                        subst h1
                        exact h2
                    have hbr2 := HBRL.out
                    have nb1 : gp ≠ br := by omega
                    have nb2 : gp ≠ ba := by omega
                    have x1 : wx.drew.cell? ⟨br, orr + i * 2, none⟩ = some (.int .i64 (f : Int)) := (HB.out.cell (p := ⟨br, orr + i * 2, none⟩) hbr2).trans HR12.out.1
                    have x2 : wx.drew.cell? ⟨br, orr + i * 2 + 1, none⟩ = some (.int .i64 (b : Int)) := (HB.out.cell (p := ⟨br, orr + i * 2 + 1, none⟩) hbr2).trans HR12.out.2
                    have x3 : wx.drew.cell? ⟨ba, oa + q * 2, none⟩ = some (.int .i64 Y1) := y1
                    have x4 : wx.drew.cell? ⟨ba, oa + q * 2 + 1, none⟩ = some (.int .i64 Y2) := y2
                    have x5 : wx.drew.cell? ⟨gp, k * 2, none⟩ = some (.int .i64 O1) := o1
                    have x6 : wx.drew.cell? ⟨gp, k * 2 + 1, none⟩ = some (.int .i64 O2) := o2
                    have rf : ∀ o, wx.drew.frozen? ⟨gp, o, none⟩ = false := fun o => HO.out.frozenAt o
                    have s1 := HO.out.stored (k * 2) (.int .i64 Y1)
                    have s2 := s1.1.stored (k * 2 + 1) (.int .i64 Y2)
                    have i1 : (wx.setCell ⟨gp, k * 2, none⟩ (.int .i64 Y1)).drew.cell? ⟨gp, k * 2 + 1, none⟩ = some (.int .i64 O2) := (cell_far (by omega)).trans o2
                    have f1 : ∀ o, (wx.setCell ⟨gp, k * 2, none⟩ (.int .i64 Y1)).drew.frozen? ⟨gp, o, none⟩ = false := fun o => s1.1.frozenAt o
                    have fa : ∀ (bq oq : Nat), gp ≠ bq → ((wx.setCell ⟨gp, k * 2, none⟩ (.int .i64 Y1)).setCell ⟨gp, k * 2 + 1, none⟩ (.int .i64 Y2)).drew.cell? ⟨bq, oq, none⟩ = wx.drew.cell? ⟨bq, oq, none⟩ := fun bq oq hne =>
                      (World.cell?_setCell_other _ _ _ _ (fun e => hne (by injection e))).trans (World.cell?_setCell_other _ _ _ _ (fun e => hne (by injection e)))
                    have z1 := (fa br (orr + i * 2) nb1).trans x1
                    have z2 := (fa br (orr + i * 2 + 1) nb1).trans x2
                    have z3 := (fa ba (oa + q * 2) nb2).trans x3
                    have z4 := (fa ba (oa + q * 2 + 1) nb2).trans x4
                    have HO9 : Hid (((wx.setCell ⟨gp, k * 2, none⟩ (.int .i64 Y1)).setCell ⟨gp, k * 2 + 1, none⟩ (.int .i64 Y2)).ownsRow wr.heap.size 42 2 (.slice (some ⟨gp, 0, none⟩) b cp) b (flat encR (rvK P (k + 1)))) := by
                      have hfl := flat_set2 encR_len (rvK P k) k (by rw [HLN.out]; omega) (Y1, Y2) _ _ rfl
                      have := s2.1
                      rw [hfl, HST.out] at this
                      exact Lib.hid this
                    have HB9 := Lib.hid ((HB.out.grown s1.2 HB.out.size (fun b e => by injection e with e; subst e; exact hgb)).grown s2.2 (Nat.le_trans HB.out.size s1.2.size) (fun b e => by injection e with e; subst e; exact hgb))
                    have hqi : (f : Int) + (b : Int) - 1 - (k : Int) = (q : Int) := by omega
                    have hw1 : IntKind.i64.wrap ((f : Int) + (b : Int) - 1) = (f : Int) + (b : Int) - 1 := by rw [IntKind.wrap_i64]; omega
                    have hw2 : IntKind.i64.wrap (q : Int) = (q : Int) := by rw [IntKind.wrap_i64]; omega
                    have g1 : (0 : Int) ≤ (q : Int) := by omega
                    have g2 : (q : Int) < (n : Int) := by omega
                    have g3 : q < n := by omega
                    clear s1 s2 fa hq hgb hbal hbr2 nb1 nb2 o1 o2 y1 y2
                    go_upto_block 3 with fail
                    go_cut [11] from 67 to 92 (fun kv wz => kv = .int .i64 k ∧ wz = ((wx.setCell ⟨gp, k * 2, none⟩ (.int .i64 Y1)).setCell ⟨gp, k * 2 + 1, none⟩ (.int .i64 Y2)).drew)
                    case first =>
                      go_wp2_with fail
                      go_region_held3 (fun w' => w'.cell? ⟨br, orr + i * 2, none⟩ = some (.int .i64 (f : Int)) ∧ w'.cell? ⟨br, orr + i * 2 + 1, none⟩ = some (.int .i64 (b : Int)) ∧ w'.cell? ⟨ba, oa + q * 2, none⟩ = some (.int .i64 Y1) ∧ w'.cell? ⟨ba, oa + q * 2 + 1, none⟩ = some (.int .i64 Y2)) (go_keep) (fail)
                      all_goals (go_wp2_with fail; go_meet)
                      case rel => exact ⟨rfl, rfl⟩
                    case rest =>
                      obtain ⟨rfl, rfl⟩ := hcut
                      generalize (wx.setCell ⟨gp, k * 2, none⟩ (.int .i64 Y1)).setCell ⟨gp, k * 2 + 1, none⟩ (.int .i64 Y2) = w9 at HO9 HB9 ⊢
                      go_wp2
                      go_roundw
                      case rel => exact ⟨k + 1, by go_num, by omega, HO9, Lib.hid HB9.out.drew⟩
                      case measure => simp [intOf]; omega
      case rest =>
        obtain ⟨hs5, HS5⟩ := hcut
        have HINFO : Hid (i < RN.length ∧ ((i : Int) == (RN.length : Int)) = false ∧ (if i < RN.length then S.1 ++ [pl.getD i []] else S.1) = S.1 ++ [pl.getD i []] ∧ totP (S.1 ++ [pl.getD i []]) ≤ 64 ∧ stR pl (i + 1) = ((Ad.settle ltR false (S.1 ++ [pl.getD i []])).1, S.2 + (Ad.settle ltR false (S.1 ++ [pl.getD i []])).2) ∨
            i = RN.length ∧ ((i : Int) == (RN.length : Int)) = true ∧ (if i < RN.length then S.1 ++ [pl.getD i []] else S.1) = S.1 ∧ totP S.1 ≤ 64 ∧ stR pl (i + 1) = ((Ad.settle ltR true S.1).1, S.2 + (Ad.settle ltR true S.1).2)) := by
          show _ ∨ _
          by_cases hlt : i < RN.length
          · have htk : pl.take (i + 1) = pl.take i ++ [pl.getD i []] := by rw [List.take_add_one, List.getD_eq_getElem?_getD, List.getElem?_eq_getElem (by omega)]; rfl
            have p5 := totP_take pl (i + 1)
            rw [htk, totP_snoc, ← p3] at p5
            refine .inl ⟨hlt, by rw [beq_eq_false_iff_ne]; omega, if_pos hlt, by rw [totP_snoc]; omega, ?_⟩
            unfold stR
            rw [if_pos (by omega), htk, Ad.pushes_snoc, HSE.out]
          · have hie : i = RN.length := by omega
            have p5 := totP_take pl i
            refine .inr ⟨hie, by rw [beq_iff_eq]; omega, if_neg hlt, by omega, ?_⟩
            have hse := HSE.out
            rw [List.take_of_length_le (by omega)] at hse
            unfold stR
            rw [if_neg (by omega), hse]
        obtain ⟨P5, hP5⟩ : ∃ P5, (if i < RN.length then S.1 ++ [pl.getD i []] else S.1) = P5 := ⟨_, rfl⟩
        obtain ⟨e, he⟩ : ∃ e : Bool, ((i : Int) == (RN.length : Int)) = e := ⟨_, rfl⟩
        rw [hP5, he] at HINFO
        rw [hP5] at HS5
        have HN5 : Hid (P5.length ≤ 65 ∧ totP P5 ≤ 64 ∧ stR pl (i + 1) = ((Ad.settle ltR e P5).1, S.2 + (Ad.settle ltR e P5).2)) := by
          have h0 := HN0.out
          rcases HINFO.out with ⟨a1, a2, a3, a4, a5⟩ | ⟨a1, a2, a3, a4, a5⟩
          · rw [a3, a2]; exact Lib.hid ⟨by rw [List.length_append]; simp; omega, a4, a5⟩
          · rw [a3, a2]; exact Lib.hid ⟨by omega, a4, a5⟩
        have hP5l := HN5.out.1
        have hP5t := HN5.out.2.1
        have hCTb0 : S.2 + (Ad.settle ltR e P5).2 ≤ 100000 := by
          obtain ⟨f1, _, f3⟩ := Ad.fol_idx ltR e _ P5 rfl
          have f4 := fol_bound 64 _ _ hP5t f3
          rw [f1] at f4
          have f5 := (idx_ok e _ (Ad.sz P5) rfl (sz_nn _)).2.2
          rw [Ad.sz_length] at f5
          have f6 : (Ad.idx e (Ad.sz P5)).2.length ≤ 65 := by omega
          have f7 : 64 * (Ad.idx e (Ad.sz P5)).2.length ≤ 64 * 65 := Nat.mul_le_mul_left _ f6
          have f8 : 64 * (Ad.idxs (Ad.sz (pl.take i))).2.length ≤ 64 * 65 := Nat.mul_le_mul_left _ (by omega)
          omega
        obtain ⟨T, hT⟩ : ∃ T, Ad.settle ltR e P5 = T := ⟨_, rfl⟩
        rw [hT] at hCTb0
        rw [hT] at HN5
        have HTE := Lib.hid hT
        obtain ⟨z5, zc5, hz5⟩ := own_slice HS5.out.hZ
        have HNX := Lib.hid (l5Next_any e z5 P5.length zc5 (Ad.sz P5) wc (by rw [Ad.sz_length]) (by omega) (bd_sz (by omega)) (ints_of_own (show wc.ownsRow Z 3 1 (.slice z5 P5.length zc5) P5.length (intV (Ad.sz P5)) from hz5 ▸ HS5.out.hZ)))
        subst hz5
        clear hP5 HINFO HS hT HSE HN0 p1 p2 p3 p4
        go_wp2_with fail
        refine HNX.out.mono ?_
        rintro en w6 ⟨rfl, hb6⟩
        have HS6 := Lib.hid (HS5.out.below hb6)
        clear hb6 HS5 HNX
        go_wp2
        go_loopw [6, 7, 8, 12] (fun sv zv cv atv wq => ∃ (psq : List (List (Int × Int))) (cq : Nat) (hsq : List Value), cv = .int .i64 cq ∧ atv = .int .i64 (nxI e (Ad.sz psq)) ∧ Hid (SS w2 wq Z sv zv hsq psq) ∧ Hid ((Ad.settle ltR e psq).1 = T.1 ∧ cq + (Ad.settle ltR e psq).2 = S.2 + T.2) ∧ psq.length ≤ 65 ∧ Hid (totP psq ≤ 64)) (fun sv _ _ _ _ => lenV sv)
        case atStart => exact ⟨P5, S.2, hs5, rfl, rfl, HS6, Lib.hid (by rw [HTE.out]; exact ⟨rfl, rfl⟩), hP5l, Lib.hid hP5t⟩
        case round =>
          rename World => wq
          obtain ⟨psq, cq, hsq, rfl, rfl, HSq, HTq, hpl5, htq⟩ := hrel
          clear HS6
          obtain ⟨zq, zcq, hzq⟩ := own_slice HSq.out.hZ
          obtain ⟨sq, scq, hsq2⟩ := own_slice HSq.out.hS
          subst hzq
          subst hsq2
          obtain ⟨R, hR⟩ : ∃ R, nxI e (Ad.sz psq) = R := ⟨_, rfl⟩
          rw [hR]
          cases hnx : Ad.nxt e (Ad.sz psq) with
          | none =>
            have hR2 : R = -1 := by rw [← hR]; unfold nxI; rw [hnx]
            subst hR2
            have hst := Ad.settle_none ltR hnx
            have hfin := HTq.out
            rw [hst] at hfin
            have HFIN : Hid (stR pl (i + 1) = (psq, cq)) := by
              show _ = _
              rw [HN5.out.2.2]
              have e1 : T.1 = psq := hfin.1.symm
              have e2 : S.2 + T.2 = cq := hfin.2.symm
              rw [e1, e2]
            clear hR hnx hst hfin
            go_wp2
            go_roundw
            case rel => exact ⟨i + 1, hsq, by go_num, by omega, by rw [HFIN.out], by rw [HFIN.out]; exact HSq⟩
            case measure => simp [intOf]; omega
          | some k =>
            have hk1 := Ad.nxt_lt hnx
            rw [Ad.sz_length] at hk1
            have hR2 : R = (k : Int) := by rw [← hR]; unfold nxI; rw [hnx]
            subst hR2
            have hst := Ad.settle_some ltR hnx
            have hfin := HTq.out
            rw [hst] at hfin
            have hl2 := totP_two hk1
            have htq2 := htq.out
            obtain ⟨v1, hv1, x1, c1, rfl, hr1, hx1⟩ := HSq.out.hl.at (k := k) (by omega)
            obtain ⟨v2, hv2, x2, c2, rfl, hr2, hx2⟩ := HSq.out.hl.at (k := k + 1) hk1
            obtain ⟨gs, gsc, hgs⟩ := own_posA HSq.out.hS (by omega)
            injection hgs with hgs hgs2 hgs3
            clear hgs2 hgs3
            subst hgs
            obtain ⟨gz, gzc, hgz⟩ := own_posA HSq.out.hZ (by omega)
            injection hgz with hgz hgz2 hgz3
            clear hgz2 hgz3
            subst hgz
            have hcs := own_cap HSq.out.hS
            have hcz := own_cap HSq.out.hZ
            have HJT : Hid (totP (Ad.jn ltR k psq) ≤ 64 ∧ (Ad.jn ltR k psq).length + 1 = psq.length) := Lib.hid ⟨by rw [totP_jn hk1]; exact htq2, Ad.jn_length ltR hk1⟩
            obtain ⟨L, hL⟩ : ∃ L, psq.getD k [] = L := ⟨_, rfl⟩
            obtain ⟨RR, hRR⟩ : ∃ R, psq.getD (k + 1) [] = R := ⟨_, rfl⟩
            rw [hL] at hr1 hv1 hl2 hfin
            rw [hRR] at hr2 hv2 hl2 hfin
            have HLR : Hid (psq.getD k [] = L ∧ psq.getD (k + 1) [] = RR) := ⟨hL, hRR⟩
            obtain ⟨nl, hnl⟩ : ∃ n, L.length = n := ⟨_, rfl⟩
            obtain ⟨nr, hnr⟩ : ∃ n, RR.length = n := ⟨_, rfl⟩
            rw [hnl] at hr1 hv1 hl2
            rw [hnr] at hr2 hv2 hl2
            have HLN : Hid (L.length = nl ∧ RR.length = nr) := ⟨hnl, hnr⟩
            obtain ⟨mc, hmc⟩ : ∃ mc, Mg.mcnt ltR L RR = mc := ⟨_, rfl⟩
            have hcb := Mg.mcnt_le ltR L RR
            rw [hmc] at hcb hfin
            rw [hnl, hnr] at hcb
            have HMR : Hid (∀ W : World, Below wq.heap.size wq W → Calls Try.prog 24 #[.slice x1 nl c1, .slice x2 nr c2] W fun e w' => ∃ (g c : Nat), e = .returned (.tuple #[.slice (some ⟨g, 0, none⟩) (nl + nr) c, .int .i64 ((mc : Nat) : Int)]) ∧ w'.ownsRow W.heap.size 42 2 (.slice (some ⟨g, 0, none⟩) (nl + nr) c) (nl + nr) (flat encR (Mg.mrg ltR L RR)) ∧ Below W.heap.size W w') := fun W hW => by
              have := l5Merge_any x1 x2 c1 c2 nl nr L RR W hnl hnr (by omega) (hr1.same hW).recs (hr2.same hW).recs hr1.nil hr2.nil hr1.cap hr2.cap
              unfold MergeEnd at this
              rw [hmc] at this
              exact this
            have HFQ : Hid ((Ad.settle ltR e (Ad.jn ltR k psq)).1 = T.1 ∧ (cq + mc) + (Ad.settle ltR e (Ad.jn ltR k psq)).2 = S.2 + T.2) := Lib.hid ⟨hfin.1, by have := hfin.2; omega⟩
            have hcqb : cq + mc ≤ S.2 + T.2 := by have := HFQ.out.2; omega
            obtain ⟨CT, hCT⟩ : ∃ CT, S.2 + T.2 = CT := ⟨_, rfl⟩
            rw [hCT] at hcqb
            obtain ⟨P, hPe⟩ : ∃ P, psq.length = P := ⟨_, rfl⟩
            have HPE := Lib.hid hPe
            rw [hPe] at hk1 hpl5 hcs hcz ⊢
            have d2 := own_cellA HSq.out.hS hv1
            have d3 := own_cellA HSq.out.hS hv2
            have lgs := (HSq.out.hS.lt gs rfl).2
            have HSW : Hid (wq.ownsRow Z 24 1 (.slice (some ⟨gs, 0, none⟩) P scq) P hsq) := Lib.hid (by have := HSq.out.hS; rwa [hPe] at this)
            have HZW : Hid (wq.ownsRow Z 3 1 (.slice (some ⟨gz, 0, none⟩) P zcq) P (intV (Ad.sz psq))) := Lib.hid (by have := HSq.out.hZ; rwa [hPe] at this)
            have b1 : (0 : Int) ≤ (k : Int) := by omega
            have b2 : (k : Int) < (P : Int) := by omega
            have b3 : (k : Int) + 1 < (P : Int) := by omega
            have b4 : (0 : Int) ≤ (k : Int) + 1 := by omega
            have b5 : IntKind.i64.wrap ((k : Int) + 1) = (k : Int) + 1 := by rw [IntKind.wrap_i64]; omega
            have b6 : ((k : Int) + 1).toNat = k + 1 := by omega
            have hCTb : CT ≤ 100000 := by rw [← hCT]; exact hCTb0
            have b7 : IntKind.i64.wrap ((cq : Int) + (mc : Int)) = (cq : Int) + (mc : Int) := by rw [IntKind.wrap_i64]; omega
            have D2 : wq.drew.cell? ⟨gs, k, none⟩ = some (.slice x1 nl c1) := d2
            have D3 : wq.drew.cell? ⟨gs, k + 1, none⟩ = some (.slice x2 nr c2) := d3
            clear hR hnx hst hfin hl2 htq2 hr1 hr2 hx1 hx2 hv1 hv2 hL hRR hmc hPe hnl hnr hCT d2 d3
            go_wp2_with fail
            go_region_held3 (fun w' => w'.cell? ⟨gs, k, none⟩ = some (.slice x1 nl c1) ∧ w'.cell? ⟨gs, k + 1, none⟩ = some (.slice x2 nr c2)) (go_keep)
              (first | ((try go_split_ands); go_at_call 24; refine (HMR.out _ (by (repeat (first | exact Below.refl _ _ | assumption | refine Below.setCell ?_ (by first | omega | (simp; done) | (simp; omega)) _ | refine Below.alloc ?_ (by first | omega | (simp; done) | (simp; omega)) _ | refine Below.drew ?_ | refine below_drewN ?_ _)))).mono ?_; rintro e w4 ⟨g4, c4, rfl, ho4, hb4⟩; have s2 := (hb4.cell (p := ⟨gs, k, none⟩) lgs).trans D2; have s3 := (hb4.cell (p := ⟨gs, k + 1, none⟩) lgs).trans D3))
            have hzw4 := hb4.size
            have hg4l := ho4.lt g4 rfl
            have HSV := Lib.hid (HSq.out.below (show Below wq.heap.size wq w4 from ⟨hb4.os, hb4.tape, hb4.output, hb4.size, hb4.block⟩))
            have HO4 := Lib.hid (rd_own ho4)
            have hZw := HSq.out.hsz
            have hZ4 : Z ≤ w4.heap.size := HSV.out.hsz
            have HS4 : Hid (w4.ownsRow Z 24 1 (.slice (some ⟨gs, 0, none⟩) P scq) P hsq) := Lib.hid (by have := HSV.out.hS; rwa [HPE.out] at this)
            have HZ4 : Hid (w4.ownsRow Z 3 1 (.slice (some ⟨gz, 0, none⟩) P zcq) P (intV (Ad.sz psq))) := Lib.hid (by have := HSV.out.hZ; rwa [HPE.out] at this)
            have HG4 : Hid (wq.heap.size ≤ g4 ∧ g4 < w4.heap.size) := Lib.hid hg4l
            clear hb4 ho4 s2 s3 D2 D3 HMR hg4l
            have m1 : IntKind.i64.wrap ((k : Int) + 2) = (k : Int) + 2 := by rw [IntKind.wrap_i64]; omega
            have m2 : (0 : Int) ≤ (k : Int) + 2 := by omega
            have m3 : (k : Int) + 2 ≤ (P : Int) := by omega
            have m4 : ((k : Int) + 2).toNat = k + 2 := by omega
            have m5 : (k : Int) ≤ (scq : Int) := by omega
            have m6 : (k : Int) ≤ (zcq : Int) := by omega
            have m7 : (P : Int) ≤ (scq : Int) := by omega
            have m8 : (P : Int) ≤ (zcq : Int) := by omega
            have m9 : (k : Int) + 2 ≤ (scq : Int) := by omega
            have m10 : (k : Int) + 2 ≤ (zcq : Int) := by omega
            go_wp2_with fail
            have HHS : Hid (∀ v ∈ hsq, v.oneCell' = true) := Lib.hid HSV.out.hl.one
            have HLX : Hid ((hsq).length = P) := Lib.hid (by have := HS4.out.1; omega)
            have HCA : Hid (∀ W : World, Below w4.heap.size w4 W → ∀ j x, ((hsq).take k)[j]? = some x → W.cell? ((⟨gs, 0, none⟩ : Addr).add j) = some x) := Lib.hid (fun W hW j x hx => by
              have ho := own_below HS4.out (Nat.le_refl _) hW
              have hj : j < k := by
                have := (List.getElem?_eq_some_iff.1 hx).1
                rw [List.length_take] at this; omega
              rw [List.getElem?_take, if_pos hj] at hx
              have := own_cellA ho hx
              rw [Addr.add_lit, Nat.zero_add]; exact this)
            obtain ⟨AD, hAD, hADc⟩ : ∃ AD : Addr, (if scq = k + 2 then (some (⟨gs, 0, none⟩ : Addr)) else some ⟨gs, k + 2, none⟩) = some AD ∧ Hid (∀ W : World, Below w4.heap.size w4 W → ∀ j x, ((hsq).drop (k + 2))[j]? = some x → W.cell? (AD.add j) = some x) := by
              by_cases hc : scq = k + 2
              · refine ⟨⟨gs, 0, none⟩, by rw [if_pos hc], Lib.hid (fun W hW j x hx => ?_)⟩
                rw [List.drop_of_length_le (by rw [HLX.out]; omega)] at hx
                simp at hx
              · refine ⟨⟨gs, k + 2, none⟩, by rw [if_neg hc], Lib.hid (fun W hW j x hx => ?_)⟩
                have ho := own_below HS4.out (Nat.le_refl _) hW
                rw [List.getElem?_drop] at hx
                have := own_cellA ho hx
                rw [Addr.add_lit]; exact this
            have HAA : Hid (((w4.alloc (.cells #[] 24)).alloc (.cells #[.slice (some ⟨g4, 0, none⟩) (nl + nr) c4] 24)).drew.cell? ⟨w4.heap.size + 1, 0, none⟩ = some (.slice (some ⟨g4, 0, none⟩) (nl + nr) c4)) := Lib.hid (by have h9 := cells_new (w4.alloc (.cells #[] 24)) [.slice (some ⟨g4, 0, none⟩) (nl + nr) c4] 24 0 _ rfl; rw [show (w4.alloc (.cells #[] 24)).heap.size = w4.heap.size + 1 by simp] at h9; exact h9)
            have HAB : Hid (((w4.alloc (.cells #[.slice (some ⟨g4, 0, none⟩) (nl + nr) c4] 24)).alloc (.cells #[] 24)).drew.cell? ⟨w4.heap.size, 0, none⟩ = some (.slice (some ⟨g4, 0, none⟩) (nl + nr) c4)) := Lib.hid (by
              have h1 := cells_new w4 [.slice (some ⟨g4, 0, none⟩) (nl + nr) c4] 24 0 _ rfl
              have hb : Below (w4.alloc (.cells #[.slice (some ⟨g4, 0, none⟩) (nl + nr) c4] 24)).heap.size (w4.alloc (.cells #[.slice (some ⟨g4, 0, none⟩) (nl + nr) c4] 24)) (((w4.alloc (.cells #[.slice (some ⟨g4, 0, none⟩) (nl + nr) c4] 24)).alloc (.cells #[] 24)).drew) := by (repeat (first | exact Below.refl _ _ | assumption | refine Below.setCell ?_ (by first | omega | (simp; done) | (simp; omega)) _ | refine Below.alloc ?_ (by first | omega | (simp; done) | (simp; omega)) _ | refine Below.drew ?_ | refine below_drewN ?_ _))
              exact (hb.cell (p := ⟨w4.heap.size, 0, none⟩) (by simp)).trans h1)
            have HHB : Hid (((w4.alloc (.cells #[.slice (some ⟨g4, 0, none⟩) (nl + nr) c4] 24)).alloc (.cells #[] 24)).drew.heap[w4.heap.size + 1]? = some (.cells #[] 24 (0, 0))) := Lib.hid (by have h9 := heap_alloc_new (w4.alloc (.cells #[.slice (some ⟨g4, 0, none⟩) (nl + nr) c4] 24)) (.cells #[] 24); rw [show (w4.alloc (.cells #[.slice (some ⟨g4, 0, none⟩) (nl + nr) c4] 24)).heap.size = w4.heap.size + 1 by simp] at h9; exact h9)
            have hlt : ((hsq).take k).length = k := by rw [List.length_take, HLX.out]; omega
            have hld : ((hsq).drop (k + 2)).length = P - (k + 2) := by rw [List.length_drop, HLX.out]
            have h1a : ∀ x ∈ (hsq).take k, x.oneCell' = true := fun x hx => HHS.out x (List.mem_of_mem_take hx)
            have h1d : ∀ x ∈ (hsq).drop (k + 2), x.oneCell' = true := fun x hx => HHS.out x (List.mem_of_mem_drop hx)
            have H1A := Lib.hid h1a
            have H1D := Lib.hid h1d
            clear h1a h1d
            go_upto_region 24 with fail
            go_cut [6] from 108 to 158 (fun sv wx => ∃ (sa' : Option Addr) (sc' : Nat), sv = .slice sa' (P - 1) sc' ∧ Hid (wx.ownsRow w4.heap.size 24 1 (.slice sa' (P - 1) sc') (P - 1) ((hsq).take k ++ [.slice (some ⟨g4, 0, none⟩) (nl + nr) c4] ++ (hsq).drop (k + 2))) ∧ Hid (Below w4.heap.size w4 wx))
            case first =>
              go_region_law (first
                | (refine step_appX slLsA rfl _ _ rfl w4.heap.size (.slice (some ⟨w4.heap.size, 0, none⟩) 0 0) 0 [] ⟨gs, 0, none⟩ k scq ((hsq).take k) ?_ (own_none (by first | exact heap_alloc_new _ _ | exact (Below.heap_alloc _ _ _ (by simp)).trans (heap_alloc_new _ _)) (by simp)) ?_ (by rw [hlt, Nat.mul_one]) (HCA.out _ (by (repeat (first | exact Below.refl _ _ | assumption | refine Below.setCell ?_ (by first | omega | (simp; done) | (simp; omega)) _ | refine Below.alloc ?_ (by first | omega | (simp; done) | (simp; omega)) _ | refine Below.drew ?_ | refine below_drewN ?_ _)))) H1A.out (by omega) (by first | (simp; done) | (simp; omega)) ?_; (next => (simp [Act.eval, Act.put]; done)); (next => (simp [Act.eval, Act.put]; done)); intro v1 wA ho1 hg1 ht1; rw [Nat.zero_add, List.nil_append] at ho1; have hbA : Below w4.heap.size w4 wA := Below.grown (by (repeat (first | exact Below.refl _ _ | assumption | refine Below.setCell ?_ (by first | omega | (simp; done) | (simp; omega)) _ | refine Below.alloc ?_ (by first | omega | (simp; done) | (simp; omega)) _ | refine Below.drew ?_ | refine below_drewN ?_ _))) hg1 (by first | (simp; done) | (simp; omega)) (fun b e => by injection e with e; exact Nat.le_of_eq e); obtain ⟨va, vca, rfl⟩ := own_slice ho1)
                | (refine step_appX slLsA rfl _ _ rfl w4.heap.size (.slice (some ⟨w4.heap.size + 1, 0, none⟩) 0 0) 0 [] ⟨gs, 0, none⟩ k scq ((hsq).take k) ?_ (own_none HHB.out (by omega)) ?_ (by rw [hlt, Nat.mul_one]) (HCA.out _ (by (repeat (first | exact Below.refl _ _ | assumption | refine Below.setCell ?_ (by first | omega | (simp; done) | (simp; omega)) _ | refine Below.alloc ?_ (by first | omega | (simp; done) | (simp; omega)) _ | refine Below.drew ?_ | refine below_drewN ?_ _)))) H1A.out (by omega) (by first | (simp; done) | (simp; omega)) ?_; (next => (simp [Act.eval, Act.put]; done)); (next => (simp [Act.eval, Act.put]; done)); intro v1 wA ho1 hg1 ht1; rw [Nat.zero_add, List.nil_append] at ho1; have hbA : Below w4.heap.size w4 wA := Below.grown (by (repeat (first | exact Below.refl _ _ | assumption | refine Below.setCell ?_ (by first | omega | (simp; done) | (simp; omega)) _ | refine Below.alloc ?_ (by first | omega | (simp; done) | (simp; omega)) _ | refine Below.drew ?_ | refine below_drewN ?_ _))) hg1 (by first | (simp; done) | (simp; omega)) (fun b e => by injection e with e; have e' : w4.heap.size + 1 = b := e; omega); obtain ⟨va, vca, rfl⟩ := own_slice ho1)
                | (refine step_appX slLsA rfl _ _ rfl w4.heap.size (.slice va k vca) k ((hsq).take k) ⟨w4.heap.size + 1, 0, none⟩ 1 1 [.slice (some ⟨g4, 0, none⟩) (nl + nr) c4] ?_ ho1 ?_ rfl (one_cellA (hg1.cell HAA.out (by simp [Value.ownBlock]))) (by simp [Value.oneCell']) (by omega) hbA.size ?_; (next => (simp [Act.eval, Act.put]; done)); (next => (simp [Act.eval, Act.put]; done)); intro v2 wB ho2 hg2 ht2; obtain ⟨vb, vcb, rfl⟩ := own_slice ho2; have hbB : Below w4.heap.size w4 wB := Below.grown hbA hg2 hbA.size (fun b e => (ho1.lt b e).1))
                | (refine step_appX slLsA rfl _ _ rfl w4.heap.size (.slice va k vca) k ((hsq).take k) ⟨w4.heap.size, 0, none⟩ 1 1 [.slice (some ⟨g4, 0, none⟩) (nl + nr) c4] ?_ ho1 ?_ rfl (one_cellA (hg1.cell HAB.out (by simp [Value.ownBlock]))) (by simp [Value.oneCell']) (by omega) hbA.size ?_; (next => (simp [Act.eval, Act.put]; done)); (next => (simp [Act.eval, Act.put]; done)); intro v2 wB ho2 hg2 ht2; obtain ⟨vb, vcb, rfl⟩ := own_slice ho2; have hbB : Below w4.heap.size w4 wB := Below.grown hbA hg2 hbA.size (fun b e => (ho1.lt b e).1))
                | (refine step_appX slLsA rfl _ _ rfl w4.heap.size (.slice va k vca) k ((hsq).take k) ⟨wA.heap.size, 0, none⟩ 1 1 [.slice (some ⟨g4, 0, none⟩) (nl + nr) c4] ?_ (ho1.alloc _) ?_ rfl (cells_new wA [.slice (some ⟨g4, 0, none⟩) (nl + nr) c4] 24) (by simp [Value.oneCell']) (by omega) (Nat.le_trans hbA.size (by simp)) ?_; (next => (simp [Act.eval, Act.put]; done)); (next => (simp [Act.eval, Act.put]; done)); intro v2 wB ho2 hg2 ht2; obtain ⟨vb, vcb, rfl⟩ := own_slice ho2; have hbB : Below w4.heap.size w4 wB := Below.grown (hbA.alloc hbA.size _) hg2 (Nat.le_trans hbA.size (by simp)) (fun b e => (ho1.lt b e).1))
                | (refine step_appX slLsA rfl _ _ rfl w4.heap.size (.slice vb (k + 1) vcb) (k + 1) ((hsq).take k ++ [.slice (some ⟨g4, 0, none⟩) (nl + nr) c4]) AD (P - (k + 2)) (scq - (k + 2)) ((hsq).drop (k + 2)) ?_ ho2 ?_ (by rw [hld, Nat.mul_one]) (hADc.out _ hbB) H1D.out (by omega) hbB.size ?_; (next => (simp [Act.eval, Act.put]; done)); (next => (simp [Act.eval, Act.put]; done)); intro v3 wC ho3 hg3 ht3))
              all_goals
                have hle : k + 1 + (P - (k + 2)) = P - 1 := by omega
                rw [hle] at ho3
                obtain ⟨sa', sc', rfl⟩ := own_slice ho3
                have HO3 := Lib.hid ho3
                have HB3 := Lib.hid (hbB.grown hg3 hbB.size (fun b e => (ho2.lt b e).1))
                clear ho1 ho2 ho3 hg1 hg2 hg3 ht1 ht2 ht3
                go_wp2_with fail
                go_meet
                case rel => exact ⟨sa', sc', rfl, HO3, HB3⟩
            case rest =>
              obtain ⟨sa4, sc4, rfl, HO24, HB24⟩ := hcut
              clear hlt hld hAD HAA HAB HCA hADc HHS HLX H1A H1D
              rename World => w5
              have hz5w := HB24.out.size
              have hZ5 : Z ≤ w5.heap.size := Nat.le_trans hZ4 hz5w
              have HZ5 : Hid (w5.ownsRow Z 3 1 (.slice (some ⟨gz, 0, none⟩) P zcq) P (intV (Ad.sz psq))) := Lib.hid (own_below HZ4.out (Nat.le_refl _) HB24.out)
              go_wp2_with fail
              have HHS : Hid (∀ v ∈ intV (Ad.sz psq), v.oneCell' = true) := Lib.hid (intV_one _)
              have HLX : Hid ((intV (Ad.sz psq)).length = P) := Lib.hid (by have := HZ5.out.1; omega)
              have HCA : Hid (∀ W : World, Below w5.heap.size w5 W → ∀ j x, ((intV (Ad.sz psq)).take k)[j]? = some x → W.cell? ((⟨gz, 0, none⟩ : Addr).add j) = some x) := Lib.hid (fun W hW j x hx => by
                have ho := own_below HZ5.out (Nat.le_refl _) hW
                have hj : j < k := by
                  have := (List.getElem?_eq_some_iff.1 hx).1
                  rw [List.length_take] at this; omega
                rw [List.getElem?_take, if_pos hj] at hx
                have := own_cellA ho hx
                rw [Addr.add_lit, Nat.zero_add]; exact this)
              obtain ⟨AD, hAD, hADc⟩ : ∃ AD : Addr, (if zcq = k + 2 then (some (⟨gz, 0, none⟩ : Addr)) else some ⟨gz, k + 2, none⟩) = some AD ∧ Hid (∀ W : World, Below w5.heap.size w5 W → ∀ j x, ((intV (Ad.sz psq)).drop (k + 2))[j]? = some x → W.cell? (AD.add j) = some x) := by
                by_cases hc : zcq = k + 2
                · refine ⟨⟨gz, 0, none⟩, by rw [if_pos hc], Lib.hid (fun W hW j x hx => ?_)⟩
                  rw [List.drop_of_length_le (by rw [HLX.out]; omega)] at hx
                  simp at hx
                · refine ⟨⟨gz, k + 2, none⟩, by rw [if_neg hc], Lib.hid (fun W hW j x hx => ?_)⟩
                  have ho := own_below HZ5.out (Nat.le_refl _) hW
                  rw [List.getElem?_drop] at hx
                  have := own_cellA ho hx
                  rw [Addr.add_lit]; exact this
              have HAA : Hid (((w5.alloc (.cells #[] 3)).alloc (.cells #[.int .i64 ((nl : Int) + (nr : Int))] 3)).drew.cell? ⟨w5.heap.size + 1, 0, none⟩ = some (.int .i64 ((nl : Int) + (nr : Int)))) := Lib.hid (by have h9 := cells_new (w5.alloc (.cells #[] 3)) [.int .i64 ((nl : Int) + (nr : Int))] 3 0 _ rfl; rw [show (w5.alloc (.cells #[] 3)).heap.size = w5.heap.size + 1 by simp] at h9; exact h9)
              have HAB : Hid (((w5.alloc (.cells #[.int .i64 ((nl : Int) + (nr : Int))] 3)).alloc (.cells #[] 3)).drew.cell? ⟨w5.heap.size, 0, none⟩ = some (.int .i64 ((nl : Int) + (nr : Int)))) := Lib.hid (by
                have h1 := cells_new w5 [.int .i64 ((nl : Int) + (nr : Int))] 3 0 _ rfl
                have hb : Below (w5.alloc (.cells #[.int .i64 ((nl : Int) + (nr : Int))] 3)).heap.size (w5.alloc (.cells #[.int .i64 ((nl : Int) + (nr : Int))] 3)) (((w5.alloc (.cells #[.int .i64 ((nl : Int) + (nr : Int))] 3)).alloc (.cells #[] 3)).drew) := by (repeat (first | exact Below.refl _ _ | assumption | refine Below.setCell ?_ (by first | omega | (simp; done) | (simp; omega)) _ | refine Below.alloc ?_ (by first | omega | (simp; done) | (simp; omega)) _ | refine Below.drew ?_ | refine below_drewN ?_ _))
                exact (hb.cell (p := ⟨w5.heap.size, 0, none⟩) (by simp)).trans h1)
              have HHB : Hid (((w5.alloc (.cells #[.int .i64 ((nl : Int) + (nr : Int))] 3)).alloc (.cells #[] 3)).drew.heap[w5.heap.size + 1]? = some (.cells #[] 3 (0, 0))) := Lib.hid (by have h9 := heap_alloc_new (w5.alloc (.cells #[.int .i64 ((nl : Int) + (nr : Int))] 3)) (.cells #[] 3); rw [show (w5.alloc (.cells #[.int .i64 ((nl : Int) + (nr : Int))] 3)).heap.size = w5.heap.size + 1 by simp] at h9; exact h9)
              have hlt : ((intV (Ad.sz psq)).take k).length = k := by rw [List.length_take, HLX.out]; omega
              have hld : ((intV (Ad.sz psq)).drop (k + 2)).length = P - (k + 2) := by rw [List.length_drop, HLX.out]
              have h1a : ∀ x ∈ (intV (Ad.sz psq)).take k, x.oneCell' = true := fun x hx => HHS.out x (List.mem_of_mem_take hx)
              have h1d : ∀ x ∈ (intV (Ad.sz psq)).drop (k + 2), x.oneCell' = true := fun x hx => HHS.out x (List.mem_of_mem_drop hx)
              have H1A := Lib.hid h1a
              have H1D := Lib.hid h1d
              clear h1a h1d
              go_region_law (first
                | (refine step_appX slInt rfl _ _ rfl w5.heap.size (.slice (some ⟨w5.heap.size, 0, none⟩) 0 0) 0 [] ⟨gz, 0, none⟩ k zcq ((intV (Ad.sz psq)).take k) ?_ (own_none (by first | exact heap_alloc_new _ _ | exact (Below.heap_alloc _ _ _ (by simp)).trans (heap_alloc_new _ _)) (by simp)) ?_ (by rw [hlt, Nat.mul_one]) (HCA.out _ (by (repeat (first | exact Below.refl _ _ | assumption | refine Below.setCell ?_ (by first | omega | (simp; done) | (simp; omega)) _ | refine Below.alloc ?_ (by first | omega | (simp; done) | (simp; omega)) _ | refine Below.drew ?_ | refine below_drewN ?_ _)))) H1A.out (by omega) (by first | (simp; done) | (simp; omega)) ?_; (next => (simp [Act.eval, Act.put]; done)); (next => (simp [Act.eval, Act.put]; done)); intro v1 wA ho1 hg1 ht1; rw [Nat.zero_add, List.nil_append] at ho1; have hbA : Below w5.heap.size w5 wA := Below.grown (by (repeat (first | exact Below.refl _ _ | assumption | refine Below.setCell ?_ (by first | omega | (simp; done) | (simp; omega)) _ | refine Below.alloc ?_ (by first | omega | (simp; done) | (simp; omega)) _ | refine Below.drew ?_ | refine below_drewN ?_ _))) hg1 (by first | (simp; done) | (simp; omega)) (fun b e => by injection e with e; exact Nat.le_of_eq e); obtain ⟨va, vca, rfl⟩ := own_slice ho1)
                | (refine step_appX slInt rfl _ _ rfl w5.heap.size (.slice (some ⟨w5.heap.size + 1, 0, none⟩) 0 0) 0 [] ⟨gz, 0, none⟩ k zcq ((intV (Ad.sz psq)).take k) ?_ (own_none HHB.out (by omega)) ?_ (by rw [hlt, Nat.mul_one]) (HCA.out _ (by (repeat (first | exact Below.refl _ _ | assumption | refine Below.setCell ?_ (by first | omega | (simp; done) | (simp; omega)) _ | refine Below.alloc ?_ (by first | omega | (simp; done) | (simp; omega)) _ | refine Below.drew ?_ | refine below_drewN ?_ _)))) H1A.out (by omega) (by first | (simp; done) | (simp; omega)) ?_; (next => (simp [Act.eval, Act.put]; done)); (next => (simp [Act.eval, Act.put]; done)); intro v1 wA ho1 hg1 ht1; rw [Nat.zero_add, List.nil_append] at ho1; have hbA : Below w5.heap.size w5 wA := Below.grown (by (repeat (first | exact Below.refl _ _ | assumption | refine Below.setCell ?_ (by first | omega | (simp; done) | (simp; omega)) _ | refine Below.alloc ?_ (by first | omega | (simp; done) | (simp; omega)) _ | refine Below.drew ?_ | refine below_drewN ?_ _))) hg1 (by first | (simp; done) | (simp; omega)) (fun b e => by injection e with e; have e' : w5.heap.size + 1 = b := e; omega); obtain ⟨va, vca, rfl⟩ := own_slice ho1)
                | (refine step_appX slInt rfl _ _ rfl w5.heap.size (.slice va k vca) k ((intV (Ad.sz psq)).take k) ⟨w5.heap.size + 1, 0, none⟩ 1 1 [.int .i64 ((nl : Int) + (nr : Int))] ?_ ho1 ?_ rfl (one_cellA (hg1.cell HAA.out (by simp [Value.ownBlock]))) (by simp [Value.oneCell']) (by omega) hbA.size ?_; (next => (simp [Act.eval, Act.put]; done)); (next => (simp [Act.eval, Act.put]; done)); intro v2 wB ho2 hg2 ht2; obtain ⟨vb, vcb, rfl⟩ := own_slice ho2; have hbB : Below w5.heap.size w5 wB := Below.grown hbA hg2 hbA.size (fun b e => (ho1.lt b e).1))
                | (refine step_appX slInt rfl _ _ rfl w5.heap.size (.slice va k vca) k ((intV (Ad.sz psq)).take k) ⟨w5.heap.size, 0, none⟩ 1 1 [.int .i64 ((nl : Int) + (nr : Int))] ?_ ho1 ?_ rfl (one_cellA (hg1.cell HAB.out (by simp [Value.ownBlock]))) (by simp [Value.oneCell']) (by omega) hbA.size ?_; (next => (simp [Act.eval, Act.put]; done)); (next => (simp [Act.eval, Act.put]; done)); intro v2 wB ho2 hg2 ht2; obtain ⟨vb, vcb, rfl⟩ := own_slice ho2; have hbB : Below w5.heap.size w5 wB := Below.grown hbA hg2 hbA.size (fun b e => (ho1.lt b e).1))
                | (refine step_appX slInt rfl _ _ rfl w5.heap.size (.slice va k vca) k ((intV (Ad.sz psq)).take k) ⟨wA.heap.size, 0, none⟩ 1 1 [.int .i64 ((nl : Int) + (nr : Int))] ?_ (ho1.alloc _) ?_ rfl (cells_new wA [.int .i64 ((nl : Int) + (nr : Int))] 3) (by simp [Value.oneCell']) (by omega) (Nat.le_trans hbA.size (by simp)) ?_; (next => (simp [Act.eval, Act.put]; done)); (next => (simp [Act.eval, Act.put]; done)); intro v2 wB ho2 hg2 ht2; obtain ⟨vb, vcb, rfl⟩ := own_slice ho2; have hbB : Below w5.heap.size w5 wB := Below.grown (hbA.alloc hbA.size _) hg2 (Nat.le_trans hbA.size (by simp)) (fun b e => (ho1.lt b e).1))
                | (refine step_appX slInt rfl _ _ rfl w5.heap.size (.slice vb (k + 1) vcb) (k + 1) ((intV (Ad.sz psq)).take k ++ [.int .i64 ((nl : Int) + (nr : Int))]) AD (P - (k + 2)) (zcq - (k + 2)) ((intV (Ad.sz psq)).drop (k + 2)) ?_ ho2 ?_ (by rw [hld, Nat.mul_one]) (hADc.out _ hbB) H1D.out (by omega) hbB.size ?_; (next => (simp [Act.eval, Act.put]; done)); (next => (simp [Act.eval, Act.put]; done)); intro v3 wC ho3 hg3 ht3))
              all_goals
                have hle : k + 1 + (P - (k + 2)) = P - 1 := by omega
                rw [hle] at ho3
                obtain ⟨za4, zc4, rfl⟩ := own_slice ho3
                have HO25 := Lib.hid ho3
                have HB25 := Lib.hid (hbB.grown hg3 hbB.size (fun b e => (ho2.lt b e).1))
                clear ho1 ho2 ho3 hg1 hg2 hg3 ht1 ht2 ht3
                have HNJ : Hid (SS w2 wC Z (.slice sa4 (P - 1) sc4) (.slice za4 (P - 1) zc4) (hsq.take k ++ [.slice (some ⟨g4, 0, none⟩) (nl + nr) c4] ++ hsq.drop (k + 2)) (Ad.jn ltR k psq)) := by
                  have hml : (Mg.mrg ltR L RR).length = nl + nr := by rw [Mg.mrg_length, HLN.out.1, HLN.out.2]
                  refine Lib.hid (SS.join HSV.out (by rw [HPE.out]; exact hk1) (w5 := w5) ?_ (by rw [HPE.out]; exact HO24.out) HB24.out ?_ HB25.out)
                  · rw [HLR.out.1, HLR.out.2]
                    exact ⟨some ⟨g4, 0, none⟩, c4, by rw [hml], by rw [hml]; exact HO4.out, fun b off e => by injection e with e; injection e with e _; subst e; exact ⟨Nat.le_trans hZw HG4.out.1, HG4.out.2⟩⟩
                  · rw [HLR.out.1, HLR.out.2, HLN.out.1, HLN.out.2, HPE.out]
                    exact HO25.out
                have hjl := HJT.out
                have HNX2 := Lib.hid (l5Next_any e za4 (P - 1) zc4 (Ad.sz (Ad.jn ltR k psq)) wC (by rw [Ad.sz_length]; have := HPE.out; omega) (by omega) (bd_sz (by omega)) (ints_of_own (show wC.ownsRow Z 3 1 (.slice za4 (P - 1) zc4) (P - 1) (intV (Ad.sz (Ad.jn ltR k psq))) from by have := HNJ.out.hZ; rwa [show (Ad.jn ltR k psq).length = P - 1 from by have := HPE.out; omega] at this)))
                go_wp2_with fail
                refine HNX2.out.mono ?_
                rintro en w7 ⟨rfl, hb7⟩
                have HSF := Lib.hid (HNJ.out.below hb7)
                clear hb7 HNJ HNX2
                go_wp2
                go_roundw
                case rel => exact ⟨Ad.jn ltR k psq, cq + mc, _, by push_cast; rfl, rfl, HSF, HFQ, by have := HPE.out; omega, Lib.hid hjl.1⟩
                case measure => simp [lenV]; omega

end Go.Proofs.Ythakkkljlpimlaa
