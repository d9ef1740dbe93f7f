/- Several texts in one: lemmas and walks of the functions that the law reaches. -/
import Derived.Test.YtmgkdokaaoeobaaY8
import Derived.Deep.RegionLaw

namespace Go.Proofs.Ytmgkdokaaoeobaa
open Go.RowKit Go.Sort
set_option linter.unusedVariables false

/-- Records that can be read behind a slice. -/
structure Rd (w : World) (a : Option Addr) (n c : Nat) (rs : List (Int × Int)) : Prop where
  recs : RecsAt w a rs
  len : rs.length = n
  nil : NilOk a c
  cap : n ≤ c
theorem Rd.below {w w' : World} {B : Nat} {a : Option Addr} {n c : Nat} {rs : List (Int × Int)} (h : Rd w a n c rs) (hB : w.heap.size ≤ B) (hb : Below B w w') : Rd w' a n c rs :=
  ⟨h.recs.below hB hb, h.len, h.nil, h.cap⟩
theorem Rd.same {w w' : World} {a : Option Addr} {n c : Nat} {rs : List (Int × Int)} (h : Rd w a n c rs) (hb : Below w.heap.size w w') : Rd w' a n c rs := h.below (Nat.le_refl _) hb
theorem own_cap {w : World} {B : Nat} {e : TypeId} {size n c : Nat} {a : Option Addr} {xs : List Value} (h : w.ownsRow B e size (.slice a n c) n xs) : n ≤ c := by
  rcases h.2 with ⟨hv, hm⟩ | ⟨g, cap, cur, hv, _, _, hn, _⟩
  · omega
  · injection hv with _ _ h3; omega
theorem rd_own {w : World} {B : Nat} {e : TypeId} {n c : Nat} {a : Option Addr} {rs : List (Int × Int)} (h : w.ownsRow B e 2 (.slice a n c) n (flat encR rs)) : Rd w a n c rs :=
  ⟨recs_of_own h, by have := h.1; rw [flat_length encR_len] at this; omega, nilOk_own h, own_cap h⟩
theorem rd_nil (w : World) : Rd w none 0 0 [] := ⟨.inl rfl, rfl, fun _ => rfl, Nat.le_refl _⟩
theorem rd_some (w : World) (x : Addr) (c : Nat) : Rd w (some x) 0 c [] := ⟨.inl rfl, rfl, nilOk_some _ _, Nat.zero_le _⟩

theorem okRecs_le {rs : List (Int × Int)} (h : okRecs rs = true) : rs.length ≤ 64 := by
  unfold okRecs at h
  simp at h
  exact h.1
theorem Rd.at {w : World} {a : Option Addr} {n c : Nat} {rs : List (Int × Int)} (h : Rd w a n c rs) {k : Nat} (hk : k < n) :
    ∃ b off, a = some ⟨b, off, none⟩ ∧ w.cell? ⟨b, off + k * 2, none⟩ = some (.int .i64 (rs.getD k (0, 0)).1) ∧ w.cell? ⟨b, off + k * 2 + 1, none⟩ = some (.int .i64 (rs.getD k (0, 0)).2) :=
  h.recs.at (by rw [h.len]; exact hk)

end Go.Proofs.Ytmgkdokaaoeobaa

namespace Go.Proofs.Ytmgkdokaaoeobaa
open Go.RowKit Go.Sort
set_option linter.unusedVariables false
theorem below_tr {B : Nat} {w w1 w2 : World} (h : Below B w w1) (hb : Below w1.heap.size w1 w2) (hB : B ≤ w1.heap.size) : Below B w w2 := h.trans (hb.mono hB)

theorem rd_lo {w : World} {a : Option Addr} {n c h : Nat} {rs : List (Int × Int)} (hr : Rd w a n c rs) (hh : h ≤ n) : Rd w a h c (rs.take h) :=
  ⟨recs_take hr.recs h, by rw [List.length_take, hr.len]; omega, hr.nil, by have := hr.cap; omega⟩
theorem rd_hi {w : World} {b o n c h : Nat} {rs : List (Int × Int)} (hr : Rd w (some ⟨b, o, none⟩) n c rs) (hh : h ≤ n) : Rd w (some ⟨b, o + h * 2, none⟩) (n - h) (c - h) (rs.drop h) :=
  ⟨recs_drop hr.recs h, by rw [List.length_drop, hr.len], nilOk_some _ _, by have := hr.cap; omega⟩

end Go.Proofs.Ytmgkdokaaoeobaa

namespace Go.Proofs.Ytmgkdokaaoeobaa
open Go.RowKit
set_option linter.unusedVariables false

theorem flat_setTagG {K : List (Int × Int)} {i : Nat} {x v : Int} (hi : i < K.length) (hy : (flat encR K)[i * 2]? = some (.int .i64 x)) : (flat encR K).set (i * 2 + 1) (.int .i64 v) = flat encR (K.set i (x, v)) := by
  have h := flat_set2 encR_len K i hi (x, v) (.int .i64 x) (.int .i64 v) rfl
  rw [← h]
  congr 1
  refine List.ext_getElem? fun j => ?_
  rw [List.getElem?_set]
  by_cases e : i * 2 = j
  · subst e
    rw [if_pos rfl, hy, if_pos (List.getElem?_eq_some_iff.1 hy).1]
  · rw [if_neg e]

set_option maxRecDepth 100000 in
set_option maxHeartbeats 4000000 in
theorem tagged_any (bc : Nat) (ac : Option Addr) (cs : List Int) (M : Int) (w : World) (hM : M ≤ 1099511400000) (h : Cur w bc ac cs M) (hold : cs ≠ [] → ∀ b off, ac = some ⟨b, off, none⟩ → b < w.heap.size) :
    Calls Try.prog 14 #[.pointer (some ⟨bc, 0, none⟩)] w fun e w' => ∃ (a' : Option Addr) (n c' : Nat) (rs : List (Int × Int)), e = .returned (.slice a' n c') ∧ w'.ownsRow w.heap.size 43 2 (.slice a' n c') n (flat encR rs) ∧ n ≤ 24 ∧ Drawn w w' bc ac cs (M + 1000) := by
  go_enter Try.func14, Try.ntmps14
  go_wp2_with fail
  refine (records_any bc ac cs M _ (by omega) h hold).mono ?_
  rintro e w1 ⟨a1, c1, L, rfl, ho, hl, hD⟩
  obtain ⟨n, hn⟩ : ∃ n, L.length = n := ⟨_, rfl⟩
  rw [hn] at ho hl
  rw [hn]
  have HO1 := Lib.hid ho
  have HD1 := Lib.hid hD
  have HLN := Lib.hid hn
  clear ho hD h hold hn
  go_wp2
  go_loopw [4] (fun iv wr => ∃ (i : Nat) (K : List (Int × Int)), iv = .int .i64 i ∧ i ≤ n ∧ K.length = n ∧ wr.ownsRow w.heap.size 43 2 (.slice a1 n c1) n (flat encR K) ∧ Drawn w wr bc ac cs (M + 300 + 2 * (i : Int))) (fun iv _ => n - (intOf iv).toNat)
  case atStart => exact ⟨0, L, rfl, by omega, HLN.out, HO1.out, HD1.out.mono (by omega)⟩
  case round =>
    obtain ⟨i, K, rfl, hi, hkl, ho, hD⟩ := hrel
    have HO3 := Lib.hid ho; have HD3 := Lib.hid hD; have HKL := Lib.hid hkl
    clear ho hD HO1 HD1 hkl HLN
    by_cases hlt : i < n
    · have q1 : decide ((i : Int) < (n : Int)) = true := decide_eq_true (by omega)
      have hba := (Below.refl wr.heap.size wr).alloc (Nat.le_refl _) (.cells #[.int .i64 0, .int .i64 1, .int .i64 5, .int .i64 500, .int .i64 999] 3)
      have hzr := HD3.out.cur.lt
      have D4 := Lib.hid (HD3.out.below hba)
      have O4 := Lib.hid (own_below HO3.out (Nat.le_refl _) hba)
      clear hba HO3 HD3
      go_wp2_with fail
      refine (among_any bc ac cs _ _ 5 [0, 1, 5, 500, 999] _ ?h2 (by decide) (by decide) D4.out.cur (lit_ints wr [0, 1, 5, 500, 999] (by decide)) ?h3).mono ?_
      case h2 => omega
      case h3 => intro b off e; injection e with e; injection e with e; omega
      rintro e w4 ⟨⟨v, rfl, hx⟩, hc, hg⟩
      have O5 := Lib.hid (D4.out.own O4.out (Nat.le_refl _) hg)
      have D5 := Lib.hid (D4.out.step hc hg)
      clear hc hg O4 D4 hx
      obtain ⟨g, rfl, hg1, hg2, hc⟩ := own_cell O5.out (by omega)
      obtain ⟨⟨x, y⟩, hX⟩ : ∃ X, K.getD i (0, 0) = X := ⟨_, rfl⟩
      have hKi : K[i]? = some (x, y) := by rw [← hX, List.getD_eq_getElem?_getD, List.getElem?_eq_getElem (by rw [HKL.out]; exact hlt)]; rfl
      obtain ⟨k1, k2⟩ := rec_cells O5.out hKi
      have hfy : (flat encR K)[i * 2]? = some (.int .i64 x) := by
        rw [← hc (i * 2) (by omega)]; exact k1
      have hf1 := O5.out.frozenAt (i * 2 + 1)
      have R := O5.out.stored (i * 2 + 1) (.int .i64 v)
      rw [flat_setTagG (x := x) (by rw [HKL.out]; exact hlt) hfy] at R
      have HR := Lib.hid R.1
      have HDR := Lib.hid (D5.out.app O5.out (Nat.le_refl _) R.2)
      have t0 : ((i : Int)).toNat = i := by omega
      have b0 : (0 : Int) ≤ (i : Int) := by omega
      have b2 : (i : Int) < (n : Int) := by omega
      clear hc hX hKi k1 hfy R O5 D5
      go_wp2_with fail
      go_roundw
      case rel => exact ⟨i + 1, _, by go_num, by omega, by rw [List.length_set]; exact HKL.out, HR.out, HDR.out.mono (by omega)⟩
      case measure => simp [intOf] <;> omega
    · have q1 : decide ((i : Int) < (n : Int)) = false := decide_eq_false (by omega)
      go_wp2
      go_ret
      exact ⟨a1, n, c1, K, rfl, HO3.out, hl, HD3.out.mono (by omega)⟩

/-- A list of records, drawn. -/
def GrDraw (w : World) (e : Ending) (w' : World) : Prop :=
  ∃ (a : Option Addr) (n c : Nat) (rs : List (Int × Int)), e = .returned (.slice a n c) ∧ w'.ownsRow w.heap.size 43 2 (.slice a n c) n (flat encR rs) ∧ rs.length = n ∧ n ≤ 70 ∧ Below w.heap.size w w'

set_option maxRecDepth 100000 in
set_option maxHeartbeats 4000000 in
theorem drawGroupRecords_any (ac : Option Addr) (c : Nat) (cs : List Int) (w : World) (hl : cs.length ≤ 65537) (h : BytesAt w ac cs) :
    Calls Try.prog 5 #[.slice ac cs.length c] w (GrDraw w) := by
  obtain ⟨h1, h2, h3⟩ := cur_start (c := c) hl h
  have HC := Lib.hid h1; have HO := Lib.hid h2; have HB := Lib.hid h3
  clear h h1 h2 h3
  obtain ⟨W, hW⟩ : ∃ W, w.alloc (.cells #[.slice ac cs.length c, .int .i64 0, .int .u64 0] 39) = W := ⟨_, rfl⟩
  have hsz : W.heap.size = w.heap.size + 1 := by rw [← hW]; simp
  rw [hW] at HC HB
  have D0 : Hid (Drawn W W w.heap.size ac cs 0) := ⟨HC.out, grown_refl _ _, by omega, fun h0 b off e => by have := HO.out h0 b off e; omega⟩
  unfold GrDraw
  go_enter Try.func5, Try.ntmps5
  go_wp2_with fail
  refine (one_any w.heap.size ac cs _ 12 _ ?h1 (by omega) D0.out.cur).mono ?_
  case h1 => omega
  rintro e w2 ⟨⟨b, rfl⟩, hc, hg⟩
  have D2 := Lib.hid (D0.out.step hc hg)
  have hs2 := hg.size
  clear hc hg D0 HC
  cases b
  · go_wp2_with fail
    refine (tagged_any w.heap.size ac cs _ _ ?h3 D2.out.cur (fun h0 b off e => by have := HO.out h0 b off e; omega)).mono ?_
    case h3 => omega
    rintro e w3 ⟨a1, n, c1, L, rfl, ho, hl1, hD⟩
    have HO3 := Lib.hid ho
    have HB3 := Lib.hid (HB.out.grown (grown_trans D2.out.grown hD.grown) (by omega) (fun k hk => by injection hk with hk; omega))
    clear ho hD D2
    go_wp2
    go_ret
    exact ⟨a1, n, c1, L, rfl, own_mono HO3.out (by omega), by have := HO3.out.1; rw [flat_length encR_len] at this; omega, by omega, HB3.out⟩
  · go_wp2_with fail
    refine (anyRecords_any w.heap.size ac cs _ _ ?h4 D2.out.cur (fun h0 b off e => by have := HO.out h0 b off e; omega)).mono ?_
    case h4 => omega
    rintro e w3 ⟨a1, c1, L, rfl, ho, hl1, hD⟩
    obtain ⟨n, hn⟩ : ∃ n, L.length = n := ⟨_, rfl⟩
    rw [hn] at ho hl1
    rw [hn]
    have HO3 := Lib.hid ho
    have HB3 := Lib.hid (HB.out.grown (grown_trans D2.out.grown hD.grown) (by omega) (fun k hk => by injection hk with hk; omega))
    have HN := Lib.hid hn
    clear ho hD D2 hn
    go_wp2
    go_ret
    exact ⟨a1, n, c1, L, rfl, own_mono HO3.out (by omega), HN.out, by omega, HB3.out⟩
end Go.Proofs.Ytmgkdokaaoeobaa

namespace Go.Proofs.Ytmgkdokaaoeobaa
open Go.RowKit
set_option linter.unusedVariables false

set_option maxHeartbeats 1000000 in
theorem vAtG_any (a : Option Addr) (c : Nat) (cs : List Int) (i : Nat) (w : World) (hl : cs.length ≤ 65537) (hi : i ≤ 1000) (h : BytesAt w a cs) :
    Calls Try.prog 8 #[.slice a cs.length c, .int .i64 i] w fun e w' => (∃ r : Int, e = .returned (.int .i64 r) ∧ 0 ≤ r ∧ r ≤ 255) ∧ w = w' := by
  by_cases hlt : i < cs.length
  · obtain ⟨b, off, rfl, hc, hb0, hb1⟩ := h.at hlt
    generalize cs.getD i 0 = x at hc hb0 hb1
    have h3 : decide ((i : Int) < (cs.length : Int)) = true := decide_eq_true (by omega)
    have b1 : (0 : Int) ≤ (i : Int) := by omega
    have b2 : (i : Int) < (cs.length : Int) := by omega
    clear h
    go_enter Try.func8, Try.ntmps8
    go_wp2
    go_ret
    exact ⟨⟨x, rfl, hb0, hb1⟩, rfl⟩
  · have h3 : decide ((i : Int) < (cs.length : Int)) = false := decide_eq_false (by omega)
    have b1 : (0 : Int) ≤ (i : Int) := by omega
    have b2 : (i : Int) * 7 ≤ 7000 := by omega
    have b3 : (0 : Int) ≤ (i : Int) * 7 + (cs.length : Int) := by omega
    have b4 : (i : Int) * 7 + (cs.length : Int) ≤ 100000 := by omega
    have q1 : 0 ≤ ((i : Int) * 7 + (cs.length : Int)).tmod 256 := Int.tmod_nonneg _ b3
    have q2 : ((i : Int) * 7 + (cs.length : Int)).tmod 256 ≤ 255 := by have := Int.tmod_lt_of_pos ((i : Int) * 7 + (cs.length : Int)) (b := 256) (by omega); omega
    have Q := Lib.hid (And.intro q1 q2)
    clear h q1 q2
    go_enter Try.func8, Try.ntmps8
    go_wp2
    go_ret
    exact ⟨⟨_, rfl, Q.out.1, Q.out.2⟩, rfl⟩

theorem specIVG_any (a : Option Addr) (c n : Nat) (rs : List (Int × Int)) (w : World) (hn : n ≤ 9223372036854775807) (h : Rd w a n c rs) :
    Calls Try.prog 7 #[.slice a n c] w fun e w' => e = .returned (.bool (okRecs rs)) ∧ w = w' := by
  have hl := h.len
  have H : Hid (Calls Try.prog 17 #[.slice a n c] w fun e w' => e = .returned (.bool (okRecs rs)) ∧ w = w') := by
    have := l2Records_any a c rs w (by omega) h.recs
    rwa [hl] at this
  clear h
  go_enter Try.func7, Try.ntmps7
  go_wp2_with fail
  refine H.out.mono ?_
  rintro e w1 ⟨rfl, rfl⟩
  go_wp2
  go_ret
  exact ⟨rfl, rfl⟩

end Go.Proofs.Ytmgkdokaaoeobaa

