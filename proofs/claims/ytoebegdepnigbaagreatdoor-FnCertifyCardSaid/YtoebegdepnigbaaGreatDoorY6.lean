/- Several texts in one: lemmas and walks of the functions that the laws reach. -/
import Derived.Test.YtoebegdepnigbaaGreatDoorY5
import Derived.Test.YtoebegdepnigbaaGreatDoorY3
import Derived.Test.YtoebegdepnigbaaGreatDoorY2
import Derived.Laws.AppendOwnNone
import Derived.BigRegion
import Derived.Deep.RegionHeld3

/- Walks: the stable sort of records, of both packages; records held side by side; the draw. -/
namespace Go.Proofs.YtoebegdepnigbaaGreatDoor
open Go.RowKit Go.Sort
set_option linter.unusedVariables false

/-- Records that can be read behind a slice. -/
structure Rd (w : World) (a : Option Addr) (n c : Nat) (rs : List (Int × Int)) : Prop where
  recs : RecsAt w a rs
  len : rs.length = n
  nil : NilOk a c
  cap : n ≤ c
theorem Rd.below {w w' : World} {B : Nat} {a : Option Addr} {n c : Nat} {rs : List (Int × Int)} (h : Rd w a n c rs) (hB : w.heap.size ≤ B) (hb : Below B w w') : Rd w' a n c rs :=
  ⟨h.recs.below hB hb, h.len, h.nil, h.cap⟩
theorem Rd.same {w w' : World} {a : Option Addr} {n c : Nat} {rs : List (Int × Int)} (h : Rd w a n c rs) (hb : Below w.heap.size w w') : Rd w' a n c rs := h.below (Nat.le_refl _) hb
theorem own_cap {w : World} {B : Nat} {e : TypeId} {size n c : Nat} {a : Option Addr} {xs : List Value} (h : w.ownsRow B e size (.slice a n c) n xs) : n ≤ c := by
  rcases h.2 with ⟨hv, hm⟩ | ⟨g, cap, cur, hv, _, _, hn, _⟩
  · omega
  · injection hv with _ _ h3; omega
theorem rd_own {w : World} {B : Nat} {e : TypeId} {n c : Nat} {a : Option Addr} {rs : List (Int × Int)} (h : w.ownsRow B e 2 (.slice a n c) n (flat encR rs)) : Rd w a n c rs :=
  ⟨recs_of_own h, by have := h.1; rw [flat_length encR_len] at this; omega, nilOk_own h, own_cap h⟩
theorem rd_nil (w : World) : Rd w none 0 0 [] := ⟨.inl rfl, rfl, fun _ => rfl, Nat.le_refl _⟩
theorem rd_some (w : World) (x : Addr) (c : Nat) : Rd w (some x) 0 c [] := ⟨.inl rfl, rfl, nilOk_some _ _, Nat.zero_le _⟩

/-- A list and a Bool, given back. -/
def RdEnd (w : World) (out : List (Int × Int)) (ok : Bool) (e : Ending) (w' : World) : Prop :=
  ∃ (a : Option Addr) (n c : Nat), e = .returned (.tuple #[.slice a n c, .bool ok]) ∧ Rd w' a n c out ∧ Below w.heap.size w w'

theorem okRecs_le {rs : List (Int × Int)} (h : okRecs rs = true) : rs.length ≤ 64 := by
  unfold okRecs at h
  simp at h
  exact h.1
def stAns (rs : List (Int × Int)) : List (Int × Int) := if okRecs rs = true then srtR rs else []

set_option maxRecDepth 100000 in
set_option maxHeartbeats 2000000 in
theorem implStableSort_any (a : Option Addr) (n c : Nat) (rs : List (Int × Int)) (w : World) (hbig : n ≤ 9223372036854775807) (h : Rd w a n c rs) :
    Calls Tryz.prog 8 #[.slice a n c] w (RdEnd w (stAns rs) (okRecs rs)) := by
  obtain ⟨hr, rfl, hn, hc⟩ := h
  have HV := Lib.hid (isValidRecords_any a c rs w hbig hr)
  have HR := Lib.hid hr; have HN := Lib.hid hn
  clear hr hn
  unfold RdEnd stAns
  cases hok : okRecs rs
  · rw [hok] at HV
    go_enter Tryz.func8, Tryz.ntmps8
    go_wp2_with fail
    refine HV.out.mono ?_
    rintro e w1 ⟨rfl, hb⟩
    have HB := Lib.hid hb; clear hb
    go_wp2
    go_ret2
    exact ⟨none, 0, 0, rfl, rd_nil _, HB.out⟩
  · rw [hok] at HV
    have hl := okRecs_le hok
    go_enter Tryz.func8, Tryz.ntmps8
    go_wp2_with fail
    refine HV.out.mono ?_
    rintro e w1 ⟨rfl, hb⟩
    have HB := Lib.hid hb; clear hb
    go_wp2_with fail
    refine (stable_any a c rs w1 (by omega) (HR.out.below (Nat.le_refl _) HB.out) HN.out).mono ?_
    rintro e w2 ⟨g, c2, rfl, ho, hb⟩
    have HO := Lib.hid (rd_own ho)
    have HB2 := Lib.hid (HB.out.trans (hb.mono HB.out.size))
    clear ho hb
    go_wp2
    go_ret2
    exact ⟨_, _, _, rfl, HO.out, HB2.out⟩

theorem Rd.at {w : World} {a : Option Addr} {n c : Nat} {rs : List (Int × Int)} (h : Rd w a n c rs) {k : Nat} (hk : k < n) :
    ∃ b off, a = some ⟨b, off, none⟩ ∧ w.cell? ⟨b, off + k * 2, none⟩ = some (.int .i64 (rs.getD k (0, 0)).1) ∧ w.cell? ⟨b, off + k * 2 + 1, none⟩ = some (.int .i64 (rs.getD k (0, 0)).2) :=
  h.recs.at (by rw [h.len]; exact hk)

set_option maxRecDepth 100000 in
set_option maxHeartbeats 2000000 in
theorem vRecords_any (a b : Option Addr) (n m c d : Nat) (L R : List (Int × Int)) (w : World) (hn : n ≤ 9223372036854775807) (hm : m ≤ 9223372036854775807) (hL : Rd w a n c L) (hR : Rd w b m d R) :
    Calls Tryz.prog 16 #[.slice a n c, .slice b m d] w fun e w' => e = .returned (.bool (decide (L = R))) ∧ Below w.heap.size w w' := by
  have HL := Lib.hid hL; have HR := Lib.hid hR
  clear hL hR
  by_cases hnm : n = m
  case neg =>
    have q1 : ((n : Int) != (m : Int)) = true := by simp; omega
    have HE : Hid (decide (L = R) = false) := by
      show _ = _
      refine decide_eq_false fun h => hnm ?_
      rw [← HL.out.len, ← HR.out.len, h]
    go_enter Tryz.func16, Tryz.ntmps16
    go_wp2
    go_ret
    exact ⟨ret_bool HE.out.symm, Below.refl _ _⟩
  subst hnm
  have q1 : ((n : Int) != (n : Int)) = false := by simp
  go_enter Tryz.func16, Tryz.ntmps16
  go_wp2
  go_loopw [5] (fun v wr => ∃ k : Nat, v = .int .i64 k ∧ k ≤ n ∧ Hid (∀ j, j < k → L.getD j (0, 0) = R.getD j (0, 0)) ∧ Below w.heap.size w wr) (fun v _ => n - (intOf v).toNat)
  case atStart => exact ⟨0, rfl, by omega, Lib.hid (fun j h => by omega), Below.refl _ _⟩
  case round =>
    obtain ⟨k, rfl, hk, HALL, hb⟩ := hrel
    have HB := Lib.hid hb
    clear hb
    by_cases hlt : k < n
    case neg =>
      obtain rfl : k = n := by omega
      have HE : Hid (decide (L = R) = true) := by
        show _ = _
        refine decide_eq_true (List.ext_getElem (by rw [HL.out.len, HR.out.len]) fun j h1 h2 => ?_)
        have := HALL.out j (by rw [← HL.out.len]; exact h1)
        rwa [getD_get h1, getD_get h2] at this
      have h3 : decide ((k : Int) < (k : Int)) = false := by simp
      go_wp2
      go_ret
      exact ⟨ret_bool HE.out.symm, HB.out⟩
    obtain ⟨x, o, rfl, c1, c1'⟩ := (HL.out.same HB.out).at hlt
    obtain ⟨y, p, rfl, c2, c2'⟩ := (HR.out.same HB.out).at hlt
    obtain ⟨X, hX⟩ : ∃ X, L.getD k (0, 0) = X := ⟨_, rfl⟩
    obtain ⟨Y, hY⟩ : ∃ Y, R.getD k (0, 0) = Y := ⟨_, rfl⟩
    rw [hX] at c1 c1'
    rw [hY] at c2 c2'
    have HX := Lib.hid hX; have HY := Lib.hid hY
    clear hX hY
    obtain ⟨X1, X2⟩ := X
    obtain ⟨Y1, Y2⟩ := Y
    have h3 : decide ((k : Int) < (n : Int)) = true := decide_eq_true (by omega)
    by_cases hxy : X1 = Y1 ∧ X2 = Y2
    · obtain ⟨rfl, rfl⟩ := hxy
      go_wp2_with fail
      go_quiet (fail)
      go_wp2
      go_roundw
      case rel => exact ⟨k + 1, by go_num, by omega, Lib.hid (fun j hj => by
        rcases Nat.lt_or_ge j k with h | h
        · exact HALL.out j h
        · obtain rfl : j = k := by omega
          rw [HX.out, HY.out]), below_drewN HB.out _⟩
      case measure => simp [intOf] <;> omega
    · have HE : Hid (decide (L = R) = false) := by
        show _ = _
        refine decide_eq_false fun h => hxy ?_
        have := HX.out
        rw [h, HY.out] at this
        injection this with h1 h2
        exact ⟨h1.symm, h2.symm⟩
      by_cases q1 : X1 = Y1
      · subst q1
        have q2 : (X2 == Y2) = false := by simpa using hxy
        clear hxy
        go_wp2_with fail
        go_quiet (fail)
        go_wp2
        go_ret
        exact ⟨ret_bool HE.out.symm, below_drewN HB.out _⟩
      · have q2 : (X1 == Y1) = false := by simpa using q1
        clear hxy q1
        go_wp2_with fail
        go_quiet (fail)
        go_wp2
        go_ret
        exact ⟨ret_bool HE.out.symm, below_drewN HB.out _⟩

end Go.Proofs.YtoebegdepnigbaaGreatDoor

/- General: records given back with a number and a Bool; drawn records; what is kept. -/
namespace Go.Proofs.YtoebegdepnigbaaGreatDoor
open Go.RowKit Go.Sort
set_option linter.unusedVariables false

/-- A list, a number and a Bool, given back. -/
def Rd3 (w : World) (out : List (Int × Int)) (k : Int) (ok : Bool) (e : Ending) (w' : World) : Prop :=
  ∃ (a : Option Addr) (n c : Nat), e = .returned (.tuple #[.slice a n c, .int .i64 k, .bool ok]) ∧ Rd w' a n c out ∧ Below w.heap.size w w'

theorem stAns_le (rs : List (Int × Int)) : (stAns rs).length ≤ rs.length := by
  unfold stAns; split
  · rw [srtR_len]; omega
  · simp
/-- A drawn list of records. -/
def RdDraw (w : World) (e : Ending) (w' : World) : Prop :=
  ∃ (a : Option Addr) (n c : Nat) (rs : List (Int × Int)), e = .returned (.slice a n c) ∧ Rd w' a n c rs ∧ n ≤ 70 ∧ Below w.heap.size w w'
theorem drawIV_any (ac : Option Addr) (c : Nat) (cs : List Int) (w : World) (hl : cs.length ≤ 65537) (h : BytesAt w ac cs) :
    Calls Tryz.prog 17 #[.slice ac cs.length c] w (RdDraw w) :=
  (drawIsValidRecords_any ac c cs w hl h).mono fun e w' ⟨a', c', rs, h1, h2, h3, h4⟩ => ⟨a', rs.length, c', rs, h1, rd_own h2, h3, h4⟩

theorem below_tr {B : Nat} {w w1 w2 : World} (h : Below B w w1) (hb : Below w1.heap.size w1 w2) (hB : B ≤ w1.heap.size) : Below B w w2 := h.trans (hb.mono hB)

theorem rd_lo {w : World} {a : Option Addr} {n c h : Nat} {rs : List (Int × Int)} (hr : Rd w a n c rs) (hh : h ≤ n) : Rd w a h c (rs.take h) :=
  ⟨recs_take hr.recs h, by rw [List.length_take, hr.len]; omega, hr.nil, by have := hr.cap; omega⟩
theorem rd_hi {w : World} {b o n c h : Nat} {rs : List (Int × Int)} (hr : Rd w (some ⟨b, o, none⟩) n c rs) (hh : h ≤ n) : Rd w (some ⟨b, o + h * 2, none⟩) (n - h) (c - h) (rs.drop h) :=
  ⟨recs_drop hr.recs h, by rw [List.length_drop, hr.len], nilOk_some _ _, by have := hr.cap; omega⟩

theorem own_cur {w w' : World} {B bc : Nat} {e : TypeId} {size n : Nat} {v : Value} {xs : List Value} (h : w.ownsRow B e size v n xs) (hB : bc < B) (hg : w.grownBy w' (some bc)) : w'.ownsRow B e size v n xs :=
  own_other h hg (fun k hk e => by injection e with e; have := (h.lt k hk).1; omega)

end Go.Proofs.YtoebegdepnigbaaGreatDoor

/- Walks of the laws' own functions: lists of ints compared; a code cut. -/
namespace Go.Proofs.YtoebegdepnigbaaGreatDoor
open Go.RowKit
set_option linter.unusedVariables false

set_option maxRecDepth 100000 in
set_option maxHeartbeats 1000000 in
theorem vInts_same (a b : Option Addr) (c d n : Nat) (zs : List Int) (w : World) (hn : zs.length = n) (hl : n ≤ 1000000) (h1 : IntsAt w a zs) (h2 : IntsAt w b zs) :
    Calls Tryz.prog 13 #[.slice a n c, .slice b n d] w fun e w' => e = .returned (.bool true) ∧ Below w.heap.size w w' := by
  have H1 := Lib.hid h1; have H2 := Lib.hid h2
  have HN := Lib.hid hn
  clear h1 h2 hn
  go_enter Tryz.func13, Tryz.ntmps13
  go_wp2
  go_loopw [5] (fun i wr => ∃ k : Nat, k ≤ n ∧ i = .int .i64 k ∧ Below w.heap.size w wr) (fun i _ => n - (intOf i).toNat)
  case atStart => exact ⟨0, by omega, rfl, Below.refl _ _⟩
  case round =>
    obtain ⟨k, hk, rfl, hb⟩ := hrel
    have HB := Lib.hid hb; clear hb
    by_cases hlt : k < n
    · obtain ⟨b1, o1, rfl, c1⟩ := (H1.out.below (Nat.le_refl _) HB.out).at (show k < zs.length by rw [HN.out]; exact hlt)
      obtain ⟨b2, o2, rfl, c2⟩ := (H2.out.below (Nat.le_refl _) HB.out).at (show k < zs.length by rw [HN.out]; exact hlt)
      generalize zs.getD k 0 = x at c1 c2
      have q1 : (x != x) = false := by simp
      have q2 : decide ((k : Int) < (n : Int)) = true := decide_eq_true (by omega)
      have b0 : (0 : Int) ≤ (k : Int) := by omega
      go_wp2_with fail
      go_quiet (fail)
      go_wp2
      go_roundw
      case rel => exact ⟨k + 1, by omega, by go_num, below_drewN HB.out _⟩
      case measure => simp [intOf]; omega
    · obtain rfl : k = n := by omega
      have q2 : decide ((k : Int) < (k : Int)) = false := decide_eq_false (by omega)
      go_wp2
      go_ret
      exact ⟨rfl, HB.out⟩

theorem Tryz.infoU8c : (Tryz.prog.info? 5).map (fun i => (i.zero, i.size, i.bytes)) = some (some (.int .u8 0), 1, 1) := by kernel_rfl
theorem slU8c : SlT Tryz.prog 22 5 (.int .u8 0) 1 1 := ⟨Tryz.underlying22, info_parts Tryz.infoU8c, rfl, by decide, by decide⟩

theorem wpList_appXV {P : Program} {w : World} {ops : Array Oper} {rest : List Oper} {o : Oper} {a : Act} {Q : Exit → Act → World → Prop} {t e : TypeId} {z : Value} {size bytes : Nat} (T : SlT P t e z size bytes) (hgd : o.guard = none) (s y : Operand)
    (ho : o.op = .call { callee := .builtin .append, args := #[s, y], argTypes := #[t, t] })
    (base : Nat) (v : Value) (n : Nat) (xs : List Value) (ad : Addr) (m c : Nat) (ys : List Value) (hs : a.eval s = v) (hown : w.ownsRow base e size v n xs) (hy : a.eval y = .slice (some ad) m c) (hl : ys.length = m * size)
    (hcells : ∀ j x, ys[j]? = some x → w.cell? (ad.add j) = some x) (h1 : ∀ x ∈ ys, x.oneCell' = true) (hsmall : n + m ≤ 1099511627776) (hbase : base ≤ w.heap.size)
    (h : ∀ v' w', w'.ownsRow base e size v' (n + m) (xs ++ ys) → w.grownBy w' v.ownBlock → (v'.ownBlock = v.ownBlock ∨ v'.ownBlock = some w.heap.size) → wpList P ops Q rest (a.put o.dst v') w') :
    wpList P ops Q (o :: rest) a w := wpList_plain hgd fun K hK => wp_appX T s y ho base v n xs ad m c ys hs hown hy hl hcells h1 hsmall hbase fun v' w' g1 g2 g3 => hK _ _ (h v' w' g1 g2 g3)
theorem wpList_app_n0 {P : Program} {w : World} {ops : Array Oper} {rest : List Oper} {o : Oper} {a : Act} {Q : Exit → Act → World → Prop} {t e : TypeId} {z : Value} {size bytes : Nat} (T : SlT P t e z size bytes) (hgd : o.guard = none) (s y : Operand)
    (ho : o.op = .call { callee := .builtin .append, args := #[s, y], argTypes := #[t, t] }) (ad : Addr) (c : Nat) (hs : a.eval s = .slice (some ad) 0 0) (hy : a.eval y = .slice none 0 c)
    (h : wpList P ops Q rest (a.put o.dst (.slice (some ad) 0 0)) w) : wpList P ops Q (o :: rest) a w := by
  refine wpList_plain hgd fun K hK => ?_
  obtain ⟨i, hi, _⟩ := T.info
  have hrun : (Builtin.append_ #[t, t] o.type #[.slice (some ad) 0 0, .slice none 0 c]).run P w = .ok (.slice (some ad) 0 0) w := by
    simp [Builtin.append_, run_underlying T.und, sizeOf, typeInfo, hi, Builtin.lenOf, Builtin.firstCells, storeCells]
  unfold Oper.wp
  simp [execOp, ho, resolve, invoke, builtin, hs, hy, hrun, Result.andThen]
  exact hK _ _ h
theorem bytes_one {l : List Int} : ∀ u ∈ l.map (Value.int .u8), u.oneCell' = true := by
  intro u hu
  obtain ⟨x, _, rfl⟩ := List.mem_map.1 hu
  rfl
theorem bytes_own {w : World} {base n c : Nat} {a : Option Addr} {zs : List Int} (h : w.ownsRow base 5 1 (.slice a n c) n (zs.map (Value.int .u8))) (hz : ∀ x ∈ zs, 0 ≤ x ∧ x ≤ 255) : BytesAt w a zs := by
  by_cases h0 : zs = []
  · exact .inl h0
  have hpos : 0 < zs.length := List.length_pos_iff.2 h0
  obtain ⟨g, rfl, _, _, hg⟩ := own_at (i := 0) (x := .int .u8 zs[0]) h (by rw [List.getElem?_map, List.getElem?_eq_getElem hpos]; rfl)
  refine .inr ⟨g, 0, rfl, hg, fun j hj => ?_⟩
  have hl := h.1
  simp only [List.length_map, Nat.mul_one] at hl
  have h1 := h.cellAt j (by omega)
  rw [List.getElem?_map, List.getElem?_eq_getElem hj] at h1
  have e : zs.getD j 0 = zs[j] := by rw [List.getD_eq_getElem?_getD, List.getElem?_eq_getElem hj]; rfl
  rw [e, Nat.zero_add]
  exact ⟨h1, hz _ (List.getElem_mem hj)⟩

set_option maxRecDepth 100000 in
set_option maxHeartbeats 2000000 in
theorem vCut_any (a : Option Addr) (c : Nat) (cs : List Int) (w : World) (hl : cs.length ≤ 65537) (h : BytesAt w a cs) :
    Calls Tryz.prog 15 #[.slice a cs.length c, .int .i64 5] w fun e w' => ∃ (a' : Option Addr) (c' : Nat) (zs : List Int), e = .returned (.slice a' zs.length c') ∧ zs.length ≤ 65537 ∧ BytesAt w' a' zs ∧ Below w.heap.size w w' := by
  have E0 := Lib.hid (own_lit (w := w) (e := 5) (size := 1) #[] 0 (by omega) rfl)
  have HB0 := Lib.hid (show Below w.heap.size w (w.alloc (.cells #[] 5)) from (Below.refl _ _).alloc (Nat.le_refl _) _)
  have hle : w.heap.size ≤ (w.alloc (.cells #[] 5)).heap.size := by simp
  by_cases h5 : 5 ≤ cs.length
  · have hne : cs ≠ [] := fun e => by rw [e] at h5; simp at h5
    rcases h with h | ⟨b, off, rfl, hb, hc⟩
    · exact absurd h hne
    have q1 : decide ((cs.length : Int) < 5) = false := decide_eq_false (by omega)
    have q5 : ¬ cs.length < 5 := by omega
    have HCE : Hid (∀ j, j < cs.length → (w.alloc (.cells #[] 5)).cell? ⟨b, off + j, none⟩ = some (.int .u8 (cs.getD j 0))) := fun j hj => by
      rw [HB0.out.cell (p := ⟨b, off + j, none⟩) hb]; exact (hc j hj).1
    have HRG : Hid (∀ x ∈ cs, 0 ≤ x ∧ x ≤ 255) := fun x hx => by
      obtain ⟨j, hj, rfl⟩ := List.getElem_of_mem hx
      have := (hc j hj).2
      rw [List.getD_eq_getElem?_getD, List.getElem?_eq_getElem hj] at this
      exact this
    have hsm : 0 + (cs.length - 5) ≤ 1099511627776 := by omega
    have hsm2 : 0 + (cs.length - 5) + 1 ≤ 1099511627776 := by omega
    clear hc hne
    by_cases hc5 : c = 5
    · subst hc5
      have HY : Hid (∀ (j : Nat) x, ((cs.take (cs.length - 5)).map (Value.int .u8))[j]? = some x → (w.alloc (.cells #[] 5)).cell? ((⟨b, off, none⟩ : Addr).add j) = some x) := fun j x hx => by
        rw [List.getElem?_map, List.getElem?_take] at hx
        split at hx
        · rename_i hj
          rw [List.getElem?_eq_getElem (by omega)] at hx
          have := HCE.out j (by omega)
          rw [List.getD_eq_getElem?_getD, List.getElem?_eq_getElem (by omega)] at this
          rw [addr_add]
          simp at hx
          rw [← hx]; exact this
        · simp at hx
      go_enter Tryz.func15, Tryz.ntmps15
      go_wp2_with (first | (at_builtin; refine wpList_appXV slU8c rfl (.tmp 11) (.tmp 14) rfl w.heap.size (.slice (some ⟨w.heap.size, 0, none⟩) 0 0) 0 [] ⟨b, off, none⟩ (cs.length - 5) 0 ((cs.take (cs.length - 5)).map (Value.int .u8)) rfl E0.out (by rfl) (by simp) HY.out bytes_one hsm hle ?_; intro v' w2 hown2 hg2 ht2; have HO2 := Lib.hid hown2; have HB2 := Lib.hid (below_app HB0.out hle E0.out (Nat.le_refl _) hg2); have hle2 : w.heap.size ≤ w2.heap.size := HB2.out.size; clear hown2 hg2 ht2) | (at_builtin; refine wpList_app1 slU8c rfl (.tmp 15) (.tmp 18) rfl rfl HO2.out [.int .u8 5] rfl rfl (by simp) (by simp [Value.oneCell']) hsm2 hle2 ?_; intro v3 w3 hown3 hg3 ht3; have HO3 := Lib.hid hown3; have HB3 := Lib.hid (below_app HB2.out hle2 HO2.out (Nat.le_refl _) hg3); clear hown3 hg3 ht3))
      obtain ⟨a3, c3, hv3⟩ := own_slice HO3.out
      subst hv3
      have HF : Hid (∃ zs : List Int, zs.length = 0 + (cs.length - 5) + 1 ∧ BytesAt w3 a3 zs) := by
        refine ⟨cs.take (cs.length - 5) ++ [5], by simp, bytes_own (c := c3) (n := 0 + (cs.length - 5) + 1) (by have h := HO3.out; simpa using h) ?_⟩
        intro x hx
        rcases List.mem_append.1 hx with hx | hx
        · exact HRG.out x (by first | exact List.mem_of_mem_take hx | exact List.mem_of_mem_drop hx)
        · simp at hx; omega
      clear HO3
      go_ret
      obtain ⟨zs, hz1, hz2⟩ := HF.out
      exact ⟨a3, c3, zs, by rw [hz1]; simp, by omega, hz2, HB3.out⟩
    · have HY : Hid (∀ (j : Nat) x, ((cs.drop 5).map (Value.int .u8))[j]? = some x → (w.alloc (.cells #[] 5)).cell? ((⟨b, off + 5, none⟩ : Addr).add j) = some x) := fun j x hx => by
        rw [List.getElem?_map, List.getElem?_drop] at hx
        by_cases hj : 5 + j < cs.length
        · rw [List.getElem?_eq_getElem hj] at hx
          have := HCE.out (5 + j) hj
          rw [List.getD_eq_getElem?_getD, List.getElem?_eq_getElem hj] at this
          rw [addr_add, Nat.add_assoc]
          simp at hx
          rw [← hx]; exact this
        · rw [List.getElem?_eq_none (by omega)] at hx; simp at hx
      go_enter Tryz.func15, Tryz.ntmps15
      go_wp2_with (first | (at_builtin; refine wpList_appXV slU8c rfl (.tmp 11) (.tmp 14) rfl w.heap.size (.slice (some ⟨w.heap.size, 0, none⟩) 0 0) 0 [] ⟨b, off + 5, none⟩ (cs.length - 5) (c - 5) ((cs.drop 5).map (Value.int .u8)) rfl E0.out (by rfl) (by simp) HY.out bytes_one hsm hle ?_; intro v' w2 hown2 hg2 ht2; have HO2 := Lib.hid hown2; have HB2 := Lib.hid (below_app HB0.out hle E0.out (Nat.le_refl _) hg2); have hle2 : w.heap.size ≤ w2.heap.size := HB2.out.size; clear hown2 hg2 ht2) | (at_builtin; refine wpList_app1 slU8c rfl (.tmp 15) (.tmp 18) rfl rfl HO2.out [.int .u8 5] rfl rfl (by simp) (by simp [Value.oneCell']) hsm2 hle2 ?_; intro v3 w3 hown3 hg3 ht3; have HO3 := Lib.hid hown3; have HB3 := Lib.hid (below_app HB2.out hle2 HO2.out (Nat.le_refl _) hg3); clear hown3 hg3 ht3))
      obtain ⟨a3, c3, hv3⟩ := own_slice HO3.out
      subst hv3
      have HF : Hid (∃ zs : List Int, zs.length = 0 + (cs.length - 5) + 1 ∧ BytesAt w3 a3 zs) := by
        refine ⟨cs.drop 5 ++ [5], by simp, bytes_own (c := c3) (n := 0 + (cs.length - 5) + 1) (by have h := HO3.out; simpa using h) ?_⟩
        intro x hx
        rcases List.mem_append.1 hx with hx | hx
        · exact HRG.out x (by first | exact List.mem_of_mem_take hx | exact List.mem_of_mem_drop hx)
        · simp at hx; omega
      clear HO3
      go_ret
      obtain ⟨zs, hz1, hz2⟩ := HF.out
      exact ⟨a3, c3, zs, by rw [hz1]; simp, by omega, hz2, HB3.out⟩
  · have q1 : decide ((cs.length : Int) < 5) = true := decide_eq_true (by omega)
    have q5 : cs.length < 5 := by omega
    have hsm2 : 0 + 1 ≤ 1099511627776 := by omega
    clear h
    cases a with
    | none =>
      by_cases hcl : c = cs.length
      · subst hcl
        go_enter Tryz.func15, Tryz.ntmps15
        go_wp2_with (first | (at_builtin; refine wpList_app_n0 slU8c rfl (.tmp 11) (.tmp 14) rfl _ _ rfl (by rfl) ?_; have HO2 := E0; have HB2 := HB0; have hle2 := hle) | (at_builtin; refine wpList_app1 slU8c rfl (.tmp 15) (.tmp 18) rfl rfl HO2.out [.int .u8 cs.length] rfl rfl (by simp) (by simp [Value.oneCell']) hsm2 hle2 ?_; intro v3 w3 hown3 hg3 ht3; have HO3 := Lib.hid hown3; have HB3 := Lib.hid (below_app HB2.out hle2 HO2.out (Nat.le_refl _) hg3); clear hown3 hg3 ht3))
        obtain ⟨a3, c3, hv3⟩ := own_slice HO3.out
        subst hv3
        have HF : Hid (BytesAt w3 a3 [(cs.length : Int)]) := bytes_own (c := c3) (n := 1) (by have h := HO3.out; simpa using h) (by intro x hx; simp at hx; omega)
        clear HO3
        go_ret
        exact ⟨a3, c3, [(cs.length : Int)], rfl, by simp, HF.out, HB3.out⟩
      · go_enter Tryz.func15, Tryz.ntmps15
        go_wp2_with (first | (at_builtin; refine wpList_app_n0 slU8c rfl (.tmp 11) (.tmp 14) rfl _ _ rfl (by rfl) ?_; have HO2 := E0; have HB2 := HB0; have hle2 := hle) | (at_builtin; refine wpList_app1 slU8c rfl (.tmp 15) (.tmp 18) rfl rfl HO2.out [.int .u8 cs.length] rfl rfl (by simp) (by simp [Value.oneCell']) hsm2 hle2 ?_; intro v3 w3 hown3 hg3 ht3; have HO3 := Lib.hid hown3; have HB3 := Lib.hid (below_app HB2.out hle2 HO2.out (Nat.le_refl _) hg3); clear hown3 hg3 ht3))
        obtain ⟨a3, c3, hv3⟩ := own_slice HO3.out
        subst hv3
        have HF : Hid (BytesAt w3 a3 [(cs.length : Int)]) := bytes_own (c := c3) (n := 1) (by have h := HO3.out; simpa using h) (by intro x hx; simp at hx; omega)
        clear HO3
        go_ret
        exact ⟨a3, c3, [(cs.length : Int)], rfl, by simp, HF.out, HB3.out⟩
    | some x =>
      by_cases hcl : c = cs.length
      · subst hcl
        go_enter Tryz.func15, Tryz.ntmps15
        go_wp2_with (first | (at_builtin; refine wpList_appXV slU8c rfl (.tmp 11) (.tmp 14) rfl w.heap.size (.slice (some ⟨w.heap.size, 0, none⟩) 0 0) 0 [] _ 0 _ [] rfl E0.out (by rfl) (by simp) (by intro j x hx; simp at hx) (by simp) (by omega) hle ?_; intro v' w2 hown2 hg2 ht2; have HO2 := Lib.hid hown2; have HB2 := Lib.hid (below_app HB0.out hle E0.out (Nat.le_refl _) hg2); have hle2 : w.heap.size ≤ w2.heap.size := HB2.out.size; clear hown2 hg2 ht2) | (at_builtin; refine wpList_app1 slU8c rfl (.tmp 15) (.tmp 18) rfl rfl HO2.out [.int .u8 cs.length] rfl rfl (by simp) (by simp [Value.oneCell']) hsm2 hle2 ?_; intro v3 w3 hown3 hg3 ht3; have HO3 := Lib.hid hown3; have HB3 := Lib.hid (below_app HB2.out hle2 HO2.out (Nat.le_refl _) hg3); clear hown3 hg3 ht3))
        obtain ⟨a3, c3, hv3⟩ := own_slice HO3.out
        subst hv3
        have HF : Hid (BytesAt w3 a3 [(cs.length : Int)]) := bytes_own (c := c3) (n := 1) (by have h := HO3.out; simpa using h) (by intro x hx; simp at hx; omega)
        clear HO3
        go_ret
        exact ⟨a3, c3, [(cs.length : Int)], rfl, by simp, HF.out, HB3.out⟩
      · go_enter Tryz.func15, Tryz.ntmps15
        go_wp2_with (first | (at_builtin; refine wpList_appXV slU8c rfl (.tmp 11) (.tmp 14) rfl w.heap.size (.slice (some ⟨w.heap.size, 0, none⟩) 0 0) 0 [] _ 0 _ [] rfl E0.out (by rfl) (by simp) (by intro j x hx; simp at hx) (by simp) (by omega) hle ?_; intro v' w2 hown2 hg2 ht2; have HO2 := Lib.hid hown2; have HB2 := Lib.hid (below_app HB0.out hle E0.out (Nat.le_refl _) hg2); have hle2 : w.heap.size ≤ w2.heap.size := HB2.out.size; clear hown2 hg2 ht2) | (at_builtin; refine wpList_app1 slU8c rfl (.tmp 15) (.tmp 18) rfl rfl HO2.out [.int .u8 cs.length] rfl rfl (by simp) (by simp [Value.oneCell']) hsm2 hle2 ?_; intro v3 w3 hown3 hg3 ht3; have HO3 := Lib.hid hown3; have HB3 := Lib.hid (below_app HB2.out hle2 HO2.out (Nat.le_refl _) hg3); clear hown3 hg3 ht3))
        obtain ⟨a3, c3, hv3⟩ := own_slice HO3.out
        subst hv3
        have HF : Hid (BytesAt w3 a3 [(cs.length : Int)]) := bytes_own (c := c3) (n := 1) (by have h := HO3.out; simpa using h) (by intro x hx; simp at hx; omega)
        clear HO3
        go_ret
        exact ⟨a3, c3, [(cs.length : Int)], rfl, by simp, HF.out, HB3.out⟩

end Go.Proofs.YtoebegdepnigbaaGreatDoor

/- Walks: the library's stable sort at ints: an exchange of two ranges. -/
namespace Go.Proofs.YtoebegdepnigbaaGreatDoor
open Go.RowKit Go.Sort
set_option linter.unusedVariables false

/-- An int's cells. -/
def II.encI (x : Int) : List Value := [.int .i64 x]
theorem II.encI_len (x : Int) : (II.encI x).length = 1 := rfl
theorem II.flat_map (l : List Int) : flat II.encI l = l.map (Value.int .i64) := by
  unfold flat II.encI
  induction l with
  | nil => rfl
  | cons a t ih => simp [List.flatMap_cons]; exact ih
theorem II.flat_set1 (l : List Int) (k : Nat) (x : Int) : (flat II.encI l).set k (.int .i64 x) = flat II.encI (l.set k x) := by
  rw [II.flat_map, II.flat_map, List.map_set]
theorem II.rec_cells {w : World} {base g n cap k : Nat} {e : TypeId} {d : List Int} {r : Int} (h : w.ownsRow base e 1 (.slice (some ⟨g, 0, none⟩) n cap) n (flat II.encI d)) (hk : d[k]? = some r) : w.cell? ⟨g, k, none⟩ = some (.int .i64 r) := by
  rw [II.flat_map] at h
  obtain ⟨g', e, hc, _⟩ := own_at h (i := k) (x := .int .i64 r) (by rw [List.getElem?_map, hk]; rfl)
  injection e with e
  injection e with e _
  subst e
  exact hc
theorem II.insR_at {A R : List Int} {x : Int} {m : Nat} (hm : m < A.length) : (Mg.insSt A x (m + 1) R)[m]? = some (A.getD m 0) ∧ (Mg.insSt A x (m + 1) R)[m + 1]? = some x := by
  refine ⟨?_, Mg.insSt_at (by omega)⟩
  rw [Mg.insSt_before hm, List.getD_eq_getElem?_getD, List.getElem?_eq_getElem hm]; rfl
theorem II.insR_stepD {A R : List Int} {x y : Int} {m : Nat} (hm : m < A.length) (hy : A.getD m 0 = y) : ((Mg.insSt A x (m + 1) R).set m x).set (m + 1) y = Mg.insSt A x m R := by
  have e1 : A[m] = y := by rw [← hy, List.getD_eq_getElem?_getD, List.getElem?_eq_getElem hm]; rfl
  rw [← e1]; exact Mg.insSt_step hm
theorem II.getD_memI {l : List Int} {i : Nat} (h : i < l.length) : l.getD i 0 ∈ l := by
  rw [List.getD_eq_getElem?_getD, List.getElem?_eq_getElem h]; exact List.getElem_mem h
theorem II.take_snocR {zs : List Int} {i : Nat} (hi : i < zs.length) : zs.take i ++ [zs.getD i 0] = zs.take (i + 1) := by
  rw [List.take_add_one, List.getElem?_eq_getElem hi, List.getD_eq_getElem?_getD, List.getElem?_eq_getElem hi]
  rfl
end Go.Proofs.YtoebegdepnigbaaGreatDoor
namespace Go.Proofs.YtoebegdepnigbaaGreatDoor.II
open Go.RowKit Go.Sort
set_option linter.unusedVariables false

/-- A function value that compares ints by the order lt, where I holds; I passes on where block g alone is written. -/
def CmpIs (D : Int → Prop) (I : World → Prop) (g : Nat) (lt : Int → Int → Bool) (cv : Value) : Prop :=
  (∀ w w', I w → World.grownBy w w' (some g) → I w') ∧ ∃ G cp, cv = .func (.func G) #[] cp ∧ (∀ args w, (callFunc G args).run Tryz.prog w = .ok (.enter G args) w) ∧
    ∀ (r s : Int) (w : World), D r → D s → I w → Calls Tryz.prog G (#[.int .i64 r, .int .i64 s] ++ cp) w fun e w' => (∃ n : Int, e = .returned (.int .i64 n) ∧ (decide (n < 0) = lt r s)) ∧ Below w.heap.size w w'

set_option maxRecDepth 100000 in
set_option maxHeartbeats 4000000 in
theorem swapRange_any (B0 g c n : Nat) (pre A M B post : List (Int)) (m a b : Nat) (cv : Value) (w : World) (hA : A.length = m) (hB : B.length = m) (ha : pre.length = a) (hb : a + m + M.length = b) (hn : (pre ++ A ++ M ++ B ++ post).length = n) (hn2 : n ≤ 1000)
    (h : w.ownsRow B0 3 1 (.slice (some ⟨g, 0, none⟩) n c) n (flat encI (pre ++ A ++ M ++ B ++ post))) :
    Calls Tryz.prog 116 #[.slice (some ⟨g, 0, none⟩) n c, .int .i64 a, .int .i64 b, .int .i64 m, cv] w fun e w' => e = .returned (.tuple #[]) ∧
      w'.ownsRow B0 3 1 (.slice (some ⟨g, 0, none⟩) n c) n (flat encI (pre ++ B ++ M ++ A ++ post)) ∧ w.grownBy w' (some g) := by
  rw [← Mg.swSt_zero] at h
  have HE := Lib.hid (Mg.swSt_end (pre := pre) (M := M) (post := post) hA hB)
  have HO := Lib.hid h
  have hlen : a + m + M.length + m + post.length = n := by rw [← hn]; simp only [List.length_append]; omega
  have HLL : Hid (∀ k, k ≤ m → (Mg.swSt pre A M B post k).length = n) := fun k hk => by
    unfold Mg.swSt
    simp only [List.length_append, List.length_take, List.length_drop]
    omega
  have HSP := Lib.hid (fun k (h1 : k < A.length) (h2 : k < B.length) => Mg.swSt_step (pre := pre) (M := M) (post := post) h1 h2 ha (by omega : a + A.length + M.length = b))
  clear h hn
  go_enter Tryz.func116, Tryz.ntmps116
  go_wp2
  go_loopw [10] (fun v wr => ∃ k : Nat, v = .int .i64 k ∧ k ≤ m ∧ wr.ownsRow B0 3 1 (.slice (some ⟨g, 0, none⟩) n c) n (flat encI (Mg.swSt pre A M B post k)) ∧ w.grownBy wr (some g)) (fun v _ => m - (intOf v).toNat)
  case atStart => exact ⟨0, rfl, by omega, HO.out, grown_of_below (Below.refl w.heap.size w)⟩
  case round =>
    obtain ⟨k, rfl, hk, ho, hg⟩ := hrel
    have HO2 := Lib.hid ho; have HG2 := Lib.hid hg
    clear ho hg HO
    by_cases hlt : k < m
    case neg =>
      obtain rfl : k = m := by omega
      rw [HE.out] at HO2
      go_wp2
      go_end0
      exact ⟨rfl, HO2.out, HG2.out⟩
    obtain ⟨q1, q2, hs⟩ := HSP.out k (by omega) (by omega)
    have HS := Lib.hid hs; clear hs
    have c1 := rec_cells HO2.out q1
    have c2 := rec_cells HO2.out q2
    have HL1 := Lib.hid (HLL.out k hk)
    generalize A[k] = X at c1  HS
    generalize B[k] = Y at c2  HS
    generalize Mg.swSt pre A M B post k = rs at HO2 HL1 HS
    generalize hN : Mg.swSt pre A M B post (k + 1) = rs' at HS
    have HN := Lib.hid hN
    clear hN q1 q2 HSP HLL HE
    have t1 : ((a : Int) + (k : Int)).toNat = a + k := by omega
    have t2 : ((b : Int) + (k : Int)).toNat = b + k := by omega
    have b1 : (0 : Int) ≤ (a : Int) + (k : Int) := by omega
    have b2 : (a : Int) + (k : Int) < (n : Int) := by omega
    have b3 : (0 : Int) ≤ (b : Int) + (k : Int) := by omega
    have b4 : (b : Int) + (k : Int) < (n : Int) := by omega
    have w1 : IntKind.i64.wrap ((a : Int) + (k : Int)) = (a : Int) + (k : Int) := IntWalk.i64_in _ (by omega)
    have w2 : IntKind.i64.wrap ((b : Int) + (k : Int)) = (b : Int) + (k : Int) := IntWalk.i64_in _ (by omega)
    have p1 : a + k < n := by omega
    have p2 : b + k < n := by omega
    have HO3 : Hid (wr.drew.ownsRow B0 3 1 (.slice (some ⟨g, 0, none⟩) n c) n (flat encI rs)) := HO2.out
    have d1 : wr.drew.cell? ⟨g, (a + k), none⟩ = some (.int .i64 X) := c1
    have d2 : wr.drew.cell? ⟨g, (b + k), none⟩ = some (.int .i64 Y) := c2
    clear c1  c2 
    go_wp2_with fail
    have rf : ∀ o, wr.drew.frozen? ⟨g, o, none⟩ = false := fun o => HO3.out.frozenAt o
    have o1 := HO2.out.stored (a + k) (.int .i64 Y)
    have o2 := o1.1.stored (b + k) (.int .i64 X)
    have i1 : (wr.setCell ⟨g, a + k, none⟩ (.int .i64 Y)).drew.cell? ⟨g, b + k, none⟩ = some (.int .i64 Y) := (cell_far (by omega)).trans d2
    have f1 : ∀ o, (wr.setCell ⟨g, a + k, none⟩ (.int .i64 Y)).drew.frozen? ⟨g, o, none⟩ = false := fun o => o1.1.frozenAt o
    have h4 := o2.1
    rw [flat_set1, flat_set1, HS.out] at h4
    have HO9 := Lib.hid h4
    have HG9 := Lib.hid (grown_trans HG2.out (grown_trans o1.2 o2.2))
    clear o1 o2 h4
    go_region_law (fail)
    all_goals
      rw [← HN.out] at HO9
      generalize (wr.setCell ⟨g, a + k, none⟩ (.int .i64 Y)).setCell ⟨g, b + k, none⟩ (.int .i64 X) = w9 at HO9 HG9 ⊢
      clear i1 f1 rf d1  d2  HO3 HO2 t1 t2
      go_wp2
      go_roundw
      case rel => exact ⟨k + 1, by go_num, by omega, HO9.out, grown_trans HG9.out (grown_of_below (Below.refl w9.heap.size w9).drew)⟩
      case measure => simp [intOf] <;> omega

end Go.Proofs.YtoebegdepnigbaaGreatDoor.II

/- Walks: the library's insertion sort at ints, by the comparison of keys. -/
namespace Go.Proofs.YtoebegdepnigbaaGreatDoor.II
open Go.RowKit Go.Sort
set_option linter.unusedVariables false

/-- Insertion into an ascending list, by any order. -/
theorem insL_start {lt : Int → Int → Bool} {zs : List (Int)} {i : Nat} (hi : i < zs.length) : Mg.srt lt (zs.take i) ++ zs.drop i = Mg.insSt (Mg.srt lt (zs.take i)) (zs.getD i 0) i (zs.drop (i + 1)) := by
  have hl : (Mg.srt lt (zs.take i)).length = i := by rw [Mg.srt_length, List.length_take]; omega
  have h1 := Mg.insSt_top (Mg.srt lt (zs.take i)) (zs.getD i 0) (zs.drop (i + 1))
  rw [hl] at h1
  rw [h1, List.drop_eq_getElem_cons hi, List.getD_eq_getElem?_getD, List.getElem?_eq_getElem hi]
  rfl
theorem insL_end {lt : Int → Int → Bool} (S : Mg.SW lt) {l : List (Int)} {x : Int} {k : Nat} {R : List (Int)} (hk : k ≤ l.length) (hd : ∀ b ∈ (Mg.srt lt l).drop k, lt x b = true) (hs : 0 < k → lt x ((Mg.srt lt l).getD (k - 1) 0) = false) : Mg.insSt (Mg.srt lt l) x k R = Mg.srt lt (l ++ [x]) ++ R := by
  have hl : (Mg.srt lt l).length = l.length := Mg.srt_length l
  refine Mg.insSt_srt S (lt := lt) (by omega) hd (fun h0 => ?_)
  have h1 := hs h0
  rw [List.getD_eq_getElem?_getD, List.getElem?_eq_getElem (by omega)] at h1
  exact h1
theorem srtL_start (lt : Int → Int → Bool) (zs : List (Int)) : zs = Mg.srt lt (zs.take 1) ++ zs.drop 1 := by
  cases zs with
  | nil => rfl
  | cons a t => simp [Mg.srt_one]

theorem mid_at {α : Type} {pre L post : List α} {a k : Nat} {x : α} (ha : pre.length = a) (h : L[k]? = some x) : (pre ++ L ++ post)[a + k]? = some x := by
  have hk : k < L.length := (List.getElem?_eq_some_iff.1 h).1
  rw [List.append_assoc, List.getElem?_append_right (by omega), show a + k - pre.length = k by omega, List.getElem?_append_left hk]
  exact h
theorem mid_set {α : Type} {pre L post : List α} {a k : Nat} {x : α} (ha : pre.length = a) (hk : k < L.length) : (pre ++ L ++ post).set (a + k) x = pre ++ L.set k x ++ post := by
  rw [List.append_assoc, List.set_append, if_neg (by omega), show a + k - pre.length = k by omega, List.set_append, if_pos hk, List.append_assoc]

set_option maxRecDepth 100000 in
set_option maxHeartbeats 8000000 in
theorem insertionSort_any {D : Int → Prop} {I : World → Prop} {lt : Int → Int → Bool} (S : Mg.SW lt) {cv : Value} (B0 g c n : Nat) (pre L post : List (Int)) (a b : Nat) (w : World) (ha : pre.length = a) (hb : a + L.length = b) (hn : (pre ++ L ++ post).length = n) (hn2 : n ≤ 1000) (hD : ∀ x ∈ L, D x) (hI : I w) (HCV : CmpIs D I g lt cv)
    (h : w.ownsRow B0 3 1 (.slice (some ⟨g, 0, none⟩) n c) n (flat encI (pre ++ L ++ post))) :
    Calls Tryz.prog 79 #[.slice (some ⟨g, 0, none⟩) n c, .int .i64 a, .int .i64 b, cv] w fun e w' => e = .returned (.tuple #[]) ∧
      w'.ownsRow B0 3 1 (.slice (some ⟨g, 0, none⟩) n c) n (flat encI (pre ++ Mg.srt lt L ++ post)) ∧ w.grownBy w' (some g) := by
  have HS0 := Lib.hid (srtL_start lt L)
  have HDD := Lib.hid hD
  clear hD
  have HO := Lib.hid h
  have hbn : b + post.length = n := by rw [← hn]; simp only [List.length_append]; omega
  clear h hn
  have HLEN := Lib.hid ha
  obtain ⟨hIg, G, cp, rfl, hcall, hcmp⟩ := HCV
  have HCM := Lib.hid hcmp; have HIG := Lib.hid (fun w' => hIg w w' hI)
  clear hcmp hIg
  go_enter Tryz.func79, Tryz.ntmps79
  go_wp2
  go_loopw [8] (fun v wr => ∃ i : Nat, v = .int .i64 ((a : Int) + (i : Int)) ∧ 1 ≤ i ∧ (i ≤ L.length ∨ i = 1) ∧ wr.ownsRow B0 3 1 (.slice (some ⟨g, 0, none⟩) n c) n (flat encI (pre ++ (Mg.srt lt (L.take i) ++ L.drop i) ++ post)) ∧ w.grownBy wr (some g)) (fun v _ => a + L.length + 1 - (intOf v).toNat)
  case atStart => exact ⟨1, by go_num, by omega, .inr rfl, by rw [← HS0.out]; exact HO.out, grown_of_below (Below.refl w.heap.size w)⟩
  case round =>
    obtain ⟨i, rfl, hi1, hi2, hown, hg⟩ := hrel
    have HO2 := Lib.hid hown; have HG2 := Lib.hid hg
    clear hown hg HO
    by_cases hlt : i < L.length
    case neg =>
      have HO3 := Lib.hid (show wr.ownsRow B0 3 1 (.slice (some ⟨g, 0, none⟩) n c) n (flat encI (pre ++ Mg.srt lt L ++ post)) from by
        have := HO2.out
        rw [List.take_of_length_le (by omega), List.drop_of_length_le (by omega), List.append_nil] at this
        exact this)
      have h3 : decide ((a : Int) + (i : Int) < (b : Int)) = false := decide_eq_false (by omega)
      go_wp2
      go_end0
      exact ⟨rfl, HO3.out, HG2.out⟩
    have HI0 := Lib.hid (insL_start (lt := lt) hlt)
    have HAL : Hid ((Mg.srt lt (L.take i)).length = i) := by show _ = _; rw [Mg.srt_length, List.length_take]; omega
    have HEND := Lib.hid (fun (k : Nat) (hk : k ≤ i) (hd : ∀ b ∈ (Mg.srt lt (L.take i)).drop k, lt (L.getD i 0) b = true) (hs : 0 < k → lt (L.getD i 0) ((Mg.srt lt (L.take i)).getD (k - 1) 0) = false) =>
      (insL_end S (R := L.drop (i + 1)) (by rw [List.length_take]; omega) hd hs).trans (by rw [take_snocR hlt]))
    rw [HI0.out] at HO2
    clear HI0
    have HDA : Hid (∀ y ∈ Mg.srt lt (L.take i), D y) := fun y hy => HDD.out y (List.mem_of_mem_take (Mg.srt_mem.1 hy))
    have HDX : Hid (D (L.getD i 0)) := HDD.out _ (getD_memI hlt)
    generalize Mg.srt lt (L.take i) = A at HO2 HAL HEND HDA
    generalize L.getD i 0 = X at HO2 HEND HDX
    have HRL : Hid (∀ k, k ≤ i → (Mg.insSt A X k (L.drop (i + 1))).length = L.length) := fun k hk => by
      rw [Mg.insSt_len (by rw [HAL.out]; exact hk), HAL.out, List.length_drop]; omega
    generalize hR : L.drop (i + 1) = R at HO2 HEND HRL
    have HR := Lib.hid hR; clear hR
    have h3 : decide ((a : Int) + (i : Int) < (b : Int)) = true := decide_eq_true (by omega)
    have hile : (a : Int) + (i : Int) + 1 ≤ 9223372036854775807 := by omega
    obtain ⟨wo, rfl⟩ : ∃ wo : World, wo = wr := ⟨_, rfl⟩
    go_wp2
    go_loopw [9] (fun v wq => ∃ k : Nat, v = .int .i64 ((a : Int) + (k : Int)) ∧ k ≤ i ∧ wq.ownsRow B0 3 1 (.slice (some ⟨g, 0, none⟩) n c) n (flat encI (pre ++ Mg.insSt A X k R ++ post)) ∧ (∀ b ∈ A.drop k, lt X b = true) ∧ w.grownBy wq (some g)) (fun v _ => (intOf v).toNat)
    case atStart => exact ⟨i, rfl, by omega, HO2.out, by rw [List.drop_of_length_le (by rw [HAL.out]; omega)]; simp, HG2.out⟩
    case round =>
      obtain ⟨k, rfl, hk, ho, hd, hg⟩ := hrel
      have HO4 := Lib.hid ho; have HG4 := Lib.hid hg; have HD := Lib.hid hd
      clear ho hg hd HO2 HG2
      by_cases hk0 : 0 < k
      case neg =>
        obtain rfl : k = 0 := by omega
        have HE := Lib.hid (HEND.out 0 (by omega) HD.out (fun h => absurd h (by omega)))
        rw [HE.out] at HO4
        have h4 : decide ((a : Int) < (a : Int) + ((0 : Nat) : Int)) = false := decide_eq_false (by omega)
        rw [show (a : Int) + ((0 : Nat) : Int) = (a : Int) by omega]
        go_wp2_with fail
        go_quiet (fail)
        go_wp2
        go_roundw
        case rel => exact ⟨i + 1, by go_num, by omega, by omega, by rw [HR.out]; exact HO4.out, grown_trans HG4.out (grown_of_below (below_drewN (Below.refl _ _) _))⟩
        case measure => simp [intOf] <;> omega
      obtain ⟨m, rfl⟩ : ∃ m, k = m + 1 := ⟨k - 1, by omega⟩
      have hm : m < A.length := by rw [HAL.out]; omega
      obtain ⟨q1, q2⟩ := insR_at (R := R) (x := X) hm
      have c1 := rec_cells HO4.out (mid_at (post := post) ha q1)
      have c2 := rec_cells HO4.out (mid_at (post := post) ha q2)
      have HDR : Hid (A.drop m = A.getD m 0 :: A.drop (m + 1)) := by
        show _ = _
        rw [List.drop_eq_getElem_cons hm, List.getD_eq_getElem?_getD, List.getElem?_eq_getElem hm]; rfl
      have HST := Lib.hid (fun (y : Int) (hy : A.getD m 0 = y) => insR_stepD (R := R) (x := X) hm hy)
      have HE1 := Lib.hid (fun hs => HEND.out (m + 1) hk HD.out hs)
      have HL1 := Lib.hid (HRL.out (m + 1) hk)
      obtain ⟨Y, hY⟩ : ∃ Y, A.getD m 0 = Y := ⟨_, rfl⟩
      rw [hY] at c1  HDR
      have HY := Lib.hid hY
      have HDY : Hid (D Y) := by show D Y; rw [← hY]; exact HDA.out _ (getD_memI hm)
      clear hY hm q1 q2
      have HCK := Lib.hid (fun W hW => HCM.out X Y W HDX.out HDY.out (HIG.out W hW))
      have hcall := hcall (#[.int .i64 X, .int .i64 Y] ++ cp)
      have hcast : (a : Int) + ((m + 1 : Nat) : Int) = (a : Int) + (m : Int) + 1 := by omega
      have t0 : ((a : Int) + (m : Int)).toNat = a + m := by omega
      have t1 : ((a : Int) + (m : Int) + 1).toNat = a + (m + 1) := by omega
      have b0 : (0 : Int) ≤ (a : Int) + (m : Int) := by omega
      have b1 : (a : Int) + (m : Int) < (n : Int) := by omega
      have b2 : (a : Int) + (m : Int) + 1 < (n : Int) := by omega
      have b3 : (0 : Int) ≤ (a : Int) + (m : Int) + 1 := by omega
      have w1 : IntKind.i64.wrap ((a : Int) + (m : Int)) = (a : Int) + (m : Int) := IntWalk.i64_in _ (by omega)
      have h5 : decide ((a : Int) < (a : Int) + (m : Int) + 1) = true := decide_eq_true (by omega)
      rw [hcast]
      go_wp2_with fail
      go_still_tail 14, (by kernel_rfl)
      go_wp2_with fail
      refine (HCK.out _ (grown_trans HG4.out (grown_of_below (Below.refl _ _).drew))).mono ?_
      rintro e w5 ⟨⟨nn, rfl, hnn⟩, hbc⟩
      have hbw : Below wr.heap.size wr w5 := (Below.refl _ _).drew.trans hbc
      have HO5 := Lib.hid (own_below HO4.out (Nat.le_refl _) hbw)
      have HG5 := Lib.hid (grown_trans HG4.out (grown_of_below hbw))
      clear hbc hbw HO4 HG4 HCK c1  c2 
      cases hyx : lt X Y
      · have hz : decide (nn < 0) = false := by rw [hnn]; exact hyx
        have HE := Lib.hid (HE1.out (fun _ => by rw [Nat.add_sub_cancel, HY.out]; exact hyx))
        rw [HE.out] at HO5
        clear hnn
        go_wp2
        go_roundw
        case rel => exact ⟨i + 1, by go_num, by omega, by omega, by rw [HR.out]; exact HO5.out, HG5.out⟩
        case measure => simp [intOf] <;> omega
      · have hz : decide (nn < 0) = true := by rw [hnn]; exact hyx
        have HYX := Lib.hid hyx
        clear hnn hyx
        have hml : m + 1 < (Mg.insSt A X (m + 1) R).length := by rw [HL1.out]; omega
        have hq1 : (pre ++ Mg.insSt A X (m + 1) R ++ post).length = n := by simp only [List.length_append]; rw [HL1.out]; omega
        have hmA : m < A.length := by rw [HAL.out]; omega
        have hrs : ((pre ++ Mg.insSt A X (m + 1) R ++ post).set (a + (m + 1)) Y).set (a + m) X = pre ++ Mg.insSt A X m R ++ post := by
          rw [mid_set ha hml, mid_set ha (by rw [List.length_set]; omega), List.set_comm _ _ (by omega), HST.out _ HY.out]
        obtain ⟨g1, g2⟩ := insR_at (R := R) (x := X) hmA
        rw [HY.out] at g1
        have d1 := rec_cells HO5.out (mid_at (post := post) ha g1)
        have d2 := rec_cells HO5.out (mid_at (post := post) ha g2)
        have d1 : w5.drew.cell? ⟨g, (a + m), none⟩ = some (.int .i64 Y) := d1
        have d2 : w5.drew.cell? ⟨g, (a + (m + 1)), none⟩ = some (.int .i64 X) := d2
        have rf : ∀ o, w5.drew.frozen? ⟨g, o, none⟩ = false := fun o => HO5.out.frozenAt o
        have o1 := HO5.out.stored (a + (m + 1)) (.int .i64 Y)
        have o2 := o1.1.stored (a + m) (.int .i64 X)
        have i1 : (w5.setCell ⟨g, a + (m + 1), none⟩ (.int .i64 Y)).drew.cell? ⟨g, a + m, none⟩ = some (.int .i64 Y) := (cell_far (by omega)).trans d1
        have f1 : ∀ o, (w5.setCell ⟨g, a + (m + 1), none⟩ (.int .i64 Y)).drew.frozen? ⟨g, o, none⟩ = false := fun o => o1.1.frozenAt o
        have h4 := o2.1
        rw [flat_set1, flat_set1, hrs] at h4
        have HO9 := Lib.hid h4
        have HG9 := Lib.hid (grown_trans HG5.out (grown_trans o1.2 o2.2))
        clear o1 o2 h4 hrs hml hq1 hmA g1 g2 HST HE1 HEND HL1
        go_wp2_with fail
        go_region_law (fail)
        all_goals
          generalize (w5.setCell ⟨g, a + (m + 1), none⟩ (.int .i64 Y)).setCell ⟨g, a + m, none⟩ (.int .i64 X) = w9 at HO9 HG9 ⊢
          clear i1 f1 rf d1  d2  HO5
          go_wp2
          go_roundw
          case rel => exact ⟨m, by go_num, by omega, HO9.out, by
            rw [HDR.out]
            intro b hb
            rcases List.mem_cons.1 hb with rfl | hb
            · exact HYX.out
            · exact HD.out b hb, grown_trans HG9.out (grown_of_below (Below.refl w9.heap.size w9).drew)⟩
          case measure => simp [intOf] <;> omega

end Go.Proofs.YtoebegdepnigbaaGreatDoor.II
