/- Several texts in one: lemmas and walks of the functions that the law reaches. -/
import Derived.Test.YtcdfinkefahloaaY17
import Derived.Deep.RegionLaw

namespace Go.Proofs.Ytcdfinkefahloaa
open Go.RowKit Go.Sort
set_option linter.unusedVariables false

/-- Records that can be read behind a slice. -/
structure Rd (w : World) (a : Option Addr) (n c : Nat) (rs : List (Int × Int)) : Prop where
  recs : RecsAt w a rs
  len : rs.length = n
  nil : NilOk a c
  cap : n ≤ c
theorem Rd.below {w w' : World} {B : Nat} {a : Option Addr} {n c : Nat} {rs : List (Int × Int)} (h : Rd w a n c rs) (hB : w.heap.size ≤ B) (hb : Below B w w') : Rd w' a n c rs :=
  ⟨h.recs.below hB hb, h.len, h.nil, h.cap⟩
theorem Rd.same {w w' : World} {a : Option Addr} {n c : Nat} {rs : List (Int × Int)} (h : Rd w a n c rs) (hb : Below w.heap.size w w') : Rd w' a n c rs := h.below (Nat.le_refl _) hb
theorem own_cap {w : World} {B : Nat} {e : TypeId} {size n c : Nat} {a : Option Addr} {xs : List Value} (h : w.ownsRow B e size (.slice a n c) n xs) : n ≤ c := by
  rcases h.2 with ⟨hv, hm⟩ | ⟨g, cap, cur, hv, _, _, hn, _⟩
  · omega
  · injection hv with _ _ h3; omega
theorem rd_own {w : World} {B : Nat} {e : TypeId} {n c : Nat} {a : Option Addr} {rs : List (Int × Int)} (h : w.ownsRow B e 2 (.slice a n c) n (flat encR rs)) : Rd w a n c rs :=
  ⟨recs_of_own h, by have := h.1; rw [flat_length encR_len] at this; omega, nilOk_own h, own_cap h⟩
theorem rd_nil (w : World) : Rd w none 0 0 [] := ⟨.inl rfl, rfl, fun _ => rfl, Nat.le_refl _⟩
theorem rd_some (w : World) (x : Addr) (c : Nat) : Rd w (some x) 0 c [] := ⟨.inl rfl, rfl, nilOk_some _ _, Nat.zero_le _⟩

theorem okRecs_le {rs : List (Int × Int)} (h : okRecs rs = true) : rs.length ≤ 64 := by
  unfold okRecs at h
  simp at h
  exact h.1
theorem Rd.at {w : World} {a : Option Addr} {n c : Nat} {rs : List (Int × Int)} (h : Rd w a n c rs) {k : Nat} (hk : k < n) :
    ∃ b off, a = some ⟨b, off, none⟩ ∧ w.cell? ⟨b, off + k * 2, none⟩ = some (.int .i64 (rs.getD k (0, 0)).1) ∧ w.cell? ⟨b, off + k * 2 + 1, none⟩ = some (.int .i64 (rs.getD k (0, 0)).2) :=
  h.recs.at (by rw [h.len]; exact hk)

set_option maxRecDepth 100000 in
set_option maxHeartbeats 2000000 in
theorem vRecords_any (a b : Option Addr) (n m c d : Nat) (L R : List (Int × Int)) (w : World) (hn : n ≤ 9223372036854775807) (hm : m ≤ 9223372036854775807) (hL : Rd w a n c L) (hR : Rd w b m d R) :
    Calls Try.prog 8 #[.slice a n c, .slice b m d] w fun e w' => e = .returned (.bool (decide (L = R))) ∧ Below w.heap.size w w' := by
  have HL := Lib.hid hL; have HR := Lib.hid hR
  clear hL hR
  by_cases hnm : n = m
  case neg =>
    have q1 : ((n : Int) != (m : Int)) = true := by simp; omega
    have HE : Hid (decide (L = R) = false) := by
      show _ = _
      refine decide_eq_false fun h => hnm ?_
      rw [← HL.out.len, ← HR.out.len, h]
    go_enter Try.func8, Try.ntmps8
    go_wp2
    go_ret
    exact ⟨ret_bool HE.out.symm, Below.refl _ _⟩
  subst hnm
  have q1 : ((n : Int) != (n : Int)) = false := by simp
  go_enter Try.func8, Try.ntmps8
  go_wp2
  go_loopw [5] (fun v wr => ∃ k : Nat, v = .int .i64 k ∧ k ≤ n ∧ Hid (∀ j, j < k → L.getD j (0, 0) = R.getD j (0, 0)) ∧ Below w.heap.size w wr) (fun v _ => n - (intOf v).toNat)
  case atStart => exact ⟨0, rfl, by omega, Lib.hid (fun j h => by omega), Below.refl _ _⟩
  case round =>
    obtain ⟨k, rfl, hk, HALL, hb⟩ := hrel
    have HB := Lib.hid hb
    clear hb
    by_cases hlt : k < n
    case neg =>
      obtain rfl : k = n := by omega
      have HE : Hid (decide (L = R) = true) := by
        show _ = _
        refine decide_eq_true (List.ext_getElem (by rw [HL.out.len, HR.out.len]) fun j h1 h2 => ?_)
        have := HALL.out j (by rw [← HL.out.len]; exact h1)
        rwa [getD_get h1, getD_get h2] at this
      have h3 : decide ((k : Int) < (k : Int)) = false := by simp
      go_wp2
      go_ret
      exact ⟨ret_bool HE.out.symm, HB.out⟩
    obtain ⟨x, o, rfl, c1, c1'⟩ := (HL.out.same HB.out).at hlt
    obtain ⟨y, p, rfl, c2, c2'⟩ := (HR.out.same HB.out).at hlt
    obtain ⟨X, hX⟩ : ∃ X, L.getD k (0, 0) = X := ⟨_, rfl⟩
    obtain ⟨Y, hY⟩ : ∃ Y, R.getD k (0, 0) = Y := ⟨_, rfl⟩
    rw [hX] at c1 c1'
    rw [hY] at c2 c2'
    have HX := Lib.hid hX; have HY := Lib.hid hY
    clear hX hY
    obtain ⟨X1, X2⟩ := X
    obtain ⟨Y1, Y2⟩ := Y
    have h3 : decide ((k : Int) < (n : Int)) = true := decide_eq_true (by omega)
    by_cases hxy : X1 = Y1 ∧ X2 = Y2
    · obtain ⟨rfl, rfl⟩ := hxy
      go_wp2_with fail
      go_quiet (fail)
      go_wp2
      go_roundw
      case rel => exact ⟨k + 1, by go_num, by omega, Lib.hid (fun j hj => by
        rcases Nat.lt_or_ge j k with h | h
        · exact HALL.out j h
        · obtain rfl : j = k := by omega
          rw [HX.out, HY.out]), below_drewN HB.out _⟩
      case measure => simp [intOf] <;> omega
    · have HE : Hid (decide (L = R) = false) := by
        show _ = _
        refine decide_eq_false fun h => hxy ?_
        have := HX.out
        rw [h, HY.out] at this
        injection this with h1 h2
        exact ⟨h1.symm, h2.symm⟩
      by_cases q1 : X1 = Y1
      · subst q1
        have q2 : (X2 == Y2) = false := by simpa using hxy
        clear hxy
        go_wp2_with fail
        go_quiet (fail)
        go_wp2
        go_ret
        exact ⟨ret_bool HE.out.symm, below_drewN HB.out _⟩
      · have q2 : (X1 == Y1) = false := by simpa using q1
        clear hxy q1
        go_wp2_with fail
        go_quiet (fail)
        go_wp2
        go_ret
        exact ⟨ret_bool HE.out.symm, below_drewN HB.out _⟩

end Go.Proofs.Ytcdfinkefahloaa

namespace Go.Proofs.Ytcdfinkefahloaa
open Go.RowKit Go.Sort
set_option linter.unusedVariables false

/-- Values of one cell each, behind a slice that can be read. -/
def ValsAt (w : World) (a : Option Addr) (vs : List Value) : Prop := vs = [] ∨ ∃ b off, a = some ⟨b, off, none⟩ ∧ b < w.heap.size ∧ ∀ j v, vs[j]? = some v → w.cell? ⟨b, off + j, none⟩ = some v
theorem ValsAt.below {w w' : World} {B : Nat} {a : Option Addr} {vs : List Value} (h : ValsAt w a vs) (hB : w.heap.size ≤ B) (hb : Below B w w') : ValsAt w' a vs := by
  rcases h with h | ⟨b, off, e, h1, h2⟩
  · exact .inl h
  · exact .inr ⟨b, off, e, Nat.lt_of_lt_of_le h1 hb.size, fun j v hj => (hb.cell (p := ⟨b, off + j, none⟩) (by show b < B; omega)).trans (h2 j v hj)⟩
theorem ValsAt.same {w w' : World} {a : Option Addr} {vs : List Value} (h : ValsAt w a vs) (hb : Below w.heap.size w w') : ValsAt w' a vs := h.below (Nat.le_refl _) hb
theorem ValsAt.at {w : World} {a : Option Addr} {vs : List Value} (h : ValsAt w a vs) {k : Nat} {v : Value} (hk : vs[k]? = some v) : ∃ b off, a = some ⟨b, off, none⟩ ∧ w.cell? ⟨b, off + k, none⟩ = some v := by
  rcases h with h | ⟨b, off, e, h1, h2⟩
  · subst h; simp at hk
  · exact ⟨b, off, e, h2 k v hk⟩
theorem vals_own {w : World} {B : Nat} {e : TypeId} {a : Option Addr} {n c : Nat} {vs : List Value} (h : w.ownsRow B e 1 (.slice a n c) n vs) : ValsAt w a vs := by
  rcases List.eq_nil_or_concat vs with rfl | ⟨l, x, hl⟩
  · exact .inl rfl
  · have hlen : 0 < vs.length := by rw [hl]; simp
    obtain ⟨g, rfl, _, hg, _⟩ := own_at h (List.getElem?_eq_getElem hlen)
    refine .inr ⟨g, 0, rfl, (h.lt g rfl).2, fun j v hj => ?_⟩
    obtain ⟨g', e', hc, _⟩ := own_at h hj
    injection e' with e'
    injection e' with e' _
    subst e'
    rw [Nat.zero_add]; exact hc

/-- 'append(s, u...)', u values that can be read. -/
theorem wpList_appV {P : Program} {w : World} {ops : Array Oper} {rest : List Oper} {o : Oper} {a : Act} {Q : Exit → Act → World → Prop} {t e : TypeId} {z : Value} {bytes : Nat} (T : SlT P t e z 1 bytes)
    (hgd : o.guard = none) (s y : Operand) (ho : o.op = .call { callee := .builtin .append, args := #[s, y], argTypes := #[t, t] })
    {base : Nat} {v : Value} {n m c : Nat} {xs vs : List Value} {x : Option Addr} (hs : a.eval s = v) (hown : w.ownsRow base e 1 v n xs) (hy : a.eval y = .slice x m c) (hu : ValsAt w x vs) (hm : vs.length = m) (hx : NilOk x c) (h1 : ∀ u ∈ vs, u.oneCell' = true)
    (hsmall : n + m ≤ 1099511627776) (hbase : base ≤ w.heap.size)
    (h : ∀ v' w', w'.ownsRow base e 1 v' (n + m) (xs ++ vs) → w.grownBy w' v.ownBlock → (v'.ownBlock = v.ownBlock ∨ v'.ownBlock = some w.heap.size) → wpList P ops Q rest (a.put o.dst v') w') :
    wpList P ops Q (o :: rest) a w := by
  cases x with
  | none =>
    have hr : vs = [] := by
      rcases hu with h | ⟨_, _, e, _⟩
      · exact h
      · cases e
    subst hr
    obtain rfl : c = 0 := hx rfl
    obtain rfl : m = 0 := hm.symm
    obtain ⟨i, hi, hz, hsz, hby⟩ := T.info
    refine wpList_append_own_none hgd s y t ho base e i 1 T.und hi v n xs hs hown hy ?_
    refine h v w (by simpa using hown) ⟨rfl, rfl, rfl, Nat.le_refl _, fun _ _ _ => rfl⟩ (.inl rfl)
  | some p =>
    refine wpList_plain hgd fun K hK => ?_
    obtain ⟨v', w', hr, h2, h3, h4⟩ := run_app_tag (P := P) w T base o.type v n xs hown p m c vs (by omega) (fun j u hj => by
      rcases hu with h | ⟨b, off, e, _, h2⟩
      · subst h; simp at hj
      · injection e with e
        subst e
        rw [show (⟨b, off, none⟩ : Addr).add j = ⟨b, off + j, none⟩ by unfold Addr.add; split <;> simp_all]
        exact h2 j u hj) h1 hsmall hbase
    unfold Oper.wp execOp
    simp only [ho, resolve, invoke, builtin, Sem.run_bind, Sem.run_pure, Result.andThen_ok, List.map_toArray, List.map_cons, List.map_nil, hs, hy, hr]
    exact hK _ _ (h v' w' h2 h3 h4)

theorem Try.infoBoolE : (Try.prog.info? 4).map (fun i => (i.zero, i.size, i.bytes)) = some (some (.bool false), 1, 1) := by kernel_rfl
theorem slBoolE : SlT Try.prog 71 4 (.bool false) 1 1 := ⟨Try.underlying71, info_parts Try.infoBoolE, rfl, by decide, by decide⟩

abbrev ints (l : List Int) : List Value := l.map (Value.int .i64)
abbrev bools (l : List Bool) : List Value := l.map Value.bool
theorem ints_at {l : List Int} {k : Nat} (h : k < l.length) : (ints l)[k]? = some (.int .i64 (l.getD k 0)) := by
  rw [List.getElem?_map, List.getElem?_eq_getElem h, List.getD_eq_getElem?_getD, List.getElem?_eq_getElem h]; rfl
theorem bools_at {l : List Bool} {k : Nat} (h : k < l.length) : (bools l)[k]? = some (.bool (l.getD k false)) := by
  rw [List.getElem?_map, List.getElem?_eq_getElem h, List.getD_eq_getElem?_getD, List.getElem?_eq_getElem h]; rfl
theorem ints_one' {l : List Int} : ∀ u ∈ ints l, u.oneCell' = true := by
  intro u hu; obtain ⟨x, _, rfl⟩ := List.mem_map.1 hu; rfl
theorem bools_one' {l : List Bool} : ∀ u ∈ bools l, u.oneCell' = true := by
  intro u hu; obtain ⟨x, _, rfl⟩ := List.mem_map.1 hu; rfl

/-- A row of the call's own, given back. -/
def OwnV (e : TypeId) (w : World) (vs : List Value) (n : Nat) (r : Ending) (w' : World) : Prop :=
  ∃ (g c : Nat), r = .returned (.slice (some ⟨g, 0, none⟩) n c) ∧ w'.ownsRow w.heap.size e 1 (.slice (some ⟨g, 0, none⟩) n c) n vs ∧ Below w.heap.size w w'

set_option maxRecDepth 100000 in
set_option maxHeartbeats 2000000 in
theorem copyOfI_any (a : Option Addr) (n c : Nat) (l : List Int) (w : World) (hlen : n ≤ 1000) (hl : l.length = n) (h : ValsAt w a (ints l)) (hx : NilOk a c) :
    Calls Try.prog 56 #[.slice a n c] w (OwnV 3 w (ints l) n) := by
  have E0 := Lib.hid (own_lit (w := w) (e := 3) (size := 1) #[] 0 (by omega) rfl)
  have HB := Lib.hid (show Below w.heap.size w (w.alloc (.cells #[] 3)) from (Below.refl _ _).alloc (Nat.le_refl _) _)
  have HU := Lib.hid (h.same HB.out)
  have HX := Lib.hid hx
  have HL := Lib.hid (show (ints l).length = n by simpa using hl)
  have hle : w.heap.size ≤ (w.alloc (.cells #[] 3)).heap.size := by simp
  have HLE := Lib.hid hle
  clear h hx hle hl
  unfold OwnV
  go_enter Try.func56, Try.ntmps56
  go_wp2_with (at_builtin; refine wpList_appV (v := .slice (some ⟨w.heap.size, 0, none⟩) 0 0) slInt rfl _ _ rfl rfl E0.out rfl HU.out HL.out HX.out ints_one' (by omega) HLE.out ?_; intro v' w2 hown2 hg2 ht2; rw [Nat.zero_add] at hown2; obtain ⟨a', c, rfl⟩ := own_slice hown2; have HO := Lib.hid hown2; have HG := Lib.hid hg2; have HT := Lib.hid ht2; clear hown2 hg2 ht2)
  go_wp2
  go_ret
  obtain ⟨g, rfl, _, _⟩ := own_addr HO.out (by
    rcases HT.out with h | h
    · rw [h]; simp [Value.ownBlock]
    · rw [h]; simp)
  exact ⟨g, c, rfl, HO.out, HB.out.grown HG.out (by simp) (fun k hk => by simp [Value.ownBlock] at hk; omega)⟩

set_option maxRecDepth 100000 in
set_option maxHeartbeats 2000000 in
theorem copyOfB_any (a : Option Addr) (n c : Nat) (l : List Bool) (w : World) (hlen : n ≤ 1000) (hl : l.length = n) (h : ValsAt w a (bools l)) (hx : NilOk a c) :
    Calls Try.prog 57 #[.slice a n c] w (OwnV 4 w (bools l) n) := by
  have E0 := Lib.hid (own_lit (w := w) (e := 4) (size := 1) #[] 0 (by omega) rfl)
  have HB := Lib.hid (show Below w.heap.size w (w.alloc (.cells #[] 4)) from (Below.refl _ _).alloc (Nat.le_refl _) _)
  have HU := Lib.hid (h.same HB.out)
  have HX := Lib.hid hx
  have HL := Lib.hid (show (bools l).length = n by simpa using hl)
  have hle : w.heap.size ≤ (w.alloc (.cells #[] 4)).heap.size := by simp
  have HLE := Lib.hid hle
  clear h hx hle hl
  unfold OwnV
  go_enter Try.func57, Try.ntmps57
  go_wp2_with (at_builtin; refine wpList_appV (v := .slice (some ⟨w.heap.size, 0, none⟩) 0 0) slBoolE rfl _ _ rfl rfl E0.out rfl HU.out HL.out HX.out bools_one' (by omega) HLE.out ?_; intro v' w2 hown2 hg2 ht2; rw [Nat.zero_add] at hown2; obtain ⟨a', c, rfl⟩ := own_slice hown2; have HO := Lib.hid hown2; have HG := Lib.hid hg2; have HT := Lib.hid ht2; clear hown2 hg2 ht2)
  go_wp2
  go_ret
  obtain ⟨g, rfl, _, _⟩ := own_addr HO.out (by
    rcases HT.out with h | h
    · rw [h]; simp [Value.ownBlock]
    · rw [h]; simp)
  exact ⟨g, c, rfl, HO.out, HB.out.grown HG.out (by simp) (fun k hk => by simp [Value.ownBlock] at hk; omega)⟩

theorem beats_val (ks : List Int) (ds : List Bool) (i m : Nat) (d1 d2 : Bool) (x y : Int) (h1 : ds.getD i false = d1) (h2 : ds.getD m false = d2) (h3 : ks.getD i 0 = x) (h4 : ks.getD m 0 = y) :
    Mg.beats ks ds i m = if d1 != d2 then d2 else decide (x < y) || (decide (x = y) && decide (i < m)) := by
  unfold Mg.beats; rw [h1, h2, h3, h4]

set_option maxRecDepth 100000 in
set_option maxHeartbeats 4000000 in
theorem beats_any (t : Nat) (ka da : Option Addr) (k kc dc : Nat) (ks : List Int) (ds : List Bool) (i m : Nat) (w : World) (hk : k ≤ 1000) (hi : i < k) (hm : m < k) (hks : ks.length = k) (hds : ds.length = k)
    (c0 : w.cell? ⟨t, 0, none⟩ = some (.slice ka k kc)) (c1 : w.cell? ⟨t, 1, none⟩ = some (.slice da k dc)) (hK : ValsAt w ka (ints ks)) (hD : ValsAt w da (bools ds)) :
    Calls Try.prog 65 #[.pointer (some ⟨t, 0, none⟩), .int .i64 i, .int .i64 m] w fun e w' => e = .returned (.bool (Mg.beats ks ds i m)) ∧ Below w.heap.size w w' := by
  obtain ⟨kb, ko, rfl, k1⟩ := hK.at (ints_at (show i < ks.length by omega))
  obtain ⟨kb', ko', e, k2⟩ := hK.at (ints_at (show m < ks.length by omega))
  injection e with e
  injection e with e1 e2
  subst e1 e2
  obtain ⟨db, d_o, rfl, d1⟩ := hD.at (bools_at (show i < ds.length by omega))
  obtain ⟨db', do', e, d2⟩ := hD.at (bools_at (show m < ds.length by omega))
  injection e with e
  injection e with e1 e2
  subst e1 e2
  obtain ⟨x, hx⟩ : ∃ x, ks.getD i 0 = x := ⟨_, rfl⟩
  obtain ⟨y, hy⟩ : ∃ y, ks.getD m 0 = y := ⟨_, rfl⟩
  obtain ⟨p, hp⟩ : ∃ p, ds.getD i false = p := ⟨_, rfl⟩
  obtain ⟨q, hq⟩ : ∃ q, ds.getD m false = q := ⟨_, rfl⟩
  have HV := Lib.hid (beats_val ks ds i m p q x y hp hq hx hy)
  rw [hx] at k1; rw [hy] at k2; rw [hp] at d1; rw [hq] at d2
  clear hx hy hp hq hK hD
  have b1 : (0 : Int) ≤ (i : Int) := by omega
  have b2 : (i : Int) < (k : Int) := by omega
  have b3 : (0 : Int) ≤ (m : Int) := by omega
  have b4 : (m : Int) < (k : Int) := by omega
  have t1 : ((i : Int)).toNat = i := by omega
  have t2 : ((m : Int)).toNat = m := by omega
  by_cases hpq : p = q
  · subst hpq
    have q1 : (p != p) = false := by simp
    rw [q1] at HV
    rcases Int.lt_trichotomy x y with h | h | h
    · have z1 : decide (x < y) = true := decide_eq_true h
      rw [z1] at HV
      clear h
      go_enter Try.func65, Try.ntmps65
      go_wp2_with fail
      go_quiet (fail)
      go_wp2_with fail
      go_quiet (fail)
      go_wp2
      go_ret
      exact ⟨ret_bool HV.out.symm, below_drewN (below_drewN (Below.refl _ _) _) _⟩
    · subst h
      have z1 : decide (x < x) = false := by simp
      have z2 : (x == x) = true := by simp
      rw [z1, decide_eq_true rfl] at HV
      go_enter Try.func65, Try.ntmps65
      go_wp2_with fail
      go_quiet (fail)
      go_wp2_with fail
      go_quiet (fail)
      go_wp2
      go_ret
      exact ⟨ret_bool (by rw [HV.out]; simp), below_drewN (below_drewN (Below.refl _ _) _) _⟩
    · have z1 : decide (x < y) = false := decide_eq_false (by omega)
      have z2 : (x == y) = false := by rw [beq_eq_false_iff_ne]; omega
      rw [z1, decide_eq_false (show ¬ x = y by omega)] at HV
      clear h
      go_enter Try.func65, Try.ntmps65
      go_wp2_with fail
      go_quiet (fail)
      go_wp2_with fail
      go_quiet (fail)
      go_wp2
      go_ret
      exact ⟨ret_bool HV.out.symm, below_drewN (below_drewN (Below.refl _ _) _) _⟩
  · cases p <;> cases q
    all_goals first | exact absurd rfl hpq | skip
    all_goals
      clear hpq
      go_enter Try.func65, Try.ntmps65
      go_wp2_with fail
      go_quiet (fail)
      go_wp2
      go_ret
      exact ⟨ret_bool (by rw [HV.out]; rfl), below_drewN (Below.refl _ _) _⟩

end Go.Proofs.Ytcdfinkefahloaa

namespace Go.Proofs.Ytcdfinkefahloaa
open Go.RowKit Go.Sort
set_option linter.unusedVariables false
theorem grown_cellE {w w' : World} {row : Option Nat} {b o : Nat} (hg : w.grownBy w' row) (hb : b < w.heap.size) (hne : row ≠ some b) : w'.cell? ⟨b, o, none⟩ = w.cell? ⟨b, o, none⟩ := by
  have := hg.block b hb (Ne.symm hne)
  simp only [World.cell?, this]
theorem ValsAt.grown {w w' : World} {row : Option Nat} {a : Option Addr} {vs : List Value} (h : ValsAt w a vs) (hg : w.grownBy w' row) (hne : ∀ b off, a = some ⟨b, off, none⟩ → row ≠ some b) : ValsAt w' a vs := by
  rcases h with h | ⟨b, off, e, h1, h2⟩
  · exact .inl h
  · exact .inr ⟨b, off, e, Nat.lt_of_lt_of_le h1 hg.size, fun j v hj => (grown_cellE hg h1 (hne b off e)).trans (h2 j v hj)⟩

/-- The tree's block while it is played; nothing else of the old is written. -/
structure Pl (w wr : World) (t : Nat) (kv dv lv wv : Value) : Prop where
  row : wr.ownsRow t 74 4 (.slice (some ⟨t, 0, none⟩) 1 1) 1 [kv, dv, lv, wv]
  g : w.grownBy wr (some t)
theorem Pl.next {w wr wq : World} {t : Nat} {kv dv lv wv : Value} {row : Option Nat} (h : Pl w wr t kv dv lv wv) (hg : wr.grownBy wq row) (hne : row ≠ some t) (hnew : ∀ b, row = some b → w.heap.size ≤ b) : Pl w wq t kv dv lv wv := by
  refine ⟨own_other h.row hg (fun k hk e => ?_), hg.os.trans h.g.os, hg.tape.trans h.g.tape, hg.output.trans h.g.output, Nat.le_trans h.g.size hg.size, fun q hq hqn => ?_⟩
  · simp [Value.ownBlock] at hk; subst hk; exact hne e
  · refine (hg.block q (Nat.lt_of_lt_of_le hq h.g.size) (fun e => ?_)).trans (h.g.block q hq hqn)
    have := hnew q e.symm
    omega
theorem Pl.below {w wr wq : World} {t : Nat} {kv dv lv wv : Value} (h : Pl w wr t kv dv lv wv) (hb : Below wr.heap.size wr wq) : Pl w wq t kv dv lv wv := h.next (row := none) (grown_of_below hb) (by simp) (by intro b e; cases e)
theorem Pl.lose {w wr : World} {t : Nat} {kv dv lv wv : Value} (h : Pl w wr t kv dv lv wv) (v : Value) : Pl w (wr.setCell ⟨t, 2, none⟩ v) t kv dv v wv :=
  ⟨(h.row.stored 2 v).1, grown_trans h.g (h.row.stored 2 v).2⟩
theorem Pl.wins {w wr : World} {t : Nat} {kv dv lv wv : Value} (h : Pl w wr t kv dv lv wv) (v : Value) : Pl w (wr.setCell ⟨t, 3, none⟩ v) t kv dv lv v :=
  ⟨(h.row.stored 3 v).1, grown_trans h.g (h.row.stored 3 v).2⟩
theorem Pl.cells {w wr : World} {t : Nat} {kv dv lv wv : Value} (h : Pl w wr t kv dv lv wv) : wr.cell? ⟨t, 0, none⟩ = some kv ∧ wr.cell? ⟨t, 1, none⟩ = some dv ∧ wr.cell? ⟨t, 2, none⟩ = some lv ∧ wr.cell? ⟨t, 3, none⟩ = some wv :=
  ⟨h.row.cellAt 0 (by omega), h.row.cellAt 1 (by omega), h.row.cellAt 2 (by omega), h.row.cellAt 3 (by omega)⟩

theorem ints_set (l : List Int) (k : Nat) (x : Int) : (ints l).set k (.int .i64 x) = ints (l.set k x) := List.map_set.symm
theorem made_ints {w : World} {B : Nat} {v : Value} {n : Nat} (h : w.ownsRow B 3 1 v n (madeCells #[.int .i64 0] n).toList) : w.ownsRow B 3 1 v n (ints (List.replicate n 0)) := by
  rw [show ints (List.replicate n 0) = List.replicate n (.int .i64 0) by simp [ints], ← toList_madeCells_one]
  exact h
theorem getD_setE {l : List Int} {i j : Nat} {x : Int} (hi : i < l.length) : (l.set i x).getD j 0 = if i = j then x else l.getD j 0 := by
  simp only [List.getD_eq_getElem?_getD, List.getElem?_set, if_pos hi]
  split
  · rfl
  · rfl

set_option maxRecDepth 100000 in
set_option maxHeartbeats 8000000 in
theorem play_any (t : Nat) (ka da : Option Addr) (k kc dc : Nat) (lv wv : Value) (ks : List Int) (ds : List Bool) (w : World) (hk0 : 0 < k) (hk : k ≤ 100) (hks : ks.length = k) (hds : ds.length = k) (ht : t < w.heap.size)
    (hP : Pl w w t (.slice ka k kc) (.slice da k dc) lv wv) (hK : ValsAt w ka (ints ks)) (hD : ValsAt w da (bools ds)) (hkt : ∀ b off, ka = some ⟨b, off, none⟩ → b ≠ t) (hdt : ∀ b off, da = some ⟨b, off, none⟩ → b ≠ t) :
    Calls Try.prog 58 #[.pointer (some ⟨t, 0, none⟩)] w fun e w' => e = .returned (.tuple #[]) ∧ ∃ (win : Nat) (lv' : Value), lv'.oneCell' = true ∧ Mg.Win ks ds k win ∧ Pl w w' t (.slice ka k kc) (.slice da k dc) lv' (.int .i64 win) := by
  have HK := Lib.hid hK; have HD := Lib.hid hD; have HKT := Lib.hid hkt; have HDT := Lib.hid hdt
  obtain ⟨c0, c1, c2, c3⟩ := hP.cells
  have HP := Lib.hid hP
  clear hP hK hD hkt hdt
  go_enter Try.func58, Try.ntmps58
  go_wp2_with (at_make; refine wpList_mk slInt rfl _ _ rfl (2 * k) (by first | rfl | (show Value.int .i64 (2 * (k : Int)) = _; rw [show (2 : Int) * (k : Int) = ((2 * k : Nat) : Int) by omega])) (by first | rfl | (show Value.int .i64 (2 * (k : Int)) = _; rw [show (2 : Int) * (k : Int) = ((2 * k : Nat) : Int) by omega])) (by omega) ?_)
  intro w1 hown hb hsz
  have HO1 : Hid (∃ ws : List Int, ws.length = 2 * k ∧ w1.ownsRow w.heap.size 3 1 (.slice (some ⟨w.heap.size, 0, none⟩) (2 * k) (2 * k)) (2 * k) (ints ws)) := by
    exact ⟨List.replicate (2 * k) 0, by simp, made_ints (by simpa [Value.cells] using hown)⟩
  have HP1 := Lib.hid (HP.out.below hb)
  clear hown hb HP c0 c1 c2 c3
  go_wp2
  go_loopw [17] (fun v wr => ∃ (i : Nat) (ws : List Int), v = .int .i64 i ∧ i ≤ k ∧ ws.length = 2 * k ∧ wr.ownsRow w.heap.size 3 1 (.slice (some ⟨w.heap.size, 0, none⟩) (2 * k) (2 * k)) (2 * k) (ints ws) ∧ Hid (∀ j, j < i → ws.getD (k + j) 0 = (j : Int)) ∧ Pl w wr t (.slice ka k kc) (.slice da k dc) lv wv) (fun v _ => k - (intOf v).toNat)
  case atStart =>
    obtain ⟨ws, h1, h2⟩ := HO1.out
    exact ⟨0, ws, rfl, by omega, h1, h2, Lib.hid (fun j hj => by omega), HP1.out⟩
  case round =>
    obtain ⟨i, ws, rfl, hi, hws, ho, HALL, hp⟩ := hrel
    have HO := Lib.hid ho; have HPr := Lib.hid hp
    clear ho hp HO1 HP1
    by_cases hlt : i < k
    · have q1 : decide ((i : Int) < (k : Int)) = true := decide_eq_true (by omega)
      have hki : k + i < ws.length := by omega
      have hfz := HO.out.frozenAt (k + i)
      have hc := HO.out.cellAt (k + i) (by omega)
      rw [ints_at hki] at hc
      have t1 : ((k : Int) + (i : Int)).toNat = k + i := by omega
      have b1 : (0 : Int) ≤ (k : Int) + (i : Int) := by omega
      have b2 : (k : Int) + (i : Int) < 2 * (k : Int) := by omega
      have hst := HO.out.stored (k + i) (.int .i64 i)
      rw [ints_set] at hst
      have HS := Lib.hid hst.1
      have HP2 := Lib.hid (HPr.out.next hst.2 (by intro e; injection e with e; omega) (by intro b e; injection e with e; omega))
      clear hst
      go_wp2
      go_roundw
      case rel => exact ⟨i + 1, _, by go_num, by omega, by rw [List.length_set]; exact hws, HS.out, Lib.hid (fun j hj => by
        rw [getD_setE hki]
        split
        · omega
        · exact HALL.out j (by omega)), HP2.out⟩
      case measure => simp [intOf] <;> omega
    obtain rfl : i = k := by omega
    have q1 : decide ((i : Int) < (i : Int)) = false := by simp
    go_wp2_with (at_make; refine wpList_mk slInt rfl _ _ rfl i rfl rfl (by omega) ?_)
    intro w2 hown hb hsz
    have HL2 : Hid (∃ ls : List Int, ls.length = i ∧ w2.ownsRow w.heap.size 3 1 (.slice (some ⟨wr.heap.size, 0, none⟩) i i) i (ints ls)) := by
      exact ⟨List.replicate i 0, by simp, own_mono (made_ints (by simpa [Value.cells] using hown)) HPr.out.g.size⟩
    have hgw := (HO.out.lt w.heap.size rfl).2
    have HO2 := Lib.hid (own_below HO.out (Nat.le_refl _) hb)
    have HP2 := Lib.hid (HPr.out.below hb)
    have hfz := HP2.out.row.frozenAt 2
    obtain ⟨c0, c1, c2, c3⟩ := HP2.out.cells
    have HP3 := Lib.hid (HP2.out.lose (.slice (some ⟨wr.heap.size, 0, none⟩) i i))
    clear hown hb HO HPr
    have hgl : w.heap.size < wr.heap.size := hgw
    obtain ⟨wl, hwl⟩ : ∃ wl : World, wl = wr := ⟨_, rfl⟩
    rw [← hwl] at HP3 HL2 hgl ⊢
    have HO3 := Lib.hid (own_other HO2.out (HP2.out.row.stored 2 (.slice (some ⟨wr.heap.size, 0, none⟩) i i)).2 (fun k hk e => by simp [Value.ownBlock] at hk; injection e with e; omega))
    have HL3 : Hid (∃ ls : List Int, ls.length = i ∧ (w2.setCell ⟨t, 2, none⟩ (.slice (some ⟨wl.heap.size, 0, none⟩) i i)).ownsRow w.heap.size 3 1 (.slice (some ⟨wl.heap.size, 0, none⟩) i i) i (ints ls)) := by
      obtain ⟨ls, h1, h2⟩ := HL2.out
      exact ⟨ls, h1, own_other h2 (HP2.out.row.stored 2 (.slice (some ⟨wl.heap.size, 0, none⟩) i i)).2 (fun k hk e => by simp [Value.ownBlock] at hk; injection e with e; omega)⟩
    rw [← hwl] at HO3
    clear hwl
    go_wp2
    clear HO2 HL2 HP2 hfz c0 c1 c2 c3
    go_loopw [5] (fun v wq => ∃ (j : Nat) (ws ls : List Int), v = .int .i64 j ∧ j < i ∧ ws.length = 2 * i ∧ ls.length = i ∧ wq.ownsRow w.heap.size 3 1 (.slice (some ⟨w.heap.size, 0, none⟩) (2 * i) (2 * i)) (2 * i) (ints ws) ∧ wq.ownsRow w.heap.size 3 1 (.slice (some ⟨wl.heap.size, 0, none⟩) i i) i (ints ls) ∧ Hid (∀ p, j < p → p < 2 * i → ∃ v : Nat, ws.getD p 0 = (v : Int) ∧ Mg.NodeWin ks ds i p v) ∧ Pl w wq t (.slice ka i kc) (.slice da i dc) (.slice (some ⟨wl.heap.size, 0, none⟩) i i) wv) (fun v _ => (intOf v).toNat)
    case atStart =>
      obtain ⟨ls, h1, h2⟩ := HL3.out
      exact ⟨i - 1, ws, ls, by go_num, by omega, hws, h1, HO3.out, h2, Lib.hid (fun p h3 h4 => ⟨p - i, by rw [← HALL.out (p - i) (by omega)]; congr 1; omega, by
        have := Mg.node_leaf ks ds (k := i) (i := p - i) (by omega)
        rwa [show i + (p - i) = p by omega] at this⟩), HP3.out⟩
    case round =>
      clear HALL HO3 HL3 HP3 hws
      obtain ⟨j, ws, ls, rfl, hj, hws, hls, ho, hl, HALL, hp⟩ := hrel
      have HO := Lib.hid ho; have HL := Lib.hid hl; have HPq := Lib.hid hp
      clear ho hl hp
      by_cases hj1 : 1 ≤ j
      · have q2 : decide (1 ≤ (j : Int)) = true := decide_eq_true (by omega)
        obtain ⟨a, ha, na⟩ := HALL.out (2 * j) (by omega) (by omega)
        obtain ⟨b, hb, nb⟩ := HALL.out (2 * j + 1) (by omega) (by omega)
        have x1 := HO.out.cellAt (2 * j) (by omega)
        rw [ints_at (by omega), ha] at x1
        have x2 := HO.out.cellAt (2 * j + 1) (by omega)
        rw [ints_at (by omega), hb] at x2
        have HNI := Lib.hid (Mg.node_inner (ks := ks) (ds := ds) (k := i) (by omega) na nb)
        have hai : a < i := na.1
        have hbi : b < i := nb.1
        have hab : a ≠ b ∨ a = b := by omega
        clear ha hb na nb
        have t1 : (2 * (j : Int)).toNat = 2 * j := by omega
        have t2 : (2 * (j : Int) + 1).toNat = 2 * j + 1 := by omega
        have b1 : (0 : Int) ≤ 2 * (j : Int) := by omega
        have b2 : 2 * (j : Int) < 2 * (i : Int) := by omega
        have b3 : (0 : Int) ≤ 2 * (j : Int) + 1 := by omega
        have b4 : 2 * (j : Int) + 1 < 2 * (i : Int) := by omega
        have w1 : IntKind.i64.wrap (2 * (j : Int)) = 2 * (j : Int) := IntWalk.i64_in _ (by omega)
        have w2 : IntKind.i64.wrap (2 * (j : Int) + 1) = 2 * (j : Int) + 1 := IntWalk.i64_in _ (by omega)
        go_wp2_with fail
        go_quiet (fail)
        have HO4 := Lib.hid (own_below HO.out (Nat.le_refl _) (below_drewN (Below.refl _ wr) nq))
        have HL4 := Lib.hid (own_below HL.out (Nat.le_refl _) (below_drewN (Below.refl _ wr) nq))
        have HP4 := Lib.hid (HPq.out.below (below_drewN (Below.refl _ wr) nq))
        generalize wr.drewN nq = wx at HO4 HL4 HP4 ⊢
        clear x1 x2 HO HL HPq t1 t2 b1 b2 b3 b4 w1 w2
        have HB4 := Lib.hid (beats_any t ka da i kc dc ks ds b a wx (by omega) hbi hai hks hds HP4.out.cells.1 HP4.out.cells.2.1 (HK.out.grown HP4.out.g (fun q off e he => HKT.out q off e (by injection he with he; exact he.symm))) (HD.out.grown HP4.out.g (fun q off e he => HDT.out q off e (by injection he with he; exact he.symm))))
        go_wp2_with fail
        refine HB4.out.mono ?_
        rintro e w5 ⟨rfl, hb⟩
        have HOx := Lib.hid (own_below HO4.out (Nat.le_refl _) hb)
        have HLx := Lib.hid (own_below HL4.out (Nat.le_refl _) hb)
        have HPx := Lib.hid (HP4.out.below hb)
        obtain ⟨c0, c1, c2, c3⟩ := HPx.out.cells
        clear hb HO4 HL4 HP4 HB4
        cases hbb : Mg.beats ks ds b a
        · have HNW := Lib.hid (HNI.out.1 hbb)
          clear hbb
          have h1 := HOx.out.stored j (.int .i64 a)
          rw [ints_set] at h1
          have hl1 := own_other HLx.out h1.2 (fun k hk e => by simp [Value.ownBlock] at hk; injection e with e; omega)
          have f1 := HOx.out.frozenAt j
          have f2 := hl1.frozenAt j
          have x1 := HOx.out.cellAt j (by omega)
          rw [ints_at (by omega)] at x1
          have x2 := hl1.cellAt j (by omega)
          rw [ints_at (by omega)] at x2
          have h2 := hl1.stored j (.int .i64 b)
          rw [ints_set] at h2
          have hw2 := own_other h1.1 h2.2 (fun k hk e => by simp [Value.ownBlock] at hk; injection e with e; omega)
          have p1 := HPx.out.next h1.2 (by intro e; injection e with e; omega) (by intro b e; injection e with e; omega)
          have hc2 : (w5.setCell ⟨w.heap.size, j, none⟩ (.int .i64 a)).cell? ⟨t, 2, none⟩ = some (.slice (some ⟨wl.heap.size, 0, none⟩) i i) := p1.cells.2.2.1
          have p2 := p1.next h2.2 (by intro e; injection e with e; omega) (by intro b e; injection e with e; omega)
          have HW2 := Lib.hid hw2; have HL2 := Lib.hid h2.1; have HP2 := Lib.hid p2
          clear h1 hl1 h2 hw2 p1 p2
          go_wp2
          go_roundw
          case rel =>
            refine ⟨j - 1, _, _, by go_num, by omega, by rw [List.length_set]; exact hws, by rw [List.length_set]; exact hls, HW2.out, HL2.out, Lib.hid (fun p h1 h2 => ?_), HP2.out⟩
            rw [getD_setE (by omega)]
            split
            · rename_i h; subst h; exact ⟨_, rfl, HNW.out⟩
            · exact HALL.out p (by omega) h2
          case measure => simp [intOf] <;> omega
        · have HNW := Lib.hid (HNI.out.2 ((Mg.beats_sw ks ds).asym _ _ hbb))
          clear hbb
          have h1 := HOx.out.stored j (.int .i64 b)
          rw [ints_set] at h1
          have hl1 := own_other HLx.out h1.2 (fun k hk e => by simp [Value.ownBlock] at hk; injection e with e; omega)
          have f1 := HOx.out.frozenAt j
          have f2 := hl1.frozenAt j
          have x1 := HOx.out.cellAt j (by omega)
          rw [ints_at (by omega)] at x1
          have x2 := hl1.cellAt j (by omega)
          rw [ints_at (by omega)] at x2
          have h2 := hl1.stored j (.int .i64 a)
          rw [ints_set] at h2
          have hw2 := own_other h1.1 h2.2 (fun k hk e => by simp [Value.ownBlock] at hk; injection e with e; omega)
          have p1 := HPx.out.next h1.2 (by intro e; injection e with e; omega) (by intro b e; injection e with e; omega)
          have hc2 : (w5.setCell ⟨w.heap.size, j, none⟩ (.int .i64 b)).cell? ⟨t, 2, none⟩ = some (.slice (some ⟨wl.heap.size, 0, none⟩) i i) := p1.cells.2.2.1
          have p2 := p1.next h2.2 (by intro e; injection e with e; omega) (by intro b e; injection e with e; omega)
          have HW2 := Lib.hid hw2; have HL2 := Lib.hid h2.1; have HP2 := Lib.hid p2
          clear h1 hl1 h2 hw2 p1 p2
          go_wp2
          go_roundw
          case rel =>
            refine ⟨j - 1, _, _, by go_num, by omega, by rw [List.length_set]; exact hws, by rw [List.length_set]; exact hls, HW2.out, HL2.out, Lib.hid (fun p h1 h2 => ?_), HP2.out⟩
            rw [getD_setE (by omega)]
            split
            · rename_i h; subst h; exact ⟨_, rfl, HNW.out⟩
            · exact HALL.out p (by omega) h2
          case measure => simp [intOf] <;> omega
      · obtain rfl : j = 0 := by omega
        have q2 : decide (1 ≤ ((0 : Nat) : Int)) = false := rfl
        obtain ⟨a, ha, na⟩ := HALL.out 1 (by omega) (by omega)
        have x1 := HO.out.cellAt 1 (by omega)
        rw [ints_at (by omega), ha] at x1
        have HWIN := Lib.hid (Mg.node_root na)
        obtain ⟨c0, c1, c2, c3⟩ := HPq.out.cells
        have hfz := HPq.out.row.frozenAt 3
        have HP5 := Lib.hid (HPq.out.wins (.int .i64 a))
        have hi1 : 1 < 2 * (i : Int) := by omega
        go_wp2
        go_end0
        exact ⟨rfl, a, _, rfl, HWIN.out, HP5.out⟩

end Go.Proofs.Ytcdfinkefahloaa

namespace Go.Proofs.Ytcdfinkefahloaa
open Go.RowKit Go.Sort
set_option linter.unusedVariables false

/-- The header of one list of records. -/
def HdAt (w : World) (v : Value) (L : List (Int × Int)) : Prop := ∃ (x : Option Addr) (c : Nat), v = .slice x L.length c ∧ Rd w x L.length c L
theorem HdAt.same {w w' : World} {v : Value} {L : List (Int × Int)} (h : HdAt w v L) (hb : Below w.heap.size w w') : HdAt w' v L := by
  obtain ⟨x, c, e, h⟩ := h
  exact ⟨x, c, e, h.same hb⟩
theorem hdAt_rd {w : World} {x : Option Addr} {n c : Nat} {L : List (Int × Int)} (h : Rd w x n c L) : HdAt w (.slice x n c) L := by
  have e := h.len
  subst e
  exact ⟨x, c, rfl, h⟩

/-- Headers, each of its list. -/
def Hds (w : World) (hs : List Value) (Ls : List (List (Int × Int))) : Prop := hs.length = Ls.length ∧ ∀ (j : Nat) (v : Value) (L : List (Int × Int)), hs[j]? = some v → Ls[j]? = some L → HdAt w v L
theorem Hds.same {w w' : World} {hs : List Value} {Ls : List (List (Int × Int))} (h : Hds w hs Ls) (hb : Below w.heap.size w w') : Hds w' hs Ls := ⟨h.1, fun j v L h1 h2 => (h.2 j v L h1 h2).same hb⟩
theorem hds_nil (w : World) : Hds w [] [] := ⟨rfl, fun j v L h _ => by simp at h⟩
theorem Hds.snoc {w : World} {hs : List Value} {Ls : List (List (Int × Int))} {v : Value} {L : List (Int × Int)} (h : Hds w hs Ls) (hv : HdAt w v L) : Hds w (hs ++ [v]) (Ls ++ [L]) := by
  refine ⟨by simp [h.1], fun j u M h1 h2 => ?_⟩
  rcases Nat.lt_or_ge j hs.length with hj | hj
  · rw [List.getElem?_append_left hj] at h1
    rw [List.getElem?_append_left (by rw [← h.1]; exact hj)] at h2
    exact h.2 j u M h1 h2
  · rw [List.getElem?_append_right hj] at h1
    rw [List.getElem?_append_right (by rw [← h.1]; exact hj)] at h2
    obtain ⟨i, hi⟩ : ∃ i, j - hs.length = i := ⟨_, rfl⟩
    rw [← h.1] at h2
    rw [hi] at h1 h2
    cases i with
    | zero => simp at h1 h2; subst h1 h2; exact hv
    | succ i => simp at h1
theorem Hds.part {w : World} {hs : List Value} {Ls : List (List (Int × Int))} (h : Hds w hs Ls) (i m : Nat) : Hds w ((hs.drop i).take m) ((Ls.drop i).take m) := by
  refine ⟨by simp [h.1], fun j v L h1 h2 => ?_⟩
  rw [List.getElem?_take] at h1 h2
  split at h1
  · rename_i hj
    rw [if_pos hj] at h2
    rw [List.getElem?_drop] at h1 h2
    exact h.2 _ v L h1 h2
  · cases h1
theorem hds_one {w : World} {hs : List Value} {Ls : List (List (Int × Int))} (h : Hds w hs Ls) : ∀ u ∈ hs, u.oneCell' = true := by
  intro u hu
  obtain ⟨j, hj, rfl⟩ := List.getElem_of_mem hu
  have hjl : j < Ls.length := by rw [← h.1]; exact hj
  obtain ⟨x, c, e, _⟩ := h.2 j _ _ (List.getElem?_eq_getElem hj) (List.getElem?_eq_getElem hjl)
  rw [e]; rfl

/-- Lists of records behind a slice that can be read. -/
structure LsAt (w : World) (a : Option Addr) (n c : Nat) (Ls : List (List (Int × Int))) : Prop where
  hd : ∃ hs : List Value, ValsAt w a hs ∧ Hds w hs Ls
  len : Ls.length = n
  nil : NilOk a c
  cap : n ≤ c
theorem LsAt.same {w w' : World} {a : Option Addr} {n c : Nat} {Ls : List (List (Int × Int))} (h : LsAt w a n c Ls) (hb : Below w.heap.size w w') : LsAt w' a n c Ls := by
  obtain ⟨hs, h1, h2⟩ := h.hd
  exact ⟨⟨hs, h1.same hb, h2.same hb⟩, h.len, h.nil, h.cap⟩
/-- The cell of one header. -/
theorem LsAt.at {w : World} {a : Option Addr} {n c : Nat} {Ls : List (List (Int × Int))} (h : LsAt w a n c Ls) {k : Nat} (hk : k < n) :
    ∃ (b off : Nat) (x : Option Addr) (d : Nat), a = some ⟨b, off, none⟩ ∧ w.cell? ⟨b, off + k, none⟩ = some (.slice x (Ls.getD k []).length d) ∧ Rd w x (Ls.getD k []).length d (Ls.getD k []) := by
  obtain ⟨hs, h1, h2⟩ := h.hd
  have hl := h.len
  have hkl : k < hs.length := by rw [h2.1]; omega
  have hkL : k < Ls.length := by omega
  obtain ⟨b, off, e, hc⟩ := h1.at (List.getElem?_eq_getElem hkl)
  obtain ⟨x, d, e2, hr⟩ := h2.2 k _ _ (List.getElem?_eq_getElem hkl) (List.getElem?_eq_getElem hkL)
  have eg : Ls.getD k [] = Ls[k] := by rw [List.getD_eq_getElem?_getD, List.getElem?_eq_getElem hkL]; rfl
  rw [eg]
  rw [e2] at hc
  exact ⟨b, off, x, d, e, hc, hr⟩
theorem lsAt_own {w : World} {B : Nat} {e : TypeId} {a : Option Addr} {n c : Nat} {hs : List Value} {Ls : List (List (Int × Int))} (h : w.ownsRow B e 1 (.slice a n c) n hs) (hh : Hds w hs Ls) : LsAt w a n c Ls :=
  ⟨⟨hs, vals_own h, hh⟩, by rw [← hh.1, h.1]; omega, nilOk_own h, own_cap h⟩
theorem vals_part {w : World} {b off : Nat} {vs : List Value} (h : ValsAt w (some ⟨b, off, none⟩) vs) (i m : Nat) : ValsAt w (some ⟨b, off + i, none⟩) ((vs.drop i).take m) := by
  rcases h with rfl | ⟨b', off', e, hb, h2⟩
  · exact .inl (by simp)
  · injection e with e
    injection e with e1 e2
    subst e1 e2
    refine .inr ⟨b, off + i, rfl, hb, fun j v hj => ?_⟩
    rw [List.getElem?_take] at hj
    split at hj
    · rw [List.getElem?_drop] at hj
      rw [Nat.add_assoc]
      exact h2 _ v hj
    · cases hj
theorem LsAt.part {w : World} {b off n c : Nat} {Ls : List (List (Int × Int))} (h : LsAt w (some ⟨b, off, none⟩) n c Ls) (i m : Nat) (him : i + m ≤ n) : LsAt w (some ⟨b, off + i, none⟩) m (c - i) ((Ls.drop i).take m) := by
  obtain ⟨hs, h1, h2⟩ := h.hd
  have := h.len
  have := h.cap
  exact ⟨⟨_, vals_part h1 i m, h2.part i m⟩, by rw [List.length_take, List.length_drop]; omega, nilOk_some _ _, by omega⟩
end Go.Proofs.Ytcdfinkefahloaa

namespace Go.Proofs.Ytcdfinkefahloaa
open Go.RowKit Go.Sort
set_option linter.unusedVariables false

/-- A list, a number and a Bool, given back. -/
def Rd3 (w : World) (out : List (Int × Int)) (k : Int) (ok : Bool) (e : Ending) (w' : World) : Prop :=
  ∃ (a : Option Addr) (n c : Nat), e = .returned (.tuple #[.slice a n c, .int .i64 k, .bool ok]) ∧ Rd w' a n c out ∧ Below w.heap.size w w'

theorem below_tr {B : Nat} {w w1 w2 : World} (h : Below B w w1) (hb : Below w1.heap.size w1 w2) (hB : B ≤ w1.heap.size) : Below B w w2 := h.trans (hb.mono hB)

theorem rd_lo {w : World} {a : Option Addr} {n c h : Nat} {rs : List (Int × Int)} (hr : Rd w a n c rs) (hh : h ≤ n) : Rd w a h c (rs.take h) :=
  ⟨recs_take hr.recs h, by rw [List.length_take, hr.len]; omega, hr.nil, by have := hr.cap; omega⟩
end Go.Proofs.Ytcdfinkefahloaa

namespace Go.Proofs.Ytcdfinkefahloaa
open Go.RowKit Go.Sort
set_option linter.unusedVariables false

theorem belowNew (w : World) (o : Obj) : Below w.heap.size w (w.alloc o) := (Below.refl _ _).alloc (Nat.le_refl _) _
theorem cellsQ {w : World} {g : Nat} {x0 x1 x2 x3 : Value} {e : TypeId} {f : Nat × Nat} (h : w.heap[g]? = some (.cells #[x0, x1, x2, x3] e f)) :
    w.cell? ⟨g, 0, none⟩ = some x0 ∧ w.cell? ⟨g, 1, none⟩ = some x1 ∧ w.cell? ⟨g, 2, none⟩ = some x2 ∧ w.cell? ⟨g, 3, none⟩ = some x3 :=
  ⟨row_cell h 0, row_cell h 1, row_cell h 2, row_cell h 3⟩
theorem pl_new {w : World} {t : Nat} {a b c d : Value} (h : w.heap[t]? = some (.cells #[a, b, c, d] 74 (0, 0))) : Pl w w t a b c d :=
  ⟨⟨rfl, .inr ⟨t, 1, #[a, b, c, d], rfl, Nat.le_refl _, h, Nat.le_refl _, by unfold maxLen; omega, rfl, rfl⟩⟩, grown_refl _ _⟩

set_option maxRecDepth 100000 in
set_option maxHeartbeats 4000000 in
theorem pathLength_any (k m p : Nat) (w : World) (hk : k ≤ 1000) (hm : m ≤ 1000) (hp : p = (k + m) / 2) :
    Calls Try.prog 45 #[.int .i64 k, .int .i64 m] w fun e w' => e = .returned (.int .i64 ((Mg.plen p : Nat) : Int)) ∧ w = w' := by
  have hh : ((k : Int) + (m : Int)) / 2 = (p : Int) := by omega
  have hp1 : p ≤ 1000 := by omega
  clear hp
  go_enter Try.func45, Try.ntmps45
  go_wp2_with fail
  rw [hh]
  go_loopw [5, 6] (fun x y wr => ∃ (n q : Nat), x = .int .i64 n ∧ y = .int .i64 q ∧ n ≤ 1000 - q ∧ q ≤ 1000 ∧ Hid (n + Mg.plen q = Mg.plen p) ∧ wr = w) (fun _ y _ => (intOf y).toNat)
  case atStart => exact ⟨0, p, rfl, rfl, by omega, hp1, Lib.hid (by omega), rfl⟩
  case round =>
    obtain ⟨n, q, rfl, rfl, hn, hq, HP, rfl⟩ := hrel
    by_cases h1 : 1 ≤ q
    · have q1 : decide (1 ≤ (q : Int)) = true := decide_eq_true (by omega)
      have q2 : (q : Int).tdiv 2 = ((q / 2 : Nat) : Int) := rfl
      have q3 : IntKind.i64.wrap ((q / 2 : Nat) : Int) = ((q / 2 : Nat) : Int) := IntWalk.i64_in _ (by omega)
      have HP2 : Hid (n + 1 + Mg.plen (q / 2) = Mg.plen p) := by
        show _ = _
        rw [← HP.out, Mg.plen_pos (p := q) (by omega)]; omega
      go_wp2
      go_roundw
      case rel => exact ⟨n + 1, q / 2, by go_num, by go_num, by omega, by omega, HP2, by trivial⟩
      case measure => simp [intOf] <;> omega
    · obtain rfl : q = 0 := by omega
      have q1 : decide (1 ≤ ((0 : Nat) : Int)) = false := rfl
      go_wp2
      go_ret
      exact ⟨ret_int (by rw [← HP.out, Mg.plen_zero]; simp), rfl⟩

set_option maxRecDepth 100000 in
set_option maxHeartbeats 4000000 in
theorem treeOf_any (ka da : Option Addr) (k kc dc : Nat) (ks : List Int) (ds : List Bool) (w : World) (hk0 : 0 < k) (hk : k ≤ 100) (hks : ks.length = k) (hds : ds.length = k)
    (hK : ValsAt w ka (ints ks)) (hD : ValsAt w da (bools ds)) (hnk : NilOk ka kc) (hnd : NilOk da dc) :
    Calls Try.prog 44 #[.slice ka k kc, .slice da k dc] w fun e w' => ∃ (win : Nat) (kv dv lv : Value), e = .returned (.agg #[kv, dv, lv, .int .i64 win]) ∧ Mg.Win ks ds k win ∧ Below w.heap.size w w' := by
  have HB0 := Lib.hid (show Below w.heap.size w (w.alloc (.cells #[.slice none 0 0, .slice none 0 0, .slice none 0 0, .int .i64 0] 74)) from (Below.refl _ _).alloc (Nat.le_refl _) _)
  have HR0 := Lib.hid (block_new w (.cells #[.slice none 0 0, .slice none 0 0, .slice none 0 0, .int .i64 0] 74))
  have HK0 := Lib.hid (hK.same HB0.out); have HD0 := Lib.hid (hD.same HB0.out)
  clear hK hD
  go_enter Try.func44, Try.ntmps44
  go_wp2_with fail
  refine (copyOfI_any ka k kc ks _ (by omega) hks HK0.out hnk).mono ?_
  rintro e w1 ⟨g1, c1, rfl, ho, hb⟩
  have HO1 := Lib.hid ho; have HB1 := Lib.hid (below_tr HB0.out hb HB0.out.size); have HD1 := Lib.hid (HD0.out.same hb)
  have HR1 := Lib.hid (block_below HR0.out hb (by simp))
  clear ho hb HB0 HR0 HK0 HD0
  go_wp2_with fail
  refine (copyOfB_any da k dc ds _ (by omega) hds HD1.out hnd).mono ?_
  rintro e w2 ⟨g2, c2, rfl, ho, hb⟩
  have HO2 := Lib.hid ho; have HB2 := Lib.hid (below_tr HB1.out hb HB1.out.size); have HO12 := Lib.hid (own_below HO1.out (Nat.le_refl _) hb)
  have hlt : w.heap.size < w1.heap.size := (Array.getElem?_eq_some_iff.1 HR1.out).1
  have HR2 := Lib.hid (block_below HR1.out hb hlt)
  clear ho hb HB1 HR1 HD1 HO1
  have hl2 : w.heap.size < w2.heap.size := (Array.getElem?_eq_some_iff.1 HR2.out).1
  have hbn := belowNew w2 (.cells #[.slice none 0 0, .slice none 0 0, .slice none 0 0, .int .i64 0] 74)
  have HT := Lib.hid (block_new w2 (.cells #[.slice none 0 0, .slice none 0 0, .slice none 0 0, .int .i64 0] 74))
  have HO13 := Lib.hid (own_below HO12.out (Nat.le_refl _) hbn)
  have HO23 := Lib.hid (own_below HO2.out (Nat.le_refl _) hbn)
  have HB3 := Lib.hid (below_tr HB2.out hbn HB2.out.size)
  have HR3 := Lib.hid (block_below HR2.out hbn hl2)
  have hg1 : g1 < w2.heap.size := (HO12.out.lt g1 rfl).2
  have hg2 : g2 < w2.heap.size := (HO2.out.lt g2 rfl).2
  clear hbn HB2 HR2 HO12 HO2
  go_wp2_with (refine wpList_var rfl 74 _ _ rfl rfl rfl HT.out (by kernel_rfl) rfl (by simp [Value.oneCell']) ?_)
  intro w3 hrow hg
  have HP := Lib.hid (pl_new hrow)
  have HB4 := Lib.hid (HB3.out.grown hg HB3.out.size (fun k hk => by cases hk; omega))
  have HR4 := Lib.hid (block_row HR3.out hg (by intro e; injection e with e; omega))
  have HO14 := Lib.hid (own_other HO13.out hg (fun k hk e => by simp [Value.ownBlock] at hk; injection e with e; omega))
  have HO24 := Lib.hid (own_other HO23.out hg (fun k hk e => by simp [Value.ownBlock] at hk; injection e with e; omega))
  clear hrow hg HT HO13 HO23 HB3 HR3
  have hl3 : w2.heap.size < w3.heap.size := (HP.out.row.lt w2.heap.size rfl).2
  go_wp2_with fail
  refine (play_any w2.heap.size (some ⟨g1, 0, none⟩) (some ⟨g2, 0, none⟩) k c1 c2 _ _ ks ds w3 hk0 hk hks hds hl3 HP.out (vals_own HO14.out) (vals_own HO24.out) (fun b off e => by injection e with e; injection e with e; omega) (fun b off e => by injection e with e; injection e with e; omega)).mono ?_
  rintro e w4 ⟨rfl, win, lv, hlv, hwin, hp⟩
  have HP4 := Lib.hid hp
  have HW := Lib.hid hwin
  have HB5 := Lib.hid (HB4.out.grown hp.g HB4.out.size (fun k hk => by injection hk with hk; omega))
  have HR5 := Lib.hid (block_row HR4.out hp.g (by intro e; injection e with e; omega))
  clear hp hwin HP HB4 HR4 HO14 HO24
  obtain ⟨c0, c1', c2', c3⟩ := HP4.out.cells
  go_wp2_with (refine wpList_var rfl 74 _ _ rfl rfl rfl HR5.out (by kernel_rfl) rfl (by simpa [Value.oneCell'] using hlv) ?_)
  intro w6 hrow hg
  obtain ⟨d0, d1, d2, d3⟩ := cellsQ hrow
  have HB6 := Lib.hid (HB5.out.grown hg HB5.out.size (fun k hk => by cases hk; exact Nat.le_refl _))
  clear hrow hg c0 c1' c2' c3
  go_wp2
  refine bodyPost_ret (v := .agg #[.slice (some ⟨g1, 0, none⟩) k c1, .slice (some ⟨g2, 0, none⟩) k c2, lv, .int .i64 win]) (by simp [results, Try.results44, go_sem, d0, d1, d2, d3]) rfl ⟨win, _, _, _, rfl, HW.out, HB6.out⟩

end Go.Proofs.Ytcdfinkefahloaa

namespace Go.Proofs.Ytcdfinkefahloaa
open Go.RowKit Go.Sort
set_option linter.unusedVariables false

/-- The four captured variables, the three rows behind three of them. -/
structure Kw (w0 wr : World) (B k cl ck cd cn gk gd gn : Nat) (lv : Value) (ks : List Int) (ds : List Bool) (ns : List Int) : Prop where
  bel : Below w0.heap.size w0 wr
  hi : B ≤ wr.heap.size
  lo : w0.heap.size ≤ gk ∧ w0.heap.size ≤ gd ∧ w0.heap.size ≤ gn
  lt : cl < B ∧ ck < B ∧ cd < B ∧ cn < B ∧ gk < B ∧ gd < B ∧ gn < B
  ne : gk ≠ gd ∧ gk ≠ gn ∧ gd ≠ gn
  nk : cl ≠ gk ∧ ck ≠ gk ∧ cd ≠ gk ∧ cn ≠ gk
  nd : cl ≠ gd ∧ ck ≠ gd ∧ cd ≠ gd ∧ cn ≠ gd
  nn : cl ≠ gn ∧ ck ≠ gn ∧ cd ≠ gn ∧ cn ≠ gn
  lc : wr.cell? ⟨cl, 0, none⟩ = some lv
  kc : wr.cell? ⟨ck, 0, none⟩ = some (.slice (some ⟨gk, 0, none⟩) k k)
  dc : wr.cell? ⟨cd, 0, none⟩ = some (.slice (some ⟨gd, 0, none⟩) k k)
  nc : wr.cell? ⟨cn, 0, none⟩ = some (.slice (some ⟨gn, 0, none⟩) k k)
  kr : wr.ownsRow w0.heap.size 3 1 (.slice (some ⟨gk, 0, none⟩) k k) k (ints ks)
  dr : wr.ownsRow w0.heap.size 4 1 (.slice (some ⟨gd, 0, none⟩) k k) k (bools ds)
  nr : wr.ownsRow w0.heap.size 3 1 (.slice (some ⟨gn, 0, none⟩) k k) k (ints ns)

section
variable {w0 wr wq : World} {B k cl ck cd cn gk gd gn : Nat} {lv : Value} {ks : List Int} {ds : List Bool} {ns : List Int}

theorem Kw.next {row : Option Nat} (h : Kw w0 wr B k cl ck cd cn gk gd gn lv ks ds ns) (hg : wr.grownBy wq row) (hr : ∀ b, row = some b → B ≤ b ∧ w0.heap.size ≤ b) : Kw w0 wq B k cl ck cd cn gk gd gn lv ks ds ns := by
  have hne : ∀ b, b < B → row ≠ some b := fun b hb e => by have := (hr b e).1; omega
  have hl := h.lt
  have hhi := h.hi
  have far : ∀ g, g < B → wq.cell? ⟨g, 0, none⟩ = wr.cell? ⟨g, 0, none⟩ := fun g hb => grown_cellE hg (by omega) (hne g hb)
  exact ⟨h.bel.grown hg h.bel.size (fun b e => (hr b e).2), Nat.le_trans h.hi hg.size, h.lo, h.lt, h.ne, h.nk, h.nd, h.nn,
    (far _ hl.1).trans h.lc, (far _ hl.2.1).trans h.kc, (far _ hl.2.2.1).trans h.dc, (far _ hl.2.2.2.1).trans h.nc,
    own_other h.kr hg (fun q hq => by simp [Value.ownBlock] at hq; subst hq; exact hne _ hl.2.2.2.2.1), own_other h.dr hg (fun q hq => by simp [Value.ownBlock] at hq; subst hq; exact hne _ hl.2.2.2.2.2.1), own_other h.nr hg (fun q hq => by simp [Value.ownBlock] at hq; subst hq; exact hne _ hl.2.2.2.2.2.2)⟩
theorem Kw.same (h : Kw w0 wr B k cl ck cd cn gk gd gn lv ks ds ns) (hb : Below wr.heap.size wr wq) : Kw w0 wq B k cl ck cd cn gk gd gn lv ks ds ns := h.next (row := none) (grown_of_below hb) (by intro b e; cases e)

theorem bools_set (l : List Bool) (j : Nat) (x : Bool) : (bools l).set j (.bool x) = bools (l.set j x) := List.map_set.symm
theorem far0 {w : World} {g c j : Nat} {v : Value} (h : c ≠ g) : (w.setCell ⟨g, j, none⟩ v).cell? ⟨c, 0, none⟩ = w.cell? ⟨c, 0, none⟩ := by
  have := Below.heap_setCell w ⟨g, j, none⟩ v c h
  simp only [World.cell?, this]

theorem Kw.setk (h : Kw w0 wr B k cl ck cd cn gk gd gn lv ks ds ns) (j : Nat) (x : Int) : Kw w0 (wr.setCell ⟨gk, j, none⟩ (.int .i64 x)) B k cl ck cd cn gk gd gn lv (ks.set j x) ds ns := by
  have hs := h.kr.stored j (.int .i64 x)
  rw [ints_set] at hs
  exact ⟨h.bel.setCell (p := ⟨gk, j, none⟩) h.lo.1 _, Nat.le_trans h.hi hs.2.size, h.lo, h.lt, h.ne, h.nk, h.nd, h.nn,
    (far0 h.nk.1).trans h.lc, (far0 h.nk.2.1).trans h.kc, (far0 h.nk.2.2.1).trans h.dc, (far0 h.nk.2.2.2).trans h.nc, hs.1,
    own_other h.dr hs.2 (fun q hq e => by simp [Value.ownBlock] at hq; injection e with e; exact h.ne.1 (by omega)), own_other h.nr hs.2 (fun q hq e => by simp [Value.ownBlock] at hq; injection e with e; exact h.ne.2.1 (by omega))⟩
theorem Kw.setd (h : Kw w0 wr B k cl ck cd cn gk gd gn lv ks ds ns) (j : Nat) (x : Bool) : Kw w0 (wr.setCell ⟨gd, j, none⟩ (.bool x)) B k cl ck cd cn gk gd gn lv ks (ds.set j x) ns := by
  have hs := h.dr.stored j (.bool x)
  rw [bools_set] at hs
  exact ⟨h.bel.setCell (p := ⟨gd, j, none⟩) h.lo.2.1 _, Nat.le_trans h.hi hs.2.size, h.lo, h.lt, h.ne, h.nk, h.nd, h.nn,
    (far0 h.nd.1).trans h.lc, (far0 h.nd.2.1).trans h.kc, (far0 h.nd.2.2.1).trans h.dc, (far0 h.nd.2.2.2).trans h.nc,
    own_other h.kr hs.2 (fun q hq e => by simp [Value.ownBlock] at hq; injection e with e; exact h.ne.1 (by omega)), hs.1, own_other h.nr hs.2 (fun q hq e => by simp [Value.ownBlock] at hq; injection e with e; exact h.ne.2.2 (by omega))⟩
theorem Kw.setn (h : Kw w0 wr B k cl ck cd cn gk gd gn lv ks ds ns) (j : Nat) (x : Int) : Kw w0 (wr.setCell ⟨gn, j, none⟩ (.int .i64 x)) B k cl ck cd cn gk gd gn lv ks ds (ns.set j x) := by
  have hs := h.nr.stored j (.int .i64 x)
  rw [ints_set] at hs
  exact ⟨h.bel.setCell (p := ⟨gn, j, none⟩) h.lo.2.2 _, Nat.le_trans h.hi hs.2.size, h.lo, h.lt, h.ne, h.nk, h.nd, h.nn,
    (far0 h.nn.1).trans h.lc, (far0 h.nn.2.1).trans h.kc, (far0 h.nn.2.2.1).trans h.dc, (far0 h.nn.2.2.2).trans h.nc,
    own_other h.kr hs.2 (fun q hq e => by simp [Value.ownBlock] at hq; injection e with e; exact h.ne.2.1 (by omega)), own_other h.dr hs.2 (fun q hq e => by simp [Value.ownBlock] at hq; injection e with e; exact h.ne.2.2 (by omega)), hs.1⟩
end

/-- What is owned from B on stays so. -/
def KeepB (B : Nat) (w w' : World) : Prop := ∀ (e : TypeId) (size n : Nat) (v : Value) (xs : List Value), w.ownsRow B e size v n xs → w'.ownsRow B e size v n xs
theorem keepB_below {B : Nat} {w w' : World} (hb : Below w.heap.size w w') : KeepB B w w' := fun _ _ _ _ _ h => own_below h (Nat.le_refl _) hb
theorem KeepB.set {B : Nat} {w w' : World} (h : KeepB B w w') {g j : Nat} (hg : g < B) (v : Value) : KeepB B w (w'.setCell ⟨g, j, none⟩ v) := fun _ _ _ _ _ ho => ownsRow_setCell_below (h _ _ _ _ _ ho) hg v
theorem KeepB.trans {B : Nat} {a b c : World} (h : KeepB B a b) (k : KeepB B b c) : KeepB B a c := fun _ _ _ _ _ ho => k _ _ _ _ _ (h _ _ _ _ _ ho)
set_option maxRecDepth 100000 in
set_option maxHeartbeats 4000000 in
theorem fill_any (w0 w : World) (B k cl ck cd cn gk gd gn i p la : Nat) (lo lc : Nat) (Ls : List (List (Int × Int))) (L : List (Int × Int)) (ks : List Int) (ds : List Bool) (ns : List Int) (hk : k ≤ 100) (hi : i < k)
    (hLs : LsAt w0 (some ⟨la, lo, none⟩) k lc Ls) (h : Kw w0 w B k cl ck cd cn gk gd gn (.slice (some ⟨la, lo, none⟩) k lc) ks ds ns) (hp : ns.getD i 0 = (p : Int)) (hpl : p ≤ L.length) (hl : L.length ≤ 1000000) (hL : Ls.getD i [] = L) :
    Calls Try.prog 43 #[.int .i64 i, .pointer (some ⟨cn, 0, none⟩), .pointer (some ⟨cl, 0, none⟩), .pointer (some ⟨cd, 0, none⟩), .pointer (some ⟨ck, 0, none⟩)] w fun e w' => e = .returned (.tuple #[]) ∧
      Kw w0 w' B k cl ck cd cn gk gd gn (.slice (some ⟨la, lo, none⟩) k lc) (ks.set i (Mg.hk (L.drop p))) (ds.set i (L.drop p).isEmpty) ns ∧ KeepB B w w' := by
  have hnl : ns.length = k := by have := h.nr.1; simpa using this
  have hdl : ds.length = k := by have := h.dr.1; simpa using this
  have hkl : ks.length = k := by have := h.kr.1; simpa using this
  obtain ⟨b, off, x, d, e, hc0, hr⟩ := hLs.at hi
  injection e with e
  injection e with e1 e2
  subst e1 e2
  rw [hL] at hc0 hr
  have HRD := Lib.hid hr
  have hcl := World.block_lt_of_cell? w0 _ hc0
  have HC0 := Lib.hid (fun (W : World) (hb : Below w0.heap.size w0 W) => (hb.cell (p := ⟨la, lo + i, none⟩) hcl).trans hc0)
  have hc := HC0.out w h.bel
  have HK := Lib.hid h
  have c1 := h.lc; have c2 := h.kc; have c3 := h.dc; have c4 := h.nc
  have c5 := h.nr.cellAt i (by omega)
  rw [ints_at (by omega), hp] at c5
  have c6 := h.dr.cellAt i (by omega)
  rw [bools_at (by omega)] at c6
  have t1 : ((i : Int)).toNat = i := by omega
  have b1 : (0 : Int) ≤ (i : Int) := by omega
  have b2 : (i : Int) < (k : Int) := by omega
  have HP := Lib.hid hp
  clear h hLs hr hL hp hc0 hcl
  by_cases hd : p = L.length
  · have HE1 : Hid (L.drop p = []) := by show _ = _; rw [hd]; simp
    have q1 : ((p : Int) == (L.length : Int)) = true := by simp; omega
    go_enter Try.func43, Try.ntmps43
    go_wp2_with fail
    go_still_tail 13, (by kernel_rfl)
    have HK2 := Lib.hid (HK.out.same (wq := w.drew) ((Below.refl _ _).drew))
    have HG := Lib.hid (keepB_below (B := B) (w := w) (w' := w.drew) ((Below.refl _ _).drew))
    clear c1 c2 c3 c4 c5 c6 hc HK
    change wpList _ _ _ _ _ w.drew
    generalize w.drew = wx at HK2 HG ⊢
    have hfz := HK2.out.dr.frozenAt i
    have c6 := HK2.out.dr.cellAt i (by omega)
    rw [bools_at (by omega)] at c6
    have HK3 := Lib.hid (HK2.out.setd i true)
    have d1 := HK3.out.lc; have d2 := HK3.out.kc; have d3 := HK3.out.dc; have d4 := HK3.out.nc
    have d5 := HK3.out.dr.cellAt i (by omega)
    rw [bools_at (by rw [List.length_set]; omega)] at d5
    rw [show (ds.set i true).getD i false = true by rw [List.getD_eq_getElem?_getD, List.getElem?_set, if_pos rfl, if_pos (by omega)]; rfl] at d5
    have hfz2 := HK3.out.kr.frozenAt i
    have d6 := HK3.out.kr.cellAt i (by omega)
    rw [ints_at (by omega)] at d6
    have HK4 := Lib.hid (HK3.out.setk i 0)
    go_wp2
    go_end0
    refine ⟨rfl, ?_, (HG.out.set HK4.out.lt.2.2.2.2.2.1 _).set HK4.out.lt.2.2.2.2.1 _⟩
    rw [HE1.out]
    exact HK4.out
  · obtain ⟨X, hX⟩ : ∃ X, L.getD p (0, 0) = X := ⟨_, rfl⟩
    have HE1 : Hid (L.drop p = X :: L.drop (p + 1)) := by
      show _ = _
      rw [List.drop_eq_getElem_cons (by omega), ← hX, List.getD_eq_getElem?_getD, List.getElem?_eq_getElem (by omega)]; rfl
    have q1 : ((p : Int) == (L.length : Int)) = false := by rw [beq_eq_false_iff_ne]; omega
    obtain ⟨xb, xo, rfl, x1, x2⟩ := HRD.out.at (show p < L.length by omega)
    rw [hX] at x1
    obtain ⟨X1, X2⟩ := X
    have hxl := World.block_lt_of_cell? w0 _ x1
    have HX0 := Lib.hid (fun (W : World) (hb : Below w0.heap.size w0 W) => (hb.cell (p := ⟨xb, xo + p * 2, none⟩) hxl).trans x1)
    have b3 : (0 : Int) ≤ (p : Int) := by omega
    have b4 : (p : Int) < (L.length : Int) := by omega
    have t2 : ((p : Int)).toNat = p := by omega
    clear x2 hX x1 hxl
    go_enter Try.func43, Try.ntmps43
    go_wp2_with fail
    go_still_tail 13, (by kernel_rfl)
    have HK2 := Lib.hid (HK.out.same (wq := w.drew) ((Below.refl _ _).drew))
    have HG := Lib.hid (keepB_below (B := B) (w := w) (w' := w.drew) ((Below.refl _ _).drew))
    clear c1 c2 c3 c4 c5 c6 hc HK
    change wpList _ _ _ _ _ w.drew
    generalize w.drew = wx at HK2 HG ⊢
    have hfz := HK2.out.dr.frozenAt i
    have c6 := HK2.out.dr.cellAt i (by omega)
    rw [bools_at (by omega)] at c6
    have HK3 := Lib.hid (HK2.out.setd i false)
    have d1 := HK3.out.lc; have d2 := HK3.out.kc; have d3 := HK3.out.dc; have d4 := HK3.out.nc
    have d5 := HK3.out.dr.cellAt i (by omega)
    rw [bools_at (by rw [List.length_set]; omega)] at d5
    rw [show (ds.set i false).getD i false = false by rw [List.getD_eq_getElem?_getD, List.getElem?_set, if_pos rfl, if_pos (by omega)]; rfl] at d5
    have hfz2 := HK3.out.kr.frozenAt i
    have d6 := HK3.out.kr.cellAt i (by omega)
    rw [ints_at (by omega)] at d6
    have d7 := HC0.out _ HK3.out.bel
    have d8 := HX0.out _ HK3.out.bel
    have d9 := HK3.out.nr.cellAt i (by omega)
    rw [ints_at (by omega), HP.out] at d9
    go_wp2_with fail
    have HG := Lib.hid (HG.out.set (j := i) HK3.out.lt.2.2.2.2.2.1 (.bool false))
    generalize wx.setCell ⟨gd, i, none⟩ (.bool false) = wy at HG d1 d2 d3 d4 d5 d6 d7 d8 d9 hfz2 HK3 ⊢
    go_still_tail 14, (by kernel_rfl)
    have HK4 := Lib.hid (HK3.out.same (wq := wy.drew) ((Below.refl _ _).drew))
    clear d1 d2 d3 d4 d5 d6 d7 d8 d9 hfz2 HK3 hfz c6
    have HG := Lib.hid (HG.out.trans (keepB_below (w := wy) (w' := wy.drew) ((Below.refl _ _).drew)))
    change wpList _ _ _ _ _ wy.drew
    generalize wy.drew = wz at HK4 HG ⊢
    have hfz := HK4.out.kr.frozenAt i
    have c6 := HK4.out.kr.cellAt i (by omega)
    rw [ints_at (by omega)] at c6
    have HK5 := Lib.hid (HK4.out.setk i X1)
    go_wp2
    go_end0
    refine ⟨rfl, ?_, HG.out.set HK5.out.lt.2.2.2.2.1 _⟩
    rw [HE1.out]
    exact HK5.out

end Go.Proofs.Ytcdfinkefahloaa

namespace Go.Proofs.Ytcdfinkefahloaa
open Go.RowKit Go.Sort
set_option linter.unusedVariables false

/-- Ascending, place by place. -/
def upB (lt : Int × Int → Int × Int → Bool) (l : List (Int × Int)) : Bool := (List.range (l.length - 1)).all fun i => !lt (l.getD (i + 1) (0, 0)) (l.getD i (0, 0))
theorem upB_no {lt : Int × Int → Int × Int → Bool} {l : List (Int × Int)} {i : Nat} (h : i + 1 < l.length) (hb : lt (l.getD (i + 1) (0, 0)) (l.getD i (0, 0)) = true) : upB lt l = false := by
  unfold upB
  rw [List.all_eq_false]
  exact ⟨i, List.mem_range.2 (by omega), by rw [hb]; simp⟩
theorem upB_yes {lt : Int × Int → Int × Int → Bool} {l : List (Int × Int)} (h : ∀ i, i + 1 < l.length → lt (l.getD (i + 1) (0, 0)) (l.getD i (0, 0)) = false) : upB lt l = true := by
  unfold upB
  rw [List.all_eq_true]
  intro i hi
  rw [h i (by have := List.mem_range.1 hi; omega)]; rfl
theorem upB_asc {lt : Int × Int → Int × Int → Bool} (S : Mg.SW lt) {l : List (Int × Int)} (h : upB lt l = true) : Mg.Asc lt l := by
  refine Mg.asc_of_side S l fun i hi => ?_
  unfold upB at h
  rw [List.all_eq_true] at h
  have := h i (List.mem_range.2 (by omega))
  rw [getD_get hi, getD_get (by omega)] at this
  simpa using this

set_option maxRecDepth 100000 in
set_option maxHeartbeats 4000000 in
theorem isSortedFunc_any {lt : Int × Int → Int × Int → Bool} {cv : Value} {g : Nat} (HCV : CmpIs (fun _ => True) g lt cv) (a : Option Addr) (n c : Nat) (rs : List (Int × Int)) (w : World) (hn : n ≤ 1000000) (h : Rd w a n c rs) :
    Calls Try.prog 53 #[.slice a n c, cv] w fun e w' => e = .returned (.bool (upB lt rs)) ∧ Below w.heap.size w w' := by
  obtain ⟨_, G, cp, rfl, hcall, hcmp⟩ := HCV
  have HCM := Lib.hid hcmp; have H := Lib.hid h
  clear hcmp h
  go_enter Try.func53, Try.ntmps53
  go_wp2
  go_loopw [5] (fun v wr => ∃ i : Int, v = .int .i64 i ∧ -1 ≤ i ∧ i < n ∧ Hid (∀ j : Nat, i ≤ j → j + 1 < n → lt (rs.getD (j + 1) (0, 0)) (rs.getD j (0, 0)) = false) ∧ Below w.heap.size w wr) (fun v _ => (intOf v).toNat)
  case atStart => exact ⟨(n : Int) - 1, by go_num, by omega, by omega, Lib.hid (fun j h1 h2 => by omega), Below.refl _ _⟩
  case round =>
    obtain ⟨i, rfl, hi0, hi1, HALL, hb⟩ := hrel
    have HB := Lib.hid hb
    clear hb
    by_cases hlt : 0 < i
    case neg =>
      have q1 : decide (0 < i) = false := decide_eq_false hlt
      have HE : Hid (upB lt rs = true) := upB_yes fun j hj => HALL.out j (by omega) (by rw [← H.out.len]; exact hj)
      go_wp2
      go_ret
      exact ⟨ret_bool HE.out.symm, HB.out⟩
    obtain ⟨k, rfl⟩ : ∃ k : Nat, i = (k : Int) + 1 := ⟨(i - 1).toNat, by omega⟩
    have q1 : decide (0 < (k : Int) + 1) = true := decide_eq_true (by omega)
    obtain ⟨b, o, rfl, d1, d2⟩ := (H.out.same HB.out).at (show k < n by omega)
    obtain ⟨b', o', e, c1, c2⟩ := (H.out.same HB.out).at (show k + 1 < n by omega)
    injection e with e
    injection e with e1 e2
    subst e1 e2
    obtain ⟨X, hX⟩ : ∃ X, rs.getD (k + 1) (0, 0) = X := ⟨_, rfl⟩
    obtain ⟨Y, hY⟩ : ∃ Y, rs.getD k (0, 0) = Y := ⟨_, rfl⟩
    rw [hX] at c1 c2
    rw [hY] at d1 d2
    have HX := Lib.hid hX; have HY := Lib.hid hY
    clear hX hY
    have HCK := Lib.hid (fun W => HCM.out X Y W trivial)
    have hcall := hcall (#[.agg #[.int .i64 X.1, .int .i64 X.2], .agg #[.int .i64 Y.1, .int .i64 Y.2]] ++ cp)
    obtain ⟨X1, X2⟩ := X
    obtain ⟨Y1, Y2⟩ := Y
    have t1 : ((k : Int) + 1).toNat = k + 1 := by omega
    have t0 : ((k : Int)).toNat = k := by omega
    have b0 : (0 : Int) ≤ (k : Int) := by omega
    have b1 : (k : Int) + 1 < (n : Int) := by omega
    have b2 : (k : Int) < (n : Int) := by omega
    have b3 : (0 : Int) ≤ (k : Int) + 1 := by omega
    have w1 : IntKind.i64.wrap (k : Int) = (k : Int) := IntWalk.i64_in _ (by omega)
    go_wp2_with fail
    go_still_tail 10, (by kernel_rfl)
    go_wp2_with fail
    refine (HCK.out _).mono ?_
    rintro e w5 ⟨⟨nn, rfl, hnn⟩, hbc⟩
    have HB5 := Lib.hid (HB.out.trans (((Below.refl _ _).drew.trans hbc).mono HB.out.size))
    clear hbc c1 c2 d1 d2 HCK
    cases hyx : lt (X1, X2) (Y1, Y2)
    · have hz : decide (nn < 0) = false := by rw [hnn]; exact hyx
      have HYX := Lib.hid hyx
      clear hnn hyx
      go_wp2
      go_roundw
      case rel => exact ⟨k, by go_num, by omega, by omega, Lib.hid (fun j h1 h2 => by
        rcases Nat.lt_or_ge k j with h | h
        · exact HALL.out j (by omega) h2
        · obtain rfl : j = k := by omega
          rw [HX.out, HY.out]; exact HYX.out), HB5.out⟩
      case measure => simp [intOf] <;> omega
    · have hz : decide (nn < 0) = true := by rw [hnn]; exact hyx
      have HE : Hid (upB lt rs = false) := upB_no (i := k) (by rw [H.out.len]; omega) (by rw [HX.out, HY.out]; exact hyx)
      clear hnn hyx
      go_wp2
      go_ret
      exact ⟨ret_bool HE.out.symm, HB5.out⟩

set_option maxRecDepth 100000 in
set_option maxHeartbeats 4000000 in
theorem l5Ascending_any (a : Option Addr) (n c : Nat) (rs : List (Int × Int)) (w : World) (hn : n ≤ 1000000) (h : Rd w a n c rs) :
    Calls Try.prog 28 #[.slice a n c] w fun e w' => e = .returned (.bool (upB ltR rs)) ∧ Below w.heap.size w w' := by
  have H := Lib.hid h
  clear h
  go_enter Try.func28, Try.ntmps28
  go_wp2
  go_loopw [3] (fun v wr => ∃ k : Nat, v = .int .i64 k ∧ k ≤ n ∧ Hid (∀ j : Nat, j < k → j + 1 < n → ltR (rs.getD (j + 1) (0, 0)) (rs.getD j (0, 0)) = false) ∧ Below w.heap.size w wr) (fun v _ => n - (intOf v).toNat)
  case atStart => exact ⟨0, rfl, by omega, Lib.hid (fun j h1 h2 => by omega), Below.refl _ _⟩
  case round =>
    obtain ⟨k, rfl, hk, HALL, hb⟩ := hrel
    have HB := Lib.hid hb
    clear hb
    by_cases hlt : k + 1 < n
    case neg =>
      have q1 : decide ((k : Int) + 1 < (n : Int)) = false := decide_eq_false (by omega)
      have HE : Hid (upB ltR rs = true) := upB_yes fun j hj => HALL.out j (by rw [H.out.len] at hj; omega) (by rw [← H.out.len]; exact hj)
      go_wp2
      go_ret
      exact ⟨ret_bool HE.out.symm, HB.out⟩
    have q1 : decide ((k : Int) + 1 < (n : Int)) = true := decide_eq_true (by omega)
    obtain ⟨b, o, rfl, d1, d2⟩ := (H.out.same HB.out).at (show k < n by omega)
    obtain ⟨b', o', e, c1, c2⟩ := (H.out.same HB.out).at (show k + 1 < n by omega)
    injection e with e
    injection e with e1 e2
    subst e1 e2
    obtain ⟨X, hX⟩ : ∃ X, rs.getD (k + 1) (0, 0) = X := ⟨_, rfl⟩
    obtain ⟨Y, hY⟩ : ∃ Y, rs.getD k (0, 0) = Y := ⟨_, rfl⟩
    rw [hX] at c1 c2
    rw [hY] at d1 d2
    have HX := Lib.hid hX; have HY := Lib.hid hY
    clear hX hY
    obtain ⟨X1, X2⟩ := X
    obtain ⟨Y1, Y2⟩ := Y
    have t1 : ((k : Int) + 1).toNat = k + 1 := by omega
    have hyx : ltR (X1, X2) (Y1, Y2) = decide (X1 < Y1) := rfl
    by_cases hxy : X1 < Y1
    · have hz : decide (X1 < Y1) = true := decide_eq_true hxy
      have HE : Hid (upB ltR rs = false) := upB_no (i := k) (by rw [H.out.len]; omega) (by rw [HX.out, HY.out, hyx]; exact hz)
      clear hxy hyx
      go_wp2_with fail
      go_quiet (fail)
      go_wp2
      go_ret
      exact ⟨ret_bool HE.out.symm, below_drewN HB.out _⟩
    · have hz : decide (X1 < Y1) = false := decide_eq_false hxy
      have HZ : Hid (ltR (X1, X2) (Y1, Y2) = false) := by show _ = _; rw [hyx]; exact hz
      clear hxy hyx
      go_wp2_with fail
      go_quiet (fail)
      go_wp2
      go_roundw
      case rel => exact ⟨k + 1, by go_num, by omega, Lib.hid (fun j h1 h2 => by
        rcases Nat.lt_or_ge j k with h | h
        · exact HALL.out j h h2
        · obtain rfl : j = k := by omega
          rw [HX.out, HY.out]; exact HZ.out), below_drewN HB.out _⟩
      case measure => simp [intOf] <;> omega

set_option maxHeartbeats 400000 in
theorem areAscending_any (a : Option Addr) (n c : Nat) (rs : List (Int × Int)) (w : World) (hn : n ≤ 9223372036854775807) (h : Rd w a n c rs) :
    Calls Try.prog 39 #[.slice a n c] w fun e w' => e = .returned (.bool (okRecs rs && upB ltR rs)) ∧ Below w.heap.size w w' := by
  have H := Lib.hid h
  obtain ⟨hr, rfl, _, _⟩ := h
  have HV := Lib.hid (isValidRecords_any a c rs w hn hr)
  clear hr
  cases hok : okRecs rs
  · rw [hok] at HV
    go_enter Try.func39, Try.ntmps39
    go_wp2_with fail
    refine HV.out.mono ?_
    rintro e w1 ⟨rfl, hb⟩
    have HB := Lib.hid hb; clear hb
    go_wp2
    go_ret
    exact ⟨rfl, HB.out⟩
  · rw [hok] at HV
    have hl := okRecs_le hok
    go_enter Try.func39, Try.ntmps39
    go_wp2_with fail
    refine HV.out.mono ?_
    rintro e w1 ⟨rfl, hb⟩
    have HB := Lib.hid hb; clear hb
    go_wp2_with fail
    refine (isSortedFunc_any (cmpV_is 0) a rs.length c rs w1 (by omega) (H.out.same HB.out)).mono ?_
    rintro e w2 ⟨rfl, hb⟩
    have HB2 := Lib.hid (HB.out.trans (hb.mono HB.out.size)); clear hb
    go_wp2
    go_ret
    exact ⟨rfl, HB2.out⟩

end Go.Proofs.Ytcdfinkefahloaa

