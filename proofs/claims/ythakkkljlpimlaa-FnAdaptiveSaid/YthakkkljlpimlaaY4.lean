/- Several texts in one: lemmas and walks of the functions that the laws reach. -/
import Derived.Test.YthakkkljlpimlaaY3
import Derived.Test.YthakkkljlpimlaaY0
import Derived.Test.YthakkkljlpimlaaY1
import Derived.StillTailTactics
import Derived.BigRegion
import Derived.Deep.RegionHeld3
import Derived.Deep.RegionLaw

/- A whole element stored in a region that draws its order. -/
namespace Go.Proofs.Ythakkkljlpimlaa
open Go.RowKit Go.Sort
set_option linter.unusedVariables false

theorem wp_put {P : Program} {w : World} {o : Oper} {a : Act} {K : Act → World → Prop} {Q : Exit → Act → World → Prop} {t e : TypeId} {z : Value} {size bytes : Nat} (T : SlT P t e z size bytes) (x y : Operand) (hop : o.op = .store e x y)
    {α : Type} (enc : α → List Value) (hS : ∀ r, (enc r).length = size) (h1 : ∀ r, ∀ u ∈ enc r, u.oneCell' = true) (base g n cap : Nat) (rs : List α) (k : Nat) (r : α) (hx : a.eval x = .pointer (some ⟨g, k * size, none⟩)) (hv : (a.eval y).cells.toList = enc r)
    (hown : w.ownsRow base e size (.slice (some ⟨g, 0, none⟩) n cap) n (flat enc rs)) (hk : k < n) (hl : rs.length = n)
    (h : ∀ w', w'.ownsRow base e size (.slice (some ⟨g, 0, none⟩) n cap) n (flat enc (rs.set k r)) → w.grownBy w' (some g) → K (a.put o.dst undef) w') : Oper.wp P o a w K Q := by
  obtain ⟨i, hi, _, hs, _⟩ := T.info
  obtain ⟨w', hr, g1, g2⟩ := own_put hown k hk (enc r) (hS r) (P := P) (h1 r)
  rw [flat_put hS rs k (by omega) r] at g1
  have hsz : (a.eval y).cells.size = i.size := by rw [hs, ← hS r, ← hv]; simp
  unfold Oper.wp execOp
  simp only [hop, hx, Instr.storeAt, Instr.sureAddr, storeVar, sizeOf, typeInfo, hv]
  simp [hi, hsz, hr]
  exact h w' g1 g2

theorem step_put {P : Program} {w : World} {ops : Array Oper} {o : Oper} {a : Act} {K : Act → World → Prop} {Q : Exit → Act → World → Prop} {E : Prop} {t e : TypeId} {z : Value} {size bytes : Nat} (T : SlT P t e z size bytes) (hgd : o.guard = none) (x y : Operand) (hop : o.op = .store e x y)
    {α : Type} (enc : α → List Value) (hS : ∀ r, (enc r).length = size) (h1 : ∀ r, ∀ u ∈ enc r, u.oneCell' = true) (base g n cap : Nat) (rs : List α) (k : Nat) (r : α) (hx : a.eval x = .pointer (some ⟨g, k * size, none⟩)) (hv : (a.eval y).cells.toList = enc r)
    (hown : w.ownsRow base e size (.slice (some ⟨g, 0, none⟩) n cap) n (flat enc rs)) (hk : k < n) (hl : rs.length = n)
    (h : ∀ w', w'.ownsRow base e size (.slice (some ⟨g, 0, none⟩) n cap) n (flat enc (rs.set k r)) → w.grownBy w' (some g) → K (a.put o.dst undef) w') :
    if Region.wanted o (yielded ops a.tmps) = true then Oper.wp P o a w K Q else E := by
  have hw : Region.wanted o (yielded ops a.tmps) = true := by simp [Region.wanted, hgd]
  rw [if_pos hw]
  exact wp_put T x y hop enc hS h1 base g n cap rs k r hx hv hown hk hl h

theorem encR_one (r : Int × Int) : ∀ u ∈ encR r, u.oneCell' = true := by
  intro u hu
  simp [encR] at hu
  rcases hu with rfl | rfl <;> rfl

/-- The cells of an owned row of records. -/
theorem rec_cells {w : World} {base g n cap k : Nat} {e : TypeId} {d : List (Int × Int)} {r : Int × Int} (h : w.ownsRow base e 2 (.slice (some ⟨g, 0, none⟩) n cap) n (flat encR d)) (hk : d[k]? = some r) :
    w.cell? ⟨g, k * 2, none⟩ = some (.int .i64 r.1) ∧ w.cell? ⟨g, k * 2 + 1, none⟩ = some (.int .i64 r.2) := by
  have hlt : k < d.length := (List.getElem?_eq_some_iff.1 hk).1
  obtain ⟨b, off, e1, h1, h2⟩ := (recs_of_own h).at hlt
  injection e1 with e1
  injection e1 with e1 e2 _
  subst e1; subst e2
  rw [Nat.zero_add] at h1 h2
  rw [List.getD_eq_getElem?_getD, hk] at h1 h2
  exact ⟨h1, h2⟩

end Go.Proofs.Ythakkkljlpimlaa

/- General lemmas: records behind a readable slice: appended to a list of the call's own; parts of them. -/
namespace Go.Proofs.Ythakkkljlpimlaa
open Go.RowKit
set_option linter.unusedVariables false

theorem recs_newsN {w : World} {x : Addr} {rs : List (Int × Int)} (h : RecsAt w (some x) rs) : ∀ j u, (flat encR rs)[j]? = some u → w.cell? (x.add j) = some u := by
  intro q u hu
  have hq : q < rs.length * 2 := by
    have := (List.getElem?_eq_some_iff.1 hu).1
    rwa [flat_length encR_len] at this
  rcases h with rfl | ⟨b, off, e, _, h2⟩
  · simp at hq
  · injection e with e
    subst e
    have hk : q / 2 < rs.length := by omega
    obtain ⟨g1, g2⟩ := h2 (q / 2) hk
    have hg := flat_get encR_len rs (q / 2) (q % 2) (Nat.mod_lt _ (by omega))
    have hqe : q / 2 * 2 + q % 2 = q := by omega
    rw [hqe, hu, List.getElem?_eq_getElem hk] at hg
    rw [List.getD_eq_getElem?_getD, List.getElem?_eq_getElem hk] at g1 g2
    have hadd : (⟨b, off, none⟩ : Addr).add q = ⟨b, off + q, none⟩ := by unfold Addr.add; split <;> simp_all
    rw [hadd]
    rcases Nat.mod_two_eq_zero_or_one q with h0 | h0
    · rw [h0] at hg
      simp [encR] at hg
      rw [show off + q = off + q / 2 * 2 by omega, g1, hg]; rfl
    · rw [h0] at hg
      simp [encR] at hg
      rw [show off + q = off + q / 2 * 2 + 1 by omega, g2, hg]; rfl
theorem recs_oneN {rs : List (Int × Int)} : ∀ u ∈ flat encR rs, u.oneCell' = true := by
  intro u hu
  unfold flat at hu
  obtain ⟨r, _, hr⟩ := List.mem_flatMap.1 hu
  simp [encR] at hr
  rcases hr with rfl | rfl <;> rfl

/-- A part of records. -/
theorem recs_part {w : World} {b off : Nat} {rs : List (Int × Int)} (h : RecsAt w (some ⟨b, off, none⟩) rs) (k m : Nat) : RecsAt w (some ⟨b, off + k * 2, none⟩) ((rs.drop k).take m) := by
  rcases h with rfl | ⟨b', off', e, hb, h2⟩
  · exact .inl (by simp)
  · injection e with e
    injection e with e1 e2
    subst e1 e2
    refine .inr ⟨b, off + k * 2, rfl, hb, fun j hj => ?_⟩
    have hj' : j < m ∧ k + j < rs.length := by simp at hj; omega
    obtain ⟨g1, g2⟩ := h2 (k + j) hj'.2
    have e : ((rs.drop k).take m).getD j (0, 0) = rs.getD (k + j) (0, 0) := by
      simp only [List.getD_eq_getElem?_getD, List.getElem?_take, List.getElem?_drop, if_pos hj'.1]
    rw [e, show off + k * 2 + j * 2 = off + (k + j) * 2 by omega]
    exact ⟨g1, g2⟩
theorem recs_drop {w : World} {b off : Nat} {rs : List (Int × Int)} (h : RecsAt w (some ⟨b, off, none⟩) rs) (k : Nat) : RecsAt w (some ⟨b, off + k * 2, none⟩) (rs.drop k) := by
  have := recs_part h k rs.length
  rwa [List.take_of_length_le (by simp)] at this
theorem recs_take {w : World} {a : Option Addr} {rs : List (Int × Int)} (h : RecsAt w a rs) (m : Nat) : RecsAt w a (rs.take m) := by
  rcases h with rfl | ⟨b, off, e, hb, h2⟩
  · exact .inl (by simp)
  · subst e
    have := recs_part (.inr ⟨b, off, rfl, hb, h2⟩) 0 m
    simpa using this
theorem recs_tail {w : World} {b off : Nat} {r : Int × Int} {rs : List (Int × Int)} (h : RecsAt w (some ⟨b, off, none⟩) (r :: rs)) : RecsAt w (some ⟨b, off + 2, none⟩) rs := by
  have := recs_drop h 1
  simpa using this
theorem recs_head {w : World} {b off : Nat} {r : Int × Int} {rs : List (Int × Int)} (h : RecsAt w (some ⟨b, off, none⟩) (r :: rs)) : w.cell? ⟨b, off, none⟩ = some (.int .i64 r.1) ∧ w.cell? ⟨b, off + 1, none⟩ = some (.int .i64 r.2) := by
  rcases h with h | ⟨b', off', e, hb, h2⟩
  · cases h
  · injection e with e
    injection e with e1 e2
    subst e1 e2
    have := h2 0 (by simp)
    simpa using this
theorem recs_addr {w : World} {a : Option Addr} {rs : List (Int × Int)} (h : RecsAt w a rs) (hn : 0 < rs.length) : ∃ b off, a = some ⟨b, off, none⟩ ∧ b < w.heap.size := by
  rcases h with rfl | ⟨b, off, e, hb, _⟩
  · simp at hn
  · exact ⟨b, off, e, hb⟩

/-- A slice without an address has no room. -/
def NilOk (a : Option Addr) (c : Nat) : Prop := a = none → c = 0
theorem nilOk_some (x : Addr) (c : Nat) : NilOk (some x) c := fun h => by cases h
theorem nilOk_own {w : World} {B : Nat} {e : TypeId} {size n c : Nat} {a : Option Addr} {xs : List Value} (h : w.ownsRow B e size (.slice a n c) n xs) : NilOk a c := by
  intro ha
  subst ha
  rcases h.2 with ⟨hv, _⟩ | ⟨g, cap, cur, hv, _⟩
  · injection hv
  · injection hv with h1; cases h1

/-- 'append(s, u...)', u records that can be read. -/
theorem wpList_appR {P : Program} {w : World} {ops : Array Oper} {rest : List Oper} {o : Oper} {a : Act} {Q : Exit → Act → World → Prop} {t e : TypeId} {z : Value} {bytes : Nat} (T : SlT P t e z 2 bytes)
    (hgd : o.guard = none) (s y : Operand) (ho : o.op = .call { callee := .builtin .append, args := #[s, y], argTypes := #[t, t] })
    {base : Nat} {v : Value} {n m c : Nat} {xs : List Value} {x : Option Addr} {rs : List (Int × Int)} (hs : a.eval s = v) (hown : w.ownsRow base e 2 v n xs) (hy : a.eval y = .slice x m c) (hu : RecsAt w x rs) (hm : rs.length = m) (hx : NilOk x c)
    (hsmall : n + m ≤ 1099511627776) (hbase : base ≤ w.heap.size)
    (h : ∀ v' w', w'.ownsRow base e 2 v' (n + m) (xs ++ flat encR rs) → w.grownBy w' v.ownBlock → (v'.ownBlock = v.ownBlock ∨ v'.ownBlock = some w.heap.size) → wpList P ops Q rest (a.put o.dst v') w') :
    wpList P ops Q (o :: rest) a w := by
  cases x with
  | none =>
    have hr : rs = [] := by
      rcases hu with h | ⟨_, _, e, _⟩
      · exact h
      · cases e
    subst hr
    obtain rfl : c = 0 := hx rfl
    obtain rfl : m = 0 := hm.symm
    obtain ⟨i, hi, hz, hsz, hby⟩ := T.info
    refine wpList_append_own_none hgd s y t ho base e i 2 T.und hi v n xs hs hown hy ?_
    refine h v w (by simpa [flat] using hown) ⟨rfl, rfl, rfl, Nat.le_refl _, fun _ _ _ => rfl⟩ (.inl rfl)
  | some p =>
    refine wpList_plain hgd fun K hK => ?_
    obtain ⟨v', w', hr, h2, h3, h4⟩ := run_app_tag (P := P) w T base o.type v n xs hown p m c (flat encR rs) (by rw [flat_length encR_len, hm]) (recs_newsN hu) recs_oneN hsmall hbase
    unfold Oper.wp execOp
    simp only [ho, resolve, invoke, builtin, Sem.run_bind, Sem.run_pure, Result.andThen_ok, List.map_toArray, List.map_cons, List.map_nil, hs, hy, hr]
    exact hK _ _ (h v' w' h2 h3 h4)

end Go.Proofs.Ythakkkljlpimlaa

/- Walks: the test of a great code, the cursor's start. -/
namespace Go.Proofs.Ythakkkljlpimlaa
open Go.RowKit
set_option linter.unusedVariables false

set_option maxHeartbeats 400000 in
theorem vBigG_any (a : Option Addr) (n c : Nat) (w : World) (hn : n ≤ 9223372036854775807) :
    Calls Try.prog 4 #[.slice a n c] w fun e w' => e = .returned (.bool (decide (65536 < n))) ∧ w = w' := by
  by_cases h : 65536 < n
  all_goals
    go_enter Try.func4, Try.ntmps4
    go_wp2
    go_ret
    exact ⟨ret_bool (by simp [h]; try omega), rfl⟩

/-- The cursor at the start of a draw. -/
theorem cur_start {w : World} {ac : Option Addr} {c : Nat} {cs : List Int} (hl : cs.length ≤ 65537) (h : BytesAt w ac cs) :
    Cur (w.alloc (.cells #[.slice ac cs.length c, .int .i64 0, .int .u64 0] 57)) w.heap.size ac cs 0 ∧ (cs ≠ [] → ∀ b off, ac = some ⟨b, off, none⟩ → b < w.heap.size) ∧
      Below w.heap.size w (w.alloc (.cells #[.slice ac cs.length c, .int .i64 0, .int .u64 0] 57)) := by
  have HB : Below w.heap.size w (w.alloc (.cells #[.slice ac cs.length c, .int .i64 0, .int .u64 0] 57)) := (Below.refl _ _).alloc (Nat.le_refl _) _
  have HO : cs ≠ [] → ∀ b off, ac = some ⟨b, off, none⟩ → b < w.heap.size := fun h0 b off e => by
    obtain ⟨b', off', e', hb⟩ := h.lt h0
    rw [e] at e'; injection e' with e'; injection e' with e' _; omega
  exact ⟨⟨⟨c, 0, 0, block_new w _, by omega, by omega⟩, h.below (Nat.le_refl _) HB, fun h0 b off e => by have := HO h0 b off e; omega, by omega⟩, HO, HB⟩

end Go.Proofs.Ythakkkljlpimlaa

/- Walks: records arranged by the reference, stably; the draw of FirstDescent and of ProfileOf. -/
namespace Go.Proofs.Ythakkkljlpimlaa
open Go.RowKit Go.Sort
set_option linter.unusedVariables false

/-- Records by their keys, stably. -/
def srtR (l : List (Int × Int)) : List (Int × Int) := Mg.srt (Mg.ltK Prod.fst) l
theorem srtR_len (l : List (Int × Int)) : (srtR l).length = l.length := Mg.srt_length l
theorem srtR_start (zs : List (Int × Int)) : zs = srtR (zs.take 1) ++ zs.drop 1 := by
  cases zs with
  | nil => rfl
  | cons a t => simp [srtR, Mg.srt_one]
theorem insR_start {zs : List (Int × Int)} {i : Nat} (hi : i < zs.length) : srtR (zs.take i) ++ zs.drop i = Mg.insSt (srtR (zs.take i)) (zs.getD i (0, 0)) i (zs.drop (i + 1)) := by
  have hl : (srtR (zs.take i)).length = i := by rw [srtR_len, List.length_take]; omega
  have h1 := Mg.insSt_top (srtR (zs.take i)) (zs.getD i (0, 0)) (zs.drop (i + 1))
  rw [hl] at h1
  rw [h1, List.drop_eq_getElem_cons hi, List.getD_eq_getElem?_getD, List.getElem?_eq_getElem hi]
  rfl
theorem insR_end {l : List (Int × Int)} {x : Int × Int} {k : Nat} {R : List (Int × Int)} (hk : k ≤ l.length) (hd : ∀ b ∈ (srtR l).drop k, x.1 < b.1) (hs : 0 < k → ¬ x.1 < ((srtR l).getD (k - 1) (0, 0)).1) : Mg.insSt (srtR l) x k R = srtR (l ++ [x]) ++ R := by
  have hl : (srtR l).length = l.length := srtR_len l
  refine Mg.insSt_srt (Mg.swK Prod.fst) (lt := Mg.ltK Prod.fst) (by show k ≤ (srtR l).length; omega) (fun b hb => by simpa [Mg.ltK] using hd b hb) (fun h0 => ?_)
  have h1 := hs h0
  rw [List.getD_eq_getElem?_getD, List.getElem?_eq_getElem (by omega)] at h1
  unfold srtR at h1
  simpa [Mg.ltK] using h1
theorem take_snocR {zs : List (Int × Int)} {i : Nat} (hi : i < zs.length) : zs.take i ++ [zs.getD i (0, 0)] = zs.take (i + 1) := by
  rw [List.take_add_one, List.getElem?_eq_getElem hi, List.getD_eq_getElem?_getD, List.getElem?_eq_getElem hi]
  rfl
theorem recs_oneJ {rs : List (Int × Int)} : ∀ u ∈ flat encR rs, u.oneCell' = true := by
  intro u hu
  unfold flat at hu
  obtain ⟨r, _, hr⟩ := List.mem_flatMap.1 hu
  simp [encR] at hr
  rcases hr with rfl | rfl <;> rfl

/-- Records of the call's own, behind a call. -/
def OwnR (w : World) (l : List (Int × Int)) (n : Nat) (e : Ending) (w' : World) : Prop :=
  ∃ (g c : Nat), e = .returned (.slice (some ⟨g, 0, none⟩) n c) ∧ w'.ownsRow w.heap.size 42 2 (.slice (some ⟨g, 0, none⟩) n c) n (flat encR l) ∧ Below w.heap.size w w'

theorem insR_at {A R : List (Int × Int)} {x : Int × Int} {m : Nat} (hm : m < A.length) : (Mg.insSt A x (m + 1) R)[m]? = some (A.getD m (0, 0)) ∧ (Mg.insSt A x (m + 1) R)[m + 1]? = some x := by
  refine ⟨?_, Mg.insSt_at (by omega)⟩
  rw [Mg.insSt_before hm, List.getD_eq_getElem?_getD, List.getElem?_eq_getElem hm]; rfl
theorem insR_stepD {A R : List (Int × Int)} {x y : Int × Int} {m : Nat} (hm : m < A.length) (hy : A.getD m (0, 0) = y) : ((Mg.insSt A x (m + 1) R).set m x).set (m + 1) y = Mg.insSt A x m R := by
  have e1 : A[m] = y := by rw [← hy, List.getD_eq_getElem?_getD, List.getElem?_eq_getElem hm]; rfl
  rw [← e1]; exact Mg.insSt_step hm

end Go.Proofs.Ythakkkljlpimlaa

/- Walks: the merge of two record lists: the reference's. -/
namespace Go.Proofs.Ythakkkljlpimlaa
open Go.RowKit Go.Sort
set_option linter.unusedVariables false

/-- The comparison by keys. -/
abbrev ltR : Int × Int → Int × Int → Bool := Mg.ltK Prod.fst

/-- What a merge gives back. -/
def MergeEnd (w : World) (L R : List (Int × Int)) (n : Nat) (e : Ending) (w' : World) : Prop :=
  ∃ (g c : Nat), e = .returned (.tuple #[.slice (some ⟨g, 0, none⟩) n c, .int .i64 ((Mg.mcnt ltR L R : Nat) : Int)]) ∧ w'.ownsRow w.heap.size 42 2 (.slice (some ⟨g, 0, none⟩) n c) n (flat encR (Mg.mrg ltR L R)) ∧ Below w.heap.size w w'

def lenV : Value → Nat | .slice _ n _ => n | _ => 0

set_option maxRecDepth 100000 in
set_option maxHeartbeats 8000000 in
theorem l5Merge_any (a b : Option Addr) (ca cb n m : Nat) (L R : List (Int × Int)) (w : World) (hn : L.length = n) (hm : R.length = m) (hl : n + m ≤ 1000) (hL : RecsAt w a L) (hR : RecsAt w b R) (ha : NilOk a ca) (hb : NilOk b cb) (hca : n ≤ ca) (hcb : m ≤ cb) :
    Calls Try.prog 24 #[.slice a n ca, .slice b m cb] w (MergeEnd w L R (n + m)) := by
  have E0 := Lib.hid (own_lit (w := w) (e := 42) (size := 2) #[] 0 (by omega) rfl)
  have HB0 := Lib.hid (show Below w.heap.size w (w.alloc (.cells #[] 42)) from (Below.refl _ _).alloc (Nat.le_refl _) _)
  have HL0 := Lib.hid hL; have HR0 := Lib.hid hR
  have HA0 := Lib.hid ha; have HBB0 := Lib.hid hb
  have HN := Lib.hid hn; have HM := Lib.hid hm
  clear hL hR ha hb hn hm
  unfold MergeEnd
  go_enter Try.func24, Try.ntmps24
  go_wp2
  go_loopw [0, 1, 6, 7] (fun x y o k wr => ∃ (xa xb : Option Addr) (i j da db t q : Nat) (A B O : List (Int × Int)), x = .slice xa i da ∧ y = .slice xb j db ∧ k = .int .i64 q ∧ wr.ownsRow w.heap.size 42 2 o t (flat encR O) ∧ Below w.heap.size w wr ∧
      o.ownBlock ≠ none ∧ Hid (A.length = i) ∧ Hid (B.length = j) ∧ t + i + j = n + m ∧ q ≤ t ∧ i ≤ da ∧ j ≤ db ∧ Hid (O ++ Mg.mrg ltR A B = Mg.mrg ltR L R) ∧ Hid (q + Mg.mcnt ltR A B = Mg.mcnt ltR L R) ∧ Hid (RecsAt w xa A) ∧ Hid (RecsAt w xb B) ∧ Hid (NilOk xa da) ∧ Hid (NilOk xb db)) (fun x y _ _ _ => lenV x + lenV y)
  case atStart => exact ⟨a, b, n, m, ca, cb, 0, 0, L, R, [], rfl, rfl, rfl, E0.out, HB0.out, by simp [Value.ownBlock], HN, HM, by omega, by omega, hca, hcb, Lib.hid rfl, Lib.hid (by omega), HL0, HR0, HA0, HBB0⟩
  case round =>
    obtain ⟨xa, xb, i, j, da, db, t, q, A, B, O, rfl, rfl, rfl, hown, hb, hob, HAl, HBl, htm, hq, hida, hjdb, HMG, HCT, HRA, HRB, HNA, HNB⟩ := hrel
    obtain ⟨oa, oc, rfl⟩ := own_slice hown
    have HO := Lib.hid hown; have HB := Lib.hid hb; have HOB := Lib.hid hob
    clear hown hb hob E0 HB0
    have hbs := HB.out.size
    by_cases hij : 0 < i ∧ 0 < j
    case neg =>
      have HF : Hid (O ++ A ++ B = Mg.mrg ltR L R) := by
        show _ = _
        rw [← HMG.out, List.append_assoc]
        rcases Nat.eq_zero_or_pos i with h | h
        · have : A = [] := List.eq_nil_of_length_eq_zero (by rw [HAl.out]; exact h)
          subst this; rw [Mg.mrg_nil]; rfl
        · have : B = [] := List.eq_nil_of_length_eq_zero (by rw [HBl.out]; omega)
          subst this; rw [Mg.nil_mrg, List.append_nil]
      have HC9 : Hid (q = Mg.mcnt ltR L R) := by
        show _ = _
        rw [← HCT.out]
        rcases Nat.eq_zero_or_pos i with h | h
        · have : A = [] := List.eq_nil_of_length_eq_zero (by rw [HAl.out]; exact h)
          subst this; rw [Mg.mcnt_nil]; rfl
        · have : B = [] := List.eq_nil_of_length_eq_zero (by rw [HBl.out]; omega)
          subst this; rw [Mg.nil_mcnt]; rfl
      have HRA2 := Lib.hid (HRA.out.below (Nat.le_refl _) HB.out)
      by_cases hi : 0 < i
      · have q1 : decide (0 < (i : Int)) = true := decide_eq_true (by omega)
        have q2 : decide (0 < (j : Int)) = false := decide_eq_false (by omega)
        go_wp2_with (first | (at_builtin; refine wpList_appR slRec rfl _ _ rfl rfl HO.out rfl HRA2.out HAl.out HNA.out (by omega) hbs ?_; intro v' w2 hown2 hg2 ht2; obtain ⟨a', c, rfl⟩ := own_slice hown2; have HO3 := Lib.hid hown2; have HB3 := Lib.hid (below_app HB.out hbs HO.out (Nat.le_refl _) hg2); have HT3 := Lib.hid ht2; clear hown2 hg2 ht2; have hbs3 := HB3.out.size; have HRB3 := Lib.hid (HRB.out.below (Nat.le_refl _) HB3.out)) | (at_builtin; refine wpList_appR slRec rfl _ _ rfl rfl HO3.out rfl HRB3.out HBl.out HNB.out (by omega) hbs3 ?_; intro v' w4 hown2 hg2 ht2; obtain ⟨a4, c4, rfl⟩ := own_slice hown2; have HO4 := Lib.hid hown2; have HB4 := Lib.hid (below_app HB3.out hbs3 HO3.out (Nat.le_refl _) hg2); have HT4 := Lib.hid ht2; clear hown2 hg2 ht2))
        go_ret2
        obtain ⟨g, rfl, _, _⟩ := own_addr HO4.out (by
          rcases (show (Value.slice a4 (t + i + j) c4).ownBlock = (Value.slice a' (t + i) c).ownBlock ∨ (Value.slice a4 (t + i + j) c4).ownBlock = some w2.heap.size from HT4.out) with h | h
          · rw [h]
            rcases (show (Value.slice a' (t + i) c).ownBlock = (Value.slice oa t oc).ownBlock ∨ (Value.slice a' (t + i) c).ownBlock = some wr.heap.size from HT3.out) with h | h
            · rw [h]; exact HOB.out
            · rw [h]; simp
          · rw [h]; simp)
        refine ⟨g, c4, ?_, ?_, HB4.out⟩
        · rw [← HC9.out]; rfl
        · have := HO4.out
          rw [← flat_append, ← flat_append, HF.out, htm] at this
          exact this
      · have q1 : decide (0 < (i : Int)) = false := decide_eq_false (by omega)
        go_wp2_with (first | (at_builtin; refine wpList_appR slRec rfl _ _ rfl rfl HO.out rfl HRA2.out HAl.out HNA.out (by omega) hbs ?_; intro v' w2 hown2 hg2 ht2; obtain ⟨a', c, rfl⟩ := own_slice hown2; have HO3 := Lib.hid hown2; have HB3 := Lib.hid (below_app HB.out hbs HO.out (Nat.le_refl _) hg2); have HT3 := Lib.hid ht2; clear hown2 hg2 ht2; have hbs3 := HB3.out.size; have HRB3 := Lib.hid (HRB.out.below (Nat.le_refl _) HB3.out)) | (at_builtin; refine wpList_appR slRec rfl _ _ rfl rfl HO3.out rfl HRB3.out HBl.out HNB.out (by omega) hbs3 ?_; intro v' w4 hown2 hg2 ht2; obtain ⟨a4, c4, rfl⟩ := own_slice hown2; have HO4 := Lib.hid hown2; have HB4 := Lib.hid (below_app HB3.out hbs3 HO3.out (Nat.le_refl _) hg2); have HT4 := Lib.hid ht2; clear hown2 hg2 ht2))
        go_ret2
        obtain ⟨g, rfl, _, _⟩ := own_addr HO4.out (by
          rcases (show (Value.slice a4 (t + i + j) c4).ownBlock = (Value.slice a' (t + i) c).ownBlock ∨ (Value.slice a4 (t + i + j) c4).ownBlock = some w2.heap.size from HT4.out) with h | h
          · rw [h]
            rcases (show (Value.slice a' (t + i) c).ownBlock = (Value.slice oa t oc).ownBlock ∨ (Value.slice a' (t + i) c).ownBlock = some wr.heap.size from HT3.out) with h | h
            · rw [h]; exact HOB.out
            · rw [h]; simp
          · rw [h]; simp)
        refine ⟨g, c4, ?_, ?_, HB4.out⟩
        · rw [← HC9.out]; rfl
        · have := HO4.out
          rw [← flat_append, ← flat_append, HF.out, htm] at this
          exact this
    obtain ⟨hi, hj⟩ := hij
    cases A with
    | nil => exact absurd HAl.out (by simp; omega)
    | cons X A =>
    cases B with
    | nil => exact absurd HBl.out (by simp; omega)
    | cons Y B =>
    obtain ⟨pa, oa', rfl, _⟩ := recs_addr HRA.out (by simp)
    obtain ⟨pb, ob', rfl, _⟩ := recs_addr HRB.out (by simp)
    obtain ⟨c0, c1⟩ := recs_head (HRA.out.below (Nat.le_refl _) HB.out)
    obtain ⟨e0, e1⟩ := recs_head (HRB.out.below (Nat.le_refl _) HB.out)
    have q1 : decide (0 < (i : Int)) = true := decide_eq_true (by omega)
    have q2 : decide (0 < (j : Int)) = true := decide_eq_true (by omega)
    obtain ⟨X1, X2⟩ := X
    obtain ⟨Y1, Y2⟩ := Y
    have hlt : ltR (Y1, Y2) (X1, X2) = decide (Y1 < X1) := rfl
    by_cases hyx : Y1 < X1
    · have hz : decide (Y1 < X1) = true := decide_eq_true hyx
      rw [hz] at hlt
      have HMG2 : Hid (O ++ [(Y1, Y2)] ++ Mg.mrg ltR ((X1, X2) :: A) B = Mg.mrg ltR L R) := by
        show _ = _
        rw [← HMG.out, Mg.mrg_lt hlt, List.append_assoc]; rfl
      have HCT2 : Hid (q + 1 + Mg.mcnt ltR ((X1, X2) :: A) B = Mg.mcnt ltR L R) := by
        show _ = _
        rw [← HCT.out, Mg.mcnt_lt _ hlt]; omega
      have HBl2 : Hid (B.length = j - 1) := by show _ = _; have := HBl.out; rw [List.length_cons] at this; omega
      have HRB2 := Lib.hid (recs_tail HRB.out)
      clear HMG HCT hyx hlt HBl HRB
      go_wp2_with fail
      go_quiet (fail)
      have HO2 : Hid ((wr.drewN nq).ownsRow w.heap.size 42 2 (.slice oa t oc) t (flat encR O)) := HO.out
      have HB2 := Lib.hid (below_drewN HB.out nq)
      have d0 : (wr.drewN nq).cell? ⟨pb, ob', none⟩ = some (.int .i64 Y1) := e0
      have d1 : (wr.drewN nq).cell? ⟨pb, ob' + 1, none⟩ = some (.int .i64 Y2) := e1
      generalize wr.drewN nq = wq at HO2 HB2 d0 d1 ⊢
      clear c0 c1 e0 e1 HO HB hbs
      have hbs := HB2.out.size
      have hn40 : t + 1 ≤ 1099511627776 := by omega
      go_wp2_with (at_builtin; refine wpList_app1 slRec rfl _ _ rfl rfl HO2.out [.int .i64 Y1, .int .i64 Y2] rfl rfl (by simp) (by simp [Value.oneCell']) hn40 hbs ?_; intro v' w2 hown' hg ht)
      obtain ⟨a', c', rfl⟩ := own_slice hown'
      have HO3 := Lib.hid hown'
      have HB3 := Lib.hid (below_app HB2.out hbs HO2.out (Nat.le_refl _) hg)
      have HT3 : Hid ((Value.slice a' (t + 1) c').ownBlock ≠ none) := by
        show _ ≠ _
        rcases ht with h | h
        · rw [h]; exact HOB.out
        · rw [h]; simp
      clear hown' hg ht
      go_wp2
      go_roundw
      case rel => exact ⟨_, _, i, j - 1, da, db - 1, t + 1, q + 1, (X1, X2) :: A, B, O ++ [(Y1, Y2)], rfl, rfl, by go_num, by rw [flat_append, flat_one]; exact HO3.out, HB3.out, HT3.out, HAl, HBl2, by omega, by omega, by omega, by omega, HMG2, HCT2, HRA, by
        refine Lib.hid ?_
        split
        · have : B = [] := List.eq_nil_of_length_eq_zero (by rw [HBl2.out]; omega)
          subst this; exact .inl rfl
        · exact HRB2.out, HNA, by
        refine Lib.hid ?_
        split <;> exact nilOk_some _ _⟩
      case measure => simp only [lenV]; omega
    · have hz : decide (Y1 < X1) = false := decide_eq_false hyx
      rw [hz] at hlt
      have HMG2 : Hid (O ++ [(X1, X2)] ++ Mg.mrg ltR A ((Y1, Y2) :: B) = Mg.mrg ltR L R) := by
        show _ = _
        rw [← HMG.out, Mg.mrg_ge hlt, List.append_assoc]; rfl
      have HCT2 : Hid (q + 1 + Mg.mcnt ltR A ((Y1, Y2) :: B) = Mg.mcnt ltR L R) := by
        show _ = _
        rw [← HCT.out, Mg.mcnt_ge _ hlt]; omega
      have HAl2 : Hid (A.length = i - 1) := by show _ = _; have := HAl.out; rw [List.length_cons] at this; omega
      have HRA2 := Lib.hid (recs_tail HRA.out)
      clear HMG HCT hyx hlt HAl HRA
      go_wp2_with fail
      go_quiet (fail)
      have HO2 : Hid ((wr.drewN nq).ownsRow w.heap.size 42 2 (.slice oa t oc) t (flat encR O)) := HO.out
      have HB2 := Lib.hid (below_drewN HB.out nq)
      have d0 : (wr.drewN nq).cell? ⟨pa, oa', none⟩ = some (.int .i64 X1) := c0
      have d1 : (wr.drewN nq).cell? ⟨pa, oa' + 1, none⟩ = some (.int .i64 X2) := c1
      generalize wr.drewN nq = wq at HO2 HB2 d0 d1 ⊢
      clear c0 c1 e0 e1 HO HB hbs
      have hbs := HB2.out.size
      have hn40 : t + 1 ≤ 1099511627776 := by omega
      go_wp2_with (at_builtin; refine wpList_app1 slRec rfl _ _ rfl rfl HO2.out [.int .i64 X1, .int .i64 X2] rfl rfl (by simp) (by simp [Value.oneCell']) hn40 hbs ?_; intro v' w2 hown' hg ht)
      obtain ⟨a', c', rfl⟩ := own_slice hown'
      have HO3 := Lib.hid hown'
      have HB3 := Lib.hid (below_app HB2.out hbs HO2.out (Nat.le_refl _) hg)
      have HT3 : Hid ((Value.slice a' (t + 1) c').ownBlock ≠ none) := by
        show _ ≠ _
        rcases ht with h | h
        · rw [h]; exact HOB.out
        · rw [h]; simp
      clear hown' hg ht
      go_wp2
      go_roundw
      case rel => exact ⟨_, _, i - 1, j, da - 1, db, t + 1, q + 1, A, (Y1, Y2) :: B, O ++ [(X1, X2)], rfl, rfl, by go_num, by rw [flat_append, flat_one]; exact HO3.out, HB3.out, HT3.out, HAl2, HBl, by omega, by omega, by omega, by omega, HMG2, HCT2, by
        refine Lib.hid ?_
        split
        · have : A = [] := List.eq_nil_of_length_eq_zero (by rw [HAl2.out]; omega)
          subst this; exact .inl rfl
        · exact HRA2.out, HRB, by
        refine Lib.hid ?_
        split <;> exact nilOk_some _ _, HNB⟩
      case measure => simp only [lenV]; omega

end Go.Proofs.Ythakkkljlpimlaa

/- Walks: the merge of two record lists: the program's. -/
namespace Go.Proofs.Ythakkkljlpimlaa
open Go.RowKit Go.Sort
set_option linter.unusedVariables false

set_option maxRecDepth 100000 in
set_option maxHeartbeats 8000000 in
theorem merge_any (a b : Option Addr) (ca cb n m : Nat) (L R : List (Int × Int)) (w : World) (hn : L.length = n) (hm : R.length = m) (hl : n + m ≤ 1000) (hL : RecsAt w a L) (hR : RecsAt w b R) (ha : NilOk a ca) (hb : NilOk b cb) (hca : n ≤ ca) (hcb : m ≤ cb) :
    Calls Try.prog 17 #[.slice a n ca, .slice b m cb] w (MergeEnd w L R (n + m)) := by
  have E0 := Lib.hid (own_lit (w := w) (e := 42) (size := 2) #[] 0 (by omega) rfl)
  have HB0 := Lib.hid (show Below w.heap.size w (w.alloc (.cells #[] 42)) from (Below.refl _ _).alloc (Nat.le_refl _) _)
  have HL0 := Lib.hid hL; have HR0 := Lib.hid hR
  have HA0 := Lib.hid ha; have HBB0 := Lib.hid hb
  have HN := Lib.hid hn; have HM := Lib.hid hm
  clear hL hR ha hb hn hm
  unfold MergeEnd
  go_enter Try.func17, Try.ntmps17
  go_wp2
  go_loopw [0, 1, 6, 7] (fun x y o k wr => ∃ (xa xb : Option Addr) (i j da db t q : Nat) (A B O : List (Int × Int)), x = .slice xa i da ∧ y = .slice xb j db ∧ k = .int .i64 q ∧ wr.ownsRow w.heap.size 42 2 o t (flat encR O) ∧ Below w.heap.size w wr ∧
      o.ownBlock ≠ none ∧ Hid (A.length = i) ∧ Hid (B.length = j) ∧ t + i + j = n + m ∧ q ≤ t ∧ i ≤ da ∧ j ≤ db ∧ Hid (O ++ Mg.mrg ltR A B = Mg.mrg ltR L R) ∧ Hid (q + Mg.mcnt ltR A B = Mg.mcnt ltR L R) ∧ Hid (RecsAt w xa A) ∧ Hid (RecsAt w xb B) ∧ Hid (NilOk xa da) ∧ Hid (NilOk xb db)) (fun x y _ _ _ => lenV x + lenV y)
  case atStart => exact ⟨a, b, n, m, ca, cb, 0, 0, L, R, [], rfl, rfl, rfl, E0.out, HB0.out, by simp [Value.ownBlock], HN, HM, by omega, by omega, hca, hcb, Lib.hid rfl, Lib.hid (by omega), HL0, HR0, HA0, HBB0⟩
  case round =>
    obtain ⟨xa, xb, i, j, da, db, t, q, A, B, O, rfl, rfl, rfl, hown, hb, hob, HAl, HBl, htm, hq, hida, hjdb, HMG, HCT, HRA, HRB, HNA, HNB⟩ := hrel
    obtain ⟨oa, oc, rfl⟩ := own_slice hown
    have HO := Lib.hid hown; have HB := Lib.hid hb; have HOB := Lib.hid hob
    clear hown hb hob E0 HB0
    have hbs := HB.out.size
    by_cases hij : 0 < i ∧ 0 < j
    case neg =>
      have HF : Hid (O ++ A ++ B = Mg.mrg ltR L R) := by
        show _ = _
        rw [← HMG.out, List.append_assoc]
        rcases Nat.eq_zero_or_pos i with h | h
        · have : A = [] := List.eq_nil_of_length_eq_zero (by rw [HAl.out]; exact h)
          subst this; rw [Mg.mrg_nil]; rfl
        · have : B = [] := List.eq_nil_of_length_eq_zero (by rw [HBl.out]; omega)
          subst this; rw [Mg.nil_mrg, List.append_nil]
      have HC9 : Hid (q = Mg.mcnt ltR L R) := by
        show _ = _
        rw [← HCT.out]
        rcases Nat.eq_zero_or_pos i with h | h
        · have : A = [] := List.eq_nil_of_length_eq_zero (by rw [HAl.out]; exact h)
          subst this; rw [Mg.mcnt_nil]; rfl
        · have : B = [] := List.eq_nil_of_length_eq_zero (by rw [HBl.out]; omega)
          subst this; rw [Mg.nil_mcnt]; rfl
      have HRA2 := Lib.hid (HRA.out.below (Nat.le_refl _) HB.out)
      by_cases hi : 0 < i
      · have q1 : decide (0 < (i : Int)) = true := decide_eq_true (by omega)
        have q2 : decide (0 < (j : Int)) = false := decide_eq_false (by omega)
        go_wp2_with (first | (at_builtin; refine wpList_appR slRec rfl _ _ rfl rfl HO.out rfl HRA2.out HAl.out HNA.out (by omega) hbs ?_; intro v' w2 hown2 hg2 ht2; obtain ⟨a', c, rfl⟩ := own_slice hown2; have HO3 := Lib.hid hown2; have HB3 := Lib.hid (below_app HB.out hbs HO.out (Nat.le_refl _) hg2); have HT3 := Lib.hid ht2; clear hown2 hg2 ht2; have hbs3 := HB3.out.size; have HRB3 := Lib.hid (HRB.out.below (Nat.le_refl _) HB3.out)) | (at_builtin; refine wpList_appR slRec rfl _ _ rfl rfl HO3.out rfl HRB3.out HBl.out HNB.out (by omega) hbs3 ?_; intro v' w4 hown2 hg2 ht2; obtain ⟨a4, c4, rfl⟩ := own_slice hown2; have HO4 := Lib.hid hown2; have HB4 := Lib.hid (below_app HB3.out hbs3 HO3.out (Nat.le_refl _) hg2); have HT4 := Lib.hid ht2; clear hown2 hg2 ht2))
        go_ret2
        obtain ⟨g, rfl, _, _⟩ := own_addr HO4.out (by
          rcases (show (Value.slice a4 (t + i + j) c4).ownBlock = (Value.slice a' (t + i) c).ownBlock ∨ (Value.slice a4 (t + i + j) c4).ownBlock = some w2.heap.size from HT4.out) with h | h
          · rw [h]
            rcases (show (Value.slice a' (t + i) c).ownBlock = (Value.slice oa t oc).ownBlock ∨ (Value.slice a' (t + i) c).ownBlock = some wr.heap.size from HT3.out) with h | h
            · rw [h]; exact HOB.out
            · rw [h]; simp
          · rw [h]; simp)
        refine ⟨g, c4, ?_, ?_, HB4.out⟩
        · rw [← HC9.out]; rfl
        · have := HO4.out
          rw [← flat_append, ← flat_append, HF.out, htm] at this
          exact this
      · have q1 : decide (0 < (i : Int)) = false := decide_eq_false (by omega)
        go_wp2_with (first | (at_builtin; refine wpList_appR slRec rfl _ _ rfl rfl HO.out rfl HRA2.out HAl.out HNA.out (by omega) hbs ?_; intro v' w2 hown2 hg2 ht2; obtain ⟨a', c, rfl⟩ := own_slice hown2; have HO3 := Lib.hid hown2; have HB3 := Lib.hid (below_app HB.out hbs HO.out (Nat.le_refl _) hg2); have HT3 := Lib.hid ht2; clear hown2 hg2 ht2; have hbs3 := HB3.out.size; have HRB3 := Lib.hid (HRB.out.below (Nat.le_refl _) HB3.out)) | (at_builtin; refine wpList_appR slRec rfl _ _ rfl rfl HO3.out rfl HRB3.out HBl.out HNB.out (by omega) hbs3 ?_; intro v' w4 hown2 hg2 ht2; obtain ⟨a4, c4, rfl⟩ := own_slice hown2; have HO4 := Lib.hid hown2; have HB4 := Lib.hid (below_app HB3.out hbs3 HO3.out (Nat.le_refl _) hg2); have HT4 := Lib.hid ht2; clear hown2 hg2 ht2))
        go_ret2
        obtain ⟨g, rfl, _, _⟩ := own_addr HO4.out (by
          rcases (show (Value.slice a4 (t + i + j) c4).ownBlock = (Value.slice a' (t + i) c).ownBlock ∨ (Value.slice a4 (t + i + j) c4).ownBlock = some w2.heap.size from HT4.out) with h | h
          · rw [h]
            rcases (show (Value.slice a' (t + i) c).ownBlock = (Value.slice oa t oc).ownBlock ∨ (Value.slice a' (t + i) c).ownBlock = some wr.heap.size from HT3.out) with h | h
            · rw [h]; exact HOB.out
            · rw [h]; simp
          · rw [h]; simp)
        refine ⟨g, c4, ?_, ?_, HB4.out⟩
        · rw [← HC9.out]; rfl
        · have := HO4.out
          rw [← flat_append, ← flat_append, HF.out, htm] at this
          exact this
    obtain ⟨hi, hj⟩ := hij
    cases A with
    | nil => exact absurd HAl.out (by simp; omega)
    | cons X A =>
    cases B with
    | nil => exact absurd HBl.out (by simp; omega)
    | cons Y B =>
    obtain ⟨pa, oa', rfl, _⟩ := recs_addr HRA.out (by simp)
    obtain ⟨pb, ob', rfl, _⟩ := recs_addr HRB.out (by simp)
    obtain ⟨c0, c1⟩ := recs_head (HRA.out.below (Nat.le_refl _) HB.out)
    obtain ⟨e0, e1⟩ := recs_head (HRB.out.below (Nat.le_refl _) HB.out)
    have q1 : decide (0 < (i : Int)) = true := decide_eq_true (by omega)
    have q2 : decide (0 < (j : Int)) = true := decide_eq_true (by omega)
    obtain ⟨X1, X2⟩ := X
    obtain ⟨Y1, Y2⟩ := Y
    have hlt : ltR (Y1, Y2) (X1, X2) = decide (Y1 < X1) := rfl
    by_cases hyx : Y1 < X1
    · have hz : decide (Y1 < X1) = true := decide_eq_true hyx
      rw [hz] at hlt
      have HMG2 : Hid (O ++ [(Y1, Y2)] ++ Mg.mrg ltR ((X1, X2) :: A) B = Mg.mrg ltR L R) := by
        show _ = _
        rw [← HMG.out, Mg.mrg_lt hlt, List.append_assoc]; rfl
      have HCT2 : Hid (q + 1 + Mg.mcnt ltR ((X1, X2) :: A) B = Mg.mcnt ltR L R) := by
        show _ = _
        rw [← HCT.out, Mg.mcnt_lt _ hlt]; omega
      have HBl2 : Hid (B.length = j - 1) := by show _ = _; have := HBl.out; rw [List.length_cons] at this; omega
      have HRB2 := Lib.hid (recs_tail HRB.out)
      clear HMG HCT hyx hlt HBl HRB
      go_wp2_with fail
      go_quiet (fail)
      have HO2 : Hid ((wr.drewN nq).ownsRow w.heap.size 42 2 (.slice oa t oc) t (flat encR O)) := HO.out
      have HB2 := Lib.hid (below_drewN HB.out nq)
      have d0 : (wr.drewN nq).cell? ⟨pb, ob', none⟩ = some (.int .i64 Y1) := e0
      have d1 : (wr.drewN nq).cell? ⟨pb, ob' + 1, none⟩ = some (.int .i64 Y2) := e1
      generalize wr.drewN nq = wq at HO2 HB2 d0 d1 ⊢
      clear c0 c1 e0 e1 HO HB hbs
      have hbs := HB2.out.size
      have hn40 : t + 1 ≤ 1099511627776 := by omega
      have HNW := Lib.hid (fun (W : World) => cells_new W [.int .i64 Y1, .int .i64 Y2] 42)
      have d0 : wq.drew.cell? ⟨pb, ob', none⟩ = some (.int .i64 Y1) := d0
      have d1 : wq.drew.cell? ⟨pb, ob' + 1, none⟩ = some (.int .i64 Y2) := d1
      have HO2a : Hid ((wq.drew.alloc (.cells #[.int .i64 Y1, .int .i64 Y2] 42)).ownsRow w.heap.size 42 2 (.slice oa t oc) t (flat encR O)) := HO2.out.alloc _
      have HB2a : Hid (Below w.heap.size w (wq.drew.alloc (.cells #[.int .i64 Y1, .int .i64 Y2] 42))) := HB2.out.drew.alloc hbs _
      have hbsa := HB2a.out.size
      have hdb1 : (1 : Int) ≤ (j : Int) := by omega
      have hdb2 : (j : Int) ≤ (db : Int) := by omega
      go_wp2_with fail
      go_region_law (first | ((try go_split_ands); refine step_appX slRec (by rfl) _ _ (by rfl) w.heap.size (.slice oa t oc) t (flat encR O) _ 1 _ [.int .i64 Y1, .int .i64 Y2] (by rfl) HO2a.out (by rfl) rfl (HNW.out wq.drew) (by simp [Value.oneCell']) hn40 hbsa ?_; intro v' w2 hown' hg ht))
      all_goals
        obtain ⟨a', c', rfl⟩ := own_slice hown'
        have HO3 := Lib.hid hown'
        have HB3 := Lib.hid (below_app HB2a.out hbsa HO2a.out (Nat.le_refl _) hg)
        have HT3 : Hid ((Value.slice a' (t + 1) c').ownBlock ≠ none) := by
          show _ ≠ _
          rcases ht with h | h
          · rw [h]; exact HOB.out
          · rw [h]; simp
        clear hown' hg ht HNW HO2a HB2a HO2 HB2 d0 d1
        go_wp2
        all_goals
          first
            | exact ⟨⟨_, _, _, _, ⟨_, _, i, j - 1, da, rfl, db - 1, rfl, t + 1, q + 1, rfl, (X1, X2) :: A, B, O ++ [(Y1, Y2)], by rw [flat_append, flat_one]; exact HO3.out, HB3.out, HT3.out, HAl, HBl2, by omega, by omega, by omega, by omega, HMG2, HCT2, HRA, HRB2, HNA, Lib.hid (nilOk_some _ _)⟩, rfl, rfl, rfl, by go_num⟩, by simp only [lenV]; omega⟩
            | exact ⟨⟨_, _, _, _, ⟨_, _, i, j - 1, da, rfl, 0, rfl, t + 1, q + 1, rfl, (X1, X2) :: A, B, O ++ [(Y1, Y2)], by rw [flat_append, flat_one]; exact HO3.out, HB3.out, HT3.out, HAl, HBl2, by omega, by omega, by omega, by omega, HMG2, HCT2, HRA, Lib.hid (.inl (List.eq_nil_of_length_eq_zero (by rw [HBl2.out]; omega))), HNA, Lib.hid (nilOk_some _ _)⟩, rfl, rfl, rfl, by go_num⟩, by simp only [lenV]; omega⟩
    · have hz : decide (Y1 < X1) = false := decide_eq_false hyx
      rw [hz] at hlt
      have HMG2 : Hid (O ++ [(X1, X2)] ++ Mg.mrg ltR A ((Y1, Y2) :: B) = Mg.mrg ltR L R) := by
        show _ = _
        rw [← HMG.out, Mg.mrg_ge hlt, List.append_assoc]; rfl
      have HCT2 : Hid (q + 1 + Mg.mcnt ltR A ((Y1, Y2) :: B) = Mg.mcnt ltR L R) := by
        show _ = _
        rw [← HCT.out, Mg.mcnt_ge _ hlt]; omega
      have HAl2 : Hid (A.length = i - 1) := by show _ = _; have := HAl.out; rw [List.length_cons] at this; omega
      have HRA2 := Lib.hid (recs_tail HRA.out)
      clear HMG HCT hyx hlt HAl HRA
      go_wp2_with fail
      go_quiet (fail)
      have HO2 : Hid ((wr.drewN nq).ownsRow w.heap.size 42 2 (.slice oa t oc) t (flat encR O)) := HO.out
      have HB2 := Lib.hid (below_drewN HB.out nq)
      have d0 : (wr.drewN nq).cell? ⟨pa, oa', none⟩ = some (.int .i64 X1) := c0
      have d1 : (wr.drewN nq).cell? ⟨pa, oa' + 1, none⟩ = some (.int .i64 X2) := c1
      generalize wr.drewN nq = wq at HO2 HB2 d0 d1 ⊢
      clear c0 c1 e0 e1 HO HB hbs
      have hbs := HB2.out.size
      have hn40 : t + 1 ≤ 1099511627776 := by omega
      have HNW := Lib.hid (fun (W : World) => cells_new W [.int .i64 X1, .int .i64 X2] 42)
      have d0 : wq.drew.cell? ⟨pa, oa', none⟩ = some (.int .i64 X1) := d0
      have d1 : wq.drew.cell? ⟨pa, oa' + 1, none⟩ = some (.int .i64 X2) := d1
      have HO2a : Hid ((wq.drew.alloc (.cells #[.int .i64 X1, .int .i64 X2] 42)).ownsRow w.heap.size 42 2 (.slice oa t oc) t (flat encR O)) := HO2.out.alloc _
      have HB2a : Hid (Below w.heap.size w (wq.drew.alloc (.cells #[.int .i64 X1, .int .i64 X2] 42))) := HB2.out.drew.alloc hbs _
      have hbsa := HB2a.out.size
      have hdb1 : (1 : Int) ≤ (i : Int) := by omega
      have hdb2 : (i : Int) ≤ (da : Int) := by omega
      go_wp2_with fail
      go_region_law (first | ((try go_split_ands); refine step_appX slRec (by rfl) _ _ (by rfl) w.heap.size (.slice oa t oc) t (flat encR O) _ 1 _ [.int .i64 X1, .int .i64 X2] (by rfl) HO2a.out (by rfl) rfl (HNW.out wq.drew) (by simp [Value.oneCell']) hn40 hbsa ?_; intro v' w2 hown' hg ht))
      all_goals
        obtain ⟨a', c', rfl⟩ := own_slice hown'
        have HO3 := Lib.hid hown'
        have HB3 := Lib.hid (below_app HB2a.out hbsa HO2a.out (Nat.le_refl _) hg)
        have HT3 : Hid ((Value.slice a' (t + 1) c').ownBlock ≠ none) := by
          show _ ≠ _
          rcases ht with h | h
          · rw [h]; exact HOB.out
          · rw [h]; simp
        clear hown' hg ht HNW HO2a HB2a HO2 HB2 d0 d1
        go_wp2
        all_goals
          first
            | exact ⟨⟨_, _, _, _, ⟨_, _, i - 1, j, da - 1, rfl, db, rfl, t + 1, q + 1, rfl, A, (Y1, Y2) :: B, O ++ [(X1, X2)], by rw [flat_append, flat_one]; exact HO3.out, HB3.out, HT3.out, HAl2, HBl, by omega, by omega, by omega, by omega, HMG2, HCT2, HRA2, HRB, Lib.hid (nilOk_some _ _), HNB⟩, rfl, rfl, rfl, by go_num⟩, by simp only [lenV]; omega⟩
            | exact ⟨⟨_, _, _, _, ⟨_, _, i - 1, j, 0, rfl, db, rfl, t + 1, q + 1, rfl, A, (Y1, Y2) :: B, O ++ [(X1, X2)], by rw [flat_append, flat_one]; exact HO3.out, HB3.out, HT3.out, HAl2, HBl, by omega, by omega, by omega, by omega, HMG2, HCT2, Lib.hid (.inl (List.eq_nil_of_length_eq_zero (by rw [HAl2.out]; omega))), HRB, Lib.hid (nilOk_some _ _), HNB⟩, rfl, rfl, rfl, by go_num⟩, by simp only [lenV]; omega⟩

end Go.Proofs.Ythakkkljlpimlaa

/- Plain law: rotations, the symmetric merge and the block-wise stable sort, on lists. No program in sight. -/
namespace Go.Proofs.Ythakkkljlpimlaa.Mg
set_option linter.unusedVariables false
section
variable {α : Type} {lt : α → α → Bool}

/-- Two elements change places. -/
theorem swap2 {P Q R : List α} {x y : α} : ((P ++ x :: (Q ++ y :: R)).set P.length y).set (P.length + 1 + Q.length) x = P ++ y :: (Q ++ x :: R) := by
  rw [List.set_append_right _ _ (Nat.le_refl _), Nat.sub_self, List.set_cons_zero]
  rw [List.set_append_right _ _ (by omega), show P.length + 1 + Q.length - P.length = Q.length + 1 by omega, List.set_cons_succ]
  rw [List.set_append_right _ _ (Nat.le_refl _), Nat.sub_self, List.set_cons_zero]
theorem at1 {P Q R : List α} {x y : α} : (P ++ x :: (Q ++ y :: R))[P.length]? = some x := by
  rw [List.getElem?_append_right (Nat.le_refl _), Nat.sub_self]; rfl
theorem at2 {P Q R : List α} {x y : α} : (P ++ x :: (Q ++ y :: R))[P.length + 1 + Q.length]? = some y := by
  rw [List.getElem?_append_right (by omega), show P.length + 1 + Q.length - P.length = Q.length + 1 by omega, List.getElem?_cons_succ, List.getElem?_append_right (Nat.le_refl _), Nat.sub_self]; rfl

/-- Two ranges of like length, the first k places changed. -/
def swSt (pre A M B post : List α) (k : Nat) : List α := pre ++ B.take k ++ (A.drop k ++ M ++ A.take k ++ (B.drop k ++ post))
theorem swSt_zero (pre A M B post : List α) : swSt pre A M B post 0 = pre ++ A ++ M ++ B ++ post := by simp [swSt]
theorem swSt_end {pre A M B post : List α} {n : Nat} (hA : A.length = n) (hB : B.length = n) : swSt pre A M B post n = pre ++ B ++ M ++ A ++ post := by
  unfold swSt
  rw [List.take_of_length_le (by omega), List.drop_eq_nil_of_le (by omega), List.take_of_length_le (by omega), List.drop_eq_nil_of_le (by omega)]
  simp
theorem swSt_form {pre A M B post : List α} {k : Nat} (hA : k < A.length) (hB : k < B.length) : swSt pre A M B post k = (pre ++ B.take k) ++ A[k] :: ((A.drop (k + 1) ++ M ++ A.take k) ++ B[k] :: (B.drop (k + 1) ++ post)) := by
  unfold swSt
  rw [List.drop_eq_getElem_cons hA, List.drop_eq_getElem_cons hB]
  simp only [List.append_assoc, List.cons_append]
theorem swSt_next {pre A M B post : List α} {k : Nat} (hA : k < A.length) (hB : k < B.length) : swSt pre A M B post (k + 1) = (pre ++ B.take k) ++ B[k] :: ((A.drop (k + 1) ++ M ++ A.take k) ++ A[k] :: (B.drop (k + 1) ++ post)) := by
  unfold swSt
  rw [List.take_add_one, List.take_add_one, List.getElem?_eq_getElem hA, List.getElem?_eq_getElem hB]
  simp only [Option.toList_some, List.append_assoc, List.cons_append, List.nil_append]
theorem swSt_step {pre A M B post : List α} {k a b : Nat} (hA : k < A.length) (hB : k < B.length) (ha : pre.length = a) (hb : a + A.length + M.length = b) :
    (swSt pre A M B post k)[a + k]? = some A[k] ∧ (swSt pre A M B post k)[b + k]? = some B[k] ∧ ((swSt pre A M B post k).set (a + k) B[k]).set (b + k) A[k] = swSt pre A M B post (k + 1) := by
  have e1 : (pre ++ B.take k).length = a + k := by simp; omega
  have e2 : (pre ++ B.take k).length + 1 + (A.drop (k + 1) ++ M ++ A.take k).length = b + k := by simp; omega
  rw [swSt_form hA hB, swSt_next hA hB, ← e1, ← e2]
  exact ⟨at1, at2, swap2⟩

/-- An element on its way up: behind k of those that go ahead of it. -/
def upSt (x : α) (R : List α) (k : Nat) : List α := R.take k ++ x :: R.drop k
theorem upSt_zero (x : α) (R : List α) : upSt x R 0 = x :: R := by simp [upSt]
theorem upSt_step {x : α} {R pre post : List α} {k a : Nat} (h : k < R.length) (ha : pre.length = a) :
    (pre ++ upSt x R k ++ post)[a + k]? = some x ∧ (pre ++ upSt x R k ++ post)[a + k + 1]? = some R[k] ∧ ((pre ++ upSt x R k ++ post).set (a + k) R[k]).set (a + k + 1) x = pre ++ upSt x R (k + 1) ++ post := by
  have e0 : pre ++ upSt x R k ++ post = (pre ++ R.take k) ++ x :: (([] : List α) ++ R[k] :: (R.drop (k + 1) ++ post)) := by
    unfold upSt
    rw [List.drop_eq_getElem_cons h]; simp only [List.append_assoc, List.cons_append, List.nil_append]
  have e1 : (pre ++ R.take k).length = a + k := by simp; omega
  have e2 : pre ++ upSt x R (k + 1) ++ post = (pre ++ R.take k) ++ R[k] :: (([] : List α) ++ x :: (R.drop (k + 1) ++ post)) := by
    unfold upSt
    rw [List.take_add_one, List.getElem?_eq_getElem h]; simp only [Option.toList_some, List.append_assoc, List.cons_append, List.nil_append]
  rw [e0, e2, ← e1]
  have h2 := at2 (P := pre ++ R.take k) (Q := []) (x := x) (y := R[k]) (R := R.drop (k + 1) ++ post)
  have h3 := swap2 (P := pre ++ R.take k) (Q := []) (x := x) (y := R[k]) (R := R.drop (k + 1) ++ post)
  simp only [List.length_nil, Nat.add_zero] at h2 h3
  exact ⟨at1, h2, h3⟩

/-- Halving: what lies ahead of the place found, and behind it. -/
theorem asc_take (S : SW lt) {R : List α} {x : α} {k : Nat} (hR : Asc lt R) (hk : k ≤ R.length) (h : ∀ (h0 : 0 < k), lt (R[k - 1]'(by omega)) x = true) : ∀ y ∈ R.take k, lt y x = true := by
  intro y hy
  obtain ⟨i, hi, rfl⟩ := List.mem_take_iff_getElem.1 hy
  have hi' : i < k := by omega
  have h1 := h (by omega)
  by_cases e : i = k - 1
  · subst e; exact h1
  · have := List.pairwise_iff_getElem.1 hR i (k - 1) (by omega) (by omega) (by omega)
    rcases S.neg _ (R[i]) _ h1 with h2 | h2
    · rw [this] at h2; cases h2
    · exact h2
theorem asc_drop (S : SW lt) {R : List α} {x : α} {k : Nat} (hR : Asc lt R) (h : ∀ (h0 : k < R.length), lt R[k] x = false) : ∀ y ∈ R.drop k, lt y x = false := by
  intro y hy
  obtain ⟨i, hi, rfl⟩ := List.mem_drop_iff_getElem.1 hy
  have h1 := h (by omega)
  by_cases e : i = 0
  · subst e; simpa using h1
  · have := List.pairwise_iff_getElem.1 hR k (k + i) (by omega) (by omega) (by omega)
    exact le_trans' S (by simpa [Nat.add_comm] using h1) (by simpa [Nat.add_comm] using this)
theorem asc_take' (S : SW lt) {R : List α} {x : α} {k : Nat} (hR : Asc lt R) (hk : k ≤ R.length) (h : ∀ (h0 : 0 < k), lt x (R[k - 1]'(by omega)) = false) : ∀ y ∈ R.take k, lt x y = false := by
  intro y hy
  obtain ⟨i, hi, rfl⟩ := List.mem_take_iff_getElem.1 hy
  have hi' : i < k := by omega
  have h1 := h (by omega)
  by_cases e : i = k - 1
  · subst e; exact h1
  · have := List.pairwise_iff_getElem.1 hR i (k - 1) (by omega) (by omega) (by omega)
    exact le_trans' S this h1
theorem asc_drop' (S : SW lt) {R : List α} {x : α} {k : Nat} (hR : Asc lt R) (h : ∀ (h0 : k < R.length), lt x R[k] = true) : ∀ y ∈ R.drop k, lt x y = true := by
  intro y hy
  obtain ⟨i, hi, rfl⟩ := List.mem_drop_iff_getElem.1 hy
  have h1 := h (by omega)
  by_cases e : i = 0
  · subst e; simpa using h1
  · have := List.pairwise_iff_getElem.1 hR k (k + i) (by omega) (by omega) (by omega)
    rcases S.neg _ (R[k + i]) _ h1 with h2 | h2
    · simpa [Nat.add_comm] using h2
    · rw [this] at h2; cases h2

/-- One element merged ahead, one behind. -/
theorem mrg_one {x : α} {R : List α} {k : Nat} (h1 : ∀ y ∈ R.take k, lt y x = true) (h2 : ∀ y ∈ R.drop k, lt y x = false) : mrg lt [x] R = upSt x R k := by
  have := mrg_split (lt := lt) [] (R.take k) [x] (R.drop k) (by simp) (by simpa using h1)
  have h3 : mrg lt [x] (R.drop k) = [x] ++ R.drop k := mrg_ahead (by simpa using h2)
  rw [List.take_append_drop, List.nil_append, mrg_nil, h3] at this
  rw [this]; rfl
theorem mrg_last {x : α} {L : List α} {k : Nat} (h1 : ∀ y ∈ L.take k, lt x y = false) (h2 : ∀ y ∈ L.drop k, lt x y = true) : mrg lt L [x] = L.take k ++ x :: L.drop k := by
  have := mrg_split (lt := lt) (L.take k) [] (L.drop k) [x] (by simpa using h1) (by simp)
  have h3 : mrg lt (L.drop k) [x] = [x] ++ L.drop k := mrg_behind (by simpa using h2)
  rw [List.take_append_drop, List.nil_append, nil_mrg, h3] at this
  rw [this]; simp

/-- THE SYMMETRIC CUT. -/
theorem mrg_cut (S : SW lt) {L R : List α} {s e : Nat} (hL : Asc lt L) (hR : Asc lt R) (hs : s ≤ L.length) (he : e ≤ R.length)
    (h1 : ∀ (h0 : 0 < s) (h2 : e < R.length), lt R[e] (L[s - 1]'(by omega)) = false) (h2 : ∀ (h0 : 0 < e) (h2 : s < L.length), lt (R[e - 1]'(by omega)) L[s] = true) :
    mrg lt L R = mrg lt (L.take s) (R.take e) ++ mrg lt (L.drop s) (R.drop e) := by
  have := mrg_split (lt := lt) (L.take s) (R.take e) (L.drop s) (R.drop e) (fun x hx y hy => ?_) (fun x hx y hy => ?_)
  · rwa [List.take_append_drop, List.take_append_drop] at this
  · have hx0 : 0 < s := by
      rcases Nat.eq_zero_or_pos s with h | h
      · subst h; simp at hx
      · exact h
    have hy0 : e < R.length := by
      rcases Nat.lt_or_ge e R.length with h | h
      · exact h
      · rw [List.drop_eq_nil_of_le h] at hy; cases hy
    have k1 := h1 hx0 hy0
    have k2 : lt y (L[s - 1]'(by omega)) = false := asc_drop S hR (fun _ => k1) y hy
    obtain ⟨i, hi, rfl⟩ := List.mem_take_iff_getElem.1 hx
    by_cases q : i = s - 1
    · subst q; exact k2
    · have := List.pairwise_iff_getElem.1 hL i (s - 1) (by omega) (by omega) (by omega)
      exact le_trans' S this k2
  · have hx0 : s < L.length := by
      rcases Nat.lt_or_ge s L.length with h | h
      · exact h
      · rw [List.drop_eq_nil_of_le h] at hx; cases hx
    have hy0 : 0 < e := by
      rcases Nat.eq_zero_or_pos e with h | h
      · subst h; simp at hy
      · exact h
    have k1 := h2 hy0 hx0
    have k2 : lt y L[s] = true := asc_take S hR he (fun _ => k1) y hy
    obtain ⟨i, hi, rfl⟩ := List.mem_drop_iff_getElem.1 hx
    by_cases q : i = 0
    · subst q; simpa using k2
    · have := List.pairwise_iff_getElem.1 hL s (s + i) (by omega) (by omega) (by omega)
      rcases S.neg _ (L[s + i]) _ k2 with h | h
      · simpa [Nat.add_comm] using h
      · rw [this] at h; cases h

/-- Sorted block by block. -/
def bl (lt : α → α → Bool) (s : Nat) : Nat → List α → List α
  | 0, l => l
  | f + 1, l => if l.length ≤ s then srt lt l else srt lt (l.take s) ++ bl lt s f (l.drop s)
def blk (lt : α → α → Bool) (s : Nat) (l : List α) : List α := bl lt s (l.length + 1) l
theorem bl_fuel {s : Nat} (hs : 0 < s) : ∀ (f g : Nat) (l : List α), l.length < f → l.length < g → bl lt s f l = bl lt s g l
  | 0, _, _, h, _ => by omega
  | _, 0, _, _, h => by omega
  | f + 1, g + 1, l, h1, h2 => by
    unfold bl
    split
    · rfl
    · rw [bl_fuel hs f g (l.drop s) (by simp; omega) (by simp; omega)]
theorem blk_short {s : Nat} {l : List α} (h : l.length ≤ s) : blk lt s l = srt lt l := by
  unfold blk bl; rw [if_pos h]
theorem blk_long {s : Nat} {l : List α} (hs : 0 < s) (h : s < l.length) : blk lt s l = srt lt (l.take s) ++ blk lt s (l.drop s) := by
  unfold blk
  rw [bl, if_neg (by omega)]
  congr 1
  exact bl_fuel hs _ _ _ (by simp; omega) (by simp)
/-- A whole block, be it the last. -/
theorem blk_next {s : Nat} {l : List α} (hs : 0 < s) (h : s ≤ l.length) : blk lt s l = srt lt (l.take s) ++ blk lt s (l.drop s) := by
  rcases Nat.lt_or_ge s l.length with h1 | h1
  · exact blk_long hs h1
  · have h2 : l.drop s = [] := List.drop_eq_nil_of_le h1
    rw [blk_short h1, h2, List.take_of_length_le h1, blk_short (by simp), srt_nil, List.append_nil]
theorem blk_length {s : Nat} (hs : 0 < s) : ∀ (n : Nat) (l : List α), l.length ≤ n → (blk lt s l).length = l.length
  | 0, l, h => by
    rw [blk_short (by omega), srt_length]
  | n + 1, l, h => by
    rcases Nat.lt_or_ge s l.length with h1 | h1
    · rw [blk_long hs h1, List.length_append, srt_length, blk_length hs n (l.drop s) (by simp; omega)]
      simp; omega
    · rw [blk_short h1, srt_length]
theorem blk_len {s : Nat} (hs : 0 < s) (l : List α) : (blk lt s l).length = l.length := blk_length hs _ l (Nat.le_refl _)
/-- Two whole blocks side by side give one of twice the size. -/
theorem blk_two (S : SW lt) {s : Nat} {l : List α} (hs : 0 < s) (h : 2 * s ≤ l.length) :
    blk lt s l = srt lt (l.take s) ++ srt lt ((l.drop s).take s) ++ blk lt s (l.drop (2 * s)) ∧ mrg lt (srt lt (l.take s)) (srt lt ((l.drop s).take s)) = srt lt (l.take (2 * s)) := by
  constructor
  · rw [blk_next hs (by omega), blk_next hs (by simp; omega), List.drop_drop, ← List.append_assoc, show s + s = 2 * s by omega]
  · rw [srt_mrg S]
    congr 1
    rw [show 2 * s = s + s by omega, List.take_add]
/-- A whole block and a shorter one behind it. -/
theorem blk_rest (S : SW lt) {s : Nat} {l : List α} (hs : 0 < s) (h : s < l.length) (h2 : l.length ≤ 2 * s) :
    blk lt s l = srt lt (l.take s) ++ srt lt (l.drop s) ∧ mrg lt (srt lt (l.take s)) (srt lt (l.drop s)) = srt lt l := by
  constructor
  · rw [blk_long hs h, blk_short (l := l.drop s) (by simp; omega)]
  · rw [srt_mrg S, List.take_append_drop]
end
end Go.Proofs.Ythakkkljlpimlaa.Mg
