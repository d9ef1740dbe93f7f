/- Several texts in one: lemmas and walks of the functions that the laws reach. -/
import Derived.Test.YthakkkljlpimlaaY0
import Derived.Lib.SliceRun
import Derived.Deep.RegionLaw
import Derived.BigRegion
import Derived.Lib.Hide
import Derived.Sort.Grow
import Derived.Deep.QuietTactic

/- Walks: keys. -/
namespace Go.Proofs.Ythakkkljlpimlaa
open Go.RowKit
set_option linter.unusedVariables false

def okKey (x : Int) : Bool := inB x (-100000) 100000
def okList (zs : List Int) : Bool := decide (zs.length ≤ 64) && zs.all okKey

set_option maxHeartbeats 400000 in
theorem isKey_any (n : Int) (w : World) :
    Calls Try.prog 39 #[.int .i64 n] w fun e w' => e = .returned (.bool (okKey n)) ∧ w = w' := by
  go_enter Try.func39, Try.ntmps39
  go_wp2_with (go_at_call 40; refine (in_any _ _ _ _).mono ?_; rintro e w' ⟨rfl, rfl⟩)
  go_ret
  exact ⟨rfl, rfl⟩

theorem okList_no {zs : List Int} {k : Nat} (hk : k < zs.length) (h : okKey (zs.getD k 0) = false) : okList zs = false := by
  unfold okList
  rw [Bool.and_eq_false_iff]; right
  rw [List.all_eq_false]
  exact ⟨zs[k], List.getElem_mem hk, by simpa [List.getD, hk] using h⟩

theorem okList_yes {zs : List Int} (h : ∀ j, j < zs.length → okKey (zs.getD j 0) = true) : okList zs = decide (zs.length ≤ 64) := by
  unfold okList
  have : zs.all okKey = true := by
    rw [List.all_eq_true]
    intro x hx
    obtain ⟨j, hj, rfl⟩ := List.getElem_of_mem hx
    have := h j hj
    simpa [List.getD, hj] using this
  rw [this, Bool.and_true]

end Go.Proofs.Ythakkkljlpimlaa

/- Walks: records: copies, comparisons, checks. -/
namespace Go.Proofs.Ythakkkljlpimlaa
open Go.RowKit
set_option linter.unusedVariables false

theorem Try.infoRec : (Try.prog.info? 42).map (fun i => (i.zero, i.size, i.bytes)) = some (some (.agg #[.int .i64 0, .int .i64 0]), 2, 16) := by kernel_rfl
theorem slRec : SlT Try.prog 24 42 (.agg #[.int .i64 0, .int .i64 0]) 2 16 := ⟨Try.underlying24, info_parts Try.infoRec, rfl, by decide, by decide⟩

def okRec (r : Int × Int) : Bool := okKey r.1 && inB r.2 0 999
def okRecs (rs : List (Int × Int)) : Bool := decide (rs.length ≤ 64) && rs.all okRec

theorem okRecs_no {zs : List (Int × Int)} {k : Nat} (hk : k < zs.length) (h : okRec (zs.getD k (0, 0)) = false) : okRecs zs = false := by
  unfold okRecs
  rw [Bool.and_eq_false_iff]; right
  rw [List.all_eq_false]
  exact ⟨zs[k], List.getElem_mem hk, by simpa [List.getD, hk] using h⟩

theorem okRecs_yes {zs : List (Int × Int)} (h : ∀ j, j < zs.length → okRec (zs.getD j (0, 0)) = true) : okRecs zs = decide (zs.length ≤ 64) := by
  unfold okRecs
  have : zs.all okRec = true := by
    rw [List.all_eq_true]
    intro x hx
    obtain ⟨j, hj, rfl⟩ := List.getElem_of_mem hx
    have := h j hj
    simpa [List.getD, hj] using this
  rw [this, Bool.and_true]

theorem okRecs_at {zs : List (Int × Int)} (h : okRecs zs = true) {k : Nat} (hk : k < zs.length) : -100000 ≤ (zs.getD k (0, 0)).1 ∧ (zs.getD k (0, 0)).1 ≤ 100000 ∧ 0 ≤ (zs.getD k (0, 0)).2 ∧ (zs.getD k (0, 0)).2 ≤ 999 := by
  unfold okRecs at h
  simp only [Bool.and_eq_true, List.all_eq_true] at h
  have := h.2 zs[k] (List.getElem_mem hk)
  simp [okRec, okKey, inB] at this
  simp [List.getD, hk]
  omega

theorem okRecs_len {zs : List (Int × Int)} (h : okRecs zs = true) : zs.length ≤ 64 := by
  unfold okRecs at h; simp at h; exact h.1

set_option maxHeartbeats 400000 in
theorem l2Records_any (a : Option Addr) (cap : Nat) (zs : List (Int × Int)) (w : World) (hbig : zs.length ≤ 9223372036854775807) (h : RecsAt w a zs) :
    Calls Try.prog 21 #[.slice a zs.length cap] w fun e w' => e = .returned (.bool (okRecs zs)) ∧ w = w' := by
  have H := Lib.hid h; clear h
  go_enter Try.func21, Try.ntmps21
  go_wp2
  go_loop [3] (fun i => ∃ k : Nat, k ≤ zs.length ∧ k ≤ 65 ∧ i = .int .i64 k ∧ ∀ j, j < k → okRec (zs.getD j (0, 0)) = true) (fun i => zs.length - (intOf i).toNat)
  case atStart => exact ⟨0, by omega, by omega, rfl, by intro j h; omega⟩
  case round =>
    obtain ⟨k, hk, hk2, rfl, hall⟩ := hrel
    have Hall := Lib.hid hall; clear hall
    by_cases h1 : k < zs.length
    · by_cases h2 : k ≤ 64
      · obtain ⟨b, off, rfl, hc1, hc2⟩ := H.out.at h1
        have hX : okRec (zs.getD k (0, 0)) = (inB (zs.getD k (0, 0)).1 (-100000) 100000 && inB (zs.getD k (0, 0)).2 0 999) := rfl
        have HX := Lib.hid hX; clear hX
        generalize (zs.getD k (0, 0)).1 = x at hc1 HX
        generalize (zs.getD k (0, 0)).2 = y at hc2 HX
        cases hq : inB x (-100000) 100000
        · have HL := Lib.hid (hq ▸ l1In_any x (-100000) 100000 w)
          have HQ := Lib.hid hq; clear hq
          go_wp2_with (go_at_call 31; refine HL.out.mono ?_; rintro e w' ⟨rfl, rfl⟩)
          go_ret
          exact ⟨ret_bool (by rw [okRecs_no h1 (by rw [HX.out, HQ.out, Bool.false_and])]), rfl⟩
        · have HL := Lib.hid (hq ▸ l1In_any x (-100000) 100000 w)
          have HQ := Lib.hid hq; clear hq
          have HL2 := Lib.hid (l1In_any y 0 999 w)
          go_wp2_with (first | (go_at_call 31; first | (with_reducible refine HL.out.mono ?_) | (with_reducible refine HL2.out.mono ?_); rintro e w' ⟨rfl, rfl⟩))
          · have hx : (!inB y 0 999) = true := by assumption
            go_ret
            exact ⟨ret_bool (by rw [okRecs_no h1 (by rw [HX.out, HQ.out]; simpa using hx)]), rfl⟩
          · have hx : (!inB y 0 999) = false := by assumption
            go_round
            case rel =>
              refine ⟨k + 1, by omega, by omega, by go_num, fun j hj => ?_⟩
              rcases Nat.lt_succ_iff_lt_or_eq.1 hj with h | rfl
              · exact Hall.out j h
              · rw [HX.out, HQ.out]; simpa using hx
            case measure => simp [intOf]; omega
      · go_wp2
        go_ret
        have : okRecs zs = false := by unfold okRecs; simp; omega
        exact ⟨ret_bool (by rw [this]; simp; omega), rfl⟩
    · go_wp2
      go_ret
      exact ⟨ret_bool (by rw [okRecs_yes (fun j hj => Hall.out j (by omega))]; exact decide_eq_decide.2 (by omega)), rfl⟩

theorem ownRecs {w : World} {base : Nat} {a : Option Addr} {n c : Nat} {rs : List (Int × Int)} (h : w.ownsRow base 42 2 (.slice a n c) n (flat encR rs)) : RecsAt w a rs := recs_of_own h

end Go.Proofs.Ythakkkljlpimlaa

/- Walks of the library: one element deleted from an owned row (slices.Delete), of integers and of lists of records. -/
namespace Go.Proofs.Ythakkkljlpimlaa
open Go.RowKit Go.Sort
set_option linter.unusedVariables false

theorem Try.infoLsA : (Try.prog.info? 24).map (fun i => (i.zero, i.size, i.bytes)) = some (some (.slice none 0 0), 1, 24) := by kernel_rfl
theorem slLsA : SlT Try.prog 36 24 (.slice none 0 0) 1 24 := ⟨Try.underlying36, info_parts Try.infoLsA, rfl, by decide, by decide⟩

/-- append in place, within an owned row, as a step of a region that draws. -/
theorem step_appIn {P : Program} {w : World} {ops : Array Oper} {o : Oper} {a : Act} {K : Act → World → Prop} {Q : Exit → Act → World → Prop} {E : Prop} {t e : TypeId} {z : Value} {size bytes : Nat} (T : SlT P t e z size bytes)
    (hgd : o.guard = none) (d s : Operand) (ho : o.op = .call { callee := .builtin .append, args := #[d, s], argTypes := #[t, t] })
    {base g n c : Nat} {xs : List Value} (hown : w.ownsRow base e size (.slice (some ⟨g, 0, none⟩) n c) n xs)
    (i : Nat) (hd : a.eval d = .slice (some ⟨g, 0, none⟩) i c) (ad : Addr) (sl sc : Nat) (hs : a.eval s = .slice (some ad) sl sc)
    (news : List Value) (hl : news.length = sl * size) (hsrc : ∀ j v, news[j]? = some v → w.cell? (ad.add j) = some v) (h1 : ∀ v ∈ news, v.oneCell' = true) (hfit : i + sl ≤ n)
    (hK : ∀ w', w'.ownsRow base e size (.slice (some ⟨g, 0, none⟩) n c) n (xs.take (i * size) ++ news ++ xs.drop (i * size + news.length)) → w.grownBy w' (some g) → K (a.put o.dst (.slice (some ⟨g, 0, none⟩) (i + sl) c)) w') :
    if Region.wanted o (yielded ops a.tmps) = true then Oper.wp P o a w K Q else E := by
  have hw : Region.wanted o (yielded ops a.tmps) = true := by simp [Region.wanted, hgd]
  rw [if_pos hw]
  obtain ⟨inf, hi, _, hsz, _⟩ := T.info
  have hlen := hown.1
  rcases hown.2 with ⟨h2, _⟩ | ⟨g', cap, cur, hv, hb, hg, hn, hm, hsc, ht⟩
  · cases h2
  · simp only [Value.slice.injEq, Option.some.injEq, Addr.mk.injEq] at hv
    obtain ⟨⟨rfl, _, _⟩, _, rfl⟩ := hv
    have hle : n * size ≤ c * size := Nat.mul_le_mul_right _ hn
    have hle2 : (i + sl) * size ≤ n * size := Nat.mul_le_mul_right _ hfit
    rw [Nat.add_mul] at hle2
    have hr := run_append_room (P := P) w t o.type e inf T.und hi g i c cur hg ad sl sc news (by rw [hsz]; exact hl) hsrc h1 (by omega) (by rw [hsc, hsz]; omega)
    have hcl : cur.toList.length = c * size := by rw [Array.length_toList, hsc]
    unfold Oper.wp execOp
    simp only [ho, resolve, invoke, builtin, Sem.run_bind, Sem.run_pure, Result.andThen_ok, List.map_toArray, List.map_cons, List.map_nil, hd, hs, hr, hsz]
    refine hK _ ⟨?_, .inr ⟨g, c, _, rfl, hb, setRow_heap w g cur _ e _ hg, hn, hm, ?_, ?_⟩⟩ (setRow_grownG w g _)
    · simp only [List.length_append, List.length_take, List.length_drop, hlen]; omega
    · simp only [List.size_toArray, List.length_append, List.length_take, List.length_drop, hcl]; omega
    · show List.take (n * size) (cur.toList.take (i * size) ++ news ++ cur.toList.drop (i * size + news.length)) = _
      rw [← ht]
      apply List.ext_getElem?
      intro j
      simp only [List.getElem?_take, List.getElem?_append, List.length_append, List.length_take, List.getElem?_drop, hcl]
      by_cases hj : j < n * size
      · rw [if_pos hj]
        by_cases h3 : j < i * size + news.length
        · have e1 : j < min (i * size) (c * size) + news.length := by omega
          have e2 : j < min (i * size) (min (n * size) (c * size)) + news.length := by omega
          rw [if_pos e1, if_pos e2]
          by_cases h4 : j < i * size
          · have a1 : j < min (i * size) (c * size) := by omega
            have a2 : j < min (i * size) (min (n * size) (c * size)) := by omega
            rw [if_pos a1, if_pos a2]
            simp only [if_pos h4, if_pos hj]
          · have a1 : ¬ j < min (i * size) (c * size) := by omega
            have a2 : ¬ j < min (i * size) (min (n * size) (c * size)) := by omega
            rw [if_neg a1, if_neg a2]
            congr 1; omega
        · have e1 : ¬ j < min (i * size) (c * size) + news.length := by omega
          have e2 : ¬ j < min (i * size) (min (n * size) (c * size)) + news.length := by omega
          rw [if_neg e1, if_neg e2, if_pos (by omega)]
          congr 1; omega
      · rw [if_neg hj]
        symm
        rw [if_neg (by omega), if_neg (by omega)]

theorem setCells_one (w : World) (b o : Nat) (v : Value) : w.setCells b o [v] = w.setCell ⟨b, o, none⟩ v := rfl

theorem del_cells {α : Type} (xs : List α) (n p : Nat) (z : α) (hl : xs.length = n) (hp : p < n) :
    ((xs.take (p * 1) ++ xs.drop (p + 1) ++ xs.drop (p * 1 + (xs.drop (p + 1)).length)).set (n - 1) z).take ((n - 1) * 1) = xs.take p ++ xs.drop (p + 1) := by
  rw [Nat.mul_one, Nat.mul_one, List.take_set_of_le (by omega)]
  have h : (xs.take p ++ xs.drop (p + 1)).length = n - 1 := by rw [List.length_append, List.length_take, List.length_drop]; omega
  rw [← h]
  exact List.take_left

def DelEnd (base : Nat) (e : TypeId) (w : World) (g n c : Nat) (xs : List Value) (en : Ending) (w' : World) : Prop :=
  en = .returned (.slice (some ⟨g, 0, none⟩) (n - 1) c) ∧ w'.ownsRow base e 1 (.slice (some ⟨g, 0, none⟩) (n - 1) c) (n - 1) xs ∧ w.grownBy w' (some g)

set_option maxRecDepth 100000 in
set_option maxHeartbeats 4000000 in
theorem delI_any (base g n c p : Nat) (P1 P2 : Int) (xs : List Value) (w : World) (hp1 : P1 = (p : Int)) (hp2 : P2 = (p : Int) + 1) (hn : n ≤ 1000000) (hp : p < n) (hv1 : ∀ v ∈ xs, v.oneCell' = true)
    (h : w.ownsRow base 3 1 (.slice (some ⟨g, 0, none⟩) n c) n xs) :
    Calls Try.prog 41 #[.slice (some ⟨g, 0, none⟩) n c, .int .i64 P1, .int .i64 P2] w (DelEnd base 3 w g n c (xs.take p ++ xs.drop (p + 1))) := by
  subst hp1
  subst hp2
  have hlen : xs.length = n := by have := h.1; omega
  have H := Lib.hid h
  obtain ⟨hc1, hc2⟩ := own_capG h
  have hlen2 : (xs.drop (p + 1)).length = n - (p + 1) := by rw [List.length_drop, hlen]
  obtain ⟨A, hA, hsrc⟩ : ∃ A : Addr, (if c = p + 1 then (some (⟨g, 0, none⟩ : Addr)) else some ⟨g, p + 1, none⟩) = some A ∧ Hid (∀ t u, (xs.drop (p + 1))[t]? = some u → w.drew.cell? (A.add t) = some u) := by
    by_cases hc : c = p + 1
    · refine ⟨⟨g, 0, none⟩, by simp [hc], fun t u hu => ?_⟩
      have h0 : (xs.drop (p + 1)).length = 0 := by rw [hlen2]; omega
      rw [List.length_eq_zero_iff.1 h0] at hu
      simp at hu
    · refine ⟨⟨g, p + 1, none⟩, by simp [hc], fun t u hu => ?_⟩
      have := h.cells (g := g) rfl (p + 1 + t) u (by rwa [List.getElem?_drop] at hu)
      rw [addr_add_zero] at this
      rw [Addr.add_lit]
      exact this
  have s1 : Hid ((xs.drop (p + 1)).length = (n - (p + 1)) * 1) := by rw [Nat.mul_one]; exact hlen2
  have s2 : Hid (∀ u ∈ xs.drop (p + 1), u.oneCell' = true) := fun u hu => hv1 u (List.mem_of_mem_drop hu)
  have hcl : ∀ ty (W : World), W.ownsRow base 3 1 (.slice (some ⟨g, 0, none⟩) n c) n (xs.take (p * 1) ++ xs.drop (p + 1) ++ xs.drop (p * 1 + (xs.drop (p + 1)).length)) → (Builtin.clear_ #[35] ty #[.slice (some ⟨g, p + (n - (p + 1)), none⟩) (n - (p + (n - (p + 1)))) (c - (p + (n - (p + 1))))]).run Try.prog W = .ok (.tuple #[]) (W.setCell ⟨g, n - 1, none⟩ (.int .i64 0)) := fun ty W ho => by
    have hl9 := ho.1
    rw [show p + (n - (p + 1)) = n - 1 by omega, show n - (n - 1) = 1 by omega, ← setCells_one]
    exact Lib.run_clear_slice W _ _ ty (.int .i64 0) slInt.und (fun w => by kernel_rfl) rfl rfl g (n - 1) 1 _ (by omega) (fun j hj => by
      obtain ⟨v, hv⟩ : ∃ v, (xs.take (p * 1) ++ xs.drop (p + 1) ++ xs.drop (p * 1 + (xs.drop (p + 1)).length))[n - 1 + j]? = some v := ⟨_, List.getElem?_eq_getElem (by omega)⟩
      have := ho.cells (g := g) rfl _ v hv
      rw [addr_add_zero] at this
      rw [this]; rfl) (fun j hj => ho.frozenAt _)
  have HCL := Lib.hid hcl
  have HDC := Lib.hid (del_cells xs n p (.int .i64 0) hlen hp)
  have b0 : (0 : Int) ≤ (p : Int) := by omega
  have b1 : (p : Int) ≤ (c : Int) := by omega
  have b2 : (p : Int) + 1 ≤ (n : Int) := by omega
  have b3 : (p : Int) + 1 ≤ (c : Int) := by omega
  have b4 : (n : Int) ≤ (c : Int) := by omega
  have b5 : ((p : Int) + 1).toNat = p + 1 := by omega
  have b6 : ((p : Int) == (p : Int) + 1) = false := by rw [beq_eq_false_iff_ne]; omega
  have b7 : ¬ (c = p + (n - (p + 1))) := by omega
  have b8 : (p : Int) ≤ (p : Int) + 1 := by omega
  have b9 : (0 : Int) ≤ (p : Int) + 1 := by omega
  clear h hcl hlen2 hlen
  go_enter Try.func41, Try.ntmps41
  go_wp2_with fail
  go_region_law (refine step_appIn slInt rfl _ _ rfl H.out p (by simp [Act.eval, Act.put]) A (n - (p + 1)) (c - (p + 1)) (by simp [Act.eval, Act.put]) (xs.drop (p + 1)) s1.out hsrc.out s2.out (by omega) ?_; intro w1 ho1 hg1)
  have hcl1 := fun ty => HCL.out ty w1 ho1
  have HO2 := Lib.hid (ho1.stored (n - 1) (.int .i64 0))
  have HG1 := Lib.hid hg1
  clear ho1 hg1
  go_wp2
  go_ret
  refine ⟨by rw [show n - 1 = p + (n - (p + 1)) by omega]; rfl, ?_, ?_⟩
  · have := own_cutG HO2.out.1 (k := n - 1) (by omega)
    rwa [HDC.out] at this
  · exact ⟨HO2.out.2.os.trans HG1.out.os, HO2.out.2.tape.trans HG1.out.tape, HO2.out.2.output.trans HG1.out.output, Nat.le_trans HG1.out.size HO2.out.2.size, fun k hk hq => (HO2.out.2.block k (Nat.lt_of_lt_of_le hk HG1.out.size) hq).trans (HG1.out.block k hk hq)⟩

set_option maxRecDepth 100000 in
set_option maxHeartbeats 4000000 in
theorem delL_any (base g n c p : Nat) (P1 P2 : Int) (xs : List Value) (w : World) (hp1 : P1 = (p : Int)) (hp2 : P2 = (p : Int) + 1) (hn : n ≤ 1000000) (hp : p < n) (hv1 : ∀ v ∈ xs, v.oneCell' = true)
    (h : w.ownsRow base 24 1 (.slice (some ⟨g, 0, none⟩) n c) n xs) :
    Calls Try.prog 18 #[.slice (some ⟨g, 0, none⟩) n c, .int .i64 P1, .int .i64 P2] w (DelEnd base 24 w g n c (xs.take p ++ xs.drop (p + 1))) := by
  subst hp1
  subst hp2
  have hlen : xs.length = n := by have := h.1; omega
  have H := Lib.hid h
  obtain ⟨hc1, hc2⟩ := own_capG h
  have hlen2 : (xs.drop (p + 1)).length = n - (p + 1) := by rw [List.length_drop, hlen]
  obtain ⟨A, hA, hsrc⟩ : ∃ A : Addr, (if c = p + 1 then (some (⟨g, 0, none⟩ : Addr)) else some ⟨g, p + 1, none⟩) = some A ∧ Hid (∀ t u, (xs.drop (p + 1))[t]? = some u → w.drew.cell? (A.add t) = some u) := by
    by_cases hc : c = p + 1
    · refine ⟨⟨g, 0, none⟩, by simp [hc], fun t u hu => ?_⟩
      have h0 : (xs.drop (p + 1)).length = 0 := by rw [hlen2]; omega
      rw [List.length_eq_zero_iff.1 h0] at hu
      simp at hu
    · refine ⟨⟨g, p + 1, none⟩, by simp [hc], fun t u hu => ?_⟩
      have := h.cells (g := g) rfl (p + 1 + t) u (by rwa [List.getElem?_drop] at hu)
      rw [addr_add_zero] at this
      rw [Addr.add_lit]
      exact this
  have s1 : Hid ((xs.drop (p + 1)).length = (n - (p + 1)) * 1) := by rw [Nat.mul_one]; exact hlen2
  have s2 : Hid (∀ u ∈ xs.drop (p + 1), u.oneCell' = true) := fun u hu => hv1 u (List.mem_of_mem_drop hu)
  have hcl : ∀ ty (W : World), W.ownsRow base 24 1 (.slice (some ⟨g, 0, none⟩) n c) n (xs.take (p * 1) ++ xs.drop (p + 1) ++ xs.drop (p * 1 + (xs.drop (p + 1)).length)) → (Builtin.clear_ #[36] ty #[.slice (some ⟨g, p + (n - (p + 1)), none⟩) (n - (p + (n - (p + 1)))) (c - (p + (n - (p + 1))))]).run Try.prog W = .ok (.tuple #[]) (W.setCell ⟨g, n - 1, none⟩ (.slice none 0 0)) := fun ty W ho => by
    have hl9 := ho.1
    rw [show p + (n - (p + 1)) = n - 1 by omega, show n - (n - 1) = 1 by omega, ← setCells_one]
    exact Lib.run_clear_slice W _ _ ty (.slice none 0 0) slLsA.und (fun w => by kernel_rfl) rfl rfl g (n - 1) 1 _ (by omega) (fun j hj => by
      obtain ⟨v, hv⟩ : ∃ v, (xs.take (p * 1) ++ xs.drop (p + 1) ++ xs.drop (p * 1 + (xs.drop (p + 1)).length))[n - 1 + j]? = some v := ⟨_, List.getElem?_eq_getElem (by omega)⟩
      have := ho.cells (g := g) rfl _ v hv
      rw [addr_add_zero] at this
      rw [this]; rfl) (fun j hj => ho.frozenAt _)
  have HCL := Lib.hid hcl
  have HDC := Lib.hid (del_cells xs n p (.slice none 0 0) hlen hp)
  have b0 : (0 : Int) ≤ (p : Int) := by omega
  have b1 : (p : Int) ≤ (c : Int) := by omega
  have b2 : (p : Int) + 1 ≤ (n : Int) := by omega
  have b3 : (p : Int) + 1 ≤ (c : Int) := by omega
  have b4 : (n : Int) ≤ (c : Int) := by omega
  have b5 : ((p : Int) + 1).toNat = p + 1 := by omega
  have b6 : ((p : Int) == (p : Int) + 1) = false := by rw [beq_eq_false_iff_ne]; omega
  have b7 : ¬ (c = p + (n - (p + 1))) := by omega
  have b8 : (p : Int) ≤ (p : Int) + 1 := by omega
  have b9 : (0 : Int) ≤ (p : Int) + 1 := by omega
  clear h hcl hlen2 hlen
  go_enter Try.func18, Try.ntmps18
  go_wp2_with fail
  go_region_law (refine step_appIn slLsA rfl _ _ rfl H.out p (by simp [Act.eval, Act.put]) A (n - (p + 1)) (c - (p + 1)) (by simp [Act.eval, Act.put]) (xs.drop (p + 1)) s1.out hsrc.out s2.out (by omega) ?_; intro w1 ho1 hg1)
  have hcl1 := fun ty => HCL.out ty w1 ho1
  have HO2 := Lib.hid (ho1.stored (n - 1) (.slice none 0 0))
  have HG1 := Lib.hid hg1
  clear ho1 hg1
  go_wp2
  go_ret
  refine ⟨by rw [show n - 1 = p + (n - (p + 1)) by omega]; rfl, ?_, ?_⟩
  · have := own_cutG HO2.out.1 (k := n - 1) (by omega)
    rwa [HDC.out] at this
  · exact ⟨HO2.out.2.os.trans HG1.out.os, HO2.out.2.tape.trans HG1.out.tape, HO2.out.2.output.trans HG1.out.output, Nat.le_trans HG1.out.size HO2.out.2.size, fun k hk hq => (HO2.out.2.block k (Nat.lt_of_lt_of_le hk HG1.out.size) hq).trans (HG1.out.block k hk hq)⟩

end Go.Proofs.Ythakkkljlpimlaa

/- Plain law: merging and stable sorting over a strict weak order that is a Bool function. No program in sight. -/
namespace Go.Proofs.Ythakkkljlpimlaa.Mg
set_option linter.unusedVariables false

structure SW {α : Type} (lt : α → α → Bool) : Prop where
  asym : ∀ a b, lt a b = true → lt b a = false
  trans : ∀ a b c, lt a b = true → lt b c = true → lt a c = true
  neg : ∀ a b c, lt a c = true → lt a b = true ∨ lt b c = true

def mrg {α : Type} (lt : α → α → Bool) (l r : List α) : List α := List.merge l r (fun x y => !lt y x)

section
variable {α : Type} {lt : α → α → Bool}

theorem mrg_nil (r : List α) : mrg lt [] r = r := by simp [mrg]
theorem nil_mrg (l : List α) : mrg lt l [] = l := by simp [mrg]
theorem mrg_cons (x : α) (l : List α) (y : α) (r : List α) : mrg lt (x :: l) (y :: r) = if lt y x then y :: mrg lt (x :: l) r else x :: mrg lt l (y :: r) := by
  unfold mrg
  rw [List.cons_merge_cons]
  cases lt y x <;> simp
theorem mrg_lt {x : α} {l : List α} {y : α} {r : List α} (h : lt y x = true) : mrg lt (x :: l) (y :: r) = y :: mrg lt (x :: l) r := by rw [mrg_cons, if_pos h]
theorem mrg_ge {x : α} {l : List α} {y : α} {r : List α} (h : lt y x = false) : mrg lt (x :: l) (y :: r) = x :: mrg lt l (y :: r) := by rw [mrg_cons, if_neg (by rw [h]; simp)]

theorem mrg_perm (l r : List α) : (mrg lt l r).Perm (l ++ r) := List.merge_perm_append _
theorem mrg_mem {l r : List α} {x : α} : x ∈ mrg lt l r ↔ x ∈ l ∨ x ∈ r := by rw [(mrg_perm l r).mem_iff, List.mem_append]
theorem mrg_length (l r : List α) : (mrg lt l r).length = l.length + r.length := by rw [(mrg_perm l r).length_eq, List.length_append]

/-- Both lists are cut in two, so that the earlier parts go ahead of the later ones. -/
theorem mrg_split : ∀ (L1 R1 L2 R2 : List α), (∀ x ∈ L1, ∀ y ∈ R2, lt y x = false) → (∀ x ∈ L2, ∀ y ∈ R1, lt y x = true) →
    mrg lt (L1 ++ L2) (R1 ++ R2) = mrg lt L1 R1 ++ mrg lt L2 R2
  | [], [], L2, R2, _, _ => by simp [mrg_nil]
  | [], y :: R1, L2, R2, h1, h2 => by
    have ih := mrg_split [] R1 L2 R2 (by simp) (fun x hx z hz => h2 x hx z (List.mem_cons_of_mem _ hz))
    simp only [List.nil_append, mrg_nil] at ih ⊢
    cases L2 with
    | nil => simp [mrg_nil]
    | cons x l =>
      rw [List.cons_append, mrg_lt (h2 x (by simp) y (by simp)), ih]; rfl
  | x :: L1, [], L2, R2, h1, h2 => by
    have ih := mrg_split L1 [] L2 R2 (fun z hz => h1 z (List.mem_cons_of_mem _ hz)) (by simp)
    simp only [List.nil_append, nil_mrg] at ih ⊢
    cases R2 with
    | nil => simp [nil_mrg]
    | cons y r =>
      rw [List.cons_append, mrg_ge (h1 x (by simp) y (by simp)), ih]; rfl
  | x :: L1, y :: R1, L2, R2, h1, h2 => by
    have ih1 := mrg_split (x :: L1) R1 L2 R2 h1 (fun z hz v hv => h2 z hz v (List.mem_cons_of_mem _ hv))
    have ih2 := mrg_split L1 (y :: R1) L2 R2 (fun z hz => h1 z (List.mem_cons_of_mem _ hz)) h2
    simp only [List.cons_append] at ih1 ih2 ⊢
    cases h : lt y x
    · rw [mrg_ge h, mrg_ge h, ih2]; rfl
    · rw [mrg_lt h, mrg_lt h, ih1]; rfl
termination_by L1 R1 => L1.length + R1.length

theorem mrg_assoc (S : SW lt) : ∀ (A B C : List α), mrg lt (mrg lt A B) C = mrg lt A (mrg lt B C)
  | [], B, C => by simp [mrg_nil]
  | a :: A, [], C => by simp [nil_mrg, mrg_nil]
  | a :: A, b :: B, [] => by simp [nil_mrg]
  | a :: A, b :: B, c :: C => by
    have i1 := mrg_assoc S (a :: A) (b :: B) C
    have i2 := mrg_assoc S (a :: A) B (c :: C)
    have i3 := mrg_assoc S A (b :: B) (c :: C)
    cases h1 : lt b a
    · cases h2 : lt c b
      · have h3 : lt c a = false := by
          cases h3 : lt c a
          · rfl
          · rcases S.neg c b a h3 with h | h
            · rw [h2] at h; cases h
            · rw [h1] at h; cases h
        rw [mrg_ge h1, mrg_ge h2, mrg_ge h3, mrg_ge h1, i3, mrg_ge h2]
      · cases h3 : lt c a
        · rw [mrg_ge h1, mrg_lt h2, mrg_ge h3, mrg_ge h3, i3, mrg_lt h2]
        · rw [mrg_lt h2, mrg_lt h3, ← i1, mrg_ge h1, mrg_lt h3]
    · cases h2 : lt c b
      · rw [mrg_lt h1, mrg_ge h2, mrg_ge h2, mrg_lt h1, i2]
      · have h3 := S.trans _ _ _ h2 h1
        rw [mrg_lt h1, mrg_lt h2, mrg_lt h2, mrg_lt h3, ← i1, mrg_lt h1]
termination_by A B C => A.length + B.length + C.length

def Asc (lt : α → α → Bool) (l : List α) : Prop := l.Pairwise fun x y => lt y x = false
theorem asc_nil : Asc lt [] := List.Pairwise.nil
theorem asc_one (x : α) : Asc lt [x] := by simp [Asc]

theorem asc_cons {x : α} {l : List α} : Asc lt (x :: l) ↔ (∀ y ∈ l, lt y x = false) ∧ Asc lt l := by simp [Asc]
theorem asc_append {l r : List α} : Asc lt (l ++ r) ↔ Asc lt l ∧ Asc lt r ∧ ∀ x ∈ l, ∀ y ∈ r, lt y x = false := by simp [Asc, List.pairwise_append]

/-- Only what stands side by side need be looked at. -/
theorem le_trans' (S : SW lt) {a b c : α} (h1 : lt b a = false) (h2 : lt c b = false) : lt c a = false := by
  cases h3 : lt c a
  · rfl
  · rcases S.neg c b a h3 with h | h
    · rw [h2] at h; cases h
    · rw [h1] at h; cases h

theorem asc_cons2 (S : SW lt) {x y : α} {l : List α} (h : lt y x = false) (hl : Asc lt (y :: l)) : Asc lt (x :: y :: l) := by
  rw [asc_cons]
  refine ⟨fun z hz => ?_, hl⟩
  rcases List.mem_cons.1 hz with rfl | hz
  · exact h
  · exact le_trans' S h ((asc_cons.1 hl).1 z hz)

theorem asc_of_side (S : SW lt) : ∀ l : List α, (∀ i, (h : i + 1 < l.length) → lt l[i + 1] l[i] = false) → Asc lt l
  | [], _ => asc_nil
  | [x], _ => asc_one x
  | x :: y :: l, h => asc_cons2 S (h 0 (by simp)) (asc_of_side S (y :: l) (fun i hi => h (i + 1) (by simpa using hi)))

theorem mrg_asc (S : SW lt) : ∀ {l r : List α}, Asc lt l → Asc lt r → Asc lt (mrg lt l r)
  | [], r, _, hr => by rw [mrg_nil]; exact hr
  | x :: l, [], hl, _ => by rw [nil_mrg]; exact hl
  | x :: l, y :: r, hl, hr => by
    cases h : lt y x
    · rw [mrg_ge h, asc_cons]
      refine ⟨fun z hz => ?_, mrg_asc S (asc_cons.1 hl).2 hr⟩
      rcases mrg_mem.1 hz with hz | hz
      · exact (asc_cons.1 hl).1 z hz
      · rcases List.mem_cons.1 hz with rfl | hz
        · exact h
        · exact le_trans' S h ((asc_cons.1 hr).1 z hz)
    · rw [mrg_lt h, asc_cons]
      refine ⟨fun z hz => ?_, mrg_asc S hl (asc_cons.1 hr).2⟩
      rcases mrg_mem.1 hz with hz | hz
      · rcases List.mem_cons.1 hz with rfl | hz
        · exact S.asym _ _ h
        · exact le_trans' S (S.asym _ _ h) ((asc_cons.1 hl).1 z hz)
      · exact (asc_cons.1 hr).1 z hz
termination_by l r => l.length + r.length

/-- Where all of l goes ahead of all of r. -/
theorem mrg_ahead {l r : List α} (h : ∀ x ∈ l, ∀ y ∈ r, lt y x = false) : mrg lt l r = l ++ r := by
  have := mrg_split (lt := lt) l [] [] r h (by simp)
  simpa [nil_mrg, mrg_nil] using this
/-- Where all of r goes ahead of all of l. -/
theorem mrg_behind {l r : List α} (h : ∀ x ∈ l, ∀ y ∈ r, lt y x = true) : mrg lt l r = r ++ l := by
  have := mrg_split (lt := lt) [] r l [] (by simp) h
  simpa [nil_mrg, mrg_nil] using this

/-- THE STABLE SORT: element after element merged in. -/
def srt (lt : α → α → Bool) (l : List α) : List α := l.foldl (fun acc x => mrg lt acc [x]) []

theorem srt_snoc (l : List α) (x : α) : srt lt (l ++ [x]) = mrg lt (srt lt l) [x] := by simp [srt]
theorem srt_nil : srt lt [] = [] := rfl
theorem srt_one (x : α) : srt lt [x] = [x] := by simp [srt, mrg_nil]

theorem list_snoc {P : List α → Prop} (h0 : P []) (h1 : ∀ l x, P l → P (l ++ [x])) (l : List α) : P l := by
  have : ∀ n (l : List α), l.length = n → P l := by
    intro n
    induction n with
    | zero => intro l hl; rw [List.eq_nil_of_length_eq_zero hl]; exact h0
    | succ n ih =>
      intro l hl
      have hne : l ≠ [] := by intro e; rw [e] at hl; simp at hl
      rw [← List.dropLast_concat_getLast hne]
      exact h1 _ _ (ih _ (by simp [hl]))
  exact this _ l rfl

theorem srt_append (S : SW lt) (a b : List α) : srt lt (a ++ b) = mrg lt (srt lt a) (srt lt b) := by
  refine list_snoc (P := fun b => srt lt (a ++ b) = mrg lt (srt lt a) (srt lt b)) ?_ ?_ b
  · rw [List.append_nil, srt_nil, nil_mrg]
  · intro l x ih
    rw [← List.append_assoc, srt_snoc, srt_snoc, ih, mrg_assoc S]

theorem srt_cons (S : SW lt) (x : α) (l : List α) : srt lt (x :: l) = mrg lt [x] (srt lt l) := by
  have := srt_append S [x] l
  rw [srt_one] at this
  exact this

theorem srt_perm (l : List α) : (srt lt l).Perm l := by
  refine list_snoc (P := fun l => (srt lt l).Perm l) (by rw [srt_nil]) ?_ l
  intro l x ih
  rw [srt_snoc]
  exact (mrg_perm _ _).trans (ih.append_right [x])
theorem srt_length (l : List α) : (srt lt l).length = l.length := (srt_perm l).length_eq
theorem srt_mem {l : List α} {x : α} : x ∈ srt lt l ↔ x ∈ l := (srt_perm l).mem_iff

theorem srt_asc (S : SW lt) (l : List α) : Asc lt (srt lt l) := by
  refine list_snoc (P := fun l => Asc lt (srt lt l)) asc_nil ?_ l
  intro l x ih
  rw [srt_snoc]; exact mrg_asc S ih (asc_one x)

theorem srt_of_asc {l : List α} (h : Asc lt l) : srt lt l = l := by
  revert h
  refine list_snoc (P := fun l => Asc lt l → srt lt l = l) (fun _ => rfl) ?_ l
  intro l x ih h
  rw [asc_append] at h
  rw [srt_snoc, ih h.1, mrg_ahead h.2.2]

theorem srt_srt (S : SW lt) (l : List α) : srt lt (srt lt l) = srt lt l := srt_of_asc (srt_asc S l)

theorem srt_mrg (S : SW lt) (a b : List α) : mrg lt (srt lt a) (srt lt b) = srt lt (a ++ b) := (srt_append S a b).symm
theorem mrg_srt (S : SW lt) {a b : List α} (ha : Asc lt a) (hb : Asc lt b) : mrg lt a b = srt lt (a ++ b) := by rw [srt_append S, srt_of_asc ha, srt_of_asc hb]

/-- One element on its way down. -/
theorem mrg_down {A B : List α} {x : α} (h : ∀ b ∈ B, lt x b = true) : mrg lt (A ++ B) [x] = mrg lt A [x] ++ B := by
  have := mrg_split (lt := lt) A [x] B [] (by simp) (by simpa using h)
  simpa [nil_mrg] using this
theorem mrg_stop {A : List α} {x : α} (h : ∀ a ∈ A, lt x a = false) : mrg lt A [x] = A ++ [x] := mrg_ahead (by simpa using h)

end

/-! ### by an integer key -/
def ltK {α : Type} (key : α → Int) (a b : α) : Bool := decide (key a < key b)
theorem swK {α : Type} (key : α → Int) : SW (ltK key) :=
  ⟨fun a b h => by simp only [ltK, decide_eq_true_eq, decide_eq_false_iff_not] at *; omega, fun a b c h1 h2 => by simp only [ltK, decide_eq_true_eq] at *; omega,
   fun a b c h => by simp only [ltK, decide_eq_true_eq] at *; omega⟩

end Go.Proofs.Ythakkkljlpimlaa.Mg

/- Plain law: merging and merge sort with the number of comparisons. No program in sight. -/
namespace Go.Proofs.Ythakkkljlpimlaa.Mg
set_option linter.unusedVariables false
section
variable {α : Type} (lt : α → α → Bool)

/-- The comparisons of a merge. -/
def mcnt : List α → List α → Nat
  | [], _ => 0
  | _ :: _, [] => 0
  | x :: l, y :: r => 1 + if lt y x then mcnt (x :: l) r else mcnt l (y :: r)
termination_by l r => l.length + r.length
theorem mcnt_nil (r : List α) : mcnt lt [] r = 0 := by unfold mcnt; rfl
theorem nil_mcnt (l : List α) : mcnt lt l [] = 0 := by
  cases l with
  | nil => exact mcnt_nil lt []
  | cons x l => unfold mcnt; rfl
theorem mcnt_cons (x : α) (l : List α) (y : α) (r : List α) : mcnt lt (x :: l) (y :: r) = 1 + if lt y x then mcnt lt (x :: l) r else mcnt lt l (y :: r) := by
  conv => lhs; unfold mcnt
theorem mcnt_lt {x : α} {l : List α} {y : α} {r : List α} (h : lt y x = true) : mcnt lt (x :: l) (y :: r) = 1 + mcnt lt (x :: l) r := by rw [mcnt_cons, if_pos h]
theorem mcnt_ge {x : α} {l : List α} {y : α} {r : List α} (h : lt y x = false) : mcnt lt (x :: l) (y :: r) = 1 + mcnt lt l (y :: r) := by rw [mcnt_cons, if_neg (by rw [h]; simp)]
/-- Fewer comparisons than elements, unless there is none. -/
theorem mcnt_bound : ∀ (l r : List α), mcnt lt l r < l.length + r.length ∨ l.length + r.length = 0
  | [], r => by rw [mcnt_nil, List.length_nil]; omega
  | x :: l, [] => by rw [nil_mcnt]; simp
  | x :: l, y :: r => by
    left
    cases h : lt y x
    · rw [mcnt_ge lt h]
      have := mcnt_bound l (y :: r)
      simp at this ⊢; omega
    · rw [mcnt_lt lt h]
      have := mcnt_bound (x :: l) r
      simp at this ⊢; omega
termination_by l r => l.length + r.length
theorem mcnt_le (l r : List α) : mcnt lt l r ≤ l.length + r.length := by
  rcases mcnt_bound lt l r with h | h
  · omega
  · rw [List.eq_nil_of_length_eq_zero (by omega : l.length = 0), mcnt_nil]; omega

/-- Merge sort, and its comparisons. -/
def msF : Nat → List α → List α × Nat
  | 0, l => (l, 0)
  | f + 1, l => if l.length < 2 then (l, 0) else
    let a := msF f (l.take (l.length / 2))
    let b := msF f (l.drop (l.length / 2))
    (mrg lt a.1 b.1, a.2 + b.2 + mcnt lt a.1 b.1)
def ms (l : List α) : List α × Nat := msF lt l.length l
theorem msF_fuel : ∀ (f g : Nat) (l : List α), l.length ≤ f → l.length ≤ g → msF lt f l = msF lt g l
  | 0, 0, l, _, _ => rfl
  | 0, g + 1, l, h, _ => by
    unfold msF; rw [if_pos (by omega)]
  | f + 1, 0, l, _, h => by
    unfold msF; rw [if_pos (by omega)]
  | f + 1, g + 1, l, h1, h2 => by
    unfold msF
    split
    · rfl
    · rw [msF_fuel f g (l.take (l.length / 2)) (by simp; omega) (by simp; omega), msF_fuel f g (l.drop (l.length / 2)) (by simp; omega) (by simp; omega)]
theorem ms_small {l : List α} (h : l.length < 2) : ms lt l = (l, 0) := by
  unfold ms
  rw [msF_fuel lt _ (l.length + 1) l (Nat.le_refl _) (by omega), msF, if_pos h]
theorem ms_big {l : List α} (h : 2 ≤ l.length) : ms lt l = (mrg lt (ms lt (l.take (l.length / 2))).1 (ms lt (l.drop (l.length / 2))).1, (ms lt (l.take (l.length / 2))).2 + (ms lt (l.drop (l.length / 2))).2 + mcnt lt (ms lt (l.take (l.length / 2))).1 (ms lt (l.drop (l.length / 2))).1) := by
  unfold ms
  rw [msF_fuel lt _ (l.length + 1) l (Nat.le_refl _) (by omega), msF, if_neg (by omega)]
  rw [msF_fuel lt l.length (l.take (l.length / 2)).length (l.take (l.length / 2)) (by simp; omega) (Nat.le_refl _), msF_fuel lt l.length (l.drop (l.length / 2)).length (l.drop (l.length / 2)) (by simp) (Nat.le_refl _)]
variable {lt}
theorem ms_srt (S : SW lt) : ∀ (n : Nat) (l : List α), l.length ≤ n → (ms lt l).1 = srt lt l
  | 0, l, h => by
    rw [ms_small lt (by omega), List.eq_nil_of_length_eq_zero (by omega : l.length = 0)]; rfl
  | n + 1, l, h => by
    rcases Nat.lt_or_ge l.length 2 with h2 | h2
    · rw [ms_small lt h2]
      match l, h2 with
      | [], _ => rfl
      | [x], _ => exact (srt_one x).symm
    · rw [ms_big lt h2, ms_srt S n (l.take (l.length / 2)) (by simp; omega), ms_srt S n (l.drop (l.length / 2)) (by simp; omega), srt_mrg S, List.take_append_drop]
theorem ms_bound (S : SW lt) : ∀ (k : Nat) (l : List α), l.length ≤ 2 ^ k → (ms lt l).2 ≤ k * l.length
  | 0, l, h => by
    rw [ms_small lt (by simp at h; omega)]; simp
  | k + 1, l, h => by
    rcases Nat.lt_or_ge l.length 2 with h2 | h2
    · rw [ms_small lt h2]; simp
    · rw [ms_big lt h2]
      have hp : 2 ^ (k + 1) = 2 * 2 ^ k := by rw [Nat.pow_succ]; omega
      have h1 := ms_bound S k (l.take (l.length / 2)) (by simp; omega)
      have h3 := ms_bound S k (l.drop (l.length / 2)) (by simp; omega)
      have h4 := mcnt_le lt (ms lt (l.take (l.length / 2))).1 (ms lt (l.drop (l.length / 2))).1
      rw [ms_srt S _ _ (Nat.le_refl _), ms_srt S _ _ (Nat.le_refl _), srt_length, srt_length] at h4
      rw [List.length_take, Nat.min_eq_left (by omega)] at h1 h4
      rw [List.length_drop] at h3 h4
      have e1 : k * (l.length / 2) + k * (l.length - l.length / 2) = k * l.length := by rw [← Nat.mul_add]; congr 1; omega
      rw [ms_srt S _ _ (Nat.le_refl _), ms_srt S _ _ (Nat.le_refl _)]
      rw [Nat.add_mul, Nat.one_mul]
      show (ms lt (l.take (l.length / 2))).2 + (ms lt (l.drop (l.length / 2))).2 + mcnt lt _ _ ≤ _
      omega
end
end Go.Proofs.Ythakkkljlpimlaa.Mg

/- Plain law of the adaptive merge sort: which neighbours on the stack of runs are merged, what the merges leave, how many comparisons they need. No program in sight. -/
namespace Go.Proofs.Ythakkkljlpimlaa.Ad
open Go.Proofs.Ythakkkljlpimlaa.Mg
set_option linter.unusedVariables false

/-- The lower index of the next merge on a stack of lengths; e: after the last push. -/
def nxt (e : Bool) (s : List Int) : Option Nat :=
  if s.length < 2 then none
  else if e = true then (if 3 ≤ s.length ∧ s.getD (s.length - 3) 0 < s.getD (s.length - 1) 0 then some (s.length - 3) else some (s.length - 2))
  else if (3 ≤ s.length ∧ s.getD (s.length - 3) 0 ≤ s.getD (s.length - 1) 0 + s.getD (s.length - 2) 0) ∨ (4 ≤ s.length ∧ s.getD (s.length - 4) 0 ≤ s.getD (s.length - 3) 0 + s.getD (s.length - 2) 0) then
    (if s.getD (s.length - 3) 0 < s.getD (s.length - 1) 0 then some (s.length - 3) else some (s.length - 2))
  else if s.getD (s.length - 2) 0 ≤ s.getD (s.length - 1) 0 then some (s.length - 2) else none

theorem nxt_lt {e : Bool} {s : List Int} {k : Nat} (h : nxt e s = some k) : k + 1 < s.length := by
  unfold nxt at h
  split at h
  · cases h
  · split at h
    · split at h
      · injection h; omega
      · injection h; omega
    · split at h
      · rename_i h3
        split at h
        · injection h; omega
        · injection h; omega
      · split at h
        · injection h; omega
        · cases h

theorem nxt_end {s : List Int} (h : nxt true s = none) : s.length < 2 := by
  unfold nxt at h
  split at h
  · assumption
  · simp only [if_true] at h
    split at h <;> cases h

theorem nxt_small {e : Bool} {s : List Int} (h : s.length < 2) : nxt e s = none := by
  unfold nxt
  rw [if_pos h]

variable {α : Type} (lt : α → α → Bool)

def jn (k : Nat) (ps : List (List α)) : List (List α) := ps.take k ++ mrg lt (ps.getD k []) (ps.getD (k + 1) []) :: ps.drop (k + 2)
def st (k : Nat) (s : List Int) : List Int := s.take k ++ (s.getD k 0 + s.getD (k + 1) 0) :: s.drop (k + 2)
def sz (ps : List (List α)) : List Int := ps.map fun p => (p.length : Int)

theorem sz_length (ps : List (List α)) : (sz ps).length = ps.length := by simp [sz]
theorem sz_getD (ps : List (List α)) (k : Nat) : (sz ps).getD k 0 = ((ps.getD k []).length : Int) := by
  simp only [sz, List.getD_eq_getElem?_getD, List.getElem?_map]
  cases ps[k]? <;> rfl
theorem sz_snoc (ps : List (List α)) (p : List α) : sz (ps ++ [p]) = sz ps ++ [(p.length : Int)] := by simp [sz]

theorem jn_length {k : Nat} {ps : List (List α)} (h : k + 1 < ps.length) : (jn lt k ps).length + 1 = ps.length := by
  simp only [jn, List.length_append, List.length_take, List.length_cons, List.length_drop]; omega
theorem st_length {k : Nat} {s : List Int} (h : k + 1 < s.length) : (st k s).length + 1 = s.length := by
  simp only [st, List.length_append, List.length_take, List.length_cons, List.length_drop]; omega
theorem sz_jn (k : Nat) (ps : List (List α)) : sz (jn lt k ps) = st k (sz ps) := by
  unfold jn st
  rw [sz_getD, sz_getD]
  simp [sz, mrg_length]

theorem split2 {β : Type} {ps : List β} {k : Nat} (d : β) (h : k + 1 < ps.length) : ps = ps.take k ++ ps.getD k d :: ps.getD (k + 1) d :: ps.drop (k + 2) := by
  have h1 : ps.drop k = ps[k]'(by omega) :: ps.drop (k + 1) := List.drop_eq_getElem_cons (by omega)
  have h2 : ps.drop (k + 1) = ps[k + 1]'h :: ps.drop (k + 1 + 1) := List.drop_eq_getElem_cons h
  have g1 : ps.getD k d = ps[k]'(by omega) := by simp [List.getD_eq_getElem?_getD, List.getElem?_eq_getElem (by omega : k < ps.length)]
  have g2 : ps.getD (k + 1) d = ps[k + 1]'h := by simp [List.getD_eq_getElem?_getD, List.getElem?_eq_getElem h]
  rw [g1, g2]
  conv => lhs; rw [← List.take_append_drop k ps, h1, h2]

/-- All lists of the stack, merged. -/
def jall (ps : List (List α)) : List α := ps.foldr (mrg lt) []
theorem jall_append (S : SW lt) (a b : List (List α)) : jall lt (a ++ b) = mrg lt (jall lt a) (jall lt b) := by
  induction a with
  | nil => simp [jall, mrg_nil]
  | cons x t ih =>
    show mrg lt x (jall lt (t ++ b)) = mrg lt (mrg lt x (jall lt t)) (jall lt b)
    rw [ih, mrg_assoc S]
theorem jall_one (p : List α) : jall lt [p] = p := nil_mrg p
theorem jall_jn (S : SW lt) {k : Nat} {ps : List (List α)} (h : k + 1 < ps.length) : jall lt (jn lt k ps) = jall lt ps := by
  conv => rhs; rw [split2 [] h]
  unfold jn
  rw [jall_append lt S, jall_append lt S]
  congr 1
  show mrg lt (mrg lt _ _) (jall lt _) = mrg lt _ (mrg lt _ (jall lt _))
  exact mrg_assoc S _ _ _

/-- The merges that are due, one behind the other: what they leave, and their comparisons. -/
def runF (e : Bool) : Nat → List (List α) → List (List α) × Nat
  | 0, ps => (ps, 0)
  | f + 1, ps => match nxt e (sz ps) with
    | none => (ps, 0)
    | some k => ((runF e f (jn lt k ps)).1, mcnt lt (ps.getD k []) (ps.getD (k + 1) []) + (runF e f (jn lt k ps)).2)
def settle (e : Bool) (ps : List (List α)) : List (List α) × Nat := runF lt e ps.length ps
theorem settle_none {e : Bool} {ps : List (List α)} (h : nxt e (sz ps) = none) : settle lt e ps = (ps, 0) := by
  unfold settle
  cases hl : ps.length with
  | zero => rfl
  | succ f => simp only [runF, h]
theorem settle_some {e : Bool} {ps : List (List α)} {k : Nat} (h : nxt e (sz ps) = some k) :
    settle lt e ps = ((settle lt e (jn lt k ps)).1, mcnt lt (ps.getD k []) (ps.getD (k + 1) []) + (settle lt e (jn lt k ps)).2) := by
  have h1 := nxt_lt h
  rw [sz_length] at h1
  have h2 := jn_length lt h1
  unfold settle
  rw [show ps.length = (jn lt k ps).length + 1 by omega]
  simp only [runF, h]

/-- The indices of these merges, on the lengths. -/
def idxF (e : Bool) : Nat → List Int → List Int × List Nat
  | 0, s => (s, [])
  | f + 1, s => match nxt e s with
    | none => (s, [])
    | some k => ((idxF e f (st k s)).1, k :: (idxF e f (st k s)).2)
def idx (e : Bool) (s : List Int) : List Int × List Nat := idxF e s.length s
theorem idx_none {e : Bool} {s : List Int} (h : nxt e s = none) : idx e s = (s, []) := by
  unfold idx
  cases hl : s.length with
  | zero => rfl
  | succ f => simp only [idxF, h]
theorem idx_some {e : Bool} {s : List Int} {k : Nat} (h : nxt e s = some k) : idx e s = ((idx e (st k s)).1, k :: (idx e (st k s)).2) := by
  have h1 := nxt_lt h
  have h2 := st_length h1
  unfold idx
  rw [show s.length = (st k s).length + 1 by omega]
  simp only [idxF, h]

/-- Merges at given indices. -/
def fol : List Nat → List (List α) → List (List α) × Nat
  | [], ps => (ps, 0)
  | k :: t, ps => ((fol t (jn lt k ps)).1, mcnt lt (ps.getD k []) (ps.getD (k + 1) []) + (fol t (jn lt k ps)).2)
def okI : List Nat → Nat → Prop
  | [], _ => True
  | k :: t, n => k + 1 < n ∧ okI t (n - 1)

theorem fol_idx (e : Bool) : ∀ (n : Nat) (ps : List (List α)), ps.length = n → fol lt (idx e (sz ps)).2 ps = settle lt e ps ∧ (idx e (sz ps)).1 = sz (settle lt e ps).1 ∧ okI (idx e (sz ps)).2 ps.length
  | n, ps, hn => by
    cases h : nxt e (sz ps) with
    | none =>
      rw [idx_none h, settle_none lt h]
      exact ⟨rfl, rfl, trivial⟩
    | some k =>
      have h1 := nxt_lt h
      rw [sz_length] at h1
      have h2 := jn_length lt h1
      obtain ⟨a, b, c⟩ := fol_idx e (n - 1) (jn lt k ps) (by omega)
      rw [idx_some h, settle_some lt h]
      rw [sz_jn] at a b c
      refine ⟨?_, b, h1, ?_⟩
      · show ((fol lt _ _).1, _ + (fol lt _ _).2) = _
        rw [a]
      · rw [show ps.length - 1 = (jn lt k ps).length by omega]; exact c
  termination_by n => n
  decreasing_by all_goals omega

theorem settle_jall (S : SW lt) (e : Bool) : ∀ (n : Nat) (ps : List (List α)), ps.length = n → jall lt (settle lt e ps).1 = jall lt ps ∧ (settle lt e ps).1.length ≤ ps.length ∧ (0 < ps.length → 0 < (settle lt e ps).1.length)
  | n, ps, hn => by
    cases h : nxt e (sz ps) with
    | none =>
      rw [settle_none lt h]
      exact ⟨rfl, Nat.le_refl _, id⟩
    | some k =>
      have h1 := nxt_lt h
      rw [sz_length] at h1
      have h2 := jn_length lt h1
      obtain ⟨a, b, c⟩ := settle_jall S e (n - 1) (jn lt k ps) (by omega)
      rw [settle_some lt h]
      exact ⟨by rw [a, jall_jn lt S h1], by show (settle lt e (jn lt k ps)).1.length ≤ _; omega, fun _ => c (by omega)⟩
  termination_by n => n
  decreasing_by all_goals omega

theorem settle_end : ∀ (n : Nat) (ps : List (List α)), ps.length = n → (settle lt true ps).1.length < 2
  | n, ps, hn => by
    cases h : nxt true (sz ps) with
    | none =>
      rw [settle_none lt h]
      have := nxt_end h
      rwa [sz_length] at this
    | some k =>
      have h1 := nxt_lt h
      rw [sz_length] at h1
      have h2 := jn_length lt h1
      rw [settle_some lt h]
      exact settle_end (n - 1) (jn lt k ps) (by omega)
  termination_by n => n
  decreasing_by all_goals omega

/-- All pushes: the stack of lists and the comparisons. -/
def pushes (ps : List (List α)) : List (List α) × Nat :=
  ps.foldl (fun s p => ((settle lt false (s.1 ++ [p])).1, s.2 + (settle lt false (s.1 ++ [p])).2)) ([], 0)
theorem pushes_snoc (ps : List (List α)) (p : List α) : pushes lt (ps ++ [p]) = ((settle lt false ((pushes lt ps).1 ++ [p])).1, (pushes lt ps).2 + (settle lt false ((pushes lt ps).1 ++ [p])).2) := by simp [pushes]
theorem pushes_jall (S : SW lt) (ps : List (List α)) : jall lt (pushes lt ps).1 = jall lt ps ∧ (pushes lt ps).1.length ≤ ps.length ∧ (0 < ps.length → 0 < (pushes lt ps).1.length) := by
  refine list_snoc (P := fun ps => jall lt (pushes lt ps).1 = jall lt ps ∧ (pushes lt ps).1.length ≤ ps.length ∧ (0 < ps.length → 0 < (pushes lt ps).1.length)) ⟨rfl, Nat.le_refl _, id⟩ (fun l x ih => ?_) ps
  obtain ⟨a, b, c⟩ := settle_jall lt S false _ ((pushes lt l).1 ++ [x]) rfl
  rw [pushes_snoc]
  refine ⟨?_, ?_, fun _ => c (by simp)⟩
  · show jall lt (settle lt false _).1 = _
    rw [a, jall_append lt S, jall_append lt S, ih.1]
  · show (settle lt false _).1.length ≤ _
    rw [List.length_append] at *
    simp at *
    omega

/-- The whole: the list and the comparisons. -/
def adS (ps : List (List α)) : List α := ((settle lt true (pushes lt ps).1).1).getD 0 []
def adC (ps : List (List α)) : Nat := (pushes lt ps).2 + (settle lt true (pushes lt ps).1).2
theorem ad_end (S : SW lt) (ps : List (List α)) (h : 0 < ps.length) : (settle lt true (pushes lt ps).1).1 = [jall lt ps] := by
  obtain ⟨a1, a2, a3⟩ := pushes_jall lt S ps
  obtain ⟨b1, b2, b3⟩ := settle_jall lt S true _ (pushes lt ps).1 rfl
  have c := settle_end lt _ (pushes lt ps).1 rfl
  have d := b3 (a3 h)
  generalize (settle lt true (pushes lt ps).1).1 = z at *
  match z, c, d with
  | [p], _, _ => rw [← a1, ← b1, jall_one]
theorem adS_eq (S : SW lt) (ps : List (List α)) : adS lt ps = jall lt ps := by
  cases ps with
  | nil => rfl
  | cons p t => unfold adS; rw [ad_end lt S (p :: t) (by simp)]; rfl
theorem adC_one (ps : List (List α)) (h : ps.length < 2) : adC lt ps = 0 := by
  match ps, h with
  | [], _ => rfl
  | [p], _ =>
    have h1 : settle lt false [p] = ([p], 0) := settle_none lt (nxt_small (by simp [sz]))
    have h2 : settle lt true [p] = ([p], 0) := settle_none lt (nxt_small (by simp [sz]))
    have h3 : pushes lt [p] = ([p], 0) := by
      show ((settle lt false [p]).1, 0 + (settle lt false [p]).2) = _
      rw [h1]; rfl
    unfold adC
    rw [h3, h2]; rfl

/-- The same on lengths: all merges of all pushes, then those at the end. -/
def idxs (cs : List Int) : List Int × List Nat :=
  cs.foldl (fun s c => ((idx false (s.1 ++ [c])).1, s.2 ++ (idx false (s.1 ++ [c])).2)) ([], [])
theorem idxs_snoc (cs : List Int) (c : Int) : idxs (cs ++ [c]) = ((idx false ((idxs cs).1 ++ [c])).1, (idxs cs).2 ++ (idx false ((idxs cs).1 ++ [c])).2) := by simp [idxs]
theorem idxs_sz (ps : List (List α)) : (idxs (sz ps)).1 = sz (pushes lt ps).1 := by
  refine list_snoc (P := fun ps => (idxs (sz ps)).1 = sz (pushes lt ps).1) rfl (fun l x ih => ?_) ps
  rw [sz_snoc, idxs_snoc, pushes_snoc]
  show (idx false _).1 = sz (settle lt false _).1
  rw [ih, ← sz_snoc]
  exact (fol_idx lt false _ _ rfl).2.1

end Go.Proofs.Ythakkkljlpimlaa.Ad

/- Walks: the run stack of the adaptive merge sort: its three cells and two rows, one entry read, two entries merged. -/
namespace Go.Proofs.Ythakkkljlpimlaa
open Go.RowKit Go.Sort
set_option linter.unusedVariables false

/-- A region that draws, all of whose orders lead to one frame and one world. -/
theorem wp_one {P : Program} {c : Code} {Q : Exit → Act → World → Prop} {a : Act} {w : World} (A' : Act) (W' : World) (h1 : c.wp P (fun e a' w' => match e with | .normal => a' = A' ∧ w' = W' | _ => False) a w) (h2 : Q .normal A' W') : c.wp P Q a w :=
  Code.wp_mono (fun e a w h => by
    cases e
    case normal => obtain ⟨y, z⟩ := h; subst y; subst z; exact h2
    all_goals exact h.elim) h1

theorem own_posA {w : World} {base : Nat} {e : TypeId} {size n : Nat} {v : Value} {xs : List Value} (h : w.ownsRow base e size v n xs) (hn : 0 < n) : ∃ g c, v = .slice (some ⟨g, 0, none⟩) n c := by
  rcases h.2 with ⟨_, h2⟩ | ⟨g, cap, cur, hv, _⟩
  · omega
  · exact ⟨g, cap, hv⟩

theorem own_cellA {w : World} {base : Nat} {e : TypeId} {size g n c : Nat} {xs : List Value} (h : w.ownsRow base e size (.slice (some ⟨g, 0, none⟩) n c) n xs) {i : Nat} {x : Value} (hx : xs[i]? = some x) : w.cell? ⟨g, i, none⟩ = some x := by
  have := h.cells (g := g) rfl i x hx
  rwa [addr_add_zero] at this

def intV (l : List Int) : List Value := l.map (Value.int .i64)
def natI (i : Nat) : Value := Value.int .i64 (Int.ofNat i)
def natV (l : List Nat) : List Value := l.map natI

/-- Nothing that is protected is turned. -/
structure KeepA (A : Nat → Prop) (w w' : World) : Prop where
  os : w'.os = w.os
  tape : w'.tape = w.tape
  output : w'.output = w.output
  size : w.heap.size ≤ w'.heap.size
  block : ∀ k, k < w.heap.size → A k → w'.heap[k]? = w.heap[k]?
theorem KeepA.refl (A : Nat → Prop) (w : World) : KeepA A w w := ⟨rfl, rfl, rfl, Nat.le_refl _, fun _ _ _ => rfl⟩
theorem KeepA.trans {A : Nat → Prop} {w w' w'' : World} (h : KeepA A w w') (g : KeepA A w' w'') : KeepA A w w'' :=
  ⟨g.os.trans h.os, g.tape.trans h.tape, g.output.trans h.output, Nat.le_trans h.size g.size, fun k hk ha => (g.block k (Nat.lt_of_lt_of_le hk h.size) ha).trans (h.block k hk ha)⟩
theorem keep_grown {A : Nat → Prop} {w w' : World} {row : Option Nat} (h : w.grownBy w' row) (hr : ∀ b, row = some b → ¬ A b) : KeepA A w w' :=
  ⟨h.os, h.tape, h.output, h.size, fun k hk ha => h.block k hk (fun e => hr k e.symm ha)⟩
theorem keep_heap {A : Nat → Prop} {w w' : World} (h : w'.heap = w.heap) (h1 : w'.os = w.os) (h2 : w'.tape = w.tape) (h3 : w'.output = w.output) : KeepA A w w' :=
  ⟨h1, h2, h3, by rw [h]; exact Nat.le_refl _, fun k _ _ => by rw [h]⟩
theorem KeepA.below {A : Nat → Prop} {B : Nat} {w w' : World} (h : KeepA A w w') (hB : B ≤ w.heap.size) (hA : ∀ k, k < B → A k) : Below B w w' :=
  ⟨h.os, h.tape, h.output, h.size, fun k hk => h.block k (Nat.lt_of_lt_of_le hk hB) (hA k hk)⟩

theorem own_heap {w w' : World} {base : Nat} {e : TypeId} {size n : Nat} {v : Value} {xs : List Value} (h : w.ownsRow base e size v n xs) (hh : w'.heap = w.heap) : w'.ownsRow base e size v n xs :=
  ⟨h.1, h.2.elim .inl fun ⟨g, cap, cur, a, b, c, d⟩ => .inr ⟨g, cap, cur, a, b, by rw [hh]; exact c, d⟩⟩

/-- The run stack in block p. -/
structure RSv (w : World) (p : Nat) (A : Nat → Prop) (vs vm : Value) (mo : Int) (s : List Int) (m : List Nat) : Prop where
  hp : w.ownsRow 0 46 3 (.slice (some ⟨p, 0, none⟩) 1 1) 1 [vs, vm, .int .i64 mo]
  hs : w.ownsRow 0 3 1 vs s.length (intV s)
  hm : w.ownsRow 0 3 1 vm m.length (natV m)
  aP : ¬ A p
  aS : ∀ b, vs.ownBlock = some b → ¬ A b ∧ b ≠ p
  aM : ∀ b, vm.ownBlock = some b → ¬ A b ∧ b ≠ p ∧ vs.ownBlock ≠ some b
theorem RSv.cell {w : World} {p : Nat} {A : Nat → Prop} {vs vm : Value} {mo : Int} {s : List Int} {m : List Nat} (h : RSv w p A vs vm mo s m) :
    w.cell? ⟨p, 0, none⟩ = some vs ∧ w.cell? ⟨p, 1, none⟩ = some vm ∧ w.cell? ⟨p, 2, none⟩ = some (.int .i64 mo) := by
  refine ⟨?_, ?_, ?_⟩
  · have := h.hp.cells (g := p) rfl 0 vs rfl
    rwa [addr_add_zero] at this
  · have := h.hp.cells (g := p) rfl 1 vm rfl
    rwa [addr_add_zero] at this
  · have := h.hp.cells (g := p) rfl 2 _ rfl
    rwa [addr_add_zero] at this
theorem RSv.lt {w : World} {p : Nat} {A : Nat → Prop} {vs vm : Value} {mo : Int} {s : List Int} {m : List Nat} (h : RSv w p A vs vm mo s m) : p < w.heap.size := (h.hp.lt p rfl).2
theorem RSv.heap {w w' : World} {p : Nat} {A : Nat → Prop} {vs vm : Value} {mo : Int} {s : List Int} {m : List Nat} (h : RSv w p A vs vm mo s m) (hh : w'.heap = w.heap) : RSv w' p A vs vm mo s m :=
  ⟨own_heap h.hp hh, own_heap h.hs hh, own_heap h.hm hh, h.aP, h.aS, h.aM⟩
/-- Other blocks turn. -/
theorem RSv.other {w w' : World} {p : Nat} {A : Nat → Prop} {vs vm : Value} {mo : Int} {s : List Int} {m : List Nat} {row : Option Nat} (h : RSv w p A vs vm mo s m) (hg : w.grownBy w' row) (hr : ∀ b, row = some b → A b) : RSv w' p A vs vm mo s m :=
  ⟨h.hp.kept hg (.inr fun e => h.aP (hr p e.symm)),
   h.hs.kept hg (by
    cases hb : vs.ownBlock with
    | none => exact .inl rfl
    | some b => exact .inr fun e => (h.aS b hb).1 (hr b e.symm)),
   h.hm.kept hg (by
    cases hb : vm.ownBlock with
    | none => exact .inl rfl
    | some b => exact .inr fun e => (h.aM b hb).1 (hr b e.symm)), h.aP, h.aS, h.aM⟩

theorem grown_trans0 {w w' w'' : World} {row : Option Nat} (h : w.grownBy w' row) (g : w'.grownBy w'' row) : w.grownBy w'' row :=
  ⟨g.os.trans h.os, g.tape.trans h.tape, g.output.trans h.output, Nat.le_trans h.size g.size, fun k hk hq => (g.block k (Nat.lt_of_lt_of_le hk h.size) hq).trans (h.block k hk hq)⟩

/-- A new row of lengths, and its header stored. -/
theorem RSv.setS {w w1 : World} {p : Nat} {A : Nat → Prop} {vs vm v' : Value} {mo : Int} {s s' : List Int} {m : List Nat} (h : RSv w p A vs vm mo s m) (hA : ∀ k, A k → k < w.heap.size) (hg : w.grownBy w1 vs.ownBlock)
    (ho : w1.ownsRow 0 3 1 v' s'.length (intV s')) (ht : ∀ b, v'.ownBlock = some b → vs.ownBlock = some b ∨ w.heap.size ≤ b) :
    RSv (w1.setCell ⟨p, 0, none⟩ v') p A v' vm mo s' m ∧ KeepA A w (w1.setCell ⟨p, 0, none⟩ v') := by
  have hlt := h.lt
  have hp1 : w1.ownsRow 0 46 3 (.slice (some ⟨p, 0, none⟩) 1 1) 1 [vs, vm, .int .i64 mo] := h.hp.kept hg (.inr fun e => (h.aS p e.symm).2 rfl)
  have hp2 := hp1.stored 0 v'
  have hv : ∀ b, v'.ownBlock = some b → ¬ A b ∧ b ≠ p := fun b hb => by
    rcases ht b hb with e | e
    · exact h.aS b e
    · exact ⟨fun ha => by have := hA b ha; omega, by omega⟩
  have hm1 : w1.ownsRow 0 3 1 vm m.length (natV m) := h.hm.kept hg (by
    cases hb : vm.ownBlock with
    | none => exact .inl rfl
    | some b => exact .inr fun e => (h.aM b hb).2.2 e.symm)
  refine ⟨⟨hp2.1, ho.kept hp2.2 ?_, hm1.kept hp2.2 ?_, h.aP, hv, fun b hb => ⟨(h.aM b hb).1, (h.aM b hb).2.1, fun e => ?_⟩⟩, ?_⟩
  · cases hb : v'.ownBlock with
    | none => exact .inl rfl
    | some b => exact .inr fun e => (hv b hb).2 (by injection e)
  · cases hb : vm.ownBlock with
    | none => exact .inl rfl
    | some b => exact .inr fun e => (h.aM b hb).2.1 (by injection e)
  · rcases ht b e with e2 | e2
    · exact (h.aM b hb).2.2 e2
    · have := (h.hm.lt b hb).2; omega
  · exact (keep_grown hg (fun b e => (h.aS b e).1)).trans (keep_grown hp2.2 (fun b e => by injection e with e; subst e; exact h.aP))

/-- A new row of merges, and its header stored. -/
theorem RSv.setM {w w1 : World} {p : Nat} {A : Nat → Prop} {vs vm v' : Value} {mo : Int} {s : List Int} {m m' : List Nat} (h : RSv w p A vs vm mo s m) (hA : ∀ k, A k → k < w.heap.size) (hg : w.grownBy w1 vm.ownBlock)
    (ho : w1.ownsRow 0 3 1 v' m'.length (natV m')) (ht : ∀ b, v'.ownBlock = some b → vm.ownBlock = some b ∨ w.heap.size ≤ b) :
    RSv (w1.setCell ⟨p, 1, none⟩ v') p A vs v' mo s m' ∧ KeepA A w (w1.setCell ⟨p, 1, none⟩ v') := by
  have hlt := h.lt
  have hp1 : w1.ownsRow 0 46 3 (.slice (some ⟨p, 0, none⟩) 1 1) 1 [vs, vm, .int .i64 mo] := h.hp.kept hg (.inr fun e => (h.aM p e.symm).2.1 rfl)
  have hp2 := hp1.stored 1 v'
  have hv : ∀ b, v'.ownBlock = some b → ¬ A b ∧ b ≠ p ∧ vs.ownBlock ≠ some b := fun b hb => by
    rcases ht b hb with e | e
    · exact h.aM b e
    · exact ⟨fun ha => by have := hA b ha; omega, by omega, fun e2 => by have := (h.hs.lt b e2).2; omega⟩
  have hs1 : w1.ownsRow 0 3 1 vs s.length (intV s) := h.hs.kept hg (by
    cases hb : vs.ownBlock with
    | none => exact .inl rfl
    | some b => exact .inr fun e => (h.aM b e.symm).2.2 hb)
  refine ⟨⟨hp2.1, hs1.kept hp2.2 ?_, ho.kept hp2.2 ?_, h.aP, h.aS, hv⟩, ?_⟩
  · cases hb : vs.ownBlock with
    | none => exact .inl rfl
    | some b => exact .inr fun e => (h.aS b hb).2 (by injection e)
  · cases hb : v'.ownBlock with
    | none => exact .inl rfl
    | some b => exact .inr fun e => (hv b hb).2.1 (by injection e)
  · exact (keep_grown hg (fun b e => (h.aM b e).1)).trans (keep_grown hp2.2 (fun b e => by injection e with e; subst e; exact h.aP))

/-- A new greatest height. -/
theorem RSv.setH {w : World} {p : Nat} {A : Nat → Prop} {vs vm : Value} {mo mo' : Int} {s : List Int} {m : List Nat} (h : RSv w p A vs vm mo s m) :
    RSv (w.setCell ⟨p, 2, none⟩ (.int .i64 mo')) p A vs vm mo' s m ∧ KeepA A w (w.setCell ⟨p, 2, none⟩ (.int .i64 mo')) := by
  have hp2 := h.hp.stored 2 (.int .i64 mo')
  refine ⟨⟨hp2.1, h.hs.kept hp2.2 ?_, h.hm.kept hp2.2 ?_, h.aP, h.aS, h.aM⟩, keep_grown hp2.2 (fun b e => by injection e with e; subst e; exact h.aP)⟩
  · cases hb : vs.ownBlock with
    | none => exact .inl rfl
    | some b => exact .inr fun e => (h.aS b hb).2 (by injection e)
  · cases hb : vm.ownBlock with
    | none => exact .inl rfl
    | some b => exact .inr fun e => (h.aM b hb).2.1 (by injection e)

/-- The run stack, whatever its headers. -/
def RS (w : World) (p : Nat) (A : Nat → Prop) (s : List Int) (m : List Nat) : Prop := ∃ vs vm mo, RSv w p A vs vm mo s m

theorem intV_at {s : List Int} {k : Nat} (h : k < s.length) : (intV s)[k]? = some (.int .i64 (s.getD k 0)) := by
  unfold intV
  rw [List.getElem?_map, List.getElem?_eq_getElem h, List.getD_eq_getElem?_getD, List.getElem?_eq_getElem h]; rfl
theorem intV_one (s : List Int) : ∀ v ∈ intV s, v.oneCell' = true := fun v hv => by
  unfold intV at hv
  obtain ⟨x, _, rfl⟩ := List.mem_map.1 hv
  rfl

set_option maxRecDepth 100000 in
set_option maxHeartbeats 4000000 in
theorem from_any (p : Nat) (s : List Int) (vs : Value) (k : Nat) (w : World) (hk : 1 ≤ k) (hk2 : k ≤ s.length) (hn : s.length ≤ 1000000) (h0 : w.cell? ⟨p, 0, none⟩ = some vs) (hs : w.ownsRow 0 3 1 vs s.length (intV s)) :
    Calls Try.prog 29 #[.pointer (some ⟨p, 0, none⟩), .int .i64 k] w fun e w' => e = .returned (.int .i64 (s.getD (s.length - k) 0)) ∧ ∃ n, w' = w.drewN n := by
  obtain ⟨g, c, rfl⟩ := own_posA hs (by omega)
  have hx := own_cellA hs (intV_at (k := s.length - k) (by omega))
  generalize s.getD (s.length - k) 0 = x at hx
  generalize hn2 : s.length = n at *
  have q1 : (n : Int) - (k : Int) = ((n - k : Nat) : Int) := by omega
  have b1 : (0 : Int) ≤ ((n - k : Nat) : Int) := by omega
  have b2 : ((n - k : Nat) : Int) < (n : Int) := by omega
  have b3 : n - k < n := by omega
  clear hs
  go_enter Try.func29, Try.ntmps29
  go_wp2_with fail
  go_quiet (fail)
  go_wp2
  go_ret
  exact ⟨rfl, nq, rfl⟩

end Go.Proofs.Ythakkkljlpimlaa
