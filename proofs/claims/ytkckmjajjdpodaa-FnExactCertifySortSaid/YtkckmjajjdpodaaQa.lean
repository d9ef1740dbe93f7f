/- Walks: the library's stable sort at records: the comparison, an exchange of two ranges. -/
import Derived.Test.YtkckmjajjdpodaaJb
import Derived.Test.YtkckmjajjdpodaaSy
import Derived.Test.YtkckmjajjdpodaaSh
import Derived.StillTailTactics
import Derived.BigRegion
import Derived.Deep.RegionHeld3
namespace Go.Proofs.Ytkckmjajjdpodaa
open Go.RowKit Go.Sort
set_option linter.unusedVariables false

set_option maxRecDepth 100000 in
set_option maxHeartbeats 2000000 in
theorem compareKeys_any (r s : Int × Int) (w : World) :
    Calls Try.prog 152 #[.agg #[.int .i64 r.1, .int .i64 r.2], .agg #[.int .i64 s.1, .int .i64 s.2]] w fun e w' => (∃ n : Int, e = .returned (.int .i64 n) ∧ (decide (n < 0) = decide (r.1 < s.1))) ∧ Below w.heap.size w w' := by
  obtain ⟨r1, r2⟩ := r
  obtain ⟨s1, s2⟩ := s
  have HC := Lib.hid (fun W => Try.cmp_Compare_int r1 s1 W)
  have HD : Hid (decide (Lib.compareInt r1 s1 < 0) = decide (r1 < s1)) := by
    show _ = _
    unfold Lib.compareInt
    by_cases h1 : r1 < s1
    · rw [if_pos h1, decide_eq_true h1]; rfl
    · rw [if_neg h1, decide_eq_false h1]; split <;> rfl
  have HB := Lib.hid (((Below.refl w.heap.size w).alloc (Nat.le_refl _) (.cells #[.int .i64 r1, .int .i64 r2] 72)).alloc (by simp) (.cells #[.int .i64 s1, .int .i64 s2] 72))
  go_enter Try.func152, Try.ntmps152
  go_wp2_with fail
  refine (HC.out _).mono ?_
  rintro e w' ⟨rfl, rfl⟩
  go_wp2
  go_ret
  exact ⟨⟨_, rfl, HD.out⟩, HB.out⟩

/-- A function value that compares records by the order lt, where I holds; I passes on where block g alone is written. -/
def CmpIs (I : World → Prop) (g : Nat) (lt : Int × Int → Int × Int → Bool) (cv : Value) : Prop :=
  (∀ w w', I w → World.grownBy w w' (some g) → I w') ∧ ∃ G cp, cv = .func (.func G) #[] cp ∧ (∀ args w, (callFunc G args).run Try.prog w = .ok (.enter G args) w) ∧
    ∀ (r s : Int × Int) (w : World), I w → Calls Try.prog G (#[.agg #[.int .i64 r.1, .int .i64 r.2], .agg #[.int .i64 s.1, .int .i64 s.2]] ++ cp) w fun e w' => (∃ n : Int, e = .returned (.int .i64 n) ∧ (decide (n < 0) = lt r s)) ∧ Below w.heap.size w w'

/-- The comparison of keys as a value. -/
def cmpV : Value := .func (.func 152) #[] #[]
theorem cmpV_is (g : Nat) : CmpIs (fun _ => True) g (Mg.ltK Prod.fst) cmpV :=
  ⟨fun _ _ _ _ => trivial, 152, #[], rfl, fun args w => by kernel_rfl, fun r s w _ => (compareKeys_any r s w).mono fun e w' ⟨⟨n, h1, h2⟩, h3⟩ => ⟨⟨n, h1, by rw [h2]; rfl⟩, h3⟩⟩

theorem cell_far {w : World} {g i j : Nat} {v : Value} (h : i ≠ j) : (w.setCell ⟨g, i, none⟩ v).cell? ⟨g, j, none⟩ = w.cell? ⟨g, j, none⟩ := World.cell?_setCell_other _ _ _ _ (fun e => h (by injection e))

set_option maxRecDepth 100000 in
set_option maxHeartbeats 4000000 in
theorem swapRange_any (B0 g c n : Nat) (pre A M B post : List (Int × Int)) (m a b : Nat) (cv : Value) (w : World) (hA : A.length = m) (hB : B.length = m) (ha : pre.length = a) (hb : a + m + M.length = b) (hn : (pre ++ A ++ M ++ B ++ post).length = n) (hn2 : n ≤ 1000)
    (h : w.ownsRow B0 72 2 (.slice (some ⟨g, 0, none⟩) n c) n (flat encR (pre ++ A ++ M ++ B ++ post))) :
    Calls Try.prog 193 #[.slice (some ⟨g, 0, none⟩) n c, .int .i64 a, .int .i64 b, .int .i64 m, cv] w fun e w' => e = .returned (.tuple #[]) ∧
      w'.ownsRow B0 72 2 (.slice (some ⟨g, 0, none⟩) n c) n (flat encR (pre ++ B ++ M ++ A ++ post)) ∧ w.grownBy w' (some g) := by
  rw [← Mg.swSt_zero] at h
  have HE := Lib.hid (Mg.swSt_end (pre := pre) (M := M) (post := post) hA hB)
  have HO := Lib.hid h
  have hlen : a + m + M.length + m + post.length = n := by rw [← hn]; simp only [List.length_append]; omega
  have HLL : Hid (∀ k, k ≤ m → (Mg.swSt pre A M B post k).length = n) := fun k hk => by
    unfold Mg.swSt
    simp only [List.length_append, List.length_take, List.length_drop]
    omega
  have HSP := Lib.hid (fun k (h1 : k < A.length) (h2 : k < B.length) => Mg.swSt_step (pre := pre) (M := M) (post := post) h1 h2 ha (by omega : a + A.length + M.length = b))
  clear h hn
  go_enter Try.func193, Try.ntmps193
  go_wp2
  go_loopw [10] (fun v wr => ∃ k : Nat, v = .int .i64 k ∧ k ≤ m ∧ wr.ownsRow B0 72 2 (.slice (some ⟨g, 0, none⟩) n c) n (flat encR (Mg.swSt pre A M B post k)) ∧ w.grownBy wr (some g)) (fun v _ => m - (intOf v).toNat)
  case atStart => exact ⟨0, rfl, by omega, HO.out, grown_of_below (Below.refl w.heap.size w)⟩
  case round =>
    obtain ⟨k, rfl, hk, ho, hg⟩ := hrel
    have HO2 := Lib.hid ho; have HG2 := Lib.hid hg
    clear ho hg HO
    by_cases hlt : k < m
    case neg =>
      obtain rfl : k = m := by omega
      rw [HE.out] at HO2
      go_wp2
      go_end0
      exact ⟨rfl, HO2.out, HG2.out⟩
    obtain ⟨q1, q2, hs⟩ := HSP.out k (by omega) (by omega)
    have HS := Lib.hid hs; clear hs
    obtain ⟨c1, c1'⟩ := rec_cells HO2.out q1
    obtain ⟨c2, c2'⟩ := rec_cells HO2.out q2
    have HL1 := Lib.hid (HLL.out k hk)
    generalize A[k] = X at c1 c1' HS
    generalize B[k] = Y at c2 c2' HS
    generalize Mg.swSt pre A M B post k = rs at HO2 HL1 HS
    generalize hN : Mg.swSt pre A M B post (k + 1) = rs' at HS
    have HN := Lib.hid hN
    clear hN q1 q2 HSP HLL HE
    obtain ⟨X1, X2⟩ := X
    obtain ⟨Y1, Y2⟩ := Y
    have t1 : ((a : Int) + (k : Int)).toNat = a + k := by omega
    have t2 : ((b : Int) + (k : Int)).toNat = b + k := by omega
    have b1 : (0 : Int) ≤ (a : Int) + (k : Int) := by omega
    have b2 : (a : Int) + (k : Int) < (n : Int) := by omega
    have b3 : (0 : Int) ≤ (b : Int) + (k : Int) := by omega
    have b4 : (b : Int) + (k : Int) < (n : Int) := by omega
    have w1 : IntKind.i64.wrap ((a : Int) + (k : Int)) = (a : Int) + (k : Int) := IntWalk.i64_in _ (by omega)
    have w2 : IntKind.i64.wrap ((b : Int) + (k : Int)) = (b : Int) + (k : Int) := IntWalk.i64_in _ (by omega)
    have p1 : a + k < n := by omega
    have p2 : b + k < n := by omega
    have HO3 : Hid (wr.drew.ownsRow B0 72 2 (.slice (some ⟨g, 0, none⟩) n c) n (flat encR rs)) := HO2.out
    have d1 : wr.drew.cell? ⟨g, (a + k) * 2, none⟩ = some (.int .i64 X1) := c1
    have d1' : wr.drew.cell? ⟨g, (a + k) * 2 + 1, none⟩ = some (.int .i64 X2) := c1'
    have d2 : wr.drew.cell? ⟨g, (b + k) * 2, none⟩ = some (.int .i64 Y1) := c2
    have d2' : wr.drew.cell? ⟨g, (b + k) * 2 + 1, none⟩ = some (.int .i64 Y2) := c2'
    clear c1 c1' c2 c2'
    go_wp2_with fail
    have rf : ∀ o, wr.drew.frozen? ⟨g, o, none⟩ = false := fun o => HO3.out.frozenAt o
    have o1 := HO2.out.stored ((a + k) * 2) (.int .i64 Y1)
    have o2 := o1.1.stored ((a + k) * 2 + 1) (.int .i64 Y2)
    have o3 := o2.1.stored ((b + k) * 2) (.int .i64 X1)
    have o4 := o3.1.stored ((b + k) * 2 + 1) (.int .i64 X2)
    have i1 : (wr.setCell ⟨g, (a + k) * 2, none⟩ (.int .i64 Y1)).drew.cell? ⟨g, (a + k) * 2 + 1, none⟩ = some (.int .i64 X2) := (cell_far (by omega)).trans d1'
    have f1 : ∀ o, (wr.setCell ⟨g, (a + k) * 2, none⟩ (.int .i64 Y1)).drew.frozen? ⟨g, o, none⟩ = false := fun o => o1.1.frozenAt o
    have i2 : ((wr.setCell ⟨g, (a + k) * 2, none⟩ (.int .i64 Y1)).setCell ⟨g, (a + k) * 2 + 1, none⟩ (.int .i64 Y2)).drew.cell? ⟨g, (b + k) * 2, none⟩ = some (.int .i64 Y1) :=
      ((cell_far (by omega)).trans (cell_far (by omega))).trans d2
    have f2 : ∀ o, ((wr.setCell ⟨g, (a + k) * 2, none⟩ (.int .i64 Y1)).setCell ⟨g, (a + k) * 2 + 1, none⟩ (.int .i64 Y2)).drew.frozen? ⟨g, o, none⟩ = false := fun o => o2.1.frozenAt o
    have i3 : (((wr.setCell ⟨g, (a + k) * 2, none⟩ (.int .i64 Y1)).setCell ⟨g, (a + k) * 2 + 1, none⟩ (.int .i64 Y2)).setCell ⟨g, (b + k) * 2, none⟩ (.int .i64 X1)).drew.cell? ⟨g, (b + k) * 2 + 1, none⟩ = some (.int .i64 Y2) :=
      (((cell_far (by omega)).trans (cell_far (by omega))).trans (cell_far (by omega))).trans d2'
    have f3 : ∀ o, (((wr.setCell ⟨g, (a + k) * 2, none⟩ (.int .i64 Y1)).setCell ⟨g, (a + k) * 2 + 1, none⟩ (.int .i64 Y2)).setCell ⟨g, (b + k) * 2, none⟩ (.int .i64 X1)).drew.frozen? ⟨g, o, none⟩ = false := fun o => o3.1.frozenAt o
    have hfl : ((((flat encR rs).set ((a + k) * 2) (.int .i64 Y1)).set ((a + k) * 2 + 1) (.int .i64 Y2)).set ((b + k) * 2) (.int .i64 X1)).set ((b + k) * 2 + 1) (.int .i64 X2) = flat encR rs' := by
      rw [flat_set2 encR_len rs (a + k) (by rw [HL1.out]; exact p1) (Y1, Y2) _ _ rfl, flat_set2 encR_len _ (b + k) (by rw [List.length_set, HL1.out]; exact p2) (X1, X2) _ _ rfl, HS.out]
    have HO9 : Hid (((((wr.setCell ⟨g, (a + k) * 2, none⟩ (.int .i64 Y1)).setCell ⟨g, (a + k) * 2 + 1, none⟩ (.int .i64 Y2)).setCell ⟨g, (b + k) * 2, none⟩ (.int .i64 X1)).setCell ⟨g, (b + k) * 2 + 1, none⟩ (.int .i64 X2)).ownsRow B0 72 2 (.slice (some ⟨g, 0, none⟩) n c) n (flat encR rs')) := by
      show World.ownsRow _ _ _ _ _ _ _
      rw [← hfl]; exact o4.1
    have HG9 := Lib.hid (grown_trans HG2.out (grown_trans o1.2 (grown_trans o2.2 (grown_trans o3.2 o4.2))))
    clear o1 o2 o3 o4 hfl
    go_region_law (fail)
    all_goals
      rw [← HN.out] at HO9
      generalize (((wr.setCell ⟨g, (a + k) * 2, none⟩ (.int .i64 Y1)).setCell ⟨g, (a + k) * 2 + 1, none⟩ (.int .i64 Y2)).setCell ⟨g, (b + k) * 2, none⟩ (.int .i64 X1)).setCell ⟨g, (b + k) * 2 + 1, none⟩ (.int .i64 X2) = w9 at HO9 HG9 ⊢
      clear i1 f1 i2 f2 i3 f3 rf d1 d1' d2 d2' HO3 HO2 t1 t2
      go_wp2
      go_roundw
      case rel => exact ⟨k + 1, by go_num, by omega, HO9.out, grown_trans HG9.out (grown_of_below (Below.refl w9.heap.size w9).drew)⟩
      case measure => simp [intOf] <;> omega

end Go.Proofs.Ytkckmjajjdpodaa
