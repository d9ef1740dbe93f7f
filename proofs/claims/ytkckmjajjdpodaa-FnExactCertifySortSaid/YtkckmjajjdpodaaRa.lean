/- Walks: the library's stable sort at ints: an exchange of two ranges. -/
import Derived.Test.YtkckmjajjdpodaaQh
import Derived.BigRegion
import Derived.Deep.RegionHeld3
namespace Go.Proofs.Ytkckmjajjdpodaa
open Go.RowKit Go.Sort
set_option linter.unusedVariables false

/-- An int's cells. -/
def II.encI (x : Int) : List Value := [.int .i64 x]
theorem II.encI_len (x : Int) : (II.encI x).length = 1 := rfl
theorem II.flat_map (l : List Int) : flat II.encI l = l.map (Value.int .i64) := by
  unfold flat II.encI
  induction l with
  | nil => rfl
  | cons a t ih => simp [List.flatMap_cons]; exact ih
theorem II.flat_set1 (l : List Int) (k : Nat) (x : Int) : (flat II.encI l).set k (.int .i64 x) = flat II.encI (l.set k x) := by
  rw [II.flat_map, II.flat_map, List.map_set]
theorem II.rec_cells {w : World} {base g n cap k : Nat} {e : TypeId} {d : List Int} {r : Int} (h : w.ownsRow base e 1 (.slice (some ⟨g, 0, none⟩) n cap) n (flat II.encI d)) (hk : d[k]? = some r) : w.cell? ⟨g, k, none⟩ = some (.int .i64 r) := by
  rw [II.flat_map] at h
  obtain ⟨g', e, hc, _⟩ := own_at h (i := k) (x := .int .i64 r) (by rw [List.getElem?_map, hk]; rfl)
  injection e with e
  injection e with e _
  subst e
  exact hc
theorem II.insR_at {A R : List Int} {x : Int} {m : Nat} (hm : m < A.length) : (Mg.insSt A x (m + 1) R)[m]? = some (A.getD m 0) ∧ (Mg.insSt A x (m + 1) R)[m + 1]? = some x := by
  refine ⟨?_, Mg.insSt_at (by omega)⟩
  rw [Mg.insSt_before hm, List.getD_eq_getElem?_getD, List.getElem?_eq_getElem hm]; rfl
theorem II.insR_stepD {A R : List Int} {x y : Int} {m : Nat} (hm : m < A.length) (hy : A.getD m 0 = y) : ((Mg.insSt A x (m + 1) R).set m x).set (m + 1) y = Mg.insSt A x m R := by
  have e1 : A[m] = y := by rw [← hy, List.getD_eq_getElem?_getD, List.getElem?_eq_getElem hm]; rfl
  rw [← e1]; exact Mg.insSt_step hm
theorem II.getD_memI {l : List Int} {i : Nat} (h : i < l.length) : l.getD i 0 ∈ l := by
  rw [List.getD_eq_getElem?_getD, List.getElem?_eq_getElem h]; exact List.getElem_mem h
theorem II.take_snocR {zs : List Int} {i : Nat} (hi : i < zs.length) : zs.take i ++ [zs.getD i 0] = zs.take (i + 1) := by
  rw [List.take_add_one, List.getElem?_eq_getElem hi, List.getD_eq_getElem?_getD, List.getElem?_eq_getElem hi]
  rfl
end Go.Proofs.Ytkckmjajjdpodaa
namespace Go.Proofs.Ytkckmjajjdpodaa.II
open Go.RowKit Go.Sort
set_option linter.unusedVariables false

/-- A function value that compares ints by the order lt, where I holds; I passes on where block g alone is written. -/
def CmpIs (D : Int → Prop) (I : World → Prop) (g : Nat) (lt : Int → Int → Bool) (cv : Value) : Prop :=
  (∀ w w', I w → World.grownBy w w' (some g) → I w') ∧ ∃ G cp, cv = .func (.func G) #[] cp ∧ (∀ args w, (callFunc G args).run Try.prog w = .ok (.enter G args) w) ∧
    ∀ (r s : Int) (w : World), D r → D s → I w → Calls Try.prog G (#[.int .i64 r, .int .i64 s] ++ cp) w fun e w' => (∃ n : Int, e = .returned (.int .i64 n) ∧ (decide (n < 0) = lt r s)) ∧ Below w.heap.size w w'

set_option maxRecDepth 100000 in
set_option maxHeartbeats 4000000 in
theorem swapRange_any (B0 g c n : Nat) (pre A M B post : List (Int)) (m a b : Nat) (cv : Value) (w : World) (hA : A.length = m) (hB : B.length = m) (ha : pre.length = a) (hb : a + m + M.length = b) (hn : (pre ++ A ++ M ++ B ++ post).length = n) (hn2 : n ≤ 1000)
    (h : w.ownsRow B0 3 1 (.slice (some ⟨g, 0, none⟩) n c) n (flat encI (pre ++ A ++ M ++ B ++ post))) :
    Calls Try.prog 194 #[.slice (some ⟨g, 0, none⟩) n c, .int .i64 a, .int .i64 b, .int .i64 m, cv] w fun e w' => e = .returned (.tuple #[]) ∧
      w'.ownsRow B0 3 1 (.slice (some ⟨g, 0, none⟩) n c) n (flat encI (pre ++ B ++ M ++ A ++ post)) ∧ w.grownBy w' (some g) := by
  rw [← Mg.swSt_zero] at h
  have HE := Lib.hid (Mg.swSt_end (pre := pre) (M := M) (post := post) hA hB)
  have HO := Lib.hid h
  have hlen : a + m + M.length + m + post.length = n := by rw [← hn]; simp only [List.length_append]; omega
  have HLL : Hid (∀ k, k ≤ m → (Mg.swSt pre A M B post k).length = n) := fun k hk => by
    unfold Mg.swSt
    simp only [List.length_append, List.length_take, List.length_drop]
    omega
  have HSP := Lib.hid (fun k (h1 : k < A.length) (h2 : k < B.length) => Mg.swSt_step (pre := pre) (M := M) (post := post) h1 h2 ha (by omega : a + A.length + M.length = b))
  clear h hn
  go_enter Try.func194, Try.ntmps194
  go_wp2
  go_loopw [10] (fun v wr => ∃ k : Nat, v = .int .i64 k ∧ k ≤ m ∧ wr.ownsRow B0 3 1 (.slice (some ⟨g, 0, none⟩) n c) n (flat encI (Mg.swSt pre A M B post k)) ∧ w.grownBy wr (some g)) (fun v _ => m - (intOf v).toNat)
  case atStart => exact ⟨0, rfl, by omega, HO.out, grown_of_below (Below.refl w.heap.size w)⟩
  case round =>
    obtain ⟨k, rfl, hk, ho, hg⟩ := hrel
    have HO2 := Lib.hid ho; have HG2 := Lib.hid hg
    clear ho hg HO
    by_cases hlt : k < m
    case neg =>
      obtain rfl : k = m := by omega
      rw [HE.out] at HO2
      go_wp2
      go_end0
      exact ⟨rfl, HO2.out, HG2.out⟩
    obtain ⟨q1, q2, hs⟩ := HSP.out k (by omega) (by omega)
    have HS := Lib.hid hs; clear hs
    have c1 := rec_cells HO2.out q1
    have c2 := rec_cells HO2.out q2
    have HL1 := Lib.hid (HLL.out k hk)
    generalize A[k] = X at c1  HS
    generalize B[k] = Y at c2  HS
    generalize Mg.swSt pre A M B post k = rs at HO2 HL1 HS
    generalize hN : Mg.swSt pre A M B post (k + 1) = rs' at HS
    have HN := Lib.hid hN
    clear hN q1 q2 HSP HLL HE
    have t1 : ((a : Int) + (k : Int)).toNat = a + k := by omega
    have t2 : ((b : Int) + (k : Int)).toNat = b + k := by omega
    have b1 : (0 : Int) ≤ (a : Int) + (k : Int) := by omega
    have b2 : (a : Int) + (k : Int) < (n : Int) := by omega
    have b3 : (0 : Int) ≤ (b : Int) + (k : Int) := by omega
    have b4 : (b : Int) + (k : Int) < (n : Int) := by omega
    have w1 : IntKind.i64.wrap ((a : Int) + (k : Int)) = (a : Int) + (k : Int) := IntWalk.i64_in _ (by omega)
    have w2 : IntKind.i64.wrap ((b : Int) + (k : Int)) = (b : Int) + (k : Int) := IntWalk.i64_in _ (by omega)
    have p1 : a + k < n := by omega
    have p2 : b + k < n := by omega
    have HO3 : Hid (wr.drew.ownsRow B0 3 1 (.slice (some ⟨g, 0, none⟩) n c) n (flat encI rs)) := HO2.out
    have d1 : wr.drew.cell? ⟨g, (a + k), none⟩ = some (.int .i64 X) := c1
    have d2 : wr.drew.cell? ⟨g, (b + k), none⟩ = some (.int .i64 Y) := c2
    clear c1  c2 
    go_wp2_with fail
    have rf : ∀ o, wr.drew.frozen? ⟨g, o, none⟩ = false := fun o => HO3.out.frozenAt o
    have o1 := HO2.out.stored (a + k) (.int .i64 Y)
    have o2 := o1.1.stored (b + k) (.int .i64 X)
    have i1 : (wr.setCell ⟨g, a + k, none⟩ (.int .i64 Y)).drew.cell? ⟨g, b + k, none⟩ = some (.int .i64 Y) := (cell_far (by omega)).trans d2
    have f1 : ∀ o, (wr.setCell ⟨g, a + k, none⟩ (.int .i64 Y)).drew.frozen? ⟨g, o, none⟩ = false := fun o => o1.1.frozenAt o
    have h4 := o2.1
    rw [flat_set1, flat_set1, HS.out] at h4
    have HO9 := Lib.hid h4
    have HG9 := Lib.hid (grown_trans HG2.out (grown_trans o1.2 o2.2))
    clear o1 o2 h4
    go_region_law (fail)
    all_goals
      rw [← HN.out] at HO9
      generalize (wr.setCell ⟨g, a + k, none⟩ (.int .i64 Y)).setCell ⟨g, b + k, none⟩ (.int .i64 X) = w9 at HO9 HG9 ⊢
      clear i1 f1 rf d1  d2  HO3 HO2 t1 t2
      go_wp2
      go_roundw
      case rel => exact ⟨k + 1, by go_num, by omega, HO9.out, grown_trans HG9.out (grown_of_below (Below.refl w9.heap.size w9).drew)⟩
      case measure => simp [intOf] <;> omega

end Go.Proofs.Ytkckmjajjdpodaa.II
