/- Walks: sorting, CertifySort, of both packages. -/
import Derived.Test.YtkckmjajjdpodaaRi
import Derived.Test.YtkckmjajjdpodaaKo
import Derived.Test.YtkckmjajjdpodaaNq1
namespace Go.Proofs.Ytkckmjajjdpodaa
open Go.RowKit Go.Sort
set_option linter.unusedVariables false

theorem IntsAt.grownR {w w' : World} {row : Option Nat} {a : Option Addr} {l : List Int} (h : IntsAt w a l) (hg : w.grownBy w' row) (hne : ∀ b off, a = some ⟨b, off, none⟩ → row ≠ some b) : IntsAt w' a l := by
  rcases h with h | ⟨b, off, e, h1, h2⟩
  · exact .inl h
  · refine .inr ⟨b, off, e, Nat.lt_of_lt_of_le h1 hg.size, fun j hj => ?_⟩
    have := hg.block b h1 (Ne.symm (hne b off e))
    rw [← h2 j hj]
    simp only [World.cell?, this]

/-- The closure of 'sorting' compares places. -/
theorem sort_is (pc g : Nat) (a : Option Addr) (c : Nat) (l : List Int) (hl : l.length ≤ 1000) (hpc : pc ≠ g) (ha : ∀ b off, a = some ⟨b, off, none⟩ → b ≠ g) :
    II.CmpIs (fun x => 0 ≤ x ∧ x < (l.length : Int)) (fun W => pc < W.heap.size ∧ SortI pc a c l W) g (ltP l) (.func (.func 154) #[] #[.pointer (some ⟨pc, 0, none⟩)]) := by
  refine ⟨fun w w' ⟨h0, h1, h2⟩ hg => ⟨Nat.lt_of_lt_of_le h0 hg.size, ?_, h2.grownR hg (fun b off e he => by injection he with he; exact ha b off e he.symm)⟩, 154, #[.pointer (some ⟨pc, 0, none⟩)], rfl, fun args w => by kernel_rfl, fun r s w hr hs ⟨_, hI⟩ => ?_⟩
  · have := hg.block pc h0 (by intro e; injection e with e; exact hpc e)
    rw [← h1]
    simp only [World.cell?, this]
  · exact sortCmp_any pc a c l r s w hl hr hs hI

set_option maxRecDepth 100000 in
set_option maxHeartbeats 4000000 in
theorem sorting_any (a : Option Addr) (cc n : Nat) (l : List Int) (w : World) (hl : l.length = n) (hn : n ≤ 1000) (ha : ∀ b off, a = some ⟨b, off, none⟩ → b < w.heap.size) (h : IntsAt w a l) :
    Calls Try.prog 96 #[.slice a n cc] w fun e w' => ∃ (g c' : Nat), e = .returned (.slice (some ⟨g, 0, none⟩) n c') ∧ w'.ownsRow w.heap.size 3 1 (.slice (some ⟨g, 0, none⟩) n c') n ((sortP l).map (Value.int .i64)) ∧ Below w.heap.size w w' := by
  have hbx : Below w.heap.size w (w.alloc (.cells #[.slice a n cc] 45)) := (Below.refl w.heap.size w).alloc (Nat.le_refl _) _
  have HBX := Lib.hid hbx
  have hcell : (w.alloc (.cells #[.slice a n cc] 45)).cell? ⟨w.heap.size, 0, none⟩ = some (.slice a n cc) := cells_new w [.slice a n cc] 45 0 _ rfl
  have HSI : Hid (SortI w.heap.size a cc l (w.alloc (.cells #[.slice a n cc] 45))) := ⟨by rw [hl]; exact hcell, h.below (Nat.le_refl _) hbx⟩
  have hsz : (w.alloc (.cells #[.slice a n cc] 45)).heap.size = w.heap.size + 1 := by simp
  have HA := Lib.hid ha
  have HLN := Lib.hid hl
  have E0 := Lib.hid (own_lit (w := w.alloc (.cells #[.slice a n cc] 45)) (e := 3) (size := 1) #[] 0 (by omega) rfl)
  have B0 := Lib.hid (show Below (w.heap.size + 1) (w.alloc (.cells #[.slice a n cc] 45)) ((w.alloc (.cells #[.slice a n cc] 45)).alloc (.cells #[] 3)) from (Below.refl _ _).alloc (by rw [hsz]; exact Nat.le_refl _) _)
  rw [hsz] at E0
  have HSZ := Lib.hid hsz
  clear h hl hsz ha hbx
  have c0 := hcell
  clear hcell
  go_enter Try.func96, Try.ntmps96
  go_wp2_with fail
  go_loopw [3, 8] (fun v i wr => ∃ k : Nat, i = .int .i64 k ∧ k ≤ n ∧ wr.ownsRow (w.heap.size + 1) 3 1 v k ((upTo k).map (Value.int .i64)) ∧ (∃ g, v.ownBlock = some g) ∧ Below (w.heap.size + 1) (w.alloc (.cells #[.slice a n cc] 45)) wr) (fun _ i _ => n - (intOf i).toNat)
  case atStart => exact ⟨0, rfl, by omega, by first | exact E0.out | simpa using E0.out, ⟨_, rfl⟩, B0.out⟩
  case round =>
    obtain ⟨k, rfl, hk, hown, ⟨g0, hg0⟩, hb⟩ := hrel
    have HO := Lib.hid hown; have HB := Lib.hid hb
    clear hown hb E0 B0
    obtain ⟨a', c', rfl⟩ := own_slice HO.out
    obtain ⟨g, hga, hg1, hg2⟩ := own_addr HO.out (by rw [hg0]; simp)
    subst hga
    clear hg0 g0
    have hbs := HB.out.size
    rw [HSZ.out] at hbs
    by_cases hlt : k < n
    · have q1 : decide ((k : Int) < (n : Int)) = true := decide_eq_true (by omega)
      have hn40 : k + 1 ≤ 1099511627776 := by omega
      go_wp2_with (at_builtin; refine wpList_app1 slInt rfl _ _ rfl rfl HO.out [.int .i64 k] rfl rfl (by simp) (by simp [Value.oneCell']) hn40 hbs ?_; intro v' w2 hown' hg ht)
      have HO4 := Lib.hid hown'
      have HB4 := Lib.hid (below_app HB.out hbs HO.out (Nat.le_refl _) hg)
      have HT4 : Hid (∃ q, v'.ownBlock = some q) := by
        rcases ht with h | h
        · exact ⟨g, h⟩
        · exact ⟨_, h⟩
      clear hown' hg ht
      go_roundw
      case rel => exact ⟨k + 1, by go_num, by omega, by rw [upTo_succ, List.map_append]; exact HO4.out, HT4.out, HB4.out⟩
      case measure => simp [intOf] <;> omega
    obtain rfl : k = n := by omega
    have q1 : decide ((k : Int) < (k : Int)) = false := by simp
    have hbw : Below w.heap.size w wr := HBX.out.trans (HB.out.mono (Nat.le_succ _))
    have HSW : Hid (w.heap.size < wr.heap.size ∧ SortI w.heap.size a cc l wr) := by
      refine ⟨by omega, (HB.out.cell (p := ⟨w.heap.size, 0, none⟩) (by simp)).trans HSI.out.1, ?_⟩
      exact HSI.out.2.below (by rw [HSZ.out]; exact Nat.le_refl _) HB.out
    have HIS := Lib.hid (sort_is w.heap.size g a cc l (by rw [HLN.out]; exact hn) (by omega) (fun b off e he => by have := HA.out b off e; omega))
    have HSS := Lib.hid (II.sortStable_any (Mg.swK (keyAt l)) (w.heap.size + 1) g c' k (upTo k) wr (upTo_len k) hn (fun y hy => by rw [HLN.out]; exact upTo_mem hy) HSW.out HIS.out (by rw [II.flat_map]; exact HO.out))
    have HBW := Lib.hid hbw
    clear hbw HIS HSW
    go_wp2_with fail
    refine HSS.out.mono ?_
    rintro e w5 ⟨rfl, ho, hg⟩
    rw [II.flat_map] at ho
    have HO5 := Lib.hid (own_mono ho (Nat.le_succ _))
    have HB5 := Lib.hid (HBW.out.grown hg HBW.out.size (fun q hq => by injection hq with hq; omega))
    have HSP : Hid (sortP l = Mg.srt (ltP l) (upTo k)) := by show _ = _; unfold sortP; rw [HLN.out]
    clear ho hg
    go_wp2
    go_ret
    exact ⟨g, c', rfl, by rw [HSP.out]; exact HO5.out, HB5.out⟩

/-- A list of ints of the call's own and a Bool, given back. -/
def CsEnd (w : World) (out : List Int) (ok : Bool) (e : Ending) (w' : World) : Prop :=
  ∃ (a : Option Addr) (c : Nat), e = .returned (.tuple #[.slice a out.length c, .bool ok]) ∧ w'.ownsRow w.heap.size 3 1 (.slice a out.length c) out.length (out.map (Value.int .i64)) ∧ Below w.heap.size w w'
def csAns (rs : List (Int × Int)) : List Int := if okRecs rs = true then sortP (keysL rs) else []
theorem csAns_le (rs : List (Int × Int)) : (csAns rs).length ≤ 64 := by
  unfold csAns
  split
  · rename_i h; rw [sortP_len, keysL_len]; exact okRecs_le h
  · simp
theorem own_nilE (w : World) (B : Nat) (e : TypeId) (s : Nat) : w.ownsRow B e s (.slice none 0 0) 0 [] := ⟨by simp, .inl ⟨rfl, rfl⟩⟩

set_option maxRecDepth 100000 in
set_option maxHeartbeats 2000000 in
theorem implCertifySort_any (a : Option Addr) (c : Nat) (rs : List (Int × Int)) (w : World) (hbig : rs.length ≤ 9223372036854775807) (h : RecsAt w a rs) :
    Calls Try.prog 30 #[.slice a rs.length c] w (CsEnd w (csAns rs) (okRecs rs)) := by
  have HV := Lib.hid (isValidRecords_any a c rs w hbig h)
  have H := Lib.hid h
  clear h
  unfold CsEnd csAns
  cases hok : okRecs rs
  · rw [hok] at HV
    go_enter Try.func30, Try.ntmps30
    go_wp2_with fail
    refine HV.out.mono ?_
    rintro e w1 ⟨rfl, hb⟩
    have HB := Lib.hid hb; clear hb
    go_wp2
    go_ret2
    exact ⟨none, 0, rfl, own_nilE _ _ _ _, HB.out⟩
  · rw [hok] at HV
    have hl := okRecs_le hok
    have HKL := Lib.hid (keysL_len rs)
    go_enter Try.func30, Try.ntmps30
    go_wp2_with fail
    refine HV.out.mono ?_
    rintro e w1 ⟨rfl, hb⟩
    have HB := Lib.hid hb; clear hb
    go_wp2_with fail
    refine (keysOf_any a c rs w1 (by omega) (H.out.below (Nat.le_refl _) HB.out)).mono ?_
    rintro e w2 ⟨a2, c2, rfl, ho, hb⟩
    have HO2 := Lib.hid ho
    have HB2 := Lib.hid (HB.out.trans (hb.mono HB.out.size)); clear ho hb
    go_wp2_with fail
    refine (sorting_any a2 c2 _ (keysL rs) w2 rfl (by rw [HKL.out]; omega) (fun b off e => (HO2.out.lt b (by rw [e]; rfl)).2) (ints_of_own HO2.out)).mono ?_
    rintro e w3 ⟨g, c3, rfl, ho, hb⟩
    have HO3 := Lib.hid (own_mono ho HB2.out.size)
    have HB3 := Lib.hid (HB2.out.trans (hb.mono HB2.out.size)); clear ho hb
    have HSL := Lib.hid (sortP_len (keysL rs))
    go_wp2
    go_ret2
    exact ⟨_, c3, by rw [HSL.out]; rfl, by rw [HSL.out]; exact HO3.out, HB3.out⟩

set_option maxRecDepth 100000 in
set_option maxHeartbeats 2000000 in
theorem specCertifySort_any (a : Option Addr) (c : Nat) (rs : List (Int × Int)) (w : World) (hbig : rs.length ≤ 9223372036854775807) (h : RecsAt w a rs) :
    Calls Try.prog 28 #[.slice a rs.length c] w (CsEnd w (csAns rs) (okRecs rs)) := by
  have HV := Lib.hid (l2Records_any a c rs w hbig h)
  have H := Lib.hid h
  clear h
  unfold CsEnd csAns
  cases hok : okRecs rs
  · rw [hok] at HV
    have E0 := Lib.hid (own_lit (w := w) (e := 3) (size := 1) #[] 0 (by omega) rfl)
    have HB := Lib.hid (show Below w.heap.size w (w.alloc (.cells #[] 3)) from (Below.refl _ _).alloc (Nat.le_refl _) _)
    go_enter Try.func28, Try.ntmps28
    go_wp2_with fail
    refine HV.out.mono ?_
    rintro e w1 ⟨rfl, rfl⟩
    go_wp2
    go_ret2
    exact ⟨some ⟨w.heap.size, 0, none⟩, 0, rfl, E0.out, HB.out⟩
  · rw [hok] at HV
    have hl := okRecs_le hok
    have HKL := Lib.hid (keysL_len rs)
    go_enter Try.func28, Try.ntmps28
    go_wp2_with fail
    refine HV.out.mono ?_
    rintro e w1 ⟨rfl, rfl⟩
    go_wp2_with fail
    refine (l24Keys_any a c rs w (by omega) H.out).mono ?_
    rintro e w2 ⟨a2, c2, rfl, ho, hb⟩
    have HO2 := Lib.hid ho
    have HB2 := Lib.hid hb; clear ho hb
    go_wp2_with fail
    refine (l3Sorting_any a2 c2 _ (keysL rs) w2 rfl (by rw [HKL.out]; omega) (ints_of_own HO2.out)).mono ?_
    rintro e w3 ⟨a3, c3, rfl, ho, hb⟩
    have HO3 := Lib.hid (own_mono ho HB2.out.size)
    have HB3 := Lib.hid (HB2.out.trans (hb.mono HB2.out.size)); clear ho hb
    have HSL := Lib.hid (sortP_len (keysL rs))
    go_wp2
    go_ret2
    exact ⟨a3, c3, by rw [HSL.out]; rfl, by rw [HSL.out]; exact HO3.out, HB3.out⟩

end Go.Proofs.Ytkckmjajjdpodaa
