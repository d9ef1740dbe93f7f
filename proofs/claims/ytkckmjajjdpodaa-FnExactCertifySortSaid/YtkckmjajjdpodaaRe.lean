/- Walks: the library's stable sort at ints, out of insertion and the symmetric merge (the contract 'SymOk' of the merge is a premise here). -/
import Derived.Test.YtkckmjajjdpodaaRb
namespace Go.Proofs.Ytkckmjajjdpodaa.II
open Go.RowKit Go.Sort
set_option linter.unusedVariables false

/-- What the symmetric merge does. -/
def SymOk (D : Int → Prop) (I : World → Prop) (g : Nat) (lt : Int → Int → Bool) (cv : Value) : Prop :=
  ∀ (B0 c n : Nat) (pre L R post rs : List (Int)) (x y z : Int) (w : World), rs = pre ++ L ++ R ++ post → x = (pre.length : Nat) → y = ((pre.length + L.length : Nat) : Int) → z = ((pre.length + L.length + R.length : Nat) : Int) → 0 < L.length → 0 < R.length →
    Mg.Asc lt L → Mg.Asc lt R → (∀ x ∈ L, D x) → (∀ x ∈ R, D x) → rs.length = n → n ≤ 1000 → I w → w.ownsRow B0 3 1 (.slice (some ⟨g, 0, none⟩) n c) n (flat encI rs) →
    Calls Try.prog 187 #[.slice (some ⟨g, 0, none⟩) n c, .int .i64 x, .int .i64 y, .int .i64 z, cv] w fun e w' => e = .returned (.tuple #[]) ∧
      w'.ownsRow B0 3 1 (.slice (some ⟨g, 0, none⟩) n c) n (flat encI (pre ++ Mg.mrg lt L R ++ post)) ∧ w.grownBy w' (some g)

/-- Insertion, its numbers as they come. -/
theorem insertionSort_int {D : Int → Prop} {I : World → Prop} {lt : Int → Int → Bool} (S : Mg.SW lt) {cv : Value} (B0 g c n : Nat) (pre L post rs : List (Int)) (x y : Int) (w : World) (hrs : rs = pre ++ L ++ post) (hx : x = (pre.length : Nat)) (hy : y = ((pre.length + L.length : Nat) : Int)) (hn : rs.length = n) (hn2 : n ≤ 1000) (hD : ∀ x ∈ L, D x) (hI : I w) (HCV : CmpIs D I g lt cv)
    (h : w.ownsRow B0 3 1 (.slice (some ⟨g, 0, none⟩) n c) n (flat encI rs)) :
    Calls Try.prog 186 #[.slice (some ⟨g, 0, none⟩) n c, .int .i64 x, .int .i64 y, cv] w fun e w' => e = .returned (.tuple #[]) ∧
      w'.ownsRow B0 3 1 (.slice (some ⟨g, 0, none⟩) n c) n (flat encI (pre ++ Mg.srt lt L ++ post)) ∧ w.grownBy w' (some g) := by
  subst hx hy hrs
  exact insertionSort_any S B0 g c n pre L post _ _ w rfl rfl hn hn2 hD hI HCV h

abbrev blkR (lt : Int → Int → Bool) (s : Nat) (l : List (Int)) : List (Int) := Mg.blk lt s l

theorem bl_mem {lt : Int → Int → Bool} {s : Nat} : ∀ (f : Nat) (l : List Int) (y : Int), y ∈ Mg.bl lt s f l ↔ y ∈ l
  | 0, _, _ => Iff.rfl
  | f + 1, l, y => by
    unfold Mg.bl
    split
    · exact Mg.srt_mem
    · rw [List.mem_append, Mg.srt_mem, bl_mem f, ← List.mem_append, List.take_append_drop]
/-- What is left of a list whose blocks are being sorted. -/
theorem dom_rest {lt : Int → Int → Bool} {D : Int → Prop} {s : Nat} {d r L : List Int} (h : d ++ blkR lt s r = blkR lt s L) (hD : ∀ x ∈ L, D x) : ∀ x ∈ r, D x := fun x hx =>
  hD x ((bl_mem _ L x).1 (show x ∈ blkR lt s L from h ▸ List.mem_append_right d ((bl_mem _ r x).2 hx)))

set_option maxRecDepth 100000 in
set_option maxHeartbeats 8000000 in
theorem stableCmp_any {D : Int → Prop} {I : World → Prop} {lt : Int → Int → Bool} (S : Mg.SW lt) {cv : Value} (B0 g c n : Nat) (L : List (Int)) (w : World) (hn : L.length = n) (hn2 : n ≤ 1000) (hD : ∀ x ∈ L, D x) (hI : I w) (HCV : CmpIs D I g lt cv) (HS : SymOk D I g lt cv)
    (h : w.ownsRow B0 3 1 (.slice (some ⟨g, 0, none⟩) n c) n (flat encI L)) :
    Calls Try.prog 173 #[.slice (some ⟨g, 0, none⟩) n c, .int .i64 n, cv] w fun e w' => e = .returned (.tuple #[]) ∧
      w'.ownsRow B0 3 1 (.slice (some ⟨g, 0, none⟩) n c) n (flat encI (Mg.srt lt L)) ∧ w.grownBy w' (some g) := by
  have HO := Lib.hid h; have HN := Lib.hid hn
  have HSY : Hid (SymOk D I g lt cv) := HS
  have HIG := Lib.hid (fun w' => HCV.1 w w' hI)
  have HCW := Lib.hid HCV
  have HDD := Lib.hid hD
  clear h hn HS HCV hD
  go_enter Try.func173, Try.ntmps173
  go_wp2
  go_loopw [7, 8] (fun x y wr => ∃ (d r : List (Int)) (a : Nat), x = .int .i64 a ∧ y = .int .i64 ((a : Int) + 20) ∧ d.length = a ∧ a + r.length = n ∧ Hid (d ++ blkR lt 20 r = blkR lt 20 L) ∧ wr.ownsRow B0 3 1 (.slice (some ⟨g, 0, none⟩) n c) n (flat encI (d ++ r)) ∧ w.grownBy wr (some g)) (fun x _ _ => n - (intOf x).toNat)
  case atStart => exact ⟨[], L, 0, rfl, by go_num, rfl, by have := HN.out; omega, Lib.hid rfl, HO.out, grown_of_below (Below.refl w.heap.size w)⟩
  case round =>
    obtain ⟨d, r, a, rfl, rfl, hd, hr, HT, hown, hg⟩ := hrel
    have HO2 := Lib.hid hown; have HG2 := Lib.hid hg; have HD := Lib.hid hd
    have HLN : Hid ((d ++ r).length = n) := by show _ = _; rw [List.length_append]; omega
    clear hown hg hd HO
    by_cases hlt : a + 20 ≤ n
    · have q1 : decide ((a : Int) + 20 ≤ (n : Int)) = true := decide_eq_true (by omega)
      have e1 := List.take_append_drop 20 r
      have l1 : (r.take 20).length = 20 := by rw [List.length_take]; omega
      have hnx := Mg.blk_next (lt := lt) (s := 20) (l := r) (by omega) (by omega)
      have hdl : (r.drop 20).length = r.length - 20 := List.length_drop
      generalize r.take 20 = r1 at e1 l1 hnx
      generalize r.drop 20 = r2 at e1 hnx hdl
      have E1 := Lib.hid e1; have L1 := Lib.hid l1; have NX := Lib.hid hnx
      have HDr : Hid (∀ x ∈ r1, D x) := fun x hx => dom_rest HT.out HDD.out x (by rw [← e1]; exact List.mem_append_left _ hx)
      clear e1 l1 hnx
      go_wp2_with fail
      refine (insertionSort_int S B0 g c n d r1 r2 _ _ _ _ (by rw [← E1.out, List.append_assoc]) (by rw [HD.out]) (by rw [HD.out, L1.out]; omega) HLN.out hn2 HDr.out (HIG.out _ HG2.out) HCW.out HO2.out).mono ?_
      rintro e w5 ⟨rfl, ho5, hg5⟩
      have HO5 := Lib.hid ho5; have HG5 := Lib.hid (grown_trans HG2.out hg5)
      clear ho5 hg5
      go_wp2
      go_roundw
      case rel => exact ⟨d ++ Mg.srt lt r1, r2, a + 20, by go_num, by go_num, by rw [List.length_append, Mg.srt_length, HD.out, L1.out], by omega, Lib.hid (by rw [← HT.out]; unfold blkR; rw [NX.out, List.append_assoc]), HO5.out, HG5.out⟩
      case measure => simp [intOf] <;> omega
    · have q1 : decide ((a : Int) + 20 ≤ (n : Int)) = false := decide_eq_false (by omega)
      have HSH := Lib.hid (Mg.blk_short (lt := lt) (s := 20) (l := r) (by omega))
      go_wp2_with fail
      refine (insertionSort_int S B0 g c n d r [] _ _ _ _ (by rw [List.append_nil]) (by rw [HD.out]) (by rw [HD.out]; omega) HLN.out hn2 (dom_rest HT.out HDD.out) (HIG.out _ HG2.out) HCW.out HO2.out).mono ?_
      rintro e w5 ⟨rfl, ho5, hg5⟩
      have HG5 := Lib.hid (grown_trans HG2.out hg5)
      have HO5 : Hid (w5.ownsRow B0 3 1 (.slice (some ⟨g, 0, none⟩) n c) n (flat encI (blkR lt 20 L))) := by
        show World.ownsRow _ _ _ _ _ _ _
        rw [← HT.out]; unfold blkR; rw [HSH.out]; rw [List.append_nil] at ho5; exact ho5
      clear ho5 hg5 HO2 HG2 HD HT HSH HLN hr q1
      go_wp2
      go_loopw [6] (fun v wr => ∃ s : Nat, v = .int .i64 s ∧ 0 < s ∧ s ≤ 2000 ∧ wr.ownsRow B0 3 1 (.slice (some ⟨g, 0, none⟩) n c) n (flat encI (blkR lt s L)) ∧ w.grownBy wr (some g)) (fun v _ => 2000 - (intOf v).toNat)
      case atStart => exact ⟨20, rfl, by omega, by omega, HO5.out, HG5.out⟩
      case round =>
        obtain ⟨s, rfl, hs0, hs1, hown, hg⟩ := hrel
        have HO6 := Lib.hid hown; have HG6 := Lib.hid hg
        clear hown hg HO5 HG5
        by_cases hsn : s < n
        case neg =>
          have q1 : decide ((s : Int) < (n : Int)) = false := decide_eq_false (by omega)
          have HO7 : Hid (wr.ownsRow B0 3 1 (.slice (some ⟨g, 0, none⟩) n c) n (flat encI (Mg.srt lt L))) := by
            show World.ownsRow _ _ _ _ _ _ _
            have := HO6.out
            unfold blkR at this
            rw [Mg.blk_short (by rw [HN.out]; omega)] at this
            exact this
          go_wp2
          go_end0
          exact ⟨rfl, HO7.out, HG6.out⟩
        have q1 : decide ((s : Int) < (n : Int)) = true := decide_eq_true (by omega)
        obtain ⟨wo, rfl⟩ : ∃ wo : World, wo = wr := ⟨_, rfl⟩
        go_wp2
        go_loopw [7, 8] (fun x y wq => ∃ (d r : List (Int)) (a : Nat), x = .int .i64 a ∧ y = .int .i64 ((a : Int) + 2 * (s : Int)) ∧ d.length = a ∧ a + r.length = n ∧ Hid (d ++ blkR lt (2 * s) r = blkR lt (2 * s) L) ∧ wq.ownsRow B0 3 1 (.slice (some ⟨g, 0, none⟩) n c) n (flat encI (d ++ blkR lt s r)) ∧ w.grownBy wq (some g)) (fun x _ _ => n - (intOf x).toNat)
        case atStart => exact ⟨[], L, 0, rfl, by go_num, rfl, by have := HN.out; omega, Lib.hid rfl, HO6.out, HG6.out⟩
        case round =>
          obtain ⟨d, r, a, rfl, rfl, hd, hr, HT, hown, hg⟩ := hrel
          have HO2 := Lib.hid hown; have HG2 := Lib.hid hg; have HD := Lib.hid hd
          have HLN : Hid ((d ++ blkR lt s r).length = n) := by show _ = _; rw [List.length_append]; unfold blkR; rw [Mg.blk_len hs0]; omega
          clear hown hg hd HO6 HG6
          by_cases hlt2 : a + 2 * s ≤ n
          · have q2 : decide ((a : Int) + 2 * (s : Int) ≤ (n : Int)) = true := decide_eq_true (by omega)
            obtain ⟨t1, t2⟩ := Mg.blk_two S (lt := lt) (s := s) (l := r) hs0 (by omega)
            have t3 := Mg.blk_next (lt := lt) (s := 2 * s) (l := r) (by omega) (by omega)
            have l1 : (Mg.srt lt (r.take s)).length = s := by rw [Mg.srt_length, List.length_take]; omega
            have l2 : (Mg.srt lt ((r.drop s).take s)).length = s := by rw [Mg.srt_length, List.length_take, List.length_drop]; omega
            have a1 := Mg.srt_asc S (r.take s)
            have a2 := Mg.srt_asc S ((r.drop s).take s)
            have l3 : (Mg.srt lt (r.take (2 * s))).length = 2 * s := by rw [Mg.srt_length, List.length_take]; omega
            have l4 : (r.drop (2 * s)).length = r.length - 2 * s := List.length_drop
            have HDa : Hid (∀ x ∈ Mg.srt lt (r.take s), D x) := fun x hx => dom_rest HT.out HDD.out x (List.mem_of_mem_take (Mg.srt_mem.1 hx))
            have HDb : Hid (∀ x ∈ Mg.srt lt ((r.drop s).take s), D x) := fun x hx => dom_rest HT.out HDD.out x (List.mem_of_mem_drop (List.mem_of_mem_take (Mg.srt_mem.1 hx)))
            generalize Mg.srt lt (r.take s) = P1 at t1 t2 l1 a1 HDa
            generalize Mg.srt lt ((r.drop s).take s) = P2 at t1 t2 l2 a2 HDb
            generalize Mg.srt lt (r.take (2 * s)) = P3 at t2 t3 l3
            generalize r.drop (2 * s) = r2 at t1 t3 l4
            have T1 := Lib.hid t1; have T2 := Lib.hid t2; have T3 := Lib.hid t3; have L1 := Lib.hid l1; have L2 := Lib.hid l2; have L3 := Lib.hid l3; have A1 := Lib.hid a1; have A2 := Lib.hid a2
            clear t1 t2 t3 l1 l2 l3 a1 a2
            go_wp2_with fail
            refine (HSY.out B0 c n d P1 P2 (blkR lt s r2) _ _ _ _ _ (by unfold blkR; rw [T1.out]; simp only [List.append_assoc]) (by rw [HD.out]) (by rw [HD.out, L1.out]; omega) (by rw [HD.out, L1.out, L2.out]; omega) (by rw [L1.out]; exact hs0) (by rw [L2.out]; exact hs0) A1.out A2.out HDa.out HDb.out HLN.out hn2 (HIG.out _ HG2.out) HO2.out).mono ?_
            rintro e w5 ⟨rfl, ho5, hg5⟩
            have HO5 := Lib.hid ho5; have HG5 := Lib.hid (grown_trans HG2.out hg5)
            clear ho5 hg5
            rw [T2.out] at HO5
            go_wp2
            go_roundw
            case rel => exact ⟨d ++ P3, r2, a + 2 * s, by go_num, by go_num, by rw [List.length_append, L3.out, HD.out], by omega, Lib.hid (by rw [← HT.out]; unfold blkR; rw [T3.out, List.append_assoc]), HO5.out, HG5.out⟩
            case measure => simp [intOf] <;> omega
          · have q2 : decide ((a : Int) + 2 * (s : Int) ≤ (n : Int)) = false := decide_eq_false (by omega)
            have t3 := Mg.blk_short (lt := lt) (s := 2 * s) (l := r) (by omega)
            have T3 := Lib.hid t3; clear t3
            by_cases hms : a + s < n
            · have q3 : decide ((a : Int) + (s : Int) < (n : Int)) = true := decide_eq_true (by omega)
              obtain ⟨t1, t2⟩ := Mg.blk_rest S (lt := lt) (s := s) (l := r) hs0 (by omega) (by omega)
              have l1 : (Mg.srt lt (r.take s)).length = s := by rw [Mg.srt_length, List.length_take]; omega
              have l2 : (Mg.srt lt (r.drop s)).length = r.length - s := by rw [Mg.srt_length, List.length_drop]
              have a1 := Mg.srt_asc S (r.take s)
              have a2 := Mg.srt_asc S (r.drop s)
              have HDa : Hid (∀ x ∈ Mg.srt lt (r.take s), D x) := fun x hx => dom_rest HT.out HDD.out x (List.mem_of_mem_take (Mg.srt_mem.1 hx))
              have HDb : Hid (∀ x ∈ Mg.srt lt (r.drop s), D x) := fun x hx => dom_rest HT.out HDD.out x (List.mem_of_mem_drop (Mg.srt_mem.1 hx))
              generalize Mg.srt lt (r.take s) = P1 at t1 t2 l1 a1 HDa
              generalize Mg.srt lt (r.drop s) = P2 at t1 t2 l2 a2 HDb
              have T1 := Lib.hid t1; have T2 := Lib.hid t2; have L1 := Lib.hid l1; have L2 := Lib.hid l2; have A1 := Lib.hid a1; have A2 := Lib.hid a2
              clear t1 t2 l1 l2 a1 a2
              go_wp2_with fail
              refine (HSY.out B0 c n d P1 P2 [] _ _ _ _ _ (by unfold blkR; rw [T1.out]; simp only [List.append_assoc, List.append_nil]) (by rw [HD.out]) (by rw [HD.out, L1.out]; omega) (by rw [HD.out, L1.out, L2.out]; omega) (by rw [L1.out]; exact hs0) (by rw [L2.out]; omega) A1.out A2.out HDa.out HDb.out HLN.out hn2 (HIG.out _ HG2.out) HO2.out).mono ?_
              rintro e w5 ⟨rfl, ho5, hg5⟩
              have HG5 := Lib.hid (grown_trans HG2.out hg5)
              have HO5 : Hid (w5.ownsRow B0 3 1 (.slice (some ⟨g, 0, none⟩) n c) n (flat encI (blkR lt (2 * s) L))) := by
                show World.ownsRow _ _ _ _ _ _ _
                rw [← HT.out]; unfold blkR; rw [T3.out, ← T2.out]; rw [List.append_nil] at ho5; exact ho5
              clear ho5 hg5
              go_wp2
              go_roundw
              case rel => exact ⟨2 * s, by go_num, by omega, by omega, HO5.out, HG5.out⟩
              case measure => simp [intOf] <;> omega
            · have q3 : decide ((a : Int) + (s : Int) < (n : Int)) = false := decide_eq_false (by omega)
              have T4 := Lib.hid (Mg.blk_short (lt := lt) (s := s) (l := r) (by omega))
              have HO5 : Hid (wr.ownsRow B0 3 1 (.slice (some ⟨g, 0, none⟩) n c) n (flat encI (blkR lt (2 * s) L))) := by
                show World.ownsRow _ _ _ _ _ _ _
                rw [← HT.out]; unfold blkR; rw [T3.out]; have := HO2.out; unfold blkR at this; rw [T4.out] at this; exact this
              go_wp2
              go_roundw
              case rel => exact ⟨2 * s, by go_num, by omega, by omega, HO5.out, HG2.out⟩
              case measure => simp [intOf] <;> omega

end Go.Proofs.Ytkckmjajjdpodaa.II
