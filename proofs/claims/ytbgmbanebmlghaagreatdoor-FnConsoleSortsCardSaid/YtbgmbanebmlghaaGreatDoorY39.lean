/- Several texts in one: lemmas and walks of the functions that the law reaches. -/
import Derived.Test.YtbgmbanebmlghaaGreatDoorY27
import Derived.Test.YtbgmbanebmlghaaGreatDoorY37

namespace Go.Proofs.YtbgmbanebmlghaaGreatDoor
open Go.RowKit
set_option linter.unusedVariables false

/-- A list of texts that can be read. -/
def StrsAt (w : World) (a : Option Addr) (xs : List ByteArray) : Prop :=
  xs = [] ∨ ∃ b off, a = some ⟨b, off, none⟩ ∧ b < w.heap.size ∧ ∀ j x, xs[j]? = some x → w.cell? ⟨b, off + j, none⟩ = some (.string x)
theorem StrsAt.at {w : World} {a : Option Addr} {xs : List ByteArray} (h : StrsAt w a xs) {k : Nat} {x : ByteArray} (hk : xs[k]? = some x) : ∃ b off, a = some ⟨b, off, none⟩ ∧ b < w.heap.size ∧ w.cell? ⟨b, off + k, none⟩ = some (.string x) := by
  rcases h with rfl | ⟨b, off, h1, h2, h3⟩
  · cases hk
  · exact ⟨b, off, h1, h2, h3 k x hk⟩
theorem StrsAt.same {w w' : World} {a : Option Addr} {xs : List ByteArray} (h : StrsAt w a xs) (hb : Below w.heap.size w w') : StrsAt w' a xs :=
  h.imp id fun ⟨b, off, h1, h2, h3⟩ => ⟨b, off, h1, Nat.lt_of_lt_of_le h2 hb.size, fun j x hx => (bcell hb h2).trans (h3 j x hx)⟩
theorem StrsAt.tail {w : World} {b off k : Nat} {xs : List ByteArray} (h : StrsAt w (some ⟨b, off, none⟩) xs) : StrsAt w (some ⟨b, off + k, none⟩) (xs.drop k) := by
  rcases h with rfl | ⟨b', off', h1, h2, h3⟩
  · left; simp
  · right
    injection h1 with h1
    injection h1 with h1 h4
    subst h1 h4
    exact ⟨b, off + k, rfl, h2, fun j x hx => by rw [Nat.add_assoc]; exact h3 _ _ (by rw [← List.getElem?_drop]; exact hx)⟩

/-- The numbers of words, if all are numbers. -/
def nums (xs : List ByteArray) : Option (List Int) := if xs.all (fun x => (pNum (bs x)).isSome) then some (xs.map fun x => (pNum (bs x)).getD 0) else none
/-- What reading the numbers of words gives. -/
def RnEnd (w : World) (r : Option (List Int)) (e : Ending) (w' : World) : Prop :=
  ∃ (a : Option Addr) (m c : Nat), e = .returned (.tuple #[.slice a m c, .bool r.isSome]) ∧ w'.ownsRow w.heap.size 3 1 (.slice a m c) m ((r.getD []).map (Value.int .i64)) ∧ Below w.heap.size w w'

set_option maxRecDepth 100000 in
set_option maxHeartbeats 2000000 in
theorem readNumbers_any (a : Option Addr) (n c : Nat) (xs : List ByteArray) (w : World) (hn : xs.length = n) (hn2 : n ≤ 1048577) (he : Env w) (h : StrsAt w a xs) :
    Calls Tryz.prog 101 #[.slice a n c] w (RnEnd w (nums xs)) := by
  have H := Lib.hid h; have HE := Lib.hid he; have HN := Lib.hid hn
  have E1 := Lib.hid (own_lit (w := w) (e := 3) (size := 1) #[] 0 (by omega) rfl)
  have HB0 := Lib.hid ((Below.refl w.heap.size w).alloc (Nat.le_refl _) (.cells #[] 3))
  clear h he hn
  unfold RnEnd
  go_enter Tryz.func101, Tryz.ntmps101
  go_wp2
  go_loopw [4, 12] (fun v i wr => ∃ k : Nat, k ≤ n ∧ i = .int .i64 k ∧ (xs.take k).all (fun x => (pNum (bs x)).isSome) = true ∧ wr.ownsRow w.heap.size 3 1 v k (((xs.take k).map fun x => (pNum (bs x)).getD 0).map (Value.int .i64)) ∧ Below w.heap.size w wr) (fun _ i _ => n - (intOf i).toNat)
  case atStart => exact ⟨0, by omega, rfl, rfl, E1.out, HB0.out⟩
  case round =>
    obtain ⟨k, hk, rfl, hall, ho, hb⟩ := hrel
    have HALL := Lib.hid hall; have HO := Lib.hid ho; have HB := Lib.hid hb
    clear hall ho hb E1 HB0
    by_cases hlt : k < n
    · have hx : ∃ x, xs[k]? = some x := ⟨_, List.getElem?_eq_getElem (by rw [HN.out]; exact hlt)⟩
      obtain ⟨x, hx⟩ := hx
      obtain ⟨b, off, rfl, _, hc⟩ := (H.out.same HB.out).at hx
      have HTK : Hid (xs.take (k + 1) = xs.take k ++ [x]) := by show _ = _; rw [List.take_add_one, hx]; rfl
      have HNO : Hid ((pNum (bs x)).isSome = false → nums xs = none) := fun h2 => by
        unfold nums
        rw [if_neg]
        intro h3
        have := List.all_eq_true.1 h3 x (List.mem_of_getElem? hx)
        rw [h2] at this; cases this
      have HPI := Lib.hid (parseX_any x wr (HE.out.below HB.out))
      have q1 : decide ((k : Int) < (n : Int)) = true := decide_eq_true (by omega)
      have b0 : (0 : Int) ≤ (k : Int) := by omega
      have b1 : (k : Int) < (n : Int) := by omega
      have hn1 : k + 1 ≤ 1099511627776 := by omega
      obtain ⟨v, hv⟩ : ∃ v, (pNum (bs x)).getD 0 = v := ⟨_, rfl⟩
      obtain ⟨p, hp⟩ : ∃ p, (pNum (bs x)).isSome = p := ⟨_, rfl⟩
      rw [hv, hp] at HPI
      rw [hp] at HNO
      have HV := Lib.hid hv; have HP := Lib.hid hp
      clear hx hv hp
      cases p
      · go_wp2_with fail
        refine HPI.out.mono ?_
        rintro e w2 ⟨rfl, hb2⟩
        have HB2 := Lib.hid (below_trI HB.out hb2 HB.out.size)
        clear hb2
        go_wp2
        go_ret2
        exact ⟨none, 0, 0, by rw [HNO.out (by simp)]; rfl, by rw [HNO.out (by simp)]; exact World.ownsRow_nil _ _ _ _, HB2.out⟩
      · go_wp2_with fail
        refine HPI.out.mono ?_
        rintro e w2 ⟨rfl, hb2⟩
        have HB2 := Lib.hid (below_trI HB.out hb2 HB.out.size)
        have HO2 := Lib.hid (own_below HO.out (Nat.le_refl _) hb2)
        have hbs := HB2.out.size
        clear hb2 hc
        go_wp2_with (at_builtin; refine wpList_app1 slInt rfl _ _ rfl rfl HO2.out [.int .i64 v] rfl rfl (by simp) (by simp [Value.oneCell']) hn1 hbs ?_; intro v' w6 hown6 hg6 ht6)
        have HO6 := Lib.hid hown6
        have HB6 := Lib.hid (below_app HB2.out hbs HO2.out (Nat.le_refl _) hg6)
        clear hown6 hg6 ht6
        go_roundw
        case rel => exact ⟨k + 1, by omega, by go_num, by rw [HTK.out, List.all_append, HALL.out]; simp [HP.out], by rw [HTK.out, List.map_append, List.map_append]; simp only [List.map_cons, List.map_nil, HV.out]; exact HO6.out, HB6.out⟩
        case measure => simp [intOf] <;> omega
    · obtain rfl : k = n := by omega
      have q1 : decide ((k : Int) < (k : Int)) = false := by simp
      have HA : Hid (nums xs = some (xs.map fun x => (pNum (bs x)).getD 0)) := by
        show _ = _
        have := HALL.out
        rw [List.take_of_length_le (by rw [HN.out]; exact Nat.le_refl _)] at this
        unfold nums
        rw [if_pos this]
      have HO2 := HO.out
      rw [List.take_of_length_le (by rw [HN.out]; exact Nat.le_refl _)] at HO2
      obtain ⟨a2, c2, rfl⟩ := own_slice HO2
      have HO3 := Lib.hid HO2
      clear HO2 HO HALL
      go_wp2
      go_ret2
      exact ⟨a2, k, c2, by rw [HA.out]; rfl, by rw [HA.out]; exact HO3.out, HB.out⟩

set_option maxRecDepth 100000 in
set_option maxHeartbeats 1000000 in
theorem spaced_any (a : Option Addr) (n c : Nat) (zs : List Int) (w : World) (hn : zs.length = n) (hl : n ≤ 1000) (hz : ∀ x ∈ zs, -9223372036854775808 ≤ x ∧ x ≤ 9223372036854775807) (ht : Tab w) (h : IntsAt w a zs) :
    Calls Tryz.prog 141 #[.slice a n c] w fun e w' => e = .returned (.string (ba (numT 32 zs))) ∧ Below w.heap.size w w' := by
  have HT : Hid (Calls Tryz.prog 188 #[.slice a n c, .string ⟨#[32]⟩] w fun e w' => e = .returned (.string (ba (numT 32 zs))) ∧ Below w.heap.size w w') := by
    have := numbersText_any a c zs 32 w (by omega) hz ht h
    rwa [hn] at this
  clear h hz ht hn
  go_enter Tryz.func141, Tryz.ntmps141
  go_wp2_with fail
  refine HT.out.mono ?_
  rintro e w1 ⟨rfl, hb⟩
  have HB := Lib.hid hb
  clear hb
  go_wp2
  go_ret
  exact ⟨rfl, HB.out⟩
end Go.Proofs.YtbgmbanebmlghaaGreatDoor

