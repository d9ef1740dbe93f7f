/- Walks: the keys of records, by both packages. -/
import Derived.Test.YtkckmjajjdpodaaWg
import Derived.Test.YtkckmjajjdpodaaWt1
namespace Go.Proofs.Ytkckmjajjdpodaa
open Go.RowKit
set_option linter.unusedVariables false

def keysL (rs : List (Int × Int)) : List Int := rs.map Prod.fst
theorem keysL_succ {rs : List (Int × Int)} {k : Nat} (hk : k < rs.length) : keysL (rs.take (k + 1)) = keysL (rs.take k) ++ [(rs.getD k (0, 0)).1] := by
  unfold keysL
  rw [List.take_add_one, List.map_append]
  simp [List.getD, List.getElem?_eq_getElem hk]
theorem keysL_len (rs : List (Int × Int)) : (keysL rs).length = rs.length := by simp [keysL]

set_option maxRecDepth 100000 in
set_option maxHeartbeats 400000 in
theorem keysOf_any (a : Option Addr) (cap : Nat) (zs : List (Int × Int)) (w : World) (hlen : zs.length ≤ 1048576) (h : RecsAt w a zs) :
    Calls Try.prog 97 #[.slice a zs.length cap] w fun e w' => ∃ a' c', e = .returned (.slice a' (keysL zs).length c') ∧ w'.ownsRow w.heap.size 3 1 (.slice a' (keysL zs).length c') (keysL zs).length ((keysL zs).map (Value.int .i64)) ∧ Below w.heap.size w w' := by
  have H := Lib.hid h; clear h
  have e1 := own_lit (w := w) (e := 3) (size := 1) #[] 0 (by omega) rfl
  have E1 := Lib.hid e1; clear e1
  go_enter Try.func97, Try.ntmps97
  go_wp2
  go_loopw [3, 5, 9] (fun v _ i wr => ∃ k : Nat, k ≤ zs.length ∧ i = .int .i64 k ∧ wr.ownsRow w.heap.size 3 1 v (keysL (zs.take k)).length ((keysL (zs.take k)).map (Value.int .i64)) ∧ Below w.heap.size w wr) (fun _ _ i _ => zs.length - (intOf i).toNat)
  case atStart => exact ⟨0, by omega, rfl, E1.out, (Below.refl _ _).alloc (Nat.le_refl _) _⟩
  case round =>
    obtain ⟨k, hk, rfl, hown, hb⟩ := hrel
    clear E1
    by_cases hlt : k < zs.length
    · obtain ⟨b, off, rfl, hc1, hc2⟩ := (H.out.below (Nat.le_refl _) hb).at hlt
      have hs := keysL_succ hlt
      have hl : (keysL (zs.take k)).length = k := by rw [keysL_len]; simp; omega
      generalize hr : zs.getD k (0, 0) = r at hc1 hc2 hs
      have HS := Lib.hid hs; clear hs
      have HR := Lib.hid hr; clear hr
      obtain ⟨x, y⟩ := r
      have HO := Lib.hid hown; clear hown
      have HB := Lib.hid hb; clear hb
      have HL := Lib.hid hl
      have hn : (keysL (zs.take k)).length + 1 ≤ 1099511627776 := by omega
      have hbs := HB.out.size
      clear hl
      go_wp2_with (at_builtin; refine wpList_app1 slInt rfl (.tmp 13) (.tmp 16) rfl rfl (HO.out.alloc _) [.int .i64 x] rfl rfl (by simp) (by simp [Value.oneCell']) hn (by simp; omega) ?_; intro v' w1 hown' hg ht)
      have HO' := Lib.hid hown'
      have HB' := Lib.hid (below_app (HB.out.alloc hbs _) (by simp; omega) (HO.out.alloc _) (Nat.le_refl _) hg)
      clear hown' hg ht hbs hn
      go_roundw
      case rel =>
        refine ⟨k + 1, by omega, by go_num, ?_, HB'.out⟩
        rw [HS.out, List.length_append, List.map_append]
        exact HO'.out
      case measure => simp [intOf]; omega
    · rw [List.take_of_length_le (by omega)] at hown
      obtain ⟨a', c', rfl⟩ := own_slice hown
      have HO := Lib.hid hown; clear hown
      have HB := Lib.hid hb; clear hb
      go_wp2
      go_ret
      exact ⟨a', c', rfl, HO.out, HB.out⟩


set_option maxRecDepth 100000 in
set_option maxHeartbeats 400000 in
theorem l24Keys_any (a : Option Addr) (cap : Nat) (zs : List (Int × Int)) (w : World) (hlen : zs.length ≤ 1048576) (h : RecsAt w a zs) :
    Calls Try.prog 94 #[.slice a zs.length cap] w fun e w' => ∃ a' c', e = .returned (.slice a' (keysL zs).length c') ∧ w'.ownsRow w.heap.size 3 1 (.slice a' (keysL zs).length c') (keysL zs).length ((keysL zs).map (Value.int .i64)) ∧ Below w.heap.size w w' := by
  have H := Lib.hid h; clear h
  have e1 := own_lit (w := w) (e := 3) (size := 1) #[] 0 (by omega) rfl
  have E1 := Lib.hid e1; clear e1
  go_enter Try.func94, Try.ntmps94
  go_wp2
  go_loopw [3, 4] (fun v i wr => ∃ k : Nat, k ≤ zs.length ∧ i = .int .i64 k ∧ wr.ownsRow w.heap.size 3 1 v (keysL (zs.take k)).length ((keysL (zs.take k)).map (Value.int .i64)) ∧ Below w.heap.size w wr) (fun _ i _ => zs.length - (intOf i).toNat)
  case atStart => exact ⟨0, by omega, rfl, E1.out, (Below.refl _ _).alloc (Nat.le_refl _) _⟩
  case round =>
    obtain ⟨k, hk, rfl, hown, hb⟩ := hrel
    clear E1
    by_cases hlt : k < zs.length
    · obtain ⟨b, off, rfl, hc1, hc2⟩ := (H.out.below (Nat.le_refl _) hb).at hlt
      have hs := keysL_succ hlt
      have hl : (keysL (zs.take k)).length = k := by rw [keysL_len]; simp; omega
      generalize hr : zs.getD k (0, 0) = r at hc1 hc2 hs
      have HS := Lib.hid hs; clear hs
      have HR := Lib.hid hr; clear hr
      obtain ⟨x, y⟩ := r
      have HO := Lib.hid hown; clear hown
      have HB := Lib.hid hb; clear hb
      have hn : (keysL (zs.take k)).length + 1 ≤ 1099511627776 := by omega
      have hbs := HB.out.size
      have h3 : decide ((k : Int) < (zs.length : Int)) = true := by simp; omega
      clear hl
      go_wp2_with (at_builtin; refine wpList_app1 slInt rfl (.tmp 12) (.tmp 18) rfl rfl HO.out [.int .i64 x] rfl rfl (by simp) (by simp [Value.oneCell']) hn hbs ?_; intro v' w1 hown' hg ht)
      have HO' := Lib.hid hown'
      have HB' := Lib.hid (below_app HB.out hbs HO.out (Nat.le_refl _) hg)
      clear hown' hg ht hbs hn
      go_wp2
      go_roundw
      case rel =>
        refine ⟨k + 1, by omega, by go_num, ?_, HB'.out⟩
        rw [HS.out, List.length_append, List.map_append]
        exact HO'.out
      case measure => simp [intOf] <;> omega
    · rw [List.take_of_length_le (by omega)] at hown
      obtain ⟨a', c', rfl⟩ := own_slice hown
      have HO := Lib.hid hown; clear hown
      have HB := Lib.hid hb; clear hb
      go_wp2
      go_ret
      exact ⟨a', c', rfl, HO.out, HB.out⟩

end Go.Proofs.Ytkckmjajjdpodaa
