/- Walks: NewConsole. -/
import Derived.Test.YtjlebikidoedmaaWp
import Derived.Test.YtjlebikidoedmaaWa
namespace Go.Proofs.Ytjlebikidoedmaa
open Go.RowKit
set_option linter.unusedVariables false

def ncRecs (zs : List Int) : List (Int × Int) := if okList zs then recsOf zs else []
theorem ncRecs_len (zs : List Int) : (ncRecs zs).length ≤ 64 := by
  unfold ncRecs
  split
  · rename_i h; have := okList_len h; rw [recsOf, recsK_len]; exact this
  · simp

set_option maxHeartbeats 1000000 in
theorem implNewConsole_any (a : Option Addr) (cap : Nat) (zs : List Int) (w : World) (hbig : zs.length ≤ 9223372036854775807) (h : IntsAt w a zs) :
    Calls Try.prog 31 #[.slice a zs.length cap] w fun e w' => ∃ a' c', e = .returned (.tuple #[.agg #[.slice a' (ncRecs zs).length c', .string ⟨#[]⟩, .string ⟨#[]⟩, .int .i64 0], .bool (okList zs)]) ∧ w'.ownsRow w.heap.size 54 2 (.slice a' (ncRecs zs).length c') (ncRecs zs).length (flat encR (ncRecs zs)) ∧ Below w.heap.size w w' := by
  have HB0 : Hid (Below w.heap.size w (w.alloc (.cells #[.slice none 0 0, .string ⟨#[]⟩, .string ⟨#[]⟩, .int .i64 0] 60))) := (Below.refl _ _).alloc (Nat.le_refl _) _
  have HR0 := Lib.hid (block_new w (.cells #[.slice none 0 0, .string ⟨#[]⟩, .string ⟨#[]⟩, .int .i64 0] 60))
  have HL := Lib.hid (isValidList_any a cap zs _ hbig (h.below (Nat.le_refl _) HB0.out))
  have H := Lib.hid h; clear h
  go_enter Try.func31, Try.ntmps31
  go_wp2_with fail
  refine HL.out.mono ?_
  rintro e w1 ⟨rfl, hb⟩
  have HB1 := Lib.hid (HB0.out.trans (hb.mono HB0.out.size))
  have HR1 := Lib.hid (block_below HR0.out hb (by simp))
  have HS : Hid (w.heap.size < w1.heap.size) := by show _ < _; have := hb.size; simp at this; omega
  clear hb HB0 HR0 HL
  cases hk : okList zs
  · have HK := Lib.hid hk; clear hk
    have HN : Hid (ncRecs zs = []) := by show _ = _; simp [ncRecs, HK.out]
    obtain ⟨c0, c1, c2, c3⟩ := cells4 HR1.out
    go_wp2_with (refine wpList_var rfl 60 (.tmp 2) (.tmp 7) rfl rfl rfl HR1.out (by kernel_rfl) rfl (by simp [Value.oneCell']) ?_)
    intro w3 hrow hg
    obtain ⟨d0, d1, d2, d3⟩ := cells4 hrow
    have HB3 := Lib.hid (HB1.out.grown hg HB1.out.size (fun k hk => by cases hk; exact Nat.le_refl _))
    clear hrow hg c0 c1 c2 c3
    go_wp2
    refine bodyPost_ret (v := .tuple #[.agg #[.slice none 0 0, .string ⟨#[]⟩, .string ⟨#[]⟩, .int .i64 0], .bool false]) (by simp [results, Try.results31, go_sem, d0, d1, d2, d3]) rfl ⟨none, 0, ?_, ?_, HB3.out⟩
    · rw [HN.out, HK.out]; rfl
    · rw [HN.out]; exact World.ownsRow_nil _ _ _ _
  · have HK := Lib.hid hk
    have HN : Hid (ncRecs zs = recsOf zs) := by show _ = _; simp [ncRecs, HK.out]
    have hl := okList_len hk
    clear hk
    go_wp2_with fail
    refine (recordsOf_any a cap zs _ (by omega) (H.out.below (Nat.le_refl _) HB1.out)).mono ?_
    rintro e w2 ⟨a', c', rfl, ho, hb⟩
    have HO := Lib.hid ho
    have HR2 := Lib.hid (block_below HR1.out hb HS.out)
    have HB2 := Lib.hid (HB1.out.trans (hb.mono HB1.out.size))
    clear ho hb
    go_wp2_with (refine wpList_var rfl 60 (.tmp 2) (.tmp 10) rfl rfl rfl HR2.out (by kernel_rfl) rfl (by simp [Value.oneCell']) ?_)
    intro w3 hrow hg
    obtain ⟨d0, d1, d2, d3⟩ := cells4 hrow
    have HB3 := Lib.hid (HB2.out.grown hg HB2.out.size (fun k hk => by cases hk; exact Nat.le_refl _))
    have HO3 := Lib.hid (own_other HO.out hg (fun k hk e => by cases e; have := (HO.out.lt _ hk).1; have := HS.out; omega))
    clear hrow hg
    go_wp2
    refine bodyPost_ret (v := .tuple #[.agg #[.slice a' (recsOf zs).length c', .string ⟨#[]⟩, .string ⟨#[]⟩, .int .i64 0], .bool true]) (by simp [results, Try.results31, go_sem, d0, d1, d2, d3]) rfl ⟨a', c', ?_, ?_, HB3.out⟩
    · rw [HN.out, HK.out]
    · rw [HN.out]; exact own_mono HO3.out HB1.out.size

set_option maxHeartbeats 1000000 in
theorem specNewConsole_any (a : Option Addr) (cap : Nat) (zs : List Int) (w : World) (hbig : zs.length ≤ 9223372036854775807) (h : IntsAt w a zs) :
    Calls Try.prog 30 #[.slice a zs.length cap] w fun e w' => ∃ a' c', e = .returned (.tuple #[.agg #[.slice a' (ncRecs zs).length c', .string ⟨#[]⟩, .string ⟨#[]⟩, .int .i64 0], .bool (okList zs)]) ∧ w'.ownsRow w.heap.size 54 2 (.slice a' (ncRecs zs).length c') (ncRecs zs).length (flat encR (ncRecs zs)) ∧ Below w.heap.size w w' := by
  have HB0 : Hid (Below w.heap.size w (w.alloc (.cells #[.slice none 0 0, .string ⟨#[]⟩, .string ⟨#[]⟩, .int .i64 0] 60))) := (Below.refl _ _).alloc (Nat.le_refl _) _
  have HR0 := Lib.hid (block_new w (.cells #[.slice none 0 0, .string ⟨#[]⟩, .string ⟨#[]⟩, .int .i64 0] 60))
  have HL := Lib.hid (l2List_any a cap zs _ hbig (h.below (Nat.le_refl _) HB0.out))
  have H := Lib.hid h; clear h
  go_enter Try.func30, Try.ntmps30
  go_wp2_with fail
  refine HL.out.mono ?_
  rintro e w1 ⟨rfl, rfl⟩
  have HB1 := Lib.hid HB0.out
  have HR1 := Lib.hid HR0.out
  have HS : Hid (w.heap.size < (w.alloc (.cells #[.slice none 0 0, .string ⟨#[]⟩, .string ⟨#[]⟩, .int .i64 0] 60)).heap.size) := by show _ < _; simp
  generalize hW : w.alloc (.cells #[.slice none 0 0, .string ⟨#[]⟩, .string ⟨#[]⟩, .int .i64 0] 60) = w1 at HB1 HR1 HS ⊢
  have HW := Lib.hid hW; clear hW HB0 HR0 HL
  cases hk : okList zs
  · have HK := Lib.hid hk; clear hk
    have HN : Hid (ncRecs zs = []) := by show _ = _; simp [ncRecs, HK.out]
    obtain ⟨c0, c1, c2, c3⟩ := cells4 HR1.out
    go_wp2_with (refine wpList_var rfl 60 (.tmp 2) (.tmp 7) rfl rfl rfl HR1.out (by kernel_rfl) rfl (by simp [Value.oneCell']) ?_)
    intro w3 hrow hg
    obtain ⟨d0, d1, d2, d3⟩ := cells4 hrow
    have HB3 := Lib.hid (HB1.out.grown hg HB1.out.size (fun k hk => by cases hk; exact Nat.le_refl _))
    clear hrow hg c0 c1 c2 c3
    go_wp2
    refine bodyPost_ret (v := .tuple #[.agg #[.slice none 0 0, .string ⟨#[]⟩, .string ⟨#[]⟩, .int .i64 0], .bool false]) (by simp [results, Try.results30, go_sem, d0, d1, d2, d3]) rfl ⟨none, 0, ?_, ?_, HB3.out⟩
    · rw [HN.out, HK.out]; rfl
    · rw [HN.out]; exact World.ownsRow_nil _ _ _ _
  · have HK := Lib.hid hk
    have HN : Hid (ncRecs zs = recsOf zs) := by show _ = _; simp [ncRecs, HK.out]
    have hl := okList_len hk
    clear hk
    go_wp2_with fail
    refine (l26Records_any a cap zs _ (by omega) (H.out.below (Nat.le_refl _) HB1.out)).mono ?_
    rintro e w2 ⟨a', c', rfl, ho, hb⟩
    have HO := Lib.hid ho
    have HR2 := Lib.hid (block_below HR1.out hb HS.out)
    have HB2 := Lib.hid (HB1.out.trans (hb.mono HB1.out.size))
    clear ho hb
    go_wp2_with (refine wpList_var rfl 60 (.tmp 2) (.tmp 10) rfl rfl rfl HR2.out (by kernel_rfl) rfl (by simp [Value.oneCell']) ?_)
    intro w3 hrow hg
    obtain ⟨d0, d1, d2, d3⟩ := cells4 hrow
    have HB3 := Lib.hid (HB2.out.grown hg HB2.out.size (fun k hk => by cases hk; exact Nat.le_refl _))
    have HO3 := Lib.hid (own_other HO.out hg (fun k hk e => by cases e; have := (HO.out.lt _ hk).1; have := HS.out; omega))
    clear hrow hg
    go_wp2
    refine bodyPost_ret (v := .tuple #[.agg #[.slice a' (recsOf zs).length c', .string ⟨#[]⟩, .string ⟨#[]⟩, .int .i64 0], .bool true]) (by simp [results, Try.results30, go_sem, d0, d1, d2, d3]) rfl ⟨a', c', ?_, ?_, HB3.out⟩
    · rw [HN.out, HK.out]
    · rw [HN.out]; exact own_mono HO3.out HB1.out.size

end Go.Proofs.Ytjlebikidoedmaa
