/- Walks: integers that may be invalid; the draws out of bytes. -/
import Derived.Test.YtkjmngdcfheojaaCw
namespace Go.Proofs.Ytkjmngdcfheojaa
open Go.RowKit
set_option linter.unusedVariables false

set_option maxHeartbeats 400000 in
theorem vBigG_any (a : Option Addr) (n c : Nat) (w : World) (hn : n ≤ 9223372036854775807) :
    Calls Try.prog 11 #[.slice a n c] w fun e w' => e = .returned (.bool (decide (65536 < n))) ∧ w = w' := by
  by_cases h : 65536 < n
  all_goals
    go_enter Try.func11, Try.ntmps11
    go_wp2
    go_ret
    exact ⟨ret_bool (by simp [h]; try omega), rfl⟩

def Sm40 (x : Int) : Prop := -1099511627776 ≤ x ∧ x ≤ 1099511627776

set_option maxHeartbeats 2000000 in
theorem anyInts_any (bc : Nat) (ac : Option Addr) (cs : List Int) (M : Int) (w : World) (hM : M ≤ 1099511400000) (h : Cur w bc ac cs M) (hold : cs ≠ [] → ∀ b off, ac = some ⟨b, off, none⟩ → b < w.heap.size) :
    Calls Try.prog 90 #[.pointer (some ⟨bc, 0, none⟩)] w fun e w' => ∃ (a' : Option Addr) (c' : Nat) (zs : List Int), e = .returned (.slice a' zs.length c') ∧ w'.ownsRow w.heap.size 3 1 (.slice a' zs.length c') zs.length (zs.map (Value.int .i64)) ∧ zs.length ≤ 70 ∧ (∀ x ∈ zs, Sm40 x) ∧ Drawn w w' bc ac cs (M + 1000) := by
  go_enter Try.func90, Try.ntmps90
  go_wp2_with fail
  refine (ints_any bc ac cs M _ (by omega) h hold).mono ?_
  rintro e w1 ⟨a1, c1, zs, rfl, ho, hl, hz, hD⟩
  have HO1 := Lib.hid ho
  have HD1 := Lib.hid hD
  have HZ : Hid (∀ x ∈ zs, Sm40 x) := fun x hx => by have := hz x hx; exact ⟨by omega, by omega⟩
  clear ho hD h hold hz
  go_wp2_with fail
  refine (pick_any bc ac cs _ 24 _ ?h1 (by omega) HD1.out.cur).mono ?_
  case h1 => omega
  rintro e w2 ⟨⟨n, rfl, hn0, hn1⟩, hc, hg⟩
  have HO2 := Lib.hid (HD1.out.own HO1.out (Nat.le_refl _) hg)
  have HD2 := Lib.hid (HD1.out.step hc hg)
  clear hc hg HO1 HD1
  by_cases n0 : n = 0
  · subst n0
    have HD3 := Lib.hid (HD2.out.below ((Below.refl _ _).alloc (Nat.le_refl _) (.cells #[.int .i64 100001, .int .i64 (-100001), .int .i64 1099511627776] 3)))
    have HO3 := Lib.hid (HO2.out.alloc (.cells #[.int .i64 100001, .int .i64 (-100001), .int .i64 1099511627776] 3))
    go_wp2_with fail
    refine (among_any bc ac cs _ _ 3 [100001, -100001, 1099511627776] _ ?h2 (by decide) (by decide) HD3.out.cur (lit_ints w2 [100001, -100001, 1099511627776] (by decide)) ?h3).mono ?_
    case h2 => omega
    case h3 => intro b off e; injection e with e; injection e with e; have := HD2.out.cur.lt; omega
    rintro e w4 ⟨⟨x, rfl, hx⟩, hc, hg⟩
    have HX : Hid (Sm40 x) := by
      show Sm40 x
      simp at hx
      rcases hx with rfl | rfl | rfl <;> exact ⟨by omega, by omega⟩
    have HO6 := Lib.hid (HD3.out.own HO3.out (Nat.le_refl _) hg)
    have HD6 := Lib.hid (HD3.out.step hc hg)
    clear hc hg HO2 HD2 HO3 HD3 hx
    have hbs := HD6.out.grown.size
    have hn40 : zs.length + 1 ≤ 1099511627776 := by omega
    go_wp2_with (at_builtin; refine wpList_app1 slInt rfl _ _ rfl rfl HO6.out [.int .i64 x] rfl rfl (by simp) (by simp [Value.oneCell']) hn40 hbs ?_; intro v' w7 hown' hg' ht)
    obtain ⟨a', c', hv⟩ := own_slice hown'
    have HO7 := Lib.hid hown'
    have HD7 := Lib.hid (HD6.out.app HO6.out (Nat.le_refl _) hg')
    clear hown' hg' ht hbs HO6 HD6
    rw [hv] at HO7
    rw [hv]
    clear hv
    go_wp2
    go_ret
    exact ⟨a', c', zs ++ [x], by simp, by rw [List.length_append, List.map_append]; exact HO7.out, by simp; omega, fun y hy => by
      rcases List.mem_append.1 hy with hy | hy
      · exact HZ.out y hy
      · simp at hy; rw [hy]; exact HX.out, HD7.out.mono (by omega)⟩
  · have q0 : (n == 0) = false := by simpa using n0
    by_cases n1 : n = 1
    · subst n1
      go_wp2
      go_loopw [3] (fun v wr => ∃ rs' : List Int, rs'.length ≤ 65 ∧ (∀ x ∈ rs', Sm40 x) ∧ wr.ownsRow w.heap.size 3 1 v rs'.length (rs'.map (Value.int .i64)) ∧ (∃ a c, v = .slice a rs'.length c) ∧ Drawn w wr bc ac cs (M + 300 + 8 * (rs'.length : Int))) (fun v _ => 66 - (match v with | .slice _ l _ => l | _ => 0))
      case atStart => exact ⟨zs, by omega, HZ.out, HO2.out, own_slice HO2.out, HD2.out.mono (by omega)⟩
      case round =>
        obtain ⟨rs', hl', hz', hown, ⟨a, c, rfl⟩, hD⟩ := hrel
        clear HO2 HD2
        have HZ' := Lib.hid hz'; clear hz'
        have HO := Lib.hid hown; clear hown
        have HD := Lib.hid hD; clear hD
        go_wp2_with fail
        refine (pick_any bc ac cs _ 2 _ ?h6 (by omega) HD.out.cur).mono ?_
        case h6 => omega
        rintro e w3 ⟨⟨p, rfl, hp0, hp1⟩, hc, hg⟩
        have HO3 := Lib.hid (HD.out.own HO.out (Nat.le_refl _) hg)
        have HD3 := Lib.hid (HD.out.step hc hg)
        clear hc hg HO HD
        by_cases hlt : (rs'.length : Int) < 64 + p
        · go_wp2_with fail
          refine (pick_any bc ac cs _ 5 _ ?h7 (by omega) HD3.out.cur).mono ?_
          case h7 => omega
          rintro e w4 ⟨⟨x, rfl, hx0, hx1⟩, hc, hg⟩
          have HX : Hid (Sm40 x) := ⟨by omega, by omega⟩
          have HO4 := Lib.hid (HD3.out.own HO3.out (Nat.le_refl _) hg)
          have HD4 := Lib.hid (HD3.out.step hc hg)
          have hbs := HD4.out.grown.size
          have hn40 : rs'.length + 1 ≤ 1099511627776 := by omega
          clear hc hg HO3 HD3
          go_wp2_with (at_builtin; refine wpList_app1 slInt rfl _ _ rfl rfl HO4.out [.int .i64 x] rfl rfl (by simp) (by simp [Value.oneCell']) hn40 hbs ?_; intro v' w7 hown' hg' ht)
          obtain ⟨a', c', hv⟩ := own_slice hown'
          have HO7 := Lib.hid hown'
          have HD7 := Lib.hid (HD4.out.app HO4.out (Nat.le_refl _) hg')
          clear hown' hg' ht hbs HO4 HD4
          rw [hv] at HO7
          rw [hv]
          clear hv
          go_roundw
          case rel => exact ⟨rs' ++ [x], by simp; omega, fun y hy => by
            rcases List.mem_append.1 hy with hy | hy
            · exact HZ'.out y hy
            · simp at hy; rw [hy]; exact HX.out, by rw [List.length_append, List.map_append]; exact HO7.out, ⟨a', c', by simp⟩, HD7.out.mono (by simp; omega)⟩
          case measure => simp; omega
        · go_wp2
          go_ret
          exact ⟨a, c, rs', rfl, HO3.out, by omega, HZ'.out, HD3.out.mono (by omega)⟩
    · have q1 : (n == 1) = false := by simpa using n1
      go_wp2
      go_ret
      exact ⟨a1, c1, zs, rfl, HO2.out, by omega, HZ.out, HD2.out.mono (by omega)⟩

/-- The cursor at the start of a draw. -/
theorem cur_start {w : World} {ac : Option Addr} {c : Nat} {cs : List Int} (hl : cs.length ≤ 65537) (h : BytesAt w ac cs) :
    Cur (w.alloc (.cells #[.slice ac cs.length c, .int .i64 0, .int .u64 0] 80)) w.heap.size ac cs 0 ∧ (cs ≠ [] → ∀ b off, ac = some ⟨b, off, none⟩ → b < w.heap.size) ∧
      Below w.heap.size w (w.alloc (.cells #[.slice ac cs.length c, .int .i64 0, .int .u64 0] 80)) := by
  have HB : Below w.heap.size w (w.alloc (.cells #[.slice ac cs.length c, .int .i64 0, .int .u64 0] 80)) := (Below.refl _ _).alloc (Nat.le_refl _) _
  have HO : cs ≠ [] → ∀ b off, ac = some ⟨b, off, none⟩ → b < w.heap.size := fun h0 b off e => by
    obtain ⟨b', off', e', hb⟩ := h.lt h0
    rw [e] at e'; injection e' with e'; injection e' with e' _; omega
  exact ⟨⟨⟨c, 0, 0, block_new w _, by omega, by omega⟩, h.below (Nat.le_refl _) HB, fun h0 b off e => by have := HO h0 b off e; omega, by omega⟩, HO, HB⟩

set_option maxHeartbeats 400000 in
theorem drawIsValidList_any (ac : Option Addr) (c : Nat) (cs : List Int) (w : World) (hl : cs.length ≤ 65537) (h : BytesAt w ac cs) :
    Calls Try.prog 83 #[.slice ac cs.length c] w fun e w' => ∃ (a' : Option Addr) (c' : Nat) (zs : List Int), e = .returned (.slice a' zs.length c') ∧ w'.ownsRow w.heap.size 3 1 (.slice a' zs.length c') zs.length (zs.map (Value.int .i64)) ∧ zs.length ≤ 70 ∧ (∀ x ∈ zs, Sm40 x) ∧ Below w.heap.size w w' := by
  obtain ⟨h1, h2, h3⟩ := cur_start (c := c) hl h
  have HC := Lib.hid h1; have HO := Lib.hid h2; have HB := Lib.hid h3
  clear h h1 h2 h3
  go_enter Try.func83, Try.ntmps83
  go_wp2_with fail
  refine (anyInts_any w.heap.size ac cs 0 _ (by omega) HC.out (fun h0 b off e => by have := HO.out h0 b off e; simp; omega)).mono ?_
  rintro e w1 ⟨a', c', zs, rfl, ho, hl2, hz, hD⟩
  have HO := Lib.hid (own_mono ho (by simp : w.heap.size ≤ _))
  have HZ := Lib.hid hz
  have HB1 := Lib.hid (HB.out.grown hD.grown (by simp) (fun k hk => by injection hk with hk; omega))
  clear ho hD hz
  go_wp2
  go_ret
  exact ⟨a', c', zs, rfl, HO.out, hl2, HZ.out, HB1.out⟩

set_option maxHeartbeats 400000 in
theorem drawDistinctStable_any (ac : Option Addr) (c : Nat) (cs : List Int) (w : World) (hl : cs.length ≤ 65537) (h : BytesAt w ac cs) :
    Calls Try.prog 39 #[.slice ac cs.length c] w fun e w' => ∃ (a' : Option Addr) (c' : Nat) (zs : List Int), e = .returned (.slice a' zs.length c') ∧ w'.ownsRow w.heap.size 3 1 (.slice a' zs.length c') zs.length (zs.map (Value.int .i64)) ∧ zs.length ≤ 70 ∧ (∀ x ∈ zs, Sm40 x) ∧ Below w.heap.size w w' := by
  have HD := Lib.hid (drawIsValidList_any ac c cs w hl h)
  clear h
  go_enter Try.func39, Try.ntmps39
  go_wp2_with fail
  refine HD.out.mono ?_
  rintro e w1 ⟨a', c', zs, rfl, ho, hl2, hz, hb⟩
  have HO := Lib.hid ho; have HZ := Lib.hid hz; have HB := Lib.hid hb
  clear ho hz hb
  go_wp2
  go_ret
  exact ⟨a', c', zs, rfl, HO.out, hl2, HZ.out, HB.out⟩

end Go.Proofs.Ytkjmngdcfheojaa
