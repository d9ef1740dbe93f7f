/- Walks: records that may be invalid; the draw of an argument out of bytes. -/
import Derived.Test.YtkckmjajjdpodaaCv
namespace Go.Proofs.Ytkckmjajjdpodaa
open Go.RowKit
set_option linter.unusedVariables false

theorem lit_ints (W : World) (l : List Int) (h : l.length ≤ 1000) : IntsAt (W.alloc (.cells (l.map (Value.int .i64)).toArray 3)) (some ⟨W.heap.size, 0, none⟩) l :=
  ownInts (c := l.length) (n := l.length) (base := W.heap.size) (by simpa using own_lit (w := W) (e := 3) (size := 1) (l.map (Value.int .i64)).toArray l.length (by omega) (by simp))

set_option maxHeartbeats 2000000 in
theorem anyRecords_any (bc : Nat) (ac : Option Addr) (cs : List Int) (M : Int) (w : World) (hM : M ≤ 1099511400000) (h : Cur w bc ac cs M) (hold : cs ≠ [] → ∀ b off, ac = some ⟨b, off, none⟩ → b < w.heap.size) :
    Calls Try.prog 79 #[.pointer (some ⟨bc, 0, none⟩)] w fun e w' => ∃ (a' : Option Addr) (c' : Nat) (rs : List (Int × Int)), e = .returned (.slice a' rs.length c') ∧ w'.ownsRow w.heap.size 72 2 (.slice a' rs.length c') rs.length (flat encR rs) ∧ rs.length ≤ 70 ∧ Drawn w w' bc ac cs (M + 1000) := by
  go_enter Try.func79, Try.ntmps79
  go_wp2_with fail
  refine (records_any bc ac cs M _ (by omega) h hold).mono ?_
  rintro e w1 ⟨a1, c1, rs, rfl, ho, hl, hD⟩
  have HO1 := Lib.hid ho
  have HD1 := Lib.hid hD
  clear ho hD h hold
  go_wp2_with fail
  refine (pick_any bc ac cs _ 24 _ ?h1 (by omega) HD1.out.cur).mono ?_
  case h1 => omega
  rintro e w2 ⟨⟨n, rfl, hn0, hn1⟩, hc, hg⟩
  have HO2 := Lib.hid (HD1.out.own HO1.out (Nat.le_refl _) hg)
  have HD2 := Lib.hid (HD1.out.step hc hg)
  clear hc hg HO1 HD1
  by_cases n0 : n = 0
  · subst n0
    have HD3 := Lib.hid (HD2.out.below ((Below.refl _ _).alloc (Nat.le_refl _) (.cells #[.int .i64 0, .int .i64 100001] 3)))
    have HO3 := Lib.hid (HO2.out.alloc (.cells #[.int .i64 0, .int .i64 100001] 3))
    go_wp2_with fail
    refine (among_any bc ac cs _ _ 2 [0, 100001] _ ?h2 (by decide) (by decide) HD3.out.cur (lit_ints w2 [0, 100001] (by decide)) ?h3).mono ?_
    case h2 => omega
    case h3 => intro b off e; injection e with e; injection e with e; have := HD2.out.cur.lt; omega
    rintro e w4 ⟨⟨x, rfl, hx⟩, hc, hg⟩
    have HO4 := Lib.hid (HD3.out.own HO3.out (Nat.le_refl _) hg)
    have HD4 := Lib.hid (HD3.out.step hc hg)
    clear hc hg HO2 HD2 HO3 HD3 hx
    have HD5 := Lib.hid (HD4.out.below ((Below.refl _ _).alloc (Nat.le_refl _) (.cells #[.int .i64 (-1), .int .i64 1000, .int .i64 999] 3)))
    have HO5 := Lib.hid (HO4.out.alloc (.cells #[.int .i64 (-1), .int .i64 1000, .int .i64 999] 3))
    go_wp2_with fail
    refine (among_any bc ac cs _ _ 3 [-1, 1000, 999] _ ?h4 (by decide) (by decide) HD5.out.cur (lit_ints w4 [-1, 1000, 999] (by decide)) ?h5).mono ?_
    case h4 => omega
    case h5 => intro b off e; injection e with e; injection e with e; have := HD4.out.cur.lt; omega
    rintro e w6 ⟨⟨y, rfl, hy⟩, hc, hg⟩
    have HO6 := Lib.hid (HD5.out.own HO5.out (Nat.le_refl _) hg)
    have HD6 := Lib.hid (HD5.out.step hc hg)
    have hbs := HD6.out.grown.size
    have hn40 : rs.length + 1 ≤ 1099511627776 := by omega
    clear hc hg HO4 HD4 HO5 HD5 hy
    go_wp2_with (at_builtin; refine wpList_app1 slRec rfl (.tmp 10) (.tmp 18) rfl rfl HO6.out [.int .i64 x, .int .i64 y] rfl rfl (by simp) (by simp [Value.oneCell']) hn40 hbs ?_; intro v' w7 hown' hg' ht)
    obtain ⟨a', c', hv⟩ := own_slice hown'
    have HO7 := Lib.hid hown'
    have HD7 := Lib.hid (HD6.out.app HO6.out (Nat.le_refl _) hg')
    clear hown' hg' ht hbs HO6 HD6
    rw [hv] at HO7
    rw [hv]
    clear hv
    go_wp2
    go_ret
    exact ⟨a', c', rs ++ [(x, y)], by simp, by rw [List.length_append, flat_append]; exact HO7.out, by simp; omega, HD7.out.mono (by omega)⟩
  · have q0 : (n == 0) = false := by simpa using n0
    by_cases n1 : n = 1
    · subst n1
      go_wp2
      go_loopw [3] (fun v wr => ∃ rs' : List (Int × Int), rs'.length ≤ 65 ∧ wr.ownsRow w.heap.size 72 2 v rs'.length (flat encR rs') ∧ (∃ a c, v = .slice a rs'.length c) ∧ Drawn w wr bc ac cs (M + 300 + 8 * (rs'.length : Int))) (fun v _ => 66 - (match v with | .slice _ l _ => l | _ => 0))
      case atStart => exact ⟨rs, by omega, HO2.out, own_slice HO2.out, HD2.out.mono (by omega)⟩
      case round =>
        obtain ⟨rs', hl', hown, ⟨a, c, rfl⟩, hD⟩ := hrel
        clear HO2 HD2
        have HO := Lib.hid hown; clear hown
        have HD := Lib.hid hD; clear hD
        go_wp2_with fail
        refine (pick_any bc ac cs _ 2 _ ?h6 (by omega) HD.out.cur).mono ?_
        case h6 => omega
        rintro e w3 ⟨⟨p, rfl, hp0, hp1⟩, hc, hg⟩
        have HO3 := Lib.hid (HD.out.own HO.out (Nat.le_refl _) hg)
        have HD3 := Lib.hid (HD.out.step hc hg)
        clear hc hg HO HD
        by_cases hlt : (rs'.length : Int) < 64 + p
        · go_wp2_with fail
          refine (pick_any bc ac cs _ 5 _ ?h7 (by omega) HD3.out.cur).mono ?_
          case h7 => omega
          rintro e w4 ⟨⟨x, rfl, hx0, hx1⟩, hc, hg⟩
          have HO4 := Lib.hid (HD3.out.own HO3.out (Nat.le_refl _) hg)
          have HD4 := Lib.hid (HD3.out.step hc hg)
          have hbs := HD4.out.grown.size
          have hn40 : rs'.length + 1 ≤ 1099511627776 := by omega
          clear hc hg HO3 HD3
          go_wp2_with (at_builtin; refine wpList_app1 slRec rfl (.tmp 28) (.tmp 34) rfl rfl HO4.out [.int .i64 x, .int .i64 rs'.length] rfl rfl (by simp) (by simp [Value.oneCell']) hn40 hbs ?_; intro v' w7 hown' hg' ht)
          obtain ⟨a', c', hv⟩ := own_slice hown'
          have HO7 := Lib.hid hown'
          have HD7 := Lib.hid (HD4.out.app HO4.out (Nat.le_refl _) hg')
          clear hown' hg' ht hbs HO4 HD4
          rw [hv] at HO7
          rw [hv]
          clear hv
          go_roundw
          case rel => exact ⟨rs' ++ [(x, (rs'.length : Int))], by simp; omega, by rw [List.length_append, flat_append]; exact HO7.out, ⟨a', c', by simp⟩, HD7.out.mono (by simp; omega)⟩
          case measure => simp; omega
        · go_wp2
          go_ret
          exact ⟨a, c, rs', rfl, HO3.out, by omega, HD3.out.mono (by omega)⟩
    · have q1 : (n == 1) = false := by simpa using n1
      go_wp2
      go_ret
      exact ⟨a1, c1, rs, rfl, HO2.out, by omega, HD2.out.mono (by omega)⟩

set_option maxHeartbeats 400000 in
theorem drawIsValidRecords_any (ac : Option Addr) (c : Nat) (cs : List Int) (w : World) (hl : cs.length ≤ 65537) (h : BytesAt w ac cs) :
    Calls Try.prog 125 #[.slice ac cs.length c] w fun e w' => ∃ (a' : Option Addr) (c' : Nat) (rs : List (Int × Int)), e = .returned (.slice a' rs.length c') ∧ w'.ownsRow w.heap.size 72 2 (.slice a' rs.length c') rs.length (flat encR rs) ∧ rs.length ≤ 70 ∧ Below w.heap.size w w' := by
  have HR := Lib.hid (block_new w (.cells #[.slice ac cs.length c, .int .i64 0, .int .u64 0] 107))
  have HB : Hid (Below w.heap.size w (w.alloc (.cells #[.slice ac cs.length c, .int .i64 0, .int .u64 0] 107))) := (Below.refl _ _).alloc (Nat.le_refl _) _
  have H := Lib.hid h
  have HO : Hid (cs ≠ [] → ∀ b off, ac = some ⟨b, off, none⟩ → b < w.heap.size) := fun h0 b off e => by
    obtain ⟨b', off', e', hb⟩ := h.lt h0
    rw [e] at e'; injection e' with e'; injection e' with e' _; omega
  have HC : Hid (Cur (w.alloc (.cells #[.slice ac cs.length c, .int .i64 0, .int .u64 0] 107)) w.heap.size ac cs 0) :=
    ⟨⟨c, 0, 0, HR.out, by omega, by omega⟩, H.out.below (Nat.le_refl _) HB.out, fun h0 b off e => by have := HO.out h0 b off e; omega, by omega⟩
  clear h
  go_enter Try.func125, Try.ntmps125
  go_wp2_with fail
  refine (anyRecords_any w.heap.size ac cs 0 _ (by omega) HC.out (fun h0 b off e => by have := HO.out h0 b off e; simp; omega)).mono ?_
  rintro e w1 ⟨a', c', rs, rfl, ho, hl2, hD⟩
  have HO := Lib.hid (own_mono ho (by simp : w.heap.size ≤ _))
  have HB1 := Lib.hid (HB.out.grown hD.grown (by simp) (fun k hk => by injection hk with hk; omega))
  clear ho hD
  go_wp2
  go_ret
  exact ⟨a', c', rs, rfl, HO.out, hl2, HB1.out⟩

end Go.Proofs.Ytkckmjajjdpodaa
