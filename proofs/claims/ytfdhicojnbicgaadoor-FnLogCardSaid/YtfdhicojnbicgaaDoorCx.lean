/- Walks: records and logs that the cursor draws. -/
import Derived.Test.YtfdhicojnbicgaaDoorCt
import Derived.Test.YtfdhicojnbicgaaDoorMa
import Derived.Test.YtfdhicojnbicgaaDoorTy
import Derived.Test.YtfdhicojnbicgaaDoorTu
namespace Go.Proofs.YtfdhicojnbicgaaDoor
open Go.RowKit
set_option linter.unusedVariables false

theorem Drawn.setc {w0 w : World} {bc : Nat} {ac : Option Addr} {zs : List Int} {M : Int} (h : Drawn w0 w bc ac zs M) {g j : Nat} (u : Value) (hp : w0.heap.size ≤ g) : Drawn w0 (w.setCell ⟨g, j, none⟩ u) bc ac zs M := by
  have hg := setcell_grown w g j u
  refine ⟨h.cur.app hg (fun e => by have := h.old.1; injection e with e; omega) (fun h0 b off e e2 => by have := h.old.2 h0 b off e; injection e2 with e2; omega), ?_, h.old⟩
  exact ⟨hg.os.trans h.grown.os, hg.tape.trans h.grown.tape, hg.output.trans h.grown.output, Nat.le_trans h.grown.size hg.size, fun k hk hne => (hg.block k (Nat.lt_of_lt_of_le hk h.grown.size) (fun e => by injection e with e; omega)).trans (h.grown.block k hk hne)⟩
theorem Drawn.alloc {w0 w : World} {bc : Nat} {ac : Option Addr} {zs : List Int} {M : Int} (h : Drawn w0 w bc ac zs M) (o : Obj) : Drawn w0 (w.alloc o) bc ac zs M := h.below ((Below.refl _ _).alloc (Nat.le_refl _) o)
theorem Drawn.le {w0 w : World} {bc : Nat} {ac : Option Addr} {zs : List Int} {M : Int} (h : Drawn w0 w bc ac zs M) : w0.heap.size ≤ w.heap.size := h.grown.size

/-- A block made since is as it was behind a draw. -/
theorem block_drawn {w w' : World} {bc g : Nat} {o : Obj} (h : w.heap[g]? = some o) (hg : w.grownBy w' (some bc)) (hne : bc ≠ g) : w'.heap[g]? = some o := block_row h hg (fun e => hne (by injection e))

theorem Tryd.infoU8 : (Tryd.prog.info? 5).map (fun i => (i.zero, i.size, i.bytes)) = some (some (.int .u8 0), 1, 1) := by kernel_rfl
theorem slU8 : SlT Tryd.prog 64 5 (.int .u8 0) 1 1 := ⟨Tryd.underlying64, info_parts Tryd.infoU8, rfl, by decide, by decide⟩

theorem made_u8 {n j : Nat} (hj : j < n) : (madeCells #[.int .u8 0] n).toList[j]? = some (.int .u8 0) := by
  simp only [madeCells, Array.toList_map, List.getElem?_map, Array.toList_range, List.getElem?_range hj, Option.map_some]
  simp [Nat.mod_one]
theorem made_zeros {w : World} {g n : Nat} {e : TypeId} {B c : Nat} (ho : w.ownsRow B e 1 (.slice (some ⟨g, 0, none⟩) n c) n (madeCells #[.int .u8 0] n).toList) : ∀ j b, (List.replicate n (0 : UInt8))[j]? = some b → w.cell? ⟨g, j, none⟩ = some (.int .u8 (b.toNat : Int)) := by
  intro j b hj
  rw [List.getElem?_replicate] at hj
  split at hj
  · rename_i hlt
    injection hj with hj
    subst hj
    exact own_celln ho (made_u8 hlt)
  · cases hj

/-- One of the texts of a literal list, by the list's name. -/
theorem of_lit (bc : Nat) (ac : Option Addr) (zs : List Int) (M : Int) (ss : List ByteArray) (n : Nat) (w : World) (g : Nat) (hM : M ≤ 1099511627000) (hn : ss.length = n) (hn0 : 0 < n) (hn1 : n ≤ 200) (B : Nat) (hB : ∀ s ∈ ss, s.size ≤ B) (h : Cur w bc ac zs M) (hl : StrsAt w (some ⟨g, 0, none⟩) ss) (hap : g ≠ bc) :
    Calls Tryd.prog 89 #[.pointer (some ⟨bc, 0, none⟩), .slice (some ⟨g, 0, none⟩) n n] w fun e w' => (∃ s : ByteArray, e = .returned (.string s) ∧ s.size ≤ B) ∧ Cur w' bc ac zs (M + 2) ∧ w.grownBy w' (some bc) := by
  subst hn
  refine (of_any bc ac zs M (some ⟨g, 0, none⟩) ss.length ss w hM hn0 hn1 h hl (fun b off e => by injection e with e; injection e with e; omega)).mono ?_
  rintro e w' ⟨⟨s, rfl, hs⟩, hc, hg⟩
  exact ⟨⟨s, rfl, hB s hs⟩, hc, hg⟩

def lit1 : Array Value := #[.string ⟨#[99, 111, 117, 110, 116]⟩, .string ⟨#[115, 111, 114, 116, 32, 109, 101, 114, 103, 101]⟩, .string ⟨#[120]⟩, .string ⟨#[115, 101, 108, 101, 99, 116, 32, 50]⟩, .string ⟨#[48, 32, 49]⟩]
def lit2 : Array Value := #[.string ⟨#[]⟩, .string ⟨#[51]⟩, .string ⟨#[63]⟩, .string ⟨#[97, 62, 98]⟩, .string ⟨#[51, 32, 49, 32, 50]⟩]
def lit3 (s : ByteArray) : Array Value := #[.string ⟨#[]⟩, .string ⟨#[97, 62, 98]⟩, .string ⟨#[97, 35]⟩, .string ⟨#[10]⟩, .string s]
def lit4 : Array Value := #[.string ⟨#[35]⟩, .string ⟨#[10]⟩, .string ⟨#[127]⟩]
/-- What a literal list of short texts gives. -/
theorem lit_texts (W : World) (cs : Array Value) (n : Nat) (h : ∃ ss : List ByteArray, cs = (ss.map Value.string).toArray ∧ ss.length = n ∧ ∀ s ∈ ss, s.size ≤ 12) :
    ∃ ss : List ByteArray, ss.length = n ∧ (∀ s ∈ ss, s.size ≤ 12) ∧ StrsAt (W.alloc (.cells cs 9)) (some ⟨W.heap.size, 0, none⟩) ss := by
  obtain ⟨ss, rfl, h1, h2⟩ := h
  exact ⟨ss, h1, h2, lit_strs W ss⟩
theorem lit1_ok : ∃ ss : List ByteArray, lit1 = (ss.map Value.string).toArray ∧ ss.length = 5 ∧ ∀ s ∈ ss, s.size ≤ 12 := ⟨[⟨#[99, 111, 117, 110, 116]⟩, ⟨#[115, 111, 114, 116, 32, 109, 101, 114, 103, 101]⟩, ⟨#[120]⟩, ⟨#[115, 101, 108, 101, 99, 116, 32, 50]⟩, ⟨#[48, 32, 49]⟩], rfl, rfl, by
  intro s hs
  simp only [List.mem_cons, List.mem_nil_iff, or_false] at hs
  rcases hs with rfl | rfl | rfl | rfl | rfl <;> decide⟩
theorem lit2_ok : ∃ ss : List ByteArray, lit2 = (ss.map Value.string).toArray ∧ ss.length = 5 ∧ ∀ s ∈ ss, s.size ≤ 12 := ⟨[⟨#[]⟩, ⟨#[51]⟩, ⟨#[63]⟩, ⟨#[97, 62, 98]⟩, ⟨#[51, 32, 49, 32, 50]⟩], rfl, rfl, by
  intro s hs
  simp only [List.mem_cons, List.mem_nil_iff, or_false] at hs
  rcases hs with rfl | rfl | rfl | rfl | rfl <;> decide⟩
theorem lit3_ok (x : ByteArray) (hx : x.size ≤ 12) : ∃ ss : List ByteArray, lit3 x = (ss.map Value.string).toArray ∧ ss.length = 5 ∧ ∀ s ∈ ss, s.size ≤ 12 := ⟨[⟨#[]⟩, ⟨#[97, 62, 98]⟩, ⟨#[97, 35]⟩, ⟨#[10]⟩, x], rfl, rfl, by
  intro s hs
  simp only [List.mem_cons, List.mem_nil_iff, or_false] at hs
  rcases hs with rfl | rfl | rfl | rfl | rfl <;> first | exact hx | decide⟩
theorem lit4_ok : ∃ ss : List ByteArray, lit4 = (ss.map Value.string).toArray ∧ ss.length = 3 ∧ ∀ s ∈ ss, s.size ≤ 12 := ⟨[⟨#[35]⟩, ⟨#[10]⟩, ⟨#[127]⟩], rfl, rfl, by
  intro s hs
  simp only [List.mem_cons, List.mem_nil_iff, or_false] at hs
  rcases hs with rfl | rfl | rfl <;> decide⟩

set_option maxRecDepth 100000 in
set_option maxHeartbeats 4000000 in
theorem logRecord_any (bc : Nat) (ac : Option Addr) (cs : List Int) (M : Int) (w : World) (hM : M ≤ 1099511600000) (h : Cur w bc ac cs M) (hold : cs ≠ [] → ∀ b off, ac = some ⟨b, off, none⟩ → b < w.heap.size) :
    Calls Tryd.prog 66 #[.pointer (some ⟨bc, 0, none⟩)] w fun e w' => (∃ c r : ByteArray, e = .returned (recV c r) ∧ c.size ≤ 20 ∧ r.size ≤ 20) ∧ Drawn w w' bc ac cs (M + 10) := by
  have D0 : Hid (Drawn w w bc ac cs M) := ⟨h, grown_refl _ _, h.lt, hold⟩
  have hbc := h.lt
  have R0 := Lib.hid (block_new w (.cells #[.string ⟨#[]⟩, .string ⟨#[]⟩] 27))
  have D2 := Lib.hid ((D0.out.alloc (.cells #[.string ⟨#[]⟩, .string ⟨#[]⟩] 27)).alloc (.cells lit1 9))
  obtain ⟨ss1, n1, b1, S1⟩ := lit_texts (w.alloc (.cells #[.string ⟨#[]⟩, .string ⟨#[]⟩] 27)) lit1 5 lit1_ok
  rw [size_al] at S1
  have H1 := Lib.hid (of_lit bc ac cs M ss1 5 _ (w.heap.size + 1) (by omega) n1 (by decide) (by decide) 12 b1 D2.out.cur S1 (by omega))
  clear h hold S1 n1 b1
  unfold lit1 at *
  unfold recV
  go_enter Tryd.func66, Tryd.ntmps66
  go_wp2_with fail
  refine H1.out.mono ?_
  rintro e w1 ⟨⟨c, rfl, hcm⟩, hc, hg⟩
  have D3 := Lib.hid (D2.out.step hc hg)
  have R1 := Lib.hid (block_drawn (block_row R0.out (World.grownBy_alloc _ _ (row := none)) (by simp)) hg (by omega))
  have hcs := Lib.hid hcm
  have z1 : w.heap.size < w1.heap.size := by have := hg.size; simp at this; omega
  clear hc hg hcm H1 D2 R0
  have D4 := Lib.hid (D3.out.alloc (.cells lit2 9))
  obtain ⟨ss2, n2, b2, S2⟩ := lit_texts w1 lit2 5 lit2_ok
  have H2 := Lib.hid (of_lit bc ac cs (M + 2) ss2 5 _ w1.heap.size (by omega) n2 (by decide) (by decide) 12 b2 D4.out.cur S2 (by omega))
  clear S2 n2 b2
  unfold lit2 at *
  go_wp2_with fail
  refine H2.out.mono ?_
  rintro e w2 ⟨⟨r, rfl, hrm⟩, hc, hg⟩
  have D5 := Lib.hid (D4.out.step hc hg)
  have R2 := Lib.hid (block_drawn (block_row R1.out (World.grownBy_alloc _ _ (row := none)) (by simp)) hg (by omega))
  have hrs := Lib.hid hrm
  have z2 : w1.heap.size < w2.heap.size := by have := hg.size; simp at this; omega
  clear hc hg hrm H2 D4 D3 R1
  have D6 := Lib.hid (D5.out.alloc (.cells #[.string c, .string r] 27))
  have R3 := Lib.hid (block_row R2.out (World.grownBy_alloc w2 (.cells #[.string c, .string r] 27) (row := none)) (by simp))
  have Q3 := Lib.hid (block_new w2 (.cells #[.string c, .string r] 27))
  have H3 := Lib.hid (pick_any bc ac cs (M + 2 + 2) 24 _ (by omega) (by omega) D6.out.cur)
  clear D5 R2
  go_wp2_with fail
  refine H3.out.mono ?_
  rintro e w3 ⟨⟨q, rfl, hq0, hq1⟩, hc, hg⟩
  have D7 := Lib.hid (D6.out.step hc hg)
  have R4 := Lib.hid (block_drawn R3.out hg (by omega))
  have Q4 := Lib.hid (block_drawn Q3.out hg (by omega))
  have z3 : w2.heap.size < w3.heap.size := by have := hg.size; simp at this; omega
  clear hc hg H3 D6 R3 Q3
  by_cases hq : q = 0
  · subst hq
    obtain ⟨X, hX⟩ : ∃ X : ByteArray, X = ba (List.replicate 3 0) := ⟨_, rfl⟩
    have hXs : X.size ≤ 12 := by rw [hX]; decide
    have HX := Lib.hid hX; clear hX
    go_wp2_with (at_make; refine wpList_mk slU8 rfl _ _ rfl 3 rfl rfl (by omega) ?_)
    intro w4 ho hb hs4
    have D8 := Lib.hid (D7.out.below hb)
    have R5 := Lib.hid (block_below R4.out hb (by omega))
    have Q5 := Lib.hid (block_below Q4.out hb z3)
    have HC := Lib.hid (made_zeros (n := 3) ho)
    clear ho hb D7 R4 Q4
    go_wp2_with (refine wpList_backS rfl 64 9 5 (.tmp 16) rfl (List.replicate 3 0) rfl rfl Tryd.underlying9 Tryd.underlying64 Tryd.underlying5 HC.out HX.out ?_)
    have D9 := Lib.hid (D8.out.alloc (.cells (lit3 X) 9))
    obtain ⟨ss3, n3, b3, S3⟩ := lit_texts w4 (lit3 X) 5 (lit3_ok X hXs)
    have H3 := Lib.hid (of_lit bc ac cs (M + 2 + 2 + 2) ss3 5 _ w4.heap.size (by omega) n3 (by decide) (by decide) 12 b3 D9.out.cur S3 (by omega))
    have R6 := Lib.hid (block_row R5.out (World.grownBy_alloc w4 (.cells (lit3 X) 9) (row := none)) (by simp))
    have Q6 := Lib.hid (block_row Q5.out (World.grownBy_alloc w4 (.cells (lit3 X) 9) (row := none)) (by simp))
    clear S3 n3 b3 D8 R5 Q5 hcs HC
    unfold lit3 at *
    go_wp2_with fail
    refine H3.out.mono ?_
    rintro e w5 ⟨⟨c2, rfl, hcm⟩, hc, hg⟩
    have D7 := Lib.hid (D9.out.step hc hg)
    have HSZ := Lib.hid hcm
    have Q5 := block_drawn Q6.out hg (by omega)
    have R5 := block_drawn R6.out hg (by omega)
    have hk0 := row_cell Q5 0
    have hk1 := row_cell Q5 1
    have fk : ∀ o, w5.frozen? ⟨w2.heap.size, o, none⟩ = false := fun o => frozen_of_row w5 _ o _ _ Q5
    have hr0 := row_cell R5 0
    have hr1 := row_cell R5 1
    have fr : ∀ o, w5.frozen? ⟨w.heap.size, o, none⟩ = false := fun o => frozen_of_row w5 _ o _ _ R5
    simp at hk0 hk1 hr0 hr1
    have zne : w2.heap.size ≠ w.heap.size := by omega
    have DF := Lib.hid ((((D7.out.setc (g := w2.heap.size) (j := 0) (.string c2) (by omega)).setc (g := w.heap.size) (j := 0) (.string c2) (Nat.le_refl _)).setc (g := w.heap.size) (j := 1) (.string r) (Nat.le_refl _)).mono (M' := M + 10) (by omega))
    clear hc hg hcm H3 D9 R6 Q6 Q5 R5 D7
    go_wp2
    refine bodyPost_ret (v := .agg #[.string c2, .string r]) (by simp [results, Tryd.results66, go_sem, hr0, hr1, hk0, hk1]) rfl ⟨⟨c2, r, rfl, by have := HSZ.out; omega, by have := hrs.out; omega⟩, ?_⟩
    with_reducible exact DF.out
  have q1 : (q == 0) = false := by simpa using hq
  by_cases hq : q = 1
  · subst hq
    have D9 := Lib.hid (D7.out.alloc (.cells lit4 9))
    obtain ⟨ss3, n3, b3, S3⟩ := lit_texts w3 lit4 3 lit4_ok
    have H3 := Lib.hid (of_lit bc ac cs (M + 2 + 2 + 2) ss3 3 _ w3.heap.size (by omega) n3 (by decide) (by decide) 12 b3 D9.out.cur S3 (by omega))
    have R6 := Lib.hid (block_row R4.out (World.grownBy_alloc w3 (.cells lit4 9) (row := none)) (by simp))
    have Q6 := Lib.hid (block_row Q4.out (World.grownBy_alloc w3 (.cells lit4 9) (row := none)) (by simp))
    clear S3 n3 b3 D7 R4 Q4 hrs
    unfold lit4 at *
    go_wp2_with fail
    refine H3.out.mono ?_
    rintro e w5 ⟨⟨r2, rfl, hcm⟩, hc, hg⟩
    have D7 := Lib.hid (D9.out.step hc hg)
    have HSZ := Lib.hid hcm
    have Q5 := block_drawn Q6.out hg (by omega)
    have R5 := block_drawn R6.out hg (by omega)
    have hk0 := row_cell Q5 0
    have hk1 := row_cell Q5 1
    have fk : ∀ o, w5.frozen? ⟨w2.heap.size, o, none⟩ = false := fun o => frozen_of_row w5 _ o _ _ Q5
    have hr0 := row_cell R5 0
    have hr1 := row_cell R5 1
    have fr : ∀ o, w5.frozen? ⟨w.heap.size, o, none⟩ = false := fun o => frozen_of_row w5 _ o _ _ R5
    simp at hk0 hk1 hr0 hr1
    have zne : w2.heap.size ≠ w.heap.size := by omega
    have DF := Lib.hid ((((D7.out.setc (g := w2.heap.size) (j := 1) (.string r2) (by omega)).setc (g := w.heap.size) (j := 0) (.string c) (Nat.le_refl _)).setc (g := w.heap.size) (j := 1) (.string r2) (Nat.le_refl _)).mono (M' := M + 10) (by omega))
    clear hc hg hcm H3 D9 R6 Q6 Q5 R5 D7
    go_wp2
    refine bodyPost_ret (v := .agg #[.string c, .string r2]) (by simp [results, Tryd.results66, go_sem, hr0, hr1, hk0, hk1]) rfl ⟨⟨c, r2, rfl, by have := hcs.out; omega, by have := HSZ.out; omega⟩, ?_⟩
    with_reducible exact DF.out
  have q2 : (q == 1) = false := by simpa using hq
  have hr0 := row_cell R4.out 0
  have hr1 := row_cell R4.out 1
  have fr : ∀ o, w3.frozen? ⟨w.heap.size, o, none⟩ = false := fun o => frozen_of_row w3 _ o _ _ R4.out
  have hk0 := row_cell Q4.out 0
  have hk1 := row_cell Q4.out 1
  simp at hr0 hr1 hk0 hk1
  have DF := Lib.hid (((D7.out.setc (g := w.heap.size) (j := 0) (.string c) (Nat.le_refl _)).setc (g := w.heap.size) (j := 1) (.string r) (Nat.le_refl _)).mono (M' := M + 10) (by omega))
  go_wp2
  refine bodyPost_ret (v := .agg #[.string c, .string r]) (by simp [results, Tryd.results66, go_sem, hr0, hr1, hk0, hk1]) rfl ⟨⟨c, r, rfl, by have := hcs.out; omega, by have := hrs.out; omega⟩, ?_⟩
  with_reducible exact DF.out

end Go.Proofs.YtfdhicojnbicgaaDoor
