/- Several texts in one: lemmas and walks of the functions that the law reaches. -/
import Derived.Test.YtbgmbanebmlghaaGreatDoorY29
import Derived.Test.YtbgmbanebmlghaaGreatDoorY43

namespace Go.Proofs.YtbgmbanebmlghaaGreatDoor
open Go.RowKit
set_option linter.unusedVariables false

abbrev setc4W := w4
theorem w4_far {w : World} {g : Nat} (x y z v : Value) {p : Addr} (h : p.block ≠ g) : (w4 w g x y z v).cell? p = w.cell? p := by
  unfold w4
  rw [World.cell?_setCell_other, World.cell?_setCell_other, World.cell?_setCell_other, World.cell?_setCell_other] <;> (intro e; exact h (by rw [← e]))
theorem four_own {w : World} {g B n : Nat} {e : TypeId} {u : Value} {xs : List Value} {size : Nat} (x y z v : Value) (h : w.ownsRow B e size u n xs) (hg : g < B) : (w4 w g x y z v).ownsRow B e size u n xs :=
  own_other h (grown_trans (grown_trans (grown_trans (setc_grown w g 0 x) (setc_grown _ g 1 y)) (setc_grown _ g 2 z)) (setc_grown _ g 3 v)) (fun k hk e => by injection e with e; have := (h.lt k hk).1; omega)
/-- What executing a line gives back. -/
def XcEnd (w : World) (L : Recs) (d p : ByteArray) (cnt : Int) (t : List UInt8) (e : Ending) (w' : World) : Prop :=
  ∃ (g m c : Nat), e = .returned (.tuple #[conV (some ⟨g, 0, none⟩) m c d p cnt, .string (ba t)]) ∧ w'.ownsRow w.heap.size 87 2 (.slice (some ⟨g, 0, none⟩) m c) m (flat encR L) ∧ Below w.heap.size w w'

set_option maxRecDepth 100000 in
set_option maxHeartbeats 8000000 in
theorem execOk_any (a : Option Addr) (n c : Nat) (rs L : Recs) (d p line : ByteArray) (cnt : Int) (t : List UInt8) (w : World) (hn : n ≤ 1000) (hd : d.size ≤ 1048576) (hp : p.size ≤ 1048576) (hok : okRecs rs = true) (hlog : Tx.okLog (logOf d p cnt) = true) (hcmd : Tx.okE (recE line ⟨#[]⟩) = true) (hcnt : cnt ≠ 60)
    (ht : t.length ≤ 200) (hrep : Tx.okE (recE line (ba t)) = true) (hL : L.length ≤ 1000) (hl : line.size ≤ 1000) (h : Rd w a n c rs) (he : Env w)
    (HP0 : ∀ W, Below w.heap.size w W → Calls Tryz.prog 56 #[.slice a n c, .string line] W (PfEnd W L t)) :
    Calls Tryz.prog 15 #[conV a n c d p cnt, .string line] w (XcEnd w L d (p ++ encB cnt.toNat line (ba t)) (cnt + 1) t) := by
  have b0 := (Below.refl w.heap.size w).alloc (Nat.le_refl _) (.cells #[.slice a n c, .string d, .string p, .int .i64 cnt] 30)
  have b1 := b0.alloc b0.size (.cells #[.slice none 0 0, .string ⟨#[]⟩, .string ⟨#[]⟩, .int .i64 0] 30)
  have hL0 := (L4.mk' w (.slice a n c) (.string d) (.string p) (.int .i64 cnt) 30).next (Below.alloc (Below.refl _ _) (Nat.le_refl _) (.cells #[.slice none 0 0, .string ⟨#[]⟩, .string ⟨#[]⟩, .int .i64 0] 30))
  have hZ0 := Z4.mk' (w.alloc (.cells #[.slice a n c, .string d, .string p, .int .i64 cnt] 30)) (.slice none 0 0) (.string ⟨#[]⟩) (.string ⟨#[]⟩) (.int .i64 0) 30
  have e1 : (w.alloc (.cells #[.slice a n c, .string d, .string p, .int .i64 cnt] 30)).heap.size = w.heap.size + 1 := by simp
  rw [e1] at hZ0
  have HB0 := Lib.hid b1; have HL0 := Lib.hid hL0; have HZ0 := Lib.hid hZ0
  have HIV : Hid (∀ W, Below w.heap.size w W → Calls Tryz.prog 37 #[conV a n c d p cnt] W fun e w' => e = .returned (.bool true) ∧ Below W.heap.size W w') := fun W hb => by
    have := isValidConsole_any a c rs d p cnt W (by have := h.len; omega) hd hp (he.below hb).tab (h.same hb).recs
    rwa [h.len, hok, hlog] at this
  have HIR := Lib.hid (fun W => isValidRecord_any line ⟨#[]⟩ W (by omega) (by decide))
  rw [hcmd] at HIR
  have HAP := Lib.hid (fun (W : World) (hb : Below w.heap.size w W) => app_ok d p cnt line (ba t) W hd hp (by omega) (by rw [ba_size]; omega) (he.below hb).tab hlog hrep hcnt)
  have HPF := Lib.hid HP0
  have hq0 : (cnt == 60) = false := by rw [beq_eq_false_iff_ne]; exact hcnt
  have hq1 : decide ((200 : Int) < ((ba t).size : Int)) = false := decide_eq_false (by rw [ba_size]; omega)
  obtain ⟨PR, hPR⟩ : ∃ PR, p ++ encB cnt.toNat line (ba t) = PR := ⟨_, rfl⟩
  rw [hPR] at HAP ⊢
  obtain ⟨tb, htb⟩ : ∃ tb, ba t = tb := ⟨_, rfl⟩
  unfold PfEnd at HPF
  unfold XcEnd
  rw [htb] at HAP HPF hq1 ⊢
  have HLL := Lib.hid hL
  clear b0 b1 hL0 hZ0 e1 h he hok hlog hcmd hrep HP0 hcnt hPR htb hl ht hL
  unfold conV logV recV at *
  go_enter Tryz.func15, Tryz.ntmps15
  obtain ⟨l0, l1, l2, l3, _⟩ := HL0.out
  go_wp2_with fail
  refine (HIV.out _ HB0.out).mono ?_
  rintro e w1 ⟨rfl, hb⟩
  have HB1 := Lib.hid (below_tr HB0.out hb HB0.out.size); have HL1 := Lib.hid (HL0.out.next hb); have HZ1 := Lib.hid (HZ0.out.next hb)
  clear hb l0 l1 l2 l3 HL0 HZ0 HB0 HIV
  go_wp2_with fail
  refine (HIR.out _).mono ?_
  rintro e w2 ⟨rfl, hb⟩
  have HB2 := Lib.hid (below_tr HB1.out hb HB1.out.size); have HL2 := Lib.hid (HL1.out.next hb); have HZ2 := Lib.hid (HZ1.out.next hb)
  clear hb HL1 HZ1 HB1 HIR
  obtain ⟨l0, l1, l2, l3, _⟩ := HL2.out
  go_wp2_with fail
  refine (HPF.out _ HB2.out).mono ?_
  rintro e w3 ⟨a3, n3, c3, rfl, hr3, hb⟩
  have HB3 := Lib.hid (below_tr HB2.out hb HB2.out.size); have HL3 := Lib.hid (HL2.out.next hb); have HZ3 := Lib.hid (HZ2.out.next hb)
  have HR3 := Lib.hid hr3
  have hln := hr3.len
  have HN3 := Lib.hid hln
  clear hb HL2 HZ2 HB2 HPF l0 l1 l2 l3 hr3 hln
  obtain ⟨l0, l1, l2, l3, _⟩ := HL3.out
  go_wp2_with fail
  refine (HAP.out _ HB3.out).mono ?_
  rintro e w4 ⟨rfl, hb⟩
  have HB4 := Lib.hid (below_tr HB3.out hb HB3.out.size); have HZ4 := Lib.hid (HZ3.out.next hb); have HR4 := Lib.hid (HR3.out.same hb)
  clear hb HL3 HZ3 HB3 HAP l0 l1 l2 l3 HR3
  have bn := (Below.refl w4.heap.size w4).alloc (Nat.le_refl _) (.cells #[.string d, .string PR, .int .i64 (cnt + 1)] 28)
  have HB5 := Lib.hid (below_tr HB4.out bn HB4.out.size); have HZ5 := Lib.hid (HZ4.out.next bn); have HR5 := Lib.hid (HR4.out.same bn)
  have HT5 := Lib.hid (L3.mk' w4 (.string d) (.string PR) (.int .i64 (cnt + 1)) 28)
  have hsz4 : w.heap.size + 1 < w4.heap.size := HZ4.out.1.lt
  obtain ⟨W5, hW5⟩ : ∃ W5, w4.alloc (.cells #[.string d, .string PR, .int .i64 (cnt + 1)] 28) = W5 := ⟨_, rfl⟩
  clear bn HB4 HZ4 HR4
  go_wp2_with fail
  rw [hW5] at HB5 HZ5 HR5 HT5
  obtain ⟨t0, t1, t2, tl⟩ := HT5.out
  have HCP := Lib.hid (fun (W : World) (hr : Rd W a3 n3 c3 L) => copyOfR_any a3 c3 L W HLL.out hr.recs hr.nil)
  rw [HN3.out] at HCP
  unfold OwnR at HCP
  have HSX : Hid (∀ W, Below W5.heap.size W5 W → (fun w' => w'.cell? ⟨w4.heap.size, 0, none⟩ = some (.string d) ∧ w'.cell? ⟨w4.heap.size, 1, none⟩ = some (.string PR) ∧ w'.cell? ⟨w4.heap.size, 2, none⟩ = some (.int .i64 (cnt + 1)) ∧ Below w.heap.size w w') W) := fun W hb => ⟨(bcell hb tl).trans t0, (bcell hb tl).trans t1, (bcell hb tl).trans t2, below_tr HB5.out hb HB5.out.size⟩
  have bd := (Below.refl W5.heap.size W5).drew
  have hS0 := HSX.out _ bd
  have hA := Lib.hid bd
  have HRD := Lib.hid (HR5.out.same bd)
  have hle5 := HB5.out.size
  clear t0 t1 t2 bd
  dsimp only at hS0
  go_region_held3 (fun w' => w'.cell? ⟨w4.heap.size, 0, none⟩ = some (.string d) ∧ w'.cell? ⟨w4.heap.size, 1, none⟩ = some (.string PR) ∧ w'.cell? ⟨w4.heap.size, 2, none⟩ = some (.int .i64 (cnt + 1)) ∧ Below w.heap.size w w') (go_keep) (first | ((try go_split_ands); go_at_call 58; refine (HCP.out _ HRD.out).mono ?_; rintro e w6 ⟨g6, c6, rfl, ho6, hb6⟩; have hbx := hA.out.trans (hb6.mono hA.out.size); have hS := HSX.out _ hbx; obtain ⟨⟨z0, z1, z2, z3, zl⟩, zf⟩ := HZ5.out.next hbx; have hbz : Below w.heap.size w (setc4W w6 (w.heap.size + 1) (.slice (some ⟨g6, 0, none⟩) n3 c6) (.string d) (.string PR) (.int .i64 (cnt + 1))) := setc4 (below_tr HB5.out hbx HB5.out.size) (by omega); have hS3 : (setc4W w6 (w.heap.size + 1) (.slice (some ⟨g6, 0, none⟩) n3 c6) (.string d) (.string PR) (.int .i64 (cnt + 1))).cell? ⟨w4.heap.size, 0, none⟩ = some (.string d) := (w4_far _ _ _ _ (by simp; omega)).trans hS.1; have hS4 : (setc4W w6 (w.heap.size + 1) (.slice (some ⟨g6, 0, none⟩) n3 c6) (.string d) (.string PR) (.int .i64 (cnt + 1))).cell? ⟨w4.heap.size, 1, none⟩ = some (.string PR) := (w4_far _ _ _ _ (by simp; omega)).trans hS.2.1; have hS5 : (setc4W w6 (w.heap.size + 1) (.slice (some ⟨g6, 0, none⟩) n3 c6) (.string d) (.string PR) (.int .i64 (cnt + 1))).cell? ⟨w4.heap.size, 2, none⟩ = some (.int .i64 (cnt + 1)) := (w4_far _ _ _ _ (by simp; omega)).trans hS.2.2.1; dsimp only [setc4W, Go.Proofs.YtbgmbanebmlghaaGreatDoor.w4] at hbz hS3 hS4 hS5))
  obtain ⟨d0, d1, d2, d3⟩ := four_set (.slice (some ⟨g6, 0, none⟩) n3 c6) (.string d) (.string PR) (.int .i64 (cnt + 1)) z0 z1 z2 z3
  have hsz5 : w.heap.size + 1 < W5.heap.size := HZ5.out.1.lt
  have HO := Lib.hid (four_own (g := w.heap.size + 1) (.slice (some ⟨g6, 0, none⟩) n3 c6) (.string d) (.string PR) (.int .i64 (cnt + 1)) ho6 hsz5)
  have HBZ := Lib.hid hbz
  dsimp only [Go.Proofs.YtbgmbanebmlghaaGreatDoor.w4] at d0 d1 d2 d3 HO
  clear hS hS3 hS4 hS5 hbz hbx hb6 ho6 z0 z1 z2 z3
  go_wp2
  refine bodyPost_ret (v := .tuple #[.agg #[.slice (some ⟨g6, 0, none⟩) n3 c6, .string d, .string PR, .int .i64 (cnt + 1)], .string tb]) (by simp [results, Tryz.results15, go_sem, d0, d1, d2, d3]) rfl ⟨g6, n3, c6, rfl, own_mono HO.out hle5, HBZ.out⟩
end Go.Proofs.YtbgmbanebmlghaaGreatDoor

namespace Go.Proofs.YtbgmbanebmlghaaGreatDoor
open Go.RowKit
set_option linter.unusedVariables false

theorem adL_stC (rs : Recs) : adL rs = stAns rs := by
  unfold adL stAns
  split
  · rw [Ad.adS_eq ltR (Mg.swK Prod.fst), (parts_ok rs).1]; rfl
  · rfl
theorem okRecs_srtC {rs : Recs} (h : okRecs rs = true) : okRecs (srtR rs) = true := by
  unfold okRecs at h ⊢
  simp only [Bool.and_eq_true, decide_eq_true_eq, List.all_eq_true] at h ⊢
  exact ⟨by rw [show (srtR rs).length = rs.length from Mg.srt_length rs]; exact h.1, fun x hx => h.2 x (Mg.srt_mem.1 hx)⟩
theorem okRecs_recsC {zs : List Int} (h : okList zs = true) : okRecs (recsOf zs) = true := by
  have hl := okList_lenQ h
  unfold okList at h
  simp only [Bool.and_eq_true, decide_eq_true_eq, List.all_eq_true] at h
  unfold okRecs
  simp only [Bool.and_eq_true, decide_eq_true_eq, List.all_eq_true]
  refine ⟨by rw [recsOf, recsK_len]; exact hl, fun x hx => ?_⟩
  unfold recsOf recsK at hx
  obtain ⟨j, hj, rfl⟩ := List.mem_map.1 hx
  have hj := List.mem_range.1 hj
  unfold okRec
  rw [Bool.and_eq_true]
  refine ⟨h.2 _ ?_, by simp [inB]; omega⟩
  rw [List.getD_eq_getElem?_getD, List.getElem?_eq_getElem hj]
  exact List.getElem_mem hj
theorem keys_ascC (rs : Recs) : Es.AscTo (keysL (srtR rs)) (keysL (srtR rs)).length := by
  have h := Mg.srt_asc (Mg.swK Prod.fst) rs
  intro a b hab hb
  rw [keysL_len] at hb
  have h1 : b < (srtR rs).length := hb
  have h2 := List.pairwise_iff_getElem.1 h a b (by exact Nat.lt_trans hab h1) h1 hab
  unfold keysL
  rw [List.getD_eq_getElem?_getD, List.getD_eq_getElem?_getD, List.getElem?_map, List.getElem?_map, List.getElem?_eq_getElem h1, List.getElem?_eq_getElem (Nat.lt_trans hab h1)]
  unfold Mg.ltK at h2
  simp at h2
  exact h2
theorem okList_keysC {rs : Recs} (h : okRecs rs = true) : okList (keysL rs) = true := by
  unfold okRecs at h
  unfold okList
  simp only [Bool.and_eq_true, decide_eq_true_eq, List.all_eq_true] at h ⊢
  refine ⟨by rw [keysL_len]; exact h.1, fun x hx => ?_⟩
  unfold keysL at hx
  obtain ⟨r, hr, rfl⟩ := List.mem_map.1 hx
  have := h.2 r hr
  unfold okRec at this
  exact (Bool.and_eq_true _ _ ▸ this : _ ∧ _).1
theorem itoa_prn {n : Int} : ∀ b ∈ Lib.itoa n, (48 ≤ b.toNat ∧ b.toNat ≤ 57) ∨ b = 45 := by
  intro b hb
  unfold Lib.itoa at hb
  split at hb
  · rcases List.mem_cons.1 hb with rfl | hb
    · exact .inr rfl
    · exact .inl (Tx.digits_range _ b hb)
  · exact .inl (Tx.digits_range _ b hb)
theorem join_mem {sep : UInt8} : ∀ {xs : List (List UInt8)} {b : UInt8}, b ∈ Lib.join xs [sep] → b = sep ∨ ∃ x ∈ xs, b ∈ x := by
  intro xs
  refine Mg.list_snoc (P := fun xs => ∀ {b : UInt8}, b ∈ Lib.join xs [sep] → b = sep ∨ ∃ x ∈ xs, b ∈ x) (fun {b} h => by simp [Lib.join] at h) ?_ xs
  intro l x ih b hb
  rw [join_snoc] at hb
  rcases List.mem_append.1 hb with hb | hb
  · split at hb
    · cases hb
    · rcases List.mem_append.1 hb with hb | hb
      · rcases ih hb with h | ⟨y, hy, h⟩
        · exact .inl h
        · exact .inr ⟨y, List.mem_append_left _ hy, h⟩
      · simp at hb; exact .inl hb
  · exact .inr ⟨x, by simp, hb⟩
theorem numT_bytes {zs : List Int} : ∀ b ∈ numT 32 zs, (48 ≤ b.toNat ∧ b.toNat ≤ 57) ∨ b = 45 ∨ b = 32 := by
  intro b hb
  unfold numT at hb
  split at hb
  · simp at hb; exact .inr (.inl hb)
  · rcases join_mem hb with h | ⟨x, hx, h⟩
    · exact .inr (.inr h)
    · obtain ⟨y, _, rfl⟩ := List.mem_map.1 hx
      rcases itoa_prn b h with h | h
      · exact .inl h
      · exact .inr (.inl h)
theorem numT_rep {zs : List Int} (h : (numT 32 zs).length ≤ 200) : Tx.okRep (numT 32 zs) = true := by
  unfold Tx.okRep
  simp only [Bool.and_eq_true, decide_eq_true_eq, List.all_eq_true]
  refine ⟨h, fun b hb => ?_⟩
  rcases numT_bytes b hb with h | rfl | rfl
  · have h35 : b ≠ 35 := by rintro rfl; revert h; decide
    unfold Tx.prn
    simp [h35]; omega
  · decide
  · decide
theorem okE_cmd {line : ByteArray} {t : List UInt8} (h1 : Tx.okCmd (bs line) = true) (h2 : Tx.okRep t = true) : Tx.okE (recE line (ba t)) = true := by
  unfold Tx.okE recE
  rw [bs_ba, h1, h2]; rfl
theorem okLog_start : Tx.okLog (logOf ⟨#[]⟩ ⟨#[]⟩ 0) = true := by
  have h := Tx.ok_read []
  simpa [Tx.recsOf, Tx.rd_nil, logOf, bs] using h
theorem okLog_appC {d p line : ByteArray} {t : List UInt8} {k : Nat} (h : Tx.okLog (logOf d p k) = true) (ho : Tx.okE (recE line (ba t)) = true) (hk : k < 60) : Tx.okLog (logOf d (p ++ encB ((k : Nat) : Int).toNat line (ba t)) ((k : Int) + 1)) = true := by
  have := (Tx.app_law (d := bs d) (p := bs p) (e := recE line (ba t)) h ho rfl hk).1
  unfold logOf
  rw [bs_add, Int.toNat_natCast]
  unfold encB
  rw [bs_mk]
  exact this
end Go.Proofs.YtbgmbanebmlghaaGreatDoor

