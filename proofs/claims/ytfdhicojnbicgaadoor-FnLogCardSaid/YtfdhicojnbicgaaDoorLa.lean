/- The log functions' answers as plain values, of both packages. -/
import Derived.Test.YtfdhicojnbicgaaDoorTy
import Derived.Test.YtfdhicojnbicgaaDoorTw
import Derived.Test.YtfdhicojnbicgaaDoorMc
import Derived.Test.YtfdhicojnbicgaaDoorPl
namespace Go.Proofs.YtfdhicojnbicgaaDoor
open Go.RowKit
set_option linter.unusedVariables false

/-- What EncodeRecord gives. -/
def encOk (k : Int) (c r : ByteArray) : Bool := inB k 0 59 && Tx.okE (recE c r)
def encT (k : Int) (c r : ByteArray) : ByteArray := if encOk k c r = true then encB k.toNat c r else ⟨#[]⟩
theorem enc_parts {k : Int} {c r : ByteArray} (h : encOk k c r = true) : ∃ j : Nat, k = j ∧ j < 60 ∧ Tx.okE (recE c r) = true := by
  unfold encOk at h
  simp only [Bool.and_eq_true] at h
  have h1 := h.1
  simp [inB] at h1
  exact ⟨k.toNat, by omega, by omega, h.2⟩
theorem encode_all (k : Int) (c r : ByteArray) (w : World) (hc : c.size ≤ 4000000000) (hr : r.size ≤ 4000000000) (ht : Tab w) :
    Calls Tryd.prog 17 #[.int .i64 k, recV c r] w fun e w' => e = .returned (.tuple #[.string (encT k c r), .bool (encOk k c r)]) ∧ Below w.heap.size w w' := by
  unfold encT
  cases h : encOk k c r
  · exact encode_no k c r w hc hr h
  · obtain ⟨j, rfl, hj, ho⟩ := enc_parts h
    exact encode_yes j c r w hj ho ht
theorem sEncode_all (k : Int) (c r : ByteArray) (w : World) (hc : c.size ≤ 4000000000) (hr : r.size ≤ 4000000000) :
    Calls Tryd.prog 15 #[.int .i64 k, recV c r] w fun e w' => e = .returned (.tuple #[.string (encT k c r), .bool (encOk k c r)]) ∧ Below w.heap.size w w' := by
  unfold encT
  cases h : encOk k c r
  · exact sEncode_no k c r w hc hr h
  · obtain ⟨j, rfl, hj, ho⟩ := enc_parts h
    exact sEncode_yes j c r w hj ho
theorem encT_size {k : Int} {c r : ByteArray} : (encT k c r).size ≤ 302 := by
  unfold encT
  cases h : encOk k c r
  · rw [if_neg (by simp)]; show 0 ≤ _; omega
  · obtain ⟨j, rfl, hj, ho⟩ := enc_parts h
    rw [if_pos rfl]
    have := Tx.line_len (k := j) (by omega) ho
    unfold encB
    rw [size_mk, List.length_append, Int.toNat_natCast]
    simp
    omega

/-- What RecoverLog reads. -/
def rcOk (s : ByteArray) : Bool := decide (s.size ≤ 30000)
def rcR (s : ByteArray) : List (Tx.Rec × Nat) := if s.size ≤ 30000 then Tx.rd 60 (bs s) else []
def rcD (s : ByteArray) : ByteArray := s.extract 0 (Tx.total (rcR s))
theorem rcR_ok {s : ByteArray} (h : s.size ≤ 30000) : rcR s = Tx.rd 60 (bs s) := if_pos h
theorem rcD_big {s : ByteArray} (h : 30000 < s.size) : rcD s = ⟨#[]⟩ := by
  unfold rcD rcR
  rw [if_neg (by omega)]
  show s.extract 0 0 = _
  apply ba_eq
  rw [take_bs]
  rfl
theorem recover_all (s : ByteArray) (w : World) (hs : s.size ≤ 1000000) (ht : Tab w) :
    Calls Tryd.prog 19 #[.string s] w fun e w' => e = .returned (.tuple #[logV (rcD s) ⟨#[]⟩ ((rcR s).length : Nat), .int .i64 (Tx.total (rcR s) : Nat), .bool (rcOk s)]) ∧ Below w.heap.size w w' := by
  by_cases h : s.size ≤ 30000
  · have := recover_any s w h ht
    rw [show rcOk s = true from decide_eq_true h]
    unfold rcD
    rw [rcR_ok h]
    exact this
  · have := recover_big s w (by omega) (by omega)
    rw [show rcOk s = false from decide_eq_false h, rcD_big (by omega)]
    unfold rcR
    rw [if_neg h]
    exact this
theorem sRecover_all (s : ByteArray) (w : World) (hs : s.size ≤ 1000000) :
    Calls Tryd.prog 18 #[.string s] w fun e w' => e = .returned (.tuple #[logV (rcD s) ⟨#[]⟩ ((rcR s).length : Nat), .int .i64 (Tx.total (rcR s) : Nat), .bool (rcOk s)]) ∧ Below w.heap.size w w' := by
  by_cases h : s.size ≤ 30000
  · have := sRecover_any s w h
    rw [show rcOk s = true from decide_eq_true h]
    unfold rcD
    rw [rcR_ok h]
    exact this
  · have := sRecover_big s w (by omega) (by omega)
    rw [show rcOk s = false from decide_eq_false h, rcD_big (by omega)]
    unfold rcR
    rw [if_neg h]
    exact this
theorem rc_total {s : ByteArray} : Tx.total (rcR s) ≤ s.size := by
  unfold rcR
  split
  · rw [← bs_len]; exact (Tx.rd_total 60 (bs s)).1
  · show 0 ≤ _; omega
theorem rcD_bs {s : ByteArray} : bs (rcD s) = (bs s).take (Tx.total (rcR s)) := by
  unfold rcD; exact take_bs s _
/-- The recovered log is valid, and its records are those read. -/
theorem rc_okLog (s : ByteArray) : Tx.okLog (logOf (rcD s) ⟨#[]⟩ ((rcR s).length : Nat)) = true := by
  by_cases h : s.size ≤ 30000
  · have := Tx.ok_read (bs s)
    unfold Tx.endOf Tx.recsOf at this
    rw [← rcR_ok h, ← rcD_bs, List.length_map] at this
    exact this
  · have h0 : rcR s = [] := by unfold rcR; rw [if_neg h]
    rw [rcD_big (by omega), h0]
    have := Tx.ok_read []
    unfold Tx.endOf Tx.recsOf at this
    rw [Tx.rd_nil] at this
    exact this
theorem rc_lrecs (s : ByteArray) : lrecs (rcD s) ⟨#[]⟩ ((rcR s).length : Nat) = (rcR s).map (·.1) := by
  unfold lrecs
  rw [if_pos (rc_okLog s), bs_add, rcD_bs]
  have e : bs (⟨#[]⟩ : ByteArray) = [] := rfl
  rw [e, List.append_nil]
  by_cases h : s.size ≤ 30000
  · rw [rcR_ok h, Tx.rd_self]
  · have h0 : rcR s = [] := by unfold rcR; rw [if_neg h]
    rw [h0, show (bs s).take (Tx.total []) = [] from rfl, Tx.rd_nil]

/-- What CrashLog leaves. -/
def crOk (d p : ByteArray) (n k : Int) : Bool := Tx.okLog (logOf d p n) && inB k 0 p.size
def crT (d p : ByteArray) (n k : Int) (t : Bool) : ByteArray := if crOk d p n k = true then ba (crashL (bs d) (bs p) k.toNat t) else ⟨#[]⟩
theorem cr_parts {d p : ByteArray} {n k : Int} (h : crOk d p n k = true) : ∃ j : Nat, k = j ∧ j ≤ p.size ∧ Tx.okLog (logOf d p n) = true := by
  unfold crOk at h
  simp only [Bool.and_eq_true] at h
  have h1 := h.2
  simp [inB] at h1
  exact ⟨k.toNat, by omega, by omega, h.1⟩
theorem crash_all (d p : ByteArray) (n k : Int) (t : Bool) (w : World) (hd : d.size ≤ 1048576) (hp : p.size ≤ 1048576) (ht : Tab w) :
    Calls Tryd.prog 26 #[logV d p n, .int .i64 k, .bool t] w fun e w' => e = .returned (.tuple #[.string (crT d p n k t), .bool (crOk d p n k)]) ∧ Below w.heap.size w w' := by
  unfold crT
  cases h : crOk d p n k
  · exact crash_no d p n k t w hd hp ht h
  · obtain ⟨j, rfl, hj, ho⟩ := cr_parts h
    exact crash_yes d p n j t w hd hp ht ho hj
theorem sCrash_all (d p : ByteArray) (n k : Int) (t : Bool) (w : World) (hd : d.size ≤ 1048576) (hp : p.size ≤ 1048576) :
    Calls Tryd.prog 25 #[logV d p n, .int .i64 k, .bool t] w fun e w' => e = .returned (.tuple #[.string (crT d p n k t), .bool (crOk d p n k)]) ∧ Below w.heap.size w w' := by
  unfold crT
  cases h : crOk d p n k
  · exact sCrash_no d p n k t w hd hp h
  · obtain ⟨j, rfl, hj, ho⟩ := cr_parts h
    rw [if_pos rfl, Int.toNat_natCast]
    cases hc : (t && decide (0 < j))
    · exact sCrash_flat d p n j t w hd hp ho hj hc
    · simp only [Bool.and_eq_true, decide_eq_true_eq] at hc
      obtain ⟨rfl, h0⟩ := hc
      obtain ⟨m, rfl⟩ : ∃ m, j = m + 1 := ⟨j - 1, by omega⟩
      exact sCrash_flip d p n m w hd hp ho hj
/-- What is read behind a crash. -/
theorem cr_law {d p : ByteArray} {n k : Int} {t : Bool} (h : crOk d p n k = true) :
    (crT d p n k t).size ≤ 30000 ∧ d.size ≤ Tx.total (rcR (crT d p n k t)) ∧ ∃ i, (rcR (crT d p n k t)).map (·.1) = (lrecs d p n).take i := by
  obtain ⟨j, rfl, hj, ho⟩ := cr_parts h
  obtain ⟨⟨i, hi⟩, h2, h3⟩ := Tx.crash_law (k := j) t ho (by rw [bs_len]; exact hj) (crashL (bs d) (bs p) j t) rfl
  have e : crT d p n (j : Int) t = ba (crashL (bs d) (bs p) j t) := by unfold crT; rw [if_pos h, Int.toNat_natCast]
  have hsz : (crT d p n (j : Int) t).size ≤ 30000 := by rw [e, ← bs_len, bs_ba]; exact h3
  refine ⟨hsz, ?_, i, ?_⟩
  · rw [rcR_ok hsz, e, bs_ba, ← bs_len]
    exact h2
  · rw [rcR_ok hsz, e, bs_ba, hi]
    unfold lrecs
    rw [if_pos ho, bs_add, List.map_take]

/-- What AppendRecord does to a log. -/
theorem app_cases (d p : ByteArray) (n : Int) (c r : ByteArray) (hd : d.size ≤ 1048576) (hp : p.size ≤ 1048576) (hcs : c.size ≤ 1048576) (hrs : r.size ≤ 1048576) :
    (∃ q : Int, (q = 1 ∨ q = 2) ∧ (∀ w, Tab w → Calls Tryd.prog 30 #[logV d p n, recV c r] w fun e w' => e = .returned (.tuple #[logV d p n, .int .i64 q]) ∧ Below w.heap.size w w') ∧ (∀ w, Calls Tryd.prog 29 #[logV d p n, recV c r] w fun e w' => e = .returned (.tuple #[logV d p n, .int .i64 q]) ∧ Below w.heap.size w w')) ∨
    (∃ k : Nat, n = k ∧ k < 60 ∧ Tx.okLog (logOf d p n) = true ∧ Tx.okE (recE c r) = true ∧ (∀ w, Tab w → Calls Tryd.prog 30 #[logV d p n, recV c r] w fun e w' => e = .returned (.tuple #[logV d (p ++ encB k c r) (n + 1), .int .i64 0]) ∧ Below w.heap.size w w') ∧ (∀ w, Calls Tryd.prog 29 #[logV d p n, recV c r] w fun e w' => e = .returned (.tuple #[logV d (p ++ encB k c r) (n + 1), .int .i64 0]) ∧ Below w.heap.size w w')) := by
  cases h : Tx.okLog (logOf d p n)
  · exact .inl ⟨1, .inl rfl, fun w ht => app_badlog d p n c r w hd hp hcs hrs ht h, fun w => sapp_badlog d p n c r w hd hp hcs hrs h⟩
  · cases hr : Tx.okE (recE c r)
    · exact .inl ⟨1, .inl rfl, fun w ht => app_badrec d p n c r w hd hp hcs hrs ht h hr, fun w => sapp_badrec d p n c r w hd hp hcs hrs h hr⟩
    · by_cases hn : n = 60
      · exact .inl ⟨2, .inr rfl, fun w ht => app_full d p n c r w hd hp hcs hrs ht h hr hn, fun w => sapp_full d p n c r w hd hp hcs hrs h hr hn⟩
      · obtain ⟨k, rfl, hk⟩ := app_n h
        exact .inr ⟨k, rfl, by omega, rfl, rfl, fun w ht => app_ok d p k c r w hd hp hcs hrs ht h hr hn, fun w => sapp_ok d p k c r w hd hp hcs hrs h hr hn⟩

theorem encB_size {k : Nat} {c r : ByteArray} (h : Tx.okE (recE c r) = true) (hk : k < 60) : (encB k c r).size ≤ 302 := by
  have := Tx.line_len (k := k) (by omega) h
  unfold encB
  rw [size_mk, List.length_append]
  simp
  omega
theorem encB_bs (k : Nat) (c r : ByteArray) : bs (encB k c r) = Tx.lineE k (recE c r) ++ [10] := by unfold encB; exact bs_mk _

/-- The log behind an append: valid, one record more. -/
theorem app_lrecs {d p : ByteArray} {n : Int} {k : Nat} {c r : ByteArray} (h : Tx.okLog (logOf d p n) = true) (ho : Tx.okE (recE c r) = true) (hn : n = k) (hk : k < 60) :
    Tx.okLog (logOf d (p ++ encB k c r) (n + 1)) = true ∧ lrecs d (p ++ encB k c r) (n + 1) = lrecs d p n ++ [recE c r] ∧ (lrecs d p n).length = k ∧ (d ++ (p ++ encB k c r)).size ≤ 30000 ∧ Tx.total (Tx.rd 60 (bs (d ++ (p ++ encB k c r)))) = (d ++ (p ++ encB k c r)).size := by
  obtain ⟨h1, h2⟩ := Tx.app_law h ho hn hk
  have e1 : logOf d (p ++ encB k c r) (n + 1) = ⟨bs d, bs p ++ (Tx.lineE k (recE c r) ++ [10]), n + 1⟩ := by unfold logOf; rw [bs_add, encB_bs]
  have h1' : Tx.okLog (logOf d (p ++ encB k c r) (n + 1)) = true := by rw [e1]; exact h1
  have e2 : lrecs d p n = (Tx.rd 60 (bs d ++ bs p)).map (·.1) := by unfold lrecs; rw [if_pos h, bs_add]
  obtain ⟨q1, q2, q3, q4⟩ := Tx.okLog_parts h1'
  obtain ⟨r1, r2, r3, r4⟩ := Tx.okLog_parts h
  have e3 : (d ++ (p ++ encB k c r)).size = (bs d).length + (bs (p ++ encB k c r)).length := by rw [size_add, bs_len, bs_len]
  refine ⟨h1', ?_, ?_, ?_, ?_⟩
  · unfold lrecs
    rw [if_pos h1', if_pos h, bs_add, bs_add, encB_bs, h2, List.map_append, bs_add]
    rfl
  · rw [e2]
    have : n = (((Tx.rd 60 (bs d ++ bs p)).map (·.1)).length : Int) := r3
    omega
  · rw [e3]; exact q4
  · rw [e3, bs_add]; exact q1

end Go.Proofs.YtfdhicojnbicgaaDoor
