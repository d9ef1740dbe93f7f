/- Plain law of logs: what is appended, what a lone line is read as, what is left behind a crash. No program in sight. -/
import Derived.Test.YtfdhicojnbicgaaDoorTa
import Derived.Test.YtfdhicojnbicgaaDoorKf
namespace Go.Proofs.YtfdhicojnbicgaaDoor.Tx
open Go.Proofs.YtfdhicojnbicgaaDoor
set_option linter.unusedVariables false

theorem step_nil (k : Nat) : step k [] = none := by simp [step]
theorem rd_nil (n : Nat) : rd n [] = [] := by
  cases n with
  | zero => rfl
  | succ n => rw [rd, step_nil]

theorem rd_snoc (n : Nat) : ∀ (s : List UInt8) (e : Rec) (k : Nat), n ≤ 60 → total (rd n s) = s.length → (rd n s).length < n → okE e = true → k = 60 - n + (rd n s).length →
    rd n (s ++ (lineE k e ++ [10])) = rd n s ++ [(e, (lineE k e).length + 1)] := by
  induction n with
  | zero => intro s e k _ _ h; simp [rd] at h
  | succ n ih =>
    intro s e k hn ht hl ho hk
    cases hs : step (59 - n) s with
    | none =>
      have h0 : rd (n + 1) s = [] := by rw [rd, hs]
      rw [h0] at ht hl hk ⊢
      have hnil : s = [] := List.eq_nil_of_length_eq_zero (by simpa [total] using ht.symm)
      subst hnil
      have hk' : k = 59 - n := by simp at hk; omega
      have h1 : step (59 - n) ([] ++ (lineE k e ++ [10])) = some (e, (lineE k e).length + 1) := step_iff.2 ⟨by omega, ho, by rw [hk'], [], by simp [hk']⟩
      rw [rd, h1]
      simp only [List.nil_append]
      have hdr : (lineE k e ++ [10]).drop ((lineE k e).length + 1) = [] := by simp
      rw [hdr, rd_nil]
    | some x =>
      obtain ⟨f, l⟩ := x
      have h1 : rd (n + 1) s = (f, l) :: rd n (s.drop l) := by rw [rd, hs]
      obtain ⟨_, _, hl', t, ht'⟩ := step_iff.1 hs
      have hle : l ≤ s.length := by rw [ht', hl']; simp
      rw [h1] at ht hl hk ⊢
      rw [total_cons] at ht
      simp only [List.length_cons] at hl hk ht
      have h2 := ih (s.drop l) e k (by omega) (by rw [List.length_drop]; omega) (by omega) ho (by omega)
      rw [rd, step_app _ hs]
      simp only
      rw [List.drop_append_of_le_length hle, h2]
      rfl

/-- The log behind an append. -/
theorem app_law {d p : List UInt8} {n : Int} {k : Nat} {e : Rec} (h : okLog ⟨d, p, n⟩ = true) (ho : okE e = true) (hn : n = k) (hk : k < 60) :
    okLog ⟨d, p ++ (lineE k e ++ [10]), n + 1⟩ = true ∧ rd 60 (d ++ (p ++ (lineE k e ++ [10]))) = rd 60 (d ++ p) ++ [(e, (lineE k e).length + 1)] := by
  obtain ⟨h1, h2, h3, h4⟩ := okLog_parts h
  simp only at h1 h2 h3 h4
  have hl : (rd 60 (d ++ p)).length = k := by
    unfold recsOf at h3
    rw [List.length_map] at h3
    omega
  have hr : rd 60 (d ++ (p ++ (lineE k e ++ [10]))) = rd 60 (d ++ p) ++ [(e, (lineE k e).length + 1)] := by
    rw [← List.append_assoc]
    exact rd_snoc 60 (d ++ p) e k (Nat.le_refl _) (by unfold endOf at h1; rw [h1]; simp) (by omega) ho (by omega)
  refine ⟨?_, hr⟩
  rw [← okLogS_eq]
  unfold okLogS
  have hb := (rd_total 60 (d ++ (p ++ (lineE k e ++ [10])))).2
  unfold endOf recsOf at *
  rw [hr] at hb ⊢
  rw [total_append, total_cons, total_nil, h1] at hb ⊢
  simp only [Bool.and_eq_true, decide_eq_true_eq, List.length_append, List.length_map, List.length_cons, List.length_nil] at hb ⊢
  omega

theorem digits_zero {k : Nat} (h : Lib.decDigits k = Lib.decDigits 0) : k = 0 := by
  have h0 : Lib.decDigits 0 = [UInt8.ofNat (48 + 0)] := by rw [Lib.decDigits, dif_pos (by omega)]
  rw [h0] at h
  by_cases h1 : k < 10
  · rw [Lib.decDigits, dif_pos h1] at h
    simp only [List.cons.injEq, and_true] at h
    have := congrArg UInt8.toNat h
    rw [UInt8.toNat_ofNat', UInt8.toNat_ofNat'] at this
    omega
  · rw [Lib.decDigits, dif_neg h1] at h
    have := congrArg List.length h
    have h2 := digits_pos (k / 10)
    simp only [List.length_append, List.length_cons, List.length_nil] at this
    omega

/-- A lone line, read from the beginning. -/
theorem rd_line {k : Nat} {e : Rec} (ho : okE e = true) (hk : k < 60) : rd 60 (lineE k e ++ [10]) = if k = 0 then [(e, (lineE k e).length + 1)] else [] := by
  by_cases h0 : k = 0
  · subst h0
    rw [if_pos rfl]
    have := rd_snoc 60 [] e 0 (Nat.le_refl _) (by rw [rd_nil]; rfl) (by rw [rd_nil]; simp) ho (by rw [rd_nil]; simp)
    rw [rd_nil] at this
    simpa using this
  · rw [if_neg h0, rd]
    cases hs : step (59 - 59) (lineE k e ++ [10]) with
    | none => rfl
    | some x =>
      exfalso
      obtain ⟨f, l⟩ := x
      obtain ⟨_, hof, _, t, ht⟩ := step_iff.1 hs
      have e1 := congrArg (upto 10) ht
      rw [show lineE k e ++ [10] = lineE k e ++ 10 :: [] from rfl, upto_app _ (line_no10 ho), upto_app _ (line_no10 hof)] at e1
      have e2 := congrArg (upto 35) e1
      unfold lineE sealL at e2
      rw [upto_app _ (body_no35 ho), upto_app _ (body_no35 hof)] at e2
      have e3 := congrArg (upto 32) e2
      unfold body at e3
      rw [upto_app _ (digits_not _ 32 (by decide)), upto_app _ (digits_not _ 32 (by decide))] at e3
      exact h0 (digits_zero e3)

/-- A part of a text, from its beginning: what is read is a part of what is read of the whole. -/
theorem rd_take (n : Nat) : ∀ (s : List UInt8) (m : Nat), ∃ j, rd n (s.take m) = (rd n s).take j := by
  induction n with
  | zero => intro s m; exact ⟨0, rfl⟩
  | succ n ih =>
    intro s m
    cases hs : step (59 - n) (s.take m) with
    | none => exact ⟨0, by rw [rd, hs]; rfl⟩
    | some x =>
      obtain ⟨e, l⟩ := x
      have h1 : step (59 - n) s = some (e, l) := by
        have := step_app (s.drop m) hs
        rwa [List.take_append_drop] at this
      obtain ⟨j, hj⟩ := ih (s.drop l) (m - l)
      refine ⟨j + 1, ?_⟩
      rw [rd, hs, rd, h1]
      simp only [List.take_succ_cons]
      rw [← hj, List.drop_take]

theorem rd_app (n : Nat) : ∀ (d q : List UInt8), total (rd n d) = d.length → ∃ r, rd n (d ++ q) = rd n d ++ r := by
  induction n with
  | zero => intro d q _; exact ⟨[], rfl⟩
  | succ n ih =>
    intro d q h
    cases hs : step (59 - n) d with
    | none =>
      have h0 : rd (n + 1) d = [] := by rw [rd, hs]
      rw [h0]
      exact ⟨_, rfl⟩
    | some x =>
      obtain ⟨e, l⟩ := x
      have h1 : rd (n + 1) d = (e, l) :: rd n (d.drop l) := by rw [rd, hs]
      obtain ⟨_, _, hl', t, ht'⟩ := step_iff.1 hs
      have hle : l ≤ d.length := by rw [ht', hl']; simp
      rw [h1, total_cons] at h
      obtain ⟨r, hr⟩ := ih (d.drop l) q (by rw [List.length_drop]; simp only at h; omega)
      refine ⟨r, ?_⟩
      rw [rd, step_app q hs, h1]
      simp only
      rw [List.drop_append_of_le_length hle, hr]
      rfl

/-- A byte more that is no newline: nothing more is read. -/
theorem step_byte {k : Nat} {a : List UInt8} {x : UInt8} (hx : x ≠ 10) : step k (a ++ [x]) = step k a := by
  cases hs : step k (a ++ [x]) with
  | some y =>
    obtain ⟨e, l⟩ := y
    obtain ⟨_, _, hl, t, ht⟩ := step_iff.1 hs
    have : l ≤ a.length := by
      have h1 := congrArg List.length ht
      simp at h1
      rcases t.eq_nil_or_concat with rfl | ⟨t', y, rfl⟩
      · exfalso
        have : a ++ [x] = lineE k e ++ [10] := ht
        have := (List.append_inj' this rfl).2
        simp at this
        exact hx this
      · simp at h1; omega
    exact (step_cut hs this).symm
  | none =>
    cases h2 : step k a with
    | none => rfl
    | some y => rw [step_app [x] h2] at hs; cases hs
theorem rd_byte (n : Nat) : ∀ (a : List UInt8) (x : UInt8), x ≠ 10 → rd n (a ++ [x]) = rd n a := by
  induction n with
  | zero => intro a x _; rfl
  | succ n ih =>
    intro a x hx
    cases hs : step (59 - n) a with
    | none => rw [rd, rd, step_byte hx, hs]
    | some y =>
      obtain ⟨e, l⟩ := y
      obtain ⟨_, _, hl', t, ht'⟩ := step_iff.1 hs
      have hle : l ≤ a.length := by rw [ht', hl']; simp
      rw [rd, rd, step_byte hx, hs]
      simp only
      rw [List.drop_append_of_le_length hle, ih _ x hx]

/-- The bytes of a line. -/
theorem line_bytes {k : Nat} {e : Rec} (h : okE e = true) : ∀ b ∈ lineE k e, b.toNat ≤ 126 := by
  obtain ⟨⟨_, _, hc⟩, _, hr⟩ := okE_parts h
  have hp : ∀ b, prn b = true → b.toNat ≤ 126 := fun b hb => by simp [prn] at hb; omega
  unfold lineE sealL body
  intro b m
  simp only [List.mem_append, List.mem_cons] at m
  rcases m with (m | m | m | m | m) | m | m
  · have := digits_range _ b m; omega
  · subst m; decide
  · exact hp _ (hc _ m).1
  · subst m; decide
  · exact hp _ (hr _ m).1
  · subst m; decide
  · have := digits_range _ b m; omega
theorem whole_bytes (n : Nat) : ∀ s : List UInt8, total (rd n s) = s.length → ∀ b ∈ s, b.toNat ≤ 126 := by
  induction n with
  | zero => intro s h b hb; have : s = [] := List.eq_nil_of_length_eq_zero (by simpa [rd, total] using h.symm); subst this; simp at hb
  | succ n ih =>
    intro s h b hb
    cases hs : step (59 - n) s with
    | none =>
      have h0 : rd (n + 1) s = [] := by rw [rd, hs]
      rw [h0] at h
      have : s = [] := List.eq_nil_of_length_eq_zero (by simpa [total] using h.symm)
      subst this; simp at hb
    | some x =>
      obtain ⟨e, l⟩ := x
      have h1 : rd (n + 1) s = (e, l) :: rd n (s.drop l) := by rw [rd, hs]
      obtain ⟨_, ho, hl, t, ht⟩ := step_iff.1 hs
      have hle : l ≤ s.length := by rw [ht, hl]; simp
      rw [h1, total_cons] at h
      have h2 := ih (s.drop l) (by rw [List.length_drop]; simp only at h; omega)
      have hd : s.drop l = t := by rw [ht, hl]; simp
      rw [hd] at h2
      rw [ht] at hb
      simp only [List.mem_append, List.mem_cons] at hb
      rcases hb with hb | hb | hb
      · exact line_bytes ho b hb
      · subst hb; decide
      · exact h2 b hb

/-- What is read behind a crash: a part of the records, all durable ones among them. -/
theorem crash_law {d p : List UInt8} {n : Int} {k : Nat} (torn : Bool) (h : okLog ⟨d, p, n⟩ = true) (hk : k ≤ p.length) (s : List UInt8)
    (hs : s = if torn && decide (0 < k) then d ++ flipL (p.take k) else d ++ p.take k) :
    (∃ j, rd 60 s = (rd 60 (d ++ p)).take j) ∧ d.length ≤ endOf s ∧ s.length ≤ 30000 := by
  obtain ⟨h1, h2, h3, h4⟩ := okLog_parts h
  simp only at h1 h2 h3 h4
  have hq : ∃ q, s = d ++ q := by
    rw [hs]; split
    · exact ⟨_, rfl⟩
    · exact ⟨_, rfl⟩
  have hlen : s.length = d.length + k := by
    rw [hs]; split
    · rw [List.length_append, flipL_len, List.length_take]; omega
    · rw [List.length_append, List.length_take]; omega
  refine ⟨?_, ?_, by omega⟩
  · have htk : ∀ m, m ≤ p.length → d ++ p.take m = (d ++ p).take (d.length + m) := fun m _ => by
      rw [List.take_append, List.take_of_length_le (l := d) (by omega)]
      simp
    rw [hs]; split
    · rename_i hc
      simp only [Bool.and_eq_true, decide_eq_true_eq] at hc
      obtain ⟨m, rfl⟩ : ∃ m, k = m + 1 := ⟨k - 1, by omega⟩
      have hm : m < p.length := by omega
      have e1 : flipL (p.take (m + 1)) = p.take m ++ [255 - p[m]] := by
        have e2 : p.take (m + 1) = p.take m ++ [p[m]] := by rw [List.take_add_one, List.getElem?_eq_getElem hm]; rfl
        rw [e2, flipL_app (by simp)]
        rfl
      rw [e1, ← List.append_assoc, rd_byte 60 _ _ ?_, htk m (by omega)]
      · exact rd_take 60 _ _
      · intro e
        have hb := whole_bytes 60 (d ++ p) (by unfold endOf at h1; rw [h1]; simp) p[m] (by simp)
        have h5 := congrArg UInt8.toNat e
        rw [UInt8.toNat_sub_of_le _ _ (by rw [UInt8.le_iff_toNat_le]; show p[m].toNat ≤ 255; omega)] at h5
        have h6 : (255 : UInt8).toNat = 255 := rfl
        have h7 : (10 : UInt8).toNat = 10 := rfl
        rw [h6, h7] at h5
        omega
    · rw [htk k hk]
      exact rd_take 60 _ _
  · obtain ⟨q, rfl⟩ := hq
    obtain ⟨r, hr⟩ := rd_app 60 d q (by unfold endOf at h2; exact h2)
    unfold endOf at *
    rw [hr, total_append, h2]
    omega

end Go.Proofs.YtfdhicojnbicgaaDoor.Tx
