/- Several texts in one: lemmas and walks of the functions that the law reaches. -/
import Derived.Test.YtbgmbanebmlghaaGreatDoorY0
import Derived.Lib.IndexAny
import Derived.Lib.IndexLaws
import Derived.Lib.IndexMore
import Derived.Lib.ItoaNum

namespace Go.Proofs.YtbgmbanebmlghaaGreatDoor.Tx
set_option linter.unusedVariables false

def upto (c : UInt8) (s : List UInt8) : List UInt8 := s.takeWhile (· != c)
def past (c : UInt8) (s : List UInt8) : List UInt8 := (s.dropWhile (· != c)).drop 1

theorem upto_none {c : UInt8} {s : List UInt8} (h : c ∉ s) : upto c s = s := by
  induction s with
  | nil => rfl
  | cons x t ih =>
    have hx : x ≠ c := fun e => h (by simp [e])
    have := ih (fun m => h (List.mem_cons_of_mem _ m))
    unfold upto at *
    simp [hx]; exact this

theorem past_none {c : UInt8} {s : List UInt8} (h : c ∉ s) : past c s = [] := by
  induction s with
  | nil => rfl
  | cons x t ih =>
    have hx : x ≠ c := fun e => h (by simp [e])
    have := ih (fun m => h (List.mem_cons_of_mem _ m))
    unfold past at *
    simp [hx]; simpa using this

theorem upto_app {c : UInt8} {a : List UInt8} (b : List UInt8) (h : c ∉ a) : upto c (a ++ c :: b) = a := by
  induction a with
  | nil => simp [upto]
  | cons x t ih =>
    have hx : x ≠ c := fun e => h (by simp [e])
    have := ih (fun m => h (List.mem_cons_of_mem _ m))
    unfold upto at *
    simp [hx]; exact this

theorem past_app {c : UInt8} {a : List UInt8} (b : List UInt8) (h : c ∉ a) : past c (a ++ c :: b) = b := by
  induction a with
  | nil => simp [past]
  | cons x t ih =>
    have hx : x ≠ c := fun e => h (by simp [e])
    have := ih (fun m => h (List.mem_cons_of_mem _ m))
    unfold past at *
    simp [hx]; simpa using this

theorem parts {c : UInt8} {s : List UInt8} (h : c ∈ s) : ∃ a b, s = a ++ c :: b ∧ c ∉ a := by
  induction s with
  | nil => simp at h
  | cons x t ih =>
    by_cases e : x = c
    · subst e; exact ⟨[], t, rfl, by simp⟩
    · have ht : c ∈ t := by
        rcases List.mem_cons.1 h with h | h
        · exact absurd h.symm e
        · exact h
      obtain ⟨a, b, rfl, hn⟩ := ih ht
      exact ⟨x :: a, b, rfl, by simp [hn, Ne.symm e]⟩

theorem upto_past {c : UInt8} {s : List UInt8} (h : c ∈ s) : s = upto c s ++ c :: past c s := by
  obtain ⟨a, b, rfl, hn⟩ := parts h
  rw [upto_app b hn, past_app b hn]

theorem upto_len (c : UInt8) (s : List UInt8) : (upto c s).length ≤ s.length := by
  unfold upto; exact (List.takeWhile_sublist _).length_le

theorem past_drop (c : UInt8) (s : List UInt8) : past c s = s.drop ((upto c s).length + 1) := by
  by_cases h : c ∈ s
  · obtain ⟨a, b, rfl, hn⟩ := parts h
    rw [upto_app b hn, past_app b hn]
    rw [List.drop_append, List.drop_of_length_le (by omega)]
    simp
  · rw [past_none h, upto_none h, List.drop_of_length_le (by omega)]

theorem indexByte_in {c : UInt8} {a : List UInt8} (b : List UInt8) (h : c ∉ a) : Lib.indexByte (a ++ c :: b) c = a.length := by
  induction a with
  | nil => simp [Lib.indexByte]
  | cons x t ih =>
    have hx : x ≠ c := fun e => h (by simp [e])
    have := ih (fun m => h (List.mem_cons_of_mem _ m))
    simp only [List.cons_append, Lib.indexByte]
    rw [this]
    have e1 : (x == c) = false := by simpa using hx
    have e2 : (((t.length : Nat) : Int) == -1) = false := by rw [beq_eq_false_iff_ne]; omega
    rw [e1, e2]; simp

theorem indexByte_out {c : UInt8} {s : List UInt8} (h : c ∉ s) : Lib.indexByte s c = -1 := by
  induction s with
  | nil => rfl
  | cons x t ih =>
    have hx : x ≠ c := fun e => h (by simp [e])
    have := ih (fun m => h (List.mem_cons_of_mem _ m))
    simp only [Lib.indexByte]
    rw [this]
    have e1 : (x == c) = false := by simpa using hx
    rw [e1]; rfl

theorem indexByte_mem (c : UInt8) (s : List UInt8) : decide (0 ≤ Lib.indexByte s c) = decide (c ∈ s) := by
  by_cases h : c ∈ s
  · obtain ⟨a, b, rfl, hn⟩ := parts h
    rw [indexByte_in b hn]; simp
  · rw [indexByte_out h]; simp [h]

theorem indexAny_iff (cs : List UInt8) : ∀ s : List UInt8, 0 ≤ Lib.indexAny s cs ↔ s.any (fun b => cs.contains b) = true := by
  intro s
  induction s with
  | nil => simp [Lib.indexAny]
  | cons x t ih =>
    rw [Lib.indexAny, List.any_cons]
    by_cases hx : cs.contains x = true
    · rw [if_pos hx, hx]; simp
    · have hx' : cs.contains x = false := by simpa using hx
      rw [if_neg hx, hx', Bool.false_or, ← ih]
      have := Lib.indexAny_ge cs t
      by_cases e : Lib.indexAny t cs = -1
      · rw [e]; decide
      · have e2 : (Lib.indexAny t cs == -1) = false := by simpa using e
        rw [e2]
        rw [if_neg (by simp)]
        omega

theorem containsAny_mem (s : List UInt8) (cs : List UInt8) : Lib.containsAny s cs = s.any (fun b => cs.contains b) := by
  rw [Bool.eq_iff_iff, ← indexAny_iff cs s, Lib.containsAny, decide_eq_true_eq]

/-! ### numerals -/
theorem digits_range (u : Nat) : ∀ b ∈ Lib.decDigits u, 48 ≤ b.toNat ∧ b.toNat ≤ 57 := by
  induction u using Nat.strongRecOn with
  | _ u ih =>
    intro b hb
    rw [Lib.decDigits] at hb
    split at hb
    · rename_i h
      simp only [List.mem_singleton] at hb
      subst hb
      rw [UInt8.toNat_ofNat']; omega
    · rename_i h
      rcases List.mem_append.1 hb with hb | hb
      · exact ih (u / 10) (by omega) b hb
      · simp only [List.mem_singleton] at hb
        subst hb
        rw [UInt8.toNat_ofNat']; omega

theorem digits_len (n : Nat) : ∀ u, u < 10 ^ (n + 1) → (Lib.decDigits u).length ≤ n + 1 := by
  induction n with
  | zero =>
    intro u h
    rw [Lib.decDigits, dif_pos (by simpa using h)]; simp
  | succ n ih =>
    intro u h
    rw [Lib.decDigits]
    split
    · simp
    · have := ih (u / 10) (by rw [Nat.div_lt_iff_lt_mul (by omega)]; rw [Nat.pow_succ] at h; exact h)
      simp; omega

theorem digits_pos (u : Nat) : 1 ≤ (Lib.decDigits u).length := by
  rw [Lib.decDigits]; split <;> simp

theorem digits_not (u : Nat) (c : UInt8) (h : c.toNat < 48 ∨ 57 < c.toNat) : c ∉ Lib.decDigits u := by
  intro m
  have := digits_range u c m
  omega

/-! ### records -/
abbrev Rec := List UInt8 × List UInt8
def prn (b : UInt8) : Bool := decide (32 ≤ b.toNat) && decide (b.toNat ≤ 126)
def okCmd (s : List UInt8) : Bool := decide (1 ≤ s.length) && decide (s.length ≤ 90) && s.all (fun b => prn b && b != 35 && b != 62)
def okRep (s : List UInt8) : Bool := decide (s.length ≤ 200) && s.all (fun b => prn b && b != 35)
def okE (e : Rec) : Bool := okCmd e.1 && okRep e.2

def sumStep (h : Nat) (b : UInt8) : Nat := (41 * h + b.toNat + 1) % 999979
def sumL (s : List UInt8) : Nat := s.foldl sumStep 7
theorem sumL_lt (s : List UInt8) : sumL s < 999979 := by
  unfold sumL
  have : ∀ (s : List UInt8) h, h < 999979 → s.foldl sumStep h < 999979 := by
    intro s
    induction s with
    | nil => intro h hh; exact hh
    | cons b t ih => intro h hh; exact ih _ (Nat.mod_lt _ (by omega))
  exact this s 7 (by omega)

def sealL (s : List UInt8) : List UInt8 := s ++ 35 :: Lib.decDigits (sumL s)
def body (k : Nat) (e : Rec) : List UInt8 := Lib.decDigits k ++ 32 :: (e.1 ++ 62 :: e.2)
def lineE (k : Nat) (e : Rec) : List UInt8 := sealL (body k e)

theorem okE_parts {e : Rec} (h : okE e = true) : (1 ≤ e.1.length ∧ e.1.length ≤ 90 ∧ (∀ b ∈ e.1, prn b = true ∧ b ≠ 35 ∧ b ≠ 62)) ∧ (e.2.length ≤ 200 ∧ ∀ b ∈ e.2, prn b = true ∧ b ≠ 35) := by
  simp only [okE, okCmd, okRep, Bool.and_eq_true, decide_eq_true_eq, List.all_eq_true, bne_iff_ne] at h
  exact ⟨⟨h.1.1.1, h.1.1.2, fun b hb => ⟨(h.1.2 b hb).1.1, (h.1.2 b hb).1.2, (h.1.2 b hb).2⟩⟩, h.2.1, fun b hb => h.2.2 b hb⟩

theorem body_no35 {k : Nat} {e : Rec} (h : okE e = true) : (35 : UInt8) ∉ body k e := by
  obtain ⟨⟨_, _, hc⟩, _, hr⟩ := okE_parts h
  unfold body
  intro m
  simp only [List.mem_append, List.mem_cons] at m
  rcases m with m | m | m | m | m
  · exact digits_not k 35 (by decide) m
  · exact absurd m (by decide)
  · exact (hc _ m).2.1 rfl
  · exact absurd m (by decide)
  · exact (hr _ m).2 rfl

theorem body_len {k : Nat} (hk : k < 100) {e : Rec} (h : okE e = true) : (body k e).length ≤ 294 := by
  obtain ⟨⟨_, h1, _⟩, h2, _⟩ := okE_parts h
  have := digits_len 1 k (by omega)
  unfold body; simp; omega

theorem line_len {k : Nat} (hk : k < 100) {e : Rec} (h : okE e = true) : (lineE k e).length ≤ 301 := by
  have h1 := body_len hk h
  have h2 := digits_len 5 (sumL (body k e)) (Nat.lt_trans (sumL_lt _) (by omega))
  unfold lineE sealL; simp; omega

theorem line_no10 {k : Nat} {e : Rec} (h : okE e = true) : (10 : UInt8) ∉ lineE k e := by
  obtain ⟨⟨_, _, hc⟩, _, hr⟩ := okE_parts h
  unfold lineE sealL body
  intro m
  simp only [List.mem_append, List.mem_cons] at m
  have hp : prn 10 = false := by decide
  rcases m with (m | m | m | m | m) | m | m
  · exact digits_not k 10 (by decide) m
  · exact absurd m (by decide)
  · have := (hc _ m).1; rw [hp] at this; cases this
  · exact absurd m (by decide)
  · have := (hr _ m).1; rw [hp] at this; cases this
  · exact absurd m (by decide)
  · exact digits_not _ 10 (by decide) m

/-- What the program reads off a line. -/
def decP (line : List UInt8) : Rec := (upto 62 (past 32 (upto 35 line)), past 62 (past 32 (upto 35 line)))
def dec (k : Nat) (line : List UInt8) : Option Rec := if decide (k < 60) && okE (decP line) && (lineE k (decP line) == line) then some (decP line) else none

theorem decP_line {k : Nat} {e : Rec} (h : okE e = true) : decP (lineE k e) = e := by
  obtain ⟨⟨_, _, hc⟩, _, hr⟩ := okE_parts h
  have h1 : upto 35 (lineE k e) = body k e := by
    unfold lineE sealL; exact upto_app _ (body_no35 h)
  have h2 : past 32 (body k e) = e.1 ++ 62 :: e.2 := by
    unfold body; exact past_app _ (digits_not k 32 (by decide))
  have h3 : (62 : UInt8) ∉ e.1 := fun m => (hc _ m).2.2 rfl
  unfold decP
  rw [h1, h2, upto_app _ h3, past_app _ h3]

theorem dec_iff {k : Nat} {line : List UInt8} {e : Rec} : dec k line = some e ↔ k < 60 ∧ okE e = true ∧ line = lineE k e := by
  unfold dec
  constructor
  · intro h
    split at h
    · rename_i hc
      simp only [Bool.and_eq_true, decide_eq_true_eq, beq_iff_eq] at hc
      injection h with h; subst h
      exact ⟨hc.1.1, hc.1.2, hc.2.symm⟩
    · cases h
  · rintro ⟨hk, ho, rfl⟩
    rw [decP_line ho, if_pos (by simp [hk, ho])]

/-! ### a whole text -/
/-- One record at the head of a text: the record, and how many bytes it takes. -/
def step (k : Nat) (s : List UInt8) : Option (Rec × Nat) := if (10 : UInt8) ∈ s then (dec k (upto 10 s)).map fun e => (e, (upto 10 s).length + 1) else none

theorem step_iff {k : Nat} {s : List UInt8} {e : Rec} {l : Nat} : step k s = some (e, l) ↔ k < 60 ∧ okE e = true ∧ l = (lineE k e).length + 1 ∧ ∃ t, s = lineE k e ++ 10 :: t := by
  unfold step
  constructor
  · intro h
    split at h
    · rename_i hm
      rw [Option.map_eq_some_iff] at h
      obtain ⟨e', hd, he⟩ := h
      injection he with h1 h2
      subst h1
      obtain ⟨hk, ho, hl⟩ := dec_iff.1 hd
      refine ⟨hk, ho, by rw [← h2, hl], past 10 s, ?_⟩
      rw [← hl]; exact upto_past hm
    · cases h
  · rintro ⟨hk, ho, rfl, t, rfl⟩
    have hn := line_no10 (k := k) ho
    rw [if_pos (by simp), upto_app _ hn, dec_iff.2 ⟨hk, ho, rfl⟩]; rfl

/-- What is read off a text, from record k = 60 - n on: the records and their lengths. -/
def rd : Nat → List UInt8 → List (Rec × Nat)
  | 0, _ => []
  | n + 1, s => match step (59 - n) s with
    | none => []
    | some (e, l) => (e, l) :: rd n (s.drop l)

def recsOf (s : List UInt8) : List Rec := (rd 60 s).map (·.1)
def total (r : List (Rec × Nat)) : Nat := (r.map (·.2)).sum
def endOf (s : List UInt8) : Nat := total (rd 60 s)

theorem rd_len (n : Nat) : ∀ s, (rd n s).length ≤ n := by
  induction n with
  | zero => intro s; simp [rd]
  | succ n ih =>
    intro s
    rw [rd]
    split
    · simp
    · have := ih (s.drop (by assumption)); simp; omega

theorem rd_total (n : Nat) : ∀ s, total (rd n s) ≤ s.length ∧ total (rd n s) ≤ 302 * n := by
  induction n with
  | zero => intro s; simp [rd, total]
  | succ n ih =>
    intro s
    rw [rd]
    split
    · simp [total]
    · rename_i e l hs
      obtain ⟨hk, ho, hl, t, ht⟩ := step_iff.1 hs
      have h1 := ih (s.drop l)
      have h2 := line_len (show 59 - n < 100 by omega) ho
      have h3 : l ≤ s.length := by rw [ht]; simp; omega
      have e1 : total ((e, l) :: rd n (s.drop l)) = l + total (rd n (s.drop l)) := by simp [total]
      rw [e1]
      rw [List.length_drop] at h1
      constructor
      · omega
      · have : 302 * (n + 1) = 302 * n + 302 := by omega
        omega

theorem total_cons (x : Rec × Nat) (r : List (Rec × Nat)) : total (x :: r) = x.2 + total r := by simp [total]
theorem total_nil : total [] = 0 := rfl
theorem total_append (a b : List (Rec × Nat)) : total (a ++ b) = total a + total b := by simp [total]

/-- A text that is read to its end, and another behind it. -/
theorem step_app {k : Nat} {d : List UInt8} (p : List UInt8) {x : Rec × Nat} (h : step k d = some x) : step k (d ++ p) = some x := by
  obtain ⟨e, l⟩ := x
  obtain ⟨hk, ho, hl, t, rfl⟩ := step_iff.1 h
  exact step_iff.2 ⟨hk, ho, hl, t ++ p, by simp⟩

theorem step_cut {k : Nat} {d p : List UInt8} {e : Rec} {l : Nat} (h : step k (d ++ p) = some (e, l)) (hl : l ≤ d.length) : step k d = some (e, l) := by
  obtain ⟨hk, ho, rfl, t, ht⟩ := step_iff.1 h
  refine step_iff.2 ⟨hk, ho, rfl, d.drop ((lineE k e).length + 1), ?_⟩
  have h1 : d.take ((lineE k e).length + 1) = lineE k e ++ [10] := by
    have h2 : (d ++ p).take ((lineE k e).length + 1) = lineE k e ++ [10] := by
      rw [ht, List.take_append, List.take_of_length_le (by omega)]
      simp
    rw [List.take_append_of_le_length hl] at h2
    exact h2
  have h3 := List.take_append_drop ((lineE k e).length + 1) d
  rw [h1] at h3
  rw [← h3]
  simp

/-- Where records end, the beginning included. -/
def Starts (r : List (Rec × Nat)) (x : Nat) : Prop := ∃ j, j ≤ r.length ∧ total (r.take j) = x

theorem starts_nil {x : Nat} : Starts [] x ↔ x = 0 := by
  constructor
  · rintro ⟨j, hj, h⟩; simp [total] at h; exact h.symm
  · rintro rfl; exact ⟨0, by simp, rfl⟩
theorem starts_cons {y : Rec × Nat} {r : List (Rec × Nat)} {x : Nat} : Starts (y :: r) x ↔ x = 0 ∨ ∃ z, Starts r z ∧ x = y.2 + z := by
  constructor
  · rintro ⟨j, hj, h⟩
    cases j with
    | zero => left; simpa [total] using h.symm
    | succ j =>
      right
      exact ⟨total (r.take j), ⟨j, by simpa using hj, rfl⟩, by rw [← h, List.take_succ_cons, total_cons]⟩
  · rintro (rfl | ⟨z, ⟨j, hj, rfl⟩, rfl⟩)
    · exact ⟨0, by simp, rfl⟩
    · exact ⟨j + 1, by simpa using hj, by rw [List.take_succ_cons, total_cons]⟩

theorem whole_starts (n : Nat) : ∀ (d p : List UInt8), total (rd n d) = d.length → Starts (rd n (d ++ p)) d.length := by
  induction n with
  | zero => intro d p h; rw [rd] at h ⊢; rw [starts_nil]; simpa [total] using h.symm
  | succ n ih =>
    intro d p h
    rw [rd] at h
    split at h
    · exact ⟨0, by omega, by simpa [total] using h⟩
    · rename_i e l hs
      obtain ⟨_, _, hl, t, ht⟩ := step_iff.1 hs
      have hle : l ≤ d.length := by rw [ht, hl]; simp
      rw [total_cons] at h
      have h2 := ih (d.drop l) p (by rw [List.length_drop]; omega)
      rw [rd, step_app p hs]
      simp only
      rw [List.drop_append_of_le_length hle, starts_cons]
      exact .inr ⟨(d.drop l).length, h2, by rw [List.length_drop]; simp only; omega⟩

theorem starts_whole (n : Nat) : ∀ (d p : List UInt8), Starts (rd n (d ++ p)) d.length → total (rd n d) = d.length := by
  induction n with
  | zero => intro d p h; rw [rd, starts_nil] at h; simp [rd, total, h]
  | succ n ih =>
    intro d p h
    rw [rd] at h
    split at h
    · rw [starts_nil] at h
      have : d = [] := List.eq_nil_of_length_eq_zero h
      subst this
      rw [rd]
      have : step (59 - n) [] = none := by simp [step]
      rw [this]; rfl
    · rename_i e l hs
      rcases starts_cons.1 h with h0 | ⟨z, hz, h0⟩
      · have : d = [] := List.eq_nil_of_length_eq_zero h0
        subst this
        rw [rd]
        have : step (59 - n) [] = none := by simp [step]
        rw [this]; rfl
      · simp only at h0
        have hle : l ≤ d.length := by omega
        have hd := step_cut hs hle
        rw [List.drop_append_of_le_length hle] at hz
        have h2 := ih (d.drop l) p (by rw [List.length_drop]; rw [show d.length - l = z by omega]; exact hz)
        rw [rd, hd]
        simp only
        rw [total_cons, h2, List.length_drop]; simp only; omega

def startsL (r : List (Rec × Nat)) : List Nat := (List.range (r.length + 1)).map fun j => total (r.take j)
theorem mem_startsL {r : List (Rec × Nat)} {x : Nat} : x ∈ startsL r ↔ Starts r x := by
  unfold startsL Starts
  simp only [List.mem_map, List.mem_range, Nat.lt_succ_iff]

/-- A log, as the program says it and as the reference does. -/
structure LogV where
  dur : List UInt8
  pen : List UInt8
  cnt : Int

def okLog (l : LogV) : Bool := decide (l.dur.length ∈ startsL (rd 60 (l.dur ++ l.pen))) && decide (endOf (l.dur ++ l.pen) = (l.dur ++ l.pen).length) && decide (l.cnt = ((recsOf (l.dur ++ l.pen)).length : Int))
def okLogS (l : LogV) : Bool := decide (l.dur.length + l.pen.length ≤ 30000) && (decide (endOf (l.dur ++ l.pen) = l.dur.length + l.pen.length) && decide (endOf l.dur = l.dur.length) && decide (((recsOf (l.dur ++ l.pen)).length : Int) = l.cnt))

theorem okLogS_eq (l : LogV) : okLogS l = okLog l := by
  rw [Bool.eq_iff_iff]
  unfold okLogS okLog
  simp only [Bool.and_eq_true, decide_eq_true_eq, List.length_append, mem_startsL]
  constructor
  · rintro ⟨_, ⟨h1, h2⟩, h3⟩
    exact ⟨⟨whole_starts 60 _ _ h2, h1⟩, h3.symm⟩
  · rintro ⟨⟨h1, h2⟩, h3⟩
    have := (rd_total 60 (l.dur ++ l.pen)).2
    unfold endOf at *
    exact ⟨by omega, ⟨h2, starts_whole 60 _ _ h1⟩, h3.symm⟩

theorem okLog_parts {l : LogV} (h : okLog l = true) : endOf (l.dur ++ l.pen) = l.dur.length + l.pen.length ∧ endOf l.dur = l.dur.length ∧ l.cnt = ((recsOf (l.dur ++ l.pen)).length : Int) ∧ l.dur.length + l.pen.length ≤ 30000 := by
  rw [← okLogS_eq] at h
  unfold okLogS at h
  simp only [Bool.and_eq_true, decide_eq_true_eq] at h
  exact ⟨h.2.1.1, h.2.1.2, h.2.2.symm, h.1⟩

theorem recs_le (s : List UInt8) : (recsOf s).length ≤ 60 := by unfold recsOf; rw [List.length_map]; exact rd_len 60 s

/-- What is read off what was read. -/
theorem rd_self (n : Nat) : ∀ s : List UInt8, rd n (s.take (total (rd n s))) = rd n s := by
  induction n with
  | zero => intro s; rfl
  | succ n ih =>
    intro s
    cases hs : step (59 - n) s with
    | none =>
      have h0 : rd (n + 1) s = [] := by rw [rd, hs]
      rw [h0]
      simp only [total_nil, List.take_zero]
      rw [rd]
      have : step (59 - n) [] = none := by simp [step]
      rw [this]
    | some x =>
      obtain ⟨e, l⟩ := x
      have h1 : rd (n + 1) s = (e, l) :: rd n (s.drop l) := by rw [rd, hs]
      obtain ⟨_, _, hl, t, ht⟩ := step_iff.1 hs
      have hle : l ≤ s.length := by rw [ht, hl]; simp
      have h2 := ih (s.drop l)
      have h3 := (rd_total n (s.drop l)).1
      rw [List.length_drop] at h3
      rw [h1, total_cons]
      simp only
      have h4 : s = s.take (l + total (rd n (s.drop l))) ++ s.drop (l + total (rd n (s.drop l))) := (List.take_append_drop _ _).symm
      have h5 : step (59 - n) (s.take (l + total (rd n (s.drop l)))) = some (e, l) := by
        have hs' := hs
        rw [h4] at hs'
        exact step_cut hs' (by rw [List.length_take]; omega)
      rw [rd, h5]
      simp only
      rw [show (s.take (l + total (rd n (s.drop l)))).drop l = (s.drop l).take (total (rd n (s.drop l))) by rw [List.drop_take]; congr 1; omega]
      rw [h2]

theorem ok_read (s : List UInt8) : okLog ⟨s.take (endOf s), [], ((recsOf s).length : Int)⟩ = true := by
  have h1 := rd_self 60 s
  have h2 := (rd_total 60 s).1
  rw [← okLogS_eq]
  unfold okLogS
  have h3 := (rd_total 60 s).2
  unfold endOf recsOf at *
  simp only [List.append_nil, List.length_nil, Nat.add_zero, h1, List.length_take, Bool.and_eq_true, decide_eq_true_eq]
  refine ⟨by omega, ⟨by omega, by omega⟩, trivial⟩

end Go.Proofs.YtbgmbanebmlghaaGreatDoor.Tx

