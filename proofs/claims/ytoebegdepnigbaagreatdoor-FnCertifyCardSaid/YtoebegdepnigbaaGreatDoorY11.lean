/- Several texts in one: lemmas and walks of the functions that the laws reach. -/
import Derived.Test.YtoebegdepnigbaaGreatDoorY10
import Derived.Test.YtoebegdepnigbaaGreatDoorY6
import Derived.Lib.IndexMore
import Derived.Lib.IndexAny
import Derived.Lib.IndexLaws
import Derived.Lib.ItoaNum
import Derived.Test.YtoebegdepnigbaaGreatDoorY1
import Derived.Test.YtoebegdepnigbaaGreatDoorY0
import Derived.IntWalk
import Derived.Lib.AppendIntMem
import Derived.Deep.RegionHeld3

/- Plain law of certificates: the stable sort is proved by its positions, and by nothing else. -/
namespace Go.Proofs.YtoebegdepnigbaaGreatDoor
open Go.RowKit Go.Sort
set_option linter.unusedVariables false

def Lex (l : List Int) (a b : Int) : Prop := keyAt l a < keyAt l b ∨ keyAt l a = keyAt l b ∧ a < b
theorem lex_trans {l : List Int} {a b c : Int} (h : Lex l a b) (k : Lex l b c) : Lex l a c := by unfold Lex at *; omega
theorem lex_asymm {l : List Int} {a b : Int} (h : Lex l a b) (k : Lex l b a) : False := by unfold Lex at *; omega
theorem sortP_lex (l : List Int) : (sortP l).Pairwise (Lex l) := by
  unfold sortP
  rw [← Mg.srtT_fst]
  refine List.pairwise_map.2 (List.Pairwise.imp_of_mem ?_ (Mg.srtT_lx (keyAt l) (upTo l.length)))
  intro a b ha hb h
  have e : ∀ x ∈ Mg.srtT (keyAt l) (upTo l.length), x.1 = (x.2 : Int) := fun x hx => by
    have hx' : x ∈ Mg.tag (upTo l.length) := (Mg.srt_perm (lt := Mg.ltK (Mg.k2 (keyAt l))) (Mg.tag (upTo l.length))).mem_iff.1 hx
    obtain ⟨h1, h2⟩ := Mg.tag_lt hx'
    have hl : (upTo l.length).length = l.length := by simp [upTo]
    rw [upTo_get (by omega)] at h2
    exact (Option.some.inj h2).symm
  have e1 := e a ha
  have e2 := e b hb
  unfold Mg.lx at h
  unfold Lex
  rcases h with h | ⟨h1, h2⟩
  · exact .inl h
  · exact .inr ⟨h1, by omega⟩

theorem pair_adj {R : Int → Int → Prop} (tr : ∀ a b c, R a b → R b c → R a c) : ∀ {p : List Int}, (∀ i, i + 1 < p.length → R (p.getD i 0) (p.getD (i + 1) 0)) → p.Pairwise R
  | [], _ => .nil
  | [x], _ => by simp
  | x :: y :: r, h => by
    have ih := pair_adj tr (p := y :: r) (fun i hi => by have := h (i + 1) (by simp at hi ⊢; omega); simpa using this)
    have h0 : R x y := by have := h 0 (by simp); simpa using this
    refine List.pairwise_cons.2 ⟨fun z hz => ?_, ih⟩
    rcases List.mem_cons.1 hz with rfl | hz
    · exact h0
    · exact tr _ _ _ h0 ((List.pairwise_cons.1 ih).1 z hz)

theorem nodup_sub_perm : ∀ {p q : List Int}, p.Nodup → q.Nodup → (∀ x ∈ p, x ∈ q) → p.length = q.length → p.Perm q
  | [], q, _, _, _, h => by
    have : q = [] := List.eq_nil_of_length_eq_zero h.symm
    rw [this]
  | x :: r, q, hp, hq, hs, hl => by
    have hx := hs x (by simp)
    have e1 := List.perm_cons_erase hx
    have hr := List.nodup_cons.1 hp
    have ih := nodup_sub_perm (p := r) (q := q.erase x) hr.2 (hq.erase x) (fun y hy => by
      have hne : y ≠ x := fun e => hr.1 (e ▸ hy)
      exact (List.mem_erase_of_ne hne).2 (hs y (List.mem_cons_of_mem _ hy))) (by rw [List.length_erase_of_mem hx, ← hl]; simp)
    exact (List.Perm.cons x ih).trans e1.symm

theorem perm_nodup {p : List Int} (h : okPerm p = true) : p.Nodup := by
  refine List.pairwise_iff_getElem.2 fun i j hi hj hij e => ?_
  unfold okPerm at h
  rw [Bool.and_eq_true] at h
  have h2 := allIx_at h.2 hj
  unfold permOk at h2
  simp only [Bool.and_eq_true, Bool.not_eq_true', decide_eq_false_iff_not] at h2
  refine h2.2 ?_
  rw [List.getD_eq_getElem?_getD, List.getElem?_eq_getElem hj, Option.getD_some, ← e]
  exact List.mem_take_iff_getElem.2 ⟨i, by omega, rfl⟩

theorem getD_map_getD (l : RL) (p : List Int) {i : Nat} (h : i < p.length) : (p.map fun i => l.getD i.toNat (0, 0)).getD i (0, 0) = l.getD (p.getD i 0).toNat (0, 0) := by
  rw [List.getD_eq_getElem?_getD, List.getElem?_map, List.getElem?_eq_getElem h, List.getD_eq_getElem?_getD (l := p), List.getElem?_eq_getElem h]; rfl

/-- A certificate proves the stable sort alone. -/
theorem proves_only {l t : RL} {p : List Int} (h : provesB l t p = true) : t = srtR l := by
  unfold provesB at h
  simp only [Bool.and_eq_true, decide_eq_true_eq] at h
  obtain ⟨⟨⟨h1, h2⟩, h3⟩, h4⟩ := h
  have hat : ∀ i, i < p.length → t.getD i (0, 0) = l.getD (p.getD i 0).toNat (0, 0) ∧ (0 < i → outOf t p (i - 1) = false) := fun i hi => by
    have := allIx_at h4 hi
    unfold proofAt at this
    simp only [Bool.and_eq_true, decide_eq_true_eq, Bool.or_eq_true, Bool.not_eq_true'] at this
    refine ⟨this.1, fun h0 => ?_⟩
    rcases this.2 with h | h
    · omega
    · exact h
  have hnd := perm_nodup h3
  have ht : t = p.map fun i => l.getD i.toNat (0, 0) := by
    refine List.ext_getElem (by simp; omega) fun i hi1 hi2 => ?_
    have hi : i < p.length := by omega
    have e1 := (hat i hi).1
    have e2 := getD_map_getD l p hi
    rw [List.getD_eq_getElem?_getD, List.getElem?_eq_getElem hi1] at e1
    rw [List.getD_eq_getElem?_getD, List.getElem?_eq_getElem hi2] at e2
    exact e1.trans e2.symm
  have hlex : p.Pairwise (Lex (keysL l)) := by
    refine pair_adj (R := Lex (keysL l)) (fun a b c h k => lex_trans h k) fun i hi => ?_
    have ho := (hat (i + 1) hi).2 (by omega)
    have e0 := (hat i (by omega)).1
    have e1 := (hat (i + 1) hi).1
    rw [Nat.add_sub_cancel] at ho
    unfold outOf at ho
    simp only [Bool.or_eq_false_iff, decide_eq_false_iff_not, Bool.and_eq_false_iff] at ho
    rw [e0, e1] at ho
    have hne : p.getD i 0 ≠ p.getD (i + 1) 0 := fun e => by
      rw [List.getD_eq_getElem?_getD, List.getElem?_eq_getElem (by omega), List.getD_eq_getElem?_getD, List.getElem?_eq_getElem hi] at e
      exact (List.pairwise_iff_getElem.1 hnd) i (i + 1) (by omega) hi (by omega) e
    unfold Lex
    rw [keyAt_keys, keyAt_keys]
    omega
  have hperm : p.Perm (sortP (keysL l)) := by
    refine nodup_sub_perm hnd (sortP_nodup _) (fun x hx => ?_) (by rw [sortP_len, keysL_len]; omega)
    obtain ⟨k, hk, rfl⟩ := List.getElem_of_mem hx
    have := okPerm_at h3 hk
    rw [List.getD_eq_getElem?_getD, List.getElem?_eq_getElem hk, Option.getD_some] at this
    refine sortP_in.2 ?_
    rw [keysL_len]; omega
  have e : p = sortP (keysL l) := hperm.eq_of_pairwise (fun a b _ _ h1 h2 => (lex_asymm h1 h2).elim) hlex (sortP_lex _)
  rw [ht, e]
  exact sortP_keys l

/-- The positions behind the stable sort prove it. -/
theorem proves_srt {l : RL} (h : l.length ≤ 64) : okPerm (sortP (keysL l)) = true ∧ provesB l (srtR l) (sortP (keysL l)) = true := by
  have hlen : (sortP (keysL l)).length = l.length := by rw [sortP_len, keysL_len]
  have hperm : okPerm (sortP (keysL l)) = true := by
    unfold okPerm
    rw [Bool.and_eq_true]
    refine ⟨decide_eq_true (by omega), allIx_yes fun k hk => ?_⟩
    have hm := sortP_in.1 (List.getElem_mem hk)
    rw [keysL_len] at hm
    have hg : (sortP (keysL l)).getD k 0 = (sortP (keysL l))[k] := by rw [List.getD_eq_getElem?_getD, List.getElem?_eq_getElem hk]; rfl
    unfold permOk
    rw [hg]
    simp only [Bool.and_eq_true, Bool.not_eq_true', decide_eq_false_iff_not, inB, decide_eq_true_eq]
    refine ⟨by omega, fun hm2 => ?_⟩
    obtain ⟨i, hi, e⟩ := List.mem_take_iff_getElem.1 hm2
    exact (List.pairwise_iff_getElem.1 (sortP_nodup (keysL l))) i k (by omega) hk (by omega) e
  refine ⟨hperm, ?_⟩
  unfold provesB
  simp only [Bool.and_eq_true, decide_eq_true_eq]
  refine ⟨⟨⟨(srtR_len l).symm, hlen⟩, hperm⟩, allIx_yes fun i hi => ?_⟩
  have hs : ∀ i, i < l.length → (srtR l).getD i (0, 0) = l.getD ((sortP (keysL l)).getD i 0).toNat (0, 0) := fun i hi => by
    have := getD_map_getD l (sortP (keysL l)) (i := i) (by omega)
    rw [sortP_keys] at this
    exact this
  unfold proofAt
  rw [Bool.and_eq_true]
  refine ⟨decide_eq_true (hs i (by omega)), ?_⟩
  by_cases h0 : i = 0
  · rw [decide_eq_true h0]; rfl
  · have hl := (List.pairwise_iff_getElem.1 (sortP_lex (keysL l))) (i - 1) i (by omega) hi (by omega)
    have g1 : (sortP (keysL l)).getD (i - 1) 0 = (sortP (keysL l))[i - 1]'(by omega) := by rw [List.getD_eq_getElem?_getD, List.getElem?_eq_getElem (by omega)]; rfl
    have g2 : (sortP (keysL l)).getD i 0 = (sortP (keysL l))[i] := by rw [List.getD_eq_getElem?_getD, List.getElem?_eq_getElem hi]; rfl
    unfold Lex at hl
    rw [keyAt_keys, keyAt_keys, ← g1, ← g2, ← hs (i - 1) (by omega), ← hs i (by omega)] at hl
    have ho : outOf (srtR l) (sortP (keysL l)) (i - 1) = false := by
      unfold outOf
      rw [Nat.sub_add_cancel (by omega)]
      simp only [Bool.or_eq_false_iff, decide_eq_false_iff_not, Bool.and_eq_false_iff]
      omega
    rw [ho, decide_eq_false h0]; rfl

end Go.Proofs.YtoebegdepnigbaaGreatDoor

/- Plain law on texts: cutting at a byte; numerals; a log's lines and what is read off them. No program in sight. -/
namespace Go.Proofs.YtoebegdepnigbaaGreatDoor.Tx
set_option linter.unusedVariables false

def upto (c : UInt8) (s : List UInt8) : List UInt8 := s.takeWhile (· != c)
def past (c : UInt8) (s : List UInt8) : List UInt8 := (s.dropWhile (· != c)).drop 1

theorem upto_none {c : UInt8} {s : List UInt8} (h : c ∉ s) : upto c s = s := by
  induction s with
  | nil => rfl
  | cons x t ih =>
    have hx : x ≠ c := fun e => h (by simp [e])
    have := ih (fun m => h (List.mem_cons_of_mem _ m))
    unfold upto at *
    simp [hx]; exact this

theorem past_none {c : UInt8} {s : List UInt8} (h : c ∉ s) : past c s = [] := by
  induction s with
  | nil => rfl
  | cons x t ih =>
    have hx : x ≠ c := fun e => h (by simp [e])
    have := ih (fun m => h (List.mem_cons_of_mem _ m))
    unfold past at *
    simp [hx]; simpa using this

theorem upto_app {c : UInt8} {a : List UInt8} (b : List UInt8) (h : c ∉ a) : upto c (a ++ c :: b) = a := by
  induction a with
  | nil => simp [upto]
  | cons x t ih =>
    have hx : x ≠ c := fun e => h (by simp [e])
    have := ih (fun m => h (List.mem_cons_of_mem _ m))
    unfold upto at *
    simp [hx]; exact this

theorem past_app {c : UInt8} {a : List UInt8} (b : List UInt8) (h : c ∉ a) : past c (a ++ c :: b) = b := by
  induction a with
  | nil => simp [past]
  | cons x t ih =>
    have hx : x ≠ c := fun e => h (by simp [e])
    have := ih (fun m => h (List.mem_cons_of_mem _ m))
    unfold past at *
    simp [hx]; simpa using this

theorem parts {c : UInt8} {s : List UInt8} (h : c ∈ s) : ∃ a b, s = a ++ c :: b ∧ c ∉ a := by
  induction s with
  | nil => simp at h
  | cons x t ih =>
    by_cases e : x = c
    · subst e; exact ⟨[], t, rfl, by simp⟩
    · have ht : c ∈ t := by
        rcases List.mem_cons.1 h with h | h
        · exact absurd h.symm e
        · exact h
      obtain ⟨a, b, rfl, hn⟩ := ih ht
      exact ⟨x :: a, b, rfl, by simp [hn, Ne.symm e]⟩

theorem upto_past {c : UInt8} {s : List UInt8} (h : c ∈ s) : s = upto c s ++ c :: past c s := by
  obtain ⟨a, b, rfl, hn⟩ := parts h
  rw [upto_app b hn, past_app b hn]

theorem upto_not (c : UInt8) (s : List UInt8) : c ∉ upto c s := by
  by_cases h : c ∈ s
  · obtain ⟨a, b, rfl, hn⟩ := parts h
    rw [upto_app b hn]; exact hn
  · rw [upto_none h]; exact h

theorem upto_len (c : UInt8) (s : List UInt8) : (upto c s).length ≤ s.length := by
  unfold upto; exact (List.takeWhile_sublist _).length_le

theorem upto_lt {c : UInt8} {s : List UInt8} (h : c ∈ s) : (upto c s).length < s.length := by
  obtain ⟨a, b, rfl, hn⟩ := parts h
  rw [upto_app b hn]; simp

theorem past_drop (c : UInt8) (s : List UInt8) : past c s = s.drop ((upto c s).length + 1) := by
  by_cases h : c ∈ s
  · obtain ⟨a, b, rfl, hn⟩ := parts h
    rw [upto_app b hn, past_app b hn]
    rw [List.drop_append, List.drop_of_length_le (by omega)]
    simp
  · rw [past_none h, upto_none h, List.drop_of_length_le (by omega)]

theorem indexByte_in {c : UInt8} {a : List UInt8} (b : List UInt8) (h : c ∉ a) : Lib.indexByte (a ++ c :: b) c = a.length := by
  induction a with
  | nil => simp [Lib.indexByte]
  | cons x t ih =>
    have hx : x ≠ c := fun e => h (by simp [e])
    have := ih (fun m => h (List.mem_cons_of_mem _ m))
    simp only [List.cons_append, Lib.indexByte]
    rw [this]
    have e1 : (x == c) = false := by simpa using hx
    have e2 : (((t.length : Nat) : Int) == -1) = false := by rw [beq_eq_false_iff_ne]; omega
    rw [e1, e2]; simp

theorem indexByte_out {c : UInt8} {s : List UInt8} (h : c ∉ s) : Lib.indexByte s c = -1 := by
  induction s with
  | nil => rfl
  | cons x t ih =>
    have hx : x ≠ c := fun e => h (by simp [e])
    have := ih (fun m => h (List.mem_cons_of_mem _ m))
    simp only [Lib.indexByte]
    rw [this]
    have e1 : (x == c) = false := by simpa using hx
    rw [e1]; rfl

theorem indexByte_mem (c : UInt8) (s : List UInt8) : decide (0 ≤ Lib.indexByte s c) = decide (c ∈ s) := by
  by_cases h : c ∈ s
  · obtain ⟨a, b, rfl, hn⟩ := parts h
    rw [indexByte_in b hn]; simp
  · rw [indexByte_out h]; simp [h]

theorem contains_one (c : UInt8) (s : List UInt8) : Lib.contains s [c] = decide (c ∈ s) := by
  unfold Lib.contains
  rw [Lib.index_one, indexByte_mem]

theorem cut_one (c : UInt8) (s : List UInt8) : Lib.cut s [c] = (upto c s, past c s, decide (c ∈ s)) := by
  unfold Lib.cut
  rw [Lib.index_one]
  by_cases h : c ∈ s
  · obtain ⟨a, b, rfl, hn⟩ := parts h
    rw [indexByte_in b hn, upto_app b hn, past_app b hn, if_pos (by omega)]
    simp
  · rw [indexByte_out h, upto_none h, past_none h, if_neg (by omega)]
    simp [h]

theorem indexAny_iff (cs : List UInt8) : ∀ s : List UInt8, 0 ≤ Lib.indexAny s cs ↔ s.any (fun b => cs.contains b) = true := by
  intro s
  induction s with
  | nil => simp [Lib.indexAny]
  | cons x t ih =>
    rw [Lib.indexAny, List.any_cons]
    by_cases hx : cs.contains x = true
    · rw [if_pos hx, hx]; simp
    · have hx' : cs.contains x = false := by simpa using hx
      rw [if_neg hx, hx', Bool.false_or, ← ih]
      have := Lib.indexAny_ge cs t
      by_cases e : Lib.indexAny t cs = -1
      · rw [e]; decide
      · have e2 : (Lib.indexAny t cs == -1) = false := by simpa using e
        rw [e2]
        rw [if_neg (by simp)]
        omega

theorem containsAny_mem (s : List UInt8) (cs : List UInt8) : Lib.containsAny s cs = s.any (fun b => cs.contains b) := by
  rw [Bool.eq_iff_iff, ← indexAny_iff cs s, Lib.containsAny, decide_eq_true_eq]

/-! ### numerals -/
theorem digits_range (u : Nat) : ∀ b ∈ Lib.decDigits u, 48 ≤ b.toNat ∧ b.toNat ≤ 57 := by
  induction u using Nat.strongRecOn with
  | _ u ih =>
    intro b hb
    rw [Lib.decDigits] at hb
    split at hb
    · rename_i h
      simp only [List.mem_singleton] at hb
      subst hb
      rw [UInt8.toNat_ofNat']; omega
    · rename_i h
      rcases List.mem_append.1 hb with hb | hb
      · exact ih (u / 10) (by omega) b hb
      · simp only [List.mem_singleton] at hb
        subst hb
        rw [UInt8.toNat_ofNat']; omega

theorem digits_len (n : Nat) : ∀ u, u < 10 ^ (n + 1) → (Lib.decDigits u).length ≤ n + 1 := by
  induction n with
  | zero =>
    intro u h
    rw [Lib.decDigits, dif_pos (by simpa using h)]; simp
  | succ n ih =>
    intro u h
    rw [Lib.decDigits]
    split
    · simp
    · have := ih (u / 10) (by rw [Nat.div_lt_iff_lt_mul (by omega)]; rw [Nat.pow_succ] at h; exact h)
      simp; omega

theorem digits_pos (u : Nat) : 1 ≤ (Lib.decDigits u).length := by
  rw [Lib.decDigits]; split <;> simp

theorem digits_not (u : Nat) (c : UInt8) (h : c.toNat < 48 ∨ 57 < c.toNat) : c ∉ Lib.decDigits u := by
  intro m
  have := digits_range u c m
  omega

/-! ### records -/
abbrev Rec := List UInt8 × List UInt8
def prn (b : UInt8) : Bool := decide (32 ≤ b.toNat) && decide (b.toNat ≤ 126)
def okCmd (s : List UInt8) : Bool := decide (1 ≤ s.length) && decide (s.length ≤ 90) && s.all (fun b => prn b && b != 35 && b != 62)
def okRep (s : List UInt8) : Bool := decide (s.length ≤ 200) && s.all (fun b => prn b && b != 35)
def okE (e : Rec) : Bool := okCmd e.1 && okRep e.2

def sumStep (h : Nat) (b : UInt8) : Nat := (41 * h + b.toNat + 1) % 999979
def sumL (s : List UInt8) : Nat := s.foldl sumStep 7
theorem sumL_lt (s : List UInt8) : sumL s < 999979 := by
  unfold sumL
  have : ∀ (s : List UInt8) h, h < 999979 → s.foldl sumStep h < 999979 := by
    intro s
    induction s with
    | nil => intro h hh; exact hh
    | cons b t ih => intro h hh; exact ih _ (Nat.mod_lt _ (by omega))
  exact this s 7 (by omega)

def sealL (s : List UInt8) : List UInt8 := s ++ 35 :: Lib.decDigits (sumL s)
def body (k : Nat) (e : Rec) : List UInt8 := Lib.decDigits k ++ 32 :: (e.1 ++ 62 :: e.2)
def lineE (k : Nat) (e : Rec) : List UInt8 := sealL (body k e)

theorem okE_parts {e : Rec} (h : okE e = true) : (1 ≤ e.1.length ∧ e.1.length ≤ 90 ∧ (∀ b ∈ e.1, prn b = true ∧ b ≠ 35 ∧ b ≠ 62)) ∧ (e.2.length ≤ 200 ∧ ∀ b ∈ e.2, prn b = true ∧ b ≠ 35) := by
  simp only [okE, okCmd, okRep, Bool.and_eq_true, decide_eq_true_eq, List.all_eq_true, bne_iff_ne] at h
  exact ⟨⟨h.1.1.1, h.1.1.2, fun b hb => ⟨(h.1.2 b hb).1.1, (h.1.2 b hb).1.2, (h.1.2 b hb).2⟩⟩, h.2.1, fun b hb => h.2.2 b hb⟩

theorem body_no35 {k : Nat} {e : Rec} (h : okE e = true) : (35 : UInt8) ∉ body k e := by
  obtain ⟨⟨_, _, hc⟩, _, hr⟩ := okE_parts h
  unfold body
  intro m
  simp only [List.mem_append, List.mem_cons] at m
  rcases m with m | m | m | m | m
  · exact digits_not k 35 (by decide) m
  · exact absurd m (by decide)
  · exact (hc _ m).2.1 rfl
  · exact absurd m (by decide)
  · exact (hr _ m).2 rfl

theorem body_len {k : Nat} (hk : k < 100) {e : Rec} (h : okE e = true) : (body k e).length ≤ 294 := by
  obtain ⟨⟨_, h1, _⟩, h2, _⟩ := okE_parts h
  have := digits_len 1 k (by omega)
  unfold body; simp; omega

theorem line_len {k : Nat} (hk : k < 100) {e : Rec} (h : okE e = true) : (lineE k e).length ≤ 301 := by
  have h1 := body_len hk h
  have h2 := digits_len 5 (sumL (body k e)) (Nat.lt_trans (sumL_lt _) (by omega))
  unfold lineE sealL; simp; omega

theorem line_no10 {k : Nat} {e : Rec} (h : okE e = true) : (10 : UInt8) ∉ lineE k e := by
  obtain ⟨⟨_, _, hc⟩, _, hr⟩ := okE_parts h
  unfold lineE sealL body
  intro m
  simp only [List.mem_append, List.mem_cons] at m
  have hp : prn 10 = false := by decide
  rcases m with (m | m | m | m | m) | m | m
  · exact digits_not k 10 (by decide) m
  · exact absurd m (by decide)
  · have := (hc _ m).1; rw [hp] at this; cases this
  · exact absurd m (by decide)
  · have := (hr _ m).1; rw [hp] at this; cases this
  · exact absurd m (by decide)
  · exact digits_not _ 10 (by decide) m

/-- What the program reads off a line. -/
def decP (line : List UInt8) : Rec := (upto 62 (past 32 (upto 35 line)), past 62 (past 32 (upto 35 line)))
def dec (k : Nat) (line : List UInt8) : Option Rec := if decide (k < 60) && okE (decP line) && (lineE k (decP line) == line) then some (decP line) else none

theorem decP_line {k : Nat} {e : Rec} (h : okE e = true) : decP (lineE k e) = e := by
  obtain ⟨⟨_, _, hc⟩, _, hr⟩ := okE_parts h
  have h1 : upto 35 (lineE k e) = body k e := by
    unfold lineE sealL; exact upto_app _ (body_no35 h)
  have h2 : past 32 (body k e) = e.1 ++ 62 :: e.2 := by
    unfold body; exact past_app _ (digits_not k 32 (by decide))
  have h3 : (62 : UInt8) ∉ e.1 := fun m => (hc _ m).2.2 rfl
  unfold decP
  rw [h1, h2, upto_app _ h3, past_app _ h3]

theorem dec_iff {k : Nat} {line : List UInt8} {e : Rec} : dec k line = some e ↔ k < 60 ∧ okE e = true ∧ line = lineE k e := by
  unfold dec
  constructor
  · intro h
    split at h
    · rename_i hc
      simp only [Bool.and_eq_true, decide_eq_true_eq, beq_iff_eq] at hc
      injection h with h; subst h
      exact ⟨hc.1.1, hc.1.2, hc.2.symm⟩
    · cases h
  · rintro ⟨hk, ho, rfl⟩
    rw [decP_line ho, if_pos (by simp [hk, ho])]

/-- What the reference reads off a line. -/
def decS (k : Nat) (line : List UInt8) : Option Rec :=
  let ahead := Lib.decDigits k ++ [32]
  let text := upto 35 line
  let rest := text.drop ahead.length
  let ask := upto 62 rest
  if text.take ahead.length = ahead ∧ ahead.length ≤ text.length then
    if ask.length = rest.length then none
    else if okE (ask, rest.drop (ask.length + 1)) && (lineE k (ask, rest.drop (ask.length + 1)) == line) then some (ask, rest.drop (ask.length + 1)) else none
  else none

theorem decS_iff {k : Nat} {line : List UInt8} {e : Rec} : decS k line = some e ↔ okE e = true ∧ line = lineE k e := by
  constructor
  · intro h
    unfold decS at h
    simp only at h
    split at h
    · split at h
      · cases h
      · split at h
        · rename_i hc
          simp only [Bool.and_eq_true, beq_iff_eq] at hc
          injection h with h; subst h
          exact ⟨hc.1, hc.2.symm⟩
        · cases h
    · cases h
  · rintro ⟨ho, rfl⟩
    obtain ⟨⟨_, _, hc⟩, _, hr⟩ := okE_parts ho
    have h1 : upto 35 (lineE k e) = body k e := by
      unfold lineE sealL; exact upto_app _ (body_no35 ho)
    have hb : body k e = (Lib.decDigits k ++ [32]) ++ (e.1 ++ 62 :: e.2) := by unfold body; simp
    have h3 : (62 : UInt8) ∉ e.1 := fun m => (hc _ m).2.2 rfl
    unfold decS
    simp only
    rw [h1, hb, List.take_left, List.drop_left, upto_app _ h3]
    have h4 : (e.1 ++ 62 :: e.2).drop (e.1.length + 1) = e.2 := by
      have := past_drop 62 (e.1 ++ 62 :: e.2)
      rw [upto_app _ h3, past_app _ h3] at this
      exact this.symm
    rw [h4, if_pos ⟨rfl, by simp⟩, if_neg (by simp), if_pos (by simp [ho])]

theorem decS_dec {k : Nat} (hk : k < 60) (line : List UInt8) : decS k line = dec k line := by
  cases h : dec k line with
  | some e =>
    obtain ⟨_, h1, h2⟩ := dec_iff.1 h
    exact decS_iff.2 ⟨h1, h2⟩
  | none =>
    cases h' : decS k line with
    | none => rfl
    | some e =>
      obtain ⟨h1, h2⟩ := decS_iff.1 h'
      rw [dec_iff.2 ⟨hk, h1, h2⟩] at h; cases h

/-! ### a whole text -/
/-- One record at the head of a text: the record, and how many bytes it takes. -/
def step (k : Nat) (s : List UInt8) : Option (Rec × Nat) := if (10 : UInt8) ∈ s then (dec k (upto 10 s)).map fun e => (e, (upto 10 s).length + 1) else none

theorem step_iff {k : Nat} {s : List UInt8} {e : Rec} {l : Nat} : step k s = some (e, l) ↔ k < 60 ∧ okE e = true ∧ l = (lineE k e).length + 1 ∧ ∃ t, s = lineE k e ++ 10 :: t := by
  unfold step
  constructor
  · intro h
    split at h
    · rename_i hm
      rw [Option.map_eq_some_iff] at h
      obtain ⟨e', hd, he⟩ := h
      injection he with h1 h2
      subst h1
      obtain ⟨hk, ho, hl⟩ := dec_iff.1 hd
      refine ⟨hk, ho, by rw [← h2, hl], past 10 s, ?_⟩
      rw [← hl]; exact upto_past hm
    · cases h
  · rintro ⟨hk, ho, rfl, t, rfl⟩
    have hn := line_no10 (k := k) ho
    rw [if_pos (by simp), upto_app _ hn, dec_iff.2 ⟨hk, ho, rfl⟩]; rfl

/-- What is read off a text, from record k = 60 - n on: the records and their lengths. -/
def rd : Nat → List UInt8 → List (Rec × Nat)
  | 0, _ => []
  | n + 1, s => match step (59 - n) s with
    | none => []
    | some (e, l) => (e, l) :: rd n (s.drop l)

def recsOf (s : List UInt8) : List Rec := (rd 60 s).map (·.1)
def total (r : List (Rec × Nat)) : Nat := (r.map (·.2)).sum
def ends (r : List (Rec × Nat)) : List Nat := (List.range r.length).map fun i => total (r.take (i + 1))
def endOf (s : List UInt8) : Nat := total (rd 60 s)

theorem rd_len (n : Nat) : ∀ s, (rd n s).length ≤ n := by
  induction n with
  | zero => intro s; simp [rd]
  | succ n ih =>
    intro s
    rw [rd]
    split
    · simp
    · have := ih (s.drop (by assumption)); simp; omega

theorem rd_total (n : Nat) : ∀ s, total (rd n s) ≤ s.length ∧ total (rd n s) ≤ 302 * n := by
  induction n with
  | zero => intro s; simp [rd, total]
  | succ n ih =>
    intro s
    rw [rd]
    split
    · simp [total]
    · rename_i e l hs
      obtain ⟨hk, ho, hl, t, ht⟩ := step_iff.1 hs
      have h1 := ih (s.drop l)
      have h2 := line_len (show 59 - n < 100 by omega) ho
      have h3 : l ≤ s.length := by rw [ht]; simp; omega
      have e1 : total ((e, l) :: rd n (s.drop l)) = l + total (rd n (s.drop l)) := by simp [total]
      rw [e1]
      rw [List.length_drop] at h1
      constructor
      · omega
      · have : 302 * (n + 1) = 302 * n + 302 := by omega
        omega

theorem total_cons (x : Rec × Nat) (r : List (Rec × Nat)) : total (x :: r) = x.2 + total r := by simp [total]
theorem total_nil : total [] = 0 := rfl
theorem total_append (a b : List (Rec × Nat)) : total (a ++ b) = total a + total b := by simp [total]

/-- A text that is read to its end, and another behind it. -/
theorem step_app {k : Nat} {d : List UInt8} (p : List UInt8) {x : Rec × Nat} (h : step k d = some x) : step k (d ++ p) = some x := by
  obtain ⟨e, l⟩ := x
  obtain ⟨hk, ho, hl, t, rfl⟩ := step_iff.1 h
  exact step_iff.2 ⟨hk, ho, hl, t ++ p, by simp⟩

theorem step_cut {k : Nat} {d p : List UInt8} {e : Rec} {l : Nat} (h : step k (d ++ p) = some (e, l)) (hl : l ≤ d.length) : step k d = some (e, l) := by
  obtain ⟨hk, ho, rfl, t, ht⟩ := step_iff.1 h
  refine step_iff.2 ⟨hk, ho, rfl, d.drop ((lineE k e).length + 1), ?_⟩
  have h1 : d.take ((lineE k e).length + 1) = lineE k e ++ [10] := by
    have h2 : (d ++ p).take ((lineE k e).length + 1) = lineE k e ++ [10] := by
      rw [ht, List.take_append, List.take_of_length_le (by omega)]
      simp
    rw [List.take_append_of_le_length hl] at h2
    exact h2
  have h3 := List.take_append_drop ((lineE k e).length + 1) d
  rw [h1] at h3
  rw [← h3]
  simp

/-- Where records end, the beginning included. -/
def Starts (r : List (Rec × Nat)) (x : Nat) : Prop := ∃ j, j ≤ r.length ∧ total (r.take j) = x

theorem starts_nil {x : Nat} : Starts [] x ↔ x = 0 := by
  constructor
  · rintro ⟨j, hj, h⟩; simp [total] at h; exact h.symm
  · rintro rfl; exact ⟨0, by simp, rfl⟩
theorem starts_cons {y : Rec × Nat} {r : List (Rec × Nat)} {x : Nat} : Starts (y :: r) x ↔ x = 0 ∨ ∃ z, Starts r z ∧ x = y.2 + z := by
  constructor
  · rintro ⟨j, hj, h⟩
    cases j with
    | zero => left; simpa [total] using h.symm
    | succ j =>
      right
      exact ⟨total (r.take j), ⟨j, by simpa using hj, rfl⟩, by rw [← h, List.take_succ_cons, total_cons]⟩
  · rintro (rfl | ⟨z, ⟨j, hj, rfl⟩, rfl⟩)
    · exact ⟨0, by simp, rfl⟩
    · exact ⟨j + 1, by simpa using hj, by rw [List.take_succ_cons, total_cons]⟩

theorem whole_starts (n : Nat) : ∀ (d p : List UInt8), total (rd n d) = d.length → Starts (rd n (d ++ p)) d.length := by
  induction n with
  | zero => intro d p h; rw [rd] at h ⊢; rw [starts_nil]; simpa [total] using h.symm
  | succ n ih =>
    intro d p h
    rw [rd] at h
    split at h
    · exact ⟨0, by omega, by simpa [total] using h⟩
    · rename_i e l hs
      obtain ⟨_, _, hl, t, ht⟩ := step_iff.1 hs
      have hle : l ≤ d.length := by rw [ht, hl]; simp
      rw [total_cons] at h
      have h2 := ih (d.drop l) p (by rw [List.length_drop]; omega)
      rw [rd, step_app p hs]
      simp only
      rw [List.drop_append_of_le_length hle, starts_cons]
      exact .inr ⟨(d.drop l).length, h2, by rw [List.length_drop]; simp only; omega⟩

theorem starts_whole (n : Nat) : ∀ (d p : List UInt8), Starts (rd n (d ++ p)) d.length → total (rd n d) = d.length := by
  induction n with
  | zero => intro d p h; rw [rd, starts_nil] at h; simp [rd, total, h]
  | succ n ih =>
    intro d p h
    rw [rd] at h
    split at h
    · rw [starts_nil] at h
      have : d = [] := List.eq_nil_of_length_eq_zero h
      subst this
      rw [rd]
      have : step (59 - n) [] = none := by simp [step]
      rw [this]; rfl
    · rename_i e l hs
      rcases starts_cons.1 h with h0 | ⟨z, hz, h0⟩
      · have : d = [] := List.eq_nil_of_length_eq_zero h0
        subst this
        rw [rd]
        have : step (59 - n) [] = none := by simp [step]
        rw [this]; rfl
      · simp only at h0
        have hle : l ≤ d.length := by omega
        have hd := step_cut hs hle
        rw [List.drop_append_of_le_length hle] at hz
        have h2 := ih (d.drop l) p (by rw [List.length_drop]; rw [show d.length - l = z by omega]; exact hz)
        rw [rd, hd]
        simp only
        rw [total_cons, h2, List.length_drop]; simp only; omega

def startsL (r : List (Rec × Nat)) : List Nat := (List.range (r.length + 1)).map fun j => total (r.take j)
theorem mem_startsL {r : List (Rec × Nat)} {x : Nat} : x ∈ startsL r ↔ Starts r x := by
  unfold startsL Starts
  simp only [List.mem_map, List.mem_range, Nat.lt_succ_iff]

/-- A log, as the program says it and as the reference does. -/
structure LogV where
  dur : List UInt8
  pen : List UInt8
  cnt : Int

def okLog (l : LogV) : Bool := decide (l.dur.length ∈ startsL (rd 60 (l.dur ++ l.pen))) && decide (endOf (l.dur ++ l.pen) = (l.dur ++ l.pen).length) && decide (l.cnt = ((recsOf (l.dur ++ l.pen)).length : Int))
def okLogS (l : LogV) : Bool := decide (l.dur.length + l.pen.length ≤ 30000) && (decide (endOf (l.dur ++ l.pen) = l.dur.length + l.pen.length) && decide (endOf l.dur = l.dur.length) && decide (((recsOf (l.dur ++ l.pen)).length : Int) = l.cnt))

theorem okLogS_eq (l : LogV) : okLogS l = okLog l := by
  rw [Bool.eq_iff_iff]
  unfold okLogS okLog
  simp only [Bool.and_eq_true, decide_eq_true_eq, List.length_append, mem_startsL]
  constructor
  · rintro ⟨_, ⟨h1, h2⟩, h3⟩
    exact ⟨⟨whole_starts 60 _ _ h2, h1⟩, h3.symm⟩
  · rintro ⟨⟨h1, h2⟩, h3⟩
    have := (rd_total 60 (l.dur ++ l.pen)).2
    unfold endOf at *
    exact ⟨by omega, ⟨h2, starts_whole 60 _ _ h1⟩, h3.symm⟩

theorem okLog_parts {l : LogV} (h : okLog l = true) : endOf (l.dur ++ l.pen) = l.dur.length + l.pen.length ∧ endOf l.dur = l.dur.length ∧ l.cnt = ((recsOf (l.dur ++ l.pen)).length : Int) ∧ l.dur.length + l.pen.length ≤ 30000 := by
  rw [← okLogS_eq] at h
  unfold okLogS at h
  simp only [Bool.and_eq_true, decide_eq_true_eq] at h
  exact ⟨h.2.1.1, h.2.1.2, h.2.2.symm, h.1⟩

theorem recs_le (s : List UInt8) : (recsOf s).length ≤ 60 := by unfold recsOf; rw [List.length_map]; exact rd_len 60 s

/-- What is read off what was read. -/
theorem rd_self (n : Nat) : ∀ s : List UInt8, rd n (s.take (total (rd n s))) = rd n s := by
  induction n with
  | zero => intro s; rfl
  | succ n ih =>
    intro s
    cases hs : step (59 - n) s with
    | none =>
      have h0 : rd (n + 1) s = [] := by rw [rd, hs]
      rw [h0]
      simp only [total_nil, List.take_zero]
      rw [rd]
      have : step (59 - n) [] = none := by simp [step]
      rw [this]
    | some x =>
      obtain ⟨e, l⟩ := x
      have h1 : rd (n + 1) s = (e, l) :: rd n (s.drop l) := by rw [rd, hs]
      obtain ⟨_, _, hl, t, ht⟩ := step_iff.1 hs
      have hle : l ≤ s.length := by rw [ht, hl]; simp
      have h2 := ih (s.drop l)
      have h3 := (rd_total n (s.drop l)).1
      rw [List.length_drop] at h3
      rw [h1, total_cons]
      simp only
      have h4 : s = s.take (l + total (rd n (s.drop l))) ++ s.drop (l + total (rd n (s.drop l))) := (List.take_append_drop _ _).symm
      have h5 : step (59 - n) (s.take (l + total (rd n (s.drop l)))) = some (e, l) := by
        have hs' := hs
        rw [h4] at hs'
        exact step_cut hs' (by rw [List.length_take]; omega)
      rw [rd, h5]
      simp only
      rw [show (s.take (l + total (rd n (s.drop l)))).drop l = (s.drop l).take (total (rd n (s.drop l))) by rw [List.drop_take]; congr 1; omega]
      rw [h2]

theorem ok_read (s : List UInt8) : okLog ⟨s.take (endOf s), [], ((recsOf s).length : Int)⟩ = true := by
  have h1 := rd_self 60 s
  have h2 := (rd_total 60 s).1
  rw [← okLogS_eq]
  unfold okLogS
  have h3 := (rd_total 60 s).2
  unfold endOf recsOf at *
  simp only [List.append_nil, List.length_nil, Nat.add_zero, h1, List.length_take, Bool.and_eq_true, decide_eq_true_eq]
  refine ⟨by omega, ⟨by omega, by omega⟩, trivial⟩

end Go.Proofs.YtoebegdepnigbaaGreatDoor.Tx

/- Walks on texts: printable bytes, bytes that stand in a text, records, checksums. -/
namespace Go.Proofs.YtoebegdepnigbaaGreatDoor
open Go.RowKit
set_option linter.unusedVariables false

def bs (s : ByteArray) : List UInt8 := s.data.toList
theorem bs_len (s : ByteArray) : (bs s).length = s.size := by unfold bs; rw [Array.length_toList]; rfl
theorem bs_take (s : ByteArray) (k : Nat) (h : k < s.size) : (bs s).take (k + 1) = (bs s).take k ++ [s[k]] := by
  rw [List.take_succ_eq_append_getElem (by rw [bs_len]; exact h)]; rfl
theorem bs_all (s : ByteArray) : (bs s).take s.size = bs s := by rw [← bs_len, List.take_length]
theorem bs_mk (l : List UInt8) : bs ⟨l.toArray⟩ = l := rfl
theorem bs_add (a b : ByteArray) : bs (a ++ b) = bs a ++ bs b := by unfold bs; rw [ByteArray.data_append]; simp
theorem bs_toList (s : ByteArray) : s.toList = bs s := ByteArray.toList_eq s

theorem all_no {s : ByteArray} {p : UInt8 → Bool} {k : Nat} (hk : k < s.size) (h : p s[k] = false) : (bs s).all p = false := by
  rw [List.all_eq_false]
  refine ⟨s[k], ?_, by simp [h]⟩
  have : (bs s)[k]'(by rw [bs_len]; exact hk) = s[k] := rfl
  rw [← this]; exact List.getElem_mem _
theorem all_yes {s : ByteArray} {p : UInt8 → Bool} {k : Nat} (hk : ¬ k < s.size) (hle : k ≤ s.size) (h : ((bs s).take k).all p = true) : (bs s).all p = true := by
  obtain rfl : k = s.size := by omega
  rwa [bs_all] at h
theorem all_next {s : ByteArray} {p : UInt8 → Bool} {k : Nat} (hk : k < s.size) (h : ((bs s).take k).all p = true) (h2 : p s[k] = true) : ((bs s).take (k + 1)).all p = true := by
  rw [bs_take s k hk, List.all_append, h]; simp [h2]

def plB (b : UInt8) : Bool := Tx.prn b && b != 35

theorem ret_str {a b : ByteArray} (h : a = b) : Ending.returned (.string a) = .returned (.string b) := by rw [h]

theorem below_drewN' {B : Nat} {w : World} {n : Nat} : Below B w (w.drewN n) := below_drewN (Below.refl _ _) n

theorem ba_eq {a b : ByteArray} (h : bs a = bs b) : a = b := by
  ext1; apply Array.ext'; exact h

/-- A text that an operation has made, its bytes told. -/
theorem add_runs {P : Program} {a b : ByteArray} (ha : a.size ≤ 4000000000000000000) (hb : b.size ≤ 4000000000000000000) : ∀ w, (Op.stringOp .add a b).run P w = .ok (.string (a ++ b)) w := fun w => run_string_add_sum w a b (by omega)

theorem size_mk (l : List UInt8) : (ByteArray.mk l.toArray).size = l.length := by
  show l.toArray.size = _
  simp
theorem size_add (a b : ByteArray) : (a ++ b).size = a.size + b.size := ByteArray.size_append


/-- A text of a record, as a struct of two texts. -/
def recV (c r : ByteArray) : Value := .agg #[.string c, .string r]
def recE (c r : ByteArray) : Tx.Rec := (bs c, bs r)

theorem stands_eq {c : UInt8} {l : List UInt8} : (decide (c ∈ l)) = l.any (· == c) := by
  rw [Bool.eq_iff_iff]
  simp

theorem l25Good_eq (c r : ByteArray) : Tx.okE (recE c r) = (!(c.toList == []) && (decide ((c.size : Int) ≤ 90) && (bs c).all plB) && !decide ((62 : UInt8) ∈ bs c) && (decide ((r.size : Int) ≤ 200) && (bs r).all plB)) := by
  rw [Bool.eq_iff_iff]
  simp only [Tx.okE, Tx.okCmd, Tx.okRep, recE, bs_toList, Bool.and_eq_true, decide_eq_true_eq, List.all_eq_true, bne_iff_ne, Bool.not_eq_true', beq_eq_false_iff_ne, decide_eq_false_iff_not, plB, bs_len]
  constructor
  · rintro ⟨⟨⟨h1, h2⟩, h3⟩, h4, h5⟩
    refine ⟨⟨⟨fun e => ?_, by omega, fun b hb => ⟨(h3 b hb).1.1, (h3 b hb).1.2⟩⟩, fun hm => (h3 _ hm).2 rfl⟩, by omega, h5⟩
    have : c.size = 0 := by rw [← bs_len, e]; rfl
    omega
  · rintro ⟨⟨⟨h1, h2, h3⟩, h4⟩, h5, h6⟩
    refine ⟨⟨⟨?_, by omega⟩, fun b hb => ⟨h3 b hb, fun e => h4 (e ▸ hb)⟩⟩, by omega, h6⟩
    have : (bs c).length ≠ 0 := fun e => h1 (List.eq_nil_of_length_eq_zero e)
    rw [bs_len] at this
    omega

end Go.Proofs.YtoebegdepnigbaaGreatDoor

/- Walks on texts: numerals by the reference, checksums. -/
namespace Go.Proofs.YtoebegdepnigbaaGreatDoor
open Go.RowKit
set_option linter.unusedVariables false

theorem sumL_next {s : ByteArray} {k : Nat} (hk : k < s.size) : Tx.sumL ((bs s).take (k + 1)) = (41 * Tx.sumL ((bs s).take k) + s[k].toNat + 1) % 999979 := by
  rw [bs_take s k hk]; simp [Tx.sumL, List.foldl_append, Tx.sumStep]

def digs : ByteArray := ⟨#[48, 49, 50, 51, 52, 53, 54, 55, 56, 57]⟩
theorem dig_one : ∀ k : Nat, k < 10 → digs.extract k (k + 1) = ⟨#[UInt8.ofNat (48 + k)]⟩ := by decide
theorem num_small {n : Int} (h0 : 0 ≤ n) (h : n < 10) : (ByteArray.mk (Lib.decDigits n.toNat).toArray) = digs.extract n.toNat (n.toNat + 1) := by
  rw [dig_one _ (by omega), Lib.decDigits, dif_pos (by omega)]
theorem num_big {n : Int} (h : 10 ≤ n) : (ByteArray.mk (Lib.decDigits n.toNat).toArray) = ⟨(Lib.decDigits (n / 10).toNat).toArray⟩ ++ digs.extract (n % 10).toNat ((n % 10).toNat + 1) := by
  rw [dig_one _ (by omega), Lib.decDigits, dif_neg (by omega)]
  have e1 : n.toNat / 10 = (n / 10).toNat := by omega
  have e2 : n.toNat % 10 = (n % 10).toNat := by omega
  rw [e1, e2]
  ext1
  simp [ByteArray.data_append]

end Go.Proofs.YtoebegdepnigbaaGreatDoor

/- Walks on texts: the program's record check, checksums, encodings. -/
namespace Go.Proofs.YtoebegdepnigbaaGreatDoor
open Go.RowKit
set_option linter.unusedVariables false

theorem okRec_eq (c r : ByteArray) : Tx.okE (recE c r) = (inB (c.size : Int) 1 90 && (bs c).all Tx.prn && !(Lib.containsAny (bs c) [35, 62]) && decide ((r.size : Int) ≤ 200) && (bs r).all Tx.prn && !decide ((35 : UInt8) ∈ bs r)) := by
  rw [Bool.eq_iff_iff, Tx.containsAny_mem]
  simp only [Tx.okE, Tx.okCmd, Tx.okRep, recE, Bool.and_eq_true, decide_eq_true_eq, List.all_eq_true, bne_iff_ne, Bool.not_eq_true', decide_eq_false_iff_not, bs_len, inB_iff, List.any_eq_false]
  constructor
  · rintro ⟨⟨⟨h1, h2⟩, h3⟩, h4, h5⟩
    refine ⟨⟨⟨⟨⟨by omega, fun b hb => (h3 b hb).1.1⟩, fun b hb => ?_⟩, by omega⟩, fun b hb => (h5 b hb).1⟩, fun hm => (h5 _ hm).2 rfl⟩
    have := h3 b hb
    simp; exact ⟨this.1.2, this.2⟩
  · rintro ⟨⟨⟨⟨⟨h1, h2⟩, h3⟩, h4⟩, h5⟩, h6⟩
    refine ⟨⟨by omega, fun b hb => ?_⟩, by omega, fun b hb => ⟨h5 b hb, fun e => h6 (e ▸ hb)⟩⟩
    have := h3 b hb
    simp at this
    exact ⟨⟨h2 b hb, this.1⟩, this.2⟩

theorem bcell {W w1 : World} {B : Nat} (hb : Below B W w1) {b o : Nat} (h : b < B) : w1.cell? ⟨b, o, none⟩ = W.cell? ⟨b, o, none⟩ := hb.cell (p := ⟨b, o, none⟩) h
theorem alloc_cell {w : World} {cs : Array Value} {t : TypeId} (o : Nat) : (w.alloc (.cells cs t)).cell? ⟨w.heap.size, o, none⟩ = cs[o]? := by rw [World.cell?_alloc_at _ _ _ _ rfl]

end Go.Proofs.YtoebegdepnigbaaGreatDoor

/- Walks on texts: the program's checksums and encodings, and the reference's. -/
namespace Go.Proofs.YtoebegdepnigbaaGreatDoor
open Go.RowKit
set_option linter.unusedVariables false

theorem ret_v2 {a b c d : Value} (h : a = b) (k : c = d) : Ending.returned (.tuple #[a, c]) = .returned (.tuple #[b, d]) := by rw [h, k]
theorem ret_v3 {a b c d x y : Value} (h : a = b) (k : c = d) (l : x = y) : Ending.returned (.tuple #[a, c, x]) = .returned (.tuple #[b, d, y]) := by rw [h, k, l]

/-- The table that the library's numerals are read off. -/
def Tab (w : World) : Prop := Lib.TabIs Tryz.prog w "internal/strconv.uint64pow10" .u64 Lib.pow10Tab
theorem Tab.below {w w' : World} (h : Tab w) (hb : Below w.heap.size w w') : Tab w' := by
  unfold Tab Lib.TabIs World.var? at *
  cases hg : Tryz.prog.globalNamed "internal/strconv.uint64pow10" with
  | none => rw [hg] at h; simp at h
  | some g =>
    rw [hg] at h
    simp only [Option.bind_some] at h ⊢
    have hlt : g < w.heap.size := by
      rcases Nat.lt_or_ge g w.heap.size with h1 | h1
      · exact h1
      · rw [Array.getElem?_eq_none h1] at h; simp at h
    rw [hb.block g hlt]; exact h

theorem itoa_nat (n : Nat) : Lib.itoa (n : Int) = Lib.decDigits n := by
  unfold Lib.itoa
  rw [if_neg (by omega), Int.toNat_natCast]

theorem itoa_any (n : Int) (w : World) (h0 : 0 ≤ n) (h1 : n ≤ 9223372036854775807) (ht : Tab w) :
    Calls Tryz.prog 25 #[.int .i64 n] w fun e w' => e = .returned (.string ⟨(Lib.decDigits n.toNat).toArray⟩) ∧ Below w.heap.size w w' :=
  (Tryz.strconv_Itoa n (by omega) h1 w ht).mono fun e w' ⟨he, k, os, hw⟩ => ⟨by rw [he]; congr 3; have := itoa_nat n.toNat; rw [Int.toNat_of_nonneg h0] at this; rw [this], by rw [hw]; exact Lib.below_grow _ _ (Nat.le_refl _) _ _⟩

set_option maxHeartbeats 400000 in
theorem checksum_ok (s : ByteArray) (w : World) (hs : s.size ≤ 4000) :
    Calls Tryz.prog 52 #[.string s] w fun e w' => e = .returned (.tuple #[.int .i64 (Tx.sumL (bs s) : Nat), .bool true]) ∧ w = w' := by
  go_enter Tryz.func52, Tryz.ntmps52
  go_wp2
  go_loop [4, 11] (fun h i => ∃ k : Nat, k ≤ s.size ∧ i = .int .i64 k ∧ h = .int .i64 (Tx.sumL ((bs s).take k) : Nat)) (fun _ i => s.size - (intOf i).toNat)
  case atStart => exact ⟨0, by omega, rfl, rfl⟩
  case round =>
    obtain ⟨k, hk, rfl, rfl⟩ := hrel
    by_cases h1 : k < s.size
    · have hlt : s[k].toNat < 256 := UInt8.toNat_lt _
      have hh := Tx.sumL_lt ((bs s).take k)
      have HN := Lib.hid (sumL_next h1)
      generalize Tx.sumL ((bs s).take k) = h at hh HN
      go_wp2
      go_round
      case rel => exact ⟨k + 1, by omega, by go_num, by rw [HN.out]; go_num⟩
      case measure => simp [intOf]; omega
    · obtain rfl : k = s.size := by omega
      have HE := Lib.hid (congrArg Tx.sumL (bs_all s))
      go_wp2
      go_ret2
      exact ⟨ret_v2 (by show Value.int .i64 _ = _; rw [HE.out]) rfl, rfl⟩

set_option maxRecDepth 100000 in
set_option maxHeartbeats 400000 in
theorem appendChecksum_ok (s : ByteArray) (w : World) (hs : s.size ≤ 3000) (hn : (35 : UInt8) ∉ bs s) (ht : Tab w) :
    Calls Tryz.prog 27 #[.string s] w fun e w' => e = .returned (.tuple #[.string ⟨(Tx.sealL (bs s)).toArray⟩, .bool true]) ∧ Below w.heap.size w w' := by
  have h1 := Tx.sumL_lt (bs s)
  have HS := Lib.hid (checksum_ok s w (by omega))
  have hq := itoa_any (Tx.sumL (bs s) : Nat) w (by omega) (by omega) ht
  rw [Int.toNat_natCast] at hq
  have HN := Lib.hid hq; clear hq
  have h2 := Tx.digits_len 5 (Tx.sumL (bs s)) (by omega)
  have h3 : (ByteArray.mk (Lib.decDigits (Tx.sumL (bs s))).toArray).size ≤ 6 := by rw [size_mk]; exact h2
  have HE : Hid (Tx.sealL (bs s) = bs s ++ 35 :: Lib.decDigits (Tx.sumL (bs s))) := rfl
  have h35 : (ByteArray.mk #[35]).size = 1 := rfl
  have a1 := add_runs (P := Tryz.prog) (a := s) (b := ⟨#[35]⟩) (by omega) (by decide)
  have a2 := add_runs (P := Tryz.prog) (a := s ++ ⟨#[35]⟩) (b := ⟨(Lib.decDigits (Tx.sumL (bs s))).toArray⟩) (by rw [size_add]; omega) (by omega)
  have h4 : (s ++ ⟨#[35]⟩ ++ (ByteArray.mk (Lib.decDigits (Tx.sumL (bs s))).toArray)).size ≤ 4000 := by rw [size_add, size_add]; omega
  have e4 : decide (0 ≤ Lib.indexByte s.data.toList 35) = false := by
    rw [show decide (0 ≤ Lib.indexByte s.data.toList 35) = decide ((35 : UInt8) ∈ bs s) from Tx.indexByte_mem 35 (bs s)]; exact decide_eq_false hn
  have hc := fun w => Tryz.strings_Contains_one s 35 w
  rw [e4] at hc
  have HC := Lib.hid hc; clear hc e4 h35
  go_enter Tryz.func27, Tryz.ntmps27
  go_wp2_with fail
  refine HS.out.mono ?_
  rintro e w' ⟨rfl, rfl⟩
  go_wp2_with fail
  refine HN.out.mono ?_
  rintro e w1 ⟨rfl, hb1⟩
  have HB1 := Lib.hid hb1; clear hb1
  go_wp2_with fail
  refine (HC.out _).mono ?_
  rintro e w' ⟨rfl, rfl⟩
  go_wp2_with fail
  go_ret2
  exact ⟨ret_v2 (by show Value.string _ = _; rw [show (s ++ { data := #[35] } ++ (ByteArray.mk (Lib.decDigits (Tx.sumL (bs s))).toArray)) = ⟨(Tx.sealL (bs s)).toArray⟩ from ba_eq (by show _ = Tx.sealL (bs s); rw [HE.out, bs_add, bs_add]; simp [bs])]) rfl, HB1.out⟩

end Go.Proofs.YtoebegdepnigbaaGreatDoor

/- Walks on texts: the program's EncodeRecord. -/
namespace Go.Proofs.YtoebegdepnigbaaGreatDoor
open Go.RowKit
set_option linter.unusedVariables false

/-- The world of a region that holds a struct of two texts in block B: what lies below B stands, the table too. -/
structure Kp (w0 : World) (B : Nat) (w : World) : Prop where
  bel : Below B w0 w
  lt : B + 1 ≤ w.heap.size
  tab : Tab w
theorem Kp.drew {w0 : World} {B : Nat} {w : World} (h : Kp w0 B w) : Kp w0 B w.drew := ⟨Below.drew h.1, h.2, h.3⟩
theorem Kp.next {w0 : World} {B : Nat} {w w' : World} (h : Kp w0 B w) (hb : Below w.heap.size w w') : Kp w0 B w' :=
  ⟨h.1.trans (hb.mono (Nat.le_trans (Nat.le_succ _) h.2)), Nat.le_trans h.2 hb.size, h.3.below hb⟩
theorem keep_drew {w0 wx : World} {B : Nat} {c r : Value} (h0 : wx.cell? ⟨B, 0, none⟩ = some c) (h1 : wx.cell? ⟨B, 1, none⟩ = some r) (hk : Kp w0 B wx) : wx.drew.cell? ⟨B, 0, none⟩ = some c ∧ wx.drew.cell? ⟨B, 1, none⟩ = some r ∧ Kp w0 B wx.drew := ⟨h0, h1, hk.drew⟩
theorem keep_next {w0 wx w' : World} {B : Nat} {c r : Value} (h0 : wx.cell? ⟨B, 0, none⟩ = some c) (h1 : wx.cell? ⟨B, 1, none⟩ = some r) (hk : Kp w0 B wx) (hb : Below wx.heap.size wx w') : w'.cell? ⟨B, 0, none⟩ = some c ∧ w'.cell? ⟨B, 1, none⟩ = some r ∧ Kp w0 B w' :=
  ⟨(bcell hb hk.2).trans h0, (bcell hb hk.2).trans h1, hk.next hb⟩

def encB (k : Nat) (c r : ByteArray) : ByteArray := ⟨(Tx.lineE k (recE c r) ++ [10]).toArray⟩

theorem enc_eq {k : Nat} {c r : ByteArray} : (ByteArray.mk (Tx.sealL (bs ((((ByteArray.mk (Lib.decDigits k).toArray) ++ ⟨#[32]⟩) ++ c ++ ⟨#[62]⟩) ++ r))).toArray) ++ ⟨#[10]⟩ = encB k c r := by
  apply ba_eq
  rw [bs_add]
  have e : bs ((((ByteArray.mk (Lib.decDigits k).toArray) ++ ⟨#[32]⟩) ++ c ++ ⟨#[62]⟩) ++ r) = Tx.body k (recE c r) := by
    rw [bs_add, bs_add, bs_add, bs_add]
    show Lib.decDigits k ++ [32] ++ bs c ++ [62] ++ bs r = Lib.decDigits k ++ 32 :: (bs c ++ 62 :: bs r)
    simp
  rw [e]
  rfl

end Go.Proofs.YtoebegdepnigbaaGreatDoor

/- Walks on texts: cutting at one byte; a record off the head of a text. -/
namespace Go.Proofs.YtoebegdepnigbaaGreatDoor
open Go.RowKit
set_option linter.unusedVariables false

def ba (l : List UInt8) : ByteArray := ⟨l.toArray⟩
theorem bs_ba (l : List UInt8) : bs (ba l) = l := rfl
theorem ba_bs (s : ByteArray) : ba (bs s) = s := ba_eq rfl
theorem ba_size (l : List UInt8) : (ba l).size = l.length := size_mk l

theorem index_split {s a b : ByteArray} {c : UInt8} (ha : bs a = Tx.upto c (bs s)) (hb : bs b = Tx.past c (bs s)) (hm : c ∈ bs s) :
    Lib.indexByte s.data.toList c = (a.size : Int) ∧ a.size < s.size ∧ s.extract 0 a.size = a ∧ s.extract (a.size + 1) s.size = b := by
  obtain ⟨x, y, hxy, hn⟩ := Tx.parts hm
  have e1 := Tx.upto_app y hn
  have e2 := Tx.past_app y hn
  rw [hxy, e1] at ha
  rw [hxy, e2] at hb
  have hl : a.size = x.length := by rw [← bs_len, ha]
  have hs : s.size = x.length + 1 + y.length := by rw [← bs_len, hxy]; simp; omega
  refine ⟨?_, by omega, ?_, ?_⟩
  · show Lib.indexByte (bs s) c = _
    rw [hxy, Tx.indexByte_in y hn, hl]
  · apply ba_eq
    rw [ha]
    unfold bs
    rw [Lib.extract_data]
    show ((bs s).drop 0).take (a.size - 0) = x
    rw [hxy, hl]; simp
  · apply ba_eq
    rw [hb]
    unfold bs
    rw [Lib.extract_data]
    show ((bs s).drop (a.size + 1)).take (s.size - (a.size + 1)) = y
    rw [hxy, hl, hs]
    rw [List.drop_append, List.drop_of_length_le (by omega)]
    simp

theorem index_none {s a b : ByteArray} {c : UInt8} (ha : bs a = Tx.upto c (bs s)) (hb : bs b = Tx.past c (bs s)) (hm : c ∉ bs s) :
    Lib.indexByte s.data.toList c = -1 ∧ a = s ∧ b = ⟨#[]⟩ := by
  refine ⟨Tx.indexByte_out hm, ba_eq (by rw [ha, Tx.upto_none hm]), ba_eq (by rw [hb, Tx.past_none hm]; rfl)⟩

set_option maxRecDepth 100000 in
set_option maxHeartbeats 400000 in
theorem litecut_any (s a b : ByteArray) (c : UInt8) (d : Bool) (w : World) (hs : s.size ≤ 4000000000000000000) (ha : bs a = Tx.upto c (bs s)) (hb : bs b = Tx.past c (bs s)) (hd : decide (c ∈ bs s) = d) :
    Calls Tryz.prog 55 #[.string s, .string ⟨#[c]⟩] w fun e w' => e = .returned (.tuple #[.string a, .string b, .bool d]) ∧ ∃ n, w' = w.drewN n := by
  have h1 := fun w => Tryz.stringslite_Index_one s c w
  by_cases hm : c ∈ bs s
  · obtain ⟨e1, e2, e3, e4⟩ := index_split ha hb hm
    rw [e1] at h1
    have H1 := Lib.hid h1
    have E3 := Lib.hid e3
    have E4 := Lib.hid e4
    have hD := Lib.hid (hd.symm.trans (decide_eq_true hm))
    clear h1 e1 e3 e4 hd hm ha hb
    go_enter Tryz.func55, Tryz.ntmps55
    go_wp2_with fail
    refine (H1.out _).mono ?_
    rintro e w' ⟨rfl, rfl⟩
    go_wp2_with fail
    have hsm : ((ByteArray.mk #[c]).size : Int) = 1 := rfl
    go_quiet (fail)
    go_wp2
    go_ret3
    exact ⟨ret_v3 (by show Value.string _ = _; first | rw [E3.out] | (congr 1; exact E3.out)) (by show Value.string _ = _; first | rw [E4.out] | (congr 1; exact E4.out)) (by rw [hD.out]; rfl), _, rfl⟩
  · obtain ⟨e1, e2, e3⟩ := index_none ha hb hm
    rw [e1] at h1
    have H1 := Lib.hid h1
    have hD := Lib.hid (hd.symm.trans (decide_eq_false hm))
    subst e2
    subst e3
    clear h1 e1 hd hm ha hb
    go_enter Tryz.func55, Tryz.ntmps55
    go_wp2_with fail
    refine (H1.out _).mono ?_
    rintro e w' ⟨rfl, rfl⟩
    go_wp2_with fail
    go_ret3
    exact ⟨ret_v3 rfl rfl (by rw [hD.out]; rfl), 0, rfl⟩

set_option maxHeartbeats 400000 in
theorem cut1_any (s a b : ByteArray) (c : UInt8) (d : Bool) (w : World) (hs : s.size ≤ 4000000000000000000) (ha : bs a = Tx.upto c (bs s)) (hb : bs b = Tx.past c (bs s)) (hd : decide (c ∈ bs s) = d) :
    Calls Tryz.prog 30 #[.string s, .string ⟨#[c]⟩] w fun e w' => e = .returned (.tuple #[.string a, .string b, .bool d]) ∧ ∃ n, w' = w.drewN n := by
  have H := Lib.hid (fun w => litecut_any s a b c d w hs ha hb hd)
  clear ha hb hd
  go_enter Tryz.func30, Tryz.ntmps30
  go_wp2_with fail
  refine (H.out _).mono ?_
  rintro e w' ⟨rfl, n, rfl⟩
  go_wp2
  go_ret3
  exact ⟨rfl, n, rfl⟩

/-- What stood before a call still stands, cell for cell and mark for mark. -/
theorem stands {W w1 : World} {B : Nat} (hb : Below B W w1) : (∀ b o, b < B → w1.cell? ⟨b, o, none⟩ = W.cell? ⟨b, o, none⟩) ∧ (∀ b o, b < B → w1.frozen? ⟨b, o, none⟩ = W.frozen? ⟨b, o, none⟩) :=
  ⟨fun b o h => hb.cell (p := ⟨b, o, none⟩) h, fun b o h => hb.frozen (p := ⟨b, o, none⟩) h⟩

theorem two_set {w : World} {B : Nat} {a b : Value} (x y : Value) (h0 : w.cell? ⟨B, 0, none⟩ = some a) (h1 : w.cell? ⟨B, 1, none⟩ = some b) :
    (w.setCell ⟨B, 0, none⟩ x).cell? ⟨B, 0, none⟩ = some x ∧ ((w.setCell ⟨B, 0, none⟩ x).setCell ⟨B, 1, none⟩ y).cell? ⟨B, 0, none⟩ = some x ∧ ((w.setCell ⟨B, 0, none⟩ x).setCell ⟨B, 1, none⟩ y).cell? ⟨B, 1, none⟩ = some y := by
  have e0 := World.cell?_setCell_same' w ⟨B, 0, none⟩ x (by rw [h0]; rfl)
  have ne : (⟨B, 0, none⟩ : Addr) ≠ ⟨B, 1, none⟩ := by simp
  have e1 : (w.setCell ⟨B, 0, none⟩ x).cell? ⟨B, 1, none⟩ = some b := (World.cell?_setCell_other (h := ne) ..).trans h1
  exact ⟨e0, (World.cell?_setCell_other (h := ne.symm) ..).trans e0, World.cell?_setCell_same' _ _ _ (by rw [e1]; rfl)⟩

theorem below_two {w w1 : World} {B : Nat} (h : Below B w w1) (x y : Value) : Below B w ((w1.setCell ⟨B, 0, none⟩ x).setCell ⟨B, 1, none⟩ y) :=
  Below.setCell (p := ⟨B, 1, none⟩) (Below.setCell (p := ⟨B, 0, none⟩) h (Nat.le_refl _) _) (Nat.le_refl _) _

def zRec : Value := .agg #[.string ⟨#[]⟩, .string ⟨#[]⟩]

theorem step_no {k : Nat} {s : ByteArray} (h : (10 : UInt8) ∉ bs s) : Tx.step k (bs s) = none := by unfold Tx.step; rw [if_neg h]
theorem step_dec {k : Nat} {s : ByteArray} (h : (10 : UInt8) ∈ bs s) : Tx.step k (bs s) = (Tx.dec k (Tx.upto 10 (bs s))).map fun e => (e, (Tx.upto 10 (bs s)).length + 1) := by unfold Tx.step; rw [if_pos h]

theorem enc_cmp {k : Nat} {line c r : ByteArray} : ((encB k c r).toList == (line ++ ⟨#[10]⟩).toList) = (Tx.lineE k (recE c r) == bs line) := by
  rw [Bool.eq_iff_iff, beq_iff_eq, beq_iff_eq, bs_toList, bs_toList, bs_add]
  show Tx.lineE k (recE c r) ++ [10] = bs line ++ [10] ↔ _
  rw [List.append_left_inj]

def recVE (e : Tx.Rec) : Value := recV (ba e.1) (ba e.2)

end Go.Proofs.YtoebegdepnigbaaGreatDoor

/- Walks on texts: the parts of a text, by the reference. -/
namespace Go.Proofs.YtoebegdepnigbaaGreatDoor
open Go.RowKit
set_option linter.unusedVariables false

def splitL (c : UInt8) : List UInt8 → List (List UInt8)
  | [] => [[]]
  | x :: t => if x = c then [] :: splitL c t else match splitL c t with
    | [] => [[x]]
    | h :: r => (x :: h) :: r
theorem splitL_app {c : UInt8} (b : List UInt8) : ∀ {a : List UInt8}, c ∉ a → splitL c (a ++ c :: b) = a :: splitL c b
  | [], _ => by simp [splitL]
  | x :: t, h => by
    have hx : x ≠ c := fun e => h (by simp [e])
    have ih := splitL_app b (a := t) (fun m => h (List.mem_cons_of_mem _ m))
    rw [List.cons_append, splitL, if_neg hx, ih]
theorem splitL_none {c : UInt8} : ∀ {a : List UInt8}, c ∉ a → splitL c a = [a]
  | [], _ => rfl
  | x :: t, h => by
    have hx : x ≠ c := fun e => h (by simp [e])
    have ih := splitL_none (a := t) (fun m => h (List.mem_cons_of_mem _ m))
    rw [splitL, if_neg hx, ih]
theorem splitL_head (c : UInt8) (s : List UInt8) : ∃ r, splitL c s = Tx.upto c s :: r ∧ (c ∈ s ↔ r ≠ []) := by
  by_cases h : c ∈ s
  · obtain ⟨a, b, rfl, hn⟩ := Tx.parts h
    refine ⟨splitL c b, by rw [splitL_app b hn, Tx.upto_app b hn], ⟨fun _ e => ?_, fun _ => h⟩⟩
    by_cases hb : c ∈ b
    · obtain ⟨a', b', rfl, hn'⟩ := Tx.parts hb
      rw [splitL_app b' hn'] at e; cases e
    · rw [splitL_none hb] at e; cases e
  · exact ⟨[], by rw [splitL_none h, Tx.upto_none h], ⟨fun m => absurd m h, fun m => absurd rfl m⟩⟩
theorem splitL_len (c : UInt8) (s : List UInt8) : (splitL c s).length ≤ s.length + 1 := by
  induction s with
  | nil => simp [splitL]
  | cons x t ih =>
    rw [splitL]
    split
    · simp; omega
    · split
      · simp
      · rename_i h r e; rw [e] at ih; simp at ih ⊢; omega

theorem Tryz.infoS : (Tryz.prog.info? 9).map (fun i => (i.zero, i.size, i.bytes)) = some (some (.string ⟨#[]⟩), 1, 16) := by kernel_rfl
theorem slS : SlT Tryz.prog 55 9 (.string ⟨#[]⟩) 1 16 := ⟨Tryz.underlying55, info_parts Tryz.infoS, rfl, by decide, by decide⟩

def strL (l : List UInt8) : Value := .string (ba l)
def SplitEnd (w : World) (P : List (List UInt8)) (e : Ending) (w' : World) : Prop :=
  ∃ (a : Option Addr) (cap : Nat), e = .returned (.slice a P.length cap) ∧ w'.ownsRow w.heap.size 9 1 (.slice a P.length cap) P.length (P.map strL) ∧ Below w.heap.size w w'

theorem piece_bs (s : ByteArray) (a b : Nat) : bs (s.extract a b) = ((bs s).drop a).take (b - a) := by
  unfold bs; rw [Lib.extract_data]
theorem extract_bs' (s : ByteArray) (a : Nat) : bs (s.extract a s.size) = (bs s).drop a := by
  unfold bs; rw [Lib.extract_to_end]
theorem piece_str (s : ByteArray) (a b : Nat) : Value.string (s.extract a b) = strL (((bs s).drop a).take (b - a)) := by
  unfold strL; rw [← piece_bs, ba_bs]

end Go.Proofs.YtoebegdepnigbaaGreatDoor
