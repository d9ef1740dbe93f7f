/- Several texts in one: lemmas and walks of the functions that the law reaches. -/
import Derived.Test.YtaaogoajhdaekaaY0

namespace Go.Proofs.Ytaaogoajhdaekaa.Es
open Mg
set_option linter.unusedVariables false

/-- The greatest child's search. -/
def bst (L : List Int) (m c k : Nat) : Nat :=
  if h : c < m then bst L m (c + 1) (if L.getD k 0 < L.getD c 0 then c else k) else k
termination_by m - c
theorem bst_step {L : List Int} {m c k : Nat} (h : c < m) : bst L m c k = bst L m (c + 1) (if L.getD k 0 < L.getD c 0 then c else k) := by rw [bst, dif_pos h]
theorem bst_stop {L : List Int} {m c k : Nat} (h : ¬ c < m) : bst L m c k = k := by rw [bst, dif_neg h]
theorem bst_facts (L : List Int) (m lo : Nat) : ∀ (f c k : Nat), m - c = f → lo ≤ k → k < c → k < m → (∀ j, lo ≤ j → j < c → L.getD j 0 ≤ L.getD k 0) →
    lo ≤ bst L m c k ∧ bst L m c k < m ∧ ∀ j, lo ≤ j → j < m → L.getD j 0 ≤ L.getD (bst L m c k) 0 := by
  intro f
  induction f with
  | zero =>
    intro c k hf h1 h2 h3 h4
    rw [bst_stop (by omega)]
    exact ⟨h1, h3, fun j hj hj2 => h4 j hj (by omega)⟩
  | succ f ih =>
    intro c k hf h1 h2 h3 h4
    rw [bst_step (by omega)]
    by_cases hc : L.getD k 0 < L.getD c 0
    · rw [if_pos hc]
      refine ih (c + 1) c (by omega) (by omega) (by omega) (by omega) fun j hj hj2 => ?_
      by_cases e : j = c
      · subst e; omega
      · have := h4 j hj (by omega); omega
    · rw [if_neg hc]
      refine ih (c + 1) k (by omega) h1 (by omega) h3 fun j hj hj2 => ?_
      by_cases e : j = c
      · subst e; omega
      · exact h4 j hj (by omega)
/-- The greatest child of i among the first n. -/
def top (d n : Nat) (L : List Int) (i : Nat) : Nat := bst L (min (d * i + d + 1) n) (d * i + 2) (d * i + 1)
theorem top_facts {d n : Nat} {L : List Int} {i : Nat} (hd : 0 < d) (h : d * i + 1 < n) : d * i + 1 ≤ top d n L i ∧ top d n L i ≤ d * i + d ∧ top d n L i < n ∧ ∀ j, d * i + 1 ≤ j → j ≤ d * i + d → j < n → L.getD j 0 ≤ L.getD (top d n L i) 0 := by
  obtain ⟨h1, h2, h3⟩ := bst_facts L (min (d * i + d + 1) n) (d * i + 1) _ (d * i + 2) (d * i + 1) rfl (Nat.le_refl _) (by omega) (by omega) (fun j h1 h2 => by
    have : j = d * i + 1 := by omega
    rw [this]; exact Int.le_refl _)
  unfold top
  exact ⟨h1, by omega, by omega, fun j a b c => h3 j a (by omega)⟩
theorem le_mul_self {d i : Nat} (hd : 0 < d) : i ≤ d * i := Nat.le_mul_of_pos_left i hd
def swp (L : List Int) (i k : Nat) : List Int := (L.set i (L.getD k 0)).set k (L.getD i 0)
theorem swp_len (L : List Int) (i k : Nat) : (swp L i k).length = L.length := by unfold swp; rw [List.length_set, List.length_set]
theorem swp_self (L : List Int) (i : Nat) : swp L i i = L := by unfold swp; rw [List.set_set, set_own]
theorem swp_get {L : List Int} {i k : Nat} (hi : i < L.length) (hk : k < L.length) (j : Nat) : (swp L i k).getD j 0 = if j = k then L.getD i 0 else if j = i then L.getD k 0 else L.getD j 0 := by
  unfold swp
  rw [gset, List.length_set, gset]
  by_cases h1 : j = k
  · rw [if_pos ⟨h1, hk⟩, if_pos h1]
  · rw [if_neg (fun e => h1 e.1), if_neg h1]
    by_cases h2 : j = i
    · rw [if_pos ⟨h2, hi⟩, if_pos h2]
    · rw [if_neg (fun e => h2 e.1), if_neg h2]
theorem swp_perm {L : List Int} {i k : Nat} (hi : i < L.length) (hk : k < L.length) : (swp L i k).Perm L := swap_perm hi hk
/-- Sifting down in the first n elements: the list and the number of swaps. -/
def sft (d n : Nat) (L : List Int) (i s : Nat) : List Int × Nat :=
  if h : 0 < d ∧ d * i + 1 < n then
    if L.getD (top d n L i) 0 ≤ L.getD i 0 then (L, s) else sft d n (swp L i (top d n L i)) (top d n L i) (s + 1)
  else (L, s)
termination_by n - i
decreasing_by
  have h1 := top_facts (L := L) h.1 h.2
  have h2 := le_mul_self (i := i) h.1
  omega
theorem sft_leaf {d n : Nat} {L : List Int} {i s : Nat} (h : ¬ d * i + 1 < n) : sft d n L i s = (L, s) := by rw [sft, dif_neg (fun e => h e.2)]
theorem sft_break {d n : Nat} {L : List Int} {i s : Nat} (hd : 0 < d) (h : d * i + 1 < n) (h2 : L.getD (top d n L i) 0 ≤ L.getD i 0) : sft d n L i s = (L, s) := by rw [sft, dif_pos ⟨hd, h⟩, if_pos h2]
theorem sft_step {d n : Nat} {L : List Int} {i s : Nat} (hd : 0 < d) (h : d * i + 1 < n) (h2 : ¬ L.getD (top d n L i) 0 ≤ L.getD i 0) : sft d n L i s = sft d n (swp L i (top d n L i)) (top d n L i) (s + 1) := by
  rw [sft, dif_pos ⟨hd, h⟩, if_neg h2]
/-- Each induction over a sifting goes thus. -/
theorem sft_ind {d n : Nat} (hd : 0 < d) {P : List Int → Nat → Nat → Prop} (h0 : ∀ L i s, ¬ d * i + 1 < n → P L i s) (h1 : ∀ L i s, d * i + 1 < n → L.getD (top d n L i) 0 ≤ L.getD i 0 → P L i s)
    (h2 : ∀ L i s, d * i + 1 < n → ¬ L.getD (top d n L i) 0 ≤ L.getD i 0 → P (swp L i (top d n L i)) (top d n L i) (s + 1) → P L i s) : ∀ (f : Nat) (L : List Int) (i s : Nat), n - i ≤ f → P L i s := by
  intro f
  induction f with
  | zero =>
    intro L i s hf
    refine h0 L i s fun h => ?_
    have := le_mul_self (i := i) hd
    omega
  | succ f ih =>
    intro L i s hf
    by_cases h : d * i + 1 < n
    · by_cases h3 : L.getD (top d n L i) 0 ≤ L.getD i 0
      · exact h1 L i s h h3
      · have t := top_facts (L := L) hd h
        have := le_mul_self (i := i) hd
        exact h2 L i s h h3 (ih _ _ _ (by omega))
    · exact h0 L i s h
theorem sft_perm {d n : Nat} (hd : 0 < d) (L : List Int) (i s : Nat) (hn : n ≤ L.length) : (sft d n L i s).1.Perm L := by
  refine sft_ind (n := n) hd (P := fun L i s => n ≤ L.length → (sft d n L i s).1.Perm L) (fun L i s h _ => by rw [sft_leaf h]) (fun L i s h h2 _ => by rw [sft_break hd h h2]) (fun L i s h h2 ih hn => ?_) _ L i s (Nat.le_refl _) hn
  rw [sft_step hd h h2]
  have t := top_facts (L := L) hd h
  have := le_mul_self (i := i) hd
  exact (ih (by rw [swp_len]; exact hn)).trans (swp_perm (by omega) (by omega))
theorem sft_len {d n : Nat} (hd : 0 < d) (L : List Int) (i s : Nat) (hn : n ≤ L.length) : (sft d n L i s).1.length = L.length := (sft_perm hd L i s hn).length_eq
theorem sft_far {d n : Nat} (hd : 0 < d) (L : List Int) (i s : Nat) (hn : n ≤ L.length) (j : Nat) (hj : n ≤ j) : (sft d n L i s).1.getD j 0 = L.getD j 0 := by
  refine sft_ind (n := n) hd (P := fun L i s => n ≤ L.length → (sft d n L i s).1.getD j 0 = L.getD j 0) (fun L i s h _ => by rw [sft_leaf h]) (fun L i s h h2 _ => by rw [sft_break hd h h2]) (fun L i s h h2 ih hn => ?_) _ L i s (Nat.le_refl _) hn
  rw [sft_step hd h h2]
  have t := top_facts (L := L) hd h
  have := le_mul_self (i := i) hd
  rw [ih (by rw [swp_len]; exact hn), swp_get (by omega) (by omega), if_neg (by omega), if_neg (by omega)]
theorem sft_below {d n : Nat} (hd : 0 < d) (L : List Int) (i s : Nat) (hn : n ≤ L.length) (M : Int) (hM : ∀ j, j < n → L.getD j 0 ≤ M) : ∀ j, j < n → (sft d n L i s).1.getD j 0 ≤ M := by
  refine sft_ind (n := n) hd (P := fun L i s => n ≤ L.length → (∀ j, j < n → L.getD j 0 ≤ M) → ∀ j, j < n → (sft d n L i s).1.getD j 0 ≤ M) (fun L i s h _ hM => by rw [sft_leaf h]; exact hM) (fun L i s h h2 _ hM => by rw [sft_break hd h h2]; exact hM) (fun L i s h h2 ih hn hM => ?_) _ L i s (Nat.le_refl _) hn hM
  rw [sft_step hd h h2]
  have t := top_facts (L := L) hd h
  have := le_mul_self (i := i) hd
  refine ih (by rw [swp_len]; exact hn) fun j hj => ?_
  rw [swp_get (by omega) (by omega)]
  split
  · exact hM _ (by omega)
  · split
    · exact hM _ (by omega)
    · exact hM _ hj

theorem sft_count {d n : Nat} (hd : 0 < d) (L : List Int) (i s : Nat) : (sft d n L i s).2 ≤ s + (n - i) := by
  refine sft_ind (n := n) hd (P := fun L i s => (sft d n L i s).2 ≤ s + (n - i)) (fun L i s h => by rw [sft_leaf h]; exact Nat.le_add_right _ _) (fun L i s h h2 => by rw [sft_break hd h h2]; exact Nat.le_add_right _ _) (fun L i s h h2 ih => ?_) _ L i s (Nat.le_refl _)
  rw [sft_step hd h h2]
  have t := top_facts (L := L) hd h
  have := le_mul_self (i := i) hd
  omega

/-- A heap, from the parents lo on. -/
def HeapFrom (d n lo : Nat) (L : List Int) : Prop := ∀ j, 1 ≤ j → j < n → lo ≤ (j - 1) / d → L.getD j 0 ≤ L.getD ((j - 1) / d) 0
theorem par_iff {d j i : Nat} (hd : 0 < d) (hj : 1 ≤ j) : (j - 1) / d = i ↔ d * i + 1 ≤ j ∧ j ≤ d * i + d := by
  constructor
  · rintro rfl
    have h1 := Nat.div_mul_le_self (j - 1) d
    have h2 := Nat.lt_div_mul_add (a := j - 1) hd
    rw [Nat.mul_comm] at h1 h2
    omega
  · rintro ⟨h1, h2⟩
    apply Nat.div_eq_of_lt_le
    · rw [Nat.mul_comm]; omega
    · rw [Nat.mul_comm, Nat.mul_add, Nat.mul_one]; omega
theorem par_lt {d j : Nat} (hd : 0 < d) (hj : 1 ≤ j) : (j - 1) / d < j := by
  have := Nat.div_le_self (j - 1) d
  omega
structure Sunk (d n lo i : Nat) (L : List Int) : Prop where
  far : ∀ j, 1 ≤ j → j < n → lo ≤ (j - 1) / d → (j - 1) / d ≠ i → L.getD j 0 ≤ L.getD ((j - 1) / d) 0
  near : ∀ j, 1 ≤ j → j < n → (j - 1) / d = i → 1 ≤ i → lo ≤ (i - 1) / d → L.getD j 0 ≤ L.getD ((i - 1) / d) 0
theorem sft_heap {d n lo : Nat} (hd : 0 < d) (L : List Int) (i s : Nat) (hn : n ≤ L.length) (hlo : lo ≤ i) (H : Sunk d n lo i L) : HeapFrom d n lo (sft d n L i s).1 := by
  refine sft_ind (n := n) hd (P := fun L i s => n ≤ L.length → lo ≤ i → Sunk d n lo i L → HeapFrom d n lo (sft d n L i s).1) (fun L i s h hn hlo H => ?_) (fun L i s h h2 hn hlo H => ?_) (fun L i s h h2 ih hn hlo H => ?_) _ L i s (Nat.le_refl _) hn hlo H
  · rw [sft_leaf h]
    intro j h1 h2 h3
    refine H.far j h1 h2 h3 fun e => ?_
    have := (par_iff hd h1).1 e
    omega
  · rw [sft_break hd h h2]
    intro j h1 h3 h4
    by_cases e : (j - 1) / d = i
    · rw [e]
      have e2 := (par_iff hd h1).1 e
      have := (top_facts (L := L) hd h).2.2.2 j e2.1 e2.2 h3
      show L.getD j 0 ≤ L.getD i 0
      omega
    · exact H.far j h1 h3 h4 e
  · rw [sft_step hd h h2]
    obtain ⟨t1, t2, t3, t4⟩ := top_facts (L := L) hd h
    have hi := le_mul_self (i := i) hd
    have hk : (top d n L i - 1) / d = i := (par_iff hd (by omega)).2 ⟨t1, t2⟩
    generalize top d n L i = k at *
    refine ih (by rw [swp_len]; exact hn) (by omega) ⟨fun j h1 h3 h4 h5 => ?_, fun j h1 h3 h4 h5 h6 => ?_⟩
    · rw [swp_get (by omega) (by omega), swp_get (by omega) (by omega), if_neg h5]
      by_cases e : j = k
      · subst e
        rw [if_pos rfl, hk, if_pos rfl]; omega
      · rw [if_neg e]
        by_cases e2 : (j - 1) / d = i
        · rw [if_pos e2]
          have e3 := (par_iff hd h1).1 e2
          rw [if_neg (by omega)]
          exact t4 j e3.1 e3.2 h3
        · rw [if_neg e2]
          by_cases e3 : j = i
          · subst e3
            rw [if_pos rfl]
            exact H.near k (by omega) t3 hk h1 h4
          · rw [if_neg e3]; exact H.far j h1 h3 h4 e2
    · have e3 := (par_iff hd h1).1 h4
      have hk2 := le_mul_self (i := k) hd
      rw [swp_get (by omega) (by omega), if_neg (by omega), if_neg (by omega), swp_get (by omega) (by omega), hk, if_neg (by omega), if_pos rfl]
      have := H.far j h1 h3 (by omega) (by omega)
      rwa [h4] at this
/-- A heap is made. -/
def hfy (d n : Nat) (L : List Int) : Nat → Nat → List Int × Nat
  | 0, s => (L, s)
  | i + 1, s => hfy d n (sft d n L i 0).1 i (s + (sft d n L i 0).2)
theorem hfy_facts {d n : Nat} (hd : 0 < d) : ∀ (i : Nat) (L : List Int) (s : Nat), n ≤ L.length → HeapFrom d n i L → (hfy d n L i s).1.Perm L ∧ HeapFrom d n 0 (hfy d n L i s).1
  | 0, L, s, hn, h => ⟨List.Perm.refl _, h⟩
  | i + 1, L, s, hn, h => by
    have hh : HeapFrom d n i (sft d n L i 0).1 := sft_heap hd L i 0 hn (Nat.le_refl _) ⟨fun j h1 h2 h3 h4 => h j h1 h2 (by omega), fun j h1 h2 h3 h4 h5 => by
      have := par_lt (d := d) hd h4
      omega⟩
    obtain ⟨i1, i2⟩ := hfy_facts hd i (sft d n L i 0).1 (s + (sft d n L i 0).2) (by rw [sft_len hd L i 0 hn]; exact hn) hh
    exact ⟨i1.trans (sft_perm hd L i 0 hn), i2⟩
theorem hfy_count {d n : Nat} (hd : 0 < d) (hn : n ≤ 64) : ∀ (i : Nat) (L : List Int) (s : Nat), (hfy d n L i s).2 ≤ s + 64 * i
  | 0, L, s => Nat.le_refl _
  | i + 1, L, s => by
    have h1 := sft_count (n := n) hd L i 0
    have h2 := hfy_count hd hn i (sft d n L i 0).1 (s + (sft d n L i 0).2)
    show (hfy d n (sft d n L i 0).1 i (s + (sft d n L i 0).2)).2 ≤ _
    omega
theorem heap_root {d n : Nat} {L : List Int} (hd : 0 < d) (h : HeapFrom d n 0 L) : ∀ j, j < n → L.getD j 0 ≤ L.getD 0 0 := by
  intro j
  induction j using Nat.strongRecOn with
  | ind j ih =>
    intro hj
    by_cases e : j = 0
    · subst e; exact Int.le_refl _
    · have h1 := h j (by omega) hj (Nat.zero_le _)
      have h2 := par_lt (d := d) (j := j) hd (by omega)
      have h3 := ih _ h2 (by omega)
      omega
/-- The greatest element goes to the end, again and again. -/
def hpop (d : Nat) (L : List Int) (n s : Nat) : List Int × Nat :=
  if h : 2 ≤ n then hpop d (sft d (n - 1) (swp L 0 (n - 1)) 0 0).1 (n - 1) (s + (1 + (sft d (n - 1) (swp L 0 (n - 1)) 0 0).2)) else (L, s)
termination_by n
theorem hpop_step {d : Nat} {L : List Int} {n s : Nat} (h : 2 ≤ n) : hpop d L n s = hpop d (sft d (n - 1) (swp L 0 (n - 1)) 0 0).1 (n - 1) (s + (1 + (sft d (n - 1) (swp L 0 (n - 1)) 0 0).2)) := by rw [hpop, dif_pos h]
theorem hpop_stop {d : Nat} {L : List Int} {n s : Nat} (h : ¬ 2 ≤ n) : hpop d L n s = (L, s) := by rw [hpop, dif_neg h]
theorem hpop_facts {d : Nat} (hd : 0 < d) : ∀ (n : Nat) (L : List Int) (s : Nat), n ≤ L.length → HeapFrom d n 0 L → (∀ a b, a < b → n ≤ b → b < L.length → L.getD a 0 ≤ L.getD b 0) →
    (hpop d L n s).1.Perm L ∧ AscTo (hpop d L n s).1 L.length := by
  intro n
  induction n with
  | zero =>
    intro L s hn hh hs
    rw [hpop_stop (by omega)]
    exact ⟨List.Perm.refl _, fun a b hab hb => hs a b hab (by omega) hb⟩
  | succ n ih =>
    intro L s hn hh hs
    by_cases h : 2 ≤ n + 1
    · rw [hpop_step h, Nat.add_sub_cancel]
      have hr := heap_root hd hh
      have hl : n ≤ (swp L 0 n).length := by rw [swp_len]; omega
      have hp := sft_perm hd (swp L 0 n) 0 0 hl
      have hs0 : (sft d n (swp L 0 n) 0 0).1.length = L.length := by rw [hp.length_eq, swp_len]
      obtain ⟨i1, i2⟩ := ih (sft d n (swp L 0 n) 0 0).1 (s + (1 + (sft d n (swp L 0 n) 0 0).2)) (by omega) (sft_heap hd (swp L 0 n) 0 0 hl (Nat.le_refl _) ⟨fun j h1 h2 h3 h4 => by
          have h5 := par_lt (d := d) hd h1
          rw [swp_get (by omega) (by omega), swp_get (by omega) (by omega), if_neg (by omega), if_neg (by omega), if_neg (by omega), if_neg h4]
          exact hh j h1 (by omega) h3, fun j h1 h2 h3 h4 h5 => by omega⟩) (fun a b hab hb hbl => by
          rw [hs0] at hbl
          rw [sft_far hd _ 0 0 hl b hb]
          have hbig : ∀ j, j < n + 1 → L.getD j 0 ≤ (swp L 0 n).getD b 0 := fun j hj => by
            rw [swp_get (by omega) (by omega)]
            by_cases e : b = n
            · rw [if_pos e]; exact hr j hj
            · rw [if_neg e, if_neg (by omega)]; exact hs j b (by omega) (by omega) hbl
          by_cases ha : a < n
          · refine sft_below hd _ 0 0 hl _ (fun j hj => ?_) a ha
            have : (swp L 0 n).getD j 0 = if j = 0 then L.getD n 0 else L.getD j 0 := by rw [swp_get (by omega) (by omega), if_neg (by omega)]
            rw [this]
            split
            · exact hbig n (by omega)
            · exact hbig j (by omega)
          · rw [sft_far hd _ 0 0 hl a (by omega)]
            rw [swp_get (by omega) (by omega) a]
            by_cases e : a = n
            · rw [if_pos e]; exact hbig 0 (by omega)
            · rw [if_neg e, if_neg (by omega), swp_get (by omega) (by omega), if_neg (by omega), if_neg (by omega)]
              exact hs a b hab (by omega) hbl)
      rw [hs0] at i2
      exact ⟨(i1.trans hp).trans (swp_perm (by omega) (by omega)), i2⟩
    · rw [hpop_stop h]
      refine ⟨List.Perm.refl _, fun a b hab hb => hs a b hab (by omega) hb⟩
/-- Sorting by a heap: the list and the number of swaps. -/
def hsort (d : Nat) (L : List Int) : List Int × Nat := hpop d (hfy d L.length L L.length 0).1 L.length (hfy d L.length L L.length 0).2
theorem hfy_perm {d : Nat} (hd : 0 < d) (L : List Int) (s : Nat) : (hfy d L.length L L.length s).1.Perm L ∧ HeapFrom d L.length 0 (hfy d L.length L L.length s).1 :=
  hfy_facts hd L.length L s (Nat.le_refl _) (fun j h1 h2 h3 => by
    have := par_lt (d := d) hd h1
    omega)
theorem hsort_sorts {d : Nat} (hd : 0 < d) (L : List Int) : (hsort d L).1 = srtI L := by
  obtain ⟨h1, h2⟩ := hfy_perm hd L 0
  have hl := h1.length_eq
  obtain ⟨i1, i2⟩ := hpop_facts hd L.length (hfy d L.length L L.length 0).1 (hfy d L.length L L.length 0).2 (by omega) h2 (fun a b hab hb hbl => by omega)
  rw [hl] at i2
  refine sorted_of (i1.trans h1) ?_
  have : (hsort d L).1.length = L.length := (i1.trans h1).length_eq
  rw [this]
  exact i2
end Go.Proofs.Ytaaogoajhdaekaa.Es

namespace Go.Proofs.Ytaaogoajhdaekaa.Es
open Mg
set_option linter.unusedVariables false

/-- Three parts around x. -/
def tw (x : Int) (L : List Int) (lt i gt : Nat) : List Int × Nat × Nat :=
  if h : i < gt then
    if L.getD i 0 < x then tw x (swp L i lt) (lt + 1) (i + 1) gt
    else if x < L.getD i 0 then tw x (swp L i (gt - 1)) lt i (gt - 1) else tw x L lt (i + 1) gt
  else (L, lt, gt)
termination_by gt - i
theorem tw_stop {x : Int} {L : List Int} {lt i gt : Nat} (h : ¬ i < gt) : tw x L lt i gt = (L, lt, gt) := by rw [tw, dif_neg h]
theorem tw_low {x : Int} {L : List Int} {lt i gt : Nat} (h : i < gt) (h1 : L.getD i 0 < x) : tw x L lt i gt = tw x (swp L i lt) (lt + 1) (i + 1) gt := by rw [tw, dif_pos h, if_pos h1]
theorem tw_high {x : Int} {L : List Int} {lt i gt : Nat} (h : i < gt) (h1 : x < L.getD i 0) : tw x L lt i gt = tw x (swp L i (gt - 1)) lt i (gt - 1) := by rw [tw, dif_pos h, if_neg (by omega), if_pos h1]
theorem tw_mid {x : Int} {L : List Int} {lt i gt : Nat} (h : i < gt) (h1 : ¬ L.getD i 0 < x) (h2 : ¬ x < L.getD i 0) : tw x L lt i gt = tw x L lt (i + 1) gt := by rw [tw, dif_pos h, if_neg h1, if_neg h2]
structure Tw (x : Int) (L : List Int) (lt i gt : Nat) : Prop where
  low : ∀ j, j < lt → L.getD j 0 < x
  mid : ∀ j, lt ≤ j → j < i → L.getD j 0 = x
  high : ∀ j, gt ≤ j → j < L.length → x < L.getD j 0
  b1 : lt ≤ i
  b2 : i ≤ gt
  b3 : gt ≤ L.length
theorem tw_facts (x : Int) : ∀ (f : Nat) (L : List Int) (lt i gt : Nat), gt - i = f → Tw x L lt i gt →
    (tw x L lt i gt).1.Perm L ∧ Tw x (tw x L lt i gt).1 (tw x L lt i gt).2.1 (tw x L lt i gt).2.2 (tw x L lt i gt).2.2 := by
  intro f
  induction f with
  | zero =>
    intro L lt i gt hf H
    have := H.b2
    obtain rfl : i = gt := by omega
    rw [tw_stop (by omega)]
    exact ⟨List.Perm.refl _, H⟩
  | succ f ih =>
    intro L lt i gt hf H
    have g1 := H.b1; have g2 := H.b2; have g3 := H.b3
    by_cases h1 : L.getD i 0 < x
    · rw [tw_low (by omega) h1]
      obtain ⟨i1, i2⟩ := ih (swp L i lt) (lt + 1) (i + 1) gt (by omega) ⟨fun j hj => by
          rw [swp_get (by omega) (by omega)]
          by_cases e : j = lt
          · rw [if_pos e]; exact h1
          · rw [if_neg e, if_neg (by omega)]; exact H.low j (by omega), fun j hj hj2 => by
          rw [swp_get (by omega) (by omega), if_neg (by omega)]
          by_cases e : j = i
          · rw [if_pos e]; exact H.mid lt (Nat.le_refl _) (by omega)
          · rw [if_neg e]; exact H.mid j (by omega) (by omega), fun j hj hj2 => by
          rw [swp_len] at hj2
          rw [swp_get (by omega) (by omega), if_neg (by omega), if_neg (by omega)]; exact H.high j hj hj2, by omega, by omega, by rw [swp_len]; exact g3⟩
      exact ⟨i1.trans (swp_perm (by omega) (by omega)), i2⟩
    · by_cases h2 : x < L.getD i 0
      · rw [tw_high (by omega) h2]
        obtain ⟨i1, i2⟩ := ih (swp L i (gt - 1)) lt i (gt - 1) (by omega) ⟨fun j hj => by
            rw [swp_get (by omega) (by omega), if_neg (by omega), if_neg (by omega)]; exact H.low j hj, fun j hj hj2 => by
            rw [swp_get (by omega) (by omega), if_neg (by omega), if_neg (by omega)]; exact H.mid j hj hj2, fun j hj hj2 => by
            rw [swp_len] at hj2
            rw [swp_get (by omega) (by omega)]
            by_cases e : j = gt - 1
            · rw [if_pos e]; exact h2
            · rw [if_neg e, if_neg (by omega)]; exact H.high j (by omega) hj2, by omega, by omega, by rw [swp_len]; omega⟩
        exact ⟨i1.trans (swp_perm (by omega) (by omega)), i2⟩
      · rw [tw_mid (by omega) h1 h2]
        exact ih L lt (i + 1) gt (by omega) ⟨H.low, fun j hj hj2 => by
          by_cases e : j = i
          · subst e; omega
          · exact H.mid j hj (by omega), H.high, by omega, by omega, g3⟩
theorem tw_start (x : Int) (L : List Int) : (tw x L 0 0 L.length).1.Perm L ∧ Tw x (tw x L 0 0 L.length).1 (tw x L 0 0 L.length).2.1 (tw x L 0 0 L.length).2.2 (tw x L 0 0 L.length).2.2 :=
  tw_facts x _ L 0 0 L.length rfl ⟨fun j h => by omega, fun j h h2 => by omega, fun j h h2 => by omega, by omega, by omega, by omega⟩
/-- Three sorted parts make a sorted list. -/
theorem tw_join {x : Int} {L M : List Int} {lt gt : Nat} (hp : M.Perm L) (H : Tw x M lt gt gt) : srtI (M.take lt) ++ (M.take gt).drop lt ++ srtI (M.drop gt) = srtI L := by
  have g1 := H.b1; have g3 := H.b3
  have e1 : ∀ y ∈ M.take lt, y < x := fun y hy => by
    obtain ⟨j, hj, rfl⟩ := List.mem_take_iff_getElem.1 hy
    rw [getE]; exact H.low j (by omega)
  have e2 : ∀ y ∈ (M.take gt).drop lt, y = x := fun y hy => by
    obtain ⟨j, hj, rfl⟩ := List.mem_iff_getElem.1 hy
    rw [List.getElem_drop, List.getElem_take, getE]
    rw [List.length_drop, List.length_take] at hj
    exact H.mid (lt + j) (by omega) (by omega)
  have e3 : ∀ y ∈ M.drop gt, x < y := fun y hy => by
    obtain ⟨j, hj, rfl⟩ := List.mem_iff_getElem.1 hy
    rw [List.getElem_drop, getE]
    rw [List.length_drop] at hj
    exact H.high (gt + j) (by omega) (by omega)
  have hM : M = M.take lt ++ (M.take gt).drop lt ++ M.drop gt := by
    have : M.take lt = (M.take gt).take lt := by rw [List.take_take]; congr 1; omega
    rw [this, List.take_append_drop, List.take_append_drop]
  refine asc_unique swI (fun a b h1 h2 => by simp [ltI] at h1 h2; omega) ?_ ?_ (srt_asc swI L)
  · refine List.Perm.trans ?_ (hp.trans (srt_perm L).symm)
    conv => rhs; rw [hM]
    exact ((srt_perm _).append_right _).append (srt_perm _)
  · refine asc_append.2 ⟨asc_append.2 ⟨srt_asc swI _, ?_, ?_⟩, srt_asc swI _, ?_⟩
    · rw [Asc, List.pairwise_iff_getElem]
      intro a b ha hb hab
      rw [e2 _ (List.getElem_mem ha), e2 _ (List.getElem_mem hb)]
      simp [ltI]
    · intro a ha b hb
      have h1 := e1 a (srt_mem.1 ha)
      have h2 := e2 b hb
      simp only [ltI, decide_eq_false_iff_not]; omega
    · intro a ha b hb
      have h3 := e3 b (srt_mem.1 hb)
      rcases List.mem_append.1 ha with ha | ha
      · have h1 := e1 a (srt_mem.1 ha)
        simp only [ltI, decide_eq_false_iff_not]; omega
      · have h1 := e2 a ha
        simp only [ltI, decide_eq_false_iff_not]; omega

/-- The median of three: the place i of the three places. -/
def plc (n i : Nat) : Nat := if i = 0 then 0 else if i = 1 then n / 2 else n - 1
def lowAt (L : List Int) (i k : Nat) : Bool := (List.range k).any fun j => decide (j ≠ i) && decide (L.getD (plc L.length j) 0 ≤ L.getD (plc L.length i) 0)
def highAt (L : List Int) (i k : Nat) : Bool := (List.range k).any fun j => decide (j ≠ i) && decide (L.getD (plc L.length i) 0 ≤ L.getD (plc L.length j) 0)
def medOk (L : List Int) (i : Nat) : Bool := lowAt L i 3 && highAt L i 3
def med (L : List Int) : Nat := if medOk L 0 then plc L.length 0 else if medOk L 1 then plc L.length 1 else if medOk L 2 then plc L.length 2 else 0
theorem lowAt_succ (L : List Int) (i k : Nat) : lowAt L i (k + 1) = (lowAt L i k || (decide (k ≠ i) && decide (L.getD (plc L.length k) 0 ≤ L.getD (plc L.length i) 0))) := by
  unfold lowAt; rw [List.range_succ, List.any_append, List.any_cons, List.any_nil, Bool.or_false]
theorem highAt_succ (L : List Int) (i k : Nat) : highAt L i (k + 1) = (highAt L i k || (decide (k ≠ i) && decide (L.getD (plc L.length i) 0 ≤ L.getD (plc L.length k) 0))) := by
  unfold highAt; rw [List.range_succ, List.any_append, List.any_cons, List.any_nil, Bool.or_false]
theorem plc_lt {n i : Nat} (h : 0 < n) : plc n i < n := by unfold plc; split <;> (try split) <;> omega
theorem med_lt {L : List Int} (h : 0 < L.length) : med L < L.length := by
  unfold med
  split
  · exact plc_lt h
  · split
    · exact plc_lt h
    · split
      · exact plc_lt h
      · exact h
/-- The median's search goes on at place i. -/
def medFrom (L : List Int) : Nat → Nat
  | 0 => med L
  | 1 => if medOk L 1 then plc L.length 1 else if medOk L 2 then plc L.length 2 else 0
  | 2 => if medOk L 2 then plc L.length 2 else 0
  | _ => 0
theorem medFrom_step {L : List Int} {i : Nat} (hi : i < 3) : medFrom L i = if medOk L i then plc L.length i else medFrom L (i + 1) := by
  match i, hi with
  | 0, _ => rfl
  | 1, _ => rfl
  | 2, _ => rfl

/-- Sorting by partitioning: the list, the steps, the parts that a heap sorted. -/
def qk (small : Nat) : Nat → List Int → List Int × Nat × Nat
  | 0, L => if L.length ≤ small then ((gapd 1 L).1, 0, 0) else ((hsort 2 L).1, 0, 1)
  | lim + 1, L =>
    if L.length ≤ small then ((gapd 1 L).1, 0, 0)
    else
      let t := tw (L.getD (med L) 0) L 0 0 L.length
      ((qk small lim (t.1.take t.2.1)).1 ++ (t.1.take t.2.2).drop t.2.1 ++ (qk small lim (t.1.drop t.2.2)).1, 1 + (qk small lim (t.1.take t.2.1)).2.1 + (qk small lim (t.1.drop t.2.2)).2.1, (qk small lim (t.1.take t.2.1)).2.2 + (qk small lim (t.1.drop t.2.2)).2.2)
theorem qk_small {small lim : Nat} {L : List Int} (h : L.length ≤ small) : qk small lim L = ((gapd 1 L).1, 0, 0) := by cases lim <;> rw [qk, if_pos h]
theorem qk_zero {small : Nat} {L : List Int} (h : ¬ L.length ≤ small) : qk small 0 L = ((hsort 2 L).1, 0, 1) := by rw [qk, if_neg h]
theorem qk_succ {small lim : Nat} {L : List Int} (h : ¬ L.length ≤ small) : qk small (lim + 1) L =
    ((qk small lim ((tw (L.getD (med L) 0) L 0 0 L.length).1.take (tw (L.getD (med L) 0) L 0 0 L.length).2.1)).1 ++ ((tw (L.getD (med L) 0) L 0 0 L.length).1.take (tw (L.getD (med L) 0) L 0 0 L.length).2.2).drop (tw (L.getD (med L) 0) L 0 0 L.length).2.1 ++ (qk small lim ((tw (L.getD (med L) 0) L 0 0 L.length).1.drop (tw (L.getD (med L) 0) L 0 0 L.length).2.2)).1,
     1 + (qk small lim ((tw (L.getD (med L) 0) L 0 0 L.length).1.take (tw (L.getD (med L) 0) L 0 0 L.length).2.1)).2.1 + (qk small lim ((tw (L.getD (med L) 0) L 0 0 L.length).1.drop (tw (L.getD (med L) 0) L 0 0 L.length).2.2)).2.1,
     (qk small lim ((tw (L.getD (med L) 0) L 0 0 L.length).1.take (tw (L.getD (med L) 0) L 0 0 L.length).2.1)).2.2 + (qk small lim ((tw (L.getD (med L) 0) L 0 0 L.length).1.drop (tw (L.getD (med L) 0) L 0 0 L.length).2.2)).2.2) := by
  rw [qk, if_neg h]
theorem qk_sorts (small : Nat) : ∀ (lim : Nat) (L : List Int), (qk small lim L).1 = srtI L := by
  intro lim
  induction lim with
  | zero =>
    intro L
    by_cases h : L.length ≤ small
    · rw [qk_small h]; exact gapd_sorts L
    · rw [qk_zero h]; exact hsort_sorts (by omega) L
  | succ lim ih =>
    intro L
    by_cases h : L.length ≤ small
    · rw [qk_small h]; exact gapd_sorts L
    · rw [qk_succ h]
      show (qk small lim _).1 ++ _ ++ (qk small lim _).1 = _
      rw [ih, ih]
      obtain ⟨h1, h2⟩ := tw_start (L.getD (med L) 0) L
      exact tw_join h1 h2
theorem tw_mid_pos {x : Int} {L M : List Int} {lt gt : Nat} (hp : M.Perm L) (H : Tw x M lt gt gt) (hx : x ∈ L) : lt < gt := by
  have h1 := H.b1
  rcases Nat.lt_or_ge lt gt with h | h
  · exact h
  · exfalso
    have hm : x ∈ M := hp.mem_iff.2 hx
    obtain ⟨j, hj, e⟩ := List.mem_iff_getElem.1 hm
    rw [getE hj] at e
    rcases Nat.lt_or_ge j lt with h2 | h2
    · have := H.low j h2; omega
    · have := H.high j (by omega) hj; omega
theorem mem_getD {L : List Int} {i : Nat} (h : i < L.length) : L.getD i 0 ∈ L := by rw [← getE h]; exact List.getElem_mem h
theorem qk_count {small : Nat} (hs : 1 ≤ small) : ∀ (lim : Nat) (L : List Int), (qk small lim L).2.1 ≤ L.length ∧ (qk small lim L).2.2 ≤ L.length := by
  intro lim
  induction lim with
  | zero =>
    intro L
    by_cases h : L.length ≤ small
    · rw [qk_small h]; exact ⟨Nat.zero_le _, Nat.zero_le _⟩
    · rw [qk_zero h]; exact ⟨Nat.zero_le _, by show 1 ≤ _; omega⟩
  | succ lim ih =>
    intro L
    by_cases h : L.length ≤ small
    · rw [qk_small h]; exact ⟨Nat.zero_le _, Nat.zero_le _⟩
    · rw [qk_succ h]
      obtain ⟨h1, h2⟩ := tw_start (L.getD (med L) 0) L
      have h3 := tw_mid_pos h1 h2 (mem_getD (med_lt (by omega)))
      have h4 := h1.length_eq
      have h5 := h2.b3
      generalize tw (L.getD (med L) 0) L 0 0 L.length = t at *
      obtain ⟨a1, a2⟩ := ih (t.1.take t.2.1)
      obtain ⟨b1, b2⟩ := ih (t.1.drop t.2.2)
      rw [List.length_take] at a1 a2
      rw [List.length_drop] at b1 b2
      exact ⟨by show 1 + _ + _ ≤ _; omega, by show _ + _ ≤ _; omega⟩
end Go.Proofs.Ytaaogoajhdaekaa.Es

namespace Go.Proofs.Ytaaogoajhdaekaa.Es
open Mg
set_option linter.unusedVariables false

/-- Binary search in an ascending list: x belongs between lo and hi. -/
structure Bs (A : List Int) (x : Int) (lo hi : Nat) : Prop where
  low : ∀ j, j < lo → A.getD j 0 ≤ x
  high : ∀ j, hi ≤ j → j < A.length → x < A.getD j 0
  b1 : lo ≤ hi
  b2 : hi ≤ A.length
theorem Bs.start (A : List Int) (x : Int) : Bs A x 0 A.length := ⟨fun j h => by omega, fun j h h2 => by omega, by omega, by omega⟩
theorem Bs.left {A : List Int} {x : Int} {lo hi m : Nat} (h : Bs A x lo hi) (hA : AscTo A A.length) (h1 : lo ≤ m) (h2 : m < hi) (hx : x < A.getD m 0) : Bs A x lo m :=
  ⟨h.low, fun j h3 h4 => by
    by_cases e : j = m
    · subst e; exact hx
    · have := hA m j (by omega) h4; omega, h1, by have := h.b2; omega⟩
theorem Bs.right {A : List Int} {x : Int} {lo hi m : Nat} (h : Bs A x lo hi) (hA : AscTo A A.length) (h1 : lo ≤ m) (h2 : m < hi) (hx : ¬ x < A.getD m 0) : Bs A x (m + 1) hi :=
  ⟨fun j h3 => by
    by_cases e : j = m
    · subst e; omega
    · have := hA j m (by omega) (by have := h.b2; omega); omega, h.high, by omega, h.b2⟩
theorem Bs.done {l R : List Int} {x : Int} {k : Nat} (h : Bs (srtI l) x k k) : insSt (srtI l) x k R = srtI (l ++ [x]) ++ R := by
  have hk := h.b2
  refine insSt_srt swI hk (fun b hb => ?_) fun h0 => ?_
  · change b ∈ (srtI l).drop k at hb
    obtain ⟨j, hj, rfl⟩ := List.mem_iff_getElem.1 hb
    rw [List.length_drop] at hj
    have e := getE (show k + j < (srtI l).length by omega)
    rw [List.getElem_drop, e]
    have := h.high (k + j) (by omega) (by omega)
    simp only [ltI, decide_eq_true_eq]; exact this
  · have := h.low (k - 1) (by omega)
    have e := getE (L := srtI l) (i := k - 1) (by omega)
    show ltI x ((srtI l)[k - 1]) = false
    rw [e]
    simp only [ltI, decide_eq_false_iff_not]; omega
/-- An element shifted out, and put in at lo. -/
theorem ins_shift {A R : List Int} {x : Int} {lo : Nat} (h : lo ≤ A.length) : ((A ++ x :: R).take (lo + 1) ++ A.drop lo ++ R).set lo x = insSt A x lo R := by
  have hl : (A.take lo).length = lo := by rw [List.length_take]; omega
  have e1 : ∃ z, (A ++ x :: R).take (lo + 1) = A.take lo ++ [z] := by
    by_cases e : lo = A.length
    · subst e
      refine ⟨x, ?_⟩
      rw [List.take_append, List.take_of_length_le (by omega), Nat.add_sub_cancel_left, List.take_of_length_le (Nat.le_refl _)]
      rfl
    · refine ⟨A[lo]'(by omega), ?_⟩
      rw [List.take_append_of_le_length (by omega), List.take_add_one, List.getElem?_eq_getElem (by omega)]; rfl
  obtain ⟨z, hz⟩ := e1
  unfold insSt
  rw [hz, List.append_assoc, List.append_assoc, List.set_append, if_neg (by omega), hl, Nat.sub_self]
  simp

/-- The first i elements are the least, in order. -/
def SelTo (L : List Int) (i : Nat) : Prop := ∀ a b, a < i → a < b → b < L.length → L.getD a 0 ≤ L.getD b 0
theorem SelTo.step {L : List Int} {i m : Nat} (h : SelTo L i) (hi : i < L.length) (h1 : i ≤ m) (h2 : m < L.length) (hm : ∀ j, i ≤ j → j < L.length → L.getD m 0 ≤ L.getD j 0) : SelTo (swp L i m) (i + 1) := by
  intro a b ha hab hb
  rw [swp_len] at hb
  rw [swp_get hi h2, swp_get hi h2]
  by_cases e1 : a = i
  · subst e1
    by_cases e2 : a = m
    · subst e2
      rw [if_pos rfl, if_neg (by omega), if_neg (by omega)]
      exact hm b (by omega) hb
    · rw [if_neg e2, if_pos rfl]
      split
      · exact hm a (by omega) hi
      · rw [if_neg (by omega)]; exact hm b (by omega) hb
  · rw [if_neg (by omega), if_neg e1]
    split
    · exact h a i (by omega) (by omega) hi
    · split
      · exact h a m (by omega) (by omega) h2
      · exact h a b (by omega) hab hb
theorem SelTo.done {L zs : List Int} (h : SelTo L L.length) (hp : L.Perm zs) : L = srtI zs :=
  sorted_of hp (fun a b hab hb => h a b (by omega) hab hb)

/-- The number of inversions. -/
def inv : List Int → Nat
  | [] => 0
  | x :: l => l.countP (fun y => decide (y < x)) + inv l
theorem inv_le : ∀ L : List Int, inv L ≤ L.length * L.length
  | [] => Nat.le_refl _
  | x :: l => by
    have h1 := inv_le l
    have h2 : l.countP (fun y => decide (y < x)) ≤ l.length := List.countP_le_length
    show l.countP (fun y => decide (y < x)) + inv l ≤ (l.length + 1) * (l.length + 1)
    rw [Nat.add_mul, Nat.mul_add, Nat.one_mul, Nat.mul_one]
    omega
theorem inv_swap {x y : Int} (h : y < x) (B : List Int) : ∀ A : List Int, inv (A ++ y :: x :: B) + 1 = inv (A ++ x :: y :: B)
  | [] => by
    show (x :: B).countP _ + (B.countP _ + inv B) + 1 = (y :: B).countP _ + (B.countP _ + inv B)
    rw [List.countP_cons, List.countP_cons, if_neg (by simp; omega), if_pos (by simp; omega)]
    omega
  | a :: A => by
    have ih := inv_swap h B A
    show List.countP _ (A ++ y :: x :: B) + inv (A ++ y :: x :: B) + 1 = List.countP _ (A ++ x :: y :: B) + inv (A ++ x :: y :: B)
    rw [List.Perm.countP_eq _ ((List.Perm.swap x y B).append_left A)]
    omega
theorem swp_next {L : List Int} {i : Nat} (hi : i + 1 < L.length) : L = L.take i ++ L.getD i 0 :: L.getD (i + 1) 0 :: L.drop (i + 2) ∧ swp L i (i + 1) = L.take i ++ L.getD (i + 1) 0 :: L.getD i 0 :: L.drop (i + 2) := by
  have h1 : L = L.take i ++ L.getD i 0 :: L.getD (i + 1) 0 :: L.drop (i + 2) := by
    conv => lhs; rw [← List.take_append_drop i L, List.drop_eq_getElem_cons (show i < L.length by omega), List.drop_eq_getElem_cons hi, getE, getE]
  refine ⟨h1, ?_⟩
  generalize L.getD i 0 = x at *
  generalize L.getD (i + 1) 0 = y at *
  have hl : (L.take i).length = i := by rw [List.length_take]; omega
  have e1 : L.getD i 0 = x := by
    rw [h1, List.getD_eq_getElem?_getD, List.getElem?_append_right (by omega), hl, Nat.sub_self]; rfl
  have e2 : L.getD (i + 1) 0 = y := by
    rw [h1, List.getD_eq_getElem?_getD, List.getElem?_append_right (by omega), hl, Nat.add_sub_cancel_left]; rfl
  unfold swp
  rw [e1, e2]
  generalize L.take i = A at *
  generalize L.drop (i + 2) = B at *
  subst h1
  rw [List.set_append, if_neg (by omega), hl, Nat.sub_self, List.set_cons_zero, List.set_append, if_neg (by omega), hl, Nat.add_sub_cancel_left, List.set_cons_succ, List.set_cons_zero]
theorem inv_next {L : List Int} {i : Nat} (hi : i + 1 < L.length) (h : L.getD (i + 1) 0 < L.getD i 0) : inv (swp L i (i + 1)) + 1 = inv L := by
  obtain ⟨h1, h2⟩ := swp_next hi
  rw [h2, inv_swap h]
  exact congrArg inv h1.symm
/-- Neighbours in order: the list is in order. -/
theorem asc_next {L : List Int} (h : ∀ j, j + 1 < L.length → L.getD j 0 ≤ L.getD (j + 1) 0) : AscTo L L.length := by
  intro a b hab hb
  induction b with
  | zero => omega
  | succ b ih =>
    have h1 := h b (by omega)
    by_cases e : a = b
    · subst e; exact h1
    · have := ih (by omega) (by omega); omega
end Go.Proofs.Ytaaogoajhdaekaa.Es

