/- Several texts in one: lemmas and walks of the functions that the laws reach. -/
import Derived.Test.YtkckmjajjdpodaaY1
import Derived.Test.YtkckmjajjdpodaaY28
import Derived.Test.YtkckmjajjdpodaaY4
import Derived.Test.YtkckmjajjdpodaaY5
import Derived.Test.YtkckmjajjdpodaaY6
import Derived.Test.YtkckmjajjdpodaaY2
import Derived.OrdersHeld
import Derived.OwnWalk

/- Plain law: sorting stably by one key and then by another is sorting by both; digit by digit. No program in sight. -/
namespace Go.Proofs.Ytkckmjajjdpodaa.Mg
set_option linter.unusedVariables false

section
variable {α : Type}

theorem mrg_congr {lt1 lt2 : α → α → Bool} : ∀ {l r : List α}, (∀ x ∈ l, ∀ y ∈ r, lt1 y x = lt2 y x) → mrg lt1 l r = mrg lt2 l r
  | [], r, _ => by rw [mrg_nil, mrg_nil]
  | x :: l, [], _ => by rw [nil_mrg, nil_mrg]
  | x :: l, y :: r, h => by
    have i1 := mrg_congr (l := x :: l) (r := r) (fun a ha b hb => h a ha b (List.mem_cons_of_mem _ hb))
    have i2 := mrg_congr (l := l) (r := y :: r) (fun a ha b hb => h a (List.mem_cons_of_mem _ ha) b hb)
    have hxy := h x (by simp) y (by simp)
    cases hc : lt1 y x
    · rw [mrg_ge hc, mrg_ge (hxy.symm.trans hc), i2]
    · rw [mrg_lt hc, mrg_lt (hxy.symm.trans hc), i1]
termination_by l r => l.length + r.length

theorem mrg_comm {lt : α → α → Bool} (S : SW lt) : ∀ {l r : List α}, (∀ x ∈ l, ∀ y ∈ r, lt x y = true ∨ lt y x = true) → mrg lt l r = mrg lt r l
  | [], r, _ => by rw [mrg_nil, nil_mrg]
  | x :: l, [], _ => by rw [mrg_nil, nil_mrg]
  | x :: l, y :: r, h => by
    have i1 := mrg_comm S (l := x :: l) (r := r) (fun a ha b hb => h a ha b (List.mem_cons_of_mem _ hb))
    have i2 := mrg_comm S (l := l) (r := y :: r) (fun a ha b hb => h a (List.mem_cons_of_mem _ ha) b hb)
    cases hc : lt y x
    · have hd : lt x y = true := by rcases h x (by simp) y (by simp) with h | h; exact h; rw [hc] at h; cases h
      rw [mrg_ge hc, mrg_lt hd, i2]
    · rw [mrg_lt hc, mrg_ge (S.asym _ _ hc), i1]
termination_by l r => l.length + r.length

theorem asc_cut {lt : α → α → Bool} (S : SW lt) (x : α) : ∀ {A : List α}, Asc lt A → ∃ A1 A2, A = A1 ++ A2 ∧ (∀ a ∈ A1, lt x a = false) ∧ ∀ b ∈ A2, lt x b = true
  | [], _ => ⟨[], [], rfl, by simp, by simp⟩
  | a :: t, h => by
    cases hc : lt x a
    · obtain ⟨A1, A2, e, h1, h2⟩ := asc_cut S x (asc_cons.1 h).2
      refine ⟨a :: A1, A2, by rw [e]; rfl, fun b hb => ?_, h2⟩
      rcases List.mem_cons.1 hb with rfl | hb
      · exact hc
      · exact h1 b hb
    · refine ⟨[], a :: t, rfl, by simp, fun b hb => ?_⟩
      rcases List.mem_cons.1 hb with rfl | hb
      · exact hc
      · rcases S.neg x b a hc with h3 | h3
        · exact h3
        · rw [(asc_cons.1 h).1 b hb] at h3; cases h3

/-- The order by g, among equal ones by f. -/
def Lex (g f h : α → Int) : Prop := ∀ a b, h a < h b ↔ g a < g b ∨ g a = g b ∧ f a < f b

theorem srt_lex {g f h : α → Int} (H : Lex g f h) (l : List α) : srt (ltK g) (srt (ltK f) l) = srt (ltK h) l := by
  refine list_snoc (P := fun l => srt (ltK g) (srt (ltK f) l) = srt (ltK h) l) rfl ?_ l
  intro l x ih
  obtain ⟨A1, A2, e, h1, h2⟩ := asc_cut (swK f) x (srt_asc (swK f) l)
  have f1 : ∀ a ∈ A1, f a ≤ f x := fun a ha => by have := h1 a ha; simp only [ltK, decide_eq_false_iff_not] at this; omega
  have f2 : ∀ a ∈ A2, f x < f a := fun a ha => by have := h2 a ha; simpa only [ltK, decide_eq_true_eq] using this
  have e1 : srt (ltK f) (l ++ [x]) = A1 ++ ([x] ++ A2) := by
    rw [srt_snoc, e, mrg_down h2, mrg_stop h1, List.append_assoc]
  have m1 : ∀ a, a ∈ srt (ltK g) A1 → f a ≤ f x := fun a ha => f1 a (srt_mem.1 ha)
  have m2 : ∀ a, a ∈ srt (ltK g) A2 → f x < f a := fun a ha => f2 a (srt_mem.1 ha)
  have key : ∀ a b, f a ≤ f b → ltK g b a = ltK h b a := fun a b hab => by
    have hh := H b a
    simp only [ltK]
    by_cases hg : g b < g a
    · rw [decide_eq_true hg, decide_eq_true (hh.2 (.inl hg))]
    · rw [decide_eq_false hg, decide_eq_false (fun h3 => by rcases hh.1 h3 with h4 | ⟨_, h4⟩ <;> omega)]
  have c1 : mrg (ltK g) (srt (ltK g) A1) (srt (ltK g) A2) = mrg (ltK h) (srt (ltK g) A1) (srt (ltK g) A2) :=
    mrg_congr fun a ha b hb => key a b (by have := m1 a ha; have := m2 b hb; omega)
  have c2 : mrg (ltK g) [x] (srt (ltK g) A2) = mrg (ltK h) [x] (srt (ltK g) A2) :=
    mrg_congr fun a ha b hb => key a b (by rw [List.mem_singleton.1 ha]; have := m2 b hb; omega)
  have c3 : mrg (ltK h) [x] (srt (ltK g) A2) = mrg (ltK h) (srt (ltK g) A2) [x] :=
    mrg_comm (swK h) fun a ha b hb => by
      rw [List.mem_singleton.1 ha]
      have hb2 := m2 b hb
      have k1 := H x b
      have k2 := H b x
      simp only [ltK, decide_eq_true_eq]
      rcases Int.lt_trichotomy (g x) (g b) with h3 | h3 | h3
      · exact .inl (k1.2 (.inl h3))
      · exact .inl (k1.2 (.inr ⟨h3, hb2⟩))
      · exact .inr (k2.2 (.inl h3))
  have c4 : mrg (ltK g) (srt (ltK g) A1) (mrg (ltK h) [x] (srt (ltK g) A2)) = mrg (ltK h) (srt (ltK g) A1) (mrg (ltK h) [x] (srt (ltK g) A2)) :=
    mrg_congr fun a ha b hb => key a b (by
      have h3 := m1 a ha
      rcases mrg_mem.1 hb with hb | hb
      · rw [List.mem_singleton.1 hb]; exact h3
      · have := m2 b hb; omega)
  rw [e1, srt_append (swK g), srt_append (swK g), srt_one, c2, c4, c3, ← mrg_assoc (swK h), ← c1, ← srt_append (swK g), ← e, ih, srt_snoc]
end

/-- The digits of a number. -/
def dgN (B p n : Nat) : Nat := n / B ^ p % B
theorem dgN_zero (B n : Nat) : dgN B 0 n = n % B := by simp [dgN]
theorem dgN_succ (B p n : Nat) : dgN B (p + 1) n = dgN B p (n / B) := by
  unfold dgN
  rw [Nat.div_div_eq_div_mul, Nat.pow_succ, Nat.mul_comm]
theorem dgN_lt {B p n : Nat} (hB : 0 < B) : dgN B p n < B := Nat.mod_lt _ hB
theorem mod_step (B p n : Nat) : n % B ^ (p + 1) = dgN B p n * B ^ p + n % B ^ p := by
  unfold dgN
  rw [Nat.pow_succ, Nat.mod_mul, Nat.mul_comm, Nat.add_comm]
theorem lt_step {B p n m : Nat} (hB : 0 < B) : n % B ^ (p + 1) < m % B ^ (p + 1) ↔ dgN B p n < dgN B p m ∨ dgN B p n = dgN B p m ∧ n % B ^ p < m % B ^ p := by
  rw [mod_step, mod_step]
  have h1 := Nat.mod_lt n (Nat.pow_pos (n := p) hB)
  have h2 := Nat.mod_lt m (Nat.pow_pos (n := p) hB)
  generalize B ^ p = q at h1 h2 ⊢
  generalize n % q = a at h1 ⊢
  generalize m % q = b at h2 ⊢
  generalize dgN B p n = x
  generalize dgN B p m = y
  constructor
  · intro h
    rcases Nat.lt_trichotomy x y with h3 | h3 | h3
    · exact .inl h3
    · subst h3; exact .inr ⟨rfl, by omega⟩
    · have h4 : (y + 1) * q ≤ x * q := Nat.mul_le_mul_right q h3
      rw [Nat.add_mul, Nat.one_mul] at h4
      omega
  · intro h
    rcases h with h3 | ⟨h3, h4⟩
    · have h4 : (x + 1) * q ≤ y * q := Nat.mul_le_mul_right q h3
      rw [Nat.add_mul, Nat.one_mul] at h4
      omega
    · subst h3; omega

/-- A record's key, shifted; its digit; what its first digits are. -/
def nk (r : Int × Int) : Nat := (r.1 + 100000).toNat
def dgK (B p : Nat) (r : Int × Int) : Int := (dgN B p (nk r) : Nat)
def loK (B p : Nat) (r : Int × Int) : Int := (nk r % B ^ p : Nat)
theorem lex_dg {B p : Nat} (hB : 0 < B) : Lex (dgK B p) (loK B p) (loK B (p + 1)) := fun a b => by
  unfold dgK loK
  have := lt_step (B := B) (p := p) (n := nk a) (m := nk b) hB
  omega
/-- The list behind p passes. -/
def pasS (B p : Nat) (l : List (Int × Int)) : List (Int × Int) := srt (ltK (loK B p)) l
theorem pas_zero (B : Nat) (l : List (Int × Int)) : pasS B 0 l = l := by
  refine srt_of_asc ?_
  refine List.Pairwise.imp ?_ (List.pairwise_of_forall (R := fun _ _ => True) (fun _ _ => trivial))
  intro a b _
  simp [ltK, loK, Nat.mod_one]
theorem pas_succ {B p : Nat} (hB : 0 < B) (l : List (Int × Int)) : srt (ltK (dgK B p)) (pasS B p l) = pasS B (p + 1) l := srt_lex (lex_dg hB) l
theorem srt_congr {α : Type} {lt1 lt2 : α → α → Bool} {l : List α} (h : ∀ a ∈ l, ∀ b ∈ l, lt1 a b = lt2 a b) : srt lt1 l = srt lt2 l := by
  revert h
  refine list_snoc (P := fun l => (∀ a ∈ l, ∀ b ∈ l, lt1 a b = lt2 a b) → srt lt1 l = srt lt2 l) (fun _ => rfl) ?_ l
  intro l x ih h
  rw [srt_snoc, srt_snoc, ih (fun a ha b hb => h a (List.mem_append_left _ ha) b (List.mem_append_left _ hb))]
  exact mrg_congr fun a ha b hb => h b (List.mem_append_right _ hb) a (List.mem_append_left _ (srt_mem.1 ha))
/-- Enough passes sort by the key. -/
theorem pas_all {B p : Nat} {l : List (Int × Int)} (hl : ∀ r ∈ l, -100000 ≤ r.1 ∧ nk r < B ^ p) : pasS B p l = srt (ltK Prod.fst) l := by
  refine srt_congr fun a ha b hb => ?_
  have h1 := hl a ha
  have h2 := hl b hb
  have e1 : loK B p a = (nk a : Nat) := by unfold loK; rw [Nat.mod_eq_of_lt h1.2]
  have e2 : loK B p b = (nk b : Nat) := by unfold loK; rw [Nat.mod_eq_of_lt h2.2]
  unfold nk at e1 e2
  exact decide_eq_decide.2 (by omega)
theorem pas_len (B p : Nat) (l : List (Int × Int)) : (pasS B p l).length = l.length := srt_length l
theorem pas_mem {B p : Nat} {l : List (Int × Int)} {r : Int × Int} : r ∈ pasS B p l ↔ r ∈ l := srt_mem

/-- The sum of the first digits at their places. -/
def sumD (B n : Nat) : Nat → Nat
  | 0 => 0
  | k + 1 => sumD B n k + dgN B k n * B ^ k
theorem sumD_is (B n : Nat) : ∀ k, sumD B n k = n % B ^ k
  | 0 => by simp [sumD, Nat.mod_one]
  | k + 1 => by rw [sumD, sumD_is B n k, mod_step]; omega

/-- The number of digits. -/
def nd (B n : Nat) : Nat := if h : 0 < n / B ∧ 2 ≤ B then 1 + nd B (n / B) else 1
termination_by n
decreasing_by exact Nat.div_lt_self (Nat.pos_of_ne_zero (fun e => by rw [e] at h; simp at h)) h.2
theorem nd_go {B n : Nat} (h : 0 < n / B) (hB : 2 ≤ B) : nd B n = 1 + nd B (n / B) := by rw [nd, dif_pos ⟨h, hB⟩]
theorem nd_end {B n : Nat} (h : n / B = 0) : nd B n = 1 := by rw [nd, dif_neg (by omega)]
theorem nd_pow {B : Nat} (hB : 2 ≤ B) : ∀ (k n : Nat), n ≤ k → n < B ^ nd B n
  | 0, n, h => by
    have h0 : n = 0 := by omega
    subst h0
    exact Nat.pow_pos (by omega)
  | k + 1, n, h => by
    by_cases h1 : 0 < n / B
    · have h2 : n / B < n := Nat.div_lt_self (Nat.pos_of_ne_zero (fun e => by rw [e] at h1; simp at h1)) hB
      have ih := nd_pow hB k (n / B) (by omega)
      rw [nd_go h1 hB, Nat.add_comm, Nat.pow_succ]
      exact (Nat.div_lt_iff_lt_mul (by omega)).1 ih
    · have h2 : n / B = 0 := Nat.eq_zero_of_not_pos h1
      rw [nd_end h2, Nat.pow_one]
      rcases Nat.div_eq_zero_iff.1 h2 with h3 | h3
      · omega
      · exact h3
theorem nd_le {B : Nat} (hB : 2 ≤ B) : ∀ (k n : Nat), n < B ^ (k + 1) → nd B n ≤ k + 1
  | 0, n, h => by
    rw [nd_end (Nat.div_eq_of_lt (by simpa using h))]; exact Nat.le_refl _
  | k + 1, n, h => by
    by_cases h1 : 0 < n / B
    · rw [nd_go h1 hB]
      have h2 : n / B < B ^ (k + 1) := (Nat.div_lt_iff_lt_mul (by omega)).2 (by rw [← Nat.pow_succ]; exact h)
      have := nd_le hB k (n / B) h2
      omega
    · rw [nd_end (Nat.eq_zero_of_not_pos h1)]; omega
theorem nd_18 {B n : Nat} (hB : 2 ≤ B) (hn : n ≤ 200000) : nd B n ≤ 18 := by
  refine nd_le hB 17 n ?_
  have h1 : 2 ^ 18 ≤ B ^ 18 := Nat.pow_le_pow_left hB 18
  have h2 : (2 : Nat) ^ 18 = 262144 := by decide
  show n < B ^ 18
  omega
/-- The greatest key of a list, shifted. -/
def mxN : List (Int × Int) → Nat
  | [] => 0
  | r :: l => max (nk r) (mxN l)
theorem mxN_ge {l : List (Int × Int)} : ∀ r ∈ l, nk r ≤ mxN l := by
  induction l with
  | nil => intro r h; cases h
  | cons a t ih =>
    intro r h
    rcases List.mem_cons.1 h with rfl | h
    · exact Nat.le_max_left _ _
    · exact Nat.le_trans (ih r h) (Nat.le_max_right _ _)
theorem mxN_le {l : List (Int × Int)} {b : Nat} (h : ∀ r ∈ l, nk r ≤ b) : mxN l ≤ b := by
  induction l with
  | nil => exact Nat.zero_le _
  | cons a t ih => exact Nat.max_le.2 ⟨h a (by simp), ih (fun r hr => h r (List.mem_cons_of_mem _ hr))⟩
theorem mxN_is {l : List (Int × Int)} {m : Int × Int} (hm : m ∈ l) (h : ∀ r ∈ l, r.1 ≤ m.1) : mxN l = nk m := by
  refine Nat.le_antisymm (mxN_le fun r hr => ?_) (mxN_ge m hm)
  have := h r hr
  unfold nk; omega
def npL (B : Nat) (l : List (Int × Int)) : Nat := if l.isEmpty then 0 else nd B (mxN l)
theorem npL_18 {B : Nat} {l : List (Int × Int)} (hB : 2 ≤ B) (hl : ∀ r ∈ l, -100000 ≤ r.1 ∧ r.1 ≤ 100000) : npL B l ≤ 18 := by
  unfold npL
  split
  · omega
  · exact nd_18 hB (mxN_le fun r hr => by have := hl r hr; unfold nk; omega)
/-- So many passes sort by the key. -/
theorem pas_np {B : Nat} {l : List (Int × Int)} (hB : 2 ≤ B) (hl : ∀ r ∈ l, -100000 ≤ r.1 ∧ r.1 ≤ 100000) : pasS B (npL B l) l = srt (ltK Prod.fst) l := by
  refine pas_all fun r hr => ⟨(hl r hr).1, ?_⟩
  unfold npL
  rw [if_neg (by intro e; have := List.isEmpty_iff.1 e; rw [this] at hr; cases hr)]
  exact Nat.lt_of_le_of_lt (mxN_ge r hr) (nd_pow hB _ _ (Nat.le_refl _))

end Go.Proofs.Ytkckmjajjdpodaa.Mg

/- Plain law: the places of a stable sort, and their inverse. -/
namespace Go.Proofs.Ytkckmjajjdpodaa
open Go.RowKit Go.Sort
set_option linter.unusedVariables false

theorem mrg_mapF {α β : Type} {lt1 : α → α → Bool} {lt2 : β → β → Bool} (f : α → β) (h : ∀ a b, lt1 a b = lt2 (f a) (f b)) : ∀ (A B : List α), (Mg.mrg lt1 A B).map f = Mg.mrg lt2 (A.map f) (B.map f)
  | [], B => by simp [Mg.mrg_nil]
  | a :: A, [] => by simp [Mg.nil_mrg]
  | a :: A, b :: B => by
    cases hc : lt1 b a
    · rw [Mg.mrg_ge hc, List.map_cons, mrg_mapF f h A (b :: B), List.map_cons, List.map_cons, Mg.mrg_ge (by rw [← h]; exact hc)]
    · rw [Mg.mrg_lt hc, List.map_cons, mrg_mapF f h (a :: A) B, List.map_cons, List.map_cons, Mg.mrg_lt (by rw [← h]; exact hc)]
termination_by A B => A.length + B.length
theorem srt_mapF {α β : Type} {lt1 : α → α → Bool} {lt2 : β → β → Bool} (f : α → β) (h : ∀ a b, lt1 a b = lt2 (f a) (f b)) (l : List α) : (Mg.srt lt1 l).map f = Mg.srt lt2 (l.map f) := by
  refine Mg.list_snoc (P := fun l => (Mg.srt lt1 l).map f = Mg.srt lt2 (l.map f)) rfl ?_ l
  intro l x ih
  rw [Mg.srt_snoc, mrg_mapF f h, ih, List.map_append, List.map_cons, List.map_nil, Mg.srt_snoc]

theorem upTo_get {n i : Nat} (h : i < n) : (upTo n)[i]? = some (i : Int) := by
  unfold upTo
  rw [List.getElem?_map, List.getElem?_range h]; rfl
theorem map_upTo (L : List (Int × Int)) : (upTo L.length).map (fun i => L.getD i.toNat (0, 0)) = L := by
  refine List.ext_getElem? fun i => ?_
  rw [List.getElem?_map]
  rcases Nat.lt_or_ge i L.length with h | h
  · rw [upTo_get h, List.getElem?_eq_getElem h]
    simp [List.getD_eq_getElem?_getD, List.getElem?_eq_getElem h]
  · rw [List.getElem?_eq_none (by rw [upTo_len]; exact h), List.getElem?_eq_none h]; rfl
theorem keyAt_keys (L : List (Int × Int)) (i : Int) : keyAt (keysL L) i = (L.getD i.toNat (0, 0)).1 := by
  unfold keyAt keysL
  rw [List.getD_eq_getElem?_getD, List.getD_eq_getElem?_getD, List.getElem?_map]
  cases L[i.toNat]? <;> rfl
/-- The sorted list, through the places. -/
theorem sortP_keys (L : List (Int × Int)) : (sortP (keysL L)).map (fun i => L.getD i.toNat (0, 0)) = Mg.srt (Mg.ltK Prod.fst) L := by
  unfold sortP
  rw [srt_mapF (lt1 := Mg.ltK (keyAt (keysL L))) (lt2 := Mg.ltK Prod.fst) (fun i : Int => L.getD i.toNat (0, 0)) (fun a b => by unfold Mg.ltK; rw [keyAt_keys, keyAt_keys]), keysL_len, map_upTo]
theorem sortP_nodup (l : List Int) : (sortP l).Nodup := by
  unfold sortP
  rw [(Mg.srt_perm _).nodup_iff]
  unfold upTo
  exact List.Pairwise.map _ (fun a b h e => h (Int.ofNat.inj e)) List.nodup_range
theorem sortP_in {l : List Int} {x : Int} : x ∈ sortP l ↔ 0 ≤ x ∧ x < l.length := by
  unfold sortP
  rw [Mg.srt_mem]
  refine ⟨upTo_mem, fun h => ?_⟩
  refine List.mem_map.2 ⟨x.toNat, List.mem_range.2 (by omega), by simp; omega⟩
theorem sortP_at {l : List Int} {j : Nat} (h : j < l.length) : ∃ i : Nat, i < l.length ∧ (sortP l)[j]? = some (i : Int) := by
  have hj : j < (sortP l).length := by rw [sortP_len]; exact h
  have := sortP_in.1 (List.getElem_mem hj)
  exact ⟨((sortP l)[j]).toNat, by omega, by rw [List.getElem?_eq_getElem hj]; congr 1; omega⟩
theorem sortP_of {l : List Int} {i : Nat} (h : i < l.length) : ∃ j : Nat, j < l.length ∧ (sortP l)[j]? = some (i : Int) := by
  obtain ⟨j, hj, e⟩ := List.getElem_of_mem (sortP_in.2 (show 0 ≤ (i : Int) ∧ (i : Int) < l.length by omega))
  exact ⟨j, by rw [sortP_len] at hj; exact hj, by rw [List.getElem?_eq_getElem hj, e]⟩
theorem sortP_inj {l : List Int} {j k : Nat} {x : Int} (h1 : (sortP l)[j]? = some x) (h2 : (sortP l)[k]? = some x) : j = k := by
  obtain ⟨hj, e1⟩ := List.getElem?_eq_some_iff.1 h1
  obtain ⟨hk, e2⟩ := List.getElem?_eq_some_iff.1 h2
  have hn := List.pairwise_iff_getElem.1 (sortP_nodup l)
  rcases Nat.lt_trichotomy j k with h | h | h
  · exact absurd (e1.trans e2.symm) (hn j k hj hk h)
  · exact h
  · exact absurd (e2.trans e1.symm) (hn k j hk hj h)

/-- A list of numbers that undoes a permutation. -/
def InvOf (p q : List Int) : Prop := q.length = p.length ∧ ∀ (j i : Nat), p[j]? = some (i : Int) → q[i]? = some (j : Int)
theorem inv_use {L : List (Int × Int)} {q : List Int} (h : InvOf (sortP (keysL L)) q) {i : Nat} (hi : i < L.length) : ∃ j : Nat, j < L.length ∧ q[i]? = some (j : Int) ∧ (Mg.srt (Mg.ltK Prod.fst) L)[j]? = some (L.getD i (0, 0)) := by
  obtain ⟨j, hj, e⟩ := sortP_of (l := keysL L) (i := i) (by rw [keysL_len]; exact hi)
  rw [keysL_len] at hj
  refine ⟨j, hj, h.2 j i e, ?_⟩
  rw [← sortP_keys, List.getElem?_map, e]; rfl

end Go.Proofs.Ytkckmjajjdpodaa

/- Walks: the digits of a key. -/
namespace Go.Proofs.Ytkckmjajjdpodaa
open Go.RowKit Go.Sort
set_option linter.unusedVariables false

theorem div_quot {a b : Nat} (hb : 0 < b) : ((a : Int)).tdiv (b : Int) = ((a / b : Nat) : Int) := by
  rw [Int.tdiv_eq_ediv_of_nonneg (by omega), Int.natCast_ediv]
theorem mod_rem {a b : Nat} : ((a : Int)).tmod (b : Int) = ((a % b : Nat) : Int) := by
  rw [Int.tmod_eq_emod_of_nonneg (by omega), Int.natCast_emod]

set_option maxHeartbeats 1000000 in
theorem digit_any (k : Int) (B p : Nat) (w : World) (hk0 : -100000 ≤ k) (hk1 : k ≤ 100000) (hB : 2 ≤ B) (hB2 : B ≤ 256) (hp : p ≤ 17) :
    Calls Try.prog 114 #[.int .i64 k, .int .i64 B, .int .i64 p] w fun e w' => e = .returned (.int .i64 ((Mg.dgN B p (Mg.nk (k, 0)) : Nat) : Int)) ∧ w = w' := by
  obtain ⟨n, hn⟩ : ∃ n : Nat, k + 100000 = (n : Int) := ⟨(k + 100000).toNat, by omega⟩
  have hnk : Mg.nk (k, 0) = n := by unfold Mg.nk; simp only; omega
  rw [hnk]
  have hn2 : n ≤ 200000 := by omega
  have h3 : (B : Int) ≠ 0 := by omega
  have h4 : ((B : Int) == 0) = false := by rw [beq_eq_false_iff_ne]; exact h3
  clear hnk hk0 hk1
  go_enter Try.func114, Try.ntmps114
  go_wp2
  go_loopw [7, 11] (fun nv iv wr => ∃ i m : Nat, iv = .int .i64 i ∧ nv = .int .i64 m ∧ i ≤ p ∧ m ≤ 200000 ∧ Hid (Mg.dgN B (p - i) m = Mg.dgN B p n) ∧ w = wr) (fun _ iv _ => p - (intOf iv).toNat)
  case atStart => exact ⟨0, n, rfl, by first | rfl | (simp [hn]), by omega, by omega, Lib.hid (by rw [Nat.sub_zero]), rfl⟩
  case round =>
    obtain ⟨i, m, rfl, rfl, hi, hm, HD, rfl⟩ := hrel
    clear hn
    by_cases hlt : i < p
    · have q1 : decide ((i : Int) < (p : Int)) = true := decide_eq_true (by omega)
      have h5 : (m : Int).tdiv (B : Int) = ((m / B : Nat) : Int) := div_quot (by omega)
      have h6 : (m : Int) / (B : Int) = ((m / B : Nat) : Int) := (Int.natCast_ediv _ _).symm
      have hle : m / B ≤ m := Nat.div_le_self _ _
      have HX : Hid (Mg.dgN B (p - (i + 1)) (m / B) = Mg.dgN B p n) := by
        show _ = _
        rw [← HD.out, show p - i = (p - (i + 1)) + 1 by omega, Mg.dgN_succ]
      generalize m / B = x at h5 h6 hle HX
      go_wp2
      go_roundw
      case rel => exact ⟨i + 1, x, by go_num, rfl, by omega, by omega, HX, (by first | rfl | trivial)⟩
      case measure => simp [intOf] <;> omega
    · obtain rfl : i = p := by omega
      have q1 : decide ((i : Int) < (i : Int)) = false := by simp
      have h5 : (m : Int).tmod (B : Int) = ((m % B : Nat) : Int) := mod_rem
      have h6 : (m : Int) % (B : Int) = ((m % B : Nat) : Int) := (Int.natCast_emod _ _).symm
      have hx : Mg.dgN B i n = m % B := by
        have := HD.out
        rw [Nat.sub_self, Mg.dgN_zero] at this
        exact this.symm
      have hle : m % B < B := Nat.mod_lt _ (by omega)
      have HX := Lib.hid hx
      clear hx
      generalize m % B = x at h5 h6 hle HX
      go_wp2
      go_ret
      exact ⟨by rw [HX.out]; rfl, rfl⟩

def rxOk (b p : Int) : Bool := inB b 2 256 && inB p 0 17
set_option maxHeartbeats 1000000 in
theorem isRadix_any (b p : Int) (w : World) : Calls Try.prog 110 #[.int .i64 b, .int .i64 p] w fun e w' => e = .returned (.bool (rxOk b p)) ∧ w = w' := by
  have H1 := Lib.hid (in_any b 2 256 w)
  have H2 := Lib.hid (in_any p 0 17 w)
  unfold rxOk
  cases h1 : inB b 2 256
  · rw [h1] at H1
    clear h1
    go_enter Try.func110, Try.ntmps110
    go_wp2_with (go_at_call 86; refine H1.out.mono ?_; rintro e w' ⟨rfl, rfl⟩)
    go_ret
    exact ⟨rfl, rfl⟩
  · rw [h1] at H1
    clear h1
    go_enter Try.func110, Try.ntmps110
    go_wp2_with fail
    refine H1.out.mono ?_
    rintro e w1 ⟨rfl, rfl⟩
    go_wp2_with fail
    refine H2.out.mono ?_
    rintro e w1 ⟨rfl, rfl⟩
    go_wp2
    go_ret
    exact ⟨rfl, rfl⟩
theorem rxOk_nat {B p : Nat} (hB : 2 ≤ B) (hB2 : B ≤ 256) (hp : p ≤ 17) : rxOk B p = true := by
  unfold rxOk
  rw [inB_iff.2 ⟨by omega, by omega⟩, inB_iff.2 ⟨by omega, by omega⟩]; rfl

set_option maxHeartbeats 1000000 in
theorem digitOf_any (k : Int) (B p : Nat) (w : World) (hk0 : -100000 ≤ k) (hk1 : k ≤ 100000) (hB : 2 ≤ B) (hB2 : B ≤ 256) (hp : p ≤ 17) :
    Calls Try.prog 49 #[.int .i64 k, .int .i64 B, .int .i64 p] w fun e w' => e = .returned (.tuple #[.int .i64 ((Mg.dgN B p (Mg.nk (k, 0)) : Nat) : Int), .bool true]) ∧ w = w' := by
  have H1 := Lib.hid (isKey_any k w)
  rw [show okKey k = true by unfold okKey; exact inB_iff.2 ⟨by omega, by omega⟩] at H1
  have H2 := Lib.hid (isRadix_any B p w)
  rw [rxOk_nat hB hB2 hp] at H2
  have H3 := Lib.hid (digit_any k B p w hk0 hk1 hB hB2 hp)
  generalize Mg.dgN B p (Mg.nk (k, 0)) = d at H3
  clear hk0 hk1 hB hB2 hp
  go_enter Try.func49, Try.ntmps49
  go_wp2_with fail
  refine H1.out.mono ?_
  rintro e w1 ⟨rfl, rfl⟩
  go_wp2_with fail
  refine H2.out.mono ?_
  rintro e w1 ⟨rfl, rfl⟩
  go_wp2_with fail
  refine H3.out.mono ?_
  rintro e w1 ⟨rfl, rfl⟩
  go_wp2
  go_ret2
  exact ⟨rfl, rfl⟩

end Go.Proofs.Ytkckmjajjdpodaa

/- Walks: a pass sorts by one digit. -/
namespace Go.Proofs.Ytkckmjajjdpodaa
open Go.RowKit Go.Sort
set_option linter.unusedVariables false

theorem eq_flip {P : Program} {f : FuncId} {args : Array Value} {w : World} {v : Value} (h : Calls P f args w fun e w' => e = .returned v ∧ w = w') : Calls P f args w fun e w' => e = .returned v ∧ w' = w := h.mono fun e w' h => ⟨h.1, h.2.symm⟩

/-- The digit of any number. -/
def divZ (B : Nat) : Nat → Int → Int
  | 0, n => n
  | p + 1, n => divZ B p (n.tdiv B)
def digZ (B p : Nat) (k : Int) : Int := (divZ B p (wrap64 (k + 100000))).tmod B
theorem divZ_succ (B p : Nat) (n : Int) : divZ B (p + 1) n = divZ B p (n.tdiv B) := rfl
theorem divZ_nat {B : Nat} (hB : 0 < B) : ∀ (p n : Nat), (divZ B p (n : Int)).tmod B = ((Mg.dgN B p n : Nat) : Int)
  | 0, n => by rw [Mg.dgN_zero]; exact mod_rem
  | p + 1, n => by rw [Mg.dgN_succ, ← divZ_nat hB p (n / B), divZ_succ, div_quot hB]
theorem digZ_nat {B p : Nat} {k : Int} (hB : 0 < B) (hk0 : -100000 ≤ k) (hk1 : k ≤ 100000) : digZ B p k = ((Mg.dgN B p (Mg.nk (k, 0)) : Nat) : Int) := by
  unfold digZ
  rw [IntWalk.wrap64_in _ (by omega), show k + 100000 = ((Mg.nk (k, 0) : Nat) : Int) by unfold Mg.nk; simp only; omega]
  exact divZ_nat hB _ _
theorem tdiv_in {m : Int} {B : Nat} (hB : 2 ≤ B) (h0 : -9223372036854775808 ≤ m) (h1 : m ≤ 9223372036854775807) : -9223372036854775808 ≤ m.tdiv B ∧ m.tdiv B ≤ 9223372036854775807 := by
  have h2 : (m.tdiv B).natAbs ≤ m.natAbs := by
    rw [Int.natAbs_tdiv]
    exact Nat.div_le_self _ _
  rcases Int.lt_or_le m 0 with h3 | h3
  · have h4 : 0 ≤ (-m).tdiv (B : Int) := Int.tdiv_nonneg (by omega) (by omega)
    rw [Int.neg_tdiv] at h4
    omega
  · have h4 : 0 ≤ m.tdiv (B : Int) := Int.tdiv_nonneg h3 (by omega)
    omega

set_option maxHeartbeats 1000000 in
theorem digitZ_any (k : Int) (B p : Nat) (w : World) (hB : 2 ≤ B) (hB2 : B ≤ 256) (hp : p ≤ 17) :
    Calls Try.prog 114 #[.int .i64 k, .int .i64 B, .int .i64 p] w fun e w' => e = .returned (.int .i64 (digZ B p k)) ∧ w = w' := by
  have h3 : (B : Int) ≠ 0 := by omega
  have h4 : ((B : Int) == 0) = false := by rw [beq_eq_false_iff_ne]; exact h3
  have HZ : Hid (digZ B p k = (divZ B p (wrap64 (k + 100000))).tmod B) := rfl
  obtain ⟨n, hn⟩ : ∃ n, wrap64 (k + 100000) = n := ⟨_, rfl⟩
  have hn0 : -9223372036854775808 ≤ n ∧ n ≤ 9223372036854775807 := by
    rw [← hn]; unfold wrap64; omega
  obtain ⟨hn1, hn2⟩ := hn0
  rw [hn] at HZ
  go_enter Try.func114, Try.ntmps114
  go_wp2
  rw [hn]
  go_loopw [7, 11] (fun nv iv wr => ∃ (i : Nat) (m : Int), iv = .int .i64 i ∧ nv = .int .i64 m ∧ i ≤ p ∧ -9223372036854775808 ≤ m ∧ m ≤ 9223372036854775807 ∧ Hid (divZ B (p - i) m = divZ B p n) ∧ w = wr) (fun _ iv _ => p - (intOf iv).toNat)
  case atStart => exact ⟨0, n, rfl, rfl, by omega, hn1, hn2, Lib.hid (by rw [Nat.sub_zero]), rfl⟩
  case round =>
    obtain ⟨i, m, rfl, rfl, hi, hm1, hm2, HD, rfl⟩ := hrel
    clear hn hn1 hn2
    by_cases hlt : i < p
    · have q1 : decide ((i : Int) < (p : Int)) = true := decide_eq_true (by omega)
      have hin := tdiv_in hB hm1 hm2
      have HX : Hid (divZ B (p - (i + 1)) (m.tdiv B) = divZ B p n) := by
        show _ = _
        rw [← HD.out, show p - i = (p - (i + 1)) + 1 by omega, divZ_succ]
      obtain ⟨x, hx⟩ : ∃ x, m.tdiv (B : Int) = x := ⟨_, rfl⟩
      rw [hx] at hin HX
      obtain ⟨hx1, hx2⟩ := hin
      go_wp2
      go_roundw
      case rel => exact ⟨i + 1, x, by go_num, rfl, by omega, hx1, hx2, HX, (by first | rfl | trivial)⟩
      case measure => simp [intOf] <;> omega
    · obtain rfl : i = p := by omega
      have q1 : decide ((i : Int) < (i : Int)) = false := by simp
      have hx : m.tmod (B : Int) = digZ B i k := by
        have := HD.out
        rw [Nat.sub_self] at this
        rw [HZ.out, ← this]; rfl
      obtain ⟨x, hxx⟩ : ∃ x, digZ B i k = x := ⟨_, rfl⟩
      have HXX := Lib.hid hxx
      rw [hxx] at hx
      clear hxx HZ
      go_wp2
      go_ret
      exact ⟨by rw [HXX.out]; rfl, rfl⟩

/-- The two numbers that the closure of 'pass' looks at. -/
def PassI (p4 p5 B p : Nat) (W : World) : Prop := W.cell? ⟨p4, 0, none⟩ = some (.int .i64 B) ∧ W.cell? ⟨p5, 0, none⟩ = some (.int .i64 p)
def ltD (B p : Nat) : Int × Int → Int × Int → Bool := Mg.ltK (fun r => digZ B p r.1)

set_option maxRecDepth 100000 in
set_option maxHeartbeats 2000000 in
theorem passCmp_any (p4 p5 B p : Nat) (r s : Int × Int) (w : World) (hB : 2 ≤ B) (hB2 : B ≤ 256) (hp : p ≤ 17) (hI : PassI p4 p5 B p w) :
    Calls Try.prog 160 #[.agg #[.int .i64 r.1, .int .i64 r.2], .agg #[.int .i64 s.1, .int .i64 s.2], .pointer (some ⟨p4, 0, none⟩), .pointer (some ⟨p5, 0, none⟩)] w fun e w' => (∃ n : Int, e = .returned (.int .i64 n) ∧ (decide (n < 0) = ltD B p r s)) ∧ Below w.heap.size w w' := by
  obtain ⟨r1, r2⟩ := r
  obtain ⟨s1, s2⟩ := s
  obtain ⟨x, hx⟩ : ∃ x, digZ B p r1 = x := ⟨_, rfl⟩
  obtain ⟨y, hy⟩ : ∃ y, digZ B p s1 = y := ⟨_, rfl⟩
  have H1 := Lib.hid (fun W => digitZ_any r1 B p W hB hB2 hp)
  have H2 := Lib.hid (fun W => digitZ_any s1 B p W hB hB2 hp)
  rw [hx] at H1
  rw [hy] at H2
  have HC := Lib.hid (fun W => Try.cmp_Compare_int x y W)
  have HD : Hid (decide (Lib.compareInt x y < 0) = ltD B p (r1, r2) (s1, s2)) := by
    show _ = _
    unfold ltD Mg.ltK Lib.compareInt
    simp only [hx, hy]
    by_cases h1 : x < y
    · rw [if_pos h1, decide_eq_true h1]; rfl
    · rw [if_neg h1, decide_eq_false h1]; split <;> rfl
  have hba : Below w.heap.size w ((w.alloc (.cells #[.int .i64 r1, .int .i64 r2] 72)).alloc (.cells #[.int .i64 s1, .int .i64 s2] 72)) := (((Below.refl w.heap.size w).alloc (Nat.le_refl _) (.cells #[.int .i64 r1, .int .i64 r2] 72)).alloc (by simp) (.cells #[.int .i64 s1, .int .i64 s2] 72))
  have c4 : ((w.alloc (.cells #[.int .i64 r1, .int .i64 r2] 72)).alloc (.cells #[.int .i64 s1, .int .i64 s2] 72)).cell? ⟨p4, 0, none⟩ = some (.int .i64 B) := (hba.cell (p := ⟨p4, 0, none⟩) (World.block_lt_of_cell? w _ hI.1)).trans hI.1
  have c5 : ((w.alloc (.cells #[.int .i64 r1, .int .i64 r2] 72)).alloc (.cells #[.int .i64 s1, .int .i64 s2] 72)).cell? ⟨p5, 0, none⟩ = some (.int .i64 p) := (hba.cell (p := ⟨p5, 0, none⟩) (World.block_lt_of_cell? w _ hI.2)).trans hI.2
  have HB := Lib.hid hba
  clear hI hx hy hba
  go_enter Try.func160, Try.ntmps160
  go_wp2_with fail
  go_quiet ((first | (go_at_call 114; with_reducible exact Calls.quiet_of_same (eq_flip (H1.out _))) | (go_at_call 114; with_reducible exact Calls.quiet_of_same (eq_flip (H2.out _))) | (go_at_call 108; exact Calls.quiet_of_same (HC.out _))))
  go_wp2
  go_ret
  exact ⟨⟨_, rfl, HD.out⟩, below_drewN HB.out _⟩

end Go.Proofs.Ytkckmjajjdpodaa

/- General: small lemmas of the longer chains, once more, for laws that do not reach those. -/
namespace Go.Proofs.Ytkckmjajjdpodaa
open Go Go.RowKit Go.Sort
set_option linter.unusedVariables false

theorem belowNewL (w : World) (o : Obj) : Below w.heap.size w (w.alloc o) := (Below.refl _ _).alloc (Nat.le_refl _) _

theorem cellsQL {w : World} {g : Nat} {x0 x1 x2 x3 : Value} {e : TypeId} {f : Nat × Nat} (h : w.heap[g]? = some (.cells #[x0, x1, x2, x3] e f)) :
    w.cell? ⟨g, 0, none⟩ = some x0 ∧ w.cell? ⟨g, 1, none⟩ = some x1 ∧ w.cell? ⟨g, 2, none⟩ = some x2 ∧ w.cell? ⟨g, 3, none⟩ = some x3 :=
  ⟨row_cell h 0, row_cell h 1, row_cell h 2, row_cell h 3⟩

theorem hlt_ofL {w : World} {g : Nat} {o : Obj} (h : w.heap[g]? = some o) : g < w.heap.size := (Array.getElem?_eq_some_iff.1 h).1

theorem cells3L {w : World} {g : Nat} {x0 x1 x2 : Value} {e : TypeId} {f : Nat × Nat} (h : w.heap[g]? = some (.cells #[x0, x1, x2] e f)) :
    w.cell? ⟨g, 0, none⟩ = some x0 ∧ w.cell? ⟨g, 1, none⟩ = some x1 ∧ w.cell? ⟨g, 2, none⟩ = some x2 := ⟨row_cell h 0, row_cell h 1, row_cell h 2⟩

theorem grown_setNL (w : World) (g j : Nat) (v : Value) : w.grownBy (w.setCell ⟨g, j, none⟩ v) (some g) :=
  ⟨rfl, rfl, rfl, by simp, fun k _ hk => heap_setCell_other w ⟨g, j, none⟩ k v (fun e => hk (by simp [e]))⟩

abbrev intsL (l : List Int) : List Value := l.map (Value.int .i64)

theorem made_intsL {w : World} {B : Nat} {v : Value} {n : Nat} (h : w.ownsRow B 3 1 v n (madeCells #[.int .i64 0] n).toList) : w.ownsRow B 3 1 v n (intsL (List.replicate n 0)) := by
  rw [show intsL (List.replicate n 0) = List.replicate n (.int .i64 0) by simp [intsL], ← toList_madeCells_one]
  exact h

theorem ints_takeSL {w : World} {x : Addr} {p : List Int} (h : IntsAt w (some x) p) (i : Nat) : IntsAt w (some x) (p.take i) := by
  rcases h with rfl | ⟨b', off', e, h0, h1⟩
  · exact .inl (by simp)
  · refine .inr ⟨b', off', e, h0, fun j hj => ?_⟩
    have hj2 : j < i ∧ j < p.length := by simp at hj; omega
    rw [h1 j hj2.2]
    simp [List.getD, List.getElem?_take, hj2.1]

theorem ints_grownSL {w w' : World} {row : Option Nat} {a : Option Addr} {l : List Int} (h : IntsAt w a l) (hg : w.grownBy w' row) (hne : ∀ b off, a = some ⟨b, off, none⟩ → row ≠ some b) : IntsAt w' a l := by
  rcases h with h | ⟨b, off, e, h1, h2⟩
  · exact .inl h
  · refine .inr ⟨b, off, e, Nat.lt_of_lt_of_le h1 hg.size, fun j hj => ?_⟩
    have := hg.block b h1 (Ne.symm (hne b off e))
    rw [← h2 j hj]
    simp only [World.cell?, this]

set_option maxHeartbeats 1000000 in
theorem vAtE_anyL (a : Option Addr) (c : Nat) (cs : List Int) (i : Nat) (w : World) (hl : cs.length ≤ 65537) (hi : i ≤ 1000) (h : BytesAt w a cs) :
    Calls Try.prog 39 #[.slice a cs.length c, .int .i64 i] w fun e w' => (∃ r : Int, e = .returned (.int .i64 r) ∧ 0 ≤ r ∧ r ≤ 255) ∧ w = w' := by
  by_cases hlt : i < cs.length
  · obtain ⟨b, off, rfl, hc, hb0, hb1⟩ := h.at hlt
    generalize cs.getD i 0 = x at hc hb0 hb1
    have h3 : decide ((i : Int) < (cs.length : Int)) = true := decide_eq_true (by omega)
    have b1 : (0 : Int) ≤ (i : Int) := by omega
    have b2 : (i : Int) < (cs.length : Int) := by omega
    clear h
    go_enter Try.func39, Try.ntmps39
    go_wp2
    go_ret
    exact ⟨⟨x, rfl, hb0, hb1⟩, rfl⟩
  · have h3 : decide ((i : Int) < (cs.length : Int)) = false := decide_eq_false (by omega)
    have b1 : (0 : Int) ≤ (i : Int) := by omega
    have b2 : (i : Int) * 7 ≤ 7000 := by omega
    have b3 : (0 : Int) ≤ (i : Int) * 7 + (cs.length : Int) := by omega
    have b4 : (i : Int) * 7 + (cs.length : Int) ≤ 100000 := by omega
    have q1 : 0 ≤ ((i : Int) * 7 + (cs.length : Int)).tmod 256 := Int.tmod_nonneg _ b3
    have q2 : ((i : Int) * 7 + (cs.length : Int)).tmod 256 ≤ 255 := by have := Int.tmod_lt_of_pos ((i : Int) * 7 + (cs.length : Int)) (b := 256) (by omega); omega
    have Q := Lib.hid (And.intro q1 q2)
    clear h q1 q2
    go_enter Try.func39, Try.ntmps39
    go_wp2
    go_ret
    exact ⟨⟨_, rfl, Q.out.1, Q.out.2⟩, rfl⟩

theorem heap_storeNL {w : World} {g : Nat} {cs : Array Value} {e : TypeId} {f : Nat × Nat} (h : w.heap[g]? = some (.cells cs e f)) (j : Nat) (v : Value) : (w.setCell ⟨g, j, none⟩ v).heap[g]? = some (.cells (cs.setIfInBounds j v) e f) := by
  have hlt : g < w.heap.size := (Array.getElem?_eq_some_iff.1 h).1
  have h' : w.heap[g] = .cells cs e f := by simpa [Array.getElem?_eq_getElem hlt] using h
  show (w.heap.modify g _)[g]? = _
  rw [Array.getElem?_eq_getElem (by simpa using hlt), Array.getElem_modify_self, h']
  rfl

theorem rd_grownL {w w' : World} {row : Option Nat} {a : Option Addr} {n c : Nat} {L : List (Int × Int)} (h : Rd w a n c L) (hg : w.grownBy w' row) (hne : ∀ b off, a = some ⟨b, off, none⟩ → row ≠ some b) : Rd w' a n c L :=
  ⟨h.recs.grown hg hne, h.len, h.nil, h.cap⟩

end Go.Proofs.Ytkckmjajjdpodaa

/- Walks: a pass; the greatest key; how many passes are needed. -/
namespace Go.Proofs.Ytkckmjajjdpodaa
open Go.RowKit Go.Sort
set_option linter.unusedVariables false

theorem pass_is (g p4 p5 B p : Nat) (hB : 2 ≤ B) (hB2 : B ≤ 256) (hp : p ≤ 17) (h4 : p4 ≠ g) (h5 : p5 ≠ g) :
    CmpIs (fun W => (p4 < W.heap.size ∧ p5 < W.heap.size) ∧ PassI p4 p5 B p W) g (ltD B p) (.func (.func 160) #[] #[.pointer (some ⟨p4, 0, none⟩), .pointer (some ⟨p5, 0, none⟩)]) := by
  refine ⟨fun w w' ⟨⟨h0, h0'⟩, h1, h2⟩ hg => ⟨⟨Nat.lt_of_lt_of_le h0 hg.size, Nat.lt_of_lt_of_le h0' hg.size⟩, ?_, ?_⟩, 160, #[.pointer (some ⟨p4, 0, none⟩), .pointer (some ⟨p5, 0, none⟩)], rfl, fun args w => by kernel_rfl, fun r s w ⟨_, hI⟩ => ?_⟩
  · have := hg.block p4 h0 (by intro e; injection e with e; exact h4 e)
    rw [← h1]
    simp only [World.cell?, this]
  · have := hg.block p5 h0' (by intro e; injection e with e; exact h5 e)
    rw [← h2]
    simp only [World.cell?, this]
  · exact passCmp_any p4 p5 B p r s w hB hB2 hp hI

def passL (B p : Nat) (L : List (Int × Int)) : List (Int × Int) := Mg.srt (ltD B p) L
theorem passL_len (B p : Nat) (L : List (Int × Int)) : (passL B p L).length = L.length := Mg.srt_length L
theorem passL_valid {B p : Nat} {L : List (Int × Int)} (hB : 0 < B) (hL : ∀ r ∈ L, -100000 ≤ r.1 ∧ r.1 ≤ 100000) : passL B p L = Mg.srt (Mg.ltK (Mg.dgK B p)) L := by
  refine Mg.srt_congr fun a ha b hb => ?_
  unfold ltD Mg.ltK Mg.dgK
  have e1 : digZ B p a.1 = ((Mg.dgN B p (Mg.nk a) : Nat) : Int) := digZ_nat hB (hL a ha).1 (hL a ha).2
  have e2 : digZ B p b.1 = ((Mg.dgN B p (Mg.nk b) : Nat) : Int) := digZ_nat hB (hL b hb).1 (hL b hb).2
  show decide (digZ B p a.1 < digZ B p b.1) = _
  rw [e1, e2]

set_option maxRecDepth 100000 in
set_option maxHeartbeats 4000000 in
theorem pass_any (a : Option Addr) (n c B p : Nat) (L : List (Int × Int)) (w : World) (hn : n ≤ 1000) (hB : 2 ≤ B) (hB2 : B ≤ 256) (hp : p ≤ 17) (h : Rd w a n c L) :
    Calls Try.prog 113 #[.slice a n c, .int .i64 B, .int .i64 p] w (OwnR w (passL B p L) n) := by
  obtain ⟨hr, hlen, hnil, hcap⟩ := h
  have hs1 : (w.alloc (.cells #[.int .i64 B] 3)).heap.size = w.heap.size + 1 := by simp
  have hb1 := belowNewL w (.cells #[.int .i64 B] 3)
  have hb2 := belowNewL (w.alloc (.cells #[.int .i64 B] 3)) (.cells #[.int .i64 p] 3)
  have HB := Lib.hid (below_tr hb1 hb2 hb1.size)
  have HB4 := Lib.hid (block_below (block_new w (.cells #[.int .i64 B] 3)) hb2 (by simp))
  have HB5 := Lib.hid (block_new (w.alloc (.cells #[.int .i64 B] 3)) (.cells #[.int .i64 p] 3))
  rw [hs1] at HB5
  have HCO : Hid (Calls Try.prog 111 #[.slice a n c] ((w.alloc (.cells #[.int .i64 B] 3)).alloc (.cells #[.int .i64 p] 3)) (OwnR ((w.alloc (.cells #[.int .i64 B] 3)).alloc (.cells #[.int .i64 p] 3)) L n)) := by
    have h1 := copyOfR_any a c L ((w.alloc (.cells #[.int .i64 B] 3)).alloc (.cells #[.int .i64 p] 3)) (by omega) (hr.below (Nat.le_refl _) HB.out) hnil
    rw [hlen] at h1; exact h1
  have hsz : ((w.alloc (.cells #[.int .i64 B] 3)).alloc (.cells #[.int .i64 p] 3)).heap.size = w.heap.size + 2 := by simp
  clear hr hnil hcap hb1 hb2
  unfold OwnR at HCO ⊢
  go_enter Try.func113, Try.ntmps113
  go_wp2_with fail
  refine HCO.out.mono ?_
  rintro e w1 ⟨g, c1, rfl, ho, hb⟩
  have hgw := (ho.lt g rfl).1
  rw [hsz] at hgw
  have HB1 := Lib.hid (below_tr HB.out hb HB.out.size)
  have h4 := row_cell (block_below HB4.out hb (by rw [hsz]; omega)) 0
  have h5 := row_cell (block_below HB5.out hb (by rw [hsz]; omega)) 0
  have hz := hb.size
  rw [hsz] at hz
  have HSS := Lib.hid (sortStable_any (Mg.swK (fun r : Int × Int => digZ B p r.1)) (w.heap.size + 2) g c1 n L w1 hlen hn ⟨⟨by omega, by omega⟩, h4, h5⟩ (pass_is g w.heap.size (w.heap.size + 1) B p hB hB2 hp (by omega) (by omega)) (by rw [← hsz]; exact ho))
  clear ho hb HCO HB4 HB5 h4 h5
  go_wp2_with fail
  refine HSS.out.mono ?_
  rintro e w5 ⟨rfl, ho5, hg5⟩
  have HO5 := Lib.hid (own_mono ho5 (show w.heap.size ≤ w.heap.size + 2 by omega))
  have HB6 := Lib.hid (HB1.out.grown hg5 HB1.out.size (fun k hk => by injection hk with hk; omega))
  clear ho5 hg5 HSS
  go_wp2
  go_ret
  exact ⟨g, c1, rfl, HO5.out, HB6.out⟩

end Go.Proofs.Ytkckmjajjdpodaa

/- Walks: the record with the greatest key; how many passes are needed. -/
namespace Go.Proofs.Ytkckmjajjdpodaa
open Go.RowKit Go.Sort
set_option linter.unusedVariables false

theorem cells2 {w : World} {g : Nat} {x0 x1 : Value} {e : TypeId} {f : Nat × Nat} (h : w.heap[g]? = some (.cells #[x0, x1] e f)) :
    w.cell? ⟨g, 0, none⟩ = some x0 ∧ w.cell? ⟨g, 1, none⟩ = some x1 := ⟨row_cell h 0, row_cell h 1⟩

set_option maxRecDepth 100000 in
set_option maxHeartbeats 2000000 in
theorem compareKeysX_any (r1 r2 s1 s2 : Int) (w : World) :
    Calls Try.prog 152 #[.agg #[.int .i64 r1, .int .i64 r2], .agg #[.int .i64 s1, .int .i64 s2]] w fun e w' => e = .returned (.int .i64 (Lib.compareInt r1 s1)) ∧ Below w.heap.size w w' := by
  have HC := Lib.hid (fun W => Try.cmp_Compare_int r1 s1 W)
  have HB := Lib.hid (((Below.refl w.heap.size w).alloc (Nat.le_refl _) (.cells #[.int .i64 r1, .int .i64 r2] 72)).alloc (by simp) (.cells #[.int .i64 s1, .int .i64 s2] 72))
  generalize Lib.compareInt r1 s1 = q at HC
  go_enter Try.func152, Try.ntmps152
  go_wp2_with fail
  refine (HC.out _).mono ?_
  rintro e w' ⟨rfl, rfl⟩
  go_wp2
  go_ret
  exact ⟨rfl, HB.out⟩

/-- The greatest of the first i keys stands in a block of its own. -/
structure Mx (w0 w : World) (R M : Nat) (L : List (Int × Int)) (i : Nat) (m : Int × Int) : Prop where
  bel : Below w0.heap.size w0 w
  lo : w0.heap.size ≤ R ∧ w0.heap.size ≤ M ∧ R ≠ M
  rz : w.heap[R]? = some (.cells #[.int .i64 0, .int .i64 0] 72 (0, 0))
  mx : w.heap[M]? = some (.cells #[.int .i64 m.1, .int .i64 m.2] 72 (0, 0))
  mem : m ∈ L
  top : ∀ j, j < i → (L.getD j (0, 0)).1 ≤ m.1
theorem Mx.same {w0 w w' : World} {R M i : Nat} {L : List (Int × Int)} {m : Int × Int} (h : Mx w0 w R M L i m) (hb : Below w.heap.size w w') : Mx w0 w' R M L i m :=
  ⟨below_tr h.bel hb h.bel.size, h.lo, block_below h.rz hb (hlt_ofL h.rz), block_below h.mx hb (hlt_ofL h.mx), h.mem, h.top⟩
theorem Mx.keep {w0 w : World} {R M i : Nat} {L : List (Int × Int)} {m : Int × Int} (h : Mx w0 w R M L i m) (hk : (L.getD i (0, 0)).1 ≤ m.1) : Mx w0 w R M L (i + 1) m :=
  ⟨h.bel, h.lo, h.rz, h.mx, h.mem, fun j hj => by
    rcases Nat.lt_succ_iff_lt_or_eq.1 hj with h1 | rfl
    · exact h.top j h1
    · exact hk⟩
theorem Mx.put {w0 w : World} {R M i : Nat} {L : List (Int × Int)} {m : Int × Int} (h : Mx w0 w R M L i m) {x y : Int} (hi : i < L.length) (hx : L.getD i (0, 0) = (x, y)) (hk : m.1 ≤ x) : Mx w0 ((w.setCell ⟨M, 0, none⟩ (.int .i64 x)).setCell ⟨M, 1, none⟩ (.int .i64 y)) R M L (i + 1) (x, y) := by
  have far : ∀ (W : World) (j : Nat) (v : Value), (W.setCell ⟨M, j, none⟩ v).heap[R]? = W.heap[R]? := fun W j v => heap_setCell_other W ⟨M, j, none⟩ R v h.lo.2.2
  refine ⟨Below.setCell (p := ⟨M, 1, none⟩) (Below.setCell (p := ⟨M, 0, none⟩) h.bel h.lo.2.1 _) h.lo.2.1 _, h.lo, by rw [far, far]; exact h.rz, heap_storeNL (heap_storeNL h.mx 0 _) 1 _, ?_, fun j hj => ?_⟩
  · rw [← hx, List.getD_eq_getElem?_getD, List.getElem?_eq_getElem hi]; exact List.getElem_mem hi
  · rcases Nat.lt_succ_iff_lt_or_eq.1 hj with h1 | rfl
    · have := h.top j h1
      show _ ≤ x
      omega
    · rw [hx]; exact Int.le_refl _

/-- A greatest key. -/
def IsMax (L : List (Int × Int)) (m : Int × Int) : Prop := m ∈ L ∧ ∀ r ∈ L, r.1 ≤ m.1

set_option maxRecDepth 100000 in
set_option maxHeartbeats 4000000 in
theorem maxFunc_any (a : Option Addr) (n c : Nat) (L : List (Int × Int)) (w : World) (hn0 : 0 < n) (hn : n ≤ 1000) (h : Rd w a n c L) :
    Calls Try.prog 159 #[.slice a n c, cmpV] w fun e w' => (∃ m : Int × Int, e = .returned (.agg #[.int .i64 m.1, .int .i64 m.2]) ∧ IsMax L m) ∧ Below w.heap.size w w' := by
  have hlen := h.len
  have H := Lib.hid h
  obtain ⟨b, o, rfl, d1, d2⟩ := h.at hn0
  obtain ⟨X, hX⟩ : ∃ X, L.getD 0 (0, 0) = X := ⟨_, rfl⟩
  rw [hX] at d1 d2
  have d1 : w.cell? ⟨b, o, none⟩ = some (.int .i64 X.1) := by simpa using d1
  have d2 : w.cell? ⟨b, o + 1, none⟩ = some (.int .i64 X.2) := by simpa using d2
  have hb1 := belowNewL w (.cells #[.int .i64 0, .int .i64 0] 72)
  have hs1 : (w.alloc (.cells #[.int .i64 0, .int .i64 0] 72)).heap.size = w.heap.size + 1 := by simp
  have hb2 := belowNewL (w.alloc (.cells #[.int .i64 0, .int .i64 0] 72)) (.cells #[.int .i64 X.1, .int .i64 X.2] 72)
  have hnM := block_new (w.alloc (.cells #[.int .i64 0, .int .i64 0] 72)) (.cells #[.int .i64 X.1, .int .i64 X.2] 72)
  rw [hs1] at hnM
  have hmem : X ∈ L := by
    rw [← hX, List.getD_eq_getElem?_getD, List.getElem?_eq_getElem (by omega)]
    exact List.getElem_mem (by omega)
  have htop : ∀ j, j < 1 → (L.getD j (0, 0)).1 ≤ X.1 := fun j hj => by
    obtain rfl : j = 0 := by omega
    rw [hX]; exact Int.le_refl _
  have HM : Hid (Mx w ((w.alloc (.cells #[.int .i64 0, .int .i64 0] 72)).alloc (.cells #[.int .i64 X.1, .int .i64 X.2] 72)) w.heap.size (w.heap.size + 1) L 1 X) :=
    ⟨below_tr hb1 hb2 hb1.size, ⟨by omega, by omega, by omega⟩, block_below (block_new _ _) hb2 (by simp), hnM, hmem, htop⟩
  obtain ⟨e1, e2⟩ : (w.alloc (.cells #[.int .i64 0, .int .i64 0] 72)).cell? ⟨b, o, none⟩ = some (.int .i64 X.1) ∧ (w.alloc (.cells #[.int .i64 0, .int .i64 0] 72)).cell? ⟨b, o + 1, none⟩ = some (.int .i64 X.2) :=
    ⟨(hb1.cell (p := ⟨b, o, none⟩) (World.block_lt_of_cell? w _ d1)).trans d1, (hb1.cell (p := ⟨b, o + 1, none⟩) (World.block_lt_of_cell? w _ d2)).trans d2⟩
  have HK := Lib.hid (fun r1 r2 s1 s2 W => compareKeysX_any r1 r2 s1 s2 W)
  have q0 : decide ((n : Int) < 1) = false := decide_eq_false (by omega)
  have z1 : (0 : Int) < (n : Int) := by omega
  unfold cmpV
  clear h hb1 hb2 hnM hX hmem htop
  obtain ⟨X1, X2⟩ := X
  go_enter Try.func159, Try.ntmps159
  go_wp2_with fail
  go_loopw [6] (fun v wr => ∃ (i : Nat) (m : Int × Int), v = .int .i64 i ∧ i ≤ n ∧ Mx w wr w.heap.size (w.heap.size + 1) L i m) (fun v _ => n - (intOf v).toNat)
  case atStart => exact ⟨1, (X1, X2), rfl, by omega, HM.out⟩
  case round =>
    obtain ⟨i, m, rfl, hi, hm⟩ := hrel
    have HX := Lib.hid hm
    clear hm HM d1 d2 e1 e2
    obtain ⟨m1, m2⟩ := m
    by_cases hlt : i < n
    · have q1 : decide ((i : Int) < (n : Int)) = true := decide_eq_true (by omega)
      obtain ⟨b', o', e, c1, c2⟩ := (H.out.same HX.out.bel).at hlt
      injection e with e
      injection e with e1 e2
      subst e1 e2
      obtain ⟨⟨x, y⟩, hX⟩ : ∃ X, L.getD i (0, 0) = X := ⟨_, rfl⟩
      rw [hX] at c1 c2
      obtain ⟨p0, p1⟩ := cells2 HX.out.mx
      have HXX := Lib.hid hX
      have hcall : ∀ W, (callFunc 152 #[.agg #[.int .i64 x, .int .i64 y], .agg #[.int .i64 m1, .int .i64 m2]]).run Try.prog W = .ok (.enter 152 #[.agg #[.int .i64 x, .int .i64 y], .agg #[.int .i64 m1, .int .i64 m2]]) W := fun W => by kernel_rfl
      have b0 : (0 : Int) ≤ (i : Int) := by omega
      have b2 : (i : Int) < (n : Int) := by omega
      have t0 : ((i : Int)).toNat = i := by omega
      clear hX
      go_wp2_with fail
      go_still_tail 6, (by kernel_rfl)
      go_wp2_with fail
      refine (HK.out _ _ _ _ _).mono ?_
      rintro e w5 ⟨rfl, hbc⟩
      have HX5 := Lib.hid (HX.out.same ((Below.refl _ _).drew.trans hbc))
      have c1' := ((Below.refl _ _).drew.trans hbc).cell (p := ⟨b, o + i * 2, none⟩) (World.block_lt_of_cell? wr _ c1) |>.trans c1
      have c2' := ((Below.refl _ _).drew.trans hbc).cell (p := ⟨b, o + i * 2 + 1, none⟩) (World.block_lt_of_cell? wr _ c2) |>.trans c2
      clear hbc c1 c2 p0 p1 hcall
      by_cases hgt : m1 < x
      · have hq : decide (0 < Lib.compareInt x m1) = true := by
          unfold Lib.compareInt
          rw [if_neg (by omega), if_pos (by omega)]; rfl
        obtain ⟨r0, r1⟩ := cells2 HX5.out.mx
        have fr : ∀ o, w5.frozen? ⟨w.heap.size + 1, o, none⟩ = false := fun o => frozen_of_row _ _ o _ _ HX5.out.mx
        have HN := Lib.hid (HX5.out.put (by rw [hlen]; exact hlt) HXX.out (show m1 ≤ x by omega))
        generalize Lib.compareInt x m1 = q at hq ⊢
        clear HX
        go_wp2
        go_roundw
        case rel => exact ⟨i + 1, (x, y), by go_num, by omega, HN.out⟩
        case measure => simp [intOf] <;> omega
      · have hq : decide (0 < Lib.compareInt x m1) = false := by
          unfold Lib.compareInt
          by_cases h5 : x < m1
          · rw [if_pos h5]; rfl
          · rw [if_neg h5, if_neg (by omega)]; rfl
        have HN := Lib.hid (HX5.out.keep (by rw [HXX.out]; show x ≤ m1; omega))
        generalize Lib.compareInt x m1 = q at hq ⊢
        clear HX
        go_wp2
        go_roundw
        case rel => exact ⟨i + 1, (m1, m2), by go_num, by omega, HN.out⟩
        case measure => simp [intOf] <;> omega
    · obtain rfl : i = n := by omega
      have q1 : decide ((i : Int) < (i : Int)) = false := by simp
      obtain ⟨p0, p1⟩ := cells2 HX.out.mx
      obtain ⟨r0, r1⟩ := cells2 HX.out.rz
      have fr : ∀ o, wr.frozen? ⟨w.heap.size, o, none⟩ = false := fun o => frozen_of_row _ _ o _ _ HX.out.rz
      have HE : Hid (IsMax L (m1, m2)) := ⟨HX.out.mem, fun r hr => by
        obtain ⟨j, hj, rfl⟩ := List.getElem_of_mem hr
        have := HX.out.top j (by omega)
        rw [List.getD_eq_getElem?_getD, List.getElem?_eq_getElem hj] at this
        exact this⟩
      have HBE := Lib.hid (Below.setCell (p := ⟨w.heap.size, 1, none⟩) (Below.setCell (p := ⟨w.heap.size, 0, none⟩) HX.out.bel (Nat.le_refl _) (.int .i64 m1)) (Nat.le_refl _) (.int .i64 m2))
      clear HX
      go_wp2
      refine bodyPost_ret (v := .agg #[.int .i64 m1, .int .i64 m2]) (by simp [results, Try.results159, go_sem, r0, r1]) rfl ⟨⟨m1, m2, rfl, HE.out⟩, HBE.out⟩

end Go.Proofs.Ytkckmjajjdpodaa
