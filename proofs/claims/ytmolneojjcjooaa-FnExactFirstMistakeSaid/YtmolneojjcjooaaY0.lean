/- Several texts in one: lemmas and walks of the functions that the laws reach. -/
import Derived.Test.YtmolneojjcjooaaRows
import Derived.WalkKit
import Derived.WalkSpells
import Derived.WalkLawsBesides
import Derived.BigQuiet
import Derived.Deep.QuietTactic
import Derived.Lib.Hide
import Derived.StillTailTactics

/- Plain law: merging and stable sorting over a strict weak order that is a Bool function. No program in sight. -/
namespace Go.Proofs.Ytmolneojjcjooaa.Mg
set_option linter.unusedVariables false

structure SW {α : Type} (lt : α → α → Bool) : Prop where
  asym : ∀ a b, lt a b = true → lt b a = false
  trans : ∀ a b c, lt a b = true → lt b c = true → lt a c = true
  neg : ∀ a b c, lt a c = true → lt a b = true ∨ lt b c = true

def mrg {α : Type} (lt : α → α → Bool) (l r : List α) : List α := List.merge l r (fun x y => !lt y x)

section
variable {α : Type} {lt : α → α → Bool}

theorem mrg_nil (r : List α) : mrg lt [] r = r := by simp [mrg]
theorem nil_mrg (l : List α) : mrg lt l [] = l := by simp [mrg]
theorem mrg_cons (x : α) (l : List α) (y : α) (r : List α) : mrg lt (x :: l) (y :: r) = if lt y x then y :: mrg lt (x :: l) r else x :: mrg lt l (y :: r) := by
  unfold mrg
  rw [List.cons_merge_cons]
  cases lt y x <;> simp
theorem mrg_lt {x : α} {l : List α} {y : α} {r : List α} (h : lt y x = true) : mrg lt (x :: l) (y :: r) = y :: mrg lt (x :: l) r := by rw [mrg_cons, if_pos h]
theorem mrg_ge {x : α} {l : List α} {y : α} {r : List α} (h : lt y x = false) : mrg lt (x :: l) (y :: r) = x :: mrg lt l (y :: r) := by rw [mrg_cons, if_neg (by rw [h]; simp)]

theorem mrg_perm (l r : List α) : (mrg lt l r).Perm (l ++ r) := List.merge_perm_append _
theorem mrg_mem {l r : List α} {x : α} : x ∈ mrg lt l r ↔ x ∈ l ∨ x ∈ r := by rw [(mrg_perm l r).mem_iff, List.mem_append]
theorem mrg_length (l r : List α) : (mrg lt l r).length = l.length + r.length := by rw [(mrg_perm l r).length_eq, List.length_append]

/-- Both lists are cut in two, so that the earlier parts go ahead of the later ones. -/
theorem mrg_split : ∀ (L1 R1 L2 R2 : List α), (∀ x ∈ L1, ∀ y ∈ R2, lt y x = false) → (∀ x ∈ L2, ∀ y ∈ R1, lt y x = true) →
    mrg lt (L1 ++ L2) (R1 ++ R2) = mrg lt L1 R1 ++ mrg lt L2 R2
  | [], [], L2, R2, _, _ => by simp [mrg_nil]
  | [], y :: R1, L2, R2, h1, h2 => by
    have ih := mrg_split [] R1 L2 R2 (by simp) (fun x hx z hz => h2 x hx z (List.mem_cons_of_mem _ hz))
    simp only [List.nil_append, mrg_nil] at ih ⊢
    cases L2 with
    | nil => simp [mrg_nil]
    | cons x l =>
      rw [List.cons_append, mrg_lt (h2 x (by simp) y (by simp)), ih]; rfl
  | x :: L1, [], L2, R2, h1, h2 => by
    have ih := mrg_split L1 [] L2 R2 (fun z hz => h1 z (List.mem_cons_of_mem _ hz)) (by simp)
    simp only [List.nil_append, nil_mrg] at ih ⊢
    cases R2 with
    | nil => simp [nil_mrg]
    | cons y r =>
      rw [List.cons_append, mrg_ge (h1 x (by simp) y (by simp)), ih]; rfl
  | x :: L1, y :: R1, L2, R2, h1, h2 => by
    have ih1 := mrg_split (x :: L1) R1 L2 R2 h1 (fun z hz v hv => h2 z hz v (List.mem_cons_of_mem _ hv))
    have ih2 := mrg_split L1 (y :: R1) L2 R2 (fun z hz => h1 z (List.mem_cons_of_mem _ hz)) h2
    simp only [List.cons_append] at ih1 ih2 ⊢
    cases h : lt y x
    · rw [mrg_ge h, mrg_ge h, ih2]; rfl
    · rw [mrg_lt h, mrg_lt h, ih1]; rfl
termination_by L1 R1 => L1.length + R1.length

theorem mrg_assoc (S : SW lt) : ∀ (A B C : List α), mrg lt (mrg lt A B) C = mrg lt A (mrg lt B C)
  | [], B, C => by simp [mrg_nil]
  | a :: A, [], C => by simp [nil_mrg, mrg_nil]
  | a :: A, b :: B, [] => by simp [nil_mrg]
  | a :: A, b :: B, c :: C => by
    have i1 := mrg_assoc S (a :: A) (b :: B) C
    have i2 := mrg_assoc S (a :: A) B (c :: C)
    have i3 := mrg_assoc S A (b :: B) (c :: C)
    cases h1 : lt b a
    · cases h2 : lt c b
      · have h3 : lt c a = false := by
          cases h3 : lt c a
          · rfl
          · rcases S.neg c b a h3 with h | h
            · rw [h2] at h; cases h
            · rw [h1] at h; cases h
        rw [mrg_ge h1, mrg_ge h2, mrg_ge h3, mrg_ge h1, i3, mrg_ge h2]
      · cases h3 : lt c a
        · rw [mrg_ge h1, mrg_lt h2, mrg_ge h3, mrg_ge h3, i3, mrg_lt h2]
        · rw [mrg_lt h2, mrg_lt h3, ← i1, mrg_ge h1, mrg_lt h3]
    · cases h2 : lt c b
      · rw [mrg_lt h1, mrg_ge h2, mrg_ge h2, mrg_lt h1, i2]
      · have h3 := S.trans _ _ _ h2 h1
        rw [mrg_lt h1, mrg_lt h2, mrg_lt h2, mrg_lt h3, ← i1, mrg_lt h1]
termination_by A B C => A.length + B.length + C.length

def Asc (lt : α → α → Bool) (l : List α) : Prop := l.Pairwise fun x y => lt y x = false
theorem asc_nil : Asc lt [] := List.Pairwise.nil
theorem asc_one (x : α) : Asc lt [x] := by simp [Asc]

theorem asc_cons {x : α} {l : List α} : Asc lt (x :: l) ↔ (∀ y ∈ l, lt y x = false) ∧ Asc lt l := by simp [Asc]
theorem asc_append {l r : List α} : Asc lt (l ++ r) ↔ Asc lt l ∧ Asc lt r ∧ ∀ x ∈ l, ∀ y ∈ r, lt y x = false := by simp [Asc, List.pairwise_append]

/-- Only what stands side by side need be looked at. -/
theorem le_trans' (S : SW lt) {a b c : α} (h1 : lt b a = false) (h2 : lt c b = false) : lt c a = false := by
  cases h3 : lt c a
  · rfl
  · rcases S.neg c b a h3 with h | h
    · rw [h2] at h; cases h
    · rw [h1] at h; cases h

theorem asc_cons2 (S : SW lt) {x y : α} {l : List α} (h : lt y x = false) (hl : Asc lt (y :: l)) : Asc lt (x :: y :: l) := by
  rw [asc_cons]
  refine ⟨fun z hz => ?_, hl⟩
  rcases List.mem_cons.1 hz with rfl | hz
  · exact h
  · exact le_trans' S h ((asc_cons.1 hl).1 z hz)

theorem asc_of_side (S : SW lt) : ∀ l : List α, (∀ i, (h : i + 1 < l.length) → lt l[i + 1] l[i] = false) → Asc lt l
  | [], _ => asc_nil
  | [x], _ => asc_one x
  | x :: y :: l, h => asc_cons2 S (h 0 (by simp)) (asc_of_side S (y :: l) (fun i hi => h (i + 1) (by simpa using hi)))

theorem mrg_asc (S : SW lt) : ∀ {l r : List α}, Asc lt l → Asc lt r → Asc lt (mrg lt l r)
  | [], r, _, hr => by rw [mrg_nil]; exact hr
  | x :: l, [], hl, _ => by rw [nil_mrg]; exact hl
  | x :: l, y :: r, hl, hr => by
    cases h : lt y x
    · rw [mrg_ge h, asc_cons]
      refine ⟨fun z hz => ?_, mrg_asc S (asc_cons.1 hl).2 hr⟩
      rcases mrg_mem.1 hz with hz | hz
      · exact (asc_cons.1 hl).1 z hz
      · rcases List.mem_cons.1 hz with rfl | hz
        · exact h
        · exact le_trans' S h ((asc_cons.1 hr).1 z hz)
    · rw [mrg_lt h, asc_cons]
      refine ⟨fun z hz => ?_, mrg_asc S hl (asc_cons.1 hr).2⟩
      rcases mrg_mem.1 hz with hz | hz
      · rcases List.mem_cons.1 hz with rfl | hz
        · exact S.asym _ _ h
        · exact le_trans' S (S.asym _ _ h) ((asc_cons.1 hl).1 z hz)
      · exact (asc_cons.1 hr).1 z hz
termination_by l r => l.length + r.length

/-- Where all of l goes ahead of all of r. -/
theorem mrg_ahead {l r : List α} (h : ∀ x ∈ l, ∀ y ∈ r, lt y x = false) : mrg lt l r = l ++ r := by
  have := mrg_split (lt := lt) l [] [] r h (by simp)
  simpa [nil_mrg, mrg_nil] using this
/-- Where all of r goes ahead of all of l. -/
theorem mrg_behind {l r : List α} (h : ∀ x ∈ l, ∀ y ∈ r, lt y x = true) : mrg lt l r = r ++ l := by
  have := mrg_split (lt := lt) [] r l [] (by simp) h
  simpa [nil_mrg, mrg_nil] using this

/-- THE STABLE SORT: element after element merged in. -/
def srt (lt : α → α → Bool) (l : List α) : List α := l.foldl (fun acc x => mrg lt acc [x]) []

theorem srt_snoc (l : List α) (x : α) : srt lt (l ++ [x]) = mrg lt (srt lt l) [x] := by simp [srt]
theorem srt_nil : srt lt [] = [] := rfl
theorem srt_one (x : α) : srt lt [x] = [x] := by simp [srt, mrg_nil]

theorem list_snoc {P : List α → Prop} (h0 : P []) (h1 : ∀ l x, P l → P (l ++ [x])) (l : List α) : P l := by
  have : ∀ n (l : List α), l.length = n → P l := by
    intro n
    induction n with
    | zero => intro l hl; rw [List.eq_nil_of_length_eq_zero hl]; exact h0
    | succ n ih =>
      intro l hl
      have hne : l ≠ [] := by intro e; rw [e] at hl; simp at hl
      rw [← List.dropLast_concat_getLast hne]
      exact h1 _ _ (ih _ (by simp [hl]))
  exact this _ l rfl

theorem srt_append (S : SW lt) (a b : List α) : srt lt (a ++ b) = mrg lt (srt lt a) (srt lt b) := by
  refine list_snoc (P := fun b => srt lt (a ++ b) = mrg lt (srt lt a) (srt lt b)) ?_ ?_ b
  · rw [List.append_nil, srt_nil, nil_mrg]
  · intro l x ih
    rw [← List.append_assoc, srt_snoc, srt_snoc, ih, mrg_assoc S]

theorem srt_cons (S : SW lt) (x : α) (l : List α) : srt lt (x :: l) = mrg lt [x] (srt lt l) := by
  have := srt_append S [x] l
  rw [srt_one] at this
  exact this

theorem srt_perm (l : List α) : (srt lt l).Perm l := by
  refine list_snoc (P := fun l => (srt lt l).Perm l) (by rw [srt_nil]) ?_ l
  intro l x ih
  rw [srt_snoc]
  exact (mrg_perm _ _).trans (ih.append_right [x])
theorem srt_length (l : List α) : (srt lt l).length = l.length := (srt_perm l).length_eq
theorem srt_mem {l : List α} {x : α} : x ∈ srt lt l ↔ x ∈ l := (srt_perm l).mem_iff

theorem srt_asc (S : SW lt) (l : List α) : Asc lt (srt lt l) := by
  refine list_snoc (P := fun l => Asc lt (srt lt l)) asc_nil ?_ l
  intro l x ih
  rw [srt_snoc]; exact mrg_asc S ih (asc_one x)

theorem srt_of_asc {l : List α} (h : Asc lt l) : srt lt l = l := by
  revert h
  refine list_snoc (P := fun l => Asc lt l → srt lt l = l) (fun _ => rfl) ?_ l
  intro l x ih h
  rw [asc_append] at h
  rw [srt_snoc, ih h.1, mrg_ahead h.2.2]

theorem srt_srt (S : SW lt) (l : List α) : srt lt (srt lt l) = srt lt l := srt_of_asc (srt_asc S l)

theorem srt_mrg (S : SW lt) (a b : List α) : mrg lt (srt lt a) (srt lt b) = srt lt (a ++ b) := (srt_append S a b).symm
theorem mrg_srt (S : SW lt) {a b : List α} (ha : Asc lt a) (hb : Asc lt b) : mrg lt a b = srt lt (a ++ b) := by rw [srt_append S, srt_of_asc ha, srt_of_asc hb]

/-- One element on its way down. -/
theorem mrg_down {A B : List α} {x : α} (h : ∀ b ∈ B, lt x b = true) : mrg lt (A ++ B) [x] = mrg lt A [x] ++ B := by
  have := mrg_split (lt := lt) A [x] B [] (by simp) (by simpa using h)
  simpa [nil_mrg] using this
theorem mrg_stop {A : List α} {x : α} (h : ∀ a ∈ A, lt x a = false) : mrg lt A [x] = A ++ [x] := mrg_ahead (by simpa using h)

end

/-! ### by an integer key -/
def ltK {α : Type} (key : α → Int) (a b : α) : Bool := decide (key a < key b)
theorem swK {α : Type} (key : α → Int) : SW (ltK key) :=
  ⟨fun a b h => by simp only [ltK, decide_eq_true_eq, decide_eq_false_iff_not] at *; omega, fun a b c h1 h2 => by simp only [ltK, decide_eq_true_eq] at *; omega,
   fun a b c h => by simp only [ltK, decide_eq_true_eq] at *; omega⟩

end Go.Proofs.Ytmolneojjcjooaa.Mg

/- General lemmas on worlds and slices, no program in sight. -/
namespace Go.Proofs.Ytmolneojjcjooaa
open Go.RowKit
set_option linter.unusedVariables false

def IntsAt (w : World) (a : Option Addr) (zs : List Int) : Prop :=
  zs = [] ∨ ∃ b off, a = some ⟨b, off, none⟩ ∧ b < w.heap.size ∧ ∀ j, j < zs.length → w.cell? ⟨b, off + j, none⟩ = some (.int .i64 (zs.getD j 0))

theorem IntsAt.at {w : World} {a : Option Addr} {zs : List Int} (h : IntsAt w a zs) {k : Nat} (hk : k < zs.length) :
    ∃ b off, a = some ⟨b, off, none⟩ ∧ w.cell? ⟨b, off + k, none⟩ = some (.int .i64 (zs.getD k 0)) := by
  rcases h with rfl | ⟨b, off, h1, _, h2⟩
  · simp at hk
  · exact ⟨b, off, h1, h2 k hk⟩

theorem IntsAt.below {w w' : World} {B : Nat} {a : Option Addr} {zs : List Int} (h : IntsAt w a zs) (hB : w.heap.size ≤ B) (hb : Below B w w') : IntsAt w' a zs := by
  rcases h with h | ⟨b, off, h1, h0, h2⟩
  · exact .inl h
  · refine .inr ⟨b, off, h1, by have := hb.size; omega, fun j hj => ?_⟩
    rw [hb.cell (p := ⟨b, off + j, none⟩) (by show b < B; omega)]; exact h2 j hj

theorem IntsAt.nil (w : World) (a : Option Addr) : IntsAt w a [] := .inl rfl

/-- What comes in: the cells up to the capacity; the first 'len' are the elements. -/
theorem ints_of_row {w : World} {x : Addr} {len : Nat} {zs : List Int} (hl : len ≤ zs.length) (hc : ∀ i, i < zs.length → w.cell? (x.add i) = some (.int .i64 (zs.getD i 0))) : IntsAt w (some x) (zs.take len) := by
  by_cases h0 : len = 0
  · subst h0; exact .inl (by simp)
  · obtain ⟨b, off, spot⟩ := x
    have hc0 := hc 0 (by omega)
    have hs : spot = none := by simpa [Addr.add] using World.cell?_spot hc0
    subst hs
    refine .inr ⟨b, off, rfl, World.block_lt_of_cell? w _ (by simpa [Addr.add] using hc0), fun j hj => ?_⟩
    have hj' : j < len := by simp at hj; omega
    have := hc j (by omega)
    have e : (⟨b, off, none⟩ : Addr).add j = ⟨b, off + j, none⟩ := by unfold Addr.add; split <;> simp_all
    rw [e] at this
    rw [this]
    simp [List.getD, hj']

/-- What is owned can be read. -/
theorem ints_of_own {w : World} {base : Nat} {e : TypeId} {a : Option Addr} {n c : Nat} {zs : List Int} (h : w.ownsRow base e 1 (.slice a n c) n (zs.map (Value.int .i64))) : IntsAt w a zs := by
  obtain ⟨h1, h2⟩ := h
  rcases h2 with ⟨h2, h3⟩ | ⟨g, cap, cur, hv, _, hg, hn, hc, hs, ht⟩
  · refine .inl ?_
    subst h3; simpa using h1
  · simp only [Value.slice.injEq] at hv
    obtain ⟨rfl, _, rfl⟩ := hv
    refine .inr ⟨g, 0, rfl, (Array.getElem?_eq_some_iff.1 hg).1, fun j hj => ?_⟩
    have hx : (zs.map (Value.int .i64))[j]? = some (.int .i64 (zs.getD j 0)) := by simp [List.getD, List.getElem?_eq_getElem hj]
    rw [← ht, List.getElem?_take] at hx
    split at hx
    · simp [World.cell?, hg]
      simpa using hx
    · cases hx

theorem own_slice {w : World} {base : Nat} {e : TypeId} {size n : Nat} {v : Value} {xs : List Value} (h : w.ownsRow base e size v n xs) : ∃ a c, v = .slice a n c := by
  rcases h.2 with ⟨h2, h3⟩ | ⟨g, cap, cur, hv, _⟩
  · subst h3; exact ⟨_, _, h2⟩
  · exact ⟨_, _, hv⟩

theorem own_below {B : Nat} {e : TypeId} {k : Nat} {v : Value} {n : Nat} {xs : List Value} {w w' : World} {S : Nat} (h : w.ownsRow B e k v n xs) (hS : w.heap.size ≤ S) (hb : Below S w w') : w'.ownsRow B e k v n xs := by
  refine ⟨h.1, ?_⟩
  rcases h.2 with h2 | ⟨g, cap, cur, hv, hg, hh, r⟩
  · exact .inl h2
  · refine .inr ⟨g, cap, cur, hv, hg, ?_, r⟩
    rw [hb.block g (by have := (Array.getElem?_eq_some_iff.1 hh).1; omega)]; exact hh

/-- A store into a row that was made whole. -/
theorem below_store {B : Nat} {a w : World} (h : Below B a w) {p : Addr} (hp : B ≤ p.block) (u : Value) : Below B a (w.setCell p u) := h.setCell hp u

theorem ret_bool {a b : Bool} (h : a = b) : Ending.returned (.bool a) = .returned (.bool b) := by rw [h]
theorem ret_int {a b : Int} (h : a = b) : Ending.returned (.int .i64 a) = .returned (.int .i64 b) := by rw [h]
theorem ret_int_bool {a b : Int} {c d : Bool} (h : a = b) (k : c = d) : Ending.returned (.tuple #[.int .i64 a, .bool c]) = .returned (.tuple #[.int .i64 b, .bool d]) := by rw [h, k]
theorem ret_bool2 {a b : Bool} {c d : Bool} (h : a = b) (k : c = d) : Ending.returned (.tuple #[.bool a, .bool c]) = .returned (.tuple #[.bool b, .bool d]) := by rw [h, k]

end Go.Proofs.Ytmolneojjcjooaa

/- General lemmas on append and make, no program in sight: what is appended to a list of the call's own, and which block it then lies in. -/
namespace Go.Proofs.Ytmolneojjcjooaa
open Go.RowKit
set_option linter.unusedVariables false

/-- What is known of a slice type and its element's type. -/
structure SlT (P : Program) (t e : TypeId) (z : Value) (size bytes : Nat) : Prop where
  und : P.underlying t = some (.slice e)
  info : ∃ i, P.info? e = some i ∧ i.zero = some z ∧ i.size = size ∧ i.bytes = bytes
  cells : z.cells.size = size
  pos : 0 < size
  small : bytes ≤ 128

theorem run_app_tag {P : Program} (w : World) {t e : TypeId} {z : Value} {size bytes : Nat} (T : SlT P t e z size bytes) (base : Nat) (ty : TypeId)
    (v : Value) (n : Nat) (xs : List Value) (hown : w.ownsRow base e size v n xs)
    (a : Addr) (m c : Nat) (news : List Value) (hl : news.length = m * size) (hnews : ∀ j u, news[j]? = some u → w.cell? (a.add j) = some u) (h1 : ∀ u ∈ news, u.oneCell' = true)
    (hsmall : n + m ≤ 1099511627776) (hbase : base ≤ w.heap.size) :
    ∃ v' w', (Builtin.append_ #[t, t] ty #[v, .slice (some a) m c]).run P w = .ok v' w' ∧ w'.ownsRow base e size v' (n + m) (xs ++ news) ∧ w.grownBy w' v.ownBlock ∧
      (v'.ownBlock = v.ownBlock ∨ v'.ownBlock = some w.heap.size) := by
  obtain ⟨i, hi, hz, hs, hby⟩ := T.info
  have hb47 : (n + m) * bytes ≤ 140737488355328 := by
    have := Nat.mul_le_mul hsmall T.small
    omega
  have hml : n + m ≤ maxLen := by unfold maxLen; omega
  obtain ⟨v', w', hr, g1, g2, g3⟩ := run_append_own (P := P) w base t ty e i z size bytes T.und hi hz hs hby T.cells T.pos v n xs hown a m c news hl hnews h1 hml hb47 hbase
  refine ⟨v', w', hr, g1, g2, ?_⟩
  subst hs
  rcases hown.2 with ⟨hv, hn⟩ | ⟨g, cap, cur, hv, _, hg, hnc, hcm, hcs, htake⟩
  · subst hn
    by_cases hm : m = 0
    · left; rw [g3.2 ⟨hv, hm⟩, hv]
    · right
      have h47 : m * i.bytes ≤ 281474976710656 := by rw [hby]; simp at hb47; omega
      have hq := run_append_nil (P := P) w t ty e i z T.und hi hz a m c news hl hnews (by omega) (by unfold maxLen at hml; omega) h47
      rw [hv] at hr
      rw [hr] at hq
      injection hq with e1 _
      rw [e1]; rfl
  · by_cases hroom : n + m ≤ cap
    · left
      have hfit : n * i.size + news.length ≤ cur.size := by rw [hl, hcs, ← Nat.add_mul]; exact Nat.mul_le_mul_right _ hroom
      have hq := run_append_room (P := P) w t ty e i T.und hi g n cap cur hg a m c news hl hnews h1 hroom hfit
      rw [hv] at hr
      rw [hr] at hq
      injection hq with e1 _
      rw [e1, hv]; rfl
    · right
      have holds : ∀ j u, xs[j]? = some u → w.cell? ((⟨g, 0, none⟩ : Addr).add j) = some u := hown.cells (g := g) (by rw [hv]; rfl)
      have hq := run_append_grow (P := P) w t ty e i z T.und hi hz ⟨g, 0, none⟩ n cap xs hown.1 holds a m c news hl hnews (by omega) (by unfold maxLen at hml; omega) (growslice_fits (by omega) (by rw [hby]; exact hb47))
      rw [hv] at hr
      rw [hr] at hq
      injection hq with e1 _
      rw [e1]; rfl

theorem grownBy_pre {w w' : World} {o : Obj} {row : Option Nat} (h : (w.alloc o).grownBy w' row) : w.grownBy w' row :=
  ⟨h.os, h.tape, h.output, Nat.le_trans (by simp) h.size, fun k hk hne => (h.block k (by simp; omega) hne).trans (Below.heap_alloc w o k hk)⟩

theorem addr_add_zero (g j : Nat) : (⟨g, 0, none⟩ : Addr).add j = ⟨g, j, none⟩ := by unfold Addr.add; split <;> simp_all

theorem cells_new (w : World) (news : List Value) (e : TypeId) : ∀ j u, news[j]? = some u → (w.alloc (.cells news.toArray e)).cell? ((⟨w.heap.size, 0, none⟩ : Addr).add j) = some u := by
  intro j u hu
  rw [addr_add_zero, cell_of_row _ w.heap.size j news.toArray e (0, 0) (heap_alloc_new w _)]
  simpa using hu

/-- 'append(s, x)', x one element that was just laid in a block of its own. -/
theorem wpList_app1 {P : Program} {w0 : World} {ops : Array Oper} {rest : List Oper} {o : Oper} {a : Act} {Q : Exit → Act → World → Prop} {t e : TypeId} {z : Value} {size bytes : Nat} (T : SlT P t e z size bytes)
    (hgd : o.guard = none) (s y : Operand) (ho : o.op = .call { callee := .builtin .append, args := #[s, y], argTypes := #[t, t] })
    {base : Nat} {v : Value} {n : Nat} {xs : List Value} (hs : a.eval s = v) (hown : w0.ownsRow base e size v n xs) (news : List Value) (hl : news.length = size)
    {b : Nat} (hx : a.eval y = .slice (some ⟨b, 0, none⟩) 1 1) (hb : w0.heap.size = b) (h1 : ∀ u ∈ news, u.oneCell' = true) (hsmall : n + 1 ≤ 1099511627776) (hbase : base ≤ w0.heap.size)
    (h : ∀ v' w', w'.ownsRow base e size v' (n + 1) (xs ++ news) → w0.grownBy w' v.ownBlock → (v'.ownBlock = v.ownBlock ∨ v'.ownBlock = some (w0.heap.size + 1)) → wpList P ops Q rest (a.put o.dst v') w') :
    wpList P ops Q (o :: rest) a (w0.alloc (.cells news.toArray e)) := by
  subst hb
  refine wpList_plain hgd fun K hK => ?_
  obtain ⟨v', w', hr, h2, h3, h4⟩ := run_app_tag (P := P) (w0.alloc (.cells news.toArray e)) T base o.type v n xs (hown.alloc _) ⟨w0.heap.size, 0, none⟩ 1 1 news (by omega) (cells_new w0 news e) h1 hsmall (by simp; omega)
  unfold Oper.wp execOp
  simp only [ho, resolve, invoke, builtin, Sem.run_bind, Sem.run_pure, Result.andThen_ok, List.map_toArray, List.map_cons, List.map_nil, hs, hx, hr]
  exact hK _ _ (h v' w' h2 (grownBy_pre h3) (by simpa using h4))

/-- 'make([]T, n)'. -/
theorem wpList_mk {P : Program} {w : World} {ops : Array Oper} {rest : List Oper} {o : Oper} {a : Act} {Q : Exit → Act → World → Prop} {t e : TypeId} {z : Value} {size bytes : Nat} (T : SlT P t e z size bytes)
    (hg : o.guard = none) (l c : Operand) (hop : o.op = Op.makeSlice t l c) (n : Nat) (hl : a.eval l = .int .i64 n) (hc : a.eval c = .int .i64 n) (hn : n ≤ 1099511627776)
    (hK : ∀ w', w'.ownsRow w.heap.size e size (.slice (some ⟨w.heap.size, 0, none⟩) n n) n (madeCells z.cells (n * size)).toList → Below w.heap.size w w' → w.heap.size < w'.heap.size → wpList P ops Q rest (a.put o.dst (.slice (some ⟨w.heap.size, 0, none⟩) n n)) w') :
    wpList P ops Q (o :: rest) a w := by
  obtain ⟨i, hi, hz, hs, hby⟩ := T.info
  refine wpList_make_full w hg l c t hop w.heap.size e i z size T.und hi hz hs .i64 .i64 n n n hl hc rfl rfl ?_ (by unfold maxLen; omega) (Nat.le_refl _) ?_
  · rw [hby]
    have := Nat.mul_le_mul T.small hn
    omega
  · intro w' h1 h2
    refine hK w' h1 ((Below.refl _ _).grown h2 (Nat.le_refl _) (fun k hk => by cases hk)) ?_
    exact (h1.lt w.heap.size rfl).2

/-- Behind 'append': what lies below is as it was. -/
theorem below_app {B : Nat} {w0 w w' : World} {v : Value} {base : Nat} {e : TypeId} {size n : Nat} {xs : List Value} (h : Below B w0 w) (hB : B ≤ w.heap.size) (hown : w.ownsRow base e size v n xs) (hbase : B ≤ base) (hg : w.grownBy w' v.ownBlock) : Below B w0 w' :=
  h.grown hg hB (fun k hk => Nat.le_trans hbase (hown.lt k hk).1)

/-- What another list owns is kept by an append, where the blocks are two. -/
theorem own_other {w w' : World} {base : Nat} {e : TypeId} {size n : Nat} {u : Value} {ys : List Value} {row : Option Nat} (h : w.ownsRow base e size u n ys) (hg : w.grownBy w' row) (hne : ∀ k, u.ownBlock = some k → row ≠ some k) : w'.ownsRow base e size u n ys := by
  refine h.kept hg ?_
  cases hu : u.ownBlock with
  | none => exact .inl rfl
  | some k => right; intro e; exact hne k hu e.symm

/-- A new list of literal elements. -/
theorem own_lit {w : World} {e : TypeId} {size : Nat} (cs : Array Value) (n : Nat) (hm : n ≤ 1099511627776) (hs : cs.size = n * size) :
    (w.alloc (.cells cs e)).ownsRow w.heap.size e size (.slice (some ⟨w.heap.size, 0, none⟩) n n) n cs.toList :=
  World.ownsRow_lit w cs n (Nat.le_refl _) (by unfold maxLen; omega) hs

theorem own_mono {w : World} {base base' : Nat} {e : TypeId} {size : Nat} {v : Value} {n : Nat} {xs : List Value} (h : w.ownsRow base e size v n xs) (hb : base' ≤ base) : w.ownsRow base' e size v n xs :=
  ⟨h.1, h.2.imp id fun ⟨g, cap, cur, hv, hg, r⟩ => ⟨g, cap, cur, hv, Nat.le_trans hb hg, r⟩⟩

end Go.Proofs.Ytmolneojjcjooaa

/- General lemmas on copies of integer lists; no program in sight. -/
namespace Go.Proofs.Ytmolneojjcjooaa
open Go.RowKit
set_option linter.unusedVariables false

abbrev IL (l : List Int) : List Value := l.map (Value.int .i64)
theorem size_al (w : World) (o : Obj) : (w.alloc o).heap.size = w.heap.size + 1 := by simp

/-- What a copy holds after k rounds. -/
def fillK (n k : Nat) (f : Nat → Value) (z : Value) : List Value := (List.range n).map fun j => if j < k then f j else z
theorem fillK_length (n k : Nat) (f : Nat → Value) (z : Value) : (fillK n k f z).length = n := by simp [fillK]
theorem fillK_zero (n : Nat) (f : Nat → Value) (z : Value) : fillK n 0 f z = List.replicate n z := by
  apply List.ext_getElem <;> simp [fillK]
theorem fillK_succ {n k : Nat} (f : Nat → Value) (z : Value) (h : k < n) : (fillK n k f z).set k (f k) = fillK n (k + 1) f z := by
  apply List.ext_getElem
  · simp [fillK]
  · intro j h1 h2
    simp only [fillK, List.getElem_set, List.getElem_map, List.getElem_range]
    by_cases e : k = j
    · subst e; simp
    · rw [if_neg e]
      by_cases hl : j < k
      · rw [if_pos hl, if_pos (by omega)]
      · rw [if_neg hl, if_neg (by omega)]
theorem fillK_end (n : Nat) (f : Nat → Value) (z : Value) : fillK n n f z = (List.range n).map f := by
  apply List.ext_getElem
  · simp [fillK]
  · intro j h1 h2
    have : j < n := by simpa [fillK] using h1
    simp [fillK, this]
theorem range_getD {α β : Type} (zs : List α) (d : α) (f : α → β) : (List.range zs.length).map (fun j => f (zs.getD j d)) = zs.map f := by
  apply List.ext_getElem
  · simp
  · intro j h1 h2
    have : j < zs.length := by simpa using h1
    simp [List.getD, this]
def cpK (zs : List Int) (k : Nat) : List Value := fillK zs.length k (fun j => .int .i64 (zs.getD j 0)) (.int .i64 0)
theorem cpK_zero (zs : List Int) : cpK zs 0 = List.replicate zs.length (Value.int .i64 0) := fillK_zero _ _ _
theorem cpK_end (zs : List Int) : cpK zs zs.length = zs.map (Value.int .i64) := by
  unfold cpK; rw [fillK_end]; exact range_getD zs 0 _
theorem cpK_length (zs : List Int) (k : Nat) : (cpK zs k).length = zs.length := fillK_length _ _ _ _
theorem cpK_succ {zs : List Int} {k : Nat} (h : k < zs.length) : (cpK zs k).set k (.int .i64 (zs.getD k 0)) = cpK zs (k + 1) := fillK_succ (fun j => .int .i64 (zs.getD j 0)) _ h

end Go.Proofs.Ytmolneojjcjooaa

/- Rows of integers: their element. -/
namespace Go.Proofs.Ytmolneojjcjooaa
open Go.RowKit
set_option linter.unusedVariables false

theorem Try.infoInt : (Try.prog.info? 3).map (fun i => (i.zero, i.size, i.bytes)) = some (some (.int .i64 0), 1, 8) := by kernel_rfl

theorem ownInts {w : World} {base : Nat} {a : Option Addr} {n c : Nat} {zs : List Int} (h : w.ownsRow base 3 1 (.slice a n c) n (zs.map (Value.int .i64))) : IntsAt w a zs := ints_of_own h

theorem slInt : SlT Try.prog 29 3 (.int .i64 0) 1 8 := ⟨Try.underlying29, info_parts Try.infoInt, rfl, by decide, by decide⟩

end Go.Proofs.Ytmolneojjcjooaa

/- Walks: bounds. -/
namespace Go.Proofs.Ytmolneojjcjooaa
open Go.RowKit
set_option linter.unusedVariables false

theorem hmf : ∀ (fn : Fn) (first cap : Array Value) (w : World), (Instr.makeFunc fn first cap).run Try.prog w = .ok (.func fn first cap) w := fun _ _ _ _ => rfl

def inB (n a b : Int) : Bool := decide (a ≤ n) && decide (n ≤ b)
theorem inB_iff {n a b : Int} : inB n a b = true ↔ a ≤ n ∧ n ≤ b := by simp [inB]

set_option maxHeartbeats 400000 in
theorem l1In_any (n a b : Int) (w : World) :
    Calls Try.prog 118 #[.int .i64 n, .int .i64 a, .int .i64 b] w fun e w' => e = .returned (.bool (inB n a b)) ∧ w = w' := by
  by_cases h : a ≤ n
  all_goals
    go_enter Try.func118, Try.ntmps118
    go_wp2
    go_ret
    exact ⟨by simp [inB]; try omega, rfl⟩

set_option maxHeartbeats 400000 in
theorem in_any (n a b : Int) (w : World) :
    Calls Try.prog 61 #[.int .i64 n, .int .i64 a, .int .i64 b] w fun e w' => e = .returned (.bool (inB n a b)) ∧ w = w' := by
  by_cases h : a ≤ n
  all_goals
    go_enter Try.func61, Try.ntmps61
    go_wp2
    go_ret
    exact ⟨by simp [inB]; try omega, rfl⟩

end Go.Proofs.Ytmolneojjcjooaa

/- Walks: keys. -/
namespace Go.Proofs.Ytmolneojjcjooaa
open Go.RowKit
set_option linter.unusedVariables false

def okKey (x : Int) : Bool := inB x (-100000) 100000
def okList (zs : List Int) : Bool := decide (zs.length ≤ 64) && zs.all okKey

set_option maxHeartbeats 400000 in
theorem isKey_any (n : Int) (w : World) :
    Calls Try.prog 138 #[.int .i64 n] w fun e w' => e = .returned (.bool (okKey n)) ∧ w = w' := by
  go_enter Try.func138, Try.ntmps138
  go_wp2_with (go_at_call 61; refine (in_any _ _ _ _).mono ?_; rintro e w' ⟨rfl, rfl⟩)
  go_ret
  exact ⟨rfl, rfl⟩

theorem okList_no {zs : List Int} {k : Nat} (hk : k < zs.length) (h : okKey (zs.getD k 0) = false) : okList zs = false := by
  unfold okList
  rw [Bool.and_eq_false_iff]; right
  rw [List.all_eq_false]
  exact ⟨zs[k], List.getElem_mem hk, by simpa [List.getD, hk] using h⟩

theorem okList_yes {zs : List Int} (h : ∀ j, j < zs.length → okKey (zs.getD j 0) = true) : okList zs = decide (zs.length ≤ 64) := by
  unfold okList
  have : zs.all okKey = true := by
    rw [List.all_eq_true]
    intro x hx
    obtain ⟨j, hj, rfl⟩ := List.getElem_of_mem hx
    have := h j hj
    simpa [List.getD, hj] using this
  rw [this, Bool.and_true]

end Go.Proofs.Ytmolneojjcjooaa

/- Walks: bounds, lists of integers, the check 'all', fingerprints. -/
namespace Go.Proofs.Ytmolneojjcjooaa
open Go.RowKit
set_option linter.unusedVariables false

set_option maxHeartbeats 400000 in
theorem l2List_any (a : Option Addr) (cap : Nat) (zs : List Int) (w : World) (hbig : zs.length ≤ 9223372036854775807) (h : IntsAt w a zs) :
    Calls Try.prog 66 #[.slice a zs.length cap] w fun e w' => e = .returned (.bool (okList zs)) ∧ w = w' := by
  have H := Lib.hid h; clear h
  go_enter Try.func66, Try.ntmps66
  go_wp2
  go_loop [3] (fun i => ∃ k : Nat, k ≤ zs.length ∧ k ≤ 65 ∧ i = .int .i64 k ∧ ∀ j, j < k → okKey (zs.getD j 0) = true) (fun i => zs.length - (intOf i).toNat)
  case atStart => exact ⟨0, by omega, by omega, rfl, by intro j h; omega⟩
  case round =>
    obtain ⟨k, hk, hk2, rfl, hall⟩ := hrel
    have Hall := Lib.hid hall; clear hall
    by_cases h1 : k < zs.length
    · by_cases h2 : k ≤ 64
      · obtain ⟨b, off, rfl, hcell⟩ := H.out.at h1
        generalize hx : zs.getD k 0 = x at hcell
        have Hx := Lib.hid hx; clear hx
        go_wp2_with (go_at_call 118; refine (l1In_any _ _ _ _).mono ?_; rintro e w' ⟨rfl, rfl⟩)
        · have hx : (!inB x (-100000) 100000) = true := by assumption
          go_ret
          exact ⟨ret_bool (by rw [okList_no h1 (by rw [Hx.out]; simpa [okKey] using hx)]), rfl⟩
        · have hx : (!inB x (-100000) 100000) = false := by assumption
          go_round
          case rel =>
            refine ⟨k + 1, by omega, by omega, by go_num, fun j hj => ?_⟩
            rcases Nat.lt_succ_iff_lt_or_eq.1 hj with h | rfl
            · exact Hall.out j h
            · rw [Hx.out]; simpa [okKey] using hx
          case measure => simp [intOf]; omega
      · go_wp2
        go_ret
        have : okList zs = false := by unfold okList; simp; omega
        exact ⟨ret_bool (by rw [this]; simp; omega), rfl⟩
    · go_wp2
      go_ret
      exact ⟨ret_bool (by rw [okList_yes (fun j hj => Hall.out j (by omega))]; exact decide_eq_decide.2 (by omega)), rfl⟩

/-- A function value that answers a predicate on integers, in every world above. -/
def IsPred (w : World) (hv : Value) (p : Int → Bool) : Prop :=
  ∃ G cp, hv = .func (.func G) #[] cp ∧ (∀ args w, (callFunc G args).run Try.prog w = .ok (.enter G args) w) ∧ ∀ w1, Below w.heap.size w w1 → ∀ x : Int, Calls Try.prog G (#[.int .i64 x] ++ cp) w1 fun e w' => e = .returned (.bool (p x)) ∧ w1 = w'

theorem isKey_pred (w : World) : IsPred w (.func (.func 138) #[] #[]) okKey :=
  ⟨_, _, rfl, fun _ _ => by kernel_rfl, fun w1 _ x => by simpa using isKey_any x w1⟩

/-- The closure that 'all' makes: not what the captured function says. -/
theorem allc_any (pc : Nat) (hv : Value) (p : Int → Bool) (w0 w : World) (hp : IsPred w0 hv p) (hb : Below w0.heap.size w0 w) (hc : w.cell? ⟨pc, 0, none⟩ = some hv) (x : Int) :
    Calls Try.prog 136 #[.int .i64 x, .pointer (some ⟨pc, 0, none⟩)] w fun e w' => e = .returned (.bool (!p x)) ∧ w = w' := by
  obtain ⟨G, cp, rfl, hcall, hp⟩ := hp
  have HP := Lib.hid (hp w hb x)
  clear hp hb
  have hcall := hcall (#[.int .i64 x] ++ cp)
  go_enter Try.func136, Try.ntmps136
  go_wp2_with fail
  refine HP.out.mono ?_
  rintro e w' ⟨rfl, rfl⟩
  go_wp2
  go_ret
  exact ⟨rfl, rfl⟩

def idxF (p : Int → Bool) (zs : List Int) : Int := match zs.findIdx? p with | some i => i | none => -1

theorem idxF_some {q : Int → Bool} {zs : List Int} {k : Nat} (hk : k < zs.length) (h : q (zs.getD k 0) = true) (hall : ∀ j, j < k → q (zs.getD j 0) = false) : idxF q zs = k := by
  have : zs.findIdx? q = some k := by
    rw [List.findIdx?_eq_some_iff_getElem]
    refine ⟨hk, by simpa [List.getD, hk] using h, fun j hj => ?_⟩
    have := hall j hj
    simpa [List.getD, show j < zs.length by omega] using this
  simp [idxF, this]

theorem idxF_none {q : Int → Bool} {zs : List Int} (hall : ∀ j, j < zs.length → q (zs.getD j 0) = false) : idxF q zs = -1 := by
  have : zs.findIdx? q = none := by
    rw [List.findIdx?_eq_none_iff]
    intro x hx
    obtain ⟨j, hj, rfl⟩ := List.getElem_of_mem hx
    have := hall j hj
    simpa [List.getD, hj] using this
  simp [idxF, this]

theorem idxF_any (q : Int → Bool) (zs : List Int) : decide (0 ≤ idxF q zs) = zs.any q := by
  unfold idxF
  cases h : zs.findIdx? q with
  | none =>
    have : zs.any q = false := by
      rw [List.findIdx?_eq_none_iff] at h
      rw [List.any_eq_false]
      intro x hx; simp [h x hx]
    simp [this]
  | some i =>
    have : zs.any q = true := by
      rw [List.findIdx?_eq_some_iff_getElem] at h
      obtain ⟨hi, h, _⟩ := h
      rw [List.any_eq_true]
      exact ⟨_, List.getElem_mem hi, h⟩
    simp [this]

set_option maxHeartbeats 400000 in
theorem indexFunc_any (a : Option Addr) (cap : Nat) (zs : List Int) (pc : Nat) (hv : Value) (p : Int → Bool) (w0 w : World) (hbig : zs.length ≤ 9223372036854775807) (h : IntsAt w a zs)
    (hp : IsPred w0 hv p) (hb : Below w0.heap.size w0 w) (hc : w.cell? ⟨pc, 0, none⟩ = some hv) :
    Calls Try.prog 183 #[.slice a zs.length cap, .func (.func 136) #[] #[.pointer (some ⟨pc, 0, none⟩)]] w
      fun e w' => e = .returned (.int .i64 (idxF (fun x => !p x) zs)) ∧ w = w' := by
  have H := Lib.hid h; clear h
  have HC := Lib.hid hc; clear hc
  have HP := Lib.hid hp; clear hp
  have HB := Lib.hid hb; clear hb
  go_enter Try.func183, Try.ntmps183
  go_wp2
  go_loop [8] (fun i => ∃ k : Nat, k ≤ zs.length ∧ i = .int .i64 k ∧ ∀ j, j < k → p (zs.getD j 0) = true) (fun i => zs.length - (intOf i).toNat)
  case atStart => exact ⟨0, by omega, rfl, by intro j h; omega⟩
  case round =>
    obtain ⟨k, hk, rfl, hall⟩ := hrel
    have Hall := Lib.hid hall; clear hall
    by_cases h1 : k < zs.length
    · obtain ⟨b, off, rfl, hcell⟩ := H.out.at h1
      generalize hx : zs.getD k 0 = x at hcell
      have Hx := Lib.hid hx; clear hx
      go_wp2_with (go_at_call 136; refine (allc_any _ _ _ _ _ HP.out HB.out HC.out _).mono ?_; rintro e w' ⟨rfl, rfl⟩)
      · have hx : (!p x) = true := by assumption
        go_ret
        exact ⟨ret_int (by rw [idxF_some h1 (by rw [Hx.out]; exact hx) (fun j hj => by simp only [Hall.out j hj, Bool.not_true])]), rfl⟩
      · have hx : (!p x) = false := by assumption
        go_round
        case rel =>
          refine ⟨k + 1, by omega, by go_num, fun j hj => ?_⟩
          rcases Nat.lt_succ_iff_lt_or_eq.1 hj with h | rfl
          · exact Hall.out j h
          · rw [Hx.out]; simpa using hx
        case measure => simp [intOf]; omega
    · go_wp2
      go_ret
      exact ⟨ret_int (by rw [idxF_none (fun j hj => by simp only [Hall.out j (by omega), Bool.not_true])]), rfl⟩

set_option maxHeartbeats 400000 in
theorem containsFunc_any (a : Option Addr) (cap : Nat) (zs : List Int) (pc : Nat) (hv : Value) (p : Int → Bool) (w0 w : World) (hbig : zs.length ≤ 9223372036854775807) (h : IntsAt w a zs)
    (hp : IsPred w0 hv p) (hb : Below w0.heap.size w0 w) (hc : w.cell? ⟨pc, 0, none⟩ = some hv) :
    Calls Try.prog 135 #[.slice a zs.length cap, .func (.func 136) #[] #[.pointer (some ⟨pc, 0, none⟩)]] w
      fun e w' => e = .returned (.bool (zs.any (fun x => !p x))) ∧ w = w' := by
  have HI := Lib.hid (indexFunc_any a cap zs pc hv p w0 w hbig h hp hb hc)
  have HE := Lib.hid (idxF_any (fun x => !p x) zs)
  clear h hp hb hc
  go_enter Try.func135, Try.ntmps135
  go_wp2_with (go_at_call 183; refine HI.out.mono ?_; rintro e w' ⟨rfl, rfl⟩)
  go_ret
  exact ⟨ret_bool HE.out, rfl⟩

set_option maxHeartbeats 400000 in
theorem all_any (a : Option Addr) (cap : Nat) (zs : List Int) (hv : Value) (p : Int → Bool) (w : World) (hbig : zs.length ≤ 9223372036854775807) (h : IntsAt w a zs) (hp : IsPred w hv p) :
    Calls Try.prog 63 #[.slice a zs.length cap, hv] w fun e w' => e = .returned (.bool (zs.all p)) ∧ Below w.heap.size w w' := by
  have hb : Below w.heap.size w (w.alloc (.cells #[hv] 90)) := (Below.refl _ _).alloc (Nat.le_refl _) _
  have hc : (w.alloc (.cells #[hv] 90)).cell? ⟨w.heap.size, 0, none⟩ = some hv := by rw [World.cell?_alloc_at _ _ _ _ rfl]; rfl
  have HI := Lib.hid (containsFunc_any a cap zs w.heap.size hv p w _ hbig (h.below (Nat.le_refl _) hb) hp hb hc)
  have HB := Lib.hid hb
  have he : (!zs.any (fun x => !p x)) = zs.all p := by rw [List.not_any_eq_all_not]; simp
  have HE := Lib.hid he; clear he
  have hmf := hmf
  obtain ⟨G, cp, rfl, _⟩ := hp
  clear h hb hc
  go_enter Try.func63, Try.ntmps63
  go_wp2_with (go_at_call 135; refine HI.out.mono ?_; rintro e w' ⟨rfl, rfl⟩)
  go_ret
  exact ⟨ret_bool HE.out, HB.out⟩

set_option maxHeartbeats 400000 in
theorem isValidList_any (a : Option Addr) (cap : Nat) (zs : List Int) (w : World) (hbig : zs.length ≤ 9223372036854775807) (h : IntsAt w a zs) :
    Calls Try.prog 68 #[.slice a zs.length cap] w fun e w' => e = .returned (.bool (okList zs)) ∧ Below w.heap.size w w' := by
  have HI := Lib.hid (all_any a cap zs _ okKey w hbig h (isKey_pred w))
  clear h
  by_cases hl : zs.length ≤ 64
  all_goals
    go_enter Try.func68, Try.ntmps68
    go_wp2_with (go_at_call 63; refine HI.out.mono ?_; rintro e w' ⟨rfl, hb⟩)
    go_ret
    exact ⟨ret_bool (by simp [okList, hl]), by first | exact hb | exact Below.refl _ _⟩

end Go.Proofs.Ytmolneojjcjooaa

/- Walks: valid permutations. -/
namespace Go.Proofs.Ytmolneojjcjooaa
open Go.RowKit
set_option linter.unusedVariables false

theorem Try.infoBool : (Try.prog.info? 4).map (fun i => (i.zero, i.size, i.bytes)) = some (some (.bool false), 1, 1) := by kernel_rfl
theorem slBool : SlT Try.prog 160 4 (.bool false) 1 1 := ⟨Try.underlying160, info_parts Try.infoBool, rfl, by decide, by decide⟩

/-- Every index of a list passes a test. -/
def allIx (n : Nat) (q : Nat → Bool) : Bool := (List.range n).all q
theorem allIx_no {n : Nat} {q : Nat → Bool} {k : Nat} (hk : k < n) (h : q k = false) : allIx n q = false := by
  unfold allIx; rw [List.all_eq_false]; exact ⟨k, by simpa using hk, by simp [h]⟩
theorem allIx_yes {n : Nat} {q : Nat → Bool} (h : ∀ k, k < n → q k = true) : allIx n q = true := by
  unfold allIx; rw [List.all_eq_true]; intro k hk; exact h k (by simpa using hk)
theorem allIx_at {n : Nat} {q : Nat → Bool} (h : allIx n q = true) {k : Nat} (hk : k < n) : q k = true := by
  unfold allIx at h; rw [List.all_eq_true] at h; exact h k (by simpa using hk)

def permOk (p : List Int) (k : Nat) : Bool := inB (p.getD k 0) 0 (p.length - 1) && !decide (p.getD k 0 ∈ p.take k)
def okPerm (p : List Int) : Bool := decide (p.length ≤ 64) && allIx p.length (permOk p)
theorem okPerm_at {p : List Int} (h : okPerm p = true) {k : Nat} (hk : k < p.length) : 0 ≤ p.getD k 0 ∧ p.getD k 0 < p.length := by
  unfold okPerm at h; rw [Bool.and_eq_true] at h
  have := allIx_at h.2 hk
  unfold permOk at this; rw [Bool.and_eq_true, inB_iff] at this
  omega
theorem okPerm_len {p : List Int} (h : okPerm p = true) : p.length ≤ 64 := by
  unfold okPerm at h; rw [Bool.and_eq_true] at h; simpa using h.1

def seenL (p : List Int) (k : Nat) : List Value := (List.range p.length).map fun j : Nat => Value.bool (decide ((j : Int) ∈ p.take k))
theorem seenL_len (p : List Int) (k : Nat) : (seenL p k).length = p.length := by simp [seenL]
theorem seenL_zero (p : List Int) : seenL p 0 = List.replicate p.length (.bool false) := by
  apply List.ext_getElem <;> simp [seenL]
theorem seenL_at {p : List Int} {k j : Nat} (hj : j < p.length) : (seenL p k)[j]? = some (.bool (decide ((j : Int) ∈ p.take k))) := by simp [seenL, hj]
theorem seenL_succ {p : List Int} {k j : Nat} (hk : k < p.length) (hj : p.getD k 0 = j) : (seenL p k).set j (.bool true) = seenL p (k + 1) := by
  apply List.ext_getElem
  · simp [seenL]
  · intro i h1 h2
    have e : p.take (k + 1) = p.take k ++ [(j : Int)] := by
      rw [List.take_add_one, ← hj]; simp [List.getD, List.getElem?_eq_getElem hk]
    simp only [seenL, List.getElem_set, List.getElem_map, List.getElem_range, e]
    by_cases e2 : j = i
    · subst e2; simp
    · rw [if_neg e2]
      have : ¬ ((i : Int) = (j : Int)) := by omega
      simp [this]

set_option maxHeartbeats 400000 in
theorem isValidPermutation_any (a : Option Addr) (cap : Nat) (zs : List Int) (w : World) (hbig : zs.length ≤ 9223372036854775807) (h : IntsAt w a zs) :
    Calls Try.prog 134 #[.slice a zs.length cap] w fun e w' => e = .returned (.bool (okPerm zs)) ∧ Below w.heap.size w w' := by
  by_cases hl : zs.length ≤ 64
  case neg =>
    have hf : okPerm zs = false := by unfold okPerm; simp; omega
    have HE := Lib.hid hf; clear hf
    go_enter Try.func134, Try.ntmps134
    go_wp2
    go_ret
    exact ⟨ret_bool HE.out.symm, Below.refl _ _⟩
  have HE : Hid (okPerm zs = allIx zs.length (permOk zs)) := by show _ = _; unfold okPerm; simp [hl]
  have H := Lib.hid h; clear h
  go_enter Try.func134, Try.ntmps134
  go_wp2_with (at_make; refine wpList_mk slBool rfl _ _ rfl zs.length rfl rfl (by omega) ?_)
  intro w1 hown hb hsz
  have hown : w1.ownsRow w.heap.size 4 1 (.slice (some ⟨w.heap.size, 0, none⟩) zs.length zs.length) zs.length (seenL zs 0) := by
    rw [seenL_zero, ← toList_madeCells_one]; simpa [Value.cells] using hown
  have HO := Lib.hid hown; clear hown
  have HB := Lib.hid hb; clear hb hsz
  go_wp2
  go_loopw [5, 14] (fun _ i wr => ∃ k : Nat, k ≤ zs.length ∧ i = .int .i64 k ∧ (∀ j, j < k → permOk zs j = true) ∧ wr.ownsRow w.heap.size 4 1 (.slice (some ⟨w.heap.size, 0, none⟩) zs.length zs.length) zs.length (seenL zs k) ∧ Below w.heap.size w wr) (fun _ i _ => zs.length - (intOf i).toNat)
  case atStart => exact ⟨0, by omega, rfl, by intro j h; omega, HO.out, HB.out⟩
  case round =>
    obtain ⟨k, hk, rfl, hall, hown, hb⟩ := hrel
    have HA := Lib.hid hall; clear hall HO HB
    have HB := Lib.hid hb; clear hb
    by_cases hlt : k < zs.length
    · obtain ⟨b, off, rfl, hcell⟩ := (H.out.below (Nat.le_refl _) HB.out).at hlt
      have HX : Hid (permOk zs k = (inB (zs.getD k 0) 0 (zs.length - 1) && !decide (zs.getD k 0 ∈ zs.take k))) := rfl
      generalize hx : zs.getD k 0 = x at hcell HX
      cases hin : inB x 0 (zs.length - 1)
      · have HI := Lib.hid (fun w1 => hin ▸ in_any x 0 (zs.length - 1) w1)
        have HZ := Lib.hid hin
        have HO := Lib.hid hown; clear hown hx hin
        go_wp2_with (go_at_call 61; refine (HI.out _).mono ?_; rintro e w' ⟨rfl, rfl⟩)
        go_ret
        exact ⟨ret_bool (by rw [HE.out, allIx_no hlt (by rw [HX.out, HZ.out, Bool.false_and])]), HB.out⟩
      · obtain ⟨hx0, hx1⟩ := inB_iff.1 hin
        obtain ⟨j, rfl⟩ := Int.eq_ofNat_of_zero_le hx0
        have hj : j < zs.length := by omega
        have HI := Lib.hid (fun w1 => hin ▸ in_any j 0 (zs.length - 1) w1)
        have hc1 := hown.cellAt j (by omega)
        rw [seenL_at hj] at hc1
        have hf1 := hown.frozenAt j
        have R := hown.stored j (.bool true)
        rw [seenL_succ hlt hx] at R
        have HR := Lib.hid R
        have HZ := Lib.hid hin
        by_cases hs : (j : Int) ∈ zs.take k
        · rw [decide_eq_true hs] at hc1
          have HS := Lib.hid hs
          clear R hown hx hin hs hx0 hx1
          go_wp2_with (go_at_call 61; refine (HI.out _).mono ?_; rintro e w' ⟨rfl, rfl⟩)
          go_ret
          exact ⟨ret_bool (by rw [HE.out, allIx_no hlt (by rw [HX.out, decide_eq_true HS.out]; simp)]), HB.out⟩
        · rw [decide_eq_false hs] at hc1
          have HS := Lib.hid hs
          clear R hown hx hin hs hx0 hx1
          go_wp2_with (go_at_call 61; refine (HI.out _).mono ?_; rintro e w' ⟨rfl, rfl⟩)
          go_roundw
          case rel =>
            refine ⟨k + 1, by omega, by go_num, fun q hq => ?_, HR.out.1, HB.out.setCell (Nat.le_refl _) _⟩
            rcases Nat.lt_succ_iff_lt_or_eq.1 hq with h | rfl
            · exact HA.out q h
            · rw [HX.out, HZ.out, decide_eq_false HS.out]; rfl
          case measure => simp [intOf]; omega
    · clear hown
      go_wp2
      go_ret
      exact ⟨ret_bool (by rw [HE.out, allIx_yes (fun j hj => HA.out j (by omega))]), HB.out⟩

set_option maxHeartbeats 400000 in
theorem l3Good_any (a : Option Addr) (cap : Nat) (zs : List Int) (w : World) (hbig : zs.length ≤ 9223372036854775807) (h : IntsAt w a zs) :
    Calls Try.prog 182 #[.slice a zs.length cap] w fun e w' => e = .returned (.bool (okPerm zs)) ∧ Below w.heap.size w w' := by
  by_cases hl : zs.length ≤ 64
  case neg =>
    have hf : okPerm zs = false := by unfold okPerm; simp; omega
    have HE := Lib.hid hf; clear hf
    go_enter Try.func182, Try.ntmps182
    go_wp2
    go_ret
    exact ⟨ret_bool HE.out.symm, Below.refl _ _⟩
  have HE : Hid (okPerm zs = allIx zs.length (permOk zs)) := by show _ = _; unfold okPerm; simp [hl]
  have H := Lib.hid h; clear h
  go_enter Try.func182, Try.ntmps182
  go_wp2_with (at_make; refine wpList_mk slBool rfl _ _ rfl zs.length rfl rfl (by omega) ?_)
  intro w1 hown hb hsz
  have hown : w1.ownsRow w.heap.size 4 1 (.slice (some ⟨w.heap.size, 0, none⟩) zs.length zs.length) zs.length (seenL zs 0) := by
    rw [seenL_zero, ← toList_madeCells_one]; simpa [Value.cells] using hown
  have HO := Lib.hid hown; clear hown
  have HB := Lib.hid hb; clear hb hsz
  go_wp2
  go_loopw [4] (fun i wr => ∃ k : Nat, k ≤ zs.length ∧ i = .int .i64 k ∧ (∀ j, j < k → permOk zs j = true) ∧ wr.ownsRow w.heap.size 4 1 (.slice (some ⟨w.heap.size, 0, none⟩) zs.length zs.length) zs.length (seenL zs k) ∧ Below w.heap.size w wr) (fun i _ => zs.length - (intOf i).toNat)
  case atStart => exact ⟨0, by omega, rfl, by intro j h; omega, HO.out, HB.out⟩
  case round =>
    obtain ⟨k, hk, rfl, hall, hown, hb⟩ := hrel
    have HA := Lib.hid hall; clear hall HO HB
    have HB := Lib.hid hb; clear hb
    by_cases hlt : k < zs.length
    · obtain ⟨b, off, rfl, hcell⟩ := (H.out.below (Nat.le_refl _) HB.out).at hlt
      have HX : Hid (permOk zs k = (inB (zs.getD k 0) 0 (zs.length - 1) && !decide (zs.getD k 0 ∈ zs.take k))) := rfl
      generalize hx : zs.getD k 0 = x at hcell HX
      cases hin : inB x 0 (zs.length - 1)
      · have HI := Lib.hid (fun w1 => hin ▸ l1In_any x 0 (zs.length - 1) w1)
        have HZ := Lib.hid hin
        have HO := Lib.hid hown; clear hown hx hin
        go_wp2_with (go_at_call 118; refine (HI.out _).mono ?_; rintro e w' ⟨rfl, rfl⟩)
        go_ret
        exact ⟨ret_bool (by rw [HE.out, allIx_no hlt (by rw [HX.out, HZ.out, Bool.false_and])]), HB.out⟩
      · obtain ⟨hx0, hx1⟩ := inB_iff.1 hin
        obtain ⟨j, rfl⟩ := Int.eq_ofNat_of_zero_le hx0
        have hj : j < zs.length := by omega
        have HI := Lib.hid (fun w1 => hin ▸ l1In_any j 0 (zs.length - 1) w1)
        have hc1 := hown.cellAt j (by omega)
        rw [seenL_at hj] at hc1
        have hf1 := hown.frozenAt j
        have R := hown.stored j (.bool true)
        rw [seenL_succ hlt hx] at R
        have HR := Lib.hid R
        have HZ := Lib.hid hin
        by_cases hs : (j : Int) ∈ zs.take k
        · rw [decide_eq_true hs] at hc1
          have HS := Lib.hid hs
          clear R hown hx hin hs hx0 hx1
          go_wp2_with (go_at_call 118; refine (HI.out _).mono ?_; rintro e w' ⟨rfl, rfl⟩)
          go_ret
          exact ⟨ret_bool (by rw [HE.out, allIx_no hlt (by rw [HX.out, decide_eq_true HS.out]; simp)]), HB.out⟩
        · rw [decide_eq_false hs] at hc1
          have HS := Lib.hid hs
          clear R hown hx hin hs hx0 hx1
          go_wp2_with (go_at_call 118; refine (HI.out _).mono ?_; rintro e w' ⟨rfl, rfl⟩)
          go_roundw
          case rel =>
            refine ⟨k + 1, by omega, by go_num, fun q hq => ?_, HR.out.1, HB.out.setCell (Nat.le_refl _) _⟩
            rcases Nat.lt_succ_iff_lt_or_eq.1 hq with h | rfl
            · exact HA.out q h
            · rw [HX.out, HZ.out, decide_eq_false HS.out]; rfl
          case measure => simp [intOf]; omega
    · clear hown
      go_wp2
      go_ret
      exact ⟨ret_bool (by rw [HE.out, allIx_yes (fun j hj => HA.out j (by omega))]), HB.out⟩

end Go.Proofs.Ytmolneojjcjooaa

/- Plain law: decision trees: which are valid, what they decide. No program in sight. -/
namespace Go.Proofs.Ytmolneojjcjooaa.Dt
set_option linter.unusedVariables false

/-- A node: the two items compared, where to go, the order of a leaf. -/
abbrev Nd := Int × Int × Int × Int × List Int
abbrev Nd.a (d : Nd) : Int := d.1
abbrev Nd.b (d : Nd) : Int := d.2.1
abbrev Nd.l (d : Nd) : Int := d.2.2.1
abbrev Nd.g (d : Nd) : Int := d.2.2.2.1
abbrev Nd.o (d : Nd) : List Int := d.2.2.2.2
def nd0 : Nd := (0, 0, 0, 0, [])

/-- A node may stand at place i of a tree of so many nodes. -/
def okNode (n i size : Nat) (d : Nd) : Bool :=
  if 0 < d.o.length then (d.a == 0 && d.b == 0 && d.l == 0 && d.g == 0) && (decide (d.o.length = n) && okPerm d.o)
  else (d.a != d.b && inB d.a 0 ((n : Int) - 1) && inB d.b 0 ((n : Int) - 1)) && (d.l != d.g && inB d.l ((i : Int) + 1) ((size : Int) - 1) && inB d.g ((i : Int) + 1) ((size : Int) - 1))
/-- How often a place is gone to. -/
def parN (ns : List Nd) (j : Nat) : Nat := ns.countP (fun d => decide (d.o.length = 0) && d.l == (j : Int)) + ns.countP (fun d => decide (d.o.length = 0) && d.g == (j : Int))
def nodesOk (n : Nat) (ns : List Nd) : Bool := (List.range ns.length).all fun i => okNode n i ns.length (ns.getD i nd0)
def parsOk (ns : List Nd) : Bool := (List.range (ns.length - 1)).all fun j => decide (parN ns (j + 1) = 1)
def okTree (n : Int) (ns : List Nd) : Bool := inB n 1 5 && inB (ns.length : Int) 1 255 && (nodesOk n.toNat ns && parsOk ns)

theorem parN_snoc {ns : List Nd} {i j : Nat} (h : i < ns.length) : parN (ns.take (i + 1)) j = parN (ns.take i) j + (if (ns.getD i nd0).o.length = 0 ∧ (ns.getD i nd0).l = (j : Int) then 1 else 0) + (if (ns.getD i nd0).o.length = 0 ∧ (ns.getD i nd0).g = (j : Int) then 1 else 0) := by
  have e : ns.take (i + 1) = ns.take i ++ [ns.getD i nd0] := by
    rw [List.take_succ_eq_append_getElem h, List.getD_eq_getElem?_getD, List.getElem?_eq_getElem h]; rfl
  generalize ns.getD i nd0 = d at e
  unfold parN
  have e1 : (decide (d.o.length = 0) && d.l == (j : Int)) = true ↔ (d.o.length = 0 ∧ d.l = (j : Int)) := by rw [Bool.and_eq_true, decide_eq_true_eq, beq_iff_eq]
  have e2 : (decide (d.o.length = 0) && d.g == (j : Int)) = true ↔ (d.o.length = 0 ∧ d.g = (j : Int)) := by rw [Bool.and_eq_true, decide_eq_true_eq, beq_iff_eq]
  rw [e, List.countP_append, List.countP_append, List.countP_singleton, List.countP_singleton]
  simp only [e1, e2]
  omega
theorem parN_le (ns : List Nd) (j : Nat) : parN ns j ≤ 2 * ns.length := by
  unfold parN
  have h1 := List.countP_le_length (p := fun d : Nd => decide (d.o.length = 0) && d.l == (j : Int)) (l := ns)
  have h2 := List.countP_le_length (p := fun d : Nd => decide (d.o.length = 0) && d.g == (j : Int)) (l := ns)
  omega
theorem nodesOk_no {n i : Nat} {ns : List Nd} (hi : i < ns.length) (h : okNode n i ns.length (ns.getD i nd0) = false) : nodesOk n ns = false := by
  unfold nodesOk
  rw [List.all_eq_false]
  exact ⟨i, List.mem_range.2 hi, by rw [h]; simp⟩
theorem nodesOk_yes {n : Nat} {ns : List Nd} (h : ∀ i, i < ns.length → okNode n i ns.length (ns.getD i nd0) = true) : nodesOk n ns = true := by
  unfold nodesOk
  rw [List.all_eq_true]
  intro i hi
  exact h i (List.mem_range.1 hi)
theorem nodesOk_at {n i : Nat} {ns : List Nd} (h : nodesOk n ns = true) (hi : i < ns.length) : okNode n i ns.length (ns.getD i nd0) = true := by
  unfold nodesOk at h
  rw [List.all_eq_true] at h
  exact h i (List.mem_range.2 hi)
theorem okTree_iff {n : Int} {ns : List Nd} (h : okTree n ns = true) : 1 ≤ n ∧ n ≤ 5 ∧ 1 ≤ ns.length ∧ ns.length ≤ 255 ∧ nodesOk n.toNat ns = true ∧ parsOk ns = true := by
  unfold okTree at h
  simp only [Bool.and_eq_true] at h
  have h1 := inB_iff.1 h.1.1
  have h2 := inB_iff.1 h.1.2
  exact ⟨h1.1, h1.2, by omega, by omega, h.2.1, h.2.2⟩
theorem okNode_leaf {n i size : Nat} {d : Nd} (h : okNode n i size d = true) (h0 : 0 < d.o.length) : d.o.length = n ∧ okPerm d.o = true := by
  unfold okNode at h
  rw [if_pos h0] at h
  simp only [Bool.and_eq_true, decide_eq_true_eq] at h
  exact h.2
theorem okNode_in {n i size : Nat} {d : Nd} (h : okNode n i size d = true) (h0 : d.o.length = 0) : (0 ≤ d.a ∧ d.a ≤ (n : Int) - 1) ∧ (0 ≤ d.b ∧ d.b ≤ (n : Int) - 1) ∧ ((i : Int) + 1 ≤ d.l ∧ d.l ≤ (size : Int) - 1) ∧ ((i : Int) + 1 ≤ d.g ∧ d.g ≤ (size : Int) - 1) := by
  unfold okNode at h
  rw [if_neg (by omega)] at h
  simp only [Bool.and_eq_true] at h
  exact ⟨inB_iff.1 h.1.1.2, inB_iff.1 h.1.2, inB_iff.1 h.2.1.2, inB_iff.1 h.2.2⟩

/-- Where a list leads, and how many comparisons that takes. -/
def run (ns : List Nd) (zs : List Int) : Nat → Nat → Nat → List Int × Nat
  | 0, _, c => ([], c)
  | f + 1, i, c =>
    if 0 < (ns.getD i nd0).o.length then ((ns.getD i nd0).o, c)
    else if zs.getD (ns.getD i nd0).a.toNat 0 < zs.getD (ns.getD i nd0).b.toNat 0 then run ns zs f (ns.getD i nd0).l.toNat (c + 1)
    else run ns zs f (ns.getD i nd0).g.toNat (c + 1)
def runT (ns : List Nd) (zs : List Int) : List Int × Nat := run ns zs ns.length 0 0
theorem run_leaf {ns : List Nd} {zs : List Int} {f i c : Nat} (h : 0 < (ns.getD i nd0).o.length) : run ns zs (f + 1) i c = ((ns.getD i nd0).o, c) := by rw [run, if_pos h]
theorem run_less {ns : List Nd} {zs : List Int} {f i c : Nat} (h : (ns.getD i nd0).o.length = 0) (h2 : zs.getD (ns.getD i nd0).a.toNat 0 < zs.getD (ns.getD i nd0).b.toNat 0) : run ns zs (f + 1) i c = run ns zs f (ns.getD i nd0).l.toNat (c + 1) := by rw [run, if_neg (by omega), if_pos h2]
theorem run_more {ns : List Nd} {zs : List Int} {f i c : Nat} (h : (ns.getD i nd0).o.length = 0) (h2 : ¬ zs.getD (ns.getD i nd0).a.toNat 0 < zs.getD (ns.getD i nd0).b.toNat 0) : run ns zs (f + 1) i c = run ns zs f (ns.getD i nd0).g.toNat (c + 1) := by rw [run, if_neg (by omega), if_neg h2]
/-- In a valid tree a run ends at a leaf, with fewer comparisons than nodes. -/
theorem run_ok {n : Nat} {ns : List Nd} {zs : List Int} (h : nodesOk n ns = true) : ∀ (f i c : Nat), ns.length ≤ i + f → i < ns.length → ∃ k, k < ns.length ∧ 0 < (ns.getD k nd0).o.length ∧ (run ns zs f i c).1 = (ns.getD k nd0).o ∧ (run ns zs f i c).2 + i < c + ns.length
  | 0, i, c, h1, h2 => by omega
  | f + 1, i, c, h1, h2 => by
    have ho := nodesOk_at h h2
    by_cases h0 : 0 < (ns.getD i nd0).o.length
    · rw [run_leaf h0]; exact ⟨i, h2, h0, rfl, by show c + i < c + ns.length; omega⟩
    · have h0' : (ns.getD i nd0).o.length = 0 := by omega
      obtain ⟨_, _, h5, h6⟩ := okNode_in ho h0'
      by_cases h7 : zs.getD (ns.getD i nd0).a.toNat 0 < zs.getD (ns.getD i nd0).b.toNat 0
      · rw [run_less h0' h7]
        obtain ⟨k, k1, k2, k3, k4⟩ := run_ok h f (ns.getD i nd0).l.toNat (c + 1) (by omega) (by omega)
        exact ⟨k, k1, k2, k3, by omega⟩
      · rw [run_more h0' h7]
        obtain ⟨k, k1, k2, k3, k4⟩ := run_ok h f (ns.getD i nd0).g.toNat (c + 1) (by omega) (by omega)
        exact ⟨k, k1, k2, k3, by omega⟩
theorem runT_ok {n : Nat} {ns : List Nd} {zs : List Int} (h : nodesOk n ns = true) (h1 : 1 ≤ ns.length) : (runT ns zs).1.length = n ∧ okPerm (runT ns zs).1 = true ∧ (runT ns zs).2 < ns.length := by
  obtain ⟨k, k1, k2, k3, k4⟩ := run_ok (zs := zs) h ns.length 0 0 (by omega) (by omega)
  have h2 := okNode_leaf (nodesOk_at h k1) k2
  unfold runT
  rw [k3]
  exact ⟨h2.1, h2.2, by omega⟩

/-- What a tree costs over all permutations; the first that it sorts wrong. -/
def mostTo (ns : List Nd) (ps : List (List Int)) : Nat := ps.foldl (fun m p => max m (runT ns p).2) 0
def totTo (ns : List Nd) (ps : List (List Int)) : Nat := ps.foldl (fun m p => m + (runT ns p).2) 0
theorem mostTo_snoc (ns : List Nd) (ps : List (List Int)) (p : List Int) : mostTo ns (ps ++ [p]) = max (mostTo ns ps) (runT ns p).2 := by simp [mostTo]
theorem totTo_snoc (ns : List Nd) (ps : List (List Int)) (p : List Int) : totTo ns (ps ++ [p]) = totTo ns ps + (runT ns p).2 := by simp [totTo]
def upB (l : List Int) : Bool := (List.range (l.length - 1)).all fun i => decide (l.getD i 0 ≤ l.getD (i + 1) 0)
def appl (o p : List Int) : List Int := o.map fun i => p.getD i.toNat 0
def good (ns : List Nd) (p : List Int) : Bool := upB (appl (runT ns p).1 p)
def firstBad (ns : List Nd) (ps : List (List Int)) : List Int := (ps.find? fun p => !good ns p).getD []

end Go.Proofs.Ytmolneojjcjooaa.Dt
