/- Several texts in one: lemmas and walks of the functions that the law reaches. -/
import Derived.Test.YtcncjedhpnaoaaaY2
import Derived.ProofKit

namespace Go.Proofs.Ytcncjedhpnaoaaa.Dt
set_option linter.unusedVariables false

/-- The subtree that inserts item x within a range of places, and the further items, behind what stands. -/
def growF : Nat → Nat → Bool → List Nd → List Int → Nat → Nat → Nat → List Nd
  | 0, _, _, t, _, _, _, _ => t
  | f + 1, n, b, t, s, x, lo, hi =>
    if x = n then t ++ [(0, 0, 0, 0, s)]
    else if hi ≤ lo then growF f n b t (s.take lo ++ (x : Int) :: s.drop lo) (x + 1) 0 (s.length + 1)
    else growF f n b ((growF f n b (t ++ [((x : Int), s.getD (if b then (lo + hi) / 2 else hi - 1) 0, ((t.length + 1 : Nat) : Int), 0, [])]) s x lo (if b then (lo + hi) / 2 else hi - 1)).set t.length
      ((x : Int), s.getD (if b then (lo + hi) / 2 else hi - 1) 0, ((t.length + 1 : Nat) : Int), ((growF f n b (t ++ [((x : Int), s.getD (if b then (lo + hi) / 2 else hi - 1) 0, ((t.length + 1 : Nat) : Int), 0, [])]) s x lo (if b then (lo + hi) / 2 else hi - 1)).length : Int), [])) s x (if b then (lo + hi) / 2 + 1 else hi) hi
/-- The tree of n insertions. -/
def itree (n : Nat) (b : Bool) : List Nd := growF 40 n b [] [0] 1 0 1

/-- Bounds of the paths' lengths. -/
def hts : Nat → List Nd → List Nat
  | _, [] => []
  | i, d :: r => (if 0 < d.o.length then 0 else 1 + max ((hts (i + 1) r).getD (d.l.toNat - (i + 1)) 0) ((hts (i + 1) r).getD (d.g.toNat - (i + 1)) 0)) :: hts (i + 1) r
def hOk (ns : List Nd) (hs : List Nat) : Bool := (List.range ns.length).all fun i =>
  decide (0 < (ns.getD i nd0).o.length) || (decide ((ns.getD i nd0).l.toNat < ns.length) && decide ((ns.getD i nd0).g.toNat < ns.length) && decide (hs.getD (ns.getD i nd0).l.toNat 0 + 1 ≤ hs.getD i 0) && decide (hs.getD (ns.getD i nd0).g.toNat 0 + 1 ≤ hs.getD i 0))
theorem hOk_at {ns : List Nd} {hs : List Nat} (h : hOk ns hs = true) {i : Nat} (hi : i < ns.length) (h0 : ¬ 0 < (ns.getD i nd0).o.length) : (ns.getD i nd0).l.toNat < ns.length ∧ (ns.getD i nd0).g.toNat < ns.length ∧ hs.getD (ns.getD i nd0).l.toNat 0 + 1 ≤ hs.getD i 0 ∧ hs.getD (ns.getD i nd0).g.toNat 0 + 1 ≤ hs.getD i 0 := by
  have := List.all_eq_true.1 h i (List.mem_range.2 hi)
  simp only [Bool.or_eq_true, Bool.and_eq_true, decide_eq_true_eq] at this
  rcases this with h1 | ⟨⟨⟨h1, h2⟩, h3⟩, h4⟩
  · exact absurd h1 h0
  · exact ⟨h1, h2, h3, h4⟩
theorem run_height {ns : List Nd} {hs : List Nat} (h : hOk ns hs = true) (zs : List Int) : ∀ (f i c : Nat), i < ns.length → (run ns zs f i c).2 ≤ c + hs.getD i 0
  | 0, i, c, _ => Nat.le_add_right _ _
  | f + 1, i, c, hi => by
    by_cases h0 : 0 < (ns.getD i nd0).o.length
    · rw [run_leaf h0]; exact Nat.le_add_right _ _
    · obtain ⟨h1, h2, h3, h4⟩ := hOk_at h hi h0
      by_cases hc : zs.getD (ns.getD i nd0).a.toNat 0 < zs.getD (ns.getD i nd0).b.toNat 0
      · rw [run_less (by omega) hc]
        have := run_height h zs f _ (c + 1) h1
        omega
      · rw [run_more (by omega) hc]
        have := run_height h zs f _ (c + 1) h2
        omega
/-- A node changed, but for where it goes to (but that the two may change places). -/
def Chg (d d' : Nd) : Prop := (d.o.length = 0 ∧ d'.o.length = 0 ∧ ((d'.l = d.l ∧ d'.g = d.g) ∨ (d'.l = d.g ∧ d'.g = d.l))) ∨ (0 < d.o.length ∧ 0 < d'.o.length)
theorem hOk_set {ns : List Nd} {hs : List Nat} (h : hOk ns hs = true) {k : Nat} (hk : k < ns.length) {d' : Nd} (hc : Chg (ns.getD k nd0) d') : hOk (ns.set k d') hs = true := by
  unfold hOk
  rw [List.all_eq_true]
  intro i hi
  rw [List.mem_range, List.length_set] at hi
  have hg : (ns.set k d').getD i nd0 = if i = k then d' else ns.getD i nd0 := by
    rw [List.getD_eq_getElem?_getD, List.getElem?_set, List.getD_eq_getElem?_getD]
    by_cases e : k = i
    · subst e; rw [if_pos rfl, if_pos rfl, if_pos hk]; rfl
    · rw [if_neg e, if_neg (fun e2 => e e2.symm)]
  rw [hg, List.length_set]
  simp only [Bool.or_eq_true, Bool.and_eq_true, decide_eq_true_eq]
  by_cases e : i = k
  · subst e
    rw [if_pos rfl]
    rcases hc with ⟨h0, h1, h2⟩ | ⟨h0, h1⟩
    · obtain ⟨a1, a2, a3, a4⟩ := hOk_at h hi (by omega)
      rcases h2 with ⟨e1, e2⟩ | ⟨e1, e2⟩
      · rw [e1, e2]; exact .inr ⟨⟨⟨a1, a2⟩, a3⟩, a4⟩
      · rw [e1, e2]; exact .inr ⟨⟨⟨a2, a1⟩, a4⟩, a3⟩
    · exact .inl h1
  · rw [if_neg e]
    by_cases h0 : 0 < (ns.getD i nd0).o.length
    · exact .inl h0
    · obtain ⟨a1, a2, a3, a4⟩ := hOk_at h hi h0
      exact .inr ⟨⟨⟨a1, a2⟩, a3⟩, a4⟩

/-- The places on a list's way. -/
def path (ns : List Nd) (zs : List Int) : Nat → Nat → List Nat
  | 0, _ => []
  | f + 1, i => i :: (if 0 < (ns.getD i nd0).o.length then [] else if zs.getD (ns.getD i nd0).a.toNat 0 < zs.getD (ns.getD i nd0).b.toNat 0 then path ns zs f (ns.getD i nd0).l.toNat else path ns zs f (ns.getD i nd0).g.toNat)
theorem run_avoid {ns : List Nd} {zs : List Int} {k : Nat} {d' : Nd} : ∀ (f i c : Nat), k ∉ path ns zs f i → run (ns.set k d') zs f i c = run ns zs f i c
  | 0, _, _, _ => rfl
  | f + 1, i, c, h => by
    rw [path, List.mem_cons, not_or] at h
    obtain ⟨h1, h2⟩ := h
    have hg : (ns.set k d').getD i nd0 = ns.getD i nd0 := by rw [List.getD_eq_getElem?_getD, List.getElem?_set_ne h1, List.getD_eq_getElem?_getD]
    by_cases h0 : 0 < (ns.getD i nd0).o.length
    · rw [run_leaf (by rw [hg]; exact h0), run_leaf h0, hg]
    · rw [if_neg h0] at h2
      by_cases hc : zs.getD (ns.getD i nd0).a.toNat 0 < zs.getD (ns.getD i nd0).b.toNat 0
      · rw [if_pos hc] at h2
        rw [run_less (by rw [hg]; omega) (by rw [hg]; exact hc), run_less (by omega) hc, hg]
        exact run_avoid f _ _ h2
      · rw [if_neg hc] at h2
        rw [run_more (by rw [hg]; omega) (by rw [hg]; exact hc), run_more (by omega) hc, hg]
        exact run_avoid f _ _ h2

/-- Two permutations that need the most comparisons, whatever node is changed. -/
def wit : Nat → Bool → List Int × List Int
  | 2, _ => ([0, 1], [0, 1])
  | 3, _ => ([1, 2, 0], [0, 1, 2])
  | 4, false => ([2, 3, 1, 0], [3, 0, 2, 1])
  | 4, true => ([1, 3, 0, 2], [0, 1, 2, 3])
  | 5, false => ([3, 4, 2, 1, 0], [4, 0, 3, 2, 1])
  | 5, true => ([2, 4, 1, 3, 0], [3, 0, 2, 4, 1])
  | _, _ => ([0], [0])
def tells (ns : List Nd) (D : Nat) (W : List Int × List Int) : Bool := decide (D ≤ (runT ns W.1).2) || decide (D ≤ (runT ns W.2).2)
/-- The changes of a node that leave where it goes to. -/
def changes (n : Nat) (d : Nd) : List Nd := ((List.range n).map fun (v : Nat) => ((v : Int), d.b, d.l, d.g, [])) ++ ((List.range n).map fun (v : Nat) => (d.a, (v : Int), d.l, d.g, [])) ++ [(d.a, d.b, d.g, d.l, [])]
def sound (T : List Nd) (n D : Nat) (W : List Int × List Int) : Bool :=
  hOk T (hts 0 T) && decide ((hts 0 T).getD 0 0 = D) && decide (D ≤ (runT T W.1).2) &&
  (path T W.1 T.length 0).all fun k => decide (0 < (T.getD k nd0).o.length) || (changes n (T.getD k nd0)).all fun d' => d'.a == d'.b || tells (T.set k d') D W
def T5a : List Nd := [(1, 0, 1, 120, []), (2, 0, 2, 81, []), (2, 1, 3, 42, []), (3, 0, 4, 33, []), (3, 1, 5, 24, []), (3, 2, 6, 15, []), (4, 0, 7, 14, []), (4, 1, 8, 13, []), (4, 2, 9, 12, []), (4, 3, 10, 11, []), (0, 0, 0, 0, [4, 3, 2, 1, 0]), (0, 0, 0, 0, [3, 4, 2, 1, 0]), (0, 0, 0, 0, [3, 2, 4, 1, 0]), (0, 0, 0, 0, [3, 2, 1, 4, 0]), (0, 0, 0, 0, [3, 2, 1, 0, 4]), (4, 0, 16, 23, []), (4, 1, 17, 22, []), (4, 3, 18, 21, []), (4, 2, 19, 20, []), (0, 0, 0, 0, [4, 2, 3, 1, 0]), (0, 0, 0, 0, [2, 4, 3, 1, 0]), (0, 0, 0, 0, [2, 3, 4, 1, 0]), (0, 0, 0, 0, [2, 3, 1, 4, 0]), (0, 0, 0, 0, [2, 3, 1, 0, 4]), (4, 0, 25, 32, []), (4, 3, 26, 31, []), (4, 1, 27, 30, []), (4, 2, 28, 29, []), (0, 0, 0, 0, [4, 2, 1, 3, 0]), (0, 0, 0, 0, [2, 4, 1, 3, 0]), (0, 0, 0, 0, [2, 1, 4, 3, 0]), (0, 0, 0, 0, [2, 1, 3, 4, 0]), (0, 0, 0, 0, [2, 1, 3, 0, 4]), (4, 3, 34, 41, []), (4, 0, 35, 40, []), (4, 1, 36, 39, []), (4, 2, 37, 38, []), (0, 0, 0, 0, [4, 2, 1, 0, 3]), (0, 0, 0, 0, [2, 4, 1, 0, 3]), (0, 0, 0, 0, [2, 1, 4, 0, 3]), (0, 0, 0, 0, [2, 1, 0, 4, 3]), (0, 0, 0, 0, [2, 1, 0, 3, 4]), (3, 0, 43, 72, []), (3, 2, 44, 63, []), (3, 1, 45, 54, []), (4, 0, 46, 53, []), (4, 2, 47, 52, []), (4, 1, 48, 51, []), (4, 3, 49, 50, []), (0, 0, 0, 0, [4, 3, 1, 2, 0]), (0, 0, 0, 0, [3, 4, 1, 2, 0]), (0, 0, 0, 0, [3, 1, 4, 2, 0]), (0, 0, 0, 0, [3, 1, 2, 4, 0]), (0, 0, 0, 0, [3, 1, 2, 0, 4]), (4, 0, 55, 62, []), (4, 2, 56, 61, []), (4, 3, 57, 60, []), (4, 1, 58, 59, []), (0, 0, 0, 0, [4, 1, 3, 2, 0]), (0, 0, 0, 0, [1, 4, 3, 2, 0]), (0, 0, 0, 0, [1, 3, 4, 2, 0]), (0, 0, 0, 0, [1, 3, 2, 4, 0]), (0, 0, 0, 0, [1, 3, 2, 0, 4]), (4, 0, 64, 71, []), (4, 3, 65, 70, []), (4, 2, 66, 69, []), (4, 1, 67, 68, []), (0, 0, 0, 0, [4, 1, 2, 3, 0]), (0, 0, 0, 0, [1, 4, 2, 3, 0]), (0, 0, 0, 0, [1, 2, 4, 3, 0]), (0, 0, 0, 0, [1, 2, 3, 4, 0]), (0, 0, 0, 0, [1, 2, 3, 0, 4]), (4, 3, 73, 80, []), (4, 0, 74, 79, []), (4, 2, 75, 78, []), (4, 1, 76, 77, []), (0, 0, 0, 0, [4, 1, 2, 0, 3]), (0, 0, 0, 0, [1, 4, 2, 0, 3]), (0, 0, 0, 0, [1, 2, 4, 0, 3]), (0, 0, 0, 0, [1, 2, 0, 4, 3]), (0, 0, 0, 0, [1, 2, 0, 3, 4]), (3, 2, 82, 111, []), (3, 0, 83, 102, []), (3, 1, 84, 93, []), (4, 2, 85, 92, []), (4, 0, 86, 91, []), (4, 1, 87, 90, []), (4, 3, 88, 89, []), (0, 0, 0, 0, [4, 3, 1, 0, 2]), (0, 0, 0, 0, [3, 4, 1, 0, 2]), (0, 0, 0, 0, [3, 1, 4, 0, 2]), (0, 0, 0, 0, [3, 1, 0, 4, 2]), (0, 0, 0, 0, [3, 1, 0, 2, 4]), (4, 2, 94, 101, []), (4, 0, 95, 100, []), (4, 3, 96, 99, []), (4, 1, 97, 98, []), (0, 0, 0, 0, [4, 1, 3, 0, 2]), (0, 0, 0, 0, [1, 4, 3, 0, 2]), (0, 0, 0, 0, [1, 3, 4, 0, 2]), (0, 0, 0, 0, [1, 3, 0, 4, 2]), (0, 0, 0, 0, [1, 3, 0, 2, 4]), (4, 2, 103, 110, []), (4, 3, 104, 109, []), (4, 0, 105, 108, []), (4, 1, 106, 107, []), (0, 0, 0, 0, [4, 1, 0, 3, 2]), (0, 0, 0, 0, [1, 4, 0, 3, 2]), (0, 0, 0, 0, [1, 0, 4, 3, 2]), (0, 0, 0, 0, [1, 0, 3, 4, 2]), (0, 0, 0, 0, [1, 0, 3, 2, 4]), (4, 3, 112, 119, []), (4, 2, 113, 118, []), (4, 0, 114, 117, []), (4, 1, 115, 116, []), (0, 0, 0, 0, [4, 1, 0, 2, 3]), (0, 0, 0, 0, [1, 4, 0, 2, 3]), (0, 0, 0, 0, [1, 0, 4, 2, 3]), (0, 0, 0, 0, [1, 0, 2, 4, 3]), (0, 0, 0, 0, [1, 0, 2, 3, 4]), (2, 1, 121, 200, []), (2, 0, 122, 161, []), (3, 1, 123, 152, []), (3, 0, 124, 143, []), (3, 2, 125, 134, []), (4, 1, 126, 133, []), (4, 0, 127, 132, []), (4, 2, 128, 131, []), (4, 3, 129, 130, []), (0, 0, 0, 0, [4, 3, 2, 0, 1]), (0, 0, 0, 0, [3, 4, 2, 0, 1]), (0, 0, 0, 0, [3, 2, 4, 0, 1]), (0, 0, 0, 0, [3, 2, 0, 4, 1]), (0, 0, 0, 0, [3, 2, 0, 1, 4]), (4, 1, 135, 142, []), (4, 0, 136, 141, []), (4, 3, 137, 140, []), (4, 2, 138, 139, []), (0, 0, 0, 0, [4, 2, 3, 0, 1]), (0, 0, 0, 0, [2, 4, 3, 0, 1]), (0, 0, 0, 0, [2, 3, 4, 0, 1]), (0, 0, 0, 0, [2, 3, 0, 4, 1]), (0, 0, 0, 0, [2, 3, 0, 1, 4]), (4, 1, 144, 151, []), (4, 3, 145, 150, []), (4, 0, 146, 149, []), (4, 2, 147, 148, []), (0, 0, 0, 0, [4, 2, 0, 3, 1]), (0, 0, 0, 0, [2, 4, 0, 3, 1]), (0, 0, 0, 0, [2, 0, 4, 3, 1]), (0, 0, 0, 0, [2, 0, 3, 4, 1]), (0, 0, 0, 0, [2, 0, 3, 1, 4]), (4, 3, 153, 160, []), (4, 1, 154, 159, []), (4, 0, 155, 158, []), (4, 2, 156, 157, []), (0, 0, 0, 0, [4, 2, 0, 1, 3]), (0, 0, 0, 0, [2, 4, 0, 1, 3]), (0, 0, 0, 0, [2, 0, 4, 1, 3]), (0, 0, 0, 0, [2, 0, 1, 4, 3]), (0, 0, 0, 0, [2, 0, 1, 3, 4]), (3, 1, 162, 191, []), (3, 2, 163, 182, []), (3, 0, 164, 173, []), (4, 1, 165, 172, []), (4, 2, 166, 171, []), (4, 0, 167, 170, []), (4, 3, 168, 169, []), (0, 0, 0, 0, [4, 3, 0, 2, 1]), (0, 0, 0, 0, [3, 4, 0, 2, 1]), (0, 0, 0, 0, [3, 0, 4, 2, 1]), (0, 0, 0, 0, [3, 0, 2, 4, 1]), (0, 0, 0, 0, [3, 0, 2, 1, 4]), (4, 1, 174, 181, []), (4, 2, 175, 180, []), (4, 3, 176, 179, []), (4, 0, 177, 178, []), (0, 0, 0, 0, [4, 0, 3, 2, 1]), (0, 0, 0, 0, [0, 4, 3, 2, 1]), (0, 0, 0, 0, [0, 3, 4, 2, 1]), (0, 0, 0, 0, [0, 3, 2, 4, 1]), (0, 0, 0, 0, [0, 3, 2, 1, 4]), (4, 1, 183, 190, []), (4, 3, 184, 189, []), (4, 2, 185, 188, []), (4, 0, 186, 187, []), (0, 0, 0, 0, [4, 0, 2, 3, 1]), (0, 0, 0, 0, [0, 4, 2, 3, 1]), (0, 0, 0, 0, [0, 2, 4, 3, 1]), (0, 0, 0, 0, [0, 2, 3, 4, 1]), (0, 0, 0, 0, [0, 2, 3, 1, 4]), (4, 3, 192, 199, []), (4, 1, 193, 198, []), (4, 2, 194, 197, []), (4, 0, 195, 196, []), (0, 0, 0, 0, [4, 0, 2, 1, 3]), (0, 0, 0, 0, [0, 4, 2, 1, 3]), (0, 0, 0, 0, [0, 2, 4, 1, 3]), (0, 0, 0, 0, [0, 2, 1, 4, 3]), (0, 0, 0, 0, [0, 2, 1, 3, 4]), (3, 2, 201, 230, []), (3, 1, 202, 221, []), (3, 0, 203, 212, []), (4, 2, 204, 211, []), (4, 1, 205, 210, []), (4, 0, 206, 209, []), (4, 3, 207, 208, []), (0, 0, 0, 0, [4, 3, 0, 1, 2]), (0, 0, 0, 0, [3, 4, 0, 1, 2]), (0, 0, 0, 0, [3, 0, 4, 1, 2]), (0, 0, 0, 0, [3, 0, 1, 4, 2]), (0, 0, 0, 0, [3, 0, 1, 2, 4]), (4, 2, 213, 220, []), (4, 1, 214, 219, []), (4, 3, 215, 218, []), (4, 0, 216, 217, []), (0, 0, 0, 0, [4, 0, 3, 1, 2]), (0, 0, 0, 0, [0, 4, 3, 1, 2]), (0, 0, 0, 0, [0, 3, 4, 1, 2]), (0, 0, 0, 0, [0, 3, 1, 4, 2]), (0, 0, 0, 0, [0, 3, 1, 2, 4]), (4, 2, 222, 229, []), (4, 3, 223, 228, []), (4, 1, 224, 227, []), (4, 0, 225, 226, []), (0, 0, 0, 0, [4, 0, 1, 3, 2]), (0, 0, 0, 0, [0, 4, 1, 3, 2]), (0, 0, 0, 0, [0, 1, 4, 3, 2]), (0, 0, 0, 0, [0, 1, 3, 4, 2]), (0, 0, 0, 0, [0, 1, 3, 2, 4]), (4, 3, 231, 238, []), (4, 2, 232, 237, []), (4, 1, 233, 236, []), (4, 0, 234, 235, []), (0, 0, 0, 0, [4, 0, 1, 2, 3]), (0, 0, 0, 0, [0, 4, 1, 2, 3]), (0, 0, 0, 0, [0, 1, 4, 2, 3]), (0, 0, 0, 0, [0, 1, 2, 4, 3]), (0, 0, 0, 0, [0, 1, 2, 3, 4])]
def T5b : List Nd := [(1, 0, 1, 120, []), (2, 0, 2, 81, []), (2, 1, 3, 42, []), (3, 1, 4, 23, []), (3, 2, 5, 14, []), (4, 1, 6, 11, []), (4, 2, 7, 10, []), (4, 3, 8, 9, []), (0, 0, 0, 0, [4, 3, 2, 1, 0]), (0, 0, 0, 0, [3, 4, 2, 1, 0]), (0, 0, 0, 0, [3, 2, 4, 1, 0]), (4, 0, 12, 13, []), (0, 0, 0, 0, [3, 2, 1, 4, 0]), (0, 0, 0, 0, [3, 2, 1, 0, 4]), (4, 1, 15, 20, []), (4, 3, 16, 19, []), (4, 2, 17, 18, []), (0, 0, 0, 0, [4, 2, 3, 1, 0]), (0, 0, 0, 0, [2, 4, 3, 1, 0]), (0, 0, 0, 0, [2, 3, 4, 1, 0]), (4, 0, 21, 22, []), (0, 0, 0, 0, [2, 3, 1, 4, 0]), (0, 0, 0, 0, [2, 3, 1, 0, 4]), (3, 0, 24, 33, []), (4, 3, 25, 30, []), (4, 1, 26, 29, []), (4, 2, 27, 28, []), (0, 0, 0, 0, [4, 2, 1, 3, 0]), (0, 0, 0, 0, [2, 4, 1, 3, 0]), (0, 0, 0, 0, [2, 1, 4, 3, 0]), (4, 0, 31, 32, []), (0, 0, 0, 0, [2, 1, 3, 4, 0]), (0, 0, 0, 0, [2, 1, 3, 0, 4]), (4, 0, 34, 39, []), (4, 1, 35, 38, []), (4, 2, 36, 37, []), (0, 0, 0, 0, [4, 2, 1, 0, 3]), (0, 0, 0, 0, [2, 4, 1, 0, 3]), (0, 0, 0, 0, [2, 1, 4, 0, 3]), (4, 3, 40, 41, []), (0, 0, 0, 0, [2, 1, 0, 4, 3]), (0, 0, 0, 0, [2, 1, 0, 3, 4]), (3, 2, 43, 62, []), (3, 1, 44, 53, []), (4, 2, 45, 50, []), (4, 1, 46, 49, []), (4, 3, 47, 48, []), (0, 0, 0, 0, [4, 3, 1, 2, 0]), (0, 0, 0, 0, [3, 4, 1, 2, 0]), (0, 0, 0, 0, [3, 1, 4, 2, 0]), (4, 0, 51, 52, []), (0, 0, 0, 0, [3, 1, 2, 4, 0]), (0, 0, 0, 0, [3, 1, 2, 0, 4]), (4, 2, 54, 59, []), (4, 3, 55, 58, []), (4, 1, 56, 57, []), (0, 0, 0, 0, [4, 1, 3, 2, 0]), (0, 0, 0, 0, [1, 4, 3, 2, 0]), (0, 0, 0, 0, [1, 3, 4, 2, 0]), (4, 0, 60, 61, []), (0, 0, 0, 0, [1, 3, 2, 4, 0]), (0, 0, 0, 0, [1, 3, 2, 0, 4]), (3, 0, 63, 72, []), (4, 3, 64, 69, []), (4, 2, 65, 68, []), (4, 1, 66, 67, []), (0, 0, 0, 0, [4, 1, 2, 3, 0]), (0, 0, 0, 0, [1, 4, 2, 3, 0]), (0, 0, 0, 0, [1, 2, 4, 3, 0]), (4, 0, 70, 71, []), (0, 0, 0, 0, [1, 2, 3, 4, 0]), (0, 0, 0, 0, [1, 2, 3, 0, 4]), (4, 0, 73, 78, []), (4, 2, 74, 77, []), (4, 1, 75, 76, []), (0, 0, 0, 0, [4, 1, 2, 0, 3]), (0, 0, 0, 0, [1, 4, 2, 0, 3]), (0, 0, 0, 0, [1, 2, 4, 0, 3]), (4, 3, 79, 80, []), (0, 0, 0, 0, [1, 2, 0, 4, 3]), (0, 0, 0, 0, [1, 2, 0, 3, 4]), (3, 0, 82, 101, []), (3, 1, 83, 92, []), (4, 0, 84, 89, []), (4, 1, 85, 88, []), (4, 3, 86, 87, []), (0, 0, 0, 0, [4, 3, 1, 0, 2]), (0, 0, 0, 0, [3, 4, 1, 0, 2]), (0, 0, 0, 0, [3, 1, 4, 0, 2]), (4, 2, 90, 91, []), (0, 0, 0, 0, [3, 1, 0, 4, 2]), (0, 0, 0, 0, [3, 1, 0, 2, 4]), (4, 0, 93, 98, []), (4, 3, 94, 97, []), (4, 1, 95, 96, []), (0, 0, 0, 0, [4, 1, 3, 0, 2]), (0, 0, 0, 0, [1, 4, 3, 0, 2]), (0, 0, 0, 0, [1, 3, 4, 0, 2]), (4, 2, 99, 100, []), (0, 0, 0, 0, [1, 3, 0, 4, 2]), (0, 0, 0, 0, [1, 3, 0, 2, 4]), (3, 2, 102, 111, []), (4, 3, 103, 108, []), (4, 0, 104, 107, []), (4, 1, 105, 106, []), (0, 0, 0, 0, [4, 1, 0, 3, 2]), (0, 0, 0, 0, [1, 4, 0, 3, 2]), (0, 0, 0, 0, [1, 0, 4, 3, 2]), (4, 2, 109, 110, []), (0, 0, 0, 0, [1, 0, 3, 4, 2]), (0, 0, 0, 0, [1, 0, 3, 2, 4]), (4, 2, 112, 117, []), (4, 0, 113, 116, []), (4, 1, 114, 115, []), (0, 0, 0, 0, [4, 1, 0, 2, 3]), (0, 0, 0, 0, [1, 4, 0, 2, 3]), (0, 0, 0, 0, [1, 0, 4, 2, 3]), (4, 3, 118, 119, []), (0, 0, 0, 0, [1, 0, 2, 4, 3]), (0, 0, 0, 0, [1, 0, 2, 3, 4]), (2, 1, 121, 200, []), (2, 0, 122, 161, []), (3, 0, 123, 142, []), (3, 2, 124, 133, []), (4, 0, 125, 130, []), (4, 2, 126, 129, []), (4, 3, 127, 128, []), (0, 0, 0, 0, [4, 3, 2, 0, 1]), (0, 0, 0, 0, [3, 4, 2, 0, 1]), (0, 0, 0, 0, [3, 2, 4, 0, 1]), (4, 1, 131, 132, []), (0, 0, 0, 0, [3, 2, 0, 4, 1]), (0, 0, 0, 0, [3, 2, 0, 1, 4]), (4, 0, 134, 139, []), (4, 3, 135, 138, []), (4, 2, 136, 137, []), (0, 0, 0, 0, [4, 2, 3, 0, 1]), (0, 0, 0, 0, [2, 4, 3, 0, 1]), (0, 0, 0, 0, [2, 3, 4, 0, 1]), (4, 1, 140, 141, []), (0, 0, 0, 0, [2, 3, 0, 4, 1]), (0, 0, 0, 0, [2, 3, 0, 1, 4]), (3, 1, 143, 152, []), (4, 3, 144, 149, []), (4, 0, 145, 148, []), (4, 2, 146, 147, []), (0, 0, 0, 0, [4, 2, 0, 3, 1]), (0, 0, 0, 0, [2, 4, 0, 3, 1]), (0, 0, 0, 0, [2, 0, 4, 3, 1]), (4, 1, 150, 151, []), (0, 0, 0, 0, [2, 0, 3, 4, 1]), (0, 0, 0, 0, [2, 0, 3, 1, 4]), (4, 1, 153, 158, []), (4, 0, 154, 157, []), (4, 2, 155, 156, []), (0, 0, 0, 0, [4, 2, 0, 1, 3]), (0, 0, 0, 0, [2, 4, 0, 1, 3]), (0, 0, 0, 0, [2, 0, 4, 1, 3]), (4, 3, 159, 160, []), (0, 0, 0, 0, [2, 0, 1, 4, 3]), (0, 0, 0, 0, [2, 0, 1, 3, 4]), (3, 2, 162, 181, []), (3, 0, 163, 172, []), (4, 2, 164, 169, []), (4, 0, 165, 168, []), (4, 3, 166, 167, []), (0, 0, 0, 0, [4, 3, 0, 2, 1]), (0, 0, 0, 0, [3, 4, 0, 2, 1]), (0, 0, 0, 0, [3, 0, 4, 2, 1]), (4, 1, 170, 171, []), (0, 0, 0, 0, [3, 0, 2, 4, 1]), (0, 0, 0, 0, [3, 0, 2, 1, 4]), (4, 2, 173, 178, []), (4, 3, 174, 177, []), (4, 0, 175, 176, []), (0, 0, 0, 0, [4, 0, 3, 2, 1]), (0, 0, 0, 0, [0, 4, 3, 2, 1]), (0, 0, 0, 0, [0, 3, 4, 2, 1]), (4, 1, 179, 180, []), (0, 0, 0, 0, [0, 3, 2, 4, 1]), (0, 0, 0, 0, [0, 3, 2, 1, 4]), (3, 1, 182, 191, []), (4, 3, 183, 188, []), (4, 2, 184, 187, []), (4, 0, 185, 186, []), (0, 0, 0, 0, [4, 0, 2, 3, 1]), (0, 0, 0, 0, [0, 4, 2, 3, 1]), (0, 0, 0, 0, [0, 2, 4, 3, 1]), (4, 1, 189, 190, []), (0, 0, 0, 0, [0, 2, 3, 4, 1]), (0, 0, 0, 0, [0, 2, 3, 1, 4]), (4, 1, 192, 197, []), (4, 2, 193, 196, []), (4, 0, 194, 195, []), (0, 0, 0, 0, [4, 0, 2, 1, 3]), (0, 0, 0, 0, [0, 4, 2, 1, 3]), (0, 0, 0, 0, [0, 2, 4, 1, 3]), (4, 3, 198, 199, []), (0, 0, 0, 0, [0, 2, 1, 4, 3]), (0, 0, 0, 0, [0, 2, 1, 3, 4]), (3, 1, 201, 220, []), (3, 0, 202, 211, []), (4, 1, 203, 208, []), (4, 0, 204, 207, []), (4, 3, 205, 206, []), (0, 0, 0, 0, [4, 3, 0, 1, 2]), (0, 0, 0, 0, [3, 4, 0, 1, 2]), (0, 0, 0, 0, [3, 0, 4, 1, 2]), (4, 2, 209, 210, []), (0, 0, 0, 0, [3, 0, 1, 4, 2]), (0, 0, 0, 0, [3, 0, 1, 2, 4]), (4, 1, 212, 217, []), (4, 3, 213, 216, []), (4, 0, 214, 215, []), (0, 0, 0, 0, [4, 0, 3, 1, 2]), (0, 0, 0, 0, [0, 4, 3, 1, 2]), (0, 0, 0, 0, [0, 3, 4, 1, 2]), (4, 2, 218, 219, []), (0, 0, 0, 0, [0, 3, 1, 4, 2]), (0, 0, 0, 0, [0, 3, 1, 2, 4]), (3, 2, 221, 230, []), (4, 3, 222, 227, []), (4, 1, 223, 226, []), (4, 0, 224, 225, []), (0, 0, 0, 0, [4, 0, 1, 3, 2]), (0, 0, 0, 0, [0, 4, 1, 3, 2]), (0, 0, 0, 0, [0, 1, 4, 3, 2]), (4, 2, 228, 229, []), (0, 0, 0, 0, [0, 1, 3, 4, 2]), (0, 0, 0, 0, [0, 1, 3, 2, 4]), (4, 2, 231, 236, []), (4, 1, 232, 235, []), (4, 0, 233, 234, []), (0, 0, 0, 0, [4, 0, 1, 2, 3]), (0, 0, 0, 0, [0, 4, 1, 2, 3]), (0, 0, 0, 0, [0, 1, 4, 2, 3]), (4, 3, 237, 238, []), (0, 0, 0, 0, [0, 1, 2, 4, 3]), (0, 0, 0, 0, [0, 1, 2, 3, 4])]
set_option maxRecDepth 100000 in
theorem itree_5a : itree 5 false = T5a := by decide +kernel
set_option maxRecDepth 100000 in
theorem itree_5b : itree 5 true = T5b := by decide +kernel
set_option maxRecDepth 100000 in
theorem sound_5a : sound T5a 5 10 (wit 5 false) = true := by decide +kernel
set_option maxRecDepth 100000 in
theorem sound_5b : sound T5b 5 8 (wit 5 true) = true := by decide +kernel
theorem sound_3 : sound (itree 1 false) 1 0 (wit 1 false) && sound (itree 1 true) 1 0 (wit 1 true) && sound (itree 2 false) 2 1 (wit 2 false) && sound (itree 2 true) 2 1 (wit 2 true) && sound (itree 3 false) 3 3 (wit 3 false) && sound (itree 3 true) 3 3 (wit 3 true) = true := by decide +kernel
theorem sound_4 : sound (itree 4 false) 4 6 (wit 4 false) && sound (itree 4 true) 4 5 (wit 4 true) = true := by decide +kernel
end Go.Proofs.Ytcncjedhpnaoaaa.Dt

namespace Go.Proofs.Ytcncjedhpnaoaaa.Dt
open Go.Proofs.Ytcncjedhpnaoaaa
set_option linter.unusedVariables false

theorem set_getD {ns : List Nd} {k i : Nat} {d' : Nd} (hk : k < ns.length) : (ns.set k d').getD i nd0 = if i = k then d' else ns.getD i nd0 := by
  rw [List.getD_eq_getElem?_getD, List.getElem?_set, List.getD_eq_getElem?_getD]
  by_cases e : k = i
  · subst e; rw [if_pos rfl, if_pos rfl, if_pos hk]; rfl
  · rw [if_neg e, if_neg (fun e2 => e e2.symm)]
/-- Another order in a leaf changes no count. -/
theorem run_leafset {ns : List Nd} {zs : List Int} {k : Nat} {d' : Nd} (hk : k < ns.length) (h1 : 0 < (ns.getD k nd0).o.length) (h2 : 0 < d'.o.length) : ∀ (f i c : Nat), (run (ns.set k d') zs f i c).2 = (run ns zs f i c).2
  | 0, _, _ => rfl
  | f + 1, i, c => by
    by_cases e : i = k
    · subst e
      rw [run_leaf (by rw [set_getD hk, if_pos rfl]; exact h2), run_leaf h1]
    · have hg : (ns.set k d').getD i nd0 = ns.getD i nd0 := by rw [set_getD hk, if_neg e]
      by_cases h0 : 0 < (ns.getD i nd0).o.length
      · rw [run_leaf (by rw [hg]; exact h0), run_leaf h0]
      · by_cases hc : zs.getD (ns.getD i nd0).a.toNat 0 < zs.getD (ns.getD i nd0).b.toNat 0
        · rw [run_less (by rw [hg]; omega) (by rw [hg]; exact hc), run_less (by omega) hc, hg]
          exact run_leafset hk h1 h2 f _ _
        · rw [run_more (by rw [hg]; omega) (by rw [hg]; exact hc), run_more (by omega) hc, hg]
          exact run_leafset hk h1 h2 f _ _
theorem mostTo_ge {ns : List Nd} {p : List Int} : ∀ {ps : List (List Int)}, p ∈ ps → (runT ns p).2 ≤ mostTo ns ps := by
  intro ps
  refine Mg.list_snoc (P := fun ps => p ∈ ps → (runT ns p).2 ≤ mostTo ns ps) (fun h => nomatch h) ?_ ps
  intro l x ih h
  rw [mostTo_snoc]
  rcases List.mem_append.1 h with h | h
  · exact Nat.le_trans (ih h) (Nat.le_max_left _ _)
  · simp at h; rw [h]; exact Nat.le_max_right _ _
theorem tot_ge (ns : List Nd) : ∀ ps : List (List Int), mostTo ns ps ≤ totTo ns ps := by
  intro ps
  refine Mg.list_snoc (P := fun ps => mostTo ns ps ≤ totTo ns ps) (Nat.le_refl _) ?_ ps
  intro l x ih
  rw [mostTo_snoc, totTo_snoc]
  omega

/-- What is known of a tree of insertions. -/
structure Snd (T : List Nd) (n D : Nat) (W : List Int × List Int) : Prop where
  s : sound T n D W = true
  t : okTree n T = true
  w1 : W.1 ∈ Pm.allP n
  w2 : W.2 ∈ Pm.allP n
theorem Snd.parts {T : List Nd} {n D : Nat} {W : List Int × List Int} (h : Snd T n D W) : hOk T (hts 0 T) = true ∧ (hts 0 T).getD 0 0 = D ∧ D ≤ (runT T W.1).2 ∧
    ∀ k ∈ path T W.1 T.length 0, 0 < (T.getD k nd0).o.length ∨ ∀ d' ∈ changes n (T.getD k nd0), d'.a ≠ d'.b → tells (T.set k d') D W = true := by
  have h1 := h.s
  unfold sound at h1
  simp only [Bool.and_eq_true, decide_eq_true_eq, List.all_eq_true, Bool.or_eq_true, beq_iff_eq] at h1
  obtain ⟨⟨⟨h1, h2⟩, h3⟩, h4⟩ := h1
  refine ⟨h1, h2, h3, fun k hk => (h4 k hk).imp id fun h5 d' hd hne => ?_⟩
  rcases h5 d' hd with h6 | h6
  · exact absurd h6 hne
  · exact h6
/-- Whatever is changed in a node, but for where it goes to, some permutation still needs the most. -/
theorem Snd.most {T : List Nd} {n D : Nat} {W : List Int × List Int} (h : Snd T n D W) {k : Nat} {d' : Nd} (hk : k < T.length)
    (hc : (0 < (T.getD k nd0).o.length ∧ 0 < d'.o.length) ∨ (¬ 0 < (T.getD k nd0).o.length ∧ d' ∈ changes n (T.getD k nd0) ∧ d'.a ≠ d'.b)) : D ≤ mostTo (T.set k d') (Pm.allP n) := by
  obtain ⟨_, _, h3, h4⟩ := h.parts
  have hW : tells (T.set k d') D W = true := by
    by_cases hp : k ∈ path T W.1 T.length 0
    · rcases hc with ⟨h1, h2⟩ | ⟨h1, h2, h5⟩
      · unfold tells runT
        rw [List.length_set, run_leafset hk h1 h2, Bool.or_eq_true]
        exact .inl (decide_eq_true h3)
      · rcases h4 k hp with h6 | h6
        · exact absurd h6 h1
        · exact h6 d' h2 h5
    · unfold tells runT
      rw [List.length_set, run_avoid _ _ _ hp, Bool.or_eq_true]
      exact .inl (decide_eq_true h3)
  unfold tells at hW
  simp only [Bool.or_eq_true, decide_eq_true_eq] at hW
  rcases hW with h5 | h5
  · exact Nat.le_trans h5 (mostTo_ge h.w1)
  · exact Nat.le_trans h5 (mostTo_ge h.w2)
theorem Snd.most0 {T : List Nd} {n D : Nat} {W : List Int × List Int} (h : Snd T n D W) : D ≤ mostTo T (Pm.allP n) := by
  obtain ⟨_, _, h3, _⟩ := h.parts
  exact Nat.le_trans h3 (mostTo_ge h.w1)

/-- One node as the draw changes it. -/
inductive One (n : Nat) (d : Nd) : Nd → Prop
  | a (v : Int) : One n d (v, d.b, d.l, d.g, d.o)
  | b (v : Int) : One n d (d.a, v, d.l, d.g, d.o)
  | s (h : d.o.length = 0) : One n d (d.a, d.b, d.g, d.l, d.o)
  | o (h : 0 < d.o.length) (p : List Int) (hp : p.length = n) : One n d (d.a, d.b, d.l, d.g, p)
  | l (v : Int) : One n d (d.a, d.b, v, d.g, d.o)
theorem parts_at {ns : List Nd} (h : parsOk ns = true) {j : Nat} (h1 : 1 ≤ j) (h2 : j < ns.length) : parN ns j = 1 := by
  have := List.all_eq_true.1 h (j - 1) (List.mem_range.2 (by omega))
  rw [show j - 1 + 1 = j by omega] at this
  simpa using this
theorem countP_pos_at {ns : List Nd} {P : Nd → Bool} {k : Nat} (hk : k < ns.length) (h : P (ns.getD k nd0) = true) : 0 < ns.countP P := by
  rw [List.countP_pos_iff]
  refine ⟨ns.getD k nd0, ?_, h⟩
  rw [List.getD_eq_getElem?_getD, List.getElem?_eq_getElem hk]
  exact List.getElem_mem hk
theorem countP_set' {ns : List Nd} {P : Nd → Bool} {k : Nat} {d' : Nd} (hk : k < ns.length) : (ns.set k d').countP P + (if P (ns.getD k nd0) then 1 else 0) = ns.countP P + (if P d' then 1 else 0) := by
  have e : ns = ns.take k ++ ns.getD k nd0 :: ns.drop (k + 1) := by
    rw [List.getD_eq_getElem?_getD, List.getElem?_eq_getElem hk, Option.getD_some, List.getElem_cons_drop, List.take_append_drop]
  have e2 : ns.set k d' = ns.take k ++ d' :: ns.drop (k + 1) := by rw [List.set_eq_take_append_cons_drop, if_pos hk]
  rw [e2, List.countP_append, List.countP_cons]
  conv => rhs; rw [e]
  rw [List.countP_append, List.countP_cons]
  omega
/-- A node that goes elsewhere makes the tree invalid. -/
theorem less_same {T : List Nd} {n k : Nat} {v a b l g : Int} {o : List Int} (hT : okTree n T = true) (hk : k < T.length) (hd : T.getD k nd0 = (a, b, l, g, o)) (h0 : o.length = 0) (h : okTree n (T.set k (a, b, v, g, o)) = true) : v = l := by
  obtain ⟨_, _, _, _, hn, hp⟩ := okTree_iff hT
  obtain ⟨_, _, _, _, hn', hp'⟩ := okTree_iff h
  have hnk := nodesOk_at hn hk
  rw [hd] at hnk
  obtain ⟨_, _, hl, _⟩ := okNode_in hnk h0
  by_cases e : v = l
  · exact e
  exfalso
  have hl1 : (k : Int) + 1 ≤ l ∧ l ≤ (T.length : Int) - 1 := hl
  obtain ⟨j, hj⟩ := Int.eq_ofNat_of_zero_le (show 0 ≤ l by omega)
  have hj1 : 1 ≤ j := by omega
  have hj2 : j < T.length := by omega
  have p1 := parts_at hp hj1 hj2
  have p2 := parts_at hp' hj1 (by rw [List.length_set]; exact hj2)
  unfold parN at p1 p2
  obtain ⟨PL, hPL⟩ : ∃ PL : Nd → Bool, PL = fun d => decide (d.o.length = 0) && d.l == (j : Int) := ⟨_, rfl⟩
  obtain ⟨PG, hPG⟩ : ∃ PG : Nd → Bool, PG = fun d => decide (d.o.length = 0) && d.g == (j : Int) := ⟨_, rfl⟩
  rw [← hPL, ← hPG] at p1 p2
  have c1 := countP_set' (P := PL) (d' := (a, b, v, g, o)) hk
  have c2 := countP_set' (P := PG) (d' := (a, b, v, g, o)) hk
  rw [hd] at c1 c2
  have q1 : PL (a, b, l, g, o) = true := by
    rw [hPL]
    show (decide (o.length = 0) && l == (j : Int)) = true
    rw [h0, hj]; simp
  have q2 : PL (a, b, v, g, o) = false := by
    rw [hPL]
    show (decide (o.length = 0) && v == (j : Int)) = false
    rw [Bool.and_eq_false_iff]; right; rw [beq_eq_false_iff_ne]
    intro e2; exact e (e2.trans hj.symm)
  have q3 : PG (a, b, v, g, o) = PG (a, b, l, g, o) := by rw [hPG]
  have hpos : 0 < T.countP PL := countP_pos_at hk (by rw [hd]; exact q1)
  rw [q1, q2] at c1
  rw [q3] at c2
  simp only [if_true, Bool.false_eq_true, if_false] at c1
  omega
/-- THE LAW of a tree with one node changed. -/
theorem Snd.law {T : List Nd} {n D : Nat} {W : List Int × List Int} (h : Snd T n D W) {k : Nat} {d' : Nd} (hk : k < T.length) (hO : One n (T.getD k nd0) d') (hv : okTree n (T.set k d') = true) (zs : List Int) : (runT (T.set k d') zs).2 ≤ mostTo (T.set k d') (Pm.allP n) := by
  obtain ⟨h1, h2, h3, h4⟩ := h.parts
  obtain ⟨n1, n5, l1, _, hn, hp⟩ := okTree_iff h.t
  obtain ⟨_, _, _, _, hn', hp'⟩ := okTree_iff hv
  have hnk := nodesOk_at hn' (i := k) (by rw [List.length_set]; exact hk)
  rw [set_getD hk, if_pos rfl, List.length_set] at hnk
  have hnt : (n : Int).toNat = n := rfl
  rw [hnt] at hnk hn
  have fin : Chg (T.getD k nd0) d' → D ≤ mostTo (T.set k d') (Pm.allP n) → (runT (T.set k d') zs).2 ≤ mostTo (T.set k d') (Pm.allP n) := fun hc hm => by
    have := run_height (hOk_set h1 hk hc) zs (T.set k d').length 0 0 (by rw [List.length_set]; omega)
    rw [h2, Nat.zero_add] at this
    exact Nat.le_trans this hm
  by_cases h0 : 0 < (T.getD k nd0).o.length
  · have hd' : 0 < d'.o.length := by
      cases hO with
      | a v => exact h0
      | b v => exact h0
      | s h => omega
      | o h p hp => show 0 < p.length; omega
      | l v => exact h0
    exact fin (.inr ⟨h0, hd'⟩) (h.most hk (.inl ⟨h0, hd'⟩))
  · have h00 : (T.getD k nd0).o.length = 0 := by omega
    have ho : (T.getD k nd0).o = [] := List.eq_nil_of_length_eq_zero h00
    have rng : ∀ v : Int, 0 ≤ v ∧ v ≤ (n : Int) - 1 → ∃ u : Nat, u < n ∧ (u : Int) = v := fun v hv => ⟨v.toNat, by omega, by omega⟩
    have hne : d'.o.length = 0 → d'.a ≠ d'.b := fun e0 => by
      unfold okNode at hnk
      rw [if_neg (by omega)] at hnk
      simp only [Bool.and_eq_true, bne_iff_ne] at hnk
      exact hnk.1.1.1
    cases hO with
    | a v =>
      have hr := okNode_in hnk h00
      obtain ⟨u, hu, e⟩ := rng v hr.1
      refine fin (.inl ⟨h00, h00, .inl ⟨rfl, rfl⟩⟩) (h.most hk (.inr ⟨h0, ?_, hne h00⟩))
      unfold changes
      refine List.mem_append_left _ (List.mem_append_left _ (List.mem_map.2 ⟨u, List.mem_range.2 hu, ?_⟩))
      rw [e, ho]
    | b v =>
      have hr := okNode_in hnk h00
      obtain ⟨u, hu, e⟩ := rng v hr.2.1
      refine fin (.inl ⟨h00, h00, .inl ⟨rfl, rfl⟩⟩) (h.most hk (.inr ⟨h0, ?_, hne h00⟩))
      unfold changes
      refine List.mem_append_left _ (List.mem_append_right _ (List.mem_map.2 ⟨u, List.mem_range.2 hu, ?_⟩))
      rw [e, ho]
    | s hs =>
      refine fin (.inl ⟨h00, h00, .inr ⟨rfl, rfl⟩⟩) (h.most hk (.inr ⟨h0, ?_, hne h00⟩))
      unfold changes
      refine List.mem_append_right _ ?_
      rw [ho]; simp
    | o hs p hp => omega
    | l v =>
      have e := less_same (a := (T.getD k nd0).a) (b := (T.getD k nd0).b) (l := (T.getD k nd0).l) (g := (T.getD k nd0).g) (o := (T.getD k nd0).o) h.t hk rfl h00 hv
      subst e
      have hself : T.set k ((T.getD k nd0).a, (T.getD k nd0).b, (T.getD k nd0).l, (T.getD k nd0).g, (T.getD k nd0).o) = T := by
        refine List.ext_getElem? fun i => ?_
        rw [List.getElem?_set]
        by_cases e : k = i
        · subst e
          rw [if_pos rfl, if_pos hk, List.getD_eq_getElem?_getD, List.getElem?_eq_getElem hk]; rfl
        · rw [if_neg e]
      rw [hself] at *
      have := run_height h1 zs T.length 0 0 (by omega)
      rw [h2, Nat.zero_add] at this
      exact Nat.le_trans this h.most0
theorem Snd.law0 {T : List Nd} {n D : Nat} {W : List Int × List Int} (h : Snd T n D W) (zs : List Int) : (runT T zs).2 ≤ mostTo T (Pm.allP n) := by
  obtain ⟨h1, h2, h3, h4⟩ := h.parts
  obtain ⟨n1, n5, l1, _, hn, hp⟩ := okTree_iff h.t
  have := run_height h1 zs T.length 0 0 (by omega)
  rw [h2, Nat.zero_add] at this
  exact Nat.le_trans this h.most0
end Go.Proofs.Ytcncjedhpnaoaaa.Dt

namespace Go.Proofs.Ytcncjedhpnaoaaa.Dt
open Go.Proofs.Ytcncjedhpnaoaaa
set_option linter.unusedVariables false

def memB (p : List Int) (ps : List (List Int)) : Bool := ps.any fun q => q == p
theorem memB_mem {p : List Int} {ps : List (List Int)} (h : memB p ps = true) : p ∈ ps := by
  obtain ⟨q, hq, e⟩ := List.any_eq_true.1 h
  rw [beq_iff_eq] at e
  rw [← e]; exact hq
/-- All that is asked of a tree, at once. -/
def sndB (T : List Nd) (n : Nat) (W : List Int × List Int) : Bool := okTree n T && memB W.1 (Pm.allP n) && memB W.2 (Pm.allP n)
theorem snd_of {T : List Nd} {n D : Nat} {W : List Int × List Int} (h : sound T n D W = true) (h2 : sndB T n W = true) : Snd T n D W := by
  unfold sndB at h2
  simp only [Bool.and_eq_true] at h2
  exact ⟨h, h2.1.1, memB_mem h2.1.2, memB_mem h2.2⟩
theorem sndB_3 : sndB (itree 1 false) 1 (wit 1 false) && sndB (itree 1 true) 1 (wit 1 true) && sndB (itree 2 false) 2 (wit 2 false) && sndB (itree 2 true) 2 (wit 2 true) && sndB (itree 3 false) 3 (wit 3 false) && sndB (itree 3 true) 3 (wit 3 true) = true := by decide +kernel
theorem sndB_4 : sndB (itree 4 false) 4 (wit 4 false) && sndB (itree 4 true) 4 (wit 4 true) = true := by decide +kernel
set_option maxRecDepth 100000 in
theorem sndB_5a : sndB T5a 5 (wit 5 false) = true := by decide +kernel
set_option maxRecDepth 100000 in
theorem sndB_5b : sndB T5b 5 (wit 5 true) = true := by decide +kernel
/-- Leaves hold orders of n items; the last node is a leaf. -/
def lastB (T : List Nd) (n : Nat) : Bool := decide (0 < T.length) && decide ((T.getD (T.length - 1) nd0).o.length = n) && decide (0 < n)
theorem lastB_4 : lastB (itree 1 false) 1 && lastB (itree 1 true) 1 && lastB (itree 2 false) 2 && lastB (itree 2 true) 2 && lastB (itree 3 false) 3 && lastB (itree 3 true) 3 && lastB (itree 4 false) 4 && lastB (itree 4 true) 4 && lastB T5a 5 && lastB T5b 5 = true := by decide +kernel
set_option maxRecDepth 100000 in
theorem snd_all {n : Nat} (h1 : 1 ≤ n) (h5 : n ≤ 5) (b : Bool) : ∃ D W, Snd (itree n b) n D W := by
  have s3 := sound_3; have s4 := sound_4; have t3 := sndB_3; have t4 := sndB_4
  simp only [Bool.and_eq_true, decide_eq_true_eq] at s3 s4 t3 t4
  obtain ⟨⟨⟨⟨⟨s1, s2⟩, s5⟩, s6⟩, s7⟩, s8⟩ := s3
  obtain ⟨⟨⟨⟨⟨t1, t2⟩, t5⟩, t6⟩, t7⟩, t8⟩ := t3
  match n, h1, h5, b with
  | 1, _, _, false => exact ⟨_, _, snd_of s1 t1⟩
  | 1, _, _, true => exact ⟨_, _, snd_of s2 t2⟩
  | 2, _, _, false => exact ⟨_, _, snd_of s5 t5⟩
  | 2, _, _, true => exact ⟨_, _, snd_of s6 t6⟩
  | 3, _, _, false => exact ⟨_, _, snd_of s7 t7⟩
  | 3, _, _, true => exact ⟨_, _, snd_of s8 t8⟩
  | 4, _, _, false => exact ⟨_, _, snd_of s4.1 t4.1⟩
  | 4, _, _, true => exact ⟨_, _, snd_of s4.2 t4.2⟩
  | 5, _, _, false => rw [itree_5a]; exact ⟨_, _, snd_of sound_5a sndB_5a⟩
  | 5, _, _, true => rw [itree_5b]; exact ⟨_, _, snd_of sound_5b sndB_5b⟩
set_option maxRecDepth 100000 in
theorem last_all {n : Nat} (h1 : 1 ≤ n) (h5 : n ≤ 5) (b : Bool) : 0 < (itree n b).length ∧ ((itree n b).getD ((itree n b).length - 1) nd0).o.length = n := by
  have key : ∀ {T : List Nd} {m : Nat}, lastB T m = true → 0 < T.length ∧ (T.getD (T.length - 1) nd0).o.length = m := fun h => by
    unfold lastB at h
    simp only [Bool.and_eq_true, decide_eq_true_eq] at h
    exact h.1
  have l4 := lastB_4
  simp only [Bool.and_eq_true, decide_eq_true_eq] at l4
  obtain ⟨⟨⟨⟨⟨⟨⟨⟨⟨a1, a2⟩, a3⟩, a4⟩, a5⟩, a6⟩, a7⟩, a8⟩, a9⟩, a10⟩ := l4
  match n, h1, h5, b with
  | 1, _, _, false => exact key a1
  | 1, _, _, true => exact key a2
  | 2, _, _, false => exact key a3
  | 2, _, _, true => exact key a4
  | 3, _, _, false => exact key a5
  | 3, _, _, true => exact key a6
  | 4, _, _, false => exact key a7
  | 4, _, _, true => exact key a8
  | 5, _, _, false => rw [itree_5a]; exact key a9
  | 5, _, _, true => rw [itree_5b]; exact key a10

/-- A tree as the law draws it. -/
inductive DrawnT : List Nd → Prop
  | none : DrawnT []
  | whole {n : Nat} {b : Bool} (h1 : 1 ≤ n) (h5 : n ≤ 5) : DrawnT (itree n b)
  | one {n : Nat} {b : Bool} (h1 : 1 ≤ n) (h5 : n ≤ 5) {k : Nat} (hk : k < (itree n b).length) {d' : Nd} (h : One n ((itree n b).getD k nd0) d') : DrawnT ((itree n b).set k d')
  | cut {n : Nat} {b : Bool} (h1 : 1 ≤ n) (h5 : n ≤ 5) : DrawnT ((itree n b).take ((itree n b).length - 1))
theorem leaf_n {m : Nat} {ns : List Nd} {k n : Nat} (h : okTree m ns = true) (hk : k < ns.length) (hn : 0 < n) (ho : (ns.getD k nd0).o.length = n) : m = n := by
  obtain ⟨_, _, _, _, hn', _⟩ := okTree_iff h
  have := (okNode_leaf (nodesOk_at hn' hk) (by omega)).1
  rw [ho] at this
  have e : (m : Int).toNat = m := rfl
  omega
/-- Every node but the last one's child .. : a tree without its last node is not valid. -/
def cutB (T : List Nd) : Bool := (List.range 6).all fun m => !okTree m (T.take (T.length - 1))
theorem cutB_4 : cutB (itree 1 false) && cutB (itree 1 true) && cutB (itree 2 false) && cutB (itree 2 true) && cutB (itree 3 false) && cutB (itree 3 true) && cutB (itree 4 false) && cutB (itree 4 true) = true := by decide +kernel
set_option maxRecDepth 100000 in
theorem cutB_5a : cutB T5a = true := by decide +kernel
set_option maxRecDepth 100000 in
theorem cutB_5b : cutB T5b = true := by decide +kernel
set_option maxRecDepth 100000 in
theorem cutB_all {n : Nat} (h1 : 1 ≤ n) (h5 : n ≤ 5) (b : Bool) : cutB (itree n b) = true := by
  have l4 := cutB_4
  simp only [Bool.and_eq_true, decide_eq_true_eq] at l4
  obtain ⟨⟨⟨⟨⟨⟨⟨a1, a2⟩, a3⟩, a4⟩, a5⟩, a6⟩, a7⟩, a8⟩ := l4
  match n, h1, h5, b with
  | 1, _, _, false => exact a1
  | 1, _, _, true => exact a2
  | 2, _, _, false => exact a3
  | 2, _, _, true => exact a4
  | 3, _, _, false => exact a5
  | 3, _, _, true => exact a6
  | 4, _, _, false => exact a7
  | 4, _, _, true => exact a8
  | 5, _, _, false => rw [itree_5a]; exact cutB_5a
  | 5, _, _, true => rw [itree_5b]; exact cutB_5b
theorem cut_all {n : Nat} (h1 : 1 ≤ n) (h5 : n ≤ 5) (b : Bool) {m : Nat} (h : okTree m ((itree n b).take ((itree n b).length - 1)) = true) : False := by
  have hm := (okTree_iff h).2.1
  have hc := cutB_all h1 h5 b
  generalize itree n b = T at h hc
  have := List.all_eq_true.1 hc m (List.mem_range.2 (by omega))
  rw [h] at this; cases this
/-- THE LAW: no list needs more comparisons than the worst permutation. -/
theorem drawn_law {ns : List Nd} (hD : DrawnT ns) {m : Nat} (h : okTree m ns = true) (zs : List Int) : (runT ns zs).2 ≤ mostTo ns (Pm.allP m) := by
  cases hD with
  | none => have := (okTree_iff h).2.2.1; simp at this
  | @whole n b h1 h5 =>
    obtain ⟨D, W, hS⟩ := snd_all h1 h5 b
    obtain ⟨l1, l2⟩ := last_all h1 h5 b
    have e := leaf_n h (show (itree n b).length - 1 < _ by omega) (by omega) l2
    subst e
    exact hS.law0 zs
  | @one n b h1 h5 k hk d' hO =>
    obtain ⟨D, W, hS⟩ := snd_all h1 h5 b
    obtain ⟨l1, l2⟩ := last_all h1 h5 b
    have hl : ((( itree n b).set k d').getD ((itree n b).length - 1) nd0).o.length = n := by
      rw [set_getD hk]
      by_cases e : (itree n b).length - 1 = k
      · rw [if_pos e]
        rw [e] at l2
        cases hO with
        | a v => exact l2
        | b v => exact l2
        | s h => exact l2
        | o h p hp => exact hp
        | l v => exact l2
      · rw [if_neg e]; exact l2
    have e := leaf_n h (show (itree n b).length - 1 < _ by rw [List.length_set]; omega) (by omega) hl
    subst e
    exact hS.law hk hO h zs
  | @cut n b h1 h5 => exact (cut_all h1 h5 b h).elim
end Go.Proofs.Ytcncjedhpnaoaaa.Dt

namespace Go.Proofs.Ytcncjedhpnaoaaa.Dt
open Go.Proofs.Ytcncjedhpnaoaaa
set_option linter.unusedVariables false

/-- All words of k items below n. -/
def wordsN (n : Nat) : Nat → List (List Int)
  | 0 => [[]]
  | k + 1 => (List.range n).flatMap fun (i : Nat) => (wordsN n k).map fun r => (i : Int) :: r
theorem wordsN_all {n : Nat} : ∀ {k : Nat} {p : List Int}, p.length = k → (∀ x ∈ p, 0 ≤ x ∧ x < n) → p ∈ wordsN n k
  | 0, p, h, _ => by rw [List.eq_nil_of_length_eq_zero h]; simp [wordsN]
  | k + 1, [], h, _ => by simp at h
  | k + 1, x :: r, h, hr => by
    have h1 := hr x (by simp)
    rw [wordsN, List.mem_flatMap]
    exact ⟨x.toNat, List.mem_range.2 (by omega), List.mem_map.2 ⟨r, wordsN_all (by simpa using h) (fun y hy => hr y (by simp [hy])), by rw [Int.toNat_of_nonneg h1.1]⟩⟩
def wholeB (n : Nat) : Bool := (wordsN n n).all fun p => !Pm.okP n p || memB p (Pm.allP n)
set_option maxRecDepth 100000 in
theorem wholeB_4 : (wholeB 1 && wholeB 2 && wholeB 3 && wholeB 4) = true := by decide +kernel
set_option maxRecDepth 100000 in
theorem wholeB_5 : wholeB 5 = true := by decide +kernel
theorem allP_whole {n : Nat} (h1 : 1 ≤ n) (h5 : n ≤ 5) {p : List Int} (hl : p.length = n) (hr : ∀ x ∈ p, 0 ≤ x ∧ x < n) (hn : p.Nodup) : p ∈ Pm.allP n := by
  have h4 := wholeB_4
  simp only [Bool.and_eq_true] at h4
  have hw : wholeB n = true := by
    have hc : n = 1 ∨ n = 2 ∨ n = 3 ∨ n = 4 ∨ n = 5 := by omega
    clear hl hr hn h1 h5
    rcases hc with e | e | e | e | e <;> rw [e]
    · exact h4.1.1.1
    · exact h4.1.1.2
    · exact h4.1.2
    · exact h4.2
    · exact wholeB_5
  unfold wholeB at hw
  rw [List.all_eq_true] at hw
  have := hw p (wordsN_all hl hr)
  have hk : Pm.okP n p = true := by
    unfold Pm.okP
    simp only [Bool.and_eq_true, List.all_eq_true, decide_eq_true_eq]
    exact ⟨⟨hl, hr⟩, hn⟩
  rw [hk] at this
  exact memB_mem (by simpa using this)

/-- How many of a list stand below an element. -/
def below (zs : List Int) (x : Int) : Nat := zs.countP fun y => decide (y < x)
theorem below_lt {zs : List Int} {x y : Int} (hx : x ∈ zs) (h : x < y) : below zs x < below zs y := by
  have key : ∀ l : List Int, (l.countP fun z => decide (z < x)) + l.count x ≤ l.countP fun z => decide (z < y) := by
    intro l
    induction l with
    | nil => simp
    | cons a r ih =>
      rw [List.countP_cons, List.countP_cons, List.count_cons]
      by_cases e1 : a < x
      · have : a < y := by omega
        have e3 : ¬ a = x := by omega
        simp only [e1, this, e3, decide_true, if_true, beq_iff_eq, if_false]; omega
      · by_cases e3 : a = x
        · subst e3; simp only [h, decide_true, if_true, beq_self_eq_true, e1, decide_false]; simp; omega
        · simp only [e1, e3, decide_false, beq_iff_eq, if_false]; simp; omega
  have h1 := key zs
  have h2 := List.count_pos_iff.2 hx
  unfold below
  omega
theorem below_le {zs : List Int} {x y : Int} (h : x ≤ y) : below zs x ≤ below zs y := List.countP_mono_left fun z _ hz => by
  simp only [decide_eq_true_eq] at hz ⊢
  omega
theorem below_iff {zs : List Int} {x y : Int} (hx : x ∈ zs) : below zs x < below zs y ↔ x < y :=
  ⟨fun h => Int.not_le.1 fun h2 => absurd (below_le (zs := zs) h2) (by omega), below_lt hx⟩
theorem below_len {zs : List Int} {x : Int} (hx : x ∈ zs) : below zs x < zs.length := by
  have := below_lt (y := x + 1) hx (by omega)
  have := List.countP_le_length (p := fun y : Int => decide (y < x + 1)) (l := zs)
  unfold below at *
  omega
/-- The permutation that a list's elements stand as. -/
def ranksOf (zs : List Int) : List Int := zs.map fun x => (below zs x : Int)
theorem ranksOf_in {zs : List Int} (hn : zs.Nodup) (h1 : 1 ≤ zs.length) (h5 : zs.length ≤ 5) : ranksOf zs ∈ Pm.allP zs.length := by
  refine allP_whole h1 h5 (by simp [ranksOf]) (fun x hx => ?_) ?_
  · obtain ⟨y, hy, rfl⟩ := List.mem_map.1 hx
    have := below_len hy
    omega
  · refine List.pairwise_map.2 (List.Pairwise.imp_of_mem ?_ hn)
    intro a b ha hb hab e
    have e1 := below_iff (zs := zs) (y := b) ha
    have e2 := below_iff (zs := zs) (y := a) hb
    omega
theorem ranksOf_getD {zs : List Int} {i : Nat} (hi : i < zs.length) : (ranksOf zs).getD i 0 = (below zs (zs.getD i 0) : Int) := by
  simp [ranksOf, List.getD, List.getElem?_map, List.getElem?_eq_getElem hi]
theorem getD_in {zs : List Int} {i : Nat} (hi : i < zs.length) : zs.getD i 0 ∈ zs := by
  rw [List.getD_eq_getElem?_getD, List.getElem?_eq_getElem hi]; exact List.getElem_mem hi
theorem ranksOf_lt {zs : List Int} {i j : Nat} (hi : i < zs.length) (hj : j < zs.length) : (ranksOf zs).getD i 0 < (ranksOf zs).getD j 0 ↔ zs.getD i 0 < zs.getD j 0 := by
  rw [ranksOf_getD hi, ranksOf_getD hj]
  have := below_iff (zs := zs) (y := zs.getD j 0) (getD_in hi)
  omega
theorem ranksOf_le {zs : List Int} {i j : Nat} (hi : i < zs.length) (hj : j < zs.length) : (ranksOf zs).getD i 0 ≤ (ranksOf zs).getD j 0 ↔ zs.getD i 0 ≤ zs.getD j 0 := by
  have := ranksOf_lt hj hi
  omega
/-- Lists that compare alike run alike. -/
theorem run_ranks {ns : List Nd} {zs : List Int} (h : nodesOk zs.length ns = true) : ∀ (f i c : Nat), i < ns.length → run ns (ranksOf zs) f i c = run ns zs f i c
  | 0, _, _, _ => rfl
  | f + 1, i, c, hi => by
    by_cases h0 : 0 < (ns.getD i nd0).o.length
    · rw [run_leaf h0, run_leaf h0]
    · have h0' : (ns.getD i nd0).o.length = 0 := by omega
      obtain ⟨h3, h4, h5, h6⟩ := okNode_in (nodesOk_at h hi) h0'
      have e := ranksOf_lt (zs := zs) (i := (ns.getD i nd0).a.toNat) (j := (ns.getD i nd0).b.toNat) (by omega) (by omega)
      by_cases h7 : zs.getD (ns.getD i nd0).a.toNat 0 < zs.getD (ns.getD i nd0).b.toNat 0
      · rw [run_less h0' h7, run_less h0' (e.2 h7)]
        exact run_ranks h f _ _ (by omega)
      · rw [run_more h0' h7, run_more h0' (fun x => h7 (e.1 x))]
        exact run_ranks h f _ _ (by omega)

theorem nodup_perm : ∀ {p q : List Int}, p.Nodup → (∀ x ∈ p, x ∈ q) → p.length = q.length → p.Perm q
  | [], q, _, _, h => by rw [List.eq_nil_of_length_eq_zero h.symm]
  | x :: r, q, hp, hs, hl => by
    have hx := hs x (by simp)
    have hr := List.nodup_cons.1 hp
    exact (List.Perm.cons x (nodup_perm (p := r) (q := q.erase x) hr.2 (fun y hy => by
      have hne : y ≠ x := fun e => hr.1 (e ▸ hy)
      exact (List.mem_erase_of_ne hne).2 (hs y (List.mem_cons_of_mem _ hy))) (by rw [List.length_erase_of_mem hx, ← hl]; simp))).trans (List.perm_cons_erase hx).symm
theorem okPerm_nodup {p : List Int} (h : okPerm p = true) : p.Nodup := by
  refine List.pairwise_iff_getElem.2 fun i j hi hj hij e => ?_
  unfold okPerm at h
  rw [Bool.and_eq_true] at h
  have h2 := allIx_at h.2 hj
  unfold permOk at h2
  rw [Bool.and_eq_true] at h2
  have h3 := h2.2
  simp only [Bool.not_eq_true', decide_eq_false_iff_not] at h3
  refine h3 ?_
  rw [List.getD_eq_getElem?_getD, List.getElem?_eq_getElem hj]
  show p[j] ∈ p.take j
  rw [← e]
  exact List.mem_take_iff_getElem.2 ⟨i, by omega, rfl⟩
theorem okPerm_perm {p : List Int} (h : okPerm p = true) : p.Perm ((List.range p.length).map (Int.ofNat ·)) := by
  refine nodup_perm (okPerm_nodup h) (fun x hx => ?_) (by simp)
  obtain ⟨i, hi, rfl⟩ := List.mem_iff_getElem.1 hx
  have := okPerm_at h hi
  rw [List.getD_eq_getElem?_getD, List.getElem?_eq_getElem hi, Option.getD_some] at this
  exact List.mem_map.2 ⟨p[i].toNat, List.mem_range.2 (by omega), by simp only [Int.ofNat_eq_natCast]; omega⟩

theorem firstBad_good {ns : List Nd} {n : Nat} (h1 : 1 ≤ n) (h5 : n ≤ 5) (h : firstBad ns (Pm.allP n) = []) {p : List Int} (hp : p ∈ Pm.allP n) : good ns p = true := by
  unfold firstBad at h
  cases e : (Pm.allP n).find? fun p => !good ns p with
  | none =>
    have := List.find?_eq_none.1 e p hp
    simpa using this
  | some q =>
    rw [e] at h
    have hq := Pm.allP_ok h1 h5 (List.mem_of_find?_eq_some e)
    have : q = [] := h
    rw [this] at hq
    have := hq.1
    simp at this
    omega
/-- The order that a list of different elements is led to. -/
theorem run_sorts {ns : List Nd} {zs : List Int} (hT : okTree (zs.length : Int) ns = true) (hb : firstBad ns (Pm.allP zs.length) = []) (hn : zs.Nodup) :
    (runT ns zs).1 = Mg.srt (Mg.ltK fun i : Int => zs.getD i.toNat 0) ((List.range zs.length).map (Int.ofNat ·)) := by
  obtain ⟨h1, h5, h3, _, hk, _⟩ := okTree_iff hT
  have hk' : nodesOk zs.length ns = true := hk
  have hg := firstBad_good (n := zs.length) (by omega) (by omega) hb (ranksOf_in hn (by omega) (by omega))
  have hr : runT ns (ranksOf zs) = runT ns zs := run_ranks hk' _ _ _ (by omega)
  obtain ⟨hl, hp, _⟩ := runT_ok (zs := zs) hk' h3
  generalize ho : (runT ns zs).1 = o at hl hp ⊢
  unfold good at hg
  rw [hr, ho] at hg
  have hperm := okPerm_perm hp
  rw [hl] at hperm
  have hin : ∀ i, i < o.length → (o.getD i 0).toNat < zs.length ∧ 0 ≤ o.getD i 0 := fun i hi => by have := okPerm_at hp hi; omega
  have hasc : Mg.Asc (Mg.ltK fun i : Int => zs.getD i.toNat 0) o := by
    refine Mg.asc_of_side (Mg.swK _) o fun i hi => ?_
    unfold upB at hg
    have hal : (appl o (ranksOf zs)).length = o.length := by simp [appl]
    have := List.all_eq_true.1 hg i (List.mem_range.2 (by rw [hal]; omega))
    rw [decide_eq_true_eq] at this
    have hat : ∀ k, (hk : k < o.length) → (appl o (ranksOf zs)).getD k 0 = (ranksOf zs).getD (o.getD k 0).toNat 0 := fun k hk => by
      simp [appl, List.getD, List.getElem?_map, List.getElem?_eq_getElem hk]
    rw [hat i (by omega), hat (i + 1) hi] at this
    have hle := (ranksOf_le (hin i (by omega)).1 (hin (i + 1) hi).1).1 this
    have e1 : o.getD i 0 = o[i] := by rw [List.getD_eq_getElem?_getD, List.getElem?_eq_getElem (by omega)]; rfl
    have e2 : o.getD (i + 1) 0 = o[i + 1] := by rw [List.getD_eq_getElem?_getD, List.getElem?_eq_getElem hi]; rfl
    rw [e1, e2] at hle
    unfold Mg.ltK
    rw [decide_eq_false_iff_not]
    show ¬ zs.getD o[i + 1].toNat 0 < zs.getD o[i].toNat 0
    omega
  refine (hperm.trans (Mg.srt_perm _).symm).eq_of_pairwise (fun a b ha hb2 e1 e2 => ?_) hasc (Mg.srt_asc (Mg.swK _) _)
  have hr2 : ∀ x : Int, x ∈ (List.range zs.length).map (Int.ofNat ·) → 0 ≤ x ∧ x.toNat < zs.length := fun x hx => by
    obtain ⟨i, hi, rfl⟩ := List.mem_map.1 hx
    have := List.mem_range.1 hi
    simp only [Int.ofNat_eq_natCast]
    omega
  have ha' := hr2 a (hperm.mem_iff.1 ha)
  have hb' := hr2 b (Mg.srt_mem.1 hb2)
  unfold Mg.ltK at e1 e2
  rw [decide_eq_false_iff_not] at e1 e2
  have e1' : ¬ zs.getD b.toNat 0 < zs.getD a.toNat 0 := e1
  have e2' : ¬ zs.getD a.toNat 0 < zs.getD b.toNat 0 := e2
  have he : zs.getD a.toNat 0 = zs.getD b.toNat 0 := by omega
  rw [List.getD_eq_getElem?_getD, List.getElem?_eq_getElem ha'.2, List.getD_eq_getElem?_getD, List.getElem?_eq_getElem hb'.2, Option.getD_some, Option.getD_some] at he
  have hpw := List.pairwise_iff_getElem.1 hn
  by_cases hab : a.toNat < b.toNat
  · exact absurd he (hpw _ _ ha'.2 hb'.2 hab)
  · by_cases hba : b.toNat < a.toNat
    · exact absurd he.symm (hpw _ _ hb'.2 ha'.2 hba)
    · omega
end Go.Proofs.Ytcncjedhpnaoaaa.Dt

