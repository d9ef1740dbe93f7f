/- Several texts in one: lemmas and walks of the functions that the laws reach. -/
import Derived.Test.YtmolneojjcjooaaY0
import Derived.Test.YtmolneojjcjooaaY1
import Derived.Lib.OwnBridge
import Derived.Sort.Grow
import Derived.Shelf.Small.Bits
import Derived.Shelf.Small.Wraps
import Derived.Shelf.Strconv.Itoa0
import Derived.Shelf.Sort.Plain
import Derived.Shelf.Slices.Reverse
import Derived.Ground.Names2Prog
import Derived.Shelf.Slices.CompactI
import Derived.Shelf.Slices.SearchI
import Derived.Shelf.Slices.Delete
import Derived.Shelf.Slices.Cells
import Derived.Shelf.Slices.In.SortNone
import Derived.Shelf.Slices.Empties
import Derived.Test.YtmolneojjcjooaaProg

/- Plain law: an item put into its place in an ascending list, by steps down. No program in sight. -/
namespace Go.Proofs.Ytmolneojjcjooaa.Mg
set_option linter.unusedVariables false
section
variable {α : Type} {lt : α → α → Bool}

/-- x stands at place k of A, R behind. -/
def insSt (A : List α) (x : α) (k : Nat) (R : List α) : List α := A.take k ++ x :: (A.drop k ++ R)

theorem insSt_len {A : List α} {x : α} {k : Nat} {R : List α} (hk : k ≤ A.length) : (insSt A x k R).length = A.length + 1 + R.length := by
  unfold insSt
  simp only [List.length_append, List.length_cons, List.length_take, List.length_drop]
  omega
theorem insSt_top (A : List α) (x : α) (R : List α) : insSt A x A.length R = A ++ x :: R := by
  unfold insSt; simp
theorem insSt_at {A : List α} {x : α} {k : Nat} {R : List α} (hk : k ≤ A.length) : (insSt A x k R)[k]? = some x := by
  unfold insSt
  rw [List.getElem?_append_right (by rw [List.length_take]; omega), List.length_take, show k - min k A.length = 0 by omega]
  rfl
theorem insSt_before {A : List α} {x : α} {k : Nat} {R : List α} (hk : k < A.length) : (insSt A x (k + 1) R)[k]? = some A[k] := by
  unfold insSt
  rw [List.getElem?_append_left (by rw [List.length_take]; omega), List.getElem?_take_of_lt (by omega), List.getElem?_eq_getElem hk]
theorem insSt_step {A : List α} {x : α} {k : Nat} {R : List α} (hk : k < A.length) : ((insSt A x (k + 1) R).set k x).set (k + 1) A[k] = insSt A x k R := by
  unfold insSt
  have h1 : A.take (k + 1) = A.take k ++ [A[k]] := by rw [List.take_add_one, List.getElem?_eq_getElem hk]; rfl
  have h2 : A.drop k = A[k] :: A.drop (k + 1) := List.drop_eq_getElem_cons hk
  have hl : (A.take k).length = k := by rw [List.length_take]; omega
  rw [h1, h2, List.append_assoc, List.set_append, if_neg (by omega), hl, Nat.sub_self, List.set_append, if_neg (by omega), hl, show k + 1 - k = 1 by omega]
  rfl
theorem insSt_end (S : SW lt) {A : List α} {x : α} {k : Nat} {R : List α} (hA : Asc lt A) (hk : k ≤ A.length) (hd : ∀ b ∈ A.drop k, lt x b = true) (hs : ∀ (h : 0 < k), lt x (A[k - 1]'(by omega)) = false) :
    insSt A x k R = mrg lt A [x] ++ R := by
  have h1 : mrg lt A [x] = mrg lt (A.take k) [x] ++ A.drop k := by
    have := mrg_down (lt := lt) (A := A.take k) (B := A.drop k) (x := x) hd
    rwa [List.take_append_drop] at this
  have h2 : mrg lt (A.take k) [x] = A.take k ++ [x] := by
    apply mrg_stop
    intro a ha
    obtain ⟨i, hi, rfl⟩ := List.mem_take_iff_getElem.1 ha
    have hi' : i < k := by omega
    have hs' := hs (by omega)
    by_cases e : i = k - 1
    · subst e; exact hs'
    · have := List.pairwise_iff_getElem.1 hA i (k - 1) (by omega) (by omega) (by omega)
      exact le_trans' S this hs'
  unfold insSt
  rw [h1, h2]
  simp
/-- One item more that has its place. -/
theorem insSt_srt (S : SW lt) {l : List α} {x : α} {k : Nat} {R : List α} (hk : k ≤ (srt lt l).length) (hd : ∀ b ∈ (srt lt l).drop k, lt x b = true) (hs : ∀ (h : 0 < k), lt x ((srt lt l)[k - 1]'(by omega)) = false) :
    insSt (srt lt l) x k R = srt lt (l ++ [x]) ++ R := by
  rw [insSt_end S (srt_asc S l) hk hd hs, srt_snoc]

theorem asc_unique (S : SW lt) (ht : ∀ a b, lt a b = false → lt b a = false → a = b) : ∀ {l r : List α}, l.Perm r → Asc lt l → Asc lt r → l = r := by
  intro l r hp hl hr
  exact hp.eq_of_pairwise (fun a b _ _ h1 h2 => ht a b h2 h1) hl hr
end

/-- Integers: the library's sort is this one. -/
def ltI (a b : Int) : Bool := decide (a < b)
theorem swI : SW ltI := swK (fun x : Int => x)
def srtI (l : List Int) : List Int := srt ltI l
theorem merge_srtI (l : List Int) : l.mergeSort (fun x y => decide (x ≤ y)) = srtI l := by
  have h1 : (l.mergeSort (fun x y => decide (x ≤ y))).Pairwise (fun a b => decide (a ≤ b) = true) :=
    List.pairwise_mergeSort (by intro a b c; simp; omega) (by intro a b; simp; omega) l
  have h2 : Asc ltI (l.mergeSort (fun x y => decide (x ≤ y))) := by
    refine h1.imp ?_
    intro a b h
    simp [ltI] at h ⊢
    omega
  refine asc_unique swI (fun a b h1 h2 => by simp [ltI] at h1 h2; omega) ?_ h2 (srt_asc swI l)
  exact (List.mergeSort_perm _ _).trans (srt_perm l).symm
end Go.Proofs.Ytmolneojjcjooaa.Mg

/- General: an owned list of integers, sorted by the library; one copied. -/
namespace Go.Proofs.Ytmolneojjcjooaa
open Go.RowKit Go.Sort
set_option linter.unusedVariables false

theorem below_grow' {B : Nat} {w : World} (os : Array Obj) (hB : B ≤ w.heap.size) : Below B w (grow w os) :=
  ⟨rfl, rfl, rfl, by simp [grow], fun k hk => heap_grow_old w os (by omega)⟩
theorem grown_put {w : World} {g q : Nat} {ys : List Int} {os : Array Obj} : w.grownBy (grow (putRow (Value.int .i64) (Sort.ahead w q) g 0 ys.toArray) os) (some g) := by
  refine ⟨rfl, rfl, rfl, by simp, fun k hk hne => ?_⟩
  rw [heap_grow_old _ _ (by simpa using hk)]
  have : g ≠ k := fun e => hne (by rw [e])
  simp [putRow, mapBlock, Sort.ahead, Array.getElem?_modify, this]
/-- Behind the library's sort. -/
theorem own_sorted {w : World} {base g n cap q : Nat} {e : TypeId} {zs ys : List Int} {os : Array Obj} (h : w.ownsRow base e 1 (.slice (some ⟨g, 0, none⟩) n cap) n (zs.map (Value.int .i64))) (hy : ys.length = n) :
    (grow (putRow (Value.int .i64) (Sort.ahead w q) g 0 ys.toArray) os).ownsRow base e 1 (.slice (some ⟨g, 0, none⟩) n cap) n (ys.map (Value.int .i64)) := by
  have h1 := Lib.ownsRow_putRow (q := q) (k := n) h hy (Nat.le_refl _)
  rw [List.take_of_length_le (by omega)] at h1
  exact own_below h1 (Nat.le_refl _) (below_grow' os (Nat.le_refl _))
theorem own_holds {w : World} {base g n cap : Nat} {e : TypeId} {zs : List Int} (h : w.ownsRow base e 1 (.slice (some ⟨g, 0, none⟩) n cap) n (zs.map (Value.int .i64))) : Holds (Value.int .i64) w g 0 zs.toArray := by
  obtain ⟨g', c', e', _, _, _, _, _, h3⟩ := Lib.holds_of_ownsRow h (by simp)
  injection e' with e' _ _
  injection e' with e'
  injection e' with e'
  subst e'
  exact h3

theorem own_celli {w : World} {base : Nat} {e : TypeId} {g : Nat} {n c : Nat} {xs : List Value} (h : w.ownsRow base e 1 (.slice (some ⟨g, 0, none⟩) n c) n xs) {i : Nat} {x : Value} (hx : xs[i]? = some x) : w.cell? ⟨g, i, none⟩ = some x := by
  obtain ⟨g', hg, hc, _⟩ := own_at h hx
  simp only [Option.some.injEq, Addr.mk.injEq, and_true] at hg
  rw [hg]; exact hc

/-- One step down of an item that is put into its place. -/
theorem own_step {w : World} {base g n cap k : Nat} {e : TypeId} {A R : List Int} {x : Int} (hk : k < A.length) (h : w.ownsRow base e 1 (.slice (some ⟨g, 0, none⟩) n cap) n ((Mg.insSt A x (k + 1) R).map (Value.int .i64))) :
    ((w.setCell ⟨g, k, none⟩ (.int .i64 x)).setCell ⟨g, k + 1, none⟩ (.int .i64 A[k])).ownsRow base e 1 (.slice (some ⟨g, 0, none⟩) n cap) n ((Mg.insSt A x k R).map (Value.int .i64)) ∧ w.grownBy ((w.setCell ⟨g, k, none⟩ (.int .i64 x)).setCell ⟨g, k + 1, none⟩ (.int .i64 A[k])) (some g) := by
  have h1 := h.stored k (.int .i64 x)
  have h2 := h1.1.stored (k + 1) (.int .i64 A[k])
  refine ⟨?_, grown_trans h1.2 h2.2⟩
  have e1 : ((Mg.insSt A x (k + 1) R).map (Value.int .i64)).set k (.int .i64 x) = ((Mg.insSt A x (k + 1) R).set k x).map (Value.int .i64) := (List.map_set ..).symm
  have e2 : (((Mg.insSt A x (k + 1) R).set k x).map (Value.int .i64)).set (k + 1) (.int .i64 A[k]) = (((Mg.insSt A x (k + 1) R).set k x).set (k + 1) A[k]).map (Value.int .i64) := (List.map_set ..).symm
  have h3 := h2.1
  rw [e1, e2, Mg.insSt_step hk] at h3
  exact h3
theorem own_ins_cells {w : World} {base g n cap k : Nat} {e : TypeId} {A R : List Int} {x : Int} (hk : k < A.length) (h : w.ownsRow base e 1 (.slice (some ⟨g, 0, none⟩) n cap) n ((Mg.insSt A x (k + 1) R).map (Value.int .i64))) :
    w.cell? ⟨g, k, none⟩ = some (.int .i64 A[k]) ∧ w.cell? ⟨g, k + 1, none⟩ = some (.int .i64 x) ∧ w.frozen? ⟨g, k, none⟩ = false ∧ w.frozen? ⟨g, k + 1, none⟩ = false :=
  ⟨own_celli h (by rw [List.getElem?_map, Mg.insSt_before hk]; rfl), own_celli h (by rw [List.getElem?_map, Mg.insSt_at (by omega)]; rfl), h.frozenAt k, h.frozenAt (k + 1)⟩

theorem own_stepD {w : World} {base g n cap k : Nat} {e : TypeId} {A R : List Int} {x y : Int} (hk : k < A.length) (hy : A.getD k 0 = y) (h : w.ownsRow base e 1 (.slice (some ⟨g, 0, none⟩) n cap) n ((Mg.insSt A x (k + 1) R).map (Value.int .i64))) :
    ((w.setCell ⟨g, k, none⟩ (.int .i64 x)).setCell ⟨g, k + 1, none⟩ (.int .i64 y)).ownsRow base e 1 (.slice (some ⟨g, 0, none⟩) n cap) n ((Mg.insSt A x k R).map (Value.int .i64)) ∧ w.grownBy ((w.setCell ⟨g, k, none⟩ (.int .i64 x)).setCell ⟨g, k + 1, none⟩ (.int .i64 y)) (some g) := by
  have e1 : A[k] = y := by rw [← hy, List.getD_eq_getElem?_getD, List.getElem?_eq_getElem hk]; rfl
  subst e1
  exact own_step hk h
theorem own_ins_cellsD {w : World} {base g n cap k : Nat} {e : TypeId} {A R : List Int} {x : Int} (hk : k < A.length) (h : w.ownsRow base e 1 (.slice (some ⟨g, 0, none⟩) n cap) n ((Mg.insSt A x (k + 1) R).map (Value.int .i64))) :
    w.cell? ⟨g, k, none⟩ = some (.int .i64 (A.getD k 0)) ∧ w.cell? ⟨g, k + 1, none⟩ = some (.int .i64 x) ∧ w.frozen? ⟨g, k, none⟩ = false ∧ w.frozen? ⟨g, k + 1, none⟩ = false := by
  have e1 : A.getD k 0 = A[k] := by rw [List.getD_eq_getElem?_getD, List.getElem?_eq_getElem hk]; rfl
  rw [e1]
  exact own_ins_cells hk h
theorem ins_end_int {l : List Int} {x : Int} {k : Nat} {R : List Int} (hk : k ≤ l.length) (hd : ∀ b ∈ (Mg.srtI l).drop k, x < b) (hs : 0 < k → ¬ x < (Mg.srtI l).getD (k - 1) 0) : Mg.insSt (Mg.srtI l) x k R = Mg.srtI (l ++ [x]) ++ R := by
  have hl : (Mg.srtI l).length = l.length := Mg.srt_length l
  refine Mg.insSt_srt Mg.swI (lt := Mg.ltI) (by show k ≤ (Mg.srtI l).length; omega) (fun b hb => by simpa [Mg.ltI] using hd b hb) (fun h0 => ?_)
  have h1 := hs h0
  rw [List.getD_eq_getElem?_getD, List.getElem?_eq_getElem (by omega)] at h1
  unfold Mg.srtI at h1
  simpa [Mg.ltI] using h1
theorem srtI_len (l : List Int) : (Mg.srtI l).length = l.length := Mg.srt_length l
theorem srtI_start (zs : List Int) : zs = Mg.srtI (zs.take 1) ++ zs.drop 1 := by
  cases zs with
  | nil => rfl
  | cons a t => simp [Mg.srtI, Mg.srt_one]
theorem ins_start {zs : List Int} {i : Nat} (hi : i < zs.length) : Mg.srtI (zs.take i) ++ zs.drop i = Mg.insSt (Mg.srtI (zs.take i)) (zs.getD i 0) i (zs.drop (i + 1)) := by
  have hl : (Mg.srtI (zs.take i)).length = i := by rw [srtI_len, List.length_take]; omega
  have h1 := Mg.insSt_top (Mg.srtI (zs.take i)) (zs.getD i 0) (zs.drop (i + 1))
  rw [hl] at h1
  rw [h1, List.drop_eq_getElem_cons hi, List.getD_eq_getElem?_getD, List.getElem?_eq_getElem hi]
  rfl
theorem take_snoc {zs : List Int} {i : Nat} (hi : i < zs.length) : zs.take i ++ [zs.getD i 0] = zs.take (i + 1) := by
  rw [List.take_add_one, List.getElem?_eq_getElem hi, List.getD_eq_getElem?_getD, List.getElem?_eq_getElem hi]
  rfl

theorem own_addr {w : World} {base : Nat} {e : TypeId} {size : Nat} {a : Option Addr} {n c : Nat} {xs : List Value} (h : w.ownsRow base e size (.slice a n c) n xs) (hb : (Value.slice a n c).ownBlock ≠ none) : ∃ g, a = some ⟨g, 0, none⟩ ∧ base ≤ g ∧ g < w.heap.size := by
  rcases h.2 with ⟨h2, _⟩ | ⟨g, cap, cur, hv, hbs, hg, _⟩
  · injection h2 with h2 _ _
    subst h2
    exact absurd rfl hb
  · injection hv with hv _ _
    exact ⟨g, hv, hbs, (Array.getElem?_eq_some_iff.1 hg).1⟩
theorem ints_news {w : World} {x : Addr} {zs : List Int} (h : IntsAt w (some x) zs) : ∀ j u, (zs.map (Value.int .i64))[j]? = some u → w.cell? (x.add j) = some u := by
  intro j u hu
  rw [List.getElem?_map] at hu
  rcases h with rfl | ⟨b, off, e, _, h2⟩
  · simp at hu
  · injection e with e
    subst e
    by_cases hj : j < zs.length
    · rw [List.getElem?_eq_getElem hj] at hu
      have h3 := h2 j hj
      rw [List.getD_eq_getElem?_getD, List.getElem?_eq_getElem hj] at h3
      simp at hu h3
      rw [← hu, ← h3]
      unfold Addr.add
      split <;> simp_all
    · rw [List.getElem?_eq_none (by omega)] at hu; simp at hu
/-- 'append(l, x...)' where x can be read. -/
theorem wpList_appX {P : Program} {w : World} {ops : Array Oper} {rest : List Oper} {o : Oper} {a : Act} {Q : Exit → Act → World → Prop} {t e : TypeId} {z : Value} {size bytes : Nat} (T : SlT P t e z size bytes)
    (hgd : o.guard = none) (s y : Operand) (ho : o.op = .call { callee := .builtin .append, args := #[s, y], argTypes := #[t, t] })
    {base : Nat} {v : Value} {n m c : Nat} {xs ys : List Value} {ad : Addr} (hs : a.eval s = v) (hown : w.ownsRow base e size v n xs) (hy : a.eval y = .slice (some ad) m c) (hl : ys.length = m * size) (hcells : ∀ j x, ys[j]? = some x → w.cell? (ad.add j) = some x)
    (h1 : ∀ x ∈ ys, x.oneCell' = true) (hsmall : n + m ≤ 1099511627776) (hbase : base ≤ w.heap.size)
    (h : ∀ v' w', w'.ownsRow base e size v' (n + m) (xs ++ ys) → w.grownBy w' v.ownBlock → (v'.ownBlock = v.ownBlock ∨ v'.ownBlock = some w.heap.size) → wpList P ops Q rest (a.put o.dst v') w') :
    wpList P ops Q (o :: rest) a w := by
  refine wpList_plain hgd fun K hK => ?_
  obtain ⟨v', w', hr, h2, h3, h4⟩ := run_app_tag (P := P) w T base o.type v n xs hown ad m c ys hl hcells h1 hsmall hbase
  unfold Oper.wp execOp
  simp only [ho, resolve, invoke, builtin, Sem.run_bind, Sem.run_pure, Result.andThen_ok, List.map_toArray, List.map_cons, List.map_nil, hs, hy, hr]
  exact hK _ _ (h v' w' h2 h3 h4)

end Go.Proofs.Ytmolneojjcjooaa

/- Contracts of the library's functions at this dump, laid by the shelf's own tool in plain words. -/
/-
  DERIVED: THE SHELF's CONTRACTS AT THIS DUMP, IN PLAIN WORDS (tools/lay-plain.mjs out of 'TryShelf.lean', which tools/lay-shelf.mjs wrote): THE SAME DECLARATIONS UNDER THE SAME NAMES: 'import', 'namespace', 'open', 'def', 'theorem' AND NOTHING ELSE: no command of the shelf's: FOR A HAND-IN. Each laying: the table of numbers ('.._ren') and one theorem, a field a fact of the dump's own or the kernel's comparison; each contract: ONE APPLICATION.
-/
namespace Go.Proofs
open Go.Shelf
def Try.lays128_ren : Go.Shelf.Ren := ⟨fun | 128 => 214 | n => n, fun | 51 => 192 | 3 => 3 | 4 => 4 | 46 => 172 | 5 => 5 | 9 => 9 | n => n, fun | n => n⟩
theorem Try.lays128 : Go.Proofs.Lays.n128 Try.prog Try.lays128_ren := {
  mixed := by kernel_rfl
  f128 := Try.func214.trans (congrArg some (by kernel_rfl))
  t3 := Try.underlying3
  a3 := Try.isAgg3
  z3 := Try.sizeOf3
  v3 := Try.zeroValue3
  t4 := Try.underlying4
  a4 := Try.isAgg4
  z4 := Try.sizeOf4
  v4 := Try.zeroValue4
  t5 := Try.underlying5
  a5 := Try.isAgg5
  z5 := Try.sizeOf5
  v5 := Try.zeroValue5
  t9 := Try.underlying9
  a9 := Try.isAgg9
  z9 := Try.sizeOf9
  v9 := Try.zeroValue9
  t46 := Try.underlying172
  a46 := Try.isAgg172
  z46 := Try.sizeOf172
  v46 := Try.zeroValue172
  t51 := Try.underlying192
  a51 := Try.isAgg192
  z51 := Try.sizeOf192
  v51 := Try.zeroValue192 }
/-- bits.Len32: "Len32 returns the minimum number of bits required to represent x; the result is 0 for x == 0.": IT RETURNS 'Lib.bitLen x'; the world is as it was. ('h0', 'h1': x is a uint32.) (LAID: no walk: one application.) -/
theorem Try.bits_Len32 (x : Int) (w : World) (h0 : 0 ≤ x) (h1 : x ≤ 4294967295) :
    Calls Try.prog 214 #[.int .u32 x] w fun e w' => e = .returned (.int .i64 (Lib.bitLen x.toNat)) ∧ w' = w := Any.bits_Len32 Try.lays128 x w h0 h1
def Try.lays125_ren : Go.Shelf.Ren := ⟨fun | 125 => 198 | 128 => 214 | 129 => 215 | n => n, fun | 46 => 172 | 3 => 3 | 51 => 192 | 53 => 120 | 4 => 4 | 5 => 5 | 9 => 9 | n => n, fun | n => n⟩
theorem Try.lays125 : Go.Proofs.Lays.n125 Try.prog Try.lays125_ren := {
  mixed := by kernel_rfl
  f125 := Try.func198.trans (congrArg some (by kernel_rfl))
  f128 := Try.func214.trans (congrArg some (by kernel_rfl))
  f129 := Try.func215.trans (congrArg some (by kernel_rfl))
  t3 := Try.underlying3
  a3 := Try.isAgg3
  z3 := Try.sizeOf3
  v3 := Try.zeroValue3
  t4 := Try.underlying4
  a4 := Try.isAgg4
  z4 := Try.sizeOf4
  v4 := Try.zeroValue4
  t5 := Try.underlying5
  a5 := Try.isAgg5
  z5 := Try.sizeOf5
  v5 := Try.zeroValue5
  t9 := Try.underlying9
  a9 := Try.isAgg9
  z9 := Try.sizeOf9
  v9 := Try.zeroValue9
  t46 := Try.underlying172
  a46 := Try.isAgg172
  z46 := Try.sizeOf172
  v46 := Try.zeroValue172
  t51 := Try.underlying192
  a51 := Try.isAgg192
  z51 := Try.sizeOf192
  v51 := Try.zeroValue192
  t53 := Try.underlying120
  a53 := Try.isAgg120
  z53 := Try.sizeOf120
  v53 := Try.zeroValue120 }
/-- bits.Len: "Len returns the minimum number of bits required to represent x; the result is 0 for x == 0.": IT RETURNS 'Lib.bitLen x'; the world is as it was. (A uint has 64 bits in the model.) ITS CALLEE bits.Len64 IS MET BY ITS OWN CONTRACT OFF THE SHELF (lay that first). (LAID: no walk: one application.) -/
theorem Try.bits_Len (x : Int) (w : World) (h0 : 0 ≤ x) (h1 : x ≤ 18446744073709551615) :
    Calls Try.prog 198 #[.int .u64 x] w fun e w' => e = .returned (.int .i64 (Lib.bitLen x.toNat)) ∧ w' = w := Any.bits_Len Try.lays125 x w h0 h1
def Try.lays215_ren : Go.Shelf.Ren := ⟨fun | 215 => 200 | n => n, fun | 3 => 3 | 4 => 4 | n => n, fun | n => n⟩
theorem Try.lays215 : Go.Proofs.Lays.n215 Try.prog Try.lays215_ren := {
  mixed := by kernel_rfl
  f215 := Try.func200.trans (congrArg some (by kernel_rfl))
  t3 := Try.underlying3
  a3 := Try.isAgg3
  z3 := Try.sizeOf3
  v3 := Try.zeroValue3
  t4 := Try.underlying4
  a4 := Try.isAgg4
  z4 := Try.sizeOf4
  v4 := Try.zeroValue4 }
open Go.RowKit in
/-- cmp.isNaN at int: 'x != x': false. (LAID: no walk: one application.) -/
theorem Try.cmp_isNaN_int (x : Int) (w : World) :
    Calls Try.prog 200 #[.int .i64 x] w fun e w' => e = .returned (.bool false) ∧ w' = w := Any.cmp_isNaN_int Try.lays215 x w
def Try.lays122_ren : Go.Shelf.Ren := ⟨fun | 122 => 181 | 215 => 200 | n => n, fun | 3 => 3 | 4 => 4 | n => n, fun | n => n⟩
theorem Try.lays122 : Go.Proofs.Lays.n122 Try.prog Try.lays122_ren := {
  mixed := by kernel_rfl
  f122 := Try.func181.trans (congrArg some (by kernel_rfl))
  f215 := Try.func200.trans (congrArg some (by kernel_rfl))
  t3 := Try.underlying3
  a3 := Try.isAgg3
  z3 := Try.sizeOf3
  v3 := Try.zeroValue3
  t4 := Try.underlying4
  a4 := Try.isAgg4
  z4 := Try.sizeOf4
  v4 := Try.zeroValue4 }
open Go.RowKit in
/-- cmp.Compare at int: "Compare returns -1 if x is less than y, 0 if x equals y, +1 if x is greater than y.": IT RETURNS 'Lib.compareInt x y'; the world is as it was. (LAID: no walk: one application.) -/
theorem Try.cmp_Compare_int (x y : Int) (w : World) :
    Calls Try.prog 181 #[.int .i64 x, .int .i64 y] w fun e w' => e = .returned (.int .i64 (Lib.compareInt x y)) ∧ w' = w := Any.cmp_Compare_int Try.lays122 x y w
def Try.lays129_ren : Go.Shelf.Ren := ⟨fun | 129 => 215 | n => n, fun | 53 => 120 | 3 => 3 | 4 => 4 | 46 => 172 | 5 => 5 | 9 => 9 | n => n, fun | n => n⟩
theorem Try.lays129 : Go.Proofs.Lays.n129 Try.prog Try.lays129_ren := {
  mixed := by kernel_rfl
  f129 := Try.func215.trans (congrArg some (by kernel_rfl))
  t3 := Try.underlying3
  a3 := Try.isAgg3
  z3 := Try.sizeOf3
  v3 := Try.zeroValue3
  t4 := Try.underlying4
  a4 := Try.isAgg4
  z4 := Try.sizeOf4
  v4 := Try.zeroValue4
  t5 := Try.underlying5
  a5 := Try.isAgg5
  z5 := Try.sizeOf5
  v5 := Try.zeroValue5
  t9 := Try.underlying9
  a9 := Try.isAgg9
  z9 := Try.sizeOf9
  v9 := Try.zeroValue9
  t46 := Try.underlying172
  a46 := Try.isAgg172
  z46 := Try.sizeOf172
  v46 := Try.zeroValue172
  t53 := Try.underlying120
  a53 := Try.isAgg120
  z53 := Try.sizeOf120
  v53 := Try.zeroValue120 }
/-- bits.Len64: "Len64 returns the minimum number of bits required to represent x; the result is 0 for x == 0.": IT RETURNS 'Lib.bitLen x'; the world is as it was. ('h0', 'h1': x is a uint64.) (LAID: no walk: one application.) -/
theorem Try.bits_Len64 (x : Int) (w : World) (h0 : 0 ≤ x) (h1 : x ≤ 18446744073709551615) :
    Calls Try.prog 215 #[.int .u64 x] w fun e w' => e = .returned (.int .i64 (Lib.bitLen x.toNat)) ∧ w' = w := Any.bits_Len64 Try.lays129 x w h0 h1
def Try.lays189_ren : Go.Shelf.Ren := ⟨fun | 189 => 178 | 125 => 198 | 257 => 197 | 128 => 214 | 129 => 215 | 294 => 205 | 295 => 206 | 296 => 207 | 297 => 208 | 298 => 209 | 299 => 210 | 216 => 211 | 300 => 212 | 301 => 213 | 328 => 219 | 329 => 220 | 330 => 221 | 331 => 222 | 332 => 223 | 215 => 200 | 343 => 226 | n => n, fun | 28 => 29 | 3 => 3 | 46 => 172 | 0 => 0 | 51 => 192 | 53 => 120 | 4 => 4 | 183 => 186 | 182 => 185 | 131 => 77 | 5 => 5 | 9 => 9 | 218 => 196 | 222 => 200 | 228 => 202 | 229 => 111 | n => n, fun | n => n⟩
theorem Try.lays189 : Go.Proofs.Lays.n189 Try.prog Try.lays189_ren := {
  mixed := by kernel_rfl
  f125 := Try.func198.trans (congrArg some (by kernel_rfl))
  f128 := Try.func214.trans (congrArg some (by kernel_rfl))
  f129 := Try.func215.trans (congrArg some (by kernel_rfl))
  f189 := Try.func178.trans (congrArg some (by kernel_rfl))
  f215 := Try.func200.trans (congrArg some (by kernel_rfl))
  f216 := Try.func211.trans (congrArg some (by kernel_rfl))
  f257 := Try.func197.trans (congrArg some (by kernel_rfl))
  f294 := Try.func205.trans (congrArg some (by kernel_rfl))
  f295 := Try.func206.trans (congrArg some (by kernel_rfl))
  f296 := Try.func207.trans (congrArg some (by kernel_rfl))
  f297 := Try.func208.trans (congrArg some (by kernel_rfl))
  f298 := Try.func209.trans (congrArg some (by kernel_rfl))
  f299 := Try.func210.trans (congrArg some (by kernel_rfl))
  f300 := Try.func212.trans (congrArg some (by kernel_rfl))
  f301 := Try.func213.trans (congrArg some (by kernel_rfl))
  f328 := Try.func219.trans (congrArg some (by kernel_rfl))
  f329 := Try.func220.trans (congrArg some (by kernel_rfl))
  f330 := Try.func221.trans (congrArg some (by kernel_rfl))
  f331 := Try.func222.trans (congrArg some (by kernel_rfl))
  f332 := Try.func223.trans (congrArg some (by kernel_rfl))
  f343 := Try.func226.trans (congrArg some (by kernel_rfl))
  t0 := Try.underlying0
  a0 := Try.isAgg0
  z0 := Try.sizeOf0
  v0 := Try.zeroValue0
  t3 := Try.underlying3
  a3 := Try.isAgg3
  z3 := Try.sizeOf3
  v3 := Try.zeroValue3
  t4 := Try.underlying4
  a4 := Try.isAgg4
  z4 := Try.sizeOf4
  v4 := Try.zeroValue4
  t5 := Try.underlying5
  a5 := Try.isAgg5
  z5 := Try.sizeOf5
  v5 := Try.zeroValue5
  t9 := Try.underlying9
  a9 := Try.isAgg9
  z9 := Try.sizeOf9
  v9 := Try.zeroValue9
  t28 := Try.underlying29
  a28 := Try.isAgg29
  z28 := Try.sizeOf29
  v28 := Try.zeroValue29
  t46 := Try.underlying172
  a46 := Try.isAgg172
  z46 := Try.sizeOf172
  v46 := Try.zeroValue172
  t51 := Try.underlying192
  a51 := Try.isAgg192
  z51 := Try.sizeOf192
  v51 := Try.zeroValue192
  t53 := Try.underlying120
  a53 := Try.isAgg120
  z53 := Try.sizeOf120
  v53 := Try.zeroValue120
  t131 := Try.underlying77
  a131 := Try.isAgg77
  z131 := Try.sizeOf77
  v131 := Try.zeroValue77
  t182 := Try.underlying185
  a182 := Try.isAgg185
  z182 := Try.sizeOf185
  v182 := Try.zeroValue185
  t183 := Try.underlying186
  a183 := Try.isAgg186
  z183 := Try.sizeOf186
  v183 := Try.zeroValue186
  t218 := Try.underlying196
  a218 := Try.isAgg196
  z218 := Try.sizeOf196
  v218 := Try.zeroValue196
  t222 := Try.underlying200
  a222 := Try.isAgg200
  z222 := Try.sizeOf200
  v222 := Try.zeroValue200
  t228 := Try.underlying202
  a228 := Try.isAgg202
  z228 := Try.sizeOf202
  v228 := Try.zeroValue202
  t229 := Try.underlying111
  a229 := Try.isAgg111
  z229 := Try.sizeOf111
  v229 := Try.zeroValue111 }
open Go.Sort Go.RowKit in
theorem Try.slices_Sort_int (blk off cap : Nat) (zs : List Int) (w : World) (hH : Holds (Value.int .i64) w blk off zs.toArray) (hblk : blk < w.heap.size) (hsz : zs.length < 4611686018427387904) :
    Calls Try.prog 178 #[.slice (some ⟨blk, off, none⟩) zs.length cap] w fun e w' =>
      e = .returned (.tuple #[]) ∧ ∃ n os, w' = grow (putRow (Value.int .i64) (Sort.ahead w n) blk off (zs.mergeSort fun x y => decide (x ≤ y)).toArray) os := Any.slices_Sort_int Try.lays189 blk off cap zs w hH hblk hsz
def Try.lays112_ren : Go.Shelf.Ren := ⟨fun | 112 => 188 | n => n, fun | 28 => 29 | 3 => 3 | 4 => 4 | 0 => 0 | n => n, fun | n => n⟩
theorem Try.lays112 : Go.Proofs.Lays.n112 Try.prog Try.lays112_ren := {
  mixed := by kernel_rfl
  f112 := Try.func188.trans (congrArg some (by kernel_rfl))
  t0 := Try.underlying0
  a0 := Try.isAgg0
  z0 := Try.sizeOf0
  v0 := Try.zeroValue0
  t3 := Try.underlying3
  a3 := Try.isAgg3
  z3 := Try.sizeOf3
  v3 := Try.zeroValue3
  t4 := Try.underlying4
  a4 := Try.isAgg4
  z4 := Try.sizeOf4
  v4 := Try.zeroValue4
  t28 := Try.underlying29
  a28 := Try.isAgg29
  z28 := Try.sizeOf29
  v28 := Try.zeroValue29 }
open Go.RowKit Go.Lib Go.Sort in
/-- slices.Reverse at []int, over an array: Go's loop from the two ends inward is walked; it makes 'Sort.reverseLoop 0 (len - 1)', which is 'Array.reverse' (Derived/Lib/SlicesMore.lean). (LAID: no walk: one application.) -/
theorem Try.slices_Reverse_int_arr (blk off cap : Nat) (d : Array Int) (w : World) (hH : Holds encI w blk off d) (hsz : d.size ≤ 9223372036854775807) :
    Calls Try.prog 188 #[.slice (some ⟨blk, off, none⟩) d.size cap] w fun e w' => e = .returned (.tuple #[]) ∧ ∃ n, w' = putRow encI (Sort.ahead w n) blk off d.reverse := Any.slices_Reverse_int_arr Try.lays112 blk off cap d w hH hsz
open Go.RowKit Go.Lib Go.Sort in
/-- slices.Reverse at []int: "Reverse reverses the elements of the slice in place.": THE SLICE's CELLS HOLD 'zs.reverse' BEHIND THE CALL; all else is as it was, but for the count of draws (the exchange 's[i], s[j] = s[j], s[i]' draws its order, once a round). IN THE WORDS OF slices.Sort's CONTRACT: 'Holds': the cells hold zs and none is frozen; 'putRow': the world with those cells holding another array. A slice of length 0 that is not nil is among them ('zs = []'); nil: '.._nil'. (LAID: no walk: one application.) -/
theorem Try.slices_Reverse_int (blk off cap : Nat) (zs : List Int) (w : World) (hH : Holds (Value.int .i64) w blk off zs.toArray) (hsz : zs.length ≤ 9223372036854775807) :
    Calls Try.prog 188 #[.slice (some ⟨blk, off, none⟩) zs.length cap] w fun e w' => e = .returned (.tuple #[]) ∧ ∃ n, w' = putRow (Value.int .i64) (Sort.ahead w n) blk off zs.reverse.toArray := Any.slices_Reverse_int Try.lays112 blk off cap zs w hH hsz
open Go.RowKit Go.Lib Go.Sort in
/-- The same at a slice of length 0, a nil one too: nothing is read, nothing written, nothing drawn. (LAID: no walk: one application.) -/
theorem Try.slices_Reverse_int_empty (a : Option Addr) (cap : Nat) (w : World) :
    Calls Try.prog 188 #[.slice a 0 cap] w fun e w' => e = .returned (.tuple #[]) ∧ w' = w := Any.slices_Reverse_int_empty Try.lays112 a cap w
def Try.laysNm220_ren : Go.Shelf.Ren := ⟨fun | 20 => 129 | n => n, fun | 22 => 29 | 3 => 3 | 4 => 4 | 0 => 0 | n => n, fun | n => n⟩
theorem Try.laysNm220 : Go.Proofs.Lays2.n20 Try.prog Try.laysNm220_ren := {
  mixed := by kernel_rfl
  f20 := Try.func129.trans (congrArg some (by kernel_rfl))
  t0 := Try.underlying0
  a0 := Try.isAgg0
  z0 := Try.sizeOf0
  v0 := Try.zeroValue0
  t3 := Try.underlying3
  a3 := Try.isAgg3
  z3 := Try.sizeOf3
  v3 := Try.zeroValue3
  t4 := Try.underlying4
  a4 := Try.isAgg4
  z4 := Try.sizeOf4
  v4 := Try.zeroValue4
  t22 := Try.underlying29
  a22 := Try.isAgg29
  z22 := Try.sizeOf29
  v22 := Try.zeroValue29
  i3 := by kernel_rfl }
open Go.RowKit Go.Lib Go.Sort in
/-- slices.Compact at []int, over an array: the library's two loops are walked. (LAID: no walk: one application.) -/
theorem Try.slices_Compact_int_arr (blk off cap : Nat) (d : Array Int) (w : World) (hH : Holds encI w blk off d) (hsz : d.size ≤ 9223372036854775807) (hcap : d.size ≤ cap) :
    Calls Try.prog 129 #[.slice (some ⟨blk, off, none⟩) d.size cap] w fun e w' => e = .returned (.slice (some ⟨blk, off, none⟩) (compactUpTo d d.size).length cap) ∧ ∃ q, w' = putRow encI (Sort.ahead w q) blk off (compactUpTo d d.size ++ List.replicate (d.size - (compactUpTo d d.size).length) 0).toArray := Any.slices_Compact_int_arr Try.laysNm220 blk off cap d w hH hsz hcap
open Go.RowKit Go.Lib Go.Sort in
/-- slices.Compact at []int: "Compact replaces consecutive runs of equal elements with a single copy. This is like the uniq command found on Unix. Compact modifies the contents of the slice s and returns the modified slice, which may have a smaller length. Compact zeroes the elements between the new length and the original length. The result preserves the nilness of s.": IT RETURNS THE SLICE CUT TO 'Lib.compact zs'; ITS CELLS HOLD 'Lib.compact zs', THEN ZERO VALUES up to the old length; all else is as it was, but for the count of draws. IN THE WORDS OF slices.Sort's CONTRACT ('Holds', 'putRow'): so the everyday 'slices.Sort(xs); xs = slices.Compact(xs)' goes from the one contract to the other. It asks 'zs.length ≤ cap' (every slice's: the reslicing 's[:k]' looks at it). Length 0, nil: '.._empty'. (LAID: no walk: one application.) -/
theorem Try.slices_Compact_int (blk off cap : Nat) (zs : List Int) (w : World) (hH : Holds (Value.int .i64) w blk off zs.toArray) (hsz : zs.length ≤ 9223372036854775807) (hcap : zs.length ≤ cap) :
    Calls Try.prog 129 #[.slice (some ⟨blk, off, none⟩) zs.length cap] w fun e w' => e = .returned (.slice (some ⟨blk, off, none⟩) (Lib.compact zs).length cap) ∧ ∃ q, w' = putRow (Value.int .i64) (Sort.ahead w q) blk off (Lib.compact zs ++ List.replicate (zs.length - (Lib.compact zs).length) 0).toArray := Any.slices_Compact_int Try.laysNm220 blk off cap zs w hH hsz hcap
open Go.RowKit Go.Lib Go.Sort in
/-- The same at a slice of length 0, a nil one too: it comes back as it is. (LAID: no walk: one application.) -/
theorem Try.slices_Compact_int_empty (a : Option Addr) (cap : Nat) (w : World) :
    Calls Try.prog 129 #[.slice a 0 cap] w fun e w' => e = .returned (.slice a 0 cap) ∧ w' = w := Any.slices_Compact_int_empty Try.laysNm220 a cap w
def Try.laysNm237_ren : Go.Shelf.Ren := ⟨fun | 37 => 200 | n => n, fun | 3 => 3 | 4 => 4 | n => n, fun | n => n⟩
theorem Try.laysNm237 : Go.Proofs.Lays2.n37 Try.prog Try.laysNm237_ren := {
  mixed := by kernel_rfl
  f37 := Try.func200.trans (congrArg some (by kernel_rfl))
  t3 := Try.underlying3
  a3 := Try.isAgg3
  z3 := Try.sizeOf3
  v3 := Try.zeroValue3
  t4 := Try.underlying4
  a4 := Try.isAgg4
  z4 := Try.sizeOf4
  v4 := Try.zeroValue4 }
open Go.RowKit Go.Lib in
/-- cmp.isNaN[int]: 'x != x': false. (LAID: no walk: one application.) -/
theorem Try.cmp_isNaN_int2 (x : Int) (w : World) :
    Calls Try.prog 200 #[.int .i64 x] w fun e w' => e = .returned (.bool false) ∧ w' = w := Any.cmp_isNaN_int2 Try.laysNm237 x w
def Try.laysNm231_ren : Go.Shelf.Ren := ⟨fun | 31 => 211 | 37 => 200 | n => n, fun | 3 => 3 | 4 => 4 | n => n, fun | n => n⟩
theorem Try.laysNm231 : Go.Proofs.Lays2.n31 Try.prog Try.laysNm231_ren := {
  mixed := by kernel_rfl
  f31 := Try.func211.trans (congrArg some (by kernel_rfl))
  f37 := Try.func200.trans (congrArg some (by kernel_rfl))
  t3 := Try.underlying3
  a3 := Try.isAgg3
  z3 := Try.sizeOf3
  v3 := Try.zeroValue3
  t4 := Try.underlying4
  a4 := Try.isAgg4
  z4 := Try.sizeOf4
  v4 := Try.zeroValue4 }
open Go.RowKit Go.Lib in
/-- cmp.Less[int]: "Less reports whether x is less than y.": 'x < y'; the world is as it was. (LAID: no walk: one application.) -/
theorem Try.cmp_Less_int2 (x y : Int) (w : World) :
    Calls Try.prog 211 #[.int .i64 x, .int .i64 y] w fun e w' => e = .returned (.bool (decide (x < y))) ∧ w' = w := Any.cmp_Less_int2 Try.laysNm231 x y w
def Try.laysNm223_ren : Go.Shelf.Ren := ⟨fun | 23 => 187 | n => n, fun | 22 => 29 | 3 => 3 | 4 => 4 | 0 => 0 | n => n, fun | n => n⟩
theorem Try.laysNm223 : Go.Proofs.Lays2.n23 Try.prog Try.laysNm223_ren := {
  mixed := by kernel_rfl
  f23 := Try.func187.trans (congrArg some (by kernel_rfl))
  t0 := Try.underlying0
  a0 := Try.isAgg0
  z0 := Try.sizeOf0
  v0 := Try.zeroValue0
  t3 := Try.underlying3
  a3 := Try.isAgg3
  z3 := Try.sizeOf3
  v3 := Try.zeroValue3
  t4 := Try.underlying4
  a4 := Try.isAgg4
  z4 := Try.sizeOf4
  v4 := Try.zeroValue4
  t22 := Try.underlying29
  a22 := Try.isAgg29
  z22 := Try.sizeOf29
  v22 := Try.zeroValue29
  i3 := by kernel_rfl }
open Go.RowKit Go.Lib Go.Sort in
/-- slices.Delete at []int, over an array. (LAID: no walk: one application.) -/
theorem Try.slices_Delete_int_arr (blk off cap i j : Nat) (d : Array Int) (w : World) (hH : Holds encI w blk off d) (hcap : d.size ≤ cap) (hm : cap ≤ 9223372036854775807) (hij : i ≤ j) (hj : j ≤ d.size) :
    Calls Try.prog 187 #[.slice (some ⟨blk, off, none⟩) d.size cap, .int .i64 i, .int .i64 j] w fun e w' => e = .returned (.slice (some ⟨blk, off, none⟩) (d.size - (j - i)) cap) ∧ ∃ q, w' = putRow encI (Sort.ahead w q) blk off (d.toList.take i ++ d.toList.drop j ++ List.replicate (j - i) 0).toArray := Any.slices_Delete_int_arr Try.laysNm223 blk off cap i j d w hH hcap hm hij hj
open Go.RowKit Go.Lib Go.Sort in
/-- slices.Delete at []int: "Delete modifies s in place by removing the elements s[i:j], and returns the modified slice. Delete panics if j > len(s) or s[i:j] is not a valid slice of s. Delete is O(len(s)-i), so if many items must be deleted, it is better to make a single call deleting them all together than to delete one at a time. Delete zeroes the elements s[len(s)-(j-i):len(s)]. If the result is empty, it has the same nilness as s.": FOR i ≤ j ≤ len(s) IT RETURNS THE SLICE CUT TO len(s) - (j - i) ELEMENTS; ITS CELLS HOLD what stood ahead of i, what stood from j on, then j - i zero values; all else is as it was, but for the count of draws. IN THE WORDS OF slices.Sort's CONTRACT ('Holds', 'putRow'). It asks 'zs.length ≤ cap ≤ 2^63 - 1' (every slice's). (Outside i ≤ j ≤ len(s) it panics: no contract here.) (LAID: no walk: one application.) -/
theorem Try.slices_Delete_int (blk off cap i j : Nat) (zs : List Int) (w : World) (hH : Holds (Value.int .i64) w blk off zs.toArray) (hcap : zs.length ≤ cap) (hm : cap ≤ 9223372036854775807) (hij : i ≤ j) (hj : j ≤ zs.length) :
    Calls Try.prog 187 #[.slice (some ⟨blk, off, none⟩) zs.length cap, .int .i64 i, .int .i64 j] w fun e w' => e = .returned (.slice (some ⟨blk, off, none⟩) (zs.length - (j - i)) cap) ∧ ∃ q, w' = putRow (Value.int .i64) (Sort.ahead w q) blk off (zs.take i ++ zs.drop j ++ List.replicate (j - i) 0).toArray := Any.slices_Delete_int Try.laysNm223 blk off cap i j zs w hH hcap hm hij hj
open Go.RowKit Go.Lib Go.Sort in
/-- slices.Reverse at []int, of an argument: the n cells hold the elements in reverse. (LAID: no walk: one application.) -/
theorem Try.slices_Reverse_int_cells (b off n c : Nat) (zs : List Int) (w : World) (hz : n ≤ zs.length) (hbig : n ≤ 9223372036854775807) (hc : ∀ j, j < zs.length → w.cell? ⟨b, off + j, none⟩ = some (.int .i64 (zs.getD j 0))) (hf : ∀ j, j < n → w.frozen? ⟨b, off + j, none⟩ = false) :
    Calls Try.prog 188 #[.slice (some ⟨b, off, none⟩) n c] w fun e w' => e = .returned (.tuple #[]) ∧ ∃ q, w' = (w.drewN q).setCells b off ((zs.take n).reverse.map (Value.int .i64)) := Any.slices_Reverse_int_cells Try.lays112 b off n c zs w hz hbig hc hf
open Go.RowKit Go.Lib Go.Sort in
/-- slices.Compact at []int, of an argument: the slice cut to 'Lib.compact (elements)'; the n cells hold that, then zeros. (LAID: no walk: one application.) -/
theorem Try.slices_Compact_int_cells (b off n c : Nat) (zs : List Int) (w : World) (hz : n ≤ zs.length) (hbig : n ≤ 9223372036854775807) (hcap : n ≤ c) (hc : ∀ j, j < zs.length → w.cell? ⟨b, off + j, none⟩ = some (.int .i64 (zs.getD j 0))) (hf : ∀ j, j < n → w.frozen? ⟨b, off + j, none⟩ = false) :
    Calls Try.prog 129 #[.slice (some ⟨b, off, none⟩) n c] w fun e w' => e = .returned (.slice (some ⟨b, off, none⟩) (Lib.compact (zs.take n)).length c) ∧ ∃ q, w' = (w.drewN q).setCells b off ((Lib.compact (zs.take n) ++ List.replicate (n - (Lib.compact (zs.take n)).length) 0).map (Value.int .i64)) := Any.slices_Compact_int_cells Try.laysNm220 b off n c zs w hz hbig hcap hc hf
open Go.RowKit Go.Lib Go.Sort in
/-- slices.Delete at []int, of an argument, for i ≤ j ≤ n: the slice cut to n - (j - i) elements; the n cells hold what stood ahead of i, what stood from j on, then zeros. (LAID: no walk: one application.) -/
theorem Try.slices_Delete_int_cells (b off n c i j : Nat) (zs : List Int) (w : World) (hz : n ≤ zs.length) (hcap : n ≤ c) (hm : c ≤ 9223372036854775807) (hij : i ≤ j) (hj : j ≤ n) (hc : ∀ j, j < zs.length → w.cell? ⟨b, off + j, none⟩ = some (.int .i64 (zs.getD j 0))) (hf : ∀ j, j < n → w.frozen? ⟨b, off + j, none⟩ = false) :
    Calls Try.prog 187 #[.slice (some ⟨b, off, none⟩) n c, .int .i64 i, .int .i64 j] w fun e w' => e = .returned (.slice (some ⟨b, off, none⟩) (n - (j - i)) c) ∧ ∃ q, w' = (w.drewN q).setCells b off (((zs.take n).take i ++ (zs.take n).drop j ++ List.replicate (j - i) 0).map (Value.int .i64)) := Any.slices_Delete_int_cells Try.laysNm223 b off n c i j zs w hz hcap hm hij hj hc hf
open Go.RowKit Go.Sort in
/-- .. and plain. (LAID: no walk: one application.) -/
theorem Try.slices_Sort_int_none (p : Option Addr) (cap : Nat) (w : World) :
    Calls Try.prog 178 #[.slice p 0 cap] w fun e w' => e = .returned (.tuple #[]) ∧ w' = w := Any.slices_Sort_int_none Try.lays189 p cap w
open Go.RowKit Go.Lib in
/-- slices.Delete at []int of no element ('Delete(s, 0, 0)'): s comes back; the world is as it was. (LAID: no walk: one application.) -/
theorem Try.slices_Delete_int_empty (a : Option Addr) (c : Nat) (w : World) :
    Calls Try.prog 187 #[.slice a 0 c, .int .i64 0, .int .i64 0] w fun e w' => e = .returned (.slice a 0 c) ∧ w' = w := Any.slices_Delete_int_empty Try.laysNm223 a c w
end Go.Proofs

/- Walks: integers copied, sorted and compared by both packages. -/
namespace Go.Proofs.Ytmolneojjcjooaa
open Go.RowKit Go.Sort
set_option linter.unusedVariables false

/-- A list of integers of the call's own, behind a call. -/
def OwnEnd (w : World) (l : List Int) (n : Nat) (e : Ending) (w' : World) : Prop :=
  ∃ (g c : Nat), e = .returned (.slice (some ⟨g, 0, none⟩) n c) ∧ w'.ownsRow w.heap.size 3 1 (.slice (some ⟨g, 0, none⟩) n c) n (l.map (Value.int .i64)) ∧ Below w.heap.size w w'

set_option maxRecDepth 100000 in
set_option maxHeartbeats 2000000 in
theorem l1Own_any (x : Addr) (cap : Nat) (zs : List Int) (w : World) (hlen : zs.length ≤ 1000) (h : IntsAt w (some x) zs) :
    Calls Try.prog 137 #[.slice (some x) zs.length cap] w (OwnEnd w zs zs.length) := by
  have E0 := Lib.hid (own_lit (w := w) (e := 3) (size := 1) #[] 0 (by omega) rfl)
  have HB := Lib.hid (show Below w.heap.size w (w.alloc (.cells #[] 3)) from (Below.refl _ _).alloc (Nat.le_refl _) _)
  have HN := Lib.hid (ints_news (h.below (Nat.le_refl _) HB.out))
  have hl : (zs.map (Value.int .i64)).length = zs.length * 1 := by simp
  have hsm : 0 + zs.length ≤ 1099511627776 := by omega
  have hle : w.heap.size ≤ (w.alloc (.cells #[] 3)).heap.size := by simp
  have HL := Lib.hid hl; have HS := Lib.hid hsm; have HLE := Lib.hid hle
  clear h hl hsm hle
  go_enter Try.func137, Try.ntmps137
  go_wp2_with (at_builtin; refine wpList_appX (v := .slice (some ⟨w.heap.size, 0, none⟩) 0 0) slInt rfl _ _ rfl rfl E0.out rfl HL.out HN.out (by simp [Value.oneCell']) HS.out HLE.out ?_; intro v' w2 hown2 hg2 ht2; obtain ⟨a', c', rfl⟩ := own_slice hown2; have HO := Lib.hid hown2; have HG := Lib.hid hg2; have HT := Lib.hid ht2; clear hown2 hg2 ht2)
  go_wp2
  go_ret
  obtain ⟨g, rfl, _, _⟩ := own_addr HO.out (by
    rcases HT.out with h | h
    · rw [h]; simp [Value.ownBlock]
    · rw [h]; simp)
  refine ⟨g, c', ?_, ?_, HB.out.grown HG.out (by simp) (fun k hk => ?_)⟩
  · rfl
  · have := HO.out
    rw [Nat.zero_add] at this
    simpa using this
  · simp [Value.ownBlock] at hk; omega

set_option maxRecDepth 100000 in
set_option maxHeartbeats 4000000 in
theorem l2Sorted_any (x : Addr) (cap : Nat) (zs : List Int) (w : World) (hlen : zs.length ≤ 1000) (h : IntsAt w (some x) zs) :
    Calls Try.prog 153 #[.slice (some x) zs.length cap] w (OwnEnd w (Mg.srtI zs) zs.length) := by
  have H1 := Lib.hid (l1Own_any x cap zs w hlen h)
  clear h
  unfold OwnEnd at *
  go_enter Try.func153, Try.ntmps153
  go_wp2_with fail
  refine H1.out.mono ?_
  rintro e w1 ⟨g, c, rfl, ho, hb⟩
  have HO := Lib.hid ho; have HB := Lib.hid hb; clear ho hb H1
  have HS0 := Lib.hid (srtI_start zs)
  go_wp2
  go_loopw [4] (fun v wr => ∃ i : Nat, v = .int .i64 i ∧ 1 ≤ i ∧ (i ≤ zs.length ∨ i = 1) ∧ wr.ownsRow w.heap.size 3 1 (.slice (some ⟨g, 0, none⟩) zs.length c) zs.length ((Mg.srtI (zs.take i) ++ zs.drop i).map (Value.int .i64)) ∧ Below w.heap.size w wr) (fun v _ => zs.length + 1 - (intOf v).toNat)
  case atStart => exact ⟨1, rfl, by omega, .inr rfl, by rw [← HS0.out]; exact HO.out, HB.out⟩
  case round =>
    obtain ⟨i, rfl, hi1, hi2, hown, hb⟩ := hrel
    have HO2 := Lib.hid hown; have HB2 := Lib.hid hb
    clear hown hb
    by_cases hlt : i < zs.length
    case neg =>
      have HO3 := Lib.hid (show wr.ownsRow w.heap.size 3 1 (.slice (some ⟨g, 0, none⟩) zs.length c) zs.length ((Mg.srtI zs).map (Value.int .i64)) from by
        have := HO2.out
        rw [List.take_of_length_le (by omega), List.drop_of_length_le (by omega), List.append_nil] at this
        exact this)
      have h3 : decide ((i : Int) < (zs.length : Int)) = false := by simp; omega
      go_wp2
      go_ret
      exact ⟨g, c, rfl, HO3.out, HB2.out⟩
    have HI0 := Lib.hid (ins_start hlt)
    have HAL : Hid ((Mg.srtI (zs.take i)).length = i) := by show _ = _; rw [srtI_len, List.length_take]; omega
    have HEND := Lib.hid (fun (k : Nat) (hk : k ≤ i) (hd : ∀ b ∈ (Mg.srtI (zs.take i)).drop k, zs.getD i 0 < b) (hs : 0 < k → ¬ zs.getD i 0 < (Mg.srtI (zs.take i)).getD (k - 1) 0) =>
      (ins_end_int (R := zs.drop (i + 1)) (by rw [List.length_take]; omega) hd hs).trans (by rw [take_snoc hlt]))
    rw [HI0.out] at HO2
    clear HI0
    generalize Mg.srtI (zs.take i) = A at HO2 HAL HEND
    generalize zs.getD i 0 = X at HO2 HEND
    have h3 : decide ((i : Int) < (zs.length : Int)) = true := by simp; omega
    have hile : (i : Int) + 1 ≤ 9223372036854775807 := by omega
    go_wp2
    go_loopw [5] (fun v wq => ∃ k : Nat, v = .int .i64 k ∧ k ≤ i ∧ wq.ownsRow w.heap.size 3 1 (.slice (some ⟨g, 0, none⟩) zs.length c) zs.length ((Mg.insSt A X k (zs.drop (i + 1))).map (Value.int .i64)) ∧ (∀ b ∈ A.drop k, X < b) ∧ Below w.heap.size w wq) (fun v _ => (intOf v).toNat)
    case atStart => exact ⟨i, rfl, by omega, HO2.out, by rw [List.drop_of_length_le (by rw [HAL.out]; omega)]; simp, HB2.out⟩
    case round =>
      obtain ⟨k, rfl, hk, ho, hd, hb⟩ := hrel
      have HO4 := Lib.hid ho; have HB4 := Lib.hid hb; have HD := Lib.hid hd
      clear ho hb hd HO2 HB2
      by_cases hk0 : 0 < k
      case neg =>
        obtain rfl : k = 0 := by omega
        have HE := Lib.hid (HEND.out 0 (by omega) HD.out (fun h => absurd h (by omega)))
        rw [HE.out] at HO4
        rw [show ((0 : Nat) : Int) = 0 from rfl]
        go_wp2_with fail
        go_quiet (fail)
        go_wp2
        go_roundw
        case rel => exact ⟨i + 1, by go_num, by omega, by omega, HO4.out, below_drewN HB4.out _⟩
        case measure => simp [intOf] <;> omega
      obtain ⟨m, rfl⟩ : ∃ m, k = m + 1 := ⟨k - 1, by omega⟩
      have hm : m < A.length := by rw [HAL.out]; omega
      obtain ⟨c1, c2, f1, f2⟩ := own_ins_cellsD hm HO4.out
      have HDR : Hid (A.drop m = A.getD m 0 :: A.drop (m + 1)) := by
        show _ = _
        rw [List.drop_eq_getElem_cons hm, List.getD_eq_getElem?_getD, List.getElem?_eq_getElem hm]; rfl
      have HST := Lib.hid (fun (W : World) (y : Int) (hy : A.getD m 0 = y) (h : W.ownsRow w.heap.size 3 1 (.slice (some ⟨g, 0, none⟩) zs.length c) zs.length ((Mg.insSt A X (m + 1) (zs.drop (i + 1))).map (Value.int .i64))) => own_stepD hm hy h)
      have HE1 := Lib.hid (fun hs => HEND.out (m + 1) hk HD.out hs)
      obtain ⟨Y, hY⟩ : ∃ Y, A.getD m 0 = Y := ⟨_, rfl⟩
      rw [hY] at c1 HDR
      have HY := Lib.hid hY
      clear hY hm
      have hcast : ((m + 1 : Nat) : Int) = (m : Int) + 1 := by omega
      have b1 : (0 : Int) ≤ (m : Int) := by omega
      have b2 : (m : Int) + 1 < (zs.length : Int) := by omega
      have b3 : (m : Int) < (zs.length : Int) := by omega
      have hgw : w.heap.size ≤ g := ((HO4.out.lt g rfl).1)
      by_cases hyx : X < Y
      · have hz : decide (X < Y) = true := by simpa using hyx
        rw [hcast]
        go_wp2_with fail
        go_quiet (fail)
        have HYX := Lib.hid hyx
        have HS5 := Lib.hid (HST.out (wr.drewN nq) Y HY.out HO4.out)
        have HB5 := Lib.hid (below_of_grown (below_drewN HB4.out nq) HB4.out.size HS5.out.2 (fun k hk => by injection hk with hk; omega))
        go_wp2
        go_roundw
        case rel => exact ⟨m, by go_num, by omega, HS5.out.1, by
          rw [HDR.out]
          intro b hb
          rcases List.mem_cons.1 hb with rfl | hb
          · exact HYX.out
          · exact HD.out b hb, HB5.out⟩
        case measure => simp [intOf] <;> omega
      · have hz : decide (X < Y) = false := by simpa using hyx
        have HE := Lib.hid (HE1.out (fun _ => by rw [Nat.add_sub_cancel, HY.out]; omega))
        rw [HE.out] at HO4
        rw [hcast]
        go_wp2_with fail
        go_quiet (fail)
        go_wp2
        go_roundw
        case rel => exact ⟨i + 1, by go_num, by omega, by omega, HO4.out, below_drewN HB4.out _⟩
        case measure => simp [intOf] <;> omega

end Go.Proofs.Ytmolneojjcjooaa
