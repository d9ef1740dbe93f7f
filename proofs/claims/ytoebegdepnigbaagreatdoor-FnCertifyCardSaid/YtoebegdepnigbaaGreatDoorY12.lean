/- Several texts in one: lemmas and walks of the functions that the laws reach. -/
import Derived.Test.YtoebegdepnigbaaGreatDoorY11
import Derived.Test.YtoebegdepnigbaaGreatDoorY2
import Derived.Test.YtoebegdepnigbaaGreatDoorY0
import Derived.Shelf.Strings.OnBuilder
import Derived.Lib.CountLaws
import Derived.Lib.Split
import Derived.Lib.IndexBytes
import Derived.Lib.Atoi
import Derived.Test.YtoebegdepnigbaaGreatDoorY1
import Derived.Lib.AtoiErrMem
import Derived.Test.YtoebegdepnigbaaGreatDoorY10
import Derived.Test.YtoebegdepnigbaaGreatDoorY9

/- Walks on texts: signed numerals by both; joined numerals; 'numbersText' of the program. -/
namespace Go.Proofs.YtoebegdepnigbaaGreatDoor
open Go.RowKit
set_option linter.unusedVariables false

theorem join_snoc (sep y : List UInt8) : ∀ xs : List (List UInt8), Lib.join (xs ++ [y]) sep = (if xs = [] then [] else Lib.join xs sep ++ sep) ++ y
  | [] => by simp [Lib.join_one]
  | x :: r => by
    rw [List.cons_append, Lib.join_cons, Lib.join_cons, if_neg (by simp)]
    simp [Lib.joinTail]
theorem itoa_len (n : Int) (h0 : -9223372036854775808 ≤ n) (h1 : n ≤ 9223372036854775807) : (Lib.itoa n).length ≤ 20 := by
  unfold Lib.itoa
  split
  · have := Tx.digits_len 18 n.natAbs (by omega)
    simp; omega
  · have := Tx.digits_len 18 n.toNat (by omega)
    omega
theorem join_le {m : Nat} (sep : List UInt8) (hs : sep.length ≤ 1) : ∀ {xs : List (List UInt8)}, (∀ x ∈ xs, x.length ≤ m) → (Lib.join xs sep).length ≤ xs.length * (m + 1)
  | [], _ => by simp [Lib.join]
  | [x], h => by have := h x (by simp); rw [Lib.join_one]; simp; omega
  | x :: y :: r, h => by
    have ih := join_le sep hs (xs := y :: r) (fun z hz => h z (List.mem_cons_of_mem _ hz))
    have hx := h x (by simp)
    rw [Lib.join_length] at ih ⊢
    simp only [Lib.lens, List.length_cons, List.map_cons, List.sum_cons] at ih ⊢
    have e : (r.length + 1 + 1) * (m + 1) = (r.length + 1) * (m + 1) + (m + 1) := by rw [Nat.add_mul, Nat.one_mul]
    have e2 : sep.length * (r.length + 1) = sep.length * r.length + sep.length := by rw [Nat.mul_succ]
    omega

theorem itoaI_any (n : Int) (w : World) (h0 : -9223372036854775808 ≤ n) (h1 : n ≤ 9223372036854775807) (ht : Tab w) :
    Calls Tryz.prog 25 #[.int .i64 n] w fun e w' => e = .returned (.string (ba (Lib.itoa n))) ∧ Below w.heap.size w w' :=
  (Tryz.strconv_Itoa n h0 h1 w ht).mono fun e w' ⟨he, k, os, hw⟩ => ⟨he, by rw [hw]; exact Lib.below_grow _ _ (Nat.le_refl _) _ _⟩

theorem below_trI {B : Nat} {w w1 w2 : World} (h : Below B w w1) (hb : Below w1.heap.size w1 w2) (hB : B ≤ w1.heap.size) : Below B w w2 := h.trans (hb.mono hB)
def numB (n : Int) : ByteArray := ba (Lib.itoa n)
theorem numB_size {n : Int} (h0 : -9223372036854775808 ≤ n) (h1 : n ≤ 9223372036854775807) : (numB n).size ≤ 20 := by unfold numB; rw [ba_size]; exact itoa_len n h0 h1
theorem itoaB_any (n : Int) (w : World) (h0 : -1000000 ≤ n) (h1 : n ≤ 1000000) (ht : Tab w) : Calls Tryz.prog 25 #[.int .i64 n] w fun e w' => e = .returned (.string (numB n)) ∧ Below w.heap.size w w' := itoaI_any n w (by omega) (by omega) ht

def numT (sep : UInt8) (zs : List Int) : List UInt8 := if zs = [] then [45] else Lib.join (zs.map Lib.itoa) [sep]
theorem own_strs {w : World} {base g n c : Nat} {xs : List (List UInt8)} (h : w.ownsRow base 9 1 (.slice (some ⟨g, 0, none⟩) n c) n (xs.map strL)) : ∀ (j : Nat) x, (xs.map ba)[j]? = some x → w.cell? ⟨g, 0 + j, none⟩ = some (.string x) := by
  intro j x hx
  have hj := h.cells (g := g) rfl j (.string x) (by rw [List.getElem?_map] at hx ⊢; cases hq : xs[j]? with
    | none => rw [hq] at hx; simp at hx
    | some y => rw [hq] at hx; simp at hx; rw [← hx]; rfl)
  rw [addr_add_zero] at hj
  rw [Nat.zero_add]; exact hj
theorem data_ba (xs : List (List UInt8)) : (xs.map ba).map (·.data.toList) = xs := by
  rw [List.map_map]
  conv => rhs; rw [← List.map_id xs]
  rfl
theorem join_any (g c : Nat) (xs : List (List UInt8)) (sep : UInt8) (w : World) (hn : xs.length ≤ 1000) (hx : ∀ x ∈ xs, x.length ≤ 100) (base : Nat) (h : w.ownsRow base 9 1 (.slice (some ⟨g, 0, none⟩) xs.length c) xs.length (xs.map strL)) :
    Calls Tryz.prog 54 #[.slice (some ⟨g, 0, none⟩) xs.length c, .string ⟨#[sep]⟩] w fun e w' => e = .returned (.string (ba (Lib.join xs [sep]))) ∧ Below w.heap.size w w' := by
  have hl := join_le [sep] (by simp) hx
  have hc : xs.length ≤ c := by
    rcases h.2 with ⟨h2, _⟩ | ⟨g', cap, cur, hv, _, _, hn', _⟩
    · cases h2
    · simp only [Value.slice.injEq] at hv
      obtain ⟨_, _, rfl⟩ := hv
      exact hn'
  have hj := Tryz.strings_Join g 0 c (xs.map ba) ⟨#[sep]⟩ w (own_strs h) (h.lt g rfl).2 (by simp; omega) (by simpa using hc) (by rw [data_ba]; show (Lib.join xs [sep]).length ≤ _; omega)
  rw [data_ba, List.length_map] at hj
  exact hj

theorem itoas_succ {zs : List Int} {k : Nat} (hk : k < zs.length) : (zs.take (k + 1)).map Lib.itoa = (zs.take k).map Lib.itoa ++ [Lib.itoa (zs.getD k 0)] := by
  rw [List.take_add_one, List.map_append]
  simp [List.getD, List.getElem?_eq_getElem hk]

set_option maxRecDepth 100000 in
set_option maxHeartbeats 2000000 in
theorem numbersText_any (a : Option Addr) (c : Nat) (zs : List Int) (sep : UInt8) (w : World) (hl : zs.length ≤ 1000) (hz : ∀ x ∈ zs, -9223372036854775808 ≤ x ∧ x ≤ 9223372036854775807) (ht : Tab w) (h : IntsAt w a zs) :
    Calls Tryz.prog 28 #[.slice a zs.length c, .string ⟨#[sep]⟩] w fun e w' => e = .returned (.string (ba (numT sep zs))) ∧ Below w.heap.size w w' := by
  by_cases h0 : zs = []
  · subst h0
    go_enter Tryz.func28, Tryz.ntmps28
    go_wp2
    go_ret
    exact ⟨rfl, Below.refl _ _⟩
  have hpos : 0 < zs.length := List.length_pos_iff.2 h0
  have HN : Hid (numT sep zs = Lib.join (zs.map Lib.itoa) [sep]) := if_neg h0
  have H := Lib.hid h
  have HT := Lib.hid ht
  have HZ := Lib.hid hz
  have q0 : decide ((zs.length : Int) = 0) = false := decide_eq_false (by omega)
  have E1 := Lib.hid (own_lit (w := w) (e := 9) (size := 1) #[] 0 (by omega) rfl)
  clear h ht hz h0
  go_enter Tryz.func28, Tryz.ntmps28
  go_wp2
  go_loopw [5, 14] (fun v i wr => ∃ k : Nat, k ≤ zs.length ∧ i = .int .i64 k ∧ wr.ownsRow w.heap.size 9 1 v k (((zs.take k).map Lib.itoa).map strL) ∧ Below w.heap.size w wr) (fun _ i _ => zs.length - (intOf i).toNat)
  case atStart => exact ⟨0, by omega, rfl, E1.out, (Below.refl _ _).alloc (Nat.le_refl _) _⟩
  case round =>
    obtain ⟨k, hk, rfl, hown, hb⟩ := hrel
    clear E1
    have HO := Lib.hid hown; clear hown
    have HB := Lib.hid hb; clear hb
    by_cases hlt : k < zs.length
    · have hc1 := (H.out.below (Nat.le_refl _) HB.out).at hlt
      have hxr : -9223372036854775808 ≤ zs.getD k 0 ∧ zs.getD k 0 ≤ 9223372036854775807 := HZ.out _ (by rw [List.getD_eq_getElem?_getD, List.getElem?_eq_getElem hlt]; exact List.getElem_mem hlt)
      have hs := itoas_succ hlt
      obtain ⟨x, hx⟩ : ∃ x, zs.getD k 0 = x := ⟨_, rfl⟩
      rw [hx] at hc1 hxr hs
      have HS := Lib.hid hs; clear hs hx
      have HI := Lib.hid (itoaI_any x wr hxr.1 hxr.2 (HT.out.below HB.out))
      have hn : k + 1 ≤ 1099511627776 := by omega
      obtain ⟨b, off, rfl, hc1⟩ := hc1
      go_wp2_with fail
      refine HI.out.mono ?_
      rintro e w1 ⟨rfl, hb1⟩
      have HO1 := Lib.hid (own_below HO.out (Nat.le_refl _) hb1)
      have HB1 := Lib.hid (below_trI HB.out hb1 HB.out.size)
      have hbs := HB1.out.size
      clear hb1 HO HB
      go_wp2_with (at_builtin; refine wpList_app1 slS rfl (.tmp 18) (.tmp 21) rfl rfl HO1.out [.string (ba (Lib.itoa x))] rfl rfl (by simp) (by simp [Value.oneCell']) hn hbs ?_; intro v' w2 hown2 hg2 ht2)
      have HO2 := Lib.hid hown2
      have HB2 := Lib.hid (below_app HB1.out hbs HO1.out (Nat.le_refl _) hg2)
      clear hown2 hg2 ht2 hbs hn
      go_roundw
      case rel =>
        refine ⟨k + 1, by omega, by go_num, ?_, HB2.out⟩
        rw [HS.out, List.map_append]
        exact HO2.out
      case measure => simp [intOf]; omega
    · obtain rfl : k = zs.length := by omega
      have ho := HO.out
      rw [List.take_length] at ho
      obtain ⟨a', c', rfl⟩ := own_slice ho
      obtain ⟨g, rfl, _⟩ := own_at (i := 0) (x := strL (Lib.itoa (zs.getD 0 0))) ho (by rw [List.map_map, List.getElem?_map, List.getElem?_eq_getElem hpos]; simp [List.getD, List.getElem?_eq_getElem hpos])
      have HJ : Hid _ := Lib.hid (join_any g c' (zs.map Lib.itoa) sep wr (by simpa using hl) (fun x hx => by obtain ⟨n, hn, rfl⟩ := List.mem_map.1 hx; have := itoa_len n (HZ.out n hn).1 (HZ.out n hn).2; omega) w.heap.size (by rw [List.length_map]; exact ho))
      have HJ2 : Hid _ := Lib.hid (by have h := HJ.out; rw [List.length_map] at h; exact h)
      clear ho HO HJ
      go_wp2_with fail
      refine HJ2.out.mono ?_
      rintro e w3 ⟨rfl, hb3⟩
      have HB3 := Lib.hid (below_trI HB.out hb3 HB.out.size)
      clear hb3
      go_wp2
      go_ret
      exact ⟨ret_str (by rw [HN.out]), HB3.out⟩

end Go.Proofs.YtoebegdepnigbaaGreatDoor

/- Plain law of certificates: their text, and what either package reads out of it. -/
namespace Go.Proofs.YtoebegdepnigbaaGreatDoor.Cf
open Go.Proofs.YtoebegdepnigbaaGreatDoor
set_option linter.unusedVariables false

def ordT (cert : List Int) : List UInt8 := if cert = [] then [45] else Lib.join (cert.map Lib.itoa) [44]
def sSorted : List UInt8 := [115, 111, 114, 116, 101, 100, 32]
def sKey : List UInt8 := [32, 107, 101, 121, 32]
def sOrder : List UInt8 := [32, 111, 114, 100, 101, 114, 32]
def headC (n k : Nat) : List UInt8 := sSorted ++ Lib.decDigits n ++ sKey ++ Lib.decDigits k
def bodyC (n k : Nat) (cert : List Int) : List UInt8 := headC n k ++ sOrder ++ ordT cert

theorem itoa_chars (n : Int) : ∀ b ∈ Lib.itoa n, b = 45 ∨ (48 ≤ b.toNat ∧ b.toNat ≤ 57) := by
  intro b hb
  unfold Lib.itoa at hb
  split at hb
  · rcases List.mem_cons.1 hb with h | h
    · exact .inl h
    · exact .inr (Tx.digits_range _ b h)
  · exact .inr (Tx.digits_range _ b hb)
theorem itoa_not (n : Int) (c : UInt8) (h1 : c ≠ 45) (h : c.toNat < 48 ∨ 57 < c.toNat) : c ∉ Lib.itoa n := fun hb => by
  rcases itoa_chars n c hb with e | e
  · exact h1 e
  · omega
theorem mem_join {b : UInt8} (sep : List UInt8) : ∀ {xs : List (List UInt8)}, b ∈ Lib.join xs sep → b ∈ sep ∨ ∃ x ∈ xs, b ∈ x
  | [], h => by simp [Lib.join] at h
  | [x], h => by rw [Lib.join_one] at h; exact .inr ⟨x, by simp, h⟩
  | x :: y :: r, h => by
    rw [show Lib.join (x :: y :: r) sep = x ++ sep ++ Lib.join (y :: r) sep by rw [Lib.join_cons, Lib.join_cons]; simp [Lib.joinTail]] at h
    simp only [List.mem_append] at h
    rcases h with (h | h) | h
    · exact .inr ⟨x, by simp, h⟩
    · exact .inl h
    · rcases mem_join sep h with h | ⟨z, hz, h⟩
      · exact .inl h
      · exact .inr ⟨z, List.mem_cons_of_mem _ hz, h⟩
theorem ordT_not (cert : List Int) (c : UInt8) (h1 : c ≠ 45) (h2 : c ≠ 44) (h : c.toNat < 48 ∨ 57 < c.toNat) : c ∉ ordT cert := by
  intro hb
  unfold ordT at hb
  split at hb
  · simp at hb; exact h1 hb
  · rcases mem_join _ hb with h | ⟨x, hx, h⟩
    · simp at h; exact h2 h
    · obtain ⟨n, _, rfl⟩ := List.mem_map.1 hx
      exact itoa_not n c h1 (by assumption) h
theorem body_no35 (n k : Nat) (cert : List Int) : (35 : UInt8) ∉ bodyC n k cert := by
  intro h
  unfold bodyC headC at h
  simp only [List.mem_append] at h
  rcases h with (((((h | h) | h) | h) | h) | h)
  · revert h; decide
  · exact Tx.digits_not _ _ (by decide) h
  · revert h; decide
  · exact Tx.digits_not _ _ (by decide) h
  · revert h; decide
  · exact ordT_not _ _ (by decide) (by decide) (by decide) h

-- the place of ' order '
theorem index_skip {b : UInt8} {l sub : List UInt8} {i : Nat} (h : sub.isPrefixOf (b :: l) = false) (hi : Lib.index l sub = i) : Lib.index (b :: l) sub = (i + 1 : Nat) := by
  rw [Lib.index, if_neg (by rw [h]; decide), if_neg (by rw [hi]; simp <;> omega), hi]; simp
theorem skip_first {b c : UInt8} {l sub : List UInt8} (h : b ≠ c) : (c :: sub).isPrefixOf (b :: l) = false := by
  rw [List.isPrefixOf]; simp [Ne.symm h]
theorem skip_second {b c d e : UInt8} {l sub : List UInt8} (h : d ≠ e) : (c :: e :: sub).isPrefixOf (b :: d :: l) = false := by
  rw [List.isPrefixOf, List.isPrefixOf]; simp [Ne.symm h]
theorem index_over {l sub : List UInt8} {c : UInt8} : ∀ {p : List UInt8} {i : Nat}, c ∉ p → Lib.index l (c :: sub) = i → Lib.index (p ++ l) (c :: sub) = (p.length + i : Nat)
  | [], i, _, h => by simpa using h
  | b :: p, i, hp, h => by
    have ih := index_over (p := p) (fun m => hp (List.mem_cons_of_mem _ m)) h
    rw [List.cons_append, index_skip (skip_first (fun e => hp (by simp [e]))) ih]
    simp; omega
theorem index_at {l sub : List UInt8} : Lib.index (sub ++ l) sub = 0 := by
  cases h : sub ++ l with
  | nil => cases sub with
    | nil => rfl
    | cons a b => simp at h
  | cons b t => rw [Lib.index, if_pos]; rw [← h]; exact List.isPrefixOf_iff_prefix.2 ⟨l, rfl⟩

theorem digits_cons (k : Nat) : ∃ d t, Lib.decDigits k = d :: t ∧ d ≠ 111 := by
  cases h : Lib.decDigits k with
  | nil => have := Tx.digits_pos k; rw [h] at this; simp at this
  | cons d t =>
    refine ⟨d, t, rfl, fun e => ?_⟩
    have := Tx.digits_range k d (by rw [h]; simp)
    rw [e] at this
    revert this; decide
theorem index_body (n k : Nat) (t : List UInt8) : Lib.index (headC n k ++ sOrder ++ t) sOrder = ((headC n k).length : Nat) := by
  have e0 : Lib.index (sOrder ++ t) sOrder = ((0 : Nat) : Int) := by rw [index_at]; rfl
  have e1 : Lib.index (Lib.decDigits k ++ (sOrder ++ t)) sOrder = ((Lib.decDigits k).length + 0 : Nat) := index_over (c := 32) (Tx.digits_not _ _ (by decide)) e0
  obtain ⟨d, r, hd, hne⟩ := digits_cons k
  have e2 : Lib.index (32 :: (Lib.decDigits k ++ (sOrder ++ t))) sOrder = _ := index_skip (by rw [hd]; exact skip_second hne) e1
  have e3 : Lib.index ([107, 101, 121] ++ (32 :: (Lib.decDigits k ++ (sOrder ++ t)))) sOrder = _ := index_over (c := 32) (by decide) e2
  have e4 : Lib.index (32 :: ([107, 101, 121] ++ (32 :: (Lib.decDigits k ++ (sOrder ++ t))))) sOrder = _ := index_skip (skip_second (by decide)) e3
  have e5 : Lib.index (Lib.decDigits n ++ (32 :: ([107, 101, 121] ++ (32 :: (Lib.decDigits k ++ (sOrder ++ t)))))) sOrder = _ := index_over (c := 32) (Tx.digits_not _ _ (by decide)) e4
  obtain ⟨d', r', hd', hne'⟩ := digits_cons n
  have e6 : Lib.index (32 :: (Lib.decDigits n ++ (32 :: ([107, 101, 121] ++ (32 :: (Lib.decDigits k ++ (sOrder ++ t))))))) sOrder = _ := index_skip (by rw [hd']; exact skip_second hne') e5
  have e7 : Lib.index ([115, 111, 114, 116, 101, 100] ++ (32 :: (Lib.decDigits n ++ (32 :: ([107, 101, 121] ++ (32 :: (Lib.decDigits k ++ (sOrder ++ t)))))))) sOrder = _ := index_over (c := 32) (by decide) e6
  have ee : headC n k ++ sOrder ++ t = [115, 111, 114, 116, 101, 100] ++ (32 :: (Lib.decDigits n ++ (32 :: ([107, 101, 121] ++ (32 :: (Lib.decDigits k ++ (sOrder ++ t))))))) := by
    simp [headC, sSorted, sKey]
  rw [ee, e7]
  simp [headC, sSorted, sKey]
  try omega
theorem cut_body (n k : Nat) (cert : List Int) : (Lib.cut (bodyC n k cert) sOrder).2.1 = ordT cert := by
  unfold bodyC Lib.cut
  rw [index_body, if_pos (by omega)]
  show List.drop _ _ = _
  rw [show ((headC n k).length : Int).toNat + sOrder.length = (headC n k ++ sOrder).length by simp]
  exact List.drop_left

-- the pieces between commas
theorem join_two (x y : List UInt8) (r : List (List UInt8)) : Lib.join (x :: y :: r) [44] = x ++ 44 :: Lib.join (y :: r) [44] := by
  rw [Lib.join_cons, Lib.join_cons]; simp [Lib.joinTail]
theorem index_comma {a : List UInt8} (b : List UInt8) (h : (44 : UInt8) ∉ a) : Lib.index (a ++ 44 :: b) [44] = (a.length : Nat) := by
  rw [Lib.index_one]; exact Tx.indexByte_in b h
theorem split_join : ∀ {xs : List (List UInt8)}, xs ≠ [] → (∀ x ∈ xs, (44 : UInt8) ∉ x) → Lib.split (Lib.join xs [44]) [44] = xs
  | [], h, _ => absurd rfl h
  | [x], _, h => by
    rw [Lib.join_one]; unfold Lib.split
    rw [Lib.count_miss (by rw [Lib.index_one]; exact Tx.indexByte_out (h x (by simp)))]
    rfl
  | x :: y :: r, _, h => by
    have ih := split_join (xs := y :: r) (by simp) (fun z hz => h z (List.mem_cons_of_mem _ hz))
    have hx := index_comma (Lib.join (y :: r) [44]) (h x (by simp))
    rw [join_two]
    unfold Lib.split at ih ⊢
    have hdrop : (x ++ 44 :: Lib.join (y :: r) [44]).drop (x.length + 1) = Lib.join (y :: r) [44] := by simp [List.drop_append]
    rw [Lib.count_hit (by simp) hx]
    simp only [List.length_singleton]
    rw [hdrop, Nat.add_comm 1, Lib.splitK, if_neg (by rw [hx]; simp <;> omega), hx]
    simp only [Int.toNat_natCast, Nat.add_zero, List.length_singleton]
    rw [hdrop, ih]
    simp
theorem splitL_join : ∀ {xs : List (List UInt8)}, xs ≠ [] → (∀ x ∈ xs, (44 : UInt8) ∉ x) → splitL 44 (Lib.join xs [44]) = xs
  | [], h, _ => absurd rfl h
  | [x], _, h => by rw [Lib.join_one]; exact splitL_none (h x (by simp))
  | x :: y :: r, _, h => by
    rw [join_two, splitL_app _ (h x (by simp)), splitL_join (xs := y :: r) (by simp) (fun z hz => h z (List.mem_cons_of_mem _ hz))]
theorem splitL_ne (c : UInt8) (s : List UInt8) : splitL c s ≠ [] := by
  cases s with
  | nil => simp [splitL]
  | cons x t => unfold splitL; split; · simp
                · split <;> simp
theorem splitL_mid (c : UInt8) (b : List UInt8) : ∀ a : List UInt8, splitL c (a ++ c :: b) = splitL c a ++ splitL c b
  | [] => by simp [splitL]
  | x :: t => by
    rw [List.cons_append, splitL, splitL, splitL_mid c b t]
    split
    · rfl
    · cases hs : splitL c t with
      | nil => exact absurd hs (splitL_ne c t)
      | cons h r => rfl
theorem splitL_last {c : UInt8} (a : List UInt8) {b : List UInt8} (h : c ∉ b) : ∃ r, splitL c (a ++ c :: b) = r ++ [b] := ⟨splitL c a, by rw [splitL_mid, splitL_none h]⟩

-- the text as a whole
def textC (n k : Nat) (cert : List Int) : List UInt8 := Tx.sealL (bodyC n k cert)
theorem text_eq (n k : Nat) (cert : List Int) : textC n k cert = bodyC n k cert ++ 35 :: Lib.decDigits (Tx.sumL (bodyC n k cert)) := rfl
theorem upto_text (n k : Nat) (cert : List Int) : Tx.upto 35 (textC n k cert) = bodyC n k cert := by
  rw [text_eq]; exact Tx.upto_app _ (body_no35 n k cert)
theorem last_text (n k : Nat) (cert : List Int) : ∃ r, splitL 32 (textC n k cert) = r ++ [ordT cert ++ 35 :: Lib.decDigits (Tx.sumL (bodyC n k cert))] := by
  have e : textC n k cert = (headC n k ++ [32, 111, 114, 100, 101, 114]) ++ 32 :: (ordT cert ++ 35 :: Lib.decDigits (Tx.sumL (bodyC n k cert))) := by
    rw [text_eq]; simp [bodyC, sOrder]
  rw [e]
  refine splitL_last _ fun h => ?_
  rcases List.mem_append.1 h with h | h
  · exact ordT_not cert 32 (by decide) (by decide) (by decide) h
  · rcases List.mem_cons.1 h with h | h
    · revert h; decide
    · exact Tx.digits_not _ 32 (by decide) h
theorem head_last (cert : List Int) (m : Nat) : ∃ r, splitL 35 (ordT cert ++ 35 :: Lib.decDigits m) = ordT cert :: r :=
  ⟨_, splitL_app _ (ordT_not cert 35 (by decide) (by decide) (by decide))⟩
theorem pieces_ord {cert : List Int} (h : cert ≠ []) : splitL 44 (ordT cert) = cert.map Lib.itoa := by
  unfold ordT; rw [if_neg h]
  refine splitL_join (by simpa using h) fun x hx => ?_
  obtain ⟨n, _, rfl⟩ := List.mem_map.1 hx
  exact itoa_not n 44 (by decide) (by decide)
theorem split_ord {cert : List Int} (h : cert ≠ []) : Lib.split (ordT cert) [44] = cert.map Lib.itoa := by
  unfold ordT; rw [if_neg h]
  refine split_join (by simpa using h) fun x hx => ?_
  obtain ⟨n, _, rfl⟩ := List.mem_map.1 hx
  exact itoa_not n 44 (by decide) (by decide)
theorem ord_bar {cert : List Int} (h0 : ∀ x ∈ cert, 0 ≤ x) : ordT cert = [45] ↔ cert = [] := by
  constructor
  · intro h
    cases cert with
    | nil => rfl
    | cons x r =>
      exfalso
      have hx := h0 x (by simp)
      have e : ordT (x :: r) = Lib.itoa x ++ Lib.joinTail [44] (r.map Lib.itoa) := by unfold ordT; rw [if_neg (by simp), List.map_cons, Lib.join_cons]
      rw [e] at h
      have hi : Lib.itoa x = Lib.decDigits x.toNat := by unfold Lib.itoa; rw [if_neg (by omega)]
      rw [hi] at h
      obtain ⟨d, t, hd, _⟩ := digits_cons x.toNat
      have hr := Tx.digits_range x.toNat d (by rw [hd]; simp)
      rw [hd] at h
      injection h with h _
      rw [h] at hr
      revert hr; decide
  · rintro rfl; rfl

-- a numeral is read back
theorem decFrom_app : ∀ (l : List UInt8) (r : List UInt8) (acc m : Nat), Lib.decFrom acc l = some m → Lib.decFrom acc (l ++ r) = Lib.decFrom m r
  | [], r, acc, m, h => by simp only [Lib.decFrom] at h; injection h with h; rw [h]; rfl
  | b :: l, r, acc, m, h => by
    rw [List.cons_append]
    rw [Lib.decFrom] at h
    rw [Lib.decFrom.eq_2]
    cases hb : Lib.digitVal b with
    | none => rw [hb] at h; simp at h
    | some d => rw [hb] at h; simp only at h ⊢; exact decFrom_app l r _ m h
theorem decFrom_digits (u : Nat) : Lib.decFrom 0 (Lib.decDigits u) = some u := by
  induction u using Nat.strongRecOn with
  | _ u ih =>
    rw [Lib.decDigits]
    split
    · rename_i h
      have e : (UInt8.ofNat (48 + u)).toNat = 48 + u := by rw [UInt8.toNat_ofNat']; omega
      simp only [Lib.decFrom, Lib.digitVal, e]
      rw [if_pos (by omega)]; simp
    · rename_i h
      have h1 := ih (u / 10) (by omega)
      rw [decFrom_app _ _ _ _ h1]
      have e : (UInt8.ofNat (48 + u % 10)).toNat = 48 + u % 10 := by rw [UInt8.toNat_ofNat']; omega
      simp only [Lib.decFrom, Lib.digitVal, e]
      rw [if_pos (by omega)]; simp; omega
theorem atoi_digits (u : Nat) : Lib.atoi (Lib.decDigits u) = some (u : Int) := by
  obtain ⟨d, t, hd, _⟩ := digits_cons u
  have hr := Tx.digits_range u d (by rw [hd]; simp)
  have h := decFrom_digits u
  rw [hd] at h ⊢
  have n1 : ¬ (d == 45) = true := by intro e; rw [beq_iff_eq.1 e] at hr; revert hr; decide
  have n2 : ¬ (d == 43) = true := by intro e; rw [beq_iff_eq.1 e] at hr; revert hr; decide
  show (if (d == 45) = true then _ else if (d == 43) = true then _ else _) = _
  rw [if_neg n1, if_neg n2]
  simp [Lib.decNat, h]

theorem itoa_inj {a b : Int} (ha : 0 ≤ a) (hb : 0 ≤ b) (h : Lib.itoa a = Lib.itoa b) : a = b := by
  unfold Lib.itoa at h
  rw [if_neg (by omega), if_neg (by omega)] at h
  have h1 := atoi_digits a.toNat
  rw [h, atoi_digits] at h1
  injection h1 with h1
  omega
theorem map_itoa_inj : ∀ {a b : List Int}, (∀ x ∈ a, 0 ≤ x) → (∀ x ∈ b, 0 ≤ x) → a.map Lib.itoa = b.map Lib.itoa → a = b
  | [], [], _, _, _ => rfl
  | [], y :: r, _, _, h => by simp at h
  | x :: l, [], _, _, h => by simp at h
  | x :: l, y :: r, ha, hb, h => by
    simp only [List.map_cons, List.cons.injEq] at h
    rw [itoa_inj (ha x (by simp)) (hb y (by simp)) h.1, map_itoa_inj (fun z hz => ha z (List.mem_cons_of_mem _ hz)) (fun z hz => hb z (List.mem_cons_of_mem _ hz)) h.2]
theorem ordT_inj {a b : List Int} (ha : ∀ x ∈ a, 0 ≤ x) (hb : ∀ x ∈ b, 0 ≤ x) (h : ordT a = ordT b) : a = b := by
  by_cases h0 : a = []
  · have := (ord_bar ha).2 h0
    rw [h] at this
    rw [h0, (ord_bar hb).1 this]
  · have h1 : b ≠ [] := fun e => h0 ((ord_bar ha).1 (by rw [h, (ord_bar hb).2 e]))
    have e1 := pieces_ord h0
    rw [h, pieces_ord h1] at e1
    exact (map_itoa_inj hb ha e1).symm
theorem text_inj {n k : Nat} {a b : List Int} (ha : ∀ x ∈ a, 0 ≤ x) (hb : ∀ x ∈ b, 0 ≤ x) (h : textC n k a = textC n k b) : a = b := by
  have e := upto_text n k a
  rw [h, upto_text] at e
  have e2 := cut_body n k a
  rw [← e, cut_body] at e2
  exact (ordT_inj hb ha e2).symm
theorem body_len {n k : Nat} (hn : n < 1000000) (hk : k < 1000000) {cs : List Int} (h : (ordT cs).length ≤ 1400) : (bodyC n k cs).length ≤ 3000 := by
  have h1 := Tx.digits_len 5 n (by omega)
  have h2 := Tx.digits_len 5 k (by omega)
  unfold bodyC headC sSorted sKey sOrder
  simp only [List.length_append, List.length_cons, List.length_nil]
  omega

end Go.Proofs.YtoebegdepnigbaaGreatDoor.Cf

/- Walks: numbers out of texts, checksums verified, by the program. -/
namespace Go.Proofs.YtoebegdepnigbaaGreatDoor
open Go.RowKit
set_option linter.unusedVariables false

/-- What is asked of the package-level variables. -/
structure Env (w : World) : Prop where
  tab : Tab w
  mx : ∃ m, w.cell? ⟨0, 0, none⟩ = some (.int .i64 m)
  sy : ∃ t p, w.cell? ⟨2, 0, none⟩ = some (.iface t p)
theorem Env.below {w w' : World} (h : Env w) (hb : Below w.heap.size w w') : Env w' := by
  obtain ⟨m, hm⟩ := h.mx
  obtain ⟨t, p, hs⟩ := h.sy
  exact ⟨h.tab.below hb, ⟨m, (bcell hb (World.block_lt_of_cell? w _ hm)).trans hm⟩, ⟨t, p, (bcell hb (World.block_lt_of_cell? w _ hs)).trans hs⟩⟩

set_option maxHeartbeats 400000 in
theorem formatInt_any (n : Int) (w : World) (ht : Tab w) :
    Calls Tryz.prog 58 #[.int .i64 n] w fun e w' => e = .returned (.tuple #[.string (if inB n (-999999) 999999 then numB n else ⟨#[]⟩), .bool (inB n (-999999) 999999)]) ∧ Below w.heap.size w w' := by
  have HI := Lib.hid (fun w => in_any n (-999999) 999999 w)
  have HB := Lib.hid (fun (h : inB n (-999999) 999999 = true) => itoaB_any n w (by simp only [inB, Bool.and_eq_true, decide_eq_true_eq] at h; omega) (by simp only [inB, Bool.and_eq_true, decide_eq_true_eq] at h; omega) ht)
  cases h : inB n (-999999) 999999
  all_goals rw [h] at HI
  case false =>
    clear h
    go_enter Tryz.func58, Tryz.ntmps58
    go_wp2_with fail
    refine (HI.out _).mono ?_
    rintro e w1 ⟨rfl, rfl⟩
    go_wp2
    go_ret2
    exact ⟨rfl, Below.refl _ _⟩
  have HC := Lib.hid (HB.out h)
  clear h
  go_enter Tryz.func58, Tryz.ntmps58
  go_wp2_with fail
  refine (HI.out _).mono ?_
  rintro e w1 ⟨rfl, rfl⟩
  go_wp2_with fail
  refine HC.out.mono ?_
  rintro e w1 ⟨rfl, hb⟩
  have HB1 := Lib.hid hb; clear hb
  go_wp2
  go_ret2
  exact ⟨rfl, HB1.out⟩

/-- What reading a number says. -/
def RdNum (s : ByteArray) (n : Int) (ok : Bool) : Prop := (-999999 ≤ n ∧ n ≤ 999999) ∧ ∀ k : Nat, k ≤ 999999 → bs s = Lib.decDigits k → n = k ∧ ok = true
theorem atoi_err_any (s : ByteArray) (w : World) (hl : s.size ≤ 18) (h : Lib.atoi (bs s) = none) (he : Env w) :
    Calls Tryz.prog 57 #[.string s] w fun e w' => ∃ t p, e = .returned (.tuple #[.int .i64 0, .iface t p]) ∧ Below w.heap.size w w' := by
  obtain ⟨t, p, hs⟩ := he.sy
  refine (Tryz.strconv_Atoi_err s hl h _ w hs (.inr ⟨t, p, rfl⟩)).mono ?_
  rintro e w' ⟨N, rfl, _, _, hb⟩
  exact ⟨_, _, rfl, hb⟩
theorem atoi_ok_any (s : ByteArray) (n : Int) (w : World) (hl : s.size ≤ 18) (h : Lib.atoi (bs s) = some n) :
    Calls Tryz.prog 57 #[.string s] w fun e w' => e = .returned (.tuple #[.int .i64 n, .nilIface]) ∧ Below w.heap.size w w' := by
  refine (Tryz.strconv_Atoi s n hl h w).mono ?_
  rintro e w' ⟨rfl, t, rfl⟩
  exact ⟨rfl, Lib.bytesWorld_below _ _ _⟩

def PiEnd (s : ByteArray) (w : World) (e : Ending) (w' : World) : Prop := ∃ (n : Int) (ok : Bool), e = .returned (.tuple #[.int .i64 n, .bool ok]) ∧ RdNum s n ok ∧ Below w.heap.size w w'
set_option maxRecDepth 100000 in
set_option maxHeartbeats 2000000 in
theorem parseInt_any (s : ByteArray) (w : World) (he : Env w) :
    Calls Tryz.prog 32 #[.string s] w (PiEnd s w) := by
  by_cases hs : s.size ≤ 7
  case neg =>
    have HR : Hid (RdNum s 0 false) := ⟨by omega, fun k hk hd => by
      have := Tx.digits_len 5 k (by omega)
      rw [← hd, bs_len] at this; omega⟩
    have q : decide ((7 : Int) < (s.size : Int)) = true := decide_eq_true (by omega)
    go_enter Tryz.func32, Tryz.ntmps32
    go_wp2
    go_ret2
    exact ⟨0, false, rfl, HR.out, Below.refl _ _⟩
  have q : decide ((7 : Int) < (s.size : Int)) = false := decide_eq_false (by omega)
  have HE := Lib.hid he
  cases ha : Lib.atoi (bs s) with
  | none =>
    have HR : Hid (RdNum s 0 false) := ⟨by omega, fun k hk hd => by
      have := Cf.atoi_digits k
      rw [← hd, ha] at this; cases this⟩
    have HA := Lib.hid (atoi_err_any s w (by omega) ha he)
    have HF := Lib.hid (fun w ht => formatInt_any 0 w ht)
    clear ha he
    go_enter Tryz.func32, Tryz.ntmps32
    go_wp2_with fail
    refine HA.out.mono ?_
    rintro e w1 ⟨t, p, rfl, hb⟩
    have HB := Lib.hid hb
    have HT := Lib.hid (HE.out.tab.below hb)
    clear hb
    go_wp2_with fail
    refine (HF.out _ HT.out).mono ?_
    rintro e w2 ⟨rfl, hb⟩
    have HB2 := Lib.hid (below_trI HB.out hb HB.out.size)
    clear hb
    go_wp2
    go_ret2
    exact ⟨0, false, rfl, HR.out, HB2.out⟩
  | some n =>
    have HA := Lib.hid (atoi_ok_any s n w (by omega) ha)
    have HF := Lib.hid (fun w ht => formatInt_any n w ht)
    cases hin : inB n (-999999) 999999
    all_goals rw [hin] at HF
    case false =>
      have HR : Hid (RdNum s 0 false) := ⟨by omega, fun k hk hd => by
        have := Cf.atoi_digits k
        rw [← hd, ha] at this
        injection this with this
        subst this
        simp [inB] at hin; omega⟩
      clear ha he hin
      go_enter Tryz.func32, Tryz.ntmps32
      go_wp2_with fail
      refine HA.out.mono ?_
      rintro e w1 ⟨rfl, hb⟩
      have HB := Lib.hid hb
      have HT := Lib.hid (HE.out.tab.below hb)
      clear hb
      go_wp2_with fail
      refine (HF.out _ HT.out).mono ?_
      rintro e w2 ⟨rfl, hb⟩
      have HB2 := Lib.hid (below_trI HB.out hb HB.out.size)
      clear hb
      go_wp2
      go_ret2
      exact ⟨0, false, rfl, HR.out, HB2.out⟩
    have hrng : -999999 ≤ n ∧ n ≤ 999999 := by simp only [inB, Bool.and_eq_true, decide_eq_true_eq] at hin; omega
    have HRt : Hid (((numB n).toList == s.toList) = true → RdNum s n true) := fun hq => ⟨hrng, fun k hk hd => by
      have := Cf.atoi_digits k
      rw [← hd, ha] at this
      injection this with this
      exact ⟨this, rfl⟩⟩
    have HRf : Hid (((numB n).toList == s.toList) = false → RdNum s 0 false) := fun hq => ⟨by omega, fun k hk hd => by
      exfalso
      have := Cf.atoi_digits k
      rw [← hd, ha] at this
      injection this with this
      have e : numB n = s := by
        unfold numB
        rw [← ba_bs s, hd, this, itoa_nat]
      rw [e] at hq
      simp at hq⟩
    clear ha he hin hrng
    cases hq : ((numB n).toList == s.toList)
    case false =>
      have HR := Lib.hid (HRf.out hq)
      have hq2 : (!((numB n).toList == s.toList)) = true := by rw [hq]; rfl
      clear HRt HRf
      go_enter Tryz.func32, Tryz.ntmps32
      go_wp2_with fail
      refine HA.out.mono ?_
      rintro e w1 ⟨rfl, hb⟩
      have HB := Lib.hid hb
      have HT := Lib.hid (HE.out.tab.below hb)
      clear hb
      go_wp2_with fail
      refine (HF.out _ HT.out).mono ?_
      rintro e w2 ⟨rfl, hb⟩
      have HB2 := Lib.hid (below_trI HB.out hb HB.out.size)
      clear hb
      go_wp2
      go_ret2
      exact ⟨0, false, rfl, HR.out, HB2.out⟩
    · have HR := Lib.hid (HRt.out hq)
      have hq2 : (!((numB n).toList == s.toList)) = false := by rw [hq]; rfl
      clear HRt HRf
      go_enter Tryz.func32, Tryz.ntmps32
      go_wp2_with fail
      refine HA.out.mono ?_
      rintro e w1 ⟨rfl, hb⟩
      have HB := Lib.hid hb
      have HT := Lib.hid (HE.out.tab.below hb)
      clear hb
      go_wp2_with fail
      refine (HF.out _ HT.out).mono ?_
      rintro e w2 ⟨rfl, hb⟩
      have HB2 := Lib.hid (below_trI HB.out hb HB.out.size)
      clear hb
      go_wp2
      go_ret2
      exact ⟨n, true, rfl, HR.out, HB2.out⟩

set_option maxHeartbeats 400000 in
theorem checksum_big (s : ByteArray) (w : World) (hs : ¬ s.size ≤ 4000) :
    Calls Tryz.prog 52 #[.string s] w fun e w' => e = .returned (.tuple #[.int .i64 0, .bool false]) ∧ w = w' := by
  have q : decide ((4000 : Int) < (s.size : Int)) = true := decide_eq_true (by omega)
  go_enter Tryz.func52, Tryz.ntmps52
  go_wp2
  go_ret2
  exact ⟨rfl, rfl⟩

/-- 'AppendChecksum' of any text without the sign. -/
def acOk (s : ByteArray) : Bool := decide (s.size ≤ 4000) && decide ((Tx.sealL (bs s)).length ≤ 4000)
def acV (s : ByteArray) : ByteArray := if acOk s then ba (Tx.sealL (bs s)) else ⟨#[]⟩
set_option maxRecDepth 100000 in
set_option maxHeartbeats 2000000 in
theorem appendChecksum_any (s : ByteArray) (w : World) (hs : s.size ≤ 4000000) (hn : (35 : UInt8) ∉ bs s) (ht : Tab w) :
    Calls Tryz.prog 27 #[.string s] w fun e w' => e = .returned (.tuple #[.string (acV s), .bool (acOk s)]) ∧ Below w.heap.size w w' := by
  have e4 : decide (0 ≤ Lib.indexByte s.data.toList 35) = false := by
    rw [show decide (0 ≤ Lib.indexByte s.data.toList 35) = decide ((35 : UInt8) ∈ bs s) from Tx.indexByte_mem 35 (bs s)]; exact decide_eq_false hn
  have hc := fun w => Tryz.strings_Contains_one s 35 w
  rw [e4] at hc
  have HC := Lib.hid hc; clear hc e4
  have h35 : (ByteArray.mk #[35]).size = 1 := rfl
  have a1 := add_runs (P := Tryz.prog) (a := s) (b := ⟨#[35]⟩) (by omega) (by decide)
  by_cases hbig : s.size ≤ 4000
  case neg =>
    have HS := Lib.hid (checksum_big s w hbig)
    have HN := Lib.hid (itoaB_any 0 w (by omega) (by omega) ht)
    have h20 : (numB 0).size ≤ 20 := numB_size (by omega) (by omega)
    have a2 := add_runs (P := Tryz.prog) (a := s ++ ⟨#[35]⟩) (b := numB 0) (by rw [size_add]; omega) (by omega)
    have HE : Hid (acOk s = false ∧ acV s = ⟨#[]⟩) := by
      have e : acOk s = false := by unfold acOk; rw [decide_eq_false hbig]; rfl
      exact ⟨e, by unfold acV; rw [e]; rfl⟩
    clear h35 hbig
    go_enter Tryz.func27, Tryz.ntmps27
    go_wp2_with fail
    refine HS.out.mono ?_
    rintro e w' ⟨rfl, rfl⟩
    go_wp2_with fail
    refine HN.out.mono ?_
    rintro e w1 ⟨rfl, hb⟩
    have HB := Lib.hid hb; clear hb
    go_wp2
    go_ret2
    exact ⟨ret_v2 (by rw [HE.out.2] <;> rfl) (by rw [HE.out.1] <;> rfl), HB.out⟩
  have h1 := Tx.sumL_lt (bs s)
  have HS := Lib.hid (checksum_ok s w hbig)
  have HN := Lib.hid (itoaB_any (Tx.sumL (bs s) : Nat) w (by omega) (by omega) ht)
  have h20 : (numB (Tx.sumL (bs s) : Nat)).size ≤ 20 := numB_size (by omega) (by omega)
  have a2 := add_runs (P := Tryz.prog) (a := s ++ ⟨#[35]⟩) (b := numB (Tx.sumL (bs s) : Nat)) (by rw [size_add]; omega) (by omega)
  obtain ⟨t, ht'⟩ : ∃ t : ByteArray, s ++ ⟨#[35]⟩ ++ numB (Tx.sumL (bs s) : Nat) = t := ⟨_, rfl⟩
  have hbt : bs t = Tx.sealL (bs s) := by
    rw [← ht', bs_add, bs_add]
    show bs s ++ [35] ++ Lib.itoa ((Tx.sumL (bs s) : Nat) : Int) = bs s ++ 35 :: Lib.decDigits (Tx.sumL (bs s))
    rw [itoa_nat]; simp
  rw [ht'] at a2
  have HA : Hid (acOk s = decide (t.size ≤ 4000)) := by
    show _ = _
    unfold acOk
    rw [decide_eq_true hbig, ← hbt, bs_len]; rfl
  have HV : Hid (t.size ≤ 4000 → acV s = t) := fun h => by
    unfold acV
    rw [HA.out, decide_eq_true h, if_pos rfl, ← hbt, ba_bs]
  have HV0 : Hid (¬ t.size ≤ 4000 → acV s = ⟨#[]⟩) := fun h => by
    unfold acV
    rw [HA.out, decide_eq_false h]; rfl
  clear h35 ht' hbt h1
  by_cases hq : t.size ≤ 4000
  · have q : decide ((4000 : Int) < (t.size : Int)) = false := decide_eq_false (by omega)
    have HA2 : Hid (acOk s = true) := HA.out.trans (decide_eq_true hq)
    have HV2 := Lib.hid (HV.out hq)
    clear HV HV0 HA
    go_enter Tryz.func27, Tryz.ntmps27
    go_wp2_with fail
    refine HS.out.mono ?_
    rintro e w' ⟨rfl, rfl⟩
    go_wp2_with fail
    refine HN.out.mono ?_
    rintro e w1 ⟨rfl, hb⟩
    have HB := Lib.hid hb; clear hb
    go_wp2_with fail
    refine (HC.out _).mono ?_
    rintro e w' ⟨rfl, rfl⟩
    go_wp2
    go_ret2
    exact ⟨ret_v2 (by rw [HV2.out] <;> rfl) (by rw [HA2.out] <;> rfl), HB.out⟩
  · have q : decide ((4000 : Int) < (t.size : Int)) = true := decide_eq_true (by omega)
    have HA2 : Hid (acOk s = false) := HA.out.trans (decide_eq_false hq)
    have HV2 := Lib.hid (HV0.out hq)
    clear HV HV0 HA
    go_enter Tryz.func27, Tryz.ntmps27
    go_wp2_with fail
    refine HS.out.mono ?_
    rintro e w' ⟨rfl, rfl⟩
    go_wp2_with fail
    refine HN.out.mono ?_
    rintro e w1 ⟨rfl, hb⟩
    have HB := Lib.hid hb; clear hb
    go_wp2_with fail
    refine (HC.out _).mono ?_
    rintro e w' ⟨rfl, rfl⟩
    go_wp2
    go_ret2
    exact ⟨ret_v2 (by rw [HV2.out] <;> rfl) (by rw [HA2.out] <;> rfl), HB.out⟩

theorem cut_any (s sep : ByteArray) (w : World) (hs : s.size ≤ 4000000) (he : Env w) :
    Calls Tryz.prog 30 #[.string s, .string sep] w fun e w' => e = .returned (.tuple #[.string (ba (Lib.cut (bs s) (bs sep)).1), .string (ba (Lib.cut (bs s) (bs sep)).2.1), .bool (Lib.cut (bs s) (bs sep)).2.2]) ∧ Below w.heap.size w w' := by
  obtain ⟨m, hm⟩ := he.mx
  refine (Tryz.strings_Cut s sep m w (by omega) hm).mono ?_
  rintro e w' ⟨rfl, n, rfl⟩
  exact ⟨rfl, below_drewN (Below.refl _ _) _⟩

/-- What verifying a checksum says. -/
def Vf (s t : ByteArray) (ok : Bool) : Prop := t.size ≤ s.size ∧ ∀ l : List UInt8, (35 : UInt8) ∉ l → l.length ≤ 3000 → bs s = Tx.sealL l → bs t = l ∧ ok = true
def VcEnd (s : ByteArray) (w : World) (e : Ending) (w' : World) : Prop := ∃ (t : ByteArray) (ok : Bool), e = .returned (.tuple #[.string t, .bool ok]) ∧ Vf s t ok ∧ Below w.heap.size w w'
set_option maxRecDepth 100000 in
set_option maxHeartbeats 2000000 in
theorem verifyChecksum_any (s : ByteArray) (w : World) (hs : s.size ≤ 4000000) (he : Env w) :
    Calls Tryz.prog 29 #[.string s] w (VcEnd s w) := by
  have hcut : (Lib.cut (bs s) (bs ⟨#[35]⟩)).1 = Tx.upto 35 (bs s) := by
    show (Lib.cut (bs s) [35]).1 = _
    rw [Tx.cut_one]
  have HCU := Lib.hid (cut_any s ⟨#[35]⟩ w hs he)
  rw [hcut] at HCU
  have hn35 : (35 : UInt8) ∉ bs (ba (Tx.upto 35 (bs s))) := Tx.upto_not 35 (bs s)
  have hle : (ba (Tx.upto 35 (bs s))).size ≤ s.size := by rw [ba_size, ← bs_len]; exact Tx.upto_len 35 (bs s)
  have HU : Hid (∀ l : List UInt8, (35 : UInt8) ∉ l → bs s = Tx.sealL l → bs (ba (Tx.upto 35 (bs s))) = l) := fun l h1 h2 => by
    show Tx.upto 35 (bs s) = l
    rw [h2]; exact Tx.upto_app _ h1
  obtain ⟨t, ht⟩ : ∃ t, ba (Tx.upto 35 (bs s)) = t := ⟨_, rfl⟩
  rw [ht] at HCU hn35 hle HU
  generalize ba (Lib.cut (bs s) (bs ⟨#[35]⟩)).2.1 = u at HCU
  generalize (Lib.cut (bs s) (bs ⟨#[35]⟩)).2.2 = fd at HCU
  have HAC := Lib.hid (fun w ht => appendChecksum_any t w (by omega) hn35 ht)
  have HE := Lib.hid he
  have HG : Hid (∀ l : List UInt8, (35 : UInt8) ∉ l → l.length ≤ 3000 → bs s = Tx.sealL l → acOk t = true ∧ acV t = s) := fun l h1 h2 h3 => by
    have hb := HU.out l h1 h3
    have hl : (Tx.sealL l).length ≤ 4000 := by
      have := Tx.digits_len 5 (Tx.sumL l) (Nat.lt_trans (Tx.sumL_lt _) (by omega))
      unfold Tx.sealL
      simp only [List.length_append, List.length_cons]
      omega
    have e : acOk t = true := by
      unfold acOk
      rw [hb, decide_eq_true hl, decide_eq_true (show t.size ≤ 4000 by rw [← bs_len, hb]; omega)]; rfl
    exact ⟨e, by unfold acV; rw [e, if_pos rfl, hb, ← h3, ba_bs]⟩
  clear hcut hn35 ht he
  obtain ⟨v, hv⟩ : ∃ v, acV t = v := ⟨_, rfl⟩
  rw [hv] at HAC HG
  cases hok : acOk t
  all_goals rw [hok] at HAC HG
  case false =>
    have HR : Hid (Vf s ⟨#[]⟩ false) := ⟨Nat.zero_le _, fun l h1 h2 h3 => by have := (HG.out l h1 h2 h3).1; cases this⟩
    clear hv hok HG
    go_enter Tryz.func29, Tryz.ntmps29
    go_wp2_with fail
    refine HCU.out.mono ?_
    rintro e w1 ⟨rfl, hb⟩
    have HB := Lib.hid hb
    have HT := Lib.hid (HE.out.tab.below hb)
    clear hb
    go_wp2_with fail
    refine (HAC.out _ HT.out).mono ?_
    rintro e w2 ⟨rfl, hb⟩
    have HB2 := Lib.hid (below_trI HB.out hb HB.out.size)
    clear hb
    go_wp2
    go_ret2
    exact ⟨_, _, rfl, HR.out, HB2.out⟩
  cases hq : (v.toList == s.toList)
  case false =>
    have HR : Hid (Vf s ⟨#[]⟩ false) := ⟨Nat.zero_le _, fun l h1 h2 h3 => by
      have := (HG.out l h1 h2 h3).2
      rw [this] at hq; simp at hq⟩
    have hq2 : (!(v.toList == s.toList)) = true := by rw [hq]; rfl
    clear hv hok HG
    go_enter Tryz.func29, Tryz.ntmps29
    go_wp2_with fail
    refine HCU.out.mono ?_
    rintro e w1 ⟨rfl, hb⟩
    have HB := Lib.hid hb
    have HT := Lib.hid (HE.out.tab.below hb)
    clear hb
    go_wp2_with fail
    refine (HAC.out _ HT.out).mono ?_
    rintro e w2 ⟨rfl, hb⟩
    have HB2 := Lib.hid (below_trI HB.out hb HB.out.size)
    clear hb
    go_wp2
    go_ret2
    exact ⟨_, _, rfl, HR.out, HB2.out⟩
  have HR : Hid (Vf s t true) := ⟨hle, fun l h1 h2 h3 => ⟨HU.out l h1 h3, rfl⟩⟩
  have hq2 : (!(v.toList == s.toList)) = false := by rw [hq]; rfl
  clear hv hok HG
  go_enter Tryz.func29, Tryz.ntmps29
  go_wp2_with fail
  refine HCU.out.mono ?_
  rintro e w1 ⟨rfl, hb⟩
  have HB := Lib.hid hb
  have HT := Lib.hid (HE.out.tab.below hb)
  clear hb
  go_wp2_with fail
  refine (HAC.out _ HT.out).mono ?_
  rintro e w2 ⟨rfl, hb⟩
  have HB2 := Lib.hid (below_trI HB.out hb HB.out.size)
  clear hb
  go_wp2
  go_ret2
  exact ⟨_, _, rfl, HR.out, HB2.out⟩

end Go.Proofs.YtoebegdepnigbaaGreatDoor

/- Walks: copies of integer lists; the comparison of two integer lists. -/
namespace Go.Proofs.YtoebegdepnigbaaGreatDoor
open Go.RowKit
set_option linter.unusedVariables false

end Go.Proofs.YtoebegdepnigbaaGreatDoor

/- Walks: fingerprints; copies of integer lists; the comparison of two integer lists. -/
namespace Go.Proofs.YtoebegdepnigbaaGreatDoor
open Go.RowKit
set_option linter.unusedVariables false

def fpD (p x : Int) : Int := (p - x) % 999983
def fpStep (p acc x : Int) : Int := acc * fpD p x % 999983
def fprint (zs : List Int) (p : Int) : Int := zs.foldl (fpStep p) 1

theorem fprint_bound (p : Int) (zs : List Int) : 0 ≤ fprint zs p ∧ fprint zs p ≤ 999982 := by
  have : ∀ (zs : List Int) (a : Int), 0 ≤ a ∧ a ≤ 999982 → 0 ≤ zs.foldl (fpStep p) a ∧ zs.foldl (fpStep p) a ≤ 999982 := by
    intro zs
    induction zs with
    | nil => intro a h; exact h
    | cons x r ih => intro a _; exact ih _ (by unfold fpStep; omega)
  exact this zs 1 (by omega)

theorem fprint_succ {zs : List Int} {k : Nat} (hk : k < zs.length) (p : Int) : fprint (zs.take (k + 1)) p = fprint (zs.take k) p * fpD p (zs.getD k 0) % 999983 := by
  unfold fprint
  rw [List.take_add_one, List.foldl_append]
  simp [fpStep, List.getD, List.getElem?_eq_getElem hk]

theorem mul_bound {a d : Int} (h0 : 0 ≤ a) (h1 : a ≤ 999982) (h2 : 0 ≤ d) (h3 : d ≤ 999982) : 0 ≤ a * d ∧ a * d ≤ 999964000324 := by
  constructor
  · exact Int.mul_nonneg h0 h2
  · have : a * d ≤ 999982 * 999982 := Int.mul_le_mul h1 h3 h2 (by omega)
    omega

theorem okList_key {zs : List Int} (h : okList zs = true) {k : Nat} (hk : k < zs.length) : -100000 ≤ zs.getD k 0 ∧ zs.getD k 0 ≤ 100000 := by
  unfold okList at h
  simp only [Bool.and_eq_true, List.all_eq_true] at h
  have := h.2 zs[k] (List.getElem_mem hk)
  simpa [okKey, inB, List.getD, hk] using this

theorem okList_len {zs : List Int} (h : okList zs = true) : zs.length ≤ 64 := by
  unfold okList at h; simp at h; exact h.1

theorem tmod_small {a : Int} (h : a < 0) (h' : -999983 < a) : a.tmod 999983 = a := by
  have e : a = -(-a) := by omega
  rw [e, Int.neg_tmod, Int.tmod_eq_emod_of_nonneg (by omega)]
  omega

theorem fpD_bound (p x : Int) : 0 ≤ fpD p x ∧ fpD p x ≤ 999982 := by unfold fpD; omega

set_option maxHeartbeats 400000 in
theorem fingerprint_any (a : Option Addr) (cap : Nat) (zs : List Int) (p : Int) (w : World) (hok : okList zs = true) (h0 : 0 ≤ p) (h1 : p ≤ 999982) (h : IntsAt w a zs) :
    Calls Tryz.prog 26 #[.slice a zs.length cap, .int .i64 p] w fun e w' => e = .returned (.int .i64 (fprint zs p)) ∧ w = w' := by
  have H := Lib.hid h; clear h
  have hbig := okList_len hok
  have HO := Lib.hid hok; clear hok
  go_enter Tryz.func26, Tryz.ntmps26
  go_wp2
  go_loop [5, 7, 8, 11] (fun o _ _ i => ∃ k : Nat, k ≤ zs.length ∧ i = .int .i64 k ∧ o = .int .i64 (fprint (zs.take k) p)) (fun _ _ _ i => zs.length - (intOf i).toNat)
  case atStart => exact ⟨0, by omega, rfl, rfl⟩
  case round =>
    obtain ⟨k, hk, rfl, rfl⟩ := hrel
    by_cases hlt : k < zs.length
    · obtain ⟨b, off, rfl, hcell⟩ := H.out.at hlt
      have hb := okList_key HO.out hlt
      have hs := fprint_succ hlt p
      have ha := fprint_bound p (zs.take k)
      generalize hx : zs.getD k 0 = x at hcell hb hs
      have HX := Lib.hid hx; clear hx
      have hd := fpD_bound p x
      have hm := mul_bound ha.1 ha.2 hd.1 hd.2
      have HS := Lib.hid hs; clear hs
      generalize hacc : fprint (zs.take k) p = acc at ha hm HS ⊢
      have HA := Lib.hid hacc; clear hacc
      by_cases hn : p - x < 0
      · have e1 : (p - x).tmod 999983 = p - x := tmod_small hn (by omega)
        have e2 : p - x + 999983 = fpD p x := by unfold fpD; omega
        go_wp2
        all_goals
          go_round
          case rel => exact ⟨k + 1, by omega, by go_num, by rw [HS.out]⟩
          case measure => simp [intOf]; omega
      · have e1 : (p - x) % 999983 = fpD p x := rfl
        go_wp2
        all_goals
          go_round
          case rel => exact ⟨k + 1, by omega, by go_num, by rw [HS.out]⟩
          case measure => simp [intOf]; omega
    · go_wp2
      go_ret
      exact ⟨ret_int (by rw [List.take_of_length_le (by omega)]), rfl⟩

def fpAns (zs : List Int) (p : Int) : Int × Bool := if okList zs && inB p 0 999982 then (fprint zs p, true) else (0, false)

end Go.Proofs.YtoebegdepnigbaaGreatDoor

/- Walks: the text of a certificate, by both. -/
namespace Go.Proofs.YtoebegdepnigbaaGreatDoor
open Go.RowKit
set_option linter.unusedVariables false

def fcOk (rs : List (Int × Int)) (cs : List Int) : Bool := okRecs rs && decide (cs.length = rs.length) && okPerm cs
def fcText (rs : List (Int × Int)) (cs : List Int) : ByteArray := ba (Cf.textC rs.length (fprint (keysL rs) 7).toNat cs)
def FfEnd (rs : List (Int × Int)) (cs : List Int) : Value := .tuple #[.string (if fcOk rs cs then fcText rs cs else ⟨#[]⟩), .bool (fcOk rs cs)]
theorem recs_len64 {rs : List (Int × Int)} (h : okRecs rs = true) : rs.length ≤ 64 := by
  unfold okRecs at h
  simp only [Bool.and_eq_true, decide_eq_true_eq] at h
  omega
theorem recs_keys {rs : List (Int × Int)} (h : okRecs rs = true) : okList (keysL rs) = true := by
  unfold okRecs at h
  simp only [Bool.and_eq_true, decide_eq_true_eq, List.all_eq_true] at h
  unfold okList
  simp only [Bool.and_eq_true, decide_eq_true_eq, List.all_eq_true]
  refine ⟨by rw [keysL_len]; exact h.1, fun x hx => ?_⟩
  unfold keysL at hx
  obtain ⟨r, hr, rfl⟩ := List.mem_map.1 hx
  have := h.2 r hr
  unfold okRec at this
  rw [Bool.and_eq_true] at this
  exact this.1
theorem perm_range {cs : List Int} (h : okPerm cs = true) : ∀ x ∈ cs, 0 ≤ x ∧ x < 64 := by
  intro x hx
  obtain ⟨k, hk, rfl⟩ := List.getElem_of_mem hx
  have h1 := okPerm_at h hk
  have h2 := okPerm_len h
  rw [List.getD_eq_getElem?_getD, List.getElem?_eq_getElem hk] at h1
  simp at h1
  omega
theorem itoa_ofNat (n : Nat) : Lib.itoa (n : Int) = Lib.decDigits n := itoa_nat n
theorem itoa_toNat {n : Int} (h : 0 ≤ n) : Lib.itoa n = Lib.decDigits n.toNat := by unfold Lib.itoa; rw [if_neg (by omega)]
theorem ordT_len {cs : List Int} (h : okPerm cs = true) : (Cf.ordT cs).length ≤ 1400 := by
  have h64 := okPerm_len h
  unfold Cf.ordT
  split
  · simp
  · have hl := join_le [44] (by simp) (m := 20) (xs := cs.map Lib.itoa) (fun x hx => by
      obtain ⟨n, hn, rfl⟩ := List.mem_map.1 hx
      have := perm_range h n hn
      exact itoa_len n (by omega) (by omega))
    rw [List.length_map] at hl
    have : cs.length * (20 + 1) ≤ 64 * 21 := Nat.mul_le_mul (by omega) (by omega)
    omega

/-- The sums that make the text's body. -/
theorem body_sums {n k : Nat} {cs : List Int} {N K O : ByteArray} (hN : bs N = Lib.decDigits n) (hK : bs K = Lib.decDigits k) (hO : bs O = Cf.ordT cs) :
    bs (((((⟨#[115, 111, 114, 116, 101, 100, 32]⟩ ++ N) ++ ⟨#[32, 107, 101, 121, 32]⟩) ++ K) ++ ⟨#[32, 111, 114, 100, 101, 114, 32]⟩) ++ O) = Cf.bodyC n k cs := by
  rw [bs_add, bs_add, bs_add, bs_add, bs_add, hN, hK, hO]
  rfl

set_option maxRecDepth 100000 in
set_option maxHeartbeats 8000000 in
theorem formatCertificate_any (a : Option Addr) (c : Nat) (rs : List (Int × Int)) (b : Option Addr) (d : Nat) (cs : List Int) (w : World) (hl1 : rs.length ≤ 9223372036854775807) (hl2 : cs.length ≤ 9223372036854775807) (ht : Tab w) (hR : RecsAt w a rs) (hI : IntsAt w b cs) :
    Calls Tryz.prog 10 #[.slice a rs.length c, .slice b cs.length d] w fun e w' => e = .returned (FfEnd rs cs) ∧ Below w.heap.size w w' := by
  have HV := Lib.hid (isValidRecords_any a c rs w hl1 hR)
  have HP := Lib.hid (fun w h => isValidPermutation_any b d cs w hl2 h)
  have HR := Lib.hid hR
  have HI := Lib.hid hI
  have HT := Lib.hid ht
  clear hR hI ht
  unfold FfEnd fcOk fcText
  cases h1 : okRecs rs
  all_goals rw [h1] at HV
  case false =>
    clear h1
    go_enter Tryz.func10, Tryz.ntmps10
    go_wp2_with fail
    refine HV.out.mono ?_
    rintro e w1 ⟨rfl, hb⟩
    have HB := Lib.hid hb; clear hb
    go_wp2
    go_ret2
    exact ⟨rfl, HB.out⟩
  by_cases h2 : cs.length = rs.length
  case neg =>
    have q2 : ((cs.length : Int) != (rs.length : Int)) = true := by simp; omega
    have e2 : decide (cs.length = rs.length) = false := decide_eq_false h2
    rw [e2]
    clear h1 e2
    go_enter Tryz.func10, Tryz.ntmps10
    go_wp2_with fail
    refine HV.out.mono ?_
    rintro e w1 ⟨rfl, hb⟩
    have HB := Lib.hid hb; clear hb
    go_wp2
    go_ret2
    exact ⟨rfl, HB.out⟩
  have q2 : ((cs.length : Int) != (rs.length : Int)) = false := by simp; omega
  have e2 : decide (cs.length = rs.length) = true := decide_eq_true h2
  rw [e2]
  have h64' : cs.length ≤ 9223372036854775807 := hl2
  have HQ2 := Lib.hid h2; clear h2
  cases h3 : okPerm cs
  all_goals rw [h3] at HP
  case false =>
    clear h1 e2 h3
    go_enter Tryz.func10, Tryz.ntmps10
    go_wp2_with fail
    refine HV.out.mono ?_
    rintro e w1 ⟨rfl, hb⟩
    have HB := Lib.hid hb; clear hb
    go_wp2_with fail
    refine (HP.out _ (HI.out.below (Nat.le_refl _) HB.out)).mono ?_
    rintro e w2 ⟨rfl, hb⟩
    have HB2 := Lib.hid (below_trI HB.out hb HB.out.size); clear hb
    go_wp2
    go_ret2
    exact ⟨rfl, HB2.out⟩
  have h64 := recs_len64 h1
  have hkl := keysL_len rs
  obtain ⟨hf0, hf1⟩ := fprint_bound 7 (keysL rs)
  have HKO := Lib.hid (fun w h => keysOf_any a c rs w (by omega) h)
  have HFP := Lib.hid (fun a cap w h => fingerprint_any a cap (keysL rs) 7 w (recs_keys h1) (by omega) (by omega) h)
  have HN := Lib.hid (fun w ht => itoaI_any (rs.length : Int) w (by omega) (by omega) ht)
  have HK := Lib.hid (fun w ht => itoaI_any (fprint (keysL rs) 7) w (by omega) (by omega) ht)
  have HT1 := Lib.hid (fun w ht h => numbersText_any b d cs 44 w (by have := HQ2.out; omega) (fun x hx => by have := perm_range h3 x hx; omega) ht h)
  have hN20 : (ba (Lib.itoa (rs.length : Int))).size ≤ 20 := by rw [ba_size]; exact itoa_len _ (by omega) (by omega)
  have hK20 : (ba (Lib.itoa (fprint (keysL rs) 7))).size ≤ 20 := by rw [ba_size]; exact itoa_len _ (by omega) (by omega)
  have hOl : (ba (numT 44 cs)).size ≤ 1400 := by rw [ba_size]; exact ordT_len h3
  have hBS := body_sums (n := rs.length) (k := (fprint (keysL rs) 7).toNat) (cs := cs) (N := ba (Lib.itoa (rs.length : Int))) (K := ba (Lib.itoa (fprint (keysL rs) 7))) (O := ba (numT 44 cs)) (itoa_ofNat _) (itoa_toNat hf0) rfl

  clear hf0 hf1 e2 q2 h1 h3 hkl
  have q2 : ((cs.length : Int) != (rs.length : Int)) = false := by have := HQ2.out; simp; omega
  generalize ba (Lib.itoa (rs.length : Int)) = N at HN hN20 hBS
  generalize fprint (keysL rs) 7 = f at HFP HK hK20 hBS ⊢
  generalize ba (Lib.itoa f) = K at HK hK20 hBS
  generalize ba (numT 44 cs) = O at HT1 hOl hBS
  have z1 : (ByteArray.mk #[115, 111, 114, 116, 101, 100, 32]).size = 7 := rfl
  have z2 : (ByteArray.mk #[32, 107, 101, 121, 32]).size = 5 := rfl
  have z3 : (ByteArray.mk #[32, 111, 114, 100, 101, 114, 32]).size = 7 := rfl
  have a1 := add_runs (P := Tryz.prog) (a := ⟨#[115, 111, 114, 116, 101, 100, 32]⟩) (b := N) (by decide) (by omega)
  have a2 := add_runs (P := Tryz.prog) (a := ⟨#[115, 111, 114, 116, 101, 100, 32]⟩ ++ N) (b := ⟨#[32, 107, 101, 121, 32]⟩) (by rw [size_add]; omega) (by decide)
  have a3 := add_runs (P := Tryz.prog) (a := ⟨#[115, 111, 114, 116, 101, 100, 32]⟩ ++ N ++ ⟨#[32, 107, 101, 121, 32]⟩) (b := K) (by rw [size_add, size_add]; omega) (by omega)
  have a4 := add_runs (P := Tryz.prog) (a := ⟨#[115, 111, 114, 116, 101, 100, 32]⟩ ++ N ++ ⟨#[32, 107, 101, 121, 32]⟩ ++ K) (b := ⟨#[32, 111, 114, 100, 101, 114, 32]⟩) (by rw [size_add, size_add, size_add]; omega) (by decide)
  have a5 := add_runs (P := Tryz.prog) (a := ⟨#[115, 111, 114, 116, 101, 100, 32]⟩ ++ N ++ ⟨#[32, 107, 101, 121, 32]⟩ ++ K ++ ⟨#[32, 111, 114, 100, 101, 114, 32]⟩) (b := O) (by rw [size_add, size_add, size_add, size_add]; omega) (by omega)
  have hsz : (⟨#[115, 111, 114, 116, 101, 100, 32]⟩ ++ N ++ ⟨#[32, 107, 101, 121, 32]⟩ ++ K ++ ⟨#[32, 111, 114, 100, 101, 114, 32]⟩ ++ O : ByteArray).size ≤ 3000 := by rw [size_add, size_add, size_add, size_add, size_add]; omega
  obtain ⟨s, hs⟩ : ∃ s : ByteArray, ⟨#[115, 111, 114, 116, 101, 100, 32]⟩ ++ N ++ ⟨#[32, 107, 101, 121, 32]⟩ ++ K ++ ⟨#[32, 111, 114, 100, 101, 114, 32]⟩ ++ O = s := ⟨_, rfl⟩
  rw [hs] at a5 hsz hBS
  have h35 : (35 : UInt8) ∉ bs s := by rw [hBS]; exact Cf.body_no35 _ _ _
  have HAC := Lib.hid (fun w ht => appendChecksum_ok s w hsz h35 ht)
  have HE : Hid (Value.string ⟨(Tx.sealL (bs s)).toArray⟩ = Value.string (ba (Cf.textC rs.length f.toNat cs))) := by
    show _ = _
    rw [hBS]; rfl
  clear hs h35
  clear z1 z2 z3 hsz hBS
  go_enter Tryz.func10, Tryz.ntmps10
  go_wp2_with fail
  refine HV.out.mono ?_
  rintro e w1 ⟨rfl, hb⟩
  have HB := Lib.hid hb; clear hb
  go_wp2_with fail
  refine (HP.out _ (HI.out.below (Nat.le_refl _) HB.out)).mono ?_
  rintro e w2 ⟨rfl, hb⟩
  have HB2 := Lib.hid (below_trI HB.out hb HB.out.size); clear hb HB
  go_wp2_with fail
  refine (HN.out _ (HT.out.below HB2.out)).mono ?_
  rintro e w3 ⟨rfl, hb⟩
  have HB3 := Lib.hid (below_trI HB2.out hb HB2.out.size); clear hb HB2
  go_wp2_with fail
  refine (HKO.out _ (HR.out.below (Nat.le_refl _) HB3.out)).mono ?_
  rintro e w4 ⟨ka, kc, rfl, ho, hb⟩
  have HB4 := Lib.hid (below_trI HB3.out hb HB3.out.size)
  have HKI := Lib.hid (ownInts ho)
  clear ho hb HB3
  go_wp2_with fail
  refine (HFP.out _ _ _ HKI.out).mono ?_
  rintro e w5 ⟨rfl, hb⟩
  subst hb
  go_wp2_with fail
  refine (HK.out _ (HT.out.below HB4.out)).mono ?_
  rintro e w6 ⟨rfl, hb⟩
  have HB6 := Lib.hid (below_trI HB4.out hb HB4.out.size); clear hb HB4
  go_wp2_with fail
  refine (HT1.out _ (HT.out.below HB6.out) (HI.out.below (Nat.le_refl _) HB6.out)).mono ?_
  rintro e w7 ⟨rfl, hb⟩
  have HB7 := Lib.hid (below_trI HB6.out hb HB6.out.size); clear hb HB6
  go_wp2_with fail
  refine (HAC.out _ (HT.out.below HB7.out)).mono ?_
  rintro e w8 ⟨rfl, hb⟩
  have HB8 := Lib.hid (below_trI HB7.out hb HB7.out.size); clear hb HB7
  go_wp2
  go_ret2
  exact ⟨ret_v2 (HE.out.trans rfl) rfl, HB8.out⟩

end Go.Proofs.YtoebegdepnigbaaGreatDoor
