/- Several texts in one: lemmas and walks of the functions that the laws reach. -/
import Derived.Test.YtoebegdepnigbaaDoorY3
import Derived.Lib.CountLaws
import Derived.Lib.Split
import Derived.Lib.IndexBytes
import Derived.Lib.Atoi
import Derived.Test.YtoebegdepnigbaaDoorY4

/- Plain law of certificates: their text, and what either package reads out of it. -/
namespace Go.Proofs.YtoebegdepnigbaaDoor.Cf
open Go.Proofs.YtoebegdepnigbaaDoor
set_option linter.unusedVariables false

def ordT (cert : List Int) : List UInt8 := if cert = [] then [45] else Lib.join (cert.map Lib.itoa) [44]
def sSorted : List UInt8 := [115, 111, 114, 116, 101, 100, 32]
def sKey : List UInt8 := [32, 107, 101, 121, 32]
def sOrder : List UInt8 := [32, 111, 114, 100, 101, 114, 32]
def headC (n k : Nat) : List UInt8 := sSorted ++ Lib.decDigits n ++ sKey ++ Lib.decDigits k
def bodyC (n k : Nat) (cert : List Int) : List UInt8 := headC n k ++ sOrder ++ ordT cert

theorem itoa_chars (n : Int) : ∀ b ∈ Lib.itoa n, b = 45 ∨ (48 ≤ b.toNat ∧ b.toNat ≤ 57) := by
  intro b hb
  unfold Lib.itoa at hb
  split at hb
  · rcases List.mem_cons.1 hb with h | h
    · exact .inl h
    · exact .inr (Tx.digits_range _ b h)
  · exact .inr (Tx.digits_range _ b hb)
theorem itoa_not (n : Int) (c : UInt8) (h1 : c ≠ 45) (h : c.toNat < 48 ∨ 57 < c.toNat) : c ∉ Lib.itoa n := fun hb => by
  rcases itoa_chars n c hb with e | e
  · exact h1 e
  · omega
theorem mem_join {b : UInt8} (sep : List UInt8) : ∀ {xs : List (List UInt8)}, b ∈ Lib.join xs sep → b ∈ sep ∨ ∃ x ∈ xs, b ∈ x
  | [], h => by simp [Lib.join] at h
  | [x], h => by rw [Lib.join_one] at h; exact .inr ⟨x, by simp, h⟩
  | x :: y :: r, h => by
    rw [show Lib.join (x :: y :: r) sep = x ++ sep ++ Lib.join (y :: r) sep by rw [Lib.join_cons, Lib.join_cons]; simp [Lib.joinTail]] at h
    simp only [List.mem_append] at h
    rcases h with (h | h) | h
    · exact .inr ⟨x, by simp, h⟩
    · exact .inl h
    · rcases mem_join sep h with h | ⟨z, hz, h⟩
      · exact .inl h
      · exact .inr ⟨z, List.mem_cons_of_mem _ hz, h⟩
theorem ordT_not (cert : List Int) (c : UInt8) (h1 : c ≠ 45) (h2 : c ≠ 44) (h : c.toNat < 48 ∨ 57 < c.toNat) : c ∉ ordT cert := by
  intro hb
  unfold ordT at hb
  split at hb
  · simp at hb; exact h1 hb
  · rcases mem_join _ hb with h | ⟨x, hx, h⟩
    · simp at h; exact h2 h
    · obtain ⟨n, _, rfl⟩ := List.mem_map.1 hx
      exact itoa_not n c h1 (by assumption) h
theorem body_no35 (n k : Nat) (cert : List Int) : (35 : UInt8) ∉ bodyC n k cert := by
  intro h
  unfold bodyC headC at h
  simp only [List.mem_append] at h
  rcases h with (((((h | h) | h) | h) | h) | h)
  · revert h; decide
  · exact Tx.digits_not _ _ (by decide) h
  · revert h; decide
  · exact Tx.digits_not _ _ (by decide) h
  · revert h; decide
  · exact ordT_not _ _ (by decide) (by decide) (by decide) h

-- the place of ' order '
theorem index_skip {b : UInt8} {l sub : List UInt8} {i : Nat} (h : sub.isPrefixOf (b :: l) = false) (hi : Lib.index l sub = i) : Lib.index (b :: l) sub = (i + 1 : Nat) := by
  rw [Lib.index, if_neg (by rw [h]; decide), if_neg (by rw [hi]; simp <;> omega), hi]; simp
theorem skip_first {b c : UInt8} {l sub : List UInt8} (h : b ≠ c) : (c :: sub).isPrefixOf (b :: l) = false := by
  rw [List.isPrefixOf]; simp [Ne.symm h]
theorem skip_second {b c d e : UInt8} {l sub : List UInt8} (h : d ≠ e) : (c :: e :: sub).isPrefixOf (b :: d :: l) = false := by
  rw [List.isPrefixOf, List.isPrefixOf]; simp [Ne.symm h]
theorem index_over {l sub : List UInt8} {c : UInt8} : ∀ {p : List UInt8} {i : Nat}, c ∉ p → Lib.index l (c :: sub) = i → Lib.index (p ++ l) (c :: sub) = (p.length + i : Nat)
  | [], i, _, h => by simpa using h
  | b :: p, i, hp, h => by
    have ih := index_over (p := p) (fun m => hp (List.mem_cons_of_mem _ m)) h
    rw [List.cons_append, index_skip (skip_first (fun e => hp (by simp [e]))) ih]
    simp; omega
theorem index_at {l sub : List UInt8} : Lib.index (sub ++ l) sub = 0 := by
  cases h : sub ++ l with
  | nil => cases sub with
    | nil => rfl
    | cons a b => simp at h
  | cons b t => rw [Lib.index, if_pos]; rw [← h]; exact List.isPrefixOf_iff_prefix.2 ⟨l, rfl⟩

theorem digits_cons (k : Nat) : ∃ d t, Lib.decDigits k = d :: t ∧ d ≠ 111 := by
  cases h : Lib.decDigits k with
  | nil => have := Tx.digits_pos k; rw [h] at this; simp at this
  | cons d t =>
    refine ⟨d, t, rfl, fun e => ?_⟩
    have := Tx.digits_range k d (by rw [h]; simp)
    rw [e] at this
    revert this; decide
theorem index_body (n k : Nat) (t : List UInt8) : Lib.index (headC n k ++ sOrder ++ t) sOrder = ((headC n k).length : Nat) := by
  have e0 : Lib.index (sOrder ++ t) sOrder = ((0 : Nat) : Int) := by rw [index_at]; rfl
  have e1 : Lib.index (Lib.decDigits k ++ (sOrder ++ t)) sOrder = ((Lib.decDigits k).length + 0 : Nat) := index_over (c := 32) (Tx.digits_not _ _ (by decide)) e0
  obtain ⟨d, r, hd, hne⟩ := digits_cons k
  have e2 : Lib.index (32 :: (Lib.decDigits k ++ (sOrder ++ t))) sOrder = _ := index_skip (by rw [hd]; exact skip_second hne) e1
  have e3 : Lib.index ([107, 101, 121] ++ (32 :: (Lib.decDigits k ++ (sOrder ++ t)))) sOrder = _ := index_over (c := 32) (by decide) e2
  have e4 : Lib.index (32 :: ([107, 101, 121] ++ (32 :: (Lib.decDigits k ++ (sOrder ++ t))))) sOrder = _ := index_skip (skip_second (by decide)) e3
  have e5 : Lib.index (Lib.decDigits n ++ (32 :: ([107, 101, 121] ++ (32 :: (Lib.decDigits k ++ (sOrder ++ t)))))) sOrder = _ := index_over (c := 32) (Tx.digits_not _ _ (by decide)) e4
  obtain ⟨d', r', hd', hne'⟩ := digits_cons n
  have e6 : Lib.index (32 :: (Lib.decDigits n ++ (32 :: ([107, 101, 121] ++ (32 :: (Lib.decDigits k ++ (sOrder ++ t))))))) sOrder = _ := index_skip (by rw [hd']; exact skip_second hne') e5
  have e7 : Lib.index ([115, 111, 114, 116, 101, 100] ++ (32 :: (Lib.decDigits n ++ (32 :: ([107, 101, 121] ++ (32 :: (Lib.decDigits k ++ (sOrder ++ t)))))))) sOrder = _ := index_over (c := 32) (by decide) e6
  have ee : headC n k ++ sOrder ++ t = [115, 111, 114, 116, 101, 100] ++ (32 :: (Lib.decDigits n ++ (32 :: ([107, 101, 121] ++ (32 :: (Lib.decDigits k ++ (sOrder ++ t))))))) := by
    simp [headC, sSorted, sKey]
  rw [ee, e7]
  simp [headC, sSorted, sKey]
  try omega
theorem cut_body (n k : Nat) (cert : List Int) : (Lib.cut (bodyC n k cert) sOrder).2.1 = ordT cert := by
  unfold bodyC Lib.cut
  rw [index_body, if_pos (by omega)]
  show List.drop _ _ = _
  rw [show ((headC n k).length : Int).toNat + sOrder.length = (headC n k ++ sOrder).length by simp]
  exact List.drop_left

-- the pieces between commas
theorem join_two (x y : List UInt8) (r : List (List UInt8)) : Lib.join (x :: y :: r) [44] = x ++ 44 :: Lib.join (y :: r) [44] := by
  rw [Lib.join_cons, Lib.join_cons]; simp [Lib.joinTail]
theorem index_comma {a : List UInt8} (b : List UInt8) (h : (44 : UInt8) ∉ a) : Lib.index (a ++ 44 :: b) [44] = (a.length : Nat) := by
  rw [Lib.index_one]; exact Tx.indexByte_in b h
theorem split_join : ∀ {xs : List (List UInt8)}, xs ≠ [] → (∀ x ∈ xs, (44 : UInt8) ∉ x) → Lib.split (Lib.join xs [44]) [44] = xs
  | [], h, _ => absurd rfl h
  | [x], _, h => by
    rw [Lib.join_one]; unfold Lib.split
    rw [Lib.count_miss (by rw [Lib.index_one]; exact Tx.indexByte_out (h x (by simp)))]
    rfl
  | x :: y :: r, _, h => by
    have ih := split_join (xs := y :: r) (by simp) (fun z hz => h z (List.mem_cons_of_mem _ hz))
    have hx := index_comma (Lib.join (y :: r) [44]) (h x (by simp))
    rw [join_two]
    unfold Lib.split at ih ⊢
    have hdrop : (x ++ 44 :: Lib.join (y :: r) [44]).drop (x.length + 1) = Lib.join (y :: r) [44] := by simp [List.drop_append]
    rw [Lib.count_hit (by simp) hx]
    simp only [List.length_singleton]
    rw [hdrop, Nat.add_comm 1, Lib.splitK, if_neg (by rw [hx]; simp <;> omega), hx]
    simp only [Int.toNat_natCast, Nat.add_zero, List.length_singleton]
    rw [hdrop, ih]
    simp
theorem splitL_join : ∀ {xs : List (List UInt8)}, xs ≠ [] → (∀ x ∈ xs, (44 : UInt8) ∉ x) → splitL 44 (Lib.join xs [44]) = xs
  | [], h, _ => absurd rfl h
  | [x], _, h => by rw [Lib.join_one]; exact splitL_none (h x (by simp))
  | x :: y :: r, _, h => by
    rw [join_two, splitL_app _ (h x (by simp)), splitL_join (xs := y :: r) (by simp) (fun z hz => h z (List.mem_cons_of_mem _ hz))]
theorem splitL_ne (c : UInt8) (s : List UInt8) : splitL c s ≠ [] := by
  cases s with
  | nil => simp [splitL]
  | cons x t => unfold splitL; split; · simp
                · split <;> simp
theorem splitL_mid (c : UInt8) (b : List UInt8) : ∀ a : List UInt8, splitL c (a ++ c :: b) = splitL c a ++ splitL c b
  | [] => by simp [splitL]
  | x :: t => by
    rw [List.cons_append, splitL, splitL, splitL_mid c b t]
    split
    · rfl
    · cases hs : splitL c t with
      | nil => exact absurd hs (splitL_ne c t)
      | cons h r => rfl
theorem splitL_last {c : UInt8} (a : List UInt8) {b : List UInt8} (h : c ∉ b) : ∃ r, splitL c (a ++ c :: b) = r ++ [b] := ⟨splitL c a, by rw [splitL_mid, splitL_none h]⟩

-- the text as a whole
def textC (n k : Nat) (cert : List Int) : List UInt8 := Tx.sealL (bodyC n k cert)
theorem text_eq (n k : Nat) (cert : List Int) : textC n k cert = bodyC n k cert ++ 35 :: Lib.decDigits (Tx.sumL (bodyC n k cert)) := rfl
theorem upto_text (n k : Nat) (cert : List Int) : Tx.upto 35 (textC n k cert) = bodyC n k cert := by
  rw [text_eq]; exact Tx.upto_app _ (body_no35 n k cert)
theorem last_text (n k : Nat) (cert : List Int) : ∃ r, splitL 32 (textC n k cert) = r ++ [ordT cert ++ 35 :: Lib.decDigits (Tx.sumL (bodyC n k cert))] := by
  have e : textC n k cert = (headC n k ++ [32, 111, 114, 100, 101, 114]) ++ 32 :: (ordT cert ++ 35 :: Lib.decDigits (Tx.sumL (bodyC n k cert))) := by
    rw [text_eq]; simp [bodyC, sOrder]
  rw [e]
  refine splitL_last _ fun h => ?_
  rcases List.mem_append.1 h with h | h
  · exact ordT_not cert 32 (by decide) (by decide) (by decide) h
  · rcases List.mem_cons.1 h with h | h
    · revert h; decide
    · exact Tx.digits_not _ 32 (by decide) h
theorem head_last (cert : List Int) (m : Nat) : ∃ r, splitL 35 (ordT cert ++ 35 :: Lib.decDigits m) = ordT cert :: r :=
  ⟨_, splitL_app _ (ordT_not cert 35 (by decide) (by decide) (by decide))⟩
theorem pieces_ord {cert : List Int} (h : cert ≠ []) : splitL 44 (ordT cert) = cert.map Lib.itoa := by
  unfold ordT; rw [if_neg h]
  refine splitL_join (by simpa using h) fun x hx => ?_
  obtain ⟨n, _, rfl⟩ := List.mem_map.1 hx
  exact itoa_not n 44 (by decide) (by decide)
theorem split_ord {cert : List Int} (h : cert ≠ []) : Lib.split (ordT cert) [44] = cert.map Lib.itoa := by
  unfold ordT; rw [if_neg h]
  refine split_join (by simpa using h) fun x hx => ?_
  obtain ⟨n, _, rfl⟩ := List.mem_map.1 hx
  exact itoa_not n 44 (by decide) (by decide)
theorem ord_bar {cert : List Int} (h0 : ∀ x ∈ cert, 0 ≤ x) : ordT cert = [45] ↔ cert = [] := by
  constructor
  · intro h
    cases cert with
    | nil => rfl
    | cons x r =>
      exfalso
      have hx := h0 x (by simp)
      have e : ordT (x :: r) = Lib.itoa x ++ Lib.joinTail [44] (r.map Lib.itoa) := by unfold ordT; rw [if_neg (by simp), List.map_cons, Lib.join_cons]
      rw [e] at h
      have hi : Lib.itoa x = Lib.decDigits x.toNat := by unfold Lib.itoa; rw [if_neg (by omega)]
      rw [hi] at h
      obtain ⟨d, t, hd, _⟩ := digits_cons x.toNat
      have hr := Tx.digits_range x.toNat d (by rw [hd]; simp)
      rw [hd] at h
      injection h with h _
      rw [h] at hr
      revert hr; decide
  · rintro rfl; rfl

-- a numeral is read back
theorem decFrom_app : ∀ (l : List UInt8) (r : List UInt8) (acc m : Nat), Lib.decFrom acc l = some m → Lib.decFrom acc (l ++ r) = Lib.decFrom m r
  | [], r, acc, m, h => by simp only [Lib.decFrom] at h; injection h with h; rw [h]; rfl
  | b :: l, r, acc, m, h => by
    rw [List.cons_append]
    rw [Lib.decFrom] at h
    rw [Lib.decFrom.eq_2]
    cases hb : Lib.digitVal b with
    | none => rw [hb] at h; simp at h
    | some d => rw [hb] at h; simp only at h ⊢; exact decFrom_app l r _ m h
theorem decFrom_digits (u : Nat) : Lib.decFrom 0 (Lib.decDigits u) = some u := by
  induction u using Nat.strongRecOn with
  | _ u ih =>
    rw [Lib.decDigits]
    split
    · rename_i h
      have e : (UInt8.ofNat (48 + u)).toNat = 48 + u := by rw [UInt8.toNat_ofNat']; omega
      simp only [Lib.decFrom, Lib.digitVal, e]
      rw [if_pos (by omega)]; simp
    · rename_i h
      have h1 := ih (u / 10) (by omega)
      rw [decFrom_app _ _ _ _ h1]
      have e : (UInt8.ofNat (48 + u % 10)).toNat = 48 + u % 10 := by rw [UInt8.toNat_ofNat']; omega
      simp only [Lib.decFrom, Lib.digitVal, e]
      rw [if_pos (by omega)]; simp; omega
theorem atoi_digits (u : Nat) : Lib.atoi (Lib.decDigits u) = some (u : Int) := by
  obtain ⟨d, t, hd, _⟩ := digits_cons u
  have hr := Tx.digits_range u d (by rw [hd]; simp)
  have h := decFrom_digits u
  rw [hd] at h ⊢
  have n1 : ¬ (d == 45) = true := by intro e; rw [beq_iff_eq.1 e] at hr; revert hr; decide
  have n2 : ¬ (d == 43) = true := by intro e; rw [beq_iff_eq.1 e] at hr; revert hr; decide
  show (if (d == 45) = true then _ else if (d == 43) = true then _ else _) = _
  rw [if_neg n1, if_neg n2]
  simp [Lib.decNat, h]

theorem itoa_inj {a b : Int} (ha : 0 ≤ a) (hb : 0 ≤ b) (h : Lib.itoa a = Lib.itoa b) : a = b := by
  unfold Lib.itoa at h
  rw [if_neg (by omega), if_neg (by omega)] at h
  have h1 := atoi_digits a.toNat
  rw [h, atoi_digits] at h1
  injection h1 with h1
  omega
theorem map_itoa_inj : ∀ {a b : List Int}, (∀ x ∈ a, 0 ≤ x) → (∀ x ∈ b, 0 ≤ x) → a.map Lib.itoa = b.map Lib.itoa → a = b
  | [], [], _, _, _ => rfl
  | [], y :: r, _, _, h => by simp at h
  | x :: l, [], _, _, h => by simp at h
  | x :: l, y :: r, ha, hb, h => by
    simp only [List.map_cons, List.cons.injEq] at h
    rw [itoa_inj (ha x (by simp)) (hb y (by simp)) h.1, map_itoa_inj (fun z hz => ha z (List.mem_cons_of_mem _ hz)) (fun z hz => hb z (List.mem_cons_of_mem _ hz)) h.2]
theorem ordT_inj {a b : List Int} (ha : ∀ x ∈ a, 0 ≤ x) (hb : ∀ x ∈ b, 0 ≤ x) (h : ordT a = ordT b) : a = b := by
  by_cases h0 : a = []
  · have := (ord_bar ha).2 h0
    rw [h] at this
    rw [h0, (ord_bar hb).1 this]
  · have h1 : b ≠ [] := fun e => h0 ((ord_bar ha).1 (by rw [h, (ord_bar hb).2 e]))
    have e1 := pieces_ord h0
    rw [h, pieces_ord h1] at e1
    exact (map_itoa_inj hb ha e1).symm
theorem text_inj {n k : Nat} {a b : List Int} (ha : ∀ x ∈ a, 0 ≤ x) (hb : ∀ x ∈ b, 0 ≤ x) (h : textC n k a = textC n k b) : a = b := by
  have e := upto_text n k a
  rw [h, upto_text] at e
  have e2 := cut_body n k a
  rw [← e, cut_body] at e2
  exact (ordT_inj hb ha e2).symm
theorem body_len {n k : Nat} (hn : n < 1000000) (hk : k < 1000000) {cs : List Int} (h : (ordT cs).length ≤ 1400) : (bodyC n k cs).length ≤ 3000 := by
  have h1 := Tx.digits_len 5 n (by omega)
  have h2 := Tx.digits_len 5 k (by omega)
  unfold bodyC headC sSorted sKey sOrder
  simp only [List.length_append, List.length_cons, List.length_nil]
  omega

end Go.Proofs.YtoebegdepnigbaaDoor.Cf

/- Rows of integers: their element. -/
namespace Go.Proofs.YtoebegdepnigbaaDoor
open Go.RowKit
set_option linter.unusedVariables false

theorem Tryd.infoInt : (Tryd.prog.info? 3).map (fun i => (i.zero, i.size, i.bytes)) = some (some (.int .i64 0), 1, 8) := by kernel_rfl

theorem ownInts {w : World} {base : Nat} {a : Option Addr} {n c : Nat} {zs : List Int} (h : w.ownsRow base 3 1 (.slice a n c) n (zs.map (Value.int .i64))) : IntsAt w a zs := ints_of_own h

theorem slInt : SlT Tryd.prog 23 3 (.int .i64 0) 1 8 := ⟨Tryd.underlying23, info_parts Tryd.infoInt, rfl, by decide, by decide⟩

end Go.Proofs.YtoebegdepnigbaaDoor

/- Walks: copies of integer lists; the comparison of two integer lists. -/
namespace Go.Proofs.YtoebegdepnigbaaDoor
open Go.RowKit
set_option linter.unusedVariables false

set_option maxHeartbeats 400000 in
theorem toIntS_any (a : Option Addr) (cap : Nat) (zs : List Int) (w : World) (hlen : zs.length ≤ 1048576) (h : IntsAt w a zs) :
    Calls Tryd.prog 9 #[.slice a zs.length cap] w fun e w' => e = .returned (.slice (some ⟨w.heap.size, 0, none⟩) zs.length zs.length) ∧
      w'.ownsRow w.heap.size 3 1 (.slice (some ⟨w.heap.size, 0, none⟩) zs.length zs.length) zs.length (zs.map (Value.int .i64)) ∧ Below w.heap.size w w' := by
  have H := Lib.hid h; clear h
  obtain ⟨i0, hi, hz0, hz1, hz2⟩ := info_parts Tryd.infoInt
  have HI := Lib.hid hi; clear hi
  have H0 := Lib.hid hz0; clear hz0
  have H1 := Lib.hid hz1; clear hz1
  have h2 := Lib.hid hz2; clear hz2
  go_enter Tryd.func9, Tryd.ntmps9
  go_wp2_with (at_make; refine wpList_make_full _ rfl _ _ 23 rfl w.heap.size 3 i0 (.int .i64 0) 1 Tryd.underlying23 HI.out H0.out H1.out _ _ _ _ zs.length rfl rfl rfl rfl ?c1 ?c2 ?c3 ?_)
  case c1 => rw [h2.out]; omega
  case c2 => unfold maxLen; omega
  case c3 => exact Nat.le_refl _
  intro w1 hown hgrow
  have hown : w1.ownsRow w.heap.size 3 1 (.slice (some ⟨w.heap.size, 0, none⟩) zs.length zs.length) zs.length (cpK zs 0) := by
    rw [cpK_zero]; rw [← toList_madeCells_one]; simpa [Value.cells] using hown
  have hb : Below w.heap.size w w1 := (Below.refl _ _).grown hgrow (Nat.le_refl _) (fun k hk => by cases hk)
  have HO := Lib.hid hown; clear hown
  have HB := Lib.hid hb; clear hb hgrow
  go_wp2
  go_loopw [4] (fun i wr => ∃ k : Nat, k ≤ zs.length ∧ i = .int .i64 k ∧ wr.ownsRow w.heap.size 3 1 (.slice (some ⟨w.heap.size, 0, none⟩) zs.length zs.length) zs.length (cpK zs k) ∧ Below w.heap.size w wr) (fun i _ => zs.length - (intOf i).toNat)
  case atStart => exact ⟨0, by omega, rfl, HO.out, HB.out⟩
  case round =>
    obtain ⟨k, hk, rfl, hown, hb⟩ := hrel
    clear HO HB
    by_cases hlt : k < zs.length
    · have hc1 := hown.cellAt k (by omega)
      rw [List.getElem?_eq_getElem (by rw [cpK_length]; exact hlt)] at hc1
      have hf1 := hown.frozenAt k
      have R := hown.stored k (.int .i64 (zs.getD k 0))
      rw [cpK_succ hlt] at R
      obtain ⟨b, off, rfl, hcell⟩ := (H.out.below (Nat.le_refl _) hb).at hlt
      have hb2 := hb.setCell (p := ⟨w.heap.size, k, none⟩) (Nat.le_refl _) (.int .i64 (zs.getD k 0))
      generalize hx : zs.getD k 0 = x at hcell R hb2
      have HR := Lib.hid R.1; clear R
      have HB := Lib.hid hb2; clear hb2 hb hown hx
      go_wp2
      go_roundw
      case rel => exact ⟨k + 1, by omega, by go_num, HR.out, HB.out⟩
      case measure => simp [intOf]; omega
    · have e : k = zs.length := by omega
      subst e
      rw [cpK_end] at hown
      have HO := Lib.hid hown; clear hown
      have HB := Lib.hid hb; clear hb
      go_wp2
      go_ret
      exact ⟨rfl, HO.out, HB.out⟩

set_option maxHeartbeats 400000 in
theorem eqIntS_any (a a' : Option Addr) (cap cap' : Nat) (zs ys : List Int) (w : World) (hlen : zs.length ≤ 9223372036854775807) (hlen' : ys.length ≤ 9223372036854775807) (h : IntsAt w a zs) (h' : IntsAt w a' ys) :
    Calls Tryd.prog 12 #[.slice a zs.length cap, .slice a' ys.length cap'] w fun e w' => e = .returned (.bool (decide (zs = ys))) ∧ Below w.heap.size w w' := by
  have H := Lib.hid h; clear h
  have H' := Lib.hid h'; clear h'
  by_cases hl : zs.length = ys.length
  · have HL := Lib.hid hl
    have hne : ((zs.length : Int) != (ys.length : Int)) = false := by rw [hl]; simp
    clear hl
    go_enter Tryd.func12, Tryd.ntmps12
    go_wp2
    go_loopw [5] (fun i wr => ∃ k : Nat, k ≤ zs.length ∧ i = .int .i64 k ∧ (∀ j, j < k → zs.getD j 0 = ys.getD j 0) ∧ Below w.heap.size w wr) (fun i _ => zs.length - (intOf i).toNat)
    case atStart => exact ⟨0, by omega, rfl, by intro j h; omega, Below.refl _ _⟩
    case round =>
      obtain ⟨k, hk, rfl, hall, hb⟩ := hrel
      have HA := Lib.hid hall; clear hall
      have HB := Lib.hid hb; clear hb
      by_cases hlt : k < zs.length
      · obtain ⟨b, off, rfl, hc1⟩ := (H.out.below (Nat.le_refl _) HB.out).at hlt
        have hlt' : k < ys.length := by rw [← HL.out]; exact hlt
        obtain ⟨b', off', rfl, hc2⟩ := (H'.out.below (Nat.le_refl _) HB.out).at hlt'
        generalize hx : zs.getD k 0 = x at hc1
        generalize hy : ys.getD k 0 = y at hc2
        have HX := Lib.hid hx; clear hx
        have HY := Lib.hid hy; clear hy
        by_cases hxy : x = y
        · have hq : (x != y) = false := by rw [hxy]; simp
          have HQ := Lib.hid hxy; clear hxy
          go_wp2_with fail
          go_quiet (fail)
          go_wp2
          go_roundw
          case rel =>
            refine ⟨k + 1, by omega, by go_num, fun j hj => ?_, below_drewN HB.out _⟩
            rcases Nat.lt_succ_iff_lt_or_eq.1 hj with h | rfl
            · exact HA.out j h
            · rw [HX.out, HY.out, HQ.out]
          case measure => simp [intOf]; omega
        · have hq : (x != y) = true := by simpa using hxy
          have HQ := Lib.hid hxy; clear hxy
          go_wp2_with fail
          go_quiet (fail)
          go_wp2
          go_ret
          refine ⟨ret_bool ?_, below_drewN HB.out _⟩
          symm; apply decide_eq_false
          intro e
          exact HQ.out (by rw [← HX.out, ← HY.out, e])
      · go_wp2
        go_ret
        refine ⟨ret_bool ?_, HB.out⟩
        symm; apply decide_eq_true
        apply List.ext_getElem HL.out
        intro j h1 h2
        have := HA.out j (by omega)
        simpa [List.getD, h1, h2] using this
  · have hne : ((zs.length : Int) != (ys.length : Int)) = true := by simpa using (by omega : ¬ (zs.length : Int) = ys.length)
    have HL := Lib.hid hl; clear hl
    go_enter Tryd.func12, Tryd.ntmps12
    go_wp2
    go_ret
    refine ⟨ret_bool ?_, Below.refl _ _⟩
    symm; apply decide_eq_false
    intro e
    exact HL.out (by rw [e])

end Go.Proofs.YtoebegdepnigbaaDoor

/- Walks: fingerprints; copies of integer lists; the comparison of two integer lists. -/
namespace Go.Proofs.YtoebegdepnigbaaDoor
open Go.RowKit
set_option linter.unusedVariables false

def fpD (p x : Int) : Int := (p - x) % 999983
def fpStep (p acc x : Int) : Int := acc * fpD p x % 999983
def fprint (zs : List Int) (p : Int) : Int := zs.foldl (fpStep p) 1

theorem fprint_bound (p : Int) (zs : List Int) : 0 ≤ fprint zs p ∧ fprint zs p ≤ 999982 := by
  have : ∀ (zs : List Int) (a : Int), 0 ≤ a ∧ a ≤ 999982 → 0 ≤ zs.foldl (fpStep p) a ∧ zs.foldl (fpStep p) a ≤ 999982 := by
    intro zs
    induction zs with
    | nil => intro a h; exact h
    | cons x r ih => intro a _; exact ih _ (by unfold fpStep; omega)
  exact this zs 1 (by omega)

theorem fprint_succ {zs : List Int} {k : Nat} (hk : k < zs.length) (p : Int) : fprint (zs.take (k + 1)) p = fprint (zs.take k) p * fpD p (zs.getD k 0) % 999983 := by
  unfold fprint
  rw [List.take_add_one, List.foldl_append]
  simp [fpStep, List.getD, List.getElem?_eq_getElem hk]

theorem mul_bound {a d : Int} (h0 : 0 ≤ a) (h1 : a ≤ 999982) (h2 : 0 ≤ d) (h3 : d ≤ 999982) : 0 ≤ a * d ∧ a * d ≤ 999964000324 := by
  constructor
  · exact Int.mul_nonneg h0 h2
  · have : a * d ≤ 999982 * 999982 := Int.mul_le_mul h1 h3 h2 (by omega)
    omega

theorem okList_key {zs : List Int} (h : okList zs = true) {k : Nat} (hk : k < zs.length) : -100000 ≤ zs.getD k 0 ∧ zs.getD k 0 ≤ 100000 := by
  unfold okList at h
  simp only [Bool.and_eq_true, List.all_eq_true] at h
  have := h.2 zs[k] (List.getElem_mem hk)
  simpa [okKey, inB, List.getD, hk] using this

theorem okList_len {zs : List Int} (h : okList zs = true) : zs.length ≤ 64 := by
  unfold okList at h; simp at h; exact h.1

theorem tmod_small {a : Int} (h : a < 0) (h' : -999983 < a) : a.tmod 999983 = a := by
  have e : a = -(-a) := by omega
  rw [e, Int.neg_tmod, Int.tmod_eq_emod_of_nonneg (by omega)]
  omega

theorem fpD_bound (p x : Int) : 0 ≤ fpD p x ∧ fpD p x ≤ 999982 := by unfold fpD; omega

set_option maxHeartbeats 400000 in
theorem l24Print_any (a : Option Addr) (cap : Nat) (zs : List Int) (p : Int) (w : World) (hok : okList zs = true) (h0 : 0 ≤ p) (h1 : p ≤ 999982) (h : IntsAt w a zs) :
    Calls Tryd.prog 27 #[.slice a zs.length cap, .int .i64 p] w fun e w' => e = .returned (.int .i64 (fprint zs p)) ∧ w = w' := by
  have H := Lib.hid h; clear h
  have hbig := okList_len hok
  have HO := Lib.hid hok; clear hok
  go_enter Tryd.func27, Tryd.ntmps27
  go_wp2
  go_loop [5, 6, 7] (fun o i _ => ∃ k : Nat, k ≤ zs.length ∧ i = .int .i64 k ∧ o = .int .i64 (fprint (zs.take k) p)) (fun _ i _ => zs.length - (intOf i).toNat)
  case atStart => exact ⟨0, by omega, rfl, rfl⟩
  case round =>
    obtain ⟨k, hk, rfl, rfl⟩ := hrel
    by_cases hlt : k < zs.length
    · obtain ⟨b, off, rfl, hcell⟩ := H.out.at hlt
      have hb := okList_key HO.out hlt
      have hs := fprint_succ hlt p
      have ha := fprint_bound p (zs.take k)
      generalize hx : zs.getD k 0 = x at hcell hb hs
      have HX := Lib.hid hx; clear hx
      have hd := fpD_bound p x
      have hm := mul_bound ha.1 ha.2 hd.1 hd.2
      have HS := Lib.hid hs; clear hs
      generalize hacc : fprint (zs.take k) p = acc at ha hm HS ⊢
      have HA := Lib.hid hacc; clear hacc
      by_cases hn : p - x < 0
      · have e1 : (p - x).tmod 999983 = p - x := tmod_small hn (by omega)
        have e2 : p - x + 999983 = fpD p x := by unfold fpD; omega
        go_wp2
        all_goals
          go_round
          case rel => exact ⟨k + 1, by omega, by go_num, by rw [HS.out]⟩
          case measure => simp [intOf]; omega
      · have e1 : (p - x) % 999983 = fpD p x := rfl
        go_wp2
        all_goals
          go_round
          case rel => exact ⟨k + 1, by omega, by go_num, by rw [HS.out]⟩
          case measure => simp [intOf]; omega
    · go_wp2
      go_ret
      exact ⟨ret_int (by rw [List.take_of_length_le (by omega)]), rfl⟩

set_option maxHeartbeats 400000 in
theorem fingerprint_any (a : Option Addr) (cap : Nat) (zs : List Int) (p : Int) (w : World) (hok : okList zs = true) (h0 : 0 ≤ p) (h1 : p ≤ 999982) (h : IntsAt w a zs) :
    Calls Tryd.prog 33 #[.slice a zs.length cap, .int .i64 p] w fun e w' => e = .returned (.int .i64 (fprint zs p)) ∧ w = w' := by
  have H := Lib.hid h; clear h
  have hbig := okList_len hok
  have HO := Lib.hid hok; clear hok
  go_enter Tryd.func33, Tryd.ntmps33
  go_wp2
  go_loop [5, 7, 8, 11] (fun o _ _ i => ∃ k : Nat, k ≤ zs.length ∧ i = .int .i64 k ∧ o = .int .i64 (fprint (zs.take k) p)) (fun _ _ _ i => zs.length - (intOf i).toNat)
  case atStart => exact ⟨0, by omega, rfl, rfl⟩
  case round =>
    obtain ⟨k, hk, rfl, rfl⟩ := hrel
    by_cases hlt : k < zs.length
    · obtain ⟨b, off, rfl, hcell⟩ := H.out.at hlt
      have hb := okList_key HO.out hlt
      have hs := fprint_succ hlt p
      have ha := fprint_bound p (zs.take k)
      generalize hx : zs.getD k 0 = x at hcell hb hs
      have HX := Lib.hid hx; clear hx
      have hd := fpD_bound p x
      have hm := mul_bound ha.1 ha.2 hd.1 hd.2
      have HS := Lib.hid hs; clear hs
      generalize hacc : fprint (zs.take k) p = acc at ha hm HS ⊢
      have HA := Lib.hid hacc; clear hacc
      by_cases hn : p - x < 0
      · have e1 : (p - x).tmod 999983 = p - x := tmod_small hn (by omega)
        have e2 : p - x + 999983 = fpD p x := by unfold fpD; omega
        go_wp2
        all_goals
          go_round
          case rel => exact ⟨k + 1, by omega, by go_num, by rw [HS.out]⟩
          case measure => simp [intOf]; omega
      · have e1 : (p - x) % 999983 = fpD p x := rfl
        go_wp2
        all_goals
          go_round
          case rel => exact ⟨k + 1, by omega, by go_num, by rw [HS.out]⟩
          case measure => simp [intOf]; omega
    · go_wp2
      go_ret
      exact ⟨ret_int (by rw [List.take_of_length_le (by omega)]), rfl⟩

def fpAns (zs : List Int) (p : Int) : Int × Bool := if okList zs && inB p 0 999982 then (fprint zs p, true) else (0, false)

end Go.Proofs.YtoebegdepnigbaaDoor

/- Walks: valid permutations. -/
namespace Go.Proofs.YtoebegdepnigbaaDoor
open Go.RowKit
set_option linter.unusedVariables false

theorem Tryd.infoBool : (Tryd.prog.info? 4).map (fun i => (i.zero, i.size, i.bytes)) = some (some (.bool false), 1, 1) := by kernel_rfl
theorem slBool : SlT Tryd.prog 75 4 (.bool false) 1 1 := ⟨Tryd.underlying75, info_parts Tryd.infoBool, rfl, by decide, by decide⟩

/-- Every index of a list passes a test. -/
def allIx (n : Nat) (q : Nat → Bool) : Bool := (List.range n).all q
theorem allIx_no {n : Nat} {q : Nat → Bool} {k : Nat} (hk : k < n) (h : q k = false) : allIx n q = false := by
  unfold allIx; rw [List.all_eq_false]; exact ⟨k, by simpa using hk, by simp [h]⟩
theorem allIx_yes {n : Nat} {q : Nat → Bool} (h : ∀ k, k < n → q k = true) : allIx n q = true := by
  unfold allIx; rw [List.all_eq_true]; intro k hk; exact h k (by simpa using hk)
theorem allIx_at {n : Nat} {q : Nat → Bool} (h : allIx n q = true) {k : Nat} (hk : k < n) : q k = true := by
  unfold allIx at h; rw [List.all_eq_true] at h; exact h k (by simpa using hk)

def permOk (p : List Int) (k : Nat) : Bool := inB (p.getD k 0) 0 (p.length - 1) && !decide (p.getD k 0 ∈ p.take k)
def okPerm (p : List Int) : Bool := decide (p.length ≤ 64) && allIx p.length (permOk p)
theorem okPerm_at {p : List Int} (h : okPerm p = true) {k : Nat} (hk : k < p.length) : 0 ≤ p.getD k 0 ∧ p.getD k 0 < p.length := by
  unfold okPerm at h; rw [Bool.and_eq_true] at h
  have := allIx_at h.2 hk
  unfold permOk at this; rw [Bool.and_eq_true, inB_iff] at this
  omega
theorem okPerm_len {p : List Int} (h : okPerm p = true) : p.length ≤ 64 := by
  unfold okPerm at h; rw [Bool.and_eq_true] at h; simpa using h.1

def seenL (p : List Int) (k : Nat) : List Value := (List.range p.length).map fun j : Nat => Value.bool (decide ((j : Int) ∈ p.take k))
theorem seenL_len (p : List Int) (k : Nat) : (seenL p k).length = p.length := by simp [seenL]
theorem seenL_zero (p : List Int) : seenL p 0 = List.replicate p.length (.bool false) := by
  apply List.ext_getElem <;> simp [seenL]
theorem seenL_at {p : List Int} {k j : Nat} (hj : j < p.length) : (seenL p k)[j]? = some (.bool (decide ((j : Int) ∈ p.take k))) := by simp [seenL, hj]
theorem seenL_succ {p : List Int} {k j : Nat} (hk : k < p.length) (hj : p.getD k 0 = j) : (seenL p k).set j (.bool true) = seenL p (k + 1) := by
  apply List.ext_getElem
  · simp [seenL]
  · intro i h1 h2
    have e : p.take (k + 1) = p.take k ++ [(j : Int)] := by
      rw [List.take_add_one, ← hj]; simp [List.getD, List.getElem?_eq_getElem hk]
    simp only [seenL, List.getElem_set, List.getElem_map, List.getElem_range, e]
    by_cases e2 : j = i
    · subst e2; simp
    · rw [if_neg e2]
      have : ¬ ((i : Int) = (j : Int)) := by omega
      simp [this]

set_option maxHeartbeats 400000 in
theorem isValidPermutation_any (a : Option Addr) (cap : Nat) (zs : List Int) (w : World) (hbig : zs.length ≤ 9223372036854775807) (h : IntsAt w a zs) :
    Calls Tryd.prog 31 #[.slice a zs.length cap] w fun e w' => e = .returned (.bool (okPerm zs)) ∧ Below w.heap.size w w' := by
  by_cases hl : zs.length ≤ 64
  case neg =>
    have hf : okPerm zs = false := by unfold okPerm; simp; omega
    have HE := Lib.hid hf; clear hf
    go_enter Tryd.func31, Tryd.ntmps31
    go_wp2
    go_ret
    exact ⟨ret_bool HE.out.symm, Below.refl _ _⟩
  have HE : Hid (okPerm zs = allIx zs.length (permOk zs)) := by show _ = _; unfold okPerm; simp [hl]
  have H := Lib.hid h; clear h
  go_enter Tryd.func31, Tryd.ntmps31
  go_wp2_with (at_make; refine wpList_mk slBool rfl _ _ rfl zs.length rfl rfl (by omega) ?_)
  intro w1 hown hb hsz
  have hown : w1.ownsRow w.heap.size 4 1 (.slice (some ⟨w.heap.size, 0, none⟩) zs.length zs.length) zs.length (seenL zs 0) := by
    rw [seenL_zero, ← toList_madeCells_one]; simpa [Value.cells] using hown
  have HO := Lib.hid hown; clear hown
  have HB := Lib.hid hb; clear hb hsz
  go_wp2
  go_loopw [5, 14] (fun _ i wr => ∃ k : Nat, k ≤ zs.length ∧ i = .int .i64 k ∧ (∀ j, j < k → permOk zs j = true) ∧ wr.ownsRow w.heap.size 4 1 (.slice (some ⟨w.heap.size, 0, none⟩) zs.length zs.length) zs.length (seenL zs k) ∧ Below w.heap.size w wr) (fun _ i _ => zs.length - (intOf i).toNat)
  case atStart => exact ⟨0, by omega, rfl, by intro j h; omega, HO.out, HB.out⟩
  case round =>
    obtain ⟨k, hk, rfl, hall, hown, hb⟩ := hrel
    have HA := Lib.hid hall; clear hall HO HB
    have HB := Lib.hid hb; clear hb
    by_cases hlt : k < zs.length
    · obtain ⟨b, off, rfl, hcell⟩ := (H.out.below (Nat.le_refl _) HB.out).at hlt
      have HX : Hid (permOk zs k = (inB (zs.getD k 0) 0 (zs.length - 1) && !decide (zs.getD k 0 ∈ zs.take k))) := rfl
      generalize hx : zs.getD k 0 = x at hcell HX
      cases hin : inB x 0 (zs.length - 1)
      · have HI := Lib.hid (fun w1 => hin ▸ in_any x 0 (zs.length - 1) w1)
        have HZ := Lib.hid hin
        have HO := Lib.hid hown; clear hown hx hin
        go_wp2_with (go_at_call 54; refine (HI.out _).mono ?_; rintro e w' ⟨rfl, rfl⟩)
        go_ret
        exact ⟨ret_bool (by rw [HE.out, allIx_no hlt (by rw [HX.out, HZ.out, Bool.false_and])]), HB.out⟩
      · obtain ⟨hx0, hx1⟩ := inB_iff.1 hin
        obtain ⟨j, rfl⟩ := Int.eq_ofNat_of_zero_le hx0
        have hj : j < zs.length := by omega
        have HI := Lib.hid (fun w1 => hin ▸ in_any j 0 (zs.length - 1) w1)
        have hc1 := hown.cellAt j (by omega)
        rw [seenL_at hj] at hc1
        have hf1 := hown.frozenAt j
        have R := hown.stored j (.bool true)
        rw [seenL_succ hlt hx] at R
        have HR := Lib.hid R
        have HZ := Lib.hid hin
        by_cases hs : (j : Int) ∈ zs.take k
        · rw [decide_eq_true hs] at hc1
          have HS := Lib.hid hs
          clear R hown hx hin hs hx0 hx1
          go_wp2_with (go_at_call 54; refine (HI.out _).mono ?_; rintro e w' ⟨rfl, rfl⟩)
          go_ret
          exact ⟨ret_bool (by rw [HE.out, allIx_no hlt (by rw [HX.out, decide_eq_true HS.out]; simp)]), HB.out⟩
        · rw [decide_eq_false hs] at hc1
          have HS := Lib.hid hs
          clear R hown hx hin hs hx0 hx1
          go_wp2_with (go_at_call 54; refine (HI.out _).mono ?_; rintro e w' ⟨rfl, rfl⟩)
          go_roundw
          case rel =>
            refine ⟨k + 1, by omega, by go_num, fun q hq => ?_, HR.out.1, HB.out.setCell (Nat.le_refl _) _⟩
            rcases Nat.lt_succ_iff_lt_or_eq.1 hq with h | rfl
            · exact HA.out q h
            · rw [HX.out, HZ.out, decide_eq_false HS.out]; rfl
          case measure => simp [intOf]; omega
    · clear hown
      go_wp2
      go_ret
      exact ⟨ret_bool (by rw [HE.out, allIx_yes (fun j hj => HA.out j (by omega))]), HB.out⟩

set_option maxHeartbeats 400000 in
theorem l3Good_any (a : Option Addr) (cap : Nat) (zs : List Int) (w : World) (hbig : zs.length ≤ 9223372036854775807) (h : IntsAt w a zs) :
    Calls Tryd.prog 24 #[.slice a zs.length cap] w fun e w' => e = .returned (.bool (okPerm zs)) ∧ Below w.heap.size w w' := by
  by_cases hl : zs.length ≤ 64
  case neg =>
    have hf : okPerm zs = false := by unfold okPerm; simp; omega
    have HE := Lib.hid hf; clear hf
    go_enter Tryd.func24, Tryd.ntmps24
    go_wp2
    go_ret
    exact ⟨ret_bool HE.out.symm, Below.refl _ _⟩
  have HE : Hid (okPerm zs = allIx zs.length (permOk zs)) := by show _ = _; unfold okPerm; simp [hl]
  have H := Lib.hid h; clear h
  go_enter Tryd.func24, Tryd.ntmps24
  go_wp2_with (at_make; refine wpList_mk slBool rfl _ _ rfl zs.length rfl rfl (by omega) ?_)
  intro w1 hown hb hsz
  have hown : w1.ownsRow w.heap.size 4 1 (.slice (some ⟨w.heap.size, 0, none⟩) zs.length zs.length) zs.length (seenL zs 0) := by
    rw [seenL_zero, ← toList_madeCells_one]; simpa [Value.cells] using hown
  have HO := Lib.hid hown; clear hown
  have HB := Lib.hid hb; clear hb hsz
  go_wp2
  go_loopw [4] (fun i wr => ∃ k : Nat, k ≤ zs.length ∧ i = .int .i64 k ∧ (∀ j, j < k → permOk zs j = true) ∧ wr.ownsRow w.heap.size 4 1 (.slice (some ⟨w.heap.size, 0, none⟩) zs.length zs.length) zs.length (seenL zs k) ∧ Below w.heap.size w wr) (fun i _ => zs.length - (intOf i).toNat)
  case atStart => exact ⟨0, by omega, rfl, by intro j h; omega, HO.out, HB.out⟩
  case round =>
    obtain ⟨k, hk, rfl, hall, hown, hb⟩ := hrel
    have HA := Lib.hid hall; clear hall HO HB
    have HB := Lib.hid hb; clear hb
    by_cases hlt : k < zs.length
    · obtain ⟨b, off, rfl, hcell⟩ := (H.out.below (Nat.le_refl _) HB.out).at hlt
      have HX : Hid (permOk zs k = (inB (zs.getD k 0) 0 (zs.length - 1) && !decide (zs.getD k 0 ∈ zs.take k))) := rfl
      generalize hx : zs.getD k 0 = x at hcell HX
      cases hin : inB x 0 (zs.length - 1)
      · have HI := Lib.hid (fun w1 => hin ▸ l1In_any x 0 (zs.length - 1) w1)
        have HZ := Lib.hid hin
        have HO := Lib.hid hown; clear hown hx hin
        go_wp2_with (go_at_call 50; refine (HI.out _).mono ?_; rintro e w' ⟨rfl, rfl⟩)
        go_ret
        exact ⟨ret_bool (by rw [HE.out, allIx_no hlt (by rw [HX.out, HZ.out, Bool.false_and])]), HB.out⟩
      · obtain ⟨hx0, hx1⟩ := inB_iff.1 hin
        obtain ⟨j, rfl⟩ := Int.eq_ofNat_of_zero_le hx0
        have hj : j < zs.length := by omega
        have HI := Lib.hid (fun w1 => hin ▸ l1In_any j 0 (zs.length - 1) w1)
        have hc1 := hown.cellAt j (by omega)
        rw [seenL_at hj] at hc1
        have hf1 := hown.frozenAt j
        have R := hown.stored j (.bool true)
        rw [seenL_succ hlt hx] at R
        have HR := Lib.hid R
        have HZ := Lib.hid hin
        by_cases hs : (j : Int) ∈ zs.take k
        · rw [decide_eq_true hs] at hc1
          have HS := Lib.hid hs
          clear R hown hx hin hs hx0 hx1
          go_wp2_with (go_at_call 50; refine (HI.out _).mono ?_; rintro e w' ⟨rfl, rfl⟩)
          go_ret
          exact ⟨ret_bool (by rw [HE.out, allIx_no hlt (by rw [HX.out, decide_eq_true HS.out]; simp)]), HB.out⟩
        · rw [decide_eq_false hs] at hc1
          have HS := Lib.hid hs
          clear R hown hx hin hs hx0 hx1
          go_wp2_with (go_at_call 50; refine (HI.out _).mono ?_; rintro e w' ⟨rfl, rfl⟩)
          go_roundw
          case rel =>
            refine ⟨k + 1, by omega, by go_num, fun q hq => ?_, HR.out.1, HB.out.setCell (Nat.le_refl _) _⟩
            rcases Nat.lt_succ_iff_lt_or_eq.1 hq with h | rfl
            · exact HA.out q h
            · rw [HX.out, HZ.out, decide_eq_false HS.out]; rfl
          case measure => simp [intOf]; omega
    · clear hown
      go_wp2
      go_ret
      exact ⟨ret_bool (by rw [HE.out, allIx_yes (fun j hj => HA.out j (by omega))]), HB.out⟩

end Go.Proofs.YtoebegdepnigbaaDoor

/- Walks: the keys of records, by both packages. -/
namespace Go.Proofs.YtoebegdepnigbaaDoor
open Go.RowKit
set_option linter.unusedVariables false

def keysL (rs : List (Int × Int)) : List Int := rs.map Prod.fst
theorem keysL_succ {rs : List (Int × Int)} {k : Nat} (hk : k < rs.length) : keysL (rs.take (k + 1)) = keysL (rs.take k) ++ [(rs.getD k (0, 0)).1] := by
  unfold keysL
  rw [List.take_add_one, List.map_append]
  simp [List.getD, List.getElem?_eq_getElem hk]
theorem keysL_len (rs : List (Int × Int)) : (keysL rs).length = rs.length := by simp [keysL]

set_option maxRecDepth 100000 in
set_option maxHeartbeats 400000 in
theorem keysOf_any (a : Option Addr) (cap : Nat) (zs : List (Int × Int)) (w : World) (hlen : zs.length ≤ 1048576) (h : RecsAt w a zs) :
    Calls Tryd.prog 34 #[.slice a zs.length cap] w fun e w' => ∃ a' c', e = .returned (.slice a' (keysL zs).length c') ∧ w'.ownsRow w.heap.size 3 1 (.slice a' (keysL zs).length c') (keysL zs).length ((keysL zs).map (Value.int .i64)) ∧ Below w.heap.size w w' := by
  have H := Lib.hid h; clear h
  have e1 := own_lit (w := w) (e := 3) (size := 1) #[] 0 (by omega) rfl
  have E1 := Lib.hid e1; clear e1
  go_enter Tryd.func34, Tryd.ntmps34
  go_wp2
  go_loopw [3, 5, 9] (fun v _ i wr => ∃ k : Nat, k ≤ zs.length ∧ i = .int .i64 k ∧ wr.ownsRow w.heap.size 3 1 v (keysL (zs.take k)).length ((keysL (zs.take k)).map (Value.int .i64)) ∧ Below w.heap.size w wr) (fun _ _ i _ => zs.length - (intOf i).toNat)
  case atStart => exact ⟨0, by omega, rfl, E1.out, (Below.refl _ _).alloc (Nat.le_refl _) _⟩
  case round =>
    obtain ⟨k, hk, rfl, hown, hb⟩ := hrel
    clear E1
    by_cases hlt : k < zs.length
    · obtain ⟨b, off, rfl, hc1, hc2⟩ := (H.out.below (Nat.le_refl _) hb).at hlt
      have hs := keysL_succ hlt
      have hl : (keysL (zs.take k)).length = k := by rw [keysL_len]; simp; omega
      generalize hr : zs.getD k (0, 0) = r at hc1 hc2 hs
      have HS := Lib.hid hs; clear hs
      have HR := Lib.hid hr; clear hr
      obtain ⟨x, y⟩ := r
      have HO := Lib.hid hown; clear hown
      have HB := Lib.hid hb; clear hb
      have HL := Lib.hid hl
      have hn : (keysL (zs.take k)).length + 1 ≤ 1099511627776 := by omega
      have hbs := HB.out.size
      clear hl
      go_wp2_with (at_builtin; refine wpList_app1 slInt rfl (.tmp 13) (.tmp 16) rfl rfl (HO.out.alloc _) [.int .i64 x] rfl rfl (by simp) (by simp [Value.oneCell']) hn (by simp; omega) ?_; intro v' w1 hown' hg ht)
      have HO' := Lib.hid hown'
      have HB' := Lib.hid (below_app (HB.out.alloc hbs _) (by simp; omega) (HO.out.alloc _) (Nat.le_refl _) hg)
      clear hown' hg ht hbs hn
      go_roundw
      case rel =>
        refine ⟨k + 1, by omega, by go_num, ?_, HB'.out⟩
        rw [HS.out, List.length_append, List.map_append]
        exact HO'.out
      case measure => simp [intOf]; omega
    · rw [List.take_of_length_le (by omega)] at hown
      obtain ⟨a', c', rfl⟩ := own_slice hown
      have HO := Lib.hid hown; clear hown
      have HB := Lib.hid hb; clear hb
      go_wp2
      go_ret
      exact ⟨a', c', rfl, HO.out, HB.out⟩


set_option maxRecDepth 100000 in
set_option maxHeartbeats 400000 in
theorem l24Keys_any (a : Option Addr) (cap : Nat) (zs : List (Int × Int)) (w : World) (hlen : zs.length ≤ 1048576) (h : RecsAt w a zs) :
    Calls Tryd.prog 28 #[.slice a zs.length cap] w fun e w' => ∃ a' c', e = .returned (.slice a' (keysL zs).length c') ∧ w'.ownsRow w.heap.size 3 1 (.slice a' (keysL zs).length c') (keysL zs).length ((keysL zs).map (Value.int .i64)) ∧ Below w.heap.size w w' := by
  have H := Lib.hid h; clear h
  have e1 := own_lit (w := w) (e := 3) (size := 1) #[] 0 (by omega) rfl
  have E1 := Lib.hid e1; clear e1
  go_enter Tryd.func28, Tryd.ntmps28
  go_wp2
  go_loopw [3, 4] (fun v i wr => ∃ k : Nat, k ≤ zs.length ∧ i = .int .i64 k ∧ wr.ownsRow w.heap.size 3 1 v (keysL (zs.take k)).length ((keysL (zs.take k)).map (Value.int .i64)) ∧ Below w.heap.size w wr) (fun _ i _ => zs.length - (intOf i).toNat)
  case atStart => exact ⟨0, by omega, rfl, E1.out, (Below.refl _ _).alloc (Nat.le_refl _) _⟩
  case round =>
    obtain ⟨k, hk, rfl, hown, hb⟩ := hrel
    clear E1
    by_cases hlt : k < zs.length
    · obtain ⟨b, off, rfl, hc1, hc2⟩ := (H.out.below (Nat.le_refl _) hb).at hlt
      have hs := keysL_succ hlt
      have hl : (keysL (zs.take k)).length = k := by rw [keysL_len]; simp; omega
      generalize hr : zs.getD k (0, 0) = r at hc1 hc2 hs
      have HS := Lib.hid hs; clear hs
      have HR := Lib.hid hr; clear hr
      obtain ⟨x, y⟩ := r
      have HO := Lib.hid hown; clear hown
      have HB := Lib.hid hb; clear hb
      have hn : (keysL (zs.take k)).length + 1 ≤ 1099511627776 := by omega
      have hbs := HB.out.size
      have h3 : decide ((k : Int) < (zs.length : Int)) = true := by simp; omega
      clear hl
      go_wp2_with (at_builtin; refine wpList_app1 slInt rfl (.tmp 12) (.tmp 18) rfl rfl HO.out [.int .i64 x] rfl rfl (by simp) (by simp [Value.oneCell']) hn hbs ?_; intro v' w1 hown' hg ht)
      have HO' := Lib.hid hown'
      have HB' := Lib.hid (below_app HB.out hbs HO.out (Nat.le_refl _) hg)
      clear hown' hg ht hbs hn
      go_wp2
      go_roundw
      case rel =>
        refine ⟨k + 1, by omega, by go_num, ?_, HB'.out⟩
        rw [HS.out, List.length_append, List.map_append]
        exact HO'.out
      case measure => simp [intOf] <;> omega
    · rw [List.take_of_length_le (by omega)] at hown
      obtain ⟨a', c', rfl⟩ := own_slice hown
      have HO := Lib.hid hown; clear hown
      have HB := Lib.hid hb; clear hb
      go_wp2
      go_ret
      exact ⟨a', c', rfl, HO.out, HB.out⟩

end Go.Proofs.YtoebegdepnigbaaDoor

/- Walks: the text of a certificate, by both. -/
namespace Go.Proofs.YtoebegdepnigbaaDoor
open Go.RowKit
set_option linter.unusedVariables false

def fcOk (rs : List (Int × Int)) (cs : List Int) : Bool := okRecs rs && decide (cs.length = rs.length) && okPerm cs
def fcText (rs : List (Int × Int)) (cs : List Int) : ByteArray := ba (Cf.textC rs.length (fprint (keysL rs) 7).toNat cs)
def FfEnd (rs : List (Int × Int)) (cs : List Int) : Value := .tuple #[.string (if fcOk rs cs then fcText rs cs else ⟨#[]⟩), .bool (fcOk rs cs)]
theorem recs_len64 {rs : List (Int × Int)} (h : okRecs rs = true) : rs.length ≤ 64 := by
  unfold okRecs at h
  simp only [Bool.and_eq_true, decide_eq_true_eq] at h
  omega
theorem recs_keys {rs : List (Int × Int)} (h : okRecs rs = true) : okList (keysL rs) = true := by
  unfold okRecs at h
  simp only [Bool.and_eq_true, decide_eq_true_eq, List.all_eq_true] at h
  unfold okList
  simp only [Bool.and_eq_true, decide_eq_true_eq, List.all_eq_true]
  refine ⟨by rw [keysL_len]; exact h.1, fun x hx => ?_⟩
  unfold keysL at hx
  obtain ⟨r, hr, rfl⟩ := List.mem_map.1 hx
  have := h.2 r hr
  unfold okRec at this
  rw [Bool.and_eq_true] at this
  exact this.1
theorem perm_range {cs : List Int} (h : okPerm cs = true) : ∀ x ∈ cs, 0 ≤ x ∧ x < 64 := by
  intro x hx
  obtain ⟨k, hk, rfl⟩ := List.getElem_of_mem hx
  have h1 := okPerm_at h hk
  have h2 := okPerm_len h
  rw [List.getD_eq_getElem?_getD, List.getElem?_eq_getElem hk] at h1
  simp at h1
  omega
theorem itoa_ofNat (n : Nat) : Lib.itoa (n : Int) = Lib.decDigits n := itoa_nat n
theorem itoa_toNat {n : Int} (h : 0 ≤ n) : Lib.itoa n = Lib.decDigits n.toNat := by unfold Lib.itoa; rw [if_neg (by omega)]
theorem ordT_len {cs : List Int} (h : okPerm cs = true) : (Cf.ordT cs).length ≤ 1400 := by
  have h64 := okPerm_len h
  unfold Cf.ordT
  split
  · simp
  · have hl := join_le [44] (by simp) (m := 20) (xs := cs.map Lib.itoa) (fun x hx => by
      obtain ⟨n, hn, rfl⟩ := List.mem_map.1 hx
      have := perm_range h n hn
      exact itoa_len n (by omega) (by omega))
    rw [List.length_map] at hl
    have : cs.length * (20 + 1) ≤ 64 * 21 := Nat.mul_le_mul (by omega) (by omega)
    omega

/-- The sums that make the text's body. -/
theorem body_sums {n k : Nat} {cs : List Int} {N K O : ByteArray} (hN : bs N = Lib.decDigits n) (hK : bs K = Lib.decDigits k) (hO : bs O = Cf.ordT cs) :
    bs (((((⟨#[115, 111, 114, 116, 101, 100, 32]⟩ ++ N) ++ ⟨#[32, 107, 101, 121, 32]⟩) ++ K) ++ ⟨#[32, 111, 114, 100, 101, 114, 32]⟩) ++ O) = Cf.bodyC n k cs := by
  rw [bs_add, bs_add, bs_add, bs_add, bs_add, hN, hK, hO]
  rfl

set_option maxRecDepth 100000 in
set_option maxHeartbeats 8000000 in
theorem formatCertificate_any (a : Option Addr) (c : Nat) (rs : List (Int × Int)) (b : Option Addr) (d : Nat) (cs : List Int) (w : World) (hl1 : rs.length ≤ 9223372036854775807) (hl2 : cs.length ≤ 9223372036854775807) (ht : Tab w) (hR : RecsAt w a rs) (hI : IntsAt w b cs) :
    Calls Tryd.prog 10 #[.slice a rs.length c, .slice b cs.length d] w fun e w' => e = .returned (FfEnd rs cs) ∧ Below w.heap.size w w' := by
  have HV := Lib.hid (isValidRecords_any a c rs w hl1 hR)
  have HP := Lib.hid (fun w h => isValidPermutation_any b d cs w hl2 h)
  have HR := Lib.hid hR
  have HI := Lib.hid hI
  have HT := Lib.hid ht
  clear hR hI ht
  unfold FfEnd fcOk fcText
  cases h1 : okRecs rs
  all_goals rw [h1] at HV
  case false =>
    clear h1
    go_enter Tryd.func10, Tryd.ntmps10
    go_wp2_with fail
    refine HV.out.mono ?_
    rintro e w1 ⟨rfl, hb⟩
    have HB := Lib.hid hb; clear hb
    go_wp2
    go_ret2
    exact ⟨rfl, HB.out⟩
  by_cases h2 : cs.length = rs.length
  case neg =>
    have q2 : ((cs.length : Int) != (rs.length : Int)) = true := by simp; omega
    have e2 : decide (cs.length = rs.length) = false := decide_eq_false h2
    rw [e2]
    clear h1 e2
    go_enter Tryd.func10, Tryd.ntmps10
    go_wp2_with fail
    refine HV.out.mono ?_
    rintro e w1 ⟨rfl, hb⟩
    have HB := Lib.hid hb; clear hb
    go_wp2
    go_ret2
    exact ⟨rfl, HB.out⟩
  have q2 : ((cs.length : Int) != (rs.length : Int)) = false := by simp; omega
  have e2 : decide (cs.length = rs.length) = true := decide_eq_true h2
  rw [e2]
  have h64' : cs.length ≤ 9223372036854775807 := hl2
  have HQ2 := Lib.hid h2; clear h2
  cases h3 : okPerm cs
  all_goals rw [h3] at HP
  case false =>
    clear h1 e2 h3
    go_enter Tryd.func10, Tryd.ntmps10
    go_wp2_with fail
    refine HV.out.mono ?_
    rintro e w1 ⟨rfl, hb⟩
    have HB := Lib.hid hb; clear hb
    go_wp2_with fail
    refine (HP.out _ (HI.out.below (Nat.le_refl _) HB.out)).mono ?_
    rintro e w2 ⟨rfl, hb⟩
    have HB2 := Lib.hid (below_trI HB.out hb HB.out.size); clear hb
    go_wp2
    go_ret2
    exact ⟨rfl, HB2.out⟩
  have h64 := recs_len64 h1
  have hkl := keysL_len rs
  obtain ⟨hf0, hf1⟩ := fprint_bound 7 (keysL rs)
  have HKO := Lib.hid (fun w h => keysOf_any a c rs w (by omega) h)
  have HFP := Lib.hid (fun a cap w h => fingerprint_any a cap (keysL rs) 7 w (recs_keys h1) (by omega) (by omega) h)
  have HN := Lib.hid (fun w ht => itoaI_any (rs.length : Int) w (by omega) (by omega) ht)
  have HK := Lib.hid (fun w ht => itoaI_any (fprint (keysL rs) 7) w (by omega) (by omega) ht)
  have HT1 := Lib.hid (fun w ht h => numbersText_any b d cs 44 w (by have := HQ2.out; omega) (fun x hx => by have := perm_range h3 x hx; omega) ht h)
  have hN20 : (ba (Lib.itoa (rs.length : Int))).size ≤ 20 := by rw [ba_size]; exact itoa_len _ (by omega) (by omega)
  have hK20 : (ba (Lib.itoa (fprint (keysL rs) 7))).size ≤ 20 := by rw [ba_size]; exact itoa_len _ (by omega) (by omega)
  have hOl : (ba (numT 44 cs)).size ≤ 1400 := by rw [ba_size]; exact ordT_len h3
  have hBS := body_sums (n := rs.length) (k := (fprint (keysL rs) 7).toNat) (cs := cs) (N := ba (Lib.itoa (rs.length : Int))) (K := ba (Lib.itoa (fprint (keysL rs) 7))) (O := ba (numT 44 cs)) (itoa_ofNat _) (itoa_toNat hf0) rfl

  clear hf0 hf1 e2 q2 h1 h3 hkl
  have q2 : ((cs.length : Int) != (rs.length : Int)) = false := by have := HQ2.out; simp; omega
  generalize ba (Lib.itoa (rs.length : Int)) = N at HN hN20 hBS
  generalize fprint (keysL rs) 7 = f at HFP HK hK20 hBS ⊢
  generalize ba (Lib.itoa f) = K at HK hK20 hBS
  generalize ba (numT 44 cs) = O at HT1 hOl hBS
  have z1 : (ByteArray.mk #[115, 111, 114, 116, 101, 100, 32]).size = 7 := rfl
  have z2 : (ByteArray.mk #[32, 107, 101, 121, 32]).size = 5 := rfl
  have z3 : (ByteArray.mk #[32, 111, 114, 100, 101, 114, 32]).size = 7 := rfl
  have a1 := add_runs (P := Tryd.prog) (a := ⟨#[115, 111, 114, 116, 101, 100, 32]⟩) (b := N) (by decide) (by omega)
  have a2 := add_runs (P := Tryd.prog) (a := ⟨#[115, 111, 114, 116, 101, 100, 32]⟩ ++ N) (b := ⟨#[32, 107, 101, 121, 32]⟩) (by rw [size_add]; omega) (by decide)
  have a3 := add_runs (P := Tryd.prog) (a := ⟨#[115, 111, 114, 116, 101, 100, 32]⟩ ++ N ++ ⟨#[32, 107, 101, 121, 32]⟩) (b := K) (by rw [size_add, size_add]; omega) (by omega)
  have a4 := add_runs (P := Tryd.prog) (a := ⟨#[115, 111, 114, 116, 101, 100, 32]⟩ ++ N ++ ⟨#[32, 107, 101, 121, 32]⟩ ++ K) (b := ⟨#[32, 111, 114, 100, 101, 114, 32]⟩) (by rw [size_add, size_add, size_add]; omega) (by decide)
  have a5 := add_runs (P := Tryd.prog) (a := ⟨#[115, 111, 114, 116, 101, 100, 32]⟩ ++ N ++ ⟨#[32, 107, 101, 121, 32]⟩ ++ K ++ ⟨#[32, 111, 114, 100, 101, 114, 32]⟩) (b := O) (by rw [size_add, size_add, size_add, size_add]; omega) (by omega)
  have hsz : (⟨#[115, 111, 114, 116, 101, 100, 32]⟩ ++ N ++ ⟨#[32, 107, 101, 121, 32]⟩ ++ K ++ ⟨#[32, 111, 114, 100, 101, 114, 32]⟩ ++ O : ByteArray).size ≤ 3000 := by rw [size_add, size_add, size_add, size_add, size_add]; omega
  obtain ⟨s, hs⟩ : ∃ s : ByteArray, ⟨#[115, 111, 114, 116, 101, 100, 32]⟩ ++ N ++ ⟨#[32, 107, 101, 121, 32]⟩ ++ K ++ ⟨#[32, 111, 114, 100, 101, 114, 32]⟩ ++ O = s := ⟨_, rfl⟩
  rw [hs] at a5 hsz hBS
  have h35 : (35 : UInt8) ∉ bs s := by rw [hBS]; exact Cf.body_no35 _ _ _
  have HAC := Lib.hid (fun w ht => appendChecksum_ok s w hsz h35 ht)
  have HE : Hid (Value.string ⟨(Tx.sealL (bs s)).toArray⟩ = Value.string (ba (Cf.textC rs.length f.toNat cs))) := by
    show _ = _
    rw [hBS]; rfl
  clear hs h35
  clear z1 z2 z3 hsz hBS
  go_enter Tryd.func10, Tryd.ntmps10
  go_wp2_with fail
  refine HV.out.mono ?_
  rintro e w1 ⟨rfl, hb⟩
  have HB := Lib.hid hb; clear hb
  go_wp2_with fail
  refine (HP.out _ (HI.out.below (Nat.le_refl _) HB.out)).mono ?_
  rintro e w2 ⟨rfl, hb⟩
  have HB2 := Lib.hid (below_trI HB.out hb HB.out.size); clear hb HB
  go_wp2_with fail
  refine (HN.out _ (HT.out.below HB2.out)).mono ?_
  rintro e w3 ⟨rfl, hb⟩
  have HB3 := Lib.hid (below_trI HB2.out hb HB2.out.size); clear hb HB2
  go_wp2_with fail
  refine (HKO.out _ (HR.out.below (Nat.le_refl _) HB3.out)).mono ?_
  rintro e w4 ⟨ka, kc, rfl, ho, hb⟩
  have HB4 := Lib.hid (below_trI HB3.out hb HB3.out.size)
  have HKI := Lib.hid (ownInts ho)
  clear ho hb HB3
  go_wp2_with fail
  refine (HFP.out _ _ _ HKI.out).mono ?_
  rintro e w5 ⟨rfl, hb⟩
  subst hb
  go_wp2_with fail
  refine (HK.out _ (HT.out.below HB4.out)).mono ?_
  rintro e w6 ⟨rfl, hb⟩
  have HB6 := Lib.hid (below_trI HB4.out hb HB4.out.size); clear hb HB4
  go_wp2_with fail
  refine (HT1.out _ (HT.out.below HB6.out) (HI.out.below (Nat.le_refl _) HB6.out)).mono ?_
  rintro e w7 ⟨rfl, hb⟩
  have HB7 := Lib.hid (below_trI HB6.out hb HB6.out.size); clear hb HB6
  go_wp2_with fail
  refine (HAC.out _ (HT.out.below HB7.out)).mono ?_
  rintro e w8 ⟨rfl, hb⟩
  have HB8 := Lib.hid (below_trI HB7.out hb HB7.out.size); clear hb HB7
  go_wp2
  go_ret2
  exact ⟨ret_v2 (HE.out.trans rfl) rfl, HB8.out⟩

end Go.Proofs.YtoebegdepnigbaaDoor
