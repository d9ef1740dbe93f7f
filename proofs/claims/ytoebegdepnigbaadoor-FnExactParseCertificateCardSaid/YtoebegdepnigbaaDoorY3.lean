/- Several texts in one: lemmas and walks of the functions that the laws reach. -/
import Derived.Test.YtoebegdepnigbaaDoorY0
import Derived.Test.YtoebegdepnigbaaDoorY2
import Derived.Laws.AppendOwnNone
import Derived.Test.YtoebegdepnigbaaDoorY1
import Derived.Shelf.Strings.OnBuilder

/- General lemmas on append and make, no program in sight: what is appended to a list of the call's own, and which block it then lies in. -/
namespace Go.Proofs.YtoebegdepnigbaaDoor
open Go.RowKit
set_option linter.unusedVariables false

/-- What is known of a slice type and its element's type. -/
structure SlT (P : Program) (t e : TypeId) (z : Value) (size bytes : Nat) : Prop where
  und : P.underlying t = some (.slice e)
  info : ∃ i, P.info? e = some i ∧ i.zero = some z ∧ i.size = size ∧ i.bytes = bytes
  cells : z.cells.size = size
  pos : 0 < size
  small : bytes ≤ 128

theorem run_app_tag {P : Program} (w : World) {t e : TypeId} {z : Value} {size bytes : Nat} (T : SlT P t e z size bytes) (base : Nat) (ty : TypeId)
    (v : Value) (n : Nat) (xs : List Value) (hown : w.ownsRow base e size v n xs)
    (a : Addr) (m c : Nat) (news : List Value) (hl : news.length = m * size) (hnews : ∀ j u, news[j]? = some u → w.cell? (a.add j) = some u) (h1 : ∀ u ∈ news, u.oneCell' = true)
    (hsmall : n + m ≤ 1099511627776) (hbase : base ≤ w.heap.size) :
    ∃ v' w', (Builtin.append_ #[t, t] ty #[v, .slice (some a) m c]).run P w = .ok v' w' ∧ w'.ownsRow base e size v' (n + m) (xs ++ news) ∧ w.grownBy w' v.ownBlock ∧
      (v'.ownBlock = v.ownBlock ∨ v'.ownBlock = some w.heap.size) := by
  obtain ⟨i, hi, hz, hs, hby⟩ := T.info
  have hb47 : (n + m) * bytes ≤ 140737488355328 := by
    have := Nat.mul_le_mul hsmall T.small
    omega
  have hml : n + m ≤ maxLen := by unfold maxLen; omega
  obtain ⟨v', w', hr, g1, g2, g3⟩ := run_append_own (P := P) w base t ty e i z size bytes T.und hi hz hs hby T.cells T.pos v n xs hown a m c news hl hnews h1 hml hb47 hbase
  refine ⟨v', w', hr, g1, g2, ?_⟩
  subst hs
  rcases hown.2 with ⟨hv, hn⟩ | ⟨g, cap, cur, hv, _, hg, hnc, hcm, hcs, htake⟩
  · subst hn
    by_cases hm : m = 0
    · left; rw [g3.2 ⟨hv, hm⟩, hv]
    · right
      have h47 : m * i.bytes ≤ 281474976710656 := by rw [hby]; simp at hb47; omega
      have hq := run_append_nil (P := P) w t ty e i z T.und hi hz a m c news hl hnews (by omega) (by unfold maxLen at hml; omega) h47
      rw [hv] at hr
      rw [hr] at hq
      injection hq with e1 _
      rw [e1]; rfl
  · by_cases hroom : n + m ≤ cap
    · left
      have hfit : n * i.size + news.length ≤ cur.size := by rw [hl, hcs, ← Nat.add_mul]; exact Nat.mul_le_mul_right _ hroom
      have hq := run_append_room (P := P) w t ty e i T.und hi g n cap cur hg a m c news hl hnews h1 hroom hfit
      rw [hv] at hr
      rw [hr] at hq
      injection hq with e1 _
      rw [e1, hv]; rfl
    · right
      have holds : ∀ j u, xs[j]? = some u → w.cell? ((⟨g, 0, none⟩ : Addr).add j) = some u := hown.cells (g := g) (by rw [hv]; rfl)
      have hq := run_append_grow (P := P) w t ty e i z T.und hi hz ⟨g, 0, none⟩ n cap xs hown.1 holds a m c news hl hnews (by omega) (by unfold maxLen at hml; omega) (growslice_fits (by omega) (by rw [hby]; exact hb47))
      rw [hv] at hr
      rw [hr] at hq
      injection hq with e1 _
      rw [e1]; rfl

theorem grownBy_pre {w w' : World} {o : Obj} {row : Option Nat} (h : (w.alloc o).grownBy w' row) : w.grownBy w' row :=
  ⟨h.os, h.tape, h.output, Nat.le_trans (by simp) h.size, fun k hk hne => (h.block k (by simp; omega) hne).trans (Below.heap_alloc w o k hk)⟩

theorem addr_add_zero (g j : Nat) : (⟨g, 0, none⟩ : Addr).add j = ⟨g, j, none⟩ := by unfold Addr.add; split <;> simp_all

theorem cells_new (w : World) (news : List Value) (e : TypeId) : ∀ j u, news[j]? = some u → (w.alloc (.cells news.toArray e)).cell? ((⟨w.heap.size, 0, none⟩ : Addr).add j) = some u := by
  intro j u hu
  rw [addr_add_zero, cell_of_row _ w.heap.size j news.toArray e (0, 0) (heap_alloc_new w _)]
  simpa using hu

/-- 'append(s, x)', x one element that was just laid in a block of its own. -/
theorem wpList_app1 {P : Program} {w0 : World} {ops : Array Oper} {rest : List Oper} {o : Oper} {a : Act} {Q : Exit → Act → World → Prop} {t e : TypeId} {z : Value} {size bytes : Nat} (T : SlT P t e z size bytes)
    (hgd : o.guard = none) (s y : Operand) (ho : o.op = .call { callee := .builtin .append, args := #[s, y], argTypes := #[t, t] })
    {base : Nat} {v : Value} {n : Nat} {xs : List Value} (hs : a.eval s = v) (hown : w0.ownsRow base e size v n xs) (news : List Value) (hl : news.length = size)
    {b : Nat} (hx : a.eval y = .slice (some ⟨b, 0, none⟩) 1 1) (hb : w0.heap.size = b) (h1 : ∀ u ∈ news, u.oneCell' = true) (hsmall : n + 1 ≤ 1099511627776) (hbase : base ≤ w0.heap.size)
    (h : ∀ v' w', w'.ownsRow base e size v' (n + 1) (xs ++ news) → w0.grownBy w' v.ownBlock → (v'.ownBlock = v.ownBlock ∨ v'.ownBlock = some (w0.heap.size + 1)) → wpList P ops Q rest (a.put o.dst v') w') :
    wpList P ops Q (o :: rest) a (w0.alloc (.cells news.toArray e)) := by
  subst hb
  refine wpList_plain hgd fun K hK => ?_
  obtain ⟨v', w', hr, h2, h3, h4⟩ := run_app_tag (P := P) (w0.alloc (.cells news.toArray e)) T base o.type v n xs (hown.alloc _) ⟨w0.heap.size, 0, none⟩ 1 1 news (by omega) (cells_new w0 news e) h1 hsmall (by simp; omega)
  unfold Oper.wp execOp
  simp only [ho, resolve, invoke, builtin, Sem.run_bind, Sem.run_pure, Result.andThen_ok, List.map_toArray, List.map_cons, List.map_nil, hs, hx, hr]
  exact hK _ _ (h v' w' h2 (grownBy_pre h3) (by simpa using h4))

/-- 'make([]T, n)'. -/
theorem wpList_mk {P : Program} {w : World} {ops : Array Oper} {rest : List Oper} {o : Oper} {a : Act} {Q : Exit → Act → World → Prop} {t e : TypeId} {z : Value} {size bytes : Nat} (T : SlT P t e z size bytes)
    (hg : o.guard = none) (l c : Operand) (hop : o.op = Op.makeSlice t l c) (n : Nat) (hl : a.eval l = .int .i64 n) (hc : a.eval c = .int .i64 n) (hn : n ≤ 1099511627776)
    (hK : ∀ w', w'.ownsRow w.heap.size e size (.slice (some ⟨w.heap.size, 0, none⟩) n n) n (madeCells z.cells (n * size)).toList → Below w.heap.size w w' → w.heap.size < w'.heap.size → wpList P ops Q rest (a.put o.dst (.slice (some ⟨w.heap.size, 0, none⟩) n n)) w') :
    wpList P ops Q (o :: rest) a w := by
  obtain ⟨i, hi, hz, hs, hby⟩ := T.info
  refine wpList_make_full w hg l c t hop w.heap.size e i z size T.und hi hz hs .i64 .i64 n n n hl hc rfl rfl ?_ (by unfold maxLen; omega) (Nat.le_refl _) ?_
  · rw [hby]
    have := Nat.mul_le_mul T.small hn
    omega
  · intro w' h1 h2
    refine hK w' h1 ((Below.refl _ _).grown h2 (Nat.le_refl _) (fun k hk => by cases hk)) ?_
    exact (h1.lt w.heap.size rfl).2

/-- Behind 'append': what lies below is as it was. -/
theorem below_app {B : Nat} {w0 w w' : World} {v : Value} {base : Nat} {e : TypeId} {size n : Nat} {xs : List Value} (h : Below B w0 w) (hB : B ≤ w.heap.size) (hown : w.ownsRow base e size v n xs) (hbase : B ≤ base) (hg : w.grownBy w' v.ownBlock) : Below B w0 w' :=
  h.grown hg hB (fun k hk => Nat.le_trans hbase (hown.lt k hk).1)

/-- What another list owns is kept by an append, where the blocks are two. -/
theorem own_other {w w' : World} {base : Nat} {e : TypeId} {size n : Nat} {u : Value} {ys : List Value} {row : Option Nat} (h : w.ownsRow base e size u n ys) (hg : w.grownBy w' row) (hne : ∀ k, u.ownBlock = some k → row ≠ some k) : w'.ownsRow base e size u n ys := by
  refine h.kept hg ?_
  cases hu : u.ownBlock with
  | none => exact .inl rfl
  | some k => right; intro e; exact hne k hu e.symm

/-- A new list of literal elements. -/
theorem own_lit {w : World} {e : TypeId} {size : Nat} (cs : Array Value) (n : Nat) (hm : n ≤ 1099511627776) (hs : cs.size = n * size) :
    (w.alloc (.cells cs e)).ownsRow w.heap.size e size (.slice (some ⟨w.heap.size, 0, none⟩) n n) n cs.toList :=
  World.ownsRow_lit w cs n (Nat.le_refl _) (by unfold maxLen; omega) hs

theorem own_mono {w : World} {base base' : Nat} {e : TypeId} {size : Nat} {v : Value} {n : Nat} {xs : List Value} (h : w.ownsRow base e size v n xs) (hb : base' ≤ base) : w.ownsRow base' e size v n xs :=
  ⟨h.1, h.2.imp id fun ⟨g, cap, cur, hv, hg, r⟩ => ⟨g, cap, cur, hv, Nat.le_trans hb hg, r⟩⟩

end Go.Proofs.YtoebegdepnigbaaDoor

/- Walks on texts: the parts of a text, by the reference. -/
namespace Go.Proofs.YtoebegdepnigbaaDoor
open Go.RowKit
set_option linter.unusedVariables false

def splitL (c : UInt8) : List UInt8 → List (List UInt8)
  | [] => [[]]
  | x :: t => if x = c then [] :: splitL c t else match splitL c t with
    | [] => [[x]]
    | h :: r => (x :: h) :: r
theorem splitL_app {c : UInt8} (b : List UInt8) : ∀ {a : List UInt8}, c ∉ a → splitL c (a ++ c :: b) = a :: splitL c b
  | [], _ => by simp [splitL]
  | x :: t, h => by
    have hx : x ≠ c := fun e => h (by simp [e])
    have ih := splitL_app b (a := t) (fun m => h (List.mem_cons_of_mem _ m))
    rw [List.cons_append, splitL, if_neg hx, ih]
theorem splitL_none {c : UInt8} : ∀ {a : List UInt8}, c ∉ a → splitL c a = [a]
  | [], _ => rfl
  | x :: t, h => by
    have hx : x ≠ c := fun e => h (by simp [e])
    have ih := splitL_none (a := t) (fun m => h (List.mem_cons_of_mem _ m))
    rw [splitL, if_neg hx, ih]
theorem splitL_head (c : UInt8) (s : List UInt8) : ∃ r, splitL c s = Tx.upto c s :: r ∧ (c ∈ s ↔ r ≠ []) := by
  by_cases h : c ∈ s
  · obtain ⟨a, b, rfl, hn⟩ := Tx.parts h
    refine ⟨splitL c b, by rw [splitL_app b hn, Tx.upto_app b hn], ⟨fun _ e => ?_, fun _ => h⟩⟩
    by_cases hb : c ∈ b
    · obtain ⟨a', b', rfl, hn'⟩ := Tx.parts hb
      rw [splitL_app b' hn'] at e; cases e
    · rw [splitL_none hb] at e; cases e
  · exact ⟨[], by rw [splitL_none h, Tx.upto_none h], ⟨fun m => absurd m h, fun m => absurd rfl m⟩⟩
theorem splitL_len (c : UInt8) (s : List UInt8) : (splitL c s).length ≤ s.length + 1 := by
  induction s with
  | nil => simp [splitL]
  | cons x t ih =>
    rw [splitL]
    split
    · simp; omega
    · split
      · simp
      · rename_i h r e; rw [e] at ih; simp at ih ⊢; omega

theorem Tryd.infoS : (Tryd.prog.info? 9).map (fun i => (i.zero, i.size, i.bytes)) = some (some (.string ⟨#[]⟩), 1, 16) := by kernel_rfl
theorem slS : SlT Tryd.prog 65 9 (.string ⟨#[]⟩) 1 16 := ⟨Tryd.underlying65, info_parts Tryd.infoS, rfl, by decide, by decide⟩

def strL (l : List UInt8) : Value := .string (ba l)
def SplitEnd (w : World) (P : List (List UInt8)) (e : Ending) (w' : World) : Prop :=
  ∃ (a : Option Addr) (cap : Nat), e = .returned (.slice a P.length cap) ∧ w'.ownsRow w.heap.size 9 1 (.slice a P.length cap) P.length (P.map strL) ∧ Below w.heap.size w w'

theorem piece_bs (s : ByteArray) (a b : Nat) : bs (s.extract a b) = ((bs s).drop a).take (b - a) := by
  unfold bs; rw [Lib.extract_data]
theorem extract_bs' (s : ByteArray) (a : Nat) : bs (s.extract a s.size) = (bs s).drop a := by
  unfold bs; rw [Lib.extract_to_end]
theorem piece_str (s : ByteArray) (a b : Nat) : Value.string (s.extract a b) = strL (((bs s).drop a).take (b - a)) := by
  unfold strL; rw [← piece_bs, ba_bs]

set_option maxRecDepth 100000 in
set_option maxHeartbeats 2000000 in
theorem l1Split_any (s : ByteArray) (c : UInt8) (n : Int) (w : World) (hs : s.size ≤ 4000000000) (hn : n = (c.toNat : Int)) :
    Calls Tryd.prog 44 #[.string s, .int .u8 n] w (SplitEnd w (splitL c (bs s))) := by
  have HN := Lib.hid hn; clear hn
  have E1 := Lib.hid (own_lit (w := w) (e := 9) (size := 1) #[] 0 (by omega) rfl)
  go_enter Tryd.func44, Tryd.ntmps44
  go_wp2
  go_loopw [5, 6, 7] (fun v f i wr => ∃ (acc : List (List UInt8)) (f0 k : Nat), f0 ≤ k ∧ k ≤ s.size ∧ f = .int .i64 f0 ∧ i = .int .i64 k ∧ acc.length ≤ f0 ∧ acc ++ splitL c ((bs s).drop f0) = splitL c (bs s) ∧ c ∉ ((bs s).drop f0).take (k - f0) ∧
      wr.ownsRow w.heap.size 9 1 v acc.length (acc.map strL) ∧ Below w.heap.size w wr) (fun _ _ i _ => s.size - (intOf i).toNat)
  case atStart => exact ⟨[], 0, 0, by omega, by omega, rfl, rfl, by simp, by simp, by simp, E1.out, (Below.refl _ _).alloc (Nat.le_refl _) _⟩
  case round =>
    obtain ⟨acc, f0, k, hfk, hk, rfl, rfl, hacc, hspl, hno, hown, hb⟩ := hrel
    clear E1
    have HO := Lib.hid hown; clear hown
    have HB := Lib.hid hb; clear hb
    have HS := Lib.hid hspl; clear hspl
    have HX := Lib.hid hno; clear hno
    have hn40 : acc.length + 1 ≤ 1099511627776 := by omega
    have hbs : w.heap.size ≤ wr.heap.size := HB.out.size
    by_cases hlt : k < s.size
    · have hpiece : (bs s).drop f0 = ((bs s).drop f0).take (k - f0) ++ s[k] :: (bs s).drop (k + 1) := by
        have h1 := (List.take_append_drop (k - f0) ((bs s).drop f0)).symm
        have h2 : (bs s).drop k = s[k] :: (bs s).drop (k + 1) := List.drop_eq_getElem_cons (by rw [bs_len]; exact hlt)
        rw [List.drop_drop, show f0 + (k - f0) = k by omega, h2] at h1
        exact h1
      by_cases hc : s[k] = c
      · have hb1 : ((s[k].toNat : Int) == n) = true := by rw [HN.out, hc]; simp
        have HS2 : Hid ((acc ++ [((bs s).drop f0).take (k - f0)]) ++ splitL c ((bs s).drop (k + 1)) = splitL c (bs s)) := by
          show _ = _
          rw [← HS.out, hpiece, hc, splitL_app _ HX.out, List.append_assoc]
          rw [← hc, ← hpiece]; rfl
        have HP := Lib.hid (piece_str s f0 k)
        clear hpiece hc
        go_wp2_with (at_builtin; refine wpList_app1 slS rfl (.tmp 20) (.tmp 25) rfl rfl HO.out [.string (s.extract f0 k)] rfl rfl (by simp) (by simp [Value.oneCell']) hn40 hbs ?_; intro v' w2 hown2 hg2 ht2; have HO2 := Lib.hid hown2; have HB2 := Lib.hid (below_app HB.out hbs HO.out (Nat.le_refl _) hg2); clear hown2 hg2 ht2)
        go_roundw
        case rel =>
          refine ⟨acc ++ [((bs s).drop f0).take (k - f0)], k + 1, k + 1, by omega, by omega, by go_num, by go_num, by simp; omega, HS2.out, by simp, ?_, HB2.out⟩
          have h := HO2.out
          rw [HP.out] at h
          rw [List.length_append, List.map_append]
          exact h
        case measure => simp [intOf]; omega
      · have hb1 : ((s[k].toNat : Int) == n) = false := by
          rw [HN.out, beq_eq_false_iff_ne]
          intro e
          exact hc (UInt8.toNat_inj.1 (by omega))
        have HX2 : Hid (c ∉ ((bs s).drop f0).take (k + 1 - f0)) := by
          show c ∉ _
          rw [hpiece, show k + 1 - f0 = (k - f0) + 1 by omega]
          have hl : (((bs s).drop f0).take (k - f0)).length = k - f0 := by rw [List.length_take, List.length_drop, bs_len]; omega
          intro hm
          rw [List.take_append, hl, List.mem_append] at hm
          rcases hm with hm | hm
          · exact HX.out (List.mem_of_mem_take hm)
          · rw [show k - f0 + 1 - (k - f0) = 1 by omega] at hm
            simp at hm
            exact hc hm.symm
        clear hpiece hc
        go_wp2
        go_roundw
        case rel => exact ⟨acc, f0, k + 1, by omega, by omega, rfl, by go_num, hacc, HS.out, HX2.out, HO.out, HB.out⟩
        case measure => simp [intOf]; omega
    · obtain rfl : k = s.size := by omega
      have HE : Hid (acc ++ [((bs s).drop f0).take (s.size - f0)] = splitL c (bs s)) := by
        show _ = _
        rw [← HS.out]
        have e : ((bs s).drop f0).take (s.size - f0) = (bs s).drop f0 := List.take_of_length_le (by rw [List.length_drop, bs_len]; omega)
        have h := HX.out
        rw [e] at h ⊢
        rw [splitL_none h]
      have HP := Lib.hid (piece_str s f0 s.size)
      go_wp2_with (at_builtin; refine wpList_app1 slS rfl (.tmp 29) (.tmp 33) rfl rfl HO.out [.string (s.extract f0 s.size)] rfl rfl (by simp) (by simp [Value.oneCell']) hn40 hbs ?_; intro v' w2 hown2 hg2 ht2; have HO2 := Lib.hid hown2; have HB2 := Lib.hid (below_app HB.out hbs HO.out (Nat.le_refl _) hg2); clear hown2 hg2 ht2)
      go_ret
      obtain ⟨a', c', hv⟩ := own_slice HO2.out
      have h := HO2.out
      rw [hv, HP.out] at h
      refine ⟨a', c', ?_, ?_, HB2.out⟩
      · show Ending.returned v' = _
        rw [hv, ← HE.out, List.length_append]; rfl
      · rw [← HE.out, List.length_append, List.map_append]
        exact h

end Go.Proofs.YtoebegdepnigbaaDoor

/- General lemmas: two lists of the call's own that grow side by side. -/
namespace Go.Proofs.YtoebegdepnigbaaDoor
open Go.RowKit
set_option linter.unusedVariables false

/-- Two lists that the call owns, in two blocks. -/
structure Two (w : World) (base : Nat) (e1 : TypeId) (s1 : Nat) (v : Value) (n : Nat) (xs : List Value) (e2 : TypeId) (s2 : Nat) (u : Value) (m : Nat) (ys : List Value) : Prop where
  fst : w.ownsRow base e1 s1 v n xs
  snd : w.ownsRow base e2 s2 u m ys
  ne : ∀ k, v.ownBlock = some k → u.ownBlock ≠ some k

theorem Two.below {w w' : World} {base : Nat} {e1 e2 : TypeId} {s1 s2 n m : Nat} {v u : Value} {xs ys : List Value} (h : Two w base e1 s1 v n xs e2 s2 u m ys) (hb : Below w.heap.size w w') : Two w' base e1 s1 v n xs e2 s2 u m ys :=
  ⟨own_below h.1 (Nat.le_refl _) hb, own_below h.2 (Nat.le_refl _) hb, h.3⟩

theorem Two.app1 {w w' : World} {base : Nat} {e1 e2 : TypeId} {s1 s2 n m n' : Nat} {v u v' : Value} {xs ys xs' : List Value} (h : Two w base e1 s1 v n xs e2 s2 u m ys)
    (ho : w'.ownsRow base e1 s1 v' n' xs') (hg : w.grownBy w' v.ownBlock) (ht : v'.ownBlock = v.ownBlock ∨ v'.ownBlock = some (w.heap.size + 1)) : Two w' base e1 s1 v' n' xs' e2 s2 u m ys := by
  refine ⟨ho, ?_, ?_⟩
  · refine own_other h.2 hg fun k hk e => ?_
    exact h.3 k e hk
  · intro k hk hu
    rcases ht with ht | ht
    · rw [ht] at hk; exact h.3 k hk hu
    · rw [ht] at hk
      have := (h.2.lt k hu).2
      simp only [Option.some.injEq] at hk
      omega

theorem Two.app2 {w w' : World} {base : Nat} {e1 e2 : TypeId} {s1 s2 n m m' : Nat} {v u u' : Value} {xs ys ys' : List Value} (h : Two w base e1 s1 v n xs e2 s2 u m ys)
    (ho : w'.ownsRow base e2 s2 u' m' ys') (hg : w.grownBy w' u.ownBlock) (ht : u'.ownBlock = u.ownBlock ∨ u'.ownBlock = some (w.heap.size + 1)) : Two w' base e1 s1 v n xs e2 s2 u' m' ys' := by
  refine ⟨?_, ho, ?_⟩
  · refine own_other h.1 hg fun k hk e => ?_
    exact h.3 k hk e
  · intro k hk hu
    rcases ht with ht | ht
    · rw [ht] at hu; exact h.3 k hk hu
    · rw [ht] at hu
      have := (h.1.lt k hk).2
      simp only [Option.some.injEq] at hu
      omega

/-- 'append(s, u...)', u a list that is owned (nil too). -/
theorem wpList_appL {P : Program} {w : World} {ops : Array Oper} {rest : List Oper} {o : Oper} {a : Act} {Q : Exit → Act → World → Prop} {t e : TypeId} {z : Value} {size bytes : Nat} (T : SlT P t e z size bytes)
    (hgd : o.guard = none) (s y : Operand) (ho : o.op = .call { callee := .builtin .append, args := #[s, y], argTypes := #[t, t] })
    {base base2 : Nat} {v u : Value} {n m : Nat} {xs ys : List Value} (hs : a.eval s = v) (hown : w.ownsRow base e size v n xs) (hy : a.eval y = u) (hu : w.ownsRow base2 e size u m ys)
    (h1 : ∀ x ∈ ys, x.oneCell' = true) (hsmall : n + m ≤ 1099511627776) (hbase : base ≤ w.heap.size)
    (h : ∀ v' w', w'.ownsRow base e size v' (n + m) (xs ++ ys) → w.grownBy w' v.ownBlock → (v'.ownBlock = v.ownBlock ∨ v'.ownBlock = some w.heap.size) → wpList P ops Q rest (a.put o.dst v') w') :
    wpList P ops Q (o :: rest) a w := by
  have hl := hu.1
  rcases hu.2 with ⟨hu1, hm⟩ | ⟨g, cap, cur, hv, hg⟩
  · subst hm
    have hys : ys = [] := List.eq_nil_of_length_eq_zero (by simpa using hl)
    subst hys
    obtain ⟨i, hi, hz, hsz, hby⟩ := T.info
    refine wpList_append_own_none hgd s y t ho base e i size T.und hi v n xs hs hown (by rw [hy, hu1]) ?_
    refine h v w (by simpa using hown) ⟨rfl, rfl, rfl, Nat.le_refl _, fun _ _ _ => rfl⟩ (.inl rfl)
  · refine wpList_plain hgd fun K hK => ?_
    have hcells : ∀ j x, ys[j]? = some x → w.cell? ((⟨g, 0, none⟩ : Addr).add j) = some x := hu.cells (g := g) (by rw [hv]; rfl)
    obtain ⟨v', w', hr, h2, h3, h4⟩ := run_app_tag (P := P) w T base o.type v n xs hown ⟨g, 0, none⟩ m cap ys hl hcells h1 hsmall hbase
    unfold Oper.wp execOp
    simp only [ho, resolve, invoke, builtin, Sem.run_bind, Sem.run_pure, Result.andThen_ok, List.map_toArray, List.map_cons, List.map_nil, hs, hy, hv, hr]
    exact hK _ _ (h v' w' h2 h3 h4)

theorem own_at {w : World} {base : Nat} {e : TypeId} {a : Option Addr} {n c : Nat} {xs : List Value} (h : w.ownsRow base e 1 (.slice a n c) n xs) {i : Nat} {x : Value} (hx : xs[i]? = some x) :
    ∃ g, a = some ⟨g, 0, none⟩ ∧ w.cell? ⟨g, i, none⟩ = some x ∧ base ≤ g ∧ g < w.heap.size := by
  have hi : i < xs.length := (List.getElem?_eq_some_iff.1 hx).1
  obtain ⟨h1, h2⟩ := h
  rcases h2 with ⟨h2, h3⟩ | ⟨g, cap, cur, hv, hb, hg, hn, hc, hs, ht⟩
  · simp [h3] at h1; subst h1; simp at hi
  · simp only [Value.slice.injEq] at hv
    obtain ⟨rfl, _, rfl⟩ := hv
    refine ⟨g, rfl, ?_, hb, (Array.getElem?_eq_some_iff.1 hg).1⟩
    rw [← ht, List.getElem?_take] at hx
    split at hx
    · simp [World.cell?, hg]
      simpa using hx
    · cases hx

end Go.Proofs.YtoebegdepnigbaaDoor

/- Walks on texts: signed numerals by both; joined numerals; 'numbersText' of the program. -/
namespace Go.Proofs.YtoebegdepnigbaaDoor
open Go.RowKit
set_option linter.unusedVariables false

theorem join_snoc (sep y : List UInt8) : ∀ xs : List (List UInt8), Lib.join (xs ++ [y]) sep = (if xs = [] then [] else Lib.join xs sep ++ sep) ++ y
  | [] => by simp [Lib.join_one]
  | x :: r => by
    rw [List.cons_append, Lib.join_cons, Lib.join_cons, if_neg (by simp)]
    simp [Lib.joinTail]
theorem itoa_len (n : Int) (h0 : -9223372036854775808 ≤ n) (h1 : n ≤ 9223372036854775807) : (Lib.itoa n).length ≤ 20 := by
  unfold Lib.itoa
  split
  · have := Tx.digits_len 18 n.natAbs (by omega)
    simp; omega
  · have := Tx.digits_len 18 n.toNat (by omega)
    omega
theorem join_le {m : Nat} (sep : List UInt8) (hs : sep.length ≤ 1) : ∀ {xs : List (List UInt8)}, (∀ x ∈ xs, x.length ≤ m) → (Lib.join xs sep).length ≤ xs.length * (m + 1)
  | [], _ => by simp [Lib.join]
  | [x], h => by have := h x (by simp); rw [Lib.join_one]; simp; omega
  | x :: y :: r, h => by
    have ih := join_le sep hs (xs := y :: r) (fun z hz => h z (List.mem_cons_of_mem _ hz))
    have hx := h x (by simp)
    rw [Lib.join_length] at ih ⊢
    simp only [Lib.lens, List.length_cons, List.map_cons, List.sum_cons] at ih ⊢
    have e : (r.length + 1 + 1) * (m + 1) = (r.length + 1) * (m + 1) + (m + 1) := by rw [Nat.add_mul, Nat.one_mul]
    have e2 : sep.length * (r.length + 1) = sep.length * r.length + sep.length := by rw [Nat.mul_succ]
    omega

theorem itoaI_any (n : Int) (w : World) (h0 : -9223372036854775808 ≤ n) (h1 : n ≤ 9223372036854775807) (ht : Tab w) :
    Calls Tryd.prog 32 #[.int .i64 n] w fun e w' => e = .returned (.string (ba (Lib.itoa n))) ∧ Below w.heap.size w w' :=
  (Tryd.strconv_Itoa n h0 h1 w ht).mono fun e w' ⟨he, k, os, hw⟩ => ⟨he, by rw [hw]; exact Lib.below_grow _ _ (Nat.le_refl _) _ _⟩

set_option maxRecDepth 100000 in
set_option maxHeartbeats 400000 in
theorem l1NumI_any (n : Int) (w : World) (h0 : -9000000000000000000 ≤ n) (h1 : n ≤ 9000000000000000000) :
    Calls Tryd.prog 25 #[.int .i64 n] w fun e w' => e = .returned (.string (ba (Lib.itoa n))) ∧ ∃ m, w' = w.drewN m := by
  by_cases hn : n < 0
  · have e : Lib.itoa n = 45 :: Lib.decDigits n.natAbs := by unfold Lib.itoa; rw [if_pos hn]
    have hN := fun w => l1Num_any 9000000000000000000 (-n) w (by omega) (by omega) (by omega)
    rw [show (-n).toNat = n.natAbs by omega] at hN
    have HN := Lib.hid hN; clear hN
    have hl := Tx.digits_len 18 n.natAbs (by omega)
    have hsz : (ByteArray.mk (Lib.decDigits n.natAbs).toArray).size ≤ 19 := by rw [size_mk]; exact hl
    have a1 := add_runs (P := Tryd.prog) (a := ⟨#[45]⟩) (b := ⟨(Lib.decDigits n.natAbs).toArray⟩) (by decide) (by omega)
    have HE : Hid ((⟨#[45]⟩ : ByteArray) ++ ⟨(Lib.decDigits n.natAbs).toArray⟩ = ba (Lib.itoa n)) := by
      show _ = _
      rw [e]; unfold ba; ext1; simp [ByteArray.data_append]
    clear e hl
    generalize (ByteArray.mk (Lib.decDigits n.natAbs).toArray) = t at HN hsz a1 HE
    go_enter Tryd.func25, Tryd.ntmps25
    go_wp2_with fail
    refine (HN.out _).mono ?_
    rintro e w' ⟨rfl, m, rfl⟩
    go_wp2
    go_ret
    exact ⟨ret_str HE.out, _, rfl⟩
  · have h := l1Num_any 9000000000000000000 n w (by omega) (by omega) (by omega)
    rw [show Lib.decDigits n.toNat = Lib.itoa n by unfold Lib.itoa; rw [if_neg hn]] at h
    exact h

theorem below_trI {B : Nat} {w w1 w2 : World} (h : Below B w w1) (hb : Below w1.heap.size w1 w2) (hB : B ≤ w1.heap.size) : Below B w w2 := h.trans (hb.mono hB)
def numB (n : Int) : ByteArray := ba (Lib.itoa n)
theorem numB_size {n : Int} (h0 : -9223372036854775808 ≤ n) (h1 : n ≤ 9223372036854775807) : (numB n).size ≤ 20 := by unfold numB; rw [ba_size]; exact itoa_len n h0 h1
theorem l1NumB_any (n : Int) (w : World) (h0 : -1000000 ≤ n) (h1 : n ≤ 1000000) : Calls Tryd.prog 25 #[.int .i64 n] w fun e w' => e = .returned (.string (numB n)) ∧ ∃ m, w' = w.drewN m := l1NumI_any n w (by omega) (by omega)
theorem itoaB_any (n : Int) (w : World) (h0 : -1000000 ≤ n) (h1 : n ≤ 1000000) (ht : Tab w) : Calls Tryd.prog 32 #[.int .i64 n] w fun e w' => e = .returned (.string (numB n)) ∧ Below w.heap.size w w' := itoaI_any n w (by omega) (by omega) ht

def numT (sep : UInt8) (zs : List Int) : List UInt8 := if zs = [] then [45] else Lib.join (zs.map Lib.itoa) [sep]
theorem own_strs {w : World} {base g n c : Nat} {xs : List (List UInt8)} (h : w.ownsRow base 9 1 (.slice (some ⟨g, 0, none⟩) n c) n (xs.map strL)) : ∀ (j : Nat) x, (xs.map ba)[j]? = some x → w.cell? ⟨g, 0 + j, none⟩ = some (.string x) := by
  intro j x hx
  have hj := h.cells (g := g) rfl j (.string x) (by rw [List.getElem?_map] at hx ⊢; cases hq : xs[j]? with
    | none => rw [hq] at hx; simp at hx
    | some y => rw [hq] at hx; simp at hx; rw [← hx]; rfl)
  rw [addr_add_zero] at hj
  rw [Nat.zero_add]; exact hj
theorem data_ba (xs : List (List UInt8)) : (xs.map ba).map (·.data.toList) = xs := by
  rw [List.map_map]
  conv => rhs; rw [← List.map_id xs]
  rfl
theorem join_any (g c : Nat) (xs : List (List UInt8)) (sep : UInt8) (w : World) (hn : xs.length ≤ 1000) (hx : ∀ x ∈ xs, x.length ≤ 100) (base : Nat) (h : w.ownsRow base 9 1 (.slice (some ⟨g, 0, none⟩) xs.length c) xs.length (xs.map strL)) :
    Calls Tryd.prog 42 #[.slice (some ⟨g, 0, none⟩) xs.length c, .string ⟨#[sep]⟩] w fun e w' => e = .returned (.string (ba (Lib.join xs [sep]))) ∧ Below w.heap.size w w' := by
  have hl := join_le [sep] (by simp) hx
  have hc : xs.length ≤ c := by
    rcases h.2 with ⟨h2, _⟩ | ⟨g', cap, cur, hv, _, _, hn', _⟩
    · cases h2
    · simp only [Value.slice.injEq] at hv
      obtain ⟨_, _, rfl⟩ := hv
      exact hn'
  have hj := Tryd.strings_Join g 0 c (xs.map ba) ⟨#[sep]⟩ w (own_strs h) (h.lt g rfl).2 (by simp; omega) (by simpa using hc) (by rw [data_ba]; show (Lib.join xs [sep]).length ≤ _; omega)
  rw [data_ba, List.length_map] at hj
  exact hj

theorem itoas_succ {zs : List Int} {k : Nat} (hk : k < zs.length) : (zs.take (k + 1)).map Lib.itoa = (zs.take k).map Lib.itoa ++ [Lib.itoa (zs.getD k 0)] := by
  rw [List.take_add_one, List.map_append]
  simp [List.getD, List.getElem?_eq_getElem hk]

set_option maxRecDepth 100000 in
set_option maxHeartbeats 2000000 in
theorem numbersText_any (a : Option Addr) (c : Nat) (zs : List Int) (sep : UInt8) (w : World) (hl : zs.length ≤ 1000) (hz : ∀ x ∈ zs, -9223372036854775808 ≤ x ∧ x ≤ 9223372036854775807) (ht : Tab w) (h : IntsAt w a zs) :
    Calls Tryd.prog 36 #[.slice a zs.length c, .string ⟨#[sep]⟩] w fun e w' => e = .returned (.string (ba (numT sep zs))) ∧ Below w.heap.size w w' := by
  by_cases h0 : zs = []
  · subst h0
    go_enter Tryd.func36, Tryd.ntmps36
    go_wp2
    go_ret
    exact ⟨rfl, Below.refl _ _⟩
  have hpos : 0 < zs.length := List.length_pos_iff.2 h0
  have HN : Hid (numT sep zs = Lib.join (zs.map Lib.itoa) [sep]) := if_neg h0
  have H := Lib.hid h
  have HT := Lib.hid ht
  have HZ := Lib.hid hz
  have q0 : decide ((zs.length : Int) = 0) = false := decide_eq_false (by omega)
  have E1 := Lib.hid (own_lit (w := w) (e := 9) (size := 1) #[] 0 (by omega) rfl)
  clear h ht hz h0
  go_enter Tryd.func36, Tryd.ntmps36
  go_wp2
  go_loopw [5, 14] (fun v i wr => ∃ k : Nat, k ≤ zs.length ∧ i = .int .i64 k ∧ wr.ownsRow w.heap.size 9 1 v k (((zs.take k).map Lib.itoa).map strL) ∧ Below w.heap.size w wr) (fun _ i _ => zs.length - (intOf i).toNat)
  case atStart => exact ⟨0, by omega, rfl, E1.out, (Below.refl _ _).alloc (Nat.le_refl _) _⟩
  case round =>
    obtain ⟨k, hk, rfl, hown, hb⟩ := hrel
    clear E1
    have HO := Lib.hid hown; clear hown
    have HB := Lib.hid hb; clear hb
    by_cases hlt : k < zs.length
    · have hc1 := (H.out.below (Nat.le_refl _) HB.out).at hlt
      have hxr : -9223372036854775808 ≤ zs.getD k 0 ∧ zs.getD k 0 ≤ 9223372036854775807 := HZ.out _ (by rw [List.getD_eq_getElem?_getD, List.getElem?_eq_getElem hlt]; exact List.getElem_mem hlt)
      have hs := itoas_succ hlt
      obtain ⟨x, hx⟩ : ∃ x, zs.getD k 0 = x := ⟨_, rfl⟩
      rw [hx] at hc1 hxr hs
      have HS := Lib.hid hs; clear hs hx
      have HI := Lib.hid (itoaI_any x wr hxr.1 hxr.2 (HT.out.below HB.out))
      have hn : k + 1 ≤ 1099511627776 := by omega
      obtain ⟨b, off, rfl, hc1⟩ := hc1
      go_wp2_with fail
      refine HI.out.mono ?_
      rintro e w1 ⟨rfl, hb1⟩
      have HO1 := Lib.hid (own_below HO.out (Nat.le_refl _) hb1)
      have HB1 := Lib.hid (below_trI HB.out hb1 HB.out.size)
      have hbs := HB1.out.size
      clear hb1 HO HB
      go_wp2_with (at_builtin; refine wpList_app1 slS rfl (.tmp 18) (.tmp 21) rfl rfl HO1.out [.string (ba (Lib.itoa x))] rfl rfl (by simp) (by simp [Value.oneCell']) hn hbs ?_; intro v' w2 hown2 hg2 ht2)
      have HO2 := Lib.hid hown2
      have HB2 := Lib.hid (below_app HB1.out hbs HO1.out (Nat.le_refl _) hg2)
      clear hown2 hg2 ht2 hbs hn
      go_roundw
      case rel =>
        refine ⟨k + 1, by omega, by go_num, ?_, HB2.out⟩
        rw [HS.out, List.map_append]
        exact HO2.out
      case measure => simp [intOf]; omega
    · obtain rfl : k = zs.length := by omega
      have ho := HO.out
      rw [List.take_length] at ho
      obtain ⟨a', c', rfl⟩ := own_slice ho
      obtain ⟨g, rfl, _⟩ := own_at (i := 0) (x := strL (Lib.itoa (zs.getD 0 0))) ho (by rw [List.map_map, List.getElem?_map, List.getElem?_eq_getElem hpos]; simp [List.getD, List.getElem?_eq_getElem hpos])
      have HJ : Hid _ := Lib.hid (join_any g c' (zs.map Lib.itoa) sep wr (by simpa using hl) (fun x hx => by obtain ⟨n, hn, rfl⟩ := List.mem_map.1 hx; have := itoa_len n (HZ.out n hn).1 (HZ.out n hn).2; omega) w.heap.size (by rw [List.length_map]; exact ho))
      have HJ2 : Hid _ := Lib.hid (by have h := HJ.out; rw [List.length_map] at h; exact h)
      clear ho HO HJ
      go_wp2_with fail
      refine HJ2.out.mono ?_
      rintro e w3 ⟨rfl, hb3⟩
      have HB3 := Lib.hid (below_trI HB.out hb3 HB.out.size)
      clear hb3
      go_wp2
      go_ret
      exact ⟨ret_str (by rw [HN.out]), HB3.out⟩

end Go.Proofs.YtoebegdepnigbaaDoor

/- General lemmas on lists of structs laid flat, no program in sight. -/
namespace Go.Proofs.YtoebegdepnigbaaDoor
open Go.RowKit
set_option linter.unusedVariables false

/-- Elements of several cells, one behind the other. -/
def flat {α : Type} (enc : α → List Value) (rs : List α) : List Value := rs.flatMap enc

theorem flat_append {α : Type} (enc : α → List Value) (rs qs : List α) : flat enc (rs ++ qs) = flat enc rs ++ flat enc qs := by simp [flat]
theorem flat_one {α : Type} (enc : α → List Value) (r : α) : flat enc [r] = enc r := by simp [flat]
theorem flat_nil {α : Type} (enc : α → List Value) : flat enc [] = [] := rfl
theorem flat_length {α : Type} {enc : α → List Value} {S : Nat} (hS : ∀ r, (enc r).length = S) (rs : List α) : (flat enc rs).length = rs.length * S := by
  induction rs with
  | nil => simp [flat]
  | cons r t ih =>
    have : flat enc (r :: t) = enc r ++ flat enc t := rfl
    rw [this, List.length_append, ih, hS]; simp [Nat.add_mul]; omega

theorem flat_get {α : Type} {enc : α → List Value} {S : Nat} (hS : ∀ r, (enc r).length = S) (rs : List α) (j i : Nat) (hi : i < S) : (flat enc rs)[j * S + i]? = rs[j]?.bind fun r => (enc r)[i]? := by
  induction rs generalizing j with
  | nil => simp [flat]
  | cons r t ih =>
    have e : flat enc (r :: t) = enc r ++ flat enc t := rfl
    rw [e]
    cases j with
    | zero => rw [List.getElem?_append_left (by rw [hS]; omega)]; simp
    | succ j =>
      rw [List.getElem?_append_right (by rw [hS, Nat.add_mul]; omega), hS]
      rw [show (j + 1) * S + i - S = j * S + i from by rw [Nat.add_mul]; omega, ih]
      simp

theorem flat_ext {α : Type} {enc : α → List Value} {S : Nat} (hS : ∀ r, (enc r).length = S) (h0 : 0 < S) {l : List Value} {rs : List α} (hl : l.length = rs.length * S)
    (h : ∀ j i, j < rs.length → i < S → l[j * S + i]? = rs[j]?.bind fun r => (enc r)[i]?) : l = flat enc rs := by
  apply List.ext_getElem?
  intro q
  by_cases hq : q < rs.length * S
  · have hj : q / S < rs.length := (Nat.div_lt_iff_lt_mul h0).2 hq
    have hi : q % S < S := Nat.mod_lt _ h0
    have := h (q / S) (q % S) hj hi
    rw [← flat_get hS rs _ _ hi] at this
    rwa [Nat.mul_comm, Nat.div_add_mod] at this
  · rw [List.getElem?_eq_none (by omega), List.getElem?_eq_none (by rw [flat_length hS]; omega)]

/-- A list whose first k elements are laid, the others still zero. -/
def fillL {α : Type} (n k : Nat) (f : Nat → α) (z : α) : List α := (List.range n).map fun j => if j < k then f j else z
theorem fillL_length {α : Type} (n k : Nat) (f : Nat → α) (z : α) : (fillL n k f z).length = n := by simp [fillL]
theorem fillL_zero {α : Type} (n : Nat) (f : Nat → α) (z : α) : fillL n 0 f z = List.replicate n z := by
  apply List.ext_getElem <;> simp [fillL]
theorem fillL_succ {α : Type} {n k : Nat} (f : Nat → α) (z : α) (h : k < n) : (fillL n k f z).set k (f k) = fillL n (k + 1) f z := by
  apply List.ext_getElem
  · simp [fillL]
  · intro j h1 h2
    simp only [fillL, List.getElem_set, List.getElem_map, List.getElem_range]
    by_cases e : k = j
    · subst e; simp
    · rw [if_neg e]
      by_cases hl : j < k
      · rw [if_pos hl, if_pos (by omega)]
      · rw [if_neg hl, if_neg (by omega)]
theorem fillL_end {α : Type} (zs : List α) (d z : α) : fillL zs.length zs.length (fun j => zs.getD j d) z = zs := by
  apply List.ext_getElem
  · simp [fillL]
  · intro j h1 h2
    simp [fillL, h2, List.getD]

/-- Two cells at one element are written. -/
theorem flat_set2 {α : Type} {enc : α → List Value} (hS : ∀ r, (enc r).length = 2) (rs : List α) (k : Nat) (hk : k < rs.length) (r : α) (x y : Value) (he : enc r = [x, y]) :
    ((flat enc rs).set (k * 2) x).set (k * 2 + 1) y = flat enc (rs.set k r) := by
  apply flat_ext hS (by omega)
  · simp [flat_length hS]
  · intro j i hj hi
    have hj' : j < rs.length := by simpa using hj
    rw [List.getElem?_set, List.getElem?_set]
    have hL : (flat enc rs).length = rs.length * 2 := flat_length hS rs
    by_cases e : k = j
    · subst e
      rw [List.getElem?_set_self hk, Option.bind_some, he]
      match i, hi with
      | 0, _ => rw [if_neg (by omega), if_pos (by omega), if_pos (by omega)]; rfl
      | 1, _ => rw [if_pos (by omega), if_pos (by simp; omega)]; rfl
    · rw [List.getElem?_set_ne e, if_neg (by omega), if_neg (by omega), flat_get hS _ _ _ hi]

/-- What 'make' lays, where an element has two cells. -/
theorem made2 {α : Type} {enc : α → List Value} (hS : ∀ r, (enc r).length = 2) (z : α) (x y : Value) (he : enc z = [x, y]) (n : Nat) : (madeCells #[x, y] (n * 2)).toList = flat enc (List.replicate n z) := by
  apply flat_ext hS (by omega)
  · simp [madeCells]
  · intro j i hj hi
    have hj' : j < n := by simpa using hj
    have : j * 2 + i < n * 2 := by omega
    have e2 : (j * 2 + i) % 2 = i := by omega
    simp only [madeCells, Array.toList_map, List.getElem?_map, Array.toList_range, List.getElem?_range this, List.getElem?_replicate, if_pos hj', Option.map_some, Option.bind_some, he]
    match i, hi with
    | 0, _ => simp
    | 1, _ => simp

def encR (r : Int × Int) : List Value := [.int .i64 r.1, .int .i64 r.2]
theorem encR_len (r : Int × Int) : (encR r).length = 2 := rfl

def RecsAt (w : World) (a : Option Addr) (rs : List (Int × Int)) : Prop :=
  rs = [] ∨ ∃ b off, a = some ⟨b, off, none⟩ ∧ b < w.heap.size ∧ ∀ j, j < rs.length → w.cell? ⟨b, off + j * 2, none⟩ = some (.int .i64 (rs.getD j (0, 0)).1) ∧ w.cell? ⟨b, off + j * 2 + 1, none⟩ = some (.int .i64 (rs.getD j (0, 0)).2)

theorem RecsAt.at {w : World} {a : Option Addr} {rs : List (Int × Int)} (h : RecsAt w a rs) {k : Nat} (hk : k < rs.length) :
    ∃ b off, a = some ⟨b, off, none⟩ ∧ w.cell? ⟨b, off + k * 2, none⟩ = some (.int .i64 (rs.getD k (0, 0)).1) ∧ w.cell? ⟨b, off + k * 2 + 1, none⟩ = some (.int .i64 (rs.getD k (0, 0)).2) := by
  rcases h with rfl | ⟨b, off, h1, _, h2⟩
  · simp at hk
  · exact ⟨b, off, h1, (h2 k hk).1, (h2 k hk).2⟩

theorem RecsAt.below {w w' : World} {B : Nat} {a : Option Addr} {rs : List (Int × Int)} (h : RecsAt w a rs) (hB : w.heap.size ≤ B) (hb : Below B w w') : RecsAt w' a rs := by
  rcases h with h | ⟨b, off, h1, h0, h2⟩
  · exact .inl h
  · refine .inr ⟨b, off, h1, by have := hb.size; omega, fun j hj => ?_⟩
    rw [hb.cell (p := ⟨b, off + j * 2, none⟩) (by show b < B; omega), hb.cell (p := ⟨b, off + j * 2 + 1, none⟩) (by show b < B; omega)]; exact h2 j hj

theorem own_cell {w : World} {base : Nat} {e : TypeId} {size : Nat} {a : Option Addr} {n c : Nat} {xs : List Value} (h : w.ownsRow base e size (.slice a n c) n xs) (hn : 0 < n) :
    ∃ g, a = some ⟨g, 0, none⟩ ∧ base ≤ g ∧ g < w.heap.size ∧ ∀ j, j < n * size → w.cell? ⟨g, j, none⟩ = xs[j]? := by
  rcases h.2 with ⟨_, h3⟩ | ⟨g, cap, cur, hv, hb, hg, _⟩
  · omega
  · simp only [Value.slice.injEq] at hv
    obtain ⟨rfl, _, rfl⟩ := hv
    exact ⟨g, rfl, hb, (Array.getElem?_eq_some_iff.1 hg).1, fun j hj => h.cellAt j hj⟩

theorem recs_of_own {w : World} {base : Nat} {e : TypeId} {a : Option Addr} {n c : Nat} {rs : List (Int × Int)} (h : w.ownsRow base e 2 (.slice a n c) n (flat encR rs)) : RecsAt w a rs := by
  have hn : rs.length = n := by have := h.1; rw [flat_length encR_len] at this; omega
  by_cases h0 : n = 0
  · left; exact List.eq_nil_of_length_eq_zero (by omega)
  · obtain ⟨g, rfl, _, hlt, hc⟩ := own_cell h (by omega)
    refine .inr ⟨g, 0, rfl, hlt, fun j hj => ⟨?_, ?_⟩⟩
    · rw [hc _ (by omega), Nat.zero_add, show j * 2 = j * 2 + 0 from rfl, flat_get encR_len _ _ _ (by omega)]
      simp [List.getElem?_eq_getElem hj, encR, List.getD]
    · rw [hc _ (by omega), Nat.zero_add, flat_get encR_len _ _ _ (by omega)]
      simp [List.getElem?_eq_getElem hj, encR, List.getD]

/-- One element is written into a list of the call's own: any number of cells. -/
theorem own_put {w : World} {base : Nat} {e : TypeId} {size g n cap : Nat} {xs : List Value} (h : w.ownsRow base e size (.slice (some ⟨g, 0, none⟩) n cap) n xs) (k : Nat) (hk : k < n) (news : List Value) (hl : news.length = size)
    {P : Program} (h1 : ∀ u ∈ news, u.oneCell' = true) :
    ∃ w', (storeCells ⟨g, k * size, none⟩ news 0).run P w = .ok () w' ∧ w'.ownsRow base e size (.slice (some ⟨g, 0, none⟩) n cap) n (xs.take (k * size) ++ news ++ xs.drop (k * size + size)) ∧ w.grownBy w' (some g) := by
  have hkn : k * size + size ≤ n * size := by
    rw [← Nat.succ_mul]; exact Nat.mul_le_mul_right _ hk
  rcases h.2 with ⟨h', _⟩ | ⟨g', cap', cur, h', hb, hg, hnc, hcm, hcs, htake⟩
  · simp at h'
  · simp only [Value.slice.injEq, Option.some.injEq, Addr.mk.injEq, and_true, true_and] at h'
    obtain ⟨rfl, rfl⟩ := h'
    have hnc' : n * size ≤ cap * size := Nat.mul_le_mul_right _ hnc
    have hst := run_storeCells_at P g (k * size) e news 0 cur w hg (by omega) h1
    refine ⟨_, hst, ⟨?_, .inr ⟨g, cap, _, rfl, hb, setRow_heap w g cur _ e _ hg, hnc, hcm, ?_, ?_⟩⟩, ⟨rfl, rfl, rfl, by simp, fun q _ hq => setRow_other w g q _ (fun e => hq (by simp [e]))⟩⟩
    · have := h.1
      simp only [List.length_append, List.length_take, List.length_drop]
      omega
    · simp only [Nat.add_zero, List.size_toArray, List.length_append, List.length_take, List.length_drop, Array.length_toList]
      omega
    · simp only [Nat.add_zero]
      rw [← htake, List.take_append, List.take_append, List.take_take, List.take_take, List.drop_take]
      simp only [List.length_append, List.length_take, Array.length_toList, hl]
      rw [Nat.min_eq_left (by omega : k * size ≤ cur.size), Nat.min_eq_right (by omega : k * size ≤ n * size), Nat.min_eq_left (by omega : k * size ≤ n * size), List.take_of_length_le (by omega : news.length ≤ n * size - k * size)]

theorem wpList_put {P : Program} {w : World} {ops : Array Oper} {rest : List Oper} {o : Oper} {a : Act} {Q : Exit → Act → World → Prop} {t e : TypeId} {z : Value} {size bytes : Nat} (T : SlT P t e z size bytes)
    (hgd : o.guard = none) (x y : Operand) (hop : o.op = .store e x y) {base g n cap : Nat} {xs : List Value} (k : Nat) (hx : a.eval x = .pointer (some ⟨g, k * size, none⟩)) (news : List Value) (hv : (a.eval y).cells.toList = news) (hl : news.length = size)
    (h1 : ∀ u ∈ news, u.oneCell' = true) (hown : w.ownsRow base e size (.slice (some ⟨g, 0, none⟩) n cap) n xs) (hk : k < n)
    (hK : ∀ w', w'.ownsRow base e size (.slice (some ⟨g, 0, none⟩) n cap) n (xs.take (k * size) ++ news ++ xs.drop (k * size + size)) → w.grownBy w' (some g) → wpList P ops Q rest (a.put o.dst undef) w') :
    wpList P ops Q (o :: rest) a w := by
  refine wpList_plain hgd fun K hK' => ?_
  obtain ⟨i, hi, _, hs, _⟩ := T.info
  obtain ⟨w', hr, g1, g2⟩ := own_put hown k hk news hl (P := P) h1
  have hsz : (a.eval y).cells.size = i.size := by rw [hs, ← hl, ← hv]; simp
  unfold Oper.wp execOp
  simp only [hop, hx, Instr.storeAt, Instr.sureAddr, storeVar, sizeOf, typeInfo, hv]
  simp [hi, hsz, hr]
  exact hK' _ _ (hK w' g1 g2)

theorem flat_put {α : Type} {enc : α → List Value} {S : Nat} (hS : ∀ r, (enc r).length = S) (rs : List α) (k : Nat) (hk : k < rs.length) (r : α) :
    (flat enc rs).take (k * S) ++ enc r ++ (flat enc rs).drop (k * S + S) = flat enc (rs.set k r) := by
  induction rs generalizing k with
  | nil => simp at hk
  | cons q t ih =>
    have e : flat enc (q :: t) = enc q ++ flat enc t := rfl
    cases k with
    | zero =>
      rw [e]
      simp only [Nat.zero_mul, List.take_zero, List.nil_append, Nat.zero_add, List.set_cons_zero]
      rw [List.drop_append_of_le_length (by rw [hS]; omega), List.drop_of_length_le (by rw [hS]; omega)]
      rfl
    | succ k =>
      have hk' : k < t.length := by simpa using hk
      rw [e, List.set_cons_succ]
      have e2 : flat enc (q :: t.set k r) = enc q ++ flat enc (t.set k r) := rfl
      rw [e2, ← ih k hk']
      rw [show (k + 1) * S = S + k * S from by rw [Nat.add_mul]; omega]
      rw [List.take_append, List.drop_append, hS, List.take_of_length_le (by rw [hS]; omega), List.drop_of_length_le (by rw [hS]; omega)]
      rw [show S + k * S - S = k * S from by omega, show S + k * S + S - S = k * S + S from by omega]
      simp

end Go.Proofs.YtoebegdepnigbaaDoor

/- General lemmas on copies of integer lists; no program in sight. -/
namespace Go.Proofs.YtoebegdepnigbaaDoor
open Go.RowKit
set_option linter.unusedVariables false

abbrev IL (l : List Int) : List Value := l.map (Value.int .i64)
theorem size_al (w : World) (o : Obj) : (w.alloc o).heap.size = w.heap.size + 1 := by simp

/-- What a copy holds after k rounds. -/
def fillK (n k : Nat) (f : Nat → Value) (z : Value) : List Value := (List.range n).map fun j => if j < k then f j else z
theorem fillK_length (n k : Nat) (f : Nat → Value) (z : Value) : (fillK n k f z).length = n := by simp [fillK]
theorem fillK_zero (n : Nat) (f : Nat → Value) (z : Value) : fillK n 0 f z = List.replicate n z := by
  apply List.ext_getElem <;> simp [fillK]
theorem fillK_succ {n k : Nat} (f : Nat → Value) (z : Value) (h : k < n) : (fillK n k f z).set k (f k) = fillK n (k + 1) f z := by
  apply List.ext_getElem
  · simp [fillK]
  · intro j h1 h2
    simp only [fillK, List.getElem_set, List.getElem_map, List.getElem_range]
    by_cases e : k = j
    · subst e; simp
    · rw [if_neg e]
      by_cases hl : j < k
      · rw [if_pos hl, if_pos (by omega)]
      · rw [if_neg hl, if_neg (by omega)]
theorem fillK_end (n : Nat) (f : Nat → Value) (z : Value) : fillK n n f z = (List.range n).map f := by
  apply List.ext_getElem
  · simp [fillK]
  · intro j h1 h2
    have : j < n := by simpa [fillK] using h1
    simp [fillK, this]
theorem range_getD {α β : Type} (zs : List α) (d : α) (f : α → β) : (List.range zs.length).map (fun j => f (zs.getD j d)) = zs.map f := by
  apply List.ext_getElem
  · simp
  · intro j h1 h2
    have : j < zs.length := by simpa using h1
    simp [List.getD, this]
def cpK (zs : List Int) (k : Nat) : List Value := fillK zs.length k (fun j => .int .i64 (zs.getD j 0)) (.int .i64 0)
theorem cpK_zero (zs : List Int) : cpK zs 0 = List.replicate zs.length (Value.int .i64 0) := fillK_zero _ _ _
theorem cpK_end (zs : List Int) : cpK zs zs.length = zs.map (Value.int .i64) := by
  unfold cpK; rw [fillK_end]; exact range_getD zs 0 _
theorem cpK_length (zs : List Int) (k : Nat) : (cpK zs k).length = zs.length := fillK_length _ _ _ _
theorem cpK_succ {zs : List Int} {k : Nat} (h : k < zs.length) : (cpK zs k).set k (.int .i64 (zs.getD k 0)) = cpK zs (k + 1) := fillK_succ (fun j => .int .i64 (zs.getD j 0)) _ h

end Go.Proofs.YtoebegdepnigbaaDoor

/- Walks: keys. -/
namespace Go.Proofs.YtoebegdepnigbaaDoor
open Go.RowKit
set_option linter.unusedVariables false

def okKey (x : Int) : Bool := inB x (-100000) 100000
def okList (zs : List Int) : Bool := decide (zs.length ≤ 64) && zs.all okKey

set_option maxHeartbeats 400000 in
theorem isKey_any (n : Int) (w : World) :
    Calls Tryd.prog 69 #[.int .i64 n] w fun e w' => e = .returned (.bool (okKey n)) ∧ w = w' := by
  go_enter Tryd.func69, Tryd.ntmps69
  go_wp2_with (go_at_call 54; refine (in_any _ _ _ _).mono ?_; rintro e w' ⟨rfl, rfl⟩)
  go_ret
  exact ⟨rfl, rfl⟩

theorem okList_no {zs : List Int} {k : Nat} (hk : k < zs.length) (h : okKey (zs.getD k 0) = false) : okList zs = false := by
  unfold okList
  rw [Bool.and_eq_false_iff]; right
  rw [List.all_eq_false]
  exact ⟨zs[k], List.getElem_mem hk, by simpa [List.getD, hk] using h⟩

theorem okList_yes {zs : List Int} (h : ∀ j, j < zs.length → okKey (zs.getD j 0) = true) : okList zs = decide (zs.length ≤ 64) := by
  unfold okList
  have : zs.all okKey = true := by
    rw [List.all_eq_true]
    intro x hx
    obtain ⟨j, hj, rfl⟩ := List.getElem_of_mem hx
    have := h j hj
    simpa [List.getD, hj] using this
  rw [this, Bool.and_true]

end Go.Proofs.YtoebegdepnigbaaDoor

/- Walks: records: copies, comparisons, checks. -/
namespace Go.Proofs.YtoebegdepnigbaaDoor
open Go.RowKit
set_option linter.unusedVariables false

theorem Tryd.infoRec : (Tryd.prog.info? 56).map (fun i => (i.zero, i.size, i.bytes)) = some (some (.agg #[.int .i64 0, .int .i64 0]), 2, 16) := by kernel_rfl
theorem slRec : SlT Tryd.prog 27 56 (.agg #[.int .i64 0, .int .i64 0]) 2 16 := ⟨Tryd.underlying27, info_parts Tryd.infoRec, rfl, by decide, by decide⟩

def okRec (r : Int × Int) : Bool := okKey r.1 && inB r.2 0 999
def okRecs (rs : List (Int × Int)) : Bool := decide (rs.length ≤ 64) && rs.all okRec

theorem okRecs_no {zs : List (Int × Int)} {k : Nat} (hk : k < zs.length) (h : okRec (zs.getD k (0, 0)) = false) : okRecs zs = false := by
  unfold okRecs
  rw [Bool.and_eq_false_iff]; right
  rw [List.all_eq_false]
  exact ⟨zs[k], List.getElem_mem hk, by simpa [List.getD, hk] using h⟩

theorem okRecs_yes {zs : List (Int × Int)} (h : ∀ j, j < zs.length → okRec (zs.getD j (0, 0)) = true) : okRecs zs = decide (zs.length ≤ 64) := by
  unfold okRecs
  have : zs.all okRec = true := by
    rw [List.all_eq_true]
    intro x hx
    obtain ⟨j, hj, rfl⟩ := List.getElem_of_mem hx
    have := h j hj
    simpa [List.getD, hj] using this
  rw [this, Bool.and_true]

theorem okRecs_at {zs : List (Int × Int)} (h : okRecs zs = true) {k : Nat} (hk : k < zs.length) : -100000 ≤ (zs.getD k (0, 0)).1 ∧ (zs.getD k (0, 0)).1 ≤ 100000 ∧ 0 ≤ (zs.getD k (0, 0)).2 ∧ (zs.getD k (0, 0)).2 ≤ 999 := by
  unfold okRecs at h
  simp only [Bool.and_eq_true, List.all_eq_true] at h
  have := h.2 zs[k] (List.getElem_mem hk)
  simp [okRec, okKey, inB] at this
  simp [List.getD, hk]
  omega

theorem okRecs_len {zs : List (Int × Int)} (h : okRecs zs = true) : zs.length ≤ 64 := by
  unfold okRecs at h; simp at h; exact h.1

set_option maxHeartbeats 400000 in
theorem l2Records_any (a : Option Addr) (cap : Nat) (zs : List (Int × Int)) (w : World) (hbig : zs.length ≤ 9223372036854775807) (h : RecsAt w a zs) :
    Calls Tryd.prog 23 #[.slice a zs.length cap] w fun e w' => e = .returned (.bool (okRecs zs)) ∧ w = w' := by
  have H := Lib.hid h; clear h
  go_enter Tryd.func23, Tryd.ntmps23
  go_wp2
  go_loop [3] (fun i => ∃ k : Nat, k ≤ zs.length ∧ k ≤ 65 ∧ i = .int .i64 k ∧ ∀ j, j < k → okRec (zs.getD j (0, 0)) = true) (fun i => zs.length - (intOf i).toNat)
  case atStart => exact ⟨0, by omega, by omega, rfl, by intro j h; omega⟩
  case round =>
    obtain ⟨k, hk, hk2, rfl, hall⟩ := hrel
    have Hall := Lib.hid hall; clear hall
    by_cases h1 : k < zs.length
    · by_cases h2 : k ≤ 64
      · obtain ⟨b, off, rfl, hc1, hc2⟩ := H.out.at h1
        have hX : okRec (zs.getD k (0, 0)) = (inB (zs.getD k (0, 0)).1 (-100000) 100000 && inB (zs.getD k (0, 0)).2 0 999) := rfl
        have HX := Lib.hid hX; clear hX
        generalize (zs.getD k (0, 0)).1 = x at hc1 HX
        generalize (zs.getD k (0, 0)).2 = y at hc2 HX
        cases hq : inB x (-100000) 100000
        · have HL := Lib.hid (hq ▸ l1In_any x (-100000) 100000 w)
          have HQ := Lib.hid hq; clear hq
          go_wp2_with (go_at_call 50; refine HL.out.mono ?_; rintro e w' ⟨rfl, rfl⟩)
          go_ret
          exact ⟨ret_bool (by rw [okRecs_no h1 (by rw [HX.out, HQ.out, Bool.false_and])]), rfl⟩
        · have HL := Lib.hid (hq ▸ l1In_any x (-100000) 100000 w)
          have HQ := Lib.hid hq; clear hq
          have HL2 := Lib.hid (l1In_any y 0 999 w)
          go_wp2_with (first | (go_at_call 50; first | (with_reducible refine HL.out.mono ?_) | (with_reducible refine HL2.out.mono ?_); rintro e w' ⟨rfl, rfl⟩))
          · have hx : (!inB y 0 999) = true := by assumption
            go_ret
            exact ⟨ret_bool (by rw [okRecs_no h1 (by rw [HX.out, HQ.out]; simpa using hx)]), rfl⟩
          · have hx : (!inB y 0 999) = false := by assumption
            go_round
            case rel =>
              refine ⟨k + 1, by omega, by omega, by go_num, fun j hj => ?_⟩
              rcases Nat.lt_succ_iff_lt_or_eq.1 hj with h | rfl
              · exact Hall.out j h
              · rw [HX.out, HQ.out]; simpa using hx
            case measure => simp [intOf]; omega
      · go_wp2
        go_ret
        have : okRecs zs = false := by unfold okRecs; simp; omega
        exact ⟨ret_bool (by rw [this]; simp; omega), rfl⟩
    · go_wp2
      go_ret
      exact ⟨ret_bool (by rw [okRecs_yes (fun j hj => Hall.out j (by omega))]; exact decide_eq_decide.2 (by omega)), rfl⟩

theorem ownRecs {w : World} {base : Nat} {a : Option Addr} {n c : Nat} {rs : List (Int × Int)} (h : w.ownsRow base 56 2 (.slice a n c) n (flat encR rs)) : RecsAt w a rs := recs_of_own h

end Go.Proofs.YtoebegdepnigbaaDoor
