/- Several texts in one: lemmas and walks of the functions that the laws reach. -/
import Derived.Test.YtpdndcnhgadgoaaY5
import Derived.Test.YtpdndcnhgadgoaaY2
import Derived.Laws.Externs
import Derived.BigRegion
import Derived.Deep.RegionHeld3
import Derived.Deep.RegionLaw
import Derived.Test.YtpdndcnhgadgoaaY0
import Derived.Lib.Overlaps
import Derived.Deep.QuietTactic

/- Walks of the library: an element put into a list of records (slices.Insert): at the end, in place, without room. -/
namespace Go.Proofs.Ytpdndcnhgadgoaa
open Go.RowKit
set_option linter.unusedVariables false

theorem wpList_appXP {P : Program} {w : World} {ops : Array Oper} {rest : List Oper} {o : Oper} {a : Act} {Q : Exit → Act → World → Prop} {t e : TypeId} {z : Value} {size bytes : Nat} (T : SlT P t e z size bytes) (hgd : o.guard = none) (s y : Operand)
    (ho : o.op = .call { callee := .builtin .append, args := #[s, y], argTypes := #[t, t] })
    (base : Nat) (v : Value) (n : Nat) (xs : List Value) (ad : Addr) (m c : Nat) (ys : List Value) (hs : a.eval s = v) (hown : w.ownsRow base e size v n xs) (hy : a.eval y = .slice (some ad) m c) (hl : ys.length = m * size)
    (hcells : ∀ j x, ys[j]? = some x → w.cell? (ad.add j) = some x) (h1 : ∀ x ∈ ys, x.oneCell' = true) (hsmall : n + m ≤ 1099511627776) (hbase : base ≤ w.heap.size)
    (h : ∀ v' w', w'.ownsRow base e size v' (n + m) (xs ++ ys) → w.grownBy w' v.ownBlock → (v'.ownBlock = v.ownBlock ∨ v'.ownBlock = some w.heap.size) → wpList P ops Q rest (a.put o.dst v') w') :
    wpList P ops Q (o :: rest) a w := by
  refine wpList_plain hgd fun K hK => ?_
  obtain ⟨v', w', hr, h2, h3, h4⟩ := run_app_tag (P := P) w T base o.type v n xs hown ad m c ys hl hcells h1 hsmall hbase
  unfold Oper.wp execOp
  simp only [ho, resolve, invoke, builtin, Sem.run_bind, Sem.run_pure, Result.andThen_ok, List.map_toArray, List.map_cons, List.map_nil, hs, hy, hr]
  exact hK _ _ (h v' w' h2 h3 h4)

theorem own_posG {w : World} {base : Nat} {e : TypeId} {size n : Nat} {v : Value} {xs : List Value} (h : w.ownsRow base e size v n xs) (hn : 0 < n) : ∃ g c, v = .slice (some ⟨g, 0, none⟩) n c := by
  rcases h.2 with ⟨_, h2⟩ | ⟨g, cap, cur, hv, _⟩
  · omega
  · exact ⟨g, cap, hv⟩

def InsEnd (B0 g n : Nat) (out : List (Int × Int)) (w : World) (e : Ending) (w' : World) : Prop :=
  ∃ (g' c' : Nat), e = .returned (.slice (some ⟨g', 0, none⟩) (n + 1) c') ∧ w'.ownsRow B0 33 2 (.slice (some ⟨g', 0, none⟩) (n + 1) c') (n + 1) (flat encR out) ∧ w.grownBy w' (some g)

set_option maxRecDepth 100000 in
set_option maxHeartbeats 4000000 in
theorem insertR_end (B0 g c n : Nat) (rs : List (Int × Int)) (x y : Int) (vb : Nat) (w : World) (hn : rs.length = n) (hn2 : n ≤ 1000) (hB0 : B0 ≤ w.heap.size) (hV : w.heap[vb]? = some (.cells #[.int .i64 x, .int .i64 y] 33 (0, 0)))
    (h : w.ownsRow B0 33 2 (.slice (some ⟨g, 0, none⟩) n c) n (flat encR rs)) :
    Calls Try.prog 21 #[.slice (some ⟨g, 0, none⟩) n c, .int .i64 n, .slice (some ⟨vb, 0, none⟩) 1 1] w (InsEnd B0 g n (rs ++ [(x, y)]) w) := by
  have H := Lib.hid h
  obtain ⟨hc1, hc2⟩ := own_capG h
  have HVC : Hid (∀ j u, [Value.int .i64 x, .int .i64 y][j]? = some u → w.cell? ((⟨vb, 0, none⟩ : Addr).add j) = some u) := fun j u hu => by
    rw [addr_add_zero]
    simp only [World.cell?, hV]
    simpa using hu
  have hsm : n + 1 ≤ 1099511627776 := by omega
  clear h hV hn
  have q1 : (1 : Int) ≠ 0 := by omega
  have b0 : (0 : Int) ≤ (n : Int) := by omega
  have b1 : (n : Int) ≤ (c : Int) := by omega
  go_enter Try.func21, Try.ntmps21
  go_wp2_with (at_builtin; refine wpList_appXP slRec rfl _ _ rfl B0 (.slice (some ⟨g, 0, none⟩) n c) n (flat encR rs) ⟨vb, 0, none⟩ 1 1 [.int .i64 x, .int .i64 y] (by rfl) H.out (by rfl) rfl HVC.out (by simp [Value.oneCell']) hsm hB0 ?_; intro v' w2 ho hg ht; have HO := Lib.hid ho; have HG := Lib.hid hg; have HT := Lib.hid ht; clear ho hg ht)
  all_goals
    obtain ⟨g', c', rfl⟩ := own_posG HO.out (by omega)
    go_ret
    refine ⟨g', c', rfl, ?_, HG.out⟩
    have := HO.out
    rwa [show flat encR rs ++ [Value.int .i64 x, .int .i64 y] = flat encR (rs ++ [(x, y)]) by rw [flat_append]; rfl] at this

theorem shift_eq {α : Type} (F ys news : List α) (k S : Nat) (h : k ≤ F.length) (hy : ys.length = S) (d : Nat) (hd : d = F.length - k) :
    (((F ++ ys).take (k + S) ++ F.drop k ++ (F ++ ys).drop (k + S + d)).take k ++ news ++ ((F ++ ys).take (k + S) ++ F.drop k ++ (F ++ ys).drop (k + S + d)).drop (k + S)) = F.take k ++ news ++ F.drop k := by
  have h1 : ((F ++ ys).take (k + S)).length = k + S := by rw [List.length_take, List.length_append]; omega
  have h2 : (F ++ ys).drop (k + S + d) = [] := List.drop_eq_nil_of_le (by rw [List.length_append]; omega)
  rw [h2, List.append_nil]
  congr 1
  · congr 1
    rw [List.take_append_of_le_length (by omega), List.take_take, Nat.min_eq_left (by omega), List.take_append_of_le_length h]
  · rw [List.drop_append_of_le_length (by omega), List.drop_eq_nil_of_le (by omega), List.nil_append]

set_option maxRecDepth 100000 in
set_option maxHeartbeats 4000000 in
theorem insertR_room (B0 g c n i : Nat) (rs : List (Int × Int)) (x y : Int) (vb : Nat) (w : World) (hn : rs.length = n) (hn2 : n ≤ 1000) (hi : i < n) (hc : n + 1 ≤ c) (hne : vb ≠ g) (hB0 : B0 ≤ w.heap.size) (hV : w.heap[vb]? = some (.cells #[.int .i64 x, .int .i64 y] 33 (0, 0)))
    (h : w.ownsRow B0 33 2 (.slice (some ⟨g, 0, none⟩) n c) n (flat encR rs)) :
    Calls Try.prog 21 #[.slice (some ⟨g, 0, none⟩) n c, .int .i64 i, .slice (some ⟨vb, 0, none⟩) 1 1] w (InsEnd B0 g n (rs.take i ++ (x, y) :: rs.drop i) w) := by
  have H := Lib.hid h
  have hlen : (flat encR rs).length = n * 2 := by rw [flat_length encR_len, hn]
  obtain ⟨hc1, hc2⟩ := own_capG h
  obtain ⟨ys, hext, hyl⟩ := own_extG h (k := n + 1) (by omega) hc
  have HE := Lib.hid hext
  have hvl : vb < w.heap.size := by
    by_cases hq : vb < w.heap.size
    · exact hq
    · rw [Array.getElem?_eq_none (by omega)] at hV; cases hV
  have hov : ∀ lb cb, (callFunc 35 #[.slice (some ⟨vb, 0, none⟩) 1 1, .slice (some ⟨g, (i + 1) * 2, none⟩) lb cb]).run Try.prog w = .ok (.value (.bool false)) w := fun lb cb => by
    rcases h.2 with ⟨h2, _⟩ | ⟨g', cap, cur, hv, hb, hg, hn', hm, hs, ht⟩
    · cases h2
    · simp only [Value.slice.injEq, Option.some.injEq, Addr.mk.injEq] at hv
      obtain ⟨⟨rfl, _, _⟩, _, rfl⟩ := hv
      rw [run_callFunc_extern Try.func35 (by kernel_rfl) (by kernel_rfl) (by kernel_rfl) (e := Extern.SlicesOverlaps.overlaps #[24, 24] #[4]) (by kernel_rfl),
        Lib.run_overlaps_apart w 24 4 33 slRec.und 2 (fun w => by kernel_rfl) ⟨vb, 0, none⟩ ⟨g, (i + 1) * 2, none⟩ 1 1 lb cb hne 33 33 2 cur.size (by simp [World.shape?, hV]) (by simp [World.shape?, hg]) (by omega) (by simp [World.frozen?, hV]) (by simp [World.frozen?, hV])]
      rfl
  have HN2 : Hid (∀ (w' : World) j u, w.grownBy w' (some g) → [Value.int .i64 x, .int .i64 y][j]? = some u → w'.cell? ((⟨vb, 0, none⟩ : Addr).add j) = some u) := fun w' j u hg hu => by
    rw [addr_add_zero]
    have hh : w'.heap[vb]? = w.heap[vb]? := hg.block vb hvl (fun e => hne (by injection e))
    simp only [World.cell?, hh, hV]
    simpa using hu
  have HSH := Lib.hid (shift_eq (flat encR rs) ys [.int .i64 x, .int .i64 y] (i * 2) 2 (by omega) (by omega) ((n - i) * 2) (by omega))
  have HFI := Lib.hid (flat_insG encR_len rs i (by omega) (x, y))
  have HS1 : Hid (∀ j v, ((flat encR rs).drop (i * 2))[j]? = some v → w.drew.cell? ((⟨g, i * 2, none⟩ : Addr).add j) = some v) := fun j v hj => by
    have := h.cells (g := g) rfl (i * 2 + j) v (by rwa [List.getElem?_drop] at hj)
    rw [addr_add_zero] at this
    rw [Addr.add_lit]
    exact this
  have hl1 : ((flat encR rs).drop (i * 2)).length = Nat.min (n + 1 - i) (n - i) * 2 := by
    rw [List.length_drop, hlen]
    have : Nat.min (n + 1 - i) (n - i) = n - i := Nat.min_eq_right (by omega)
    rw [this, Nat.sub_mul]
  have hf1 : (i + 1) * 2 + ((flat encR rs).drop (i * 2)).length ≤ (n + 1) * 2 := by rw [List.length_drop, hlen]; omega
  have hd1 : ((flat encR rs).drop (i * 2)).length = (n - i) * 2 := by rw [List.length_drop, hlen]; omega
  have hl2 : [Value.int .i64 x, .int .i64 y].length = Nat.min 1 (n + 1 - i) * 2 := by
    have : Nat.min 1 (n + 1 - i) = 1 := Nat.min_eq_left (by omega)
    rw [this]; rfl
  have hf2 : i * 2 + [Value.int .i64 x, .int .i64 y].length ≤ (n + 1) * 2 := by simp only [List.length_cons, List.length_nil]; omega
  have h11 : ∀ v ∈ (flat encR rs).drop (i * 2), v.oneCell' = true := fun v hv => recs_oneN v (List.mem_of_mem_drop hv)
  clear h hV hext
  have q1 : (1 : Int) ≠ 0 := by omega
  have b0 : (0 : Int) ≤ (n : Int) := by omega
  have b1 : (n : Int) ≤ (c : Int) := by omega
  have b2 : (0 : Int) ≤ (i : Int) := by omega
  have b3 : (i : Int) < (n : Int) := by omega
  have b4 : (i : Int) ≤ (c : Int) := by omega
  have hw1 : IntKind.i64.wrap ((i : Int) + 1) = (i : Int) + 1 := by rw [IntKind.wrap_i64]; omega
  have hb1 : (0 : Int) ≤ (i : Int) + 1 := by omega
  have htn : ((i : Int) + 1).toNat = i + 1 := by omega
  have hb2 : ¬ (c = i + 1) := by omega
  have hb3 : (i : Int) ≤ (n : Int) := by omega
  have hb4 : ¬ (c = i) := by omega
  have hb5 : (i : Int) ≤ (n : Int) + 1 := by omega
  have hb6 : (i : Int) + 1 ≤ (n : Int) + 1 := by omega
  go_enter Try.func21, Try.ntmps21
  go_wp2_with (simp only [hov])
  go_region_law (refine step_copyOwn slRec rfl _ _ rfl HE.out (i + 1) (n - i) (c - (i + 1)) (by simp [Act.eval, Act.put]) ⟨g, i * 2, none⟩ (n + 1 - i) (c - i) (by simp [Act.eval, Act.put]) ((flat encR rs).drop (i * 2)) hl1 HS1.out h11 hf1 ?_; intro w1 ho1 hg1)
  rw [hd1, show (i + 1) * 2 = i * 2 + 2 by omega] at ho1
  have HG1 : Hid (w.grownBy w1 (some g)) := ⟨hg1.os, hg1.tape, hg1.output, hg1.size, hg1.block⟩
  have HO1 := Lib.hid ho1
  have HN3 := Lib.hid (HN2.out w1 · · HG1.out)
  clear ho1 hg1
  go_wp2_with (refine wpList_copyOwn slRec rfl _ _ rfl HO1.out i (n + 1 - i) (c - i) (by rfl) ⟨vb, 0, none⟩ 1 1 (by rfl) [.int .i64 x, .int .i64 y] hl2 HN3.out (by simp [Value.oneCell']) hf2 ?_; intro w2 ho2 hg2; have HO2 := Lib.hid ho2; have HG2 := Lib.hid hg2; clear ho2 hg2)
  go_ret
  refine ⟨g, c, rfl, ?_, ⟨HG2.out.os.trans HG1.out.os, HG2.out.tape.trans HG1.out.tape, HG2.out.output.trans HG1.out.output, Nat.le_trans HG1.out.size HG2.out.size, fun k hk hq => (HG2.out.block k (Nat.lt_of_lt_of_le hk HG1.out.size) hq).trans (HG1.out.block k hk hq)⟩⟩
  rw [HFI.out]
  have := HO2.out
  rw [show i * 2 + [Value.int .i64 x, .int .i64 y].length = i * 2 + 2 from rfl, HSH.out] at this
  exact this

theorem grow_eq {α : Type} (F zs news : List α) (k S d : Nat) (h : k ≤ F.length) (hn : news.length = S) (hd : d = F.length - k) (hz : zs.length = S + d) :
    ((((F.take k ++ zs).take k ++ news ++ (F.take k ++ zs).drop (k + S)).take (k + S)) ++ F.drop k ++ ((F.take k ++ zs).take k ++ news ++ (F.take k ++ zs).drop (k + S)).drop (k + S + d)) = F.take k ++ news ++ F.drop k := by
  have h1 : (F.take k).length = k := by rw [List.length_take]; omega
  have h2 : (F.take k ++ zs).take k = F.take k := by rw [List.take_append_of_le_length (by omega), List.take_of_length_le (by omega)]
  rw [h2]
  have h3 : (F.take k ++ news).length = k + S := by rw [List.length_append, h1, hn]
  rw [← h3, List.take_left, h3]
  have h4 : (F.take k ++ news ++ (F.take k ++ zs).drop (k + S)).drop (k + S + d) = [] := List.drop_eq_nil_of_le (by
    rw [List.length_append, h3, List.length_drop, List.length_append, h1, hz]; omega)
  rw [h4, List.append_nil]

set_option maxRecDepth 100000 in
set_option maxHeartbeats 4000000 in
theorem insertR_grow (B0 g c n i : Nat) (rs : List (Int × Int)) (x y : Int) (vb : Nat) (w : World) (hn : rs.length = n) (hn2 : n ≤ 1000) (hi : i < n) (hc : c < n + 1) (hB0 : B0 ≤ w.heap.size) (hV : w.heap[vb]? = some (.cells #[.int .i64 x, .int .i64 y] 33 (0, 0)))
    (h : w.ownsRow B0 33 2 (.slice (some ⟨g, 0, none⟩) n c) n (flat encR rs)) :
    Calls Try.prog 21 #[.slice (some ⟨g, 0, none⟩) n c, .int .i64 i, .slice (some ⟨vb, 0, none⟩) 1 1] w (InsEnd B0 g n (rs.take i ++ (x, y) :: rs.drop i) w) := by
  have hlen : (flat encR rs).length = n * 2 := by rw [flat_length encR_len, hn]
  obtain ⟨hc1, hc2⟩ := own_capG h
  have hgl := (h.lt g rfl).2
  have HCUT := Lib.hid (own_cutG h (k := i) (by omega))
  have hvl : vb < w.heap.size := by
    by_cases hq : vb < w.heap.size
    · exact hq
    · rw [Array.getElem?_eq_none (by omega)] at hV; cases hV
  have HN2 : Hid (∀ (w' : World) j u, w.grownBy w' none → [Value.int .i64 x, .int .i64 y][j]? = some u → w'.cell? ((⟨vb, 0, none⟩ : Addr).add j) = some u) := fun w' j u hg hu => by
    rw [addr_add_zero]
    have hh : w'.heap[vb]? = w.heap[vb]? := hg.block vb hvl (fun e => by cases e)
    simp only [World.cell?, hh, hV]
    simpa using hu
  have HF := Lib.hid (flat_insG encR_len rs i (by omega) (x, y))
  have HGE : Hid (∀ zs : List Value, zs.length = 2 + (n - i) * 2 → _) := fun zs hz => grow_eq (flat encR rs) zs [.int .i64 x, .int .i64 y] (i * 2) 2 ((n - i) * 2) (by omega) rfl (by omega) hz
  have HS1 : Hid (∀ (w' : World), (∀ k, k < w.heap.size → w'.heap[k]? = w.heap[k]?) → ∀ j v, ((flat encR rs).drop (i * 2))[j]? = some v → w'.cell? ((⟨g, i * 2, none⟩ : Addr).add j) = some v) := fun w' hw j v hj => by
    have := h.cells (g := g) rfl (i * 2 + j) v (by rwa [List.getElem?_drop] at hj)
    rw [addr_add_zero] at this
    rw [Addr.add_lit]
    rw [← this]
    exact World.cell?_of_block (hw g hgl)
  have hd1 : ((flat encR rs).drop (i * 2)).length = (n - i) * 2 := by rw [List.length_drop, hlen]; omega
  have hl1 : ((flat encR rs).drop (i * 2)).length = Nat.min (n - i) (n - i) * 2 := by
    rw [hd1]
    have : Nat.min (n - i) (n - i) = n - i := Nat.min_self _
    rw [this]
  have hl2 : [Value.int .i64 x, .int .i64 y].length = Nat.min 1 (n + 1 - i) * 2 := by
    have : Nat.min 1 (n + 1 - i) = 1 := Nat.min_eq_left (by omega)
    rw [this]; rfl
  have hf2 : i * 2 + [Value.int .i64 x, .int .i64 y].length ≤ (n + 1) * 2 := by simp only [List.length_cons, List.length_nil]; omega
  have hf1 : (i + 1) * 2 + ((flat encR rs).drop (i * 2)).length ≤ (n + 1) * 2 := by rw [hd1]; omega
  have h11 : ∀ v ∈ (flat encR rs).drop (i * 2), v.oneCell' = true := fun v hv => recs_oneN v (List.mem_of_mem_drop hv)
  clear h hV
  have q1 : (1 : Int) ≠ 0 := by omega
  have b0 : (0 : Int) ≤ (n : Int) := by omega
  have b1 : (n : Int) ≤ (c : Int) := by omega
  have b2 : (0 : Int) ≤ (i : Int) := by omega
  have b3 : (i : Int) < (n : Int) := by omega
  have b4 : (i : Int) ≤ (c : Int) := by omega
  have hw1 : IntKind.i64.wrap ((i : Int) + 1) = (i : Int) + 1 := by rw [IntKind.wrap_i64]; omega
  have hb1 : (0 : Int) ≤ (i : Int) + 1 := by omega
  have htn : ((i : Int) + 1).toNat = i + 1 := by omega
  have hb3 : (i : Int) ≤ (n : Int) := by omega
  have hb5 : (i : Int) ≤ (n : Int) + 1 := by omega
  have hb6 : (i : Int) + 1 ≤ (n : Int) + 1 := by omega
  have hk : (n : Int) + 1 - (i : Int) = ((n + 1 - i : Nat) : Int) := by omega
  have hs : i + (n + 1 - i) = n + 1 := by omega
  go_enter Try.func21, Try.ntmps21
  go_wp2_with (at_builtin; refine wpList_appZG slRec rfl _ _ rfl .i64 .i64 rfl (by rfl) HCUT.out (n + 1 - i) (by rfl) (by omega) (by omega) (by omega) hB0 ?_; intro c' w1 zs ho1 hz1 hg1 hsz1; generalize hGG : wpList _ _ _ _ _ _ = GG)
  rw [← hGG, hs]
  clear hGG GG
  rw [hs] at ho1
  obtain ⟨hc1', hc2'⟩ := own_capG ho1
  have HO1 := Lib.hid ho1
  have HGE1 := Lib.hid (HGE.out zs (by rw [hz1]; omega))
  have HN3 := Lib.hid (HN2.out w1 · · hg1)
  have HG1 := Lib.hid hg1
  have hb7 : ¬ (c' = i) := by omega
  have hb8 : ¬ (c' = i + 1) := by omega
  have hb9 : ¬ (c = i) := by omega
  have hx1 : (i : Int) ≤ (c' : Int) := by omega
  clear ho1 hg1
  go_wp2_with (refine wpList_copyOwn slRec rfl _ _ rfl HO1.out i (n + 1 - i) (c' - i) (by rfl) ⟨vb, 0, none⟩ 1 1 (by rfl) [.int .i64 x, .int .i64 y] hl2 HN3.out (by simp [Value.oneCell']) hf2 ?_; intro w2 ho2 hg2; have HO2 := Lib.hid ho2; have HG2 := Lib.hid hg2; clear ho2 hg2)
  have HB2 : Hid (∀ k, k < w.heap.size → w2.heap[k]? = w.heap[k]?) := fun k hk => (HG2.out.block k (by omega) (fun e => by injection e with e; omega)).trans (HG1.out.block k hk (fun e => by cases e))
  have HS3 := Lib.hid (HS1.out w2.drew HB2.out)
  go_region_law (refine step_copyOwn slRec rfl _ _ rfl HO2.out (i + 1) (n - i) (c' - (i + 1)) (by simp [Act.eval, Act.put]) ⟨g, i * 2, none⟩ (n - i) (c - i) (by simp [Act.eval, Act.put]) ((flat encR rs).drop (i * 2)) hl1 HS3.out h11 hf1 ?_; intro w3 ho3 hg3)
  rw [hd1, show (i + 1) * 2 = i * 2 + 2 by omega, show i * 2 + [Value.int .i64 x, .int .i64 y].length = i * 2 + 2 from rfl, HGE1.out] at ho3
  have HO3 := Lib.hid ho3
  have HG3 : Hid (w.grownBy w3 (some g)) := ⟨hg3.os.trans (HG2.out.os.trans HG1.out.os), hg3.tape.trans (HG2.out.tape.trans HG1.out.tape), hg3.output.trans (HG2.out.output.trans HG1.out.output), Nat.le_trans HG1.out.size (Nat.le_trans HG2.out.size hg3.size), fun k hk hq => (hg3.block k (Nat.lt_of_lt_of_le hk (Nat.le_trans HG1.out.size HG2.out.size)) (fun e => by injection e with e; omega)).trans (HB2.out k hk)⟩
  clear ho3 hg3
  go_wp2
  go_ret
  refine ⟨w.heap.size, c', rfl, ?_, HG3.out⟩
  rw [HF.out]
  exact HO3.out

/-- slices.Insert of one record. -/
theorem insertR_any (B0 g c n i : Nat) (rs : List (Int × Int)) (x y : Int) (vb : Nat) (w : World) (hn : rs.length = n) (hn2 : n ≤ 1000) (hi : i ≤ n) (hne : vb ≠ g) (hB0 : B0 ≤ w.heap.size) (hV : w.heap[vb]? = some (.cells #[.int .i64 x, .int .i64 y] 33 (0, 0)))
    (h : w.ownsRow B0 33 2 (.slice (some ⟨g, 0, none⟩) n c) n (flat encR rs)) :
    Calls Try.prog 21 #[.slice (some ⟨g, 0, none⟩) n c, .int .i64 i, .slice (some ⟨vb, 0, none⟩) 1 1] w (InsEnd B0 g n (rs.take i ++ (x, y) :: rs.drop i) w) := by
  by_cases he : i = n
  · subst he
    rw [List.take_of_length_le (by omega), List.drop_eq_nil_of_le (by omega)]
    exact insertR_end B0 g c i rs x y vb w hn hn2 hB0 hV h
  · by_cases hc : n + 1 ≤ c
    · exact insertR_room B0 g c n i rs x y vb w hn hn2 (by omega) hc hne hB0 hV h
    · exact insertR_grow B0 g c n i rs x y vb w hn hn2 (by omega) (by omega) hB0 hV h

end Go.Proofs.Ytpdndcnhgadgoaa

/- Walks: OfferTop. -/
namespace Go.Proofs.Ytpdndcnhgadgoaa
open Go.RowKit Go.Sort
set_option linter.unusedVariables false

set_option maxRecDepth 100000 in
set_option maxHeartbeats 4000000 in
theorem offerTop_no (a : Option Addr) (n c : Nat) (rs : List (Int × Int)) (k x y : Int) (w : World) (hn : n ≤ 1000000) (h : Rd w a n c rs) (hno : (isTopL rs k && okRec (x, y)) = false) :
    Calls Try.prog 8 #[.slice a n c, .int .i64 k, .agg #[.int .i64 x, .int .i64 y]] w fun e w' => e = .returned (.tuple #[.slice none 0 0, .bool false, .bool false]) ∧ Below w.heap.size w w' := by
  have HL : Hid (∀ w1, Below w.heap.size w w1 → Calls Try.prog 18 #[.slice a n c, .int .i64 k] w1 fun e w' => e = .returned (.bool (isTopL rs k)) ∧ Below w1.heap.size w1 w') := fun w1 hb => isTopList_any a n c rs k w1 hn (h.same hb)
  have HR := Lib.hid (fun w1 => isRecord_any x y w1)
  clear h
  obtain ⟨p1, hp1⟩ : ∃ p, isTopL rs k = p := ⟨_, rfl⟩
  obtain ⟨p2, hp2⟩ : ∃ p, okRec (x, y) = p := ⟨_, rfl⟩
  rw [hp1, hp2] at hno
  rw [hp1] at HL
  rw [hp2] at HR
  clear hp1 hp2
  cases p1 <;> cases p2
  case true.true => cases hno
  all_goals
    clear hno
    go_enter Try.func8, Try.ntmps8
    go_wp2_with (first
      | (go_at_call 18; refine (HL.out _ (by (repeat (first | exact Below.refl _ _ | assumption | refine Below.setCell ?_ (by first | omega | (simp; done) | (simp; omega)) _ | refine Below.alloc ?_ (by first | omega | (simp; done) | (simp; omega)) _ | refine Below.drew ?_ | refine below_drewN ?_ _)))).mono ?_; rintro e w1 ⟨rfl, hb1⟩; have u0 : w1.cell? ⟨w.heap.size, 0, none⟩ = some (.int .i64 x) := (hb1.cell (p := ⟨w.heap.size, 0, none⟩) (by simp)).trans (by simp [go_sem]); have u1 : w1.cell? ⟨w.heap.size, 1, none⟩ = some (.int .i64 y) := (hb1.cell (p := ⟨w.heap.size, 1, none⟩) (by simp)).trans (by simp [go_sem]); have HB1 : Hid (Below w.heap.size w w1) := Below.trans (by (repeat (first | exact Below.refl _ _ | assumption | refine Below.setCell ?_ (by first | omega | (simp; done) | (simp; omega)) _ | refine Below.alloc ?_ (by first | omega | (simp; done) | (simp; omega)) _ | refine Below.drew ?_ | refine below_drewN ?_ _))) (hb1.mono (by simp)); clear hb1)
      | (go_at_call 19; refine (HR.out _).mono ?_; rintro e w2 ⟨rfl, hb2⟩; have HB2 := Lib.hid (below_tr HB1.out hb2 HB1.out.size); clear hb2))
    go_ret3
    exact ⟨rfl, by first | exact HB2.out | exact HB1.out⟩

end Go.Proofs.Ytpdndcnhgadgoaa

/- Walks: OfferTop, the offer allowed. -/
namespace Go.Proofs.Ytpdndcnhgadgoaa
open Go.RowKit Go.Sort
set_option linter.unusedVariables false

/-- What an offer leaves, and whether it is taken. -/
def offOut (rs : List (Int × Int)) (k : Nat) (z : Int × Int) : List (Int × Int) := if Mg.offAt gtK z rs < k then (rs.take (Mg.offAt gtK z rs) ++ z :: rs.drop (Mg.offAt gtK z rs)).take k else rs
def offIn (rs : List (Int × Int)) (k : Nat) (z : Int × Int) : Bool := decide (Mg.offAt gtK z rs < k)

def OffT (w : World) (rs : List (Int × Int)) (k : Nat) (x y : Int) (e : Ending) (w' : World) : Prop :=
  ∃ (a : Option Addr) (n c : Nat), e = .returned (.tuple #[.slice a n c, .bool (offIn rs k (x, y)), .bool true]) ∧ Rd w' a n c (offOut rs k (x, y)) ∧ Below w.heap.size w w'

set_option maxRecDepth 100000 in
set_option maxHeartbeats 8000000 in
theorem offerTop_yes (a : Option Addr) (n c : Nat) (rs : List (Int × Int)) (k : Nat) (x y : Int) (w : World) (hn : n ≤ k) (hk : k ≤ 16) (h : Rd w a n c rs) (h1 : isTopL rs k = true) (h2 : okRec (x, y) = true) :
    Calls Try.prog 8 #[.slice a n c, .int .i64 k, .agg #[.int .i64 x, .int .i64 y]] w (OffT w rs k x y) := by
  have HL : Hid (∀ w1, Below w.heap.size w w1 → Calls Try.prog 18 #[.slice a n c, .int .i64 k] w1 fun e w' => e = .returned (.bool true) ∧ Below w1.heap.size w1 w') := fun w1 hb => by
    have := isTopList_any a n c rs k w1 (by omega) (h.same hb)
    rwa [h1] at this
  have HR : Hid (∀ w1, Calls Try.prog 19 #[.agg #[.int .i64 x, .int .i64 y]] w1 fun e w' => e = .returned (.bool true) ∧ Below w1.heap.size w1 w') := fun w1 => by
    have := isRecord_any x y w1
    rwa [h2] at this
  have HC : Hid (∀ w1, Below w.heap.size w w1 → Calls Try.prog 20 #[.slice a n c] w1 (fun e w' => ∃ (g c' : Nat), e = .returned (.slice (some ⟨g, 0, none⟩) n c') ∧ w'.ownsRow w1.heap.size 33 2 (.slice (some ⟨g, 0, none⟩) n c') n (flat encR rs) ∧ Below w1.heap.size w1 w')) := fun w1 hb => by
    have := copyOfR_any a c rs w1 (by rw [h.len]; omega) (h.same hb).recs h.nil
    rwa [h.len] at this
  have HLN := Lib.hid h.len
  have H := Lib.hid h
  clear h h1 h2
  unfold OffT
  go_enter Try.func8, Try.ntmps8
  go_wp2_with (first
    | (go_at_call 18; refine (HL.out _ (by (repeat (first | exact Below.refl _ _ | assumption | refine Below.setCell ?_ (by first | omega | (simp; done) | (simp; omega)) _ | refine Below.alloc ?_ (by first | omega | (simp; done) | (simp; omega)) _ | refine Below.drew ?_ | refine below_drewN ?_ _)))).mono ?_; rintro e w1 ⟨rfl, hb1⟩; have u0 : w1.cell? ⟨w.heap.size, 0, none⟩ = some (.int .i64 x) := (hb1.cell (p := ⟨w.heap.size, 0, none⟩) (by simp)).trans (by simp [go_sem]); have u1 : w1.cell? ⟨w.heap.size, 1, none⟩ = some (.int .i64 y) := (hb1.cell (p := ⟨w.heap.size, 1, none⟩) (by simp)).trans (by simp [go_sem]); have hs1 : w.heap.size < w1.heap.size := (by have := hb1.size; simp at this; omega); have HB1 : Hid (Below w.heap.size w w1) := Below.trans (by (repeat (first | exact Below.refl _ _ | assumption | refine Below.setCell ?_ (by first | omega | (simp; done) | (simp; omega)) _ | refine Below.alloc ?_ (by first | omega | (simp; done) | (simp; omega)) _ | refine Below.drew ?_ | refine below_drewN ?_ _))) (hb1.mono (by simp)); clear hb1)
    | (go_at_call 19; refine (HR.out _).mono ?_; rintro e w2 ⟨rfl, hb2⟩; have v0 := (hb2.cell (p := ⟨w.heap.size, 0, none⟩) hs1).trans u0; have v1 := (hb2.cell (p := ⟨w.heap.size, 1, none⟩) hs1).trans u1; have hs2 := Nat.lt_of_lt_of_le hs1 hb2.size; have HB2 := Lib.hid (below_tr HB1.out hb2 HB1.out.size); clear hb2))
  clear u0 u1 hs1 HB1 HL HR
  go_loopw [9] (fun v wr => ∃ i : Nat, v = .int .i64 i ∧ i ≤ n ∧ Hid (∀ j z, j < i → rs[j]? = some z → gtK (x, y) z = false) ∧ wr.cell? ⟨w.heap.size, 0, none⟩ = some (.int .i64 x) ∧ wr.cell? ⟨w.heap.size, 1, none⟩ = some (.int .i64 y) ∧ w.heap.size < wr.heap.size ∧ Below w.heap.size w wr) (fun v _ => n - (intOf v).toNat)
  case atStart => exact ⟨0, rfl, by omega, Lib.hid (fun j z h1 h2 => by omega), v0, v1, hs2, HB2.out⟩
  case round =>
    obtain ⟨i, rfl, hi, HALL, c0, c1, hsz, hb⟩ := hrel
    have HB := Lib.hid hb
    clear hb v0 v1 hs2 HB2
    have b0 : (0 : Int) ≤ (i : Int) := by omega
    by_cases hlt : i < n
    case pos =>
      have q1 : decide ((i : Int) < (n : Int)) = true := decide_eq_true (by omega)
      obtain ⟨b, o, rfl, d1, d2⟩ := (H.out.same HB.out).at hlt
      have hgt : rs[i]? = some (rs.getD i (0, 0)) := by rw [List.getD_eq_getElem?_getD, List.getElem?_eq_getElem (by rw [HLN.out]; exact hlt)]; rfl
      obtain ⟨Y, hY⟩ : ∃ Y, rs.getD i (0, 0) = Y := ⟨_, rfl⟩
      rw [hY] at d1 d2 hgt
      have HGT := Lib.hid hgt
      clear hY hgt
      have q2 : (i : Int) < (n : Int) := by omega
      by_cases hge : x ≤ Y.1
      case pos =>
        have q3 : decide (x ≤ Y.1) = true := decide_eq_true hge
        have HA2 : Hid (∀ j z, j < i + 1 → rs[j]? = some z → gtK (x, y) z = false) := fun j z hj hz => by
          by_cases he : j = i
          · subst he
            rw [HGT.out] at hz
            injection hz with hz
            subst hz
            rw [gtK_eq]
            exact decide_eq_false (by show ¬ Y.1 < x; omega)
          · exact HALL.out j z (by omega) hz
        go_wp2_with fail
        go_quiet (fail)
        go_wp2
        go_roundw
        case rel => exact ⟨i + 1, by go_num, by omega, HA2, c0, c1, hsz, below_drewN HB.out _⟩
        case measure => simp [intOf]; omega
      case neg =>
        have q3 : decide (x ≤ Y.1) = false := decide_eq_false hge
        have HAT : Hid (Mg.offAt gtK (x, y) rs = i) := Mg.offAt_stop HALL.out (.inr ⟨Y, HGT.out, by rw [gtK_eq]; exact decide_eq_true (by show Y.1 < x; omega)⟩) (by rw [HLN.out]; omega)
        clear HALL HGT
        go_wp2_with fail
        go_quiet (fail)
        have HB3 := Lib.hid (below_drewN HB.out nq)
        have e0 : (wr.drewN nq).cell? ⟨w.heap.size, 0, none⟩ = some (.int .i64 x) := c0
        have e1 : (wr.drewN nq).cell? ⟨w.heap.size, 1, none⟩ = some (.int .i64 y) := c1
        have hz3 : w.heap.size < (wr.drewN nq).heap.size := hsz
        clear HB c0 c1 hsz d1 d2
        generalize wr.drewN nq = w3 at HB3 e0 e1 hz3 ⊢
        by_cases hik : i = k
        · have q5 : ((i : Int) == (k : Int)) = true := by simp; omega
          have q6 : decide (i < k) = false := decide_eq_false (by omega)
          go_wp2_with fail
          refine (HC.out _ HB3.out).mono ?_
          rintro e w4 ⟨g, c4, rfl, ho, hb⟩
          have HO4 := Lib.hid ho; have HB4 := Lib.hid (below_tr HB3.out hb HB3.out.size)
          clear ho hb
          go_wp2
          go_ret3
          refine ⟨some ⟨g, 0, none⟩, n, c4, ?_, ?_, HB4.out⟩
          · unfold offIn; rw [HAT.out, q6]; rfl
          · unfold offOut; rw [HAT.out, if_neg (by omega)]; exact rd_own HO4.out
        · have q5 : ((i : Int) == (k : Int)) = false := by rw [beq_eq_false_iff_ne]; omega
          have q6 : decide (i < k) = true := decide_eq_true (by omega)
          go_wp2_with fail
          have HK : Hid (∀ w1, Below w3.heap.size w3 w1 → w1.cell? ⟨w.heap.size, 0, none⟩ = some (.int .i64 x) ∧ w1.cell? ⟨w.heap.size, 1, none⟩ = some (.int .i64 y)) := fun w1 hb => ⟨(hb.cell (p := ⟨w.heap.size, 0, none⟩) hz3).trans e0, (hb.cell (p := ⟨w.heap.size, 1, none⟩) hz3).trans e1⟩
          have hb3 := HB3.out
          have HIA : Hid (∀ (w4 : World) (g c4 : Nat), w4.ownsRow w3.heap.size 33 2 (.slice (some ⟨g, 0, none⟩) n c4) n (flat encR rs) → w3.heap.size ≤ w4.heap.size → Calls Try.prog 21 #[.slice (some ⟨g, 0, none⟩) n c4, .int .i64 i, .slice (some ⟨w4.heap.size, 0, none⟩) 1 1] (w4.alloc (.cells #[.int .i64 x, .int .i64 y] 33)) (InsEnd w3.heap.size g n (rs.take i ++ (x, y) :: rs.drop i) (w4.alloc (.cells #[.int .i64 x, .int .i64 y] 33)))) := fun w4 g c4 ho hz => by
            have hgl := (ho.lt g rfl).2
            exact insertR_any w3.heap.size g c4 n i rs x y w4.heap.size _ HLN.out (by omega) (by omega) (by omega) (Nat.le_trans hz (by simp)) (heap_alloc_new _ _) (ho.alloc _)
          have HIC : Hid (∀ (w4 : World) (g c4 : Nat), w4.ownsRow (w3.heap.size + 1) 33 2 (.slice (some ⟨g, 0, none⟩) n c4) n (flat encR rs) → w3.heap.size + 1 ≤ w4.heap.size → w4.heap[w3.heap.size]? = some (.cells #[.int .i64 x, .int .i64 y] 33 (0, 0)) → Calls Try.prog 21 #[.slice (some ⟨g, 0, none⟩) n c4, .int .i64 i, .slice (some ⟨w3.heap.size, 0, none⟩) 1 1] w4 (InsEnd w3.heap.size g n (rs.take i ++ (x, y) :: rs.drop i) w4)) := fun w4 g c4 ho hz hv => by
            have hgl := (ho.lt g rfl).1
            exact insertR_any w3.heap.size g c4 n i rs x y w3.heap.size _ HLN.out (by omega) (by omega) (by omega) (by omega) hv (own_mono ho (by omega))
          unfold InsEnd at HIA HIC
          go_region_law (first
            | (go_simp; go_at_call 20; refine (HC.out _ (by (repeat (first | exact Below.refl _ _ | assumption | refine Below.setCell ?_ (by first | omega | (simp; done) | (simp; omega)) _ | refine Below.alloc ?_ (by first | omega | (simp; done) | (simp; omega)) _ | refine Below.drew ?_ | refine below_drewN ?_ _)))).mono ?_; rintro e w4 ⟨g, c4, rfl, ho, hb⟩; have hb4 : Below w3.heap.size w3 w4 := Below.trans (by (repeat (first | exact Below.refl _ _ | assumption | refine Below.setCell ?_ (by first | omega | (simp; done) | (simp; omega)) _ | refine Below.alloc ?_ (by first | omega | (simp; done) | (simp; omega)) _ | refine Below.drew ?_ | refine below_drewN ?_ _))) (hb.mono (by first | exact Nat.le_refl _ | (simp; done) | (simp; omega))); have f0 := (HK.out w4 hb4).1; have f1 := (HK.out w4 hb4).2; have hz4 := hb4.size; have hgl := ho.lt g rfl)
            | (go_simp; go_at_call 21; refine (HIA.out w4 g c4 ho hz4).mono ?_; rintro e w5 ⟨g5, c5, rfl, ho5, hg5⟩; have HB5 := Lib.hid (Below.grown (hb4.alloc hz4 _) hg5 (Nat.le_trans hz4 (by simp)) (fun b e => by injection e with e; subst e; exact hgl.1)))
            | (go_simp; go_at_call 21; have hzz : w3.heap.size + 1 ≤ w4.heap.size := (by have := hb.size; simp at this; omega); have hoo : w4.ownsRow (w3.heap.size + 1) 33 2 (.slice (some ⟨g, 0, none⟩) n c4) n (flat encR rs) := (by simpa using ho); have hgg := (hoo.lt g rfl).1; refine (HIC.out w4 g c4 hoo hzz ((hb.block w3.heap.size (by simp)).trans (heap_alloc_new _ _))).mono ?_; rintro e w5 ⟨g5, c5, rfl, ho5, hg5⟩; have HB5 := Lib.hid (Below.grown hb4 hg5 hz4 (fun b e => by injection e with e; subst e; omega))))
          all_goals
            have HO5 := Lib.hid ho5
            have HB9 := Lib.hid (below_tr HB3.out HB5.out HB3.out.size)
            obtain ⟨hc1, hc2⟩ := own_capG ho5
            clear ho5 hg5 HB5
            obtain ⟨hh, hhe⟩ : ∃ hh, min k (n + 1) = hh := ⟨_, rfl⟩
            have HM : Hid ((min (k : Int) ((n : Int) + 1)) = (hh : Int)) := by show _ = _; omega
            have b1 : hh ≤ n + 1 := by omega
            have b3 : (hh : Int) ≤ (c5 : Int) := by omega
            have b4 : (0 : Int) ≤ (hh : Int) := by omega
            have HO6 := Lib.hid (own_cutG HO5.out b1)
            have HT : Hid ((rs.take i ++ (x, y) :: rs.drop i).take hh = (rs.take i ++ (x, y) :: rs.drop i).take k) := by
              show _ = _
              have hl : (rs.take i ++ (x, y) :: rs.drop i).length = n + 1 := by
                rw [List.length_append, List.length_cons, List.length_take, List.length_drop, HLN.out]; omega
              by_cases hkn : k ≤ n + 1
              · rw [show hh = k by omega]
              · exact (List.take_of_length_le (by omega)).trans (List.take_of_length_le (by omega)).symm
            have hl9 : (rs.take i ++ (x, y) :: rs.drop i).length = n + 1 := by
              rw [List.length_append, List.length_cons, List.length_take, List.length_drop, HLN.out]; omega
            clear hhe
            go_wp2_with fail
            go_ret3
            refine ⟨some ⟨g5, 0, none⟩, hh, c5, ?_, ?_, HB9.out⟩
            · unfold offIn
              rw [HAT.out, q6]
              show Ending.returned (.tuple #[.slice (some ⟨g5, 0, none⟩) (min (k : Int) ((n : Int) + 1)).toNat c5, _, _]) = _
              rw [HM.out]; rfl
            · unfold offOut
              rw [HAT.out, if_pos (by omega), ← HT.out]
              have := HO6.out
              rw [flat_takeG encR_len _ _ (by omega)] at this
              exact rd_own this
    case neg =>
      have q1 : decide ((i : Int) < (n : Int)) = false := decide_eq_false (by omega)
      have HAT : Hid (Mg.offAt gtK (x, y) rs = i) := Mg.offAt_stop HALL.out (.inl (by rw [HLN.out]; omega)) (by rw [HLN.out]; omega)
      clear HALL
      go_wp2_with fail
      go_quiet (fail)
      have HB3 := Lib.hid (below_drewN HB.out nq)
      have e0 : (wr.drewN nq).cell? ⟨w.heap.size, 0, none⟩ = some (.int .i64 x) := c0
      have e1 : (wr.drewN nq).cell? ⟨w.heap.size, 1, none⟩ = some (.int .i64 y) := c1
      have hz3 : w.heap.size < (wr.drewN nq).heap.size := hsz
      clear HB c0 c1 hsz 
      generalize wr.drewN nq = w3 at HB3 e0 e1 hz3 ⊢
      by_cases hik : i = k
      · have q5 : ((i : Int) == (k : Int)) = true := by simp; omega
        have q6 : decide (i < k) = false := decide_eq_false (by omega)
        go_wp2_with fail
        refine (HC.out _ HB3.out).mono ?_
        rintro e w4 ⟨g, c4, rfl, ho, hb⟩
        have HO4 := Lib.hid ho; have HB4 := Lib.hid (below_tr HB3.out hb HB3.out.size)
        clear ho hb
        go_wp2
        go_ret3
        refine ⟨some ⟨g, 0, none⟩, n, c4, ?_, ?_, HB4.out⟩
        · unfold offIn; rw [HAT.out, q6]; rfl
        · unfold offOut; rw [HAT.out, if_neg (by omega)]; exact rd_own HO4.out
      · have q5 : ((i : Int) == (k : Int)) = false := by rw [beq_eq_false_iff_ne]; omega
        have q6 : decide (i < k) = true := decide_eq_true (by omega)
        go_wp2_with fail
        have HK : Hid (∀ w1, Below w3.heap.size w3 w1 → w1.cell? ⟨w.heap.size, 0, none⟩ = some (.int .i64 x) ∧ w1.cell? ⟨w.heap.size, 1, none⟩ = some (.int .i64 y)) := fun w1 hb => ⟨(hb.cell (p := ⟨w.heap.size, 0, none⟩) hz3).trans e0, (hb.cell (p := ⟨w.heap.size, 1, none⟩) hz3).trans e1⟩
        have hb3 := HB3.out
        have HIA : Hid (∀ (w4 : World) (g c4 : Nat), w4.ownsRow w3.heap.size 33 2 (.slice (some ⟨g, 0, none⟩) n c4) n (flat encR rs) → w3.heap.size ≤ w4.heap.size → Calls Try.prog 21 #[.slice (some ⟨g, 0, none⟩) n c4, .int .i64 i, .slice (some ⟨w4.heap.size, 0, none⟩) 1 1] (w4.alloc (.cells #[.int .i64 x, .int .i64 y] 33)) (InsEnd w3.heap.size g n (rs.take i ++ (x, y) :: rs.drop i) (w4.alloc (.cells #[.int .i64 x, .int .i64 y] 33)))) := fun w4 g c4 ho hz => by
          have hgl := (ho.lt g rfl).2
          exact insertR_any w3.heap.size g c4 n i rs x y w4.heap.size _ HLN.out (by omega) (by omega) (by omega) (Nat.le_trans hz (by simp)) (heap_alloc_new _ _) (ho.alloc _)
        have HIC : Hid (∀ (w4 : World) (g c4 : Nat), w4.ownsRow (w3.heap.size + 1) 33 2 (.slice (some ⟨g, 0, none⟩) n c4) n (flat encR rs) → w3.heap.size + 1 ≤ w4.heap.size → w4.heap[w3.heap.size]? = some (.cells #[.int .i64 x, .int .i64 y] 33 (0, 0)) → Calls Try.prog 21 #[.slice (some ⟨g, 0, none⟩) n c4, .int .i64 i, .slice (some ⟨w3.heap.size, 0, none⟩) 1 1] w4 (InsEnd w3.heap.size g n (rs.take i ++ (x, y) :: rs.drop i) w4)) := fun w4 g c4 ho hz hv => by
          have hgl := (ho.lt g rfl).1
          exact insertR_any w3.heap.size g c4 n i rs x y w3.heap.size _ HLN.out (by omega) (by omega) (by omega) (by omega) hv (own_mono ho (by omega))
        unfold InsEnd at HIA HIC
        go_region_law (first
          | (go_simp; go_at_call 20; refine (HC.out _ (by (repeat (first | exact Below.refl _ _ | assumption | refine Below.setCell ?_ (by first | omega | (simp; done) | (simp; omega)) _ | refine Below.alloc ?_ (by first | omega | (simp; done) | (simp; omega)) _ | refine Below.drew ?_ | refine below_drewN ?_ _)))).mono ?_; rintro e w4 ⟨g, c4, rfl, ho, hb⟩; have hb4 : Below w3.heap.size w3 w4 := Below.trans (by (repeat (first | exact Below.refl _ _ | assumption | refine Below.setCell ?_ (by first | omega | (simp; done) | (simp; omega)) _ | refine Below.alloc ?_ (by first | omega | (simp; done) | (simp; omega)) _ | refine Below.drew ?_ | refine below_drewN ?_ _))) (hb.mono (by first | exact Nat.le_refl _ | (simp; done) | (simp; omega))); have f0 := (HK.out w4 hb4).1; have f1 := (HK.out w4 hb4).2; have hz4 := hb4.size; have hgl := ho.lt g rfl)
          | (go_simp; go_at_call 21; refine (HIA.out w4 g c4 ho hz4).mono ?_; rintro e w5 ⟨g5, c5, rfl, ho5, hg5⟩; have HB5 := Lib.hid (Below.grown (hb4.alloc hz4 _) hg5 (Nat.le_trans hz4 (by simp)) (fun b e => by injection e with e; subst e; exact hgl.1)))
          | (go_simp; go_at_call 21; have hzz : w3.heap.size + 1 ≤ w4.heap.size := (by have := hb.size; simp at this; omega); have hoo : w4.ownsRow (w3.heap.size + 1) 33 2 (.slice (some ⟨g, 0, none⟩) n c4) n (flat encR rs) := (by simpa using ho); have hgg := (hoo.lt g rfl).1; refine (HIC.out w4 g c4 hoo hzz ((hb.block w3.heap.size (by simp)).trans (heap_alloc_new _ _))).mono ?_; rintro e w5 ⟨g5, c5, rfl, ho5, hg5⟩; have HB5 := Lib.hid (Below.grown hb4 hg5 hz4 (fun b e => by injection e with e; subst e; omega))))
        all_goals
          have HO5 := Lib.hid ho5
          have HB9 := Lib.hid (below_tr HB3.out HB5.out HB3.out.size)
          obtain ⟨hc1, hc2⟩ := own_capG ho5
          clear ho5 hg5 HB5
          obtain ⟨hh, hhe⟩ : ∃ hh, min k (n + 1) = hh := ⟨_, rfl⟩
          have HM : Hid ((min (k : Int) ((n : Int) + 1)) = (hh : Int)) := by show _ = _; omega
          have b1 : hh ≤ n + 1 := by omega
          have b3 : (hh : Int) ≤ (c5 : Int) := by omega
          have b4 : (0 : Int) ≤ (hh : Int) := by omega
          have HO6 := Lib.hid (own_cutG HO5.out b1)
          have HT : Hid ((rs.take i ++ (x, y) :: rs.drop i).take hh = (rs.take i ++ (x, y) :: rs.drop i).take k) := by
            show _ = _
            have hl : (rs.take i ++ (x, y) :: rs.drop i).length = n + 1 := by
              rw [List.length_append, List.length_cons, List.length_take, List.length_drop, HLN.out]; omega
            by_cases hkn : k ≤ n + 1
            · rw [show hh = k by omega]
            · exact (List.take_of_length_le (by omega)).trans (List.take_of_length_le (by omega)).symm
          have hl9 : (rs.take i ++ (x, y) :: rs.drop i).length = n + 1 := by
            rw [List.length_append, List.length_cons, List.length_take, List.length_drop, HLN.out]; omega
          clear hhe
          go_wp2_with fail
          go_ret3
          refine ⟨some ⟨g5, 0, none⟩, hh, c5, ?_, ?_, HB9.out⟩
          · unfold offIn
            rw [HAT.out, q6]
            show Ending.returned (.tuple #[.slice (some ⟨g5, 0, none⟩) (min (k : Int) ((n : Int) + 1)).toNat c5, _, _]) = _
            rw [HM.out]; rfl
          · unfold offOut
            rw [HAT.out, if_pos (by omega), ← HT.out]
            have := HO6.out
            rw [flat_takeG encR_len _ _ (by omega)] at this
            exact rd_own this

end Go.Proofs.Ytpdndcnhgadgoaa
