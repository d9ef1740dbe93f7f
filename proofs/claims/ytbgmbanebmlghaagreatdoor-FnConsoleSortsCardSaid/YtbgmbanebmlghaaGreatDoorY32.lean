/- Several texts in one: lemmas and walks of the functions that the law reaches. -/
import Derived.Test.YtbgmbanebmlghaaGreatDoorY14
import Derived.Test.YtbgmbanebmlghaaGreatDoorY27

namespace Go.Proofs.YtbgmbanebmlghaaGreatDoor
open Go.RowKit Go.Sort
set_option linter.unusedVariables false

theorem Rd.grownA {w w' : World} {row : Option Nat} {a : Option Addr} {n c : Nat} {L : List (Int × Int)} (h : Rd w a n c L) (hg : w.grownBy w' row) (hne : ∀ b off, a = some ⟨b, off, none⟩ → row ≠ some b) : Rd w' a n c L :=
  ⟨h.recs.grown hg hne, h.len, h.nil, h.cap⟩

/-- A list that can be read, in a block of X. -/
def LX (w : World) (X : Nat → Prop) (v : Value) (L : List (Int × Int)) : Prop :=
  ∃ (x : Option Addr) (c : Nat), v = .slice x L.length c ∧ Rd w x L.length c L ∧ ∀ b off, x = some ⟨b, off, none⟩ → X b ∧ b < w.heap.size
theorem LX.grown {w w' : World} {X : Nat → Prop} {row : Option Nat} {v : Value} {L : List (Int × Int)} (h : LX w X v L) (hg : w.grownBy w' row) (hr : ∀ b, row = some b → ¬ X b) : LX w' X v L := by
  obtain ⟨x, c, rfl, hr1, hx⟩ := h
  exact ⟨x, c, rfl, hr1.grownA hg (fun b off e e2 => hr b e2 (hx b off e).1), fun b off e => ⟨(hx b off e).1, Nat.lt_of_lt_of_le (hx b off e).2 hg.size⟩⟩
theorem LX.mono {w : World} {X Y : Nat → Prop} {v : Value} {L : List (Int × Int)} (h : LX w X v L) (hxy : ∀ b, X b → Y b) : LX w Y v L := by
  obtain ⟨x, c, rfl, hr1, hx⟩ := h
  exact ⟨x, c, rfl, hr1, fun b off e => ⟨hxy b (hx b off e).1, (hx b off e).2⟩⟩
theorem LX.keep {w w' : World} {X A : Nat → Prop} {v : Value} {L : List (Int × Int)} (h : LX w X v L) (hk : KeepA A w w') (hxa : ∀ b, X b → A b) : LX w' X v L := by
  obtain ⟨x, c, rfl, hr1, hx⟩ := h
  refine ⟨x, c, rfl, ⟨?_, hr1.len, hr1.nil, hr1.cap⟩, fun b off e => ⟨(hx b off e).1, Nat.lt_of_lt_of_le (hx b off e).2 hk.size⟩⟩
  rcases hr1.recs with h | ⟨b, off, h1, h0, h2⟩
  · exact .inl h
  · have hb := hk.block b h0 (hxa b (hx b off h1).1)
    exact .inr ⟨b, off, h1, Nat.lt_of_lt_of_le h0 hk.size, fun j hj => by
      rw [World.cell?_of_block (w := w) (w' := w') (a := ⟨b, off + j * 2, none⟩) hb, World.cell?_of_block (w := w) (w' := w') (a := ⟨b, off + j * 2 + 1, none⟩) hb]; exact h2 j hj⟩

/-- Lists, header by header. -/
def HX (w : World) (X : Nat → Prop) (hs : List Value) (ps : List (List (Int × Int))) : Prop :=
  hs.length = ps.length ∧ ∀ (j : Nat) (v : Value) (L : List (Int × Int)), hs[j]? = some v → ps[j]? = some L → LX w X v L
theorem HX.nil (w : World) (X : Nat → Prop) : HX w X [] [] := ⟨rfl, fun j v L h => by simp at h⟩
theorem HX.imp {w w' : World} {X Y : Nat → Prop} {hs : List Value} {ps : List (List (Int × Int))} (h : HX w X hs ps) (hi : ∀ v L, LX w X v L → LX w' Y v L) : HX w' Y hs ps := ⟨h.1, fun j v L h1 h2 => hi v L (h.2 j v L h1 h2)⟩
theorem HX.snoc {w : World} {X : Nat → Prop} {hs : List Value} {ps : List (List (Int × Int))} {v : Value} {L : List (Int × Int)} (h : HX w X hs ps) (hv : LX w X v L) : HX w X (hs ++ [v]) (ps ++ [L]) := by
  refine ⟨by rw [List.length_append, List.length_append, h.1]; rfl, fun j v' L' h1 h2 => ?_⟩
  by_cases hj : j < ps.length
  · rw [List.getElem?_append_left (by rw [h.1]; exact hj)] at h1
    rw [List.getElem?_append_left hj] at h2
    exact h.2 j v' L' h1 h2
  · rw [List.getElem?_append_right (by rw [h.1]; omega)] at h1
    rw [List.getElem?_append_right (by omega)] at h2
    rw [h.1] at h1
    obtain ⟨t, ht⟩ : ∃ t, j - ps.length = t := ⟨_, rfl⟩
    rw [ht] at h1 h2
    cases t with
    | zero =>
      simp only [List.getElem?_cons_zero, Option.some.injEq] at h1 h2
      subst h1; subst h2; exact hv
    | succ t => simp at h1
theorem HX.at {w : World} {X : Nat → Prop} {hs : List Value} {ps : List (List (Int × Int))} (h : HX w X hs ps) {k : Nat} (hk : k < ps.length) : ∃ v, hs[k]? = some v ∧ LX w X v (ps.getD k []) := by
  have h1 : hs[k]? = some (hs[k]'(by rw [h.1]; exact hk)) := List.getElem?_eq_getElem _
  have h2 : ps[k]? = some (ps.getD k []) := by rw [List.getD_eq_getElem?_getD, List.getElem?_eq_getElem hk]; rfl
  exact ⟨_, h1, h.2 k _ _ h1 h2⟩
/-- Two neighbours, joined. -/
theorem HX.join {w : World} {X : Nat → Prop} {hs : List Value} {ps : List (List (Int × Int))} {v : Value} {k : Nat} (h : HX w X hs ps) (hk : k + 1 < ps.length) (hv : LX w X v (Mg.mrg ltR (ps.getD k []) (ps.getD (k + 1) []))) :
    HX w X ((hs.set k v).take (k + 1) ++ (hs.set k v).drop (k + 2)) (Ad.jn ltR k ps) := by
  have hl := Ad.jn_length ltR hk
  refine ⟨by rw [List.length_append, List.length_take, List.length_drop, List.length_set, h.1]; omega, fun j v' L' h1 h2 => ?_⟩
  unfold Ad.jn at h2
  rw [List.take_add_one, List.take_set_of_le (by omega), List.getElem?_set_self (by rw [h.1]; omega), List.drop_set_of_lt (by omega)] at h1
  by_cases hj : j < k
  · rw [List.append_assoc, List.getElem?_append_left (by rw [List.length_take, h.1]; omega), List.getElem?_take, if_pos hj] at h1
    rw [List.getElem?_append_left (by rw [List.length_take]; omega), List.getElem?_take, if_pos hj] at h2
    exact h.2 j v' L' h1 h2
  · have e1 : (hs.take k).length = k := by rw [List.length_take, h.1]; omega
    have e2 : (ps.take k).length = k := by rw [List.length_take]; omega
    rw [List.append_assoc, List.getElem?_append_right (by omega), e1] at h1
    rw [List.getElem?_append_right (by omega), e2] at h2
    obtain ⟨t, ht⟩ : ∃ t, j - k = t := ⟨_, rfl⟩
    rw [ht] at h1 h2
    cases t with
    | zero =>
      simp only [Option.toList_some, List.cons_append, List.nil_append, List.getElem?_cons_zero, Option.some.injEq] at h1 h2
      subst h1; subst h2; exact hv
    | succ t =>
      simp only [Option.toList_some, List.cons_append, List.nil_append, List.getElem?_cons_succ, List.getElem?_drop] at h1 h2
      exact h.2 _ v' L' h1 h2
theorem HX.one {w : World} {X : Nat → Prop} {hs : List Value} {ps : List (List (Int × Int))} (h : HX w X hs ps) : ∀ v ∈ hs, v.oneCell' = true := fun v hv => by
  obtain ⟨j, hj, rfl⟩ := List.mem_iff_getElem.1 hv
  obtain ⟨v', h1, x, c, h2, _⟩ := h.at (k := j) (by rw [← h.1]; exact hj)
  rw [List.getElem?_eq_getElem hj] at h1
  injection h1 with h1
  rw [h1, h2]; rfl

/-- The cells that the closure holds, and the row of headers. -/
structure PUv (w : World) (X : Nat → Prop) (p cS cD cP cC g c : Nat) (hs : List Value) (ps : List (List (Int × Int))) (cnt d : Int) : Prop where
  hS : w.ownsRow 0 243 1 (.slice (some ⟨cS, 0, none⟩) 1 1) 1 [.pointer (some ⟨p, 0, none⟩)]
  hD : w.ownsRow 0 3 1 (.slice (some ⟨cD, 0, none⟩) 1 1) 1 [.int .i64 d]
  hC : w.ownsRow 0 3 1 (.slice (some ⟨cC, 0, none⟩) 1 1) 1 [.int .i64 cnt]
  hP : w.ownsRow 0 222 1 (.slice (some ⟨cP, 0, none⟩) 1 1) 1 [.slice (some ⟨g, 0, none⟩) ps.length c]
  hr : w.ownsRow 0 26 1 (.slice (some ⟨g, 0, none⟩) ps.length c) ps.length hs
  hl : HX w X hs ps
  dis : [cS, cD, cP, cC, g].Nodup
  hX : ∀ b, X b → b ≠ cS ∧ b ≠ cD ∧ b ≠ cP ∧ b ≠ cC ∧ b ≠ g

end Go.Proofs.YtbgmbanebmlghaaGreatDoor

namespace Go.Proofs.YtbgmbanebmlghaaGreatDoor
open Go.RowKit Go.Sort
set_option linter.unusedVariables false

theorem nd5 {a b c d e : Nat} (h : [a, b, c, d, e].Nodup) : a ≠ b ∧ a ≠ c ∧ a ≠ d ∧ a ≠ e ∧ b ≠ c ∧ b ≠ d ∧ b ≠ e ∧ c ≠ d ∧ c ≠ e ∧ d ≠ e := by
  simp only [List.nodup_cons, List.mem_cons, List.not_mem_nil, or_false, not_or] at h
  omega

section
variable {w w' : World} {X : Nat → Prop} {p cS cD cP cC g c : Nat} {hs : List Value} {ps : List (List (Int × Int))} {cnt d : Int}
theorem PUv.other {row : Option Nat} (h : PUv w X p cS cD cP cC g c hs ps cnt d) (hg : w.grownBy w' row) (hr : ∀ b, row = some b → b ≠ cS ∧ b ≠ cD ∧ b ≠ cP ∧ b ≠ cC ∧ b ≠ g ∧ ¬ X b) : PUv w' X p cS cD cP cC g c hs ps cnt d :=
  ⟨h.hS.kept hg (.inr fun e => (hr cS e.symm).1 rfl), h.hD.kept hg (.inr fun e => (hr cD e.symm).2.1 rfl), h.hC.kept hg (.inr fun e => (hr cC e.symm).2.2.2.1 rfl), h.hP.kept hg (.inr fun e => (hr cP e.symm).2.2.1 rfl),
   h.hr.kept hg (.inr fun e => (hr g e.symm).2.2.2.2.1 rfl), h.hl.imp fun v L hv => hv.grown hg fun b e => (hr b e).2.2.2.2.2, h.dis, h.hX⟩
theorem PUv.setC (cnt' : Int) (h : PUv w X p cS cD cP cC g c hs ps cnt d) : PUv (w.setCell ⟨cC, 0, none⟩ (.int .i64 cnt')) X p cS cD cP cC g c hs ps cnt' d ∧ w.grownBy (w.setCell ⟨cC, 0, none⟩ (.int .i64 cnt')) (some cC) := by
  obtain ⟨a1, a2, a3, a4, a5, a6, a7, a8, a9, a10⟩ := nd5 h.dis
  have hst := h.hC.stored 0 (.int .i64 cnt')
  exact ⟨⟨h.hS.kept hst.2 (.inr fun e => a3 (by injection e)), h.hD.kept hst.2 (.inr fun e => a6 (by injection e)), hst.1, h.hP.kept hst.2 (.inr fun e => a8 (by injection e)), h.hr.kept hst.2 (.inr fun e => a10 (by injection e with e; exact e.symm)),
    h.hl.imp fun v L hv => hv.grown hst.2 fun b e hx => (h.hX b hx).2.2.2.1 (by injection e with e; exact e.symm), h.dis, h.hX⟩, hst.2⟩
theorem PUv.setD (d' : Int) (h : PUv w X p cS cD cP cC g c hs ps cnt d) : PUv (w.setCell ⟨cD, 0, none⟩ (.int .i64 d')) X p cS cD cP cC g c hs ps cnt d' ∧ w.grownBy (w.setCell ⟨cD, 0, none⟩ (.int .i64 d')) (some cD) := by
  obtain ⟨a1, a2, a3, a4, a5, a6, a7, a8, a9, a10⟩ := nd5 h.dis
  have hst := h.hD.stored 0 (.int .i64 d')
  exact ⟨⟨h.hS.kept hst.2 (.inr fun e => a1 (by injection e)), hst.1, h.hC.kept hst.2 (.inr fun e => a6 (by injection e with e; exact e.symm)), h.hP.kept hst.2 (.inr fun e => a5 (by injection e with e; exact e.symm)), h.hr.kept hst.2 (.inr fun e => a7 (by injection e with e; exact e.symm)),
    h.hl.imp fun v L hv => hv.grown hst.2 fun b e hx => (h.hX b hx).2.1 (by injection e with e; exact e.symm), h.dis, h.hX⟩, hst.2⟩
/-- A new row of headers (in the old block or a new one), and its header stored. -/
theorem PUv.setP {w1 : World} {g' n' c' : Nat} {hs' : List Value} {ps' : List (List (Int × Int))} (h : PUv w X p cS cD cP cC g c hs ps cnt d) (hg : w.grownBy w1 (some g)) (hn : n' = ps'.length) (ho : w1.ownsRow 0 26 1 (.slice (some ⟨g', 0, none⟩) n' c') n' hs')
    (hg' : g' = g ∨ w.heap.size ≤ g') (hl : HX w1 X hs' ps') (hX : ∀ b, X b → b ≠ g') :
    PUv (w1.setCell ⟨cP, 0, none⟩ (.slice (some ⟨g', 0, none⟩) n' c')) X p cS cD cP cC g' c' hs' ps' cnt d ∧ w1.grownBy (w1.setCell ⟨cP, 0, none⟩ (.slice (some ⟨g', 0, none⟩) n' c')) (some cP) := by
  subst hn
  obtain ⟨a1, a2, a3, a4, a5, a6, a7, a8, a9, a10⟩ := nd5 h.dis
  have l1 := (h.hS.lt cS rfl).2
  have l2 := (h.hD.lt cD rfl).2
  have l3 := (h.hP.lt cP rfl).2
  have l4 := (h.hC.lt cC rfl).2
  have k1 := h.hS.kept hg (.inr fun e => a4 (by injection e))
  have k2 := h.hD.kept hg (.inr fun e => a7 (by injection e))
  have k3 := h.hC.kept hg (.inr fun e => a10 (by injection e))
  have k4 := h.hP.kept hg (.inr fun e => a9 (by injection e))
  have hst := k4.stored 0 (.slice (some ⟨g', 0, none⟩) ps'.length c')
  have b1 : g' ≠ cP := by omega
  refine ⟨⟨k1.kept hst.2 (.inr fun e => a2 (by injection e)), k2.kept hst.2 (.inr fun e => a5 (by injection e)), k3.kept hst.2 (.inr fun e => a8 (by injection e with e; exact e.symm)), hst.1, ho.kept hst.2 (.inr fun e => b1 (by injection e)),
    hl.imp fun v L hv => hv.grown hst.2 fun b e hx => (h.hX b hx).2.2.1 (by injection e with e; exact e.symm), ?_, fun b hb => ?_⟩, hst.2⟩
  · simp only [List.nodup_cons, List.mem_cons, List.not_mem_nil, or_false, not_or, List.nodup_nil, and_true, not_false_eq_true]
    omega
  · have := h.hX b hb
    exact ⟨this.1, this.2.1, this.2.2.1, this.2.2.2.1, hX b hb⟩
theorem PUv.more {Y : Nat → Prop} (h : PUv w X p cS cD cP cC g c hs ps cnt d) (hxy : ∀ b, X b → Y b) (hY : ∀ b, Y b → b ≠ cS ∧ b ≠ cD ∧ b ≠ cP ∧ b ≠ cC ∧ b ≠ g) : PUv w Y p cS cD cP cC g c hs ps cnt d :=
  ⟨h.hS, h.hD, h.hC, h.hP, h.hr, h.hl.imp fun v L hv => hv.mono hxy, h.dis, hY⟩
end

/-- What the closure may turn. -/
def Am (A : Nat → Prop) (cD cP cC g : Nat) (k : Nat) : Prop := A k ∧ k ≠ cD ∧ k ≠ cP ∧ k ≠ cC ∧ k ≠ g
def totP (ps : List (List (Int × Int))) : Nat := (ps.map List.length).sum
theorem totP_two {ps : List (List (Int × Int))} {k : Nat} (hk : k + 1 < ps.length) : (ps.getD k []).length + (ps.getD (k + 1) []).length ≤ totP ps := by
  have h := congrArg totP (Ad.split2 [] hk)
  unfold totP at *
  simp only [List.map_append, List.map_cons, List.sum_append, List.sum_cons] at h
  omega
theorem totP_jn {ps : List (List (Int × Int))} {k : Nat} (hk : k + 1 < ps.length) : totP (Ad.jn ltR k ps) = totP ps := by
  have h := congrArg totP (Ad.split2 [] hk)
  unfold totP Ad.jn at *
  simp only [List.map_append, List.map_cons, List.sum_append, List.sum_cons, Mg.mrg_length] at h ⊢
  omega

/-- Behind the closure. -/
def FolEnd (w : World) (X : Nat → Prop) (A : Nat → Prop) (p cS cD cP cC g c : Nat) (vs vm : Value) (mo : Int) (s : List Int) (m : List Nat) (F : List (List (Int × Int)) × Nat) (cnt : Int) (e : Ending) (w' : World) : Prop :=
  e = .returned (.tuple #[]) ∧ (∃ hs', PUv w' (fun b => X b ∨ w.heap.size ≤ b) p cS cD cP cC g c hs' F.1 (cnt + (F.2 : Nat)) ((m.length : Nat) : Int)) ∧ RSv w' p A vs vm mo s m ∧ KeepA (Am A cD cP cC g) w w'

set_option maxRecDepth 100000 in
set_option maxHeartbeats 8000000 in
theorem follow_any (X A : Nat → Prop) (p cS cD cP cC g c dn : Nat) (vs vm : Value) (mo cnt : Int) (s : List Int) (m : List Nat) (hs : List Value) (ps : List (List (Int × Int))) (w : World)
    (hdn : dn ≤ m.length) (hml : m.length ≤ 100) (hpl : ps.length ≤ 100) (htp : totP ps ≤ 100) (hc0 : 0 ≤ cnt) (hc1 : cnt + 100 * (m.length - dn : Nat) ≤ 1000000) (hok : Ad.okI (m.drop dn) ps.length)
    (hAc : A cS ∧ A cD ∧ A cP ∧ A cC ∧ A g) (hP : PUv w X p cS cD cP cC g c hs ps cnt dn) (hR : RSv w p A vs vm mo s m) :
    Calls Tryz.prog 241 #[.pointer (some ⟨cS, 0, none⟩), .pointer (some ⟨cD, 0, none⟩), .pointer (some ⟨cP, 0, none⟩), .pointer (some ⟨cC, 0, none⟩)] w (FolEnd w X A p cS cD cP cC g c vs vm mo s m (Ad.fol ltR (m.drop dn) ps) cnt) := by
  have n5 := nd5 hP.dis
  have HN5 := Lib.hid n5
  have l1 := (hP.hS.lt cS rfl).2
  have l2 := (hP.hD.lt cD rfl).2
  have l3 := (hP.hP.lt cP rfl).2
  have l4 := (hP.hC.lt cC rfl).2
  have l5 := (hP.hr.lt g rfl).2
  have hPX : PUv w (fun b => X b ∨ w.heap.size ≤ b) p cS cD cP cC g c hs ps cnt dn := hP.more (fun b hb => .inl hb) (fun b hb => by
    rcases hb with h | h
    · exact hP.hX b h
    · omega)
  have HP := Lib.hid hPX
  have HR := Lib.hid hR
  have HAC := Lib.hid hAc
  have HOK := Lib.hid hok
  obtain ⟨F, hF⟩ : ∃ F, Ad.fol ltR (m.drop dn) ps = F := ⟨_, rfl⟩
  rw [hF]
  have HF := Lib.hid hF
  have k1 : w.cell? ⟨cS, 0, none⟩ = some (.pointer (some ⟨p, 0, none⟩)) := own_cellA hP.hS rfl
  have k2 := hR.cell.2.1
  have k3 : w.cell? ⟨cD, 0, none⟩ = some (.int .i64 dn) := own_cellA hP.hD rfl
  have hm := hR.hm
  have b0 : (0 : Int) ≤ (dn : Int) := by omega
  have b1 : (dn : Int) ≤ (m.length : Int) := by omega
  clear hP hPX hR hAc hok hF n5
  unfold FolEnd
  obtain ⟨N, hN⟩ : ∃ N, m.length = N := ⟨_, rfl⟩
  have HN := Lib.hid hN
  rw [hN] at hm b1 hdn hml hc1 ⊢
  obtain ⟨va, vc, rfl⟩ := own_slice hm
  have hcap := own_cap hm
  have HM := Lib.hid hm
  clear hN
  rcases hm.2 with ⟨hv1, hv2⟩ | ⟨gm, cap, cur, hv, _⟩
  · injection hv1 with hv1 hv3 hv4
    subst hv1
    subst hv4
    have hd0 : dn = 0 := by omega
    subst hd0
    subst hv2
    clear hm
    go_enter Tryz.func241, Tryz.ntmps241
    go_wp2_with fail
    go_quiet (fail)
    have HG0 := Lib.hid (show w.grownBy (w.drewN nq) none from grown_of_below (below_drewN (Below.refl w.heap.size w) nq))
    have HP0 := Lib.hid (HP.out.other HG0.out (fun b e => by cases e))
    have HR0 := Lib.hid (HR.out.other HG0.out (fun b e => by cases e))
    have HK0 := Lib.hid (keep_grown (A := Am A cD cP cC g) HG0.out (fun b e => by cases e))
    clear k1 k2 k3 HG0 HP HR
    generalize w.drewN nq = w0 at HP0 HR0 HK0 ⊢
    go_wp2
    go_loopw [15] (fun i wr => i = .int .i64 0 ∧ wr = w0) (fun i _ => 0)
    case atStart => exact ⟨rfl, rfl⟩
    case round =>
      obtain ⟨rfl, rfl⟩ := hrel
      have HPq := HP0
      have HRq := HR0
      have HKq := HK0
      clear HP0 HR0 HK0
      have j1 : wr.cell? ⟨cS, 0, none⟩ = some (.pointer (some ⟨p, 0, none⟩)) := own_cellA HPq.out.hS rfl
      have j2 := HRq.out.cell.2.1
      have j3 : wr.cell? ⟨cD, 0, none⟩ = some (.int .i64 0) := own_cellA HPq.out.hD rfl
      have j4 : wr.frozen? ⟨cD, 0, none⟩ = false := HPq.out.hD.frozenAt 0
      obtain ⟨P9, G9⟩ := HPq.out.setD (0 : Int)
      have HP9 := Lib.hid P9
      have HR9 := Lib.hid (HRq.out.other G9 (fun b e => by injection e with e; subst e; exact HAC.out.2.1))
      have HK9 := Lib.hid (HKq.out.trans (keep_grown G9 (fun b e hb => by injection e with e; exact hb.2.1 e.symm)))
      clear P9 G9
      go_wp2
      go_end0
      refine ⟨rfl, ⟨hs, ?_⟩, HR9.out, HK9.out⟩
      have e0 : F = (ps, 0) := by rw [← HF.out]; cases m with | nil => rfl | cons a t => cases HN.out
      rw [e0]; simpa using HP9.out
  · injection hv with hv hv2 hv3
    subst hv
    subst hv3
    have b2 : (N : Int) ≤ (vc : Int) := by omega
    have b3 : (dn : Int) ≤ (vc : Int) := by omega
    clear hm
    by_cases hcd : vc = dn
    · subst hcd
      go_enter Tryz.func241, Tryz.ntmps241
      go_wp2_with fail
      go_quiet (fail)
      have HG0 := Lib.hid (show w.grownBy (w.drewN nq) none from grown_of_below (below_drewN (Below.refl w.heap.size w) nq))
      have HP0 := Lib.hid (HP.out.other HG0.out (fun b e => by cases e))
      have HR0 := Lib.hid (HR.out.other HG0.out (fun b e => by cases e))
      have HK0 := Lib.hid (keep_grown (A := Am A cD cP cC g) HG0.out (fun b e => by cases e))
      clear k1 k2 k3 HG0 HP HR
      generalize w.drewN nq = w0 at HP0 HR0 HK0 ⊢
      go_wp2
      go_loopw [15] (fun i wr => i = .int .i64 0 ∧ wr = w0) (fun i _ => 0)
      case atStart => exact ⟨rfl, rfl⟩
      case round =>
        obtain ⟨rfl, rfl⟩ := hrel
        have HPq := HP0
        have HRq := HR0
        have HKq := HK0
        clear HP0 HR0 HK0
        have j1 : wr.cell? ⟨cS, 0, none⟩ = some (.pointer (some ⟨p, 0, none⟩)) := own_cellA HPq.out.hS rfl
        have j2 := HRq.out.cell.2.1
        have j3 : wr.cell? ⟨cD, 0, none⟩ = some (.int .i64 vc) := own_cellA HPq.out.hD rfl
        have j4 : wr.frozen? ⟨cD, 0, none⟩ = false := HPq.out.hD.frozenAt 0
        obtain ⟨P9, G9⟩ := HPq.out.setD (N : Int)
        have HP9 := Lib.hid P9
        have HR9 := Lib.hid (HRq.out.other G9 (fun b e => by injection e with e; subst e; exact HAC.out.2.1))
        have HK9 := Lib.hid (HKq.out.trans (keep_grown G9 (fun b e hb => by injection e with e; exact hb.2.1 e.symm)))
        clear P9 G9
        go_wp2
        go_end0
        refine ⟨rfl, ⟨hs, ?_⟩, HR9.out, HK9.out⟩
        have e0 : F = (ps, 0) := by rw [← HF.out, List.drop_eq_nil_of_le (by rw [HN.out]; omega)]; rfl
        rw [e0]; simpa using HP9.out
    · have hcd2 : ¬ (dn = vc) := fun e => hcd e.symm
      go_enter Tryz.func241, Tryz.ntmps241
      go_wp2_with fail
      go_quiet (fail)
      have HG0 := Lib.hid (show w.grownBy (w.drewN nq) none from grown_of_below (below_drewN (Below.refl w.heap.size w) nq))
      have HP0 := Lib.hid (HP.out.other HG0.out (fun b e => by cases e))
      have HR0 := Lib.hid (HR.out.other HG0.out (fun b e => by cases e))
      have HK0 := Lib.hid (keep_grown (A := Am A cD cP cC g) HG0.out (fun b e => by cases e))
      have HS0 : Hid (w.heap.size ≤ (w.drewN nq).heap.size) := HG0.out.size
      clear k1 k2 k3 HG0 HP HR
      generalize w.drewN nq = w0 at HP0 HR0 HK0 HS0 ⊢
      go_wp2
      go_loopw [15] (fun i wr => ∃ (q cq : Nat) (hsq : List Value) (psq : List (List (Int × Int))), i = .int .i64 q ∧ q ≤ N - dn ∧ cq ≤ 100 * q ∧ Hid (PUv wr (fun b => X b ∨ w.heap.size ≤ b) p cS cD cP cC g c hsq psq (cnt + cq) dn) ∧ Hid (RSv wr p A vs (.slice (some ⟨gm, 0, none⟩) N vc) mo s m) ∧ Hid (KeepA (Am A cD cP cC g) w wr) ∧ Hid (Ad.okI (m.drop (dn + q)) psq.length) ∧ psq.length ≤ 100 ∧ Hid (totP psq ≤ 100) ∧ Hid ((Ad.fol ltR (m.drop (dn + q)) psq).1 = F.1 ∧ cq + (Ad.fol ltR (m.drop (dn + q)) psq).2 = F.2)) (fun i _ => N - (intOf i).toNat)
      case atStart => exact ⟨0, 0, hs, ps, rfl, by omega, by omega, by simpa using HP0, HR0, HK0, by simpa using HOK, hpl, Lib.hid htp, Lib.hid (by rw [Nat.add_zero, HF.out]; exact ⟨rfl, Nat.zero_add _⟩)⟩
      case round =>
        obtain ⟨q, cq, hsq, psq, rfl, hq, hcq, HPq, HRq, HKq, HOKq, hplq, HTq, HFq⟩ := hrel
        clear HP0 HR0 HK0
        have bq : (0 : Int) ≤ (q : Int) := by omega
        by_cases hlt : q < N - dn
        case neg =>
          have hqe : q = N - dn := by omega
          have q1 : decide ((q : Int) < ((N - dn : Nat) : Int)) = false := decide_eq_false (by omega)
          have HE : Hid (m.drop (dn + q) = []) := List.drop_eq_nil_of_le (by rw [HN.out]; omega)
          have HFX : Hid (psq = F.1 ∧ cq = F.2) := by
            have := HFq.out
            rw [HE.out] at this
            exact this
          clear hqe HFq HOKq
          have j1 : wr.cell? ⟨cS, 0, none⟩ = some (.pointer (some ⟨p, 0, none⟩)) := own_cellA HPq.out.hS rfl
          have j2 := HRq.out.cell.2.1
          have j3 : wr.cell? ⟨cD, 0, none⟩ = some (.int .i64 dn) := own_cellA HPq.out.hD rfl
          have j4 : wr.frozen? ⟨cD, 0, none⟩ = false := HPq.out.hD.frozenAt 0
          obtain ⟨P9, G9⟩ := HPq.out.setD (N : Int)
          have HP9 := Lib.hid P9
          have HR9 := Lib.hid (HRq.out.other G9 (fun b e => by injection e with e; subst e; exact HAC.out.2.1))
          have HK9 := Lib.hid (HKq.out.trans (keep_grown G9 (fun b e hb => by injection e with e; exact hb.2.1 e.symm)))
          clear P9 G9
          go_wp2
          go_end0
          refine ⟨rfl, ⟨hsq, ?_⟩, HR9.out, HK9.out⟩
          have h9 := HP9.out
          rw [HFX.out.1, HFX.out.2] at h9
          exact h9
        case pos =>
          have q1 : decide ((q : Int) < ((N - dn : Nat) : Int)) = true := decide_eq_true (by omega)
          have q2 : (q : Int) < ((N - dn : Nat) : Int) := by omega
          obtain ⟨k, hk⟩ : ∃ k, m.getD (dn + q) 0 = k := ⟨_, rfl⟩
          have hmd : m.drop (dn + q) = k :: m.drop (dn + (q + 1)) := by
            rw [List.drop_eq_getElem_cons (by rw [HN.out]; omega), ← hk, List.getD_eq_getElem?_getD, List.getElem?_eq_getElem (by rw [HN.out]; omega)]; rfl
          have hmk : m[dn + q]? = some k := by rw [← hk, List.getD_eq_getElem?_getD, List.getElem?_eq_getElem (by rw [HN.out]; omega)]; rfl
          have e1 : wr.cell? ⟨gm, dn + q, none⟩ = some (.int .i64 k) := own_cellA (show wr.ownsRow 0 3 1 (.slice (some ⟨gm, 0, none⟩) N vc) N (natV m) from by have := HRq.out.hm; rw [HN.out] at this; exact this) (show (natV m)[dn + q]? = some (.int .i64 k) from by unfold natV; rw [List.getElem?_map, hmk]; rfl)
          have HMD := Lib.hid hmd
          have hokk := HOKq.out
          rw [hmd] at hokk
          obtain ⟨hk1, hok2⟩ := hokk
          have HOK2 := Lib.hid hok2
          have h2 := HFq.out
          rw [hmd] at h2
          have HF2 : Hid ((Ad.fol ltR (m.drop (dn + (q + 1))) (Ad.jn ltR k psq)).1 = F.1 ∧ (cq + Mg.mcnt ltR (psq.getD k []) (psq.getD (k + 1) [])) + (Ad.fol ltR (m.drop (dn + (q + 1))) (Ad.jn ltR k psq)).2 = F.2) := ⟨h2.1, by have := h2.2; show _ + (Ad.fol ltR _ _).2 = _; unfold Ad.fol at this; omega⟩
          have hl2 := totP_two hk1
          have htq := HTq.out
          obtain ⟨v1, hv1, x1, c1, rfl, hr1, hx1⟩ := HPq.out.hl.at (k := k) (by omega)
          obtain ⟨v2, hv2, x2, c2, rfl, hr2, hx2⟩ := HPq.out.hl.at (k := k + 1) hk1
          have HJT : Hid (totP (Ad.jn ltR k psq) ≤ 100 ∧ (Ad.jn ltR k psq).length + 1 = psq.length) := ⟨by rw [totP_jn hk1]; exact htq, Ad.jn_length ltR hk1⟩
          obtain ⟨L, hL⟩ : ∃ L, psq.getD k [] = L := ⟨_, rfl⟩
          obtain ⟨R, hRR⟩ : ∃ R, psq.getD (k + 1) [] = R := ⟨_, rfl⟩
          rw [hL] at hr1 hv1 HF2 hl2
          rw [hRR] at hr2 hv2 HF2 hl2
          have HLR : Hid (psq.getD k [] = L ∧ psq.getD (k + 1) [] = R) := ⟨hL, hRR⟩
          obtain ⟨nl, hnl⟩ : ∃ n, L.length = n := ⟨_, rfl⟩
          obtain ⟨nr, hnr⟩ : ∃ n, R.length = n := ⟨_, rfl⟩
          rw [hnl] at hr1 hv1 hl2
          rw [hnr] at hr2 hv2 hl2
          have HMR : Hid (∀ W : World, W.heap = wr.heap → Calls Tryz.prog 242 #[.slice x1 nl c1, .slice x2 nr c2] W (MergeEnd W L R (nl + nr))) := fun W hW => by
            have g0 : wr.grownBy wr none := ⟨rfl, rfl, rfl, Nat.le_refl _, fun _ _ _ => rfl⟩
            have hsame : ∀ a zs, RecsAt wr a zs → RecsAt W a zs := fun a zs h => by
              rcases h with h | ⟨b, off, h1, h0, h2⟩
              · exact .inl h
              · exact .inr ⟨b, off, h1, by rw [hW]; exact h0, fun j hj => by
                  have hb : W.heap[b]? = wr.heap[b]? := by rw [hW]
                  rw [World.cell?_of_block (w := wr) (w' := W) (a := ⟨b, off + j * 2, none⟩) hb, World.cell?_of_block (w := wr) (w' := W) (a := ⟨b, off + j * 2 + 1, none⟩) hb]; exact h2 j hj⟩
            exact merge_any x1 x2 c1 c2 nl nr L R W hnl hnr (by omega) (hsame _ _ hr1.recs) (hsame _ _ hr2.recs) hr1.nil hr2.nil hr1.cap hr2.cap
          unfold MergeEnd at HMR
          have hcb := Mg.mcnt_le ltR L R
          rw [hnl, hnr] at hcb
          have d1 : wr.cell? ⟨cP, 0, none⟩ = some (.slice (some ⟨g, 0, none⟩) psq.length c) := own_cellA HPq.out.hP rfl
          have d2 := own_cellA HPq.out.hr hv1
          have d3 := own_cellA HPq.out.hr hv2
          obtain ⟨P, hPl⟩ : ∃ P, psq.length = P := ⟨_, rfl⟩
          rw [hPl] at d1 hk1
          have HPl := Lib.hid hPl
          clear hk hmd hmk hok2 h2 hx1 hx2 hL hRR hv1 hv2 hr1 hr2 htq
          have lP := (HPq.out.hP.lt cP rfl).2
          have lg := (HPq.out.hr.lt g rfl).2
          obtain ⟨mc, hmc⟩ : ∃ mc, Mg.mcnt ltR L R = mc := ⟨_, rfl⟩
          rw [hmc] at HMR HF2 hcb
          clear hmc
          have hnn : nl + nr ≤ 100 := by have := HTq.out; omega
          have hsz := HKq.out.size
          have b5 : (0 : Int) ≤ (k : Int) := by omega
          have b6 : (k : Int) < (P : Int) := by omega
          have b7 : (k : Int) + 1 < (P : Int) := by omega
          have b8 : IntKind.i64.wrap ((k : Int) + 1) = (k : Int) + 1 := by rw [IntKind.wrap_i64]; omega
          have b9 : IntKind.i64.wrap ((k : Int) + 2) = (k : Int) + 2 := by rw [IntKind.wrap_i64]; omega
          have b10 : ((k : Int) + 1).toNat = k + 1 := by omega
          have b11 : IntKind.i64.wrap (cnt + (cq : Int) + (mc : Int)) = cnt + (cq : Int) + (mc : Int) := by rw [IntKind.wrap_i64]; omega
          have b12 : (0 : Int) ≤ (k : Int) + 1 := by omega
          have D1 : wr.drew.cell? ⟨cP, 0, none⟩ = some (.slice (some ⟨g, 0, none⟩) P c) := d1
          have D2 : wr.drew.cell? ⟨g, k, none⟩ = some (.slice x1 nl c1) := d2
          have D3 : wr.drew.cell? ⟨g, k + 1, none⟩ = some (.slice x2 nr c2) := d3
          go_wp2_with fail
          go_region_held3 (fun w' => w'.cell? ⟨cP, 0, none⟩ = some (.slice (some ⟨g, 0, none⟩) P c) ∧ w'.cell? ⟨g, k, none⟩ = some (.slice x1 nl c1) ∧ w'.cell? ⟨g, k + 1, none⟩ = some (.slice x2 nr c2)) (go_keep)
            (first | ((try go_split_ands); go_at_call 242; refine (HMR.out _ (by rfl)).mono ?_; rintro e w4 ⟨g4, c4, rfl, ho4, hb4⟩; have s1 := (hb4.cell (p := ⟨cP, 0, none⟩) lP).trans D1; have s2 := (hb4.cell (p := ⟨g, k, none⟩) lg).trans D2; have s3 := (hb4.cell (p := ⟨g, k + 1, none⟩) lg).trans D3))
          have g4b : wr.grownBy w4 none := grown_of_below (show Below wr.heap.size wr w4 from ⟨hb4.os, hb4.tape, hb4.output, hb4.size, hb4.block⟩)
          have g4s : wr.heap.size ≤ g4 := (ho4.lt g4 rfl).1
          have P4 := HPq.out.other g4b (fun b e => by cases e)
          have R4 := HRq.out.other g4b (fun b e => by cases e)
          have LX4 : LX w4 (fun b => X b ∨ w.heap.size ≤ b) (.slice (some ⟨g4, 0, none⟩) (nl + nr) c4) (Mg.mrg ltR L R) := by
            have hrd := rd_own ho4
            have hln : (Mg.mrg ltR L R).length = nl + nr := by rw [Mg.mrg_length, hnl, hnr]
            exact ⟨some ⟨g4, 0, none⟩, c4, by rw [hln], by rw [hln]; exact hrd, fun b off e => by injection e with e; injection e with e _; subst e; exact ⟨.inr (by omega), (ho4.lt g4 rfl).2⟩⟩
          have e4 : w4.cell? ⟨cC, 0, none⟩ = some (.int .i64 (cnt + (cq : Int))) := own_cellA P4.hC rfl
          have f4 : w4.frozen? ⟨cC, 0, none⟩ = false := P4.hC.frozenAt 0
          obtain ⟨P5, G5⟩ := P4.setC (cnt + (cq : Int) + (mc : Int))
          have R5 := R4.other G5 (fun b e => by injection e with e; subst e; exact HAC.out.2.2.2.1)
          have K5 := (HKq.out.trans (keep_grown (A := Am A cD cP cC g) g4b (fun b e => by cases e))).trans (keep_grown G5 (fun b e hb => by injection e with e; exact hb.2.2.2.1 e.symm))
          have LX5 := LX4.grown G5 (fun b e hx => by injection e with e; subst e; exact (P4.hX _ hx).2.2.2.1 rfl)
          have HP5 := Lib.hid P5
          have HR5 := Lib.hid R5
          have HK5 := Lib.hid K5
          have HL5 := Lib.hid LX5
          clear P4 R4 LX4 P5 R5 K5 G5 LX5 g4b ho4 hb4 s1 s2 s3 D1 D2 D3 d1 d2 d3 HPq HRq HKq HMR
          have W5 : ∃ W5, W5 = w4.setCell ⟨cC, 0, none⟩ (.int .i64 (cnt + (cq : Int) + (mc : Int))) := ⟨_, rfl⟩
          obtain ⟨w5, hw5⟩ := W5
          rw [← hw5] at HP5 HR5 HK5 HL5
          have d5 : w5.cell? ⟨cP, 0, none⟩ = some (.slice (some ⟨g, 0, none⟩) P c) := by have := own_cellA HP5.out.hP (i := 0) rfl; rw [this, HPl.out]
          obtain ⟨v0, hv0, _⟩ := HP5.out.hl.at (k := k) (by rw [HPl.out]; omega)
          have c5 := own_cellA HP5.out.hr hv0
          have f5 : w5.frozen? ⟨g, k, none⟩ = false := HP5.out.hr.frozenAt k
          have hst := HP5.out.hr.stored k (.slice (some ⟨g4, 0, none⟩) (nl + nr) c4)
          have hp6 := HP5.out.hP.kept hst.2 (.inr fun e => HN5.out.2.2.2.2.2.2.2.2.1 (by injection e))
          have d6 : (w5.setCell ⟨g, k, none⟩ (.slice (some ⟨g4, 0, none⟩) (nl + nr) c4)).cell? ⟨cP, 0, none⟩ = some (.slice (some ⟨g, 0, none⟩) P c) := by have := own_cellA hp6 (i := 0) rfl; rw [this, HPl.out]
          have hso := hst.1
          rw [HPl.out] at hso
          have HDL := Lib.hid (delL_any 0 g P c (k + 1) ((k : Int) + 1) ((k : Int) + 2) (hsq.set k (.slice (some ⟨g4, 0, none⟩) (nl + nr) c4)) (w5.setCell ⟨g, k, none⟩ (.slice (some ⟨g4, 0, none⟩) (nl + nr) c4)) (by omega) (by omega) (by omega) (by omega) (fun v hv => by
            rcases List.mem_or_eq_of_mem_set hv with h | h
            · exact HP5.out.hl.one v h
            · rw [h]; rfl) hso)
          unfold DelEnd at HDL
          have HS5 := Lib.hid hst.2
          have HJN := Lib.hid (HX.join HP5.out.hl (v := .slice (some ⟨g4, 0, none⟩) (nl + nr) c4) (k := k) (by rw [HPl.out]; omega) (by rw [HLR.out.1, HLR.out.2]; exact HL5.out))
          clear hst hp6 hso hv0 hPl
          rw [hw5] at d5 c5 f5 d6 HDL HS5
          go_wp2_with fail
          refine HDL.out.mono ?_
          rintro e w7 ⟨rfl, ho7, hg7⟩
          have G57 := grown_trans0 HS5.out hg7
          rw [← hw5] at G57
          have hp7 := HP5.out.hP.kept G57 (.inr fun e => HN5.out.2.2.2.2.2.2.2.2.1 (by injection e))
          have c7 := own_cellA hp7 (i := 0) rfl
          have f7 : w7.frozen? ⟨cP, 0, none⟩ = false := hp7.frozenAt 0
          obtain ⟨P8, G8⟩ := HP5.out.setP (g' := g) (n' := P - 1) (c' := c) (ps' := Ad.jn ltR k psq) G57 (by have := HJT.out.2; have := HPl.out; omega) ho7 (.inl rfl) (HJN.out.imp fun v L hv => hv.grown G57 fun b e hx => by injection e with e; subst e; exact (HP5.out.hX _ hx).2.2.2.2 rfl) (fun b hb => (HP5.out.hX b hb).2.2.2.2)
          have R8 := (HR5.out.other G57 (fun b e => by injection e with e; subst e; exact HAC.out.2.2.2.2)).other G8 (fun b e => by injection e with e; subst e; exact HAC.out.2.2.1)
          have K8 := (HK5.out.trans (keep_grown G57 (fun b e hb => by injection e with e; exact hb.2.2.2.2 e.symm))).trans (keep_grown G8 (fun b e hb => by injection e with e; exact hb.2.2.1 e.symm))
          have HP8 := Lib.hid P8
          have HR8 := Lib.hid R8
          have HK8 := Lib.hid K8
          have hJ := HJT.out
          have hcast : cnt + ((cq + mc : Nat) : Int) = cnt + (cq : Int) + (mc : Int) := by omega
          have HF8 : Hid ((Ad.fol ltR (m.drop (dn + (q + 1))) (Ad.jn ltR k psq)).1 = F.1 ∧ (cq + mc) + (Ad.fol ltR (m.drop (dn + (q + 1))) (Ad.jn ltR k psq)).2 = F.2) := HF2
          clear P8 G8 R8 K8 G57 hp7 ho7 hg7 HDL HS5 HJN HP5 HR5 HK5 HL5 d5 c5 f5 d6
          go_wp2
          go_roundw
          case rel => exact ⟨q + 1, cq + mc, _, Ad.jn ltR k psq, by go_num, by omega, by omega, by rw [hcast]; exact HP8, HR8, HK8, by have := HOK2.out; rw [show psq.length - 1 = (Ad.jn ltR k psq).length by omega] at this; exact Lib.hid this, by omega, Lib.hid hJ.1, HF8⟩
          case measure => simp [intOf]; omega

end Go.Proofs.YtbgmbanebmlghaaGreatDoor

namespace Go.Proofs.YtbgmbanebmlghaaGreatDoor
open Go.RowKit Go.Sort
set_option linter.unusedVariables false

/-- Reversed from both ends, i steps. -/
def rvS (L : List (Int × Int)) (i : Nat) : List (Int × Int) := (List.range L.length).map fun j => if j < i ∨ L.length ≤ j + i then L.getD (L.length - 1 - j) (0, 0) else L.getD j (0, 0)
theorem rvS_len (L : List (Int × Int)) (i : Nat) : (rvS L i).length = L.length := by simp [rvS]
theorem rvS_at {L : List (Int × Int)} {i j : Nat} (hj : j < L.length) : (rvS L i)[j]? = some (if j < i ∨ L.length ≤ j + i then L.getD (L.length - 1 - j) (0, 0) else L.getD j (0, 0)) := by
  unfold rvS
  rw [List.getElem?_map, List.getElem?_range hj]; rfl
theorem rvS_getD {L : List (Int × Int)} {i j : Nat} (hj : j < L.length) : (rvS L i).getD j (0, 0) = if j < i ∨ L.length ≤ j + i then L.getD (L.length - 1 - j) (0, 0) else L.getD j (0, 0) := by
  rw [List.getD_eq_getElem?_getD, rvS_at hj]; rfl
theorem rvS_zero (L : List (Int × Int)) : rvS L 0 = L := by
  apply List.ext_getElem?
  intro j
  by_cases hj : j < L.length
  · rw [rvS_at hj, if_neg (by omega), List.getD_eq_getElem?_getD, List.getElem?_eq_getElem hj]; rfl
  · rw [List.getElem?_eq_none (by rw [rvS_len]; omega), List.getElem?_eq_none (by omega)]
theorem rvS_end {L : List (Int × Int)} {i : Nat} (h : L.length ≤ 2 * i + 1) : rvS L i = L.reverse := by
  apply List.ext_getElem?
  intro j
  by_cases hj : j < L.length
  · rw [rvS_at hj, List.getElem?_reverse hj, List.getElem?_eq_getElem (by omega)]
    by_cases hc : j < i ∨ L.length ≤ j + i
    · rw [if_pos hc, List.getD_eq_getElem?_getD, List.getElem?_eq_getElem (by omega)]; rfl
    · rw [if_neg hc, List.getD_eq_getElem?_getD]
      have e : L.length - 1 - j = j := by omega
      simp only [e]
      rw [List.getElem?_eq_getElem hj]; rfl
  · rw [List.getElem?_eq_none (by rw [rvS_len]; omega), List.getElem?_eq_none (by simp; omega)]
theorem rvS_step {L : List (Int × Int)} {i k : Nat} (h : i < k) (hk : k + i + 1 = L.length) : ((rvS L i).set i ((rvS L i).getD k (0, 0))).set k ((rvS L i).getD i (0, 0)) = rvS L (i + 1) := by
  rw [rvS_getD (by omega), rvS_getD (by omega), if_neg (by omega), if_neg (by omega)]
  apply List.ext_getElem?
  intro j
  by_cases hj : j < L.length
  · rw [rvS_at hj, List.getElem?_set, List.getElem?_set, List.length_set, rvS_len]
    by_cases h1 : k = j
    · subst h1
      rw [if_pos rfl, if_pos hj, if_pos (by omega), show L.length - 1 - k = i by omega]
    · rw [if_neg h1]
      by_cases h2 : i = j
      · subst h2
        rw [if_pos rfl, if_pos hj, if_pos (by omega), show L.length - 1 - i = k by omega]
      · rw [if_neg h2, rvS_at hj]
        congr 1
        by_cases hc : j < i ∨ L.length ≤ j + i
        · rw [if_pos hc, if_pos (by omega)]
        · rw [if_neg hc, if_neg (by omega)]
  · rw [List.getElem?_eq_none (by simp [rvS_len]; omega), List.getElem?_eq_none (by rw [rvS_len]; omega)]

def RevEnd (B0 g n c : Nat) (L : List (Int × Int)) (w : World) (e : Ending) (w' : World) : Prop :=
  e = .returned (.tuple #[]) ∧ w'.ownsRow B0 87 2 (.slice (some ⟨g, 0, none⟩) n c) n (flat encR L.reverse) ∧ w.grownBy w' (some g)

set_option maxRecDepth 100000 in
set_option maxHeartbeats 4000000 in
theorem reverseR_any (B0 g c n : Nat) (L : List (Int × Int)) (w : World) (hn : L.length = n) (hn1 : 1 ≤ n) (hn2 : n ≤ 1000) (h : w.ownsRow B0 87 2 (.slice (some ⟨g, 0, none⟩) n c) n (flat encR L)) :
    Calls Tryz.prog 240 #[.slice (some ⟨g, 0, none⟩) n c] w (RevEnd B0 g n c L w) := by
  have HO : Hid (w.ownsRow B0 87 2 (.slice (some ⟨g, 0, none⟩) n c) n (flat encR (rvS L 0))) := by
    rw [rvS_zero]; exact h
  have HN := Lib.hid hn
  clear h hn
  unfold RevEnd
  go_enter Tryz.func240, Tryz.ntmps240
  go_wp2
  go_loopw [2, 3] (fun i k wr => ∃ i' k' : Nat, i = .int .i64 i' ∧ k = .int .i64 k' ∧ (k' + i' + 1 = n) ∧ wr.ownsRow B0 87 2 (.slice (some ⟨g, 0, none⟩) n c) n (flat encR (rvS L i')) ∧ w.grownBy wr (some g)) (fun i k _ => (intOf k).toNat)
  case atStart => exact ⟨0, n - 1, rfl, by go_num, by omega, HO.out, grown_of_below (Below.refl w.heap.size w)⟩
  case round =>
    obtain ⟨i, k, rfl, rfl, hik, ho, hg⟩ := hrel
    have HO2 := Lib.hid ho; have HG2 := Lib.hid hg
    clear ho hg HO
    by_cases hlt : i < k
    case neg =>
      have q1 : decide ((i : Int) < (k : Int)) = false := decide_eq_false (by omega)
      have HE := Lib.hid (rvS_end (L := L) (i := i) (by rw [HN.out]; omega))
      rw [HE.out] at HO2
      go_wp2
      go_end0
      exact ⟨rfl, HO2.out, HG2.out⟩
    have q1 : decide ((i : Int) < (k : Int)) = true := decide_eq_true (by omega)
    have hst := rvS_step (L := L) (i := i) (k := k) hlt (by rw [HN.out]; exact hik)
    have HL1 := Lib.hid ((rvS_len L i).trans HN.out)
    have q2 : (rvS L i)[i]? = some ((rvS L i).getD i (0, 0)) := by rw [List.getD_eq_getElem?_getD, List.getElem?_eq_getElem (by rw [HL1.out]; omega)]; rfl
    have q3 : (rvS L i)[k]? = some ((rvS L i).getD k (0, 0)) := by rw [List.getD_eq_getElem?_getD, List.getElem?_eq_getElem (by rw [HL1.out]; omega)]; rfl
    obtain ⟨c1, c1'⟩ := rec_cells HO2.out q2
    obtain ⟨c2, c2'⟩ := rec_cells HO2.out q3
    generalize (rvS L i).getD i (0, 0) = X at c1 c1' hst
    generalize (rvS L i).getD k (0, 0) = Y at c2 c2' hst
    have HS := Lib.hid hst
    clear q2 q3 hst
    generalize rvS L i = rs at HO2 HL1 HS
    obtain ⟨X1, X2⟩ := X
    obtain ⟨Y1, Y2⟩ := Y
    have b1 : (0 : Int) ≤ (i : Int) := by omega
    have b2 : (i : Int) < (n : Int) := by omega
    have b3 : (0 : Int) ≤ (k : Int) := by omega
    have b4 : (k : Int) < (n : Int) := by omega
    have p1 : i < n := by omega
    have p2 : k < n := by omega
    have HO3 : Hid (wr.drew.ownsRow B0 87 2 (.slice (some ⟨g, 0, none⟩) n c) n (flat encR rs)) := HO2.out
    have d1 : wr.drew.cell? ⟨g, i * 2, none⟩ = some (.int .i64 X1) := c1
    have d1' : wr.drew.cell? ⟨g, i * 2 + 1, none⟩ = some (.int .i64 X2) := c1'
    have d2 : wr.drew.cell? ⟨g, k * 2, none⟩ = some (.int .i64 Y1) := c2
    have d2' : wr.drew.cell? ⟨g, k * 2 + 1, none⟩ = some (.int .i64 Y2) := c2'
    clear c1 c1' c2 c2'
    go_wp2_with fail
    have rf : ∀ o, wr.drew.frozen? ⟨g, o, none⟩ = false := fun o => HO3.out.frozenAt o
    have o1 := HO2.out.stored (i * 2) (.int .i64 Y1)
    have o2 := o1.1.stored (i * 2 + 1) (.int .i64 Y2)
    have o3 := o2.1.stored (k * 2) (.int .i64 X1)
    have o4 := o3.1.stored (k * 2 + 1) (.int .i64 X2)
    have i1 : (wr.setCell ⟨g, i * 2, none⟩ (.int .i64 Y1)).drew.cell? ⟨g, i * 2 + 1, none⟩ = some (.int .i64 X2) := (cell_far (by omega)).trans d1'
    have f1 : ∀ o, (wr.setCell ⟨g, i * 2, none⟩ (.int .i64 Y1)).drew.frozen? ⟨g, o, none⟩ = false := fun o => o1.1.frozenAt o
    have i2 : ((wr.setCell ⟨g, i * 2, none⟩ (.int .i64 Y1)).setCell ⟨g, i * 2 + 1, none⟩ (.int .i64 Y2)).drew.cell? ⟨g, k * 2, none⟩ = some (.int .i64 Y1) :=
      ((cell_far (by omega)).trans (cell_far (by omega))).trans d2
    have f2 : ∀ o, ((wr.setCell ⟨g, i * 2, none⟩ (.int .i64 Y1)).setCell ⟨g, i * 2 + 1, none⟩ (.int .i64 Y2)).drew.frozen? ⟨g, o, none⟩ = false := fun o => o2.1.frozenAt o
    have i3 : (((wr.setCell ⟨g, i * 2, none⟩ (.int .i64 Y1)).setCell ⟨g, i * 2 + 1, none⟩ (.int .i64 Y2)).setCell ⟨g, k * 2, none⟩ (.int .i64 X1)).drew.cell? ⟨g, k * 2 + 1, none⟩ = some (.int .i64 Y2) :=
      (((cell_far (by omega)).trans (cell_far (by omega))).trans (cell_far (by omega))).trans d2'
    have f3 : ∀ o, (((wr.setCell ⟨g, i * 2, none⟩ (.int .i64 Y1)).setCell ⟨g, i * 2 + 1, none⟩ (.int .i64 Y2)).setCell ⟨g, k * 2, none⟩ (.int .i64 X1)).drew.frozen? ⟨g, o, none⟩ = false := fun o => o3.1.frozenAt o
    have hfl : ((((flat encR rs).set (i * 2) (.int .i64 Y1)).set (i * 2 + 1) (.int .i64 Y2)).set (k * 2) (.int .i64 X1)).set (k * 2 + 1) (.int .i64 X2) = flat encR (rvS L (i + 1)) := by
      rw [flat_set2 encR_len rs i (by rw [HL1.out]; exact p1) (Y1, Y2) _ _ rfl, flat_set2 encR_len _ k (by rw [List.length_set, HL1.out]; exact p2) (X1, X2) _ _ rfl, HS.out]
    have HO9 : Hid (((((wr.setCell ⟨g, i * 2, none⟩ (.int .i64 Y1)).setCell ⟨g, i * 2 + 1, none⟩ (.int .i64 Y2)).setCell ⟨g, k * 2, none⟩ (.int .i64 X1)).setCell ⟨g, k * 2 + 1, none⟩ (.int .i64 X2)).ownsRow B0 87 2 (.slice (some ⟨g, 0, none⟩) n c) n (flat encR (rvS L (i + 1)))) := by
      show World.ownsRow _ _ _ _ _ _ _
      rw [← hfl]; exact o4.1
    have HG9 := Lib.hid (grown_trans HG2.out (grown_trans o1.2 (grown_trans o2.2 (grown_trans o3.2 o4.2))))
    clear o1 o2 o3 o4 hfl
    refine wp_one ?A ((((wr.setCell ⟨g, i * 2, none⟩ (.int .i64 Y1)).setCell ⟨g, i * 2 + 1, none⟩ (.int .i64 Y2)).setCell ⟨g, k * 2, none⟩ (.int .i64 X1)).setCell ⟨g, k * 2 + 1, none⟩ (.int .i64 X2)).drew ?h1 ?h2
    case h1 =>
      go_region_law (fail)
      all_goals (refine ⟨?_, ?_⟩ <;> with_reducible rfl)
    case h2 =>
      generalize (((wr.setCell ⟨g, i * 2, none⟩ (.int .i64 Y1)).setCell ⟨g, i * 2 + 1, none⟩ (.int .i64 Y2)).setCell ⟨g, k * 2, none⟩ (.int .i64 X1)).setCell ⟨g, k * 2 + 1, none⟩ (.int .i64 X2) = w9 at HO9 HG9 ⊢
      go_wp2
      go_roundw
      case rel => exact ⟨i + 1, k - 1, by go_num, by go_num, by omega, HO9.out, grown_trans HG9.out (grown_of_below (Below.refl w9.heap.size w9).drew)⟩
      case measure => simp [intOf]; omega

end Go.Proofs.YtbgmbanebmlghaaGreatDoor

namespace Go.Proofs.YtbgmbanebmlghaaGreatDoor
open Go.RowKit Go.Sort
set_option linter.unusedVariables false

/-- A run, ascending. -/
def prt (p : List (Int × Int)) : List (Int × Int) := if 1 < p.length ∧ (p.getD 1 (0, 0)).1 < (p.getD 0 (0, 0)).1 then p.reverse else p
theorem prt_len (p : List (Int × Int)) : (prt p).length = p.length := by unfold prt; split <;> simp
def cutL (rs : List (Int × Int)) (f e : Nat) : List (Int × Int) := (rs.drop f).take (e - f)
theorem cutL_len {rs : List (Int × Int)} {f e : Nat} (he : e ≤ rs.length) : (cutL rs f e).length = e - f := by unfold cutL; rw [List.length_take, List.length_drop]; omega
theorem cutL_at {rs : List (Int × Int)} {f e i : Nat} (h : i < e - f) : (cutL rs f e).getD i (0, 0) = rs.getD (f + i) (0, 0) := by
  unfold cutL
  simp only [List.getD_eq_getElem?_getD, List.getElem?_take, List.getElem?_drop, if_pos h]

theorem srt_desc (p : List (Int × Int)) (h : p.Pairwise fun a b => b.1 < a.1) : Mg.srt ltR p = p.reverse := by
  refine Mg.list_snoc (P := fun p => p.Pairwise (fun a b => b.1 < a.1) → Mg.srt ltR p = p.reverse) (fun _ => rfl) (fun l x ih h => ?_) p h
  rw [List.pairwise_append] at h
  rw [Mg.srt_snoc, Mg.mrg_behind, ih h.1]
  · simp
  · intro a ha b hb
    rw [List.mem_singleton.1 hb]
    rw [Mg.srt_mem] at ha
    have := h.2.2 a ha x (by simp)
    unfold ltR Mg.ltK
    exact decide_eq_true this

theorem run_bound2 {ks : List Int} {f : Nat} (h : f < ks.length) (hd : isDn ks f = true) : f + 2 ≤ runEnd ks f := by
  have h1 : f + 1 < ks.length := by simp only [isDn, Bool.and_eq_true, decide_eq_true_eq] at hd; exact hd.1
  have h2 : dn ks (f + 1) = true := by simp only [isDn, Bool.and_eq_true] at hd; exact hd.2
  have : runEnd ks f = scanTo (dn ks) ks.length (f + 1) := by unfold runEnd; rw [hd]; rfl
  rw [this, scanTo_step h1 h2]
  exact (scanTo_bound _ (by omega)).1
theorem run_all {ks : List Int} {f j : Nat} (h : f < ks.length) (h1 : f + 1 ≤ j) (h2 : j < runEnd ks f) : dn ks j = isDn ks f := by
  cases hd : isDn ks f
  · have hE : runEnd ks f = scanF (fun t => !dn ks t) (ks.length - (f + 1)) (f + 1) := by unfold runEnd; rw [hd]; rfl
    rw [hE] at h2
    have := scanF_all _ _ _ j h1 h2
    simpa using this
  · have hE : runEnd ks f = scanF (dn ks) (ks.length - (f + 1)) (f + 1) := by unfold runEnd; rw [hd]; rfl
    rw [hE] at h2
    exact scanF_all _ _ _ j h1 h2

theorem prt_run {rs : List (Int × Int)} {f : Nat} (h : f < rs.length) : prt (cutL rs f (runEnd (keysL rs) f)) = Mg.srt ltR (cutL rs f (runEnd (keysL rs) f)) := by
  have hk : (keysL rs).length = rs.length := keysL_len rs
  have hb := runEnd_bound (ks := keysL rs) (f := f) (by omega)
  obtain ⟨e, he⟩ : ∃ e, runEnd (keysL rs) f = e := ⟨_, rfl⟩
  rw [he] at hb ⊢
  rw [hk] at hb
  have hl := cutL_len (rs := rs) (f := f) (e := e) hb.2
  have hstep : ∀ i, i + 1 < e - f → decide (((cutL rs f e).getD (i + 1) (0, 0)).1 < ((cutL rs f e).getD i (0, 0)).1) = isDn (keysL rs) f := fun i hi => by
    rw [cutL_at hi, cutL_at (by omega), show f + (i + 1) = (f + i) + 1 by omega, ← dn_at (by omega)]
    exact run_all (by omega) (by omega) (by rw [he]; omega)
  cases hd : isDn (keysL rs) f
  · rw [hd] at hstep
    have hA : Mg.Asc ltR (cutL rs f e) := Mg.asc_of_side (Mg.swK Prod.fst) _ fun i hi => by
      have := hstep i (by omega)
      simp only [List.getD_eq_getElem?_getD, List.getElem?_eq_getElem hi, List.getElem?_eq_getElem (show i < (cutL rs f e).length by omega)] at this
      exact this
    rw [Mg.srt_of_asc hA]
    unfold prt
    rw [if_neg]
    rintro ⟨h1, h2⟩
    have := hstep 0 (by omega)
    rw [decide_eq_false_iff_not] at this
    exact this h2
  · rw [hd] at hstep
    have h2 := run_bound2 (by omega) hd
    rw [he] at h2
    have hpw : ∀ (n i j : Nat), j = i + n + 1 → j < e - f → ((cutL rs f e).getD j (0, 0)).1 < ((cutL rs f e).getD i (0, 0)).1 := fun n => by
      induction n with
      | zero => intro i j hj hlt; subst hj; exact of_decide_eq_true (hstep i hlt)
      | succ n ih =>
        intro i j hj hlt
        have g1 := ih i (j - 1) (by omega) (by omega)
        have g2 := of_decide_eq_true (hstep (j - 1) (by omega))
        rw [show j - 1 + 1 = j by omega] at g2
        omega
    have hD : (cutL rs f e).Pairwise fun a b => b.1 < a.1 := List.pairwise_iff_getElem.2 fun i j hi hj hij => by
      have := hpw (j - i - 1) i j (by omega) (by omega)
      simpa only [List.getD_eq_getElem?_getD, List.getElem?_eq_getElem hi, List.getElem?_eq_getElem hj, Option.getD_some] using this
    rw [srt_desc _ hD]
    unfold prt
    rw [if_pos ⟨by omega, hpw 0 0 1 rfl (by omega)⟩]

def prtL (rs : List (Int × Int)) (x : Int × Int) : List (Int × Int) := prt ((rs.drop x.1.toNat).take x.2.toNat)
/-- The parts of a list. -/
def partsL (rs : List (Int × Int)) : List (List (Int × Int)) := (runsFrom (keysL rs) 0).map (prtL rs)

theorem runs_ok (rs : List (Int × Int)) : ∀ (n f : Nat), rs.length - f = n → f ≤ rs.length →
    (∀ x ∈ runsFrom (keysL rs) f, ∃ a b : Nat, x = ((a : Int), (b : Int)) ∧ 1 ≤ b ∧ a + b ≤ rs.length) ∧
    Ad.jall ltR ((runsFrom (keysL rs) f).map (prtL rs)) = Mg.srt ltR (rs.drop f) ∧ totP ((runsFrom (keysL rs) f).map (prtL rs)) = rs.length - f ∧ (runsFrom (keysL rs) f).length ≤ rs.length - f
  | n, f, hn, hf => by
    have hk : (keysL rs).length = rs.length := keysL_len rs
    by_cases h : f < rs.length
    · have hb := runEnd_bound (ks := keysL rs) (f := f) (by omega)
      have hp := prt_run h
      obtain ⟨e, he⟩ : ∃ e, runEnd (keysL rs) f = e := ⟨_, rfl⟩
      rw [runsFrom_step (by omega : f < (keysL rs).length)]
      rw [he] at hb hp ⊢
      rw [hk] at hb
      obtain ⟨h1, h2, h3, h4⟩ := runs_ok rs (rs.length - e) e rfl hb.2
      have hpl : prtL rs ((f : Int), (e : Int) - (f : Int)) = prt (cutL rs f e) := by
        unfold prtL cutL
        have e1 : ((f : Int), (e : Int) - (f : Int)).1.toNat = f := by simp
        have e2 : ((f : Int), (e : Int) - (f : Int)).2.toNat = e - f := by show ((e : Int) - (f : Int)).toNat = _; omega
        rw [e1, e2]
      refine ⟨fun x hx => ?_, ?_, ?_, ?_⟩
      · rcases List.mem_cons.1 hx with rfl | hx
        · exact ⟨f, e - f, by congr 1; omega, by omega, by omega⟩
        · exact h1 x hx
      · rw [List.map_cons, hpl]
        show Mg.mrg ltR _ (Ad.jall ltR _) = _
        rw [h2, hp, Mg.srt_mrg (Mg.swK Prod.fst)]
        congr 1
        unfold cutL
        have : rs.drop e = (rs.drop f).drop (e - f) := by rw [List.drop_drop]; congr 1; omega
        rw [this, List.take_append_drop]
      · rw [List.map_cons, hpl]
        show (prt (cutL rs f e)).length + totP _ = _
        rw [h3, prt_len, cutL_len hb.2]; omega
      · rw [List.length_cons]; omega
    · rw [runsFrom_end (by omega), List.drop_of_length_le (by omega)]
      exact ⟨(fun x hx => by cases hx), rfl, by show (0 : Nat) = _; omega, Nat.zero_le _⟩
  termination_by n => n
  decreasing_by all_goals omega

theorem parts_ok (rs : List (Int × Int)) : Ad.jall ltR (partsL rs) = Mg.srt ltR rs ∧ totP (partsL rs) = rs.length ∧ (partsL rs).length ≤ rs.length := by
  obtain ⟨_, a, b, c⟩ := runs_ok rs _ 0 rfl (Nat.zero_le _)
  exact ⟨a, b, by unfold partsL; rw [List.length_map]; exact c⟩

end Go.Proofs.YtbgmbanebmlghaaGreatDoor

namespace Go.Proofs.YtbgmbanebmlghaaGreatDoor
open Go.RowKit Go.Sort
set_option linter.unusedVariables false

theorem totP_append (a b : List (List (Int × Int))) : totP (a ++ b) = totP a + totP b := by unfold totP; simp
theorem sz_sum (ps : List (List (Int × Int))) : (Ad.sz ps).sum = ((totP ps : Nat) : Int) := by
  unfold Ad.sz totP
  induction ps with
  | nil => rfl
  | cons a t ih => simp only [List.map_cons, List.sum_cons, ih]; omega
theorem sz_nn (ps : List (List (Int × Int))) : ∀ x ∈ Ad.sz ps, 0 ≤ x := fun x hx => by
  unfold Ad.sz at hx
  obtain ⟨p, _, rfl⟩ := List.mem_map.1 hx
  omega
theorem bd_sz {ps : List (List (Int × Int))} (h : totP ps ≤ 1000) : Bd (Ad.sz ps) := ⟨sz_nn ps, by rw [sz_sum]; omega⟩

theorem fol_bound (N : Nat) : ∀ (is : List Nat) (ps : List (List (Int × Int))), totP ps ≤ N → Ad.okI is ps.length → (Ad.fol ltR is ps).2 ≤ N * is.length
  | [], ps, _, _ => Nat.zero_le _
  | k :: t, ps, h, ho => by
    have h1 := fol_bound N t (Ad.jn ltR k ps) (by rw [totP_jn ho.1]; exact h) (by rw [show (Ad.jn ltR k ps).length = ps.length - 1 from by have := Ad.jn_length ltR ho.1; omega]; exact ho.2)
    have h2 := Mg.mcnt_le ltR (ps.getD k []) (ps.getD (k + 1) [])
    have h3 := totP_two ho.1
    show _ + (Ad.fol ltR t _).2 ≤ N * (t.length + 1)
    rw [Nat.mul_add]
    omega

/-- After j pushes. -/
theorem push_info (pl : List (List (Int × Int))) (htp : totP pl ≤ 64) (hpl : pl.length ≤ 64) {j : Nat} (hj : j ≤ pl.length) :
    (Ad.idxs (Ad.sz (pl.take j))).1 = Ad.sz (Ad.pushes ltR (pl.take j)).1 ∧ (Ad.pushes ltR (pl.take j)).1.length + (Ad.idxs (Ad.sz (pl.take j))).2.length = j ∧ totP (Ad.pushes ltR (pl.take j)).1 = totP (pl.take j) ∧
      (Ad.pushes ltR (pl.take j)).2 ≤ 64 * (Ad.idxs (Ad.sz (pl.take j))).2.length := by
  have h1 := Ad.idxs_sz ltR (pl.take j)
  obtain ⟨a, b, c⟩ := idxs_ok (Ad.sz (pl.take j)) (sz_nn _)
  have hl : (pl.take j).length = j := by rw [List.length_take]; omega
  rw [h1] at b c
  rw [Ad.sz_length, Ad.sz_length, hl] at c
  rw [sz_sum, sz_sum] at b
  refine ⟨h1, c, by omega, ?_⟩
  clear h1 a b c hl
  induction j with
  | zero => rw [List.take_zero]; exact Nat.zero_le _
  | succ j ih =>
    have ih := ih (by omega)
    have he : pl.take (j + 1) = pl.take j ++ [pl.getD j []] := by rw [List.take_add_one, List.getD_eq_getElem?_getD, List.getElem?_eq_getElem (by omega)]; rfl
    have h1 := Ad.idxs_sz ltR (pl.take j)
    obtain ⟨f1, f2, f3⟩ := Ad.fol_idx ltR false _ ((Ad.pushes ltR (pl.take j)).1 ++ [pl.getD j []]) rfl
    rw [he, Ad.sz_snoc, Ad.idxs_snoc, Ad.pushes_snoc, h1, ← Ad.sz_snoc, ← f1]
    obtain ⟨a, b, c⟩ := idxs_ok (Ad.sz (pl.take j)) (sz_nn _)
    rw [h1, sz_sum, sz_sum] at b
    have hb : totP ((Ad.pushes ltR (pl.take j)).1 ++ [pl.getD j []]) ≤ 64 := by
      have e1 : totP ((Ad.pushes ltR (pl.take j)).1 ++ [pl.getD j []]) = totP (Ad.pushes ltR (pl.take j)).1 + (pl.getD j []).length := by unfold totP; simp
      have e2 : totP (pl.take (j + 1)) = totP (pl.take j) + (pl.getD j []).length := by rw [he]; unfold totP; simp
      have e3 : totP pl = totP (pl.take (j + 1)) + totP (pl.drop (j + 1)) := by
        have := totP_append (pl.take (j + 1)) (pl.drop (j + 1))
        rwa [List.take_append_drop] at this
      omega
    have h9 := fol_bound 64 _ _ hb f3
    show (Ad.pushes ltR (pl.take j)).2 + _ ≤ 64 * ((Ad.idxs (Ad.sz (pl.take j))).2 ++ _).length
    rw [List.length_append, Nat.mul_add]
    omega

theorem totP_snoc (ps : List (List (Int × Int))) (L : List (Int × Int)) : totP (ps ++ [L]) = totP ps + L.length := by unfold totP; simp
theorem totP_take (pl : List (List (Int × Int))) (j : Nat) : totP (pl.take j) ≤ totP pl := by
  have e3 : totP pl = totP (pl.take j) + totP (pl.drop j) := by
    have := totP_append (pl.take j) (pl.drop j)
    rwa [List.take_append_drop] at this
  omega

end Go.Proofs.YtbgmbanebmlghaaGreatDoor

