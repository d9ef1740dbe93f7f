/- Several texts in one: lemmas and walks of the functions that the laws reach. -/
import Derived.Test.YtkckmjajjdpodaaY16

/- Walks: runs are made and merged by the program: each list given back is the caller's own. -/
namespace Go.Proofs.Ytkckmjajjdpodaa
open Go.RowKit Go.Sort
set_option linter.unusedVariables false

/-- Headers of lists in blocks of their own. -/
def OwnHs (w : World) (B : Nat) (hs : List Value) (Ls : List (List (Int × Int))) : Prop :=
  ∀ (j : Nat) (v : Value) (L : List (Int × Int)), hs[j]? = some v → Ls[j]? = some L → ∃ x c, v = .slice x L.length c ∧ w.ownsRow B 72 2 v L.length (flat encR L)
theorem OwnHs.mono {w : World} {B B' : Nat} {hs : List Value} {Ls : List (List (Int × Int))} (h : OwnHs w B hs Ls) (hB : B' ≤ B) : OwnHs w B' hs Ls := fun j v L h1 h2 => by
  obtain ⟨g, c, e, ho⟩ := h j v L h1 h2
  exact ⟨g, c, e, own_mono ho hB⟩
theorem OwnHs.grown {w w' : World} {B : Nat} {row : Option Nat} {hs : List Value} {Ls : List (List (Int × Int))} (h : OwnHs w B hs Ls) (hg : w.grownBy w' row) (hne : ∀ (j b off m c : Nat), hs[j]? = some (.slice (some ⟨b, off, none⟩) m c) → row ≠ some b) : OwnHs w' B hs Ls := fun j v L h1 h2 => by
  obtain ⟨g, c, e, ho⟩ := h j v L h1 h2
  subst e
  refine ⟨g, c, rfl, own_other ho hg (fun k hk e => ?_)⟩
  cases g with
  | none => cases hk
  | some p =>
    obtain ⟨b, o, q⟩ := p
    injection hk with hk
    subst hk
    have h3 : q = none := by
      rcases ho.2 with ⟨h4, _⟩ | ⟨g2, cap, cur, hv, _⟩
      · cases h4
      · injection hv with hv _; injection hv with hv; injection hv
    subst h3
    exact hne j b o _ _ h1 e
theorem OwnHs.same {w w' : World} {B : Nat} {hs : List Value} {Ls : List (List (Int × Int))} (h : OwnHs w B hs Ls) (hb : Below w.heap.size w w') : OwnHs w' B hs Ls := fun j v L h1 h2 => by
  obtain ⟨g, c, e, ho⟩ := h j v L h1 h2
  exact ⟨g, c, e, own_below ho (Nat.le_refl _) hb⟩
theorem OwnHs.snoc {w : World} {B m c : Nat} {x : Option Addr} {hs : List Value} {Ls : List (List (Int × Int))} {L : List (Int × Int)} (h : OwnHs w B hs Ls) (hl : hs.length = Ls.length) (ho : w.ownsRow B 72 2 (.slice x m c) m (flat encR L)) : OwnHs w B (hs ++ [.slice x m c]) (Ls ++ [L]) := by
  intro j u M h1 h2
  rcases Nat.lt_or_ge j hs.length with hj | hj
  · rw [List.getElem?_append_left hj] at h1
    rw [List.getElem?_append_left (by rw [← hl]; exact hj)] at h2
    exact h j u M h1 h2
  · rw [List.getElem?_append_right hj] at h1
    rw [List.getElem?_append_right (by rw [← hl]; exact hj)] at h2
    obtain ⟨i, hi⟩ : ∃ i, j - hs.length = i := ⟨_, rfl⟩
    rw [← hl] at h2
    rw [hi] at h1 h2
    cases i with
    | zero =>
      simp at h1 h2; subst h1 h2
      have hm : L.length = m := (rd_own ho).len
      subst hm
      exact ⟨x, c, rfl, ho⟩
    | succ i => simp at h1
/-- A row of headers and its lists, all the caller's own. -/
structure LoO (w : World) (B : Nat) (o : Value) (n : Nat) (hs : List Value) (Ls : List (List (Int × Int))) : Prop where
  lo : LoH w B o n hs Ls
  oh : OwnHs w B hs Ls
theorem loO_nil (w : World) : LoO (w.alloc (.cells #[] 24)) w.heap.size (.slice (some ⟨w.heap.size, 0, none⟩) 0 0) 0 [] [] := ⟨loH_nil w, fun j v L h _ => by simp at h⟩
theorem LoO.own {w : World} {B n : Nat} {o : Value} {hs : List Value} {Ls : List (List (Int × Int))} (h : LoO w B o n hs Ls) : w.ownsRow B 24 1 o n hs := h.lo.own
theorem LoO.len {w : World} {B n : Nat} {o : Value} {hs : List Value} {Ls : List (List (Int × Int))} (h : LoO w B o n hs Ls) : Ls.length = n := h.lo.len
theorem LoO.ls {w : World} {B n c : Nat} {a : Option Addr} {hs : List Value} {Ls : List (List (Int × Int))} (h : LoO w B (.slice a n c) n hs Ls) : LsAt w a n c Ls := h.lo.ls
theorem LoO.same {w w' : World} {B n : Nat} {o : Value} {hs : List Value} {Ls : List (List (Int × Int))} (h : LoO w B o n hs Ls) (hb : Below w.heap.size w w') : LoO w' B o n hs Ls := ⟨h.lo.same hb, h.oh.same hb⟩
theorem LoO.grow {w w' : World} {B n : Nat} {o : Value} {hs : List Value} {Ls : List (List (Int × Int))} {row : Option Nat} (h : LoO w B o n hs Ls) (hg : w.grownBy w' row) (hr : ∀ b, row = some b → b < B) : LoO w' B o n hs Ls :=
  ⟨h.lo.grow hg hr, h.oh.grown hg (fun j b off m c e e2 => by have := (h.lo.far j b off m c e).1; have := hr _ e2; omega)⟩
theorem LoO.grow2 {w w' : World} {B n S : Nat} {o : Value} {hs : List Value} {Ls : List (List (Int × Int))} {row : Option Nat} (h : LoO w B o n hs Ls) (hg : w.grownBy w' row) (hr : ∀ b, row = some b → S ≤ b) (ho : ∀ b, o.ownBlock = some b → row ≠ some b) (hf : ∀ (j b off m c : Nat), hs[j]? = some (.slice (some ⟨b, off, none⟩) m c) → b < S) : LoO w' B o n hs Ls :=
  ⟨h.lo.grow2 hg hr ho hf, h.oh.grown hg (fun j b off m c e e2 => by have := hf j b off m c e; have := hr _ e2; omega)⟩
theorem own_base {w : World} {B B2 m c : Nat} {e : TypeId} {x : Option Addr} {L : List Value} (h : w.ownsRow B2 e 2 (.slice x m c) m L) (hx : ∀ b off, x = some ⟨b, off, none⟩ → B ≤ b) : w.ownsRow B e 2 (.slice x m c) m L :=
  ⟨h.1, h.2.imp id fun ⟨q, cap, cur, hv, _, r⟩ => ⟨q, cap, cur, hv, by injection hv with hv _; exact hx q 0 hv, r⟩⟩
theorem own_addrB {w : World} {B n c : Nat} {e : TypeId} {x : Option Addr} {L : List Value} (h : w.ownsRow B e 2 (.slice x n c) n L) {k : Nat} (hk : (Value.slice x n c).ownBlock = some k) : x = some ⟨k, 0, none⟩ := by
  rcases h.2 with ⟨h4, _⟩ | ⟨g2, cap, cur, hv, _⟩
  · injection h4 with h4 _; subst h4; cases hk
  · injection hv with hv _; subst hv; injection hk with hk; subst hk; rfl
theorem LoO.app {w w' : World} {B n m c B2 : Nat} {x : Option Addr} {o o' : Value} {hs : List Value} {Ls : List (List (Int × Int))} {L : List (Int × Int)} (h : LoO w B o n hs Ls) (he : w.ownsRow B2 72 2 (.slice x m c) m (flat encR L)) (hx : ∀ b off, x = some ⟨b, off, none⟩ → B ≤ b ∧ o.ownBlock ≠ some b ∧ b < w.heap.size)
    (hown : w'.ownsRow B 24 1 o' (n + 1) (hs ++ [.slice x m c])) (hg : w.grownBy w' o.ownBlock) (ht : ∀ b, o'.ownBlock = some b → o.ownBlock = some b ∨ w.heap.size ≤ b) : LoO w' B o' (n + 1) (hs ++ [.slice x m c]) (Ls ++ [L]) := by
  have he2 : w.ownsRow B 72 2 (.slice x m c) m (flat encR L) := own_base he (fun b off e => (hx b off e).1)
  exact ⟨h.lo.app (rd_own he) hx hown hg ht, (h.oh.grown hg (fun j b off m c e => (h.lo.far j b off m c e).2.1)).snoc h.lo.hds.1 (own_other he2 hg (fun k hk e => (hx k 0 (own_addrB he2 hk)).2.1 e))⟩

/-- Lists that lie apart from two blocks, each the caller's own. -/
structure LsO (w : World) (a : Option Addr) (n c : Nat) (Ls : List (List (Int × Int))) (T R : Nat) : Prop where
  hd : ∃ hs : List Value, ∀ W, Rch T R w W → ValsAt W a hs ∧ Hds W hs Ls ∧ OwnHs W (R + 1) hs Ls
  len : Ls.length = n
  nil : NilOk a c
  cap : n ≤ c
theorem LsO.ls {w : World} {a : Option Addr} {n c T R : Nat} {Ls : List (List (Int × Int))} (h : LsO w a n c Ls T R) : LsAt w a n c Ls := by
  obtain ⟨hs, hh⟩ := h.hd
  exact ⟨⟨hs, (hh w (.refl w)).1, (hh w (.refl w)).2.1⟩, h.len, h.nil, h.cap⟩
theorem LsO.step {w w' : World} {a : Option Addr} {n c T R k : Nat} {Ls : List (List (Int × Int))} (h : LsO w a n c Ls T R) (hg : w.grownBy w' (some k)) (hk : k = T ∨ k = R) : LsO w' a n c Ls T R := by
  obtain ⟨hs, hh⟩ := h.hd
  exact ⟨⟨hs, fun W hW => hh W (.step hg hk hW)⟩, h.len, h.nil, h.cap⟩
theorem LsO.next {w w' : World} {a : Option Addr} {n c T R : Nat} {Ls : List (List (Int × Int))} (h : LsO w a n c Ls T R) (hg : w.grownBy w' (some T)) : LsO w' a n c Ls T R := h.step hg (.inl rfl)
theorem LsO.same {w w' : World} {a : Option Addr} {n c T R : Nat} {Ls : List (List (Int × Int))} (h : LsO w a n c Ls T R) (hb : Below w.heap.size w w') : LsO w' a n c Ls T R := h.next (grown_of_below hb)
theorem LsO.one {w : World} {a : Option Addr} {c T R : Nat} {Ls : List (List (Int × Int))} (h : LsO w a 1 c Ls T R) :
    ∃ (b off : Nat) (x : Option Addr) (d : Nat), a = some ⟨b, off, none⟩ ∧ ∀ W, Rch T R w W → W.cell? ⟨b, off, none⟩ = some (.slice x (Ls.getD 0 []).length d) ∧ W.ownsRow (R + 1) 72 2 (.slice x (Ls.getD 0 []).length d) (Ls.getD 0 []).length (flat encR (Ls.getD 0 [])) := by
  obtain ⟨hs, hh⟩ := h.hd
  obtain ⟨h1, h2, h5⟩ := hh w (.refl w)
  have hl := h.len
  have hkl : 0 < hs.length := by rw [h2.1]; omega
  have hkL : 0 < Ls.length := by omega
  obtain ⟨b, off, e, _⟩ := h1.at (List.getElem?_eq_getElem hkl)
  obtain ⟨g, d, e2, _⟩ := h5 0 _ _ (List.getElem?_eq_getElem hkl) (List.getElem?_eq_getElem hkL)
  have eg : Ls.getD 0 [] = Ls[0] := by rw [List.getD_eq_getElem?_getD, List.getElem?_eq_getElem hkL]; rfl
  rw [eg]
  refine ⟨b, off, g, d, e, fun W hW => ?_⟩
  obtain ⟨h3, _, h6⟩ := hh W hW
  obtain ⟨b', off', e', hc⟩ := h3.at (List.getElem?_eq_getElem hkl)
  obtain ⟨g', d', e2', ho⟩ := h6 0 _ _ (List.getElem?_eq_getElem hkl) (List.getElem?_eq_getElem hkL)
  rw [e] at e'
  injection e' with e'
  injection e' with e1 e3
  subst e1 e3
  rw [e2] at hc ho
  exact ⟨hc, ho⟩
theorem LoO.apart_go {T R B S n c : Nat} {a : Option Addr} {hs : List Value} {Ls : List (List (Int × Int))} {w W : World} (hW : Rch T R w W) (hT : T < B ∨ S ≤ T) (hR : R < B ∨ S ≤ R) :
    LoO w B (.slice a n c) n hs Ls → (∀ b, (Value.slice a n c).ownBlock = some b → b < S) → (∀ (j b off m c : Nat), hs[j]? = some (.slice (some ⟨b, off, none⟩) m c) → b < S) → ValsAt W a hs ∧ Hds W hs Ls ∧ OwnHs W B hs Ls := by
  induction hW with
  | refl w => exact fun h _ _ => ⟨vals_own h.own, h.lo.hds, h.oh⟩
  | @step u u1 u2 k hg hk _ ih =>
    intro h ho hf
    have hk2 : k < B ∨ S ≤ k := by rcases hk with rfl | rfl <;> assumption
    refine ih ?_ ho hf
    rcases hk2 with h1 | h1
    · exact h.grow hg (fun b e => by injection e with e; omega)
    · exact h.grow2 (S := S) hg (fun b e => by injection e with e; omega) (fun b e e2 => by have := ho b e; injection e2 with e2; omega) hf
theorem LoO.apart {w : World} {B n c T R : Nat} {a : Option Addr} {hs : List Value} {Ls : List (List (Int × Int))} (h : LoO w B (.slice a n c) n hs Ls) (hT : T < B ∨ w.heap.size ≤ T) (hR : R < B) : LsO w a n c Ls T R := by
  refine ⟨⟨hs, fun W hW => ?_⟩, h.len, nilOk_own h.own, own_cap h.own⟩
  obtain ⟨h1, h2, h3⟩ := LoO.apart_go hW hT (.inl hR) h (fun b e => (h.own.lt b e).2) (fun j b off m c e => (h.lo.far j b off m c e).2.2)
  exact ⟨h1, h2, h3.mono hR⟩

/-- Lists of lists, given back; the same with a number; a sort by a plan. -/
def LsEndO (w : World) (Ls : List (List (Int × Int))) (e : Ending) (w' : World) : Prop :=
  ∃ (a : Option Addr) (n c : Nat) (hs : List Value), e = .returned (.slice a n c) ∧ LoO w' w.heap.size (.slice a n c) n hs Ls ∧ Below w.heap.size w w'
def LsEndO2 (w : World) (Ls : List (List (Int × Int))) (q : Nat) (e : Ending) (w' : World) : Prop :=
  ∃ (a : Option Addr) (n c : Nat) (hs : List Value), e = .returned (.tuple #[.slice a n c, .int .i64 q]) ∧ LoO w' w.heap.size (.slice a n c) n hs Ls ∧ Below w.heap.size w w'
/-- A list that the caller may write into: its own, or empty. -/
def OwnE (w : World) (B : Nat) (a : Option Addr) (n c : Nat) (L : List (Int × Int)) : Prop := (n = 0 ∧ L = []) ∨ w.ownsRow B 72 2 (.slice a n c) n (flat encR L)
def SoEndO (w : World) (pm pw pb : Nat) (L : List (Int × Int)) (n : Nat) (e : Ending) (w' : World) : Prop :=
  ∃ (a : Option Addr) (c : Nat) (C : Nat × Nat × Nat × Nat), e = .returned (.tuple #[.slice a n c, .agg (costV C.1 C.2.1 C.2.2.1 C.2.2.2)]) ∧ C = Mg.costOf n pm pw pb ∧ Rd w' a n c (Mg.srtP L) ∧ OwnE w' w.heap.size a n c (Mg.srtP L) ∧ Below w.heap.size w w'

set_option maxRecDepth 100000 in
set_option maxHeartbeats 1000000 in
theorem makeRunsO_any (a : Option Addr) (n c m : Nat) (L : List (Int × Int)) (w : World) (hn : n ≤ 1000) (hm0 : 0 < m) (hm : m ≤ 1000) (h : Rd w a n c L) :
    Calls Try.prog 143 #[.slice a n c, .int .i64 m] w (LsEndO w (Mg.runsOf m L)) := by
  have H := Lib.hid h
  have HL0 := Lib.hid (loO_nil w)
  have HB0 := Lib.hid (belowNew w (.cells #[] 24))
  have hlen := h.len
  have hcap := h.cap
  clear h
  unfold LsEndO
  go_enter Try.func143, Try.ntmps143
  go_wp2
  go_loopw [5, 6] (fun o iv wr => ∃ (i k : Nat) (hs : List Value) (D : List (List (Int × Int))), iv = .int .i64 i ∧ i ≤ n + m ∧ k ≤ i ∧ LoO wr w.heap.size o k hs D ∧ Hid (D ++ Mg.runsOf m (L.drop i) = Mg.runsOf m L) ∧ Below w.heap.size w wr) (fun _ iv _ => n - (intOf iv).toNat)
  case atStart => exact ⟨0, 0, [], [], rfl, by omega, by omega, HL0.out, Lib.hid rfl, HB0.out⟩
  case round =>
    obtain ⟨i, k, hs, D, rfl, hi, hk, hlo, HDD, hb⟩ := hrel
    have HL1 := Lib.hid hlo; have HB1 := Lib.hid hb
    obtain ⟨oa, oc, rfl⟩ := own_slice hlo.own
    clear hlo hb HL0 HB0
    by_cases hlt : i < n
    · have q1 : decide ((i : Int) < (n : Int)) = true := decide_eq_true (by omega)
      obtain ⟨b, off, rfl, _⟩ := recs_addr H.out.recs (by omega)
      obtain ⟨hh, hhd⟩ : ∃ hh, hh = min (i + m) n := ⟨_, rfl⟩
      have hh1 : i < hh ∧ hh ≤ n ∧ hh ≤ i + m := by omega
      have hmin : min ((i : Int) + (m : Int)) (n : Int) = (hh : Int) := by omega
      have hpart : (L.drop i).take (hh - i) = (L.drop i).take m := by
        rcases Nat.lt_or_ge (i + m) n with h | h
        · congr 1; omega
        · rw [List.take_of_length_le (by rw [List.length_drop]; omega), List.take_of_length_le (by rw [List.length_drop]; omega)]
      clear hhd
      have hci : ¬ c = i := by omega
      have b1 : (0 : Int) ≤ (i : Int) := by omega
      have b2 : (i : Int) ≤ (hh : Int) := by omega
      have b3 : (hh : Int) ≤ (c : Int) := by omega
      have t1 : ((i : Int)).toNat = i := by omega
      have t2 : ((hh : Int)).toNat = hh := by omega
      have HR := Lib.hid (rd_mid (H.out.same HB1.out) (i := i) (h := hh) (by omega) hh1.2.1)
      have HST := Lib.hid (stable_any (some ⟨b, off + i * 2, none⟩) (c - i) ((L.drop i).take (hh - i)) wr (by rw [HR.out.len]; omega) HR.out.recs HR.out.nil)
      rw [HR.out.len, hpart] at HST
      have HNX : Hid (Mg.runsOf m (L.drop i) = Mg.srtP ((L.drop i).take m) :: Mg.runsOf m (L.drop (i + m))) := by
        show _ = _
        rw [runsOf_step hm0 (by intro e; have := congrArg List.length e; rw [List.length_drop] at this; simp at this; omega), List.drop_drop]
      have hobs : ∀ b, (Value.slice oa k oc).ownBlock = some b → b < wr.heap.size := fun b e => (HL1.out.own.lt b e).2
      have hBw := HB1.out.size
      have hk1 : k + 1 ≤ 1099511627776 := by omega
      clear HR hpart
      go_wp2_with fail
      refine HST.out.mono ?_
      rintro e w2 ⟨g, c2, rfl, ho, hb⟩
      have HE : Hid (w2.ownsRow wr.heap.size 72 2 (.slice (some ⟨g, 0, none⟩) (hh - i) c2) (hh - i) (flat encR (Mg.srtP ((L.drop i).take m)))) := ho
      have hg2 : wr.heap.size ≤ g ∧ g < w2.heap.size := ho.lt g rfl
      have HL2 := Lib.hid (HL1.out.same hb)
      have HB2 := Lib.hid (below_tr HB1.out hb HB1.out.size)
      clear ho hb HST HL1 HB1
      go_wp2_with (at_builtin; refine wpList_app1 (v := .slice oa k oc) slLs rfl _ _ rfl rfl HL2.out.own [.slice (some ⟨g, 0, none⟩) (hh - i) c2] rfl rfl (by simp) (by simp [Value.oneCell']) hk1 (by omega) ?_; intro v' w7 hown' hg' ht'; generalize hGG : wpList _ _ _ _ _ _ = GG)
      have HL8 := Lib.hid (HL2.out.app HE.out (fun b off e => by injection e with e; injection e with e1 e2; exact ⟨by omega, fun e3 => by have := hobs b e3; omega, by omega⟩) hown' hg' (fun b e => ht'.elim (fun h => .inl (h ▸ e)) (fun h => .inr (by rw [h] at e; injection e with e; omega))))
      have HB8 := Lib.hid (HB2.out.grown hg' HB2.out.size (fun b e => (HL2.out.own.lt b e).1))
      clear hown' hg' ht' HL2 HB2 HE
      subst hGG
      go_wp2
      go_roundw
      case rel => exact ⟨i + m, k + 1, _, _, by go_num, by omega, by omega, HL8.out, Lib.hid (by rw [List.append_assoc, ← HDD.out, HNX.out]; rfl), HB8.out⟩
      case measure => simp [intOf] <;> omega
    · have q1 : decide ((i : Int) < (n : Int)) = false := decide_eq_false (by omega)
      have HD2 : Hid (D = Mg.runsOf m L) := by
        show _ = _
        rw [← HDD.out, List.drop_of_length_le (by omega), runsOf_nil, List.append_nil]
      have HLS := HL1
      rw [HD2.out] at HLS
      go_wp2
      go_ret
      exact ⟨_, _, _, _, rfl, HLS.out, HB1.out⟩

set_option maxRecDepth 100000 in
set_option maxHeartbeats 2000000 in
theorem mergePassO_any (a : Option Addr) (n c m : Nat) (rs : List (List (Int × Int))) (w : World) (hn : n ≤ 1000) (hm0 : 0 < m) (hm : m ≤ 16) (h : LsAt w a n c rs) (hN : rs.flatten.length ≤ 1000) (ha : ∀ r ∈ rs, Mg.Asc Mg.ltF r) :
    Calls Try.prog 145 #[.slice a n c, .int .i64 m] w (LsEndO2 w (Mg.passOf m rs) (Mg.passC m rs)) := by
  have H := Lib.hid h; have HA := Lib.hid ha
  have HNN := Lib.hid hN
  have HL0 := Lib.hid (loO_nil w)
  have HB0 := Lib.hid (belowNew w (.cells #[] 24))
  have hlen := h.len
  have hcap := h.cap
  have hpc : Mg.passC m rs ≤ 5000 := by have := Mg.passC_le hm0 hm rs; omega
  obtain ⟨PC, hPC⟩ : ∃ q, Mg.passC m rs = q := ⟨_, rfl⟩
  rw [hPC] at hpc
  have HPC := Lib.hid hPC
  rw [hPC]
  clear h ha hPC hN
  unfold LsEndO2
  go_enter Try.func145, Try.ntmps145
  go_wp2
  go_loopw [6, 7, 8] (fun o qv iv wr => ∃ (i k q : Nat) (hs : List Value) (D : List (List (Int × Int))), iv = .int .i64 i ∧ qv = .int .i64 q ∧ i ≤ n + m ∧ k ≤ i ∧ LoO wr w.heap.size o k hs D ∧ Hid (D ++ Mg.passOf m (rs.drop i) = Mg.passOf m rs) ∧ Hid (q + Mg.passC m (rs.drop i) = PC) ∧ Below w.heap.size w wr) (fun _ _ iv _ => n - (intOf iv).toNat)
  case atStart => exact ⟨0, 0, 0, [], [], rfl, rfl, by omega, by omega, HL0.out, Lib.hid rfl, Lib.hid (by rw [List.drop_zero, HPC.out]; omega), HB0.out⟩
  case round =>
    obtain ⟨i, k, q, hs, D, rfl, rfl, hi, hk, hlo, HDD, HQ, hb⟩ := hrel
    have HL1 := Lib.hid hlo; have HB1 := Lib.hid hb
    obtain ⟨oa, oc, rfl⟩ := own_slice hlo.own
    clear hlo hb HL0 HB0
    by_cases hlt : i < n
    · have q1 : decide ((i : Int) < (n : Int)) = true := decide_eq_true (by omega)
      obtain ⟨b, off, rfl⟩ := lsAt_addr H.out (by omega)
      obtain ⟨hh, hhd⟩ : ∃ hh, hh = min (i + m) n := ⟨_, rfl⟩
      have hh1 : i < hh ∧ hh ≤ n ∧ hh ≤ i + m := by omega
      have hmin : min ((i : Int) + (m : Int)) (n : Int) = (hh : Int) := by omega
      have hpart : (rs.drop i).take (hh - i) = (rs.drop i).take m := by
        rcases Nat.lt_or_ge (i + m) n with h | h
        · congr 1; omega
        · rw [List.take_of_length_le (by rw [List.length_drop]; omega), List.take_of_length_le (by rw [List.length_drop]; omega)]
      clear hhd
      have hci : ¬ c = i := by omega
      have b1 : (0 : Int) ≤ (i : Int) := by omega
      have b2 : (i : Int) ≤ (hh : Int) := by omega
      have b3 : (hh : Int) ≤ (c : Int) := by omega
      have t1 : ((i : Int)).toNat = i := by omega
      have t2 : ((hh : Int)).toNat = hh := by omega
      have HG := Lib.hid ((H.out.same HB1.out).part i (hh - i) (by omega))
      rw [hpart] at HG
      have hgl : ((rs.drop i).take m).length = hh - i := HG.out.len
      have hga : ∀ r ∈ (rs.drop i).take m, Mg.Asc Mg.ltF r := fun r hr => HA.out r (List.mem_of_mem_drop (List.mem_of_mem_take hr))
      have hgN : ((rs.drop i).take m).flatten.length ≤ 1000 := Nat.le_trans flat_part_le HNN.out
      have hne : rs.drop i ≠ [] := by intro e; have := congrArg List.length e; rw [List.length_drop] at this; simp at this; omega
      have HNX : Hid (Mg.passOf m (rs.drop i) = Mg.srtP ((rs.drop i).take m).flatten :: Mg.passOf m (rs.drop (i + m))) := by
        show _ = _
        rw [passOf_step hm0 hne, List.drop_drop]
      have HQX : Hid (Mg.passC m (rs.drop i) = Mg.kcs ((rs.drop i).take m) + Mg.passC m (rs.drop (i + m))) := by
        show _ = _
        rw [passC_step hm0 hne, List.drop_drop]
      have hobs : ∀ b, (Value.slice oa k oc).ownBlock = some b → b < wr.heap.size := fun b e => (HL1.out.own.lt b e).2
      have hBw := HB1.out.size
      have hk1 : k + 1 ≤ 1099511627776 := by omega
      have hqq : q + Mg.kcs ((rs.drop i).take m) ≤ 5000 := by have h1 := HQ.out; rw [HQX.out] at h1; omega
      have HKW := Lib.hid (kWay_any b (off + i) (hh - i) (c - i) ((rs.drop i).take m) wr (by omega) (by omega) HG.out hgN hga)
      unfold KwEnd at HKW
      have hfl := srtP_len ((rs.drop i).take m).flatten
      generalize hNg : ((rs.drop i).take m).flatten.length = Ng at HKW hfl
      generalize hKg : Mg.kcs ((rs.drop i).take m) = Kg at HKW hqq HQX
      clear hne hga hgN hgl HG hNg hKg
      go_wp2_with fail
      refine HKW.out.mono ?_
      rintro e w2 ⟨g, c2, rfl, ho, hb⟩
      have HE : Hid (w2.ownsRow wr.heap.size 72 2 (.slice (some ⟨g, 0, none⟩) Ng c2) Ng (flat encR (Mg.srtP ((rs.drop i).take m).flatten))) := ho
      have hg2 : wr.heap.size ≤ g ∧ g < w2.heap.size := ho.lt g rfl
      have HL2 := Lib.hid (HL1.out.same hb)
      have HB2 := Lib.hid (below_tr HB1.out hb HB1.out.size)
      clear ho hb HKW HL1 HB1
      go_wp2_with (at_builtin; refine wpList_app1 (v := .slice oa k oc) slLs rfl _ _ rfl rfl HL2.out.own [.slice (some ⟨g, 0, none⟩) Ng c2] rfl rfl (by simp) (by simp [Value.oneCell']) hk1 (by omega) ?_; intro v' w7 hown' hg' ht'; generalize hGG : wpList _ _ _ _ _ _ = GG)
      have HL8 := Lib.hid (HL2.out.app HE.out (fun b off e => by injection e with e; injection e with e1 e2; exact ⟨by omega, fun e3 => by have := hobs b e3; omega, by omega⟩) hown' hg' (fun b e => ht'.elim (fun h => .inl (h ▸ e)) (fun h => .inr (by rw [h] at e; injection e with e; omega))))
      have HB8 := Lib.hid (HB2.out.grown hg' HB2.out.size (fun b e => (HL2.out.own.lt b e).1))
      clear hown' hg' ht' HL2 HB2 HE
      subst hGG
      go_wp2
      go_roundw
      case rel => exact ⟨i + m, k + 1, q + Kg, _, _, by go_num, by go_num, by omega, by omega, HL8.out, Lib.hid (by rw [List.append_assoc, ← HDD.out, HNX.out]; rfl), Lib.hid (by have := HQ.out; rw [HQX.out] at this; omega), HB8.out⟩
      case measure => simp [intOf] <;> omega
    · have q1 : decide ((i : Int) < (n : Int)) = false := decide_eq_false (by omega)
      have HD2 : Hid (D = Mg.passOf m rs) := by
        show _ = _
        rw [← HDD.out, List.drop_of_length_le (by omega), passOf_nil, List.append_nil]
      have hqp : PC = q := by
        have := HQ.out
        rw [List.drop_of_length_le (by omega), passC_nil] at this; omega
      have HLS := HL1
      rw [HD2.out] at HLS
      subst hqp
      go_wp2
      go_ret2
      exact ⟨_, _, _, _, rfl, HLS.out, HB1.out⟩

end Go.Proofs.Ytkckmjajjdpodaa
