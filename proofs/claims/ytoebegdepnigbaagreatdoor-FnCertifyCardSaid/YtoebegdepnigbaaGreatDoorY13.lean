/- Several texts in one: lemmas and walks of the functions that the laws reach. -/
import Derived.Test.YtoebegdepnigbaaGreatDoorY12
import Derived.Lib.SplitLaws
import Derived.Test.YtoebegdepnigbaaGreatDoorY1
import Derived.Test.YtoebegdepnigbaaGreatDoorY2
import Derived.Test.YtoebegdepnigbaaGreatDoorY10
import Derived.Test.YtoebegdepnigbaaGreatDoorY9
import Derived.Test.YtoebegdepnigbaaGreatDoorY11
import Derived.Test.YtoebegdepnigbaaGreatDoorY3
import Derived.ProofKit
import Derived.OpenShut
import Derived.Deep.Slices
import Derived.Deep.Fields
import Derived.ChangeSame
import Derived.Lib.SmallJoins
import Derived.Test.YtoebegdepnigbaaGreatDoorRows
import Derived.LaidMore
import Derived.Stop.Joined
import Derived.MakeChecks
import Derived.Lib.LaidTab

/- Walks: a certificate out of its text, by the program. -/
namespace Go.Proofs.YtoebegdepnigbaaGreatDoor
open Go.RowKit
set_option linter.unusedVariables false

theorem fcOk_parts {rs : List (Int × Int)} {cs : List Int} (h : fcOk rs cs = true) : okRecs rs = true ∧ cs.length = rs.length ∧ okPerm cs = true := by
  unfold fcOk at h
  simp only [Bool.and_eq_true, decide_eq_true_eq] at h
  exact ⟨h.1.1, h.1.2, h.2⟩
theorem fcText_inj {rs : List (Int × Int)} {c1 c2 : List Int} (h1 : fcOk rs c1 = true) (h2 : fcOk rs c2 = true) (h : fcText rs c1 = fcText rs c2) : c1 = c2 := by
  refine Cf.text_inj (n := rs.length) (k := (fprint (keysL rs) 7).toNat) (fun x hx => (perm_range (fcOk_parts h1).2.2 x hx).1) (fun x hx => (perm_range (fcOk_parts h2).2.2 x hx).1) ?_
  have := congrArg bs h
  exact this
/-- What reading a certificate answers. -/
def PAns (rs : List (Int × Int)) (s : ByteArray) (out : List Int) (ok : Bool) : Prop :=
  (ok = true ∧ fcOk rs out = true ∧ fcText rs out = s) ∨ (ok = false ∧ out = [] ∧ ∀ cs, fcOk rs cs = true → fcText rs cs ≠ s)
theorem PAns.unique {rs : List (Int × Int)} {s : ByteArray} {o1 o2 : List Int} {k1 k2 : Bool} (h1 : PAns rs s o1 k1) (h2 : PAns rs s o2 k2) : o1 = o2 ∧ k1 = k2 := by
  rcases h1 with ⟨rfl, a1, b1⟩ | ⟨rfl, rfl, c1⟩ <;> rcases h2 with ⟨rfl, a2, b2⟩ | ⟨rfl, rfl, c2⟩
  · exact ⟨fcText_inj a1 a2 (b1.trans b2.symm), rfl⟩
  · exact absurd b1 (c2 _ a1)
  · exact absurd b2 (c1 _ a2)
  · exact ⟨rfl, rfl⟩
theorem PAns.len {rs : List (Int × Int)} {s : ByteArray} {o : List Int} {k : Bool} (h : PAns rs s o k) : o.length ≤ 64 := by
  rcases h with ⟨_, h, _⟩ | ⟨_, rfl, _⟩
  · exact okPerm_len (fcOk_parts h).2.2
  · simp
theorem own_none (w : World) (base : Nat) (e : TypeId) (size : Nat) : w.ownsRow base e size (.slice none 0 0) 0 [] := ⟨by simp, .inl ⟨rfl, rfl⟩⟩
theorem below_newI (w : World) (o : Obj) : Below w.heap.size w (w.alloc o) := (Below.refl _ _).alloc (Nat.le_refl _) _
theorem size_alI (w : World) (o : Obj) : (w.alloc o).heap.size = w.heap.size + 1 := by simp
def PcEnd (rs : List (Int × Int)) (s : ByteArray) (w : World) (e : Ending) (w' : World) : Prop :=
  ∃ (a : Option Addr) (c : Nat) (out : List Int) (ok : Bool), e = .returned (.tuple #[.slice a out.length c, .bool ok]) ∧ w'.ownsRow w.heap.size 3 1 (.slice a out.length c) out.length (out.map (Value.int .i64)) ∧ PAns rs s out ok ∧ Below w.heap.size w w'
theorem text_facts {rs : List (Int × Int)} {cs : List Int} {s : ByteArray} (h : fcOk rs cs = true) (hs : fcText rs cs = s) :
    ∃ l, (35 : UInt8) ∉ l ∧ l.length ≤ 3000 ∧ bs s = Tx.sealL l ∧ (Lib.cut l [32, 111, 114, 100, 101, 114, 32]).2.1 = Cf.ordT cs ∧ l = Cf.bodyC rs.length (fprint (keysL rs) 7).toNat cs := by
  obtain ⟨h1, h2, h3⟩ := fcOk_parts h
  have hb := fprint_bound 7 (keysL rs)
  have h64 := recs_len64 h1
  exact ⟨_, Cf.body_no35 rs.length (fprint (keysL rs) 7).toNat cs, Cf.body_len (by omega) (by omega) (ordT_len h3), by rw [← hs]; rfl, Cf.cut_body _ _ _, rfl⟩

/-- The pieces stand in a block. -/
structure PcAt (B : Nat) (L : List ByteArray) (w : World) : Prop where
  lt : B < w.heap.size
  at_ : ∀ j x, L[j]? = some x → w.cell? ⟨B, j, none⟩ = some (.string x)
theorem PcAt.next {B : Nat} {L : List ByteArray} {w w' : World} (h : PcAt B L w) (hb : Below w.heap.size w w') : PcAt B L w' :=
  ⟨Nat.lt_of_lt_of_le h.lt hb.size, fun j x hx => (bcell hb h.lt).trans (h.at_ j x hx)⟩
theorem PcAt.grown {B : Nat} {L : List ByteArray} {w w' : World} {row : Option Nat} (h : PcAt B L w) (hg : w.grownBy w' row) (hne : row ≠ some B) : PcAt B L w' := by
  have hk := hg.block B h.lt (fun e => hne e.symm)
  exact ⟨Nat.lt_of_lt_of_le h.lt hg.size, fun j x hx => by
    have := h.at_ j x hx
    simp only [World.cell?] at this ⊢
    rw [hk]; exact this⟩

set_option maxRecDepth 100000 in
set_option maxHeartbeats 8000000 in
theorem parseCertificate_any (s : ByteArray) (a : Option Addr) (c : Nat) (rs : List (Int × Int)) (w : World) (hs : s.size ≤ 1048576) (hl1 : rs.length ≤ 9223372036854775807) (he : Env w) (hR : RecsAt w a rs) :
    Calls Tryz.prog 11 #[.string s, .slice a rs.length c] w (PcEnd rs s w) := by
  have HV := Lib.hid (verifyChecksum_any s w (by omega) he)
  have HE := Lib.hid he
  have HR := Lib.hid hR
  clear he hR
  go_enter Tryz.func11, Tryz.ntmps11
  go_wp2_with fail
  refine HV.out.mono ?_
  rintro e w1 ⟨t, ok0, rfl, ⟨hts, hvf⟩, hb⟩
  have HB1 := Lib.hid hb
  have HVF := Lib.hid hvf
  clear hb hvf HV
  have HC := Lib.hid (cut_any t ⟨#[32, 111, 114, 100, 101, 114, 32]⟩ w1 (by omega) (HE.out.below HB1.out))
  have HORD : Hid (∀ cs, fcOk rs cs = true → fcText rs cs = s → ok0 = true ∧ (Lib.cut (bs t) [32, 111, 114, 100, 101, 114, 32]).2.1 = Cf.ordT cs) := fun cs h1 h2 => by
    obtain ⟨l, l1, l2, l3, l4, _⟩ := text_facts h1 h2
    obtain ⟨e1, e2⟩ := HVF.out l l1 l2 l3
    rw [e1]
    exact ⟨e2, l4⟩
  have hol : (ba (Lib.cut (bs t) (bs ⟨#[32, 111, 114, 100, 101, 114, 32]⟩)).2.1).size ≤ 1048576 := by
    rw [ba_size]
    have h1 := bs_len t
    unfold Lib.cut
    split
    · simp only [List.length_drop]; omega
    · simp
  have hord : bs (ba (Lib.cut (bs t) (bs ⟨#[32, 111, 114, 100, 101, 114, 32]⟩)).2.1) = (Lib.cut (bs t) [32, 111, 114, 100, 101, 114, 32]).2.1 := rfl
  obtain ⟨o, ho⟩ : ∃ o, ba (Lib.cut (bs t) (bs ⟨#[32, 111, 114, 100, 101, 114, 32]⟩)).2.1 = o := ⟨_, rfl⟩
  rw [ho] at HC hord hol
  rw [← hord] at HORD
  generalize ba (Lib.cut (bs t) (bs ⟨#[32, 111, 114, 100, 101, 114, 32]⟩)).1 = hd at HC
  generalize (Lib.cut (bs t) (bs ⟨#[32, 111, 114, 100, 101, 114, 32]⟩)).2.2 = fd at HC
  clear ho hord HVF
  go_wp2_with fail
  refine HC.out.mono ?_
  rintro e w2 ⟨rfl, hb⟩
  have HB2 := Lib.hid (below_trI HB1.out hb HB1.out.size)
  clear hb HC HB1
  have HBASE : Hid (w.heap.size ≤ w2.heap.size) := HB2.out.size
  have E1 := Lib.hid (own_lit (w := w2) (e := 3) (size := 1) #[] 0 (by omega) rfl)
  have HB3 := Lib.hid (below_trI HB2.out (below_newI w2 (.cells #[] 3)) HB2.out.size)
  have HE3 := Lib.hid (HE.out.below HB3.out)
  by_cases hbar : bs o = [45]
  · have q1 : (!(o.toList == [45])) = false := by rw [bs_toList, hbar]; rfl
    have HALL : Hid (∀ cs, fcOk rs cs = true → fcText rs cs = s → ([] : List Int) = cs ∧ ok0 = true) := fun cs h1 h2 => by
      obtain ⟨e1, e2⟩ := HORD.out cs h1 h2
      rw [hbar] at e2
      exact ⟨((Cf.ord_bar (fun x hx => (perm_range (fcOk_parts h1).2.2 x hx).1)).1 e2.symm).symm, e1⟩
    clear hbar HORD
    have HO : Hid ((w2.alloc (.cells #[] 3)).ownsRow w2.heap.size 3 1 (.slice (some ⟨w2.heap.size, 0, none⟩) 0 0) ([] : List Int).length (([] : List Int).map (Value.int .i64))) := E1.out
    have HB := HB3
    have HFC := Lib.hid (formatCertificate_any a c rs (some ⟨w2.heap.size, 0, none⟩) (0) [] (w2.alloc (.cells #[] 3)) hl1 (by simp) (HE.out.below HB.out).tab (HR.out.below (Nat.le_refl _) HB.out) (ownInts HO.out))
    rw [show ([] : List Int).length = 0 from rfl] at HFC
    unfold FfEnd at HFC
    obtain ⟨tx, htx⟩ : ∃ tx, (if fcOk rs [] = true then fcText rs [] else ⟨#[]⟩) = tx := ⟨_, rfl⟩
    rw [htx] at HFC
    have HTX : Hid (fcOk rs [] = true → tx = fcText rs []) := fun h => by rw [← htx, if_pos h]
    clear htx
    cases ok0
    case false =>
      have HP : Hid (PAns rs s [] false) := .inr ⟨rfl, rfl, fun cs h1 h2 => by have := (HALL.out cs h1 h2).2; cases this⟩
      go_wp2_with fail
      refine HFC.out.mono ?_
      rintro e w5 ⟨rfl, hb5⟩
      have HB5 := Lib.hid (below_trI HB.out hb5 HB.out.size)
      clear hb5
      go_wp2
      go_ret2
      exact ⟨none, 0, [], false, rfl, own_none _ _ _ _, HP.out, HB5.out⟩
    cases hfo : fcOk rs []
    all_goals rw [hfo] at HFC
    case true.false =>
      have HP : Hid (PAns rs s [] false) := .inr ⟨rfl, rfl, fun cs h1 h2 => by have := (HALL.out cs h1 h2).1; rw [← this, hfo] at h1; cases h1⟩
      clear hfo
      go_wp2_with fail
      refine HFC.out.mono ?_
      rintro e w5 ⟨rfl, hb5⟩
      have HB5 := Lib.hid (below_trI HB.out hb5 HB.out.size)
      clear hb5
      go_wp2
      go_ret2
      exact ⟨none, 0, [], false, rfl, own_none _ _ _ _, HP.out, HB5.out⟩
    have HX := Lib.hid (HTX.out hfo)
    cases hq : (tx.toList == s.toList)
    case true.true.false =>
      have HP : Hid (PAns rs s [] false) := .inr ⟨rfl, rfl, fun cs h1 h2 => by
        have := (HALL.out cs h1 h2).1
        rw [HX.out, this, h2] at hq
        simp at hq⟩
      have hq2 : (!(tx.toList == s.toList)) = true := by rw [hq]; rfl
      clear hfo
      go_wp2_with fail
      refine HFC.out.mono ?_
      rintro e w5 ⟨rfl, hb5⟩
      have HB5 := Lib.hid (below_trI HB.out hb5 HB.out.size)
      clear hb5
      go_wp2
      go_ret2
      exact ⟨none, 0, [], false, rfl, own_none _ _ _ _, HP.out, HB5.out⟩
    have HP : Hid (PAns rs s [] true) := .inl ⟨rfl, hfo, by
      rw [← HX.out, ← ba_bs s, ← ba_bs tx]
      rw [beq_iff_eq, bs_toList, bs_toList] at hq
      rw [hq]⟩
    have hq2 : (!(tx.toList == s.toList)) = false := by rw [hq]; rfl
    clear hfo
    go_wp2_with fail
    refine HFC.out.mono ?_
    rintro e w5 ⟨rfl, hb5⟩
    have HB5 := Lib.hid (below_trI HB.out hb5 HB.out.size)
    have HO5 := Lib.hid (own_below HO.out (Nat.le_refl _) hb5)
    clear hb5
    go_wp2
    go_ret2
    exact ⟨some ⟨w2.heap.size, 0, none⟩, 0, [], true, rfl, own_mono HO5.out HBASE.out, HP.out, HB5.out⟩
  · have q1 : (!(o.toList == [45])) = true := by rw [bs_toList, beq_eq_false_iff_ne.2 hbar]; rfl
    obtain ⟨m, hm⟩ := HE3.out.mx
    have HSP := Lib.hid (Tryz.strings_Split o ⟨#[44]⟩ m (w2.alloc (.cells #[] 3)) (by omega) hm (by decide))
    have hcle := Lib.countB_le ⟨#[44]⟩ (by decide) o.size o (Nat.le_refl _)
    have hLl := Lib.splitB_all ⟨#[44]⟩ (by decide) 0 _ o rfl
    have hLd := Lib.splitB_data ⟨#[44]⟩ 0 (Lib.countB o ⟨#[44]⟩) o
    obtain ⟨L, hL⟩ : ∃ L, Lib.splitB ⟨#[44]⟩ 0 (Lib.countB o ⟨#[44]⟩) o = L := ⟨_, rfl⟩
    rw [hL] at HSP hLl hLd
    rw [← hLl] at HSP
    have HPC : Hid (∀ cs, fcOk rs cs = true → fcText rs cs = s → ok0 = true ∧ L.map bs = cs.map Lib.itoa) := fun cs h1 h2 => by
      obtain ⟨e1, e2⟩ := HORD.out cs h1 h2
      refine ⟨e1, ?_⟩
      have hne : cs ≠ [] := fun e => hbar (by rw [e2, (Cf.ord_bar (fun x hx => (perm_range (fcOk_parts h1).2.2 x hx).1)).2 e])
      have h3 : L.map bs = Lib.split (bs o) [44] := hLd
      rw [h3, e2, Cf.split_ord hne]
    have hn40 : L.length ≤ 1048577 := by omega
    clear hbar HORD hm hL hLd hLl hcle
    go_wp2_with fail
    refine HSP.out.mono ?_
    rintro e w4 ⟨rfl, hw4⟩
    have HPA : Hid (PcAt (w2.heap.size + 1) L w4) := by
      rw [hw4]
      refine ⟨by simp, fun j x hx => ?_⟩
      have h1 := alloc_cell (w := w2.alloc (.cells #[] 3)) (cs := (L.map Value.string).toArray) (t := 9) j
      rw [size_alI] at h1
      rw [h1]; simp [hx]
    have HB4 : Hid (Below w.heap.size w w4) := by rw [hw4]; exact below_trI HB3.out (below_newI _ _) HB3.out.size
    have HO4 : Hid (w4.ownsRow w2.heap.size 3 1 (.slice (some ⟨w2.heap.size, 0, none⟩) 0 0) 0 []) := by rw [hw4]; exact own_below E1.out (Nat.le_refl _) (below_newI _ _)
    clear hw4 HSP E1 HE3 HB3
    go_wp2_with fail
    go_loopw [7, 11, 35] (fun okv ov iv wr => ∃ (k : Nat) (outs : List Int) (okb : Bool), k ≤ L.length ∧ okv = .bool okb ∧ iv = .int .i64 k ∧ outs.length = k ∧ Hid (∀ cs, fcOk rs cs = true → fcText rs cs = s → outs = cs.take k ∧ okb = true) ∧
        wr.ownsRow w2.heap.size 3 1 ov outs.length (outs.map (Value.int .i64)) ∧ ov.ownBlock ≠ some (w2.heap.size + 1) ∧ PcAt (w2.heap.size + 1) L wr ∧ Below w.heap.size w wr) (fun _ _ iv _ => L.length - (intOf iv).toNat)
    case atStart => exact ⟨0, [], ok0, by omega, rfl, rfl, rfl, Lib.hid (fun cs h1 h2 => ⟨by simp, (HPC.out cs h1 h2).1⟩), HO4.out, by simp [Value.ownBlock], HPA.out, HB4.out⟩
    case round =>
      obtain ⟨k, outs, okb, hk, rfl, rfl, hok, HALLk, hown, hne, hpa, hb⟩ := hrel
      clear HO4 HPA HB4
      have HO := Lib.hid hown
      have HNE := Lib.hid hne
      have HPA := Lib.hid hpa
      have HB := Lib.hid hb
      clear hown hne hpa hb
      by_cases hlt : k < L.length
      · have hc1 := HPA.out.at_ k L[k] (List.getElem?_eq_getElem hlt)
        have HPI := Lib.hid (parseInt_any L[k] wr (HE.out.below HB.out))
        have HLK : Hid (∀ cs : List Int, L.map bs = cs.map Lib.itoa → ∃ hk2 : k < cs.length, bs L[k] = Lib.itoa cs[k]) := fun cs h => by
          have hlen := congrArg List.length h
          simp only [List.length_map] at hlen
          have hk2 : k < cs.length := by omega
          refine ⟨hk2, ?_⟩
          have := congrArg (fun l => l[k]?) h
          simp only [List.getElem?_map, List.getElem?_eq_getElem hlt, List.getElem?_eq_getElem hk2, Option.map_some] at this
          exact Option.some.inj this
        obtain ⟨x, hx⟩ : ∃ x, L[k] = x := ⟨_, rfl⟩
        rw [hx] at hc1 HPI HLK
        clear hx
        have q2 : decide ((k : Int) < (L.length : Int)) = true := decide_eq_true (by omega)
        have b0 : (0 : Int) ≤ (k : Int) := by omega
        go_wp2_with fail
        refine HPI.out.mono ?_
        rintro e w5 ⟨n, fine, rfl, hrd, hb5⟩
        have HO5 := Lib.hid (own_below HO.out (Nat.le_refl _) hb5)
        have HPA5 := Lib.hid (HPA.out.next hb5)
        have HB5 := Lib.hid (below_trI HB.out hb5 HB.out.size)
        have hbs : w2.heap.size ≤ w5.heap.size := by
          have h1 := HPA5.out.lt
          omega
        have HALL5 : Hid (∀ cs, fcOk rs cs = true → fcText rs cs = s → outs ++ [n] = cs.take (k + 1) ∧ (okb && fine) = true) := fun cs h1 h2 => by
          obtain ⟨e1, e2⟩ := HALLk.out cs h1 h2
          obtain ⟨hk2, e3⟩ := HLK.out cs (HPC.out cs h1 h2).2
          have hr := perm_range (fcOk_parts h1).2.2 cs[k] (List.getElem_mem hk2)
          have e4 := hrd.2 cs[k].toNat (by omega) (by rw [e3, itoa_toNat hr.1])
          refine ⟨?_, by rw [e2, e4.2]; rfl⟩
          rw [e1, e4.1, List.take_add_one, List.getElem?_eq_getElem hk2, Int.toNat_of_nonneg hr.1]
          rfl
        have hn1 : outs.length + 1 ≤ 1099511627776 := by omega
        clear hb5 hrd HO HPA HB HPI HLK hc1
        cases okb
        all_goals
          go_wp2_with (at_builtin; refine wpList_app1 slInt rfl (.tmp 48) (.tmp 50) rfl rfl HO5.out [.int .i64 n] rfl rfl (by simp) (by simp [Value.oneCell']) hn1 hbs ?_; intro v' w6 hown6 hg6 ht6)
          have HO6 := Lib.hid hown6
          have HB6 := Lib.hid (below_app HB5.out HB5.out.size HO5.out HBASE.out hg6)
          have HPA6 := Lib.hid (HPA5.out.grown hg6 HNE.out)
          have HNE6 : Hid (v'.ownBlock ≠ some (w2.heap.size + 1)) := by
            show _ ≠ _
            rcases ht6 with h | h
            · rw [h]; exact HNE.out
            · rw [h]
              have := HPA5.out.lt
              intro e
              have := Option.some.inj e
              omega
          clear hown6 hg6 ht6
          go_roundw
          case rel =>
            refine ⟨k + 1, outs ++ [n], _, by omega, rfl, by go_num, by simp; omega, HALL5, ?_, HNE6.out, HPA6.out, HB6.out⟩
            rw [List.length_append, List.map_append]
            exact HO6.out
          case measure => simp [intOf]; omega
      · obtain rfl : k = L.length := by omega
        have HALL : Hid (∀ cs, fcOk rs cs = true → fcText rs cs = s → outs = cs ∧ okb = true) := fun cs h1 h2 => by
          obtain ⟨e1, e2⟩ := HALLk.out cs h1 h2
          refine ⟨?_, e2⟩
          have hlen := congrArg List.length (HPC.out cs h1 h2).2
          simp only [List.length_map] at hlen
          rw [e1, hlen, List.take_length]
        have hol0 : outs.length ≤ 1048577 := by omega
        have q2 : decide ((L.length : Int) < (L.length : Int)) = false := decide_eq_false (by omega)
        have ho := HO.out
        clear HALLk hok hk hlt
        obtain ⟨ao, co, rfl⟩ := own_slice ho
        clear ho
        have HFC := Lib.hid (formatCertificate_any a c rs (ao) (co) outs (wr) hl1 (by omega) (HE.out.below HB.out).tab (HR.out.below (Nat.le_refl _) HB.out) (ownInts HO.out))
        unfold FfEnd at HFC
        obtain ⟨tx, htx⟩ : ∃ tx, (if fcOk rs outs = true then fcText rs outs else ⟨#[]⟩) = tx := ⟨_, rfl⟩
        rw [htx] at HFC
        have HTX : Hid (fcOk rs outs = true → tx = fcText rs outs) := fun h => by rw [← htx, if_pos h]
        clear htx
        cases okb
        case false =>
          have HP : Hid (PAns rs s [] false) := .inr ⟨rfl, rfl, fun cs h1 h2 => by have := (HALL.out cs h1 h2).2; cases this⟩
          go_wp2_with fail
          refine HFC.out.mono ?_
          rintro e w5 ⟨rfl, hb5⟩
          have HB5 := Lib.hid (below_trI HB.out hb5 HB.out.size)
          clear hb5
          go_wp2
          go_ret2
          exact ⟨none, 0, [], false, rfl, own_none _ _ _ _, HP.out, HB5.out⟩
        cases hfo : fcOk rs outs
        all_goals rw [hfo] at HFC
        case true.false =>
          have HP : Hid (PAns rs s [] false) := .inr ⟨rfl, rfl, fun cs h1 h2 => by have := (HALL.out cs h1 h2).1; rw [← this, hfo] at h1; cases h1⟩
          clear hfo
          go_wp2_with fail
          refine HFC.out.mono ?_
          rintro e w5 ⟨rfl, hb5⟩
          have HB5 := Lib.hid (below_trI HB.out hb5 HB.out.size)
          clear hb5
          go_wp2
          go_ret2
          exact ⟨none, 0, [], false, rfl, own_none _ _ _ _, HP.out, HB5.out⟩
        have HX := Lib.hid (HTX.out hfo)
        cases hq : (tx.toList == s.toList)
        case true.true.false =>
          have HP : Hid (PAns rs s [] false) := .inr ⟨rfl, rfl, fun cs h1 h2 => by
            have := (HALL.out cs h1 h2).1
            rw [HX.out, this, h2] at hq
            simp at hq⟩
          have hq2 : (!(tx.toList == s.toList)) = true := by rw [hq]; rfl
          clear hfo
          go_wp2_with fail
          refine HFC.out.mono ?_
          rintro e w5 ⟨rfl, hb5⟩
          have HB5 := Lib.hid (below_trI HB.out hb5 HB.out.size)
          clear hb5
          go_wp2
          go_ret2
          exact ⟨none, 0, [], false, rfl, own_none _ _ _ _, HP.out, HB5.out⟩
        have HP : Hid (PAns rs s outs true) := .inl ⟨rfl, hfo, by
          rw [← HX.out, ← ba_bs s, ← ba_bs tx]
          rw [beq_iff_eq, bs_toList, bs_toList] at hq
          rw [hq]⟩
        have hq2 : (!(tx.toList == s.toList)) = false := by rw [hq]; rfl
        clear hfo
        go_wp2_with fail
        refine HFC.out.mono ?_
        rintro e w5 ⟨rfl, hb5⟩
        have HB5 := Lib.hid (below_trI HB.out hb5 HB.out.size)
        have HO5 := Lib.hid (own_below HO.out (Nat.le_refl _) hb5)
        clear hb5
        go_wp2
        go_ret2
        exact ⟨ao, co, outs, true, rfl, own_mono HO5.out HBASE.out, HP.out, HB5.out⟩

end Go.Proofs.YtoebegdepnigbaaGreatDoor

/- Walks: the split of a list at a value; the law FnExactVerifyRank. -/
namespace Go.Proofs.YtoebegdepnigbaaGreatDoor
open Go.RowKit
set_option linter.unusedVariables false

def lessL (zs : List Int) (x : Int) : List Int := zs.filter (fun y => decide (y < x))
def equalL (zs : List Int) (x : Int) : List Int := zs.filter (fun y => decide (y = x))
def greaterL (zs : List Int) (x : Int) : List Int := zs.filter (fun y => decide (x < y))

theorem filter_succ (zs : List Int) (k : Nat) (hk : k < zs.length) (q : Int → Bool) : (zs.take (k + 1)).filter q = (zs.take k).filter q ++ if q (zs.getD k 0) then [zs.getD k 0] else [] := by
  rw [List.take_add_one, List.filter_append]
  simp [List.getD, List.getElem?_eq_getElem hk, List.filter_cons]


/-- What holds of the three lists in a round. -/
structure Split3 (W0 w : World) (v1 v2 v3 : Value) (l1 l2 l3 : List Int) : Prop where
  o1 : w.ownsRow W0.heap.size 3 1 v1 l1.length (IL l1)
  o2 : w.ownsRow W0.heap.size 3 1 v2 l2.length (IL l2)
  o3 : w.ownsRow W0.heap.size 3 1 v3 l3.length (IL l3)
  d12 : ∀ k, v1.ownBlock = some k → v2.ownBlock ≠ some k
  d13 : ∀ k, v1.ownBlock = some k → v3.ownBlock ≠ some k
  d23 : ∀ k, v2.ownBlock = some k → v3.ownBlock ≠ some k
  below : Below W0.heap.size W0 w

theorem Split3.swap12 {W0 w : World} {v1 v2 v3 : Value} {l1 l2 l3 : List Int} (h : Split3 W0 w v1 v2 v3 l1 l2 l3) : Split3 W0 w v2 v1 v3 l2 l1 l3 :=
  ⟨h.o2, h.o1, h.o3, fun k a b => h.d12 k b a, h.d23, h.d13, h.below⟩
theorem Split3.swap13 {W0 w : World} {v1 v2 v3 : Value} {l1 l2 l3 : List Int} (h : Split3 W0 w v1 v2 v3 l1 l2 l3) : Split3 W0 w v3 v2 v1 l3 l2 l1 :=
  ⟨h.o3, h.o2, h.o1, fun k a b => h.d23 k b a, fun k a b => h.d13 k b a, fun k a b => h.d12 k b a, h.below⟩

theorem Split3.app {W0 w w' : World} {v1 v2 v3 v' : Value} {l1 l2 l3 : List Int} {x : Int} (h : Split3 W0 w v1 v2 v3 l1 l2 l3)
    (ho : w'.ownsRow W0.heap.size 3 1 v' (l1.length + 1) (IL l1 ++ [.int .i64 x])) (hg : w.grownBy w' v1.ownBlock) (ht : v'.ownBlock = v1.ownBlock ∨ v'.ownBlock = some (w.heap.size + 1)) :
    Split3 W0 w' v' v2 v3 (l1 ++ [x]) l2 l3 := by
  have hs := h.below.size
  refine ⟨?_, own_other h.o2 hg (fun k hk e => h.d12 k e hk), own_other h.o3 hg (fun k hk e => h.d13 k e hk), ?_, ?_, h.d23, below_app h.below hs h.o1 (Nat.le_refl _) hg⟩
  · simpa [IL] using ho
  · intro k hk e
    rcases ht with ht | ht
    · exact h.d12 k (ht ▸ hk) e
    · have := (h.o2.lt k e).2
      rw [ht] at hk; injection hk with hk; omega
  · intro k hk e
    rcases ht with ht | ht
    · exact h.d13 k (ht ▸ hk) e
    · have := (h.o3.lt k e).2
      rw [ht] at hk; injection hk with hk; omega

theorem split3_start (w : World) : Split3 w (((w.alloc (.cells #[] 3)).alloc (.cells #[] 3)).alloc (.cells #[] 3)) (.slice (some ⟨w.heap.size, 0, none⟩) 0 0) (.slice (some ⟨w.heap.size + 1, 0, none⟩) 0 0) (.slice (some ⟨w.heap.size + 2, 0, none⟩) 0 0) [] [] [] := by
  have e1 := own_lit (w := w) (e := 3) (size := 1) #[] 0 (by omega) rfl
  have e2 := own_lit (w := w.alloc (.cells #[] 3)) (e := 3) (size := 1) #[] 0 (by omega) rfl
  have e3 := own_lit (w := (w.alloc (.cells #[] 3)).alloc (.cells #[] 3)) (e := 3) (size := 1) #[] 0 (by omega) rfl
  rw [size_al] at e2
  rw [size_al, size_al] at e3
  refine ⟨?_, ?_, ?_, ?_, ?_, ?_, ?_⟩
  · exact (e1.alloc _).alloc _
  · exact own_mono (e2.alloc _) (by omega)
  · exact own_mono e3 (by omega)
  · intro k h; simp [Value.ownBlock] at *; omega
  · intro k h; simp [Value.ownBlock] at *; omega
  · intro k h; simp [Value.ownBlock] at *; omega
  · exact (((Below.refl _ _).alloc (Nat.le_refl _) _).alloc (by simp) _).alloc (by simp; omega) _

def rankAns (zs : List Int) (x r : Int) : Bool × Bool :=
  if okList zs && inB r 1 zs.length then (decide (((lessL zs x).length : Int) < r) && decide (r ≤ (lessL zs x).length + (equalL zs x).length), true) else (false, false)

end Go.Proofs.YtoebegdepnigbaaGreatDoor

/- Contracts of the program alone: FirstDescent, ChooseMethod. -/
namespace Go.Proofs.YtoebegdepnigbaaGreatDoor
open Go.RowKit
set_option linter.unusedVariables false

theorem rfind_some {n : Nat} {q : Nat → Bool} {m : Nat} (hm : m < n) (h : q m = true) (hall : ∀ j, j < m → q j = false) : (List.range n).find? q = some m := by
  rw [List.find?_range_eq_some]
  refine ⟨h, by simpa using hm, fun j hj => by simp [hall j hj]⟩

theorem rfind_none {n : Nat} {q : Nat → Bool} (hall : ∀ j, j < n → q j = false) : (List.range n).find? q = none := by
  rw [List.find?_range_eq_none]
  intro j hj; simp [hall j hj]

def descAt (zs : List Int) (m : Nat) : Bool := decide (zs.getD (m + 1) 0 < zs.getD m 0)

def fdesc (zs : List Int) : Int := match (List.range (zs.length - 1)).find? (descAt zs) with | some m => m | none => -1

theorem fdesc_some {zs : List Int} {m : Nat} (hm : m + 1 < zs.length) (h : descAt zs m = true) (hall : ∀ j, j < m → descAt zs j = false) : fdesc zs = m := by
  unfold fdesc; rw [rfind_some (by omega) h hall]

theorem fdesc_none {zs : List Int} (hall : ∀ j, j + 1 < zs.length → descAt zs j = false) : fdesc zs = -1 := by
  unfold fdesc; rw [rfind_none (fun j hj => hall j (by omega))]

set_option maxRecDepth 100000 in
set_option maxHeartbeats 400000 in
theorem descent_any (a : Option Addr) (cap : Nat) (zs : List Int) (w : World) (hlen : zs.length ≤ 1048576) (h : IntsAt w a zs) :
    Calls Tryz.prog 33 #[.slice a zs.length cap] w fun e w' => e = .returned (.int .i64 (fdesc zs)) ∧ Below w.heap.size w w' := by
  have H := Lib.hid h; clear h
  go_enter Tryz.func33, Tryz.ntmps33
  go_wp2
  go_loopw [3] (fun i wr => ∃ m : Nat, m ≤ zs.length ∧ i = .int .i64 ((m : Int) + 1) ∧ (∀ j, j < m → descAt zs j = false) ∧ Below w.heap.size w wr) (fun i _ => zs.length + 1 - (intOf i).toNat)
  case atStart => exact ⟨0, by omega, rfl, by intro j h; omega, Below.refl _ _⟩
  case round =>
    obtain ⟨m, hm, rfl, hall, hb⟩ := hrel
    have Hall := Lib.hid hall; clear hall
    have HB := Lib.hid hb; clear hb
    by_cases h1 : m + 1 < zs.length
    · obtain ⟨b, off, rfl, hc1⟩ := (H.out.below (Nat.le_refl _) HB.out).at (show m < zs.length by omega)
      obtain ⟨b', off', e, hc2⟩ := (H.out.below (Nat.le_refl _) HB.out).at h1
      simp only [Option.some.injEq, Addr.mk.injEq, and_true] at e
      obtain ⟨rfl, rfl⟩ := e
      have HD : Hid (descAt zs m = decide (zs.getD (m + 1) 0 < zs.getD m 0)) := rfl
      generalize zs.getD m 0 = x at hc1 HD
      generalize zs.getD (m + 1) 0 = y at hc2 HD
      by_cases hyx : y < x
      · go_wp2_with fail
        go_quiet (fail)
        go_wp2
        go_ret
        exact ⟨ret_int (by rw [fdesc_some h1 (by rw [HD.out]; simpa using hyx) Hall.out]), below_drewN HB.out _⟩
      · have hd : decide (y < x) = false := by simpa using hyx
        go_wp2_with fail
        go_quiet (fail)
        go_wp2
        go_roundw
        case rel =>
          refine ⟨m + 1, by omega, by go_num, fun j hj => ?_, below_drewN HB.out _⟩
          rcases Nat.lt_succ_iff_lt_or_eq.1 hj with h | rfl
          · exact Hall.out j h
          · rw [HD.out]; exact hd
        case measure => simp [intOf]; omega
    · go_wp2
      go_ret
      exact ⟨ret_int (by rw [fdesc_none (fun j hj => Hall.out j (by omega))]), HB.out⟩

def fdAns (rs : List (Int × Int)) : Int × Bool := if okRecs rs then (if fdesc (keysL rs) = -1 then (-1, true) else (fdesc (keysL rs) + 1, true)) else (0, false)

theorem fdesc_range (zs : List Int) : fdesc zs = -1 ∨ 0 ≤ fdesc zs ∧ fdesc zs < zs.length := by
  unfold fdesc
  cases h : (List.range (zs.length - 1)).find? (descAt zs) with
  | none => left; rfl
  | some m =>
    right
    have := List.mem_of_find?_eq_some h
    simp at this
    simp; omega

set_option maxHeartbeats 400000 in
theorem implFirstDescent_any (a : Option Addr) (cap : Nat) (zs : List (Int × Int)) (w : World) (hbig : zs.length ≤ 9223372036854775807) (h : RecsAt w a zs) :
    Calls Tryz.prog 12 #[.slice a zs.length cap] w fun e w' => e = .returned (.tuple #[.int .i64 (fdAns zs).1, .bool (fdAns zs).2]) ∧ Below w.heap.size w w' := by
  have HL := Lib.hid (isValidRecords_any a cap zs w hbig h)
  cases h1 : okRecs zs
  · have HA : fdAns zs = (0, false) := by simp [fdAns, h1]
    rw [HA]
    rw [h1] at HL
    clear h HA h1
    go_enter Tryz.func12, Tryz.ntmps12
    go_wp2_with ((go_at_call 18; refine HL.out.mono ?_; rintro e w' ⟨rfl, hb⟩))
    go_ret2
    exact ⟨rfl, hb⟩
  · have hl := okRecs_len h1
    have HA : Hid (fdAns zs = (if fdesc (keysL zs) = -1 then (-1, true) else (fdesc (keysL zs) + 1, true))) := by show _ = _; simp [fdAns, h1]
    have HRR := Lib.hid (fdesc_range (keysL zs))
    have HKL := Lib.hid (keysL_len zs)
    rw [h1] at HL
    have H := Lib.hid h
    have hl2 : (keysL zs).length ≤ 64 := by rw [HKL.out]; exact hl
    clear h h1
    go_enter Tryz.func12, Tryz.ntmps12
    go_wp2_with fail
    refine HL.out.mono ?_
    rintro e w1 ⟨rfl, hb⟩
    have HB := Lib.hid hb; clear hb
    go_wp2_with fail
    refine (keysOf_any a cap zs _ (by omega) (H.out.below (Nat.le_refl _) HB.out)).mono ?_
    rintro e w2 ⟨a', c', rfl, ho2, hb2⟩
    have H2 := Lib.hid (ownInts ho2); clear ho2
    have HB2 := Lib.hid (HB.out.trans (hb2.mono HB.out.size)); clear hb2
    go_wp2_with fail
    refine (descent_any a' c' (keysL zs) _ (by omega) H2.out).mono ?_
    rintro e w3 ⟨rfl, hb3⟩
    have HB3 := Lib.hid (HB2.out.trans (hb3.mono HB2.out.size)); clear hb3
    rcases HRR.out with hR | hR
    · have HR := Lib.hid hR
      rw [hR]
      clear hR
      go_wp2
      go_ret2
      exact ⟨by rw [HA.out, if_pos HR.out]; rfl, HB3.out⟩
    · have hR1 := hR.1
      have hR2 := hR.2
      clear hR
      go_wp2
      go_ret2
      exact ⟨by rw [HA.out, if_neg (by omega)]; rfl, HB3.out⟩

def passN : Nat → Int → Int → Int
  | 0, _, _ => 0
  | f + 1, r, w => if 1 < r then 1 + passN f ((r + w - 1) / w) w else 0

def passes (r w : Int) : Int := passN r.toNat r w

theorem pass_lt {r w : Int} (hr : 1 < r) (hw : 2 ≤ w) : 1 ≤ (r + w - 1) / w ∧ (r + w - 1) / w ≤ r - 1 := by
  have h1 : 0 < (r - 1) * (w - 1) := Int.mul_pos (by omega) (by omega)
  have h2 : (r - 1) * (w - 1) = r * w - r - w + 1 := by rw [Int.sub_mul, Int.mul_sub]; omega
  constructor
  · apply Int.le_ediv_of_mul_le (by omega); omega
  · have : (r + w - 1) / w < r := Int.ediv_lt_of_lt_mul (by omega) (by omega)
    omega

theorem passN_fuel (w : Int) (hw : 2 ≤ w) : ∀ (f g : Nat) (r : Int), r.toNat ≤ f → r.toNat ≤ g → passN f r w = passN g r w := by
  intro f
  induction f with
  | zero =>
    intro g r h1 h2
    cases g with
    | zero => rfl
    | succ g => simp only [passN]; rw [if_neg (by omega)]
  | succ f ih =>
    intro g r h1 h2
    cases g with
    | zero => simp only [passN]; rw [if_neg (by omega)]
    | succ g =>
      simp only [passN]
      by_cases hr : 1 < r
      · rw [if_pos hr, if_pos hr]
        have := pass_lt hr hw
        rw [ih g _ (by omega) (by omega)]
      · rw [if_neg hr, if_neg hr]

theorem passes_step {r w : Int} (hw : 2 ≤ w) (hr : 1 < r) : passes r w = 1 + passes ((r + w - 1) / w) w := by
  unfold passes
  have e : r.toNat = (r.toNat - 1) + 1 := by omega
  rw [e]
  simp only [passN]
  rw [if_pos hr]
  have := pass_lt hr hw
  rw [passN_fuel w hw (r.toNat - 1) _ _ (by omega) (Nat.le_refl _)]

theorem passes_stop {r w : Int} (hr : ¬ 1 < r) : passes r w = 0 := by
  unfold passes
  cases h : r.toNat with
  | zero => rfl
  | succ n => simp only [passN]; rw [if_neg hr]

theorem passes_bound (w : Int) (hw : 2 ≤ w) : ∀ (f : Nat) (r : Int), r.toNat ≤ f → 0 ≤ passes r w ∧ (passes r w = 0 ∨ passes r w ≤ r - 1) := by
  intro f
  induction f with
  | zero => intro r h; rw [passes_stop (by omega)]; omega
  | succ f ih =>
    intro r h
    by_cases hr : 1 < r
    · rw [passes_step hw hr]
      have h1 := pass_lt hr hw
      have := ih ((r + w - 1) / w) (by omega)
      omega
    · rw [passes_stop hr]; omega

def okProf (c r v d g : Int) : Bool :=
  inB c 0 64 && if c = 0 then decide (r = 0) && decide (v = 0) && decide (d = 0) && decide (g = 0)
    else inB r 1 c && inB d 1 c && inB v 0 (c * (c - 1) / 2) && (decide (v = 0) == decide (r = 1)) && inB g d 200001

theorem tri_bound {c : Int} (h0 : 0 ≤ c) (h1 : c ≤ 64) : -64 ≤ c * (c - 1) ∧ c * (c - 1) ≤ 4032 := by
  by_cases h : c = 0
  · subst h; omega
  · have : c * (c - 1) ≤ 64 * 63 := Int.mul_le_mul h1 (by omega) (by omega) (by omega)
    have : 0 ≤ c * (c - 1) := Int.mul_nonneg h0 (by omega)
    omega

theorem same_flip {P : Program} {f : FuncId} {args : Array Value} {w : World} {r : Ending} (h : Calls P f args w fun e w' => e = r ∧ w = w') : Calls P f args w fun e w' => e = r ∧ w' = w :=
  h.mono fun _ _ ⟨a, b⟩ => ⟨a, b.symm⟩

def chooseAns (c r v d g m : Int) : Int × Int × Bool :=
  if okProf c r v d g && inB m 1 64 then
    if r ≤ 1 then (0, 0, true) else if v ≤ c then (1, v + c, true) else if g ≤ 2 * c then (2, c + g, true) else if c ≤ m then (3, c * passes r 2, true) else (4, 2 * c * (1 + passes ((c + m - 1) / m) 2), true)
  else (0, 0, false)

theorem okProf_range {c r v d g : Int} (h : okProf c r v d g = true) : 0 ≤ c ∧ c ≤ 64 ∧ 0 ≤ r ∧ r ≤ 64 ∧ 0 ≤ v ∧ v ≤ 2016 ∧ 0 ≤ g ∧ g ≤ 200001 ∧ 0 ≤ d ∧ (c = 0 → r = 0) := by
  unfold okProf at h
  rw [Bool.and_eq_true] at h
  obtain ⟨h0, h⟩ := h
  obtain ⟨hc0, hc1⟩ := inB_iff.1 h0
  have ht := tri_bound hc0 hc1
  by_cases hc : c = 0
  · rw [if_pos hc] at h
    simp at h
    omega
  · rw [if_neg hc] at h
    simp only [Bool.and_eq_true, inB_iff] at h
    omega

theorem ret_iib {a b c d : Int} {p q : Bool} (h : a = b) (k : c = d) (l : p = q) : Ending.returned (.tuple #[.int .i64 a, .int .i64 c, .bool p]) = .returned (.tuple #[.int .i64 b, .int .i64 d, .bool q]) := by rw [h, k, l]

theorem ret_ans {x : Int × Int × Bool} {a b : Int} {p : Bool} (h : x = (a, b, p)) : Ending.returned (.tuple #[.int .i64 a, .int .i64 b, .bool p]) = .returned (.tuple #[.int .i64 x.1, .int .i64 x.2.1, .bool x.2.2]) := by rw [h]

theorem mul_small {a b : Int} (h0 : 0 ≤ a) (h1 : a ≤ 128) (h2 : 0 ≤ b) (h3 : b ≤ 200) : 0 ≤ a * b ∧ a * b ≤ 25600 := by
  constructor
  · exact Int.mul_nonneg h0 h2
  · have : a * b ≤ 128 * 200 := Int.mul_le_mul h1 h3 h2 (by omega)
    omega

end Go.Proofs.YtoebegdepnigbaaGreatDoor

/- Walks: records of the laws, turned and compared. -/
namespace Go.Proofs.YtoebegdepnigbaaGreatDoor
open Go.RowKit
set_option linter.unusedVariables false

end Go.Proofs.YtoebegdepnigbaaGreatDoor

/- VerifySort and the law FnExactVerifySort: their walks. -/
namespace Go.Proofs.YtoebegdepnigbaaGreatDoor
open Go.RowKit
set_option linter.unusedVariables false

def vsAns (l s : RL) (p : List Int) : Bool × Bool := if okRecs l && okRecs s then (provesB l s p, true) else (false, false)

set_option maxHeartbeats 400000 in
theorem implVerifySort_any (a1 : Option Addr) (c1 : Nat) (l : RL) (a2 : Option Addr) (c2 : Nat) (s : RL) (a3 : Option Addr) (c3 : Nat) (p : List Int) (w : World) (b1 : l.length ≤ 9223372036854775807) (h1 : RecsAt w a1 l) (b2 : s.length ≤ 9223372036854775807) (h2 : RecsAt w a2 s) (b3 : p.length ≤ 9223372036854775807) (h3 : IntsAt w a3 p) :
    Calls Tryz.prog 9 #[.slice a1 l.length c1, .slice a2 s.length c2, .slice a3 p.length c3] w fun e w' => e = .returned (.tuple #[.bool (vsAns l s p).1, .bool (vsAns l s p).2]) ∧ Below w.heap.size w w' := by
  have HL := Lib.hid (isValidRecords_any a1 c1 l w b1 h1)
  have H1 := Lib.hid h1
  have H2 := Lib.hid h2
  have H3 := Lib.hid h3
  clear h1 h2 h3
  cases k1 : okRecs l
  · have HA : Hid (vsAns l s p = (false, false)) := by show _ = _; simp [vsAns, k1]
    rw [k1] at HL
    clear k1
    go_enter Tryz.func9, Tryz.ntmps9
    go_wp2_with fail
    refine HL.out.mono ?_
    rintro e w1 ⟨rfl, hb⟩
    have HB := Lib.hid hb; clear hb
    go_wp2
    go_ret2
    exact ⟨by rw [HA.out]; rfl, HB.out⟩
  rw [k1] at HL
  cases k2 : okRecs s
  · have HA : Hid (vsAns l s p = (false, false)) := by show _ = _; simp [vsAns, k2]
    have HL2 := Lib.hid (fun w1 (hb : Below w.heap.size w w1) => k2 ▸ isValidRecords_any a2 c2 s w1 b2 (H2.out.below (Nat.le_refl _) hb))
    clear k1 k2
    go_enter Tryz.func9, Tryz.ntmps9
    go_wp2_with fail
    refine HL.out.mono ?_
    rintro e w1 ⟨rfl, hb⟩
    have HB := Lib.hid hb; clear hb
    go_wp2_with fail
    refine (HL2.out _ HB.out).mono ?_
    rintro e w2 ⟨rfl, hb⟩
    have HB2 := Lib.hid (HB.out.trans (hb.mono HB.out.size)); clear hb
    go_wp2
    go_ret2
    exact ⟨by rw [HA.out]; rfl, HB2.out⟩
  have HA : Hid (vsAns l s p = (provesB l s p, true)) := by show _ = _; simp [vsAns, k1, k2]
  have HL2 := Lib.hid (fun w1 (hb : Below w.heap.size w w1) => k2 ▸ isValidRecords_any a2 c2 s w1 b2 (H2.out.below (Nat.le_refl _) hb))
  clear k1 k2
  go_enter Tryz.func9, Tryz.ntmps9
  go_wp2_with fail
  refine HL.out.mono ?_
  rintro e w1 ⟨rfl, hb⟩
  have HB := Lib.hid hb; clear hb
  go_wp2_with fail
  refine (HL2.out _ HB.out).mono ?_
  rintro e w2 ⟨rfl, hb⟩
  have HB2 := Lib.hid (HB.out.trans (hb.mono HB.out.size)); clear hb
  go_wp2_with fail
  refine (proves_any a1 a2 a3 c1 c2 c3 l s p _ b1 b2 b3 (H1.out.below (Nat.le_refl _) HB2.out) (H2.out.below (Nat.le_refl _) HB2.out) (H3.out.below (Nat.le_refl _) HB2.out)).mono ?_
  rintro e w3 ⟨rfl, hb⟩
  have HB3 := Lib.hid (HB2.out.trans (hb.mono HB2.out.size)); clear hb
  go_wp2
  go_ret2
  exact ⟨by rw [HA.out]; rfl, HB3.out⟩

end Go.Proofs.YtoebegdepnigbaaGreatDoor

/- The law FnCertify: its walk. -/
namespace Go.Proofs.YtoebegdepnigbaaGreatDoor
open Go.RowKit Go.Sort
set_option linter.unusedVariables false

theorem okRecs_srt {rs : List (Int × Int)} (h : okRecs rs = true) : okRecs (srtR rs) = true := by
  unfold okRecs at h ⊢
  simp only [Bool.and_eq_true, decide_eq_true_eq, List.all_eq_true] at h ⊢
  refine ⟨by rw [srtR_len]; exact h.1, fun x hx => h.2 x ((Mg.srt_perm _).mem_iff.1 hx)⟩
theorem fd_srt {rs : List (Int × Int)} (h : okRecs rs = true) : fdAns (srtR rs) = (-1, true) := by
  have hd : fdesc (keysL (srtR rs)) = -1 := by
    refine fdesc_none fun j hj => ?_
    have ha : (srtR rs).Pairwise fun x y => Mg.ltK Prod.fst y x = false := Mg.srt_asc (Mg.swK _) rs
    rw [keysL_len] at hj
    have h1 := List.pairwise_iff_getElem.1 ha j (j + 1) (by omega) hj (by omega)
    unfold Mg.ltK at h1
    simp only [decide_eq_false_iff_not] at h1
    unfold descAt keysL
    rw [decide_eq_false_iff_not]
    simp only [List.getD_eq_getElem?_getD, List.getElem?_map]
    rw [List.getElem?_eq_getElem hj, List.getElem?_eq_getElem (show j < (srtR rs).length by omega)]
    simpa using h1
  unfold fdAns
  rw [okRecs_srt h, hd]; rfl
theorem csOk {rs : List (Int × Int)} (h : okRecs rs = true) : csAns rs = sortP (keysL rs) ∧ fcOk rs (csAns rs) = true ∧ vsAns rs (srtR rs) (csAns rs) = (true, true) := by
  have e : csAns rs = sortP (keysL rs) := if_pos h
  obtain ⟨h1, h2⟩ := proves_srt (okRecs_le h)
  rw [e]
  refine ⟨rfl, ?_, ?_⟩
  · unfold fcOk
    rw [h, h1, decide_eq_true (by rw [sortP_len, keysL_len])]; rfl
  · unfold vsAns
    rw [h, okRecs_srt h, h2]; rfl
theorem fcText_size {rs : List (Int × Int)} {cs : List Int} (h : fcOk rs cs = true) : (fcText rs cs).size ≤ 4000 := by
  obtain ⟨l, l1, l2, l3, _⟩ := text_facts h rfl
  have e := congrArg List.length l3
  have := Tx.digits_len 5 (Tx.sumL l) (Nat.lt_trans (Tx.sumL_lt _) (by omega))
  unfold Tx.sealL at e
  rw [bs_len] at e
  simp only [List.length_append, List.length_cons] at e
  omega
theorem specIV2_any (a : Option Addr) (c : Nat) (rs : List (Int × Int)) (w : World) (hbig : rs.length ≤ 9223372036854775807) (h : RecsAt w a rs) :
    Calls Tryz.prog 7 #[.slice a rs.length c] w fun e w' => e = .returned (.bool (okRecs rs)) ∧ w = w' := by
  have H := Lib.hid (l2Records_any a c rs w hbig h)
  clear h
  go_enter Tryz.func7, Tryz.ntmps7
  go_wp2_with fail
  refine H.out.mono ?_
  rintro e w1 ⟨rfl, rfl⟩
  go_wp2
  go_ret
  exact ⟨rfl, rfl⟩
theorem drawCertifySort_any (ac : Option Addr) (c : Nat) (cs : List Int) (w : World) (hl : cs.length ≤ 65537) (h : BytesAt w ac cs) :
    Calls Tryz.prog 5 #[.slice ac cs.length c] w (RdDraw w) := by
  have HD := Lib.hid (drawIV_any ac c cs w hl h)
  clear h
  unfold RdDraw at *
  go_enter Tryz.func5, Tryz.ntmps5
  go_wp2_with fail
  refine HD.out.mono ?_
  rintro e w1 ⟨a1, n1, c1, rs, rfl, hr, h70, hb⟩
  have HR := Lib.hid hr; have HB := Lib.hid hb
  clear hr hb HD
  go_wp2
  go_ret
  exact ⟨a1, n1, c1, rs, rfl, HR.out, h70, HB.out⟩

set_option maxRecDepth 100000 in
set_option maxHeartbeats 16000000 in
theorem lawCertify_any (ac : Option Addr) (cc : Nat) (cs : List Int) (w : World) (henv : Env w) (hbig : cs.length ≤ 9223372036854775807) (h : BytesAt w ac cs) :
    Calls Tryz.prog 3 #[.slice ac cs.length cc] w fun e w' => e = .returned (.bool true) ∧ Below w.heap.size w w' := by
  have HV := Lib.hid (vBigG_any ac cs.length cc w hbig)
  by_cases hl : 65536 < cs.length
  · rw [decide_eq_true hl] at HV
    clear h
    go_enter Tryz.func3, Tryz.ntmps3
    go_wp2_with (go_at_call 4; refine HV.out.mono ?_; rintro e w' ⟨rfl, rfl⟩)
    go_ret
    exact ⟨rfl, Below.refl _ _⟩
  rw [decide_eq_false hl] at HV
  have HD := Lib.hid (drawCertifySort_any ac cc cs w (by omega) h)
  have HBY := Lib.hid h
  have HE := Lib.hid henv
  clear h henv
  unfold RdDraw at HD
  go_enter Tryz.func3, Tryz.ntmps3
  go_wp2_with fail
  refine HV.out.mono ?_
  rintro e w1 ⟨rfl, rfl⟩
  go_wp2_with fail
  refine HD.out.mono ?_
  rintro e w1 ⟨a1, n1, c1, rs, rfl, hr, h70, hb⟩
  have HB1 := Lib.hid hb
  have HR1 := Lib.hid hr
  obtain ⟨hrec, hrl, hnil, hcap⟩ := hr
  subst hrl
  clear hb HD HV hrec hnil hcap
  go_wp2_with fail
  refine (implCertifySort_any a1 c1 rs w1 (by omega) HR1.out.recs).mono ?_
  rintro e w2 ⟨a2, c2, rfl, ho, hb⟩
  have HI2 := Lib.hid (ints_of_own ho)
  have HR2 := Lib.hid (HR1.out.same hb)
  have HB2 := Lib.hid (below_trI HB1.out hb HB1.out.size)
  clear ho hb HR1 HB1
  go_wp2_with fail
  refine (specIV2_any a1 c1 rs w2 (by omega) HR2.out.recs).mono ?_
  rintro e w3 ⟨rfl, rfl⟩
  have q0 : (okRecs rs != okRecs rs) = false := by simp
  cases hok : okRecs rs
  · have hz : csAns rs = [] := by unfold csAns; rw [hok]; rfl
    rw [hz]
    rw [hok] at q0
    clear hok
    go_wp2
    go_ret
    exact ⟨ret_bool (by first | rfl | simp), HB2.out⟩
  obtain ⟨hce, hfo, hvs⟩ := csOk hok
  have h64 := okRecs_le hok
  have hcl := csAns_le rs
  obtain ⟨ct, hct⟩ : ∃ ct, csAns rs = ct := ⟨_, rfl⟩
  have hpan : ∀ out ok, PAns rs (fcText rs ct) out ok → out = ct ∧ ok = true := fun out ok hp => by
    rw [hct] at hfo
    exact PAns.unique hp (.inl ⟨rfl, hfo, rfl⟩)
  have HPAN := Lib.hid hpan
  have hts := fcText_size hfo
  rw [hct] at hfo hvs hts hcl HI2
  have hffe : FfEnd rs ct = .tuple #[.string (fcText rs ct), .bool true] := by unfold FfEnd; rw [hfo]; rfl
  have HFF := Lib.hid (fun w ht h1 h2 => by have h := formatCertificate_any a1 c1 rs a2 c2 ct w (by omega) (by omega) ht h1 h2; rw [hffe] at h; exact h)
  have HSS := Lib.hid (fun w h => by have h := implStableSort_any a1 rs.length c1 rs w (by omega) h; rw [show stAns rs = srtR rs from if_pos hok, hok] at h; exact h)
  have HFD := Lib.hid (fun a c w h => by have h := implFirstDescent_any a c (srtR rs) w (by rw [srtR_len]; omega) h; rw [fd_srt hok, srtR_len] at h; exact h)
  have HVS := Lib.hid (fun a c w h1 h2 h3 => by have h := implVerifySort_any a1 c1 rs a c (srtR rs) a2 c2 ct w (by omega) h1 (by rw [srtR_len]; omega) h2 (by omega) h3; rw [hvs, srtR_len] at h; exact h)
  clear hce hfo hvs hffe hpan hok
  rw [hct]
  clear hct
  generalize fcText rs ct = tx at HFF HPAN hts
  go_wp2_with fail
  refine (HSS.out _ HR2.out).mono ?_
  rintro e w3 ⟨a3, n3, c3, rfl, hr, hb⟩
  obtain ⟨hs3, hl3, _, _⟩ := hr
  rw [srtR_len] at hl3
  subst hl3
  have HS3 := Lib.hid hs3
  have HR3 := Lib.hid (HR2.out.same hb)
  have HI3 := Lib.hid (HI2.out.below (Nat.le_refl _) hb)
  have HB3 := Lib.hid (below_trI HB2.out hb HB2.out.size)
  clear hs3 hb HR2 HI2 HB2
  go_wp2_with fail
  refine (HVS.out _ _ _ HR3.out.recs HS3.out HI3.out).mono ?_
  rintro e w4 ⟨rfl, hb⟩
  have HS4 := Lib.hid (HS3.out.below (Nat.le_refl _) hb)
  have HR4 := Lib.hid (HR3.out.same hb)
  have HI4 := Lib.hid (HI3.out.below (Nat.le_refl _) hb)
  have HB4 := Lib.hid (below_trI HB3.out hb HB3.out.size)
  clear hb HR3 HI3 HB3 HS3
  go_wp2_with fail
  refine (HFF.out _ (HE.out.below HB4.out).tab HR4.out.recs HI4.out).mono ?_
  rintro e w5 ⟨rfl, hb⟩
  have HS5 := Lib.hid (HS4.out.below (Nat.le_refl _) hb)
  have HR5 := Lib.hid (HR4.out.same hb)
  have HI5 := Lib.hid (HI4.out.below (Nat.le_refl _) hb)
  have HB5 := Lib.hid (below_trI HB4.out hb HB4.out.size)
  clear hb HR4 HI4 HB4 HS4
  go_wp2_with fail
  refine (parseCertificate_any tx a1 c1 rs w5 (by omega) (by omega) (HE.out.below HB5.out) HR5.out.recs).mono ?_
  rintro e w6 ⟨a6, c6, out, okp, rfl, ho, hp, hb⟩
  obtain ⟨rfl, rfl⟩ := HPAN.out _ _ hp
  have HP6 := Lib.hid (ints_of_own ho)
  have HS6 := Lib.hid (HS5.out.below (Nat.le_refl _) hb)
  have HI6 := Lib.hid (HI5.out.below (Nat.le_refl _) hb)
  have HB6 := Lib.hid (below_trI HB5.out hb HB5.out.size)
  clear hb ho hp HR5 HI5 HB5 HS5
  go_wp2_with fail
  refine (HFD.out _ _ _ HS6.out).mono ?_
  rintro e w7 ⟨rfl, hb⟩
  have HI7 := Lib.hid (HI6.out.below (Nat.le_refl _) hb)
  have HP7 := Lib.hid (HP6.out.below (Nat.le_refl _) hb)
  have HB7 := Lib.hid (below_trI HB6.out hb HB6.out.size)
  clear hb HI6 HB6 HS6 HP6
  go_wp2_with fail
  refine (vInts_same _ _ _ _ out.length out _ rfl (by omega) HP7.out HI7.out).mono ?_
  rintro e w8 ⟨rfl, hb⟩
  have HB8 := Lib.hid (below_trI HB7.out hb HB7.out.size)
  clear hb HI7 HB7 HP7
  go_wp2_with fail
  refine (vCut_any ac cc cs w8 (by omega) (HBY.out.below (Nat.le_refl _) HB8.out)).mono ?_
  rintro e w9 ⟨a9, c9, zs, rfl, hzl, hz, hb⟩
  have HZ9 := Lib.hid hz
  have HB9 := Lib.hid (below_trI HB8.out hb HB8.out.size)
  clear hb hz HB8
  go_wp2_with fail
  refine (drawVerifySort_any a9 c9 zs w9 hzl HZ9.out).mono ?_
  rintro e w10 ⟨b1, m1, d1, l, b2, m2, d2, t, b3, d3, p, rfl, hr1, hr2, hi3, hm1, hm2, hm3, hb⟩
  have HB10 := Lib.hid (below_trI HB9.out hb HB9.out.size)
  have HL10 := Lib.hid hr1
  have HT10 := Lib.hid hr2
  have HP10 := Lib.hid hi3
  have e1 := hr1.len
  have e2 := hr2.len
  subst e1 e2
  clear hb hr1 hr2 hi3 HB9 HZ9
  have HVV := Lib.hid (implVerifySort_any b1 d1 l b2 d2 t b3 d3 p w10 (by omega) HL10.out.recs (by omega) HT10.out.recs (by omega) HP10.out)
  have HVA : Hid ((vsAns l t p).1 = true → (vsAns l t p).2 = true → okRecs l = true ∧ t = srtR l) := fun h1 h2 => by
    unfold vsAns at h1 h2
    split at h1
    · rename_i hk
      rw [Bool.and_eq_true] at hk
      exact ⟨hk.1, proves_only h1⟩
    · cases h1
  obtain ⟨v1, hv1⟩ : ∃ v, (vsAns l t p).1 = v := ⟨_, rfl⟩
  obtain ⟨v2, hv2⟩ : ∃ v, (vsAns l t p).2 = v := ⟨_, rfl⟩
  rw [hv1, hv2] at HVV HVA
  clear hv1 hv2
  go_wp2_with fail
  refine HVV.out.mono ?_
  rintro e w11 ⟨rfl, hb⟩
  have HL11 := Lib.hid (HL10.out.same hb)
  have HT11 := Lib.hid (HT10.out.same hb)
  have HB11 := Lib.hid (below_trI HB10.out hb HB10.out.size)
  clear hb HL10 HT10 HB10 HP10 HVV
  cases v2
  case false =>
    go_wp2
    go_ret
    exact ⟨rfl, HB11.out⟩
  cases v1
  case true.false =>
    go_wp2
    go_ret
    exact ⟨rfl, HB11.out⟩
  obtain ⟨hokl, htl⟩ := HVA.out rfl rfl
  have HS := Lib.hid (implStableSort_any b1 l.length d1 l w11 (by omega) HL11.out)
  rw [show stAns l = srtR l from if_pos hokl, hokl, ← htl] at HS
  clear HVA hokl htl
  go_wp2_with fail
  refine HS.out.mono ?_
  rintro e w12 ⟨b4, m4, d4, rfl, hr, hb⟩
  have HT12 := Lib.hid (HT11.out.same hb)
  have HB12 := Lib.hid (below_trI HB11.out hb HB11.out.size)
  have HU := Lib.hid hr
  have hm4 : m4 ≤ 70 := by have := hr.len; omega
  clear hr hb HS HT11 HB11
  go_wp2_with fail
  refine (vRecords_any b4 b2 m4 t.length d4 d2 t t w12 (by omega) (by omega) HU.out HT12.out).mono ?_
  rintro e w13 ⟨rfl, hb⟩
  have HB13 := Lib.hid (below_trI HB12.out hb HB12.out.size)
  clear hb
  go_wp2
  go_ret
  exact ⟨ret_bool (by simp), HB13.out⟩

end Go.Proofs.YtoebegdepnigbaaGreatDoor

/- General: what comes in as a list of structs, read as cells. -/
namespace Go.Proofs.YtoebegdepnigbaaGreatDoor
open Go.ChangeShapes Go.WideShapes Go.Deep Go.RowKit Go.Joins
set_option linter.unusedVariables false

section
variable {H : Type} {enc : TypeId × Value → H} {P : Program} {w : World} {base : Nat} {spare : Nat → Bool} {held : Bool}
theorem open_slice_fields {t e : TypeId} {fs : Array Field} {fuel : Nat} {cs : List Value} {x : DataW H × List MemPlace} (ht : P.underlying t = some (.slice e)) (he : P.underlying e = some (.struct fs))
    (hone : oneCellFields P fs = true) (hC : P.cellsOf e = fs.size) (h : DataW.trod enc P w base spare held fuel t cs = some x) :
    (cs = [.slice none 0 0] ∧ x = (.nil, [])) ∨
    ∃ (a : Addr) (len cap m : Nat) (D : Nat → DataW H) (Pl : Nat → List MemPlace), cs = [.slice (some a) len cap] ∧ base ≤ a.block ∧ len ≤ cap ∧ cap ≤ maxLen ∧ m = (if spare a.block then cap else len) ∧
      x = (.slice ((List.range len).map D) ((List.range (m - len)).map fun j => D (len + j)), MemPlace.row a (m * fs.size) ++ (List.range m).flatMap Pl) ∧
      ∀ i, i < m → ∃ (ys : List (DataW H × List MemPlace)) (n : Nat), D i = .agg (ys.map (·.1)) ∧ Pl i = ys.flatMap (·.2) ∧ ys.length = fs.size ∧
        ∀ (j : Nat) (f : Field), fs[j]? = some f → ∃ (v : Value) (y : DataW H × List MemPlace), w.cell? (a.add (i * fs.size + j)) = some v ∧ ys[j]? = some y ∧ DataW.trod enc P w base spare held n f.type [v] = some y := by
  rcases open_slice ht h with h0 | ⟨a, len, cap, m, n, D, Pl, hcs, hb, hl, hm, hmm, hx, hi⟩
  · exact .inl h0
  · refine .inr ⟨a, len, cap, m, D, Pl, hcs, hb, hl, hm, hmm, by rw [hC] at hx; exact hx, fun i him => ?_⟩
    obtain ⟨cs', hc, ht'⟩ := hi i him
    rw [hC] at hc
    obtain ⟨ys, n', hn', hy, hlen, hyl, hf⟩ := DataW.trod_struct he ht'
    obtain ⟨_, hcl, hat⟩ := World.cells?_some hc
    simp only [Prod.mk.injEq] at hy
    refine ⟨ys, n', hy.1, hy.2, hyl, fun j f hj => ?_⟩
    obtain ⟨ho, hk⟩ := hone_of hone j f hj
    have hjl : j < fs.size := (Array.getElem?_eq_some_iff.1 hj).1
    have hcell := hat j hjl
    have hv : cs'[j]? = some (cs'[j]'(by omega)) := List.getElem?_eq_getElem (by omega)
    have h1 := hf j f hj
    rw [ho, hk] at h1
    have hone' : (cs'.drop j).take 1 = [cs'[j]'(by omega)] := by
      rw [List.drop_eq_getElem_cons (by omega)]
      rfl
    rw [hone'] at h1
    have hys : ys[j]? = some (ys[j]'(by omega)) := List.getElem?_eq_getElem (by omega)
    refine ⟨_, _, ?_, hys, h1.trans hys⟩
    rw [← Go.Deep.add_add, hcell, hv]
end

section
variable {H : Type} {enc : TypeId × Value → H} {P : Program} {w : World} {base : Nat} {spare : Nat → Bool} {held : Bool}
theorem open_agg5 {r : Reach} {b0 : Nat} {t : TypeId} {f0 f1 f2 f3 f4 : Field} {v : Value} {d : DataW H} {p : List MemPlace} (hs : P.underlying t = some (.struct #[f0, f1, f2, f3, f4])) (hone : oneCellFields P #[f0, f1, f2, f3, f4] = true) (hC : P.cellsOf t = 5)
    (hv : Value.okWide P w r b0 t v) (h : DataW.Trod enc P w base spare held t v d p) :
    ∃ (v0 v1 v2 v3 v4 : Value) (y0 y1 y2 y3 y4 : DataW H × List MemPlace) (n : Nat), v = .agg #[v0, v1, v2, v3, v4] ∧ d = .agg [y0.1, y1.1, y2.1, y3.1, y4.1] ∧ p = y0.2 ++ (y1.2 ++ (y2.2 ++ (y3.2 ++ y4.2))) ∧
      DataW.trod enc P w base spare held n f0.type [v0] = some y0 ∧ DataW.trod enc P w base spare held n f1.type [v1] = some y1 ∧ DataW.trod enc P w base spare held n f2.type [v2] = some y2 ∧ DataW.trod enc P w base spare held n f3.type [v3] = some y3 ∧ DataW.trod enc P w base spare held n f4.type [v4] = some y4 := by
  obtain ⟨cs, rfl, hsz⟩ := okWide_struct hs hv
  obtain ⟨l⟩ := cs
  match l, hsz.trans hC with
  | [c0, c1, c2, c3, c4], _ =>
    obtain ⟨fuel, hf⟩ := h
    obtain ⟨xs, n, _, hx, _, hlen, hg⟩ := DataW.trod_struct hs hf
    obtain ⟨o0, k0⟩ := hone_of hone 0 f0 rfl
    obtain ⟨o1, k1⟩ := hone_of hone 1 f1 rfl
    obtain ⟨o2, k2⟩ := hone_of hone 2 f2 rfl
    obtain ⟨o3, k3⟩ := hone_of hone 3 f3 rfl
    obtain ⟨o4, k4⟩ := hone_of hone 4 f4 rfl
    match xs, hlen with
    | [y0, y1, y2, y3, y4], _ =>
      simp only [Prod.mk.injEq] at hx
      exact ⟨c0, c1, c2, c3, c4, y0, y1, y2, y3, y4, n, rfl, by simpa using hx.1, by simpa using hx.2, by simpa [Value.cells, o0, k0] using hg 0 f0 rfl, by simpa [Value.cells, o1, k1] using hg 1 f1 rfl, by simpa [Value.cells, o2, k2] using hg 2 f2 rfl, by simpa [Value.cells, o3, k3] using hg 3 f3 rfl, by simpa [Value.cells, o4, k4] using hg 4 f4 rfl⟩

end

section
variable {H : Type} {enc : TypeId × Value → H} {P : Program} {w : World} {base : Nat} {spare : Nat → Bool} {held : Bool}
/-- A struct by value of one cell and a struct of three. -/
theorem open_agg13 {r : Reach} {b0 : Nat} {t : TypeId} {f0 f1 g0 g1 g2 : Field} {v : Value} {d : DataW H} {p : List MemPlace} (hs : P.underlying t = some (.struct #[f0, f1])) (hs2 : P.underlying f1.type = some (.struct #[g0, g1, g2]))
    (o0 : f0.offset = 0) (o1 : f1.offset = 1) (k0 : P.cellsOf f0.type = 1) (k1 : P.cellsOf f1.type = 3) (hone : oneCellFields P #[g0, g1, g2] = true) (hC : P.cellsOf t = 4)
    (hv : Value.okWide P w r b0 t v) (h : DataW.Trod enc P w base spare held t v d p) :
    ∃ (v0 v1 v2 v3 : Value) (y0 z1 z2 z3 : DataW H × List MemPlace) (n m : Nat), v = .agg #[v0, v1, v2, v3] ∧
      DataW.trod enc P w base spare held n f0.type [v0] = some y0 ∧ DataW.trod enc P w base spare held m g0.type [v1] = some z1 ∧ DataW.trod enc P w base spare held m g1.type [v2] = some z2 ∧ DataW.trod enc P w base spare held m g2.type [v3] = some z3 := by
  obtain ⟨cs, rfl, hsz⟩ := okWide_struct hs hv
  obtain ⟨l⟩ := cs
  match l, hsz.trans hC with
  | [c0, c1, c2, c3], _ =>
    obtain ⟨fuel, hf⟩ := h
    obtain ⟨xs, n, _, hx, _, hlen, hg⟩ := DataW.trod_struct hs hf
    match xs, hlen with
    | [y0, y1], _ =>
      have h0 := hg 0 f0 rfl
      have h1 := hg 1 f1 rfl
      rw [o0, k0] at h0
      rw [o1, k1] at h1
      have h1' : DataW.trod enc P w base spare held n f1.type [c1, c2, c3] = some y1 := by simpa [Value.cells] using h1
      obtain ⟨zs, m, _, hz, _, hlen2, hg2⟩ := DataW.trod_struct hs2 h1'
      obtain ⟨p0, q0⟩ := hone_of hone 0 g0 rfl
      obtain ⟨p1, q1⟩ := hone_of hone 1 g1 rfl
      obtain ⟨p2, q2⟩ := hone_of hone 2 g2 rfl
      match zs, hlen2 with
      | [z1, z2, z3], _ =>
        exact ⟨c0, c1, c2, c3, y0, z1, z2, z3, n, m, rfl, by simpa [Value.cells] using h0, by simpa [p0, q0] using hg2 0 g0 rfl, by simpa [p1, q1] using hg2 1 g1 rfl, by simpa [p2, q2] using hg2 2 g2 rfl⟩
end

theorem recs_of_cells {w : World} {x : Addr} {len : Nat} (h : ∀ i, i < len → ∃ k t : Int, w.cell? (x.add (i * 2)) = some (.int .i64 k) ∧ w.cell? (x.add (i * 2 + 1)) = some (.int .i64 t)) :
    ∃ rs : List (Int × Int), rs.length = len ∧ RecsAt w (some x) rs := by
  by_cases h0 : len = 0
  · subst h0; exact ⟨[], rfl, .inl rfl⟩
  · obtain ⟨b, off, spot⟩ := x
    obtain ⟨k0, t0, hc0, _⟩ := h 0 (by omega)
    have hs : spot = none := by simpa [Addr.add] using World.cell?_spot hc0
    subst hs
    have hlt := World.block_lt_of_cell? w _ hc0
    have hadd : ∀ j, (⟨b, off, none⟩ : Addr).add j = ⟨b, off + j, none⟩ := fun j => by unfold Addr.add; split <;> simp_all
    have key : ∀ n, n ≤ len → ∃ rs : List (Int × Int), rs.length = n ∧ ∀ j, j < n → w.cell? ⟨b, off + j * 2, none⟩ = some (.int .i64 (rs.getD j (0, 0)).1) ∧ w.cell? ⟨b, off + j * 2 + 1, none⟩ = some (.int .i64 (rs.getD j (0, 0)).2) := by
      intro n
      induction n with
      | zero => intro _; exact ⟨[], rfl, fun j hj => by omega⟩
      | succ n ih =>
        intro hn
        obtain ⟨rs, hl, hr⟩ := ih (by omega)
        obtain ⟨k, t, hk, ht⟩ := h n (by omega)
        rw [hadd] at hk ht
        refine ⟨rs ++ [(k, t)], by simp [hl], fun j hj => ?_⟩
        by_cases e : j = n
        · subst e
          have : (rs ++ [(k, t)]).getD j (0, 0) = (k, t) := by simp [List.getD, ← hl]
          rw [this]
          exact ⟨hk, by rw [Nat.add_assoc]; exact ht⟩
        · have : (rs ++ [(k, t)]).getD j (0, 0) = rs.getD j (0, 0) := by simp [List.getD, List.getElem?_append_left (show j < rs.length by omega)]
          rw [this]
          exact hr j (by omega)
    obtain ⟨rs, hl, hr⟩ := key len (Nat.le_refl _)
    exact ⟨rs, hl, .inr ⟨b, off, rfl, by simpa [Addr.add] using hlt, fun j hj => hr j (by omega)⟩⟩

theorem int_in {n : Int} (h : (Lit.int .i64 n).wf = true) : -9223372036854775808 ≤ n ∧ n ≤ 9223372036854775807 := by
  simp only [Lit.wf, Bool.and_eq_true, decide_eq_true_eq] at h
  have e1 : IntKind.i64.min = -9223372036854775808 := by decide
  have e2 : IntKind.i64.max = 9223372036854775807 := by decide
  rw [e1, e2] at h
  exact h

end Go.Proofs.YtoebegdepnigbaaGreatDoor

/- What the wraps ask of the program as a whole. -/
namespace Go.Proofs.YtoebegdepnigbaaGreatDoor
theorem own : ownKnob Tryz.prog.godebug = none := by kernel_rfl
theorem laidOut : laidOutB Tryz.prog = true := by kernel_rfl
end Go.Proofs.YtoebegdepnigbaaGreatDoor

/- From the row's condition to the table's fact. -/
namespace Go.Proofs.YtoebegdepnigbaaGreatDoor
open Go.RowKit
set_option linter.unusedVariables false

theorem tabIs_of_vars {P : Program} {W : World} {name : String} {k : IntKind} {zs : List Int} {rest : List (String × DataW Unit)} {ps : List MemPlace} {g : Nat} {t e : TypeId} {n : Nat}
    (hg : P.globalNamed name = some g) (hty : (P.globals[g]?).map (·.type) = some t) (ht : P.underlying t = some (.array n e)) (he : P.underlying e = some (.int k)) (hce : P.cellsOf e = 1) (hct : P.cellsOf t = n)
    (h : DataW.LaidVars P W ((name, Lib.tabData k zs) :: rest) ps) : Lib.TabIs P W name k zs := by
  obtain ⟨g', t', cs, fuel, p, q, hg', ht', hvar, hd, _, _⟩ := h
  obtain rfl := Option.some.inj (hg.symm.trans hg')
  obtain rfl := Option.some.inj (hty.symm.trans ht')
  unfold Lib.TabIs
  rw [hvar, ← Lib.cells_of_tab ht he hce hct hd]

theorem laidVars_tail {P : Program} {W : World} {x : String × DataW Unit} {l : List (String × DataW Unit)} {ps : List MemPlace} (h : DataW.LaidVars P W (x :: l) ps) : ∃ q, DataW.LaidVars P W l q := by
  obtain ⟨g', t', cs, fuel, p, q, hg', ht', hvar, hd, hr, _⟩ := h
  exact ⟨q, hr⟩

theorem pow_datum : (Rows.laid_internal_strconv_uint64pow10 : DataW Unit) = Lib.tabData .u64 Lib.pow10Tab := by kernel_rfl

theorem tab_of_laid {W : World} {a b : String × DataW Unit} (h : laidMet Tryz.prog [a, b, ("internal/strconv.uint64pow10", Rows.laid_internal_strconv_uint64pow10)] W) : Tab W := by
  obtain ⟨ps, h, _⟩ := h
  obtain ⟨q, h⟩ := laidVars_tail h
  obtain ⟨q, h⟩ := laidVars_tail h
  rw [pow_datum] at h
  have hg : Tryz.prog.globalNamed "internal/strconv.uint64pow10" = some 1 := by kernel_rfl
  have hty : (Tryz.prog.globals[1]?).map (·.type) = some 120 := by kernel_rfl
  exact tabIs_of_vars hg hty Tryz.underlying120 Tryz.underlying60 (by kernel_rfl) (by kernel_rfl) h

end Go.Proofs.YtoebegdepnigbaaGreatDoor
