/- Walks of the laws' own functions on lists of records of texts: marks. -/
import Derived.Test.YtfdhicojnbicgaaDoorTk
import Derived.Test.YtfdhicojnbicgaaDoorKf
namespace Go.Proofs.YtfdhicojnbicgaaDoor
open Go.RowKit
set_option linter.unusedVariables false

def dg (j : Nat) : List UInt8 := if j = 0 then [] else Lib.decDigits j
theorem dg_step {j : Nat} (h : 0 < j) : dg j = dg (j / 10) ++ [UInt8.ofNat (48 + j % 10)] := by
  unfold dg
  rw [if_neg (by omega), Lib.decDigits]
  by_cases h1 : j < 10
  · rw [dif_pos h1, if_pos (by omega)]
    simp [Nat.mod_eq_of_lt h1]
  · rw [dif_neg h1, if_neg (by omega)]
theorem dg_len (j : Nat) (h : j < 10 ^ 10) : (dg j).length ≤ 10 := by
  unfold dg
  split
  · simp
  · exact Tx.digits_len 9 j h
theorem dig_nat (j : Nat) : ((UInt8.ofNat (48 + j % 10)).toNat : Int) = 48 + (j : Int) % 10 := by
  have : (UInt8.ofNat (48 + j % 10)).toNat = 48 + j % 10 := by rw [UInt8.toNat_ofNat']; omega
  rw [this]; omega

/-- 'string(b)', the text by its name. -/
theorem wpList_backS {P : Program} {w : World} {ops : Array Oper} {rest : List Oper} {o : Oper} {a : Act} {Q : Exit → Act → World → Prop} (hgd : o.guard = none) (tb ts te : TypeId) (x : Operand) (hop : o.op = .convert tb ts x)
    {g n cap : Nat} (l : List UInt8) (hl : l.length = n) (hx : a.eval x = .slice (some ⟨g, 0, none⟩) n cap) (hs : P.underlying ts = some .string) (hd : P.underlying tb = some (.slice te)) (he : P.underlying te = some (.int .u8))
    (hc : ∀ j b, l[j]? = some b → w.cell? ⟨g, j, none⟩ = some (.int .u8 (b.toNat : Int))) {C : ByteArray} (hC : C = ba l)
    (h : wpList P ops Q rest (a.put o.dst (.string C)) w) : wpList P ops Q (o :: rest) a w :=
  wpList_back hgd tb ts te x hop l hl hx hs hd he hc (hC ▸ h)

def markL (k : Nat) : List UInt8 := 109 :: Lib.decDigits k

set_option maxRecDepth 100000 in
set_option maxHeartbeats 2000000 in
theorem markText_any (K : Int) (w : World) (h0 : 1 ≤ K) (h1 : K ≤ 1000000000) :
    Calls Tryd.prog 59 #[.int .i64 K] w fun e w' => e = .returned (.string (ba (markL K.toNat))) ∧ Below w.heap.size w w' := by
  have HD : Hid (dg K.toNat = Lib.decDigits K.toNat) := by show _ = _; unfold dg; rw [if_neg (by omega)]
  have hlen := dg_len K.toNat (by omega)
  have HM : Hid (ba (markL K.toNat) = ⟨#[109]⟩ ++ ba (Lib.decDigits K.toNat)) := by show _ = _; apply ba_eq; rw [bs_add, bs_ba, bs_ba]; rfl
  go_enter Tryd.func59, Tryd.ntmps59
  go_wp2
  go_loopw [0, 3] (fun k v wr => ∃ (j : Nat) (o : ByteArray), k = .int .i64 j ∧ v = .string o ∧ j ≤ 1000000000 ∧ dg j ++ bs o = dg K.toNat ∧ Below w.heap.size w wr) (fun k _ _ => (intOf k).toNat)
  case atStart => exact ⟨K.toNat, ⟨#[]⟩, by rw [Int.toNat_of_nonneg (by omega)], rfl, by omega, by simp [bs], Below.refl _ _⟩
  case round =>
    obtain ⟨j, o, rfl, rfl, hj, hd, hb⟩ := hrel
    have HB := Lib.hid hb; clear hb
    have ho : o.size ≤ 10 := by
      have := congrArg List.length hd
      rw [List.length_append, bs_len] at this
      omega
    by_cases hp : 0 < j
    · obtain ⟨ch, hch⟩ : ∃ c : UInt8, c = UInt8.ofNat (48 + j % 10) := ⟨_, rfl⟩
      obtain ⟨C, hC⟩ : ∃ C : ByteArray, C = ba [ch] := ⟨_, rfl⟩
      have hCs : C.size = 1 := by rw [hC, ba_size]; rfl
      have hs : Hid (dg (j / 10) ++ bs (C ++ o) = dg K.toNat) := by
        show _ = _
        rw [← hd, dg_step hp, bs_add, hC, bs_ba, hch]; simp
      have hcv : Hid (((ch.toNat : Nat) : Int) = 48 + (j : Int) % 10) := by
        show _ = _
        rw [hch, dig_nat]
      have HC := Lib.hid hC; clear hC hch
      have a1 := add_runs (P := Tryd.prog) (a := C) (b := o) (by omega) (by omega)
      clear hd
      go_wp2_with (refine wpList_backS rfl 64 9 5 (.tmp 12) rfl [ch] rfl rfl Tryd.underlying9 Tryd.underlying64 Tryd.underlying5 ?hc HC.out ?_)
      case hc =>
        intro i b hb
        have hi : i < 1 := by
          have := (List.getElem?_eq_some_iff.1 hb).1
          simpa using this
        obtain rfl : i = 0 := by omega
        have hb' : b = ch := by simpa using hb.symm
        rw [hb', hcv.out]
        exact alloc_cell 0
      go_wp2
      go_roundw
      case rel => exact ⟨j / 10, C ++ o, by go_num, rfl, by omega, hs.out, HB.out.alloc HB.out.size _⟩
      case measure => simp [intOf]; omega
    · obtain rfl : j = 0 := by omega
      have HO : Hid (bs o = Lib.decDigits K.toNat) := by
        show _ = _
        rw [← HD.out, ← hd]; rfl
      have a1 := add_runs (P := Tryd.prog) (a := ⟨#[109]⟩) (b := o) (by decide) (by omega)
      clear hd
      go_wp2
      go_ret
      exact ⟨ret_str (by rw [HM.out, ← HO.out, ba_bs]), HB.out⟩

set_option maxHeartbeats 400000 in
theorem eqLogRecord_same (c r : ByteArray) (w : World) :
    Calls Tryd.prog 58 #[recV c r, recV c r] w fun e w' => e = .returned (.bool true) ∧ Below w.heap.size w w' := by
  have h1 : (!(c.toList == c.toList)) = false := by simp
  have h2 : (!(r.toList == r.toList)) = false := by simp
  unfold recV
  go_enter Tryd.func58, Tryd.ntmps58
  go_wp2
  go_ret
  exact ⟨rfl, by (repeat (first | exact Below.refl _ _ | assumption | refine Below.setCell ?_ (by first | omega | (simp; done) | (simp; omega)) _ | refine Below.alloc ?_ (by first | omega | (simp; done) | (simp; omega)) _ | refine Below.drew ?_ | refine below_drewN ?_ _))⟩

/-- A list of records of texts that can be read. -/
def LrAt (w : World) (a : Option Addr) (rs : List Tx.Rec) : Prop :=
  rs = [] ∨ ∃ b off, a = some ⟨b, off, none⟩ ∧ b < w.heap.size ∧ ∀ j, j < rs.length → w.cell? ⟨b, off + j * 2, none⟩ = some (.string (ba (rs.getD j ([], [])).1)) ∧ w.cell? ⟨b, off + j * 2 + 1, none⟩ = some (.string (ba (rs.getD j ([], [])).2))
theorem LrAt.at {w : World} {a : Option Addr} {rs : List Tx.Rec} (h : LrAt w a rs) {k : Nat} (hk : k < rs.length) :
    ∃ b off, a = some ⟨b, off, none⟩ ∧ w.cell? ⟨b, off + k * 2, none⟩ = some (.string (ba (rs.getD k ([], [])).1)) ∧ w.cell? ⟨b, off + k * 2 + 1, none⟩ = some (.string (ba (rs.getD k ([], [])).2)) := by
  rcases h with rfl | ⟨b, off, h1, _, h2⟩
  · simp at hk
  · exact ⟨b, off, h1, h2 k hk⟩
theorem LrAt.below {w w' : World} {B : Nat} {a : Option Addr} {rs : List Tx.Rec} (h : LrAt w a rs) (hB : w.heap.size ≤ B) (hb : Below B w w') : LrAt w' a rs := by
  rcases h with h | ⟨b, off, h1, h0, h2⟩
  · exact .inl h
  · refine .inr ⟨b, off, h1, by have := hb.size; omega, fun j hj => ?_⟩
    obtain ⟨c1, c2⟩ := h2 j hj
    exact ⟨(bcell hb (by omega)).trans c1, (bcell hb (by omega)).trans c2⟩
theorem lr_of_own {w : World} {base : Nat} {e : TypeId} {a : Option Addr} {n c : Nat} {rs : List Tx.Rec} (h : w.ownsRow base e 2 (.slice a n c) n (flat encL rs)) : LrAt w a rs := by
  obtain ⟨h1, h2⟩ := h
  rw [flat_length encL_len] at h1
  rcases h2 with ⟨h2, h3⟩ | ⟨g, cap, cur, hv, _, hg, hn, hc, hs, ht⟩
  · refine .inl ?_
    subst h3
    exact List.eq_nil_of_length_eq_zero (by omega)
  · simp only [Value.slice.injEq] at hv
    obtain ⟨rfl, _, rfl⟩ := hv
    refine .inr ⟨g, 0, rfl, (Array.getElem?_eq_some_iff.1 hg).1, fun j hj => ?_⟩
    have hget : rs[j]? = some (rs.getD j ([], [])) := by simp [List.getD, List.getElem?_eq_getElem hj]
    have key : ∀ i, i < 2 → w.cell? ⟨g, 0 + j * 2 + i, none⟩ = (encL (rs.getD j ([], [])))[i]? := fun i hi => by
      have hx := flat_get encL_len rs j i hi
      rw [hget] at hx
      simp only [Option.bind_some] at hx
      rw [← hx, ← ht, List.getElem?_take, if_pos (by omega)]
      rw [cell_of_row _ g _ _ _ _ hg, Nat.zero_add]
      simp
    exact ⟨by have := key 0 (by omega); simpa [encL] using this, by have := key 1 (by omega); simpa [encL] using this⟩

end Go.Proofs.YtfdhicojnbicgaaDoor
