/- Several texts in one: lemmas and walks of the functions that the laws reach. -/
import Derived.Test.YtoebegdepnigbaaDoorY4
import Derived.Test.YtoebegdepnigbaaDoorY8
import Derived.Test.YtoebegdepnigbaaDoorY1
import Derived.Shelf.Strconv.Atoi
import Derived.Shelf.Strconv.ErrVar
import Derived.Shelf.Strings.Explode
import Derived.Shelf.Strings.RuneCount
import Derived.Shelf.Strings.SplitShaped
import Derived.Shelf.Unicode.Decode
import Derived.Shelf.Unicode.DecodeAny
import Derived.Shelf.Utf8.RuneCount
import Derived.Test.YtoebegdepnigbaaDoorY0
import Derived.Lib.AtoiErrMem
import Derived.Lib.SplitLaws

/- Walks: marks, comparisons and what is held, of ints and of records. -/
namespace Go.Proofs.YtoebegdepnigbaaDoor
open Go.RowKit
set_option linter.unusedVariables false


set_option maxHeartbeats 400000 in
theorem markIntS_any (B : Nat) (a : Option Addr) (c n : Nat) (xs : List Value) (k : Int) (w : World) (hn : n ≤ 1048576) (hk0 : 0 ≤ k) (hk1 : k ≤ 1099511627776) (h : w.ownsRow B 3 1 (.slice a n c) n xs) :
    Calls Tryd.prog 21 #[.slice a n c, .int .i64 k] w fun e w' => e = .returned (.int .i64 (k + n)) ∧ (∃ ys, w'.ownsRow B 3 1 (.slice a n c) n ys) ∧ w.grownBy w' (Value.slice a n c).ownBlock := by
  have H := Lib.hid h; clear h
  go_enter Tryd.func21, Tryd.ntmps21
  go_wp2
  go_loopw [1, 5] (fun v i wr => ∃ j : Nat, j ≤ n ∧ i = .int .i64 j ∧ v = .int .i64 (k + j) ∧ (∃ ys, wr.ownsRow B 3 1 (.slice a n c) n ys) ∧ w.grownBy wr (Value.slice a n c).ownBlock) (fun _ i _ => n - (intOf i).toNat)
  case atStart => exact ⟨0, by omega, rfl, by simp, ⟨xs, H.out⟩, grown_refl _ _⟩
  case round =>
    obtain ⟨j, hj, rfl, rfl, ⟨ys, hown⟩, hg⟩ := hrel
    by_cases hlt : j < n
    · obtain ⟨g, rfl, _, _, hc⟩ := own_cell hown (by omega)
      have hq1 := hc j (by omega)
      obtain ⟨z, hc1⟩ : ∃ z, wr.cell? ⟨g, j, none⟩ = some z := ⟨_, by rw [hq1, List.getElem?_eq_getElem (by rw [hown.1]; omega)]⟩
      clear hq1
      have hf1 := hown.frozenAt j
      have HR := Lib.hid (hown.stored j (.int .i64 (k + j)))
      have HG := Lib.hid hg
      clear hc hown hg
      go_wp2
      go_roundw
      case rel => exact ⟨j + 1, by omega, by go_num, by go_num, ⟨_, HR.out.1⟩, grown_trans HG.out HR.out.2⟩
      case measure => simp [intOf]; omega
    · have e : j = n := by omega
      subst e
      have HO := Lib.hid hown
      have HG := Lib.hid hg
      clear hown hg
      go_wp2
      go_ret
      exact ⟨rfl, ⟨_, HO.out⟩, HG.out⟩

set_option maxHeartbeats 400000 in
theorem markRecordS_any (B : Nat) (a : Option Addr) (c : Nat) (rs : List (Int × Int)) (k : Int) (w : World) (hn : rs.length ≤ 1048576) (hk0 : 0 ≤ k) (hk1 : k ≤ 1099511627776) (h : w.ownsRow B 56 2 (.slice a rs.length c) rs.length (flat encR rs)) :
    Calls Tryd.prog 20 #[.slice a rs.length c, .int .i64 k] w fun e w' => e = .returned (.int .i64 (k + 2 * (rs.length : Int))) ∧ w'.ownsRow B 56 2 (.slice a rs.length c) rs.length (flat encR (mkR rs k rs.length)) ∧ w.grownBy w' (Value.slice a rs.length c).ownBlock := by
  have H := Lib.hid h; clear h
  go_enter Tryd.func20, Tryd.ntmps20
  go_wp2
  go_loopw [1, 5] (fun v i wr => ∃ j : Nat, j ≤ rs.length ∧ i = .int .i64 j ∧ v = .int .i64 (k + 2 * (j : Int)) ∧ wr.ownsRow B 56 2 (.slice a rs.length c) rs.length (flat encR (mkR rs k j)) ∧ w.grownBy wr (Value.slice a rs.length c).ownBlock) (fun _ i _ => rs.length - (intOf i).toNat)
  case atStart => exact ⟨0, by omega, rfl, by simp, by rw [mkR_zero]; exact H.out, grown_refl _ _⟩
  case round =>
    obtain ⟨j, hj, rfl, rfl, hown, hg⟩ := hrel
    by_cases hlt : j < rs.length
    · obtain ⟨g, rfl, _, _, hc⟩ := own_cell hown (by omega)
      have hL : (flat encR (mkR rs k j)).length = rs.length * 2 := by rw [flat_length encR_len, mkR_len]
      have hq1 := hc (j * 2) (by omega)
      obtain ⟨z, hc1⟩ : ∃ z, wr.cell? ⟨g, j * 2, none⟩ = some z := ⟨_, by rw [hq1, List.getElem?_eq_getElem (by omega)]⟩
      clear hq1
      have hf1 := hown.frozenAt (j * 2)
      have R1 := hown.stored (j * 2) (.int .i64 (k + 2 * (j : Int)))
      have hq2 := R1.1.cellAt (j * 2 + 1) (by omega)
      obtain ⟨z2, hc2⟩ : ∃ z2, (wr.setCell ⟨g, j * 2, none⟩ (.int .i64 (k + 2 * (j : Int)))).cell? ⟨g, j * 2 + 1, none⟩ = some z2 := ⟨_, by rw [hq2, List.getElem?_eq_getElem (by rw [List.length_set]; omega)]⟩
      clear hq2
      have hf2 := R1.1.frozenAt (j * 2 + 1)
      have R2 := R1.1.stored (j * 2 + 1) (.int .i64 (k + 2 * (j : Int) + 1))
      rw [flat_set2 encR_len _ j (by rw [mkR_len]; exact hlt) (k + 2 * (j : Int), k + 2 * (j : Int) + 1) _ _ rfl, mkR_succ hlt] at R2
      have HR := Lib.hid R2
      have HG := Lib.hid (grown_trans (grown_trans hg R1.2) R2.2)
      clear hc hown hg R1 R2 hL
      go_wp2
      go_roundw
      case rel => exact ⟨j + 1, by omega, by go_num, by go_num, HR.out.1, HG.out⟩
      case measure => simp [intOf]; omega
    · have e : j = rs.length := by omega
      subst e
      have HO := Lib.hid hown
      have HG := Lib.hid hg
      clear hown hg
      go_wp2
      go_ret
      exact ⟨rfl, HO.out, HG.out⟩

set_option maxHeartbeats 400000 in
theorem heldIntS_any (a : Option Addr) (c n : Nat) (xs : List Int) (k : Int) (w : World) (hn : n ≤ 1048576) (hk0 : 0 ≤ k) (hk1 : k ≤ 1099511627776) (hl : xs.length = n) (h : IntsAt w a xs) (hm : ∀ j, j < n → xs.getD j 0 = k + (j : Int)) :
    Calls Tryd.prog 22 #[.slice a n c, .int .i64 k] w fun e w' => e = .returned (.int .i64 (k + (n : Int))) ∧ w = w' := by
  have H := Lib.hid h; clear h
  have HM := Lib.hid hm; clear hm
  have HL := Lib.hid hl; clear hl
  go_enter Tryd.func22, Tryd.ntmps22
  go_wp2
  go_loop [1, 5] (fun v i => ∃ j : Nat, j ≤ n ∧ i = .int .i64 j ∧ v = .int .i64 (k + (j : Int))) (fun _ i => n - (intOf i).toNat)
  case atStart => exact ⟨0, by omega, rfl, by simp⟩
  case round =>
    obtain ⟨j, hj, rfl, rfl⟩ := hrel
    by_cases hlt : j < n
    · obtain ⟨b, off, rfl, hc1⟩ := H.out.at (show j < xs.length by rw [HL.out]; exact hlt)
      rw [HM.out j hlt] at hc1
      have q1 : ((k + (j : Int)) != (k + (j : Int))) = false := by simp
      go_wp2
      go_round
      case rel => exact ⟨j + 1, by omega, by go_num, by go_num⟩
      case measure => simp [intOf]; omega
    · have e : j = n := by omega
      subst e
      go_wp2
      go_ret
      exact ⟨rfl, rfl⟩

/-- Marked: what 'markIntS' leaves. -/
def mkI (n : Nat) (k : Int) (xs : List Int) (j : Nat) : List Int := (List.range n).map fun i : Nat => if i < j then k + (i : Int) else xs.getD i 0
theorem mkI_len (n : Nat) (k : Int) (xs : List Int) (j : Nat) : (mkI n k xs j).length = n := by simp [mkI]
theorem mkI_at {n j i : Nat} {k : Int} {xs : List Int} (h : i < n) : (mkI n k xs j).getD i 0 = if i < j then k + (i : Int) else xs.getD i 0 := by
  unfold mkI
  rw [List.getD_eq_getElem?_getD, List.getElem?_map, List.getElem?_range h]; rfl
theorem mkI_zero {n : Nat} {k : Int} {xs : List Int} (h : xs.length = n) : mkI n k xs 0 = xs := by
  refine List.ext_getElem (by rw [mkI_len, h]) fun i h1 h2 => ?_
  have := mkI_at (k := k) (xs := xs) (j := 0) (show i < n by rw [mkI_len] at h1; exact h1)
  rw [List.getD_eq_getElem?_getD, List.getElem?_eq_getElem h1, if_neg (by omega), List.getD_eq_getElem?_getD, List.getElem?_eq_getElem h2] at this
  exact this
theorem mkI_succ {n j : Nat} {k : Int} {xs : List Int} (h : j < n) : (mkI n k xs j).set j (k + (j : Int)) = mkI n k xs (j + 1) := by
  refine List.ext_getElem (by rw [List.length_set, mkI_len, mkI_len]) fun i h1 h2 => ?_
  have hi : i < n := by rw [mkI_len] at h2; exact h2
  have e1 := mkI_at (k := k) (xs := xs) (j := j) hi
  have e2 := mkI_at (k := k) (xs := xs) (j := j + 1) hi
  rw [List.getD_eq_getElem?_getD, List.getElem?_eq_getElem h2] at e2
  rw [List.getD_eq_getElem?_getD, List.getElem?_eq_getElem (by rw [mkI_len]; exact hi)] at e1
  rw [List.getElem_set]
  have e1 : (mkI n k xs j)[i]'(by rw [mkI_len]; exact hi) = _ := e1
  have e2 : (mkI n k xs (j + 1))[i] = _ := e2
  rw [e2]
  split
  · rename_i h; subst h; rw [if_pos (by omega)]
  · rw [e1]
    by_cases hij : i < j
    · rw [if_pos hij, if_pos (by omega)]
    · rw [if_neg hij, if_neg (by omega)]

set_option maxHeartbeats 400000 in
theorem markIntS_at (B : Nat) (a : Option Addr) (c n : Nat) (xs : List Int) (k : Int) (w : World) (hn : n ≤ 1048576) (hk0 : 0 ≤ k) (hk1 : k ≤ 1099511627776) (hl : xs.length = n) (h : w.ownsRow B 3 1 (.slice a n c) n (xs.map (Value.int .i64))) :
    Calls Tryd.prog 21 #[.slice a n c, .int .i64 k] w fun e w' => e = .returned (.int .i64 (k + n)) ∧ w'.ownsRow B 3 1 (.slice a n c) n ((mkI n k xs n).map (Value.int .i64)) ∧ w.grownBy w' (Value.slice a n c).ownBlock := by
  have HZ : Hid (mkI n k xs 0 = xs) := mkI_zero hl
  have HS := Lib.hid (fun j (hj : j < n) => mkI_succ (k := k) (xs := xs) hj)
  have HLN := Lib.hid (fun j => mkI_len n k xs j)
  rw [← HZ.out] at h
  have H := Lib.hid h; clear h
  go_enter Tryd.func21, Tryd.ntmps21
  go_wp2
  go_loopw [1, 5] (fun v i wr => ∃ j : Nat, j ≤ n ∧ i = .int .i64 j ∧ v = .int .i64 (k + j) ∧ wr.ownsRow B 3 1 (.slice a n c) n ((mkI n k xs j).map (Value.int .i64)) ∧ w.grownBy wr (Value.slice a n c).ownBlock) (fun _ i _ => n - (intOf i).toNat)
  case atStart => exact ⟨0, by omega, rfl, by simp, H.out, grown_refl _ _⟩
  case round =>
    obtain ⟨j, hj, rfl, rfl, hown, hg⟩ := hrel
    by_cases hlt : j < n
    · obtain ⟨g, rfl, _, _, hc⟩ := own_cell hown (by omega)
      have hq1 := hc j (by omega)
      obtain ⟨z, hc1⟩ : ∃ z, wr.cell? ⟨g, j, none⟩ = some z := ⟨_, by rw [hq1, List.getElem?_eq_getElem (by rw [hown.1]; omega)]⟩
      clear hq1
      have hf1 := hown.frozenAt j
      have hst := hown.stored j (.int .i64 (k + j))
      rw [← List.map_set, HS.out j hlt] at hst
      have HR := Lib.hid hst
      have HG := Lib.hid hg
      clear hc hown hg hst
      go_wp2
      go_roundw
      case rel => exact ⟨j + 1, by omega, by go_num, by go_num, HR.out.1, grown_trans HG.out HR.out.2⟩
      case measure => simp [intOf]; omega
    · have e : j = n := by omega
      subst e
      have HO := Lib.hid hown
      have HG := Lib.hid hg
      clear hown hg
      go_wp2
      go_ret
      exact ⟨rfl, HO.out, HG.out⟩

end Go.Proofs.YtoebegdepnigbaaDoor

/- More contracts of the library's functions at this dump, laid by the shelf's own tool in plain words. -/
namespace Go.Proofs
open Go.Shelf
def Tryd.lays172_ren : Go.Shelf.Ren := ⟨fun | 172 => 65 | 244 => 79 | 245 => 80 | 247 => 97 | 279 => 98 | 280 => 99 | 281 => 100 | 282 => 101 | 287 => 113 | 316 => 114 | 171 => 32 | 205 => 115 | 321 => 121 | 322 => 122 | 243 => 55 | 246 => 70 | 283 => 82 | 284 => 83 | 285 => 84 | 286 => 85 | 129 => 103 | 317 => 102 | 318 => 104 | 319 => 105 | 320 => 106 | 337 => 116 | 338 => 117 | n => n, fun | 9 => 9 | 3 => 3 | 75 => 87 | 76 => 88 | 4 => 4 | 5 => 5 | 167 => 125 | 37 => 82 | 0 => 0 | 85 => 126 | 2 => 2 | 168 => 128 | 53 => 106 | 175 => 142 | 46 => 122 | 210 => 145 | 127 => 101 | 145 => 159 | 143 => 157 | 21 => 21 | 171 => 105 | 173 => 109 | 212 => 132 | 51 => 133 | 20 => 20 | 213 => 134 | 232 => 160 | 233 => 161 | 80 => 90 | n => n, fun | 15 => 2 | 16 => 3 | 17 => 1 | 18 => 6 | 19 => 7 | n => n⟩
theorem Tryd.lays172 : Go.Proofs.Lays.n172 Tryd.prog Tryd.lays172_ren := {
  mixed := by kernel_rfl
  f129 := Tryd.func103.trans (congrArg some (by kernel_rfl))
  f171 := Tryd.func32.trans (congrArg some (by kernel_rfl))
  f172 := Tryd.func65.trans (congrArg some (by kernel_rfl))
  f205 := Tryd.func115.trans (congrArg some (by kernel_rfl))
  f243 := Tryd.func55.trans (congrArg some (by kernel_rfl))
  f244 := Tryd.func79.trans (congrArg some (by kernel_rfl))
  f245 := Tryd.func80.trans (congrArg some (by kernel_rfl))
  f246 := Tryd.func70.trans (congrArg some (by kernel_rfl))
  f247 := Tryd.func97.trans (congrArg some (by kernel_rfl))
  f279 := Tryd.func98.trans (congrArg some (by kernel_rfl))
  f280 := Tryd.func99.trans (congrArg some (by kernel_rfl))
  f281 := Tryd.func100.trans (congrArg some (by kernel_rfl))
  f282 := Tryd.func101.trans (congrArg some (by kernel_rfl))
  f283 := Tryd.func82.trans (congrArg some (by kernel_rfl))
  f284 := Tryd.func83.trans (congrArg some (by kernel_rfl))
  f285 := Tryd.func84.trans (congrArg some (by kernel_rfl))
  f286 := Tryd.func85.trans (congrArg some (by kernel_rfl))
  f287 := Tryd.func113.trans (congrArg some (by kernel_rfl))
  f316 := Tryd.func114.trans (congrArg some (by kernel_rfl))
  f317 := Tryd.func102.trans (congrArg some (by kernel_rfl))
  f318 := Tryd.func104.trans (congrArg some (by kernel_rfl))
  f319 := Tryd.func105.trans (congrArg some (by kernel_rfl))
  f320 := Tryd.func106.trans (congrArg some (by kernel_rfl))
  f321 := Tryd.func121.trans (congrArg some (by kernel_rfl))
  f322 := Tryd.func122.trans (congrArg some (by kernel_rfl))
  f337 := Tryd.func116.trans (congrArg some (by kernel_rfl))
  f338 := Tryd.func117.trans (congrArg some (by kernel_rfl))
  t0 := Tryd.underlying0
  a0 := Tryd.isAgg0
  z0 := Tryd.sizeOf0
  v0 := Tryd.zeroValue0
  t2 := Tryd.underlying2
  a2 := Tryd.isAgg2
  z2 := Tryd.sizeOf2
  v2 := Tryd.zeroValue2
  t3 := Tryd.underlying3
  a3 := Tryd.isAgg3
  z3 := Tryd.sizeOf3
  v3 := Tryd.zeroValue3
  t4 := Tryd.underlying4
  a4 := Tryd.isAgg4
  z4 := Tryd.sizeOf4
  v4 := Tryd.zeroValue4
  t5 := Tryd.underlying5
  a5 := Tryd.isAgg5
  z5 := Tryd.sizeOf5
  v5 := Tryd.zeroValue5
  t9 := Tryd.underlying9
  a9 := Tryd.isAgg9
  z9 := Tryd.sizeOf9
  v9 := Tryd.zeroValue9
  t20 := Tryd.underlying20
  a20 := Tryd.isAgg20
  z20 := Tryd.sizeOf20
  v20 := Tryd.zeroValue20
  t21 := Tryd.underlying21
  a21 := Tryd.isAgg21
  z21 := Tryd.sizeOf21
  v21 := Tryd.zeroValue21
  t37 := Tryd.underlying82
  a37 := Tryd.isAgg82
  z37 := Tryd.sizeOf82
  v37 := Tryd.zeroValue82
  t46 := Tryd.underlying122
  a46 := Tryd.isAgg122
  z46 := Tryd.sizeOf122
  v46 := Tryd.zeroValue122
  t51 := Tryd.underlying133
  a51 := Tryd.isAgg133
  z51 := Tryd.sizeOf133
  v51 := Tryd.zeroValue133
  t53 := Tryd.underlying106
  a53 := Tryd.isAgg106
  z53 := Tryd.sizeOf106
  v53 := Tryd.zeroValue106
  t75 := Tryd.underlying87
  a75 := Tryd.isAgg87
  z75 := Tryd.sizeOf87
  v75 := Tryd.zeroValue87
  t76 := Tryd.underlying88
  a76 := Tryd.isAgg88
  z76 := Tryd.sizeOf88
  v76 := Tryd.zeroValue88
  t85 := Tryd.underlying126
  a85 := Tryd.isAgg126
  z85 := Tryd.sizeOf126
  v85 := Tryd.zeroValue126
  t127 := Tryd.underlying101
  a127 := Tryd.isAgg101
  z127 := Tryd.sizeOf101
  v127 := Tryd.zeroValue101
  t143 := Tryd.underlying157
  a143 := Tryd.isAgg157
  z143 := Tryd.sizeOf157
  v143 := Tryd.zeroValue157
  t145 := Tryd.underlying159
  a145 := Tryd.isAgg159
  z145 := Tryd.sizeOf159
  v145 := Tryd.zeroValue159
  t167 := Tryd.underlying125
  a167 := Tryd.isAgg125
  z167 := Tryd.sizeOf125
  v167 := Tryd.zeroValue125
  t168 := Tryd.underlying128
  a168 := Tryd.isAgg128
  z168 := Tryd.sizeOf128
  v168 := Tryd.zeroValue128
  t171 := Tryd.underlying105
  a171 := Tryd.isAgg105
  z171 := Tryd.sizeOf105
  v171 := Tryd.zeroValue105
  t173 := Tryd.underlying109
  a173 := Tryd.isAgg109
  z173 := Tryd.sizeOf109
  v173 := Tryd.zeroValue109
  t175 := Tryd.underlying142
  a175 := Tryd.isAgg142
  z175 := Tryd.sizeOf142
  v175 := Tryd.zeroValue142
  t210 := Tryd.underlying145
  a210 := Tryd.isAgg145
  z210 := Tryd.sizeOf145
  v210 := Tryd.zeroValue145
  t212 := Tryd.underlying132
  a212 := Tryd.isAgg132
  z212 := Tryd.sizeOf132
  v212 := Tryd.zeroValue132
  t213 := Tryd.underlying134
  a213 := Tryd.isAgg134
  z213 := Tryd.sizeOf134
  t232 := Tryd.underlying160
  a232 := Tryd.isAgg160
  z232 := Tryd.sizeOf160
  v232 := Tryd.zeroValue160
  t233 := Tryd.underlying161
  a233 := Tryd.isAgg161
  z233 := Tryd.sizeOf161
  v233 := Tryd.zeroValue161
  g15 := by kernel_rfl
  g16 := by kernel_rfl
  g17 := by kernel_rfl
  g18 := by kernel_rfl
  g19 := by kernel_rfl }
open Go.RowKit in
/-- strconv.Atoi: "Atoi is equivalent to ParseInt(s, 10, 0), converted to type int.": AT A DECIMAL NUMERAL OF AT MOST 18 BYTES: its value, and a nil error. The world behind the call: the one new row that the library's '[]byte(s)' lays. (LAID: no walk: one application.) -/
theorem Tryd.strconv_Atoi (s : ByteArray) (n : Int) (hl : s.size ≤ 18) (h : Lib.atoi s.data.toList = some n) (w : World) :
    Calls Tryd.prog 65 #[.string s] w fun e w' => e = .returned (.tuple #[.int .i64 n, .nilIface]) ∧ ∃ t, w' = Lib.bytesWorld w 5 t := Any.strconv_Atoi Tryd.lays172 s n hl h w
end Go.Proofs

/- Walks: numbers out of texts, checksums verified, by the program. -/
namespace Go.Proofs.YtoebegdepnigbaaDoor
open Go.RowKit
set_option linter.unusedVariables false

/-- What is asked of the package-level variables. -/
structure Env (w : World) : Prop where
  tab : Tab w
  mx : ∃ m, w.cell? ⟨0, 0, none⟩ = some (.int .i64 m)
  sy : ∃ t p, w.cell? ⟨2, 0, none⟩ = some (.iface t p)
theorem Env.below {w w' : World} (h : Env w) (hb : Below w.heap.size w w') : Env w' := by
  obtain ⟨m, hm⟩ := h.mx
  obtain ⟨t, p, hs⟩ := h.sy
  exact ⟨h.tab.below hb, ⟨m, (bcell hb (World.block_lt_of_cell? w _ hm)).trans hm⟩, ⟨t, p, (bcell hb (World.block_lt_of_cell? w _ hs)).trans hs⟩⟩

set_option maxHeartbeats 400000 in
theorem formatInt_any (n : Int) (w : World) (ht : Tab w) :
    Calls Tryd.prog 66 #[.int .i64 n] w fun e w' => e = .returned (.tuple #[.string (if inB n (-999999) 999999 then numB n else ⟨#[]⟩), .bool (inB n (-999999) 999999)]) ∧ Below w.heap.size w w' := by
  have HI := Lib.hid (fun w => in_any n (-999999) 999999 w)
  have HB := Lib.hid (fun (h : inB n (-999999) 999999 = true) => itoaB_any n w (by simp only [inB, Bool.and_eq_true, decide_eq_true_eq] at h; omega) (by simp only [inB, Bool.and_eq_true, decide_eq_true_eq] at h; omega) ht)
  cases h : inB n (-999999) 999999
  all_goals rw [h] at HI
  case false =>
    clear h
    go_enter Tryd.func66, Tryd.ntmps66
    go_wp2_with fail
    refine (HI.out _).mono ?_
    rintro e w1 ⟨rfl, rfl⟩
    go_wp2
    go_ret2
    exact ⟨rfl, Below.refl _ _⟩
  have HC := Lib.hid (HB.out h)
  clear h
  go_enter Tryd.func66, Tryd.ntmps66
  go_wp2_with fail
  refine (HI.out _).mono ?_
  rintro e w1 ⟨rfl, rfl⟩
  go_wp2_with fail
  refine HC.out.mono ?_
  rintro e w1 ⟨rfl, hb⟩
  have HB1 := Lib.hid hb; clear hb
  go_wp2
  go_ret2
  exact ⟨rfl, HB1.out⟩

/-- What reading a number says. -/
def RdNum (s : ByteArray) (n : Int) (ok : Bool) : Prop := (-999999 ≤ n ∧ n ≤ 999999) ∧ ∀ k : Nat, k ≤ 999999 → bs s = Lib.decDigits k → n = k ∧ ok = true
theorem atoi_err_any (s : ByteArray) (w : World) (hl : s.size ≤ 18) (h : Lib.atoi (bs s) = none) (he : Env w) :
    Calls Tryd.prog 65 #[.string s] w fun e w' => ∃ t p, e = .returned (.tuple #[.int .i64 0, .iface t p]) ∧ Below w.heap.size w w' := by
  obtain ⟨t, p, hs⟩ := he.sy
  refine (Tryd.strconv_Atoi_err s hl h _ w hs (.inr ⟨t, p, rfl⟩)).mono ?_
  rintro e w' ⟨N, rfl, _, _, hb⟩
  exact ⟨_, _, rfl, hb⟩
theorem atoi_ok_any (s : ByteArray) (n : Int) (w : World) (hl : s.size ≤ 18) (h : Lib.atoi (bs s) = some n) :
    Calls Tryd.prog 65 #[.string s] w fun e w' => e = .returned (.tuple #[.int .i64 n, .nilIface]) ∧ Below w.heap.size w w' := by
  refine (Tryd.strconv_Atoi s n hl h w).mono ?_
  rintro e w' ⟨rfl, t, rfl⟩
  exact ⟨rfl, Lib.bytesWorld_below _ _ _⟩

def PiEnd (s : ByteArray) (w : World) (e : Ending) (w' : World) : Prop := ∃ (n : Int) (ok : Bool), e = .returned (.tuple #[.int .i64 n, .bool ok]) ∧ RdNum s n ok ∧ Below w.heap.size w w'
set_option maxRecDepth 100000 in
set_option maxHeartbeats 2000000 in
theorem parseInt_any (s : ByteArray) (w : World) (he : Env w) :
    Calls Tryd.prog 49 #[.string s] w (PiEnd s w) := by
  by_cases hs : s.size ≤ 7
  case neg =>
    have HR : Hid (RdNum s 0 false) := ⟨by omega, fun k hk hd => by
      have := Tx.digits_len 5 k (by omega)
      rw [← hd, bs_len] at this; omega⟩
    have q : decide ((7 : Int) < (s.size : Int)) = true := decide_eq_true (by omega)
    go_enter Tryd.func49, Tryd.ntmps49
    go_wp2
    go_ret2
    exact ⟨0, false, rfl, HR.out, Below.refl _ _⟩
  have q : decide ((7 : Int) < (s.size : Int)) = false := decide_eq_false (by omega)
  have HE := Lib.hid he
  cases ha : Lib.atoi (bs s) with
  | none =>
    have HR : Hid (RdNum s 0 false) := ⟨by omega, fun k hk hd => by
      have := Cf.atoi_digits k
      rw [← hd, ha] at this; cases this⟩
    have HA := Lib.hid (atoi_err_any s w (by omega) ha he)
    have HF := Lib.hid (fun w ht => formatInt_any 0 w ht)
    clear ha he
    go_enter Tryd.func49, Tryd.ntmps49
    go_wp2_with fail
    refine HA.out.mono ?_
    rintro e w1 ⟨t, p, rfl, hb⟩
    have HB := Lib.hid hb
    have HT := Lib.hid (HE.out.tab.below hb)
    clear hb
    go_wp2_with fail
    refine (HF.out _ HT.out).mono ?_
    rintro e w2 ⟨rfl, hb⟩
    have HB2 := Lib.hid (below_trI HB.out hb HB.out.size)
    clear hb
    go_wp2
    go_ret2
    exact ⟨0, false, rfl, HR.out, HB2.out⟩
  | some n =>
    have HA := Lib.hid (atoi_ok_any s n w (by omega) ha)
    have HF := Lib.hid (fun w ht => formatInt_any n w ht)
    cases hin : inB n (-999999) 999999
    all_goals rw [hin] at HF
    case false =>
      have HR : Hid (RdNum s 0 false) := ⟨by omega, fun k hk hd => by
        have := Cf.atoi_digits k
        rw [← hd, ha] at this
        injection this with this
        subst this
        simp [inB] at hin; omega⟩
      clear ha he hin
      go_enter Tryd.func49, Tryd.ntmps49
      go_wp2_with fail
      refine HA.out.mono ?_
      rintro e w1 ⟨rfl, hb⟩
      have HB := Lib.hid hb
      have HT := Lib.hid (HE.out.tab.below hb)
      clear hb
      go_wp2_with fail
      refine (HF.out _ HT.out).mono ?_
      rintro e w2 ⟨rfl, hb⟩
      have HB2 := Lib.hid (below_trI HB.out hb HB.out.size)
      clear hb
      go_wp2
      go_ret2
      exact ⟨0, false, rfl, HR.out, HB2.out⟩
    have hrng : -999999 ≤ n ∧ n ≤ 999999 := by simp only [inB, Bool.and_eq_true, decide_eq_true_eq] at hin; omega
    have HRt : Hid (((numB n).toList == s.toList) = true → RdNum s n true) := fun hq => ⟨hrng, fun k hk hd => by
      have := Cf.atoi_digits k
      rw [← hd, ha] at this
      injection this with this
      exact ⟨this, rfl⟩⟩
    have HRf : Hid (((numB n).toList == s.toList) = false → RdNum s 0 false) := fun hq => ⟨by omega, fun k hk hd => by
      exfalso
      have := Cf.atoi_digits k
      rw [← hd, ha] at this
      injection this with this
      have e : numB n = s := by
        unfold numB
        rw [← ba_bs s, hd, this, itoa_nat]
      rw [e] at hq
      simp at hq⟩
    clear ha he hin hrng
    cases hq : ((numB n).toList == s.toList)
    case false =>
      have HR := Lib.hid (HRf.out hq)
      have hq2 : (!((numB n).toList == s.toList)) = true := by rw [hq]; rfl
      clear HRt HRf
      go_enter Tryd.func49, Tryd.ntmps49
      go_wp2_with fail
      refine HA.out.mono ?_
      rintro e w1 ⟨rfl, hb⟩
      have HB := Lib.hid hb
      have HT := Lib.hid (HE.out.tab.below hb)
      clear hb
      go_wp2_with fail
      refine (HF.out _ HT.out).mono ?_
      rintro e w2 ⟨rfl, hb⟩
      have HB2 := Lib.hid (below_trI HB.out hb HB.out.size)
      clear hb
      go_wp2
      go_ret2
      exact ⟨0, false, rfl, HR.out, HB2.out⟩
    · have HR := Lib.hid (HRt.out hq)
      have hq2 : (!((numB n).toList == s.toList)) = false := by rw [hq]; rfl
      clear HRt HRf
      go_enter Tryd.func49, Tryd.ntmps49
      go_wp2_with fail
      refine HA.out.mono ?_
      rintro e w1 ⟨rfl, hb⟩
      have HB := Lib.hid hb
      have HT := Lib.hid (HE.out.tab.below hb)
      clear hb
      go_wp2_with fail
      refine (HF.out _ HT.out).mono ?_
      rintro e w2 ⟨rfl, hb⟩
      have HB2 := Lib.hid (below_trI HB.out hb HB.out.size)
      clear hb
      go_wp2
      go_ret2
      exact ⟨n, true, rfl, HR.out, HB2.out⟩

set_option maxHeartbeats 400000 in
theorem checksum_big (s : ByteArray) (w : World) (hs : ¬ s.size ≤ 4000) :
    Calls Tryd.prog 56 #[.string s] w fun e w' => e = .returned (.tuple #[.int .i64 0, .bool false]) ∧ w = w' := by
  have q : decide ((4000 : Int) < (s.size : Int)) = true := decide_eq_true (by omega)
  go_enter Tryd.func56, Tryd.ntmps56
  go_wp2
  go_ret2
  exact ⟨rfl, rfl⟩

/-- 'AppendChecksum' of any text without the sign. -/
def acOk (s : ByteArray) : Bool := decide (s.size ≤ 4000) && decide ((Tx.sealL (bs s)).length ≤ 4000)
def acV (s : ByteArray) : ByteArray := if acOk s then ba (Tx.sealL (bs s)) else ⟨#[]⟩
set_option maxRecDepth 100000 in
set_option maxHeartbeats 2000000 in
theorem appendChecksum_any (s : ByteArray) (w : World) (hs : s.size ≤ 4000000) (hn : (35 : UInt8) ∉ bs s) (ht : Tab w) :
    Calls Tryd.prog 35 #[.string s] w fun e w' => e = .returned (.tuple #[.string (acV s), .bool (acOk s)]) ∧ Below w.heap.size w w' := by
  have e4 : decide (0 ≤ Lib.indexByte s.data.toList 35) = false := by
    rw [show decide (0 ≤ Lib.indexByte s.data.toList 35) = decide ((35 : UInt8) ∈ bs s) from Tx.indexByte_mem 35 (bs s)]; exact decide_eq_false hn
  have hc := fun w => Tryd.strings_Contains_one s 35 w
  rw [e4] at hc
  have HC := Lib.hid hc; clear hc e4
  have h35 : (ByteArray.mk #[35]).size = 1 := rfl
  have a1 := add_runs (P := Tryd.prog) (a := s) (b := ⟨#[35]⟩) (by omega) (by decide)
  by_cases hbig : s.size ≤ 4000
  case neg =>
    have HS := Lib.hid (checksum_big s w hbig)
    have HN := Lib.hid (itoaB_any 0 w (by omega) (by omega) ht)
    have h20 : (numB 0).size ≤ 20 := numB_size (by omega) (by omega)
    have a2 := add_runs (P := Tryd.prog) (a := s ++ ⟨#[35]⟩) (b := numB 0) (by rw [size_add]; omega) (by omega)
    have HE : Hid (acOk s = false ∧ acV s = ⟨#[]⟩) := by
      have e : acOk s = false := by unfold acOk; rw [decide_eq_false hbig]; rfl
      exact ⟨e, by unfold acV; rw [e]; rfl⟩
    clear h35 hbig
    go_enter Tryd.func35, Tryd.ntmps35
    go_wp2_with fail
    refine HS.out.mono ?_
    rintro e w' ⟨rfl, rfl⟩
    go_wp2_with fail
    refine HN.out.mono ?_
    rintro e w1 ⟨rfl, hb⟩
    have HB := Lib.hid hb; clear hb
    go_wp2
    go_ret2
    exact ⟨ret_v2 (by rw [HE.out.2] <;> rfl) (by rw [HE.out.1] <;> rfl), HB.out⟩
  have h1 := Tx.sumL_lt (bs s)
  have HS := Lib.hid (checksum_ok s w hbig)
  have HN := Lib.hid (itoaB_any (Tx.sumL (bs s) : Nat) w (by omega) (by omega) ht)
  have h20 : (numB (Tx.sumL (bs s) : Nat)).size ≤ 20 := numB_size (by omega) (by omega)
  have a2 := add_runs (P := Tryd.prog) (a := s ++ ⟨#[35]⟩) (b := numB (Tx.sumL (bs s) : Nat)) (by rw [size_add]; omega) (by omega)
  obtain ⟨t, ht'⟩ : ∃ t : ByteArray, s ++ ⟨#[35]⟩ ++ numB (Tx.sumL (bs s) : Nat) = t := ⟨_, rfl⟩
  have hbt : bs t = Tx.sealL (bs s) := by
    rw [← ht', bs_add, bs_add]
    show bs s ++ [35] ++ Lib.itoa ((Tx.sumL (bs s) : Nat) : Int) = bs s ++ 35 :: Lib.decDigits (Tx.sumL (bs s))
    rw [itoa_nat]; simp
  rw [ht'] at a2
  have HA : Hid (acOk s = decide (t.size ≤ 4000)) := by
    show _ = _
    unfold acOk
    rw [decide_eq_true hbig, ← hbt, bs_len]; rfl
  have HV : Hid (t.size ≤ 4000 → acV s = t) := fun h => by
    unfold acV
    rw [HA.out, decide_eq_true h, if_pos rfl, ← hbt, ba_bs]
  have HV0 : Hid (¬ t.size ≤ 4000 → acV s = ⟨#[]⟩) := fun h => by
    unfold acV
    rw [HA.out, decide_eq_false h]; rfl
  clear h35 ht' hbt h1
  by_cases hq : t.size ≤ 4000
  · have q : decide ((4000 : Int) < (t.size : Int)) = false := decide_eq_false (by omega)
    have HA2 : Hid (acOk s = true) := HA.out.trans (decide_eq_true hq)
    have HV2 := Lib.hid (HV.out hq)
    clear HV HV0 HA
    go_enter Tryd.func35, Tryd.ntmps35
    go_wp2_with fail
    refine HS.out.mono ?_
    rintro e w' ⟨rfl, rfl⟩
    go_wp2_with fail
    refine HN.out.mono ?_
    rintro e w1 ⟨rfl, hb⟩
    have HB := Lib.hid hb; clear hb
    go_wp2_with fail
    refine (HC.out _).mono ?_
    rintro e w' ⟨rfl, rfl⟩
    go_wp2
    go_ret2
    exact ⟨ret_v2 (by rw [HV2.out] <;> rfl) (by rw [HA2.out] <;> rfl), HB.out⟩
  · have q : decide ((4000 : Int) < (t.size : Int)) = true := decide_eq_true (by omega)
    have HA2 : Hid (acOk s = false) := HA.out.trans (decide_eq_false hq)
    have HV2 := Lib.hid (HV0.out hq)
    clear HV HV0 HA
    go_enter Tryd.func35, Tryd.ntmps35
    go_wp2_with fail
    refine HS.out.mono ?_
    rintro e w' ⟨rfl, rfl⟩
    go_wp2_with fail
    refine HN.out.mono ?_
    rintro e w1 ⟨rfl, hb⟩
    have HB := Lib.hid hb; clear hb
    go_wp2_with fail
    refine (HC.out _).mono ?_
    rintro e w' ⟨rfl, rfl⟩
    go_wp2
    go_ret2
    exact ⟨ret_v2 (by rw [HV2.out] <;> rfl) (by rw [HA2.out] <;> rfl), HB.out⟩

theorem cut_any (s sep : ByteArray) (w : World) (hs : s.size ≤ 4000000) (he : Env w) :
    Calls Tryd.prog 47 #[.string s, .string sep] w fun e w' => e = .returned (.tuple #[.string (ba (Lib.cut (bs s) (bs sep)).1), .string (ba (Lib.cut (bs s) (bs sep)).2.1), .bool (Lib.cut (bs s) (bs sep)).2.2]) ∧ Below w.heap.size w w' := by
  obtain ⟨m, hm⟩ := he.mx
  refine (Tryd.strings_Cut s sep m w (by omega) hm).mono ?_
  rintro e w' ⟨rfl, n, rfl⟩
  exact ⟨rfl, below_drewN (Below.refl _ _) _⟩

/-- What verifying a checksum says. -/
def Vf (s t : ByteArray) (ok : Bool) : Prop := t.size ≤ s.size ∧ ∀ l : List UInt8, (35 : UInt8) ∉ l → l.length ≤ 3000 → bs s = Tx.sealL l → bs t = l ∧ ok = true
def VcEnd (s : ByteArray) (w : World) (e : Ending) (w' : World) : Prop := ∃ (t : ByteArray) (ok : Bool), e = .returned (.tuple #[.string t, .bool ok]) ∧ Vf s t ok ∧ Below w.heap.size w w'
set_option maxRecDepth 100000 in
set_option maxHeartbeats 2000000 in
theorem verifyChecksum_any (s : ByteArray) (w : World) (hs : s.size ≤ 4000000) (he : Env w) :
    Calls Tryd.prog 46 #[.string s] w (VcEnd s w) := by
  have hcut : (Lib.cut (bs s) (bs ⟨#[35]⟩)).1 = Tx.upto 35 (bs s) := by
    show (Lib.cut (bs s) [35]).1 = _
    rw [Tx.cut_one]
  have HCU := Lib.hid (cut_any s ⟨#[35]⟩ w hs he)
  rw [hcut] at HCU
  have hn35 : (35 : UInt8) ∉ bs (ba (Tx.upto 35 (bs s))) := Tx.upto_not 35 (bs s)
  have hle : (ba (Tx.upto 35 (bs s))).size ≤ s.size := by rw [ba_size, ← bs_len]; exact Tx.upto_len 35 (bs s)
  have HU : Hid (∀ l : List UInt8, (35 : UInt8) ∉ l → bs s = Tx.sealL l → bs (ba (Tx.upto 35 (bs s))) = l) := fun l h1 h2 => by
    show Tx.upto 35 (bs s) = l
    rw [h2]; exact Tx.upto_app _ h1
  obtain ⟨t, ht⟩ : ∃ t, ba (Tx.upto 35 (bs s)) = t := ⟨_, rfl⟩
  rw [ht] at HCU hn35 hle HU
  generalize ba (Lib.cut (bs s) (bs ⟨#[35]⟩)).2.1 = u at HCU
  generalize (Lib.cut (bs s) (bs ⟨#[35]⟩)).2.2 = fd at HCU
  have HAC := Lib.hid (fun w ht => appendChecksum_any t w (by omega) hn35 ht)
  have HE := Lib.hid he
  have HG : Hid (∀ l : List UInt8, (35 : UInt8) ∉ l → l.length ≤ 3000 → bs s = Tx.sealL l → acOk t = true ∧ acV t = s) := fun l h1 h2 h3 => by
    have hb := HU.out l h1 h3
    have hl : (Tx.sealL l).length ≤ 4000 := by
      have := Tx.digits_len 5 (Tx.sumL l) (Nat.lt_trans (Tx.sumL_lt _) (by omega))
      unfold Tx.sealL
      simp only [List.length_append, List.length_cons]
      omega
    have e : acOk t = true := by
      unfold acOk
      rw [hb, decide_eq_true hl, decide_eq_true (show t.size ≤ 4000 by rw [← bs_len, hb]; omega)]; rfl
    exact ⟨e, by unfold acV; rw [e, if_pos rfl, hb, ← h3, ba_bs]⟩
  clear hcut hn35 ht he
  obtain ⟨v, hv⟩ : ∃ v, acV t = v := ⟨_, rfl⟩
  rw [hv] at HAC HG
  cases hok : acOk t
  all_goals rw [hok] at HAC HG
  case false =>
    have HR : Hid (Vf s ⟨#[]⟩ false) := ⟨Nat.zero_le _, fun l h1 h2 h3 => by have := (HG.out l h1 h2 h3).1; cases this⟩
    clear hv hok HG
    go_enter Tryd.func46, Tryd.ntmps46
    go_wp2_with fail
    refine HCU.out.mono ?_
    rintro e w1 ⟨rfl, hb⟩
    have HB := Lib.hid hb
    have HT := Lib.hid (HE.out.tab.below hb)
    clear hb
    go_wp2_with fail
    refine (HAC.out _ HT.out).mono ?_
    rintro e w2 ⟨rfl, hb⟩
    have HB2 := Lib.hid (below_trI HB.out hb HB.out.size)
    clear hb
    go_wp2
    go_ret2
    exact ⟨_, _, rfl, HR.out, HB2.out⟩
  cases hq : (v.toList == s.toList)
  case false =>
    have HR : Hid (Vf s ⟨#[]⟩ false) := ⟨Nat.zero_le _, fun l h1 h2 h3 => by
      have := (HG.out l h1 h2 h3).2
      rw [this] at hq; simp at hq⟩
    have hq2 : (!(v.toList == s.toList)) = true := by rw [hq]; rfl
    clear hv hok HG
    go_enter Tryd.func46, Tryd.ntmps46
    go_wp2_with fail
    refine HCU.out.mono ?_
    rintro e w1 ⟨rfl, hb⟩
    have HB := Lib.hid hb
    have HT := Lib.hid (HE.out.tab.below hb)
    clear hb
    go_wp2_with fail
    refine (HAC.out _ HT.out).mono ?_
    rintro e w2 ⟨rfl, hb⟩
    have HB2 := Lib.hid (below_trI HB.out hb HB.out.size)
    clear hb
    go_wp2
    go_ret2
    exact ⟨_, _, rfl, HR.out, HB2.out⟩
  have HR : Hid (Vf s t true) := ⟨hle, fun l h1 h2 h3 => ⟨HU.out l h1 h3, rfl⟩⟩
  have hq2 : (!(v.toList == s.toList)) = false := by rw [hq]; rfl
  clear hv hok HG
  go_enter Tryd.func46, Tryd.ntmps46
  go_wp2_with fail
  refine HCU.out.mono ?_
  rintro e w1 ⟨rfl, hb⟩
  have HB := Lib.hid hb
  have HT := Lib.hid (HE.out.tab.below hb)
  clear hb
  go_wp2_with fail
  refine (HAC.out _ HT.out).mono ?_
  rintro e w2 ⟨rfl, hb⟩
  have HB2 := Lib.hid (below_trI HB.out hb HB.out.size)
  clear hb
  go_wp2
  go_ret2
  exact ⟨_, _, rfl, HR.out, HB2.out⟩

end Go.Proofs.YtoebegdepnigbaaDoor

/- Walks: a certificate out of its text, by the program. -/
namespace Go.Proofs.YtoebegdepnigbaaDoor
open Go.RowKit
set_option linter.unusedVariables false

theorem fcOk_parts {rs : List (Int × Int)} {cs : List Int} (h : fcOk rs cs = true) : okRecs rs = true ∧ cs.length = rs.length ∧ okPerm cs = true := by
  unfold fcOk at h
  simp only [Bool.and_eq_true, decide_eq_true_eq] at h
  exact ⟨h.1.1, h.1.2, h.2⟩
theorem fcText_inj {rs : List (Int × Int)} {c1 c2 : List Int} (h1 : fcOk rs c1 = true) (h2 : fcOk rs c2 = true) (h : fcText rs c1 = fcText rs c2) : c1 = c2 := by
  refine Cf.text_inj (n := rs.length) (k := (fprint (keysL rs) 7).toNat) (fun x hx => (perm_range (fcOk_parts h1).2.2 x hx).1) (fun x hx => (perm_range (fcOk_parts h2).2.2 x hx).1) ?_
  have := congrArg bs h
  exact this
/-- What reading a certificate answers. -/
def PAns (rs : List (Int × Int)) (s : ByteArray) (out : List Int) (ok : Bool) : Prop :=
  (ok = true ∧ fcOk rs out = true ∧ fcText rs out = s) ∨ (ok = false ∧ out = [] ∧ ∀ cs, fcOk rs cs = true → fcText rs cs ≠ s)
theorem PAns.unique {rs : List (Int × Int)} {s : ByteArray} {o1 o2 : List Int} {k1 k2 : Bool} (h1 : PAns rs s o1 k1) (h2 : PAns rs s o2 k2) : o1 = o2 ∧ k1 = k2 := by
  rcases h1 with ⟨rfl, a1, b1⟩ | ⟨rfl, rfl, c1⟩ <;> rcases h2 with ⟨rfl, a2, b2⟩ | ⟨rfl, rfl, c2⟩
  · exact ⟨fcText_inj a1 a2 (b1.trans b2.symm), rfl⟩
  · exact absurd b1 (c2 _ a1)
  · exact absurd b2 (c1 _ a2)
  · exact ⟨rfl, rfl⟩
theorem PAns.len {rs : List (Int × Int)} {s : ByteArray} {o : List Int} {k : Bool} (h : PAns rs s o k) : o.length ≤ 64 := by
  rcases h with ⟨_, h, _⟩ | ⟨_, rfl, _⟩
  · exact okPerm_len (fcOk_parts h).2.2
  · simp
theorem own_none (w : World) (base : Nat) (e : TypeId) (size : Nat) : w.ownsRow base e size (.slice none 0 0) 0 [] := ⟨by simp, .inl ⟨rfl, rfl⟩⟩
theorem below_newI (w : World) (o : Obj) : Below w.heap.size w (w.alloc o) := (Below.refl _ _).alloc (Nat.le_refl _) _
theorem size_alI (w : World) (o : Obj) : (w.alloc o).heap.size = w.heap.size + 1 := by simp
def PcEnd (rs : List (Int × Int)) (s : ByteArray) (w : World) (e : Ending) (w' : World) : Prop :=
  ∃ (a : Option Addr) (c : Nat) (out : List Int) (ok : Bool), e = .returned (.tuple #[.slice a out.length c, .bool ok]) ∧ w'.ownsRow w.heap.size 3 1 (.slice a out.length c) out.length (out.map (Value.int .i64)) ∧ PAns rs s out ok ∧ Below w.heap.size w w'
theorem text_facts {rs : List (Int × Int)} {cs : List Int} {s : ByteArray} (h : fcOk rs cs = true) (hs : fcText rs cs = s) :
    ∃ l, (35 : UInt8) ∉ l ∧ l.length ≤ 3000 ∧ bs s = Tx.sealL l ∧ (Lib.cut l [32, 111, 114, 100, 101, 114, 32]).2.1 = Cf.ordT cs ∧ l = Cf.bodyC rs.length (fprint (keysL rs) 7).toNat cs := by
  obtain ⟨h1, h2, h3⟩ := fcOk_parts h
  have hb := fprint_bound 7 (keysL rs)
  have h64 := recs_len64 h1
  exact ⟨_, Cf.body_no35 rs.length (fprint (keysL rs) 7).toNat cs, Cf.body_len (by omega) (by omega) (ordT_len h3), by rw [← hs]; rfl, Cf.cut_body _ _ _, rfl⟩

/-- The pieces stand in a block. -/
structure PcAt (B : Nat) (L : List ByteArray) (w : World) : Prop where
  lt : B < w.heap.size
  at_ : ∀ j x, L[j]? = some x → w.cell? ⟨B, j, none⟩ = some (.string x)
theorem PcAt.next {B : Nat} {L : List ByteArray} {w w' : World} (h : PcAt B L w) (hb : Below w.heap.size w w') : PcAt B L w' :=
  ⟨Nat.lt_of_lt_of_le h.lt hb.size, fun j x hx => (bcell hb h.lt).trans (h.at_ j x hx)⟩
theorem PcAt.grown {B : Nat} {L : List ByteArray} {w w' : World} {row : Option Nat} (h : PcAt B L w) (hg : w.grownBy w' row) (hne : row ≠ some B) : PcAt B L w' := by
  have hk := hg.block B h.lt (fun e => hne e.symm)
  exact ⟨Nat.lt_of_lt_of_le h.lt hg.size, fun j x hx => by
    have := h.at_ j x hx
    simp only [World.cell?] at this ⊢
    rw [hk]; exact this⟩

set_option maxRecDepth 100000 in
set_option maxHeartbeats 8000000 in
theorem parseCertificate_any (s : ByteArray) (a : Option Addr) (c : Nat) (rs : List (Int × Int)) (w : World) (hs : s.size ≤ 1048576) (hl1 : rs.length ≤ 9223372036854775807) (he : Env w) (hR : RecsAt w a rs) :
    Calls Tryd.prog 19 #[.string s, .slice a rs.length c] w (PcEnd rs s w) := by
  have HV := Lib.hid (verifyChecksum_any s w (by omega) he)
  have HE := Lib.hid he
  have HR := Lib.hid hR
  clear he hR
  go_enter Tryd.func19, Tryd.ntmps19
  go_wp2_with fail
  refine HV.out.mono ?_
  rintro e w1 ⟨t, ok0, rfl, ⟨hts, hvf⟩, hb⟩
  have HB1 := Lib.hid hb
  have HVF := Lib.hid hvf
  clear hb hvf HV
  have HC := Lib.hid (cut_any t ⟨#[32, 111, 114, 100, 101, 114, 32]⟩ w1 (by omega) (HE.out.below HB1.out))
  have HORD : Hid (∀ cs, fcOk rs cs = true → fcText rs cs = s → ok0 = true ∧ (Lib.cut (bs t) [32, 111, 114, 100, 101, 114, 32]).2.1 = Cf.ordT cs) := fun cs h1 h2 => by
    obtain ⟨l, l1, l2, l3, l4, _⟩ := text_facts h1 h2
    obtain ⟨e1, e2⟩ := HVF.out l l1 l2 l3
    rw [e1]
    exact ⟨e2, l4⟩
  have hol : (ba (Lib.cut (bs t) (bs ⟨#[32, 111, 114, 100, 101, 114, 32]⟩)).2.1).size ≤ 1048576 := by
    rw [ba_size]
    have h1 := bs_len t
    unfold Lib.cut
    split
    · simp only [List.length_drop]; omega
    · simp
  have hord : bs (ba (Lib.cut (bs t) (bs ⟨#[32, 111, 114, 100, 101, 114, 32]⟩)).2.1) = (Lib.cut (bs t) [32, 111, 114, 100, 101, 114, 32]).2.1 := rfl
  obtain ⟨o, ho⟩ : ∃ o, ba (Lib.cut (bs t) (bs ⟨#[32, 111, 114, 100, 101, 114, 32]⟩)).2.1 = o := ⟨_, rfl⟩
  rw [ho] at HC hord hol
  rw [← hord] at HORD
  generalize ba (Lib.cut (bs t) (bs ⟨#[32, 111, 114, 100, 101, 114, 32]⟩)).1 = hd at HC
  generalize (Lib.cut (bs t) (bs ⟨#[32, 111, 114, 100, 101, 114, 32]⟩)).2.2 = fd at HC
  clear ho hord HVF
  go_wp2_with fail
  refine HC.out.mono ?_
  rintro e w2 ⟨rfl, hb⟩
  have HB2 := Lib.hid (below_trI HB1.out hb HB1.out.size)
  clear hb HC HB1
  have HBASE : Hid (w.heap.size ≤ w2.heap.size) := HB2.out.size
  have E1 := Lib.hid (own_lit (w := w2) (e := 3) (size := 1) #[] 0 (by omega) rfl)
  have HB3 := Lib.hid (below_trI HB2.out (below_newI w2 (.cells #[] 3)) HB2.out.size)
  have HE3 := Lib.hid (HE.out.below HB3.out)
  by_cases hbar : bs o = [45]
  · have q1 : (!(o.toList == [45])) = false := by rw [bs_toList, hbar]; rfl
    have HALL : Hid (∀ cs, fcOk rs cs = true → fcText rs cs = s → ([] : List Int) = cs ∧ ok0 = true) := fun cs h1 h2 => by
      obtain ⟨e1, e2⟩ := HORD.out cs h1 h2
      rw [hbar] at e2
      exact ⟨((Cf.ord_bar (fun x hx => (perm_range (fcOk_parts h1).2.2 x hx).1)).1 e2.symm).symm, e1⟩
    clear hbar HORD
    have HO : Hid ((w2.alloc (.cells #[] 3)).ownsRow w2.heap.size 3 1 (.slice (some ⟨w2.heap.size, 0, none⟩) 0 0) ([] : List Int).length (([] : List Int).map (Value.int .i64))) := E1.out
    have HB := HB3
    have HFC := Lib.hid (formatCertificate_any a c rs (some ⟨w2.heap.size, 0, none⟩) (0) [] (w2.alloc (.cells #[] 3)) hl1 (by simp) (HE.out.below HB.out).tab (HR.out.below (Nat.le_refl _) HB.out) (ownInts HO.out))
    rw [show ([] : List Int).length = 0 from rfl] at HFC
    unfold FfEnd at HFC
    obtain ⟨tx, htx⟩ : ∃ tx, (if fcOk rs [] = true then fcText rs [] else ⟨#[]⟩) = tx := ⟨_, rfl⟩
    rw [htx] at HFC
    have HTX : Hid (fcOk rs [] = true → tx = fcText rs []) := fun h => by rw [← htx, if_pos h]
    clear htx
    cases ok0
    case false =>
      have HP : Hid (PAns rs s [] false) := .inr ⟨rfl, rfl, fun cs h1 h2 => by have := (HALL.out cs h1 h2).2; cases this⟩
      go_wp2_with fail
      refine HFC.out.mono ?_
      rintro e w5 ⟨rfl, hb5⟩
      have HB5 := Lib.hid (below_trI HB.out hb5 HB.out.size)
      clear hb5
      go_wp2
      go_ret2
      exact ⟨none, 0, [], false, rfl, own_none _ _ _ _, HP.out, HB5.out⟩
    cases hfo : fcOk rs []
    all_goals rw [hfo] at HFC
    case true.false =>
      have HP : Hid (PAns rs s [] false) := .inr ⟨rfl, rfl, fun cs h1 h2 => by have := (HALL.out cs h1 h2).1; rw [← this, hfo] at h1; cases h1⟩
      clear hfo
      go_wp2_with fail
      refine HFC.out.mono ?_
      rintro e w5 ⟨rfl, hb5⟩
      have HB5 := Lib.hid (below_trI HB.out hb5 HB.out.size)
      clear hb5
      go_wp2
      go_ret2
      exact ⟨none, 0, [], false, rfl, own_none _ _ _ _, HP.out, HB5.out⟩
    have HX := Lib.hid (HTX.out hfo)
    cases hq : (tx.toList == s.toList)
    case true.true.false =>
      have HP : Hid (PAns rs s [] false) := .inr ⟨rfl, rfl, fun cs h1 h2 => by
        have := (HALL.out cs h1 h2).1
        rw [HX.out, this, h2] at hq
        simp at hq⟩
      have hq2 : (!(tx.toList == s.toList)) = true := by rw [hq]; rfl
      clear hfo
      go_wp2_with fail
      refine HFC.out.mono ?_
      rintro e w5 ⟨rfl, hb5⟩
      have HB5 := Lib.hid (below_trI HB.out hb5 HB.out.size)
      clear hb5
      go_wp2
      go_ret2
      exact ⟨none, 0, [], false, rfl, own_none _ _ _ _, HP.out, HB5.out⟩
    have HP : Hid (PAns rs s [] true) := .inl ⟨rfl, hfo, by
      rw [← HX.out, ← ba_bs s, ← ba_bs tx]
      rw [beq_iff_eq, bs_toList, bs_toList] at hq
      rw [hq]⟩
    have hq2 : (!(tx.toList == s.toList)) = false := by rw [hq]; rfl
    clear hfo
    go_wp2_with fail
    refine HFC.out.mono ?_
    rintro e w5 ⟨rfl, hb5⟩
    have HB5 := Lib.hid (below_trI HB.out hb5 HB.out.size)
    have HO5 := Lib.hid (own_below HO.out (Nat.le_refl _) hb5)
    clear hb5
    go_wp2
    go_ret2
    exact ⟨some ⟨w2.heap.size, 0, none⟩, 0, [], true, rfl, own_mono HO5.out HBASE.out, HP.out, HB5.out⟩
  · have q1 : (!(o.toList == [45])) = true := by rw [bs_toList, beq_eq_false_iff_ne.2 hbar]; rfl
    obtain ⟨m, hm⟩ := HE3.out.mx
    have HSP := Lib.hid (Tryd.strings_Split o ⟨#[44]⟩ m (w2.alloc (.cells #[] 3)) (by omega) hm (by decide))
    have hcle := Lib.countB_le ⟨#[44]⟩ (by decide) o.size o (Nat.le_refl _)
    have hLl := Lib.splitB_all ⟨#[44]⟩ (by decide) 0 _ o rfl
    have hLd := Lib.splitB_data ⟨#[44]⟩ 0 (Lib.countB o ⟨#[44]⟩) o
    obtain ⟨L, hL⟩ : ∃ L, Lib.splitB ⟨#[44]⟩ 0 (Lib.countB o ⟨#[44]⟩) o = L := ⟨_, rfl⟩
    rw [hL] at HSP hLl hLd
    rw [← hLl] at HSP
    have HPC : Hid (∀ cs, fcOk rs cs = true → fcText rs cs = s → ok0 = true ∧ L.map bs = cs.map Lib.itoa) := fun cs h1 h2 => by
      obtain ⟨e1, e2⟩ := HORD.out cs h1 h2
      refine ⟨e1, ?_⟩
      have hne : cs ≠ [] := fun e => hbar (by rw [e2, (Cf.ord_bar (fun x hx => (perm_range (fcOk_parts h1).2.2 x hx).1)).2 e])
      have h3 : L.map bs = Lib.split (bs o) [44] := hLd
      rw [h3, e2, Cf.split_ord hne]
    have hn40 : L.length ≤ 1048577 := by omega
    clear hbar HORD hm hL hLd hLl hcle
    go_wp2_with fail
    refine HSP.out.mono ?_
    rintro e w4 ⟨rfl, hw4⟩
    have HPA : Hid (PcAt (w2.heap.size + 1) L w4) := by
      rw [hw4]
      refine ⟨by simp, fun j x hx => ?_⟩
      have h1 := alloc_cell (w := w2.alloc (.cells #[] 3)) (cs := (L.map Value.string).toArray) (t := 9) j
      rw [size_alI] at h1
      rw [h1]; simp [hx]
    have HB4 : Hid (Below w.heap.size w w4) := by rw [hw4]; exact below_trI HB3.out (below_newI _ _) HB3.out.size
    have HO4 : Hid (w4.ownsRow w2.heap.size 3 1 (.slice (some ⟨w2.heap.size, 0, none⟩) 0 0) 0 []) := by rw [hw4]; exact own_below E1.out (Nat.le_refl _) (below_newI _ _)
    clear hw4 HSP E1 HE3 HB3
    go_wp2_with fail
    go_loopw [7, 11, 35] (fun okv ov iv wr => ∃ (k : Nat) (outs : List Int) (okb : Bool), k ≤ L.length ∧ okv = .bool okb ∧ iv = .int .i64 k ∧ outs.length = k ∧ Hid (∀ cs, fcOk rs cs = true → fcText rs cs = s → outs = cs.take k ∧ okb = true) ∧
        wr.ownsRow w2.heap.size 3 1 ov outs.length (outs.map (Value.int .i64)) ∧ ov.ownBlock ≠ some (w2.heap.size + 1) ∧ PcAt (w2.heap.size + 1) L wr ∧ Below w.heap.size w wr) (fun _ _ iv _ => L.length - (intOf iv).toNat)
    case atStart => exact ⟨0, [], ok0, by omega, rfl, rfl, rfl, Lib.hid (fun cs h1 h2 => ⟨by simp, (HPC.out cs h1 h2).1⟩), HO4.out, by simp [Value.ownBlock], HPA.out, HB4.out⟩
    case round =>
      obtain ⟨k, outs, okb, hk, rfl, rfl, hok, HALLk, hown, hne, hpa, hb⟩ := hrel
      clear HO4 HPA HB4
      have HO := Lib.hid hown
      have HNE := Lib.hid hne
      have HPA := Lib.hid hpa
      have HB := Lib.hid hb
      clear hown hne hpa hb
      by_cases hlt : k < L.length
      · have hc1 := HPA.out.at_ k L[k] (List.getElem?_eq_getElem hlt)
        have HPI := Lib.hid (parseInt_any L[k] wr (HE.out.below HB.out))
        have HLK : Hid (∀ cs : List Int, L.map bs = cs.map Lib.itoa → ∃ hk2 : k < cs.length, bs L[k] = Lib.itoa cs[k]) := fun cs h => by
          have hlen := congrArg List.length h
          simp only [List.length_map] at hlen
          have hk2 : k < cs.length := by omega
          refine ⟨hk2, ?_⟩
          have := congrArg (fun l => l[k]?) h
          simp only [List.getElem?_map, List.getElem?_eq_getElem hlt, List.getElem?_eq_getElem hk2, Option.map_some] at this
          exact Option.some.inj this
        obtain ⟨x, hx⟩ : ∃ x, L[k] = x := ⟨_, rfl⟩
        rw [hx] at hc1 HPI HLK
        clear hx
        have q2 : decide ((k : Int) < (L.length : Int)) = true := decide_eq_true (by omega)
        have b0 : (0 : Int) ≤ (k : Int) := by omega
        go_wp2_with fail
        refine HPI.out.mono ?_
        rintro e w5 ⟨n, fine, rfl, hrd, hb5⟩
        have HO5 := Lib.hid (own_below HO.out (Nat.le_refl _) hb5)
        have HPA5 := Lib.hid (HPA.out.next hb5)
        have HB5 := Lib.hid (below_trI HB.out hb5 HB.out.size)
        have hbs : w2.heap.size ≤ w5.heap.size := by
          have h1 := HPA5.out.lt
          omega
        have HALL5 : Hid (∀ cs, fcOk rs cs = true → fcText rs cs = s → outs ++ [n] = cs.take (k + 1) ∧ (okb && fine) = true) := fun cs h1 h2 => by
          obtain ⟨e1, e2⟩ := HALLk.out cs h1 h2
          obtain ⟨hk2, e3⟩ := HLK.out cs (HPC.out cs h1 h2).2
          have hr := perm_range (fcOk_parts h1).2.2 cs[k] (List.getElem_mem hk2)
          have e4 := hrd.2 cs[k].toNat (by omega) (by rw [e3, itoa_toNat hr.1])
          refine ⟨?_, by rw [e2, e4.2]; rfl⟩
          rw [e1, e4.1, List.take_add_one, List.getElem?_eq_getElem hk2, Int.toNat_of_nonneg hr.1]
          rfl
        have hn1 : outs.length + 1 ≤ 1099511627776 := by omega
        clear hb5 hrd HO HPA HB HPI HLK hc1
        cases okb
        all_goals
          go_wp2_with (at_builtin; refine wpList_app1 slInt rfl (.tmp 48) (.tmp 50) rfl rfl HO5.out [.int .i64 n] rfl rfl (by simp) (by simp [Value.oneCell']) hn1 hbs ?_; intro v' w6 hown6 hg6 ht6)
          have HO6 := Lib.hid hown6
          have HB6 := Lib.hid (below_app HB5.out HB5.out.size HO5.out HBASE.out hg6)
          have HPA6 := Lib.hid (HPA5.out.grown hg6 HNE.out)
          have HNE6 : Hid (v'.ownBlock ≠ some (w2.heap.size + 1)) := by
            show _ ≠ _
            rcases ht6 with h | h
            · rw [h]; exact HNE.out
            · rw [h]
              have := HPA5.out.lt
              intro e
              have := Option.some.inj e
              omega
          clear hown6 hg6 ht6
          go_roundw
          case rel =>
            refine ⟨k + 1, outs ++ [n], _, by omega, rfl, by go_num, by simp; omega, HALL5, ?_, HNE6.out, HPA6.out, HB6.out⟩
            rw [List.length_append, List.map_append]
            exact HO6.out
          case measure => simp [intOf]; omega
      · obtain rfl : k = L.length := by omega
        have HALL : Hid (∀ cs, fcOk rs cs = true → fcText rs cs = s → outs = cs ∧ okb = true) := fun cs h1 h2 => by
          obtain ⟨e1, e2⟩ := HALLk.out cs h1 h2
          refine ⟨?_, e2⟩
          have hlen := congrArg List.length (HPC.out cs h1 h2).2
          simp only [List.length_map] at hlen
          rw [e1, hlen, List.take_length]
        have hol0 : outs.length ≤ 1048577 := by omega
        have q2 : decide ((L.length : Int) < (L.length : Int)) = false := decide_eq_false (by omega)
        have ho := HO.out
        clear HALLk hok hk hlt
        obtain ⟨ao, co, rfl⟩ := own_slice ho
        clear ho
        have HFC := Lib.hid (formatCertificate_any a c rs (ao) (co) outs (wr) hl1 (by omega) (HE.out.below HB.out).tab (HR.out.below (Nat.le_refl _) HB.out) (ownInts HO.out))
        unfold FfEnd at HFC
        obtain ⟨tx, htx⟩ : ∃ tx, (if fcOk rs outs = true then fcText rs outs else ⟨#[]⟩) = tx := ⟨_, rfl⟩
        rw [htx] at HFC
        have HTX : Hid (fcOk rs outs = true → tx = fcText rs outs) := fun h => by rw [← htx, if_pos h]
        clear htx
        cases okb
        case false =>
          have HP : Hid (PAns rs s [] false) := .inr ⟨rfl, rfl, fun cs h1 h2 => by have := (HALL.out cs h1 h2).2; cases this⟩
          go_wp2_with fail
          refine HFC.out.mono ?_
          rintro e w5 ⟨rfl, hb5⟩
          have HB5 := Lib.hid (below_trI HB.out hb5 HB.out.size)
          clear hb5
          go_wp2
          go_ret2
          exact ⟨none, 0, [], false, rfl, own_none _ _ _ _, HP.out, HB5.out⟩
        cases hfo : fcOk rs outs
        all_goals rw [hfo] at HFC
        case true.false =>
          have HP : Hid (PAns rs s [] false) := .inr ⟨rfl, rfl, fun cs h1 h2 => by have := (HALL.out cs h1 h2).1; rw [← this, hfo] at h1; cases h1⟩
          clear hfo
          go_wp2_with fail
          refine HFC.out.mono ?_
          rintro e w5 ⟨rfl, hb5⟩
          have HB5 := Lib.hid (below_trI HB.out hb5 HB.out.size)
          clear hb5
          go_wp2
          go_ret2
          exact ⟨none, 0, [], false, rfl, own_none _ _ _ _, HP.out, HB5.out⟩
        have HX := Lib.hid (HTX.out hfo)
        cases hq : (tx.toList == s.toList)
        case true.true.false =>
          have HP : Hid (PAns rs s [] false) := .inr ⟨rfl, rfl, fun cs h1 h2 => by
            have := (HALL.out cs h1 h2).1
            rw [HX.out, this, h2] at hq
            simp at hq⟩
          have hq2 : (!(tx.toList == s.toList)) = true := by rw [hq]; rfl
          clear hfo
          go_wp2_with fail
          refine HFC.out.mono ?_
          rintro e w5 ⟨rfl, hb5⟩
          have HB5 := Lib.hid (below_trI HB.out hb5 HB.out.size)
          clear hb5
          go_wp2
          go_ret2
          exact ⟨none, 0, [], false, rfl, own_none _ _ _ _, HP.out, HB5.out⟩
        have HP : Hid (PAns rs s outs true) := .inl ⟨rfl, hfo, by
          rw [← HX.out, ← ba_bs s, ← ba_bs tx]
          rw [beq_iff_eq, bs_toList, bs_toList] at hq
          rw [hq]⟩
        have hq2 : (!(tx.toList == s.toList)) = false := by rw [hq]; rfl
        clear hfo
        go_wp2_with fail
        refine HFC.out.mono ?_
        rintro e w5 ⟨rfl, hb5⟩
        have HB5 := Lib.hid (below_trI HB.out hb5 HB.out.size)
        have HO5 := Lib.hid (own_below HO.out (Nat.le_refl _) hb5)
        clear hb5
        go_wp2
        go_ret2
        exact ⟨ao, co, outs, true, rfl, own_mono HO5.out HBASE.out, HP.out, HB5.out⟩

end Go.Proofs.YtoebegdepnigbaaDoor
