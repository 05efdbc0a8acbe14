/-
  The hosts of new slots turned into empty strings, one slot after the other: the slots' row and the rest of memory stay. No walk.
-/
import Derived.Test.YthbcogekfdllmaaGreatDoorZRulPure
import Derived.Shelf.Small.Strs
import Derived.Shelf.LaysM
import Derived.Test.YthbcogekfdllmaaGreatDoorProg
import Derived.Test.YthbcogekfdllmaaGreatDoorZKey2
import Derived.Test.YthbcogekfdllmaaGreatDoorZBidPure
import Derived.Test.YthbcogekfdllmaaGreatDoorZBs
import Derived.Deep.RegionHeld3
import Derived.Test.YthbcogekfdllmaaGreatDoorZEqLv
import Derived.IntWalk
namespace Go.Proofs.YthbcogekfdllmaaGreatDoor
open Go Go.RowKit

/-- a row of strings, whichever -/
def StrRow (W : World) (base : Nat) (v : Value) (n : Nat) : Prop := ∃ hs : List ByteArray, hs.length = n ∧ W.ownsRow base 9 1 v n (strsV hs)
theorem strsV_set (hs : List ByteArray) (i : Nat) (s : ByteArray) : (strsV hs).set i (.string s) = strsV (hs.set i s) := by unfold strsV; rw [List.map_set]
theorem StrRow.set {W : World} {base n g : Nat} {v : Value} (h : StrRow W base v n) (i : Nat) (s : ByteArray) : StrRow (W.setCell ⟨g, i, none⟩ (.string s)) base v n := by
  obtain ⟨hs, hl, ho⟩ := h
  by_cases hv : v.ownBlock = some g
  · rcases ho.2 with ⟨h1, _⟩ | ⟨g2, cap, cur, h1, _⟩
    · subst h1; cases hv
    · subst h1
      have hg : g2 = g := by injection hv
      subst hg
      have h2 := (ho.stored i (.string s)).1
      rw [strsV_set] at h2
      exact ⟨hs.set i s, by rw [List.length_set]; exact hl, h2⟩
  · exact ⟨hs, hl, ownsRow_setCell_other ho hv _⟩
/-- what holds between the rounds -/
structure HstI (M : Nat) (w : World) (v : Value) (ys : List Slt) (W : World) : Prop where
  bel : Below M w W
  row : W.ownsRow M 64 5 v ys.length (ys.flatMap sltC)
  hst : ∀ x ∈ ys, StrRow W M (.slice x.ha x.hosts.length x.hc) x.hosts.length
theorem HstI.keeps {M : Nat} {w W W' : World} {v : Value} {ys : List Slt} (h : HstI M w v ys W) {x : Slt} (hx : x ∈ ys) (hap : ∀ x ∈ ys, ∀ g, (Value.slice x.ha x.hosts.length x.hc).ownBlock = some g → M ≤ g ∧ v.ownBlock ≠ some g) (hk : KeepsS x.ha W W') : HstI M w v ys W' :=
  hk (HstI M w v ys) (fun V g i hA hV => by
    obtain ⟨h1, h2⟩ := hap x hx g (by rw [hA]; rfl)
    exact ⟨below_setM hV.bel h1 _, ownsRow_setCell_other hV.row h2 _, fun y hy => (hV.hst y hy).set i _⟩) h
/-- of what Moved makes -/
theorem hstI_start {w W : World} {v : Value} {ys : List Slt} (h : Sq w W [rOwn w.heap.size 64 5 v ys.length (ys.flatMap sltC), rAll (hostR w.heap.size) ys]) :
    HstI w.heap.size w v ys W ∧ ∀ x ∈ ys, ∀ g, (Value.slice x.ha x.hosts.length x.hc).ownBlock = some g → w.heap.size ≤ g ∧ v.ownBlock ≠ some g := by
  have h1 : W.ownsRow w.heap.size 64 5 v ys.length (ys.flatMap sltC) := h.head
  have h2 : ∀ x ∈ ys, (hostR w.heap.size x).P W := h.tail.head
  refine ⟨⟨h.below, h1, fun x hx => ⟨x.hosts, rfl, h2 x hx⟩⟩, fun x hx g hg => ⟨(h.tail.hp.new _ (List.mem_cons_self ..) g ⟨x, hx, hg⟩).1, fun hv => ?_⟩⟩
  exact (List.pairwise_cons.1 h.hp.apart).1 _ (List.mem_cons_self ..) g hv ⟨x, hx, hg⟩
end Go.Proofs.YthbcogekfdllmaaGreatDoor
/-
  DERIVED: THE SHELF's CONTRACTS AT THIS DUMP, IN PLAIN WORDS (tools/lay-plain.mjs out of 'TryzShelf.lean', which tools/lay-shelf.mjs wrote): THE SAME DECLARATIONS UNDER THE SAME NAMES: 'import', 'namespace', 'open', 'def', 'theorem' AND NOTHING ELSE: no command of the shelf's: FOR A HAND-IN. Each laying: the table of numbers ('.._ren') and one theorem, a field a fact of the dump's own or the kernel's comparison; each contract: ONE APPLICATION.
-/
namespace Go.Proofs
open Go.Shelf
def Tryz.lays213_ren : Go.Shelf.Ren := ⟨fun | 213 => 128 | 265 => 181 | n => n, fun | 9 => 9 | 3 => 3 | n => n, fun | n => n⟩
theorem Tryz.lays213 : Go.Proofs.Lays.n213 Tryz.prog Tryz.lays213_ren := {
  mixed := by kernel_rfl
  f213 := Tryz.func128.trans (congrArg some (by kernel_rfl))
  f265 := Tryz.func181.trans (congrArg some (by kernel_rfl))
  t3 := Tryz.underlying3
  a3 := Tryz.isAgg3
  z3 := Tryz.sizeOf3
  v3 := Tryz.zeroValue3
  t9 := Tryz.underlying9
  a9 := Tryz.isAgg9
  z9 := Tryz.sizeOf9
  v9 := Tryz.zeroValue9 }
open Go.RowKit in
/-- internal/bytealg.CompareString (what strings.Compare calls): IT RETURNS 'Lib.compareBytes a b'; the world is as it was. (LAID: no walk: one application.) -/
theorem Tryz.bytealg_CompareString (a b : ByteArray) (w : World) :
    Calls Tryz.prog 128 #[.string a, .string b] w fun e w' => e = .returned (.int .i64 (Lib.compareBytes a.data.toList b.data.toList)) ∧ w' = w := Any.bytealg_CompareString Tryz.lays213 a b w
def Tryz.lays106_ren : Go.Shelf.Ren := ⟨fun | 106 => 70 | 213 => 128 | 265 => 181 | n => n, fun | 9 => 9 | 3 => 3 | n => n, fun | n => n⟩
theorem Tryz.lays106 : Go.Proofs.Lays.n106 Tryz.prog Tryz.lays106_ren := {
  mixed := by kernel_rfl
  f106 := Tryz.func70.trans (congrArg some (by kernel_rfl))
  f213 := Tryz.func128.trans (congrArg some (by kernel_rfl))
  f265 := Tryz.func181.trans (congrArg some (by kernel_rfl))
  t3 := Tryz.underlying3
  a3 := Tryz.isAgg3
  z3 := Tryz.sizeOf3
  v3 := Tryz.zeroValue3
  t9 := Tryz.underlying9
  a9 := Tryz.isAgg9
  z9 := Tryz.sizeOf9
  v9 := Tryz.zeroValue9 }
open Go.RowKit in
/-- strings.Compare: "Compare returns an integer comparing two strings lexicographically. The result will be 0 if a == b, -1 if a < b, and +1 if a > b.": IT RETURNS 'Lib.compareBytes a b'; the world is as it was. (LAID: no walk: one application.) -/
theorem Tryz.strings_Compare (a b : ByteArray) (w : World) :
    Calls Tryz.prog 70 #[.string a, .string b] w fun e w' => e = .returned (.int .i64 (Lib.compareBytes a.data.toList b.data.toList)) ∧ w' = w := Any.strings_Compare Tryz.lays106 a b w
end Go.Proofs
/-
  thousandths, expected, First and errs by contracts.
-/
namespace Go.Proofs.YthbcogekfdllmaaGreatDoor
open Go Go.RowKit

/-- a right rating -/
structure RatOK (n d : Int) : Prop where
  d1 : 1 ≤ d
  d2 : d ≤ 1000
  dv : d * (1000 / d) = 1000
  g : Int.gcd n d = 1
  lo : -10000 * d ≤ n
  hi : n ≤ 10000 * d
/-- a rating in thousandths -/
def thou (n d : Int) : Int := n * (1000 / d)
theorem thou_bd {n d : Int} (h : RatOK n d) : -10000000 ≤ thou n d ∧ thou n d ≤ 10000000 ∧ 1 ≤ 1000 / d ∧ 1000 / d ≤ 1000 := by
  have hp : 0 < 1000 / d := by
    apply Classical.byContradiction
    intro hc
    have : d * (1000 / d) ≤ 0 := by
      have := Int.mul_le_mul_of_nonneg_left (show 1000 / d ≤ 0 by omega) (show 0 ≤ d by have := h.d1; omega)
      omega
    have := h.dv
    omega
  have h1 := Int.mul_le_mul_of_nonneg_right h.hi (show 0 ≤ 1000 / d by omega)
  have h2 := Int.mul_le_mul_of_nonneg_right h.lo (show 0 ≤ 1000 / d by omega)
  have e1 : 10000 * d * (1000 / d) = 10000 * (d * (1000 / d)) := Int.mul_assoc _ _ _
  have e2 : -10000 * d * (1000 / d) = -10000 * (d * (1000 / d)) := Int.mul_assoc _ _ _
  rw [e1, h.dv] at h1
  rw [e2, h.dv] at h2
  have h3 : 1000 / d ≤ 1000 := Int.ediv_le_self _ (by omega)
  unfold thou
  omega

theorem thousandths_calls (n d : Int) (w : World) (h : RatOK n d) :
    Calls Tryz.prog 124 #[.agg #[.int .i64 n, .int .i64 d]] w (BRet (.int .i64 (thou n d)) w) := by
  obtain ⟨t1, t2, t3, t4⟩ := thou_bd h
  have d1 := h.d1
  have d2 := h.d2
  obtain ⟨q, hq⟩ : ∃ q, 1000 / d = q := ⟨_, rfl⟩
  have ht : thou n d = n * q := by unfold thou; rw [hq]
  rw [hq] at t3 t4
  have HT := Lib.hid ht
  rw [ht] at t1 t2
  have HQ := Lib.hid hq
  clear ht
  go_enter Tryz.func124, Tryz.ntmps124
  go_wp2_with fail
  have hw : IntKind.i64.wrap (n * (1000 / d)) = n * q := by rw [hq]; exact IntWalk.i64_in _ ⟨by omega, by omega⟩
  go_quiet (fail)
  clear hw
  go_wp2
  go_ret
  exact ⟨ret_int HT.out.symm, below_drewN ((Below.refl _ _).alloc (Nat.le_refl _) _) _⟩

theorem expectedR_calls (A B : Int) (w : World) (a0 : -10000000 ≤ A) (a1 : A ≤ 10000000) (b0 : -10000000 ≤ B) (b1 : B ≤ 10000000) :
    Calls Tryz.prog 123 #[.int .i64 A, .int .i64 B] w (QRet (.int .i64 (RatP.expd A B)) w) := by
  have HE := Lib.hid (show RatP.expd A B = min 800000 (max 0 (400000 + A - B)) from rfl)
  go_enter Tryz.func123, Tryz.ntmps123
  go_wp2
  all_goals (go_ret; exact ⟨ret_int (by rw [HE.out]; try omega), 0, rfl⟩)

/-- the first that is not 0 -/
def firstE : List Int → Int
  | [] => 0
  | e :: l => if e = 0 then firstE l else e
theorem firstE_step (l : List Int) (k : Nat) (hk : k < l.length) : firstE (l.drop k) = if l[k] = 0 then firstE (l.drop (k + 1)) else l[k] := by
  rw [List.drop_eq_getElem_cons hk, firstE]

set_option maxRecDepth 100000 in
theorem first_calls (b : Nat) (A : Option Addr) (n c : Nat) (l : List Int) (w : World) (hr : Rd w b 1 (.slice A n c) n (l.map (Value.int .i64))) :
    Calls Tryz.prog 77 #[.slice A n c] w (QRet (.int .i64 (firstE l)) w) := by
  obtain ⟨A', c', e1, e2, e3, e4, e5, e6⟩ := hr
  injection e1 with ea eb ec
  subst ea ec
  unfold maxLen at e3
  have hl : l.length = n := by simpa using e4
  have HL := Lib.hid hl
  have HC := Lib.hid e6
  clear e4 e5 e6 hl
  go_enter Tryz.func77, Tryz.ntmps77
  go_wp2_with fail
  go_loop [7] (fun i => ∃ k : Nat, k ≤ n ∧ i = .int .i64 k ∧ Hid (firstE l = firstE (l.drop k))) (fun i => n - (intOf i).toNat)
  case atStart => exact ⟨0, Nat.zero_le _, rfl, rfl⟩
  case round =>
    obtain ⟨k, hk, rfl, HF⟩ := hrel
    by_cases hlt : k < n
    · have hkr : k < l.length := by rw [HL.out]; exact hlt
      obtain ⟨g, o, hA, _, hcs⟩ := HC.out (by omega)
      subst hA
      have hst := HF.out.trans (firstE_step l k hkr)
      have c0 := hcs k _ (by rw [List.getElem?_map, List.getElem?_eq_getElem hkr]; rfl)
      clear hcs
      obtain ⟨z, hz⟩ : ∃ z, l[k] = z := ⟨_, rfl⟩
      rw [hz] at c0 hst
      clear hz
      by_cases h0 : z = 0
      · subst h0
        rw [if_pos rfl] at hst
        have HS := Lib.hid hst
        clear hst
        go_wp2_with fail
        go_round
        case rel => exact ⟨k + 1, by omega, by go_num, HS⟩
        case measure => simp [intOf]; omega
      · rw [if_neg h0] at hst
        have HS := Lib.hid hst
        have hne : (z != 0) = true := by rw [bne_iff_ne]; exact h0
        clear hst
        go_wp2_with fail
        go_ret
        exact ⟨ret_int HS.out.symm, 0, rfl⟩
    · obtain rfl : k = n := by omega
      have HS := Lib.hid (HF.out.trans (by rw [List.drop_of_length_le (by rw [HL.out]; exact Nat.le_refl _)]; rfl : _ = (0 : Int)))
      go_wp2_with fail
      go_ret
      exact ⟨ret_int HS.out.symm, 0, rfl⟩

end Go.Proofs.YthbcogekfdllmaaGreatDoor
/-
  The order of gifts: cmp.Compare, cmp.Or, byGift and giftOrder by contracts.
-/
namespace Go.Proofs.YthbcogekfdllmaaGreatDoor
open Go Go.RowKit

def cmpI (x y : Int) : Int := if x < y then -1 else if y < x then 1 else 0
def cmpS (a b : ByteArray) : Int := Lib.compareBytes a.data.toList b.data.toList
theorem cmpL_le : ∀ a b : List UInt8, decide (Lib.compareBytes a b ≤ 0) = (Op.bytesLess a b || a == b)
  | [], [] => rfl
  | [], _ :: _ => rfl
  | _ :: _, [] => rfl
  | a :: p, b :: q => by
    have ih := cmpL_le p q
    unfold Lib.compareBytes Op.bytesLess
    by_cases h1 : a < b
    · simp [h1]
    · by_cases h2 : b < a
      · have hne : ¬ a = b := fun e => by subst e; exact h1 h2
        simp [h1, h2, hne]
      · have he : a = b := UInt8.le_antisymm (UInt8.not_lt.1 h2) (UInt8.not_lt.1 h1)
        subst he
        rw [if_neg h1, if_neg h1, ih]
        simp [h1]
theorem cmpL_ge : ∀ a b : List UInt8, decide (0 ≤ Lib.compareBytes b a) = (Op.bytesLess a b || a == b)
  | [], [] => rfl
  | [], _ :: _ => rfl
  | _ :: _, [] => rfl
  | a :: p, b :: q => by
    have ih := cmpL_ge p q
    unfold Lib.compareBytes Op.bytesLess
    by_cases h1 : a < b
    · have h2 : ¬ b < a := fun h2 => UInt8.lt_irrefl _ (UInt8.lt_trans h1 h2)
      simp [h1, h2]
    · by_cases h2 : b < a
      · have hne : ¬ a = b := fun e => by subst e; exact h1 h2
        simp [h1, h2, hne]
      · have he : a = b := UInt8.le_antisymm (UInt8.not_lt.1 h2) (UInt8.not_lt.1 h1)
        subst he
        rw [if_neg h1, if_neg h1, ih]
        simp [h1]
theorem cmpS_le (a b : ByteArray) : decide (cmpS a b ≤ 0) = leS a b := by
  unfold cmpS leS
  rw [cmpL_le, Lib.toList_data, Lib.toList_data]
theorem cmpS_ge (a b : ByteArray) : decide (0 ≤ cmpS b a) = leS a b := by
  unfold cmpS leS
  rw [cmpL_ge, Lib.toList_data, Lib.toList_data]
def ordP (x y : Gf) : Int := firstE [cmpI x.at_ y.at_, cmpS x.id y.id]
theorem ordP_beh (y x : Gf) : decide (ordP x y ≤ 0) = behG y x := by
  unfold ordP behG firstE cmpI
  by_cases h1 : x.at_ < y.at_
  · simp [h1]
  · by_cases h2 : y.at_ < x.at_
    · have : ¬ x.at_ = y.at_ := by omega
      simp [h1, h2, this]
    · have : x.at_ = y.at_ := by omega
      rw [if_neg h1, if_neg h2, ← cmpS_le]
      simp [this, firstE]
      split <;> simp_all
set_option maxRecDepth 100000 in
theorem isNaNI_calls (x : Int) (w : World) : Calls Tryz.prog 118 #[.int .i64 x] w fun e w' => e = .returned (.bool false) ∧ w = w' := by
  go_enter Tryz.func118, Tryz.ntmps118
  go_wp2_with fail
  go_ret
  exact ⟨ret_bool (by simp), rfl⟩
set_option maxRecDepth 100000 in
theorem cmpInt_calls (x y : Int) (w : World) : Calls Tryz.prog 55 #[.int .i64 x, .int .i64 y] w fun e w' => e = .returned (.int .i64 (cmpI x y)) ∧ w = w' := by
  by_cases h1 : x < y
  · have HS : Hid (cmpI x y = -1) := by unfold cmpI; rw [if_pos h1]; exact Lib.hid rfl
    go_enter Tryz.func55, Tryz.ntmps55
    go_wp2_with fail
    refine (isNaNI_calls _ _).mono ?_
    rintro e w1 ⟨rfl, rfl⟩
    go_wp2_with fail
    refine (isNaNI_calls _ _).mono ?_
    rintro e w1 ⟨rfl, rfl⟩
    go_wp2_with fail
    go_ret
    exact ⟨ret_int HS.out.symm, rfl⟩
  · by_cases h2 : y < x
    · have HS : Hid (cmpI x y = 1) := by unfold cmpI; rw [if_neg h1, if_pos h2]; exact Lib.hid rfl
      go_enter Tryz.func55, Tryz.ntmps55
      go_wp2_with fail
      refine (isNaNI_calls _ _).mono ?_
      rintro e w1 ⟨rfl, rfl⟩
      go_wp2_with fail
      refine (isNaNI_calls _ _).mono ?_
      rintro e w1 ⟨rfl, rfl⟩
      go_wp2_with fail
      go_ret
      exact ⟨ret_int HS.out.symm, rfl⟩
    · have HS : Hid (cmpI x y = 0) := by unfold cmpI; rw [if_neg h1, if_neg h2]; exact Lib.hid rfl
      go_enter Tryz.func55, Tryz.ntmps55
      go_wp2_with fail
      refine (isNaNI_calls _ _).mono ?_
      rintro e w1 ⟨rfl, rfl⟩
      go_wp2_with fail
      refine (isNaNI_calls _ _).mono ?_
      rintro e w1 ⟨rfl, rfl⟩
      go_wp2_with fail
      go_ret
      exact ⟨ret_int HS.out.symm, rfl⟩
set_option maxRecDepth 100000 in
/-- cmp.Or of two numbers -/
theorem or2_calls (x y : Int) (g : Nat) (W : World) (hB : Blk W g 3 #[.int .i64 x, .int .i64 y]) : Calls Tryz.prog 225 #[.slice (some ⟨g, 0, none⟩) 2 2] W (QRet (.int .i64 (firstE [x, y])) W) := by
  obtain ⟨y0, y1, _, _⟩ := Blk.two hB
  clear hB
  by_cases h1 : x = 0
  · subst h1
    by_cases h2 : y = 0
    · subst h2
      go_enter Tryz.func225, Tryz.ntmps225
      go_wp2_with fail
      go_loopw [8] (fun i wr => ∃ k : Nat, k ≤ 2 ∧ i = .int .i64 k ∧ wr = W) (fun i _ => 2 - (intOf i).toNat)
      case atStart => exact ⟨0, Nat.zero_le _, rfl, rfl⟩
      case round =>
        obtain ⟨k, hk, rfl, rfl⟩ := hrel
        rcases (show k = 0 ∨ k = 1 ∨ k = 2 by omega) with rfl | rfl | rfl
        · go_wp2_with fail
          go_roundw
          case rel => exact ⟨1, by omega, rfl, trivial⟩
          case measure => simp [intOf]
        · go_wp2_with fail
          go_roundw
          case rel => exact ⟨2, by omega, rfl, trivial⟩
          case measure => simp [intOf]
        · go_wp2_with fail
          go_ret
          exact ⟨rfl, 0, rfl⟩
    · have HS : Hid (firstE [0, y] = y) := by simp [firstE, h2]; exact Lib.hid trivial
      have e2 : (y != 0) = true := by simpa using h2
      rw [HS.out]
      go_enter Tryz.func225, Tryz.ntmps225
      go_wp2_with fail
      go_loopw [8] (fun i wr => ∃ k : Nat, k ≤ 1 ∧ i = .int .i64 k ∧ wr = W) (fun i _ => 2 - (intOf i).toNat)
      case atStart => exact ⟨0, Nat.zero_le _, rfl, rfl⟩
      case round =>
        obtain ⟨k, hk, rfl, rfl⟩ := hrel
        rcases (show k = 0 ∨ k = 1 by omega) with rfl | rfl
        · go_wp2_with fail
          go_roundw
          case rel => exact ⟨1, by omega, rfl, trivial⟩
          case measure => simp [intOf]
        · go_wp2_with fail
          go_ret
          exact ⟨rfl, 0, rfl⟩
  · have HS : Hid (firstE [x, y] = x) := Lib.hid (by simp [firstE, h1])
    have e2 : (x != 0) = true := by simpa using h1
    rw [HS.out]
    go_enter Tryz.func225, Tryz.ntmps225
    go_wp2_with fail
    go_loopw [8] (fun i wr => i = .int .i64 0 ∧ wr = W) (fun i _ => 2 - (intOf i).toNat)
    case atStart => exact ⟨rfl, rfl⟩
    case round =>
      obtain ⟨rfl, rfl⟩ := hrel
      go_wp2_with fail
      go_ret
      exact ⟨rfl, 0, rfl⟩
end Go.Proofs.YthbcogekfdllmaaGreatDoor
/-
  Moved, in plain words. No Go text is named here.
-/
namespace Go.Proofs.YthbcogekfdllmaaGreatDoor
open Go Go.RowKit

/-- what is wrong with an order, the keys 'dn' being taken -/
def movG (xs : List Slt) : List ByteArray → List ByteArray → Int
  | _, [] => 0
  | dn, k :: os => if findL xs k < 0 then 8 else if memS dn k = true then 6 else movG xs (dn ++ [k]) os
def movE (xs : List Slt) (os : List ByteArray) : Int := if os.length ≠ xs.length then 3 else movG xs [] os
/-- the slots of an order -/
def movL (xs : List Slt) (os : List ByteArray) : List Slt := os.filterMap (fun k => xs[(findL xs k).toNat]?)
theorem movG_step (xs : List Slt) (os : List ByteArray) (k : Nat) (hk : k < os.length) : movG xs (os.take k) (os.drop k) = if findL xs os[k] < 0 then 8 else if memS (os.take k) os[k] = true then 6 else movG xs (os.take (k + 1)) (os.drop (k + 1)) := by
  rw [List.drop_eq_getElem_cons hk, movG, List.take_succ_eq_append_getElem hk]
end Go.Proofs.YthbcogekfdllmaaGreatDoor
/-
  Strings in order: transitive, total, antisymmetric. No Go text is named here.
-/
namespace Go.Proofs.YthbcogekfdllmaaGreatDoor
open Go Go.RowKit

theorem gt_trans : ∀ x y z : List UInt8, 0 < Lib.compareBytes x y → 0 < Lib.compareBytes y z → 0 < Lib.compareBytes x z
  | [], [], _, h, _ => by simp [Lib.compareBytes] at h
  | [], _ :: _, _, h, _ => by simp [Lib.compareBytes] at h
  | _ :: _, [], [], _, h => by simp [Lib.compareBytes] at h
  | _ :: _, [], _ :: _, _, h => by simp [Lib.compareBytes] at h
  | _ :: _, _ :: _, [], _, _ => by simp [Lib.compareBytes]
  | a :: p, b :: q, c :: r, h1, h2 => by
    have ih := gt_trans p q r
    unfold Lib.compareBytes at h1 h2 ⊢
    by_cases a1 : a < b
    · rw [if_pos a1] at h1; exact absurd h1 (by decide)
    by_cases b1 : b < c
    · rw [if_pos b1] at h2; exact absurd h2 (by decide)
    rw [if_neg a1] at h1
    rw [if_neg b1] at h2
    by_cases a2 : b < a
    · by_cases b2 : c < b
      · have hc := UInt8.lt_trans b2 a2
        rw [if_neg (fun h => UInt8.lt_irrefl _ (UInt8.lt_trans h hc)), if_pos hc]
        decide
      · have e : b = c := UInt8.le_antisymm (UInt8.not_lt.1 b2) (UInt8.not_lt.1 b1)
        subst e
        rw [if_neg a1, if_pos a2]
        decide
    · have e : a = b := UInt8.le_antisymm (UInt8.not_lt.1 a2) (UInt8.not_lt.1 a1)
      subst e
      by_cases b2 : c < a
      · rw [if_neg b1, if_pos b2]
        decide
      · have e : a = c := UInt8.le_antisymm (UInt8.not_lt.1 b2) (UInt8.not_lt.1 b1)
        subst e
        rw [if_neg a2] at h1
        rw [if_neg b2] at h2
        rw [if_neg b1, if_neg b2]
        exact ih h1 h2
theorem gt_irr : ∀ x : List UInt8, Lib.compareBytes x x = 0
  | [] => by simp [Lib.compareBytes]
  | a :: p => by
    unfold Lib.compareBytes
    rw [if_neg (UInt8.lt_irrefl a), if_neg (UInt8.lt_irrefl a)]
    exact gt_irr p
/-- one name behind another one -/
def gtS (a b : ByteArray) : Prop := leS a b = false
theorem gtS_iff (a b : ByteArray) : gtS a b ↔ 0 < cmpS a b := by
  unfold gtS
  rw [← cmpS_le]
  simp
theorem gtS.trans {a b c : ByteArray} (h1 : gtS a b) (h2 : gtS b c) : gtS a c :=
  (gtS_iff a c).2 (gt_trans _ _ _ ((gtS_iff a b).1 h1) ((gtS_iff b c).1 h2))
theorem cmpL_zero : ∀ a b : List UInt8, Lib.compareBytes a b = 0 → a = b
  | [], [], _ => rfl
  | [], _ :: _, h => by simp [Lib.compareBytes] at h
  | _ :: _, [], h => by simp [Lib.compareBytes] at h
  | a :: p, b :: q, h => by
    unfold Lib.compareBytes at h
    by_cases h1 : a < b
    · rw [if_pos h1] at h; exact absurd h (by decide)
    · by_cases h2 : b < a
      · rw [if_neg h1, if_pos h2] at h; exact absurd h (by decide)
      · rw [if_neg h1, if_neg h2] at h
        rw [cmpL_zero p q h, UInt8.le_antisymm (UInt8.not_lt.1 h2) (UInt8.not_lt.1 h1)]
theorem cmpS_zero {a b : ByteArray} (h : cmpS a b = 0) : a = b := by
  have := cmpL_zero _ _ h
  cases a; cases b
  congr
  exact Array.toList_inj.1 this
end Go.Proofs.YthbcogekfdllmaaGreatDoor
