/-
  DERIVED: THE SHELF's CONTRACTS AT THIS DUMP, IN PLAIN WORDS (tools/lay-plain.mjs out of 'TryzShelf.lean', which tools/lay-shelf.mjs wrote): THE SAME DECLARATIONS UNDER THE SAME NAMES: 'import', 'namespace', 'open', 'def', 'theorem' AND NOTHING ELSE: no command of the shelf's: FOR A HAND-IN. Each laying: the table of numbers ('.._ren') and one theorem, a field a fact of the dump's own or the kernel's comparison; each contract: ONE APPLICATION.
-/
import Derived.Shelf.Small.Strs
import Derived.Shelf.LaysM
import Derived.Test.YthbcogekfdllmaaGreatDoorProg
import Derived.Test.YthbcogekfdllmaaGreatDoorZRatPure
import Derived.Test.YthbcogekfdllmaaGreatDoorZSlotPure
import Derived.Test.YthbcogekfdllmaaGreatDoorZSepX
import Derived.Deep.RegionHeld3
import Derived.Test.YthbcogekfdllmaaGreatDoorZMap
import Derived.Lib.ItoaLen
import Derived.Test.YthbcogekfdllmaaGreatDoorZRule2
import Derived.Test.YthbcogekfdllmaaGreatDoorZCntS
namespace Go.Proofs
open Go.Shelf
def Tryz.lays213_ren : Go.Shelf.Ren := ⟨fun | 213 => 128 | 265 => 181 | n => n, fun | 9 => 9 | 3 => 3 | n => n, fun | n => n⟩
theorem Tryz.lays213 : Go.Proofs.Lays.n213 Tryz.prog Tryz.lays213_ren := {
  mixed := by kernel_rfl
  f213 := Tryz.func128.trans (congrArg some (by kernel_rfl))
  f265 := Tryz.func181.trans (congrArg some (by kernel_rfl))
  t3 := Tryz.underlying3
  a3 := Tryz.isAgg3
  z3 := Tryz.sizeOf3
  v3 := Tryz.zeroValue3
  t9 := Tryz.underlying9
  a9 := Tryz.isAgg9
  z9 := Tryz.sizeOf9
  v9 := Tryz.zeroValue9 }
open Go.RowKit in
/-- internal/bytealg.CompareString (what strings.Compare calls): IT RETURNS 'Lib.compareBytes a b'; the world is as it was. (LAID: no walk: one application.) -/
theorem Tryz.bytealg_CompareString (a b : ByteArray) (w : World) :
    Calls Tryz.prog 128 #[.string a, .string b] w fun e w' => e = .returned (.int .i64 (Lib.compareBytes a.data.toList b.data.toList)) ∧ w' = w := Any.bytealg_CompareString Tryz.lays213 a b w
def Tryz.lays106_ren : Go.Shelf.Ren := ⟨fun | 106 => 70 | 213 => 128 | 265 => 181 | n => n, fun | 9 => 9 | 3 => 3 | n => n, fun | n => n⟩
theorem Tryz.lays106 : Go.Proofs.Lays.n106 Tryz.prog Tryz.lays106_ren := {
  mixed := by kernel_rfl
  f106 := Tryz.func70.trans (congrArg some (by kernel_rfl))
  f213 := Tryz.func128.trans (congrArg some (by kernel_rfl))
  f265 := Tryz.func181.trans (congrArg some (by kernel_rfl))
  t3 := Tryz.underlying3
  a3 := Tryz.isAgg3
  z3 := Tryz.sizeOf3
  v3 := Tryz.zeroValue3
  t9 := Tryz.underlying9
  a9 := Tryz.isAgg9
  z9 := Tryz.sizeOf9
  v9 := Tryz.zeroValue9 }
open Go.RowKit in
/-- strings.Compare: "Compare returns an integer comparing two strings lexicographically. The result will be 0 if a == b, -1 if a < b, and +1 if a > b.": IT RETURNS 'Lib.compareBytes a b'; the world is as it was. (LAID: no walk: one application.) -/
theorem Tryz.strings_Compare (a b : ByteArray) (w : World) :
    Calls Tryz.prog 70 #[.string a, .string b] w fun e w' => e = .returned (.int .i64 (Lib.compareBytes a.data.toList b.data.toList)) ∧ w' = w := Any.strings_Compare Tryz.lays106 a b w
end Go.Proofs
/-
  thousandths, expected, First and errs by contracts.
-/
namespace Go.Proofs.YthbcogekfdllmaaGreatDoor
open Go Go.RowKit

/-- a right rating -/
structure RatOK (n d : Int) : Prop where
  d1 : 1 ≤ d
  d2 : d ≤ 1000
  dv : d * (1000 / d) = 1000
  g : Int.gcd n d = 1
  lo : -10000 * d ≤ n
  hi : n ≤ 10000 * d
/-- a rating in thousandths -/
def thou (n d : Int) : Int := n * (1000 / d)
theorem thou_bd {n d : Int} (h : RatOK n d) : -10000000 ≤ thou n d ∧ thou n d ≤ 10000000 ∧ 1 ≤ 1000 / d ∧ 1000 / d ≤ 1000 := by
  have hp : 0 < 1000 / d := by
    apply Classical.byContradiction
    intro hc
    have : d * (1000 / d) ≤ 0 := by
      have := Int.mul_le_mul_of_nonneg_left (show 1000 / d ≤ 0 by omega) (show 0 ≤ d by have := h.d1; omega)
      omega
    have := h.dv
    omega
  have h1 := Int.mul_le_mul_of_nonneg_right h.hi (show 0 ≤ 1000 / d by omega)
  have h2 := Int.mul_le_mul_of_nonneg_right h.lo (show 0 ≤ 1000 / d by omega)
  have e1 : 10000 * d * (1000 / d) = 10000 * (d * (1000 / d)) := Int.mul_assoc _ _ _
  have e2 : -10000 * d * (1000 / d) = -10000 * (d * (1000 / d)) := Int.mul_assoc _ _ _
  rw [e1, h.dv] at h1
  rw [e2, h.dv] at h2
  have h3 : 1000 / d ≤ 1000 := Int.ediv_le_self _ (by omega)
  unfold thou
  omega

theorem thousandths_calls (n d : Int) (w : World) (h : RatOK n d) :
    Calls Tryz.prog 124 #[.agg #[.int .i64 n, .int .i64 d]] w (BRet (.int .i64 (thou n d)) w) := by
  obtain ⟨t1, t2, t3, t4⟩ := thou_bd h
  have d1 := h.d1
  have d2 := h.d2
  obtain ⟨q, hq⟩ : ∃ q, 1000 / d = q := ⟨_, rfl⟩
  have ht : thou n d = n * q := by unfold thou; rw [hq]
  rw [hq] at t3 t4
  have HT := Lib.hid ht
  rw [ht] at t1 t2
  have HQ := Lib.hid hq
  clear ht
  go_enter Tryz.func124, Tryz.ntmps124
  go_wp2_with fail
  have hw : IntKind.i64.wrap (n * (1000 / d)) = n * q := by rw [hq]; exact IntWalk.i64_in _ ⟨by omega, by omega⟩
  go_quiet (fail)
  clear hw
  go_wp2
  go_ret
  exact ⟨ret_int HT.out.symm, below_drewN ((Below.refl _ _).alloc (Nat.le_refl _) _) _⟩

theorem expectedR_calls (A B : Int) (w : World) (a0 : -10000000 ≤ A) (a1 : A ≤ 10000000) (b0 : -10000000 ≤ B) (b1 : B ≤ 10000000) :
    Calls Tryz.prog 123 #[.int .i64 A, .int .i64 B] w (QRet (.int .i64 (RatP.expd A B)) w) := by
  have HE := Lib.hid (show RatP.expd A B = min 800000 (max 0 (400000 + A - B)) from rfl)
  go_enter Tryz.func123, Tryz.ntmps123
  go_wp2
  all_goals (go_ret; exact ⟨ret_int (by rw [HE.out]; try omega), 0, rfl⟩)

/-- the first that is not 0 -/
def firstE : List Int → Int
  | [] => 0
  | e :: l => if e = 0 then firstE l else e
theorem firstE_step (l : List Int) (k : Nat) (hk : k < l.length) : firstE (l.drop k) = if l[k] = 0 then firstE (l.drop (k + 1)) else l[k] := by
  rw [List.drop_eq_getElem_cons hk, firstE]

set_option maxRecDepth 100000 in
theorem first_calls (b : Nat) (A : Option Addr) (n c : Nat) (l : List Int) (w : World) (hr : Rd w b 1 (.slice A n c) n (l.map (Value.int .i64))) :
    Calls Tryz.prog 77 #[.slice A n c] w (QRet (.int .i64 (firstE l)) w) := by
  obtain ⟨A', c', e1, e2, e3, e4, e5, e6⟩ := hr
  injection e1 with ea eb ec
  subst ea ec
  unfold maxLen at e3
  have hl : l.length = n := by simpa using e4
  have HL := Lib.hid hl
  have HC := Lib.hid e6
  clear e4 e5 e6 hl
  go_enter Tryz.func77, Tryz.ntmps77
  go_wp2_with fail
  go_loop [7] (fun i => ∃ k : Nat, k ≤ n ∧ i = .int .i64 k ∧ Hid (firstE l = firstE (l.drop k))) (fun i => n - (intOf i).toNat)
  case atStart => exact ⟨0, Nat.zero_le _, rfl, rfl⟩
  case round =>
    obtain ⟨k, hk, rfl, HF⟩ := hrel
    by_cases hlt : k < n
    · have hkr : k < l.length := by rw [HL.out]; exact hlt
      obtain ⟨g, o, hA, _, hcs⟩ := HC.out (by omega)
      subst hA
      have hst := HF.out.trans (firstE_step l k hkr)
      have c0 := hcs k _ (by rw [List.getElem?_map, List.getElem?_eq_getElem hkr]; rfl)
      clear hcs
      obtain ⟨z, hz⟩ : ∃ z, l[k] = z := ⟨_, rfl⟩
      rw [hz] at c0 hst
      clear hz
      by_cases h0 : z = 0
      · subst h0
        rw [if_pos rfl] at hst
        have HS := Lib.hid hst
        clear hst
        go_wp2_with fail
        go_round
        case rel => exact ⟨k + 1, by omega, by go_num, HS⟩
        case measure => simp [intOf]; omega
      · rw [if_neg h0] at hst
        have HS := Lib.hid hst
        have hne : (z != 0) = true := by rw [bne_iff_ne]; exact h0
        clear hst
        go_wp2_with fail
        go_ret
        exact ⟨ret_int HS.out.symm, 0, rfl⟩
    · obtain rfl : k = n := by omega
      have HS := Lib.hid (HF.out.trans (by rw [List.drop_of_length_le (by rw [HL.out]; exact Nat.le_refl _)]; rfl : _ = (0 : Int)))
      go_wp2_with fail
      go_ret
      exact ⟨ret_int HS.out.symm, 0, rfl⟩

end Go.Proofs.YthbcogekfdllmaaGreatDoor
/-
  The order of gifts: cmp.Compare, cmp.Or, byGift and giftOrder by contracts.
-/
namespace Go.Proofs.YthbcogekfdllmaaGreatDoor
open Go Go.RowKit

def cmpS (a b : ByteArray) : Int := Lib.compareBytes a.data.toList b.data.toList
theorem cmpL_le : ∀ a b : List UInt8, decide (Lib.compareBytes a b ≤ 0) = (Op.bytesLess a b || a == b)
  | [], [] => rfl
  | [], _ :: _ => rfl
  | _ :: _, [] => rfl
  | a :: p, b :: q => by
    have ih := cmpL_le p q
    unfold Lib.compareBytes Op.bytesLess
    by_cases h1 : a < b
    · simp [h1]
    · by_cases h2 : b < a
      · have hne : ¬ a = b := fun e => by subst e; exact h1 h2
        simp [h1, h2, hne]
      · have he : a = b := UInt8.le_antisymm (UInt8.not_lt.1 h2) (UInt8.not_lt.1 h1)
        subst he
        rw [if_neg h1, if_neg h1, ih]
        simp [h1]
theorem cmpL_ge : ∀ a b : List UInt8, decide (0 ≤ Lib.compareBytes b a) = (Op.bytesLess a b || a == b)
  | [], [] => rfl
  | [], _ :: _ => rfl
  | _ :: _, [] => rfl
  | a :: p, b :: q => by
    have ih := cmpL_ge p q
    unfold Lib.compareBytes Op.bytesLess
    by_cases h1 : a < b
    · have h2 : ¬ b < a := fun h2 => UInt8.lt_irrefl _ (UInt8.lt_trans h1 h2)
      simp [h1, h2]
    · by_cases h2 : b < a
      · have hne : ¬ a = b := fun e => by subst e; exact h1 h2
        simp [h1, h2, hne]
      · have he : a = b := UInt8.le_antisymm (UInt8.not_lt.1 h2) (UInt8.not_lt.1 h1)
        subst he
        rw [if_neg h1, if_neg h1, ih]
        simp [h1]
theorem cmpS_le (a b : ByteArray) : decide (cmpS a b ≤ 0) = leS a b := by
  unfold cmpS leS
  rw [cmpL_le, Lib.toList_data, Lib.toList_data]
theorem cmpS_ge (a b : ByteArray) : decide (0 ≤ cmpS b a) = leS a b := by
  unfold cmpS leS
  rw [cmpL_ge, Lib.toList_data, Lib.toList_data]
end Go.Proofs.YthbcogekfdllmaaGreatDoor
/-
  Strings in order: transitive, total, antisymmetric. No Go text is named here.
-/
namespace Go.Proofs.YthbcogekfdllmaaGreatDoor
open Go Go.RowKit

theorem gt_trans : ∀ x y z : List UInt8, 0 < Lib.compareBytes x y → 0 < Lib.compareBytes y z → 0 < Lib.compareBytes x z
  | [], [], _, h, _ => by simp [Lib.compareBytes] at h
  | [], _ :: _, _, h, _ => by simp [Lib.compareBytes] at h
  | _ :: _, [], [], _, h => by simp [Lib.compareBytes] at h
  | _ :: _, [], _ :: _, _, h => by simp [Lib.compareBytes] at h
  | _ :: _, _ :: _, [], _, _ => by simp [Lib.compareBytes]
  | a :: p, b :: q, c :: r, h1, h2 => by
    have ih := gt_trans p q r
    unfold Lib.compareBytes at h1 h2 ⊢
    by_cases a1 : a < b
    · rw [if_pos a1] at h1; exact absurd h1 (by decide)
    by_cases b1 : b < c
    · rw [if_pos b1] at h2; exact absurd h2 (by decide)
    rw [if_neg a1] at h1
    rw [if_neg b1] at h2
    by_cases a2 : b < a
    · by_cases b2 : c < b
      · have hc := UInt8.lt_trans b2 a2
        rw [if_neg (fun h => UInt8.lt_irrefl _ (UInt8.lt_trans h hc)), if_pos hc]
        decide
      · have e : b = c := UInt8.le_antisymm (UInt8.not_lt.1 b2) (UInt8.not_lt.1 b1)
        subst e
        rw [if_neg a1, if_pos a2]
        decide
    · have e : a = b := UInt8.le_antisymm (UInt8.not_lt.1 a2) (UInt8.not_lt.1 a1)
      subst e
      by_cases b2 : c < a
      · rw [if_neg b1, if_pos b2]
        decide
      · have e : a = c := UInt8.le_antisymm (UInt8.not_lt.1 b2) (UInt8.not_lt.1 b1)
        subst e
        rw [if_neg a2] at h1
        rw [if_neg b2] at h2
        rw [if_neg b1, if_neg b2]
        exact ih h1 h2
theorem gt_irr : ∀ x : List UInt8, Lib.compareBytes x x = 0
  | [] => by simp [Lib.compareBytes]
  | a :: p => by
    unfold Lib.compareBytes
    rw [if_neg (UInt8.lt_irrefl a), if_neg (UInt8.lt_irrefl a)]
    exact gt_irr p
/-- one name behind another one -/
def gtS (a b : ByteArray) : Prop := leS a b = false
theorem gtS_iff (a b : ByteArray) : gtS a b ↔ 0 < cmpS a b := by
  unfold gtS
  rw [← cmpS_le]
  simp
theorem gtS.trans {a b c : ByteArray} (h1 : gtS a b) (h2 : gtS b c) : gtS a c :=
  (gtS_iff a c).2 (gt_trans _ _ _ ((gtS_iff a b).1 h1) ((gtS_iff b c).1 h2))
theorem cmpL_zero : ∀ a b : List UInt8, Lib.compareBytes a b = 0 → a = b
  | [], [], _ => rfl
  | [], _ :: _, h => by simp [Lib.compareBytes] at h
  | _ :: _, [], h => by simp [Lib.compareBytes] at h
  | a :: p, b :: q, h => by
    unfold Lib.compareBytes at h
    by_cases h1 : a < b
    · rw [if_pos h1] at h; exact absurd h (by decide)
    · by_cases h2 : b < a
      · rw [if_neg h1, if_pos h2] at h; exact absurd h (by decide)
      · rw [if_neg h1, if_neg h2] at h
        rw [cmpL_zero p q h, UInt8.le_antisymm (UInt8.not_lt.1 h2) (UInt8.not_lt.1 h1)]
theorem cmpS_zero {a b : ByteArray} (h : cmpS a b = 0) : a = b := by
  have := cmpL_zero _ _ h
  cases a; cases b
  congr
  exact Array.toList_inj.1 this
theorem leS_gt {a b : ByteArray} (h : gtS b a) : leS a b = true := by
  have := (gtS_iff b a).1 h
  rw [← cmpS_ge]
  simp
  omega
theorem leS_cases {a b : ByteArray} (h : leS a b = true) : gtS b a ∨ a = b := by
  rw [← cmpS_ge] at h
  have h : 0 ≤ cmpS b a := by simpa using h
  by_cases h0 : cmpS b a = 0
  · exact .inr (cmpS_zero h0).symm
  · exact .inl ((gtS_iff b a).2 (by omega))
theorem leS_self (a : ByteArray) : leS a a = true := by
  rw [← cmpS_ge]
  have := gt_irr a.data.toList
  simp [cmpS, this]
theorem leS_trans {a b c : ByteArray} (h1 : leS a b = true) (h2 : leS b c = true) : leS a c = true := by
  rcases leS_cases h1 with h1 | rfl
  · rcases leS_cases h2 with h2 | rfl
    · exact leS_gt (h2.trans h1)
    · exact leS_gt h1
  · exact h2
theorem leS_anti {a b : ByteArray} (h1 : leS a b = true) (h2 : leS b a = true) : a = b := by
  rcases leS_cases h1 with h1 | h1
  · unfold gtS at h1
    rw [h1] at h2
    exact absurd h2 (by decide)
  · exact h1
end Go.Proofs.YthbcogekfdllmaaGreatDoor
/-
  How runs are split by a field, in plain words: counts by value, rising. No Go text is named here.
-/
namespace Go.Proofs.YthbcogekfdllmaaGreatDoor
open Go Go.RowKit

/-- the first value under a name -/
def fieldV (f : ByteArray) : List Pr → ByteArray
  | [] => ⟨#[]⟩
  | p :: ps => if p.1 = f then p.2 else fieldV f ps
def fieldH (f : ByteArray) : List Pr → Bool
  | [] => false
  | p :: ps => if p.1 = f then true else fieldH f ps
/-- how often a value comes -/
def occ (s : ByteArray) (vs : List ByteArray) : Nat := (vs.filter (fun t => decide (t = s))).length
theorem occ_snoc (s t : ByteArray) (vs : List ByteArray) : occ s (vs ++ [t]) = occ s vs + if t = s then 1 else 0 := by
  unfold occ
  rw [List.filter_append, List.length_append]
  congr 1
  rw [List.filter_cons]
  by_cases h : t = s
  · rw [if_pos (by simpa using h), if_pos h]; rfl
  · rw [if_neg (by simpa using h), if_neg h]; rfl
theorem occ_le (s : ByteArray) (vs : List ByteArray) : occ s vs ≤ vs.length := List.length_filter_le _ _
theorem occ_pos (s : ByteArray) (vs : List ByteArray) : occ s vs ≠ 0 ↔ s ∈ vs := by
  unfold occ
  rw [Ne, List.length_eq_zero_iff, List.filter_eq_nil_iff]
  constructor
  · intro h
    refine Classical.byContradiction (fun hn => h (fun t ht => ?_))
    rw [decide_eq_true_eq]
    intro he
    exact hn (he ▸ ht)
  · intro h hn
    exact hn s h (by simp)
/-- the map of counts -/
def mapC (vs : List ByteArray) : ByteArray → Option Value := fun s => if occ s vs = 0 then none else some (.int .i64 (occ s vs : Int))
theorem mapC_get (vs : List ByteArray) (s : ByteArray) : (mapC vs s).getD (.int .i64 0) = .int .i64 (occ s vs : Int) := by
  unfold mapC
  by_cases h : occ s vs = 0
  · rw [if_pos h, h]; rfl
  · rw [if_neg h]; rfl
theorem mapC_upd (vs : List ByteArray) (s : ByteArray) : upd (mapC vs) s (.int .i64 ((occ s vs : Int) + 1)) = mapC (vs ++ [s]) := by
  funext t
  unfold upd mapC
  rw [occ_snoc]
  by_cases h : t = s
  · subst h
    rw [if_pos rfl, if_pos rfl, if_neg (by omega)]
    congr 2
  · rw [if_neg h, show (if s = t then 1 else 0) = 0 from if_neg (fun e => h e.symm), Nat.add_zero]
theorem mapC_some {vs : List ByteArray} {s : ByteArray} {v : Value} (h : mapC vs s = some v) : s ∈ vs ∧ v = .int .i64 (occ s vs : Int) := by
  unfold mapC at h
  split at h
  · cases h
  · rename_i h0
    injection h with h
    exact ⟨(occ_pos s vs).1 h0, h.symm⟩
theorem mapC_is (vs : List ByteArray) (s : ByteArray) : (mapC vs s).isSome = true ↔ s ∈ vs := by
  rw [← occ_pos]
  unfold mapC
  by_cases h : occ s vs = 0
  · rw [if_pos h]; simp [h]
  · rw [if_neg h]; simp [h]
/-- a pair: a value and its count -/
def cntP (vs : List ByteArray) (s : ByteArray) : Pr := (s, ⟨(Lib.itoa (occ s vs : Int)).toArray⟩)
/-- the answer: each value once with its count, rising -/
structure SplitP (vs : List ByteArray) (ys : List Pr) : Prop where
  up : ys.Pairwise (fun a b => cmpS a.1 b.1 < 0)
  ms : ∀ p, p ∈ ys ↔ p.1 ∈ vs ∧ p = cntP vs p.1
theorem cmpS_ltG (a b : ByteArray) : cmpS a b < 0 ↔ gtS b a := by
  have h := cmpS_ge b a
  unfold gtS
  rw [← h, decide_eq_false_iff_not]
  omega
theorem cmpS_irr (a : ByteArray) : ¬ cmpS a a < 0 := by
  rw [cmpS_ltG]
  unfold gtS
  rw [leS_self]
  decide
theorem cmpS_asym {a b : ByteArray} (h1 : cmpS a b < 0) (h2 : cmpS b a < 0) : False := by
  rw [cmpS_ltG] at h1 h2
  have h3 := leS_gt h1
  unfold gtS at h2
  rw [h3] at h2
  cases h2
theorem up_one : ∀ (l1 l2 : List Pr), l1.Pairwise (fun a b => cmpS a.1 b.1 < 0) → l2.Pairwise (fun a b => cmpS a.1 b.1 < 0) → (∀ p, p ∈ l1 ↔ p ∈ l2) → l1 = l2
  | [], [], _, _, _ => rfl
  | [], b :: t, _, _, h => by have := (h b).2 (List.mem_cons_self ..); cases this
  | a :: t, [], _, _, h => by have := (h a).1 (List.mem_cons_self ..); cases this
  | a :: t1, b :: t2, h1, h2, h => by
    rw [List.pairwise_cons] at h1 h2
    have hab : a = b := by
      rcases List.mem_cons.1 ((h a).1 (List.mem_cons_self ..)) with e | ha
      · exact e
      · rcases List.mem_cons.1 ((h b).2 (List.mem_cons_self ..)) with e | hb
        · exact e.symm
        · exact (cmpS_asym (h1.1 b hb) (h2.1 a ha)).elim
    subst hab
    congr 1
    refine up_one t1 t2 h1.2 h2.2 (fun p => ⟨fun hp => ?_, fun hp => ?_⟩)
    · rcases List.mem_cons.1 ((h p).1 (List.mem_cons_of_mem _ hp)) with e | hq
      · subst e; exact (cmpS_irr _ (h1.1 p hp)).elim
      · exact hq
    · rcases List.mem_cons.1 ((h p).2 (List.mem_cons_of_mem _ hp)) with e | hq
      · subst e; exact (cmpS_irr _ (h2.1 p hp)).elim
      · exact hq
theorem SplitP.one {vs : List ByteArray} {l1 l2 : List Pr} (h1 : SplitP vs l1) (h2 : SplitP vs l2) : l1 = l2 :=
  up_one l1 l2 h1.up h2.up (fun p => by rw [h1.ms, h2.ms])
/-- what a range over the map left, sorted -/
theorem SplitP.of {vs seen : List ByteArray} {ys : List Pr} (hn : seen.Nodup) (hm : ∀ s, s ∈ seen ↔ s ∈ vs) (hp : ys.Perm (seen.map (cntP vs))) (hu : ys.Pairwise (fun a b => ¬ cmpS b.1 a.1 < 0)) : SplitP vs ys := by
  have hms : ∀ p, p ∈ ys ↔ p.1 ∈ vs ∧ p = cntP vs p.1 := fun p => by
    rw [hp.mem_iff, List.mem_map]
    constructor
    · rintro ⟨s, hs, rfl⟩
      exact ⟨(hm s).1 hs, rfl⟩
    · rintro ⟨h1, h2⟩
      exact ⟨p.1, (hm _).2 h1, h2.symm⟩
  have hnn : (ys.map (·.1)).Nodup := by
    have h1 : (ys.map (·.1)).Perm seen := by
      have := hp.map (·.1)
      rw [List.map_map] at this
      have e : ((fun p : Pr => p.1) ∘ cntP vs) = id := by funext s; rfl
      rw [e, List.map_id] at this
      exact this
    exact h1.nodup_iff.2 hn
  unfold List.Nodup at hnn
  rw [List.pairwise_map] at hnn
  refine ⟨List.Pairwise.imp₂ (fun x y h1 h2 => ?_) hu hnn, hms⟩
  by_cases h0 : cmpS x.1 y.1 < 0
  · exact h0
  · exfalso
    rw [cmpS_ltG] at h0 h1
    have h3 : leS x.1 y.1 = true := by
      cases h : leS x.1 y.1
      · exact absurd h h1
      · rfl
    have h4 : leS y.1 x.1 = true := by
      cases h : leS y.1 x.1
      · exact absurd h h0
      · rfl
    exact h2 (leS_anti h3 h4)
end Go.Proofs.YthbcogekfdllmaaGreatDoor
/-
  rule.field by its contract.
-/
namespace Go.Proofs.YthbcogekfdllmaaGreatDoor
open Go Go.RowKit
attribute [local go_sem ↓] Go.wp_at_zero Go.wp_at_succ

theorem fieldV_drop {f : ByteArray} : ∀ (ps : List Pr) (k : Nat), k ≤ ps.length → (∀ j (hj : j < ps.length), j < k → ps[j].1 ≠ f) → fieldV f ps = fieldV f (ps.drop k) ∧ fieldH f ps = fieldH f (ps.drop k)
  | _, 0, _, _ => ⟨rfl, rfl⟩
  | [], k + 1, h, _ => by simp at h
  | p :: ps, k + 1, h, hn => by
    have h0 : p.1 ≠ f := hn 0 (by simp) (by omega)
    have ih := fieldV_drop ps k (by simp at h; omega) (fun j hj hjk => by have := hn (j + 1) (by simp; omega) (by omega); simpa using this)
    rw [fieldV, fieldH, if_neg h0, if_neg h0, List.drop_succ_cons]
    exact ih
set_option maxRecDepth 100000 in
theorem field_calls (b g o : Nat) (fa : Option Addr) (m fc : Nat) (fs : List Pr) (f : ByteArray) (w : World) (c4 : w.cell? ⟨g, o + 4, none⟩ = some (.slice fa m fc)) (hr : Rd w b 2 (.slice fa m fc) m (fs.flatMap prC)) :
    Calls Tryz.prog 89 #[.pointer (some ⟨g, o, none⟩), .string f] w (BRet (.tuple #[.string (fieldV f fs), .bool (fieldH f fs)]) w) := by
  obtain ⟨hl, hmc, hmm, hcells⟩ := hr.cells prC_len (by omega)
  unfold maxLen at hmm
  have HL := Lib.hid hl
  have HC := Lib.hid hcells
  clear hcells hl hr
  go_enter Tryz.func89, Tryz.ntmps89
  go_wp2_with fail
  go_loopw [13] (fun i wr => ∃ k : Nat, k ≤ m ∧ i = .int .i64 k ∧ Hid (∀ j (hj : j < fs.length), j < k → fs[j].1 ≠ f) ∧ Below w.heap.size w wr) (fun i _ => m - (intOf i).toNat)
  case atStart => exact ⟨0, Nat.zero_le _, rfl, Lib.hid (fun j hj h => by omega), Below.refl _ _⟩
  case round =>
    obtain ⟨k, hk, rfl, HN, hb⟩ := hrel
    have HD := Lib.hid (fieldV_drop fs k (by rw [HL.out]; exact hk) HN.out)
    by_cases hlt : k < m
    · have hkr : k < fs.length := by rw [HL.out]; exact hlt
      obtain ⟨q, o2, hA, _, hcs⟩ := HC.out (by omega)
      subst hA
      have d0 := below_cell hb (hcs k hkr 0 (by omega))
      have d1 := below_cell hb (hcs k hkr 1 (by omega))
      have HN2 : Hid (fs[k].1 ≠ f → ∀ j (hj : j < fs.length), j < k + 1 → fs[j].1 ≠ f) := Lib.hid (fun h j hj hjk => by
        by_cases he : j = k
        · subst he; exact h
        · exact HN.out j hj (by omega))
      have HV : Hid (fs[k].1 = f → fieldV f fs = fs[k].2 ∧ fieldH f fs = true) := Lib.hid (fun h => by
        rw [HD.out.1, HD.out.2, List.drop_eq_getElem_cons hkr, fieldV, fieldH, if_pos h, if_pos h]
        exact ⟨rfl, rfl⟩)
      obtain ⟨p, hp⟩ : ∃ p, p = fs[k] := ⟨_, rfl⟩
      rw [← hp] at d0 d1 HN2 HV
      obtain ⟨nm, vl⟩ := p
      replace d0 : wr.cell? ⟨q, o2 + k * 2, none⟩ = some (.string nm) := d0
      replace d1 : wr.cell? ⟨q, o2 + k * 2 + 1, none⟩ = some (.string vl) := d1
      have hbz := hb.alloc hb.size (.cells #[.string nm, .string vl] 75)
      have hk0 : (0 : Int) ≤ (k : Int) := by omega
      have hk1 : (k : Int) < (m : Int) := by omega
      clear hp hcs HN HD
      by_cases he : nm = f
      · subst he
        obtain ⟨e1, e2⟩ := HV.out rfl
        have heq : (nm.toList == nm.toList) = true := by simp
        clear HN2
        go_wp2_with fail
        go_ret2
        exact ⟨by first | rfl | (rw [e1, e2]; rfl), hbz⟩
      · have HN3 := Lib.hid (HN2.out he)
        have heq : (nm.toList == f.toList) = false := by
          rw [beq_eq_false_iff_ne]
          intro h
          exact he (by rw [Lib.toList_data, Lib.toList_data] at h; exact ba_inj h)
        clear HV
        go_wp2_with fail
        go_roundw
        case rel => exact ⟨k + 1, by omega, by go_num, HN3, hbz⟩
        case measure => simp [intOf]; omega
    · obtain rfl : k = m := by omega
      have e9 : fs.drop k = [] := List.drop_of_length_le (by rw [HL.out]; exact Nat.le_refl _)
      have HE := Lib.hid HD.out
      rw [e9] at HE
      clear e9 HD
      go_wp2_with fail
      go_ret2
      exact ⟨by first | (rw [HE.out.1, HE.out.2]; rfl) | rfl, hb⟩
end Go.Proofs.YthbcogekfdllmaaGreatDoor
