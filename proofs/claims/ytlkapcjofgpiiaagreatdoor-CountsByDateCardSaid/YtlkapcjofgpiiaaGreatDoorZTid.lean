/-
  Tidy of any tree that was read, by a contract; Check, Tidy. (Printed by gen_tid.py.)
-/
import Derived.Test.YtlkapcjofgpiiaaGreatDoorZTidPure
import Derived.Test.YtlkapcjofgpiiaaGreatDoorZRule6
import Derived.Test.YtlkapcjofgpiiaaGreatDoorProg
import Derived.Test.YtlkapcjofgpiiaaGreatDoorZSq
import Derived.Maps.OwnSet
import Derived.Maps.OwnOps
import Derived.Maps.Views
import Derived.Maps.RangeWalk
import Derived.Sort.KeysCollected
import Derived.Test.YtlkapcjofgpiiaaGreatDoorZKey2
import Derived.Test.YtlkapcjofgpiiaaGreatDoorZSlotPure
import Derived.Deep.RegionHeld3
import Derived.Lib.ItoaLen
namespace Go.Proofs.YtlkapcjofgpiiaaGreatDoor
open Go Go.RowKit
attribute [local go_sem ↓] Go.wp_at_zero Go.wp_at_succ

/-- a kid's kind stands in its node -/
theorem NodeAt.kind {w : World} {lo hi g : Nat} {k : Nd} (h : NodeAt w lo hi g k) : w.cell? ⟨g, 0, none⟩ = some (.int .i64 (kindOf k)) := by
  cases h with
  | mk g kind a v gs ks h1 h2 h3 h4 h5 h6 => exact h2.cell 0
set_option maxRecDepth 100000 in
theorem check_calls (num : ByteArray → Int × Bool) (hc : NumC num) (s : ByteArray) (w : World) (hs : s.size ≤ 99000) :
    Calls Tryz.prog 67 #[.string s] w (BRet (.tuple #[.int .i64 (parseE num s).1, .int .i64 (parseE num s).2]) w) := by
  have HP := Lib.hid (parse_calls num s w (by omega) (.inr hc))
  obtain ⟨q, hq⟩ : ∃ q, parseE num s = q := ⟨_, rfl⟩
  rw [hq]
  have HQ := Lib.hid hq
  clear hq
  go_enter Tryz.func67, Tryz.ntmps67
  go_wp2_with fail
  refine HP.out.mono ?_
  rintro e w2 ⟨v, rfl, hb2, _⟩
  rw [HQ.out]
  go_wp2_with fail
  go_ret2
  exact ⟨rfl, hb2⟩
end Go.Proofs.YtlkapcjofgpiiaaGreatDoor
/-
  A range over a map of the call's own with strings for keys (MapS): which keys have come. No Go text is named here.
-/
namespace Go.Proofs.YtlkapcjofgpiiaaGreatDoor
open Go Go.RowKit
open Go.Maps (Keyed)

theorem ba_inj {s t : ByteArray} (h : s.data.toList = t.data.toList) : s = t := by
  cases s; cases t
  congr
  exact Array.toList_inj.1 h
section
variable {w w' : World} {kt t e : TypeId} {b r n : Nat} {f : ByteArray → Option Value} {seen : List ByteArray} {cnt : Nat}
end
section
variable {ops : Array Oper} {rest : List Oper} {o : Oper} {a : Act} {Q : Exit → Act → World → Prop}
end
end Go.Proofs.YtlkapcjofgpiiaaGreatDoor
/-
  thousandths, expected, First and errs by contracts.
-/
namespace Go.Proofs.YtlkapcjofgpiiaaGreatDoor
open Go Go.RowKit

/-- a right rating -/
structure RatOK (n d : Int) : Prop where
  d1 : 1 ≤ d
  d2 : d ≤ 1000
  dv : d * (1000 / d) = 1000
  g : Int.gcd n d = 1
  lo : -10000 * d ≤ n
  hi : n ≤ 10000 * d
/-- a rating in thousandths -/
def thou (n d : Int) : Int := n * (1000 / d)
theorem thou_bd {n d : Int} (h : RatOK n d) : -10000000 ≤ thou n d ∧ thou n d ≤ 10000000 ∧ 1 ≤ 1000 / d ∧ 1000 / d ≤ 1000 := by
  have hp : 0 < 1000 / d := by
    apply Classical.byContradiction
    intro hc
    have : d * (1000 / d) ≤ 0 := by
      have := Int.mul_le_mul_of_nonneg_left (show 1000 / d ≤ 0 by omega) (show 0 ≤ d by have := h.d1; omega)
      omega
    have := h.dv
    omega
  have h1 := Int.mul_le_mul_of_nonneg_right h.hi (show 0 ≤ 1000 / d by omega)
  have h2 := Int.mul_le_mul_of_nonneg_right h.lo (show 0 ≤ 1000 / d by omega)
  have e1 : 10000 * d * (1000 / d) = 10000 * (d * (1000 / d)) := Int.mul_assoc _ _ _
  have e2 : -10000 * d * (1000 / d) = -10000 * (d * (1000 / d)) := Int.mul_assoc _ _ _
  rw [e1, h.dv] at h1
  rw [e2, h.dv] at h2
  have h3 : 1000 / d ≤ 1000 := Int.ediv_le_self _ (by omega)
  unfold thou
  omega

theorem thousandths_calls (n d : Int) (w : World) (h : RatOK n d) :
    Calls Tryz.prog 77 #[.agg #[.int .i64 n, .int .i64 d]] w (BRet (.int .i64 (thou n d)) w) := by
  obtain ⟨t1, t2, t3, t4⟩ := thou_bd h
  have d1 := h.d1
  have d2 := h.d2
  obtain ⟨q, hq⟩ : ∃ q, 1000 / d = q := ⟨_, rfl⟩
  have ht : thou n d = n * q := by unfold thou; rw [hq]
  rw [hq] at t3 t4
  have HT := Lib.hid ht
  rw [ht] at t1 t2
  have HQ := Lib.hid hq
  clear ht
  go_enter Tryz.func77, Tryz.ntmps77
  go_wp2_with fail
  have hw : IntKind.i64.wrap (n * (1000 / d)) = n * q := by rw [hq]; exact IntWalk.i64_in _ ⟨by omega, by omega⟩
  go_quiet (fail)
  clear hw
  go_wp2
  go_ret
  exact ⟨ret_int HT.out.symm, below_drewN ((Below.refl _ _).alloc (Nat.le_refl _) _) _⟩

theorem expectedR_calls (A B : Int) (w : World) (a0 : -10000000 ≤ A) (a1 : A ≤ 10000000) (b0 : -10000000 ≤ B) (b1 : B ≤ 10000000) :
    Calls Tryz.prog 76 #[.int .i64 A, .int .i64 B] w (QRet (.int .i64 (RatP.expd A B)) w) := by
  have HE := Lib.hid (show RatP.expd A B = min 800000 (max 0 (400000 + A - B)) from rfl)
  go_enter Tryz.func76, Tryz.ntmps76
  go_wp2
  all_goals (go_ret; exact ⟨ret_int (by rw [HE.out]; try omega), 0, rfl⟩)

/-- the first that is not 0 -/
def firstE : List Int → Int
  | [] => 0
  | e :: l => if e = 0 then firstE l else e
theorem firstE_step (l : List Int) (k : Nat) (hk : k < l.length) : firstE (l.drop k) = if l[k] = 0 then firstE (l.drop (k + 1)) else l[k] := by
  rw [List.drop_eq_getElem_cons hk, firstE]

set_option maxRecDepth 100000 in
theorem first_calls (b : Nat) (A : Option Addr) (n c : Nat) (l : List Int) (w : World) (hr : Rd w b 1 (.slice A n c) n (l.map (Value.int .i64))) :
    Calls Tryz.prog 45 #[.slice A n c] w (QRet (.int .i64 (firstE l)) w) := by
  obtain ⟨A', c', e1, e2, e3, e4, e5, e6⟩ := hr
  injection e1 with ea eb ec
  subst ea ec
  unfold maxLen at e3
  have hl : l.length = n := by simpa using e4
  have HL := Lib.hid hl
  have HC := Lib.hid e6
  clear e4 e5 e6 hl
  go_enter Tryz.func45, Tryz.ntmps45
  go_wp2_with fail
  go_loop [7] (fun i => ∃ k : Nat, k ≤ n ∧ i = .int .i64 k ∧ Hid (firstE l = firstE (l.drop k))) (fun i => n - (intOf i).toNat)
  case atStart => exact ⟨0, Nat.zero_le _, rfl, rfl⟩
  case round =>
    obtain ⟨k, hk, rfl, HF⟩ := hrel
    by_cases hlt : k < n
    · have hkr : k < l.length := by rw [HL.out]; exact hlt
      obtain ⟨g, o, hA, _, hcs⟩ := HC.out (by omega)
      subst hA
      have hst := HF.out.trans (firstE_step l k hkr)
      have c0 := hcs k _ (by rw [List.getElem?_map, List.getElem?_eq_getElem hkr]; rfl)
      clear hcs
      obtain ⟨z, hz⟩ : ∃ z, l[k] = z := ⟨_, rfl⟩
      rw [hz] at c0 hst
      clear hz
      by_cases h0 : z = 0
      · subst h0
        rw [if_pos rfl] at hst
        have HS := Lib.hid hst
        clear hst
        go_wp2_with fail
        go_round
        case rel => exact ⟨k + 1, by omega, by go_num, HS⟩
        case measure => simp [intOf]; omega
      · rw [if_neg h0] at hst
        have HS := Lib.hid hst
        have hne : (z != 0) = true := by rw [bne_iff_ne]; exact h0
        clear hst
        go_wp2_with fail
        go_ret
        exact ⟨ret_int HS.out.symm, 0, rfl⟩
    · obtain rfl : k = n := by omega
      have HS := Lib.hid (HF.out.trans (by rw [List.drop_of_length_le (by rw [HL.out]; exact Nat.le_refl _)]; rfl : _ = (0 : Int)))
      go_wp2_with fail
      go_ret
      exact ⟨ret_int HS.out.symm, 0, rfl⟩

end Go.Proofs.YtlkapcjofgpiiaaGreatDoor
/-
  The order of gifts: cmp.Compare, cmp.Or, byGift and giftOrder by contracts.
-/
namespace Go.Proofs.YtlkapcjofgpiiaaGreatDoor
open Go Go.RowKit

def cmpS (a b : ByteArray) : Int := Lib.compareBytes a.data.toList b.data.toList
theorem cmpL_le : ∀ a b : List UInt8, decide (Lib.compareBytes a b ≤ 0) = (Op.bytesLess a b || a == b)
  | [], [] => rfl
  | [], _ :: _ => rfl
  | _ :: _, [] => rfl
  | a :: p, b :: q => by
    have ih := cmpL_le p q
    unfold Lib.compareBytes Op.bytesLess
    by_cases h1 : a < b
    · simp [h1]
    · by_cases h2 : b < a
      · have hne : ¬ a = b := fun e => by subst e; exact h1 h2
        simp [h1, h2, hne]
      · have he : a = b := UInt8.le_antisymm (UInt8.not_lt.1 h2) (UInt8.not_lt.1 h1)
        subst he
        rw [if_neg h1, if_neg h1, ih]
        simp [h1]
theorem cmpL_ge : ∀ a b : List UInt8, decide (0 ≤ Lib.compareBytes b a) = (Op.bytesLess a b || a == b)
  | [], [] => rfl
  | [], _ :: _ => rfl
  | _ :: _, [] => rfl
  | a :: p, b :: q => by
    have ih := cmpL_ge p q
    unfold Lib.compareBytes Op.bytesLess
    by_cases h1 : a < b
    · have h2 : ¬ b < a := fun h2 => UInt8.lt_irrefl _ (UInt8.lt_trans h1 h2)
      simp [h1, h2]
    · by_cases h2 : b < a
      · have hne : ¬ a = b := fun e => by subst e; exact h1 h2
        simp [h1, h2, hne]
      · have he : a = b := UInt8.le_antisymm (UInt8.not_lt.1 h2) (UInt8.not_lt.1 h1)
        subst he
        rw [if_neg h1, if_neg h1, ih]
        simp [h1]
theorem cmpS_le (a b : ByteArray) : decide (cmpS a b ≤ 0) = leS a b := by
  unfold cmpS leS
  rw [cmpL_le, Lib.toList_data, Lib.toList_data]
theorem cmpS_ge (a b : ByteArray) : decide (0 ≤ cmpS b a) = leS a b := by
  unfold cmpS leS
  rw [cmpL_ge, Lib.toList_data, Lib.toList_data]
end Go.Proofs.YtlkapcjofgpiiaaGreatDoor
/-
  Strings in order: transitive, total, antisymmetric. No Go text is named here.
-/
namespace Go.Proofs.YtlkapcjofgpiiaaGreatDoor
open Go Go.RowKit

theorem gt_trans : ∀ x y z : List UInt8, 0 < Lib.compareBytes x y → 0 < Lib.compareBytes y z → 0 < Lib.compareBytes x z
  | [], [], _, h, _ => by simp [Lib.compareBytes] at h
  | [], _ :: _, _, h, _ => by simp [Lib.compareBytes] at h
  | _ :: _, [], [], _, h => by simp [Lib.compareBytes] at h
  | _ :: _, [], _ :: _, _, h => by simp [Lib.compareBytes] at h
  | _ :: _, _ :: _, [], _, _ => by simp [Lib.compareBytes]
  | a :: p, b :: q, c :: r, h1, h2 => by
    have ih := gt_trans p q r
    unfold Lib.compareBytes at h1 h2 ⊢
    by_cases a1 : a < b
    · rw [if_pos a1] at h1; exact absurd h1 (by decide)
    by_cases b1 : b < c
    · rw [if_pos b1] at h2; exact absurd h2 (by decide)
    rw [if_neg a1] at h1
    rw [if_neg b1] at h2
    by_cases a2 : b < a
    · by_cases b2 : c < b
      · have hc := UInt8.lt_trans b2 a2
        rw [if_neg (fun h => UInt8.lt_irrefl _ (UInt8.lt_trans h hc)), if_pos hc]
        decide
      · have e : b = c := UInt8.le_antisymm (UInt8.not_lt.1 b2) (UInt8.not_lt.1 b1)
        subst e
        rw [if_neg a1, if_pos a2]
        decide
    · have e : a = b := UInt8.le_antisymm (UInt8.not_lt.1 a2) (UInt8.not_lt.1 a1)
      subst e
      by_cases b2 : c < a
      · rw [if_neg b1, if_pos b2]
        decide
      · have e : a = c := UInt8.le_antisymm (UInt8.not_lt.1 b2) (UInt8.not_lt.1 b1)
        subst e
        rw [if_neg a2] at h1
        rw [if_neg b2] at h2
        rw [if_neg b1, if_neg b2]
        exact ih h1 h2
/-- one name behind another one -/
def gtS (a b : ByteArray) : Prop := leS a b = false
theorem gtS_iff (a b : ByteArray) : gtS a b ↔ 0 < cmpS a b := by
  unfold gtS
  rw [← cmpS_le]
  simp
theorem gtS.trans {a b c : ByteArray} (h1 : gtS a b) (h2 : gtS b c) : gtS a c :=
  (gtS_iff a c).2 (gt_trans _ _ _ ((gtS_iff a b).1 h1) ((gtS_iff b c).1 h2))
theorem cmpL_zero : ∀ a b : List UInt8, Lib.compareBytes a b = 0 → a = b
  | [], [], _ => rfl
  | [], _ :: _, h => by simp [Lib.compareBytes] at h
  | _ :: _, [], h => by simp [Lib.compareBytes] at h
  | a :: p, b :: q, h => by
    unfold Lib.compareBytes at h
    by_cases h1 : a < b
    · rw [if_pos h1] at h; exact absurd h (by decide)
    · by_cases h2 : b < a
      · rw [if_neg h1, if_pos h2] at h; exact absurd h (by decide)
      · rw [if_neg h1, if_neg h2] at h
        rw [cmpL_zero p q h, UInt8.le_antisymm (UInt8.not_lt.1 h2) (UInt8.not_lt.1 h1)]
theorem cmpS_zero {a b : ByteArray} (h : cmpS a b = 0) : a = b := by
  have := cmpL_zero _ _ h
  cases a; cases b
  congr
  exact Array.toList_inj.1 this
theorem leS_gt {a b : ByteArray} (h : gtS b a) : leS a b = true := by
  have := (gtS_iff b a).1 h
  rw [← cmpS_ge]
  simp
  omega
theorem leS_cases {a b : ByteArray} (h : leS a b = true) : gtS b a ∨ a = b := by
  rw [← cmpS_ge] at h
  have h : 0 ≤ cmpS b a := by simpa using h
  by_cases h0 : cmpS b a = 0
  · exact .inr (cmpS_zero h0).symm
  · exact .inl ((gtS_iff b a).2 (by omega))
theorem leS_trans {a b c : ByteArray} (h1 : leS a b = true) (h2 : leS b c = true) : leS a c = true := by
  rcases leS_cases h1 with h1 | rfl
  · rcases leS_cases h2 with h2 | rfl
    · exact leS_gt (h2.trans h1)
    · exact leS_gt h1
  · exact h2
end Go.Proofs.YtlkapcjofgpiiaaGreatDoor
/-
  How runs are split by a field, in plain words: counts by value, rising. No Go text is named here.
-/
namespace Go.Proofs.YtlkapcjofgpiiaaGreatDoor
open Go Go.RowKit

/-- the first value under a name -/
def fieldV (f : ByteArray) : List Pr → ByteArray
  | [] => ⟨#[]⟩
  | p :: ps => if p.1 = f then p.2 else fieldV f ps
def fieldH (f : ByteArray) : List Pr → Bool
  | [] => false
  | p :: ps => if p.1 = f then true else fieldH f ps
end Go.Proofs.YtlkapcjofgpiiaaGreatDoor
