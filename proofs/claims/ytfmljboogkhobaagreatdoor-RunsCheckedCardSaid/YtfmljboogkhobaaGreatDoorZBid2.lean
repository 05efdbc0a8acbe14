/-
  The order of gifts: cmp.Compare, cmp.Or, byGift and giftOrder by contracts.
-/
import Derived.Test.YtfmljboogkhobaaGreatDoorZBidPure
import Derived.Test.YtfmljboogkhobaaGreatDoorZScmp
import Derived.Test.YtfmljboogkhobaaGreatDoorZRat1
import Derived.Test.YtfmljboogkhobaaGreatDoorZSep
import Derived.Deep.RegionHeld3
import Derived.Test.YtfmljboogkhobaaGreatDoorZBase
import Derived.Deep.DeepCutAuto
namespace Go.Proofs.YtfmljboogkhobaaGreatDoor
open Go Go.RowKit

def cmpI (x y : Int) : Int := if x < y then -1 else if y < x then 1 else 0
def cmpS (a b : ByteArray) : Int := Lib.compareBytes a.data.toList b.data.toList
theorem cmpL_le : ∀ a b : List UInt8, decide (Lib.compareBytes a b ≤ 0) = (Op.bytesLess a b || a == b)
  | [], [] => rfl
  | [], _ :: _ => rfl
  | _ :: _, [] => rfl
  | a :: p, b :: q => by
    have ih := cmpL_le p q
    unfold Lib.compareBytes Op.bytesLess
    by_cases h1 : a < b
    · simp [h1]
    · by_cases h2 : b < a
      · have hne : ¬ a = b := fun e => by subst e; exact h1 h2
        simp [h1, h2, hne]
      · have he : a = b := UInt8.le_antisymm (UInt8.not_lt.1 h2) (UInt8.not_lt.1 h1)
        subst he
        rw [if_neg h1, if_neg h1, ih]
        simp [h1]
theorem cmpL_ge : ∀ a b : List UInt8, decide (0 ≤ Lib.compareBytes b a) = (Op.bytesLess a b || a == b)
  | [], [] => rfl
  | [], _ :: _ => rfl
  | _ :: _, [] => rfl
  | a :: p, b :: q => by
    have ih := cmpL_ge p q
    unfold Lib.compareBytes Op.bytesLess
    by_cases h1 : a < b
    · have h2 : ¬ b < a := fun h2 => UInt8.lt_irrefl _ (UInt8.lt_trans h1 h2)
      simp [h1, h2]
    · by_cases h2 : b < a
      · have hne : ¬ a = b := fun e => by subst e; exact h1 h2
        simp [h1, h2, hne]
      · have he : a = b := UInt8.le_antisymm (UInt8.not_lt.1 h2) (UInt8.not_lt.1 h1)
        subst he
        rw [if_neg h1, if_neg h1, ih]
        simp [h1]
theorem cmpS_le (a b : ByteArray) : decide (cmpS a b ≤ 0) = leS a b := by
  unfold cmpS leS
  rw [cmpL_le, Lib.toList_data, Lib.toList_data]
theorem cmpS_ge (a b : ByteArray) : decide (0 ≤ cmpS b a) = leS a b := by
  unfold cmpS leS
  rw [cmpL_ge, Lib.toList_data, Lib.toList_data]
def ordP (x y : Gf) : Int := firstE [cmpI x.at_ y.at_, cmpS x.id y.id]
def ordQ (y x : Gf) : Int := if y.at_ ≠ x.at_ then cmpI y.at_ x.at_ else cmpS y.id x.id
theorem ordP_beh (y x : Gf) : decide (ordP x y ≤ 0) = behG y x := by
  unfold ordP behG firstE cmpI
  by_cases h1 : x.at_ < y.at_
  · simp [h1]
  · by_cases h2 : y.at_ < x.at_
    · have : ¬ x.at_ = y.at_ := by omega
      simp [h1, h2, this]
    · have : x.at_ = y.at_ := by omega
      rw [if_neg h1, if_neg h2, ← cmpS_le]
      simp [this, firstE]
      split <;> simp_all
theorem ordQ_beh (y x : Gf) : decide (0 ≤ ordQ y x) = behG y x := by
  unfold ordQ behG cmpI
  by_cases h1 : x.at_ < y.at_
  · have h2 : ¬ y.at_ < x.at_ := by omega
    have h3 : y.at_ ≠ x.at_ := by omega
    rw [if_pos h3, if_neg h2, if_pos h1]
    simp [h1]
  · by_cases h2 : y.at_ < x.at_
    · have h3 : ¬ x.at_ = y.at_ := by omega
      have h4 : y.at_ ≠ x.at_ := by omega
      rw [if_pos h4, if_pos h2]
      simp [h1, h3]
    · have h3 : x.at_ = y.at_ := by omega
      rw [if_neg (by omega), cmpS_ge]
      simp [h3]
end Go.Proofs.YtfmljboogkhobaaGreatDoor
/-
  byGift and giftOrder by contracts.
-/
namespace Go.Proofs.YtfmljboogkhobaaGreatDoor
open Go Go.RowKit

theorem cmpI_sub (a b : Int) : cmpI (a - b) 0 = cmpI a b := by
  unfold cmpI
  by_cases h1 : a < b
  · rw [if_pos h1, if_pos (by omega)]
  · by_cases h2 : b < a
    · rw [if_neg h1, if_pos h2, if_neg (by omega), if_pos (by omega)]
    · rw [if_neg h1, if_neg h2, if_neg (by omega), if_neg (by omega)]
theorem strCmp_calls (a b : ByteArray) (w : World) : Calls Tryz.prog 75 #[.string a, .string b] w fun e w' => e = .returned (.int .i64 (cmpS a b)) ∧ w = w' :=
  (Tryz.strings_Compare a b w).mono (fun _ _ h => ⟨h.1, h.2.symm⟩)
end Go.Proofs.YtfmljboogkhobaaGreatDoor
