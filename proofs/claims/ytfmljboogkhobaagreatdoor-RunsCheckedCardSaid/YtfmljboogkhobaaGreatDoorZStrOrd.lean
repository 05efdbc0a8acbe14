/-
  Strings in order: transitive, total, antisymmetric. No Go text is named here.
-/
import Derived.Test.YtfmljboogkhobaaGreatDoorZBid2
import Derived.Test.YtfmljboogkhobaaGreatDoorZKey
namespace Go.Proofs.YtfmljboogkhobaaGreatDoor
open Go Go.RowKit

theorem gt_trans : ∀ x y z : List UInt8, 0 < Lib.compareBytes x y → 0 < Lib.compareBytes y z → 0 < Lib.compareBytes x z
  | [], [], _, h, _ => by simp [Lib.compareBytes] at h
  | [], _ :: _, _, h, _ => by simp [Lib.compareBytes] at h
  | _ :: _, [], [], _, h => by simp [Lib.compareBytes] at h
  | _ :: _, [], _ :: _, _, h => by simp [Lib.compareBytes] at h
  | _ :: _, _ :: _, [], _, _ => by simp [Lib.compareBytes]
  | a :: p, b :: q, c :: r, h1, h2 => by
    have ih := gt_trans p q r
    unfold Lib.compareBytes at h1 h2 ⊢
    by_cases a1 : a < b
    · rw [if_pos a1] at h1; exact absurd h1 (by decide)
    by_cases b1 : b < c
    · rw [if_pos b1] at h2; exact absurd h2 (by decide)
    rw [if_neg a1] at h1
    rw [if_neg b1] at h2
    by_cases a2 : b < a
    · by_cases b2 : c < b
      · have hc := UInt8.lt_trans b2 a2
        rw [if_neg (fun h => UInt8.lt_irrefl _ (UInt8.lt_trans h hc)), if_pos hc]
        decide
      · have e : b = c := UInt8.le_antisymm (UInt8.not_lt.1 b2) (UInt8.not_lt.1 b1)
        subst e
        rw [if_neg a1, if_pos a2]
        decide
    · have e : a = b := UInt8.le_antisymm (UInt8.not_lt.1 a2) (UInt8.not_lt.1 a1)
      subst e
      by_cases b2 : c < a
      · rw [if_neg b1, if_pos b2]
        decide
      · have e : a = c := UInt8.le_antisymm (UInt8.not_lt.1 b2) (UInt8.not_lt.1 b1)
        subst e
        rw [if_neg a2] at h1
        rw [if_neg b2] at h2
        rw [if_neg b1, if_neg b2]
        exact ih h1 h2
theorem gt_irr : ∀ x : List UInt8, Lib.compareBytes x x = 0
  | [] => by simp [Lib.compareBytes]
  | a :: p => by
    unfold Lib.compareBytes
    rw [if_neg (UInt8.lt_irrefl a), if_neg (UInt8.lt_irrefl a)]
    exact gt_irr p
/-- one name behind another one -/
def gtS (a b : ByteArray) : Prop := leS a b = false
theorem gtS_iff (a b : ByteArray) : gtS a b ↔ 0 < cmpS a b := by
  unfold gtS
  rw [← cmpS_le]
  simp
theorem gtS.trans {a b c : ByteArray} (h1 : gtS a b) (h2 : gtS b c) : gtS a c :=
  (gtS_iff a c).2 (gt_trans _ _ _ ((gtS_iff a b).1 h1) ((gtS_iff b c).1 h2))
theorem cmpL_zero : ∀ a b : List UInt8, Lib.compareBytes a b = 0 → a = b
  | [], [], _ => rfl
  | [], _ :: _, h => by simp [Lib.compareBytes] at h
  | _ :: _, [], h => by simp [Lib.compareBytes] at h
  | a :: p, b :: q, h => by
    unfold Lib.compareBytes at h
    by_cases h1 : a < b
    · rw [if_pos h1] at h; exact absurd h (by decide)
    · by_cases h2 : b < a
      · rw [if_neg h1, if_pos h2] at h; exact absurd h (by decide)
      · rw [if_neg h1, if_neg h2] at h
        rw [cmpL_zero p q h, UInt8.le_antisymm (UInt8.not_lt.1 h2) (UInt8.not_lt.1 h1)]
theorem cmpS_zero {a b : ByteArray} (h : cmpS a b = 0) : a = b := by
  have := cmpL_zero _ _ h
  cases a; cases b
  congr
  exact Array.toList_inj.1 this
theorem leS_gt {a b : ByteArray} (h : gtS b a) : leS a b = true := by
  have := (gtS_iff b a).1 h
  rw [← cmpS_ge]
  simp
  omega
theorem leS_cases {a b : ByteArray} (h : leS a b = true) : gtS b a ∨ a = b := by
  rw [← cmpS_ge] at h
  have h : 0 ≤ cmpS b a := by simpa using h
  by_cases h0 : cmpS b a = 0
  · exact .inr (cmpS_zero h0).symm
  · exact .inl ((gtS_iff b a).2 (by omega))
theorem leS_self (a : ByteArray) : leS a a = true := by
  rw [← cmpS_ge]
  have := gt_irr a.data.toList
  simp [cmpS, this]
theorem leS_trans {a b c : ByteArray} (h1 : leS a b = true) (h2 : leS b c = true) : leS a c = true := by
  rcases leS_cases h1 with h1 | rfl
  · rcases leS_cases h2 with h2 | rfl
    · exact leS_gt (h2.trans h1)
    · exact leS_gt h1
  · exact h2
theorem leS_anti {a b : ByteArray} (h1 : leS a b = true) (h2 : leS b a = true) : a = b := by
  rcases leS_cases h1 with h1 | h1
  · unfold gtS at h1
    rw [h1] at h2
    exact absurd h2 (by decide)
  · exact h1
end Go.Proofs.YtfmljboogkhobaaGreatDoor
