/-
  The order of gifts: cmp.Compare, cmp.Or, byGift and giftOrder by contracts.
-/
import Derived.Test.YtejadhehmcifoaaZBidPure
import Derived.Test.YtejadhehmcifoaaZScmp
import Derived.Test.YtejadhehmcifoaaZRat1
import Derived.Test.YtejadhehmcifoaaZSep
import Derived.Deep.RegionHeld3
import Derived.Test.YtejadhehmcifoaaZBase
import Derived.Deep.DeepCutAuto
namespace Go.Proofs.Ytejadhehmcifoaa
open Go Go.RowKit

def cmpI (x y : Int) : Int := if x < y then -1 else if y < x then 1 else 0
def cmpS (a b : ByteArray) : Int := Lib.compareBytes a.data.toList b.data.toList
theorem cmpL_le : ∀ a b : List UInt8, decide (Lib.compareBytes a b ≤ 0) = (Op.bytesLess a b || a == b)
  | [], [] => rfl
  | [], _ :: _ => rfl
  | _ :: _, [] => rfl
  | a :: p, b :: q => by
    have ih := cmpL_le p q
    unfold Lib.compareBytes Op.bytesLess
    by_cases h1 : a < b
    · simp [h1]
    · by_cases h2 : b < a
      · have hne : ¬ a = b := fun e => by subst e; exact h1 h2
        simp [h1, h2, hne]
      · have he : a = b := UInt8.le_antisymm (UInt8.not_lt.1 h2) (UInt8.not_lt.1 h1)
        subst he
        rw [if_neg h1, if_neg h1, ih]
        simp [h1]
theorem cmpL_ge : ∀ a b : List UInt8, decide (0 ≤ Lib.compareBytes b a) = (Op.bytesLess a b || a == b)
  | [], [] => rfl
  | [], _ :: _ => rfl
  | _ :: _, [] => rfl
  | a :: p, b :: q => by
    have ih := cmpL_ge p q
    unfold Lib.compareBytes Op.bytesLess
    by_cases h1 : a < b
    · have h2 : ¬ b < a := fun h2 => UInt8.lt_irrefl _ (UInt8.lt_trans h1 h2)
      simp [h1, h2]
    · by_cases h2 : b < a
      · have hne : ¬ a = b := fun e => by subst e; exact h1 h2
        simp [h1, h2, hne]
      · have he : a = b := UInt8.le_antisymm (UInt8.not_lt.1 h2) (UInt8.not_lt.1 h1)
        subst he
        rw [if_neg h1, if_neg h1, ih]
        simp [h1]
theorem cmpS_le (a b : ByteArray) : decide (cmpS a b ≤ 0) = leS a b := by
  unfold cmpS leS
  rw [cmpL_le, Lib.toList_data, Lib.toList_data]
theorem cmpS_ge (a b : ByteArray) : decide (0 ≤ cmpS b a) = leS a b := by
  unfold cmpS leS
  rw [cmpL_ge, Lib.toList_data, Lib.toList_data]
def ordP (x y : Gf) : Int := firstE [cmpI x.at_ y.at_, cmpS x.id y.id]
def ordQ (y x : Gf) : Int := if y.at_ ≠ x.at_ then cmpI y.at_ x.at_ else cmpS y.id x.id
theorem ordP_beh (y x : Gf) : decide (ordP x y ≤ 0) = behG y x := by
  unfold ordP behG firstE cmpI
  by_cases h1 : x.at_ < y.at_
  · simp [h1]
  · by_cases h2 : y.at_ < x.at_
    · have : ¬ x.at_ = y.at_ := by omega
      simp [h1, h2, this]
    · have : x.at_ = y.at_ := by omega
      rw [if_neg h1, if_neg h2, ← cmpS_le]
      simp [this, firstE]
      split <;> simp_all
theorem ordQ_beh (y x : Gf) : decide (0 ≤ ordQ y x) = behG y x := by
  unfold ordQ behG cmpI
  by_cases h1 : x.at_ < y.at_
  · have h2 : ¬ y.at_ < x.at_ := by omega
    have h3 : y.at_ ≠ x.at_ := by omega
    rw [if_pos h3, if_neg h2, if_pos h1]
    simp [h1]
  · by_cases h2 : y.at_ < x.at_
    · have h3 : ¬ x.at_ = y.at_ := by omega
      have h4 : y.at_ ≠ x.at_ := by omega
      rw [if_pos h4, if_pos h2]
      simp [h1, h3]
    · have h3 : x.at_ = y.at_ := by omega
      rw [if_neg (by omega), cmpS_ge]
      simp [h3]
set_option maxRecDepth 100000 in
theorem isNaNI_calls (x : Int) (w : World) : Calls Try.prog 90 #[.int .i64 x] w fun e w' => e = .returned (.bool false) ∧ w = w' := by
  go_enter Try.func90, Try.ntmps90
  go_wp2_with fail
  go_ret
  exact ⟨ret_bool (by simp), rfl⟩
set_option maxRecDepth 100000 in
theorem cmpInt_calls (x y : Int) (w : World) : Calls Try.prog 60 #[.int .i64 x, .int .i64 y] w fun e w' => e = .returned (.int .i64 (cmpI x y)) ∧ w = w' := by
  by_cases h1 : x < y
  · have HS : Hid (cmpI x y = -1) := by unfold cmpI; rw [if_pos h1]; exact Lib.hid rfl
    go_enter Try.func60, Try.ntmps60
    go_wp2_with fail
    refine (isNaNI_calls _ _).mono ?_
    rintro e w1 ⟨rfl, rfl⟩
    go_wp2_with fail
    refine (isNaNI_calls _ _).mono ?_
    rintro e w1 ⟨rfl, rfl⟩
    go_wp2_with fail
    go_ret
    exact ⟨ret_int HS.out.symm, rfl⟩
  · by_cases h2 : y < x
    · have HS : Hid (cmpI x y = 1) := by unfold cmpI; rw [if_neg h1, if_pos h2]; exact Lib.hid rfl
      go_enter Try.func60, Try.ntmps60
      go_wp2_with fail
      refine (isNaNI_calls _ _).mono ?_
      rintro e w1 ⟨rfl, rfl⟩
      go_wp2_with fail
      refine (isNaNI_calls _ _).mono ?_
      rintro e w1 ⟨rfl, rfl⟩
      go_wp2_with fail
      go_ret
      exact ⟨ret_int HS.out.symm, rfl⟩
    · have HS : Hid (cmpI x y = 0) := by unfold cmpI; rw [if_neg h1, if_neg h2]; exact Lib.hid rfl
      go_enter Try.func60, Try.ntmps60
      go_wp2_with fail
      refine (isNaNI_calls _ _).mono ?_
      rintro e w1 ⟨rfl, rfl⟩
      go_wp2_with fail
      refine (isNaNI_calls _ _).mono ?_
      rintro e w1 ⟨rfl, rfl⟩
      go_wp2_with fail
      go_ret
      exact ⟨ret_int HS.out.symm, rfl⟩
set_option maxRecDepth 100000 in
/-- cmp.Or of two numbers -/
theorem or2_calls (x y : Int) (g : Nat) (W : World) (hB : Blk W g 3 #[.int .i64 x, .int .i64 y]) : Calls Try.prog 59 #[.slice (some ⟨g, 0, none⟩) 2 2] W (QRet (.int .i64 (firstE [x, y])) W) := by
  obtain ⟨y0, y1, _, _⟩ := Blk.two hB
  clear hB
  by_cases h1 : x = 0
  · subst h1
    by_cases h2 : y = 0
    · subst h2
      go_enter Try.func59, Try.ntmps59
      go_wp2_with fail
      go_loopw [8] (fun i wr => ∃ k : Nat, k ≤ 2 ∧ i = .int .i64 k ∧ wr = W) (fun i _ => 2 - (intOf i).toNat)
      case atStart => exact ⟨0, Nat.zero_le _, rfl, rfl⟩
      case round =>
        obtain ⟨k, hk, rfl, rfl⟩ := hrel
        rcases (show k = 0 ∨ k = 1 ∨ k = 2 by omega) with rfl | rfl | rfl
        · go_wp2_with fail
          go_roundw
          case rel => exact ⟨1, by omega, rfl, trivial⟩
          case measure => simp [intOf]
        · go_wp2_with fail
          go_roundw
          case rel => exact ⟨2, by omega, rfl, trivial⟩
          case measure => simp [intOf]
        · go_wp2_with fail
          go_ret
          exact ⟨rfl, 0, rfl⟩
    · have HS : Hid (firstE [0, y] = y) := by simp [firstE, h2]; exact Lib.hid trivial
      have e2 : (y != 0) = true := by simpa using h2
      rw [HS.out]
      go_enter Try.func59, Try.ntmps59
      go_wp2_with fail
      go_loopw [8] (fun i wr => ∃ k : Nat, k ≤ 1 ∧ i = .int .i64 k ∧ wr = W) (fun i _ => 2 - (intOf i).toNat)
      case atStart => exact ⟨0, Nat.zero_le _, rfl, rfl⟩
      case round =>
        obtain ⟨k, hk, rfl, rfl⟩ := hrel
        rcases (show k = 0 ∨ k = 1 by omega) with rfl | rfl
        · go_wp2_with fail
          go_roundw
          case rel => exact ⟨1, by omega, rfl, trivial⟩
          case measure => simp [intOf]
        · go_wp2_with fail
          go_ret
          exact ⟨rfl, 0, rfl⟩
  · have HS : Hid (firstE [x, y] = x) := Lib.hid (by simp [firstE, h1])
    have e2 : (x != 0) = true := by simpa using h1
    rw [HS.out]
    go_enter Try.func59, Try.ntmps59
    go_wp2_with fail
    go_loopw [8] (fun i wr => i = .int .i64 0 ∧ wr = W) (fun i _ => 2 - (intOf i).toNat)
    case atStart => exact ⟨rfl, rfl⟩
    case round =>
      obtain ⟨rfl, rfl⟩ := hrel
      go_wp2_with fail
      go_ret
      exact ⟨rfl, 0, rfl⟩
end Go.Proofs.Ytejadhehmcifoaa
/-
  byGift and giftOrder by contracts.
-/
namespace Go.Proofs.Ytejadhehmcifoaa
open Go Go.RowKit

theorem cmpI_sub (a b : Int) : cmpI (a - b) 0 = cmpI a b := by
  unfold cmpI
  by_cases h1 : a < b
  · rw [if_pos h1, if_pos (by omega)]
  · by_cases h2 : b < a
    · rw [if_neg h1, if_pos h2, if_neg (by omega), if_pos (by omega)]
    · rw [if_neg h1, if_neg h2, if_neg (by omega), if_neg (by omega)]
theorem strCmp_calls (a b : ByteArray) (w : World) : Calls Try.prog 54 #[.string a, .string b] w fun e w' => e = .returned (.int .i64 (cmpS a b)) ∧ w = w' :=
  (Try.strings_Compare a b w).mono (fun _ _ h => ⟨h.1, h.2.symm⟩)
end Go.Proofs.Ytejadhehmcifoaa
