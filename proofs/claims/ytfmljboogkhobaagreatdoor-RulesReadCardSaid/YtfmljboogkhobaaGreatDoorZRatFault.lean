/-
  race.ratingFault and splitref2.RatingFault by contracts: both answer ratF.
-/
import Derived.Test.YtfmljboogkhobaaGreatDoorZRatMake
import Derived.Test.YtfmljboogkhobaaGreatDoorZKey
namespace Go.Proofs.YtfmljboogkhobaaGreatDoor
open Go Go.RowKit

def ratF (n d : Int) : Int := if d < 1 ∨ ¬ Int.gcd n d = 1 then 3 else if ¬ 1000 % d = 0 ∨ n < -10000 * d ∨ 10000 * d < n then 1 else 0
theorem ratF_low {n d : Int} (h : d < 1) : ratF n d = 3 := by unfold ratF; rw [if_pos (.inl h)]
theorem ratF_gcd {n d : Int} (h : ¬ Int.gcd n d = 1) : ratF n d = 3 := by unfold ratF; rw [if_pos (.inr h)]
theorem ratF_mod {n d : Int} (h : 1 ≤ d) (hg : Int.gcd n d = 1) (hm : ¬ 1000 % d = 0) : ratF n d = 1 := by unfold ratF; rw [if_neg (by omega), if_pos (.inl hm)]
theorem ratF_out {n d : Int} (h : 1 ≤ d) (hg : Int.gcd n d = 1) (hm : n < -10000 * d ∨ 10000 * d < n) : ratF n d = 1 := by unfold ratF; rw [if_neg (by omega), if_pos (.inr hm)]
theorem ratF_ok {n d : Int} (h : 1 ≤ d) (hg : Int.gcd n d = 1) (hm : 1000 % d = 0) (h1 : -10000 * d ≤ n) (h2 : n ≤ 10000 * d) : ratF n d = 0 := by unfold ratF; rw [if_neg (by omega), if_neg (by omega)]
theorem mod_le {d : Int} (_h : 1 ≤ d) (hm : 1000 % d = 0) : d ≤ 1000 := by
  rcases Int.lt_or_le 1000 d with hl | hl
  · rw [Int.emod_eq_of_lt (by omega) hl] at hm; omega
  · exact hl

end Go.Proofs.YtfmljboogkhobaaGreatDoor
/-
  race.CheckRated and splitref2.RatedFault by contracts: both answer ratedF.
-/
namespace Go.Proofs.YtfmljboogkhobaaGreatDoor
open Go Go.RowKit

/-- is a at most b, byte by byte? -/
def leS (a b : ByteArray) : Bool := Op.bytesLess a.toList b.toList || a.toList == b.toList
def ratedG : ByteArray → List Rtd → Int
  | _, [] => 0
  | last, r :: rs => if keyB r.1.data.toList = false then 5 else if leS r.1 last = true then 7 else if ratF r.2.1 r.2.2 = 0 then ratedG r.1 rs else ratF r.2.1 r.2.2
def ratedF (rs : List Rtd) : Int := if 128 < rs.length then 2 else ratedG ⟨#[]⟩ rs
/-- whom an element stands behind -/
def lastOf (rs : List Rtd) (k : Nat) : ByteArray := match k with | 0 => ⟨#[]⟩ | k + 1 => match rs[k]? with | some r => r.1 | none => ⟨#[]⟩

theorem ratedG_step (rs : List Rtd) (k : Nat) (hk : k < rs.length) : ratedG (lastOf rs k) (rs.drop k) =
    if keyB rs[k].1.data.toList = false then 5 else if leS rs[k].1 (lastOf rs k) = true then 7 else if ratF rs[k].2.1 rs[k].2.2 = 0 then ratedG (lastOf rs (k + 1)) (rs.drop (k + 1)) else ratF rs[k].2.1 rs[k].2.2 := by
  rw [List.drop_eq_getElem_cons hk, ratedG]
  have : lastOf rs (k + 1) = rs[k].1 := by simp [lastOf, hk]
  rw [this]
theorem le_nil {s : ByteArray} (h : keyB s.data.toList = true) : leS s ⟨#[]⟩ = false := by
  have hs : 0 < s.size := by
    rcases Nat.eq_zero_or_pos s.size with h0 | h0
    · rw [keyB_size (by simp; omega)] at h; cases h
    · exact h0
  have he := isEmpty_f hs
  unfold leS
  rw [Lib.toList_data ⟨#[]⟩]
  cases hl : s.toList with
  | nil => rw [hl] at he; cases he
  | cons a l => rfl

end Go.Proofs.YtfmljboogkhobaaGreatDoor
