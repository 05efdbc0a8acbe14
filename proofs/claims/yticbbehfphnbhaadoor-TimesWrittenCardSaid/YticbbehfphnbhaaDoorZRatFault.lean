/-
  race.ratingFault and splitref2.RatingFault by contracts: both answer ratF.
-/
import Derived.Test.YticbbehfphnbhaaDoorZRatMake
import Derived.Test.YticbbehfphnbhaaDoorZKey
namespace Go.Proofs.YticbbehfphnbhaaDoor
open Go Go.RowKit

def ratF (n d : Int) : Int := if d < 1 ∨ ¬ Int.gcd n d = 1 then 3 else if ¬ 1000 % d = 0 ∨ n < -10000 * d ∨ 10000 * d < n then 1 else 0
theorem ratF_low {n d : Int} (h : d < 1) : ratF n d = 3 := by unfold ratF; rw [if_pos (.inl h)]
theorem ratF_gcd {n d : Int} (h : ¬ Int.gcd n d = 1) : ratF n d = 3 := by unfold ratF; rw [if_pos (.inr h)]
theorem ratF_mod {n d : Int} (h : 1 ≤ d) (hg : Int.gcd n d = 1) (hm : ¬ 1000 % d = 0) : ratF n d = 1 := by unfold ratF; rw [if_neg (by omega), if_pos (.inl hm)]
theorem ratF_out {n d : Int} (h : 1 ≤ d) (hg : Int.gcd n d = 1) (hm : n < -10000 * d ∨ 10000 * d < n) : ratF n d = 1 := by unfold ratF; rw [if_neg (by omega), if_pos (.inr hm)]
theorem ratF_ok {n d : Int} (h : 1 ≤ d) (hg : Int.gcd n d = 1) (hm : 1000 % d = 0) (h1 : -10000 * d ≤ n) (h2 : n ≤ 10000 * d) : ratF n d = 0 := by unfold ratF; rw [if_neg (by omega), if_neg (by omega)]
theorem mod_le {d : Int} (_h : 1 ≤ d) (hm : 1000 % d = 0) : d ≤ 1000 := by
  rcases Int.lt_or_le 1000 d with hl | hl
  · rw [Int.emod_eq_of_lt (by omega) hl] at hm; omega
  · exact hl

end Go.Proofs.YticbbehfphnbhaaDoor
