/-
  Numbers: Gcd, Lowest, Fraction, divisor, plus, sign, in, Out by contracts.
-/
import Derived.Test.YtfmljboogkhobaaGreatDoorZBase
import Derived.Test.YtfmljboogkhobaaGreatDoorProg
import Derived.Test.YtfmljboogkhobaaGreatDoorZRatPure
import Derived.RegionTactic
import Derived.BigRegion
import Derived.Outline
namespace Go.Proofs.YtfmljboogkhobaaGreatDoor
open Go Go.RowKit

theorem QRet.b {v : Value} {w w' : World} {e : Ending} (h : QRet v w e w') : BRet v w e w' := by
  obtain ⟨rfl, n, rfl⟩ := h
  exact ⟨rfl, below_drewN (Below.refl _ _) n⟩

theorem ret_bool {a b : Bool} (h : a = b) : Ending.returned (.bool a) = .returned (.bool b) := by rw [h]
theorem drew_add (w : World) (a b : Nat) : (w.drewN a).drewN b = w.drewN (a + b) := by rw [World.drewN_drewN]
theorem gcd_step {a b : Int} (G : Nat) (h : Int.gcd a b = G) : Int.gcd b (a.tmod b) = G := by
  rw [← h, Int.gcd_comm a b]
  show Nat.gcd b.natAbs (a.tmod b).natAbs = Nat.gcd b.natAbs a.natAbs
  rw [Int.natAbs_tmod, Nat.gcd_rec b.natAbs a.natAbs, Nat.gcd_comm]
theorem tmod_abs {a b : Int} (h : b ≠ 0) : (a.tmod b).natAbs < b.natAbs := by
  rw [Int.natAbs_tmod]
  exact Nat.mod_lt _ (by omega)

/-- a fraction was returned -/
def FracB (n d : Int) (w : World) (e : Ending) (w' : World) : Prop := e = .returned (.agg #[.int .i64 n, .int .i64 d]) ∧ Below w.heap.size w w'

theorem quo_exact {n d : Int} {G : Nat} (h : Int.gcd n d = G) (hd : 0 < d) : n.tdiv (G : Int) = RatP.lowN n d ∧ d / (G : Int) = RatP.lowD n d ∧ 0 < (G : Int) := by
  have hp : 0 < Int.gcd n d := Int.gcd_pos_of_ne_zero_right _ (by omega)
  subst h
  refine ⟨?_, ?_, by omega⟩
  · unfold RatP.lowN
    exact Int.tdiv_eq_ediv_of_dvd (Int.gcd_dvd_left n d)
  · rfl

end Go.Proofs.YtfmljboogkhobaaGreatDoor
/-
  Numbers, on: base.Lowest (its loop over uint64), in, Out, sign by contracts.
-/
namespace Go.Proofs.YtfmljboogkhobaaGreatDoor
open Go Go.RowKit

/-- is n not from lo to hi? -/
def outB (n lo hi : Int) : Bool := decide (n < lo ∨ hi < n)
theorem outB_t {n lo hi : Int} (h : n < lo ∨ hi < n) : outB n lo hi = true := by unfold outB; simpa using h
theorem outB_f {n lo hi : Int} (h : lo ≤ n) (h' : n ≤ hi) : outB n lo hi = false := by unfold outB; simp; omega
theorem of_outB {n lo hi : Int} (h : outB n lo hi = false) : lo ≤ n ∧ n ≤ hi := by unfold outB at h; simp at h; exact h

theorem out_calls (n lo hi : Int) (w : World) : Calls Tryz.prog 80 #[.int .i64 n, .int .i64 lo, .int .i64 hi] w fun e w' => e = .returned (.bool (outB n lo hi)) ∧ w = w' := by
  by_cases h1 : n < lo
  · rw [outB_t (.inl h1)]
    go_enter Tryz.func80, Tryz.ntmps80
    go_wp2
    go_ret
    exact ⟨rfl, rfl⟩
  · by_cases h2 : hi < n
    · rw [outB_t (.inr h2)]
      go_enter Tryz.func80, Tryz.ntmps80
      go_wp2
      go_ret
      exact ⟨rfl, rfl⟩
    · rw [outB_f (by omega) (by omega)]
      go_enter Tryz.func80, Tryz.ntmps80
      go_wp2
      go_ret
      exact ⟨rfl, rfl⟩

theorem in_calls (n lo hi : Int) (w : World) : Calls Tryz.prog 83 #[.int .i64 n, .int .i64 lo, .int .i64 hi] w fun e w' => e = .returned (.bool (!outB n lo hi)) ∧ w = w' := by
  by_cases h1 : n < lo
  · rw [outB_t (.inl h1)]
    have h1' : ¬ lo ≤ n := by omega
    go_enter Tryz.func83, Tryz.ntmps83
    go_wp2
    go_ret
    exact ⟨rfl, rfl⟩
  · by_cases h2 : hi < n
    · rw [outB_t (.inr h2)]
      have h1' : lo ≤ n := by omega
      have h2' : ¬ n ≤ hi := by omega
      go_enter Tryz.func83, Tryz.ntmps83
      go_wp2
      go_ret
      exact ⟨rfl, rfl⟩
    · rw [outB_f (by omega) (by omega)]
      have h1' : lo ≤ n := by omega
      have h2' : n ≤ hi := by omega
      go_enter Tryz.func83, Tryz.ntmps83
      go_wp2
      go_ret
      exact ⟨rfl, rfl⟩


/-- is n / d in lowest terms? -/
def lowB (n d : Int) : Bool := decide (Int.gcd n d = 1)

theorem u64_neg {n : Int} (h : n < 0) (h' : -9223372036854775808 ≤ n) : Value.int .u64 (IntKind.u64.wrap (-IntKind.u64.wrap n)) = .int .u64 (n.natAbs : Nat) := by
  congr 1
  simp only [IntKind.wrap_u64]
  omega
theorem u64_cast {n : Int} {m : Nat} (h : n = (m : Int)) : Value.int .u64 n = .int .u64 (m : Nat) := by rw [h]

end Go.Proofs.YtfmljboogkhobaaGreatDoor
