/-
  Numbers, on: base.Lowest (its loop over uint64), in, Out, sign by contracts.
-/
import Derived.Test.YtlfhommeomchoaaNum
namespace Go.Proofs.Ytlfhommeomchoaa
open Go Go.RowKit

/-- is n not from lo to hi? -/
def outB (n lo hi : Int) : Bool := decide (n < lo ∨ hi < n)
theorem outB_t {n lo hi : Int} (h : n < lo ∨ hi < n) : outB n lo hi = true := by unfold outB; simpa using h
theorem outB_f {n lo hi : Int} (h : lo ≤ n) (h' : n ≤ hi) : outB n lo hi = false := by unfold outB; simp; omega
theorem of_outB {n lo hi : Int} (h : outB n lo hi = false) : lo ≤ n ∧ n ≤ hi := by unfold outB at h; simp at h; exact h

theorem out_calls (n lo hi : Int) (w : World) : Calls Try.prog 92 #[.int .i64 n, .int .i64 lo, .int .i64 hi] w fun e w' => e = .returned (.bool (outB n lo hi)) ∧ w = w' := by
  by_cases h1 : n < lo
  · rw [outB_t (.inl h1)]
    go_enter Try.func92, Try.ntmps92
    go_wp2
    go_ret
    exact ⟨rfl, rfl⟩
  · by_cases h2 : hi < n
    · rw [outB_t (.inr h2)]
      go_enter Try.func92, Try.ntmps92
      go_wp2
      go_ret
      exact ⟨rfl, rfl⟩
    · rw [outB_f (by omega) (by omega)]
      go_enter Try.func92, Try.ntmps92
      go_wp2
      go_ret
      exact ⟨rfl, rfl⟩

theorem in_calls (n lo hi : Int) (w : World) : Calls Try.prog 73 #[.int .i64 n, .int .i64 lo, .int .i64 hi] w fun e w' => e = .returned (.bool (!outB n lo hi)) ∧ w = w' := by
  by_cases h1 : n < lo
  · rw [outB_t (.inl h1)]
    have h1' : ¬ lo ≤ n := by omega
    go_enter Try.func73, Try.ntmps73
    go_wp2
    go_ret
    exact ⟨rfl, rfl⟩
  · by_cases h2 : hi < n
    · rw [outB_t (.inr h2)]
      have h1' : lo ≤ n := by omega
      have h2' : ¬ n ≤ hi := by omega
      go_enter Try.func73, Try.ntmps73
      go_wp2
      go_ret
      exact ⟨rfl, rfl⟩
    · rw [outB_f (by omega) (by omega)]
      have h1' : lo ≤ n := by omega
      have h2' : n ≤ hi := by omega
      go_enter Try.func73, Try.ntmps73
      go_wp2
      go_ret
      exact ⟨rfl, rfl⟩

theorem sign_calls (n : Int) (w : World) : Calls Try.prog 75 #[.int .i64 n] w fun e w' => e = .returned (.int .i64 (RatP.sgn n)) ∧ w = w' := by
  unfold RatP.sgn
  by_cases h1 : n < 0
  · rw [if_pos h1]
    go_enter Try.func75, Try.ntmps75
    go_wp2
    go_ret
    exact ⟨rfl, rfl⟩
  · rw [if_neg h1]
    by_cases h2 : 0 < n
    · rw [if_pos h2]
      go_enter Try.func75, Try.ntmps75
      go_wp2
      go_ret
      exact ⟨rfl, rfl⟩
    · rw [if_neg h2]
      go_enter Try.func75, Try.ntmps75
      go_wp2
      go_ret
      exact ⟨rfl, rfl⟩

/-- is n / d in lowest terms? -/
def lowB (n d : Int) : Bool := decide (Int.gcd n d = 1)

theorem u64_neg {n : Int} (h : n < 0) (h' : -9223372036854775808 ≤ n) : Value.int .u64 (IntKind.u64.wrap (-IntKind.u64.wrap n)) = .int .u64 (n.natAbs : Nat) := by
  congr 1
  simp only [IntKind.wrap_u64]
  omega
theorem u64_cast {n : Int} {m : Nat} (h : n = (m : Int)) : Value.int .u64 n = .int .u64 (m : Nat) := by rw [h]

theorem lowestB_calls (n d : Int) (w : World) (hn0 : -9223372036854775808 ≤ n) (hn1 : n ≤ 9223372036854775807) (hd0 : 1 ≤ d) (hd1 : d ≤ 9223372036854775807) :
    Calls Try.prog 114 #[.agg #[.int .i64 n, .int .i64 d]] w (BRet (.bool (lowB n d)) w) := by
  obtain ⟨G, hG, hl⟩ : ∃ G, Nat.gcd n.natAbs d.toNat = G ∧ lowB n d = decide (G = 1) := ⟨Int.gcd n d, by show _ = Nat.gcd n.natAbs d.natAbs; congr 1; omega, rfl⟩
  rw [hl]
  clear hl
  have HG := Lib.hid hG
  clear hG
  by_cases hs : n < 0
  · go_enter Try.func114, Try.ntmps114
    go_wp2_with fail
    go_quiet (fail)
    go_wp2_with fail
    go_loopw [3, 4] (fun u v wr => ∃ (x y : Nat), u = .int .u64 x ∧ v = .int .u64 y ∧ x ≤ 9223372036854775808 ∧ y ≤ 9223372036854775808 ∧ Hid (Nat.gcd x y = G) ∧ Below w.heap.size w wr) (fun _ v _ => (intOf v).toNat)
    case atStart => exact ⟨n.natAbs, d.toNat, u64_neg (by omega) (by omega), u64_cast (by omega), by omega, by omega, HG, below_drewN ((Below.refl _ _).alloc (Nat.le_refl _) _) _⟩
    case round =>
      obtain ⟨x, y, rfl, rfl, hx, hy, HX, hbl⟩ := hrel
      by_cases h0 : y = 0
      · subst h0
        have hx1 : (((x : Nat) : Int) == 1) = decide (G = 1) := by
          have := HX.out
          rw [Nat.gcd_zero_right] at this
          subst this
          rw [Bool.eq_iff_iff]; simp; omega
        have H1 := Lib.hid hx1
        clear hx1
        go_wp2
        rw [H1.out]
        go_ret
        exact ⟨rfl, hbl⟩
      · have hb0 : ((y : Int) != 0) = true := by rw [bne_iff_ne]; omega
        have hy0 : (0 : Int) < (y : Int) := by omega
        have hlt := Nat.mod_lt x (show y > 0 by omega)
        have em : (x : Int) % (y : Int) = ((x % y : Nat) : Int) := by simp
        go_wp2_with fail
        go_quiet (fail)
        rw [em]
        go_wp2
        go_roundw
        case rel => exact ⟨y, x % y, rfl, rfl, by omega, by omega, (show Nat.gcd y (x % y) = G by rw [← HX.out, Nat.gcd_comm x y, Nat.gcd_rec y x, Nat.gcd_comm]), below_drewN hbl _⟩
        case measure => simp [intOf]; omega
  · go_enter Try.func114, Try.ntmps114
    go_wp2_with fail
    go_quiet (fail)
    go_wp2_with fail
    go_loopw [3, 4] (fun u v wr => ∃ (x y : Nat), u = .int .u64 x ∧ v = .int .u64 y ∧ x ≤ 9223372036854775808 ∧ y ≤ 9223372036854775808 ∧ Hid (Nat.gcd x y = G) ∧ Below w.heap.size w wr) (fun _ v _ => (intOf v).toNat)
    case atStart => exact ⟨n.natAbs, d.toNat, u64_cast (by omega), u64_cast (by omega), by omega, by omega, HG, below_drewN ((Below.refl _ _).alloc (Nat.le_refl _) _) _⟩
    case round =>
      obtain ⟨x, y, rfl, rfl, hx, hy, HX, hbl⟩ := hrel
      by_cases h0 : y = 0
      · subst h0
        have hx1 : (((x : Nat) : Int) == 1) = decide (G = 1) := by
          have := HX.out
          rw [Nat.gcd_zero_right] at this
          subst this
          rw [Bool.eq_iff_iff]; simp; omega
        have H1 := Lib.hid hx1
        clear hx1
        go_wp2
        rw [H1.out]
        go_ret
        exact ⟨rfl, hbl⟩
      · have hb0 : ((y : Int) != 0) = true := by rw [bne_iff_ne]; omega
        have hy0 : (0 : Int) < (y : Int) := by omega
        have hlt := Nat.mod_lt x (show y > 0 by omega)
        have em : (x : Int) % (y : Int) = ((x % y : Nat) : Int) := by simp
        go_wp2_with fail
        go_quiet (fail)
        rw [em]
        go_wp2
        go_roundw
        case rel => exact ⟨y, x % y, rfl, rfl, by omega, by omega, (show Nat.gcd y (x % y) = G by rw [← HX.out, Nat.gcd_comm x y, Nat.gcd_rec y x, Nat.gcd_comm]), below_drewN hbl _⟩
        case measure => simp [intOf]; omega
end Go.Proofs.Ytlfhommeomchoaa
