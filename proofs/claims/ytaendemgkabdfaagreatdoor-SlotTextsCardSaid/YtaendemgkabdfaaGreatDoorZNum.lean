/-
  Numbers: Gcd, Lowest, Fraction, divisor, plus, sign, in, Out by contracts.
-/
import Derived.Test.YtaendemgkabdfaaGreatDoorZBase
import Derived.Test.YtaendemgkabdfaaGreatDoorProg
import Derived.Test.YtaendemgkabdfaaGreatDoorZRatPure
import Derived.RegionTactic
import Derived.BigRegion
import Derived.Outline
namespace Go.Proofs.YtaendemgkabdfaaGreatDoor
open Go Go.RowKit

theorem QRet.b {v : Value} {w w' : World} {e : Ending} (h : QRet v w e w') : BRet v w e w' := by
  obtain ⟨rfl, n, rfl⟩ := h
  exact ⟨rfl, below_drewN (Below.refl _ _) n⟩

theorem ret_bool {a b : Bool} (h : a = b) : Ending.returned (.bool a) = .returned (.bool b) := by rw [h]
theorem drew_add (w : World) (a b : Nat) : (w.drewN a).drewN b = w.drewN (a + b) := by rw [World.drewN_drewN]
theorem gcd_calls (a b : Nat) (w : World) (ha : a ≤ 9223372036854775807) (hb : b ≤ 9223372036854775807) :
    Calls Tryz.prog 110 #[.int .i64 a, .int .i64 b] w (QRet (.int .i64 (Nat.gcd a b : Nat)) w) := by
  obtain ⟨G, hG⟩ : ∃ G, Nat.gcd a b = G := ⟨_, rfl⟩
  rw [hG]
  have HG := Lib.hid hG
  clear hG
  go_enter Tryz.func110, Tryz.ntmps110
  go_wp2
  go_loopw [0, 1] (fun u v wr => ∃ x y nq : Nat, u = .int .i64 x ∧ v = .int .i64 y ∧ x ≤ 9223372036854775807 ∧ y ≤ 9223372036854775807 ∧ Hid (Nat.gcd x y = G) ∧ wr = w.drewN nq) (fun _ v _ => (intOf v).toNat)
  case atStart => exact ⟨a, b, 0, rfl, rfl, ha, hb, HG, rfl⟩
  case round =>
    obtain ⟨x, y, nq, rfl, rfl, hx, hy, HX, rfl⟩ := hrel
    by_cases h0 : y = 0
    · subst h0
      go_wp2
      go_ret
      exact ⟨ret_int (by rw [← HX.out, Nat.gcd_zero_right]), nq, rfl⟩
    · have hb0 : ((y : Int) != 0) = true := by rw [bne_iff_ne]; omega
      have hy0 : (0 : Int) < (y : Int) := by omega
      have hlt := Nat.mod_lt x (show y > 0 by omega)
      have em : (x : Int) % (y : Int) = ((x % y : Nat) : Int) := by simp
      go_wp2_with fail
      go_quiet (fail)
      rw [em]
      go_wp2
      go_roundw
      case rel => exact ⟨y, x % y, _, rfl, rfl, hy, by omega, (show Nat.gcd y (x % y) = G by rw [← HX.out, Nat.gcd_comm x y, Nat.gcd_rec y x, Nat.gcd_comm]), drew_add _ _ _⟩
      case measure => simp [intOf]; omega

theorem gcd_step {a b : Int} (G : Nat) (h : Int.gcd a b = G) : Int.gcd b (a.tmod b) = G := by
  rw [← h, Int.gcd_comm a b]
  show Nat.gcd b.natAbs (a.tmod b).natAbs = Nat.gcd b.natAbs a.natAbs
  rw [Int.natAbs_tmod, Nat.gcd_rec b.natAbs a.natAbs, Nat.gcd_comm]
theorem tmod_abs {a b : Int} (h : b ≠ 0) : (a.tmod b).natAbs < b.natAbs := by
  rw [Int.natAbs_tmod]
  exact Nat.mod_lt _ (by omega)

/-- a fraction was returned -/
def FracB (n d : Int) (w : World) (e : Ending) (w' : World) : Prop := e = .returned (.agg #[.int .i64 n, .int .i64 d]) ∧ Below w.heap.size w w'

theorem quo_exact {n d : Int} {G : Nat} (h : Int.gcd n d = G) (hd : 0 < d) : n.tdiv (G : Int) = RatP.lowN n d ∧ d / (G : Int) = RatP.lowD n d ∧ 0 < (G : Int) := by
  have hp : 0 < Int.gcd n d := Int.gcd_pos_of_ne_zero_right _ (by omega)
  subst h
  refine ⟨?_, ?_, by omega⟩
  · unfold RatP.lowN
    exact Int.tdiv_eq_ediv_of_dvd (Int.gcd_dvd_left n d)
  · rfl

theorem gcd_callsI (a b : Int) (w : World) (ha0 : 0 ≤ a) (ha : a ≤ 9223372036854775807) (hb0 : 0 ≤ b) (hb : b ≤ 9223372036854775807) :
    Calls Tryz.prog 110 #[.int .i64 a, .int .i64 b] w (QRet (.int .i64 (Int.gcd a b : Nat)) w) := by
  obtain ⟨a, rfl⟩ := Int.eq_ofNat_of_zero_le ha0
  obtain ⟨b, rfl⟩ := Int.eq_ofNat_of_zero_le hb0
  exact gcd_calls a b w (by omega) (by omega)

theorem fraction_calls (n d : Int) (w : World) (hn0 : -9223372036854775807 ≤ n) (hn1 : n ≤ 9223372036854775807) (hd0 : 1 ≤ d) (hd1 : d ≤ 9223372036854775807) :
    Calls Tryz.prog 87 #[.int .i64 n, .int .i64 d] w (FracB (RatP.lowN n d) (RatP.lowD n d) w) := by
  obtain ⟨G, hG⟩ : ∃ G, Int.gcd n d = G := ⟨_, rfl⟩
  obtain ⟨q1, q2, q3⟩ := quo_exact hG (by omega)
  by_cases hs : 0 ≤ n
  · have hc := fun W => gcd_callsI n d W hs hn1 (by omega) hd1
    rw [hG] at hc
    have hq : n / (G : Int) = RatP.lowN n d := by rw [← hG]; rfl
    have g1 : n / (G : Int) ≤ n := Int.ediv_le_self _ hs
    have g2 : 0 ≤ n / (G : Int) := Int.ediv_nonneg hs (by omega)
    have g3 : d / (G : Int) ≤ d := Int.ediv_le_self _ (by omega)
    have g4 : 0 ≤ d / (G : Int) := Int.ediv_nonneg (by omega) (by omega)
    have HC := Lib.hid hc
    have HQ := Lib.hid hq
    have HQ2 := Lib.hid q2
    have hmx : ¬ n < -n := by omega
    clear hG hc q1 q2 hq
    go_enter Tryz.func87, Tryz.ntmps87
    go_wp2_with fail
    refine (HC.out _).mono ?_
    rintro e w' ⟨rfl, nq, rfl⟩
    go_wp2_with fail
    go_region
    go_wp2
    rw [HQ.out, HQ2.out]
    refine bodyPost_ret (v := .agg #[.int .i64 (RatP.lowN n d), .int .i64 (RatP.lowD n d)]) (by simp [results, Tryz.results87, go_sem]) rfl ⟨rfl, ?_⟩
    exact ((below_drewN (((Below.refl _ _).alloc (Nat.le_refl _) _)) _).setCell (p := ⟨w.heap.size, 0, none⟩) (Nat.le_refl _) _).setCell (p := ⟨w.heap.size, 1, none⟩) (Nat.le_refl _) _
  · have hc := fun W => gcd_callsI (-n) d W (by omega) (by omega) (by omega) hd1
    rw [show Int.gcd (-n) d = G from by rw [Int.neg_gcd, hG]] at hc
    have HC := Lib.hid hc
    have HQ := Lib.hid q1
    have HQ2 := Lib.hid q2
    have hmx : n < -n := by omega
    have g3 : d / (G : Int) ≤ d := Int.ediv_le_self _ (by omega)
    have g4 : 0 ≤ d / (G : Int) := Int.ediv_nonneg (by omega) (by omega)
    clear hG hc q1 q2
    go_enter Tryz.func87, Tryz.ntmps87
    go_wp2_with fail
    refine (HC.out _).mono ?_
    rintro e w' ⟨rfl, nq, rfl⟩
    go_wp2_with fail
    go_region
    go_wp2
    rw [HQ.out, HQ2.out]
    refine bodyPost_ret (v := .agg #[.int .i64 (RatP.lowN n d), .int .i64 (RatP.lowD n d)]) (by simp [results, Tryz.results87, go_sem]) rfl ⟨rfl, ?_⟩
    exact ((below_drewN (((Below.refl _ _).alloc (Nat.le_refl _) _)) _).setCell (p := ⟨w.heap.size, 0, none⟩) (Nat.le_refl _) _).setCell (p := ⟨w.heap.size, 1, none⟩) (Nat.le_refl _) _
end Go.Proofs.YtaendemgkabdfaaGreatDoor
/-
  Numbers, on: base.Lowest (its loop over uint64), in, Out, sign by contracts.
-/
namespace Go.Proofs.YtaendemgkabdfaaGreatDoor
open Go Go.RowKit

/-- is n not from lo to hi? -/
def outB (n lo hi : Int) : Bool := decide (n < lo ∨ hi < n)
theorem outB_t {n lo hi : Int} (h : n < lo ∨ hi < n) : outB n lo hi = true := by unfold outB; simpa using h
theorem outB_f {n lo hi : Int} (h : lo ≤ n) (h' : n ≤ hi) : outB n lo hi = false := by unfold outB; simp; omega
theorem of_outB {n lo hi : Int} (h : outB n lo hi = false) : lo ≤ n ∧ n ≤ hi := by unfold outB at h; simp at h; exact h

theorem out_calls (n lo hi : Int) (w : World) : Calls Tryz.prog 73 #[.int .i64 n, .int .i64 lo, .int .i64 hi] w fun e w' => e = .returned (.bool (outB n lo hi)) ∧ w = w' := by
  by_cases h1 : n < lo
  · rw [outB_t (.inl h1)]
    go_enter Tryz.func73, Tryz.ntmps73
    go_wp2
    go_ret
    exact ⟨rfl, rfl⟩
  · by_cases h2 : hi < n
    · rw [outB_t (.inr h2)]
      go_enter Tryz.func73, Tryz.ntmps73
      go_wp2
      go_ret
      exact ⟨rfl, rfl⟩
    · rw [outB_f (by omega) (by omega)]
      go_enter Tryz.func73, Tryz.ntmps73
      go_wp2
      go_ret
      exact ⟨rfl, rfl⟩

theorem in_calls (n lo hi : Int) (w : World) : Calls Tryz.prog 39 #[.int .i64 n, .int .i64 lo, .int .i64 hi] w fun e w' => e = .returned (.bool (!outB n lo hi)) ∧ w = w' := by
  by_cases h1 : n < lo
  · rw [outB_t (.inl h1)]
    have h1' : ¬ lo ≤ n := by omega
    go_enter Tryz.func39, Tryz.ntmps39
    go_wp2
    go_ret
    exact ⟨rfl, rfl⟩
  · by_cases h2 : hi < n
    · rw [outB_t (.inr h2)]
      have h1' : lo ≤ n := by omega
      have h2' : ¬ n ≤ hi := by omega
      go_enter Tryz.func39, Tryz.ntmps39
      go_wp2
      go_ret
      exact ⟨rfl, rfl⟩
    · rw [outB_f (by omega) (by omega)]
      have h1' : lo ≤ n := by omega
      have h2' : n ≤ hi := by omega
      go_enter Tryz.func39, Tryz.ntmps39
      go_wp2
      go_ret
      exact ⟨rfl, rfl⟩


/-- is n / d in lowest terms? -/
def lowB (n d : Int) : Bool := decide (Int.gcd n d = 1)

theorem u64_neg {n : Int} (h : n < 0) (h' : -9223372036854775808 ≤ n) : Value.int .u64 (IntKind.u64.wrap (-IntKind.u64.wrap n)) = .int .u64 (n.natAbs : Nat) := by
  congr 1
  simp only [IntKind.wrap_u64]
  omega
theorem u64_cast {n : Int} {m : Nat} (h : n = (m : Int)) : Value.int .u64 n = .int .u64 (m : Nat) := by rw [h]

theorem lowestB_calls (n d : Int) (w : World) (hn0 : -9223372036854775808 ≤ n) (hn1 : n ≤ 9223372036854775807) (hd0 : 1 ≤ d) (hd1 : d ≤ 9223372036854775807) :
    Calls Tryz.prog 109 #[.agg #[.int .i64 n, .int .i64 d]] w (BRet (.bool (lowB n d)) w) := by
  obtain ⟨G, hG, hl⟩ : ∃ G, Nat.gcd n.natAbs d.toNat = G ∧ lowB n d = decide (G = 1) := ⟨Int.gcd n d, by show _ = Nat.gcd n.natAbs d.natAbs; congr 1; omega, rfl⟩
  rw [hl]
  clear hl
  have HG := Lib.hid hG
  clear hG
  by_cases hs : n < 0
  · go_enter Tryz.func109, Tryz.ntmps109
    go_wp2_with fail
    go_quiet (fail)
    go_wp2_with fail
    go_loopw [3, 4] (fun u v wr => ∃ (x y : Nat), u = .int .u64 x ∧ v = .int .u64 y ∧ x ≤ 9223372036854775808 ∧ y ≤ 9223372036854775808 ∧ Hid (Nat.gcd x y = G) ∧ Below w.heap.size w wr) (fun _ v _ => (intOf v).toNat)
    case atStart => exact ⟨n.natAbs, d.toNat, u64_neg (by omega) (by omega), u64_cast (by omega), by omega, by omega, HG, below_drewN ((Below.refl _ _).alloc (Nat.le_refl _) _) _⟩
    case round =>
      obtain ⟨x, y, rfl, rfl, hx, hy, HX, hbl⟩ := hrel
      by_cases h0 : y = 0
      · subst h0
        have hx1 : (((x : Nat) : Int) == 1) = decide (G = 1) := by
          have := HX.out
          rw [Nat.gcd_zero_right] at this
          subst this
          rw [Bool.eq_iff_iff]; simp; omega
        have H1 := Lib.hid hx1
        clear hx1
        go_wp2
        rw [H1.out]
        go_ret
        exact ⟨rfl, hbl⟩
      · have hb0 : ((y : Int) != 0) = true := by rw [bne_iff_ne]; omega
        have hy0 : (0 : Int) < (y : Int) := by omega
        have hlt := Nat.mod_lt x (show y > 0 by omega)
        have em : (x : Int) % (y : Int) = ((x % y : Nat) : Int) := by simp
        go_wp2_with fail
        go_quiet (fail)
        rw [em]
        go_wp2
        go_roundw
        case rel => exact ⟨y, x % y, rfl, rfl, by omega, by omega, (show Nat.gcd y (x % y) = G by rw [← HX.out, Nat.gcd_comm x y, Nat.gcd_rec y x, Nat.gcd_comm]), below_drewN hbl _⟩
        case measure => simp [intOf]; omega
  · go_enter Tryz.func109, Tryz.ntmps109
    go_wp2_with fail
    go_quiet (fail)
    go_wp2_with fail
    go_loopw [3, 4] (fun u v wr => ∃ (x y : Nat), u = .int .u64 x ∧ v = .int .u64 y ∧ x ≤ 9223372036854775808 ∧ y ≤ 9223372036854775808 ∧ Hid (Nat.gcd x y = G) ∧ Below w.heap.size w wr) (fun _ v _ => (intOf v).toNat)
    case atStart => exact ⟨n.natAbs, d.toNat, u64_cast (by omega), u64_cast (by omega), by omega, by omega, HG, below_drewN ((Below.refl _ _).alloc (Nat.le_refl _) _) _⟩
    case round =>
      obtain ⟨x, y, rfl, rfl, hx, hy, HX, hbl⟩ := hrel
      by_cases h0 : y = 0
      · subst h0
        have hx1 : (((x : Nat) : Int) == 1) = decide (G = 1) := by
          have := HX.out
          rw [Nat.gcd_zero_right] at this
          subst this
          rw [Bool.eq_iff_iff]; simp; omega
        have H1 := Lib.hid hx1
        clear hx1
        go_wp2
        rw [H1.out]
        go_ret
        exact ⟨rfl, hbl⟩
      · have hb0 : ((y : Int) != 0) = true := by rw [bne_iff_ne]; omega
        have hy0 : (0 : Int) < (y : Int) := by omega
        have hlt := Nat.mod_lt x (show y > 0 by omega)
        have em : (x : Int) % (y : Int) = ((x % y : Nat) : Int) := by simp
        go_wp2_with fail
        go_quiet (fail)
        rw [em]
        go_wp2
        go_roundw
        case rel => exact ⟨y, x % y, rfl, rfl, by omega, by omega, (show Nat.gcd y (x % y) = G by rw [← HX.out, Nat.gcd_comm x y, Nat.gcd_rec y x, Nat.gcd_comm]), below_drewN hbl _⟩
        case measure => simp [intOf]; omega
end Go.Proofs.YtaendemgkabdfaaGreatDoor
