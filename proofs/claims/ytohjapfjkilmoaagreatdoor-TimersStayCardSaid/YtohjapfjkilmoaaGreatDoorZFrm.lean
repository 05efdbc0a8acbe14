/-
  Rates and frames by contracts: rateFault, RateFault answer rtF; frameTime, framesLong answer FrmP.ft.
-/
import Derived.Test.YtohjapfjkilmoaaGreatDoorZNum
import Derived.Test.YtohjapfjkilmoaaGreatDoorZFrmPure
import Derived.Test.YtohjapfjkilmoaaGreatDoorZBase
namespace Go.Proofs.YtohjapfjkilmoaaGreatDoor
open Go Go.RowKit

/-- what is wrong with a rate -/
def rtF (N D : Int) : Int := if N < 1 ∨ D < 1 ∨ Int.gcd N D ≠ 1 then 3 else if 100000 < D ∨ 1000 * D < N then 1 else 0
theorem rtF_ok {N D : Int} (h : rtF N D = 0) : 1 ≤ N ∧ 1 ≤ D ∧ D ≤ 100000 ∧ N ≤ 1000 * D := by
  unfold rtF at h
  split at h
  · omega
  · split at h
    · omega
    · omega

set_option maxRecDepth 100000 in
theorem rateFault_calls (N D : Int) (w : World) (hN : I64 N) (hD : I64 D) :
    Calls Tryz.prog 28 #[.agg #[.int .i64 N, .int .i64 D]] w (BRet (.int .i64 (rtF N D)) w) := by
  obtain ⟨n1, n2⟩ := hN
  obtain ⟨d1, d2⟩ := hD
  by_cases h1 : N < 1
  · have hr : rtF N D = 3 := by unfold rtF; rw [if_pos (by omega)]
    rw [hr]
    clear hr
    go_enter Tryz.func28, Tryz.ntmps28
    go_wp2_with fail
    go_ret
    exact ⟨rfl, (Below.refl _ _).alloc (Nat.le_refl _) _⟩
  · by_cases h2 : D < 1
    · have hr : rtF N D = 3 := by unfold rtF; rw [if_pos (by omega)]
      rw [hr]
      clear hr
      go_enter Tryz.func28, Tryz.ntmps28
      go_wp2_with fail
      go_ret
      exact ⟨rfl, (Below.refl _ _).alloc (Nat.le_refl _) _⟩
    · obtain ⟨G, hG⟩ : ∃ G, Int.gcd N D = G := ⟨_, rfl⟩
      have hc := fun W => gcd_callsI N D W (by omega) (by omega) (by omega) (by omega)
      rw [hG] at hc
      have HC := Lib.hid hc
      by_cases h3 : G = 1
      · by_cases h4 : 100000 < D
        · have hr : rtF N D = 1 := by unfold rtF; rw [hG, if_neg (by omega), if_pos (by omega)]
          rw [hr]
          have hgb : (((G : Nat) : Int) != 1) = false := by rw [h3]; rfl
          clear hr hc hG h3
          go_enter Tryz.func28, Tryz.ntmps28
          go_wp2_with fail
          refine (HC.out _).mono ?_
          rintro e w1 ⟨rfl, nq, rfl⟩
          go_wp2_with fail
          go_ret
          exact ⟨rfl, below_drewN ((Below.refl _ _).alloc (Nat.le_refl _) _) _⟩
        · by_cases h5 : 1000 * D < N
          · have hr : rtF N D = 1 := by unfold rtF; rw [hG, if_neg (by omega), if_pos (by omega)]
            rw [hr]
            have hgb : (((G : Nat) : Int) != 1) = false := by rw [h3]; rfl
            clear hr hc hG h3
            go_enter Tryz.func28, Tryz.ntmps28
            go_wp2_with fail
            refine (HC.out _).mono ?_
            rintro e w1 ⟨rfl, nq, rfl⟩
            go_wp2_with fail
            go_ret
            exact ⟨rfl, below_drewN ((Below.refl _ _).alloc (Nat.le_refl _) _) _⟩
          · have hr : rtF N D = 0 := by unfold rtF; rw [hG, if_neg (by omega), if_neg (by omega)]
            rw [hr]
            have hgb : (((G : Nat) : Int) != 1) = false := by rw [h3]; rfl
            clear hr hc hG h3
            go_enter Tryz.func28, Tryz.ntmps28
            go_wp2_with fail
            refine (HC.out _).mono ?_
            rintro e w1 ⟨rfl, nq, rfl⟩
            go_wp2_with fail
            go_ret
            exact ⟨rfl, below_drewN ((Below.refl _ _).alloc (Nat.le_refl _) _) _⟩
      · have hr : rtF N D = 3 := by unfold rtF; rw [hG, if_pos (by omega)]
        rw [hr]
        have hgb : (((G : Nat) : Int) != 1) = true := by rw [bne_iff_ne]; omega
        clear hr hc hG h3
        go_enter Tryz.func28, Tryz.ntmps28
        go_wp2_with fail
        refine (HC.out _).mono ?_
        rintro e w1 ⟨rfl, nq, rfl⟩
        go_wp2_with fail
        go_ret
        exact ⟨rfl, below_drewN ((Below.refl _ _).alloc (Nat.le_refl _) _) _⟩

set_option maxRecDepth 100000 in
theorem frameTime_calls (n N D : Int) (w : World) (hn0 : -3000000000 ≤ n) (hn1 : n ≤ 10000000) (hN : 1 ≤ N) (hD : 1 ≤ D) (hD1 : D ≤ 100000) (hND : N ≤ 1000 * D) :
    Calls Tryz.prog 30 #[.int .i64 n, .agg #[.int .i64 N, .int .i64 D]] w (BRet (.int .i64 (FrmP.ftt n N D)) w) := by
  have b := mul_bd (x := 2000 * n) (y := D) (X := 6000000000000) (Y := 100000) (by omega) (by omega) (by omega) (by omega) (by omega)
  go_enter Tryz.func30, Tryz.ntmps30
  go_wp2_with fail
  go_ret
  exact ⟨rfl, (Below.refl _ _).alloc (Nat.le_refl _) _⟩

end Go.Proofs.YtohjapfjkilmoaaGreatDoor
