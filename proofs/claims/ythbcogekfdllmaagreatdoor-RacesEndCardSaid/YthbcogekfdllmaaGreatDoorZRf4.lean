/-
  race.Refused, momentFault, Started and Over by contracts.
-/
import Derived.Test.YthbcogekfdllmaaGreatDoorZRf3
import Derived.Test.YthbcogekfdllmaaGreatDoorZBs
namespace Go.Proofs.YthbcogekfdllmaaGreatDoor
open Go Go.RowKit
attribute [local go_sem ↓] Go.wp_at_zero Go.wp_at_succ

def refS (l : List Stp) : List Int := if stF l = 0 then (rfolP l 345686400000).2.2 else []
def RefR (l : List Stp) (w : World) (e : Ending) (w' : World) : Prop :=
  ∃ v, e = .returned (.tuple #[v, .int .i64 (stF l)]) ∧ w'.ownsRow w.heap.size 3 1 v (refS l).length ((refS l).map (Value.int .i64)) ∧ Below w.heap.size w w'
set_option maxRecDepth 100000 in
set_option maxHeartbeats 1000000 in
theorem raceRefused_calls (b : Nat) (A : Option Addr) (n c : Nat) (l : List Stp) (w : World) (hr : Rd w b 3 (.slice A n c) n (l.flatMap stC)) (hz : ∀ s ∈ l, s.who.size ≤ 1000000) (hn : n ≤ 1000) :
    Calls Tryz.prog 8 #[.slice A n c] w (RefR l w) := by
  have HF := Lib.hid (checkSteps_calls b A n c l w hr hz)
  by_cases h0 : stF l = 0
  · have HFO := Lib.hid (fun W (hW : Below w.heap.size w W) => rfollow_calls b A n c l 345686400000 W (hr.below hW) (stF_ok h0).1 hn)
    have HRL : Hid (refS l = (rfolP l 345686400000).2.2) := by
      unfold refS
      rw [if_pos h0]
      exact Lib.hid rfl
    unfold RefR
    rw [h0] at HF ⊢
    clear h0 hr hz
    go_enter Tryz.func8, Tryz.ntmps8
    go_wp2_with fail
    refine HF.out.mono ?_
    rintro e w1 ⟨rfl, hb1⟩
    go_wp2_with fail
    refine (HFO.out _ hb1).mono ?_
    rintro e w2 ⟨g, m, N, A1, c1, rfl, hk, hN, hb, hS⟩
    rw [← HRL.out] at hS ⊢
    have hO : w2.ownsRow w1.heap.size 3 1 (.slice A1 (refS l).length c1) (refS l).length ((refS l).map (Value.int .i64)) := hS.nth 2 rfl
    have hfin := below_call hb1 hS.below (Nat.le_refl _)
    go_wp2_with fail
    go_ret2
    exact ⟨_, rfl, own_base hO hb1.size, hfin⟩
  · have HRL : Hid (refS l = []) := by unfold refS; rw [if_neg h0]; exact Lib.hid rfl
    obtain ⟨E, hE⟩ : ∃ E, stF l = E := ⟨_, rfl⟩
    unfold RefR
    rw [hE] at HF h0 ⊢
    have hx : (E != 0) = true := by simpa using h0
    clear hE hr hz h0
    go_enter Tryz.func8, Tryz.ntmps8
    go_wp2_with fail
    refine HF.out.mono ?_
    rintro e w1 ⟨rfl, hb1⟩
    go_wp2_with fail
    go_ret2
    exact ⟨_, rfl, by rw [HRL.out]; exact World.ownsRow_nil _ _ _ _, hb1⟩
/-- what is wrong with steps and a moment -/
def mfS (l : List Stp) (u : Int) : Int := if stF l = 0 then (if momB u = true then 0 else 1) else stF l
theorem mfS_ok {l : List Stp} {u : Int} (h : mfS l u = 0) : stF l = 0 ∧ momB u = true := by
  unfold mfS at h
  by_cases h0 : stF l = 0
  · rw [if_pos h0] at h
    by_cases h1 : momB u = true
    · exact ⟨h0, h1⟩
    · rw [if_neg h1] at h; cases h
  · rw [if_neg h0] at h; exact absurd h h0
set_option maxRecDepth 100000 in
set_option maxHeartbeats 1000000 in
theorem raceMoment_calls (b : Nat) (A : Option Addr) (n c : Nat) (l : List Stp) (u : Int) (w : World) (hr : Rd w b 3 (.slice A n c) n (l.flatMap stC)) (hz : ∀ s ∈ l, s.who.size ≤ 1000000) :
    Calls Tryz.prog 60 #[.slice A n c, .int .i64 u] w (BRet (.int .i64 (mfS l u)) w) := by
  have HF := Lib.hid (checkSteps_calls b A n c l w hr hz)
  have HMO := Lib.hid (fun W => moment_calls u W)
  obtain ⟨M, hM⟩ : ∃ M, momB u = M := ⟨_, rfl⟩
  rw [hM] at HMO
  by_cases h0 : stF l = 0
  · have HV : Hid (mfS l u = if M = true then 0 else 1) := Lib.hid (by unfold mfS; rw [if_pos h0, hM])
    rw [h0] at HF
    clear h0 hr hz hM
    cases M
    · have HV2 : Hid (mfS l u = 1) := Lib.hid HV.out
      rw [HV2.out]
      go_enter Tryz.func60, Tryz.ntmps60
      go_wp2_with (first
        | (go_at_call 48; refine HF.out.mono ?_; rintro e w1 ⟨rfl, hb1⟩)
        | (go_at_call 110; refine (HMO.out _).mono ?_; rintro e w2 ⟨rfl, rfl⟩))
      go_ret
      exact ⟨rfl, hb1⟩
    · have HV2 : Hid (mfS l u = 0) := Lib.hid HV.out
      rw [HV2.out]
      go_enter Tryz.func60, Tryz.ntmps60
      go_wp2_with (first
        | (go_at_call 48; refine HF.out.mono ?_; rintro e w1 ⟨rfl, hb1⟩)
        | (go_at_call 110; refine (HMO.out _).mono ?_; rintro e w2 ⟨rfl, rfl⟩))
      go_ret
      exact ⟨rfl, hb1⟩
  · have HV : Hid (mfS l u = stF l) := Lib.hid (by unfold mfS; rw [if_neg h0])
    rw [HV.out]
    obtain ⟨E, hE⟩ : ∃ E, stF l = E := ⟨_, rfl⟩
    rw [hE] at HF h0 ⊢
    have hx : (E == 0) = false := by simpa using h0
    clear hE hr hz h0
    go_enter Tryz.func60, Tryz.ntmps60
    go_wp2_with (first
      | (go_at_call 48; refine HF.out.mono ?_; rintro e w1 ⟨rfl, hb1⟩))
    go_ret
    exact ⟨rfl, hb1⟩
def srtA (l : List Stp) : Int := if stF l = 0 then (rfolP l 345686400000).1.at0 else 0
def srtB (l : List Stp) : Bool := if stF l = 0 then (rfolP l 345686400000).1.st else false
set_option maxRecDepth 100000 in
set_option maxHeartbeats 1000000 in
theorem raceStarted_calls (b : Nat) (A : Option Addr) (n c : Nat) (l : List Stp) (w : World) (hr : Rd w b 3 (.slice A n c) n (l.flatMap stC)) (hz : ∀ s ∈ l, s.who.size ≤ 1000000) (hn : n ≤ 1000) :
    Calls Tryz.prog 11 #[.slice A n c] w (BRet (.tuple #[.int .i64 (srtA l), .bool (srtB l), .int .i64 (stF l)]) w) := by
  have HF := Lib.hid (checkSteps_calls b A n c l w hr hz)
  obtain ⟨xa, hxa⟩ : ∃ xa, srtA l = xa := ⟨_, rfl⟩
  obtain ⟨xb, hxb⟩ : ∃ xb, srtB l = xb := ⟨_, rfl⟩
  rw [hxa, hxb]
  by_cases h0 : stF l = 0
  · have HFO := Lib.hid (fun W (hW : Below w.heap.size w W) => rfollow_calls b A n c l 345686400000 W (hr.below hW) (stF_ok h0).1 hn)
    have HA : Hid ((rfolP l 345686400000).1.at0 = xa) := Lib.hid (by rw [← hxa]; unfold srtA; rw [if_pos h0])
    have HB : Hid ((rfolP l 345686400000).1.st = xb) := Lib.hid (by rw [← hxb]; unfold srtB; rw [if_pos h0])
    rw [h0] at HF ⊢
    clear h0 hr hz hxa hxb
    go_enter Tryz.func11, Tryz.ntmps11
    go_wp2_with fail
    refine HF.out.mono ?_
    rintro e w1 ⟨rfl, hb1⟩
    go_wp2_with fail
    refine (HFO.out _ hb1).mono ?_
    rintro e w2 ⟨g, m, N, A1, c1, rfl, hk, hN, hb, hS⟩
    have hB : Blk w2 g 118 #[.map (some m), .bool (rfolP l 345686400000).1.st, .int .i64 (rfolP l 345686400000).1.at0] := hS.nth 0 rfl
    rw [HA.out, HB.out] at hB
    have c1 := hB.cell 1
    have c2 := hB.cell 2
    have hfin := below_call hb1 hS.below (Nat.le_refl _)
    clear hS hB
    go_wp2_with fail
    go_quiet (fail)
    go_wp2_with fail
    go_ret3
    exact ⟨rfl, below_drewN hfin _⟩
  · obtain rfl : 0 = xa := by rw [← hxa]; unfold srtA; rw [if_neg h0]
    obtain rfl : false = xb := by rw [← hxb]; unfold srtB; rw [if_neg h0]
    obtain ⟨E, hE⟩ : ∃ E, stF l = E := ⟨_, rfl⟩
    rw [hE] at HF h0 ⊢
    have hx : (E != 0) = true := by simpa using h0
    clear hE hr hz h0 hxa hxb
    go_enter Tryz.func11, Tryz.ntmps11
    go_wp2_with fail
    refine HF.out.mono ?_
    rintro e w1 ⟨rfl, hb1⟩
    go_wp2_with fail
    go_ret3
    exact ⟨rfl, hb1⟩
end Go.Proofs.YthbcogekfdllmaaGreatDoor
