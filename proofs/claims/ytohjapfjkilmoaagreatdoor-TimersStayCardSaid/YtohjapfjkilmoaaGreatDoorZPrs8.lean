/-
  Refused and Attempts of the program by contracts. (Printed by gen_prs8.py.)
-/
import Derived.Test.YtohjapfjkilmoaaGreatDoorZPrs7
namespace Go.Proofs.YtohjapfjkilmoaaGreatDoor
open Go Go.RowKit
attribute [local go_sem ↓] Go.wp_at_zero Go.wp_at_succ

/-- the clock behind all presses -/
def endP_ (q : Int) (l : List Pz) : Clk × List Int := folP q.toNat 345686400000 l l.length
def refL (q : Int) (l : List Pz) : List Int := if segF q l = 0 then (endP_ q l).2 else []
def begV (q : Int) (l : List Pz) : Int := if segF q l = 0 then (endP_ q l).1.begun else 0
def donV (q : Int) (l : List Pz) : Int := if segF q l = 0 then (if (endP_ q l).1.phase = 3 then (endP_ q l).1.done + 1 else (endP_ q l).1.done) else 0
theorem segF_ok {q : Int} {l : List Pz} (h : segF q l = 0) : (1 ≤ q ∧ q ≤ 100) ∧ PzOk l ∧ l.length ≤ 2000 := by
  unfold segF at h
  cases ho : outB q 1 100
  · rw [ho, if_neg (by decide)] at h
    have h1 := of_outB ho
    exact ⟨h1, prF_ok h⟩
  · rw [ho, if_pos rfl] at h
    exact absurd h (by decide)
def RefS (q : Int) (l : List Pz) (w : World) (e : Ending) (w' : World) : Prop :=
  ∃ v, e = .returned (.tuple #[v, .int .i64 (segF q l)]) ∧ w'.ownsRow w.heap.size 3 1 v (refL q l).length ((refL q l).map (Value.int .i64)) ∧ Below w.heap.size w w'

set_option maxRecDepth 100000 in
set_option maxHeartbeats 1000000 in
theorem refused_calls (b : Nat) (q : Int) (A : Option Addr) (m c : Nat) (l : List Pz) (w : World) (hr : Rd w b 2 (.slice A m c) m (l.flatMap pzC)) :
    Calls Tryz.prog 7 #[.int .i64 q, .slice A m c] w (RefS q l w) := by
  have HF := Lib.hid (clockFault_calls b q A m c l w hr)
  have hl := (hr.cells pzC_len (by omega)).1
  by_cases h0 : segF q l = 0
  · obtain ⟨hq, hok, hlm⟩ := segF_ok h0
    obtain ⟨n, rfl⟩ : ∃ n : Nat, q = (n : Int) := ⟨q.toNat, by omega⟩
    have HFOL := fun W (hW : Below w.heap.size w W) => followT_calls b n A m c l 345686400000 W (hr.below hW) (by omega) hok (by omega)
    have HRL : Hid (refL (n : Int) l = (folP n 345686400000 l l.length).2) := by
      unfold refL
      rw [if_pos h0]
      exact Lib.hid rfl
    unfold RefS
    rw [h0] at HF ⊢
    have HFO := Lib.hid HFOL
    clear HFOL h0 hok hr hl
    go_enter Tryz.func7, Tryz.ntmps7
    go_wp2_with fail
    refine HF.out.mono ?_
    rintro e w1 ⟨rfl, hb1⟩
    go_wp2_with fail
    refine (HFO.out _ hb1).mono ?_
    rintro e w2 ⟨gc, A1, cap1, A2, cap2, rfl, hS⟩
    rw [← HRL.out] at hS ⊢
    have hO : w2.ownsRow w1.heap.size 3 1 (.slice A2 (refL (n : Int) l).length cap2) (refL (n : Int) l).length ((refL (n : Int) l).map (Value.int .i64)) := hS.nth 2 rfl
    have hfin := below_call hb1 hS.below (Nat.le_refl _)
    go_wp2_with fail
    go_ret2
    exact ⟨_, rfl, own_base hO hb1.size, hfin⟩
  · have HRL : Hid (refL q l = []) := by unfold refL; rw [if_neg h0]; exact Lib.hid rfl
    obtain ⟨E, hE⟩ : ∃ E, segF q l = E := ⟨_, rfl⟩
    unfold RefS
    rw [hE] at HF h0 ⊢
    have hx : (E != 0) = true := by simpa using h0
    rw [HRL.out]
    clear hr hl hE
    go_enter Tryz.func7, Tryz.ntmps7
    go_wp2_with fail
    refine HF.out.mono ?_
    rintro e w1 ⟨rfl, hb1⟩
    go_wp2_with fail
    go_ret2
    exact ⟨_, rfl, World.ownsRow_nil _ _ _ _, hb1⟩

def AttS (q : Int) (l : List Pz) (w : World) (e : Ending) (w' : World) : Prop :=
  e = .returned (.tuple #[.int .i64 (begV q l), .int .i64 (donV q l), .int .i64 (segF q l)]) ∧ Below w.heap.size w w'
end Go.Proofs.YtohjapfjkilmoaaGreatDoor
