/-
  Refused and Attempts of the program by contracts. (Printed by gen_prs8.py.)
-/
import Derived.Test.YtedfieopmjpibaaDoorZPrs7
namespace Go.Proofs.YtedfieopmjpibaaDoor
open Go Go.RowKit
attribute [local go_sem ↓] Go.wp_at_zero Go.wp_at_succ

/-- the clock behind all presses -/
def endP_ (q : Int) (l : List Pz) : Clk × List Int := folP q.toNat 345686400000 l l.length
def refL (q : Int) (l : List Pz) : List Int := if segF q l = 0 then (endP_ q l).2 else []
def begV (q : Int) (l : List Pz) : Int := if segF q l = 0 then (endP_ q l).1.begun else 0
def donV (q : Int) (l : List Pz) : Int := if segF q l = 0 then (if (endP_ q l).1.phase = 3 then (endP_ q l).1.done + 1 else (endP_ q l).1.done) else 0
theorem segF_ok {q : Int} {l : List Pz} (h : segF q l = 0) : (1 ≤ q ∧ q ≤ 100) ∧ PzOk l ∧ l.length ≤ 2000 := by
  unfold segF at h
  cases ho : outB q 1 100
  · rw [ho, if_neg (by decide)] at h
    have h1 := of_outB ho
    exact ⟨h1, prF_ok h⟩
  · rw [ho, if_pos rfl] at h
    exact absurd h (by decide)
def RefS (q : Int) (l : List Pz) (w : World) (e : Ending) (w' : World) : Prop :=
  ∃ v, e = .returned (.tuple #[v, .int .i64 (segF q l)]) ∧ w'.ownsRow w.heap.size 3 1 v (refL q l).length ((refL q l).map (Value.int .i64)) ∧ Below w.heap.size w w'

set_option maxRecDepth 100000 in
set_option maxHeartbeats 1000000 in
theorem refused_calls (b : Nat) (q : Int) (A : Option Addr) (m c : Nat) (l : List Pz) (w : World) (hr : Rd w b 2 (.slice A m c) m (l.flatMap pzC)) :
    Calls Tryd.prog 8 #[.int .i64 q, .slice A m c] w (RefS q l w) := by
  have HF := Lib.hid (clockFault_calls b q A m c l w hr)
  have hl := (hr.cells pzC_len (by omega)).1
  by_cases h0 : segF q l = 0
  · obtain ⟨hq, hok, hlm⟩ := segF_ok h0
    obtain ⟨n, rfl⟩ : ∃ n : Nat, q = (n : Int) := ⟨q.toNat, by omega⟩
    have HFOL := fun W (hW : Below w.heap.size w W) => followT_calls b n A m c l 345686400000 W (hr.below hW) (by omega) hok (by omega)
    have HRL : Hid (refL (n : Int) l = (folP n 345686400000 l l.length).2) := by
      unfold refL
      rw [if_pos h0]
      exact Lib.hid rfl
    unfold RefS
    rw [h0] at HF ⊢
    have HFO := Lib.hid HFOL
    clear HFOL h0 hok hr hl
    go_enter Tryd.func8, Tryd.ntmps8
    go_wp2_with fail
    refine HF.out.mono ?_
    rintro e w1 ⟨rfl, hb1⟩
    go_wp2_with fail
    refine (HFO.out _ hb1).mono ?_
    rintro e w2 ⟨gc, A1, cap1, A2, cap2, rfl, hS⟩
    rw [← HRL.out] at hS ⊢
    have hO : w2.ownsRow w1.heap.size 3 1 (.slice A2 (refL (n : Int) l).length cap2) (refL (n : Int) l).length ((refL (n : Int) l).map (Value.int .i64)) := hS.nth 2 rfl
    have hfin := below_call hb1 hS.below (Nat.le_refl _)
    go_wp2_with fail
    go_ret2
    exact ⟨_, rfl, own_base hO hb1.size, hfin⟩
  · have HRL : Hid (refL q l = []) := by unfold refL; rw [if_neg h0]; exact Lib.hid rfl
    obtain ⟨E, hE⟩ : ∃ E, segF q l = E := ⟨_, rfl⟩
    unfold RefS
    rw [hE] at HF h0 ⊢
    have hx : (E != 0) = true := by simpa using h0
    rw [HRL.out]
    clear hr hl hE
    go_enter Tryd.func8, Tryd.ntmps8
    go_wp2_with fail
    refine HF.out.mono ?_
    rintro e w1 ⟨rfl, hb1⟩
    go_wp2_with fail
    go_ret2
    exact ⟨_, rfl, World.ownsRow_nil _ _ _ _, hb1⟩

def AttS (q : Int) (l : List Pz) (w : World) (e : Ending) (w' : World) : Prop :=
  e = .returned (.tuple #[.int .i64 (begV q l), .int .i64 (donV q l), .int .i64 (segF q l)]) ∧ Below w.heap.size w w'
set_option maxRecDepth 100000 in
set_option maxHeartbeats 1000000 in
theorem attempts_calls (b : Nat) (q : Int) (A : Option Addr) (m c : Nat) (l : List Pz) (w : World) (hr : Rd w b 2 (.slice A m c) m (l.flatMap pzC)) :
    Calls Tryd.prog 9 #[.int .i64 q, .slice A m c] w (AttS q l w) := by
  have HF := Lib.hid (clockFault_calls b q A m c l w hr)
  have hl := (hr.cells pzC_len (by omega)).1
  by_cases h0 : segF q l = 0
  · obtain ⟨hq, hok, hlm⟩ := segF_ok h0
    obtain ⟨n, rfl⟩ : ∃ n : Nat, q = (n : Int) := ⟨q.toNat, by omega⟩
    have HFOL := fun W (hW : Below w.heap.size w W) => followT_calls b n A m c l 345686400000 W (hr.below hW) (by omega) hok (by omega)
    have hfb := (fol_bd n 345686400000 hok l.length (Nat.le_refl _)).1
    have hb := hfb.begun
    have hd := hfb.done
    have HBV : Hid (begV (n : Int) l = (folP n 345686400000 l l.length).1.begun) := by unfold begV; rw [if_pos h0]; exact Lib.hid rfl
    have HDV : Hid (donV (n : Int) l = if (folP n 345686400000 l l.length).1.phase = 3 then (folP n 345686400000 l l.length).1.done + 1 else (folP n 345686400000 l l.length).1.done) := by unfold donV; rw [if_pos h0]; exact Lib.hid rfl
    unfold AttS
    rw [h0] at HF ⊢
    obtain ⟨f, hf⟩ : ∃ f, folP n 345686400000 l l.length = f := ⟨_, rfl⟩
    rw [hf] at HFOL hb hd HBV HDV
    have HFO := Lib.hid HFOL
    rw [HBV.out]
    obtain ⟨b1, b2⟩ := hb
    obtain ⟨d1, d2⟩ := hd
    obtain ⟨ph, hph⟩ : ∃ ph, f.1.phase = ph := ⟨_, rfl⟩
    rw [hph] at HDV
    have HPH := Lib.hid hph
    clear HFOL h0 hok hr hl hf hfb hph
    by_cases h3 : ph = 3
    · subst h3
      rw [if_pos rfl] at HDV
      rw [HDV.out]
      go_enter Tryd.func9, Tryd.ntmps9
      go_wp2_with fail
      refine HF.out.mono ?_
      rintro e w1 ⟨rfl, hx1⟩
      go_wp2_with fail
      refine (HFO.out _ hx1).mono ?_
      rintro e w2 ⟨gc, A1, cap1, A2, cap2, rfl, hS⟩
      have hfin := below_call hx1 hS.below (Nat.le_refl _)
      have hC : ClkAt w2 gc n f.1 (.slice A1 f.1.cuts.length cap1) := hS.head
      obtain ⟨_, k1, _, _, _, _, _, _, _, _, k10, k11⟩ := hC.cells
      rw [HPH.out] at k1
      clear hS hC
      go_wp2_with fail
      go_ret3
      exact ⟨rfl, hfin⟩
    · have e3 : (ph == 3) = false := by simpa using h3
      rw [if_neg h3] at HDV
      rw [HDV.out]
      go_enter Tryd.func9, Tryd.ntmps9
      go_wp2_with fail
      refine HF.out.mono ?_
      rintro e w1 ⟨rfl, hx1⟩
      go_wp2_with fail
      refine (HFO.out _ hx1).mono ?_
      rintro e w2 ⟨gc, A1, cap1, A2, cap2, rfl, hS⟩
      have hfin := below_call hx1 hS.below (Nat.le_refl _)
      have hC : ClkAt w2 gc n f.1 (.slice A1 f.1.cuts.length cap1) := hS.head
      obtain ⟨_, k1, _, _, _, _, _, _, _, _, k10, k11⟩ := hC.cells
      rw [HPH.out] at k1
      clear hS hC
      go_wp2_with fail
      go_ret3
      exact ⟨rfl, hfin⟩
  · have HBV : Hid (begV q l = 0) := by unfold begV; rw [if_neg h0]; exact Lib.hid rfl
    have HDV : Hid (donV q l = 0) := by unfold donV; rw [if_neg h0]; exact Lib.hid rfl
    obtain ⟨E, hE⟩ : ∃ E, segF q l = E := ⟨_, rfl⟩
    unfold AttS
    rw [hE] at HF h0 ⊢
    have hx : (E != 0) = true := by simpa using h0
    rw [HBV.out, HDV.out]
    clear hr hl hE
    go_enter Tryd.func9, Tryd.ntmps9
    go_wp2_with fail
    refine HF.out.mono ?_
    rintro e w1 ⟨rfl, hb1⟩
    go_wp2_with fail
    go_ret3
    exact ⟨rfl, hb1⟩
end Go.Proofs.YtedfieopmjpibaaDoor
