/-
  FramesComeBack in plain words: at each of the three rates the frames of the time of frames are these.
-/
import Derived.Test.YtedfieopmjpibaaGreatDoorZRetime
import Derived.Test.YtedfieopmjpibaaGreatDoorZFrm3
namespace Go.Proofs.YtedfieopmjpibaaGreatDoor
open Go Go.RowKit

/-- one of the law's three rates -/
def Rate3 (N D : Int) : Prop := (N = 60 ∧ D = 1) ∨ (N = 30000 ∧ D = 1001) ∨ (N = 25 ∧ D = 1)
theorem rate3_rtF {N D : Int} (h : Rate3 N D) : rtF N D = 0 := by
  rcases h with ⟨rfl, rfl⟩ | ⟨rfl, rfl⟩ | ⟨rfl, rfl⟩ <;> decide +kernel
theorem rate3_I {N D : Int} (h : Rate3 N D) : I64 N ∧ I64 D := by
  unfold I64
  rcases h with ⟨rfl, rfl⟩ | ⟨rfl, rfl⟩ | ⟨rfl, rfl⟩ <;> omega
theorem outB_no {n lo hi : Int} (h1 : lo ≤ n) (h2 : n ≤ hi) : outB n lo hi = false := by
  unfold outB
  simp
  omega
theorem rate3_ft {N D n : Int} (h : Rate3 N D) (h0 : 0 ≤ n) (h1 : n ≤ 1000000) : 0 ≤ FrmP.ft n N D ∧ FrmP.ft n N D ≤ 864000000 ∧ FrmP.ft n N D ≤ FrmP.ft 10000000 N D ∧ FrmP.Least (FrmP.ft n N D) N D n := by
  unfold FrmP.Least FrmP.ft
  rcases h with ⟨rfl, rfl⟩ | ⟨rfl, rfl⟩ | ⟨rfl, rfl⟩ <;> omega
theorem rate3_ftE {N D n : Int} (h : Rate3 N D) (h0 : 0 ≤ n) (h1 : n ≤ 1000000) : ftE n N D = 0 := by
  obtain ⟨k1, k2, _⟩ := rate3_ft h h0 h1
  unfold ftE
  rw [if_pos (rate3_rtF h), outB_no h0 (by omega), if_neg (by simp), if_neg (by omega)]
theorem rate3_ftV {N D n : Int} (h : Rate3 N D) (h0 : 0 ≤ n) (h1 : n ≤ 1000000) : ftV n N D = FrmP.ft n N D := by
  unfold ftV
  rw [if_pos (rate3_ftE h h0 h1)]
theorem rate3_FoP {N D n : Int} (h : Rate3 N D) (h0 : 0 ≤ n) (h1 : n ≤ 1000000) : FoP (FrmP.ft n N D) N D n 0 := by
  obtain ⟨k1, k2, k3, k4⟩ := rate3_ft h h0 h1
  unfold FoP
  rw [if_pos (rate3_rtF h), if_neg (by rw [outB_no k1 k2]; simp; omega)]
  exact ⟨rfl, k4⟩
theorem rate3_ret {N D n : Int} (h : Rate3 N D) (h0 : 0 ≤ n) (h1 : n ≤ 1000000) : rtE (7, 7 + n) [] N D = 0 ∧ rtA (7, 7 + n) [] N D = FrmP.ft n N D ∧ rtG (7, 7 + n) [] N D = FrmP.ft n N D := by
  obtain ⟨k1, k2, k3, k4⟩ := rate3_ft h h0 h1
  have hok := rtF_ok (rate3_rtF h)
  have e1 : FrmP.ftt (7 + n - 7) N D = FrmP.ft n N D := by
    rw [show 7 + n - 7 = n by omega, FrmP.ftt_eq h0 hok.1 hok.2.1]
  have hp : partB (7, 7 + n) = true := by
    unfold partB
    simp only
    rw [outB_no (by omega) (by omega)]
    simp
    omega
  have hE : rtE (7, 7 + n) [] N D = 0 := by
    unfold rtE
    rw [if_pos (rate3_rtF h), hp, if_neg (by simp), if_neg (by simp)]
    simp only [retE, if_true]
    rw [e1, if_neg (by omega)]
  refine ⟨hE, ?_, ?_⟩
  · unfold rtA
    rw [if_pos hE]
    exact e1
  · unfold rtG
    rw [if_pos hE]
    exact e1
end Go.Proofs.YtedfieopmjpibaaGreatDoor
