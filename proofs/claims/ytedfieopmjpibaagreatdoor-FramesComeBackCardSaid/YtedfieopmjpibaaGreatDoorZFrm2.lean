/-
  FrameTime, FrameOf and their references by contracts.
-/
import Derived.Test.YtedfieopmjpibaaGreatDoorZFrm
namespace Go.Proofs.YtedfieopmjpibaaGreatDoor
open Go Go.RowKit

/-- two numbers were returned -/
def Two (v e : Int) (w : World) (en : Ending) (w' : World) : Prop := en = .returned (.tuple #[.int .i64 v, .int .i64 e]) ∧ Below w.heap.size w w'
def ftE (n N D : Int) : Int := if rtF N D = 0 then (if outB n 0 10000000 = true then 1 else if 864000000 < FrmP.ft n N D then 12 else 0) else rtF N D
def ftV (n N D : Int) : Int := if ftE n N D = 0 then FrmP.ft n N D else 0
/-- what FrameOf answers: the least number of frames, or an error -/
def FoP (t N D v e : Int) : Prop :=
  if rtF N D = 0 then (if outB t 0 864000000 = true ∨ FrmP.ft 10000000 N D < t then v = 0 ∧ e = 1 else e = 0 ∧ FrmP.Least t N D v) else v = 0 ∧ e = rtF N D
theorem FoP.unique {t N D v e v' e' : Int} (h : FoP t N D v e) (k : FoP t N D v' e') : v = v' ∧ e = e' := by
  unfold FoP at h k
  split at h
  · rename_i h0
    rw [if_pos h0] at k
    have hr := rtF_ok h0
    split at h
    · rename_i h1
      rw [if_pos h1] at k
      omega
    · rename_i h1
      rw [if_neg h1] at k
      exact ⟨FrmP.Least.unique hr.1 hr.2.1 h.2 k.2, by omega⟩
  · rename_i h0
    rw [if_neg h0] at k
    omega
def FoE (t N D : Int) (w : World) (en : Ending) (w' : World) : Prop := ∃ v e, en = .returned (.tuple #[.int .i64 v, .int .i64 e]) ∧ FoP t N D v e ∧ Below w.heap.size w w'

set_option maxRecDepth 100000 in
theorem frameTimeE_calls (n N D : Int) (w : World) (hN : I64 N) (hD : I64 D) :
    Calls Tryz.prog 8 #[.int .i64 n, .agg #[.int .i64 N, .int .i64 D]] w (Two (ftV n N D) (ftE n N D) w) := by
  obtain ⟨R, hR⟩ : ∃ z, rtF N D = z := ⟨_, rfl⟩
  obtain ⟨o, ho⟩ : ∃ z, outB n 0 10000000 = z := ⟨_, rfl⟩
  have HR := Lib.hid hR
  have HO := Lib.hid ho
  have B0 := Blk.new w 27 #[.int .i64 N, .int .i64 D]
  by_cases h0 : R = 0
  · subst h0
    have hok := rtF_ok hR
    cases o
    · have hn := of_outB ho
      have hb := FrmP.ft_bd hn.1 hn.2 hok.2.1 hok.2.2.1
      have HF := fun W => frameTime_calls n N D W (by omega) (by omega) hok.1 hok.2.1 hok.2.2.1 hok.2.2.2
      rw [FrmP.ftt_eq hn.1 hok.1 hok.2.1] at HF
      obtain ⟨T, hT⟩ : ∃ z, FrmP.ft n N D = z := ⟨_, rfl⟩
      rw [hT] at HF
      have HFT := Lib.hid HF
      by_cases hg : 864000000 < T
      · have he : ftE n N D = 12 := by unfold ftE; rw [if_pos hR, if_neg (by rw [ho]; decide), if_pos (by omega)]
        have hv : ftV n N D = 0 := by unfold ftV; rw [he, if_neg (by omega)]
        rw [he, hv]
        clear he hv hR ho hok hb HF hT hn
        go_enter Tryz.func8, Tryz.ntmps8
        go_wp2_with fail
        refine (rateFault_calls N D _ hN hD).mono ?_
        rintro e w1 ⟨rfl, hb1⟩
        rw [HR.out]
        have hS1 := ((Bs.start w).alloc (.cells #[.int .i64 N, .int .i64 D] 27)).below hb1
        obtain ⟨k0, k1, k2, k3⟩ := (B0.below hb1).two
        have hz1 := hb1.size
        clear hb1
        have hO := HO.out
        go_wp2_with (first | (go_at_call 25; refine (out_calls _ _ _ _).mono ?_; rintro e w1 ⟨rfl, rfl⟩))
        refine (HFT.out _).mono ?_
        rintro e w2 ⟨rfl, hb2⟩
        have hS2 := hS1.below hb2
        clear hO
        go_wp2_with fail
        go_ret2
        exact ⟨rfl, hS2.1⟩
      · have he : ftE n N D = 0 := by unfold ftE; rw [if_pos hR, if_neg (by rw [ho]; decide), if_neg (by omega)]
        have hv : ftV n N D = T := by unfold ftV; rw [he, if_pos rfl, hT]
        rw [he, hv]
        clear he hv hR ho hok hb HF hT hn
        go_enter Tryz.func8, Tryz.ntmps8
        go_wp2_with fail
        refine (rateFault_calls N D _ hN hD).mono ?_
        rintro e w1 ⟨rfl, hb1⟩
        rw [HR.out]
        have hS1 := ((Bs.start w).alloc (.cells #[.int .i64 N, .int .i64 D] 27)).below hb1
        obtain ⟨k0, k1, k2, k3⟩ := (B0.below hb1).two
        have hz1 := hb1.size
        clear hb1
        have hO := HO.out
        go_wp2_with (first | (go_at_call 25; refine (out_calls _ _ _ _).mono ?_; rintro e w1 ⟨rfl, rfl⟩))
        refine (HFT.out _).mono ?_
        rintro e w2 ⟨rfl, hb2⟩
        have hS2 := hS1.below hb2
        clear hO
        go_wp2_with fail
        go_ret2
        exact ⟨rfl, hS2.1⟩
    · have he : ftE n N D = 1 := by unfold ftE; rw [if_pos hR, if_pos ho]
      have hv : ftV n N D = 0 := by unfold ftV; rw [he, if_neg (by omega)]
      rw [he, hv]
      clear he hv hR ho hok
      go_enter Tryz.func8, Tryz.ntmps8
      go_wp2_with fail
      refine (rateFault_calls N D _ hN hD).mono ?_
      rintro e w1 ⟨rfl, hb1⟩
      rw [HR.out]
      have hS1 := ((Bs.start w).alloc (.cells #[.int .i64 N, .int .i64 D] 27)).below hb1
      obtain ⟨k0, k1, k2, k3⟩ := (B0.below hb1).two
      have hz1 := hb1.size
      clear hb1
      have hO := HO.out
      go_wp2_with (first | (go_at_call 25; refine (out_calls _ _ _ _).mono ?_; rintro e w1 ⟨rfl, rfl⟩))
      go_ret2
      exact ⟨rfl, hS1.1⟩
  · have he : ftE n N D = R := by unfold ftE; rw [if_neg (by omega), hR]
    have hv : ftV n N D = 0 := by unfold ftV; rw [he, if_neg h0]
    rw [he, hv]
    have hrb : (R != 0) = true := by rw [bne_iff_ne]; exact h0
    clear he hv hR ho h0
    go_enter Tryz.func8, Tryz.ntmps8
    go_wp2_with fail
    refine (rateFault_calls N D _ hN hD).mono ?_
    rintro e w1 ⟨rfl, hb1⟩
    rw [HR.out]
    have hS1 := ((Bs.start w).alloc (.cells #[.int .i64 N, .int .i64 D] 27)).below hb1
    go_wp2_with fail
    go_ret2
    exact ⟨rfl, hS1.1⟩

end Go.Proofs.YtedfieopmjpibaaGreatDoor
