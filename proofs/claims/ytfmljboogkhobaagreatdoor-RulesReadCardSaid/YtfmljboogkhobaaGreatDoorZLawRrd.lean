/-
  RulesRead: the law's own walk.
-/
import Derived.Test.YtfmljboogkhobaaGreatDoorZStream
import Derived.Test.YtfmljboogkhobaaGreatDoorZAtq
import Derived.Test.YtfmljboogkhobaaGreatDoorZAts
import Derived.Test.YtfmljboogkhobaaGreatDoorZTdq
import Derived.Test.YtfmljboogkhobaaGreatDoorZNumF
import Derived.Test.YtfmljboogkhobaaGreatDoorZRulS
import Derived.Test.YtfmljboogkhobaaGreatDoorZEqS
import Derived.Test.YtfmljboogkhobaaGreatDoorZRuled
namespace Go.Proofs.YtfmljboogkhobaaGreatDoor
open Go Go.RowKit TxtP
attribute [local go_sem ↓] Go.wp_at_zero Go.wp_at_succ

theorem par_zero (num : ByteArray → Int × Bool) (s : ByteArray) (h : (parseE num s).2 = 0) : (parseE num s).1 = 0 := by
  unfold parseE at h ⊢
  split at h
  · cases h
  · rename_i h1
    rw [if_neg h1]
    split at h
    · cases h
    · rename_i h2
      rw [if_neg h2]
      split at h
      · cases h
      · rename_i h3
        rw [if_neg h3]
theorem tdI_one (num : ByteArray → Int × Bool) (s : ByteArray) : tdI num s = (parseE num s).1 := by
  unfold tdI
  split
  · rename_i h
    exact (par_zero num s h).symm
  · rfl
theorem svB_str (ls : List BL) : svB ls = (ls.map fun x => (⟨x.toArray⟩ : ByteArray)).map Value.string := by
  unfold svB
  rw [List.map_map]
  rfl
set_option maxRecDepth 100000 in
set_option maxHeartbeats 4000000 in
theorem rrd_walk (a0 : Option Addr) (len0 cap0 : Nat) (z0 : List Int) (w : World) (w0 : InRow w a0 len0 cap0 z0) (ht : Tab w) :
    Calls Tryz.prog 3 #[.slice a0 len0 cap0] w fun e w' => e = .returned (.bool true) ∧ Below w.heap.size w w' := by
  have hs0 := strm_start w0 25
  have hb0 : Bx w.heap.size w.heap.size w (w.alloc (.cells #[.slice a0 len0 cap0, .int .i64 0] 25)) := (Bx.refl _ _ _).alloc (Nat.le_refl _) _
  clear w0
  go_enter Tryz.func3, Tryz.ntmps3
  go_wp2_with fail
  refine (ruleS_calls w.heap.size 0 _ hs0 (by omega)).mono ?_
  rintro e w3 ⟨_, rfl, ⟨t, rfl, hz⟩, hS3⟩
  have hB3 := (hb0.call hS3.bx (Nat.le_refl _)).below (Nat.le_refl _)
  have hlt3 := hS3.lt
  have ht3 := ht.below hB3
  obtain ⟨hce, hcp⟩ := check_parse numF numF_ok t
  have hp0 := par_zero numF t
  have hI := tdI_one numF t
  have HA := Lib.hid (fun W => atoms_calls numF numF_c numF_ok numF_z t W hz)
  have HT := Lib.hid (fun W => tidyR_calls numF numF_c numF_ok numF_z t W hz)
  have HK := Lib.hid (fun W => check_calls numF numF_c t W (by omega))
  have HQ := Lib.hid (fun W (h : Tab W) => checkOf_calls numF numF_qc numF_ok t W hz h)
  have HTQ := Lib.hid (fun (h : (parseE numF t).2 = 0) W => tidyOf_calls numF numF_ok numF_z t W hz h)
  have HAQ := Lib.hid (fun (h : (parseE numF t).2 = 0) W => atomsOf_calls numF numF_ok numF_z t W hz h)
  have HEQ : Hid ((parseE numF t).2 = 0 → atsQ (flat (parseT numF t).1) = atL numF t) := Lib.hid (fun h => by
    have : atL numF t = namL (parseT numF t).1 := by unfold atL; rw [if_pos h]
    rw [this]
    exact ats_both numF_z (hcp h).1)
  have HNO : Hid ((parseE numF t).2 ≠ 0 → tdE numF t = (parseE numF t).2 ∧ tdS numF t = ⟨#[]⟩ ∧ atL numF t = []) := Lib.hid (fun h => by
    have h1 : tdE numF t = (parseE numF t).2 := by unfold tdE; rw [if_neg h]
    exact ⟨h1, by unfold tdS; rw [h1, if_neg h], by unfold atL; rw [if_neg h]⟩)
  rw [hI] at HA HT
  rw [hce] at HQ
  obtain ⟨q1, hq1⟩ : ∃ q, (parseE numF t).1 = q := ⟨_, rfl⟩
  obtain ⟨q2, hq2⟩ : ∃ q, (parseE numF t).2 = q := ⟨_, rfl⟩
  obtain ⟨S, hS⟩ : ∃ S, tdS numF t = S := ⟨_, rfl⟩
  obtain ⟨E, hE⟩ : ∃ E, tdE numF t = E := ⟨_, rfl⟩
  obtain ⟨L, hL⟩ : ∃ L, atL numF t = L := ⟨_, rfl⟩
  obtain ⟨M, hM⟩ : ∃ M, atsQ (flat (parseT numF t).1) = M := ⟨_, rfl⟩
  rw [hq1, hq2] at HK HQ
  rw [hq1, hq2, hL] at HA
  rw [hq1, hS, hE] at HT
  rw [hq2, hS, hE] at HTQ
  rw [hq2, hM] at HAQ
  rw [hq2, hM, hL] at HEQ
  rw [hq2, hE, hS, hL] at HNO
  rw [hq1, hq2] at hp0
  obtain ⟨ll, hll⟩ : ∃ ll, L.length = ll := ⟨_, rfl⟩
  rw [hll] at HA
  have HLL := Lib.hid hll
  have HR := Lib.hid (fun V => ruled_calls V)
  have HB3 := Lib.hid hB3
  have HT3 := Lib.hid ht3
  clear hs0 hb0 hS3 ht hB3 ht3 hz hce hcp hI hq1 hq2 hS hE hL hM hll
  go_wp2_with fail
  refine (HK.out _).mono ?_
  rintro e w4 ⟨rfl, hb4⟩
  have hB4 := below_call (Below.refl w3.heap.size w3) hb4 (Nat.le_refl _)
  go_wp2_with fail
  refine (HT.out _).mono ?_
  rintro e w5 ⟨rfl, hb5⟩
  have hB5 := below_call hB4 hb5 (Nat.le_refl _)
  go_wp2_with fail
  refine (HA.out _).mono ?_
  rintro e w6 ⟨A6, c6, rfl, ho6, hb6⟩
  have hB6 := below_call hB5 hb6 (Nat.le_refl _)
  have hlt5 : w.heap.size < w5.heap.size := Nat.lt_of_lt_of_le hlt3 hB5.size
  have hR6 : Rd w6 w.heap.size 1 (.slice A6 ll c6) ll (svB L) := Rd.own ho6 hlt5
  clear ho6 hb4 hb5 hb6 hB4 HK HT HA
  go_wp2_with fail
  refine (HQ.out _ (HT3.out.below hB6)).mono ?_
  rintro e w7 ⟨rfl, hb7⟩
  have hB7 := below_call hB6 hb7 (Nat.le_refl _)
  have hR7 := hR6.below hb7
  have hx7 : Below w.heap.size w w7 := below_call HB3.out hB7 (Nat.le_refl _)
  clear hB5 hB6 hb7 hR6 HQ
  have n1 : (q1 != q1) = false := by simp
  have n2 : (q2 != q2) = false := by simp
  have n3 : (q1 == q1) = true := by simp
  have n4 : (q2 == q2) = true := by simp
  have n5 : (E == E) = true := by simp
  have n6 : (S.toList == S.toList) = true := by simp
  by_cases h0 : q2 = 0
  · have hM1 := HEQ.out h0
    have HTQ1 := Lib.hid (HTQ.out h0)
    have HAQ1 := Lib.hid (HAQ.out h0)
    obtain rfl : q1 = 0 := hp0 h0
    subst h0
    rw [hM1] at HAQ1
    unfold AtqS at HAQ1
    clear HNO HEQ HTQ HAQ hM1 hp0
    go_wp2_with fail
    refine (HTQ1.out _).mono ?_
    rintro e w8 ⟨rfl, hb8⟩
    have hx8 := below_call hx7 hb8 (Nat.le_refl _)
    have hR8 := hR7.below hb8
    have hlt8 : w.heap.size < w8.heap.size := Nat.lt_of_lt_of_le hlt3 (Nat.le_trans hB7.size hb8.size)
    clear hb8 hR7 hx7
    go_wp2_with (first
      | (go_at_call 16; refine (HAQ1.out _).mono ?_; rintro e w9 ⟨A9, c9, rfl, ho9, hb9⟩; rw [HLL.out] at ho9; have hR9 : Rd w9 w.heap.size 1 (.slice A9 ll c9) ll (svB L) := Rd.own ho9 hlt8; have hR9' := hR8.below hb9; rw [HLL.out])
      | (go_at_call 15; refine (equalS_calls w.heap.size A6 A9 ll c6 c9 _ w9 (by rw [← svB_str]; exact hR9') (by rw [← svB_str]; exact hR9)).mono ?_; rintro e w10 ⟨rfl, nq, rfl⟩)
      | (go_at_call 13; refine (HR.out _).mono ?_; rintro e w11 ⟨rfl, hb11⟩))
    have hfin := below_call (below_drewN (below_call hx8 hb9 (Nat.le_refl _)) nq) hb11 (Nat.le_refl _)
    go_ret
    exact ⟨rfl, hfin⟩
  · obtain ⟨e1, e2, e3⟩ := HNO.out h0
    have hl0 : ll = 0 := by rw [← HLL.out, e3]; rfl
    have hne : (q2 != 0) = true := by rw [bne_iff_ne]; exact h0
    subst e1 e2 hl0
    clear HNO HEQ HTQ HAQ hp0 e3
    go_wp2_with (first
      | (go_at_call 13; refine (HR.out _).mono ?_; rintro e w11 ⟨rfl, hb11⟩))
    have hfin := below_call hx7 hb11 (Nat.le_refl _)
    go_ret
    exact ⟨rfl, hfin⟩
end Go.Proofs.YtfmljboogkhobaaGreatDoor
