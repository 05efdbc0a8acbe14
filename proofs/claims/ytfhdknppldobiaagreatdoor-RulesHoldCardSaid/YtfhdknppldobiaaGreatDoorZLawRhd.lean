/-
  RulesHold: the law's own walk.
-/
import Derived.Test.YtfhdknppldobiaaGreatDoorZLawStart
import Derived.Test.YtfhdknppldobiaaGreatDoorZHdq4
import Derived.Test.YtfhdknppldobiaaGreatDoorZSumS
import Derived.Test.YtfhdknppldobiaaGreatDoorZSrn1
import Derived.Test.YtfhdknppldobiaaGreatDoorZEqS
import Derived.Test.YtfhdknppldobiaaGreatDoorZRng
import Derived.Deep.DeepCutAuto
import Derived.Deep.RegionHeld3
namespace Go.Proofs.YtfhdknppldobiaaGreatDoor
open Go Go.RowKit TxtP
attribute [local go_sem ↓] Go.wp_at_zero Go.wp_at_succ

theorem rule_err (s : ByteArray) (x : Rn) : firstE [(parseE numF s).2, runF x] = rulE numF s x := by
  unfold rulE
  by_cases h : (parseE numF s).2 = 0
  · rw [if_pos h, h]
    simp [firstE]
    omega
  · rw [if_neg h]
    simp [firstE, h]
set_option maxRecDepth 100000 in
set_option maxHeartbeats 4000000 in
theorem rhd_walk (a0 : Option Addr) (len0 cap0 : Nat) (z0 : List Int) (w : World) (w0 : InRow w a0 len0 cap0 z0) (ht : Tab w) (hm : MxL w) :
    Calls Tryz.prog 9 #[.slice a0 len0 cap0] w fun e w' => e = .returned (.bool true) ∧ Below w.heap.size w w' := by
  have hs0 := strm_start w0 25
  have hb0 : Bx w.heap.size w.heap.size w (w.alloc (.cells #[.slice a0 len0 cap0, .int .i64 0] 25)) := (Bx.refl _ _ _).alloc (Nat.le_refl _) _
  clear w0
  go_enter Tryz.func9, Tryz.ntmps9
  go_wp2_with fail
  refine (ruleS_calls w.heap.size 0 _ hs0 (by omega)).mono ?_
  rintro e w3 ⟨_, rfl, ⟨t, rfl, hz⟩, hR3⟩
  have hb3 := hb0.call hR3.bx (Nat.le_refl _)
  have hs3 := hR3.strm
  clear hs0 hb0 hR3
  go_wp2_with fail
  refine (someRun_calls w.heap.size _ _ _ hs3 (by omega) (by decide)).mono ?_
  rintro e w4 ⟨x, rfl, hxz, hS4⟩
  have hb4 := hb3.call hS4.bx (Nat.le_refl _)
  have hx4 : RnW w4 w.heap.size x := ⟨Rd.own hS4.head hS4.hb, Nat.le_trans hxz.hi (by omega), Nat.le_trans hxz.hw (by omega), fun p hp => ⟨Nat.le_trans (hxz.hf p hp).1 (by omega), Nat.le_trans (hxz.hf p hp).2 (by omega)⟩, Nat.le_trans hxz.hn (by omega)⟩
  have hlt4 := hS4.lt
  have hS5 := (Sq.start w4).add (rnC x).toArray 36
  have hB4 := hb4.below (Nat.le_refl _)
  have hB5 := below_call hB4 hS5.below (Nat.le_refl _)
  have hx5 := hx4.below hS5.below
  have hk5 : Blk _ w4.heap.size _ (rnC x).toArray := hS5.head
  clear hs3 hb3 hb4 hS4 hx4 hxz hS5
  have hr0 : (rnC x).toArray = #[.string x.id, .string x.who, .int .i64 x.time, .int .i64 x.date, .slice x.fa x.fs.length x.fc] := rfl
  rw [hr0] at hB5 hx5 hk5
  go_upto_region 3 with (fail)
  obtain ⟨w5, hw5⟩ : ∃ w5, w5 = w4.alloc (.cells #[.string x.id, .string x.who, .int .i64 x.time, .int .i64 x.date, .slice x.fa x.fs.length x.fc] 36) := ⟨_, rfl⟩
  rw [← hw5] at hB5 hx5 hk5 ⊢
  have hlt5 : w.heap.size < w5.heap.size := by rw [hw5]; exact Nat.lt_of_lt_of_le hlt4 (Nat.le_of_lt (by simp))
  clear hw5 hr0
  have HCL : Hid (∀ W, Below w5.heap.size w5 W → W.cell? ⟨w4.heap.size, 0, none⟩ = some (.string x.id) ∧ W.cell? ⟨w4.heap.size, 1, none⟩ = some (.string x.who) ∧ W.cell? ⟨w4.heap.size, 2, none⟩ = some (.int .i64 x.time) ∧ W.cell? ⟨w4.heap.size, 3, none⟩ = some (.int .i64 x.date) ∧ W.cell? ⟨w4.heap.size, 4, none⟩ = some (.slice x.fa x.fs.length x.fc)) := Lib.hid (fun W h => by
    have hk := Blk.below hk5 h
    exact ⟨hk.cell 0, hk.cell 1, hk.cell 2, hk.cell 3, hk.cell 4⟩)
  have hE := rule_err t x
  have HVN : Hid (rulE numF t x ≠ 0 → hldV numF t x = false ∧ whyL numF t x = []) := Lib.hid (fun h => ⟨by unfold hldV; rw [if_neg h], by unfold whyL; rw [if_neg h]⟩)
  have H1 := Lib.hid (holds_calls numF numF_c numF_ok t w.heap.size x w5 hz hx5)
  have H2 := Lib.hid (fun W (h : Below w5.heap.size w5 W) => why_calls numF numF_c numF_ok numF_z t w.heap.size x W hz (hx5.below h))
  have H3 : Hid (∀ W, Below w5.heap.size w5 W → Calls Tryz.prog 46 #[.string t] W (fun e w' => e = .returned (.int .i64 (parseE numF t).2) ∧ Below W.heap.size W w')) := Lib.hid (fun W h => ruleFault_calls t W hz ((ht.below hB5).below h))
  have H4 : Hid (∀ W, Below w5.heap.size w5 W → Calls Tryz.prog 29 #[.agg #[.string x.id, .string x.who, .int .i64 x.time, .int .i64 x.date, .slice x.fa x.fs.length x.fc]] W (fun e w' => e = .returned (.int .i64 (runF x)) ∧ Below W.heap.size W w')) := Lib.hid (fun W h => runFault_calls w.heap.size x W (hx5.below h))
  have H5 : Hid (∀ W, Calls Tryz.prog 26 #[.slice (some ⟨W.heap.size, 0, none⟩) 2 2] (W.alloc (.cells #[.int .i64 (parseE numF t).2, .int .i64 (runF x)] 30)) (fun e w' => e = .returned (.int .i64 (rulE numF t x)) ∧ Below W.heap.size W w')) := Lib.hid (fun W => by
    have h := errs_calls (W.heap.size + 5) _ 2 2 [(parseE numF t).2, runF x] _ (Rd.lit W (W.heap.size + 5) 1 2 #[.int .i64 (parseE numF t).2, .int .i64 (runF x)] 30 (by omega) (by decide) rfl)
    rw [hE] at h
    refine h.mono ?_
    rintro e w' ⟨he, nq, rfl⟩
    exact ⟨he, below_drewN ((Below.refl _ _).alloc (Nat.le_refl _) _) nq⟩)
  have H6 : Hid (rulE numF t x = 0 → ∀ W, Below w5.heap.size w5 W → Calls Tryz.prog 55 #[.string t, .agg #[.string x.id, .string x.who, .int .i64 x.time, .int .i64 x.date, .slice x.fa x.fs.length x.fc]] W (fun e w' => e = .returned (.bool (hldV numF t x)) ∧ Below W.heap.size W w')) := Lib.hid (fun h0 W h => holdsForV_calls t w.heap.size x W hz h0 (hx5.below h) ((hm.below hB5).below h))
  have H7 : Hid (rulE numF t x = 0 → ∀ W, Below w5.heap.size w5 W → Calls Tryz.prog 56 #[.string t, .agg #[.string x.id, .string x.who, .int .i64 x.time, .int .i64 x.date, .slice x.fa x.fs.length x.fc]] W (AtqS (whyL numF t x) W)) := Lib.hid (fun h0 W h => whyOfV_calls t w.heap.size x W hz h0 (hx5.below h) ((hm.below hB5).below h))
  unfold AtqS at H7
  obtain ⟨E, hEE⟩ : ∃ z, rulE numF t x = z := ⟨_, rfl⟩
  obtain ⟨hv, hhv⟩ : ∃ z, hldV numF t x = z := ⟨_, rfl⟩
  obtain ⟨L, hL⟩ : ∃ z, whyL numF t x = z := ⟨_, rfl⟩
  obtain ⟨pe, hpe⟩ : ∃ z, (parseE numF t).2 = z := ⟨_, rfl⟩
  obtain ⟨re, hre⟩ : ∃ z, runF x = z := ⟨_, rfl⟩
  rw [hEE, hhv] at H1
  rw [hEE, hL] at H2
  rw [hpe] at H3
  rw [hre] at H4
  rw [hpe, hre, hEE] at H5
  rw [hEE, hhv] at H6
  rw [hEE, hL] at H7
  rw [hEE, hhv, hL] at HVN
  obtain ⟨ll, hll⟩ : ∃ ll, L.length = ll := ⟨_, rfl⟩
  rw [hll] at H2 H7
  have HLL := Lib.hid hll
  have HB5 := Lib.hid hB5
  have HLT := Lib.hid hlt5
  have HR := Lib.hid (fun V => ruled_calls V)
  have HEQ := Lib.hid (fun (b : Nat) A A2 c c2 W (h1 : Rd W b 1 (.slice A ll c) ll (svB L)) (h2 : Rd W b 1 (.slice A2 ll c2) ll (svB L)) => equalS_calls b A A2 ll c c2 _ W (by rw [← svB_strs]; exact h1) (by rw [← svB_strs]; exact h2))
  obtain ⟨xid, xwho, xt, xd, xfa, xfc, xfs⟩ := x
  simp only at HCL H1 H2 H4 H6 H7
  obtain ⟨fl, hfl⟩ : ∃ z, xfs.length = z := ⟨_, rfl⟩
  rw [hfl] at HCL H1 H2 H4 H6 H7
  clear hx5 hk5 hB4 hB5 hE hEE hhv hL hpe hre hll hfl ht hm hz hlt4 hlt5
  have S0 : Below w5.heap.size w5 w5 := Below.refl _ _
  obtain ⟨k0, k1, k2, k3, k4⟩ := HCL.out _ S0
  go_wp2_with fail
  refine H1.out.mono ?_
  rintro e w6 ⟨rfl, S6⟩
  clear k0 k1 k2 k3 k4
  obtain ⟨k0, k1, k2, k3, k4⟩ := HCL.out _ S6
  go_wp2_with fail
  refine (H2.out _ S6).mono ?_
  rintro e w7 ⟨A7, c7, rfl, ho7, hb7⟩
  have S7 := below_call S6 hb7 (Nat.le_refl _)
  have hR7 : Rd w7 w.heap.size 1 (.slice A7 ll c7) ll (svB L) := Rd.own ho7 (Nat.lt_of_lt_of_le HLT.out S6.size)
  clear k0 k1 k2 k3 k4 ho7 hb7
  obtain ⟨k0, k1, k2, k3, k4⟩ := HCL.out _ S7
  have T0 : Below w7.heap.size w7 w7 := Below.refl _ _
  have T1 : Below w7.heap.size w7 w7.drew := below_drewN T0 1
  have HS7 := Lib.hid S7
  have G3 : Hid (∀ W, Below w7.heap.size w7 W → Calls Tryz.prog 46 #[.string t] W (fun e w' => e = .returned (.int .i64 pe) ∧ Below w7.heap.size w7 w')) := Lib.hid (fun W h => (H3.out W (below_call HS7.out h (Nat.le_refl _))).mono (fun e w' h2 => ⟨h2.1, below_call h h2.2 (Nat.le_refl _)⟩))
  have G4 : Hid (∀ W, Below w7.heap.size w7 W → Calls Tryz.prog 29 #[.agg #[.string xid, .string xwho, .int .i64 xt, .int .i64 xd, .slice xfa fl xfc]] W (fun e w' => e = .returned (.int .i64 re) ∧ Below w7.heap.size w7 w')) := Lib.hid (fun W h => (H4.out W (below_call HS7.out h (Nat.le_refl _))).mono (fun e w' h2 => ⟨h2.1, below_call h h2.2 (Nat.le_refl _)⟩))
  have G5 : Hid (∀ W, Below w7.heap.size w7 W → Calls Tryz.prog 26 #[.slice (some ⟨W.heap.size, 0, none⟩) 2 2] (W.alloc (.cells #[.int .i64 pe, .int .i64 re] 30)) (fun e w' => e = .returned (.int .i64 E) ∧ Below w7.heap.size w7 w')) := Lib.hid (fun W h => (H5.out W).mono (fun e w' h2 => ⟨h2.1, below_call h h2.2 (Nat.le_refl _)⟩))
  have HC7 : Hid (∀ W, Below w7.heap.size w7 W → W.cell? ⟨w4.heap.size, 0, none⟩ = some (.string xid) ∧ W.cell? ⟨w4.heap.size, 1, none⟩ = some (.string xwho) ∧ W.cell? ⟨w4.heap.size, 2, none⟩ = some (.int .i64 xt) ∧ W.cell? ⟨w4.heap.size, 3, none⟩ = some (.int .i64 xd) ∧ W.cell? ⟨w4.heap.size, 4, none⟩ = some (.slice xfa fl xfc)) := Lib.hid (fun W h => HCL.out W (below_call HS7.out h (Nat.le_refl _)))
  have A8 : ∀ W, Below w7.heap.size w7 W → Below w7.heap.size w7 (W.alloc (.cells #[.int .i64 pe, .int .i64 re] 30)) := fun W h => h.alloc h.size _
  have HA8 := Lib.hid A8
  clear A8 S6 S7 H1 H2 H3 H4 H5
  go_wp2_with fail
  go_region_held3 (fun W => W.cell? ⟨w4.heap.size, 0, none⟩ = some (.string xid) ∧ W.cell? ⟨w4.heap.size, 1, none⟩ = some (.string xwho) ∧ W.cell? ⟨w4.heap.size, 2, none⟩ = some (.int .i64 xt) ∧ W.cell? ⟨w4.heap.size, 3, none⟩ = some (.int .i64 xd) ∧ W.cell? ⟨w4.heap.size, 4, none⟩ = some (.slice xfa fl xfc))
    (first | with_reducible exact HC7.out _ T1 | with_reducible exact HC7.out _ T8 | with_reducible exact HC7.out _ T9 | with_reducible exact HC7.out _ (HA8.out _ T9) | with_reducible exact HC7.out _ T10)
    (first
      | (go_at_call 46; ((with_reducible refine (G3.out _ T1).mono ?_); rintro e w8 ⟨rfl, T8⟩))
      | (go_at_call 29; ((with_reducible refine (G4.out _ T8).mono ?_); rintro e w9 ⟨rfl, T9⟩))
      | (go_at_call 26; ((with_reducible refine (G5.out _ T9).mono ?_); rintro e w10 ⟨rfl, T10⟩)))
  have S10 := below_call HS7.out T10 (Nat.le_refl _)
  have hR10 := hR7.below T10
  have HS10 := Lib.hid S10
  have HR10 := Lib.hid hR10
  clear G3 G4 G5 HC7 HA8 T0 T1 T8 T9 T10 hR7 S10 hR10 k0 k1 k2 k3 k4
  go_upto_if 39 with (fail)
  go_cut [11, 12] (fun s11 s12 W => ∃ w33, w33 = W ∧ ∃ A2 c2, s11 = .slice A2 ll c2 ∧ s12 = .bool hv ∧ Below w10.heap.size w10 W ∧ Rd W w.heap.size 1 (.slice A2 ll c2) ll (svB L))
  case first =>
    by_cases h0 : E = 0
    · have G6 : Hid (∀ W, Below w10.heap.size w10 W → Calls Tryz.prog 55 #[.string t, .agg #[.string xid, .string xwho, .int .i64 xt, .int .i64 xd, .slice xfa fl xfc]] W (fun e w' => e = .returned (.bool hv) ∧ Below w10.heap.size w10 w')) := Lib.hid (fun W h => (H6.out h0 W (below_call HS10.out h (Nat.le_refl _))).mono (fun e w' h2 => ⟨h2.1, below_call h h2.2 (Nat.le_refl _)⟩))
      have G7 : Hid (∀ W, Below w10.heap.size w10 W → Calls Tryz.prog 56 #[.string t, .agg #[.string xid, .string xwho, .int .i64 xt, .int .i64 xd, .slice xfa fl xfc]] W (fun e w' => ∃ A c, e = .returned (.slice A ll c) ∧ Rd w' w.heap.size 1 (.slice A ll c) ll (svB L) ∧ Below w10.heap.size w10 w')) := Lib.hid (fun W h => (H7.out h0 W (below_call HS10.out h (Nat.le_refl _))).mono (fun e w' ⟨A, c, he, ho, hb⟩ => ⟨A, c, he, Rd.own ho (Nat.lt_of_lt_of_le HLT.out (Nat.le_trans HS10.out.size h.size)), below_call h hb (Nat.le_refl _)⟩))
      have HC7 : Hid (∀ W, Below w10.heap.size w10 W → W.cell? ⟨w4.heap.size, 0, none⟩ = some (.string xid) ∧ W.cell? ⟨w4.heap.size, 1, none⟩ = some (.string xwho) ∧ W.cell? ⟨w4.heap.size, 2, none⟩ = some (.int .i64 xt) ∧ W.cell? ⟨w4.heap.size, 3, none⟩ = some (.int .i64 xd) ∧ W.cell? ⟨w4.heap.size, 4, none⟩ = some (.slice xfa fl xfc)) := Lib.hid (fun W h => HCL.out W (below_call HS10.out h (Nat.le_refl _)))
      have T0 : Below w10.heap.size w10 w10 := Below.refl _ _
      have T1 : Below w10.heap.size w10 w10.drew := below_drewN T0 1
      obtain ⟨k0, k1, k2, k3, k4⟩ := HC7.out _ T0
      subst h0
      clear HVN H6 H7
      go_wp2_with fail
      go_region_held3 (fun W => W.cell? ⟨w4.heap.size, 0, none⟩ = some (.string xid) ∧ W.cell? ⟨w4.heap.size, 1, none⟩ = some (.string xwho) ∧ W.cell? ⟨w4.heap.size, 2, none⟩ = some (.int .i64 xt) ∧ W.cell? ⟨w4.heap.size, 3, none⟩ = some (.int .i64 xd) ∧ W.cell? ⟨w4.heap.size, 4, none⟩ = some (.slice xfa fl xfc))
        (first | with_reducible exact HC7.out _ T1 | with_reducible exact HC7.out _ T11 | with_reducible exact HC7.out _ T12)
        (first
          | (go_at_call 55; ((with_reducible refine (G6.out _ T1).mono ?_); rintro e w11 ⟨rfl, T11⟩))
          | (go_at_call 56; ((with_reducible refine (G7.out _ T11).mono ?_); rintro e w12 ⟨A12, c12, rfl, hR12, T12⟩)))
      all_goals
        go_wp2_with fail
        go_meet
        exact ⟨_, rfl, A12, c12, rfl, rfl, T12, hR12⟩
    · have hx : (E == 0) = false := by simpa using h0
      obtain ⟨e1, e2⟩ := HVN.out h0
      have e3 : ll = 0 := by rw [← HLL.out, e2]; rfl
      subst e1
      clear HVN H6 H7 h0
      go_wp2_with fail
      go_meet
      exact ⟨_, rfl, none, 0, by rw [e3], rfl, Below.refl _ _, by rw [e3, e2]; exact Rd.nil _ _ _⟩
  case rest =>
    obtain ⟨w12, rfl, A2, c2, rfl, rfl, T12, hR12⟩ := hcut
    have hR13 := HR10.out.below T12
    have S12 := below_call HB5.out (below_call HS10.out T12 (Nat.le_refl _)) (Nat.le_refl _)
    have n1 : (E == E) = true := by simp
    have n2 : (hv == hv) = true := by simp
    have HQ1 := Lib.hid (HEQ.out w.heap.size A7 A2 c7 c2 w12 hR13 hR12)
    have HS12 := Lib.hid S12
    clear HEQ hR13 hR12 S12 T12 HR10 HS10 H6 H7 HVN
    go_wp2_with (first
      | (go_at_call 37; refine HQ1.out.mono ?_; rintro e w13 ⟨rfl, nq, rfl⟩)
      | (go_at_call 38; refine (HR.out _).mono ?_; rintro e w14 ⟨rfl, hb14⟩))
    have hfin := below_call (below_drewN HS12.out nq) hb14 (Nat.le_refl _)
    go_ret
    exact ⟨rfl, hfin⟩
end Go.Proofs.YtfhdknppldobiaaGreatDoor
