/-
  TidyStaysTidy: the law's own walk.
-/
import Derived.Test.YtfhdknppldobiaaGreatDoorZLawStart
import Derived.Test.YtfhdknppldobiaaGreatDoorZLawBlm
import Derived.Test.YtfhdknppldobiaaGreatDoorZTid
import Derived.Test.YtfhdknppldobiaaGreatDoorZRst1
import Derived.Test.YtfhdknppldobiaaGreatDoorZEqS
import Derived.Deep.DeepCutAuto
import Derived.Deep.RegionHeld3
namespace Go.Proofs.YtfhdknppldobiaaGreatDoor
open Go Go.RowKit TxtP
attribute [local go_sem ↓] Go.wp_at_zero Go.wp_at_succ

/-- what Tidy leaves of a rule that the stream made -/
theorem tidy_law {d : Nat} (hd : d ≤ 4) {t : ByteArray} (h : RgS d t) : tdE numF t = 0 ∧ (tdS numF t).size ≤ 2000 ∧ parseE numF (tdS numF t) = (0, 0) ∧ tdE numF (tdS numF t) = 0 ∧ tdS numF (tdS numF t) = tdS numF t ∧
    atL numF (tdS numF t) = atL numF t ∧ flat (parseT numF (tdS numF t)).1 = flat (parseT numF t).1 := by
  obtain ⟨x, h⟩ := h
  have h1 := wR_le d hd
  have h2 := h.sz
  have h3 := h.dep
  have h4 := h.wt
  obtain ⟨p1, p2⟩ := h.rx.check numF_ok (by omega) (by omega)
  have hok := ((check_parse numF numF_ok t).2 (by rw [p1])).1
  have e1 : tidF (parseT numF t).1 = baOf (strX (tidX x)) := ba_eq (by rw [← txt_flat hok, p2, txt_tid, baOf_data])
  have hsz : (tidF (parseT numF t).1).size ≤ 2000 := by
    rw [e1, data_size, baOf_data]
    have := h.rx.size
    omega
  have hE : tdE numF t = 0 := by
    unfold tdE
    rw [if_pos (by rw [p1]), if_neg (by omega)]
  have hS : tdS numF t = baOf (strX (tidX x)) := by
    unfold tdS
    rw [if_pos hE, e1]
  have hdt : depX (tidX x) ≤ 21 := by
    have := ((tid_two h.rx.lv).2.2 rfl).2
    omega
  obtain ⟨q1, q2⟩ := h.rx.tid.check numF_ok (by rw [← e1]; exact hsz) hdt
  have hok2 := ((check_parse numF numF_ok _).2 (by rw [q1])).1
  rw [tree_tid] at q2
  have e2 : tidF (parseT numF (baOf (strX (tidX x)))).1 = baOf (strX (tidX x)) := ba_eq (by rw [← txt_flat hok2, q2, txt_tid, baOf_data])
  have hE2 : tdE numF (baOf (strX (tidX x))) = 0 := by
    unfold tdE
    rw [if_pos (by rw [q1]), e2, ← e1, if_neg (by omega)]
  have hA : atL numF (baOf (strX (tidX x))) = atL numF t := by
    unfold atL
    rw [if_pos (by rw [q1]), if_pos (by rw [p1])]
    have a1 := ats_both numF_z hok
    have a2 := ats_both numF_z hok2
    rw [q2] at a2
    rw [p2] at a1
    exact a2.symm.trans a1
  rw [hS]
  refine ⟨hE, by rw [← e1]; exact hsz, q1, hE2, ?_, hA, by rw [q2, p2]⟩
  unfold tdS
  rw [if_pos hE2, e2]
theorem tidy_holds {d : Nat} (hd : d ≤ 4) {t : ByteArray} (h : RgS d t) (x : Rn) : rulE numF t x = runF x ∧ rulE numF (tdS numF t) x = runF x ∧ hldV numF (tdS numF t) x = hldV numF t x := by
  obtain ⟨p1, _⟩ := rg_right hd h
  obtain ⟨_, _, q1, _, _, _, q2⟩ := tidy_law hd h
  have r1 : rulE numF t x = runF x := by unfold rulE; rw [p1, if_pos rfl]
  have r2 : rulE numF (tdS numF t) x = runF x := by unfold rulE; rw [q1, if_pos rfl]
  refine ⟨r1, r2, ?_⟩
  by_cases h0 : runF x = 0
  · rw [hld_both numF_ok numF_z (isH x.time x.fs) (r2.trans h0) (by rw [q1]) (hdq_atoms (r2.trans h0)), hld_both numF_ok numF_z (isH x.time x.fs) (r1.trans h0) (by rw [p1]) (hdq_atoms (r1.trans h0)), q2]
  · unfold hldV
    rw [r1, r2, if_neg h0, if_neg h0]
set_option maxRecDepth 100000 in
set_option maxHeartbeats 4000000 in
theorem tdy_walk (a0 : Option Addr) (len0 cap0 : Nat) (z0 : List Int) (w : World) (w0 : InRow w a0 len0 cap0 z0) (ht : Tab w) :
    Calls Tryz.prog 6 #[.slice a0 len0 cap0] w fun e w' => e = .returned (.bool true) ∧ Below w.heap.size w w' := by
  have hs0 := Sp.start (strm_start w0 25)
  have hb0 : Bx w.heap.size w.heap.size w (w.alloc (.cells #[.slice a0 len0 cap0, .int .i64 0] 25)) := (Bx.refl _ _ _).alloc (Nat.le_refl _) _
  clear w0
  go_enter Tryz.func6, Tryz.ntmps6
  go_wp2_with fail
  refine (sp_range hs0 0 4 (by omega) (by omega) (by omega) (by omega)).mono ?_
  rintro e w2 ⟨_, rfl, ⟨q, rfl, hq0, hq1⟩, hS2⟩
  obtain ⟨d, rfl⟩ : ∃ d : Nat, q = d := ⟨q.toNat, by omega⟩
  have hd4 : d ≤ 4 := by omega
  have hkk := ruK_le d hd4
  clear hs0
  go_wp2_with fail
  refine (rightRg_calls d hd4 _ _ _ hS2.strm (by omega)).mono ?_
  rintro e w3 ⟨_, rfl, ⟨t, rfl, hrg⟩, hR3⟩
  have hS3 := (hS2.call hR3.strm hR3.bx).more (K' := 1001) (by omega)
  obtain ⟨hpe, hz⟩ := rg_right hd4 hrg
  obtain ⟨t1, t2, t3, t4, t5, t6, _⟩ := tidy_law hd4 hrg
  have hth := tidy_holds hd4 hrg
  clear hS2 hR3 hkk hq0 hq1 hrg hd4
  go_wp2_with fail
  refine (someRun_calls w.heap.size _ _ _ hS3.strm (by omega) (by decide)).mono ?_
  rintro e w4 ⟨x, rfl, hxz, hS4⟩
  have hb4 := (hb0.call hS3.bx (Nat.le_refl _)).call hS4.bx (Nat.le_refl _)
  have hx4 : RnW w4 w.heap.size x := ⟨Rd.own hS4.head hS4.hb, Nat.le_trans hxz.hi (by omega), Nat.le_trans hxz.hw (by omega), fun p hp => ⟨Nat.le_trans (hxz.hf p hp).1 (by omega), Nat.le_trans (hxz.hf p hp).2 (by omega)⟩, Nat.le_trans hxz.hn (by omega)⟩
  have hlt4 := hS4.lt
  have hS5 := (Sq.start w4).add (rnC x).toArray 36
  have hB4 := hb4.below (Nat.le_refl _)
  have hB5 := below_call hB4 hS5.below (Nat.le_refl _)
  have hx5 := hx4.below hS5.below
  have hk5 : Blk _ w4.heap.size _ (rnC x).toArray := hS5.head
  clear hb0 hb4 hS3 hS4 hx4 hxz hS5
  have hr0 : (rnC x).toArray = #[.string x.id, .string x.who, .int .i64 x.time, .int .i64 x.date, .slice x.fa x.fs.length x.fc] := rfl
  rw [hr0] at hB5 hx5 hk5
  go_upto_region 3 with (fail)
  obtain ⟨w5, hw5⟩ : ∃ w5, w5 = w4.alloc (.cells #[.string x.id, .string x.who, .int .i64 x.time, .int .i64 x.date, .slice x.fa x.fs.length x.fc] 36) := ⟨_, rfl⟩
  rw [← hw5] at hB5 hx5 hk5 ⊢
  have hlt5 : w.heap.size < w5.heap.size := by rw [hw5]; exact Nat.lt_of_lt_of_le hlt4 (Nat.le_of_lt (by simp))
  clear hw5 hr0
  have HCL : Hid (∀ W, Below w5.heap.size w5 W → W.cell? ⟨w4.heap.size, 0, none⟩ = some (.string x.id) ∧ W.cell? ⟨w4.heap.size, 1, none⟩ = some (.string x.who) ∧ W.cell? ⟨w4.heap.size, 2, none⟩ = some (.int .i64 x.time) ∧ W.cell? ⟨w4.heap.size, 3, none⟩ = some (.int .i64 x.date) ∧ W.cell? ⟨w4.heap.size, 4, none⟩ = some (.slice x.fa x.fs.length x.fc)) := Lib.hid (fun W h => by
    have hk := Blk.below hk5 h
    exact ⟨hk.cell 0, hk.cell 1, hk.cell 2, hk.cell 3, hk.cell 4⟩)
  obtain ⟨r1, r2, r3⟩ := hth x
  have H0 := Lib.hid (fun W => tidyR_calls numF numF_c numF_ok numF_z t W (by omega))
  have H0b := Lib.hid (fun W => tidyR_calls numF numF_c numF_ok numF_z (tdS numF t) W (by omega))
  have H3 := Lib.hid (fun W => atoms_calls numF numF_c numF_ok numF_z t W (by omega))
  have H3b := Lib.hid (fun W => atoms_calls numF numF_c numF_ok numF_z (tdS numF t) W (by omega))
  have H1 := Lib.hid (fun W (h : Below w5.heap.size w5 W) => holds_calls numF numF_c numF_ok t w.heap.size x W (by omega) (hx5.below h))
  have H1b := Lib.hid (fun W (h : Below w5.heap.size w5 W) => holds_calls numF numF_c numF_ok (tdS numF t) w.heap.size x W (by omega) (hx5.below h))
  have H5 : Hid (∀ W, Calls Tryz.prog 53 #[.slice (some ⟨W.heap.size, 0, none⟩) 4 4] (W.alloc (.cells #[.int .i64 0, .int .i64 0, .int .i64 0, .int .i64 0] 30)) (fun e w' => e = .returned (.int .i64 0) ∧ Below W.heap.size W w')) := Lib.hid (fun W => by
    refine (errsK_calls (W.heap.size + 5) _ 4 4 [0, 0, 0, 0] _ (Rd.lit W (W.heap.size + 5) 1 4 #[.int .i64 0, .int .i64 0, .int .i64 0, .int .i64 0] 30 (by omega) (by decide) rfl)).mono ?_
    rintro e w' ⟨he, nq, rfl⟩
    exact ⟨he, below_drewN ((Below.refl _ _).alloc (Nat.le_refl _) _) nq⟩)
  have HRD : Hid (∀ W, Below w5.heap.size w5 W → Calls Tryz.prog 15 #[] W (BRet (.bool true) W)) := Lib.hid (fun W h => ready_calls w.heap.size W (Nat.lt_of_lt_of_le hlt5 h.size) ((ht.below hB5).below h))
  rw [show (parseE numF t).2 = 0 by rw [hpe]] at H3
  rw [show (parseE numF (tdS numF t)).2 = 0 by rw [t3], t6] at H3b
  rw [t1] at H0
  rw [t4, t5] at H0b
  rw [r1] at H1
  rw [r2, r3] at H1b
  obtain ⟨hv, hhv⟩ : ∃ z, hldV numF t x = z := ⟨_, rfl⟩
  obtain ⟨T, hT⟩ : ∃ z, tdS numF t = z := ⟨_, rfl⟩
  obtain ⟨M, hM⟩ : ∃ z, atL numF t = z := ⟨_, rfl⟩
  obtain ⟨ti, hti⟩ : ∃ z, tdI numF t = z := ⟨_, rfl⟩
  obtain ⟨re, hre⟩ : ∃ z, runF x = z := ⟨_, rfl⟩
  rw [hT, hti] at H0
  rw [hT] at H0b H3b H1b
  obtain ⟨tj, htj⟩ : ∃ z, tdI numF T = z := ⟨_, rfl⟩
  rw [htj] at H0b H3b
  rw [hM, hti] at H3
  rw [hM] at H3b
  rw [hhv, hre] at H1 H1b
  obtain ⟨ll, hll⟩ : ∃ ll, M.length = ll := ⟨_, rfl⟩
  rw [hll] at H3 H3b
  have HB5 := Lib.hid hB5
  have HLT := Lib.hid hlt5
  have HEQ := Lib.hid (fun (b : Nat) A A2 c c2 W (h1 : Rd W b 1 (.slice A ll c) ll (svB M)) (h2 : Rd W b 1 (.slice A2 ll c2) ll (svB M)) => equalS_calls b A A2 ll c c2 _ W (by rw [← svB_strs]; exact h1) (by rw [← svB_strs]; exact h2))
  obtain ⟨xid, xwho, xt, xd, xfa, xfc, xfs⟩ := x
  simp only at HCL H1 H1b
  obtain ⟨fl, hfl⟩ : ∃ z, xfs.length = z := ⟨_, rfl⟩
  rw [hfl] at HCL H1 H1b
  have n6 : (T.toList == T.toList) = true := by simp
  have n7 : (re == re) = true := by simp
  have n8 : (hv == hv) = true := by simp
  have n9 : ((0 : Int) != 0) = false := by decide
  clear hx5 hk5 hB4 hB5 hhv hT hM hti htj hre hfl ht hz hlt4 hlt5 hpe t1 t2 t3 t4 t5 t6 r1 r2 r3 hth hll
  have S0 : Below w5.heap.size w5 w5 := Below.refl _ _
  go_wp2_with fail
  refine (H0.out _).mono ?_
  rintro e w6 ⟨rfl, hb6⟩
  have S6 := below_call S0 hb6 (Nat.le_refl _)
  clear hb6
  go_wp2_with fail
  refine (H0b.out _).mono ?_
  rintro e w7 ⟨rfl, hb7⟩
  have S7 := below_call S6 hb7 (Nat.le_refl _)
  clear hb7 S6
  go_wp2_with fail
  refine (H3.out _).mono ?_
  rintro e w8 ⟨A8, c8, rfl, ho8, hb8⟩
  have S8 := below_call S7 hb8 (Nat.le_refl _)
  have hR8 : Rd w8 w.heap.size 1 (.slice A8 ll c8) ll (svB M) := Rd.own ho8 (Nat.lt_of_lt_of_le HLT.out S7.size)
  clear hb8 ho8 S7
  go_wp2_with fail
  refine (H3b.out _).mono ?_
  rintro e w9 ⟨A9, c9, rfl, ho9, hb9⟩
  have S9 := below_call S8 hb9 (Nat.le_refl _)
  have hR9 : Rd w9 w.heap.size 1 (.slice A9 ll c9) ll (svB M) := Rd.own ho9 (Nat.lt_of_lt_of_le HLT.out S8.size)
  have HRL := Lib.hid (hR8.below hb9)
  have HRM := Lib.hid hR9
  have HS9 := Lib.hid S9
  clear hb9 ho9 hR8 S8 S9 H0 H0b H3 H3b hR9
  have H5a := Lib.hid (H5.out w9)
  clear H5
  go_wp2_with (first
    | (go_at_call 53; refine H5a.out.mono ?_; rintro e w10 ⟨rfl, hb10⟩))
  have S10 := below_call HS9.out hb10 (Nat.le_refl _)
  have HQ1 := Lib.hid (HEQ.out w.heap.size A8 A9 c8 c9 w10 (HRL.out.below hb10) (HRM.out.below hb10))
  clear hb10 HRL HRM HEQ HS9 H5a
  refine HQ1.out.mono ?_
  rintro e w11 ⟨rfl, nq, rfl⟩
  have S11 := below_drewN S10 nq
  obtain ⟨k0, k1, k2, k3, k4⟩ := HCL.out _ S11
  clear HQ1 S10
  go_wp2_with fail
  refine (H1.out _ S11).mono ?_
  rintro e w12 ⟨rfl, hb12⟩
  have S12 := below_call S11 hb12 (Nat.le_refl _)
  clear k0 k1 k2 k3 k4
  obtain ⟨k0, k1, k2, k3, k4⟩ := HCL.out _ S12
  clear S11 hb12
  go_wp2_with fail
  refine (H1b.out _ S12).mono ?_
  rintro e w13 ⟨rfl, hb13⟩
  have S13 := below_call S12 hb13 (Nat.le_refl _)
  have HR1 := Lib.hid (HRD.out _ S13)
  clear S12 hb13 k0 k1 k2 k3 k4 HCL H1 H1b
  go_wp2_with (first | (go_at_call 15; refine HR1.out.mono ?_; rintro e w14 ⟨rfl, hb14⟩))
  have hfin := below_call HB5.out (below_call S13 hb14 (Nat.le_refl _)) (Nat.le_refl _)
  go_ret
  exact ⟨rfl, hfin⟩
end Go.Proofs.YtfhdknppldobiaaGreatDoor
