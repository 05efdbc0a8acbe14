/-
  BlameIsJust: the law's own walk.
-/
import Derived.Test.YtfhdknppldobiaaGreatDoorZLawStart
import Derived.Test.YtfhdknppldobiaaGreatDoorZBlmP
import Derived.Test.YtfhdknppldobiaaGreatDoorZRulX
import Derived.Test.YtfhdknppldobiaaGreatDoorZSrn1
import Derived.Test.YtfhdknppldobiaaGreatDoorZRat4
import Derived.Deep.DeepCutAuto
import Derived.Deep.RegionHeld3
namespace Go.Proofs.YtfhdknppldobiaaGreatDoor
open Go Go.RowKit TxtP
attribute [local go_sem ↓] Go.wp_at_zero Go.wp_at_succ

/-- a rule as the stream makes one is right -/
theorem rg_right {d : Nat} (hd : d ≤ 4) {s : ByteArray} (h : RgS d s) : parseE numF s = (0, 0) ∧ s.size ≤ 1400 := by
  obtain ⟨x, h⟩ := h
  have h1 := wR_le d hd
  have h2 := h.sz
  have h3 := h.dep
  exact ⟨(h.rx.check numF_ok (by omega) (by omega)).1, by omega⟩
theorem svB_list (ls : List BL) : svB ls = strsV (ls.map fun x => (⟨x.toArray⟩ : ByteArray)) := by
  unfold svB strsV
  rw [List.map_map]
  rfl
theorem memS_in {l : List BL} {y : BL} (h : y ∈ l) : memS (l.map fun x => (⟨x.toArray⟩ : ByteArray)) ⟨y.toArray⟩ = true := by
  unfold memS
  rw [List.any_eq_true]
  exact ⟨_, List.mem_map.2 ⟨y, h, rfl⟩, by unfold eqS; simp⟩
set_option maxRecDepth 100000 in
set_option maxHeartbeats 4000000 in
theorem blm_walk (a0 : Option Addr) (len0 cap0 : Nat) (z0 : List Int) (w : World) (w0 : InRow w a0 len0 cap0 z0) (ht : Tab w) :
    Calls Tryz.prog 7 #[.slice a0 len0 cap0] w fun e w' => e = .returned (.bool true) ∧ Below w.heap.size w w' := by
  have hs0 := Sp.start (strm_start w0 25)
  have hb0 : Bx w.heap.size w.heap.size w (w.alloc (.cells #[.slice a0 len0 cap0, .int .i64 0] 25)) := (Bx.refl _ _ _).alloc (Nat.le_refl _) _
  clear w0
  go_enter Tryz.func7, Tryz.ntmps7
  go_wp2_with fail
  refine (sp_range hs0 0 4 (by omega) (by omega) (by omega) (by omega)).mono ?_
  rintro e w2 ⟨_, rfl, ⟨q, rfl, hq0, hq1⟩, hS2⟩
  obtain ⟨d, rfl⟩ : ∃ d : Nat, q = d := ⟨q.toNat, by omega⟩
  have hd4 : d ≤ 4 := by omega
  have hkk := ruK_le d hd4
  clear hs0
  go_wp2_with fail
  refine (rightRg_calls d hd4 _ _ _ hS2.strm (by omega)).mono ?_
  rintro e w3 ⟨_, rfl, ⟨t, rfl, hrg⟩, hR3⟩
  have hS3 := (hS2.call hR3.strm hR3.bx).more (K' := 1001) (by omega)
  obtain ⟨hpe, hz⟩ := rg_right hd4 hrg
  clear hS2 hR3 hkk hq0 hq1 hrg hd4
  go_wp2_with fail
  refine (someRun_calls w.heap.size _ _ _ hS3.strm (by omega) (by decide)).mono ?_
  rintro e w4 ⟨x, rfl, hxz, hS4⟩
  have hb4 := (hb0.call hS3.bx (Nat.le_refl _)).call hS4.bx (Nat.le_refl _)
  have hx4 : RnW w4 w.heap.size x := ⟨Rd.own hS4.head hS4.hb, Nat.le_trans hxz.hi (by omega), Nat.le_trans hxz.hw (by omega), fun p hp => ⟨Nat.le_trans (hxz.hf p hp).1 (by omega), Nat.le_trans (hxz.hf p hp).2 (by omega)⟩, Nat.le_trans hxz.hn (by omega)⟩
  have hlt4 := hS4.lt
  have hS5 := (Sq.start w4).add (rnC x).toArray 36
  have hB4 := hb4.below (Nat.le_refl _)
  have hB5 := below_call hB4 hS5.below (Nat.le_refl _)
  have hx5 := hx4.below hS5.below
  have hk5 : Blk _ w4.heap.size _ (rnC x).toArray := hS5.head
  clear hb0 hb4 hS3 hS4 hx4 hxz hS5
  have hr0 : (rnC x).toArray = #[.string x.id, .string x.who, .int .i64 x.time, .int .i64 x.date, .slice x.fa x.fs.length x.fc] := rfl
  rw [hr0] at hB5 hx5 hk5
  go_upto_region 3 with (fail)
  obtain ⟨w5, hw5⟩ : ∃ w5, w5 = w4.alloc (.cells #[.string x.id, .string x.who, .int .i64 x.time, .int .i64 x.date, .slice x.fa x.fs.length x.fc] 36) := ⟨_, rfl⟩
  rw [← hw5] at hB5 hx5 hk5 ⊢
  have hlt5 : w.heap.size < w5.heap.size := by rw [hw5]; exact Nat.lt_of_lt_of_le hlt4 (Nat.le_of_lt (by simp))
  clear hw5 hr0
  have HCL : Hid (∀ W, Below w5.heap.size w5 W → W.cell? ⟨w4.heap.size, 0, none⟩ = some (.string x.id) ∧ W.cell? ⟨w4.heap.size, 1, none⟩ = some (.string x.who) ∧ W.cell? ⟨w4.heap.size, 2, none⟩ = some (.int .i64 x.time) ∧ W.cell? ⟨w4.heap.size, 3, none⟩ = some (.int .i64 x.date) ∧ W.cell? ⟨w4.heap.size, 4, none⟩ = some (.slice x.fa x.fs.length x.fc)) := Lib.hid (fun W h => by
    have hk := Blk.below hk5 h
    exact ⟨hk.cell 0, hk.cell 1, hk.cell 2, hk.cell 3, hk.cell 4⟩)
  have HLW : Hid (runF x = 0 → rulE numF t x = 0 ∧ (hldV numF t x = ((whyL numF t x).length == 0)) ∧ ∀ y ∈ whyL numF t x, y ∈ atL numF t) := Lib.hid (fun h => by
    have h0 : rulE numF t x = 0 := by unfold rulE; rw [hpe, if_pos rfl, h]
    exact ⟨h0, blm_law numF_ok h0 (by rw [hpe])⟩)
  have H4 : Hid (∀ W, Below w5.heap.size w5 W → Calls Tryz.prog 29 #[.agg #[.string x.id, .string x.who, .int .i64 x.time, .int .i64 x.date, .slice x.fa x.fs.length x.fc]] W (fun e w' => e = .returned (.int .i64 (runF x)) ∧ Below W.heap.size W w')) := Lib.hid (fun W h => runFault_calls w.heap.size x W (hx5.below h))
  have H1 := Lib.hid (fun W (h : Below w5.heap.size w5 W) => holds_calls numF numF_c numF_ok t w.heap.size x W (by omega) (hx5.below h))
  have H2 := Lib.hid (fun W (h : Below w5.heap.size w5 W) => why_calls numF numF_c numF_ok numF_z t w.heap.size x W (by omega) (hx5.below h))
  have H3 := Lib.hid (fun W => atoms_calls numF numF_c numF_ok numF_z t W (by omega))
  have H5 : Hid (∀ W, w.heap.size < W.heap.size → Calls Tryz.prog 53 #[.slice (some ⟨W.heap.size, 0, none⟩) 3 3] (W.alloc (.cells #[.int .i64 0, .int .i64 0, .int .i64 0] 30)) (fun e w' => e = .returned (.int .i64 0) ∧ Below W.heap.size W w')) := Lib.hid (fun W _ => by
    refine (errsK_calls (W.heap.size + 5) _ 3 3 [0, 0, 0] _ (Rd.lit W (W.heap.size + 5) 1 3 #[.int .i64 0, .int .i64 0, .int .i64 0] 30 (by omega) (by decide) rfl)).mono ?_
    rintro e w' ⟨he, nq, rfl⟩
    exact ⟨he, below_drewN ((Below.refl _ _).alloc (Nat.le_refl _) _) nq⟩)
  have HRD : Hid (∀ W, Below w5.heap.size w5 W → Calls Tryz.prog 15 #[] W (BRet (.bool true) W)) := Lib.hid (fun W h => ready_calls w.heap.size W (Nat.lt_of_lt_of_le hlt5 h.size) ((ht.below hB5).below h))
  rw [show (parseE numF t).2 = 0 by rw [hpe]] at H3
  obtain ⟨E, hEE⟩ : ∃ z, rulE numF t x = z := ⟨_, rfl⟩
  obtain ⟨hv, hhv⟩ : ∃ z, hldV numF t x = z := ⟨_, rfl⟩
  obtain ⟨L, hL⟩ : ∃ z, whyL numF t x = z := ⟨_, rfl⟩
  obtain ⟨M, hM⟩ : ∃ z, atL numF t = z := ⟨_, rfl⟩
  obtain ⟨ti, hti⟩ : ∃ z, tdI numF t = z := ⟨_, rfl⟩
  obtain ⟨re, hre⟩ : ∃ z, runF x = z := ⟨_, rfl⟩
  rw [hEE, hhv] at H1
  rw [hEE, hL] at H2
  rw [hM, hti] at H3
  rw [hre] at H4
  rw [hre, hEE, hhv, hL, hM] at HLW
  have HB5 := Lib.hid hB5
  have HLT := Lib.hid hlt5
  obtain ⟨xid, xwho, xt, xd, xfa, xfc, xfs⟩ := x
  simp only at HCL H1 H2 H4
  obtain ⟨fl, hfl⟩ : ∃ z, xfs.length = z := ⟨_, rfl⟩
  rw [hfl] at HCL H1 H2 H4
  clear hx5 hk5 hB4 hB5 hEE hhv hL hM hti hre hfl ht hz hlt4 hlt5 hpe
  have S0 : Below w5.heap.size w5 w5 := Below.refl _ _
  obtain ⟨k0, k1, k2, k3, k4⟩ := HCL.out _ S0
  go_wp2_with fail
  refine (H4.out _ S0).mono ?_
  rintro e w6 ⟨rfl, S6⟩
  clear k0 k1 k2 k3 k4
  by_cases h0 : re = 0
  · obtain ⟨rfl, hve, hsub⟩ := HLW.out h0
    subst h0
    obtain ⟨ll, hll⟩ : ∃ ll, L.length = ll := ⟨_, rfl⟩
    rw [hll] at H2 hve
    obtain ⟨k0, k1, k2, k3, k4⟩ := HCL.out _ S6
    have HSUB := Lib.hid hsub
    have HLL := Lib.hid hll
    have HVE := Lib.hid hve
    clear HLW hsub hll hve
    go_wp2_with fail
    refine (H1.out _ S6).mono ?_
    rintro e w7 ⟨rfl, hb7⟩
    have S7 := below_call S6 hb7 (Nat.le_refl _)
    clear k0 k1 k2 k3 k4 S6 hb7
    obtain ⟨k0, k1, k2, k3, k4⟩ := HCL.out _ S7
    go_wp2_with fail
    refine (H2.out _ S7).mono ?_
    rintro e w8 ⟨A8, c8, rfl, ho8, hb8⟩
    have S8 := below_call S7 hb8 (Nat.le_refl _)
    have hR8 : Rd w8 w.heap.size 1 (.slice A8 ll c8) ll (svB L) := Rd.own ho8 (Nat.lt_of_lt_of_le HLT.out S7.size)
    clear k0 k1 k2 k3 k4 S7 hb8 ho8
    go_wp2_with fail
    refine (H3.out _).mono ?_
    rintro e w9 ⟨A9, c9, rfl, ho9, hb9⟩
    have S9 := below_call S8 hb9 (Nat.le_refl _)
    have hR9 : Rd w9 w.heap.size 1 (.slice A9 M.length c9) M.length (svB M) := Rd.own ho9 (Nat.lt_of_lt_of_le HLT.out S8.size)
    have hRL := hR8.below hb9
    clear hb9 ho9 hR8 S8 H1 H2 H3 H4 HCL
    have H5a := Lib.hid (H5.out w9 (Nat.lt_of_lt_of_le HLT.out S9.size))
    have HRM := Lib.hid hR9
    have HRL := Lib.hid hRL
    have HS9 := Lib.hid S9
    clear hR9 hRL S9 H5
    have hz : ((0 : Int) != 0) = false := by decide
    have hve1 := HVE.out
    have hve2 : (hv == ((ll : Int) == 0)) = true := by
      rw [hve1]
      cases ll <;> simp
      omega
    clear hve1
    go_wp2_with (first | (go_at_call 53; refine H5a.out.mono ?_; rintro e w10 ⟨rfl, hb10⟩))
    have S10 := below_call HS9.out hb10 (Nat.le_refl _)
    have hRL := HRL.out.below hb10
    have hRM := HRM.out.below hb10
    rw [svB_list] at hRL hRM
    obtain ⟨hl1, hnc1, hcm1, hcl1⟩ := strs_cells hRL
    unfold maxLen at hcm1
    have HCLS := Lib.hid hcl1
    have HLN := Lib.hid hl1
    have HMEM : Hid (∀ k (h : k < (L.map fun x => (⟨x.toArray⟩ : ByteArray)).length), memS (M.map fun x => (⟨x.toArray⟩ : ByteArray)) (L.map fun x => (⟨x.toArray⟩ : ByteArray))[k] = true) := Lib.hid (fun k h => by
      rw [List.getElem_map]
      exact memS_in (HSUB.out _ (List.getElem_mem _)))
    have HRM2 := Lib.hid hRM
    have HS10 := Lib.hid S10
    clear hRL hRM hcl1 hl1 S10 hb10
    go_loopw [61] (fun i wr => ∃ k : Nat, k ≤ ll ∧ i = .int .i64 k ∧ ∃ nq, wr = w10.drewN nq) (fun i _ => ll - (intOf i).toNat)
    case atStart => exact ⟨0, Nat.zero_le _, rfl, 0, rfl⟩
    case round =>
      obtain ⟨k, hk, rfl, nq, rfl⟩ := hrel
      by_cases hlt : k < ll
      · have hkr : k < (L.map fun x => (⟨x.toArray⟩ : ByteArray)).length := by rw [HLN.out]; exact hlt
        obtain ⟨g, o, hA, _, hcs⟩ := HCLS.out (by omega)
        subst hA
        have c0 := hcs k hkr
        have HM1 := HMEM.out k hkr
        obtain ⟨s, hs'⟩ : ∃ s, (L.map fun x => (⟨x.toArray⟩ : ByteArray))[k] = s := ⟨_, rfl⟩
        rw [hs'] at c0 HM1
        have HC2 := Lib.hid (containsS_calls w.heap.size A9 M.length c9 _ s (w10.drewN nq) (HRM2.out.below (below_drewN (Below.refl _ _) nq)))
        rw [HM1] at HC2
        clear hcs hs' HM1
        go_wp2_with (first | (go_at_call 19; refine HC2.out.mono ?_; rintro e w11 ⟨rfl, nq2, rfl⟩))
        go_roundw
        case rel => exact ⟨k + 1, by omega, by go_num, _, rfl⟩
        case measure => simp [intOf]; omega
      · obtain rfl : k = ll := by omega
        have S11 := below_drewN HS10.out nq
        have HR1 := Lib.hid (HRD.out _ S11)
        go_wp2_with (first | (go_at_call 15; refine HR1.out.mono ?_; rintro e w12 ⟨rfl, hb12⟩))
        have hfin := below_call HB5.out (below_call S11 hb12 (Nat.le_refl _)) (Nat.le_refl _)
        go_ret
        exact ⟨rfl, hfin⟩
  · have hne : (re != 0) = true := by rw [bne_iff_ne]; exact h0
    clear HLW H1 H2 H3 H4 H5 HCL
    have HR1 := Lib.hid (HRD.out _ S6)
    go_wp2_with (first | (go_at_call 15; refine HR1.out.mono ?_; rintro e w7 ⟨rfl, hb7⟩))
    have hfin := below_call HB5.out (below_call S6 hb7 (Nat.le_refl _)) (Nat.le_refl _)
    go_ret
    exact ⟨rfl, hfin⟩
end Go.Proofs.YtfhdknppldobiaaGreatDoor
