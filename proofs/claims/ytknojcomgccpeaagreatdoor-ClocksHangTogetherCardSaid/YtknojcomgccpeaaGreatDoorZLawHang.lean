/-
  ClocksHangTogether: the law's own walk. (Printed by gen_lawhang.py.)
-/
import Derived.Test.YtknojcomgccpeaaGreatDoorZStream
import Derived.Test.YtknojcomgccpeaaGreatDoorZKeep3
import Derived.Deep.DeepCutAuto
namespace Go.Proofs.YtknojcomgccpeaaGreatDoor
open Go Go.RowKit

theorem ck_le {c : Clk} (h : ckE c = 0) : (timesP c).1 ≤ 864000000 := by
  unfold ckE at h
  split at h
  · omega
  · omega
theorem ct_all {l : List Cut} (h : longE l = 0) : longB l = false ∧ ctL l = l := by
  unfold longE at h
  cases hb : longB l
  · exact ⟨rfl, by unfold ctL; rw [hb]; rfl⟩
  · rw [hb] at h; exact absurd h (by decide)
theorem long_cases (l : List Cut) : longE l = 0 ∨ longE l = 12 := by
  unfold longE
  split
  · exact .inr rfl
  · exact .inl rfl
theorem any_no {l : List Pz} {u : Int} (h : l.any (fun y => y.1 == u + 1) = false) : ∀ p ∈ l, p.1 ≠ u + 1 := by
  intro p hp
  have := List.any_eq_false.1 h p hp
  simpa using this
set_option maxRecDepth 100000 in
set_option maxHeartbeats 4000000 in
theorem hang_walk (a0 : Option Addr) (len0 cap0 : Nat) (z0 : List Int) (w : World) (w0 : InRow w a0 len0 cap0 z0) (ht : Tab w) :
    Calls Tryz.prog 7 #[.slice a0 len0 cap0] w fun e w' => e = .returned (.bool true) ∧ Below w.heap.size w w' := by
  have hs0 := strm_start w0 25
  have hb0 : Bx w.heap.size w.heap.size w (w.alloc (.cells #[.slice a0 len0 cap0, .int .i64 0] 25)) := (Bx.refl _ _ _).alloc (Nat.le_refl _) _
  clear w0
  go_enter Tryz.func7, Tryz.ntmps7
  go_wp2_with fail
  refine (range_calls w.heap.size 0 1 4 _ (by omega) (by omega) (by omega) hs0 (by omega)).mono ?_
  rintro e w1 ⟨n, rfl, n0, n1, hs1, hc1⟩
  obtain ⟨n, rfl⟩ := Int.eq_ofNat_of_zero_le (show 0 ≤ n by omega)
  have hb1 := hb0.call hc1 (Nat.le_refl _)
  clear hs0 hb0 hc1
  go_wp2_with fail
  refine (range_calls w.heap.size _ 0 20 _ (by omega) (by omega) (by omega) hs1 (by omega)).mono ?_
  rintro e w2 ⟨m, rfl, m0, m1, hs2, hc2⟩
  obtain ⟨m, rfl⟩ := Int.eq_ofNat_of_zero_le m0
  have hb2 := hb1.call hc2 (Nat.le_refl _)
  have hlt2 := hs2.lt
  clear hs1 hb1 hc2
  go_wp2_with fail
  refine (rightPresses_calls w.heap.size _ m _ hs2 (by omega) (by omega)).mono ?_
  rintro e w3 ⟨v, l, rfl, hlm, hR, hS3⟩
  go_wp2_with fail
  refine (sp_range hS3 0 400 (by omega) (by omega) (by omega) (by omega)).mono ?_
  rintro e w4 ⟨_, rfl, ⟨u, rfl, hu0, hu1⟩, hS4⟩
  have hO : w4.ownsRow w2.heap.size 46 2 v m (l.flatMap pzC) := hS4.head
  have HB3 := ((hb2.call hS4.bx (Nat.le_refl _)).below (Nat.le_refl _))
  obtain ⟨A, c, hv⟩ := own_form hO
  subst hv
  have hr4 := Rd.own (b := w.heap.size) hO hlt2
  have hok := hR.ok (show (864001000 : Int) ≤ 345686399999 by omega)
  have hlt4 : w.heap.size < w4.heap.size := by have := HB3.size; have := hS4.size; omega
  have hN : 1 ≤ n ∧ n ≤ 100 := by omega
  have hmm : m ≤ 20 := by omega
  have hhang := at_hang n hok (by omega) hu0
  have hon := fun (h : ∀ p ∈ l, p.1 ≠ u + 1) hp => at_on n l u h hp
  obtain ⟨c0, c1, c2, c3, c4, hV1, hE1, hP1⟩ := ck_cases (atK n l u)
  obtain ⟨d0, d1, d2, d3, d4, hV2, hD1, hP2⟩ := ck_cases (atK n l (u + 1))
  have hle := ck_le (c := atK n l u)
  have hct := ct_all (l := (atK n l u).cuts)
  have hfc := long_cases (atK n l u).cuts
  obtain ⟨CC, hCC⟩ : ∃ CC, (atK n l u).cuts = CC := ⟨_, rfl⟩
  obtain ⟨E, hE⟩ : ∃ E, ckE (atK n l u) = E := ⟨_, rfl⟩
  obtain ⟨D, hD⟩ : ∃ D, ckE (atK n l (u + 1)) = D := ⟨_, rfl⟩
  obtain ⟨F, hF⟩ : ∃ F, longE CC = F := ⟨_, rfl⟩
  obtain ⟨CT, hCT⟩ : ∃ CT, ctL CC = CT := ⟨_, rfl⟩
  rw [hCC] at hct hfc hP1
  rw [hF, hCT] at hct
  rw [hF] at hfc
  rw [hE] at hE1 hP1 hle
  rw [hD] at hD1 hP2
  have HC1 : Hid (∀ W, Below w4.heap.size w4 W → Calls Tryz.prog 16 #[.int .i64 n, .slice A m c, .int .i64 u] W (BRet (.tuple #[.agg #[.int .i64 c0, .int .i64 c1, .int .i64 c2, .int .i64 c3, .bool c4], .int .i64 E]) W)) := fun W h => by
    have := clockAt_ok w.heap.size n A m c l u W (hr4.below h) (hok.atE (by omega) hN (by omega))
    rw [hV1, hE] at this
    exact this
  have HC2 : Hid (∀ W, Below w4.heap.size w4 W → Calls Tryz.prog 20 #[.int .i64 n, .slice A m c, .int .i64 u] W (CtsS CT F W)) := fun W h => by
    have := cuts_ok w.heap.size n A m c l u W (hr4.below h) (hok.atE (by omega) hN (by omega)) (by have := h.size; omega)
    rw [hCC, hCT, hF] at this
    exact this
  have HC3 : Hid (∀ W, Below w4.heap.size w4 W → Calls Tryz.prog 16 #[.int .i64 n, .slice A m c, .int .i64 (u + 1)] W (BRet (.tuple #[.agg #[.int .i64 d0, .int .i64 d1, .int .i64 d2, .int .i64 d3, .bool d4], .int .i64 D]) W)) := fun W h => by
    have := clockAt_ok w.heap.size n A m c l (u + 1) W (hr4.below h) (hok.atE (by omega) hN (by omega))
    rw [hV2, hD] at this
    exact this
  have HCF : Hid (∀ W g, Below w4.heap.size w4 W → Blk W g 3 #[.int .i64 u] → Calls Tryz.prog 24 #[.slice A m c, .func (.func 25) #[] #[.pointer (some ⟨g, 0, none⟩)]] W (BRet (.bool (l.any (fun y => y.1 == u + 1))) W)) := fun W g h hg =>
    contHang_calls w.heap.size g u ⟨hu0, hu1⟩ A m c l W hg (hr4.below h)
  have HRD : Hid (∀ W, Below w4.heap.size w4 W → Calls Tryz.prog 12 #[] W (BRet (.bool true) W)) := fun W h =>
    ready_calls w.heap.size W (by have := h.size; omega) (ht.below (below_call HB3 h (Nat.le_refl _)))
  have HFIN : Hid (∀ W W', Below w4.heap.size w4 W → Below W.heap.size W W' → Below w.heap.size w W') := fun W W' h h' => below_call (below_call HB3 h (Nat.le_refl _)) h' (Nat.le_refl _)
  have HLT := Lib.hid hlt4
  have HHG := Lib.hid hhang
  have HON := Lib.hid hon
  have HP1 := Lib.hid hP1
  have HP2 := Lib.hid hP2
  have HLE := Lib.hid hle
  have HCT := Lib.hid hct
  have HCC := Lib.hid hCC
  have hS := (Sq.start w4).add #[.int .i64 u] 3
  clear hs2 hb2 hS3 hS4 hlt2 hlm hR hok hO hr4 hhang hon hP1 hP2 hle hct hCC hCT hF hV1 hV2 hE hD HB3 ht hlt4
  go_upto_region 3 with (fail)
  obtain ⟨g6, hg6⟩ : ∃ g6, w4.heap.size = g6 := ⟨_, rfl⟩
  obtain ⟨W4, hW4⟩ : ∃ W4, W4 = w4.alloc (.cells #[.int .i64 u] 3) := ⟨_, rfl⟩
  rw [hg6] at hS
  rw [hg6]
  rw [← hW4] at hS ⊢
  have x6 := Blk.cell (show Blk W4 g6 3 #[.int .i64 u] from hS.head) 0
  clear hW4
  go_wp2_with fail
  refine (HC1.out _ hS.below).mono ?_
  rintro e w5 ⟨rfl, hb5⟩
  have hS5 := (hS.callB hb5).add #[.int .i64 c0, .int .i64 c1, .int .i64 c2, .int .i64 c3, .bool c4] 48
  obtain ⟨g7, hg7⟩ : ∃ g7, w5.heap.size = g7 := ⟨_, rfl⟩
  rw [hg7] at hS5
  clear hS hb5 x6
  go_upto_region 4 with (fail)
  obtain ⟨W5, hW5⟩ : ∃ W5, W5 = w5.alloc (.cells #[.int .i64 c0, .int .i64 c1, .int .i64 c2, .int .i64 c3, .bool c4] 48) := ⟨_, rfl⟩
  rw [← hW5] at hS5 ⊢
  have x6 := Blk.cell (show Blk W5 g6 3 #[.int .i64 u] from hS5.nth 1 rfl) 0
  clear hW5 hg7
  go_wp2_with fail
  refine (HC2.out _ hS5.below).mono ?_
  rintro e w6 ⟨v6, rfl, ho6, hb6⟩
  obtain ⟨A6, k6, hv⟩ := own_form ho6
  subst hv
  have hS6 := hS5.ownB hb6 ho6
  obtain ⟨⟨x0, x1, x2, x3, x4⟩, _⟩ := five (show Blk w6 g7 48 #[.int .i64 c0, .int .i64 c1, .int .i64 c2, .int .i64 c3, .bool c4] from hS6.nth 1 rfl)
  clear hS5 ho6 hb6 x6
  by_cases hz : E = 0 ∧ F = 0
  · obtain ⟨rfl, rfl⟩ := hz
    obtain ⟨p0, p1, p2, p3, p4⟩ := HP1.out (by first | rfl | trivial)
    obtain ⟨lb, le⟩ := HCT.out (by first | rfl | trivial)
    have le2 := le.symm
    subst le2
    have hg := HHG.out
    have g1 := hg.le
    have g2 := hg.lo
    have g3 := hg.ready
    have g4 := hg.cuts
    have g5 := hg.up
    rw [HCC.out] at g3 g4 g5
    rw [← p1, ← p2] at g1 g3 g5
    rw [← p2] at g2
    rw [← p0, ← p4] at g3
    have gl := HLE.out (by first | rfl | trivial)
    rw [← p1] at gl
    have hcf := g4 lb
    have HCK := Lib.hid (fun W (h : Rd W w.heap.size 3 (.slice A6 CC.length k6) CC.length (CC.flatMap cutC)) => checkCuts_calls w.heap.size A6 CC.length k6 CC W h (CutI.of_ok hcf))
    rw [hcf] at HCK
    have r6 := Rd.own (b := w.heap.size) (show w6.ownsRow w4.heap.size 61 3 (.slice A6 CC.length k6) CC.length (CC.flatMap cutC) from hS6.head) HLT.out
    have HCKK := Lib.hid (HCK.out w6 r6)
    have HUP := Lib.hid g5
    have hc3 : c3 = (CC.length : Int) := p3
    have g3 : c0 = 0 → c1 = 0 ∧ c2 = 0 ∧ CC.length = 0 ∧ c4 = false := g3
    have HRDY := Lib.hid g3
    have e1 : ¬ c1 < c2 := by omega
    have HQ0 := Lib.hid p0
    have HQ1 := Lib.hid p1
    have HQ2 := Lib.hid p2
    have HQ4 := Lib.hid p4
    clear p0 p1 p2 p3 p4 lb hg g3 g4 g5 hcf HCK r6 HHG HP1 HCT HLE
    subst hc3
    have hcap := own_cap (show w6.ownsRow w4.heap.size 61 3 (.slice A6 CC.length k6) CC.length (CC.flatMap cutC) from hS6.head)
    obtain ⟨L, hL⟩ : ∃ L, CC.length = L := ⟨_, rfl⟩
    rw [hL] at hS6 hcap x3 HCKK HRDY
    rw [hL]
    have HL := Lib.hid hL
    have hcm := hcap.2
    unfold maxLen at hcm
    have hcn := hcap.1
    clear hL hcap
    go_upto_region 7 with (fail)
    go_cut [89] (fun s W => s = .bool false ∧ Below w6.heap.size w6 W)
    case first =>
      by_cases hc0 : c0 = 0
      · have hrd := HRDY.out hc0
        obtain ⟨q1, q2, q3, q4⟩ := hrd
        obtain rfl : L = 0 := by omega
        subst hc0
        subst q1
        subst q2
        subst q4
        clear q3
        go_wp2_with fail
        refine HCKK.out.mono ?_
        rintro e w7 ⟨rfl, hb7⟩
        have x0 := below_cell hb7 x0
        have x1 := below_cell hb7 x1
        have x2 := below_cell hb7 x2
        have x3 := below_cell hb7 x3
        have x4 := below_cell hb7 x4
        go_wp2_with fail
        go_meet
        exact ⟨rfl, hb7⟩
      · have e0 : (c0 == 0) = false := by simpa using hc0
        go_wp2_with fail
        refine HCKK.out.mono ?_
        rintro e w7 ⟨rfl, hb7⟩
        have x0 := below_cell hb7 x0
        go_wp2_with fail
        go_meet
        exact ⟨congrArg Value.bool (decide_eq_false (by omega)), hb7⟩
    case rest =>
      obtain ⟨rfl, hb7⟩ := hcut
      have hS7 := hS6.callB hb7
      clear hS6 hb7 x0 x1 x2 x3 x4
      clear HCKK HRDY
      go_wp2_with fail
      go_loopw [92] (fun i wr => ∃ k : Nat, k ≤ L ∧ i = .int .i64 k ∧ Sq w4 wr [rOwn w4.heap.size 61 3 (.slice A6 L k6) L (CC.flatMap cutC), rBlk g7 48 #[.int .i64 c0, .int .i64 c1, .int .i64 c2, .int .i64 L, .bool c4], rBlk g6 3 #[.int .i64 u]]) (fun i _ => L - (intOf i).toNat)
      case atStart => exact ⟨0, Nat.zero_le _, rfl, hS7⟩
      case round =>
        clear hS7
        obtain ⟨k, hk, rfl, hS⟩ := hrel
        have hg7w : g7 < wr.heap.size := Blk.lt (show Blk wr g7 48 _ from hS.nth 1 rfl)
        obtain ⟨⟨x0, x1, x2, x3, x4⟩, _⟩ := five (show Blk wr g7 48 #[.int .i64 c0, .int .i64 c1, .int .i64 c2, .int .i64 L, .bool c4] from hS.nth 1 rfl)
        by_cases hlt : k < L
        · have hkr : k < CC.length := by rw [HL.out]; exact hlt
          have hO : wr.ownsRow w4.heap.size 61 3 (.slice A6 L k6) L (CC.flatMap cutC) := hS.head
          obtain ⟨g, cap, hv, _, _⟩ := hO.form (by omega)
          injection hv with hA _ hc
          subst hA hc
          have y0 := own_cell cutC 3 cutC_len hO k 0 hkr hlt (by omega)
          have y1 := own_cell cutC 3 cutC_len hO k 1 hkr hlt (by omega)
          have y2 := own_cell cutC 3 cutC_len hO k 2 hkr hlt (by omega)
          have hup := HUP.out _ (List.getElem_mem hkr)
          obtain ⟨y, hy⟩ : ∃ y, CC[k] = y := ⟨_, rfl⟩
          rw [hy] at y0 y1 y2 hup
          obtain ⟨yr, yg, ys⟩ := y
          simp only at hup
          obtain ⟨hup1, hup2⟩ := hup
          replace y0 : wr.cell? ⟨g, k * 3, none⟩ = some (.int .i64 yr) := y0
          replace y1 : wr.cell? ⟨g, k * 3 + 1, none⟩ = some (.int .i64 yg) := y1
          replace y2 : wr.cell? ⟨g, k * 3 + 2, none⟩ = some (.bool ys) := y2
          have n1 : ¬ c1 < yr := by omega
          have n2 : ¬ c2 < yg := by omega
          have hne : ¬ g7 = wr.heap.size := by omega
          have hSa := (hS.add #[.int .i64 yr, .int .i64 yg, .bool ys] 61).tail
          clear hO hy
          go_wp2_with fail
          go_roundw
          case rel => exact ⟨k + 1, by omega, by go_num, hSa⟩
          case measure => simp [intOf]; omega
        · obtain rfl : k = L := by omega
          have x6 := Blk.cell (show Blk wr g6 3 #[.int .i64 u] from hS.nth 2 rfl) 0
          go_wp2_with fail
          refine (HC3.out _ hS.below).mono ?_
          rintro e w10 ⟨rfl, hb10⟩
          have hS10 := (hS.callB hb10).add #[.int .i64 d0, .int .i64 d1, .int .i64 d2, .int .i64 d3, .bool d4] 48
          obtain ⟨g13, hg13⟩ : ∃ g13, w10.heap.size = g13 := ⟨_, rfl⟩
          rw [hg13] at hS10
          clear hS hb10 x0 x1 x2 x3 x4 x6
          go_upto_region 16 with (fail)
          obtain ⟨W10, hW10⟩ : ∃ W10, W10 = w10.alloc (.cells #[.int .i64 d0, .int .i64 d1, .int .i64 d2, .int .i64 d3, .bool d4] 48) := ⟨_, rfl⟩
          rw [← hW10] at hS10 ⊢
          have B6 : Blk W10 g6 3 #[.int .i64 u] := hS10.nth 3 rfl
          obtain ⟨⟨x0, x1, x2, x3, x4⟩, _⟩ := five (show Blk W10 g7 48 #[.int .i64 c0, .int .i64 c1, .int .i64 c2, .int .i64 k, .bool c4] from hS10.nth 2 rfl)
          obtain ⟨⟨y0, y1, y2, y3, y4⟩, _⟩ := five (show Blk W10 g13 48 #[.int .i64 d0, .int .i64 d1, .int .i64 d2, .int .i64 d3, .bool d4] from hS10.head)
          have hB10 := hS10.below
          have HCX := Lib.hid (HCF.out W10 g6 hB10 B6)
          obtain ⟨B, hB⟩ : ∃ B, l.any (fun y => y.1 == u + 1) = B := ⟨_, rfl⟩
          rw [hB] at HCX
          clear hW10 hg13 B6 hS10
          rcases hD1 with rfl | rfl
          · by_cases hc0 : c0 = 1
            · subst hc0
              cases B
              · have hp : (atK n l u).phase = 1 := HQ0.out.symm
                have ho := HON.out (any_no hB) hp
                obtain ⟨_, q1, q2, _, _⟩ := HP2.out (by first | rfl | trivial)
                rw [ho, ← HQ4.out, ← HQ1.out, ← HQ2.out] at q1 q2
                simp only at q1 q2
                have HQ := Lib.hid hp
                clear hB hp ho HON HP2
                cases c4
                · have q3 : d2 = c2 + 1 := by simpa using q2
                  subst q1
                  subst q3
                  have e3 : ((c2 + 1) == c2) = false := by rw [beq_eq_false_iff_ne]; omega
                  clear q2
                  go_wp2_with fail
                  refine HCX.out.mono ?_
                  rintro e w12 ⟨rfl, hb12⟩
                  have x1 := below_cell hb12 x1
                  have x2 := below_cell hb12 x2
                  have x4 := below_cell hb12 x4
                  have y1 := below_cell hb12 y1
                  have y2 := below_cell hb12 y2
                  have hB12 := below_call hB10 hb12 (Nat.le_refl _)
                  go_wp2_with fail
                  refine (HRD.out _ hB12).mono ?_
                  rintro e w20 ⟨rfl, hbz⟩
                  go_wp2_with fail
                  go_ret
                  exact ⟨rfl, HFIN.out _ _ hB12 hbz⟩
                · have q3 : d2 = c2 := by simpa using q2
                  subst q1
                  subst q3
                  clear q2
                  go_wp2_with fail
                  refine HCX.out.mono ?_
                  rintro e w12 ⟨rfl, hb12⟩
                  have x1 := below_cell hb12 x1
                  have x2 := below_cell hb12 x2
                  have x4 := below_cell hb12 x4
                  have y1 := below_cell hb12 y1
                  have y2 := below_cell hb12 y2
                  have hB12 := below_call hB10 hb12 (Nat.le_refl _)
                  go_wp2_with fail
                  refine (HRD.out _ hB12).mono ?_
                  rintro e w20 ⟨rfl, hbz⟩
                  go_wp2_with fail
                  go_ret
                  exact ⟨rfl, HFIN.out _ _ hB12 hbz⟩
              · clear hB HON HP2
                go_wp2_with fail
                refine HCX.out.mono ?_
                rintro e w12 ⟨rfl, hb12⟩
                have hB12 := below_call hB10 hb12 (Nat.le_refl _)
                go_wp2_with fail
                refine (HRD.out _ hB12).mono ?_
                rintro e w20 ⟨rfl, hbz⟩
                go_wp2_with fail
                go_ret
                exact ⟨rfl, HFIN.out _ _ hB12 hbz⟩
            · have hx : (c0 != 1) = true := by simpa using hc0
              clear hB hc0 HON HP2
              go_wp2_with fail
              refine (HRD.out _ hB10).mono ?_
              rintro e w20 ⟨rfl, hbz⟩
              go_wp2_with fail
              go_ret
              exact ⟨rfl, HFIN.out _ _ hB10 hbz⟩
          · clear hB HON HP2
            go_wp2_with fail
            refine (HRD.out _ hB10).mono ?_
            rintro e w20 ⟨rfl, hbz⟩
            go_wp2_with fail
            go_ret
            exact ⟨rfl, HFIN.out _ _ hB10 hbz⟩
  · have hB6 := hS6.below
    clear hS6 HHG HP1 HP2 HON HCT HLE x0 x1 x2 x3 x4
    rcases hE1 with rfl | rfl
    · rcases hfc with rfl | rfl
      · exact absurd ⟨rfl, rfl⟩ hz
      · clear hz
        go_wp2_with fail
        refine (HRD.out _ hB6).mono ?_
        rintro e w20 ⟨rfl, hbz⟩
        go_wp2_with fail
        go_ret
        exact ⟨rfl, HFIN.out _ _ hB6 hbz⟩
    · rcases hfc with rfl | rfl
      · clear hz
        go_wp2_with fail
        refine (HRD.out _ hB6).mono ?_
        rintro e w20 ⟨rfl, hbz⟩
        go_wp2_with fail
        go_ret
        exact ⟨rfl, HFIN.out _ _ hB6 hbz⟩
      · clear hz
        go_wp2_with fail
        refine (HRD.out _ hB6).mono ?_
        rintro e w20 ⟨rfl, hbz⟩
        go_wp2_with fail
        go_ret
        exact ⟨rfl, HFIN.out _ _ hB6 hbz⟩
end Go.Proofs.YtknojcomgccpeaaGreatDoor
