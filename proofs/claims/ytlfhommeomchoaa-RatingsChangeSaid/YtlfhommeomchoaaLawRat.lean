/-
  RatingsChange: the law's own walk.
-/
import Derived.Test.YtlfhommeomchoaaLawStart
import Derived.Test.YtlfhommeomchoaaRatMake4
import Derived.Test.YtlfhommeomchoaaRaced
import Derived.Test.YtlfhommeomchoaaEqual
import Derived.Test.YtlfhommeomchoaaResQ
import Derived.Test.YtlfhommeomchoaaBoth
import Derived.Test.YtlfhommeomchoaaRatedOf
import Derived.Deep.RegionHeld3
import Derived.Deep.DeepCutAuto
namespace Go.Proofs.Ytlfhommeomchoaa
open Go Go.RowKit

set_option maxRecDepth 100000 in
set_option maxHeartbeats 4000000 in
theorem ratings_walk (a0 : Option Addr) (len0 cap0 : Nat) (z0 : List Int) (w : World) (w0 : InRow w a0 len0 cap0 z0) :
    Calls Try.prog 3 #[.slice a0 len0 cap0] w fun e w' => e = .returned (.bool true) ∧ Below w.heap.size w w' := by
  have hs0 := strm_start w0 25
  have hb0 : Bx w.heap.size w.heap.size w (w.alloc (.cells #[.slice a0 len0 cap0, .int .i64 0] 25)) := (Bx.refl _ _ _).alloc (Nat.le_refl _) _
  clear w0
  go_enter Try.func3, Try.ntmps3
  go_wp2_with fail
  refine (rating_calls w.heap.size 0 _ hs0 (by omega)).mono ?_
  rintro e w1 ⟨aN, aD, rfl, haN, haD, hs1, hc1⟩
  have hb1 := hb0.call hc1 (Nat.le_refl _)
  clear hs0 hb0 hc1
  go_wp2_with fail
  refine (rating_calls w.heap.size _ _ hs1 (by omega)).mono ?_
  rintro e w2 ⟨bN, bD, rfl, hbN, hbD, hs2, hc2⟩
  have hb2 := hb1.call hc2 (Nat.le_refl _)
  clear hs1 hb1 hc2
  go_wp2_with fail
  refine (rateds_calls w.heap.size _ _ hs2 (by omega)).mono ?_
  rintro e w3 ⟨v, rs, rfl, ho3, hn4, hrs, hs3, hc3⟩
  have hlt3 := hs2.lt
  have hb3 := hb2.call hc3 (Nat.le_refl _)
  have hr3 := Rd.own ho3 hlt3
  obtain ⟨A, c, hv⟩ := own_form ho3
  subst hv
  clear ho3 hs2 hb2 hc3
  go_wp2_with fail
  refine (ranks_calls w.heap.size _ _ hs3 (by omega)).mono ?_
  rintro e w4 ⟨v, r, rfl, ho4, hm4, hss, hs4, hc4⟩
  have hlt4 := hs3.lt
  have hb4 := hb3.call hc4 (Nat.le_refl _)
  have hr4 := hr3.bx hc4
  have hq4 := Rd.own ho4 hlt4
  obtain ⟨A2, c2, hv⟩ := own_form ho4
  subst hv
  clear ho4 hs3 hb3 hr3 hc4 hlt3 hlt4
  go_wp2_with fail
  refine (pick_calls w.heap.size _ _ 6 6 _ _ (by omega) (Rd.lit0 hs4.lt (by decide) rfl) (by simp) (hs4.alloc _) (by omega)).mono ?_
  rintro e w5 ⟨x, rfl, hm, hs5, hc5⟩
  obtain ⟨wt, rfl, hwt1, hwt2⟩ : ∃ z : Int, x = .int .i64 z ∧ 0 ≤ z ∧ z ≤ 1001 := by
    simp at hm
    rcases hm with rfl | rfl | rfl | rfl | rfl | rfl <;> exact ⟨_, rfl, by omega, by omega⟩
  have hb5 := ((hb4.alloc (Nat.le_refl _) _).call hc5 (Nat.le_refl _)).below (Nat.le_refl _)
  have hr5 := (hr4.bx ((Bx.refl _ _ _).alloc (Nat.le_refl _) _)).bx hc5
  have hq5 := (hq4.bx ((Bx.refl _ _ _).alloc (Nat.le_refl _) _)).bx hc5
  have hlt5 := hs5.lt
  clear hm hs4 hb4 hr4 hq4 hs5 hc5
  obtain ⟨W5, hW5⟩ : ∃ W, (w5.alloc (.cells #[.int .i64 aN, .int .i64 aD] 27)).alloc (.cells #[.int .i64 bN, .int .i64 bD] 27) = W := ⟨_, rfl⟩
  have hS : Bs w5 W5 [(w5.heap.size + 1, 27, #[.int .i64 bN, .int .i64 bD]), (w5.heap.size, 27, #[.int .i64 aN, .int .i64 aD])] := by
    rw [← hW5]
    have := ((Bs.start w5).add #[.int .i64 aN, .int .i64 aD] 27).add #[.int .i64 bN, .int .i64 bD] 27
    simpa using this
  have k0 := hS.at1.two
  have k1 := hS.head.two
  obtain ⟨k2, k3, _, _⟩ := k0
  obtain ⟨k4, k5, _, _⟩ := k1
  obtain ⟨xN, hxN⟩ : ∃ z, xpN aN aD bN bD = z := ⟨_, rfl⟩
  obtain ⟨xD, hxD⟩ : ∃ z, xpD aN aD bN bD = z := ⟨_, rfl⟩
  obtain ⟨xE, hxE⟩ : ∃ z, xpE aN aD bN bD = z := ⟨_, rfl⟩
  obtain ⟨rL, hrL⟩ : ∃ z, rateL rs r wt = z := ⟨_, rfl⟩
  obtain ⟨rE, hrE⟩ : ∃ z, ratesF rs r wt = z := ⟨_, rfl⟩
  obtain ⟨rF, hrF⟩ : ∃ z, ratedF rs = z := ⟨_, rfl⟩
  obtain ⟨EA, hEA⟩ : ∃ x, ratF aN aD = x := ⟨_, rfl⟩
  obtain ⟨EB, hEB⟩ : ∃ x, ratF bN bD = x := ⟨_, rfl⟩
  have HX : Hid (∀ W, Calls Try.prog 11 #[.agg #[.int .i64 aN, .int .i64 aD], .agg #[.int .i64 bN, .int .i64 bD]] W (FracE xN xD xE W)) := by
    intro W
    have := expectedB_calls aN aD bN bD W haN haD hbN hbD
    rw [hxN, hxD, hxE] at this
    exact this
  have HXO : Hid (xE = 0 → ∀ W, Calls Try.prog 16 #[.agg #[.int .i64 aN, .int .i64 aD], .agg #[.int .i64 bN, .int .i64 bD]] W (FracB xN xD W)) := by
    intro h W
    have := expectedOfB_calls aN aD bN bD W (hxE.trans h)
    rw [hxN, hxD] at this
    exact this
  have HR : Hid (∀ W, Below w5.heap.size w5 W → Calls Try.prog 12 #[.slice A rs.length c, .slice A2 r.length c2, .int .i64 wt] W (RateE rs r wt W)) := by
    intro W h
    exact rateB_calls w.heap.size A _ c rs A2 _ c2 r wt W (hr5.below h) (hq5.below h) hrs hss
  go_wp2_with fail
  refine (HX.out _).mono ?_
  rintro e w6 ⟨rfl, hb6⟩
  have hS6 := (hS.below hb6).add #[.int .i64 xN, .int .i64 xD] 27
  clear k2 k3 k4 k5 hS hb6 hW5
  go_wp2_with fail
  refine (HR.out _ hS6.1).mono ?_
  rintro e w7 ⟨v, rfl, ho7, hb7⟩
  rw [hrE]
  have hS7 := hS6.below hb7
  have hbw := below_call hb5 hS7.1 (Nat.le_refl _)
  have hr7 := hr5.below hS7.1
  have hq7 := hq5.below hS7.1
  have hy7 := Rd.own (b := w.heap.size) ho7 (by have := hS6.1.size; omega)
  rw [hrL] at ho7 hy7
  obtain ⟨A3, c3, hv⟩ := own_form ho7
  subst hv
  have hT := hS7.rebase
  have HCL : Hid (∀ W, Bs w7 W [(w6.heap.size, 27, #[.int .i64 xN, .int .i64 xD]), (w5.heap.size + 1, 27, #[.int .i64 bN, .int .i64 bD]), (w5.heap.size, 27, #[.int .i64 aN, .int .i64 aD])] → W.cell? ⟨w5.heap.size, 0, none⟩ = some (.int .i64 aN) ∧ W.cell? ⟨w5.heap.size, 1, none⟩ = some (.int .i64 aD) ∧ W.cell? ⟨w5.heap.size + 1, 0, none⟩ = some (.int .i64 bN) ∧ W.cell? ⟨w5.heap.size + 1, 1, none⟩ = some (.int .i64 bD)) := by
    intro W h
    exact ⟨h.at2.two.1, h.at2.two.2.1, h.at1.two.1, h.at1.two.2.1⟩
  have HA : Hid (∀ W, Bs w7 W [(w6.heap.size, 27, #[.int .i64 xN, .int .i64 xD]), (w5.heap.size + 1, 27, #[.int .i64 bN, .int .i64 bD]), (w5.heap.size, 27, #[.int .i64 aN, .int .i64 aD])] → Calls Try.prog 14 #[.agg #[.int .i64 aN, .int .i64 aD]] W (fun e w1 => e = .returned (.int .i64 EA) ∧ Bs w7 w1 [(w6.heap.size, 27, #[.int .i64 xN, .int .i64 xD]), (w5.heap.size + 1, 27, #[.int .i64 bN, .int .i64 bD]), (w5.heap.size, 27, #[.int .i64 aN, .int .i64 aD])])) := by
    intro W hW
    refine (ratingFaultQ_calls aN aD W haN haD).mono ?_
    rintro e w1 ⟨rfl, hb⟩
    exact ⟨by rw [hEA], hW.below hb⟩
  have HB : Hid (∀ W, Bs w7 W [(w6.heap.size, 27, #[.int .i64 xN, .int .i64 xD]), (w5.heap.size + 1, 27, #[.int .i64 bN, .int .i64 bD]), (w5.heap.size, 27, #[.int .i64 aN, .int .i64 aD])] → Calls Try.prog 14 #[.agg #[.int .i64 bN, .int .i64 bD]] W (fun e w1 => e = .returned (.int .i64 EB) ∧ Bs w7 w1 [(w6.heap.size, 27, #[.int .i64 xN, .int .i64 xD]), (w5.heap.size + 1, 27, #[.int .i64 bN, .int .i64 bD]), (w5.heap.size, 27, #[.int .i64 aN, .int .i64 aD])])) := by
    intro W hW
    refine (ratingFaultQ_calls bN bD W hbN hbD).mono ?_
    rintro e w1 ⟨rfl, hb⟩
    exact ⟨by rw [hEB], hW.below hb⟩
  have HF : Hid (∀ W, Bs w7 W [(w6.heap.size, 27, #[.int .i64 xN, .int .i64 xD]), (w5.heap.size + 1, 27, #[.int .i64 bN, .int .i64 bD]), (w5.heap.size, 27, #[.int .i64 aN, .int .i64 aD])] → Calls Try.prog 13 #[.slice (some ⟨W.heap.size, 0, none⟩) 2 2] (W.alloc (.cells #[.int .i64 EA, .int .i64 EB] 34)) (fun e w1 => e = .returned (.int .i64 xE) ∧ Bs w7 w1 [(w6.heap.size, 27, #[.int .i64 xN, .int .i64 xD]), (w5.heap.size + 1, 27, #[.int .i64 bN, .int .i64 bD]), (w5.heap.size, 27, #[.int .i64 aN, .int .i64 aD])])) := by
    intro W hW
    have hr : Rd (W.alloc (.cells #[.int .i64 EA, .int .i64 EB] 34)) (W.heap.size + 5) 1 (.slice (some ⟨W.heap.size, 0, none⟩) 2 2) 2 ([EA, EB].map (Value.int .i64)) := Rd.lit W _ 1 2 #[.int .i64 EA, .int .i64 EB] _ (by omega) (by decide) rfl
    refine (errs_calls (W.heap.size + 5) _ 2 2 [EA, EB] _ hr).mono ?_
    rintro e w1 ⟨rfl, n, rfl⟩
    exact ⟨by rw [← hxE, ← hEA, ← hEB]; rfl, (hW.alloc _).drewN n⟩
  have HG : Hid (∀ W, Bs w7 W [(w6.heap.size, 27, #[.int .i64 xN, .int .i64 xD]), (w5.heap.size + 1, 27, #[.int .i64 bN, .int .i64 bD]), (w5.heap.size, 27, #[.int .i64 aN, .int .i64 aD])] → Calls Try.prog 15 #[.slice A rs.length c, .slice A2 r.length c2, .int .i64 wt] W (fun e w1 => e = .returned (.int .i64 rE) ∧ Bs w7 w1 [(w6.heap.size, 27, #[.int .i64 xN, .int .i64 xD]), (w5.heap.size + 1, 27, #[.int .i64 bN, .int .i64 bD]), (w5.heap.size, 27, #[.int .i64 aN, .int .i64 aD])])) := by
    intro W hW
    refine (ratesFaultQ_calls w.heap.size A _ c rs A2 _ c2 r wt W (hr7.below hW.1) (hq7.below hW.1) hss hrs).mono ?_
    rintro e w1 ⟨rfl, hb⟩
    exact ⟨by rw [hrE], hW.below hb⟩
  clear hS6 hS7 hb7 ho7 hb5 hr5 hq5 hEA hEB
  obtain ⟨k2, k3, k4, k5⟩ := HCL.out _ hT
  have HRE := Lib.hid hrE
  have HRL := Lib.hid hrL
  have HXE := Lib.hid hxE
  have HXZ : Hid (xE ≠ 0 → xN = 0 ∧ xD = 0) := by
    intro h
    rw [← hxN, ← hxD]
    unfold xpN xpD
    rw [hxE, if_neg h, if_neg h]
    exact ⟨rfl, rfl⟩
  have HQ : Hid (rE = 0 → ∀ W, Below w7.heap.size w7 W → Calls Try.prog 17 #[.slice A rs.length c, .slice A2 r.length c2, .int .i64 wt] W (fun e w' => ∃ v, e = .returned v ∧ w'.ownsRow W.heap.size 47 3 v rL.length (rL.flatMap ratedC) ∧ Below W.heap.size W w')) := by
    intro h W hW
    have hh := hrE.trans h
    have hl : rL.length = rs.length := by rw [← hrL]; unfold rateL; rw [if_pos hh, rateTo_len]
    have hl2 : rL = rateTo rs r wt r.length := by rw [← hrL]; unfold rateL; rw [if_pos hh]
    rw [hl, hl2]
    exact ratedOf_calls w.heap.size A _ c rs A2 _ c2 r wt W (hr7.below hW) (hq7.below hW) hss hh
  have HQZ : Hid (rE ≠ 0 → rL = []) := by
    intro h
    rw [← hrL]
    unfold rateL
    rw [hrE, if_neg h]
  clear hrE hrL hxE hxN hxD
  go_upto_region 5 with (fail)
  go_region_held3 (fun W => W.cell? ⟨w5.heap.size, 0, none⟩ = some (.int .i64 aN) ∧ W.cell? ⟨w5.heap.size, 1, none⟩ = some (.int .i64 aD) ∧ W.cell? ⟨w5.heap.size + 1, 0, none⟩ = some (.int .i64 bN) ∧ W.cell? ⟨w5.heap.size + 1, 1, none⟩ = some (.int .i64 bD))
    (first | exact HCL.out _ hT.drew | exact HCL.out _ hS11 | exact HCL.out _ hS10 | exact HCL.out _ (hS9.alloc _) | exact HCL.out _ hS9 | exact HCL.out _ hS8)
    (first
      | (go_at_call 14; ((with_reducible refine (HA.out _ hT.drew).mono ?_); rintro e w8 ⟨rfl, hS8⟩))
      | (go_at_call 14; ((with_reducible refine (HB.out w8 hS8).mono ?_); rintro e w9 ⟨rfl, hS9⟩))
      | (go_at_call 13; ((with_reducible refine (HF.out w9 hS9).mono ?_); rintro e w10 ⟨rfl, hS10⟩))
      | (go_at_call 15; ((with_reducible refine (HG.out w10 hS10).mono ?_); rintro e w11 ⟨rfl, hS11⟩)))
  clear k2 k3 k4 k5 hS8 hS9 hS10
  go_upto_if 56 with (fail)
  have hS12 := hS11.add #[.int .i64 0, .int .i64 0] 27
  go_cut [] (fun W => Bs w7 W ((w11.heap.size, 27, #[.int .i64 xN, .int .i64 xD]) :: [(w6.heap.size, 27, #[.int .i64 xN, .int .i64 xD]), (w5.heap.size + 1, 27, #[.int .i64 bN, .int .i64 bD]), (w5.heap.size, 27, #[.int .i64 aN, .int .i64 aD])]))
  case first =>
    by_cases h0 : xE = 0
    · subst h0
      obtain ⟨k2, k3, k4, k5⟩ := HCL.out _ hS12.tail
      have k6 := hS12.head.two
      obtain ⟨k7, k8, k9, k10⟩ := k6
      go_wp2_with fail
      refine (HXO.out (by first | rfl | trivial) _).mono ?_
      rintro e w12 ⟨rfl, hb12⟩
      have hS13 := hS12.below hb12
      obtain ⟨k7, k8, k9, k10⟩ := hS13.head.two
      have hne : ∀ p ∈ ([(w6.heap.size, 27, #[.int .i64 xN, .int .i64 xD]), (w5.heap.size + 1, 27, #[.int .i64 bN, .int .i64 bD]), (w5.heap.size, 27, #[.int .i64 aN, .int .i64 aD])] : List (Nat × TypeId × Array Value)), p.1 ≠ w11.heap.size := by
        intro p hp
        have h1 := hS11.at2.lt
        have h2 := hS11.at1.lt
        have h3 := hS11.head.lt
        simp only [List.mem_cons, List.not_mem_nil, or_false] at hp
        rcases hp with rfl | rfl | rfl <;> simp only [ne_eq] <;> omega
      have hS14 := (hS13.set_ hS11.1.size hne 0 (.int .i64 xN)).set_ hS11.1.size hne 1 (.int .i64 xD)
      go_wp2_with fail
      go_meet
      simpa using hS14
    · obtain ⟨e1, e2⟩ := HXZ.out h0
      subst e1 e2
      have hxb : (xE == 0) = false := by simpa using h0
      go_wp2_with fail
      go_meet
      exact hS12
  case rest =>
    rename_i wc
    go_upto_if 61 with (fail)
    go_cut [16] (fun s16 W => ∃ A4 c4, s16 = .slice A4 rL.length c4 ∧ Bs w7 W [(w11.heap.size, 27, #[.int .i64 xN, .int .i64 xD]), (w6.heap.size, 27, #[.int .i64 xN, .int .i64 xD]), (w5.heap.size + 1, 27, #[.int .i64 bN, .int .i64 bD]), (w5.heap.size, 27, #[.int .i64 aN, .int .i64 aD])] ∧ Rd W w.heap.size 3 (.slice A4 rL.length c4) rL.length (rL.flatMap ratedC))
    case first =>
      by_cases h0 : rE = 0
      · subst h0
        go_wp2_with fail
        refine (HQ.out (by first | rfl | trivial) _ hcut.1).mono ?_
        rintro e w12 ⟨v, rfl, ho, hb12⟩
        have hS13 := hcut.below hb12
        have hy12 := Rd.own (b := w.heap.size) ho (by have := hcut.1.size; have := hbw.size; have := hcut.at3.lt; omega)
        obtain ⟨A4, c4, hv⟩ := own_form ho
        subst hv
        go_wp2_with fail
        go_meet
        exact ⟨A4, c4, rfl, hS13, hy12⟩
      · have e1 := HQZ.out h0
        subst e1
        have hxb : (rE == 0) = false := by simpa using h0
        go_wp2_with fail
        go_meet
        exact ⟨none, 0, rfl, hcut, Rd.nil _ _ _⟩
    case rest =>
      obtain ⟨A4, c4, rfl, hS20, hy20⟩ := hcut
      have HRF := Lib.hid hrF
      clear hrF
      go_wp2_with fail
      refine (checkRated_calls w.heap.size A _ c rs _ (hr7.below hS20.1) hrs).mono ?_
      rintro e w21 ⟨rfl, hb21⟩
      have hS21 := hS20.below hb21
      rw [HRF.out]
      go_wp2_with fail
      refine (ratedFaultQ_calls w.heap.size A _ c rs _ (hr7.below hS21.1) hrs).mono ?_
      rintro e w22 ⟨rfl, hb22⟩
      have hS22 := hS21.below hb22
      have hy22 := (hy20.below hb21).below hb22
      have hz22 := hy7.below hS22.1
      rw [HRF.out]
      obtain ⟨k7, k8, k9, k10⟩ := hS22.head.two
      obtain ⟨m7, m8, m9, m10⟩ := hS22.at1.two
      clear hS20 hS21 hb21 hb22 hy20
      go_wp2_with fail
      refine (equalRated_calls w.heap.size A3 A4 _ c3 c4 rL _ hz22 hy22).mono ?_
      rintro e w23 ⟨rfl, n23, rfl⟩
      go_wp2_with fail
      refine (raced_calls _).mono ?_
      rintro e w24 ⟨rfl, hb24⟩
      have hfin := below_call hbw (hS22.drewN n23).1 (Nat.le_refl _)
      have hfin2 := below_call hfin hb24 (Nat.le_refl _)
      clear k7 k8 k9 k10 m7 m8 m9 m10
      go_wp2_with fail
      go_ret
      exact ⟨rfl, hfin2⟩
end Go.Proofs.Ytlfhommeomchoaa
