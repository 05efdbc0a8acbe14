/-
  SlotsOrdered: the law's own walk.
-/
import Derived.Test.YtejadhehmcifoaaZSord1
import Derived.Test.YtejadhehmcifoaaZShown
import Derived.Test.YtejadhehmcifoaaZMomF
import Derived.Test.YtejadhehmcifoaaZSlot13
import Derived.Test.YtejadhehmcifoaaZStream
import Derived.Deep.DeepCutAuto
namespace Go.Proofs.Ytejadhehmcifoaa
open Go Go.RowKit

set_option maxRecDepth 100000 in
set_option maxHeartbeats 4000000 in
theorem sord_walk (a0 : Option Addr) (len0 cap0 : Nat) (z0 : List Int) (w : World) (w0 : InRow w a0 len0 cap0 z0) :
    Calls Try.prog 4 #[.slice a0 len0 cap0] w fun e w' => e = .returned (.bool true) ∧ Below w.heap.size w w' := by
  have hs0 := strm_start w0 25
  have hb0 : Bx w.heap.size w.heap.size w (w.alloc (.cells #[.slice a0 len0 cap0, .int .i64 0] 25)) := (Bx.refl _ _ _).alloc (Nat.le_refl _) _
  clear w0
  go_enter Try.func4, Try.ntmps4
  go_wp2_with fail
  refine (slots_calls w.heap.size 0 5 _ hs0 (by omega) (by omega)).mono ?_
  rintro e w1 ⟨v, xs, rfl, hx5, hz, hS⟩
  obtain ⟨n, hn⟩ : ∃ n, xs.length = n := ⟨_, rfl⟩
  rw [hn] at hS hx5
  obtain ⟨A, c, hv⟩ := own_form (show w1.ownsRow _ _ _ v n _ from hS.head)
  subst hv
  have hr1 := slts_of hS hz (by omega)
  have hs1 := hS.strm
  have hb1 := hb0.call hS.bx (Nat.le_refl _)
  have HN := Lib.hid hn
  clear hS hs0 hb0 hz hn
  go_wp2_with fail
  refine (sp_pickL (Sp.start hs1) #[.int .i64 0, .int .i64 10, .int .i64 100, .int .i64 150, .int .i64 300, .int .i64 (-1), .int .i64 86400001] 3 7 (-1) 86400001 (by decide) (by decide) rfl rfl (by omega)).mono ?_
  rintro e w2 ⟨_, rfl, ⟨rest, rfl, hrs0, hrs1⟩, hS⟩
  have hr2 := hr1.bx hS.bx
  have hs2 := hS.strm
  have hb2 := hb1.call hS.bx (Nat.le_refl _)
  clear hS hs1 hr1 hb1
  go_wp2_with fail
  refine (sp_pickL (Sp.start hs2) #[.int .i64 0, .int .i64 0, .int .i64 100, .int .i64 (-1)] 3 4 (-1) 100 (by decide) (by decide) rfl rfl (by omega)).mono ?_
  rintro e w3 ⟨_, rfl, ⟨f, rfl, hf0, hf1⟩, hS⟩
  have hr3 := hr2.bx hS.bx
  have hs3 := hS.strm
  have hb3 := hb2.call hS.bx (Nat.le_refl _)
  clear hS hs2 hr2 hb2
  go_wp2_with fail
  refine (sp_pickL (Sp.start hs3) #[.int .i64 0, .int .i64 100, .int .i64 150, .int .i64 220, .int .i64 300, .int .i64 500, .int .i64 2000, .int .i64 345686400001] 3 8 0 345686400001 (by decide) (by decide) rfl rfl (by omega)).mono ?_
  rintro e w4 ⟨_, rfl, ⟨y, rfl, hy0, hy1⟩, hS⟩
  have hr4 := hr3.bx hS.bx
  have hs4 := hS.strm
  have hlt4 := hS.strm.lt
  have hb4 := hb3.call hS.bx (Nat.le_refl _)
  clear hS hs3 hr3 hb3
  obtain ⟨E0, hE0⟩ : ∃ E, slotsF xs = E := ⟨_, rfl⟩
  obtain ⟨E1, hE1⟩ : ∃ E, ordE xs rest = E := ⟨_, rfl⟩
  obtain ⟨E2, hE2⟩ : ∃ E, drpE xs f y = E := ⟨_, rfl⟩
  obtain ⟨L, hL⟩ : ∃ L, ordL xs rest = L := ⟨_, rfl⟩
  obtain ⟨N, hN⟩ : ∃ N, ordN xs rest = N := ⟨_, rfl⟩
  obtain ⟨D, hD⟩ : ∃ D, drpL xs f y = D := ⟨_, rfl⟩
  have HOP : Hid (∀ W, Below w4.heap.size w4 W → Calls Try.prog 18 #[.slice A n c, .int .i64 rest] W (OrderR L N E1 W)) := Lib.hid (fun W hW => by
    have := order_all w.heap.size A n c xs rest W (hr4.below hW) (by have := hW.size; omega)
    rw [hE1, hL, hN] at this
    exact this)
  have HDP : Hid (∀ W, Below w4.heap.size w4 W → Calls Try.prog 19 #[.slice A n c, .int .i64 f, .int .i64 y] W (DropS D E2 W)) := Lib.hid (fun W hW => by
    have := drop_all w.heap.size A n c xs f y W (hr4.below hW) (by have := hW.size; omega)
    rw [hE2, hD] at this
    exact this)
  have HSF : Hid (∀ W, Below w4.heap.size w4 W → Calls Try.prog 20 #[.slice A n c] W (BRet (.int .i64 E0) W)) := Lib.hid (fun W hW => by
    have := slotsFaultQ_calls w.heap.size A n c xs W (hr4.below hW) (by have := hW.size; omega)
    rw [hE0] at this
    exact this)
  have HOQ : Hid (E1 = 0 → ∀ W, Below w4.heap.size w4 W → Calls Try.prog 24 #[.slice A n c, .int .i64 rest] W (fun e w' => ∃ v, e = .returned (.tuple #[v, .int .i64 N]) ∧ w'.ownsRow W.heap.size 9 1 v L.length (strsV L) ∧ Below W.heap.size W w')) := Lib.hid (fun h W hW => by
    have hE := hE1.trans h
    have hl : ordL xs rest = (bestR rest xs).1 := by unfold ordL; rw [if_pos hE]
    have hm : ordN xs rest = (bestR rest xs).2 := by unfold ordN; rw [if_pos hE]
    obtain ⟨h00, _, hrr⟩ := ordE_ok hE
    have := orderOf_calls w.heap.size A n c xs rest W (hr4.below hW) (by have := hW.size; omega) (slots_one h00) (by omega) hrr
    rw [← hl, ← hm, hL, hN] at this
    exact this)
  have HDQ : Hid (E2 = 0 → ∀ W, Below w4.heap.size w4 W → Calls Try.prog 25 #[.slice A n c, .int .i64 f, .int .i64 y] W (fun e w' => ∃ v, e = .returned v ∧ w'.ownsRow W.heap.size 9 1 v D.length (strsV D) ∧ Below W.heap.size W w')) := Lib.hid (fun h W hW => by
    have hE := hE2.trans h
    have hl : drpL xs f y = keysO xs n (bstS xs f y n (2 ^ n)) := by unfold drpL; rw [if_pos hE, HN.out]
    obtain ⟨_, _, d0, d1, d2, d3⟩ := drpE_ok hE
    have := dropQ_calls w.heap.size A n c xs f y W (hr4.below hW) (by have := hW.size; omega) (by omega) d0 d1 d2 d3
    rw [← hl, hD] at this
    exact this)
  have hL0 : E1 ≠ 0 → L = [] ∧ N = 0 := fun h => by rw [← hL, ← hN]; unfold ordL ordN; rw [if_neg (by rw [hE1]; exact h), if_neg (by rw [hE1]; exact h)]; exact ⟨rfl, rfl⟩
  have hD0 : E2 ≠ 0 → D = [] := fun h => by rw [← hD]; unfold drpL; rw [if_neg (by rw [hE2]; exact h)]
  have HL0 := Lib.hid hL0
  have HD0 := Lib.hid hD0
  have HF1 : Hid (firstE [E0, if outB rest 0 86400000 = true then 1 else 0] = E1) := Lib.hid (by rw [← hE0, ordE_first xs rest (by rw [HN.out]; omega), hE1])
  have HF2 : Hid (firstE [E0, if momB f = true then 0 else 1, if outB y f 345686400000 = true then 1 else 0] = E2) := Lib.hid (by rw [← hE0, drpE_first xs f y (by rw [HN.out]; omega), hE2])
  have HE0 := Lib.hid hE0
  have HB4 := Lib.hid hb4
  have HR4 := Lib.hid hr4
  have HS4 := Lib.hid hs4
  clear hE0 hE1 hE2 hL hN hD hL0 hD0 hr4 hs4 hb4
  go_wp2_with fail
  refine (HOP.out _ (Below.refl _ _)).mono ?_
  rintro e w5 ⟨v5, rfl, ho5, hb5⟩
  have hy5 := Rd.own (b := w.heap.size) ho5 hlt4
  obtain ⟨A5, c5, hv⟩ := own_form ho5
  subst hv
  clear ho5
  go_wp2_with fail
  refine (HDP.out _ hb5).mono ?_
  rintro e w6 ⟨v6, rfl, ho6, hb6⟩
  have hS6 := below_call hb5 hb6 (Nat.le_refl _)
  have hy6 := hy5.below hb6
  have hx6 := Rd.own (b := w.heap.size) ho6 (by have := hb5.size; omega)
  obtain ⟨A6, c6, hv⟩ := own_form ho6
  subst hv
  clear ho6 hb6 hy5 hb5
  go_wp2_with fail
  refine (HSF.out _ hS6).mono ?_
  rintro e w7 ⟨rfl, hb7⟩
  have hS7 := below_call hS6 hb7 (Nat.le_refl _)
  have hy7 := hy6.below hb7
  have hx7 := hx6.below hb7
  clear hb7 hy6 hx6 hS6
  go_upto_region 6 with (fail)
  go_cut [14] (fun s14 W => s14 = .int .i64 E1 ∧ Below w4.heap.size w4 W ∧ Rd W w.heap.size 1 (.slice A5 L.length c5) L.length (strsV L) ∧ Rd W w.heap.size 1 (.slice A6 D.length c6) D.length (strsV D))
  case first =>
    have HW : Hid (∀ W, Below w4.heap.size w4 W → ∀ B, (outB rest 0 86400000 = B) → Calls Try.prog 21 #[.slice (some ⟨W.heap.size, 0, none⟩) 2 2] (W.alloc (.cells #[.int .i64 E0, .int .i64 (if B = true then 1 else 0)] 29)) (fun e w' => e = .returned (.int .i64 E1) ∧ Below w4.heap.size w4 w' ∧ Below W.heap.size W w')) := Lib.hid (fun W hW B hB => by
      have h := errs_calls w.heap.size _ 2 2 [E0, if B = true then 1 else 0] _ (Rd.lit0 (w := W) (b := w.heap.size) (n := 2) (cs := #[.int .i64 E0, .int .i64 (if B = true then 1 else 0)]) (t := 29) (by have := hW.size; omega) (by decide) rfl)
      rw [← hB, HF1.out] at h
      rw [← hB]
      refine h.mono ?_
      rintro e w' ⟨he, nq, rfl⟩
      exact ⟨he, below_drewN (hW.alloc hW.size _) nq, below_drewN ((Below.refl _ _).alloc (Nat.le_refl _) _) nq⟩)
    by_cases hneg : rest < 0
    · have HO : Hid (outB rest 0 86400000 = true) := Lib.hid (by unfold outB; exact decide_eq_true (.inl hneg))
      go_wp2_with fail
      refine (when_calls _ _ _).mono ?_
      rintro e w8 ⟨rfl, rfl⟩
      go_wp2_with fail
      refine (HW.out _ hS7 true HO.out).mono ?_
      rintro e w8 ⟨rfl, hS8, hb8⟩
      have hy8 := hy7.below hb8
      have hx8 := hx7.below hb8
      go_wp2_with fail
      go_meet
      exact ⟨rfl, hS8, hy8, hx8⟩
    · by_cases hbig : 86400000 < rest
      · have HO : Hid (outB rest 0 86400000 = true) := Lib.hid (by unfold outB; exact decide_eq_true (.inr hbig))
        go_wp2_with fail
        refine (when_calls _ _ _).mono ?_
        rintro e w8 ⟨rfl, rfl⟩
        go_wp2_with fail
        refine (HW.out _ hS7 true HO.out).mono ?_
        rintro e w8 ⟨rfl, hS8, hb8⟩
        have hy8 := hy7.below hb8
        have hx8 := hx7.below hb8
        go_wp2_with fail
        go_meet
        exact ⟨rfl, hS8, hy8, hx8⟩
      · have HO : Hid (outB rest 0 86400000 = false) := Lib.hid (by unfold outB; exact decide_eq_false (by omega))
        go_wp2_with fail
        refine (when_calls _ _ _).mono ?_
        rintro e w8 ⟨rfl, rfl⟩
        go_wp2_with fail
        refine (HW.out _ hS7 false HO.out).mono ?_
        rintro e w8 ⟨rfl, hS8, hb8⟩
        have hy8 := hy7.below hb8
        have hx8 := hx7.below hb8
        go_wp2_with fail
        go_meet
        exact ⟨rfl, hS8, hy8, hx8⟩
  case rest =>
    obtain ⟨rfl, hS8, hy8, hx8⟩ := hcut
    clear hS7 hy7 hx7
    as_aux_lemma =>
      go_upto_region 7 with (fail)
      go_cut [15] (fun s15 W => s15 = .int .i64 E2 ∧ Below w4.heap.size w4 W ∧ Rd W w.heap.size 1 (.slice A5 L.length c5) L.length (strsV L) ∧ Rd W w.heap.size 1 (.slice A6 D.length c6) D.length (strsV D))
      case first =>
        have HW : Hid (∀ W, Below w4.heap.size w4 W → ∀ B, (outB y f 345686400000 = B) → Calls Try.prog 21 #[.slice (some ⟨W.heap.size, 0, none⟩) 3 3] (W.alloc (.cells #[.int .i64 E0, .int .i64 (if momB f = true then 0 else 1), .int .i64 (if B = true then 1 else 0)] 29)) (fun e w' => e = .returned (.int .i64 E2) ∧ Below w4.heap.size w4 w' ∧ Below W.heap.size W w')) := Lib.hid (fun W hW B hB => by
          have h := errs_calls w.heap.size _ 3 3 [E0, if momB f = true then 0 else 1, if B = true then 1 else 0] _ (Rd.lit0 (w := W) (b := w.heap.size) (n := 3) (cs := #[.int .i64 E0, .int .i64 (if momB f = true then 0 else 1), .int .i64 (if B = true then 1 else 0)]) (t := 29) (by have := hW.size; omega) (by decide) rfl)
          rw [← hB, HF2.out] at h
          rw [← hB]
          refine h.mono ?_
          rintro e w' ⟨he, nq, rfl⟩
          exact ⟨he, below_drewN (hW.alloc hW.size _) nq, below_drewN ((Below.refl _ _).alloc (Nat.le_refl _) _) nq⟩)
        have HM := Lib.hid (fun W => momentFault_calls f W)
        obtain ⟨MF, hMF⟩ : ∃ M : Int, (if momB f = true then 0 else 1) = M := ⟨_, rfl⟩
        rw [hMF] at HW HM
        clear hMF
        by_cases hneg : y < f
        · have HO : Hid (outB y f 345686400000 = true) := Lib.hid (by unfold outB; exact decide_eq_true (.inl hneg))
          go_wp2_with fail
          refine (HM.out _).mono ?_
          rintro e w8 ⟨rfl, rfl⟩
          go_wp2_with fail
          refine (when_calls _ _ _).mono ?_
          rintro e w8 ⟨rfl, rfl⟩
          go_wp2_with fail
          refine (HW.out _ hS8 true HO.out).mono ?_
          rintro e w9 ⟨rfl, hS9, hb9⟩
          have hy9 := hy8.below hb9
          have hx9 := hx8.below hb9
          go_wp2_with fail
          go_meet
          exact ⟨rfl, hS9, hy9, hx9⟩
        · by_cases hbig : 345686400000 < y
          · have HO : Hid (outB y f 345686400000 = true) := Lib.hid (by unfold outB; exact decide_eq_true (.inr hbig))
            go_wp2_with fail
            refine (HM.out _).mono ?_
            rintro e w8 ⟨rfl, rfl⟩
            go_wp2_with fail
            refine (when_calls _ _ _).mono ?_
            rintro e w8 ⟨rfl, rfl⟩
            go_wp2_with fail
            refine (HW.out _ hS8 true HO.out).mono ?_
            rintro e w9 ⟨rfl, hS9, hb9⟩
            have hy9 := hy8.below hb9
            have hx9 := hx8.below hb9
            go_wp2_with fail
            go_meet
            exact ⟨rfl, hS9, hy9, hx9⟩
          · have HO : Hid (outB y f 345686400000 = false) := Lib.hid (by unfold outB; exact decide_eq_false (by omega))
            go_wp2_with fail
            refine (HM.out _).mono ?_
            rintro e w8 ⟨rfl, rfl⟩
            go_wp2_with fail
            refine (when_calls _ _ _).mono ?_
            rintro e w8 ⟨rfl, rfl⟩
            go_wp2_with fail
            refine (HW.out _ hS8 false HO.out).mono ?_
            rintro e w9 ⟨rfl, hS9, hb9⟩
            have hy9 := hy8.below hb9
            have hx9 := hx8.below hb9
            go_wp2_with fail
            go_meet
            exact ⟨rfl, hS9, hy9, hx9⟩
      case rest =>
        obtain ⟨rfl, hS9, hy9, hx9⟩ := hcut
        clear hS8 hy8 hx8
        as_aux_lemma =>
          go_upto_if 80 with (fail)
          go_cut [16, 18] (fun s16 s18 W => ∃ A3 c3, s16 = .slice A3 L.length c3 ∧ s18 = .int .i64 N ∧ Below w4.heap.size w4 W ∧ Rd W w.heap.size 1 (.slice A5 L.length c5) L.length (strsV L) ∧ Rd W w.heap.size 1 (.slice A6 D.length c6) D.length (strsV D) ∧ Rd W w.heap.size 1 (.slice A3 L.length c3) L.length (strsV L))
          case first =>
            by_cases h0 : E1 = 0
            · subst h0
              go_wp2_with fail
              refine (HOQ.out (by first | rfl | trivial) _ hS9).mono ?_
              rintro e w10 ⟨v, rfl, ho, hb10⟩
              have hS10 := below_call hS9 hb10 (Nat.le_refl _)
              have hy10 := hy9.below hb10
              have hx10 := hx9.below hb10
              have hq10 := Rd.own (b := w.heap.size) ho (by have := hS9.size; omega)
              obtain ⟨A3, c3, hv⟩ := own_form ho
              subst hv
              go_wp2_with fail
              go_meet
              exact ⟨A3, c3, rfl, rfl, hS10, hy10, hx10, hq10⟩
            · obtain ⟨e1, e2⟩ := HL0.out h0
              subst e1 e2
              have hxb : (E1 == 0) = false := by simpa using h0
              go_wp2_with fail
              go_meet
              exact ⟨none, 0, rfl, rfl, hS9, hy9, hx9, Rd.nil _ _ _⟩
          case rest =>
            obtain ⟨A3, c3, rfl, rfl, hS10, hy10, hx10, hq10⟩ := hcut
            clear hS9 hy9 hx9
            as_aux_lemma =>
              go_upto_if 88 with (fail)
              go_cut [17] (fun s17 W => ∃ A4 c4, s17 = .slice A4 D.length c4 ∧ Below w4.heap.size w4 W ∧ Rd W w.heap.size 1 (.slice A5 L.length c5) L.length (strsV L) ∧ Rd W w.heap.size 1 (.slice A6 D.length c6) D.length (strsV D) ∧ Rd W w.heap.size 1 (.slice A3 L.length c3) L.length (strsV L) ∧ Rd W w.heap.size 1 (.slice A4 D.length c4) D.length (strsV D))
              case first =>
                by_cases h0 : E2 = 0
                · subst h0
                  go_wp2_with fail
                  refine (HDQ.out (by first | rfl | trivial) _ hS10).mono ?_
                  rintro e w11 ⟨v, rfl, ho, hb11⟩
                  have hS11 := below_call hS10 hb11 (Nat.le_refl _)
                  have hy11 := hy10.below hb11
                  have hx11 := hx10.below hb11
                  have hq11 := hq10.below hb11
                  have hr11 := Rd.own (b := w.heap.size) ho (by have := hS10.size; omega)
                  obtain ⟨A4, c4, hv⟩ := own_form ho
                  subst hv
                  go_wp2_with fail
                  go_meet
                  exact ⟨A4, c4, rfl, hS11, hy11, hx11, hq11, hr11⟩
                · have e1 := HD0.out h0
                  subst e1
                  have hxb : (E2 == 0) = false := by simpa using h0
                  go_wp2_with fail
                  go_meet
                  exact ⟨none, 0, rfl, hS10, hy10, hx10, hq10, Rd.nil _ _ _⟩
              case rest =>
                obtain ⟨A4, c4, rfl, hS11, hy11, hx11, hq11, hr11⟩ := hcut
                clear hS10 hy10 hx10 hq10
                as_aux_lemma =>
                  go_wp2_with fail
                  refine (equalStr_calls w.heap.size A5 A3 _ c5 c3 L _ hy11 hq11).mono ?_
                  rintro e w12 ⟨rfl, n12, rfl⟩
                  have hx12 := hx11.below (below_drewN (Below.refl _ _) n12)
                  have hr12 := hr11.below (below_drewN (Below.refl _ _) n12)
                  have hS12 := below_drewN hS11 n12
                  clear hS11 hy11 hq11
                  go_wp2_with fail
                  refine (equalStr_calls w.heap.size A6 A4 _ c6 c4 D _ hx12 hr12).mono ?_
                  rintro e w13 ⟨rfl, n13, rfl⟩
                  have hS13 := below_drewN hS12 n13
                  clear hx12 hr12 hS12 hx11 hr11
                  obtain ⟨W13, hW13, hS13⟩ : ∃ W', W' = _ ∧ Below w4.heap.size w4 W' := ⟨_, rfl, hS13⟩
                  rw [← hW13]
                  clear hW13 HOQ HDQ HOP HDP HSF HL0 HD0 HF1 HF2 hrs0 hrs1 hf0 hf1 hy0 hy1
                  have hs13 := HS4.out.below hS13
                  have hb13 := HB4.out.callB hS13 (Nat.le_refl _)
                  have hT0 := Sp.start hs13
                  go_wp2_with fail
                  refine (order_calls w.heap.size _ n _ (by omega) hs13 (by omega)).mono ?_
                  rintro e w6 ⟨v6, nums, rfl, ho6, hnum, hs6, hbx6⟩
                  replace ho6 : w6.ownsRow W13.heap.size 3 1 v6 n nums := ho6
                  obtain ⟨A6', c6', hv⟩ := own_form ho6
                  subst hv
                  have hT6 := (hT0.own hs6 hbx6 ho6).nil W13.heap.size 9 1
                  have HR13 := Lib.hid (HR4.out.below hS13)
                  have HNU := Lib.hid hnum
                  have HS13 := Lib.hid hS13
                  have HB13 := Lib.hid hb13
                  clear hT0 ho6 hs6 hbx6 hs13 hnum hS13 hb13
                  go_wp2_with fail
                  go_loopw [19, 123] (fun v i wr => ∃ (k : Nat) (acc : List ByteArray), k ≤ n ∧ i = .int .i64 k ∧ acc.length = k ∧ Sp W13 w.heap.size (0 + 50 + 1 + 1 + 1 + n) wr [rOwn W13.heap.size 9 1 v k (strsV acc), rOwn W13.heap.size 3 1 (.slice A6' n c6') n nums]) (fun _ i _ => n - (intOf i).toNat)
                  case atStart => exact ⟨0, [], Nat.zero_le _, rfl, rfl, hT6⟩
                  case round =>
                    clear hT6
                    obtain ⟨k, acc, hk, rfl, hac, hT⟩ := hrel
                    by_cases hlt : k < n
                    · have hown6 : wr.ownsRow W13.heap.size 3 1 (.slice A6' n c6') n nums := hT.nth 1 rfl
                      have hnl : nums.length = n := by have := hown6.1; omega
                      have hkn : k < nums.length := by omega
                      obtain ⟨z, hz, hz0, hz1⟩ := HNU.out _ (List.getElem_mem hkn)
                      obtain ⟨j, rfl⟩ : ∃ j : Nat, z = (j : Int) := ⟨z.toNat, by omega⟩
                      have hjn : j < n := by omega
                      obtain ⟨g6, cap6, hv6, _, _⟩ := hown6.form (by omega)
                      injection hv6 with hA6 _ hc6
                      subst hA6 hc6
                      have c6 := hown6.cellAt k (by omega)
                      rw [List.getElem?_eq_getElem hkn, hz] at c6
                      have hrw := HR13.out.bx hT.bx
                      obtain ⟨hxl, _, _, hcs0⟩ := hrw.rd.cells sltC_len (by omega)
                      have hjr : j < xs.length := by omega
                      obtain ⟨g, o, hA, _, hcs⟩ := hcs0 (by omega)
                      clear hcs0
                      subst hA
                      have x0 := hcs j hjr 0 (by omega)
                      obtain ⟨key, hkey⟩ : ∃ q, xs[j].key = q := ⟨_, rfl⟩
                      replace x0 : wr.cell? ⟨g, o + j * 5, none⟩ = some (.string key) := by rw [← hkey]; exact x0
                      have hown : wr.ownsRow W13.heap.size 9 1 u19 k (strsV acc) := hT.head
                      have hsz := hT.size
                      have hk0 : (0 : Int) ≤ (k : Int) := by omega
                      have hk1 : (k : Int) < (n : Int) := by omega
                      have hj0 : (0 : Int) ≤ (j : Int) := by omega
                      have hj1 : (j : Int) < (n : Int) := by omega
                      obtain ⟨j0, hj, hyy0, hyy1, hyy2⟩ := info_parts info_str3
                      clear hcs hkey hown6 hrw hz hz0 hz1
                      go_wp2_with (first
                        | (at_builtin; refine wpList_append_own_at _ rfl _ _ 26 rfl W13.heap.size 9 j0 (.string ⟨#[]⟩) 1 16 Try.underlying26 hj hyy0 hyy1 hyy2 rfl (by decide) _ _ _ rfl (hown.alloc _) ⟨wr.heap.size, 0, none⟩ 1 1 [.string key] rfl rfl (World.news_of_block (heap_alloc_new _ _)) (one1 rfl) (by unfold maxLen; omega) (by omega) (by simp; omega) ?_; intro v' w8 hown' hgrow _ hblk; have hT8 := (hT.alloc (.cells #[.string key] 9)).append hown' hgrow hblk; clear hown' hgrow hblk))
                      go_roundw
                      case rel =>
                        refine ⟨k + 1, acc ++ [key], by omega, by go_num, by simp [hac], ?_⟩
                        have he : strsV (acc ++ [key]) = strsV acc ++ [.string key] := by simp [strsV]
                        rw [he]
                        exact hT8
                      case measure => simp [intOf]; omega
                    · obtain rfl : k = n := by omega
                      have hT1 := hT.drop 1 rfl rfl
                      clear hT
                      go_wp2_with fail
                      refine (sp_flip hT1 6 (by omega) (by omega) (by omega)).mono ?_
                      rintro e w7 ⟨_, rfl, ⟨z, rfl⟩, hT2⟩
                      have hT0' : w.heap.size < W13.heap.size := hT1.hb
                      clear hT1
                      have hU0 : w7.ownsRow W13.heap.size 9 1 u19 acc.length (strsV acc) := by rw [hac]; exact hT2.head
                      go_upto_if 137 with (fail)
                      go_cut [19] (fun s19 W => ∃ (os : List ByteArray) (A1 : Option Addr) (m1 c1 K1 : Nat), s19 = .slice A1 m1 c1 ∧ Rd W w.heap.size 1 (.slice A1 m1 c1) m1 (strsV os) ∧ K1 ≤ 1000 ∧ Sp W13 w.heap.size K1 W [])
                      case first =>
                        cases z
                        · go_wp2_with fail
                          go_meet
                          obtain ⟨A1, c1, hv⟩ := own_form hU0
                          subst hv
                          exact ⟨acc, A1, _, c1, _, rfl, Rd.own hU0 hT0', by omega, hT2.bare⟩
                        · go_wp2_with fail
                          refine (sp_someL hT2 #[.string ⟨#[115, 97]⟩, .string ⟨#[122, 122]⟩] 9 2 (by decide) (by decide) rfl (strLit_ok rfl) (by omega)).mono ?_
                          rintro e w8 ⟨_, rfl, ⟨str, rfl, hstr⟩, hT3⟩
                          clear hT2 hU0
                          have hown := hT3.head
                          replace hown : w8.ownsRow W13.heap.size 9 1 u19 k (strsV acc) := hown
                          have hsz := hT3.size
                          obtain ⟨j0, hj, hyy0, hyy1, hyy2⟩ := info_parts info_str3
                          go_wp2_with (first
                            | (at_builtin; refine wpList_append_own_at _ rfl _ _ 26 rfl W13.heap.size 9 j0 (.string ⟨#[]⟩) 1 16 Try.underlying26 hj hyy0 hyy1 hyy2 rfl (by decide) _ _ _ rfl (hown.alloc _) ⟨w8.heap.size, 0, none⟩ 1 1 [.string str] rfl rfl (World.news_of_block (heap_alloc_new _ _)) (one1 rfl) (by unfold maxLen; omega) (by omega) (by simp; omega) ?_; intro v' w9 hown' hgrow _ hblk; have hT8 := (hT3.alloc (.cells #[.string str] 9)).append hown' hgrow hblk; clear hown' hgrow hblk; clear hT3 hown hsz))
                          have hV0 : w9.ownsRow W13.heap.size 9 1 v' (k + 1) (strsV (acc ++ [str])) := by rw [strsV, List.map_append]; exact hT8.head
                          have hlen : (acc ++ [str]).length = k + 1 := by simp [hac]
                          obtain ⟨g9, cap9, hv9, hcap9, _⟩ := hV0.form (by omega)
                          subst hv9
                          have HV0 := Lib.hid hV0
                          clear hV0
                          refine (sp_range hT8 0 1 (by omega) (by omega) (by omega) (by omega)).mono ?_
                          rintro e w10 ⟨_, rfl, ⟨r, rfl, hr0, hr1⟩, hT9⟩
                          clear hT8 HV0
                          have hV9 : w10.ownsRow W13.heap.size 9 1 (.slice (some ⟨g9, 0, none⟩) (k + 1) cap9) (k + 1) (strsV (acc ++ [str])) := by rw [strsV, List.map_append]; exact hT9.head
                          have hrd9 := Rd.own (b := w.heap.size) hV9 hT0'
                          have hcap := (own_cap hV9).1
                          have HRD := Lib.hid hrd9
                          have HDR := Lib.hid (strs_drop1 hrd9 (by omega))
                          have HT9 := Lib.hid hT9
                          have hcm := (own_cap hV9).2
                          clear hV9 hrd9 hT9
                          obtain rfl | rfl : r = 0 ∨ r = 1 := by omega
                          · go_wp2_with fail
                            go_meet
                            exact ⟨acc ++ [str], _, _, _, _, rfl, HRD.out, by omega, HT9.out.bare⟩
                          · by_cases h1 : cap9 = 1
                            · subst h1
                              go_wp2_with fail
                              go_meet
                              have := HDR.out
                              rw [if_pos trivial, show k + 1 - 1 = 0 by omega] at this
                              exact ⟨(acc ++ [str]).drop 1, _, _, _, _, rfl, this, by omega, HT9.out.bare⟩
                            · go_wp2_with fail
                              go_meet
                              have := HDR.out
                              rw [if_neg h1] at this
                              exact ⟨(acc ++ [str]).drop 1, _, _, _, _, rfl, this, by omega, HT9.out.bare⟩
                      case rest =>
                        obtain ⟨os, A1, m1, c1, K1, rfl, hos, hK1, hT3⟩ := hcut
                        clear hT2 hU0
                        have hr3 := HR13.out.bx hT3.bx
                        have hb3 := (HB13.out.call hT3.bx (Nat.le_refl _)).below (Nat.le_refl _)
                        obtain ⟨M, hM⟩ : ∃ M, movdE xs os = M := ⟨_, rfl⟩
                        have HM := Lib.hid hM
                        have hlt3 := hT3.lt
                        have HB3 := Lib.hid hb3
                        have HR3 := Lib.hid hr3
                        have HOS := Lib.hid hos
                        have HMV := Lib.hid (moved_calls w.heap.size A A1 _ c m1 c1 xs os _ hr3 hos hlt3)
                        rw [hM] at HMV
                        clear hM hT3 hr3 hb3 hos
                        as_aux_lemma =>
                          go_wp2_with fail
                          refine HMV.out.mono ?_
                          rintro e w20 ⟨v20, ys, rfl, hy0, hy1, hS20⟩
                          have HR20 := Lib.hid (HR3.out.below hS20.below)
                          have HOS20 := Lib.hid (HOS.out.below hS20.below)
                          have hown20 : w20.ownsRow wc.heap.size 59 5 v20 ys.length (ys.flatMap sltC) := hS20.head
                          have hhh : ∀ x ∈ ys, (hostR wc.heap.size x).P w20 := hS20.tail.head
                          have HY20 := Lib.hid (Rd.own (b := w.heap.size) hown20 hlt3)
                          have HH20 : Hid (∀ x ∈ ys, Rd w20 w.heap.size 1 (.slice x.ha x.hosts.length x.hc) x.hosts.length (strsV x.hosts)) := Lib.hid (fun x hx => Rd.own (hhh x hx) hlt3)
                          have hb20 := below_call HB3.out hS20.below (Nat.le_refl _)
                          have hlt20 : w.heap.size < w20.heap.size := by have := hS20.below.size; omega
                          obtain ⟨A20, c20, hv⟩ := own_form hown20
                          subst hv
                          have HB20 := Lib.hid hb20
                          have HY0 := Lib.hid hy0
                          have HY1 := Lib.hid hy1
                          clear hhh hown20 hS20 hb20 hy0 hy1
                          by_cases h0 : E0 = 0
                          · subst h0
                            have HMQ := Lib.hid (movedQ_calls w.heap.size A A1 _ c m1 c1 xs os w20 HR20.out (by omega) HOS20.out)
                            have hm : movE xs os = M := by
                              have := HM.out
                              unfold movdE at this
                              rw [if_pos HE0.out] at this
                              exact this
                            rw [hm] at HMQ
                            clear hm
                            go_wp2_with fail
                            refine HMQ.out.mono ?_
                            rintro e w21 ⟨v21, zs, rfl, hz0, hz1, hS21⟩
                            have he : ys.map cntS = zs.map cntS := by
                              by_cases hM0 : M = 0
                              · rw [HY0.out hM0, hz0 hM0]
                              · rw [HY1.out hM0, hz1 hM0]
                            have hlen : zs.length = ys.length := by
                              have := congrArg List.length he
                              simpa using this.symm
                            rw [hlen] at hS21
                            have hzh : ∀ x ∈ zs, Rd w21 w.heap.size 1 (.slice x.ha x.hosts.length x.hc) x.hosts.length (strsV x.hosts) := by
                              intro x hx
                              by_cases hM0 : M = 0
                              · rw [hz0 hM0] at hx
                                unfold movL at hx
                                obtain ⟨q, _, hq⟩ := List.mem_filterMap.1 hx
                                exact ((HR20.out.ok x (List.mem_of_getElem? hq)).below hS21.below).rd
                              · rw [hz1 hM0] at hx
                                cases hx
                            have hown21 : w21.ownsRow w20.heap.size 59 5 v21 ys.length (zs.flatMap sltC) := hS21.head
                            obtain ⟨A21, c21, hv⟩ := own_form hown21
                            subst hv
                            have hz21 := Rd.own (b := w.heap.size) hown21 hlt20
                            have HEQ := Lib.hid (equalSlt_calls w.heap.size A20 A21 ys.length c20 c21 ys zs w21 (HY20.out.below hS21.below) hz21 (fun x hx => (HH20.out x hx).below hS21.below) hzh he)
                            have hb21 := below_call HB20.out hS21.below (Nat.le_refl _)
                            have hlt21 : w.heap.size < w21.heap.size := by have := hS21.below.size; omega
                            clear he hlen hzh hown21 hz21 hz0 hz1 hS21
                            go_wp2_with fail
                            refine HEQ.out.mono ?_
                            rintro e w22 ⟨rfl, hb22⟩
                            go_wp2_with fail
                            refine (shown_calls w.heap.size _ (by have := hb22.size; omega)).mono ?_
                            rintro e w23 ⟨rfl, hb23⟩
                            go_wp2_with fail
                            go_ret
                            exact ⟨rfl, below_call hb21 (below_call hb22 hb23 (Nat.le_refl _)) (Nat.le_refl _)⟩
                          · have hm : M = E0 := by
                              have := HM.out
                              unfold movdE at this
                              rw [if_neg (by rw [HE0.out]; exact h0), HE0.out] at this
                              exact this.symm
                            subst hm
                            have hys : ys = [] := HY1.out h0
                            subst hys
                            have HEQ := Lib.hid (equalSlt_calls w.heap.size A20 none 0 c20 0 [] [] w20 HY20.out (Rd.nil _ _ _) (by intro x hx; cases hx) (by intro x hx; cases hx) rfl)
                            have hxb : (M == 0) = false := by simpa using h0
                            go_wp2_with fail
                            refine HEQ.out.mono ?_
                            rintro e w22 ⟨rfl, hb22⟩
                            go_wp2_with fail
                            refine (shown_calls w.heap.size _ (by have := hb22.size; omega)).mono ?_
                            rintro e w23 ⟨rfl, hb23⟩
                            go_wp2_with fail
                            go_ret
                            exact ⟨rfl, below_call HB20.out (below_call hb22 hb23 (Nat.le_refl _)) (Nat.le_refl _)⟩
end Go.Proofs.Ytejadhehmcifoaa
