/-
  SlotsTimed: shown, and the law's own walk.
-/
import Derived.Test.YtlfhommeomchoaaZStream
import Derived.Test.YtlfhommeomchoaaZSlot13
import Derived.Test.YtlfhommeomchoaaZSlot14
import Derived.Test.YtlfhommeomchoaaZSlot9b
import Derived.Test.YtlfhommeomchoaaZSlot10
import Derived.Test.YtlfhommeomchoaaZSlot11
import Derived.Test.YtlfhommeomchoaaZSlot7
import Derived.Deep.DeepCutAuto
namespace Go.Proofs.Ytlfhommeomchoaa
open Go Go.RowKit

theorem slts_of {w W : World} {b K n c h : Nat} {A : Option Addr} {xs : List Slt} {l : List Rsc} (hS : Sp w b K W (rOwn w.heap.size 121 5 (.slice A n c) n (xs.flatMap sltC) :: rAll (hostR w.heap.size) xs :: l)) (hz : SltZs h xs) (hh : h ≤ 1000) : Slts W b A n c xs := by
  have h0 : W.ownsRow w.heap.size 121 5 (.slice A n c) n (xs.flatMap sltC) := hS.head
  have h1 : ∀ x ∈ xs, (hostR w.heap.size x).P W := hS.tail.head
  exact ⟨Rd.own h0 hS.hb, fun x hx => ⟨Rd.own (h1 x hx) hS.hb, (hz x hx).hk, (hz x hx).hw, (hz x hx).hh, Nat.le_trans (hz x hx).hn hh, (hz x hx).hs, (hz x hx).hl⟩⟩
theorem when_calls (B : Bool) (E : Int) (w : World) : Calls Try.prog 38 #[.bool B, .int .i64 E] w fun e w' => e = .returned (.int .i64 (if B = true then E else 0)) ∧ w = w' := by
  cases B
  · go_enter Try.func38, Try.ntmps38
    go_wp2_with fail
    go_ret
    exact ⟨rfl, rfl⟩
  · go_enter Try.func38, Try.ntmps38
    go_wp2_with fail
    go_ret
    exact ⟨rfl, rfl⟩

def shownX : Slt := ⟨⟨#[97]⟩, ⟨#[98]⟩, none, 0, [], 5, 10⟩
theorem shown_E : tabE 1 [shownX] = 0 := by decide +kernel
theorem shown_L : tabL 1 [shownX] = [(⟨#[97]⟩, 1, 6, 16)] := by
  unfold tabL
  rw [if_pos shown_E]
  rfl
set_option maxRecDepth 100000 in
theorem shown_calls (b : Nat) (w : World) (hb : b < w.heap.size) : Calls Try.prog 47 #[] w (BRet (.bool true) w) := by
  have hb0 : Below w.heap.size w (w.alloc (.cells #[.string ⟨#[97]⟩, .string ⟨#[98]⟩, .slice none 0 0, .int .i64 5, .int .i64 10] 121)) := (Below.refl _ _).alloc (Nat.le_refl _) _
  have hrd : Rd (w.alloc (.cells #[.string ⟨#[97]⟩, .string ⟨#[98]⟩, .slice none 0 0, .int .i64 5, .int .i64 10] 121)) b 5 (.slice (some ⟨w.heap.size, 0, none⟩) 1 1) 1 ([shownX].flatMap sltC) := Rd.lit0 (n := 1) hb (by decide) rfl
  have hsl : Slts (w.alloc (.cells #[.string ⟨#[97]⟩, .string ⟨#[98]⟩, .slice none 0 0, .int .i64 5, .int .i64 10] 121)) b (some ⟨w.heap.size, 0, none⟩) 1 1 [shownX] :=
    ⟨hrd, fun x hx => by
      simp at hx
      subst hx
      exact ⟨Rd.nil _ _ _, by decide, by decide, (by intro s hs; cases hs), by decide, by decide, by decide⟩⟩
  have hcall := timetableX_calls b _ 1 1 [shownX] 1 _ hsl (by omega) (by omega) (by simp; omega)
  rw [shown_E, shown_L] at hcall
  have HC := Lib.hid hcall
  clear hcall hsl hrd
  go_enter Try.func47, Try.ntmps47
  go_wp2_with fail
  refine HC.out.mono ?_
  rintro e w1 ⟨v, rfl, hown, hb1⟩
  have hb2 := below_call hb0 hb1 (Nat.le_refl _)
  obtain ⟨g, cap, hv, _⟩ := hown.form (by decide)
  subst hv
  have c3 := own_cell plcC 4 plcC_len hown 0 3 (by decide) (by decide) (by omega)
  replace c3 : w1.cell? ⟨g, 3, none⟩ = some (.int .i64 16) := c3
  go_wp2_with fail
  go_ret
  exact ⟨rfl, hb2⟩

theorem clashE_first (rest : Int) (xs : List Slt) : firstE [slotsF xs, if outB rest 0 86400000 = true then 1 else 0] = clashE rest xs := by
  unfold clashE
  by_cases h : slotsF xs = 0
  · rw [if_pos h, h]
    cases outB rest 0 86400000 <;> simp [firstE]
  · rw [if_neg h]
    simp [firstE, h]

set_option maxRecDepth 100000 in
set_option maxHeartbeats 4000000 in
theorem slots_walk (a0 : Option Addr) (len0 cap0 : Nat) (z0 : List Int) (w : World) (w0 : InRow w a0 len0 cap0 z0) :
    Calls Try.prog 5 #[.slice a0 len0 cap0] w fun e w' => e = .returned (.bool true) ∧ Below w.heap.size w w' := by
  have hs0 := strm_start w0 25
  have hb0 : Bx w.heap.size w.heap.size w (w.alloc (.cells #[.slice a0 len0 cap0, .int .i64 0] 25)) := (Bx.refl _ _ _).alloc (Nat.le_refl _) _
  clear w0
  go_enter Try.func5, Try.ntmps5
  go_wp2_with fail
  refine (slots_calls w.heap.size 0 5 _ hs0 (by omega) (by omega)).mono ?_
  rintro e w1 ⟨v, xs, rfl, hx5, hz, hS⟩
  obtain ⟨n, hn⟩ : ∃ n, xs.length = n := ⟨_, rfl⟩
  rw [hn] at hS hx5
  obtain ⟨A, c, hv⟩ := own_form (show w1.ownsRow _ _ _ v n _ from hS.head)
  subst hv
  have hr1 := slts_of hS hz (by omega)
  have hs1 := hS.strm
  have hb1 := hb0.call hS.bx (Nat.le_refl _)
  clear hS hs0 hb0 hz hn
  go_wp2_with fail
  refine (showTime_calls w.heap.size _ _ hs1 (by omega)).mono ?_
  rintro e w2 ⟨_, rfl, ⟨f, rfl, hf0, hf1⟩, hS⟩
  have hr2 := hr1.bx hS.bx
  have hs2 := hS.strm
  have hb2 := hb1.call hS.bx (Nat.le_refl _)
  clear hS hs1 hr1 hb1
  go_wp2_with fail
  refine (sp_pickL (Sp.start hs2) #[.int .i64 0, .int .i64 10, .int .i64 100, .int .i64 150, .int .i64 300, .int .i64 (-1), .int .i64 86400001] 3 7 (-1) 86400001 (by decide) (by decide) rfl rfl (by omega)).mono ?_
  rintro e w3 ⟨_, rfl, ⟨rest, rfl, hrs0, hrs1⟩, hS⟩
  have hr3 := hr2.bx hS.bx
  have hs3 := hS.strm
  have hb3 := hb2.call hS.bx (Nat.le_refl _)
  clear hS hs2 hr2 hb2
  go_wp2_with fail
  refine (aways_calls w.heap.size _ A n c xs _ hs3 (by omega) hr3 (by omega)).mono ?_
  rintro e w4 ⟨v, ps, rfl, hpn, hpz, hS⟩
  have hr4 := hr3.bx hS.bx
  have hlt4 := hS.strm.lt
  have hb4 := (hb3.call hS.bx (Nat.le_refl _)).below (Nat.le_refl _)
  have hrp : Rd w4 w.heap.size 2 v ps.length (ps.flatMap prC) := Rd.own (show w4.ownsRow _ _ _ v _ _ from hS.head) hS.hb
  obtain ⟨Ap, cp, hv⟩ := own_form (show w4.ownsRow _ _ _ v ps.length _ from hS.head)
  subst hv
  obtain ⟨m, hm⟩ : ∃ m, ps.length = m := ⟨_, rfl⟩
  rw [hm] at hrp hpn ⊢
  clear hS hs3 hr3 hb3
  obtain ⟨E0, hE0⟩ : ∃ E, slotsF xs = E := ⟨_, rfl⟩
  obtain ⟨E1, hE1⟩ : ∃ E, tabE f xs = E := ⟨_, rfl⟩
  obtain ⟨E2, hE2⟩ : ∃ E, clashE rest xs = E := ⟨_, rfl⟩
  obtain ⟨EA, hEA⟩ : ∃ E, awayF xs ps = E := ⟨_, rfl⟩
  obtain ⟨P, hP⟩ : ∃ P, tabL f xs = P := ⟨_, rfl⟩
  obtain ⟨C, hC⟩ : ∃ C, clashL rest xs = C := ⟨_, rfl⟩
  have HT : Hid (∀ W, Below w4.heap.size w4 W → Calls Try.prog 35 #[.slice A n c, .int .i64 f] W (TabS P E1 W)) := fun W hW => by
    have := timetableX_calls w.heap.size A n c xs f W (hr4.below hW) (by omega) (by omega) (by have := hW.size; omega)
    rw [hE1, hP] at this
    exact this
  have HCL : Hid (∀ W, Below w4.heap.size w4 W → Calls Try.prog 36 #[.slice A n c, .int .i64 rest] W (ClashS C E2 W)) := fun W hW => by
    have := clashesX_calls w.heap.size A n c xs rest W (hr4.below hW) (by omega) (by have := hW.size; omega) (by omega)
    rw [hE2, hC] at this
    exact this
  have HSF : Hid (∀ W, Below w4.heap.size w4 W → Calls Try.prog 37 #[.slice A n c] W (BRet (.int .i64 E0) W)) := fun W hW => by
    have := slotsFaultQ_calls w.heap.size A n c xs W (hr4.below hW) (by have := hW.size; omega)
    rw [hE0] at this
    exact this
  have HCS : Hid (∀ W, Below w4.heap.size w4 W → Calls Try.prog 42 #[.slice A n c] W (BRet (.int .i64 E0) W)) := fun W hW => by
    have := checkSlots_calls w.heap.size A n c xs W (hr4.below hW) (by have := hW.size; omega)
    rw [hE0] at this
    exact this
  have hz1 : E0 ≠ 0 → E1 = E0 := fun h => by rw [← hE1, ← hE0]; unfold tabE; simp [firstE]; intro h'; exact absurd (hE0.symm.trans h') h
  have hz2 : E0 = 0 → fromF f xs = E1 := fun h => by rw [← hE1]; unfold tabE; rw [hE0, h]; simp [firstE]
  have hp0 : E1 = 0 → placesF f xs = P := fun h => by rw [← hP]; unfold tabL; rw [if_pos (hE1.trans h)]
  have hp1 : E1 ≠ 0 → P = [] := fun h => by rw [← hP]; unfold tabL; rw [if_neg (by rw [hE1]; exact h)]
  have hc0 : E2 = 0 → clF xs rest = C := fun h => by rw [← hC]; unfold clashL; rw [if_pos (hE2.trans h)]
  have hc1 : E2 ≠ 0 → C = [] := fun h => by rw [← hC]; unfold clashL; rw [if_neg (by rw [hE2]; exact h)]
  have HFF : Hid (E0 = 0 → ∀ W, Below w4.heap.size w4 W → Calls Try.prog 39 #[.slice A n c, .int .i64 f] W (BRet (.int .i64 E1) W)) := fun h W hW => by
    have := fromFaultQ_calls w.heap.size A n c xs f W (hr4.below hW) (by omega) (by omega) (by have := hW.size; omega)
    rw [hz2 h] at this
    exact this
  have HPO : Hid (E1 = 0 → ∀ W, Below w4.heap.size w4 W → Calls Try.prog 40 #[.slice A n c, .int .i64 f] W (PlcsS P W)) := fun h W hW => by
    have := placesOf_calls w.heap.size A n c xs f W (hr4.below hW) (by omega) (by omega)
    rw [hp0 h] at this
    exact this
  have HCO : Hid (E2 = 0 → ∀ W, Below w4.heap.size w4 W → Calls Try.prog 41 #[.slice A n c, .int .i64 rest] W (PrsS C W)) := fun h W hW => by
    have := clashesOf_calls w.heap.size A n c xs rest W (hr4.below hW) (by omega) (by have := hW.size; omega) (by omega)
    rw [hc0 h] at this
    exact this
  have HCA : Hid (∀ W, Below w4.heap.size w4 W → Calls Try.prog 45 #[.slice A n c, .slice Ap m cp] W (BRet (.int .i64 EA) W)) := fun W hW => by
    have := checkAway_calls w.heap.size A Ap n c m cp xs ps W (hr4.below hW) (by omega) (hrp.below hW) hpz (by have := hW.size; omega)
    rw [hEA] at this
    exact this
  have HAF : Hid (∀ W, Below w4.heap.size w4 W → Calls Try.prog 46 #[.slice A n c, .slice Ap m cp] W (BRet (.int .i64 EA) W)) := fun W hW => by
    have := awayFault_calls w.heap.size A Ap n c m cp xs ps W (hr4.below hW) (by omega) (hrp.below hW) hpz (by have := hW.size; omega)
    rw [hEA] at this
    exact this
  have HE2 : Hid (firstE [E0, if outB rest 0 86400000 = true then 1 else 0] = E2) := by rw [← hE0, clashE_first, hE2]; exact Lib.hid rfl
  have HZ1 := Lib.hid hz1
  have HP1 := Lib.hid hp1
  have HC1 := Lib.hid hc1
  have HB4 := Lib.hid hb4
  clear hE0 hE1 hE2 hEA hP hC hz1 hz2 hp0 hp1 hc0 hc1 hr4 hrp hpz hm hb4
  go_wp2_with fail
  refine (HT.out _ (Below.refl _ _)).mono ?_
  rintro e w5 ⟨v, rfl, ho, hb5⟩
  have hy5 := Rd.own (b := w.heap.size) ho hlt4
  obtain ⟨A1, c1, hv⟩ := own_form ho
  subst hv
  clear ho
  go_wp2_with fail
  refine (HCL.out _ hb5).mono ?_
  rintro e w6 ⟨v, rfl, ho, hb6⟩
  have hS6 := below_call hb5 hb6 (Nat.le_refl _)
  have hy6 := hy5.below hb6
  have hx6 := Rd.own (b := w.heap.size) ho (by have := hb5.size; omega)
  obtain ⟨A2, c2, hv⟩ := own_form ho
  subst hv
  clear ho hb6 hy5 hb5
  go_wp2_with fail
  refine (HSF.out _ hS6).mono ?_
  rintro e w7 ⟨rfl, hb7⟩
  have hS7 := below_call hS6 hb7 (Nat.le_refl _)
  have hy7 := hy6.below hb7
  have hx7 := hx6.below hb7
  clear hb7 hy6 hx6 hS6
  go_upto_region 7 with (fail)
  go_cut [13, 14] (fun s13 s14 W => s13 = .int .i64 E0 ∧ s14 = .int .i64 E2 ∧ Below w4.heap.size w4 W ∧ Rd W w.heap.size 4 (.slice A1 P.length c1) P.length (P.flatMap plcC) ∧ Rd W w.heap.size 2 (.slice A2 C.length c2) C.length (C.flatMap prC))
  case first =>
    have HW : Hid (∀ W, Below w4.heap.size w4 W → ∀ B, (outB rest 0 86400000 = B) → Calls Try.prog 13 #[.slice (some ⟨W.heap.size, 0, none⟩) 2 2] (W.alloc (.cells #[.int .i64 E0, .int .i64 (if B = true then 1 else 0)] 34)) (fun e w' => e = .returned (.int .i64 E2) ∧ Below w4.heap.size w4 w' ∧ Below W.heap.size W w')) := fun W hW B hB => by
      have h := errs_calls w.heap.size _ 2 2 [E0, if B = true then 1 else 0] _ (Rd.lit0 (w := W) (b := w.heap.size) (n := 2) (cs := #[.int .i64 E0, .int .i64 (if B = true then 1 else 0)]) (t := 34) (by have := hW.size; omega) (by decide) rfl)
      rw [← hB, HE2.out] at h
      rw [← hB]
      refine h.mono ?_
      rintro e w' ⟨he, nq, rfl⟩
      exact ⟨he, below_drewN (hW.alloc hW.size _) nq, below_drewN ((Below.refl _ _).alloc (Nat.le_refl _) _) nq⟩
    by_cases hneg : rest < 0
    · have ho : outB rest 0 86400000 = true := by unfold outB; exact decide_eq_true (.inl hneg)
      have HO := Lib.hid ho
      clear ho
      go_wp2_with fail
      refine (when_calls _ _ _).mono ?_
      rintro e w8 ⟨rfl, rfl⟩
      go_wp2_with fail
      refine (HW.out _ hS7 true HO.out).mono ?_
      rintro e w8 ⟨rfl, hS8, hb8⟩
      have hy8 := hy7.below hb8
      have hx8 := hx7.below hb8
      go_wp2_with fail
      go_meet
      exact ⟨rfl, rfl, hS8, hy8, hx8⟩
    · by_cases hbig : 86400000 < rest
      · have ho : outB rest 0 86400000 = true := by unfold outB; exact decide_eq_true (.inr hbig)
        have HO := Lib.hid ho
        clear ho
        go_wp2_with fail
        refine (when_calls _ _ _).mono ?_
        rintro e w8 ⟨rfl, rfl⟩
        go_wp2_with fail
        refine (HW.out _ hS7 true HO.out).mono ?_
        rintro e w8 ⟨rfl, hS8, hb8⟩
        have hy8 := hy7.below hb8
        have hx8 := hx7.below hb8
        go_wp2_with fail
        go_meet
        exact ⟨rfl, rfl, hS8, hy8, hx8⟩
      · have ho : outB rest 0 86400000 = false := by unfold outB; exact decide_eq_false (by omega)
        have HO := Lib.hid ho
        clear ho
        go_wp2_with fail
        refine (when_calls _ _ _).mono ?_
        rintro e w8 ⟨rfl, rfl⟩
        go_wp2_with fail
        refine (HW.out _ hS7 false HO.out).mono ?_
        rintro e w8 ⟨rfl, hS8, hb8⟩
        have hy8 := hy7.below hb8
        have hx8 := hx7.below hb8
        go_wp2_with fail
        go_meet
        exact ⟨rfl, rfl, hS8, hy8, hx8⟩
  case rest =>
    obtain ⟨rfl, rfl, hS8, hy8, hx8⟩ := hcut
    clear hS7 hy7 hx7
    go_upto_if 56 with (fail)
    go_cut [13] (fun s13 W => s13 = .int .i64 E1 ∧ Below w4.heap.size w4 W ∧ Rd W w.heap.size 4 (.slice A1 P.length c1) P.length (P.flatMap plcC) ∧ Rd W w.heap.size 2 (.slice A2 C.length c2) C.length (C.flatMap prC))
    case first =>
      by_cases h0 : E0 = 0
      · subst h0
        go_wp2_with fail
        refine (HFF.out (by first | rfl | trivial) _ hS8).mono ?_
        rintro e w9 ⟨rfl, hb9⟩
        have hS9 := below_call hS8 hb9 (Nat.le_refl _)
        have hy9 := hy8.below hb9
        have hx9 := hx8.below hb9
        go_wp2_with fail
        go_meet
        exact ⟨rfl, hS9, hy9, hx9⟩
      · have e1 := HZ1.out h0
        subst e1
        have hxb : (E1 == 0) = false := by simpa using h0
        go_wp2_with fail
        go_meet
        exact ⟨rfl, hS8, hy8, hx8⟩
    case rest =>
      obtain ⟨rfl, hS9, hy9, hx9⟩ := hcut
      clear hS8 hy8 hx8
      go_upto_if 61 with (fail)
      go_cut [15] (fun s15 W => ∃ A3 c3, s15 = .slice A3 P.length c3 ∧ Below w4.heap.size w4 W ∧ Rd W w.heap.size 4 (.slice A1 P.length c1) P.length (P.flatMap plcC) ∧ Rd W w.heap.size 2 (.slice A2 C.length c2) C.length (C.flatMap prC) ∧ Rd W w.heap.size 4 (.slice A3 P.length c3) P.length (P.flatMap plcC))
      case first =>
        by_cases h0 : E1 = 0
        · subst h0
          go_wp2_with fail
          refine (HPO.out (by first | rfl | trivial) _ hS9).mono ?_
          rintro e w10 ⟨v, rfl, ho, hb10⟩
          have hS10 := below_call hS9 hb10 (Nat.le_refl _)
          have hy10 := hy9.below hb10
          have hx10 := hx9.below hb10
          have hq10 := Rd.own (b := w.heap.size) ho (by have := hS9.size; omega)
          obtain ⟨A3, c3, hv⟩ := own_form ho
          subst hv
          go_wp2_with fail
          go_meet
          exact ⟨A3, c3, rfl, hS10, hy10, hx10, hq10⟩
        · have e1 := HP1.out h0
          subst e1
          have hxb : (E1 == 0) = false := by simpa using h0
          go_wp2_with fail
          go_meet
          exact ⟨none, 0, rfl, hS9, hy9, hx9, Rd.nil _ _ _⟩
      case rest =>
        obtain ⟨A3, c3, rfl, hS10, hy10, hx10, hq10⟩ := hcut
        clear hS9 hy9 hx9
        go_upto_if 66 with (fail)
        go_cut [16] (fun s16 W => ∃ A4 c4, s16 = .slice A4 C.length c4 ∧ Below w4.heap.size w4 W ∧ Rd W w.heap.size 4 (.slice A1 P.length c1) P.length (P.flatMap plcC) ∧ Rd W w.heap.size 2 (.slice A2 C.length c2) C.length (C.flatMap prC) ∧ Rd W w.heap.size 4 (.slice A3 P.length c3) P.length (P.flatMap plcC) ∧ Rd W w.heap.size 2 (.slice A4 C.length c4) C.length (C.flatMap prC))
        case first =>
          by_cases h0 : E2 = 0
          · subst h0
            go_wp2_with fail
            refine (HCO.out (by first | rfl | trivial) _ hS10).mono ?_
            rintro e w11 ⟨v, rfl, ho, hb11⟩
            have hS11 := below_call hS10 hb11 (Nat.le_refl _)
            have hy11 := hy10.below hb11
            have hx11 := hx10.below hb11
            have hq11 := hq10.below hb11
            have hr11 := Rd.own (b := w.heap.size) ho (by have := hS10.size; omega)
            obtain ⟨A4, c4, hv⟩ := own_form ho
            subst hv
            go_wp2_with fail
            go_meet
            exact ⟨A4, c4, rfl, hS11, hy11, hx11, hq11, hr11⟩
          · have e1 := HC1.out h0
            subst e1
            have hxb : (E2 == 0) = false := by simpa using h0
            go_wp2_with fail
            go_meet
            exact ⟨none, 0, rfl, hS10, hy10, hx10, hq10, Rd.nil _ _ _⟩
        case rest =>
          obtain ⟨A4, c4, rfl, hS11, hy11, hx11, hq11, hr11⟩ := hcut
          clear hS10 hy10 hx10 hq10
          go_wp2_with fail
          refine (HCS.out _ hS11).mono ?_
          rintro e w12 ⟨rfl, hb12⟩
          have hS12 := below_call hS11 hb12 (Nat.le_refl _)
          have hy12 := hy11.below hb12
          have hx12 := hx11.below hb12
          have hq12 := hq11.below hb12
          have hr12 := hr11.below hb12
          clear hS11 hy11 hx11 hq11 hr11 hb12
          go_wp2_with fail
          refine (equalPlc_calls w.heap.size A1 A3 _ c1 c3 P _ hy12 hq12).mono ?_
          rintro e w13 ⟨rfl, n13, rfl⟩
          have hS13 := below_drewN hS12 n13
          have hx13 := hx12.below (below_drewN (Below.refl _ _) n13)
          have hr13 := hr12.below (below_drewN (Below.refl _ _) n13)
          go_wp2_with fail
          refine (equalPr_calls w.heap.size A2 A4 _ c2 c4 C _ hx13 hr13).mono ?_
          rintro e w14 ⟨rfl, n14, rfl⟩
          have hS14 := below_drewN hS12 (n13 + n14)
          clear hS12 hy12 hx12 hq12 hr12 hx13 hr13
          go_wp2_with fail
          with_reducible refine (HCA.out _ hS14).mono ?_
          rintro e w15 ⟨rfl, hb15⟩
          have hS15 := below_call hS14 hb15 (Nat.le_refl _)
          go_wp2_with fail
          refine (HAF.out _ hS15).mono ?_
          rintro e w16 ⟨rfl, hb16⟩
          have hS16 := below_call hS15 hb16 (Nat.le_refl _)
          clear hS13 hS14 hS15 hb15 hb16
          go_wp2_with fail
          refine (shown_calls w.heap.size _ (by have := hS16.size; omega)).mono ?_
          rintro e w17 ⟨rfl, hb17⟩
          have hS17 := below_call HB4.out (below_call hS16 hb17 (Nat.le_refl _)) (Nat.le_refl _)
          go_wp2_with fail
          go_ret
          exact ⟨rfl, hS17⟩
end Go.Proofs.Ytlfhommeomchoaa
