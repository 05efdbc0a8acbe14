/-
  MarathonsLive: the law's own walk.
-/
import Derived.Test.YtlfhommeomchoaaZStream
import Derived.Test.YtlfhommeomchoaaZLawSlt
import Derived.Test.YtlfhommeomchoaaZLive17
import Derived.Test.YtlfhommeomchoaaZLive16
import Derived.Deep.DeepCutAuto
namespace Go.Proofs.Ytlfhommeomchoaa
open Go Go.RowKit

set_option maxRecDepth 100000 in
set_option maxHeartbeats 4000000 in
theorem live_walk (a0 : Option Addr) (len0 cap0 : Nat) (z0 : List Int) (w : World) (w0 : InRow w a0 len0 cap0 z0) :
    Calls Try.prog 6 #[.slice a0 len0 cap0] w fun e w' => e = .returned (.bool true) ∧ Below w.heap.size w w' := by
  have hs0 := strm_start w0 25
  have hb0 : Bx w.heap.size w.heap.size w (w.alloc (.cells #[.slice a0 len0 cap0, .int .i64 0] 25)) := (Bx.refl _ _ _).alloc (Nat.le_refl _) _
  clear w0
  go_enter Try.func6, Try.ntmps6
  go_wp2_with fail
  refine (slots_calls w.heap.size 0 4 _ hs0 (by omega) (by omega)).mono ?_
  rintro e w1 ⟨v, xs, rfl, hx5, hz, hS⟩
  obtain ⟨n, hn⟩ : ∃ n, xs.length = n := ⟨_, rfl⟩
  rw [hn] at hS hx5
  obtain ⟨A, c, hv⟩ := own_form (show w1.ownsRow _ _ _ v n _ from hS.head)
  subst hv
  have hr1 := slts_of hS hz (by omega)
  have hs1 := hS.strm
  have hb1 := hb0.call hS.bx (Nat.le_refl _)
  clear hS hs0 hb0 hz hn
  go_wp2_with fail
  refine (showTime_calls w.heap.size _ _ hs1 (by omega)).mono ?_
  rintro e w2 ⟨_, rfl, ⟨f, rfl, hf0, hf1⟩, hS⟩
  have hr2 := hr1.bx hS.bx
  have hs2 := hS.strm
  have hb2 := hb1.call hS.bx (Nat.le_refl _)
  clear hS hs1 hr1 hb1
  go_wp2_with fail
  refine (sp_pickL (Sp.start hs2) #[.int .i64 0, .int .i64 5, .int .i64 60, .int .i64 120, .int .i64 200, .int .i64 500, .int .i64 2000, .int .i64 (-1)] 3 8 (-1) 2000 (by decide) (by decide) rfl rfl (by omega)).mono ?_
  rintro e w3 ⟨_, rfl, ⟨at_, rfl, ha0, ha1⟩, hS⟩
  have hr3 := hr2.bx hS.bx
  have hs3 := hS.strm
  have hb3 := hb2.call hS.bx (Nat.le_refl _)
  clear hS hs2 hr2 hb2
  go_wp2_with fail
  refine (lives_calls w.heap.size _ A n c xs _ hs3 (by omega) hr3 (by omega)).mono ?_
  rintro e w4 ⟨v, ys, rfl, hpn, hyo, hS⟩
  have hr4 := hr3.bx hS.bx
  have hlt4 := hS.strm.lt
  have hb4 := (hb3.call hS.bx (Nat.le_refl _)).below (Nat.le_refl _)
  have hry : Rd w4 w.heap.size 3 v ys.length (ys.flatMap lvC) := Rd.own (show w4.ownsRow _ _ _ v _ _ from hS.head) hS.hb
  obtain ⟨Ay, cy, hv⟩ := own_form (show w4.ownsRow _ _ _ v ys.length _ from hS.head)
  subst hv
  obtain ⟨m, hm⟩ : ∃ m, ys.length = m := ⟨_, rfl⟩
  rw [hm] at hry hpn ⊢
  clear hS hs3 hr3 hb3
  obtain ⟨E, hE⟩ : ∃ E, knownE xs f ys at_ (expP xs f ys at_) = E := ⟨_, rfl⟩
  obtain ⟨P, hP⟩ : ∃ P, knownL xs f ys at_ = P := ⟨_, rfl⟩
  obtain ⟨V, hV⟩ : ∃ V, lateV xs f P = V := ⟨_, rfl⟩
  obtain ⟨F, hF⟩ : ∃ F, liveF wrongP xs ys = F := ⟨_, rfl⟩
  have HEX : Hid (∀ W, Below w4.heap.size w4 W → Calls Try.prog 49 #[.slice A n c, .int .i64 f, .slice Ay m cy, .int .i64 at_] W (KnownS P E W)) := fun W hW => by
    have := expectedX_calls w.heap.size A Ay n c m cy xs ys f at_ W (hr4.below hW) (by omega) (hry.below hW) hyo (by have := hW.size; omega)
    rw [hE, hP] at this
    exact this
  have HLT : Hid (∀ W, Below w4.heap.size w4 W → Calls Try.prog 50 #[.slice A n c, .int .i64 f, .slice Ay m cy, .int .i64 at_] W (BRet (.tuple #[.int .i64 V, .int .i64 E]) W)) := fun W hW => by
    have := late_calls w.heap.size A Ay n c m cy xs ys f at_ W (hr4.below hW) (by omega) (hry.below hW) hyo (by have := hW.size; omega)
    rw [hE, hP, hV] at this
    exact this
  have HEF : Hid (∀ W, Below w4.heap.size w4 W → Calls Try.prog 51 #[.slice A n c, .int .i64 f, .slice Ay m cy, .int .i64 at_] W (BRet (.int .i64 E) W)) := fun W hW => by
    have := expectedFault_calls w.heap.size A Ay n c m cy xs ys f at_ W (hr4.below hW) (by omega) (hry.below hW) hyo (by have := hW.size; omega)
    rw [hE] at this
    exact this
  have HEP : Hid (E = 0 → ∀ W, Below w4.heap.size w4 W → Calls Try.prog 52 #[.slice A n c, .int .i64 f, .slice Ay m cy, .int .i64 at_] W (PlcsS P W)) := fun h W hW => by
    obtain ⟨k0, k1, k2⟩ := known_ok (hE.trans h)
    have := placesQ_calls w.heap.size A Ay n c m cy xs ys f at_ W (hr4.below hW) (by omega) (hry.below hW) hyo k0 k1 k2 (by have := hW.size; omega)
    have hPE : expP xs f ys at_ = P := by rw [← hP]; unfold knownL; rw [if_pos (hE.trans h)]
    rw [hPE] at this
    exact this
  have HLO : Hid (E = 0 → ∀ W, Below w4.heap.size w4 W → Calls Try.prog 53 #[.slice A n c, .int .i64 f, .slice Ay m cy, .int .i64 at_] W (BRet (.int .i64 V) W)) := fun h W hW => by
    have := lateOf_calls w.heap.size A Ay n c m cy xs ys f at_ W (hr4.below hW) (by omega) (hry.below hW) hyo (by have := hW.size; omega) (hE.trans h)
    rw [hP, hV] at this
    exact this
  have HCL : Hid (∀ W, Below w4.heap.size w4 W → Calls Try.prog 54 #[.slice A n c, .slice Ay m cy] W (BRet (.int .i64 F) W)) := fun W hW => by
    have := checkLive_calls w.heap.size A Ay n c m cy xs ys W (hr4.below hW) (hry.below hW) hyo (by have := hW.size; omega)
    rw [hF] at this
    exact this
  have HLF : Hid (∀ W, Below w4.heap.size w4 W → Calls Try.prog 55 #[.slice A n c, .slice Ay m cy] W (BRet (.int .i64 F) W)) := fun W hW => by
    have := liveFault_calls w.heap.size A Ay n c m cy xs ys W (hr4.below hW) (hry.below hW) hyo (by have := hW.size; omega)
    rw [← liveF_eq, hF] at this
    exact this
  have hz1 : E ≠ 0 → P = [] ∧ V = 0 := fun h => by
    have hPn : P = [] := by rw [← hP]; unfold knownL; rw [if_neg (by rw [hE]; exact h)]
    exact ⟨hPn, by rw [← hV, hPn]; unfold lateV; rw [if_pos rfl]⟩
  have HZ1 := Lib.hid hz1
  have HB4 := Lib.hid hb4
  clear hE hP hV hF hz1 hr4 hry hm hb4 hyo
  go_wp2_with fail
  refine (HEX.out _ (Below.refl _ _)).mono ?_
  rintro e w5 ⟨v, rfl, ho, hb5⟩
  have hy5 := Rd.own (b := w.heap.size) ho hlt4
  obtain ⟨A1, c1, hv⟩ := own_form ho
  subst hv
  clear ho
  go_wp2_with fail
  refine (HLT.out _ hb5).mono ?_
  rintro e w6 ⟨rfl, hb6⟩
  have hS6 := below_call hb5 hb6 (Nat.le_refl _)
  have hy6 := hy5.below hb6
  clear hb6 hy5 hb5
  go_wp2_with fail
  refine (HEF.out _ hS6).mono ?_
  rintro e w7 ⟨rfl, hb7⟩
  have hS7 := below_call hS6 hb7 (Nat.le_refl _)
  have hy7 := hy6.below hb7
  clear hb7 hy6 hS6
  go_upto_if 50 with (fail)
  go_cut [13, 14] (fun s13 s14 W => s14 = .int .i64 V ∧ ∃ A3 c3, s13 = .slice A3 P.length c3 ∧ Below w4.heap.size w4 W ∧ Rd W w.heap.size 4 (.slice A1 P.length c1) P.length (P.flatMap plcC) ∧ Rd W w.heap.size 4 (.slice A3 P.length c3) P.length (P.flatMap plcC))
  case first =>
    by_cases h0 : E = 0
    · subst h0
      go_wp2_with fail
      refine (HEP.out (by first | rfl | trivial) _ hS7).mono ?_
      rintro e w8 ⟨v, rfl, ho, hb8⟩
      have hS8 := below_call hS7 hb8 (Nat.le_refl _)
      have hy8 := hy7.below hb8
      have hq8 := Rd.own (b := w.heap.size) ho (by have := hS7.size; omega)
      obtain ⟨A3, c3, hv⟩ := own_form ho
      subst hv
      clear ho
      go_wp2_with fail
      refine (HLO.out (by first | rfl | trivial) _ hS8).mono ?_
      rintro e w9 ⟨rfl, hb9⟩
      have hS9 := below_call hS8 hb9 (Nat.le_refl _)
      have hy9 := hy8.below hb9
      have hq9 := hq8.below hb9
      go_wp2_with fail
      go_meet
      exact ⟨rfl, A3, c3, rfl, hS9, hy9, hq9⟩
    · obtain ⟨e1, e2⟩ := HZ1.out h0
      subst e1
      subst e2
      have hxb : (E == 0) = false := by simpa using h0
      go_wp2_with fail
      go_meet
      exact ⟨rfl, none, 0, rfl, hS7, hy7, Rd.nil _ _ _⟩
  case rest =>
    obtain ⟨rfl, A3, c3, rfl, hS8, hy8, hq8⟩ := hcut
    clear hS7 hy7
    go_wp2_with fail
    refine (HCL.out _ hS8).mono ?_
    rintro e w9 ⟨rfl, hb9⟩
    have hS9 := below_call hS8 hb9 (Nat.le_refl _)
    have hy9 := hy8.below hb9
    have hq9 := hq8.below hb9
    clear hS8 hy8 hq8 hb9
    go_wp2_with fail
    refine (HLF.out _ hS9).mono ?_
    rintro e w10 ⟨rfl, hb10⟩
    have hS10 := below_call hS9 hb10 (Nat.le_refl _)
    have hy10 := hy9.below hb10
    have hq10 := hq9.below hb10
    clear hS9 hy9 hq9 hb10
    go_wp2_with fail
    refine (equalPlc_calls w.heap.size A1 A3 _ c1 c3 P _ hy10 hq10).mono ?_
    rintro e w11 ⟨rfl, n11, rfl⟩
    have hS11 := below_drewN hS10 n11
    clear hS10 hy10 hq10
    go_wp2_with fail
    refine (shown_calls w.heap.size _ (by have := hS11.size; omega)).mono ?_
    rintro e w12 ⟨rfl, hb12⟩
    have hS12 := below_call HB4.out (below_call hS11 hb12 (Nat.le_refl _)) (Nat.le_refl _)
    go_wp2_with fail
    go_ret
    exact ⟨rfl, hS12⟩
end Go.Proofs.Ytlfhommeomchoaa
