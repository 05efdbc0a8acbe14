/-
  RefusedPressesSayNothing: the law's own walk.
-/
import Derived.Test.YtknojcomgccpeaaGreatDoorZStream
import Derived.Test.YtknojcomgccpeaaGreatDoorZKeepPure
import Derived.Test.YtknojcomgccpeaaGreatDoorZCutEq
namespace Go.Proofs.YtknojcomgccpeaaGreatDoor
open Go Go.RowKit

set_option maxRecDepth 100000 in
set_option maxHeartbeats 4000000 in
theorem ref_walk (a0 : Option Addr) (len0 cap0 : Nat) (z0 : List Int) (w : World) (w0 : InRow w a0 len0 cap0 z0) (ht : Tab w) :
    Calls Tryz.prog 6 #[.slice a0 len0 cap0] w fun e w' => e = .returned (.bool true) ∧ Below w.heap.size w w' := by
  have hs0 := strm_start w0 25
  have hb0 : Bx w.heap.size w.heap.size w (w.alloc (.cells #[.slice a0 len0 cap0, .int .i64 0] 25)) := (Bx.refl _ _ _).alloc (Nat.le_refl _) _
  clear w0
  go_enter Tryz.func6, Tryz.ntmps6
  go_wp2_with fail
  refine (range_calls w.heap.size 0 1 4 _ (by omega) (by omega) (by omega) hs0 (by omega)).mono ?_
  rintro e w1 ⟨n, rfl, n0, n1, hs1, hc1⟩
  obtain ⟨n, rfl⟩ := Int.eq_ofNat_of_zero_le (show 0 ≤ n by omega)
  have hb1 := hb0.call hc1 (Nat.le_refl _)
  clear hs0 hb0 hc1
  go_wp2_with fail
  refine (range_calls w.heap.size _ 0 20 _ (by omega) (by omega) (by omega) hs1 (by omega)).mono ?_
  rintro e w2 ⟨m, rfl, m0, m1, hs2, hc2⟩
  obtain ⟨m, rfl⟩ := Int.eq_ofNat_of_zero_le m0
  have hb2 := hb1.call hc2 (Nat.le_refl _)
  have hlt2 := hs2.lt
  clear hs1 hb1 hc2
  go_wp2_with fail
  refine (rightPresses_calls w.heap.size _ m _ hs2 (by omega) (by omega)).mono ?_
  rintro e w3 ⟨v, l, rfl, hlm, hR, hS3⟩
  go_wp2_with fail
  refine (sp_range hS3 0 400 (by omega) (by omega) (by omega) (by omega)).mono ?_
  rintro e w4 ⟨_, rfl, ⟨u, rfl, hu0, hu1⟩, hS4⟩
  have hO : w4.ownsRow w2.heap.size 46 2 v m (l.flatMap pzC) := hS4.head
  have HB3 := ((hb2.call hS4.bx (Nat.le_refl _)).below (Nat.le_refl _))
  obtain ⟨A, c, hv⟩ := own_form hO
  subst hv
  have hr4 := Rd.own (b := w.heap.size) hO hlt2
  have hok := hR.ok (show (864001000 : Int) ≤ 345686399999 by omega)
  have hlt4 : w.heap.size < w4.heap.size := by have := HB3.size; have := hS4.size; omega
  have hN : 1 ≤ n ∧ n ≤ 100 := by omega
  have hmm : m ≤ 20 := by omega
  have hsg := hok.seg (by omega) hN
  have hky := keep_ok (n := n) hok l.length (Nat.le_refl _)
  have hkl := keep_len n l l.length (Nat.le_refl _)
  have hsy := hky.seg (by omega) hN
  have hkr := keep_ref (n := n) hok
  have hka := keep_at (n := n) hok u
  have hwk := withL_keep hok hsg l.length (Nat.le_refl _)
  obtain ⟨Y, hY⟩ : ∃ Y, keepP n l l.length = Y := ⟨_, rfl⟩
  rw [hY] at hky hkl hsy hkr hka hwk
  obtain ⟨R, hRL⟩ : ∃ R, refL (n : Int) l = R := ⟨_, rfl⟩
  rw [hRL] at hwk
  obtain ⟨CT, hCT⟩ : ∃ CT, ctL (atK n l u).cuts = CT := ⟨_, rfl⟩
  obtain ⟨LE, hLE⟩ : ∃ LE, longE (atK n l u).cuts = LE := ⟨_, rfl⟩
  obtain ⟨c0, c1, c2, c3, c4, hV1, _, _⟩ := ck_cases (atK n l u)
  obtain ⟨E, hE⟩ : ∃ E, ckE (atK n l u) = E := ⟨_, rfl⟩
  have HC1 : Hid (∀ W, Below w4.heap.size w4 W → Calls Tryz.prog 18 #[.int .i64 n, .slice A m c] W (RefS n l W)) := fun W h => refused_calls w.heap.size n A m c l W (hr4.below h)
  have HC2 : Hid (∀ W A2 m2 k2, Below w4.heap.size w4 W → Rd W w.heap.size 1 (.slice A2 m2 k2) m2 (R.map (Value.int .i64)) → Calls Tryz.prog 19 #[.slice A m c, .slice A2 m2 k2] W (WithS Y W)) := fun W A2 m2 k2 h h2 => by
    have := without_calls w.heap.size A A2 m c m2 k2 l R W (hr4.below h) h2 (by omega)
    rw [hwk] at this
    exact this
  have HC3 : Hid (∀ W A2 k2, Rd W w.heap.size 2 (.slice A2 Y.length k2) Y.length (Y.flatMap pzC) → Calls Tryz.prog 18 #[.int .i64 n, .slice A2 Y.length k2] W (fun e w' => ∃ A3 k3, e = .returned (.tuple #[.slice A3 0 k3, .int .i64 0]) ∧ Below W.heap.size W w')) := fun W A2 k2 h => by
    refine (refused_calls w.heap.size n A2 Y.length k2 Y W h).mono ?_
    rintro e w' ⟨v, rfl, ho, hb⟩
    rw [hkr] at ho
    obtain ⟨A3, k3, hv⟩ := own_form ho
    subst hv
    rw [hsy]
    exact ⟨A3, k3, rfl, hb⟩
  have HC4 : Hid (∀ W, Below w4.heap.size w4 W → Calls Tryz.prog 16 #[.int .i64 n, .slice A m c, .int .i64 u] W (BRet (.tuple #[.agg #[.int .i64 c0, .int .i64 c1, .int .i64 c2, .int .i64 c3, .bool c4], .int .i64 E]) W)) := fun W h => by
    have := clockAt_ok w.heap.size n A m c l u W (hr4.below h) (hok.atE (by omega) hN (by omega))
    rw [hV1, hE] at this
    exact this
  have HC5 : Hid (∀ W A2 k2, Rd W w.heap.size 2 (.slice A2 Y.length k2) Y.length (Y.flatMap pzC) → Calls Tryz.prog 16 #[.int .i64 n, .slice A2 Y.length k2, .int .i64 u] W (BRet (.tuple #[.agg #[.int .i64 c0, .int .i64 c1, .int .i64 c2, .int .i64 c3, .bool c4], .int .i64 E]) W)) := fun W A2 k2 h => by
    have := clockAt_ok w.heap.size n A2 Y.length k2 Y u W h (hky.atE (by omega) hN (by omega))
    rw [hka, hV1, hE] at this
    exact this
  have HC6 : Hid (∀ W, Below w4.heap.size w4 W → Calls Tryz.prog 20 #[.int .i64 n, .slice A m c, .int .i64 u] W (CtsS CT LE W)) := fun W h => by
    have := cuts_ok w.heap.size n A m c l u W (hr4.below h) (hok.atE (by omega) hN (by omega)) (by have := h.size; omega)
    rw [hCT, hLE] at this
    exact this
  have HC7 : Hid (∀ W A2 k2, w.heap.size < W.heap.size → Rd W w.heap.size 2 (.slice A2 Y.length k2) Y.length (Y.flatMap pzC) → Calls Tryz.prog 20 #[.int .i64 n, .slice A2 Y.length k2, .int .i64 u] W (CtsS CT LE W)) := fun W A2 k2 hlt h => by
    have := cuts_ok w.heap.size n A2 Y.length k2 Y u W h (hky.atE (by omega) hN (by omega)) hlt
    rw [hka, hCT, hLE] at this
    exact this
  have HER : Hid (∀ W : World, w.heap.size < W.heap.size → Calls Tryz.prog 21 #[.slice (some ⟨W.heap.size, 0, none⟩) 2 2] (W.alloc (.cells #[.int .i64 0, .int .i64 0] 30)) (QRet (.int .i64 0) (W.alloc (.cells #[.int .i64 0, .int .i64 0] 30)))) := fun W hW =>
    errsK_calls w.heap.size _ 2 2 [0, 0] _ (Rd.lit0 hW (by decide) rfl)
  have HRD : Hid (∀ W, Below w4.heap.size w4 W → Calls Tryz.prog 12 #[] W (BRet (.bool true) W)) := fun W h =>
    ready_calls w.heap.size W (by have := h.size; omega) (ht.below (below_call HB3 h (Nat.le_refl _)))
  have HFIN : Hid (∀ W W', Below w4.heap.size w4 W → Below W.heap.size W W' → Below w.heap.size w W') := fun W W' h h' => below_call (below_call HB3 h (Nat.le_refl _)) h' (Nat.le_refl _)
  have HLT := Lib.hid hlt4
  have HRL : Hid (refL (n : Int) l = R ∧ segF (n : Int) l = 0) := ⟨hRL, hsg⟩
  have hS := Sq.start w4
  clear hs2 hb2 hS3 hS4 hlt2 hlm hR hok hO hr4 hsg hky hkl hsy hkr hka hwk hY hRL hCT hLE hV1 hE HB3 ht hlt4
  go_wp2_with fail
  refine (HC1.out _ hS.below).mono ?_
  rintro e w5 ⟨v5, rfl, ho5, hb5⟩
  rw [HRL.out.1] at ho5
  rw [HRL.out.2]
  obtain ⟨A5, k5, hv⟩ := own_form ho5
  subst hv
  have r5 := Rd.own (b := w.heap.size) ho5 (by have := hS.size; have := HLT.out; omega)
  have hS5 := hS.callB hb5
  clear hS hb5 ho5 HRL
  go_wp2_with fail
  refine (HC2.out _ _ _ _ hS5.below r5).mono ?_
  rintro e w6 ⟨v6, rfl, ho6, hb6⟩
  obtain ⟨A6, k6, hv⟩ := own_form ho6
  subst hv
  have hS6 := hS5.ownB hb6 ho6
  have r6 := Rd.own (b := w.heap.size) (show w6.ownsRow w4.heap.size 46 2 (.slice A6 Y.length k6) Y.length (Y.flatMap pzC) from hS6.head) HLT.out
  clear hS5 hb6 ho6 r5
  go_wp2_with fail
  refine (HC3.out _ _ _ r6).mono ?_
  rintro e w7 ⟨A7, k7, rfl, hb7⟩
  have hS7 := hS6.callB hb7
  have r7 := r6.below hb7
  clear hS6 r6 hb7
  go_wp2_with fail
  refine (HC4.out _ hS7.below).mono ?_
  rintro e w8 ⟨rfl, hb8⟩
  have hS8 := (hS7.callB hb8).add #[.int .i64 c0, .int .i64 c1, .int .i64 c2, .int .i64 c3, .bool c4] 48
  have r8 := (r7.below hb8).below ((Below.refl _ _).alloc (Nat.le_refl _) (.cells #[.int .i64 c0, .int .i64 c1, .int .i64 c2, .int .i64 c3, .bool c4] 48))
  clear hS7 hb8 r7
  go_wp2_with fail
  refine (HC5.out _ _ _ r8).mono ?_
  rintro e w9 ⟨rfl, hb9⟩
  have hS9 := (hS8.callB hb9).add #[.int .i64 c0, .int .i64 c1, .int .i64 c2, .int .i64 c3, .bool c4] 48
  have r9 := (r8.below hb9).below ((Below.refl _ _).alloc (Nat.le_refl _) (.cells #[.int .i64 c0, .int .i64 c1, .int .i64 c2, .int .i64 c3, .bool c4] 48))
  obtain ⟨g8, hg8⟩ : ∃ g8, w8.heap.size = g8 := ⟨_, rfl⟩
  rw [hg8] at hS9 ⊢
  clear hS8 hb9 r8 hg8
  go_wp2_with fail
  refine (HC6.out _ hS9.below).mono ?_
  rintro e w10 ⟨v10, rfl, ho10, hb10⟩
  obtain ⟨A10, k10, hv⟩ := own_form ho10
  subst hv
  obtain ⟨g9, hg9⟩ : ∃ g9, w9.heap.size = g9 := ⟨_, rfl⟩
  rw [hg9] at hS9 ⊢
  have hS10 := hS9.ownB hb10 ho10
  have r10 := r9.below hb10
  have hz10 := hS10.size
  have hlt10 : w.heap.size < w10.heap.size := by have := HLT.out; omega
  clear hS9 r9 hb10 ho10 hg9
  go_wp2_with fail
  refine (HC7.out _ _ _ hlt10 r10).mono ?_
  rintro e w11 ⟨v11, rfl, ho11, hb11⟩
  obtain ⟨A11, k11, hv⟩ := own_form ho11
  subst hv
  have hS11 := hS10.ownB hb11 ho11
  have hlt11 : w.heap.size < w11.heap.size := by have := hb11.size; omega
  clear hS10 r10 hb11 ho11 hlt10 hz10
  go_wp2_with fail
  refine (HER.out w11 hlt11).mono ?_
  rintro e w12 ⟨rfl, nq, h12⟩
  have hl12 : Below w11.heap.size w11 w12 := by rw [h12]; exact below_drewN ((Below.refl _ _).alloc (Nat.le_refl _) _) nq
  have hS12 := hS11.callB hl12
  obtain ⟨⟨x0, x1, x2, x3, x4⟩, _⟩ := five (show Blk w12 g8 48 #[.int .i64 c0, .int .i64 c1, .int .i64 c2, .int .i64 c3, .bool c4] from hS12.nth 3 rfl)
  obtain ⟨⟨y0, y1, y2, y3, y4⟩, _⟩ := five (show Blk w12 g9 48 #[.int .i64 c0, .int .i64 c1, .int .i64 c2, .int .i64 c3, .bool c4] from hS12.nth 2 rfl)
  have HEQ := Lib.hid (equalCut_calls w.heap.size A10 A11 CT.length k10 k11 CT w12 (Rd.own (b := w.heap.size) (show w12.ownsRow w4.heap.size 61 3 (.slice A10 CT.length k10) CT.length (CT.flatMap cutC) from hS12.nth 1 rfl) HLT.out) (Rd.own (b := w.heap.size) (show w12.ownsRow w4.heap.size 61 3 (.slice A11 CT.length k11) CT.length (CT.flatMap cutC) from hS12.head) HLT.out))
  have hB12 := hS12.below
  clear h12 hl12 hS11 hS12
  go_wp2_with fail
  refine HEQ.out.mono ?_
  rintro e w13 ⟨rfl, nr, rfl⟩
  have hB13 := below_drewN hB12 nr
  go_wp2_with fail
  refine (HRD.out _ hB13).mono ?_
  rintro e w14 ⟨rfl, hb14⟩
  go_wp2_with fail
  go_ret
  exact ⟨rfl, HFIN.out _ _ hB13 hb14⟩
end Go.Proofs.YtknojcomgccpeaaGreatDoor
