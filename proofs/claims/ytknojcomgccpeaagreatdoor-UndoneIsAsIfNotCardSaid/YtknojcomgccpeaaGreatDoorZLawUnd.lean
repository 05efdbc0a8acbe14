/-
  UndoneIsAsIfNot: the law's own walk.
-/
import Derived.Test.YtknojcomgccpeaaGreatDoorZStream
import Derived.Test.YtknojcomgccpeaaGreatDoorZKeepPure
import Derived.Deep.DeepCutAuto
namespace Go.Proofs.YtknojcomgccpeaaGreatDoor
open Go Go.RowKit

set_option maxRecDepth 100000 in
set_option maxHeartbeats 4000000 in
theorem und_walk (a0 : Option Addr) (len0 cap0 : Nat) (z0 : List Int) (w : World) (w0 : InRow w a0 len0 cap0 z0) (ht : Tab w) :
    Calls Tryz.prog 5 #[.slice a0 len0 cap0] w fun e w' => e = .returned (.bool true) ∧ Below w.heap.size w w' := by
  have hs0 := strm_start w0 25
  have hb0 : Bx w.heap.size w.heap.size w (w.alloc (.cells #[.slice a0 len0 cap0, .int .i64 0] 25)) := (Bx.refl _ _ _).alloc (Nat.le_refl _) _
  clear w0
  go_enter Tryz.func5, Tryz.ntmps5
  go_wp2_with fail
  refine (range_calls w.heap.size 0 1 4 _ (by omega) (by omega) (by omega) hs0 (by omega)).mono ?_
  rintro e w1 ⟨n, rfl, n0, n1, hs1, hc1⟩
  obtain ⟨n, rfl⟩ := Int.eq_ofNat_of_zero_le (show 0 ≤ n by omega)
  have hb1 := hb0.call hc1 (Nat.le_refl _)
  clear hs0 hb0 hc1
  go_wp2_with fail
  refine (range_calls w.heap.size _ 0 16 _ (by omega) (by omega) (by omega) hs1 (by omega)).mono ?_
  rintro e w2 ⟨m, rfl, m0, m1, hs2, hc2⟩
  obtain ⟨m, rfl⟩ := Int.eq_ofNat_of_zero_le m0
  have hb2 := hb1.call hc2 (Nat.le_refl _)
  have hlt2 := hs2.lt
  clear hs1 hb1 hc2
  go_wp2_with fail
  refine (rightPresses_calls w.heap.size _ m _ hs2 (by omega) (by omega)).mono ?_
  rintro e w3 ⟨v, l, rfl, hlm, hR, hS3⟩
  have hO : w3.ownsRow w2.heap.size 46 2 v m (l.flatMap pzC) := hS3.head
  have HB3 := ((hb2.call hS3.bx (Nat.le_refl _)).below (Nat.le_refl _))
  obtain ⟨A, c, hv⟩ := own_form hO
  subst hv
  have hcap := own_cap hO
  have hr3 := Rd.own (b := w.heap.size) hO hlt2
  have hok := hR.ok (show (864001000 : Int) ≤ 345686399999 by omega)
  have hlt3 : w.heap.size < w3.heap.size := by have := HB3.size; have := hS3.size; omega
  clear hs2 hb2 hS3 hlt2
  have HOK := Lib.hid hok
  have HRR := Lib.hid hR
  have HLM := Lib.hid hlm
  have HR3 := Lib.hid hr3
  have hsq := Sq.start w3
  go_upto_if 28 with (fail)
  go_cut [6] (fun s W => ∃ U : Int, s = .int .i64 U ∧ 0 ≤ U ∧ U ≤ 864001001 ∧ Hid (∀ p ∈ l, p.1 ≤ U) ∧ Sq w3 W [])
  case first =>
    by_cases hm0 : m = 0
    · subst hm0
      have hl0 : l = [] := List.eq_nil_of_length_eq_zero hlm
      have HP : Hid (∀ p ∈ l, p.1 ≤ (1 : Int)) := by rw [hl0]; exact Lib.hid (by intro p hp; cases hp)
      clear hl0 hlm hR hok hO hr3
      go_wp2_with fail
      go_meet
      exact ⟨1, rfl, by omega, by omega, HP, hsq⟩
    · obtain ⟨q, rfl⟩ : ∃ q, m = q + 1 := ⟨m - 1, by omega⟩
      obtain ⟨g, cap, hv, _, _⟩ := hO.form (by omega)
      injection hv with hA _ hc
      subst hA hc
      have hlp : q < l.length := by omega
      have x0 := own_cell pzC 2 pzC_len hO q 0 hlp (by omega) (by omega)
      have hat := hR.at_ _ (List.getElem_mem hlp)
      have hlast := fun p hp => hok.last (show 0 < l.length by omega) p hp
      simp only [hlm, Nat.add_sub_cancel] at hlast
      obtain ⟨y, hy⟩ : ∃ y, l[q].1 = y := ⟨_, rfl⟩
      rw [hy] at hat
      replace x0 : w3.cell? ⟨g, q * 2, none⟩ = some (.int .i64 y) := by rw [← hy]; exact x0
      have HP : Hid (∀ p ∈ l, p.1 ≤ y + 1) := fun p hp => by have := hlast p hp; rw [hy] at this; omega
      obtain ⟨hat0, hat1⟩ := hat
      have hq0 : (0 : Int) ≤ (q : Int) := by omega
      have hq1 : (q : Int) < ((q + 1 : Nat) : Int) := by omega
      have hq2 : (0 : Int) < ((q + 1 : Nat) : Int) := by omega
      clear hlm hR hok hO hr3 hlast hy hm0 hlp
      go_wp2_with fail
      go_meet
      exact ⟨y + 1, rfl, by omega, by omega, HP, hsq⟩
  case rest =>
    obtain ⟨U, rfl, hU0, hU1, HP, hS⟩ := hcut
    have hN : 1 ≤ n ∧ n ≤ 100 := by omega
    have hmm : m ≤ 16 := by omega
    have hl2 : l.length ≤ 2000 := by omega
    obtain ⟨i0, hi, hi0, hi1, hi2⟩ := info_parts info_press
    have h632 : m + 2 ≤ maxLen := by unfold maxLen; omega
    have hby2 : (m + 2) * 16 ≤ 140737488355328 := by omega
    have h631 : m + 1 ≤ maxLen := by unfold maxLen; omega
    have hby1 : (m + 1) * 16 ≤ 140737488355328 := by omega
    have HC1 : Hid (∀ W, Below w3.heap.size w3 W → Calls Tryz.prog 16 #[.int .i64 n, .slice A m c, .int .i64 U] W (BRet (.tuple #[ckV (atK n l U), .int .i64 (ckE (atK n l U))]) W)) := fun W h =>
      clockAt_ok w.heap.size n A m c l U W (HR3.out.below h) (HOK.out.atE hl2 hN (by omega))
    have HC2 : Hid (∀ W, Below w3.heap.size w3 W → Calls Tryz.prog 16 #[.int .i64 n, .slice A m c, .int .i64 (U + 10)] W (BRet (.tuple #[ckV (atK n l (U + 10)), .int .i64 (ckE (atK n l (U + 10)))]) W)) := fun W h =>
      clockAt_ok w.heap.size n A m c l (U + 10) W (HR3.out.below h) (HOK.out.atE hl2 hN (by omega))
    have hok2 : PzOk (l ++ [(U, 2), (U + 5, 4)]) := by
      rw [show l ++ [(U, 2), (U + 5, 4)] = (l ++ [(U, (2 : Int))]) ++ [(U + 5, 4)] by simp]
      refine (HOK.out.snoc (by simp only; omega) (by simp) HP.out).snoc (by simp only; omega) (by simp) (fun q hq => ?_)
      rcases List.mem_append.1 hq with hq | hq
      · have := HP.out q hq; simp only; omega
      · simp at hq; subst hq; simp only; omega
    have hok3 : PzOk (l ++ [(U, 9)]) := HOK.out.snoc (by simp only; omega) (by simp) HP.out
    have HC3 : Hid (∀ W v, Rd W w.heap.size 2 v (m + 2) (l.flatMap pzC ++ [.int .i64 U, .int .i64 2, .int .i64 (U + 5), .int .i64 4]) → Calls Tryz.prog 16 #[.int .i64 n, v, .int .i64 (U + 10)] W (BRet (.tuple #[ckV (atK n (l ++ [(U, 2), (U + 5, 4)]) (U + 10)), .int .i64 (ckE (atK n (l ++ [(U, 2), (U + 5, 4)]) (U + 10)))]) W)) := fun W v h => by
      obtain ⟨A', k', hv, _⟩ := id h
      subst hv
      exact clockAt_ok w.heap.size n _ (m + 2) k' (l ++ [(U, 2), (U + 5, 4)]) (U + 10) W (by rw [flat_two]; exact h) (hok2.atE (by simp; omega) hN (by omega))
    have HC4 : Hid (∀ W v, Rd W w.heap.size 2 v (m + 1) (l.flatMap pzC ++ [.int .i64 U, .int .i64 9]) → Calls Tryz.prog 16 #[.int .i64 n, v, .int .i64 U] W (BRet (.tuple #[ckV (atK n (l ++ [(U, 9)]) U), .int .i64 (ckE (atK n (l ++ [(U, 9)]) U))]) W)) := fun W v h => by
      obtain ⟨A', k', hv, _⟩ := id h
      subst hv
      exact clockAt_ok w.heap.size n _ (m + 1) k' (l ++ [(U, 9)]) U W (by rw [flat_one]; exact h) (hok3.atE (by simp; omega) hN (by omega))
    have HCL : Hid (∀ W L, Sq w3 W L → Calls Tryz.prog 17 #[.slice A m c] W fun e w' => ∃ A' c', e = .returned (.slice A' m c') ∧ Sq w3 w' (rOwn w3.heap.size 46 2 (.slice A' m c') m (l.flatMap pzC) :: L)) := fun W L h =>
      sq_clonePz h w.heap.size A m c l HR3.out (by omega)
    have hund := fun hp => undone_at (n := n) HP.out hp
    have hres := fun hp => reset_at (n := n) (x := l) (t := U) hp
    obtain ⟨c0, c1, c2, c3, c4, hV1, hE1, hP1⟩ := ck_cases (atK n l U)
    obtain ⟨d0, d1, d2, d3, d4, hV2, _, _⟩ := ck_cases (atK n l (U + 10))
    obtain ⟨E, hE⟩ : ∃ E, ckE (atK n l U) = E := ⟨_, rfl⟩
    obtain ⟨D, hD⟩ : ∃ D, ckE (atK n l (U + 10)) = D := ⟨_, rfl⟩
    rw [hV1, hE] at HC1
    rw [hE] at hE1 hP1
    rw [hV2, hD] at HC2 hund
    have HRD : Hid (∀ W, Below w3.heap.size w3 W → Calls Tryz.prog 12 #[] W (BRet (.bool true) W)) := fun W h =>
      ready_calls w.heap.size W (by have := h.size; omega) (ht.below (below_call HB3 h (Nat.le_refl _)))
    have HFIN : Hid (∀ W W', Below w3.heap.size w3 W → Below W.heap.size W W' → Below w.heap.size w W') := fun W W' h h' => below_call (below_call HB3 h (Nat.le_refl _)) h' (Nat.le_refl _)
    have HUND := Lib.hid hund
    have HRES := Lib.hid hres
    have HP1 := Lib.hid hP1
    have HLT := Lib.hid hlt3
    clear hok2 hok3 hund hres hP1 hV1 hV2 hE hD hlm hR hok hO hr3 hl2 HB3 ht hsq hlt3
    go_wp2_with fail
    refine (HC1.out _ hS.below).mono ?_
    rintro e w5 ⟨rfl, hb5⟩
    have hS5 := (hS.callB hb5).add #[.int .i64 c0, .int .i64 c1, .int .i64 c2, .int .i64 c3, .bool c4] 48
    clear hS hb5
    go_upto_region 7 with (fail)
    obtain ⟨W5, hW5⟩ : ∃ W5, W5 = w5.alloc (.cells #[.int .i64 c0, .int .i64 c1, .int .i64 c2, .int .i64 c3, .bool c4] 48) := ⟨_, rfl⟩
    rw [← hW5] at hS5 ⊢
    obtain ⟨g5, hg5⟩ : ∃ g5, w5.heap.size = g5 := ⟨_, rfl⟩
    rw [hg5] at hS5 ⊢
    clear hW5 hg5
    obtain ⟨⟨x0, _⟩, _⟩ := five (show Blk W5 g5 48 #[.int .i64 c0, .int .i64 c1, .int .i64 c2, .int .i64 c3, .bool c4] from hS5.head)
    rcases hE1 with rfl | rfl
    · by_cases hc0 : c0 = 1
      · subst hc0
        have hp : (atK n l U).phase = 1 := (HP1.out (by first | rfl | trivial)).1.symm
        obtain ⟨hu1, hu2⟩ := HUND.out hp
        obtain ⟨hu3, hu4⟩ := HRES.out hp
        rw [hu1, hu2] at HC3
        rw [hu3, hu4] at HC4
        clear hp hu1 hu2 hu3 hu4
        go_wp2_with fail
        refine (HCL.out _ _ hS5).mono ?_
        rintro e w8 ⟨A8, k8, rfl, hT1⟩
        have HO := hT1.head
        have hz8 := hT1.size
        go_wp2_with (first
          | (at_builtin; refine wpList_append_own_at _ rfl _ _ 43 rfl w3.heap.size 46 i0 (.agg #[.int .i64 0, .int .i64 0]) 2 16 Tryz.underlying43 hi hi0 hi1 hi2 rfl (by decide) _ _ _ rfl (HO.alloc _) ⟨w8.heap.size, 0, none⟩ 2 2 [.int .i64 U, .int .i64 2, .int .i64 (U + 5), .int .i64 4] rfl rfl (World.news_of_block (heap_alloc_new _ _)) (one4p rfl rfl rfl rfl) (by unfold maxLen; omega) (by omega) (by simp; omega) ?_; intro v9 w9 hown' hgrow _ hblk; have hS9 := (hT1.alloc _).append hown' hgrow hblk; clear hown' hgrow hblk HO hT1 hz8))
        have r9 := Rd.own (b := w.heap.size) (show w9.ownsRow w3.heap.size 46 2 v9 (m + 2) _ from hS9.head) HLT.out
        refine (HC2.out _ hS9.below).mono ?_
        rintro e w10 ⟨rfl, hb10⟩
        have r10 := (r9.below hb10).below ((Below.refl _ _).alloc (Nat.le_refl _) (.cells #[.int .i64 d0, .int .i64 d1, .int .i64 d2, .int .i64 d3, .bool d4] 48))
        have hS10 := ((hS9.callB hb10).drop 0 rfl rfl).add #[.int .i64 d0, .int .i64 d1, .int .i64 d2, .int .i64 d3, .bool d4] 48
        clear r9 hb10 hS9
        go_wp2_with fail
        refine (HC3.out _ _ r10).mono ?_
        rintro e w11 ⟨rfl, hb11⟩
        have hS11 := (hS10.callB hb11).add #[.int .i64 d0, .int .i64 d1, .int .i64 d2, .int .i64 d3, .bool d4] 48
        clear r10 hb11 hS10 HC3
        obtain ⟨g10, hg10⟩ : ∃ g10, w10.heap.size = g10 := ⟨_, rfl⟩
        rw [hg10] at hS11 ⊢
        clear hg10
        go_wp2_with fail
        refine (HCL.out _ _ hS11).mono ?_
        rintro e w12 ⟨A8, k8, rfl, hT1⟩
        have HO := hT1.head
        have hz8 := hT1.size
        go_wp2_with (first
          | (at_builtin; refine wpList_append_own_at _ rfl _ _ 43 rfl w3.heap.size 46 i0 (.agg #[.int .i64 0, .int .i64 0]) 2 16 Tryz.underlying43 hi hi0 hi1 hi2 rfl (by decide) _ _ _ rfl (HO.alloc _) ⟨w12.heap.size, 0, none⟩ 1 1 [.int .i64 U, .int .i64 9] rfl rfl (World.news_of_block (heap_alloc_new _ _)) (one2p rfl rfl) (by unfold maxLen; omega) (by omega) (by simp; omega) ?_; intro v13 w13 hown' hgrow _ hblk; have hS13 := (hT1.alloc _).append hown' hgrow hblk; clear hown' hgrow hblk HO hT1 hz8))
        have r13 := Rd.own (b := w.heap.size) (show w13.ownsRow w3.heap.size 46 2 v13 (m + 1) _ from hS13.head) HLT.out
        refine (HC4.out _ _ r13).mono ?_
        rintro e w14 ⟨rfl, hb14⟩
        have hS14 := ((hS13.callB hb14).drop 0 rfl rfl).add #[.int .i64 0, .int .i64 0, .int .i64 0, .int .i64 0, .bool false] 48
        clear r13 hb14 hS13 HC4
        go_upto_region 14 with (fail)
        obtain ⟨W14, hW14⟩ : ∃ W14, W14 = w14.alloc (.cells #[.int .i64 0, .int .i64 0, .int .i64 0, .int .i64 0, .bool false] 48) := ⟨_, rfl⟩
        rw [← hW14] at hS14 ⊢
        obtain ⟨⟨z0, z1, z2, z3, z4⟩, _⟩ := five (show Blk W14 w14.heap.size 48 #[.int .i64 0, .int .i64 0, .int .i64 0, .int .i64 0, .bool false] from hS14.nth 0 rfl)
        obtain ⟨⟨y0, y1, y2, y3, y4⟩, _⟩ := five (show Blk W14 w11.heap.size 48 #[.int .i64 d0, .int .i64 d1, .int .i64 d2, .int .i64 d3, .bool d4] from hS14.nth 1 rfl)
        obtain ⟨⟨x0, x1, x2, x3, x4⟩, _⟩ := five (show Blk W14 g10 48 #[.int .i64 d0, .int .i64 d1, .int .i64 d2, .int .i64 d3, .bool d4] from hS14.nth 2 rfl)
        have hB14 := hS14.below
        clear hW14 hS14
        go_wp2_with fail
        refine (HRD.out _ hB14).mono ?_
        rintro e w15 ⟨rfl, hb15⟩
        go_wp2_with fail
        go_ret
        exact ⟨rfl, HFIN.out _ _ hB14 hb15⟩
      · have hx : (c0 != 1) = true := by simpa using hc0
        have hB5 := hS5.below
        clear hS5 hc0 HC3 HC4 HUND HRES HP1
        go_wp2_with fail
        refine (HRD.out _ hB5).mono ?_
        rintro e w15 ⟨rfl, hb15⟩
        go_wp2_with fail
        go_ret
        exact ⟨rfl, HFIN.out _ _ hB5 hb15⟩
    · have hB5 := hS5.below
      clear hS5 HC3 HC4 HUND HRES HP1
      go_wp2_with fail
      refine (HRD.out _ hB5).mono ?_
      rintro e w15 ⟨rfl, hb15⟩
      go_wp2_with fail
      go_ret
      exact ⟨rfl, HFIN.out _ _ hB5 hb15⟩
end Go.Proofs.YtknojcomgccpeaaGreatDoor
