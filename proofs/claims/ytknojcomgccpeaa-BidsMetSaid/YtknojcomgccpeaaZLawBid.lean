/-
  BidsMet: the law's own walk.
-/
import Derived.Test.YtknojcomgccpeaaZStream
import Derived.Test.YtknojcomgccpeaaZLawSlt
import Derived.Test.YtknojcomgccpeaaZBid7
import Derived.Test.YtknojcomgccpeaaZBid8
import Derived.Test.YtknojcomgccpeaaZBid15
import Derived.Test.YtknojcomgccpeaaZBid16
import Derived.Test.YtknojcomgccpeaaZBid17
import Derived.Test.YtknojcomgccpeaaZLive17
import Derived.Test.YtknojcomgccpeaaZLive7
import Derived.Deep.DeepCutAuto
namespace Go.Proofs.Ytknojcomgccpeaa
open Go Go.RowKit

theorem bds_of {w W : World} {b K n c : Nat} {A : Option Addr} {xs : List Bd} {l : List Rsc} (hS : Sp w b K W (rOwn w.heap.size 101 4 (.slice A n c) n (xs.flatMap bdC) :: rAll (bidR w.heap.size) xs :: l)) (hz : BdZs xs) : Bds W b A n c xs := by
  have h0 : W.ownsRow w.heap.size 101 4 (.slice A n c) n (xs.flatMap bdC) := hS.head
  have h1 : ∀ x ∈ xs, (bidR w.heap.size x).P W := hS.tail.head
  exact ⟨Rd.own h0 hS.hb, fun x hx => ⟨Rd.own (h1 x hx) hS.hb, (hz x hx).hk, (hz x hx).hb, (hz x hx).hh, Nat.le_trans (hz x hx).hn (by omega), (hz x hx).hg⟩⟩
theorem metE_if (xs : List Slt) (f : Int) (bs : List Bd) (gs : List Gf) (ys : List Lv) : metE xs f bs gs ys = if firstE [liveF wrongP xs ys, bidsF xs bs, giftsF (namedF bs) gs] = 0 then fromF f xs else firstE [liveF wrongP xs ys, bidsF xs bs, giftsF (namedF bs) gs] := by
  unfold metE
  by_cases h1 : liveF wrongP xs ys = 0
  · by_cases h2 : bidsF xs bs = 0
    · by_cases h3 : giftsF (namedF bs) gs = 0
      · by_cases h4 : fromF f xs = 0 <;> simp [firstE, h1, h2, h3, h4]
      · simp [firstE, h1, h2, h3]
    · simp [firstE, h1, h2]
  · simp [firstE, h1]

set_option maxRecDepth 100000 in
set_option maxHeartbeats 4000000 in
theorem bid_walk (a0 : Option Addr) (len0 cap0 : Nat) (z0 : List Int) (w : World) (w0 : InRow w a0 len0 cap0 z0) :
    Calls Try.prog 4 #[.slice a0 len0 cap0] w fun e w' => e = .returned (.bool true) ∧ Below w.heap.size w w' := by
  have hs0 := strm_start w0 25
  have hb0 : Bx w.heap.size w.heap.size w (w.alloc (.cells #[.slice a0 len0 cap0, .int .i64 0] 25)) := (Bx.refl _ _ _).alloc (Nat.le_refl _) _
  clear w0
  go_enter Try.func4, Try.ntmps4
  go_wp2_with fail
  refine (slots_calls w.heap.size 0 4 _ hs0 (by omega) (by omega)).mono ?_
  rintro e w1 ⟨v, xs, rfl, hx5, hz, hS⟩
  obtain ⟨n, hn⟩ : ∃ n, xs.length = n := ⟨_, rfl⟩
  rw [hn] at hS hx5
  obtain ⟨A, c, hv⟩ := own_form (show w1.ownsRow _ _ _ v n _ from hS.head)
  subst hv
  have hr1 := slts_of hS hz (by omega)
  have hs1 := hS.strm
  have hb1 := hb0.call hS.bx (Nat.le_refl _)
  clear hS hs0 hb0 hz hn
  go_wp2_with fail
  refine (showTime_calls w.heap.size _ _ hs1 (by omega)).mono ?_
  rintro e w2 ⟨_, rfl, ⟨f, rfl, hf0, hf1⟩, hS⟩
  have hr2 := hr1.bx hS.bx
  have hs2 := hS.strm
  have hb2 := hb1.call hS.bx (Nat.le_refl _)
  clear hS hs1 hr1 hb1
  go_wp2_with fail
  refine (bids_calls w.heap.size _ A n c xs _ hs2 (by omega) hr2 (by omega)).mono ?_
  rintro e w3 ⟨v, bs, rfl, hbn, hbz, hS⟩
  obtain ⟨m2, hm2⟩ : ∃ n, bs.length = n := ⟨_, rfl⟩
  rw [hm2] at hS hbn
  obtain ⟨A2, c2, hv⟩ := own_form (show w3.ownsRow _ _ _ v m2 _ from hS.head)
  subst hv
  have hd3 := bds_of hS hbz
  have hr3 := hr2.bx hS.bx
  have hs3 := hS.strm
  have hb3 := hb2.call hS.bx (Nat.le_refl _)
  clear hS hs2 hr2 hb2 hbz hm2
  go_wp2_with fail
  refine (lives_calls w.heap.size _ A n c xs _ hs3 (by omega) hr3 (by omega)).mono ?_
  rintro e w4 ⟨v, ys, rfl, hpn, hyo, hS⟩
  obtain ⟨m4, hm4⟩ : ∃ m, ys.length = m := ⟨_, rfl⟩
  rw [hm4] at hS hpn
  obtain ⟨A4, c4, hv⟩ := own_form (show w4.ownsRow _ _ _ v m4 _ from hS.head)
  subst hv
  have hy4 : Rd w4 w.heap.size 3 (.slice A4 m4 c4) m4 (ys.flatMap lvC) := Rd.own (show w4.ownsRow _ _ _ (.slice A4 m4 c4) m4 _ from hS.head) hS.hb
  have hr4 := hr3.bx hS.bx
  have hd4 := hd3.bx hS.bx
  have hs4 := hS.strm
  have hb4 := hb3.call hS.bx (Nat.le_refl _)
  clear hS hs3 hr3 hb3 hd3 hm4
  go_wp2_with fail
  refine (sp_range (Sp.start hs4) 0 10 (by omega) (by omega) (by omega) (by omega)).mono ?_
  rintro e w5 ⟨_, rfl, ⟨mv, rfl, mv0, mv1⟩, hS⟩
  obtain ⟨many, rfl⟩ := Int.eq_ofNat_of_zero_le mv0
  have hr5 := hr4.bx hS.bx
  have hd5 := hd4.bx hS.bx
  have hy5 := hy4.bx hS.bx
  have hs5 := hS.strm
  have hb5 := hb4.call hS.bx (Nat.le_refl _)
  clear hS hs4 hr4 hb4 hd4 hy4
  go_wp2_with fail
  refine (gifts_calls w.heap.size _ A2 m2 c2 many bs _ hs5 (by omega) hd5 (by omega) (by omega)).mono ?_
  rintro e w6 ⟨v, gs, rfl, hgn, hgs, hS⟩
  obtain ⟨m3, hm3⟩ : ∃ m, gs.length = m := ⟨_, rfl⟩
  rw [hm3] at hS hgn
  obtain ⟨A3, c3, hv⟩ := own_form (show w6.ownsRow _ _ _ v m3 _ from hS.head)
  subst hv
  have hg6 : Rd w6 w.heap.size 5 (.slice A3 m3 c3) m3 (gs.flatMap gfC) := Rd.own (show w6.ownsRow _ _ _ (.slice A3 m3 c3) m3 _ from hS.head) hS.hb
  have hr6 := hr5.bx hS.bx
  have hd6 := hd5.bx hS.bx
  have hy6 := hy5.bx hS.bx
  have hlt6 := hS.strm.lt
  have hb6 := (hb5.call hS.bx (Nat.le_refl _)).below (Nat.le_refl _)
  clear hS hs5 hr5 hb5 hd5 hy5 hm3
  obtain ⟨E1, hE1⟩ : ∃ E, liveF wrongP xs ys = E := ⟨_, rfl⟩
  obtain ⟨E2, hE2⟩ : ∃ E, bidsF xs bs = E := ⟨_, rfl⟩
  obtain ⟨E3, hE3⟩ : ∃ E, giftsF (namedF bs) gs = E := ⟨_, rfl⟩
  obtain ⟨F3, hF3⟩ : ∃ E, firstE [E1, E2, E3] = E := ⟨_, rfl⟩
  obtain ⟨E, hE⟩ : ∃ E, metE xs f bs gs ys = E := ⟨_, rfl⟩
  obtain ⟨L, hL⟩ : ∃ L, metL xs f bs gs ys = L := ⟨_, rfl⟩
  have hEF : E = if F3 = 0 then fromF f xs else F3 := by rw [← hE, metE_if, hE1, hE2, hE3, hF3]
  have HMT : Hid (∀ W, Below w6.heap.size w6 W → Calls Try.prog 23 #[.slice A n c, .int .i64 f, .slice A2 m2 c2, .slice A3 m3 c3, .slice A4 m4 c4] W (ClashS L E W)) := fun W hW => by
    have := met_calls w.heap.size A A2 A3 A4 n c m2 c2 m3 c3 m4 c4 xs f bs gs ys W (hr6.below hW) (by omega) (hd6.below hW) (hg6.below hW) hgs (by omega) (hy6.below hW) hyo (by omega) (by have := hW.size; omega)
    rw [hE, hL] at this
    exact this
  have HLF : Hid (∀ W, Below w6.heap.size w6 W → Calls Try.prog 25 #[.slice A n c, .slice A4 m4 c4] W (BRet (.int .i64 E1) W)) := fun W hW => by
    have := liveFault_calls w.heap.size A A4 n c m4 c4 xs ys W (hr6.below hW) (hy6.below hW) hyo (by have := hW.size; omega)
    rw [← liveF_eq, hE1] at this
    exact this
  have HBF : Hid (∀ W, Below w6.heap.size w6 W → Calls Try.prog 26 #[.slice A n c, .slice A2 m2 c2] W (BRet (.int .i64 E2) W)) := fun W hW => by
    have := bidsFaultQ_calls w.heap.size A A2 n c m2 c2 xs bs W (hr6.below hW) (hd6.below hW) (by have := hW.size; omega)
    rw [hE2] at this
    exact this
  have HGF : Hid (∀ W, Below w6.heap.size w6 W → Calls Try.prog 27 #[.slice A2 m2 c2, .slice A3 m3 c3] W (BRet (.int .i64 E3) W)) := fun W hW => by
    have := giftsFaultB_calls w.heap.size A3 A2 m3 c3 m2 c2 bs gs W (hd6.below hW) (hg6.below hW) hgs (by have := hW.size; omega)
    rw [hE3] at this
    exact this
  have HER : Hid (∀ W : World, Calls Try.prog 24 #[.slice (some ⟨W.heap.size, 0, none⟩) 3 3] (W.alloc (.cells #[.int .i64 E1, .int .i64 E2, .int .i64 E3] 29)) (QRet (.int .i64 F3) (W.alloc (.cells #[.int .i64 E1, .int .i64 E2, .int .i64 E3] 29)))) := fun W => by
    have hr : Rd (W.alloc (.cells #[.int .i64 E1, .int .i64 E2, .int .i64 E3] 29)) (W.heap.size + 5) 1 (.slice (some ⟨W.heap.size, 0, none⟩) 3 3) 3 ([E1, E2, E3].map (Value.int .i64)) := Rd.lit W _ 1 3 #[.int .i64 E1, .int .i64 E2, .int .i64 E3] _ (by omega) (by decide) rfl
    have := errs_calls (W.heap.size + 5) _ 3 3 [E1, E2, E3] _ hr
    rw [hF3] at this
    exact this
  have HFF : Hid (F3 = 0 → ∀ W, Below w6.heap.size w6 W → Calls Try.prog 28 #[.slice A n c, .int .i64 f] W (BRet (.int .i64 E) W)) := fun h W hW => by
    rw [hEF, if_pos h]
    exact fromFaultQ_calls w.heap.size A n c xs f W (hr6.below hW) (by omega) (by omega) (by have := hW.size; omega)
  have HMB : Hid (E = 0 → ∀ W, Below w6.heap.size w6 W → Calls Try.prog 29 #[.slice A n c, .int .i64 f, .slice A2 m2 c2, .slice A3 m3 c3, .slice A4 m4 c4] W (PrsS L W)) := fun h W hW => by
    have h0 := hE.trans h
    have hz := metE_zero h0
    have hI := (live_ok hz.1).1 ys.length (Nat.le_refl _)
    rw [List.take_length] at hI
    have := metBy_calls w.heap.size A A2 A3 A4 n c m2 c2 m3 c3 m4 c4 xs f bs gs ys W (hr6.below hW) (by omega) (hd6.below hW) (hg6.below hW) hgs (by omega) (hy6.below hW) (by omega) (by have := hW.size; omega) h0
    rw [← met_alike f hI hz.2.1 hz.2.2.1] at this
    have hLL : L = metF (metP xs f gs (stateP ys)) bs := by rw [← hL]; unfold metL; rw [if_pos h0]
    rw [hLL]
    exact this
  have HN3 : Hid (F3 ≠ 0 → E = F3) := fun h => by rw [hEF, if_neg h]
  have HNL : Hid (E ≠ 0 → L = []) := fun h => by rw [← hL]; unfold metL; rw [if_neg (by rw [hE]; exact h)]
  have HB6 := Lib.hid hb6
  clear hE hL hEF hF3 hE1 hE2 hE3 hr6 hd6 hy6 hg6 hgs hyo hb6
  go_wp2_with fail
  refine (HMT.out _ (Below.refl _ _)).mono ?_
  rintro e w7 ⟨v, rfl, ho, hb7⟩
  have hx7 := Rd.own (b := w.heap.size) ho hlt6
  obtain ⟨A1, c1, hv⟩ := own_form ho
  subst hv
  clear ho
  go_wp2_with fail
  refine (HLF.out _ hb7).mono ?_
  rintro e w8 ⟨rfl, hb8⟩
  have hS8 := below_call hb7 hb8 (Nat.le_refl _)
  have hx8 := hx7.below hb8
  clear hb8 hx7 hb7
  go_wp2_with fail
  refine (HBF.out _ hS8).mono ?_
  rintro e w9 ⟨rfl, hb9⟩
  have hS9 := below_call hS8 hb9 (Nat.le_refl _)
  have hx9 := hx8.below hb9
  clear hb9 hx8 hS8
  go_wp2_with fail
  refine (HGF.out _ hS9).mono ?_
  rintro e wg ⟨rfl, hbg⟩
  have hSg := below_call hS9 hbg (Nat.le_refl _)
  have hxg := hx9.below hbg
  clear hbg hx9 hS9
  go_wp2_with fail
  refine (HER.out _).mono ?_
  rintro e we ⟨rfl, nq, rfl⟩
  have hwa := below_drewN ((Below.refl wg.heap.size wg).alloc (Nat.le_refl _) (.cells #[.int .i64 E1, .int .i64 E2, .int .i64 E3] 29)) nq
  have hSe := below_call hSg hwa (Nat.le_refl _)
  have hxe := hxg.below hwa
  obtain ⟨wa, hwe⟩ : ∃ W, (wg.alloc (.cells #[.int .i64 E1, .int .i64 E2, .int .i64 E3] 29)).drewN nq = W := ⟨_, rfl⟩
  rw [hwe] at hSe hxe ⊢
  clear hSg hxg hwa hwe
  go_upto_if 52 with (fail)
  go_cut [11] (fun s11 W => s11 = .int .i64 E ∧ Below w6.heap.size w6 W ∧ Rd W w.heap.size 2 (.slice A1 L.length c1) L.length (L.flatMap prC))
  case first =>
    by_cases h0 : F3 = 0
    · subst h0
      go_wp2_with fail
      refine (HFF.out (by first | rfl | trivial) _ hSe).mono ?_
      rintro e wf ⟨rfl, hbf⟩
      have hSf := below_call hSe hbf (Nat.le_refl _)
      have hxf := hxe.below hbf
      go_wp2_with fail
      go_meet
      exact ⟨rfl, hSf, hxf⟩
    · have e1 := HN3.out h0
      subst e1
      have hxb : (E == 0) = false := by simpa using h0
      go_wp2_with fail
      go_meet
      exact ⟨rfl, hSe, hxe⟩
  case rest =>
    obtain ⟨rfl, hSf, hxf⟩ := hcut
    clear hSe hxe
    go_upto_if 57 with (fail)
    go_cut [12] (fun s12 W => ∃ A5 c5, s12 = .slice A5 L.length c5 ∧ Below w6.heap.size w6 W ∧ Rd W w.heap.size 2 (.slice A1 L.length c1) L.length (L.flatMap prC) ∧ Rd W w.heap.size 2 (.slice A5 L.length c5) L.length (L.flatMap prC))
    case first =>
      by_cases h0 : E = 0
      · subst h0
        go_wp2_with fail
        refine (HMB.out (by first | rfl | trivial) _ hSf).mono ?_
        rintro e wh ⟨v, rfl, ho, hbh⟩
        have hSh := below_call hSf hbh (Nat.le_refl _)
        have hxh := hxf.below hbh
        have hqh := Rd.own (b := w.heap.size) ho (by have := hSf.size; omega)
        obtain ⟨A5, c5, hv⟩ := own_form ho
        subst hv
        go_wp2_with fail
        go_meet
        exact ⟨A5, c5, rfl, hSh, hxh, hqh⟩
      · have e1 := HNL.out h0
        subst e1
        have hxb : (E == 0) = false := by simpa using h0
        go_wp2_with fail
        go_meet
        exact ⟨none, 0, rfl, hSf, hxf, Rd.nil _ _ _⟩
    case rest =>
      obtain ⟨A5, c5, rfl, hSh, hxh, hqh⟩ := hcut
      clear hSf hxf
      go_wp2_with fail
      refine (equalPr_calls w.heap.size A1 A5 _ c1 c5 L _ hxh hqh).mono ?_
      rintro e wi ⟨rfl, n11, rfl⟩
      have hSi := below_drewN hSh n11
      clear hSh hxh hqh
      go_wp2_with fail
      refine (shown_calls w.heap.size _ (by have := hSi.size; omega)).mono ?_
      rintro e wj ⟨rfl, hbj⟩
      have hSj := below_call HB6.out (below_call hSi hbj (Nat.le_refl _)) (Nat.le_refl _)
      go_wp2_with fail
      go_ret
      exact ⟨rfl, hSj⟩
end Go.Proofs.Ytknojcomgccpeaa
