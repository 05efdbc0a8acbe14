/-
  marathon.Total by a contract. (Printed by gen_gft3.py.)
-/
import Derived.Test.YtohhbkodfidfkaaGreatDoorZBid10
import Derived.Test.YtohhbkodfidfkaaGreatDoorZGft1
import Derived.Test.YtohhbkodfidfkaaGreatDoorZBid9
import Derived.Test.YtohhbkodfidfkaaGreatDoorZBid6
namespace Go.Proofs.YtohhbkodfidfkaaGreatDoor
open Go Go.RowKit
attribute [local go_sem ↓] Go.wp_at_zero Go.wp_at_succ

def totalE (gs : List Gf) (at_ : Int) : Int := if giftsF keysT gs = 0 then if momB at_ = true then 0 else 1 else giftsF keysT gs
def totalL (gs : List Gf) (at_ : Int) : Int := if totalE gs at_ = 0 then totTo gs at_ gs.length else 0

set_option maxRecDepth 100000 in
set_option maxHeartbeats 1000000 in
theorem total_calls (b : Nat) (A : Option Addr) (n c : Nat) (gs : List Gf) (at_ : Int) (w : World) (hr : Rd w b 5 (.slice A n c) n (gs.flatMap gfC)) (hgs : ∀ x ∈ gs, GfOk x) (hn : n ≤ 100000) :
    Calls Tryz.prog 23 #[.slice A n c, .int .i64 at_] w (BRet (.tuple #[.int .i64 (totalL gs at_), .int .i64 (totalE gs at_)]) w) := by
  obtain ⟨hl, hnc, hcm, hcells⟩ := hr.cells gfC_len (by omega)
  unfold maxLen at hcm
  obtain ⟨E, hE⟩ : ∃ E, giftsF keysT gs = E := ⟨_, rfl⟩
  obtain ⟨M, hM⟩ : ∃ M, momB at_ = M := ⟨_, rfl⟩
  have HKF := Lib.hid (keysFault_calls b A n c gs w hr hgs)
  have HTE : Hid (totalE gs at_ = if E = 0 then if M = true then 0 else 1 else E) := by unfold totalE; rw [hE, hM]; exact Lib.hid rfl
  have HTL : Hid (totalL gs at_ = if totalE gs at_ = 0 then totTo gs at_ gs.length else 0) := rfl
  have HM := Lib.hid hM
  rw [hE] at HKF
  have HL := Lib.hid hl
  have HC := Lib.hid hcells
  have HGS := Lib.hid hgs
  have H0 : Hid (totTo gs at_ 0 = 0) := rfl
  clear hcells hl hr hgs hE hM
  by_cases hz : E = 0
  · subst hz
    cases M
    · have h1 : totalE gs at_ = 1 := HTE.out.trans rfl
      have h2 : totalL gs at_ = 0 := HTL.out.trans (if_neg (by rw [h1]; decide))
      rw [h1, h2]
      clear h1 h2
      go_enter Tryz.func23, Tryz.ntmps23
      go_wp2_with fail
      refine HKF.out.mono ?_
      rintro e w1 ⟨rfl, hb1⟩
      go_wp2_with fail
      refine (moment_calls at_ _).mono ?_
      rintro e w2 ⟨rfl, rfl⟩
      rw [HM.out]
      go_wp2_with fail
      refine bodyPost_ret (v := .tuple #[.int .i64 0, .int .i64 1]) (by simp [results, Tryz.results23, go_sem]) rfl ⟨rfl, hb1⟩
    · have h1 : totalE gs at_ = 0 := HTE.out.trans rfl
      have h2 : totalL gs at_ = totTo gs at_ gs.length := HTL.out.trans (if_pos h1)
      rw [h1, h2]
      clear h1 h2
      go_enter Tryz.func23, Tryz.ntmps23
      go_wp2_with fail
      refine HKF.out.mono ?_
      rintro e w1 ⟨rfl, hb1⟩
      go_wp2_with fail
      refine (moment_calls at_ _).mono ?_
      rintro e w2 ⟨rfl, rfl⟩
      rw [HM.out]
      go_wp2_with fail
      go_loopw [7, 20] (fun s i wr => ∃ k : Nat, k ≤ n ∧ i = .int .i64 k ∧ s = .int .i64 (totTo gs at_ k) ∧ Below w.heap.size w wr) (fun _ i _ => n - (intOf i).toNat)
      case atStart => exact ⟨0, Nat.zero_le _, rfl, rfl, hb1⟩
      case round =>
        clear H0
        obtain ⟨k, hk, rfl, rfl, hbr⟩ := hrel
        by_cases hlt : k < n
        · have hkr : k < gs.length := by rw [HL.out]; exact hlt
          obtain ⟨g, o, hA, _, hcs⟩ := HC.out (by omega)
          subst hA
          have hok := HGS.out _ (List.getElem_mem hkr)
          have hbd := totTo_bd HGS.out at_ k
          have hst := totTo_step gs at_ k hkr
          have c0 := below_cell hbr (hcs k hkr 0 (by omega))
          have c1 := below_cell hbr (hcs k hkr 1 (by omega))
          have c2 := below_cell hbr (hcs k hkr 2 (by omega))
          have c3 := below_cell hbr (hcs k hkr 3 (by omega))
          have c4 := below_cell hbr (hcs k hkr 4 (by omega))
          obtain ⟨x, hx⟩ : ∃ x, gs[k] = x := ⟨_, rfl⟩
          rw [hx] at c0 c1 c2 c3 c4 hok hst
          obtain ⟨xi, xa, xc, xb, xo⟩ := x
          have hxc : -2199023255552 ≤ xc ∧ xc ≤ 2199023255552 := hok.hc
          simp only at hst
          replace c0 : wr.cell? ⟨g, o + k * 5, none⟩ = some (.string xi) := c0
          replace c1 : wr.cell? ⟨g, o + k * 5 + 1, none⟩ = some (.int .i64 xa) := c1
          replace c2 : wr.cell? ⟨g, o + k * 5 + 2, none⟩ = some (.int .i64 xc) := c2
          replace c3 : wr.cell? ⟨g, o + k * 5 + 3, none⟩ = some (.string xb) := c3
          replace c4 : wr.cell? ⟨g, o + k * 5 + 4, none⟩ = some (.string xo) := c4
          have hba := hbr.alloc hbr.size (.cells #[.string xi, .int .i64 xa, .int .i64 xc, .string xb, .string xo] 61)
          obtain ⟨z, hz⟩ : ∃ z, totTo gs at_ k = z := ⟨_, rfl⟩
          rw [hz] at hst hbd ⊢
          have HST := Lib.hid hst
          obtain ⟨hb0, hb1⟩ := hbd
          obtain ⟨hx0, hx1⟩ := hxc
          have hsum : -9223372036854775808 ≤ z + xc ∧ z + xc ≤ 9223372036854775807 := by omega
          obtain ⟨hs0, hs1⟩ := hsum
          clear hcs hok hx hst hz
          by_cases hp : xa ≤ at_
          · have HSS := Lib.hid (HST.out.trans (if_pos hp))
            clear HST
            go_wp2_with fail
            go_roundw
            case rel => exact ⟨k + 1, by omega, by go_num, by rw [HSS.out], hba⟩
            case measure => simp [intOf]; omega
          · have HSS := Lib.hid (HST.out.trans (if_neg hp))
            clear HST
            go_wp2_with fail
            go_roundw
            case rel => exact ⟨k + 1, by omega, by go_num, by rw [HSS.out], hba⟩
            case measure => simp [intOf]; omega
        · obtain rfl : k = n := by omega
          have HLL := Lib.hid HL.out
          go_wp2_with fail
          refine bodyPost_ret (v := .tuple #[.int .i64 (totTo gs at_ k), .int .i64 0]) (by simp [results, Tryz.results23, go_sem]) rfl ⟨by rw [HLL.out], hbr⟩
  · have h1 : totalE gs at_ = E := HTE.out.trans (if_neg hz)
    have h2 : totalL gs at_ = 0 := HTL.out.trans (if_neg (by rw [h1]; exact hz))
    have hz' : (E != 0) = true := by rw [bne_iff_ne]; exact hz
    rw [h1, h2]
    clear h1 h2
    go_enter Tryz.func23, Tryz.ntmps23
    go_wp2_with fail
    refine HKF.out.mono ?_
    rintro e w1 ⟨rfl, hb1⟩
    go_wp2_with fail
    refine bodyPost_ret (v := .tuple #[.int .i64 0, .int .i64 E]) (by simp [results, Tryz.results23, go_sem]) rfl ⟨rfl, hb1⟩
end Go.Proofs.YtohhbkodfidfkaaGreatDoor
/-
  marathon.Won by a contract.
-/
namespace Go.Proofs.YtohhbkodfidfkaaGreatDoor
open Go Go.RowKit
attribute [local go_sem ↓] Go.wp_at_zero Go.wp_at_succ

def wonE (x : Bd) (gs : List Gf) (at_ : Int) : Int := if giftsF (namedF [x]) gs = 0 then if momB at_ = true then 0 else 1 else giftsF (namedF [x]) gs
/-- what Won answers -/
def wonR (x : Bd) (gs : List Gf) (at_ : Int) : ByteArray × Int × Bool := if wonE x gs at_ = 0 then wonP x gs (at_ + 1) else (⟨#[]⟩, 0, false)

set_option maxRecDepth 100000 in
set_option maxHeartbeats 1000000 in
theorem wonX_calls (b : Nat) (x : Bd) (A : Option Addr) (n c : Nat) (gs : List Gf) (at_ : Int) (w : World) (hx : BdOk w b x) (hr : Rd w b 5 (.slice A n c) n (gs.flatMap gfC)) (hgs : ∀ x ∈ gs, GfOk x) (hn : n ≤ 100000) (hb : b < w.heap.size) :
    Calls Tryz.prog 28 #[.agg #[.string x.key, .string x.before, .int .i64 x.goal, .slice x.oa x.opts.length x.oc], .slice A n c, .int .i64 at_] w (BRet (.tuple #[.string (wonR x gs at_).1, .int .i64 (wonR x gs at_).2.1, .bool (wonR x gs at_).2.2, .int .i64 (wonE x gs at_)]) w) := by
  obtain ⟨m, hm⟩ : ∃ m, x.opts.length = m := ⟨_, rfl⟩
  obtain ⟨E, hE⟩ : ∃ E, giftsF (namedF [x]) gs = E := ⟨_, rfl⟩
  obtain ⟨M, hM⟩ : ∃ M, momB at_ = M := ⟨_, rfl⟩
  have HTE := Lib.hid (show wonE x gs at_ = if E = 0 then if M = true then 0 else 1 else E by unfold wonE; rw [hE, hM])
  have HTR := Lib.hid (show wonR x gs at_ = if wonE x gs at_ = 0 then wonP x gs (at_ + 1) else (⟨#[]⟩, 0, false) from rfl)
  have hb0 : Below w.heap.size w (w.alloc (.cells #[.string x.key, .string x.before, .int .i64 x.goal, .slice x.oa m x.oc] 53)) := (Below.refl _ _).alloc (Nat.le_refl _) _
  have hb1 := hb0.alloc hb0.size (.cells #[.string x.key, .string x.before, .int .i64 x.goal, .slice x.oa m x.oc] 53)
  have B0 : Blk (w.alloc (.cells #[.string x.key, .string x.before, .int .i64 x.goal, .slice x.oa m x.oc] 53)) w.heap.size 53 #[.string x.key, .string x.before, .int .i64 x.goal, .slice x.oa m x.oc] := Blk.new w _ _
  obtain ⟨w1, hw1⟩ : ∃ W, w.alloc (.cells #[.string x.key, .string x.before, .int .i64 x.goal, .slice x.oa m x.oc] 53) = W := ⟨_, rfl⟩
  rw [hw1] at hb0 hb1 B0
  have hBs : Bds (w1.alloc (.cells #[.string x.key, .string x.before, .int .i64 x.goal, .slice x.oa m x.oc] 53)) b (some ⟨w1.heap.size, 0, none⟩) 1 1 [x] := by
    refine ⟨?_, fun y hy => ?_⟩
    · have h := Rd.lit0 (w := w1) (b := b) (size := 4) (n := 1) (cs := #[.string x.key, .string x.before, .int .i64 x.goal, .slice x.oa m x.oc]) (t := 53) (by have := hb0.size; omega) (by decide) rfl
      have e : [x].flatMap bdC = [.string x.key, .string x.before, .int .i64 x.goal, .slice x.oa m x.oc] := by simp [bdC, hm]
      rw [e]
      exact h
    · simp at hy
      subst hy
      exact hx.below hb1
  have HCG := Lib.hid (checkGifts_calls b A (some ⟨w1.heap.size, 0, none⟩) n c 1 1 [x] gs _ hBs (hr.below hb1) hgs)
  rw [hE] at HCG
  have HWN : Hid (0 ≤ at_ ∧ at_ ≤ 345686399999 → ∀ W, Below w.heap.size w W → Calls Tryz.prog 71 #[.agg #[.string x.key, .string x.before, .int .i64 x.goal, .slice x.oa m x.oc], .slice A n c, .int .i64 (at_ + 1)] W (BRet (.tuple #[.string (wonP x gs (at_ + 1)).1, .int .i64 (wonP x gs (at_ + 1)).2.1, .bool (wonP x gs (at_ + 1)).2.2]) W)) := fun h W hW => by
    have := won_calls b x A n c gs (at_ + 1) W (hx.below hW) (hr.below hW) hgs hn (by omega)
    rw [hm] at this
    exact this
  have HM := Lib.hid hM
  have HB0 := Lib.hid B0
  have b0 := B0.cell 0
  have b1 := B0.cell 1
  have b2 := B0.cell 2
  have b3 := B0.cell 3
  rw [hm]
  clear hE hM hm hx hr hgs hBs
  by_cases hz : E = 0
  · subst hz
    cases M
    · have h1 : wonE x gs at_ = 1 := HTE.out.trans rfl
      have h2 : wonR x gs at_ = (⟨#[]⟩, 0, false) := HTR.out.trans (if_neg (by rw [h1]; decide))
      rw [h1, h2]
      clear h1 h2
      go_enter Tryz.func28, Tryz.ntmps28
      go_wp2_with fail
      refine HCG.out.mono ?_
      rintro e w2 ⟨rfl, hb2⟩
      have hb3 := below_call hb1 hb2 (Nat.le_refl _)
      go_wp2_with fail
      refine (moment_calls at_ _).mono ?_
      rintro e w3 ⟨rfl, rfl⟩
      rw [HM.out]
      go_wp2_with fail
      refine bodyPost_ret (v := .tuple #[.string ⟨#[]⟩, .int .i64 0, .bool false, .int .i64 1]) (by simp [results, Tryz.results28, go_sem]) rfl ⟨rfl, hb3⟩
    · have h1 : wonE x gs at_ = 0 := HTE.out.trans rfl
      have h2 : wonR x gs at_ = wonP x gs (at_ + 1) := HTR.out.trans (if_pos h1)
      rw [h1, h2]
      clear h1 h2
      obtain ⟨a0, a1⟩ := (momB_iff at_).1 HM.out
      have HW := Lib.hid (HWN.out ⟨a0, a1⟩)
      obtain ⟨wp, hwp⟩ : ∃ z, wonP x gs (at_ + 1) = z := ⟨_, rfl⟩
      rw [hwp] at HW ⊢
      obtain ⟨s1, cn, ok⟩ := wp
      clear hwp
      go_enter Tryz.func28, Tryz.ntmps28
      go_wp2_with fail
      refine HCG.out.mono ?_
      rintro e w2 ⟨rfl, hb2⟩
      have hb3 := below_call hb1 hb2 (Nat.le_refl _)
      have B2 : Blk w2 w.heap.size 53 #[.string x.key, .string x.before, .int .i64 x.goal, .slice x.oa m x.oc] := (HB0.out.below ((Below.refl _ _).alloc (Nat.le_refl _) _)).below hb2
      have q0 := B2.cell 0
      have q1 := B2.cell 1
      have q2 := B2.cell 2
      have q3 := B2.cell 3
      clear B2
      go_wp2_with fail
      refine (moment_calls at_ _).mono ?_
      rintro e w3 ⟨rfl, rfl⟩
      rw [HM.out]
      go_wp2_with fail
      refine (HW.out _ hb3).mono ?_
      rintro e w4 ⟨rfl, hb4⟩
      have hb5 := below_call hb3 hb4 (Nat.le_refl _)
      go_wp2_with fail
      refine bodyPost_ret (v := .tuple #[.string s1, .int .i64 cn, .bool ok, .int .i64 0]) (by simp [results, Tryz.results28, go_sem]) rfl ⟨rfl, hb5⟩
  · have h1 : wonE x gs at_ = E := HTE.out.trans (if_neg hz)
    have h2 : wonR x gs at_ = (⟨#[]⟩, 0, false) := HTR.out.trans (if_neg (by rw [h1]; exact hz))
    have hz' : (E != 0) = true := by rw [bne_iff_ne]; exact hz
    rw [h1, h2]
    clear h1 h2
    go_enter Tryz.func28, Tryz.ntmps28
    go_wp2_with fail
    refine HCG.out.mono ?_
    rintro e w2 ⟨rfl, hb2⟩
    have hb3 := below_call hb1 hb2 (Nat.le_refl _)
    go_wp2_with fail
    refine bodyPost_ret (v := .tuple #[.string ⟨#[]⟩, .int .i64 0, .bool false, .int .i64 E]) (by simp [results, Tryz.results28, go_sem]) rfl ⟨rfl, hb3⟩
end Go.Proofs.YtohhbkodfidfkaaGreatDoor
