/-
  splitref2.RatesFault by a contract: it answers ratesF.
-/
import Derived.Test.YtlfhommeomchoaaRes
namespace Go.Proofs.Ytlfhommeomchoaa
open Go Go.RowKit

set_option maxRecDepth 100000 in
set_option maxHeartbeats 800000 in
theorem ratesFaultQ_calls (b : Nat) (A : Option Addr) (n c : Nat) (rs : List Rtd) (A2 : Option Addr) (m c2 : Nat) (r : List Res) (wt : Int) (w : World) (hr : Rd w b 3 (.slice A n c) n (rs.flatMap ratedC)) (hr2 : Rd w b 3 (.slice A2 m c2) m (r.flatMap resC)) (hss : Rss r) (hrs : Rts rs) :
    Calls Try.prog 15 #[.slice A n c, .slice A2 m c2, .int .i64 wt] w (BRet (.int .i64 (ratesF rs r wt)) w) := by
  obtain ⟨hl, hnc, hcm, hcells⟩ := hr2.cells resC_len (by omega)
  unfold maxLen at hcm
  cases hz : decide (ratedF rs = 0)
  · have hne : ¬ ratedF rs = 0 := of_decide_eq_false hz
    have hne' : (ratedF rs != 0) = true := by rw [bne_iff_ne]; exact hne
    have HF := Lib.hid (show ratesF rs r wt = ratedF rs by unfold ratesF; rw [if_neg hne])
    clear hne hz hcells hl
    go_enter Try.func15, Try.ntmps15
    go_wp2_with fail
    refine (ratedFaultQ_calls b A n c rs _ hr hrs).mono ?_
    rintro e w1 ⟨rfl, hb1⟩
    go_wp2_with fail
    go_ret
    exact ⟨ret_int HF.out.symm, hb1⟩
  have hez : ratedF rs = 0 := of_decide_eq_true hz
  clear hz
  by_cases hbig : 128 < m
  · have HF := Lib.hid (show ratesF rs r wt = 2 by unfold ratesF; rw [if_pos hez]; unfold resF; rw [if_pos (by omega)])
    clear hcells hl
    go_enter Try.func15, Try.ntmps15
    go_wp2_with fail
    refine (ratedFaultQ_calls b A n c rs _ hr hrs).mono ?_
    rintro e w0 ⟨rfl, hb0⟩
    rw [hez]
    have HEZ := Lib.hid hez
    clear hez
    go_wp2_with fail
    go_ret
    exact ⟨ret_int HF.out.symm, hb0⟩
  have HF := Lib.hid (show ratesF rs r wt = resG rs r wt 0 (r.drop 0) by unfold ratesF; rw [if_pos hez]; unfold resF; rw [if_neg (by omega)]; rfl)
  have HL := Lib.hid hl
  have HC := Lib.hid hcells
  clear hcells hl
  go_enter Try.func15, Try.ntmps15
  go_wp2_with fail
  refine (ratedFaultQ_calls b A n c rs _ hr hrs).mono ?_
  rintro e w0 ⟨rfl, hb0⟩
  rw [hez]
  have HEZ := Lib.hid hez
  clear hez
  go_wp2_with fail
  go_loopw [20] (fun i wr => ∃ k : Nat, k ≤ m ∧ i = .int .i64 k ∧ Hid (ratesF rs r wt = resG rs r wt k (r.drop k)) ∧ Below w.heap.size w wr) (fun i _ => m - (intOf i).toNat)
  case atStart => exact ⟨0, Nat.zero_le _, rfl, HF, hb0⟩
  case round =>
    clear HF
    obtain ⟨k, hk, rfl, HF, hbr⟩ := hrel
    by_cases hlt : k < m
    · have hkr : k < r.length := by rw [HL.out]; exact hlt
      obtain ⟨g, o, hA, _, hcs⟩ := HC.out (by omega)
      subst hA
      have c0 := below_cell hbr (hcs k hkr 0 (by omega))
      have c1 := below_cell hbr (hcs k hkr 1 (by omega))
      have c2' := below_cell hbr (hcs k hkr 2 (by omega))
      have hri := hss _ (List.getElem_mem hkr)
      have hst := HF.out.trans (resG_step rs r wt k hkr)
      obtain ⟨x, hx⟩ : ∃ x, r[k] = x := ⟨_, rfl⟩
      rw [hx] at c0 c1 c2' hri hst
      simp only [Nat.add_zero] at c0
      have hlz := hbr.size
      have hfg := ixOf_ge (fun q : Rtd => eqS q.1 x.2.1) rs
      have HRd := Lib.hid ((hr.below hbr).below ((Below.refl _ wr).alloc (Nat.le_refl _) (.cells #[.int .i64 x.1, .string x.2.1, .int .i64 x.2.2] 98)))
      have HRd2 := Lib.hid ((hr2.take resC_len k (by omega)).below (hbr.alloc hbr.size (.cells #[.int .i64 x.1, .string x.2.1, .int .i64 x.2.2] 98)))
      clear hx hcs
      obtain ⟨fx, hfx⟩ : ∃ fx, findR rs x.2.1 = fx := ⟨_, rfl⟩
      rw [hfx] at hst
      have hfx0 : -1 ≤ fx := by rw [← hfx]; exact hfg.1
      have HFX := Lib.hid hfx
      clear hfx hfg
      by_cases hneg : fx < 0
      · rw [if_pos hneg] at hst
        have HS := Lib.hid hst
        clear hst
        go_wp2_with fail
        refine (ratedAt_calls b A n c rs x.2.1 _ HRd.out).mono ?_
        rintro e w1 ⟨rfl, hb1⟩
        rw [HFX.out]
        go_wp2_with fail
        go_ret
        exact ⟨ret_int HS.out.symm, below_call (hbr.alloc hbr.size _) hb1 (Nat.le_refl _)⟩
      · rw [if_neg hneg] at hst
        have HST := Lib.hid hst
        clear hst
        go_wp2_with fail
        refine (ratedAt_calls b A n c rs x.2.1 _ HRd.out).mono ?_
        rintro e w1 ⟨rfl, hb1⟩
        rw [HFX.out]
        have hb1' := below_call (hbr.alloc hbr.size _) hb1 (Nat.le_refl _)
        have B1 : Blk w1 wr.heap.size 98 #[.int .i64 x.1, .string x.2.1, .int .i64 x.2.2] := (Blk.new wr _ _).below hb1
        have R2 := HRd2.out.below hb1
        have hk0 : (0 : Int) ≤ (k : Int) := by omega
        have hkc : (k : Int) ≤ (c2 : Int) := by omega
        go_wp2_with fail
        refine (hasQ_calls b _ _ k c2 (r.take k) x _ R2 B1).mono ?_
        rintro e w2 ⟨rfl, hb2⟩
        have hb2' := below_call hb1' hb2 (Nat.le_refl _)
        have B2 := B1.below hb2
        obtain ⟨d0, d1, d2, d3, d4, d5⟩ := B2.three
        have hst := HST.out
        cases hh : hasR (r.take k) x.2.1
        · rw [hh, if_neg (by simp)] at hst
          have HST2 := Lib.hid hst
          clear hst
          go_wp2_with fail
          refine (in_calls x.1 1 128 _).mono ?_
          rintro e w3 ⟨rfl, rfl⟩
          have hst := HST2.out
          cases ho : outB x.1 1 128
          · rw [ho, if_neg (by simp)] at hst
            have HS := Lib.hid hst
            clear hst hh ho
            go_wp2_with fail
            go_roundw
            case rel => exact ⟨k + 1, by omega, by go_num, HS, hb2'⟩
            case measure => simp [intOf]; omega
          · rw [ho, if_pos rfl] at hst
            have HS := Lib.hid hst
            clear hst hh ho
            go_wp2_with fail
            go_ret
            exact ⟨ret_int HS.out.symm, hb2'⟩
        · rw [hh, if_pos rfl] at hst
          have HS := Lib.hid hst
          clear hst hh
          go_wp2_with fail
          go_ret
          exact ⟨ret_int HS.out.symm, hb2'⟩
    · obtain rfl : k = m := by omega
      have hst : ratesF rs r wt = resG rs r wt k [] := HF.out.trans (by rw [List.drop_of_length_le (by rw [HL.out]; exact Nat.le_refl _)])
      rw [resG] at hst
      have HST := Lib.hid hst
      clear hst
      go_wp2_with fail
      refine (in_calls wt 1 1000 _).mono ?_
      rintro e w3 ⟨rfl, rfl⟩
      have hst := HST.out
      cases ho : outB wt 1 1000
      · rw [ho, if_neg (by simp), HL.out] at hst
        cases h1 : decide (k = 1)
        · have hk1 : ¬ k = 1 := of_decide_eq_false h1
          rw [if_neg hk1] at hst
          have HS := Lib.hid hst
          have hk2 : ((k : Int) == 1) = false := by simp; omega
          clear hst ho h1 hk1
          go_wp2_with fail
          go_ret
          exact ⟨ret_int HS.out.symm, hbr⟩
        · have hk1 : k = 1 := of_decide_eq_true h1
          rw [if_pos hk1] at hst
          have HS := Lib.hid hst
          have hk2 : ((k : Int) == 1) = true := by simp; omega
          clear hst ho h1 hk1
          go_wp2_with fail
          go_ret
          exact ⟨ret_int HS.out.symm, hbr⟩
      · rw [ho, if_pos rfl] at hst
        have HS := Lib.hid hst
        clear hst ho
        go_wp2_with fail
        go_ret
        exact ⟨ret_int HS.out.symm, hbr⟩
end Go.Proofs.Ytlfhommeomchoaa
