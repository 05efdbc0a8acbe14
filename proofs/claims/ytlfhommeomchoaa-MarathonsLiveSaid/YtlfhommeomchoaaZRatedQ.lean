/-
  splitref2.RatedFault by a contract: it answers ratedF.
-/
import Derived.Test.YtlfhommeomchoaaZRatFault
namespace Go.Proofs.Ytlfhommeomchoaa
open Go Go.RowKit

set_option maxRecDepth 100000 in
theorem ratedFaultQ_calls (b : Nat) (A : Option Addr) (n c : Nat) (rs : List Rtd) (w : World) (hr : Rd w b 3 (.slice A n c) n (rs.flatMap ratedC)) (hrs : Rts rs) :
    Calls Try.prog 19 #[.slice A n c] w (BRet (.int .i64 (ratedF rs)) w) := by
  obtain ⟨hl, hnc, hcm, hcells⟩ := hr.cells ratedC_len (by omega)
  unfold maxLen at hcm
  by_cases hbig : 128 < n
  · have HF := Lib.hid (show ratedF rs = 2 by unfold ratedF; rw [if_pos (by omega)])
    clear hcells hl
    go_enter Try.func19, Try.ntmps19
    go_wp2_with fail
    go_ret
    exact ⟨ret_int HF.out.symm, Below.refl _ _⟩
  have HF := Lib.hid (show ratedF rs = ratedG (lastOf rs 0) (rs.drop 0) by unfold ratedF; rw [if_neg (by omega)]; rfl)
  have HL := Lib.hid hl
  have HC := Lib.hid hcells
  clear hcells hl hr
  go_enter Try.func19, Try.ntmps19
  go_wp2_with fail
  go_loopw [3, 12] (fun v i wr => ∃ k : Nat, k ≤ n ∧ i = .int .i64 k ∧ v = .string (lastOf rs k) ∧ Hid (ratedF rs = ratedG (lastOf rs k) (rs.drop k)) ∧ Below w.heap.size w wr) (fun _ i _ => n - (intOf i).toNat)
  case atStart => exact ⟨0, Nat.zero_le _, rfl, rfl, HF, Below.refl _ _⟩
  case round =>
    clear HF
    obtain ⟨k, hk, rfl, rfl, HF, hbr⟩ := hrel
    by_cases hlt : k < n
    · have hkr : k < rs.length := by rw [HL.out]; exact hlt
      obtain ⟨g, o, hA, _, hcs⟩ := HC.out (by omega)
      subst hA
      have c0 := below_cell hbr (hcs k hkr 0 (by omega))
      have c1 := below_cell hbr (hcs k hkr 1 (by omega))
      have c2 := below_cell hbr (hcs k hkr 2 (by omega))
      have hri := hrs _ (List.getElem_mem hkr)
      have hst := HF.out.trans (ratedG_step rs k hkr)
      have hla : lastOf rs (k + 1) = rs[k].1 := by simp [lastOf, hkr]
      have HLA := Lib.hid hla
      clear hla
      obtain ⟨r, hr⟩ : ∃ r, rs[k] = r := ⟨_, rfl⟩
      rw [hr] at c0 c1 c2 hri hst HLA
      obtain ⟨s, N, D⟩ := r
      obtain ⟨hs, hN, hD⟩ := hri
      obtain ⟨t, ht⟩ : ∃ t, lastOf rs k = t := ⟨_, rfl⟩
      rw [ht] at hst HF ⊢
      simp only [Nat.add_zero] at c0
      simp only at hs hN hD hst HLA
      have hlz := hbr.size
      clear hr ht
      cases hkey : keyB s.data.toList
      · rw [if_pos hkey] at hst
        have HS := Lib.hid hst
        have HK := Lib.hid hkey
        clear hst hkey
        go_wp2_with fail
        refine (keyQ_calls s _ (by unfold maxLen; omega)).mono ?_
        rintro e w1 ⟨rfl, rfl⟩
        rw [HK.out]
        go_wp2_with fail
        go_ret
        exact ⟨ret_int HS.out.symm, hbr.alloc hbr.size _⟩
      · rw [if_neg (by rw [hkey]; simp)] at hst
        have HK := Lib.hid hkey
        clear hkey
        cases hle : leS s t
        · rw [hle, if_neg (by simp)] at hst
          have hle' : (Op.bytesLess s.toList t.toList || s.toList == t.toList) = false := hle
          clear hle
          go_wp2_with fail
          refine (keyQ_calls s _ (by unfold maxLen; omega)).mono ?_
          rintro e w1 ⟨rfl, rfl⟩
          rw [HK.out]
          go_wp2_with fail
          refine (ratingFaultQ_calls N D _ hN hD).mono ?_
          rintro e w2 ⟨rfl, hb2⟩
          have B0 : Blk w2 wr.heap.size 47 #[.string s, .int .i64 N, .int .i64 D] := (Blk.new wr _ _).below hb2
          obtain ⟨b1, b2, b3, b4, b5, b6⟩ := B0.three
          have hb3 := below_call (hbr.alloc hbr.size _) hb2 (Nat.le_refl _)
          cases hrz : decide (ratF N D = 0)
          · have hne : ¬ ratF N D = 0 := of_decide_eq_false hrz
            rw [if_neg hne] at hst
            have hne' : (ratF N D != 0) = true := by rw [bne_iff_ne]; exact hne
            have HS := Lib.hid hst
            clear hst hrz hne
            go_wp2_with fail
            go_ret
            exact ⟨ret_int HS.out.symm, hb3⟩
          · have hez : ratF N D = 0 := of_decide_eq_true hrz
            rw [if_pos hez] at hst
            have HS := Lib.hid hst
            rw [hez]
            clear hst hrz hez
            go_wp2_with fail
            go_roundw
            case rel => exact ⟨k + 1, by omega, by go_num, by rw [HLA.out], HS, hb3⟩
            case measure => simp [intOf]; omega
        · rw [hle, if_pos rfl] at hst
          have hle' : (Op.bytesLess s.toList t.toList || s.toList == t.toList) = true := hle
          have HS := Lib.hid hst
          clear hle hst
          go_wp2_with fail
          refine (keyQ_calls s _ (by unfold maxLen; omega)).mono ?_
          rintro e w1 ⟨rfl, rfl⟩
          rw [HK.out]
          go_wp2_with fail
          go_ret
          exact ⟨ret_int HS.out.symm, hbr.alloc hbr.size _⟩
    · obtain rfl : k = n := by omega
      have HS := Lib.hid (HF.out.trans (by rw [List.drop_of_length_le (by rw [HL.out]; exact Nat.le_refl _)]; rfl : _ = (0 : Int)))
      go_wp2_with fail
      go_ret
      exact ⟨ret_int HS.out.symm, hbr⟩
end Go.Proofs.Ytlfhommeomchoaa
