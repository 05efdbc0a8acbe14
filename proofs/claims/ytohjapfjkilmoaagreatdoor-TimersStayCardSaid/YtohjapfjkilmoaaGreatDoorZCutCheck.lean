/-
  timer.CheckCuts and splitref2.CutsFault by contracts: both answer cutF.
-/
import Derived.Test.YtohjapfjkilmoaaGreatDoorZCutMake
import Derived.Test.YtohjapfjkilmoaaGreatDoorZNum
import Derived.Test.YtohjapfjkilmoaaGreatDoorZBase
namespace Go.Proofs.YtohjapfjkilmoaaGreatDoor
open Go Go.RowKit

theorem cutE_out (lr lg r g : Int) : cutE lr lg (r, g, false) = if outB r 0 864000000 = true then 1 else if outB g 0 r = true then 1 else if r < lr then 7 else if g < lg then 7 else 0 := by
  unfold cutE outB
  simp only [Bool.false_eq_true, if_false, decide_eq_true_eq]
  by_cases h1 : r < 0 ∨ 864000000 < r
  · rw [if_pos (by omega), if_pos h1]
  · rw [if_neg h1]
    by_cases h2 : g < 0 ∨ r < g
    · rw [if_pos (by omega), if_pos h2]
    · rw [if_neg (by omega), if_neg h2]
      by_cases h3 : r < lr
      · rw [if_pos (by omega), if_pos h3]
      · rw [if_neg h3]
        by_cases h4 : g < lg
        · rw [if_pos (by omega), if_pos h4]
        · rw [if_neg (by omega), if_neg h4]
theorem cutE_skip (lr lg r g : Int) : cutE lr lg (r, g, true) = if r = 0 then (if g = 0 then 0 else 3) else 3 := by
  unfold cutE
  simp only [if_true]
  by_cases h1 : r = 0
  · rw [if_pos h1]
    by_cases h2 : g = 0
    · rw [if_pos h2, if_neg (by omega)]
    · rw [if_neg h2, if_pos (by omega)]
  · rw [if_neg h1, if_pos (by omega)]

set_option maxRecDepth 100000 in
set_option maxHeartbeats 1000000 in
theorem checkCuts_calls (b : Nat) (A : Option Addr) (n c : Nat) (l : List Cut) (w : World) (hr : Rd w b 3 (.slice A n c) n (l.flatMap cutC)) (hI : CutI l) :
    Calls Tryz.prog 27 #[.slice A n c] w (BRet (.int .i64 (cutF l)) w) := by
  obtain ⟨hl, hnc, hcm, hcells⟩ := hr.cells cutC_len (by omega)
  unfold maxLen at hcm
  by_cases hbig : 100 < n
  · have hres : cutF l = 2 := by unfold cutF; rw [if_pos (by omega)]
    rw [hres]
    have hbi : (100 : Int) < (n : Int) := by omega
    clear hl hcells hres
    go_enter Tryz.func27, Tryz.ntmps27
    go_wp2_with fail
    go_ret
    exact ⟨rfl, Below.refl _ _⟩
  · have hres : cutF l = cutG (0, 0) l := by unfold cutF; rw [if_neg (by omega)]
    rw [hres]
    have hbi : ¬ (100 : Int) < (n : Int) := by omega
    have HL := Lib.hid hl
    have HC := Lib.hid hcells
    have h0 : Hid (cutG (0, 0) l = cutG (0, 0) (l.drop 0)) := rfl
    have hS0 := (Bs.start w).add #[.int .i64 0, .int .i64 0, .bool false] 40
    clear hl hcells hres
    go_enter Tryz.func27, Tryz.ntmps27
    go_wp2_with fail
    go_loopw [11] (fun i wr => ∃ (k : Nat) (lr lg : Int), k ≤ n ∧ i = .int .i64 k ∧ Hid (cutG (0, 0) l = cutG (lr, lg) (l.drop k)) ∧ Bs w wr [(w.heap.size, 40, #[.int .i64 lr, .int .i64 lg, .bool false])]) (fun i _ => n - (intOf i).toNat)
    case atStart => exact ⟨0, 0, 0, Nat.zero_le _, rfl, h0, hS0⟩
    case round =>
      clear h0 hS0
      obtain ⟨k, lr, lg, hk, rfl, HG, hS⟩ := hrel
      by_cases hlt : k < n
      · have hkr : k < l.length := by rw [HL.out]; exact hlt
        obtain ⟨g, o, hA, _, hcs⟩ := HC.out (by omega)
        have hst := HG.out.trans (cutG_step l (lr, lg) k hkr)
        have hi := hI _ (List.getElem_mem hkr)
        have c0 := below_cell hS.1 (hcs k hkr 0 (by omega))
        have c1 := below_cell hS.1 (hcs k hkr 1 (by omega))
        have c2 := below_cell hS.1 (hcs k hkr 2 (by omega))
        obtain ⟨⟨r, gm, sk⟩, hx⟩ : ∃ x, l[k] = x := ⟨_, rfl⟩
        rw [hx] at c0 c1 c2 hst hi
        simp only [Nat.add_zero] at c0
        obtain ⟨⟨i1, i2⟩, i3, i4⟩ := hi
        simp only at i1 i2 i3 i4
        subst hA
        have hS1 := hS.add #[.int .i64 r, .int .i64 gm, .bool sk] 40
        have hlz := hS.1.size
        have hne : ∀ p ∈ ([(wr.heap.size, 40, #[.int .i64 r, .int .i64 gm, .bool sk])] : List (Nat × TypeId × Array Value)), p.1 ≠ w.heap.size := by
          intro p hp
          have h1 := hS.head.lt
          simp only [List.mem_cons, List.not_mem_nil, or_false] at hp
          subst hp
          simp only [ne_eq]; omega
        have hSS : Bs w (((((wr.alloc (.cells #[.int .i64 r, .int .i64 gm, .bool sk] 40)).setCell ⟨w.heap.size, 0, none⟩ (.int .i64 r)).setCell ⟨w.heap.size, 1, none⟩ (.int .i64 gm)).setCell ⟨w.heap.size, 2, none⟩ (.bool sk))) [(w.heap.size, 40, #[.int .i64 r, .int .i64 gm, .bool sk])] := by
          have h2 := hS1.swap2
          have h3 := ((h2.set_ (Nat.le_refl _) hne 0 (.int .i64 r)).set_ (Nat.le_refl _) hne 1 (.int .i64 gm)).set_ (Nat.le_refl _) hne 2 (.bool sk)
          have h4 := h3.cut1
          simpa using h4
        obtain ⟨b0, b1, b2, b3, b4, b5⟩ := hS1.head.three
        obtain ⟨d0, d1, d2, d3, d4, d5⟩ := hS1.at1.three
        clear hx hcs HG hne
        cases sk
        · rw [cutE_out] at hst
          cases o1 : outB r 0 864000000
          · cases o2 : outB gm 0 r
            · by_cases h3 : r < lr
              · simp only [o1, o2, h3, if_true, if_false, Bool.false_eq_true, show ¬ (7 : Int) = 0 by omega] at hst
                have HST := Lib.hid hst
                clear hst
                go_wp2_with (first | (go_at_call 37; refine (out_calls _ _ _ _).mono ?_; rintro e w1 ⟨rfl, rfl⟩))
                go_ret
                exact ⟨ret_int HST.out.symm, hS1.1⟩
              · by_cases h4 : gm < lg
                · simp only [o1, o2, h3, h4, if_true, if_false, Bool.false_eq_true, show ¬ (7 : Int) = 0 by omega] at hst
                  have HST := Lib.hid hst
                  clear hst
                  go_wp2_with (first | (go_at_call 37; refine (out_calls _ _ _ _).mono ?_; rintro e w1 ⟨rfl, rfl⟩))
                  go_ret
                  exact ⟨ret_int HST.out.symm, hS1.1⟩
                · simp only [o1, o2, h3, h4, if_true, if_false, Bool.false_eq_true] at hst
                  have HST : Hid (cutG (0, 0) l = cutG (r, gm) (l.drop (k + 1))) := hst
                  clear hst
                  go_wp2_with (first | (go_at_call 37; refine (out_calls _ _ _ _).mono ?_; rintro e w1 ⟨rfl, rfl⟩))
                  go_roundw
                  case rel => exact ⟨k + 1, r, gm, by omega, by go_num, HST, hSS⟩
                  case measure => simp [intOf]; omega
            · simp only [o1, o2, if_true, if_false, Bool.false_eq_true, show ¬ (1 : Int) = 0 by omega] at hst
              have HST := Lib.hid hst
              clear hst
              go_wp2_with (first | (go_at_call 37; refine (out_calls _ _ _ _).mono ?_; rintro e w1 ⟨rfl, rfl⟩))
              go_ret
              exact ⟨ret_int HST.out.symm, hS1.1⟩
          · simp only [o1, if_true, show ¬ (1 : Int) = 0 by omega, if_false] at hst
            have HST := Lib.hid hst
            clear hst
            go_wp2_with (first | (go_at_call 37; refine (out_calls _ _ _ _).mono ?_; rintro e w1 ⟨rfl, rfl⟩))
            go_ret
            exact ⟨ret_int HST.out.symm, hS1.1⟩
        · rw [cutE_skip] at hst
          by_cases h1 : r = 0
          · by_cases h2 : gm = 0
            · rw [if_pos h1, if_pos h2, if_pos rfl] at hst
              have HST : Hid (cutG (0, 0) l = cutG (lr, lg) (l.drop (k + 1))) := hst
              have q1 : (r != 0) = false := by simpa using h1
              have q2 : (gm != 0) = false := by simpa using h2
              have hS2 := hS1.tail
              clear hst h1 h2 hSS
              go_wp2_with fail
              go_roundw
              case rel => exact ⟨k + 1, lr, lg, by omega, by go_num, HST, hS2⟩
              case measure => simp [intOf]; omega
            · rw [if_pos h1, if_neg h2, if_neg (by omega)] at hst
              have HST := Lib.hid hst
              have q1 : (r != 0) = false := by simpa using h1
              have q2 : (gm != 0) = true := by rw [bne_iff_ne]; exact h2
              clear hst h1 h2
              go_wp2_with fail
              go_ret
              exact ⟨ret_int HST.out.symm, hS1.1⟩
          · rw [if_neg h1, if_neg (by omega)] at hst
            have HST := Lib.hid hst
            have q1 : (r != 0) = true := by rw [bne_iff_ne]; exact h1
            clear hst h1
            go_wp2_with fail
            go_ret
            exact ⟨ret_int HST.out.symm, hS1.1⟩
      · obtain rfl : k = n := by omega
        have hfin : cutG (0, 0) l = 0 := by
          rw [HG.out, List.drop_eq_nil_of_le (by rw [HL.out]; omega)]; rfl
        have HF := Lib.hid hfin
        clear hfin
        go_wp2_with fail
        go_ret
        exact ⟨ret_int HF.out.symm, hS.1⟩
end Go.Proofs.YtohjapfjkilmoaaGreatDoor
