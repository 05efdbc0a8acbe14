/-
  cmp.Or of a list; slices.Compare of ints.
-/
import Derived.Test.YtejadhehmcifoaaZDrpPure
namespace Go.Proofs.Ytejadhehmcifoaa
open Go Go.RowKit

set_option maxRecDepth 100000 in
theorem orN_calls (b : Nat) (A : Option Addr) (n c : Nat) (l : List Int) (w : World) (hr : Rd w b 1 (.slice A n c) n (l.map (Value.int .i64))) :
    Calls Try.prog 59 #[.slice A n c] w (QRet (.int .i64 (firstE l)) w) := by
  obtain ⟨A', c', e1, e2, e3, e4, e5, e6⟩ := hr
  injection e1 with ea eb ec
  subst ea ec
  unfold maxLen at e3
  have hl : l.length = n := by simpa using e4
  have HL := Lib.hid hl
  have HC := Lib.hid e6
  clear e4 e5 e6 hl
  go_enter Try.func59, Try.ntmps59
  go_wp2_with fail
  go_loop [8] (fun i => ∃ k : Nat, k ≤ n ∧ i = .int .i64 k ∧ Hid (firstE l = firstE (l.drop k))) (fun i => n - (intOf i).toNat)
  case atStart => exact ⟨0, Nat.zero_le _, rfl, rfl⟩
  case round =>
    obtain ⟨k, hk, rfl, HF⟩ := hrel
    by_cases hlt : k < n
    · have hkr : k < l.length := by rw [HL.out]; exact hlt
      obtain ⟨g, o, hA, _, hcs⟩ := HC.out (by omega)
      subst hA
      have hst := HF.out.trans (firstE_step l k hkr)
      have c0 := hcs k _ (by rw [List.getElem?_map, List.getElem?_eq_getElem hkr]; rfl)
      clear hcs
      obtain ⟨z, hz⟩ : ∃ z, l[k] = z := ⟨_, rfl⟩
      rw [hz] at c0 hst
      clear hz
      by_cases h0 : z = 0
      · subst h0
        rw [if_pos rfl] at hst
        have HS := Lib.hid hst
        clear hst
        go_wp2_with fail
        go_round
        case rel => exact ⟨k + 1, by omega, by go_num, HS⟩
        case measure => simp [intOf]; omega
      · rw [if_neg h0] at hst
        have HS := Lib.hid hst
        have hne : (z != 0) = true := by rw [bne_iff_ne]; exact h0
        clear hst
        go_wp2_with fail
        go_ret
        exact ⟨ret_int HS.out.symm, 0, rfl⟩
    · obtain rfl : k = n := by omega
      have HS := Lib.hid (HF.out.trans (by rw [List.drop_of_length_le (by rw [HL.out]; exact Nat.le_refl _)]; rfl : _ = (0 : Int)))
      go_wp2_with fail
      go_ret
      exact ⟨ret_int HS.out.symm, 0, rfl⟩


theorem cmpLI_step {xs ys : List Int} {k : Nat} (hk : k < xs.length) (hk2 : k < ys.length) : cmpLI (xs.drop k) (ys.drop k) = if cmpI xs[k] ys[k] = 0 then cmpLI (xs.drop (k + 1)) (ys.drop (k + 1)) else cmpI xs[k] ys[k] := by
  rw [List.drop_eq_getElem_cons hk, List.drop_eq_getElem_cons hk2, cmpLI]
set_option maxRecDepth 100000 in
theorem compareI_calls (b : Nat) (A A2 : Option Addr) (n c n2 c2 : Nat) (xs ys : List Int) (w : World) (hr : Rd w b 1 (.slice A n c) n (xs.map (Value.int .i64))) (hr2 : Rd w b 1 (.slice A2 n2 c2) n2 (ys.map (Value.int .i64))) :
    Calls Try.prog 61 #[.slice A n c, .slice A2 n2 c2] w fun e w' => e = .returned (.int .i64 (cmpLI xs ys)) ∧ w = w' := by
  obtain ⟨A', c', e1, e2, e3, e4, e5, e6⟩ := hr
  injection e1 with ea eb ec
  subst ea ec
  obtain ⟨B', d', q1, q2, q3, q4, q5, q6⟩ := hr2
  injection q1 with qa qb qc
  subst qa qc
  unfold maxLen at e3 q3
  have HL := Lib.hid (show xs.length = n by simpa using e4)
  have HL2 := Lib.hid (show ys.length = n2 by simpa using q4)
  have HC := Lib.hid e6
  have HC2 := Lib.hid q6
  have HI := Lib.hid (fun x y W => cmpInt_calls x y W)
  have H0 : Hid (cmpLI xs ys = cmpLI (xs.drop 0) (ys.drop 0)) := Lib.hid rfl
  clear e4 e5 e6 q4 q5 q6
  go_enter Try.func61, Try.ntmps61
  go_wp2_with fail
  go_loop [11] (fun i => ∃ k : Nat, k ≤ n ∧ k ≤ n2 ∧ i = .int .i64 k ∧ Hid (cmpLI xs ys = cmpLI (xs.drop k) (ys.drop k))) (fun i => n - (intOf i).toNat)
  case atStart => exact ⟨0, Nat.zero_le _, Nat.zero_le _, rfl, H0⟩
  case round =>
    clear H0
    obtain ⟨k, hk, hk2, rfl, HF⟩ := hrel
    by_cases hlt : k < n
    · have hkr : k < xs.length := by rw [HL.out]; exact hlt
      obtain ⟨g, o, hA, _, hcs⟩ := HC.out (by omega)
      subst hA
      have c0 := hcs k _ (by rw [List.getElem?_map, List.getElem?_eq_getElem hkr]; rfl)
      clear hcs
      by_cases hlt2 : k < n2
      · have hkr2 : k < ys.length := by rw [HL2.out]; exact hlt2
        obtain ⟨g2, o2, hA2, _, hcs2⟩ := HC2.out (by omega)
        subst hA2
        have d0 := hcs2 k _ (by rw [List.getElem?_map, List.getElem?_eq_getElem hkr2]; rfl)
        clear hcs2
        have hst := HF.out.trans (cmpLI_step hkr hkr2)
        obtain ⟨x, hx⟩ : ∃ z, xs[k] = z := ⟨_, rfl⟩
        obtain ⟨y, hy⟩ : ∃ z, ys[k] = z := ⟨_, rfl⟩
        rw [hx] at c0 hst
        rw [hy] at d0 hst
        obtain ⟨C, hC⟩ : ∃ C, cmpI x y = C := ⟨_, rfl⟩
        have HK := Lib.hid (HI.out x y w)
        rw [hC] at hst HK
        have hkl : ¬ n2 ≤ k := by omega
        have hk0 : (0 : Int) ≤ (k : Int) := by omega
        have hk1 : (k : Int) < (n : Int) := by omega
        have hk3 : (k : Int) < (n2 : Int) := by omega
        clear hx hy hC
        by_cases h0 : C = 0
        · subst h0
          have HS := Lib.hid (hst.trans (if_pos rfl))
          clear hst
          go_wp2_with fail
          refine HK.out.mono ?_
          rintro e w1 ⟨rfl, rfl⟩
          go_wp2_with fail
          go_round
          case rel => exact ⟨k + 1, by omega, by omega, by go_num, HS⟩
          case measure => simp [intOf]; omega
        · have HS := Lib.hid (hst.trans (if_neg h0))
          have hne : (C != 0) = true := by rw [bne_iff_ne]; exact h0
          clear hst h0
          go_wp2_with fail
          refine HK.out.mono ?_
          rintro e w1 ⟨rfl, rfl⟩
          go_wp2_with fail
          go_ret
          exact ⟨ret_int HS.out.symm, rfl⟩
      · have hkl : n2 ≤ k := by omega
        have HS : Hid (cmpLI xs ys = 1) := Lib.hid (by
          have e : ys.drop k = [] := List.drop_of_length_le (by rw [HL2.out]; omega)
          rw [HF.out, e, List.drop_eq_getElem_cons hkr]
          rfl)
        have hk0 : (0 : Int) ≤ (k : Int) := by omega
        have hk1 : (k : Int) < (n : Int) := by omega
        go_wp2_with fail
        go_ret
        exact ⟨ret_int HS.out.symm, rfl⟩
    · obtain rfl : k = n := by omega
      by_cases hlt2 : k < n2
      · have HS : Hid (cmpLI xs ys = -1) := Lib.hid (by
          rw [HF.out, List.drop_of_length_le (by rw [HL.out]; exact Nat.le_refl _), List.drop_eq_getElem_cons (by rw [HL2.out]; exact hlt2)]
          rfl)
        go_wp2_with fail
        go_ret
        exact ⟨ret_int HS.out.symm, rfl⟩
      · have hkl : ¬ k < n2 := hlt2
        have HS : Hid (cmpLI xs ys = 0) := Lib.hid (by
          rw [HF.out, List.drop_of_length_le (by rw [HL.out]; exact Nat.le_refl _), List.drop_of_length_le (by rw [HL2.out]; omega)]
          rfl)
        go_wp2_with fail
        go_ret
        exact ⟨ret_int HS.out.symm, rfl⟩
end Go.Proofs.Ytejadhehmcifoaa
