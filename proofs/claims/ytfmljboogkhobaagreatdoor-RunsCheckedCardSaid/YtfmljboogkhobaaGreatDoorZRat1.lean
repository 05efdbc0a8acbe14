/-
  thousandths, expected, First and errs by contracts.
-/
import Derived.Test.YtfmljboogkhobaaGreatDoorZRatFault
namespace Go.Proofs.YtfmljboogkhobaaGreatDoor
open Go Go.RowKit

/-- a right rating -/
structure RatOK (n d : Int) : Prop where
  d1 : 1 ≤ d
  d2 : d ≤ 1000
  dv : d * (1000 / d) = 1000
  g : Int.gcd n d = 1
  lo : -10000 * d ≤ n
  hi : n ≤ 10000 * d
theorem ratOK_of {n d : Int} (h : ratF n d = 0) : RatOK n d := by
  unfold ratF at h
  split at h
  · omega
  · split at h
    · omega
    · rename_i h1 h2
      have hd : 1 ≤ d := by omega
      have hm : 1000 % d = 0 := by omega
      have hg : Int.gcd n d = 1 := by
        apply Classical.byContradiction
        intro hc
        exact h1 (.inr hc)
      exact ⟨hd, mod_le hd hm, by have := Int.mul_ediv_add_emod 1000 d; omega, hg, by omega, by omega⟩
/-- a rating in thousandths -/
def thou (n d : Int) : Int := n * (1000 / d)
theorem thou_bd {n d : Int} (h : RatOK n d) : -10000000 ≤ thou n d ∧ thou n d ≤ 10000000 ∧ 1 ≤ 1000 / d ∧ 1000 / d ≤ 1000 := by
  have hp : 0 < 1000 / d := by
    apply Classical.byContradiction
    intro hc
    have : d * (1000 / d) ≤ 0 := by
      have := Int.mul_le_mul_of_nonneg_left (show 1000 / d ≤ 0 by omega) (show 0 ≤ d by have := h.d1; omega)
      omega
    have := h.dv
    omega
  have h1 := Int.mul_le_mul_of_nonneg_right h.hi (show 0 ≤ 1000 / d by omega)
  have h2 := Int.mul_le_mul_of_nonneg_right h.lo (show 0 ≤ 1000 / d by omega)
  have e1 : 10000 * d * (1000 / d) = 10000 * (d * (1000 / d)) := Int.mul_assoc _ _ _
  have e2 : -10000 * d * (1000 / d) = -10000 * (d * (1000 / d)) := Int.mul_assoc _ _ _
  rw [e1, h.dv] at h1
  rw [e2, h.dv] at h2
  have h3 : 1000 / d ≤ 1000 := Int.ediv_le_self _ (by omega)
  unfold thou
  omega

/-- the first that is not 0 -/
def firstE : List Int → Int
  | [] => 0
  | e :: l => if e = 0 then firstE l else e
theorem firstE_step (l : List Int) (k : Nat) (hk : k < l.length) : firstE (l.drop k) = if l[k] = 0 then firstE (l.drop (k + 1)) else l[k] := by
  rw [List.drop_eq_getElem_cons hk, firstE]

set_option maxRecDepth 100000 in
theorem first_calls (b : Nat) (A : Option Addr) (n c : Nat) (l : List Int) (w : World) (hr : Rd w b 1 (.slice A n c) n (l.map (Value.int .i64))) :
    Calls Tryz.prog 87 #[.slice A n c] w (QRet (.int .i64 (firstE l)) w) := by
  obtain ⟨A', c', e1, e2, e3, e4, e5, e6⟩ := hr
  injection e1 with ea eb ec
  subst ea ec
  unfold maxLen at e3
  have hl : l.length = n := by simpa using e4
  have HL := Lib.hid hl
  have HC := Lib.hid e6
  clear e4 e5 e6 hl
  go_enter Tryz.func87, Tryz.ntmps87
  go_wp2_with fail
  go_loop [7] (fun i => ∃ k : Nat, k ≤ n ∧ i = .int .i64 k ∧ Hid (firstE l = firstE (l.drop k))) (fun i => n - (intOf i).toNat)
  case atStart => exact ⟨0, Nat.zero_le _, rfl, rfl⟩
  case round =>
    obtain ⟨k, hk, rfl, HF⟩ := hrel
    by_cases hlt : k < n
    · have hkr : k < l.length := by rw [HL.out]; exact hlt
      obtain ⟨g, o, hA, _, hcs⟩ := HC.out (by omega)
      subst hA
      have hst := HF.out.trans (firstE_step l k hkr)
      have c0 := hcs k _ (by rw [List.getElem?_map, List.getElem?_eq_getElem hkr]; rfl)
      clear hcs
      obtain ⟨z, hz⟩ : ∃ z, l[k] = z := ⟨_, rfl⟩
      rw [hz] at c0 hst
      clear hz
      by_cases h0 : z = 0
      · subst h0
        rw [if_pos rfl] at hst
        have HS := Lib.hid hst
        clear hst
        go_wp2_with fail
        go_round
        case rel => exact ⟨k + 1, by omega, by go_num, HS⟩
        case measure => simp [intOf]; omega
      · rw [if_neg h0] at hst
        have HS := Lib.hid hst
        have hne : (z != 0) = true := by rw [bne_iff_ne]; exact h0
        clear hst
        go_wp2_with fail
        go_ret
        exact ⟨ret_int HS.out.symm, 0, rfl⟩
    · obtain rfl : k = n := by omega
      have HS := Lib.hid (HF.out.trans (by rw [List.drop_of_length_le (by rw [HL.out]; exact Nat.le_refl _)]; rfl : _ = (0 : Int)))
      go_wp2_with fail
      go_ret
      exact ⟨ret_int HS.out.symm, 0, rfl⟩

set_option maxRecDepth 100000 in
theorem errs_calls (b : Nat) (A : Option Addr) (n c : Nat) (l : List Int) (w : World) (hr : Rd w b 1 (.slice A n c) n (l.map (Value.int .i64))) :
    Calls Tryz.prog 21 #[.slice A n c] w (QRet (.int .i64 (firstE l)) w) := by
  obtain ⟨A', c', e1, e2, e3, e4, e5, e6⟩ := hr
  injection e1 with ea eb ec
  subst ea ec
  unfold maxLen at e3
  have hl : l.length = n := by simpa using e4
  have HL := Lib.hid hl
  have HC := Lib.hid e6
  clear e4 e5 e6 hl
  go_enter Tryz.func21, Tryz.ntmps21
  go_wp2_with fail
  go_loop [7] (fun i => ∃ k : Nat, k ≤ n ∧ i = .int .i64 k ∧ Hid (firstE l = firstE (l.drop k))) (fun i => n - (intOf i).toNat)
  case atStart => exact ⟨0, Nat.zero_le _, rfl, rfl⟩
  case round =>
    obtain ⟨k, hk, rfl, HF⟩ := hrel
    by_cases hlt : k < n
    · have hkr : k < l.length := by rw [HL.out]; exact hlt
      obtain ⟨g, o, hA, _, hcs⟩ := HC.out (by omega)
      subst hA
      have hst := HF.out.trans (firstE_step l k hkr)
      have c0 := hcs k _ (by rw [List.getElem?_map, List.getElem?_eq_getElem hkr]; rfl)
      clear hcs
      obtain ⟨z, hz⟩ : ∃ z, l[k] = z := ⟨_, rfl⟩
      rw [hz] at c0 hst
      clear hz
      by_cases h0 : z = 0
      · subst h0
        rw [if_pos rfl] at hst
        have HS := Lib.hid hst
        clear hst
        go_wp2_with fail
        go_round
        case rel => exact ⟨k + 1, by omega, by go_num, HS⟩
        case measure => simp [intOf]; omega
      · rw [if_neg h0] at hst
        have HS := Lib.hid hst
        have hne : (z != 0) = true := by rw [bne_iff_ne]; exact h0
        clear hst
        go_wp2_with fail
        go_ret
        exact ⟨ret_int HS.out.symm, 0, rfl⟩
    · obtain rfl : k = n := by omega
      have HS := Lib.hid (HF.out.trans (by rw [List.drop_of_length_le (by rw [HL.out]; exact Nat.le_refl _)]; rfl : _ = (0 : Int)))
      go_wp2_with fail
      go_ret
      exact ⟨ret_int HS.out.symm, 0, rfl⟩
end Go.Proofs.YtfmljboogkhobaaGreatDoor
