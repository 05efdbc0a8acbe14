/-
  slices.Equal over rows by a contract: two slices that read alike are equal. (Printed out of XEqual.)
-/
import Derived.Test.YtebaaoacmmhppaaGreatZBtR
import Derived.Test.YtebaaoacmmhppaaGreatZRatMake4
import Derived.Test.YtebaaoacmmhppaaGreatZMapR
import Derived.Deep.RegionLaw
import Derived.Deep.QuietTactic
import Derived.BigQuiet
import Derived.Test.YtebaaoacmmhppaaGreatZLawStart
import Derived.Deep.DeepCutAuto
import Derived.Test.YtebaaoacmmhppaaGreatZSlotPure
import Derived.Test.YtebaaoacmmhppaaGreatZEv1W
import Derived.Test.YtebaaoacmmhppaaGreatZStrX
namespace Go.Proofs.YtebaaoacmmhppaaGreat
open Go Go.RowKit

set_option maxRecDepth 100000 in
theorem equalRw_calls (b : Nat) (A A2 : Option Addr) (n c c2 : Nat) (rs : List Brw) (w : World) (hr : Rd w b 5 (.slice A n c) n (rs.flatMap brwC)) (hr2 : Rd w b 5 (.slice A2 n c2) n (rs.flatMap brwC)) :
    Calls Tryz.prog 23 #[.slice A n c, .slice A2 n c2] w (QRet (.bool true) w) := by
  obtain ⟨hl, hnc, hcm, hcells⟩ := hr.cells brwC_len (by omega)
  obtain ⟨_, _, hcm2, hcells2⟩ := hr2.cells brwC_len (by omega)
  unfold maxLen at hcm hcm2
  have HL := Lib.hid hl
  have HC := Lib.hid hcells
  have HC2 := Lib.hid hcells2
  have hnn : ((n : Int) != (n : Int)) = false := by simp
  clear hcells hcells2 hl hr hr2
  go_enter Tryz.func23, Tryz.ntmps23
  go_wp2_with fail
  go_loopw [13] (fun i wr => ∃ k nq : Nat, k ≤ n ∧ i = .int .i64 k ∧ wr = w.drewN nq) (fun i _ => n - (intOf i).toNat)
  case atStart => exact ⟨0, 0, Nat.zero_le _, rfl, rfl⟩
  case round =>
    obtain ⟨k, nq, hk, rfl, rfl⟩ := hrel
    by_cases hlt : k < n
    · have hkr : k < rs.length := by rw [HL.out]; exact hlt
      obtain ⟨g, o, hA, _, hcs⟩ := HC.out (by omega)
      obtain ⟨g2, o2, hA2, _, hcs2⟩ := HC2.out (by omega)
      subst hA hA2
      have c0 := hcs k hkr 0 (by omega)
      have c1 := hcs k hkr 1 (by omega)
      have d2 := hcs k hkr 2 (by omega)
      have c3 := hcs k hkr 3 (by omega)
      have c4 := hcs k hkr 4 (by omega)
      have x0 := hcs2 k hkr 0 (by omega)
      have x1 := hcs2 k hkr 1 (by omega)
      have x2 := hcs2 k hkr 2 (by omega)
      have x3 := hcs2 k hkr 3 (by omega)
      have x4 := hcs2 k hkr 4 (by omega)
      simp only [brwC, Nat.add_zero, List.getElem?_cons_zero, List.getElem?_cons_succ] at c0 x0 c1 x1 d2 x2 c3 x3 c4 x4
      have hk0 : (0 : Int) ≤ (k : Int) := by omega
      have hk1 : (k : Int) < (n : Int) := by omega
      clear hcs hcs2
      go_wp2_with fail
      go_quiet (fail)
      go_wp2_with fail
      go_roundw
      case rel => exact ⟨k + 1, _, by omega, by go_num, rfl⟩
      case measure => simp [intOf]; omega
    · obtain rfl : k = n := by omega
      go_wp2_with fail
      go_ret
      exact ⟨rfl, nq, rfl⟩
end Go.Proofs.YtebaaoacmmhppaaGreat
/-
  slices.Equal of strings, the reference's SameSlot, and EqualFunc of slots with it: true of slots that say the same.
-/
namespace Go.Proofs.YtebaaoacmmhppaaGreat
open Go Go.RowKit
attribute [local go_sem ↓] Go.wp_at_zero Go.wp_at_succ

set_option maxRecDepth 100000 in
theorem equalStr_calls (b : Nat) (A A2 : Option Addr) (n c c2 : Nat) (hs : List ByteArray) (w : World) (hr : Rd w b 1 (.slice A n c) n (strsV hs)) (hr2 : Rd w b 1 (.slice A2 n c2) n (strsV hs)) :
    Calls Tryz.prog 24 #[.slice A n c, .slice A2 n c2] w (QRet (.bool true) w) := by
  obtain ⟨hl, hnc, hcm, hcells⟩ := strs_cells hr
  obtain ⟨_, _, hcm2, hcells2⟩ := strs_cells hr2
  unfold maxLen at hcm hcm2
  have HL := Lib.hid hl
  have HC := Lib.hid hcells
  have HC2 := Lib.hid hcells2
  have hnn : ((n : Int) != (n : Int)) = false := by simp
  clear hcells hcells2 hl hr hr2
  go_enter Tryz.func24, Tryz.ntmps24
  go_wp2_with fail
  go_loopw [13] (fun i wr => ∃ k nq : Nat, k ≤ n ∧ i = .int .i64 k ∧ wr = w.drewN nq) (fun i _ => n - (intOf i).toNat)
  case atStart => exact ⟨0, 0, Nat.zero_le _, rfl, rfl⟩
  case round =>
    obtain ⟨k, nq, hk, rfl, rfl⟩ := hrel
    by_cases hlt : k < n
    · have hkr : k < hs.length := by rw [HL.out]; exact hlt
      obtain ⟨g, o, hA, _, hcs⟩ := HC.out (by omega)
      obtain ⟨g2, o2, hA2, _, hcs2⟩ := HC2.out (by omega)
      subst hA hA2
      have c0 := hcs k hkr
      have x0 := hcs2 k hkr
      have hk0 : (0 : Int) ≤ (k : Int) := by omega
      have hk1 : (k : Int) < (n : Int) := by omega
      clear hcs hcs2
      go_wp2_with fail
      go_quiet (fail)
      go_wp2_with fail
      go_roundw
      case rel => exact ⟨k + 1, _, by omega, by go_num, rfl⟩
      case measure => simp [intOf]; omega
    · obtain rfl : k = n := by omega
      go_wp2_with fail
      go_ret
      exact ⟨rfl, nq, rfl⟩
end Go.Proofs.YtebaaoacmmhppaaGreat
/-
  when of splitlaw2 by a contract.
-/
namespace Go.Proofs.YtebaaoacmmhppaaGreat
open Go Go.RowKit

theorem when_calls (B : Bool) (E : Int) (w : World) : Calls Tryz.prog 18 #[.bool B, .int .i64 E] w fun e w' => e = .returned (.int .i64 (if B = true then E else 0)) ∧ w = w' := by
  cases B
  · go_enter Tryz.func18, Tryz.ntmps18
    go_wp2_with fail
    go_ret
    exact ⟨rfl, rfl⟩
  · go_enter Tryz.func18, Tryz.ntmps18
    go_wp2_with fail
    go_ret
    exact ⟨rfl, rfl⟩
end Go.Proofs.YtebaaoacmmhppaaGreat
/-
  The law's words for errors of names and moments, and the stream's moment of a board.
-/
namespace Go.Proofs.YtebaaoacmmhppaaGreat
open Go Go.RowKit

def nmB (s : ByteArray) : Int := if keyBv s = true then 0 else 5
def moB (u : Int) : Int := if momB u = true then 0 else 1
theorem nameFaultB_calls (s : ByteArray) (w : World) (hs : s.size ≤ maxLen) : Calls Tryz.prog 16 #[.string s] w fun e w' => e = .returned (.int .i64 (nmB s)) ∧ Below w.heap.size w w' := by
  have HK := Lib.hid (keyQ_calls s w hs)
  have HW := Lib.hid (fun W => when_calls (!keyB s.data.toList) 5 W)
  have hv : (if (!keyB s.data.toList) = true then (5 : Int) else 0) = nmB s := by
    unfold nmB keyBv
    cases keyB s.data.toList <;> rfl
  rw [hv] at HW
  obtain ⟨qv, hqv⟩ : ∃ qv : Int, nmB s = qv := ⟨_, rfl⟩
  obtain ⟨kb, hkb⟩ : ∃ z, keyB s.data.toList = z := ⟨_, rfl⟩
  rw [hqv] at HW ⊢
  rw [hkb] at HK HW
  clear hkb hqv hv
  go_enter Tryz.func16, Tryz.ntmps16
  go_wp2_with (first | (go_at_call 58; refine HK.out.mono ?_; rintro e w1 ⟨rfl, rfl⟩) | (go_at_call 18; refine (HW.out _).mono ?_; rintro e w2 ⟨rfl, rfl⟩))
  go_ret
  exact ⟨rfl, Below.refl _ _⟩
theorem errsB_calls (l : List Int) (E : Int) (n : Nat) (hl : l.length = n) (hE : firstE l = E) (hn : n ≤ 10) (W : World) : Calls Tryz.prog 15 #[.slice (some ⟨W.heap.size, 0, none⟩) n n] (W.alloc (.cells (l.map (Value.int .i64)).toArray 33)) (fun e w' => e = .returned (.int .i64 E) ∧ Below W.heap.size W w') := by
  subst hl hE
  have h := errs_calls (W.heap.size + 5) _ l.length l.length l _ (Rd.lit W (W.heap.size + 5) 1 l.length (l.map (Value.int .i64)).toArray 33 (by omega) (by unfold maxLen; omega) (by simp))
  refine h.mono ?_
  rintro e w' ⟨he, nq, rfl⟩
  exact ⟨he, below_drewN ((Below.refl _ _).alloc (Nat.le_refl _) _) nq⟩
theorem momentFaultB_calls (u : Int) (w : World) : Calls Tryz.prog 17 #[.int .i64 u] w fun e w' => e = .returned (.int .i64 (moB u)) ∧ Below w.heap.size w w' :=
  (momentFault_calls u w).mono (fun _ _ ⟨he, hw⟩ => ⟨he, hw ▸ Below.refl _ _⟩)
theorem firstE_0 {l : List Int} : firstE (0 :: l) = firstE l := by simp [firstE]
theorem firstE_n {a : Int} {l : List Int} (h : a ≠ 0) : firstE (a :: l) = a := by simp [firstE, h]
theorem momE (u : Int) : firstE [moB u] = moB u := by
  unfold moB
  split <;> rfl
theorem cat_first (l : List Bev) (c : ByteArray) (u : Int) : firstE [bevsF l, nmB c, moB u] = catF l [c] u := by
  unfold catF
  by_cases h : bevsF l = 0
  · rw [if_pos h, h, firstE_0]
    unfold nmB
    cases hk : keyBv c
    · rw [if_neg (by decide), firstE_n (by decide)]
      simp [hk]
    · rw [if_pos rfl, firstE_0, momE]
      simp [hk, moB]
  · rw [if_neg h, firstE_n h]
theorem cat_two (l : List Bev) (c d : ByteArray) (u : Int) : firstE [bevsF l, nmB c, nmB d, moB u] = catF l [c, d] u := by
  unfold catF
  by_cases h : bevsF l = 0
  · rw [if_pos h, h, firstE_0]
    unfold nmB
    cases hk : keyBv c
    · rw [if_neg (by decide), firstE_n (by decide)]
      simp [hk]
    · rw [if_pos rfl, firstE_0]
      cases hd : keyBv d
      · rw [if_neg (by decide), firstE_n (by decide)]
        simp [hk, hd]
      · rw [if_pos rfl, firstE_0, momE]
        simp [hk, hd, moB]
  · rw [if_neg h, firstE_n h]
def btX : List Int := [5, 15, 20, 30, 60, 60, 100, -1]
theorem boardTime_calls {zs : ZsT} {w W : World} {b p : Nat} {l : List Rsc} (h : SpX zs w b p W l) (hp : p ≤ 1000000) :
    Calls Tryz.prog 8 #[.pointer (some ⟨b, 0, none⟩)] W (fun e w' => ∃ q : Int, e = .returned (.int .i64 q) ∧ Hid (pkX zs p btX = q) ∧ -1 ≤ q ∧ q ≤ 100 ∧ SpX zs w b (p + 1) w' l) := by
  have HP := Lib.hid (spE_pickL h btX (-1) 100 #[.int .i64 5, .int .i64 15, .int .i64 20, .int .i64 30, .int .i64 60, .int .i64 60, .int .i64 100, .int .i64 (-1)] 3 8 rfl (by decide) (by decide) rfl (by decide) (by decide) hp)
  go_enter Tryz.func8, Tryz.ntmps8
  go_wp2_with fail
  refine HP.out.mono ?_
  rintro e w2 ⟨q, rfl, h1, h2, h3, h4⟩
  go_wp2_with fail
  go_ret
  exact ⟨q, rfl, h1, h2, h3, h4⟩
end Go.Proofs.YtebaaoacmmhppaaGreat
