/-
  slices.Equal over what is live by a contract: two slices that read alike are equal.
-/
import Derived.Test.YthbcogekfdllmaaGreatDoorZSlot5
import Derived.Test.YthbcogekfdllmaaGreatDoorZBidPure
import Derived.Test.YthbcogekfdllmaaGreatDoorZSlot3
import Derived.Test.YthbcogekfdllmaaGreatDoorZSlotPure
namespace Go.Proofs.YthbcogekfdllmaaGreatDoor
open Go Go.RowKit

set_option maxRecDepth 100000 in
theorem equalLv_calls (b : Nat) (A A2 : Option Addr) (n c c2 : Nat) (rs : List Lv) (w : World) (hr : Rd w b 3 (.slice A n c) n (rs.flatMap lvC)) (hr2 : Rd w b 3 (.slice A2 n c2) n (rs.flatMap lvC)) :
    Calls Tryz.prog 32 #[.slice A n c, .slice A2 n c2] w (QRet (.bool true) w) := by
  obtain ⟨hl, hnc, hcm, hcells⟩ := hr.cells lvC_len (by omega)
  obtain ⟨_, _, hcm2, hcells2⟩ := hr2.cells lvC_len (by omega)
  unfold maxLen at hcm hcm2
  have HL := Lib.hid hl
  have HC := Lib.hid hcells
  have HC2 := Lib.hid hcells2
  have hnn : ((n : Int) != (n : Int)) = false := by simp
  clear hcells hcells2 hl hr hr2
  go_enter Tryz.func32, Tryz.ntmps32
  go_wp2_with fail
  go_loopw [13] (fun i wr => ∃ k nq : Nat, k ≤ n ∧ i = .int .i64 k ∧ wr = w.drewN nq) (fun i _ => n - (intOf i).toNat)
  case atStart => exact ⟨0, 0, Nat.zero_le _, rfl, rfl⟩
  case round =>
    obtain ⟨k, nq, hk, rfl, rfl⟩ := hrel
    by_cases hlt : k < n
    · have hkr : k < rs.length := by rw [HL.out]; exact hlt
      obtain ⟨g, o, hA, _, hcs⟩ := HC.out (by omega)
      obtain ⟨g2, o2, hA2, _, hcs2⟩ := HC2.out (by omega)
      subst hA hA2
      have c0 := hcs k hkr 0 (by omega)
      have c1 := hcs k hkr 1 (by omega)
      have d2 := hcs k hkr 2 (by omega)
      have x0 := hcs2 k hkr 0 (by omega)
      have x1 := hcs2 k hkr 1 (by omega)
      have x2 := hcs2 k hkr 2 (by omega)
      simp only [lvC, Nat.add_zero, List.getElem?_cons_zero, List.getElem?_cons_succ] at c0 c1 d2 x0 x1 x2
      have hk0 : (0 : Int) ≤ (k : Int) := by omega
      have hk1 : (k : Int) < (n : Int) := by omega
      clear hcs hcs2
      go_wp2_with fail
      go_quiet (fail)
      go_wp2_with fail
      go_roundw
      case rel => exact ⟨k + 1, _, by omega, by go_num, rfl⟩
      case measure => simp [intOf]; omega
    · obtain rfl : k = n := by omega
      go_wp2_with fail
      go_ret
      exact ⟨rfl, nq, rfl⟩
end Go.Proofs.YthbcogekfdllmaaGreatDoor
/-
  slices.Equal of gifts by a contract. (Printed by gen_gft5.py.)
-/
namespace Go.Proofs.YthbcogekfdllmaaGreatDoor
open Go Go.RowKit
attribute [local go_sem ↓] Go.wp_at_zero Go.wp_at_succ

set_option maxRecDepth 100000 in
theorem equalGf_calls (b : Nat) (A A2 : Option Addr) (n c c2 : Nat) (rs : List Gf) (w : World) (hr : Rd w b 5 (.slice A n c) n (rs.flatMap gfC)) (hr2 : Rd w b 5 (.slice A2 n c2) n (rs.flatMap gfC)) :
    Calls Tryz.prog 34 #[.slice A n c, .slice A2 n c2] w (QRet (.bool true) w) := by
  obtain ⟨hl, hnc, hcm, hcells⟩ := hr.cells gfC_len (by omega)
  obtain ⟨_, _, hcm2, hcells2⟩ := hr2.cells gfC_len (by omega)
  unfold maxLen at hcm hcm2
  have HL := Lib.hid hl
  have HC := Lib.hid hcells
  have HC2 := Lib.hid hcells2
  have hnn : ((n : Int) != (n : Int)) = false := by simp
  clear hcells hcells2 hl hr hr2
  go_enter Tryz.func34, Tryz.ntmps34
  go_wp2_with fail
  go_loopw [13] (fun i wr => ∃ k nq : Nat, k ≤ n ∧ i = .int .i64 k ∧ wr = w.drewN nq) (fun i _ => n - (intOf i).toNat)
  case atStart => exact ⟨0, 0, Nat.zero_le _, rfl, rfl⟩
  case round =>
    obtain ⟨k, nq, hk, rfl, rfl⟩ := hrel
    by_cases hlt : k < n
    · have hkr : k < rs.length := by rw [HL.out]; exact hlt
      obtain ⟨g, o, hA, _, hcs⟩ := HC.out (by omega)
      obtain ⟨g2, o2, hA2, _, hcs2⟩ := HC2.out (by omega)
      subst hA hA2
      have c0 := hcs k hkr 0 (by omega)
      have x0 := hcs2 k hkr 0 (by omega)
      have c1 := hcs k hkr 1 (by omega)
      have x1 := hcs2 k hkr 1 (by omega)
      have c2 := hcs k hkr 2 (by omega)
      have x2 := hcs2 k hkr 2 (by omega)
      have c3 := hcs k hkr 3 (by omega)
      have x3 := hcs2 k hkr 3 (by omega)
      have c4 := hcs k hkr 4 (by omega)
      have x4 := hcs2 k hkr 4 (by omega)
      simp only [gfC, Nat.add_zero, List.getElem?_cons_zero, List.getElem?_cons_succ] at c0 x0 c1 x1 c2 x2 c3 x3 c4 x4
      have hk0 : (0 : Int) ≤ (k : Int) := by omega
      have hk1 : (k : Int) < (n : Int) := by omega
      clear hcs hcs2
      go_wp2_with fail
      go_quiet (fail)
      go_wp2_with fail
      go_roundw
      case rel => exact ⟨k + 1, _, by omega, by go_num, rfl⟩
      case measure => simp [intOf]; omega
    · obtain rfl : k = n := by omega
      go_wp2_with fail
      go_ret
      exact ⟨rfl, nq, rfl⟩
end Go.Proofs.YthbcogekfdllmaaGreatDoor
/-
  Clashes and CheckAway in plain words. No Go text is named here.
-/
namespace Go.Proofs.YthbcogekfdllmaaGreatDoor
open Go Go.RowKit

def needL (x : Slt) : List ByteArray := x.who :: x.hosts
/-- is somebody needed in both? -/
def common (x y : Slt) : Bool := (needL y).any (memS (needL x))
abbrev Pr := ByteArray × ByteArray
def prC (p : Pr) : List Value := [.string p.1, .string p.2]
theorem prC_len (p : Pr) : (prC p).length = 2 := rfl
def clOne (xs : List Slt) (rest : Int) (i k : Nat) : List Pr :=
  match xs[i]?, xs[k]? with
  | some x, some y => if (common x y && decide (fromAt 0 xs k - fromAt 0 xs (i + 1) < rest)) = true then [(x.key, y.key)] else []
  | _, _ => []
/-- the clashes of slot i with those behind it and ahead of q -/
def clR (xs : List Slt) (rest : Int) (i q : Nat) : List Pr := ((List.range q).filter (fun k => decide (i < k))).flatMap (clOne xs rest i)
def clTo (xs : List Slt) (rest : Int) (i : Nat) : List Pr := (List.range i).flatMap (fun i => clR xs rest i xs.length)
def clF (xs : List Slt) (rest : Int) : List Pr := clTo xs rest xs.length
theorem clR_start (xs : List Slt) (rest : Int) (i : Nat) : clR xs rest i (i + 1) = [] := by
  unfold clR
  have : (List.range (i + 1)).filter (fun k => decide (i < k)) = [] := by
    rw [List.filter_eq_nil_iff]
    intro a ha
    have := List.mem_range.1 ha
    simp; omega
  rw [this]; rfl
theorem clR_step (xs : List Slt) (rest : Int) (i q : Nat) (h : i < q) : clR xs rest i (q + 1) = clR xs rest i q ++ clOne xs rest i q := by
  unfold clR
  rw [List.range_succ, List.filter_append, List.flatMap_append]
  congr 1
  simp [h]
theorem clTo_step (xs : List Slt) (rest : Int) (i : Nat) : clTo xs rest (i + 1) = clTo xs rest i ++ clR xs rest i xs.length := by
  unfold clTo
  rw [List.range_succ, List.flatMap_append]
  simp
theorem clOne_at (xs : List Slt) (rest : Int) (i k : Nat) (hi : i < xs.length) (hk : k < xs.length) :
    clOne xs rest i k = if (common xs[i] xs[k] && decide (fromAt 0 xs k - fromAt 0 xs (i + 1) < rest)) = true then [(xs[i].key, xs[k].key)] else [] := by
  unfold clOne
  rw [List.getElem?_eq_getElem hi, List.getElem?_eq_getElem hk]
/-- not many -/
theorem clOne_len (xs : List Slt) (rest : Int) (i k : Nat) : (clOne xs rest i k).length ≤ 1 := by
  unfold clOne
  split
  · split <;> simp
  · simp
theorem flatMap_le {α β : Type} (f : α → List β) (c : Nat) (h : ∀ a, (f a).length ≤ c) : ∀ l : List α, (l.flatMap f).length ≤ l.length * c
  | [] => by simp
  | a :: l => by
    have := flatMap_le f c h l
    have := h a
    simp only [List.flatMap_cons, List.length_append, List.length_cons, Nat.add_mul]
    omega
theorem clR_len (xs : List Slt) (rest : Int) (i q : Nat) : (clR xs rest i q).length ≤ q := by
  unfold clR
  refine Nat.le_trans (flatMap_le _ 1 (fun k => clOne_len xs rest i k) _) ?_
  have := List.length_filter_le (fun k => decide (i < k)) (List.range q)
  simp at this ⊢
  omega
theorem clTo_len (xs : List Slt) (rest : Int) (i : Nat) : (clTo xs rest i).length ≤ i * xs.length := by
  unfold clTo
  refine Nat.le_trans (flatMap_le _ xs.length (fun k => clR_len xs rest k xs.length) _) ?_
  simp
end Go.Proofs.YthbcogekfdllmaaGreatDoor
/-
  CheckAway in plain words. No Go text is named here.
-/
namespace Go.Proofs.YthbcogekfdllmaaGreatDoor
open Go Go.RowKit

theorem findL_bd (xs : List Slt) (key : ByteArray) : -1 ≤ findL xs key ∧ findL xs key < xs.length := ixOf_ge _ xs
end Go.Proofs.YthbcogekfdllmaaGreatDoor
