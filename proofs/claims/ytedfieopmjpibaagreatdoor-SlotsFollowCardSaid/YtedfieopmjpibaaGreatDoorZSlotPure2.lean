/-
  Clashes and CheckAway in plain words. No Go text is named here.
-/
import Derived.Test.YtedfieopmjpibaaGreatDoorZSlotPure
namespace Go.Proofs.YtedfieopmjpibaaGreatDoor
open Go Go.RowKit

def needL (x : Slt) : List ByteArray := x.who :: x.hosts
def peopL (x : Slt) : List ByteArray := x.hosts ++ [x.who]
/-- is somebody needed in both? -/
def common (x y : Slt) : Bool := (needL y).any (memS (needL x))
theorem any_mem_comm (l m : List ByteArray) : l.any (memS m) = m.any (memS l) := by
  rw [Bool.eq_iff_iff, List.any_eq_true, List.any_eq_true]
  constructor
  · rintro ⟨s, hs, hm⟩
    exact ⟨s, (memS_iff _ _).1 hm, (memS_iff _ _).2 hs⟩
  · rintro ⟨s, hs, hm⟩
    exact ⟨s, (memS_iff _ _).1 hm, (memS_iff _ _).2 hs⟩
theorem peop_need (x : Slt) (s : ByteArray) : memS (peopL x) s = memS (needL x) s := by
  rw [Bool.eq_iff_iff, memS_iff, memS_iff]
  simp [peopL, needL, or_comm]
theorem common_people (x y : Slt) : (peopL x).any (memS (peopL y)) = common x y := by
  unfold common
  rw [any_mem_comm, Bool.eq_iff_iff, List.any_eq_true, List.any_eq_true]
  constructor
  · rintro ⟨s, hs, hm⟩
    exact ⟨s, (memS_iff _ _).1 (by rw [← peop_need]; exact (memS_iff _ _).2 hs), by rw [← peop_need]; exact hm⟩
  · rintro ⟨s, hs, hm⟩
    exact ⟨s, (memS_iff _ _).1 (by rw [peop_need]; exact (memS_iff _ _).2 hs), by rw [peop_need]; exact hm⟩

abbrev Pr := ByteArray × ByteArray
def prC (p : Pr) : List Value := [.string p.1, .string p.2]
theorem prC_len (p : Pr) : (prC p).length = 2 := rfl
def clOne (xs : List Slt) (rest : Int) (i k : Nat) : List Pr :=
  match xs[i]?, xs[k]? with
  | some x, some y => if (common x y && decide (fromAt 0 xs k - fromAt 0 xs (i + 1) < rest)) = true then [(x.key, y.key)] else []
  | _, _ => []
/-- the clashes of slot i with those behind it and ahead of q -/
def clR (xs : List Slt) (rest : Int) (i q : Nat) : List Pr := ((List.range q).filter (fun k => decide (i < k))).flatMap (clOne xs rest i)
def clTo (xs : List Slt) (rest : Int) (i : Nat) : List Pr := (List.range i).flatMap (fun i => clR xs rest i xs.length)
def clF (xs : List Slt) (rest : Int) : List Pr := clTo xs rest xs.length
theorem clR_start (xs : List Slt) (rest : Int) (i : Nat) : clR xs rest i (i + 1) = [] := by
  unfold clR
  have : (List.range (i + 1)).filter (fun k => decide (i < k)) = [] := by
    rw [List.filter_eq_nil_iff]
    intro a ha
    have := List.mem_range.1 ha
    simp; omega
  rw [this]; rfl
theorem clR_step (xs : List Slt) (rest : Int) (i q : Nat) (h : i < q) : clR xs rest i (q + 1) = clR xs rest i q ++ clOne xs rest i q := by
  unfold clR
  rw [List.range_succ, List.filter_append, List.flatMap_append]
  congr 1
  simp [h]
theorem clTo_step (xs : List Slt) (rest : Int) (i : Nat) : clTo xs rest (i + 1) = clTo xs rest i ++ clR xs rest i xs.length := by
  unfold clTo
  rw [List.range_succ, List.flatMap_append]
  simp
theorem clOne_at (xs : List Slt) (rest : Int) (i k : Nat) (hi : i < xs.length) (hk : k < xs.length) :
    clOne xs rest i k = if (common xs[i] xs[k] && decide (fromAt 0 xs k - fromAt 0 xs (i + 1) < rest)) = true then [(xs[i].key, xs[k].key)] else [] := by
  unfold clOne
  rw [List.getElem?_eq_getElem hi, List.getElem?_eq_getElem hk]
/-- not many -/
theorem clOne_len (xs : List Slt) (rest : Int) (i k : Nat) : (clOne xs rest i k).length ≤ 1 := by
  unfold clOne
  split
  · split <;> simp
  · simp
theorem flatMap_le {α β : Type} (f : α → List β) (c : Nat) (h : ∀ a, (f a).length ≤ c) : ∀ l : List α, (l.flatMap f).length ≤ l.length * c
  | [] => by simp
  | a :: l => by
    have := flatMap_le f c h l
    have := h a
    simp only [List.flatMap_cons, List.length_append, List.length_cons, Nat.add_mul]
    omega
theorem clR_len (xs : List Slt) (rest : Int) (i q : Nat) : (clR xs rest i q).length ≤ q := by
  unfold clR
  refine Nat.le_trans (flatMap_le _ 1 (fun k => clOne_len xs rest i k) _) ?_
  have := List.length_filter_le (fun k => decide (i < k)) (List.range q)
  simp at this ⊢
  omega
theorem clTo_len (xs : List Slt) (rest : Int) (i : Nat) : (clTo xs rest i).length ≤ i * xs.length := by
  unfold clTo
  refine Nat.le_trans (flatMap_le _ xs.length (fun k => clR_len xs rest k xs.length) _) ?_
  simp
end Go.Proofs.YtedfieopmjpibaaGreatDoor
