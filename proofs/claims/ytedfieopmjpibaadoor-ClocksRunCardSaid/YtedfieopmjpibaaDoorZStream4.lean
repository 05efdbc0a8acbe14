/-
  The stream of raw numbers, on: Order by a contract: numbers from 0 to n - 1.
-/
import Derived.Test.YtedfieopmjpibaaDoorZStream
import Derived.RegionTactic
import Derived.ChangeAlike
import Derived.BigRegion
import Derived.Outline
namespace Go.Proofs.YtedfieopmjpibaaDoor
open Go Go.RowKit

theorem info_int : (Tryd.prog.info? 3).map (fun i => (i.zero, i.size, i.bytes)) = some (some (.int .i64 0), 1, 8) := by kernel_rfl

/-- numbers from 0 to n - 1 -/
def Nums (n : Int) (xs : List Value) : Prop := ∀ x ∈ xs, ∃ z : Int, x = .int .i64 z ∧ 0 ≤ z ∧ z < n
theorem Nums.snoc {n z : Int} {xs : List Value} (h : Nums n xs) (h0 : 0 ≤ z) (h1 : z < n) : Nums n (xs ++ [.int .i64 z]) := by
  intro x hx
  rcases List.mem_append.1 hx with hx | hx
  · exact h x hx
  · simp at hx; exact ⟨z, hx, h0, h1⟩
theorem Nums.set {n z : Int} {xs : List Value} (h : Nums n xs) (i : Nat) (h0 : 0 ≤ z) (h1 : z < n) : Nums n (xs.set i (.int .i64 z)) := by
  intro x hx
  rcases List.mem_or_eq_of_mem_set hx with hx | hx
  · exact h x hx
  · exact ⟨z, hx, h0, h1⟩

/-- a slice of numbers from 0 to n - 1, n of them, in new memory -/
def OrderS (n : Int) (b K base : Nat) (w : World) (e : Ending) (w' : World) : Prop :=
  ∃ (v : Value) (xs : List Value), e = .returned v ∧ w'.ownsRow base 3 1 v n.toNat xs ∧ Nums n xs ∧ Strm w' b K ∧ Bx w.heap.size b w w'

end Go.Proofs.YtedfieopmjpibaaDoor
