/-
  The first elements of a list of structs. No Go text is named here.
-/
import Derived.Test.YtapgnaimbgjcnaaGreatDoorZFlat
import Derived.Test.YtapgnaimbgjcnaaGreatDoorZSortRun0
import Derived.Test.YtapgnaimbgjcnaaGreatDoorZTk
import Derived.Test.YtapgnaimbgjcnaaGreatDoorZSortMem
import Derived.Shelf.SlGeneric
import Derived.Shelf.SlIter.Nil
import Derived.Shelf.SortM.Plain
import Derived.Shelf.SortM.SortNone
import Derived.Test.YtapgnaimbgjcnaaGreatDoorProg
import Derived.Shelf.SlSortCmp.Insertion1
import Derived.Test.YtapgnaimbgjcnaaGreatDoorZBid3
import Derived.Deep.DeepCutAuto
import Derived.Shelf.SlSortCmp.InsertionK
import Derived.Test.YtapgnaimbgjcnaaGreatDoorZDk5
import Derived.Shelf.SlSortCmp.NoneTotal
namespace Go.Proofs.YtapgnaimbgjcnaaGreatDoor
open Go Go.RowKit
theorem take_flat {α : Type} (f : α → List Value) (k : Nat) (hf : ∀ a, (f a).length = k) : ∀ (rs : List α) (m : Nat), (rs.take m).flatMap f = (rs.flatMap f).take (m * k)
 | [], m => by simp
 | r :: rs, 0 => by simp
 | r :: rs, m + 1 => by
   simp only [List.take_succ_cons, List.flatMap_cons, take_flat f k hf rs m]
   rw [List.take_append, hf, List.take_of_length_le (l := f r) (by rw [hf, Nat.add_mul]; omega), show (m + 1) * k - k = m * k by rw [Nat.add_mul]; omega]
theorem Rd.takeF {α : Type} {w : World} {b k n c : Nat} {A : Option Addr} {f : α → List Value} {rs : List α} (h : Rd w b k (.slice A n c) n (rs.flatMap f)) (hf : ∀ a, (f a).length = k) (m : Nat) (hm : m ≤ n) :
 Rd w b k (.slice A m c) m ((rs.take m).flatMap f) := by
 obtain ⟨A', c', e1, e2, e3, e4, e5, e6⟩ := h
 injection e1 with ea eb ec
 subst ea ec
 rw [take_flat f k hf]
 refine ⟨A, c, rfl, by omega, e3, by rw [List.length_take, e4]; exact Nat.min_eq_left (Nat.mul_le_mul_right _ hm), fun h => ⟨by have := (e5 h).1; omega, (e5 h).2⟩, fun hn => ?_⟩
 obtain ⟨g, o, f1, f2, f3⟩ := e6 (by omega)
 refine ⟨g, o, f1, f2, fun j u hu => f3 j u ?_⟩
 rw [List.getElem?_take] at hu
 split at hu
 · exact hu
 · cases hu
end Go.Proofs.YtapgnaimbgjcnaaGreatDoor
/-
  slices.SortStableFunc of few names at board.Reigned$1: the most first, then by name.
-/
namespace Go.Proofs.YtapgnaimbgjcnaaGreatDoor
open Go Go.RowKit Go.Lib Go.Sort
theorem Ord3.swap {α : Type} {f : α → α → Int} (h : Ord3 f) : Ord3 (fun x y => f y x) := ⟨fun x y => h.neg y x, fun x y z h1 h2 => h.trans z y x h2 h1⟩
instance instNam : Inhabited {s : ByteArray // s.size ≤ maxLen} := ⟨⟨⟨#[]⟩, by unfold maxLen; decide⟩⟩
end Go.Proofs.YtapgnaimbgjcnaaGreatDoor
