/-
  What a walk holds of a world: old memory is as it was, and some blocks of the call's own are known whole (Bs).
-/
import Derived.Test.YtlfhommeomchoaaBase
namespace Go.Proofs.Ytlfhommeomchoaa
open Go Go.RowKit

/-- old memory is as it was; the listed blocks (number, element type, cells) are known whole -/
def Bs (w W : World) (l : List (Nat × TypeId × Array Value)) : Prop := Below w.heap.size w W ∧ ∀ p ∈ l, Blk W p.1 p.2.1 p.2.2
section
variable {w W W' : World} {l : List (Nat × TypeId × Array Value)}
theorem Bs.start (w : World) : Bs w w [] := ⟨Below.refl _ _, fun p hp => by cases hp⟩
theorem Bs.below (h : Bs w W l) (k : Below W.heap.size W W') : Bs w W' l := ⟨below_call h.1 k (Nat.le_refl _), fun p hp => (h.2 p hp).below k⟩
theorem Bs.drew (h : Bs w W l) : Bs w W.drew l := h.below (below_drewN (Below.refl _ _) 1)
theorem Bs.drewN (h : Bs w W l) (k : Nat) : Bs w (W.drewN k) l := h.below (below_drewN (Below.refl _ _) k)
theorem Bs.alloc (h : Bs w W l) (o : Obj) : Bs w (W.alloc o) l := h.below ((Below.refl _ _).alloc (Nat.le_refl _) o)
theorem Bs.add (h : Bs w W l) (cs : Array Value) (t : TypeId) : Bs w (W.alloc (.cells cs t)) ((W.heap.size, t, cs) :: l) := by
  have h' := h.alloc (.cells cs t)
  refine ⟨h'.1, fun p hp => ?_⟩
  rcases List.mem_cons.1 hp with rfl | hp
  · exact Blk.new W t cs
  · exact h'.2 p hp
theorem Bs.push {g : Nat} {t : TypeId} {cs : Array Value} (h : Bs w W l) (hg : Blk W g t cs) : Bs w W ((g, t, cs) :: l) :=
  ⟨h.1, fun p hp => by
    rcases List.mem_cons.1 hp with rfl | hp
    · exact hg
    · exact h.2 p hp⟩
theorem Bs.rebase (h : Bs w W l) : Bs W W l := ⟨Below.refl _ _, h.2⟩
theorem Bs.tail {a : Nat × TypeId × Array Value} (h : Bs w W (a :: l)) : Bs w W l := ⟨h.1, fun p hp => h.2 p (List.mem_cons_of_mem _ hp)⟩
theorem Bs.head {g : Nat} {t : TypeId} {cs : Array Value} (h : Bs w W ((g, t, cs) :: l)) : Blk W g t cs := h.2 (g, t, cs) (List.mem_cons_self ..)
theorem Bs.at1 {a : Nat × TypeId × Array Value} {g : Nat} {t : TypeId} {cs : Array Value} (h : Bs w W (a :: (g, t, cs) :: l)) : Blk W g t cs := h.tail.head
theorem Bs.at2 {a b : Nat × TypeId × Array Value} {g : Nat} {t : TypeId} {cs : Array Value} (h : Bs w W (a :: b :: (g, t, cs) :: l)) : Blk W g t cs := h.tail.tail.head
theorem Bs.at3 {a b c : Nat × TypeId × Array Value} {g : Nat} {t : TypeId} {cs : Array Value} (h : Bs w W (a :: b :: c :: (g, t, cs) :: l)) : Blk W g t cs := h.tail.tail.tail.head
/-- a store into a new block that the list does not name -/
theorem Bs.store (h : Bs w W l) {g : Nat} (hw : w.heap.size ≤ g) (hl : ∀ p ∈ l, p.1 ≠ g) (i : Nat) (u : Value) : Bs w (W.setCell ⟨g, i, none⟩ u) l :=
  ⟨h.1.setCell (p := ⟨g, i, none⟩) hw u, fun p hp => (h.2 p hp).far (p := ⟨g, i, none⟩) (hl p hp) u⟩
/-- a store into the block that the list names first -/
theorem Bs.set_ {g : Nat} {t : TypeId} {cs : Array Value} (h : Bs w W ((g, t, cs) :: l)) (hw : w.heap.size ≤ g) (hl : ∀ p ∈ l, p.1 ≠ g) (i : Nat) (u : Value) : Bs w (W.setCell ⟨g, i, none⟩ u) ((g, t, cs.setIfInBounds i u) :: l) :=
  (h.tail.store hw hl i u).push (h.head.set_ i u)
end
end Go.Proofs.Ytlfhommeomchoaa
