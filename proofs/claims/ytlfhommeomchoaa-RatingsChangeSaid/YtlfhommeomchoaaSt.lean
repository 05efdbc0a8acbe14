/-
  What RatedOf's walk holds of a world (St), and facts on fractions.
-/
import Derived.Test.YtlfhommeomchoaaRate2
import Derived.Deep.RegionLaw
import Derived.Deep.RegionWith
import Derived.Deep.DrawnRows
import Derived.Deep.DeepCutAuto
namespace Go.Proofs.Ytlfhommeomchoaa
open Go Go.RowKit
attribute [local go_sem ↓] Go.wp_at_zero Go.wp_at_succ

/-- what the walk holds of a world: old memory is as it was, the new list, some blocks -/
def St (w W : World) (v : Value) (n : Nat) (L : List Rtd) (l : List (Nat × TypeId × Array Value)) : Prop :=
  Below w.heap.size w W ∧ W.ownsRow w.heap.size 47 3 v n (L.flatMap ratedC) ∧ ∀ p ∈ l, Blk W p.1 p.2.1 p.2.2
section
variable {w W W' : World} {v : Value} {n : Nat} {L : List Rtd} {l : List (Nat × TypeId × Array Value)}
theorem St.below (h : St w W v n L l) (k : Below W.heap.size W W') : St w W' v n L l :=
  ⟨below_call h.1 k (Nat.le_refl _), own_below h.2.1 k, fun p hp => (h.2.2 p hp).below k⟩
theorem St.drew (h : St w W v n L l) : St w W.drew v n L l := h.below (below_drewN (Below.refl _ _) 1)
theorem St.drewN (h : St w W v n L l) (k : Nat) : St w (W.drewN k) v n L l := h.below (below_drewN (Below.refl _ _) k)
theorem St.alloc (h : St w W v n L l) (o : Obj) : St w (W.alloc o) v n L l := h.below ((Below.refl _ _).alloc (Nat.le_refl _) o)
theorem St.add (h : St w W v n L l) (cs : Array Value) (t : TypeId) : St w (W.alloc (.cells cs t)) v n L ((W.heap.size, t, cs) :: l) := by
  have h' := h.alloc (.cells cs t)
  refine ⟨h'.1, h'.2.1, fun p hp => ?_⟩
  rcases List.mem_cons.1 hp with rfl | hp
  · exact Blk.new W t cs
  · exact h'.2.2 p hp
theorem St.tail {a : Nat × TypeId × Array Value} (h : St w W v n L (a :: l)) : St w W v n L l := ⟨h.1, h.2.1, fun p hp => h.2.2 p (List.mem_cons_of_mem _ hp)⟩
theorem St.head {g : Nat} {t : TypeId} {cs : Array Value} (h : St w W v n L ((g, t, cs) :: l)) : Blk W g t cs := h.2.2 (g, t, cs) (List.mem_cons_self ..)
theorem St.at1 {a : Nat × TypeId × Array Value} {g : Nat} {t : TypeId} {cs : Array Value} (h : St w W v n L (a :: (g, t, cs) :: l)) : Blk W g t cs := h.tail.head
theorem St.at2 {a b : Nat × TypeId × Array Value} {g : Nat} {t : TypeId} {cs : Array Value} (h : St w W v n L (a :: b :: (g, t, cs) :: l)) : Blk W g t cs := h.tail.tail.head
theorem St.at3 {a b c : Nat × TypeId × Array Value} {g : Nat} {t : TypeId} {cs : Array Value} (h : St w W v n L (a :: b :: c :: (g, t, cs) :: l)) : Blk W g t cs := h.tail.tail.tail.head
/-- a store into a block of the call's own that the list does not name -/
theorem St.store {g : Nat} {t : TypeId} {cs : Array Value} (h : St w W v n L l) (hg : Blk W g t cs) (ht : 47 ≠ t) (hw : w.heap.size ≤ g) (hl : ∀ p ∈ l, p.1 ≠ g) (i : Nat) (u : Value) : St w (W.setCell ⟨g, i, none⟩ u) v n L l := by
  refine ⟨h.1.setCell (p := ⟨g, i, none⟩) hw u, ?_, fun p hp => (h.2.2 p hp).far (p := ⟨g, i, none⟩) (hl p hp) u⟩
  refine h.2.1.kept (row := some g) ⟨rfl, rfl, rfl, by simp [World.setCell], fun k _ hk => Below.heap_setCell W ⟨g, i, none⟩ u k (fun e => hk (by rw [e]))⟩ ?_
  exact .inr (own_blk_ne h.2.1 hg ht)
/-- a store into the block that the list names first -/
theorem St.set_ {g : Nat} {t : TypeId} {cs : Array Value} (h : St w W v n L ((g, t, cs) :: l)) (ht : 47 ≠ t) (hw : w.heap.size ≤ g) (hl : ∀ p ∈ l, p.1 ≠ g) (i : Nat) (u : Value) : St w (W.setCell ⟨g, i, none⟩ u) v n L ((g, t, cs.setIfInBounds i u) :: l) := by
  have h' := h.tail.store h.head ht hw hl i u
  refine ⟨h'.1, h'.2.1, fun p hp => ?_⟩
  rcases List.mem_cons.1 hp with rfl | hp
  · exact h.head.set_ i u
  · exact h'.2.2 p hp
theorem St.push {g : Nat} {t : TypeId} {cs : Array Value} (h : St w W v n L l) (hg : Blk W g t cs) : St w W v n L ((g, t, cs) :: l) :=
  ⟨h.1, h.2.1, fun p hp => by
    rcases List.mem_cons.1 hp with rfl | hp
    · exact hg
    · exact h.2.2 p hp⟩
end
theorem sgn_bd (z : Int) : -1 ≤ RatP.sgn z ∧ RatP.sgn z ≤ 1 := by unfold RatP.sgn; split <;> (try split) <;> omega
theorem won_is (x y : Res) : RatP.Is (RatP.lowN (1 + RatP.sgn (y.1 - x.1)) 2) (RatP.lowD (1 + RatP.sgn (y.1 - x.1)) 2) (wonR x y) 800000 := by
  refine RatP.Is.mk_low (by omega) (by omega) ?_
  unfold wonR RatP.sgn
  split <;> (try split) <;> (try split) <;> omega
theorem exp_is {aN aD bN bD : Int} (ha : RatOK aN aD) (hb : RatOK bN bD) : RatP.Is (RatP.lowN (expN aN aD bN bD) (expD aD bD)) (RatP.lowD (expN aN aD bN bD) (expD aD bD)) (RatP.expd (thou aN aD) (thou bN bD)) 800000 := by
  have h1 := (thou_bd ha).2.2.1
  have h2 := (thou_bd hb).2.2.1
  have a1 := ha.d1
  have b1 := hb.d1
  exact RatP.expd_is (p := 1000 / aD) (q := 1000 / bD) (by omega) (by omega) ha.dv hb.dv (by omega) (by omega)

end Go.Proofs.Ytlfhommeomchoaa
