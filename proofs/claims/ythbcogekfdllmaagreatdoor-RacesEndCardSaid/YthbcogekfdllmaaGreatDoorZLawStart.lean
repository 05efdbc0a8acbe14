/-
  The start of every law: a slice of ints that came in becomes a stream.
-/
import Derived.Test.YthbcogekfdllmaaGreatDoorZStream
namespace Go.Proofs.YthbcogekfdllmaaGreatDoor
open Go Go.RowKit

/-- what the shell tells of the slice that came in -/
def InRow (w : World) (a : Option Addr) (len cap : Nat) (zs : List Int) : Prop :=
  (a = none ∧ len = 0 ∧ cap = 0 ∧ zs = []) ∨
  ∃ x, a = some x ∧ len ≤ cap ∧ cap ≤ maxLen ∧ zs.length = cap ∧ (∀ i, i < zs.length → w.cell? (x.add i) = some (.int .i64 (zs.getD i 0))) ∧ ∀ n ∈ zs, (Lit.int .i64 n).wf = true

theorem strm_start {w : World} {a : Option Addr} {len cap : Nat} {zs : List Int} (h : InRow w a len cap zs) (t : TypeId) :
    Strm (w.alloc (.cells #[.slice a len cap, .int .i64 0] t)) w.heap.size 0 := by
  have B := Blk.new w t #[.slice a len cap, .int .i64 0]
  refine ⟨a, len, cap, 0, B.two.1, B.two.2.1, B.two.2.2.2, by omega, by omega, ?_, ?_⟩
  · rcases h with ⟨_, rfl, _, _⟩ | ⟨x, _, h1, h2, _⟩
    · omega
    · unfold maxLen at h2; omega
  · intro hlen
    rcases h with ⟨_, rfl, _, _⟩ | ⟨x, rfl, h1, h2, h3, h4, _⟩
    · omega
    · obtain ⟨g, o, spot⟩ := x
      have c0 := h4 0 (by omega)
      have hspot : spot = none := by simpa [Addr.add] using World.cell?_spot c0
      subst hspot
      have hadd : ∀ j, (⟨g, o, none⟩ : Addr).add j = ⟨g, o + j, none⟩ := fun j => by unfold Addr.add; split <;> simp_all
      have hg : g < w.heap.size := by have := World.block_lt_of_cell? w _ c0; rw [hadd] at this; exact this
      refine ⟨g, o, rfl, hg, fun j hj => ⟨zs.getD j 0, ?_⟩⟩
      have := h4 j (by omega)
      rw [hadd] at this
      exact (World.cell?_alloc_lt w _ _ hg).trans this
end Go.Proofs.YthbcogekfdllmaaGreatDoor
