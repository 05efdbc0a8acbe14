/-
  Cuts as the stream makes them, by contracts: right ones, and nearly always right ones.
-/
import Derived.Test.YtknojcomgccpeaaGreatDoorZStream
import Derived.Test.YtknojcomgccpeaaGreatDoorZCutPure
namespace Go.Proofs.YtknojcomgccpeaaGreatDoor
open Go Go.RowKit

theorem info_cut : (Tryz.prog.info? 61).map (fun i => (i.zero, i.size, i.bytes)) = some (some (.agg #[.int .i64 0, .int .i64 0, .bool false]), 3, 24) := by kernel_rfl
theorem flat_cut (l : List Cut) (c : Cut) : (l ++ [c]).flatMap cutC = l.flatMap cutC ++ cutC c := flat_snoc cutC l c

/-- cuts in new memory -/
def CutsS (P : List Cut → Prop) (m b K : Nat) (w : World) (e : Ending) (w' : World) : Prop :=
  ∃ (v : Value) (l : List Cut), e = .returned v ∧ w'.ownsRow w.heap.size 61 3 v l.length (l.flatMap cutC) ∧ l.length ≤ m ∧ P l ∧ Strm w' b K ∧ Bx w.heap.size b w w'

/-- cuts whose numbers are ints -/
def CutI (l : List Cut) : Prop := ∀ c ∈ l, I64 c.1 ∧ I64 c.2.1
theorem CutI.set {l : List Cut} (h : CutI l) (i : Nat) {c : Cut} (hc : I64 c.1 ∧ I64 c.2.1) : CutI (l.set i c) := by
  intro x hx
  rcases List.mem_or_eq_of_mem_set hx with hx | hx
  · exact h x hx
  · rw [hx]; exact hc
theorem CutI.of_ok {l : List Cut} (h : cutF l = 0) : CutI l := by
  intro c hc
  obtain ⟨k, hk, rfl⟩ := List.getElem_of_mem hc
  have h1 := cutE_ok (cutF_all h k hk)
  unfold I64
  cases hs : l[k].2.2
  · have := h1.2 hs
    exact ⟨⟨by omega, by omega⟩, by omega, by omega⟩
  · have := h1.1 hs
    exact ⟨⟨by omega, by omega⟩, by omega, by omega⟩

end Go.Proofs.YtknojcomgccpeaaGreatDoor
