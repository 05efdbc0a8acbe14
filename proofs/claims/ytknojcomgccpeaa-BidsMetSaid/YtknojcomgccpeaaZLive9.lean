/-
  marathon.known, Expected and Late by contracts.
-/
import Derived.Test.YtknojcomgccpeaaZLive8
import Derived.Test.YtknojcomgccpeaaZLive1
import Derived.Test.YtknojcomgccpeaaZLive4
namespace Go.Proofs.Ytknojcomgccpeaa
open Go Go.RowKit

/-- what known answers -/
def knownE (xs : List Slt) (f : Int) (ys : List Lv) (at_ : Int) (P : List Plc) : Int :=
  if liveF wrongP xs ys = 0 then if (!momB at_ || !momB f) = true then 1 else if P.any (fun p => decide (345686400000 < p.2.2.2)) = true then 1 else 0 else liveF wrongP xs ys
def expP (xs : List Slt) (f : Int) (ys : List Lv) (at_ : Int) : List Plc := expF xs f at_ (evP (stateP (upTo ys at_))) (skipP (stateP (upTo ys at_)))
def knownL (xs : List Slt) (f : Int) (ys : List Lv) (at_ : Int) : List Plc := if knownE xs f ys at_ (expP xs f ys at_) = 0 then expP xs f ys at_ else []
/-- the events of what is right are within their bounds -/
theorem ev_ok {xs : List Slt} {ys : List Lv} {at_ : Int} (hys : ∀ y ∈ ys, LvOk y) (hI : Inv xs (upTo ys at_)) : ∀ e ∈ evP (stateP (upTo ys at_)), EvOk xs e := by
  intro e he
  rw [ev_eq hI] at he
  obtain ⟨y, hy, rfl⟩ := List.mem_map.1 he
  obtain ⟨hm, h1⟩ := List.mem_filter.1 hy
  have hm2 : y ∈ ys := (List.mem_filter.1 hm).1
  have hok := hys y hm2
  have hlo := hI.lo y.2.2
  refine ⟨hok.2.2, hI.fnd y hm, ?_, ?_⟩
  · have := hI.bd y hm
    simp only; omega
  · simp only
    split <;> omega
theorem kinds_ok {xs : List Slt} : ∀ (rest pre : List Lv), liveG wrongP xs pre rest = 0 → ∀ y ∈ rest, y.2.1 = 1 ∨ y.2.1 = 2 ∨ y.2.1 = 3
  | [], _, _ => by intro y hy; cases hy
  | z :: zs, pre, h => by
    rw [liveG] at h
    by_cases h0 : lvE xs pre z = 0
    · rw [if_pos h0] at h
      cases hw : wrongP pre z
      · rw [hw] at h
        simp only [Bool.false_eq_true, if_false] at h
        intro y hy
        rcases List.mem_cons.1 hy with rfl | hy
        · exact (lvE_zero h0).2.1
        · exact kinds_ok zs (pre ++ [z]) h y hy
      · rw [hw] at h; simp at h
    · rw [if_neg h0] at h; exact absurd h h0
theorem live_kinds {xs : List Slt} {ys : List Lv} (h : liveF wrongP xs ys = 0) : ∀ y ∈ ys, y.2.1 = 1 ∨ y.2.1 = 2 ∨ y.2.1 = 3 := by
  unfold liveF at h
  by_cases h0 : slotsF xs = 0
  · rw [if_pos h0] at h
    by_cases h4 : 400 < ys.length
    · rw [if_pos h4] at h; exact absurd h (by decide)
    · rw [if_neg h4] at h; exact kinds_ok ys [] h
  · rw [if_neg h0] at h; exact absurd h h0
def KnownS (l : List Plc) (er : Int) (w : World) (e : Ending) (w' : World) : Prop :=
  ∃ v, e = .returned (.tuple #[v, .int .i64 er]) ∧ w'.ownsRow w.heap.size 112 4 v l.length (l.flatMap plcC) ∧ Below w.heap.size w w'

end Go.Proofs.Ytknojcomgccpeaa
