/-
  The stream's SomeRun by its contract. (Printed by gen_srn.py.)
-/
import Derived.Test.YthbcogekfdllmaaGreatDoorZCntS
import Derived.Test.YthbcogekfdllmaaGreatDoorZRule2
import Derived.Test.YthbcogekfdllmaaGreatDoorZTxt2
import Derived.Test.YthbcogekfdllmaaGreatDoorZSjoin
import Derived.Test.YthbcogekfdllmaaGreatDoorZSlotPure
import Derived.Test.YthbcogekfdllmaaGreatDoorZRatMake4
import Derived.Lib.ItoaLen
import Derived.Lib.JoinLaws
import Derived.Deep.RegionHeld3
import Derived.Test.YthbcogekfdllmaaGreatDoorZBs
import Derived.Deep.DeepCutAuto
namespace Go.Proofs.YthbcogekfdllmaaGreatDoor
open Go Go.RowKit TxtP

theorem srn_res {tmps : Array Value} {w : World} {g : Nat} {t : TypeId} {a b c d e : Value} (h : Blk w g t #[a, b, c, d, e]) (h4 : tmps.getD 4 undef = .pointer (some ⟨g, 0, none⟩)) :
    (results Tryz.f85 tmps).run Tryz.prog w = .ok (.agg #[a, b, c, d, e]) w := by
  have z0 := h.cell 0
  have z1 := h.cell 1
  have z2 := h.cell 2
  have z3 := h.cell 3
  have z4 := h.cell 4
  have h4' : tmps[4]?.getD undef = .pointer (some ⟨g, 0, none⟩) := by simpa using h4
  simp at z0 z1 z2 z3 z4
  simp [results, Tryz.results85, h4', go_sem, z0, z1, z2, z3, z4]
theorem fl_snoc (fs : List Pr) (p : Pr) : (fs ++ [p]).flatMap prC = fs.flatMap prC ++ [.string p.1, .string p.2] := by
  rw [List.flatMap_append]; simp [prC]
theorem pr_snoc {fs : List Pr} {p : Pr} (h : ∀ q ∈ fs, q.1.size ≤ 1000 ∧ q.2.size ≤ 1000) (h1 : p.1.size ≤ 1000) (h2 : p.2.size ≤ 1000) : ∀ q ∈ fs ++ [p], q.1.size ≤ 1000 ∧ q.2.size ≤ 1000 := by
  intro q hq
  rcases List.mem_append.1 hq with hq | hq
  · exact h q hq
  · simp at hq; subst hq; exact ⟨h1, h2⟩

/-- what a run's walk knows of a run -/
structure RnQ (id who : ByteArray) (ti da : Int) (n : Nat) (fs : List Pr) : Prop where
  hl : fs.length = n
  hi : id.size ≤ 1000
  hw : who.size ≤ 1000
  hf : ∀ p ∈ fs, p.1.size ≤ 1000 ∧ p.2.size ≤ 1000
  hn : n ≤ 4
  ht : -2199023255552 ≤ ti ∧ ti ≤ 2199023255552
  hd : -2199023255552 ≤ da ∧ da ≤ 2199023255552
end Go.Proofs.YthbcogekfdllmaaGreatDoor
