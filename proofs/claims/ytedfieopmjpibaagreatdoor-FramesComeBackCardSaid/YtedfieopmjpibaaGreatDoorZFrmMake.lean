/-
  Rates, times and parts of videos as the stream makes them, by contracts.
-/
import Derived.Test.YtedfieopmjpibaaGreatDoorZRatMake
import Derived.Test.YtedfieopmjpibaaGreatDoorZFrmPure
import Derived.Test.YtedfieopmjpibaaGreatDoorZBs
namespace Go.Proofs.YtedfieopmjpibaaGreatDoor
open Go Go.RowKit

def rateFr : List (Int × Int) := [(60, 1), (30000, 1001), (25, 1), (1, 1), (1000, 1), (1, 100000)]
def badFr : List (Int × Int) := [(2, 2), (0, 1), (1, 0), (1001, 1), (1, 100001), (-60, -1), (4611686018427387904, 3)]

theorem info_part : (Tryz.prog.info? 37).map (fun i => (i.zero, i.size, i.bytes)) = some (some (.agg #[.int .i64 0, .int .i64 0]), 2, 16) := by kernel_rfl
def partC (p : FrmP.Part) : List Value := [.int .i64 p.1, .int .i64 p.2]
theorem partC_len (p : FrmP.Part) : (partC p).length = 2 := rfl
/-- parts whose numbers are not great -/
def PartI (l : List FrmP.Part) : Prop := ∀ p ∈ l, (-1099511627776 ≤ p.1 ∧ p.1 ≤ 1099511627776) ∧ -1099511627776 ≤ p.2 ∧ p.2 ≤ 1099511627776
theorem PartI.snoc {l : List FrmP.Part} {p : FrmP.Part} (h : PartI l) (hp : (-1099511627776 ≤ p.1 ∧ p.1 ≤ 1099511627776) ∧ -1099511627776 ≤ p.2 ∧ p.2 ≤ 1099511627776) : PartI (l ++ [p]) := by
  intro x hx
  rcases List.mem_append.1 hx with hx | hx
  · exact h x hx
  · simp at hx; rw [hx]; exact hp
/-- parts in new memory -/
def PartsS (m b K : Nat) (w : World) (e : Ending) (w' : World) : Prop :=
  ∃ (v : Value) (l : List FrmP.Part), e = .returned v ∧ w'.ownsRow w.heap.size 37 2 v l.length (l.flatMap partC) ∧ l.length = m ∧ PartI l ∧ Strm w' b K ∧ Bx w.heap.size b w w'

end Go.Proofs.YtedfieopmjpibaaGreatDoor
