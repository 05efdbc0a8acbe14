/-
  Ratings, rated players and ranks as the stream makes them, by contracts.
-/
import Derived.Test.YtedfieopmjpibaaDoorZFlat
import Derived.Test.YtedfieopmjpibaaDoorZStream4
import Derived.Test.YtedfieopmjpibaaDoorZNum
namespace Go.Proofs.YtedfieopmjpibaaDoor
open Go Go.RowKit

def fracC (p : Int × Int) : List Value := [.int .i64 p.1, .int .i64 p.2]
theorem fracC_len (p : Int × Int) : (fracC p).length = 2 := rfl

/-- a fraction was drawn -/
def FracS (b K : Nat) (w : World) (e : Ending) (w' : World) : Prop :=
  ∃ n d : Int, e = .returned (.agg #[.int .i64 n, .int .i64 d]) ∧ I64 n ∧ I64 d ∧ Strm w' b K ∧ Bx w.heap.size b w w'

def rightFr : List (Int × Int) := [(1500, 1), (1600, 1), (1400, 1), (3001, 2), (-1, 1000), (0, 1), (10000, 1), (-10000, 1)]
def wrongFr : List (Int × Int) := [(2, 2), (1, 0), (1, 3), (10001, 1), (1, -1), (0, 2), (-9223372036854775808, 1), (1, 4611686018427387904)]

/-- a struct of two numbers out of a literal -/
theorem frac_at {w w' : World} {b : Nat} {cs : Array Value} {t : TypeId} (ps : List (Int × Int)) (hcs : cs.toList = ps.flatMap fracC) (hp : ∀ p ∈ ps, I64 p.1 ∧ I64 p.2) (hb : b < w.heap.size)
    (k : Bx (w.alloc (.cells cs t)).heap.size b (w.alloc (.cells cs t)) w') (i : Nat) (hi : i < ps.length) :
    ∃ n d : Int, w'.cell? ⟨w.heap.size, i * 2, none⟩ = some (.int .i64 n) ∧ w'.cell? ⟨w.heap.size, i * 2 + 1, none⟩ = some (.int .i64 d) ∧ I64 n ∧ I64 d := by
  have hc : ∀ j, (w.alloc (.cells cs t)).cell? ⟨w.heap.size, j, none⟩ = (ps.flatMap fracC)[j]? := fun j => by
    rw [cell_of_row _ w.heap.size j cs t (0, 0) (heap_alloc_new w _), ← hcs]; simp
  have h0 := flat_get fracC 2 fracC_len ps i 0 hi (by omega)
  have h1 := flat_get fracC 2 fracC_len ps i 1 hi (by omega)
  have hne : w.heap.size ≠ b := by omega
  exact ⟨ps[i].1, ps[i].2, k.cell ((hc _).trans h0) hne, k.cell ((hc _).trans h1) hne, hp _ (List.getElem_mem hi)⟩

end Go.Proofs.YtedfieopmjpibaaDoor
