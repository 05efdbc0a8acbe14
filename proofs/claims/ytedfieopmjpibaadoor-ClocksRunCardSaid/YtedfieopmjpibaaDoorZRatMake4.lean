/-
  Ranks as the stream makes them, by a contract.
-/
import Derived.Test.YtedfieopmjpibaaDoorZRatMake3
import Derived.Deep.RegionLaw
import Derived.Deep.RegionWith
import Derived.Deep.DrawnRows
import Derived.Deep.DeepMust
namespace Go.Proofs.YtedfieopmjpibaaDoor
open Go Go.RowKit
attribute [local go_sem ↓] Go.wp_at_zero Go.wp_at_succ

abbrev Res := Int × ByteArray × Int
def resC (r : Res) : List Value := [.int .i64 r.1, .string r.2.1, .int .i64 r.2.2]
theorem resC_len (r : Res) : (resC r).length = 3 := rfl
def RsOK (r : Res) : Prop := I64 r.1 ∧ r.2.1.size ≤ 1000 ∧ r.2.2 = 0
def Rss (rs : List Res) : Prop := ∀ r ∈ rs, RsOK r
theorem Rss.snoc {rs : List Res} {r : Res} (h : Rss rs) (hr : RsOK r) : Rss (rs ++ [r]) := by
  intro x hx
  rcases List.mem_append.1 hx with hx | hx
  · exact h x hx
  · simp at hx; rw [hx]; exact hr
theorem Rss.set {rs : List Res} {r : Res} (h : Rss rs) (i : Nat) (hr : RsOK r) : Rss (rs.set i r) := by
  intro x hx
  rcases List.mem_or_eq_of_mem_set hx with hx | hx
  · exact h x hx
  · rw [hx]; exact hr
theorem news_new (w : World) (cs : Array Value) (t : TypeId) (B : Nat) (hB : w.heap.size = B) : ∀ j u, cs.toList[j]? = some u → (w.alloc (.cells cs t)).cell? ((⟨B, 0, none⟩ : Addr).add j) = some u := by
  subst hB
  exact World.news_of_block (heap_alloc_new w _)

theorem base1 {w : World} {B : Nat} (h : B ≤ w.heap.size) (o : Obj) : B ≤ (w.alloc o).heap.size := by simp; omega
theorem size1 (w : World) (o : Obj) : (w.alloc o).heap.size = w.heap.size + 1 := by simp
theorem one3 {x y z : Value} (hx : x.oneCell' = true) (hy : y.oneCell' = true) (hz : z.oneCell' = true) : ∀ u ∈ [x, y, z], u.oneCell' = true := by
  intro u hu
  simp at hu
  rcases hu with rfl | rfl | rfl <;> assumption

def picks7 : List Int := [2, 2, 3, 4, 4, 0, 1]

end Go.Proofs.YtedfieopmjpibaaDoor
