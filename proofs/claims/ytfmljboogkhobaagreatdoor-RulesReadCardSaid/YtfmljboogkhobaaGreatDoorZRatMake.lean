/-
  Ratings, rated players and ranks as the stream makes them, by contracts.
-/
import Derived.Test.YtfmljboogkhobaaGreatDoorZBase
import Derived.Test.YtfmljboogkhobaaGreatDoorZStream
import Derived.Test.YtfmljboogkhobaaGreatDoorZNum
import Derived.Deep.RegionLaw
import Derived.Deep.RegionWith
import Derived.Deep.DrawnRows
import Derived.Deep.DeepMust
namespace Go.Proofs.YtfmljboogkhobaaGreatDoor
open Go Go.RowKit

def fracC (p : Int × Int) : List Value := [.int .i64 p.1, .int .i64 p.2]
theorem fracC_len (p : Int × Int) : (fracC p).length = 2 := rfl

/-- a fraction was drawn -/
def FracS (b K : Nat) (w : World) (e : Ending) (w' : World) : Prop :=
  ∃ n d : Int, e = .returned (.agg #[.int .i64 n, .int .i64 d]) ∧ I64 n ∧ I64 d ∧ Strm w' b K ∧ Bx w.heap.size b w w'

def rightFr : List (Int × Int) := [(1500, 1), (1600, 1), (1400, 1), (3001, 2), (-1, 1000), (0, 1), (10000, 1), (-10000, 1)]
def wrongFr : List (Int × Int) := [(2, 2), (1, 0), (1, 3), (10001, 1), (1, -1), (0, 2), (-9223372036854775808, 1), (1, 4611686018427387904)]

/-- a struct of two numbers out of a literal -/
theorem frac_at {w w' : World} {b : Nat} {cs : Array Value} {t : TypeId} (ps : List (Int × Int)) (hcs : cs.toList = ps.flatMap fracC) (hp : ∀ p ∈ ps, I64 p.1 ∧ I64 p.2) (hb : b < w.heap.size)
    (k : Bx (w.alloc (.cells cs t)).heap.size b (w.alloc (.cells cs t)) w') (i : Nat) (hi : i < ps.length) :
    ∃ n d : Int, w'.cell? ⟨w.heap.size, i * 2, none⟩ = some (.int .i64 n) ∧ w'.cell? ⟨w.heap.size, i * 2 + 1, none⟩ = some (.int .i64 d) ∧ I64 n ∧ I64 d := by
  have hc : ∀ j, (w.alloc (.cells cs t)).cell? ⟨w.heap.size, j, none⟩ = (ps.flatMap fracC)[j]? := fun j => by
    rw [cell_of_row _ w.heap.size j cs t (0, 0) (heap_alloc_new w _), ← hcs]; simp
  have h0 := flat_get fracC 2 fracC_len ps i 0 hi (by omega)
  have h1 := flat_get fracC 2 fracC_len ps i 1 hi (by omega)
  have hne : w.heap.size ≠ b := by omega
  exact ⟨ps[i].1, ps[i].2, k.cell ((hc _).trans h0) hne, k.cell ((hc _).trans h1) hne, hp _ (List.getElem_mem hi)⟩

end Go.Proofs.YtfmljboogkhobaaGreatDoor
/-
  Rated players as the stream makes them, by contracts.
-/
namespace Go.Proofs.YtfmljboogkhobaaGreatDoor
open Go Go.RowKit

abbrev Rtd := ByteArray × Int × Int
def ratedC (r : Rtd) : List Value := [.string r.1, .int .i64 r.2.1, .int .i64 r.2.2]
theorem ratedC_len (r : Rtd) : (ratedC r).length = 3 := rfl
def RtOK (r : Rtd) : Prop := r.1.size ≤ 1000 ∧ I64 r.2.1 ∧ I64 r.2.2
def Rts (rs : List Rtd) : Prop := ∀ r ∈ rs, RtOK r
theorem Rts.snoc {rs : List Rtd} {r : Rtd} (h : Rts rs) (hr : RtOK r) : Rts (rs ++ [r]) := by
  intro x hx
  rcases List.mem_append.1 hx with hx | hx
  · exact h x hx
  · simp at hx; rw [hx]; exact hr
theorem Rts.set {rs : List Rtd} {r : Rtd} (h : Rts rs) (i : Nat) (hr : RtOK r) : Rts (rs.set i r) := by
  intro x hx
  rcases List.mem_or_eq_of_mem_set hx with hx | hx
  · exact h x hx
  · rw [hx]; exact hr
theorem low_I64 {n d : Int} (hn : -9223372036854775807 ≤ n ∧ n ≤ 9223372036854775807) (hd0 : 1 ≤ d) (hd : d ≤ 9223372036854775807) : I64 (RatP.lowN n d) ∧ I64 (RatP.lowD n d) := by
  have h1 := RatP.lowN_abs (n := n) (d := d) (by omega)
  have h2 := RatP.lowD_pos (n := n) (d := d) (by omega)
  have h3 := RatP.lowD_le (n := n) (d := d) (by omega)
  unfold I64 at *
  exact ⟨⟨by omega, by omega⟩, by omega, by omega⟩

/-- strings of a literal -/
theorem strs_at (ss : List ByteArray) (k : Nat) (hk : k < ss.length) : (ss.map Value.string).toArray[k]? = some (.string ss[k]) := by
  simp [hk]

def names4 : List ByteArray := [⟨#[97, 110, 110]⟩, ⟨#[98, 101, 97]⟩, ⟨#[99, 105, 100]⟩, ⟨#[100, 97, 110]⟩]
theorem names4_le : ∀ s ∈ names4, s.size ≤ 1000 := by decide
theorem str_cell {w : World} {g : Nat} {t : TypeId} {cs : Array Value} (ss : List ByteArray) (h : Blk w g t cs) (hc : cs = (ss.map Value.string).toArray) (hs : ∀ s ∈ ss, s.size ≤ 1000) (k : Nat) (hk : k < ss.length) :
    ∃ s : ByteArray, w.cell? ⟨g, k, none⟩ = some (.string s) ∧ s.size ≤ 1000 :=
  ⟨ss[k], by rw [h.cell, hc, strs_at ss k hk], hs _ (List.getElem_mem hk)⟩

end Go.Proofs.YtfmljboogkhobaaGreatDoor
/-
  Rated players as the stream makes them, nearly always right ones, by a contract.
-/
namespace Go.Proofs.YtfmljboogkhobaaGreatDoor
open Go Go.RowKit

def names2 : List ByteArray := [⟨#[]⟩, ⟨#[97, 110, 110]⟩]

end Go.Proofs.YtfmljboogkhobaaGreatDoor
/-
  Ranks as the stream makes them, by a contract.
-/
namespace Go.Proofs.YtfmljboogkhobaaGreatDoor
open Go Go.RowKit
attribute [local go_sem ↓] Go.wp_at_zero Go.wp_at_succ

abbrev Res := Int × ByteArray × Int
def resC (r : Res) : List Value := [.int .i64 r.1, .string r.2.1, .int .i64 r.2.2]
theorem resC_len (r : Res) : (resC r).length = 3 := rfl
def RsOK (r : Res) : Prop := I64 r.1 ∧ r.2.1.size ≤ 1000 ∧ r.2.2 = 0
def Rss (rs : List Res) : Prop := ∀ r ∈ rs, RsOK r
theorem Rss.snoc {rs : List Res} {r : Res} (h : Rss rs) (hr : RsOK r) : Rss (rs ++ [r]) := by
  intro x hx
  rcases List.mem_append.1 hx with hx | hx
  · exact h x hx
  · simp at hx; rw [hx]; exact hr
theorem Rss.set {rs : List Res} {r : Res} (h : Rss rs) (i : Nat) (hr : RsOK r) : Rss (rs.set i r) := by
  intro x hx
  rcases List.mem_or_eq_of_mem_set hx with hx | hx
  · exact h x hx
  · rw [hx]; exact hr
theorem news_new (w : World) (cs : Array Value) (t : TypeId) (B : Nat) (hB : w.heap.size = B) : ∀ j u, cs.toList[j]? = some u → (w.alloc (.cells cs t)).cell? ((⟨B, 0, none⟩ : Addr).add j) = some u := by
  subst hB
  exact World.news_of_block (heap_alloc_new w _)

theorem base1 {w : World} {B : Nat} (h : B ≤ w.heap.size) (o : Obj) : B ≤ (w.alloc o).heap.size := by simp; omega
theorem size1 (w : World) (o : Obj) : (w.alloc o).heap.size = w.heap.size + 1 := by simp
theorem one3 {x y z : Value} (hx : x.oneCell' = true) (hy : y.oneCell' = true) (hz : z.oneCell' = true) : ∀ u ∈ [x, y, z], u.oneCell' = true := by
  intro u hu
  simp at hu
  rcases hu with rfl | rfl | rfl <;> assumption

def picks7 : List Int := [2, 2, 3, 4, 4, 0, 1]

end Go.Proofs.YtfmljboogkhobaaGreatDoor
