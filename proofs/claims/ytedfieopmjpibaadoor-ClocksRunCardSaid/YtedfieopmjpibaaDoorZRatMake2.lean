/-
  Rated players as the stream makes them, by contracts.
-/
import Derived.Test.YtedfieopmjpibaaDoorZRatMake
namespace Go.Proofs.YtedfieopmjpibaaDoor
open Go Go.RowKit

abbrev Rtd := ByteArray × Int × Int
def ratedC (r : Rtd) : List Value := [.string r.1, .int .i64 r.2.1, .int .i64 r.2.2]
theorem ratedC_len (r : Rtd) : (ratedC r).length = 3 := rfl
def RtOK (r : Rtd) : Prop := r.1.size ≤ 1000 ∧ I64 r.2.1 ∧ I64 r.2.2
def Rts (rs : List Rtd) : Prop := ∀ r ∈ rs, RtOK r
theorem Rts.snoc {rs : List Rtd} {r : Rtd} (h : Rts rs) (hr : RtOK r) : Rts (rs ++ [r]) := by
  intro x hx
  rcases List.mem_append.1 hx with hx | hx
  · exact h x hx
  · simp at hx; rw [hx]; exact hr
theorem Rts.set {rs : List Rtd} {r : Rtd} (h : Rts rs) (i : Nat) (hr : RtOK r) : Rts (rs.set i r) := by
  intro x hx
  rcases List.mem_or_eq_of_mem_set hx with hx | hx
  · exact h x hx
  · rw [hx]; exact hr
theorem low_I64 {n d : Int} (hn : -9223372036854775807 ≤ n ∧ n ≤ 9223372036854775807) (hd0 : 1 ≤ d) (hd : d ≤ 9223372036854775807) : I64 (RatP.lowN n d) ∧ I64 (RatP.lowD n d) := by
  have h1 := RatP.lowN_abs (n := n) (d := d) (by omega)
  have h2 := RatP.lowD_pos (n := n) (d := d) (by omega)
  have h3 := RatP.lowD_le (n := n) (d := d) (by omega)
  unfold I64 at *
  exact ⟨⟨by omega, by omega⟩, by omega, by omega⟩

/-- strings of a literal -/
theorem strs_at (ss : List ByteArray) (k : Nat) (hk : k < ss.length) : (ss.map Value.string).toArray[k]? = some (.string ss[k]) := by
  simp [hk]

def names4 : List ByteArray := [⟨#[97, 110, 110]⟩, ⟨#[98, 101, 97]⟩, ⟨#[99, 105, 100]⟩, ⟨#[100, 97, 110]⟩]
theorem names4_le : ∀ s ∈ names4, s.size ≤ 1000 := by decide
theorem str_cell {w : World} {g : Nat} {t : TypeId} {cs : Array Value} (ss : List ByteArray) (h : Blk w g t cs) (hc : cs = (ss.map Value.string).toArray) (hs : ∀ s ∈ ss, s.size ≤ 1000) (k : Nat) (hk : k < ss.length) :
    ∃ s : ByteArray, w.cell? ⟨g, k, none⟩ = some (.string s) ∧ s.size ≤ 1000 :=
  ⟨ss[k], by rw [h.cell, hc, strs_at ss k hk], hs _ (List.getElem_mem hk)⟩

end Go.Proofs.YtedfieopmjpibaaDoor
