/-
  Slots of a marathon in plain words: what the functions of chapter 9 answer. No Go text is named here.
-/
import Derived.Test.YtlkapcjofgpiiaaGreatDoorZFind
import Derived.Test.YtlkapcjofgpiiaaGreatDoorZFlat
namespace Go.Proofs.YtlkapcjofgpiiaaGreatDoor
open Go Go.RowKit

def strsV (hs : List ByteArray) : List Value := hs.map Value.string
theorem strsV_get {hs : List ByteArray} {k : Nat} (hk : k < hs.length) : (strsV hs)[k]? = some (.string hs[k]) := by
  unfold strsV
  rw [List.getElem?_map, List.getElem?_eq_getElem hk]
  rfl
theorem strs_cells {w : World} {b n c : Nat} {A : Option Addr} {hs : List ByteArray} (h : Rd w b 1 (.slice A n c) n (strsV hs)) :
    hs.length = n ∧ n ≤ c ∧ c ≤ maxLen ∧ (0 < n → ∃ g o, A = some ⟨g, o, none⟩ ∧ g ≠ b ∧ ∀ i (hi : i < hs.length), w.cell? ⟨g, o + i, none⟩ = some (.string hs[i])) := by
  obtain ⟨A', c', e1, e2, e3, e4, e5, e6⟩ := h
  injection e1 with ea eb ec
  subst ea ec
  refine ⟨by simpa [strsV] using e4, e2, e3, fun hn => ?_⟩
  obtain ⟨g, o, f1, f2, f3⟩ := e6 hn
  exact ⟨g, o, f1, f2, fun i hi => f3 i _ (strsV_get hi)⟩

/-- is a name one of some? -/
def memS (hs : List ByteArray) (x : ByteArray) : Bool := hs.any (eqS x)
theorem ixOf_mem {α : Type} (p : α → Bool) : ∀ l : List α, decide (0 ≤ ixOf p l) = l.any p
  | [] => by simp [ixOf]
  | a :: l => by
    have ih := ixOf_mem p l
    have hg := ixOf_ge p l
    cases hp : p a
    · rw [List.any_cons, hp, Bool.false_or, ← ih]
      simp only [ixOf, hp]
      by_cases h : ixOf p l = -1
      · simp [h]
      · simp [h]; constructor <;> intro _ <;> omega
    · simp [ixOf, hp]
theorem Rd.take {α : Type} {w : World} {b k n c : Nat} {A : Option Addr} {f : α → List Value} {rs : List α} (h : Rd w b k (.slice A n c) n (rs.flatMap f)) (hf : ∀ a, (f a).length = k) (hk : 0 < k) {m : Nat} (hm : m ≤ n) :
    Rd w b k (.slice A m c) m ((rs.take m).flatMap f) := by
  obtain ⟨hl, h1, h2, h3⟩ := h.cells hf hk
  obtain ⟨A', c', e1, e2, e3, e4, e5, e6⟩ := h
  injection e1 with ea eb ec
  subst ea ec
  have hlen : ((rs.take m).flatMap f).length = m * k := by rw [flat_len f k hf, List.length_take, hl, Nat.min_eq_left hm]
  refine ⟨_, _, rfl, by omega, e3, hlen, fun ha => ⟨by have := (e5 ha).1; omega, (e5 ha).2⟩, fun hm0 => ?_⟩
  obtain ⟨g, o, f1, f2, f3⟩ := e6 (by omega)
  refine ⟨g, o, f1, f2, fun j u hu => f3 j u ?_⟩
  have hj : j < m * k := by
    rw [← hlen]
    exact (List.getElem?_eq_some_iff.1 hu).1
  have happ : rs.flatMap f = (rs.take m).flatMap f ++ (rs.drop m).flatMap f := by
    rw [← List.flatMap_append, List.take_append_drop]
  rw [happ, List.getElem?_append_left (by rw [hlen]; exact hj)]
  exact hu
/-- can slots begin at a moment? -/
def momB (f : Int) : Bool := !outB f 0 345686399999
end Go.Proofs.YtlkapcjofgpiiaaGreatDoor
/-
  Clashes and CheckAway in plain words. No Go text is named here.
-/
namespace Go.Proofs.YtlkapcjofgpiiaaGreatDoor
open Go Go.RowKit

abbrev Pr := ByteArray × ByteArray
def prC (p : Pr) : List Value := [.string p.1, .string p.2]
theorem prC_len (p : Pr) : (prC p).length = 2 := rfl
end Go.Proofs.YtlkapcjofgpiiaaGreatDoor
