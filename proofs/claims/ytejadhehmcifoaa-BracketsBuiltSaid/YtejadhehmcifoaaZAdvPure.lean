/-
  Advance in plain words. No Go text is named here.
-/
import Derived.Test.YtejadhehmcifoaaZBrkPure
namespace Go.Proofs.Ytejadhehmcifoaa
open Go Go.RowKit

abbrev Gm := ByteArray × ByteArray
def emB (s : ByteArray) : Bool := decide (s = ⟨#[]⟩)
/-- a name that is none -/
def badB (g : Gm) : Bool := (!emB g.1 && !keyB g.1.data.toList) || (!emB g.2 && !keyB g.2.data.toList)
/-- somebody who was there -/
def twB (seen : List ByteArray) (g : Gm) : Bool := (!emB g.1 && memS seen g.1) || (!emB g.2 && memS seen g.2) || decide (g.1 = g.2)
def advG : List ByteArray → List Gm → Int
  | _, [] => 0
  | seen, g :: t => if badB g = true then 5 else if (emB g.1 && emB g.2) = true then 8 else if twB seen g = true then 6 else advG (seen ++ [g.1, g.2]) t
def flatG (l : List Gm) : List ByteArray := l.flatMap fun g => [g.1, g.2]
theorem advG_step (b : List Gm) (k : Nat) (hk : k < b.length) : advG (flatG (b.take k)) (b.drop k) = if badB b[k] = true then 5 else if (emB b[k].1 && emB b[k].2) = true then 8 else if twB (flatG (b.take k)) b[k] = true then 6 else advG (flatG (b.take (k + 1))) (b.drop (k + 1)) := by
  rw [List.drop_eq_getElem_cons hk, advG, List.take_succ_eq_append_getElem hk]
  simp only [flatG, List.flatMap_append, List.flatMap_cons, List.flatMap_nil, List.append_nil]
  rfl
/-- is it one of the two? -/
def winB (g : Gm) (s : ByteArray) : Bool := !emB s && (decide (s = g.1) || decide (s = g.2))
def advW : List Gm → List ByteArray → Int
  | g :: b, s :: ws => if winB g s = true then advW b ws else 8
  | _, _ => 0
theorem advW_step (b : List Gm) (ws : List ByteArray) (k : Nat) (hk : k < b.length) (hw : k < ws.length) : advW (b.drop k) (ws.drop k) = if winB b[k] ws[k] = true then advW (b.drop (k + 1)) (ws.drop (k + 1)) else 8 := by
  rw [List.drop_eq_getElem_cons hk, List.drop_eq_getElem_cons hw, advW]
def pw6 : List Nat := [2, 4, 8, 16, 32, 64]
def advE (b : List Gm) (ws : List ByteArray) : Int := if b.length ∈ pw6 then if advG [] b = 0 then if ws.length = b.length then advW b ws else 3 else advG [] b else 3
def brfE (b : List Gm) : Int := if b.length ∈ pw6 then advG [] b else 3
def advA (b : List Gm) (ws : List ByteArray) : List Gm := if advE b ws = 0 then twos id ws else []
theorem emB_t {s : ByteArray} : emB s = true ↔ s = ⟨#[]⟩ := by simp [emB]
theorem emB_f {s : ByteArray} : emB s = false ↔ s ≠ ⟨#[]⟩ := by simp [emB]
end Go.Proofs.Ytejadhehmcifoaa
