/-
  CheckAway in plain words. No Go text is named here.
-/
import Derived.Test.YtlfhommeomchoaaSlotPure2
namespace Go.Proofs.Ytlfhommeomchoaa
open Go Go.RowKit

/-- what is wrong with one who is away -/
def awayK (xs : List Slt) (p : Pr) (k : Int) : Int := if k < 0 then 8 else match xs[k.toNat]? with
  | some x => if memS (needL x) p.1 = true then 13 else 0
  | none => 0
def awayE (xs : List Slt) (p : Pr) : Int := if keyB p.1.data.toList = true then awayK xs p (findL xs p.2) else 5
def awayG (xs : List Slt) : List Pr → Int
  | [] => 0
  | p :: ps => if awayE xs p = 0 then awayG xs ps else awayE xs p
def awayF (xs : List Slt) (ps : List Pr) : Int := if slotsF xs = 0 then if 200 < ps.length then 2 else awayG xs ps else slotsF xs
theorem awayG_step (xs : List Slt) (ps : List Pr) (k : Nat) (hk : k < ps.length) : awayG xs (ps.drop k) = if awayE xs ps[k] = 0 then awayG xs (ps.drop (k + 1)) else awayE xs ps[k] := by
  rw [List.drop_eq_getElem_cons hk, awayG]
theorem awayK_at (xs : List Slt) (p : Pr) (k : Nat) (hk : k < xs.length) : awayK xs p (k : Int) = if memS (needL xs[k]) p.1 = true then 13 else 0 := by
  unfold awayK
  rw [if_neg (by omega), Int.toNat_natCast, List.getElem?_eq_getElem hk]
theorem findL_bd (xs : List Slt) (key : ByteArray) : -1 ≤ findL xs key ∧ findL xs key < xs.length := ixOf_ge _ xs
/-- small pairs -/
def PrOk (p : Pr) : Prop := p.1.size ≤ 1000 ∧ p.2.size ≤ 1000
end Go.Proofs.Ytlfhommeomchoaa
