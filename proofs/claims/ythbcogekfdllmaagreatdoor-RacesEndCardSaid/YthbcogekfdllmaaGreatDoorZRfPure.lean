/-
  A race by its steps, in plain words: the program's field (PF, stpP, rfolP) and the reference's contest (QF, stpQ, rfolQ); both stand alike (RF). No walk.
-/
import Derived.Test.YthbcogekfdllmaaGreatDoorZStp1
namespace Go.Proofs.YthbcogekfdllmaaGreatDoor
open Go Go.RowKit

/-- how somebody is: enter, ready, race, done, stop -/
def hwB : Nat → ByteArray
  | 0 => ⟨#[101, 110, 116, 101, 114]⟩
  | 1 => ⟨#[114, 101, 97, 100, 121]⟩
  | 2 => ⟨#[114, 97, 99, 101]⟩
  | 3 => ⟨#[100, 111, 110, 101]⟩
  | _ => ⟨#[115, 116, 111, 112]⟩
/-- the program's field -/
structure PF where
  ks : List ByteArray
  en : ByteArray → Option (Nat × Int)
  st : Bool
  at0 : Int
def pf0 : PF := ⟨[], fun _ => none, false, 0⟩
def hwP (F : PF) (s : ByteArray) : Option Nat := (F.en s).map (·.1)
def setE {β : Type} (f : ByteArray → Option β) (k : ByteArray) (v : β) : ByteArray → Option β := fun t => if t = k then some v else f t
def delE {β : Type} (f : ByteArray → Option β) (k : ByteArray) : ByteArray → Option β := fun t => if t = k then none else f t
def setP (F : PF) (k : ByteArray) (v : Nat × Int) : PF := ⟨F.ks, setE F.en k v, F.st, F.at0⟩
def addP (F : PF) (k : ByteArray) : PF := ⟨F.ks ++ [k], setE F.en k (0, 0), F.st, F.at0⟩
def rDel (F : PF) (k : ByteArray) : PF := ⟨F.ks.filter (fun t => decide (t ≠ k)), delE F.en k, F.st, F.at0⟩
def rdyP (F : PF) : List ByteArray := F.ks.filter (fun t => decide (hwP F t = some 1))
def goP (F : PF) (a : Int) : PF := ⟨rdyP F, fun s => if hwP F s = some 1 then some (2, 0) else none, true, a⟩
def befP (F : PF) (x : Stp) : Option PF :=
  if x.kind = 1 then (if (hwP F x.who).isSome = true ∨ 128 ≤ F.ks.length then none else some (addP F x.who))
  else if x.kind = 2 then (if hwP F x.who = some 0 then some (setP F x.who (1, 0)) else none)
  else if x.kind = 3 then (if hwP F x.who = some 1 then some (setP F x.who (0, 0)) else none)
  else if x.kind = 4 then (if (hwP F x.who).isSome = true then some (rDel F x.who) else none)
  else if x.kind = 5 then (if (rdyP F).length < 2 then none else some (goP F x.at_))
  else none
def aftP (F : PF) (x : Stp) : Option PF :=
  if hwP F x.who = none then none
  else if x.kind = 6 ∧ hwP F x.who = some 2 ∧ F.at0 < x.at_ then some (setP F x.who (3, x.at_))
  else if x.kind = 7 ∧ hwP F x.who = some 2 then some (setP F x.who (4, 0))
  else if x.kind = 8 ∧ hwP F x.who ≠ some 2 then some (setP F x.who (2, 0))
  else none
def stpP (F : PF) (x : Stp) : Option PF := if F.st = true then aftP F x else befP F x
/-- a step, with the numbers of the refused ones -/
def accS {S : Type} (f : S → Stp → Option S) (a : S × Nat × List Int) (x : Stp) : S × Nat × List Int :=
  match f a.1 x with
  | some s => (s, a.2.1 + 1, a.2.2)
  | none => (a.1, a.2.1 + 1, a.2.2 ++ [(a.2.1 : Int)])
theorem accS_some {S : Type} {f : S → Stp → Option S} {a : S × Nat × List Int} {x : Stp} {s : S} (h : f a.1 x = some s) : accS f a x = (s, a.2.1 + 1, a.2.2) := by unfold accS; rw [h]
theorem accS_none {S : Type} {f : S → Stp → Option S} {a : S × Nat × List Int} {x : Stp} (h : f a.1 x = none) : accS f a x = (a.1, a.2.1 + 1, a.2.2 ++ [(a.2.1 : Int)]) := by unfold accS; rw [h]
def untilS (u : Int) (l : List Stp) : List Stp := l.takeWhile (fun x => decide (x.at_ ≤ u))
def rfolS (l : List Stp) : PF × Nat × List Int := l.foldl (accS stpP) (pf0, 0, [])
def rfolP (l : List Stp) (u : Int) : PF × Nat × List Int := rfolS (untilS u l)
theorem rfolS_step (l : List Stp) (k : Nat) (hk : k < l.length) : rfolS (l.take (k + 1)) = accS stpP (rfolS (l.take k)) l[k] := by
  unfold rfolS
  rw [List.take_succ_eq_append_getElem hk, List.foldl_append]
  rfl
theorem acc_cnt {S : Type} (f : S → Stp → Option S) (a : S × Nat × List Int) (x : Stp) : (accS f a x).2.1 = a.2.1 + 1 := by
  unfold accS
  split <;> rfl
theorem rfolS_cnt (l : List Stp) : ∀ k, k ≤ l.length → (rfolS (l.take k)).2.1 = k
  | 0, _ => by simp [rfolS]
  | k + 1, h => by rw [rfolS_step l k (by omega), acc_cnt, rfolS_cnt l k (by omega)]
theorem hwP_set (F : PF) (k : ByteArray) (v : Nat × Int) (s : ByteArray) : hwP (setP F k v) s = setE (hwP F) k v.1 s := by
  unfold hwP setP setE
  by_cases h : s = k
  · simp [h]
  · simp [h]
theorem hwP_rDel (F : PF) (k s : ByteArray) : hwP (rDel F k) s = delE (hwP F) k s := by
  unfold hwP rDel delE
  by_cases h : s = k
  · simp [h]
  · simp [h]
theorem hwP_go (F : PF) (a : Int) (s : ByteArray) : hwP (goP F a) s = if hwP F s = some 1 then some 2 else none := by
  show ((goP F a).en s).map (·.1) = _
  show (if hwP F s = some 1 then some ((2 : Nat), (0 : Int)) else none).map (·.1) = _
  split <;> rfl
theorem setE_same {β : Type} (f : ByteArray → Option β) (k : ByteArray) (v : β) : setE f k v k = some v := by simp [setE]
theorem setE_ne {β : Type} (f : ByteArray → Option β) {k s : ByteArray} (v : β) (h : s ≠ k) : setE f k v s = f s := by simp [setE, h]
/-- steps that follow one another in time -/
def StSrt (l : List Stp) : Prop := l.Pairwise (fun a b => a.at_ ≤ b.at_)
end Go.Proofs.YthbcogekfdllmaaGreatDoor
