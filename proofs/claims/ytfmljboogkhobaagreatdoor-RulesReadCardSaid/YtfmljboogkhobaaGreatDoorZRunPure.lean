/-
  Runs: what is wrong with them, as the program and as the reference say it, in plain words. No Go text is named here but types.
-/
import Derived.Test.YtfmljboogkhobaaGreatDoorZSlotPure
import Derived.Test.YtfmljboogkhobaaGreatDoorZRulPure
import Derived.Test.YtfmljboogkhobaaGreatDoorZSep
namespace Go.Proofs.YtfmljboogkhobaaGreatDoor
open Go Go.RowKit

/-- a run, with where its fields lie -/
structure Rn where
  id : ByteArray
  who : ByteArray
  time : Int
  date : Int
  fa : Option Addr
  fc : Nat
  fs : List Pr
def rnC (x : Rn) : List Value := [.string x.id, .string x.who, .int .i64 x.time, .int .i64 x.date, .slice x.fa x.fs.length x.fc]
theorem rnC_len (x : Rn) : (rnC x).length = 5 := rfl
abbrev rnL (x : Rn) : Array Value := #[.string x.id, .string x.who, .int .i64 x.time, .int .i64 x.date, .slice x.fa x.fs.length x.fc]
/-- a run that can be read in memory -/
structure RnW (w : World) (b : Nat) (x : Rn) : Prop where
  rd : Rd w b 2 (.slice x.fa x.fs.length x.fc) x.fs.length (x.fs.flatMap prC)
  hi : x.id.size ≤ 1000000
  hw : x.who.size ≤ 1000000
  hf : ∀ p ∈ x.fs, p.1.size ≤ 1000000 ∧ p.2.size ≤ 1000000
  hn : x.fs.length ≤ 1000000
theorem RnW.below {w w' : World} {b : Nat} {x : Rn} (h : RnW w b x) (k : Below w.heap.size w w') : RnW w' b x := ⟨h.rd.below k, h.hi, h.hw, h.hf, h.hn⟩
theorem RnW.bx {w w' : World} {b : Nat} {x : Rn} (h : RnW w b x) (k : Bx w.heap.size b w w') : RnW w' b x := ⟨h.rd.bx k, h.hi, h.hw, h.hf, h.hn⟩
structure Rns (w : World) (b : Nat) (A : Option Addr) (n c : Nat) (xs : List Rn) : Prop where
  rd : Rd w b 5 (.slice A n c) n (xs.flatMap rnC)
  ok : ∀ x ∈ xs, RnW w b x
theorem Rns.below {w w' : World} {b n c : Nat} {A : Option Addr} {xs : List Rn} (h : Rns w b A n c xs) (k : Below w.heap.size w w') : Rns w' b A n c xs := ⟨h.rd.below k, fun x hx => (h.ok x hx).below k⟩
theorem Rns.bx {w w' : World} {b n c : Nat} {A : Option Addr} {xs : List Rn} (h : Rns w b A n c xs) (k : Bx w.heap.size b w w') : Rns w' b A n c xs := ⟨h.rd.bx k, fun x hx => (h.ok x hx).bx k⟩
/-- what is wrong with fields behind a name -/
def fldG : ByteArray → List Pr → Int
  | _, [] => 0
  | last, p :: ps => if nameB p.1 = false then 5 else if valueB p.2 = false then 3 else if leS p.1 last = true then 7 else fldG p.1 ps
/-- the name ahead of place k -/
def lastP (ps : List Pr) (k : Nat) : ByteArray := match k with | 0 => ⟨#[]⟩ | k + 1 => match ps[k]? with | some r => r.1 | none => ⟨#[]⟩
theorem fldG_step (ps : List Pr) (k : Nat) (hk : k < ps.length) : fldG (lastP ps k) (ps.drop k) =
    if nameB ps[k].1 = false then 5 else if valueB ps[k].2 = false then 3 else if leS ps[k].1 (lastP ps k) = true then 7 else fldG (lastP ps (k + 1)) (ps.drop (k + 1)) := by
  rw [List.drop_eq_getElem_cons hk, fldG]
  have : lastP ps (k + 1) = ps[k].1 := by simp [lastP, hk]
  rw [this]
/-- what is wrong with a run -/
def runF (x : Rn) : Int := if (keyB x.id.data.toList && keyB x.who.data.toList) = true then if (outB x.time 0 864000000 || !momB x.date) = true then 1 else if 20 < x.fs.length then 2 else fldG ⟨#[]⟩ x.fs else 5
def runsG : ByteArray → List Rn → Int
  | _, [] => 0
  | last, x :: xs => if runF x = 0 then if leS x.id last = true then 7 else runsG x.id xs else runF x
def lastR (xs : List Rn) (k : Nat) : ByteArray := match k with | 0 => ⟨#[]⟩ | k + 1 => match xs[k]? with | some r => r.id | none => ⟨#[]⟩
def runsF (xs : List Rn) : Int := if 1000 < xs.length then 2 else runsG ⟨#[]⟩ xs
theorem runsG_step (xs : List Rn) (k : Nat) (hk : k < xs.length) : runsG (lastR xs k) (xs.drop k) =
    if runF xs[k] = 0 then if leS xs[k].id (lastR xs k) = true then 7 else runsG (lastR xs (k + 1)) (xs.drop (k + 1)) else runF xs[k] := by
  rw [List.drop_eq_getElem_cons hk, runsG]
  have : lastR xs (k + 1) = xs[k].id := by simp [lastR, hk]
  rw [this]
/-- what a run says, wherever its fields lie -/
abbrev CntR := ByteArray × ByteArray × Int × Int × List Pr
def cntR (x : Rn) : CntR := (x.id, x.who, x.time, x.date, x.fs)
theorem runF_cnt {x y : Rn} (h : cntR x = cntR y) : runF x = runF y := by
  simp only [cntR, Prod.mk.injEq] at h
  obtain ⟨a1, a2, a3, a4, a5⟩ := h
  unfold runF
  rw [a1, a2, a3, a4, a5]
theorem runsG_cnt : ∀ (p q : List Rn) (last : ByteArray), p.map cntR = q.map cntR → runsG last p = runsG last q
  | [], [], _, _ => rfl
  | [], _ :: _, _, h => by simp at h
  | _ :: _, [], _, h => by simp at h
  | x :: p, y :: q, last, h => by
    simp only [List.map_cons, List.cons.injEq] at h
    have hi : x.id = y.id := congrArg (·.1) h.1
    rw [runsG, runsG, runF_cnt h.1, hi, runsG_cnt p q y.id h.2]
theorem runsF_cnt {p q : List Rn} (h : p.map cntR = q.map cntR) : runsF p = runsF q := by
  have hl : p.length = q.length := by simpa using congrArg List.length h
  unfold runsF
  rw [hl, runsG_cnt p q _ h]
theorem runF_key {x : Rn} (h : runF x = 0) : keyB x.id.data.toList = true := by
  unfold runF at h
  split at h
  · rename_i hk
    rw [Bool.and_eq_true] at hk
    exact hk.1
  · cases h
end Go.Proofs.YtfmljboogkhobaaGreatDoor
