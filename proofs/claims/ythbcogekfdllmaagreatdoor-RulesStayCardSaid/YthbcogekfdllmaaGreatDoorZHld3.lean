/-
  rule.ruled, rule.Holds, rule.Why by contracts.
-/
import Derived.Test.YthbcogekfdllmaaGreatDoorZHld1
import Derived.Test.YthbcogekfdllmaaGreatDoorZRule2
import Derived.Test.YthbcogekfdllmaaGreatDoorZClk
import Derived.Test.YthbcogekfdllmaaGreatDoorZChkPure2
import Derived.Test.YthbcogekfdllmaaGreatDoorZPx
import Derived.Test.YthbcogekfdllmaaGreatDoorZRatMake4
import Derived.Test.YthbcogekfdllmaaGreatDoorZRule3
import Derived.Test.YthbcogekfdllmaaGreatDoorZTidPure
import Derived.Test.YthbcogekfdllmaaGreatDoorZSlotPure
import Derived.Test.YthbcogekfdllmaaGreatDoorZCntS
import Derived.Deep.DeepCutAuto
import Derived.Test.YthbcogekfdllmaaGreatDoorZSepX
import Derived.ArgAppend
import Derived.RegionTactic
import Derived.Deep.CutBlock
import Derived.Lib.SlicesCompact
import Derived.Shelf.Lay
import Derived.Shelf.LaySoft
import Derived.Shelf.Strings.Builder1
import Derived.Shelf.Strings.Builder2
import Derived.Shelf.Strings.OnBuilder
import Derived.Shelf.Small.Bits
import Derived.Shelf.Small.Strs
import Derived.Shelf.Small.Wraps
import Derived.Shelf.Strings.BuilderF
import Derived.Shelf.Strconv.Atoi
import Derived.Shelf.LaysM
import Derived.Shelf.Strings.Search1
import Derived.Shelf.Strings.Search2
import Derived.Shelf.Strings.Search3
import Derived.Shelf.Strings.Cut
import Derived.Shelf.Strings.Count
import Derived.Shelf.Strings.Shaped
import Derived.Shelf.Strings.Prefix
import Derived.Shelf.Strings.Split
import Derived.Shelf.Strings.SplitShaped
import Derived.Shelf.Slices.Turned
import Derived.Test.YthbcogekfdllmaaGreatDoorProg
import Derived.Sort.Grow
import Derived.Sort.EncStr
import Derived.Sort.Walk0
import Derived.Test.YthbcogekfdllmaaGreatDoorZSjoin
import Derived.Test.YthbcogekfdllmaaGreatDoorZTxt2
import Derived.Test.YthbcogekfdllmaaGreatDoorZMap
import Derived.Test.YthbcogekfdllmaaGreatDoorZScmp
import Derived.Deep.RegionHeld3
import Derived.Test.YthbcogekfdllmaaGreatDoorZBs
import Derived.Test.YthbcogekfdllmaaGreatDoorZSumS
import Derived.Laws.Concat
import Derived.Test.YthbcogekfdllmaaGreatDoorZSrn1
import Derived.Test.YthbcogekfdllmaaGreatDoorZSmX
namespace Go.Proofs.YthbcogekfdllmaaGreatDoor
open Go Go.RowKit
attribute [local go_sem ↓] Go.wp_at_zero Go.wp_at_succ

def rulE (num : ByteArray → Int × Bool) (s : ByteArray) (x : Rn) : Int := if (parseE num s).2 = 0 then runF x else (parseE num s).2
/-- a run as a block -/
def RunB (w : World) (b g : Nat) (x : Rn) : Prop := Blk w g 101 (rnC x).toArray ∧ RnW w b x
theorem RunB.below {w W : World} {b g : Nat} {x : Rn} (h : RunB w b g x) (hb : Below w.heap.size w W) : RunB W b g x := ⟨h.1.below hb, h.2.below hb⟩
def hldV (num : ByteArray → Int × Bool) (s : ByteArray) (x : Rn) : Bool := if rulE num s x = 0 then holF (atP x.time x.fs) (parseT num s).1 else false
end Go.Proofs.YthbcogekfdllmaaGreatDoor
/-
  How numbers of rules are read: base.Number and the reference's Number as one function.
-/
namespace Go.Proofs.YthbcogekfdllmaaGreatDoor
open Go Go.RowKit TxtP

def numF (x : ByteArray) : Int × Bool := (if numB x.data.toList 9 = true then numI x.data.toList else 0, numB x.data.toList 9)
theorem numF_c : NumC numF := fun x W hx => number_calls x 9 (by decide) W (by unfold maxLen; omega)
theorem numF_body {x : ByteArray} (h : (numF x).2 = true) : body x.data.toList ≠ [] ∧ (body x.data.toList).length ≤ 9 ∧ (body x.data.toList).all isDig = true := by
  have h : numB x.data.toList 9 = true := h
  obtain ⟨a, b, c, _⟩ := numB_iff.1 h
  exact ⟨a, b, c⟩
theorem numF_ok : NumOk numF := by
  intro x h
  obtain ⟨a, b, c⟩ := numF_body h
  refine ⟨fun e => ?_, fun e => ?_, fun e => ?_⟩
  · rw [ba_nil e] at a; exact a rfl
  · rw [e] at c; exact absurd c (by decide)
  · rw [e] at c; exact absurd c (by decide)
end Go.Proofs.YthbcogekfdllmaaGreatDoor
/-
  Versions of rules: what is wrong with them, which rule holds at a moment, what a run counts for, what is lost, in plain words. No Go text is walked here.
-/
namespace Go.Proofs.YthbcogekfdllmaaGreatDoor
open Go Go.RowKit TxtP

theorem bl_tri (a b : ByteArray) : (Op.bytesLess a.toList b.toList = true ∧ (a.toList == b.toList) = false ∧ Op.bytesLess b.toList a.toList = false) ∨
    (Op.bytesLess a.toList b.toList = false ∧ (a.toList == b.toList) = true ∧ Op.bytesLess b.toList a.toList = false) ∨
    (Op.bytesLess a.toList b.toList = false ∧ (a.toList == b.toList) = false ∧ Op.bytesLess b.toList a.toList = true) := by
  simp only [bytesLess_eq, decide_eq_true_eq, decide_eq_false_iff_not, beq_eq_false_iff_ne, beq_iff_eq]
  by_cases h : a.toList = b.toList
  · rw [h]
    exact .inr (.inl ⟨List.lt_irrefl _, rfl, List.lt_irrefl _⟩)
  · by_cases h1 : a.toList < b.toList
    · exact .inl ⟨h1, h, fun h2 => List.lt_irrefl _ (List.lt_trans h1 h2)⟩
    · exact .inr (.inr ⟨h1, h, Decidable.byContradiction fun h2 => h (List.le_antisymm (List.not_lt.1 h2) (List.not_lt.1 h1))⟩)
/-- a version: a category, from when, and its rule -/
structure Vr where
  c : ByteArray
  f : Int
  r : ByteArray
def vrC (v : Vr) : List Value := [.string v.c, .int .i64 v.f, .string v.r]
theorem vrC_len (v : Vr) : (vrC v).length = 3 := rfl
structure VrW (v : Vr) : Prop where
  hc : v.c.size ≤ 1000000
  hr : v.r.size ≤ 90000
structure Vrs (w : World) (b : Nat) (A : Option Addr) (n c : Nat) (vs : List Vr) : Prop where
  rd : Rd w b 3 (.slice A n c) n (vs.flatMap vrC)
  ok : ∀ v ∈ vs, VrW v
theorem Vrs.below {w w' : World} {b n c : Nat} {A : Option Addr} {vs : List Vr} (h : Vrs w b A n c vs) (k : Below w.heap.size w w') : Vrs w' b A n c vs := ⟨h.rd.below k, h.ok⟩
theorem Vrs.bx {w w' : World} {b n c : Nat} {A : Option Addr} {vs : List Vr} (h : Vrs w b A n c vs) (k : Bx w.heap.size b w w') : Vrs w' b A n c vs := ⟨h.rd.bx k, h.ok⟩
/-- is this string empty, as the program asks it? -/
def isE (r : ByteArray) : Bool := r.toList.isEmpty
theorem nil_toList : (⟨#[]⟩ : ByteArray).toList = [] := by rw [Lib.toList_data]
theorem isE_beq (r : ByteArray) : (r.toList == (⟨#[]⟩ : ByteArray).toList) = isE r := by
  rw [nil_toList]
  unfold isE
  cases r.toList <;> rfl
theorem isE_nil : isE ⟨#[]⟩ = true := by
  unfold isE
  rw [nil_toList]
  rfl
def ordV (o v : Vr) : Bool := Op.bytesLess v.c.toList o.c.toList || (v.c.toList == o.c.toList && decide (v.f ≤ o.f))
def befV : Option Vr → Vr → ByteArray
  | none, _ => ⟨#[]⟩
  | some o, v => if (v.c.toList == o.c.toList) = true then o.r else ⟨#[]⟩
def ordO : Option Vr → Vr → Bool
  | none, _ => false
  | some o, v => ordV o v
/-- what is wrong with a version's rule -/
def rulV (r : ByteArray) : Int := if isE r = true then 0 else (parseE numF r).2
def versG : Option Vr → List Vr → Int
  | _, [] => 0
  | last, v :: vs => if keyB v.c.data.toList = true then if momB v.f = true then if rulV v.r = 0 then if ordO last v = true then 7 else if (v.r.toList == (befV last v).toList) = true then 3 else versG (some v) vs else rulV v.r else 1 else 5
def versF (vs : List Vr) : Int := if 200 < vs.length then 2 else versG none vs
/-- the version ahead of place k -/
def lastV (vs : List Vr) (k : Nat) : Option Vr := match k with | 0 => none | k + 1 => vs[k]?
theorem versG_step (vs : List Vr) (k : Nat) (hk : k < vs.length) : versG (lastV vs k) (vs.drop k) =
    if keyB vs[k].c.data.toList = true then if momB vs[k].f = true then if rulV vs[k].r = 0 then if ordO (lastV vs k) vs[k] = true then 7 else if (vs[k].r.toList == (befV (lastV vs k) vs[k]).toList) = true then 3 else versG (lastV vs (k + 1)) (vs.drop (k + 1)) else rulV vs[k].r else 1 else 5 := by
  rw [List.drop_eq_getElem_cons hk, versG]
  have : lastV vs (k + 1) = some vs[k] := by simp [lastV, hk]
  rw [this]
/-- the rule of a category at a moment -/
def rulA : List Vr → ByteArray → Int → ByteArray → ByteArray
  | [], _, _, out => out
  | v :: vs, c, t, out => rulA vs c t (if (v.c.toList == c.toList && decide (v.f ≤ t)) = true then v.r else out)
theorem rulA_step (vs : List Vr) (c : ByteArray) (t : Int) (out : ByteArray) (k : Nat) (hk : k < vs.length) :
    rulA (vs.drop k) c t out = rulA (vs.drop (k + 1)) c t (if (vs[k].c.toList == c.toList && decide (vs[k].f ≤ t)) = true then vs[k].r else out) := by
  rw [List.drop_eq_getElem_cons hk, rulA]
def rulAt (vs : List Vr) (c : ByteArray) (t : Int) : ByteArray := rulA vs c t ⟨#[]⟩
/-- does a run count for a category? -/
def cntV (vs : List Vr) (c : ByteArray) (x : Rn) : Bool := !isE (rulAt vs c x.date) && hldV numF (rulAt vs c x.date) x
/-- the rules of versions that are right -/
def RgtV (vs : List Vr) : Prop := ∀ v ∈ vs, isE v.r = false → (parseE numF v.r).2 = 0
theorem versG_rgt : ∀ (last : Option Vr) (vs : List Vr), versG last vs = 0 → (∀ v ∈ vs, keyB v.c.data.toList = true ∧ momB v.f = true ∧ rulV v.r = 0)
  | _, [], _ => fun v hv => by cases hv
  | last, v :: vs, h => by
    rw [versG] at h
    by_cases h1 : keyB v.c.data.toList = true
    · rw [if_pos h1] at h
      by_cases h2 : momB v.f = true
      · rw [if_pos h2] at h
        by_cases h3 : rulV v.r = 0
        · rw [if_pos h3] at h
          by_cases h4 : ordO last v = true
          · rw [if_pos h4] at h; cases h
          · rw [if_neg h4] at h
            by_cases h5 : (v.r.toList == (befV last v).toList) = true
            · rw [if_pos h5] at h; cases h
            · rw [if_neg h5] at h
              intro u hu
              rcases List.mem_cons.1 hu with rfl | hu
              · exact ⟨h1, h2, h3⟩
              · exact versG_rgt _ _ h u hu
        · rw [if_neg h3] at h; exact absurd h h3
      · rw [if_neg h2] at h; cases h
    · rw [if_neg h1] at h; cases h
theorem versF_rgt {vs : List Vr} (h : versF vs = 0) : vs.length ≤ 200 ∧ (∀ v ∈ vs, keyB v.c.data.toList = true ∧ momB v.f = true ∧ rulV v.r = 0) := by
  unfold versF at h
  split at h
  · cases h
  · exact ⟨by omega, versG_rgt _ _ h⟩
theorem versF_rules {vs : List Vr} (h : versF vs = 0) : RgtV vs := fun v hv he => by
  have := ((versF_rgt h).2 v hv).2.2
  unfold rulV at this
  rwa [he, if_neg (by decide)] at this
theorem rulA_mem : ∀ (vs : List Vr) (c : ByteArray) (t : Int) (out : ByteArray), rulA vs c t out = out ∨ ∃ v ∈ vs, rulA vs c t out = v.r
  | [], _, _, _ => .inl rfl
  | v :: vs, c, t, out => by
    rw [rulA]
    rcases rulA_mem vs c t (if (v.c.toList == c.toList && decide (v.f ≤ t)) = true then v.r else out) with h | ⟨u, hu, h⟩
    · rw [h]
      split
      · exact .inr ⟨v, List.mem_cons_self .., rfl⟩
      · exact .inl rfl
    · exact .inr ⟨u, List.mem_cons_of_mem _ hu, h⟩
theorem rulAt_rgt {vs : List Vr} (h : RgtV vs) (c : ByteArray) (t : Int) (he : isE (rulAt vs c t) = false) : (parseE numF (rulAt vs c t)).2 = 0 := by
  rcases rulA_mem vs c t ⟨#[]⟩ with h1 | ⟨v, hv, h1⟩
  · unfold rulAt at he
    rw [h1, isE_nil] at he
    cases he
  · unfold rulAt at he ⊢
    rw [h1] at he ⊢
    exact h v hv he
theorem rulAt_size {vs : List Vr} (h : ∀ v ∈ vs, VrW v) (c : ByteArray) (t : Int) : (rulAt vs c t).size ≤ 90000 := by
  unfold rulAt
  rcases rulA_mem vs c t ⟨#[]⟩ with h1 | ⟨v, hv, h1⟩
  · rw [h1]; exact Nat.zero_le _
  · rw [h1]; exact (h v hv).hr
end Go.Proofs.YthbcogekfdllmaaGreatDoor
/-
  The stream's RightRule and Rule by contracts: strings within bounds. (Printed by gen_ruls.py.)
-/
namespace Go.Proofs.YthbcogekfdllmaaGreatDoor
open Go Go.RowKit TxtP

def ruZ : Nat → Nat
  | 0 => 16
  | d + 1 => 3 * ruZ d + 40
def ruK : Nat → Nat
  | 0 => 3
  | d + 1 => 3 * ruK d + 4
theorem ruZ_ge : ∀ d, 16 ≤ ruZ d
  | 0 => Nat.le_refl _
  | d + 1 => by rw [ruZ]; omega
theorem ruZ_le (d : Nat) (h : d ≤ 4) : ruZ d ≤ 3000 := by
  have : ∀ e : Fin 5, ruZ e.1 ≤ 3000 := by decide
  exact this ⟨d, by omega⟩
theorem ruK_le (d : Nat) (h : d ≤ 4) : ruK d ≤ 1000 := by
  have : ∀ e : Fin 5, ruK e.1 ≤ 1000 := by decide
  exact this ⟨d, by omega⟩
end Go.Proofs.YthbcogekfdllmaaGreatDoor
/-
  The stream's Versions by a contract.
-/
namespace Go.Proofs.YthbcogekfdllmaaGreatDoor
open Go Go.RowKit TxtP
attribute [local go_sem ↓] Go.wp_at_zero Go.wp_at_succ

theorem one3v {x y z : Value} (hx : x.oneCell' = true) (hy : y.oneCell' = true) (hz : z.oneCell' = true) : ∀ u ∈ [x, y, z], u.oneCell' = true := by
  intro u hu
  simp at hu
  rcases hu with rfl | rfl | rfl <;> assumption
def VrZ (v : Vr) : Prop := v.c.size ≤ 1000 ∧ v.r.size ≤ 1000
def VrZs (vs : List Vr) : Prop := ∀ v ∈ vs, VrZ v
theorem VrZs.snoc {vs : List Vr} {v : Vr} (h : VrZs vs) (hv : VrZ v) : VrZs (vs ++ [v]) := by
  intro y hy
  rcases List.mem_append.1 hy with hy | hy
  · exact h y hy
  · simp at hy; subst hy; exact hv
theorem vr_snoc (vs : List Vr) (v : Vr) : (vs ++ [v]).flatMap vrC = vs.flatMap vrC ++ vrC v := by
  rw [List.flatMap_append]; simp
theorem info_vr : (Tryz.prog.info? 106).map (fun i => (i.zero, i.size, i.bytes)) = some (some (.agg #[.string ⟨#[]⟩, .int .i64 0, .string ⟨#[]⟩]), 3, 40) := by kernel_rfl

end Go.Proofs.YthbcogekfdllmaaGreatDoor
/-
  The stream's RightRule to the letter. (Turned out of XRulS by gen_rlx.py.)
-/
namespace Go.Proofs.YthbcogekfdllmaaGreatDoor
open Go Go.RowKit TxtP

def tenBX : List ByteArray := [⟨#[97, 32, 61, 32, 120]⟩, ⟨#[97, 61, 121]⟩, ⟨#[98, 32, 61, 32, 120]⟩, ⟨#[104, 97, 115, 32, 97]⟩, ⟨#[104, 97, 115, 32, 98]⟩, ⟨#[104, 97, 115, 32, 99]⟩, ⟨#[116, 105, 109, 101, 32, 60, 32, 53, 48, 48]⟩, ⟨#[116, 105, 109, 101, 32, 62, 32, 53, 48, 48]⟩, ⟨#[116, 114, 117, 101]⟩, ⟨#[99, 32, 61, 32, 49, 46, 50]⟩]
def opsX : List ByteArray := [⟨#[32, 97, 110, 100, 32]⟩, ⟨#[32, 111, 114, 32]⟩, ⟨#[32, 32, 97, 110, 100, 32]⟩]
/-- a rule so deep, and the position behind it -/
def ruX (zs : ZsT) : Nat → Nat → Nat × ByteArray
  | 0, p => (p + 1, smX zs p tenBX)
  | d + 1, p => if (nxX zs p 3 == 0) = true then (p + 1 + 1, smX zs (p + 1) tenBX)
    else if nxX zs (ruX zs d (p + 1)).1 5 = 0 then ((ruX zs d (p + 1)).1 + 1, (⟨#[40]⟩ : ByteArray) ++ (ruX zs d (p + 1)).2 ++ (⟨#[41]⟩ : ByteArray))
    else if nxX zs (ruX zs d (p + 1)).1 5 = 1 then ((ruX zs d (p + 1)).1 + 1, (⟨#[110, 111, 116, 32]⟩ : ByteArray) ++ (ruX zs d (p + 1)).2)
    else if nxX zs (ruX zs d (p + 1)).1 5 = 2 then ((ruX zs d ((ruX zs d (p + 1)).1 + 1)).1, (⟨#[110, 111, 116, 32, 40]⟩ : ByteArray) ++ (ruX zs d (p + 1)).2 ++ (⟨#[32, 111, 114, 32]⟩ : ByteArray) ++ (ruX zs d ((ruX zs d (p + 1)).1 + 1)).2 ++ (⟨#[41]⟩ : ByteArray))
    else if nxX zs (ruX zs d (p + 1)).1 5 = 3 then ((ruX zs d (ruX zs d ((ruX zs d (p + 1)).1 + 1)).1).1, (⟨#[40]⟩ : ByteArray) ++ (ruX zs d (p + 1)).2 ++ (⟨#[32, 111, 114, 32]⟩ : ByteArray) ++ (ruX zs d ((ruX zs d (p + 1)).1 + 1)).2 ++ (⟨#[41, 32, 97, 110, 100, 32]⟩ : ByteArray) ++ (ruX zs d (ruX zs d ((ruX zs d (p + 1)).1 + 1)).1).2)
    else ((ruX zs d ((ruX zs d (p + 1)).1 + 1 + 1)).1, (ruX zs d (p + 1)).2 ++ smX zs ((ruX zs d (p + 1)).1 + 1) opsX ++ (ruX zs d ((ruX zs d (p + 1)).1 + 1 + 1)).2)
section
variable {zs : ZsT} {d p r r2 r3 : Nat} {a c t : ByteArray}
theorem ruX_ten (hf : (nxX zs p 3 == 0) = true) (h : smX zs (p + 1) tenBX = a) : ruX zs (d + 1) p = (p + 1 + 1, a) := by rw [ruX, if_pos hf, h]
theorem ruX_0 (hf : (nxX zs p 3 == 0) = false) (h : ruX zs d (p + 1) = (r, a)) (hq : nxX zs r 5 = 0) : ruX zs (d + 1) p = (r + 1, (⟨#[40]⟩ : ByteArray) ++ a ++ (⟨#[41]⟩ : ByteArray)) := by
  rw [ruX, if_neg (by rw [hf]; decide), h]
  simp only [hq, if_true]
theorem ruX_1 (hf : (nxX zs p 3 == 0) = false) (h : ruX zs d (p + 1) = (r, a)) (hq : nxX zs r 5 = 1) : ruX zs (d + 1) p = (r + 1, (⟨#[110, 111, 116, 32]⟩ : ByteArray) ++ a) := by
  rw [ruX, if_neg (by rw [hf]; decide), h]
  simp only [hq]
  rfl
theorem ruX_2 (hf : (nxX zs p 3 == 0) = false) (h : ruX zs d (p + 1) = (r, a)) (hq : nxX zs r 5 = 2) (h2 : ruX zs d (r + 1) = (r2, c)) : ruX zs (d + 1) p = (r2, (⟨#[110, 111, 116, 32, 40]⟩ : ByteArray) ++ a ++ (⟨#[32, 111, 114, 32]⟩ : ByteArray) ++ c ++ (⟨#[41]⟩ : ByteArray)) := by
  rw [ruX, if_neg (by rw [hf]; decide), h]
  simp only [hq, h2]
  rfl
theorem ruX_3 (hf : (nxX zs p 3 == 0) = false) (h : ruX zs d (p + 1) = (r, a)) (hq : nxX zs r 5 = 3) (h2 : ruX zs d (r + 1) = (r2, c)) (h3 : ruX zs d r2 = (r3, t)) : ruX zs (d + 1) p = (r3, (⟨#[40]⟩ : ByteArray) ++ a ++ (⟨#[32, 111, 114, 32]⟩ : ByteArray) ++ c ++ (⟨#[41, 32, 97, 110, 100, 32]⟩ : ByteArray) ++ t) := by
  rw [ruX, if_neg (by rw [hf]; decide), h]
  simp only [hq, h2, h3]
  rfl
theorem ruX_4 (hf : (nxX zs p 3 == 0) = false) (h : ruX zs d (p + 1) = (r, a)) (hq : nxX zs r 5 = 4) (h2 : smX zs (r + 1) opsX = t) (h3 : ruX zs d (r + 1 + 1) = (r2, c)) : ruX zs (d + 1) p = (r2, a ++ t ++ c) := by
  rw [ruX, if_neg (by rw [hf]; decide), h]
  simp only [hq, h2, h3]
  rfl
end
/-- a rule drawn, to the letter -/
def RuleX (zs : ZsT) (b d p : Nat) (w : World) (e : Ending) (w' : World) : Prop :=
  ∃ (s : ByteArray) (r : Nat), e = .returned (.string s) ∧ Hid (ruX zs d p = (r, s)) ∧ s.size ≤ ruZ d ∧ r ≤ p + ruK d ∧ SpX zs w b r w' []
set_option maxRecDepth 100000 in
set_option maxHeartbeats 2000000 in
theorem rightRuleX_calls (zs : ZsT) : ∀ (d : Nat), d ≤ 4 → ∀ (b p : Nat) (w : World), StrmX w b zs p → p + ruK d ≤ 900000 →
    Calls Tryz.prog 86 #[.pointer (some ⟨b, 0, none⟩), .int .i64 d] w (RuleX zs b d p w)
  | 0, _ => fun b p w hs hK => by
    have hS0 := SpX.start hs
    have hk0 : ((0 : Nat) : Int) ≤ 0 := by decide
    clear hs
    go_enter Tryz.func86, Tryz.ntmps86
    go_wp2_with fail
    refine (spE_someLN 16 hS0 tenBX #[.string ⟨#[97, 32, 61, 32, 120]⟩, .string ⟨#[97, 61, 121]⟩, .string ⟨#[98, 32, 61, 32, 120]⟩, .string ⟨#[104, 97, 115, 32, 97]⟩, .string ⟨#[104, 97, 115, 32, 98]⟩, .string ⟨#[104, 97, 115, 32, 99]⟩, .string ⟨#[116, 105, 109, 101, 32, 60, 32, 53, 48, 48]⟩, .string ⟨#[116, 105, 109, 101, 32, 62, 32, 53, 48, 48]⟩, .string ⟨#[116, 114, 117, 101]⟩, .string ⟨#[99, 32, 61, 32, 49, 46, 50]⟩] 9 10 rfl (by decide) (by decide) rfl (by decide) (by omega)).mono ?_
    rintro e w2 ⟨s, rfl, HS, hz, hS2⟩
    go_wp2_with fail
    go_ret
    exact ⟨s, _, rfl, Lib.hid (show ruX zs 0 p = (p + 1, s) by rw [ruX, HS.out]), hz, by unfold ruK; omega, hS2⟩
  | d + 1, hd => fun b p w hs hK => by
    have hS0 := SpX.start hs
    have IH : Hid (∀ (p : Nat) (w : World), StrmX w b zs p → p + ruK d ≤ 900000 → Calls Tryz.prog 86 #[.pointer (some ⟨b, 0, none⟩), .int .i64 d] w (fun e w' => ∃ (s : ByteArray) (r : Nat), e = .returned (.string s) ∧ Hid (ruX zs d p = (r, s)) ∧ s.size ≤ ruZ d ∧ r ≤ p + ruK d ∧ SpX zs w b r w' [])) := Lib.hid (fun p w h h2 => rightRuleX_calls zs d (by omega) b p w h h2)
    have hkz := ruZ_le d (by omega)
    have hkk := ruK_le d (by omega)
    have hkg := ruZ_ge d
    have HK : Hid (ruK (d + 1) = 3 * ruK d + 4) := Lib.hid rfl
    have HZ : Hid (ruZ (d + 1) = 3 * ruZ d + 40) := Lib.hid rfl
    obtain ⟨Z, hZ⟩ : ∃ Z, ruZ d = Z := ⟨_, rfl⟩
    obtain ⟨k, hk⟩ : ∃ k, ruK d = k := ⟨_, rfl⟩
    rw [hZ] at IH hkz hkg HZ
    rw [hk] at IH hkk HK
    obtain ⟨D, hD⟩ : ∃ D : Int, ((d + 1 : Nat) : Int) = D := ⟨_, rfl⟩
    have hd0 : ¬ D ≤ 0 := by omega
    have hdd : decide (D ≤ 0) = false := decide_eq_false hd0
    have hdi : D - 1 = d := by omega
    unfold RuleX
    rw [HK.out, HZ.out, hD]
    clear hD
    rw [HK.out] at hK
    clear hs hZ hk
    go_enter Tryz.func86, Tryz.ntmps86
    go_upto_if 11 with (first | (go_at_call 61; refine (spE_flip hS0 3 (by omega) (by omega) (by omega)).mono ?_; rintro e w2 ⟨fv, rfl, HFV, hS2⟩))
    cases fv
    · go_wp2_with fail
      refine (IH.out _ _ hS2.strm (by omega)).mono ?_
      rintro e w3 ⟨s1, r, rfl, H1, hz1, hr1, hR3⟩
      have hS3 := hS2.call hR3.strm hR3.bx
      clear hS0 hS2 hR3
      go_wp2_with fail
      refine (spE_next hS3 5 (by omega) (by omega) (by omega)).mono ?_
      rintro e w4 ⟨q, rfl, HQ, hq0, hq1, hS4⟩
      clear hS3
      have qc : q = 0 ∨ q = 1 ∨ q = 2 ∨ q = 3 ∨ q = 4 := by omega
      rcases qc with rfl | rfl | rfl | rfl | rfl
      · go_wp2_with fail
        go_ret
        exact ⟨_, _, rfl, Lib.hid (ruX_0 HFV.out H1.out HQ.out), by simp only [ByteArray.size_append]; show 1 + s1.size + 1 ≤ _; omega, by omega, hS4⟩
      · go_wp2_with fail
        go_ret
        exact ⟨_, _, rfl, Lib.hid (ruX_1 HFV.out H1.out HQ.out), by simp only [ByteArray.size_append]; show 4 + s1.size ≤ _; omega, by omega, hS4⟩
      · go_wp2_with fail
        refine (IH.out _ _ hS4.strm (by omega)).mono ?_
        rintro e w5 ⟨s2, r2, rfl, H2, hz2, hr2, hR5⟩
        have hS5 := hS4.call hR5.strm hR5.bx
        clear hS4 hR5
        go_wp2_with fail
        go_ret
        exact ⟨_, _, rfl, Lib.hid (ruX_2 HFV.out H1.out HQ.out H2.out), by simp only [ByteArray.size_append]; show 5 + s1.size + 4 + s2.size + 1 ≤ _; omega, by omega, hS5⟩
      · go_wp2_with fail
        refine (IH.out _ _ hS4.strm (by omega)).mono ?_
        rintro e w5 ⟨s2, r2, rfl, H2, hz2, hr2, hR5⟩
        have hS5 := hS4.call hR5.strm hR5.bx
        clear hS4 hR5
        go_wp2_with fail
        refine (IH.out _ _ hS5.strm (by omega)).mono ?_
        rintro e w6 ⟨s3, r3, rfl, H3, hz3, hr3, hR6⟩
        have hS6 := hS5.call hR6.strm hR6.bx
        clear hS5 hR6
        go_wp2_with fail
        go_ret
        exact ⟨_, _, rfl, Lib.hid (ruX_3 HFV.out H1.out HQ.out H2.out H3.out), by simp only [ByteArray.size_append]; show 1 + s1.size + 4 + s2.size + 6 + s3.size ≤ _; omega, by omega, hS6⟩
      · go_wp2_with fail
        refine (spE_someLN 16 hS4 opsX #[.string ⟨#[32, 97, 110, 100, 32]⟩, .string ⟨#[32, 111, 114, 32]⟩, .string ⟨#[32, 32, 97, 110, 100, 32]⟩] 9 3 rfl (by decide) (by decide) rfl (by decide) (by omega)).mono ?_
        rintro e w5 ⟨s2, rfl, H2, hz2, hS5⟩
        clear hS4
        go_wp2_with fail
        refine (IH.out _ _ hS5.strm (by omega)).mono ?_
        rintro e w6 ⟨s3, r3, rfl, H3, hz3, hr3, hR6⟩
        have hS6 := hS5.call hR6.strm hR6.bx
        clear hS5 hR6
        go_wp2_with fail
        go_ret
        exact ⟨_, _, rfl, Lib.hid (ruX_4 HFV.out H1.out HQ.out H2.out H3.out), by simp only [ByteArray.size_append]; omega, by omega, hS6⟩
    · go_wp2_with fail
      refine (spE_someLN 16 hS2 tenBX #[.string ⟨#[97, 32, 61, 32, 120]⟩, .string ⟨#[97, 61, 121]⟩, .string ⟨#[98, 32, 61, 32, 120]⟩, .string ⟨#[104, 97, 115, 32, 97]⟩, .string ⟨#[104, 97, 115, 32, 98]⟩, .string ⟨#[104, 97, 115, 32, 99]⟩, .string ⟨#[116, 105, 109, 101, 32, 60, 32, 53, 48, 48]⟩, .string ⟨#[116, 105, 109, 101, 32, 62, 32, 53, 48, 48]⟩, .string ⟨#[116, 114, 117, 101]⟩, .string ⟨#[99, 32, 61, 32, 49, 46, 50]⟩] 9 10 rfl (by decide) (by decide) rfl (by decide) (by omega)).mono ?_
      rintro e w3 ⟨s, rfl, HS, hz, hS3⟩
      go_wp2_with fail
      go_ret
      exact ⟨s, _, rfl, Lib.hid (ruX_ten HFV.out HS.out), by omega, by omega, hS3⟩
end Go.Proofs.YthbcogekfdllmaaGreatDoor
