/-
  Cuts in plain Lean: what is wrong with them, and how long each segment was. No Go text is named here.
-/
import Derived.Test.YtfmljboogkhobaaGreatDoorZBase
namespace Go.Proofs.YtfmljboogkhobaaGreatDoor
open Go Go.RowKit

abbrev Cut := Int × Int × Bool
def cutC (c : Cut) : List Value := [.int .i64 c.1, .int .i64 c.2.1, .bool c.2.2]
theorem cutC_len (c : Cut) : (cutC c).length = 3 := rfl

/-- what is wrong with one cut behind another one -/
def cutE (lr lg : Int) (c : Cut) : Int :=
  if c.2.2 = true then (if c.1 ≠ 0 ∨ c.2.1 ≠ 0 then 3 else 0)
  else if c.1 < 0 ∨ 864000000 < c.1 ∨ c.2.1 < 0 ∨ c.1 < c.2.1 then 1 else if c.1 < lr ∨ c.2.1 < lg then 7 else 0
def cutN (s : Int × Int) (c : Cut) : Int × Int := if c.2.2 = true then s else (c.1, c.2.1)
def cutG : Int × Int → List Cut → Int
  | _, [] => 0
  | s, c :: l => if cutE s.1 s.2 c = 0 then cutG (cutN s c) l else cutE s.1 s.2 c
def cutF (l : List Cut) : Int := if 100 < l.length then 2 else cutG (0, 0) l

def cutS (l : List Cut) (k : Nat) : Int × Int := (l.take k).foldl cutN (0, 0)
theorem foldl_take_succ {α β : Type} (f : β → α → β) (l : List α) (k : Nat) (hk : k < l.length) (b : β) : (l.take (k + 1)).foldl f b = f ((l.take k).foldl f b) l[k] := by
  rw [List.take_succ_eq_append_getElem hk, List.foldl_append]
  rfl
theorem cutS_step (l : List Cut) (k : Nat) (hk : k < l.length) : cutS l (k + 1) = cutN (cutS l k) l[k] := foldl_take_succ _ _ _ hk _
theorem cutG_step (l : List Cut) (s : Int × Int) (k : Nat) (hk : k < l.length) : cutG s (l.drop k) = if cutE s.1 s.2 l[k] = 0 then cutG (cutN s l[k]) (l.drop (k + 1)) else cutE s.1 s.2 l[k] := by
  rw [List.drop_eq_getElem_cons hk, cutG]

/-- each cut is right behind what was before it -/
theorem cutG_all : ∀ (l : List Cut) (s : Int × Int), cutG s l = 0 → ∀ k (hk : k < l.length), cutE ((l.take k).foldl cutN s).1 ((l.take k).foldl cutN s).2 l[k] = 0
  | [], _, _, k, hk => absurd hk (by simp)
  | c :: l, s, h, k, hk => by
    rw [cutG] at h
    split at h
    · rename_i h0
      cases k with
      | zero => simpa using h0
      | succ k => simpa using cutG_all l (cutN s c) h k (by simpa using hk)
    · rename_i h0; exact absurd h h0
theorem cutF_all {l : List Cut} (h : cutF l = 0) (k : Nat) (hk : k < l.length) : cutE (cutS l k).1 (cutS l k).2 l[k] = 0 := by
  unfold cutF at h
  split at h
  · omega
  · exact cutG_all l (0, 0) h k hk
theorem cutF_len {l : List Cut} (h : cutF l = 0) : l.length ≤ 100 := by
  unfold cutF at h
  split at h
  · omega
  · omega
theorem cutE_ok {lr lg : Int} {c : Cut} (h : cutE lr lg c = 0) : (c.2.2 = true → c.1 = 0 ∧ c.2.1 = 0) ∧ (c.2.2 = false → 0 ≤ c.1 ∧ c.1 ≤ 864000000 ∧ 0 ≤ c.2.1 ∧ c.2.1 ≤ c.1 ∧ lr ≤ c.1 ∧ lg ≤ c.2.1) := by
  unfold cutE at h
  refine ⟨fun hs => ?_, fun hs => ?_⟩
  · rw [if_pos hs] at h
    split at h <;> omega
  · rw [if_neg (by rw [hs]; decide)] at h
    split at h
    · omega
    · split at h
      · omega
      · omega
/-- what was before is a right pair of times -/
theorem cutS_bd {l : List Cut} (h : cutF l = 0) : ∀ k, k ≤ l.length → 0 ≤ (cutS l k).1 ∧ (cutS l k).1 ≤ 864000000 ∧ 0 ≤ (cutS l k).2 ∧ (cutS l k).2 ≤ 864000000
  | 0, _ => by simp [cutS]
  | k + 1, hk => by
    rw [cutS_step l k (by omega)]
    have h1 := (cutE_ok (cutF_all h k (by omega))).2
    have h2 := cutS_bd h k (by omega)
    unfold cutN
    split
    · exact h2
    · rename_i hs
      have := h1 (by simpa using hs)
      exact ⟨this.1, this.2.1, this.2.2.1, by simp only; omega⟩

theorem cutG_snoc (c : Cut) : ∀ (l : List Cut) (s : Int × Int), cutG s l = 0 → cutE (l.foldl cutN s).1 (l.foldl cutN s).2 c = 0 → cutG s (l ++ [c]) = 0
  | [], s, _, h => by
    have h' : cutE s.1 s.2 c = 0 := h
    rw [List.nil_append, cutG, if_pos h']
    rfl
  | a :: l, s, h, k => by
    rw [cutG] at h
    split at h
    · rename_i h0
      rw [List.cons_append, cutG, if_pos h0]
      exact cutG_snoc c l (cutN s a) h k
    · rename_i h0; exact absurd h h0
/-- right cuts, made so far; the times of the last one that was not skipped -/
def CutR (l : List Cut) (real game : Int) : Prop := cutG (0, 0) l = 0 ∧ l.foldl cutN (0, 0) = (real, game)
theorem CutR.nil : CutR [] 0 0 := ⟨rfl, rfl⟩
theorem CutR.skip {l : List Cut} {real game : Int} (h : CutR l real game) : CutR (l ++ [(0, 0, true)]) real game := by
  refine ⟨cutG_snoc _ l _ h.1 (by simp [cutE]), ?_⟩
  rw [List.foldl_append, h.2]
  rfl
theorem CutR.take {l : List Cut} {real game r g : Int} (h : CutR l real game) (h1 : real ≤ r) (h2 : game ≤ g) (h3 : 0 ≤ g) (h4 : g ≤ r) (h5 : r ≤ 864000000) : CutR (l ++ [(r, g, false)]) r g := by
  refine ⟨cutG_snoc _ l _ h.1 ?_, ?_⟩
  · rw [h.2]
    unfold cutE
    rw [if_neg (by simp), if_neg (by simp only; omega), if_neg (by simp only; omega)]
  · rw [List.foldl_append, h.2]
    rfl
theorem CutR.ok {l : List Cut} {real game : Int} (h : CutR l real game) (hl : l.length ≤ 100) : cutF l = 0 := by
  unfold cutF
  rw [if_neg (by omega)]
  exact h.1

/-- how long a segment was -/
def cutL (s : Int × Int) (c : Cut) : Cut := if c.2.2 = true then c else (c.1 - s.1, c.2.1 - s.2, false)
def lensTo (l : List Cut) (k : Nat) : List Cut := (List.range k).map fun i => cutL (cutS l i) (l.getD i (0, 0, false))
theorem lensTo_step (l : List Cut) (k : Nat) (hk : k < l.length) : lensTo l (k + 1) = lensTo l k ++ [cutL (cutS l k) l[k]] := by
  unfold lensTo
  rw [List.range_succ, List.map_append, List.map_singleton, List.getD_eq_getElem?_getD, List.getElem?_eq_getElem hk]
  rfl
theorem lensTo_len (l : List Cut) (k : Nat) : (lensTo l k).length = k := by unfold lensTo; simp

theorem cutS_skip (l : List Cut) (k : Nat) (hk : k < l.length) (hs : l[k].2.2 = true) : cutS l (k + 1) = cutS l k := by
  rw [cutS_step l k hk]; unfold cutN; rw [if_pos hs]
theorem cutS_take (l : List Cut) (k : Nat) (hk : k < l.length) (hs : l[k].2.2 = false) : cutS l (k + 1) = (l[k].1, l[k].2.1) := by
  rw [cutS_step l k hk]; unfold cutN; rw [if_neg (by rw [hs]; decide)]
end Go.Proofs.YtfmljboogkhobaaGreatDoor
