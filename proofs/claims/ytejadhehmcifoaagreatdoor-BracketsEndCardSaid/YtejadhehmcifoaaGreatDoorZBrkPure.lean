/-
  Brackets in plain words: places, the games of the first round, and of the next one. No Go text is named here.
-/
import Derived.Test.YtejadhehmcifoaaGreatDoorZSlot1
import Derived.Test.YtejadhehmcifoaaGreatDoorZKey
namespace Go.Proofs.YtejadhehmcifoaaGreatDoor
open Go Go.RowKit

/-- a row of places, twice as long -/
def dblL (l : List Int) (n : Int) : List Int := l.flatMap (fun p => [p, n + 1 - p])
/-- the places of a bracket of 2^k -/
def plP : Nat → List Int
  | 0 => [1]
  | k + 1 => dblL (plP k) (2 ^ (k + 1) : Nat)
theorem dblL_len (l : List Int) (n : Int) : (dblL l n).length = 2 * l.length := by
  unfold dblL
  induction l with
  | nil => rfl
  | cons a l ih => simp only [List.flatMap_cons, List.length_append, ih, List.length_cons, List.length_nil]; omega
theorem dblL_snoc (l : List Int) (n p : Int) : dblL (l ++ [p]) n = dblL l n ++ [p, n + 1 - p] := by simp [dblL]
theorem plP_len : ∀ k, (plP k).length = 2 ^ k
  | 0 => rfl
  | k + 1 => by rw [plP, dblL_len, plP_len k, Nat.pow_succ]; omega
theorem dblL_bd {l : List Int} {n : Int} (h : ∀ p ∈ l, 1 ≤ p ∧ p ≤ n) : ∀ p ∈ dblL l n, 1 ≤ p ∧ p ≤ n := by
  intro p hp
  unfold dblL at hp
  obtain ⟨q, hq, hpq⟩ := List.mem_flatMap.1 hp
  have := h q hq
  simp at hpq
  rcases hpq with rfl | rfl <;> omega
theorem plP_bd : ∀ k, ∀ p ∈ plP k, 1 ≤ p ∧ p ≤ ((2 ^ k : Nat) : Int)
  | 0 => by intro p hp; simp [plP] at hp; subst hp; decide
  | k + 1 => by
    rw [plP]
    refine dblL_bd fun p hp => ?_
    have := plP_bd k p hp
    have h2 : (2 ^ (k + 1) : Nat) = 2 * 2 ^ k := by rw [Nat.pow_succ]; omega
    rw [h2]
    omega
/-- the least power of two that is not less -/
def upP (m : Nat) : Nat → Nat → Nat
  | 0, k => k
  | f + 1, k => if m ≤ 2 ^ k then k else upP m f (k + 1)
/-- who has a number -/
def whoF (who : List ByteArray) (p : Int) : ByteArray := if (who.length : Int) < p then ⟨#[]⟩ else (who[(p - 1).toNat]?).getD ⟨#[]⟩
/-- a game -/
def gmC (g : ByteArray × ByteArray) : List Value := [.string g.1, .string g.2]
theorem gmC_len (g : ByteArray × ByteArray) : (gmC g).length = 2 := rfl
/-- two and two -/
def twos {α β : Type} (f : α → β) : List α → List (β × β)
  | a :: b :: l => (f a, f b) :: twos f l
  | _ => []
theorem twos_len {α β : Type} (f : α → β) : ∀ l : List α, (twos f l).length = l.length / 2
  | [] => by simp [twos]
  | [_] => by simp [twos]
  | _ :: _ :: l => by rw [twos, List.length_cons, twos_len f l]; simp only [List.length_cons]; omega
theorem twos_take {α β : Type} (f : α → β) : ∀ (l : List α) (k : Nat) (x y : α), l[2 * k]? = some x → l[2 * k + 1]? = some y → twos f (l.take (2 * (k + 1))) = twos f (l.take (2 * k)) ++ [(f x, f y)]
  | [], k, x, y, h, _ => by simp at h
  | [a], k, x, y, _, h => by simp at h
  | a :: b :: l, 0, x, y, h, h2 => by
    simp at h h2
    subst h h2
    simp [twos]
  | a :: b :: l, k + 1, x, y, h, h2 => by
    have e1 : 2 * (k + 1 + 1) = 2 * (k + 1) + 1 + 1 := by omega
    have e2 : 2 * (k + 1) = 2 * k + 1 + 1 := by omega
    rw [e2] at h h2
    have ih := twos_take f l k x y (by simpa using h) (by simpa using h2)
    rw [e1, List.take_succ_cons, List.take_succ_cons, twos, ih]
    rw [e2, List.take_succ_cons, List.take_succ_cons, twos]
    rfl
/-- what is wrong with players -/
def brkG (who : List ByteArray) : Nat → Int
  | 0 => 0
  | f + 1 => match who[who.length - (f + 1)]? with
    | none => 0
    | some s => if keyB s.data.toList = false then 5 else if memS (who.take (who.length - (f + 1))) s = true then 6 else brkG who f
def brkE (who : List ByteArray) : Int := if 128 < who.length then 2 else if who.length < 2 then 8 else brkG who who.length
theorem brkG_step (who : List ByteArray) (k : Nat) (hk : k < who.length) : brkG who (who.length - k) = if keyB who[k].data.toList = false then 5 else if memS (who.take k) who[k] = true then 6 else brkG who (who.length - (k + 1)) := by
  obtain ⟨f, hf⟩ : ∃ f, who.length - k = f + 1 := ⟨who.length - k - 1, by omega⟩
  have e : who.length - (f + 1) = k := by omega
  rw [hf, brkG, e, List.getElem?_eq_getElem hk]
  simp only
  have e2 : who.length - (k + 1) = f := by omega
  rw [e2]
/-- the games of the first round -/
def brkL (who : List ByteArray) : List (ByteArray × ByteArray) := twos (whoF who) (plP (upP who.length 8 0))
end Go.Proofs.YtejadhehmcifoaaGreatDoor
/-
  Advance in plain words. No Go text is named here.
-/
namespace Go.Proofs.YtejadhehmcifoaaGreatDoor
open Go Go.RowKit

abbrev Gm := ByteArray × ByteArray
def emB (s : ByteArray) : Bool := decide (s = ⟨#[]⟩)
/-- a name that is none -/
def badB (g : Gm) : Bool := (!emB g.1 && !keyB g.1.data.toList) || (!emB g.2 && !keyB g.2.data.toList)
/-- somebody who was there -/
def twB (seen : List ByteArray) (g : Gm) : Bool := (!emB g.1 && memS seen g.1) || (!emB g.2 && memS seen g.2) || decide (g.1 = g.2)
def advG : List ByteArray → List Gm → Int
  | _, [] => 0
  | seen, g :: t => if badB g = true then 5 else if (emB g.1 && emB g.2) = true then 8 else if twB seen g = true then 6 else advG (seen ++ [g.1, g.2]) t
def flatG (l : List Gm) : List ByteArray := l.flatMap fun g => [g.1, g.2]
theorem advG_step (b : List Gm) (k : Nat) (hk : k < b.length) : advG (flatG (b.take k)) (b.drop k) = if badB b[k] = true then 5 else if (emB b[k].1 && emB b[k].2) = true then 8 else if twB (flatG (b.take k)) b[k] = true then 6 else advG (flatG (b.take (k + 1))) (b.drop (k + 1)) := by
  rw [List.drop_eq_getElem_cons hk, advG, List.take_succ_eq_append_getElem hk]
  simp only [flatG, List.flatMap_append, List.flatMap_cons, List.flatMap_nil, List.append_nil]
  rfl
/-- is it one of the two? -/
def winB (g : Gm) (s : ByteArray) : Bool := !emB s && (decide (s = g.1) || decide (s = g.2))
def advW : List Gm → List ByteArray → Int
  | g :: b, s :: ws => if winB g s = true then advW b ws else 8
  | _, _ => 0
theorem advW_step (b : List Gm) (ws : List ByteArray) (k : Nat) (hk : k < b.length) (hw : k < ws.length) : advW (b.drop k) (ws.drop k) = if winB b[k] ws[k] = true then advW (b.drop (k + 1)) (ws.drop (k + 1)) else 8 := by
  rw [List.drop_eq_getElem_cons hk, List.drop_eq_getElem_cons hw, advW]
def pw6 : List Nat := [2, 4, 8, 16, 32, 64]
def advE (b : List Gm) (ws : List ByteArray) : Int := if b.length ∈ pw6 then if advG [] b = 0 then if ws.length = b.length then advW b ws else 3 else advG [] b else 3
def brfE (b : List Gm) : Int := if b.length ∈ pw6 then advG [] b else 3
def advA (b : List Gm) (ws : List ByteArray) : List Gm := if advE b ws = 0 then twos id ws else []
theorem emB_t {s : ByteArray} : emB s = true ↔ s = ⟨#[]⟩ := by simp [emB]
theorem emB_f {s : ByteArray} : emB s = false ↔ s ≠ ⟨#[]⟩ := by simp [emB]
end Go.Proofs.YtejadhehmcifoaaGreatDoor
