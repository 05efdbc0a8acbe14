/-
  What is live in a marathon, in plain words: both sides of chapter 9's CheckLive and Expected. No Go text is named here.
-/
import Derived.Test.YtohhbkodfidfkaaGreatDoorZSlotPure
namespace Go.Proofs.YtohhbkodfidfkaaGreatDoor
open Go Go.RowKit

/-- something live: at, kind, key -/
abbrev Lv := Int × Int × ByteArray
def lvC (y : Lv) : List Value := [.int .i64 y.1, .int .i64 y.2.1, .string y.2.2]
theorem lvC_len (y : Lv) : (lvC y).length = 3 := rfl
/-- when a slot began, when it ended, whether it is out -/
def seen1 (key : ByteArray) (s : Int × Int × Bool) (y : Lv) : Int × Int × Bool :=
  if eqS y.2.2 key = true then (if y.2.1 = 1 then (y.1, s.2.1, s.2.2) else if y.2.1 = 2 then (s.1, y.1, s.2.2) else (s.1, s.2.1, true)) else s
def seenF (p : List Lv) (key : ByteArray) : Int × Int × Bool := p.foldl (seen1 key) (-1, -1, false)
theorem seenF_snoc (p : List Lv) (y : Lv) (key : ByteArray) : seenF (p ++ [y]) key = seen1 key (seenF p key) y := by simp [seenF]
theorem seenF_take (p : List Lv) (key : ByteArray) (k : Nat) (hk : k < p.length) : seenF (p.take (k + 1)) key = seen1 key (seenF (p.take k) key) p[k] := by
  rw [List.take_succ_eq_append_getElem hk, seenF_snoc]
/-- does another slot run? -/
def otherB (p : List Lv) (key : ByteArray) (o : Slt) : Bool := !(eqS o.key key) && (decide (0 ≤ (seenF p o.key).1) && decide ((seenF p o.key).2.1 < 0))
def wrongQ (xs : List Slt) (p : List Lv) (y : Lv) : Bool :=
  if y.2.1 = 1 then decide (0 ≤ (seenF p y.2.2).1) || (seenF p y.2.2).2.2 || xs.any (otherB p y.2.2)
  else if y.2.1 = 3 then decide (0 ≤ (seenF p y.2.2).1) || (seenF p y.2.2).2.2
  else decide ((seenF p y.2.2).1 < 0) || decide (0 ≤ (seenF p y.2.2).2.1)

/-- how a slot goes -/
structure Stg where
  began : Bool
  ended : Bool
  out : Bool
  at_ : Int
  end_ : Int
def stgD : Stg := ⟨false, false, false, 0, 0⟩
structure ShowP where
  st : ByteArray → Stg
  order : List ByteArray
  on : Bool
def show0 : ShowP := ⟨fun _ => stgD, [], false⟩
def setSt (st : ByteArray → Stg) (s : ByteArray) (v : Stg) : ByteArray → Stg := fun t => if t = s then v else st t
def stepP (S : ShowP) (y : Lv) : Option ShowP :=
  if y.2.1 = 1 then (if ((S.st y.2.2).began || (S.st y.2.2).out || S.on) = true then none else some ⟨setSt S.st y.2.2 { S.st y.2.2 with began := true, at_ := y.1 }, S.order ++ [y.2.2], true⟩)
  else if y.2.1 = 2 then (if (!(S.st y.2.2).began || (S.st y.2.2).ended) = true then none else some ⟨setSt S.st y.2.2 { S.st y.2.2 with ended := true, end_ := y.1 }, S.order, false⟩)
  else (if ((S.st y.2.2).began || (S.st y.2.2).out) = true then none else some ⟨setSt S.st y.2.2 { S.st y.2.2 with out := true }, S.order, S.on⟩)
def stateP (p : List Lv) : ShowP := p.foldl (fun S y => (stepP S y).getD S) show0
theorem stateP_snoc (p : List Lv) (y : Lv) : stateP (p ++ [y]) = (stepP (stateP p) y).getD (stateP p) := by simp [stateP]
def wrongP (p : List Lv) (y : Lv) : Bool := (stepP (stateP p) y).isNone

/-- what is wrong with something live by itself -/
def lateB (pre : List Lv) (y : Lv) : Bool := match pre.getLast? with | some z => decide (y.1 < z.1) | none => false
def lvE (xs : List Slt) (pre : List Lv) (y : Lv) : Int := if momB y.1 = true then if outB y.2.1 1 3 = true then 4 else if findL xs y.2.2 < 0 then 8 else if lateB pre y = true then 7 else 0 else 1
def liveG (wrong : List Lv → Lv → Bool) (xs : List Slt) : List Lv → List Lv → Int
  | _, [] => 0
  | pre, y :: ys => if lvE xs pre y = 0 then if wrong pre y = true then 11 else liveG wrong xs (pre ++ [y]) ys else lvE xs pre y
def liveF (wrong : List Lv → Lv → Bool) (xs : List Slt) (ys : List Lv) : Int := if slotsF xs = 0 then if 400 < ys.length then 2 else liveG wrong xs [] ys else slotsF xs
theorem liveG_step (wrong : List Lv → Lv → Bool) (xs : List Slt) (ys : List Lv) (k : Nat) (hk : k < ys.length) : liveG wrong xs (ys.take k) (ys.drop k) =
    if lvE xs (ys.take k) ys[k] = 0 then if wrong (ys.take k) ys[k] = true then 11 else liveG wrong xs (ys.take (k + 1)) (ys.drop (k + 1)) else lvE xs (ys.take k) ys[k] := by
  rw [List.drop_eq_getElem_cons hk, liveG, List.take_succ_eq_append_getElem hk]
theorem lateB_zero (ys : List Lv) (y : Lv) : lateB (ys.take 0) y = false := rfl
theorem lateB_succ (ys : List Lv) (y : Lv) (k : Nat) (hk : k < ys.length) : lateB (ys.take (k + 1)) y = decide (y.1 < ys[k].1) := by
  unfold lateB
  rw [List.take_succ_eq_append_getElem hk, List.getLast?_concat]

/-- what holds of what is live and right -/
structure Inv (xs : List Slt) (p : List Lv) : Prop where
  began : ∀ key, ((stateP p).st key).began = decide (0 ≤ (seenF p key).1)
  ended : ∀ key, ((stateP p).st key).ended = decide (0 ≤ (seenF p key).2.1)
  out : ∀ key, ((stateP p).st key).out = (seenF p key).2.2
  end_ : ∀ key, 0 ≤ (seenF p key).2.1 → ((stateP p).st key).end_ = (seenF p key).2.1
  one : (stateP p).on = true → ∃ x ∈ xs, 0 ≤ (seenF p x.key).1 ∧ (seenF p x.key).2.1 < 0
  uniq : (stateP p).on = true → ∀ k k', 0 ≤ (seenF p k).1 → (seenF p k).2.1 < 0 → 0 ≤ (seenF p k').1 → (seenF p k').2.1 < 0 → k = k'
  off : (stateP p).on = false → ∀ key, 0 ≤ (seenF p key).1 → 0 ≤ (seenF p key).2.1
  order : (stateP p).order = (p.filter (fun y => decide (y.2.1 = 1))).map (fun y => y.2.2)
  at_ : ∀ y ∈ p, y.2.1 = 1 → ((stateP p).st y.2.2).at_ = y.1 ∧ 0 ≤ (seenF p y.2.2).1
  fnd : ∀ y ∈ p, 0 ≤ findL xs y.2.2
  bd : ∀ y ∈ p, 0 ≤ y.1 ∧ y.1 ≤ 345686399999
  eb : ∀ key, 0 ≤ (seenF p key).2.1 → 0 ≤ (seenF p key).1
  lo : ∀ key, -1 ≤ (seenF p key).1 ∧ (seenF p key).1 ≤ 345686399999 ∧ -1 ≤ (seenF p key).2.1 ∧ (seenF p key).2.1 ≤ 345686399999
theorem Inv.start (xs : List Slt) : Inv xs [] := by
  refine ⟨fun key => rfl, fun key => rfl, fun key => rfl, fun key h => ?_, fun h => ?_, fun h => ?_, fun _ key h => ?_, rfl, (by intro y hy; cases hy), (by intro y hy; cases hy), (by intro y hy; cases hy), fun key h => absurd h (by simp [seenF]), fun key => by simp [seenF]⟩
  · exact absurd h (by simp [seenF])
  · exact absurd h (by simp [stateP, show0])
  · exact absurd h (by simp [stateP, show0])
  · exact absurd h (by simp [seenF])
theorem momB_iff (f : Int) : momB f = true ↔ 0 ≤ f ∧ f ≤ 345686399999 := by
  unfold momB outB
  simp
theorem findL_mem {xs : List Slt} {key : ByteArray} (h : 0 ≤ findL xs key) : ∃ x ∈ xs, x.key = key := by
  have := ixOf_mem (fun x : Slt => eqS x.key key) xs
  rw [show decide (0 ≤ ixOf (fun x : Slt => eqS x.key key) xs) = true from decide_eq_true h] at this
  obtain ⟨x, hx, he⟩ := List.any_eq_true.1 this.symm
  exact ⟨x, hx, (eqS_iff _ _).1 he⟩
theorem eqS_self (s : ByteArray) : eqS s s = true := (eqS_iff s s).2 rfl
theorem eqS_ne {s t : ByteArray} (h : s ≠ t) : eqS s t = false := by
  cases he : eqS s t
  · rfl
  · exact absurd ((eqS_iff s t).1 he) h
theorem lvE_zero {xs : List Slt} {p : List Lv} {y : Lv} (h : lvE xs p y = 0) : (0 ≤ y.1 ∧ y.1 ≤ 345686399999) ∧ (y.2.1 = 1 ∨ y.2.1 = 2 ∨ y.2.1 = 3) ∧ 0 ≤ findL xs y.2.2 ∧ lateB p y = false := by
  unfold lvE at h
  by_cases h1 : momB y.1 = true
  · rw [if_pos h1] at h
    by_cases h2 : outB y.2.1 1 3 = true
    · rw [if_pos h2] at h; exact absurd h (by decide)
    · rw [if_neg h2] at h
      by_cases h3 : findL xs y.2.2 < 0
      · rw [if_pos h3] at h; exact absurd h (by decide)
      · rw [if_neg h3] at h
        by_cases h4 : lateB p y = true
        · rw [if_pos h4] at h; exact absurd h (by decide)
        · refine ⟨(momB_iff _).1 h1, ?_, by omega, by simpa using h4⟩
          unfold outB at h2
          simp at h2
          omega
  · rw [if_neg h1] at h; exact absurd h (by decide)
theorem wrong_eq {xs : List Slt} {p : List Lv} {y : Lv} (hI : Inv xs p) (hk : y.2.1 = 1 ∨ y.2.1 = 2 ∨ y.2.1 = 3) : wrongP p y = wrongQ xs p y := by
  have b := hI.began y.2.2
  have e := hI.ended y.2.2
  have o := hI.out y.2.2
  unfold wrongP wrongQ stepP
  rcases hk with hk | hk | hk
  · rw [if_pos hk, if_pos hk, ← b, ← o]
    cases hb : ((stateP p).st y.2.2).began
    · cases ho : ((stateP p).st y.2.2).out
      · have hother : xs.any (otherB p y.2.2) = (stateP p).on := by
          cases hon : (stateP p).on
          · rw [List.any_eq_false]
            intro x hx
            unfold otherB
            by_cases h0 : 0 ≤ (seenF p x.key).1
            · have := hI.off hon x.key h0
              simp; intro _ _; omega
            · simp; intro _ h; omega
          · obtain ⟨x, hx, h1, h2⟩ := hI.one hon
            rw [List.any_eq_true]
            refine ⟨x, hx, ?_⟩
            have hne : x.key ≠ y.2.2 := by
              intro he
              rw [he] at h1
              rw [hb] at b
              exact absurd h1 (by simpa using b.symm)
            unfold otherB
            rw [eqS_ne hne]
            simp [h1, h2]
        rw [hother]
        cases (stateP p).on <;> simp
      · simp
    · simp
  · rw [hk, if_neg (show ¬ (2 : Int) = 1 by decide), if_pos rfl, if_neg (show ¬ (2 : Int) = 1 by decide), if_neg (show ¬ (2 : Int) = 3 by decide)]
    have hb : decide ((seenF p y.2.2).1 < 0) = !((stateP p).st y.2.2).began := by rw [b]; by_cases h : (seenF p y.2.2).1 < 0 <;> simp [h] <;> omega
    rw [hb, ← e]
    cases ((stateP p).st y.2.2).began <;> cases ((stateP p).st y.2.2).ended <;> simp
  · rw [hk, if_neg (show ¬ (3 : Int) = 1 by decide), if_neg (show ¬ (3 : Int) = 2 by decide), if_neg (show ¬ (3 : Int) = 1 by decide), if_pos rfl, ← b, ← o]
    cases ((stateP p).st y.2.2).began <;> cases ((stateP p).st y.2.2).out <;> simp
end Go.Proofs.YtohhbkodfidfkaaGreatDoor
