/-
  A race by its steps, in plain words: the program's field (PF, stpP, rfolP) and the reference's contest (QF, stpQ, rfolQ); both stand alike (RF). No walk.
-/
import Derived.Test.YthbcogekfdllmaaGreatZStp1
namespace Go.Proofs.YthbcogekfdllmaaGreat
open Go Go.RowKit

/-- how somebody is: enter, ready, race, done, stop -/
def hwB : Nat → ByteArray
  | 0 => ⟨#[101, 110, 116, 101, 114]⟩
  | 1 => ⟨#[114, 101, 97, 100, 121]⟩
  | 2 => ⟨#[114, 97, 99, 101]⟩
  | 3 => ⟨#[100, 111, 110, 101]⟩
  | _ => ⟨#[115, 116, 111, 112]⟩
/-- the program's field -/
structure PF where
  ks : List ByteArray
  en : ByteArray → Option (Nat × Int)
  st : Bool
  at0 : Int
def pf0 : PF := ⟨[], fun _ => none, false, 0⟩
def hwP (F : PF) (s : ByteArray) : Option Nat := (F.en s).map (·.1)
def setE {β : Type} (f : ByteArray → Option β) (k : ByteArray) (v : β) : ByteArray → Option β := fun t => if t = k then some v else f t
def delE {β : Type} (f : ByteArray → Option β) (k : ByteArray) : ByteArray → Option β := fun t => if t = k then none else f t
def setP (F : PF) (k : ByteArray) (v : Nat × Int) : PF := ⟨F.ks, setE F.en k v, F.st, F.at0⟩
def addP (F : PF) (k : ByteArray) : PF := ⟨F.ks ++ [k], setE F.en k (0, 0), F.st, F.at0⟩
def rDel (F : PF) (k : ByteArray) : PF := ⟨F.ks.filter (fun t => decide (t ≠ k)), delE F.en k, F.st, F.at0⟩
def rdyP (F : PF) : List ByteArray := F.ks.filter (fun t => decide (hwP F t = some 1))
def goP (F : PF) (a : Int) : PF := ⟨rdyP F, fun s => if hwP F s = some 1 then some (2, 0) else none, true, a⟩
def befP (F : PF) (x : Stp) : Option PF :=
  if x.kind = 1 then (if (hwP F x.who).isSome = true ∨ 128 ≤ F.ks.length then none else some (addP F x.who))
  else if x.kind = 2 then (if hwP F x.who = some 0 then some (setP F x.who (1, 0)) else none)
  else if x.kind = 3 then (if hwP F x.who = some 1 then some (setP F x.who (0, 0)) else none)
  else if x.kind = 4 then (if (hwP F x.who).isSome = true then some (rDel F x.who) else none)
  else if x.kind = 5 then (if (rdyP F).length < 2 then none else some (goP F x.at_))
  else none
def aftP (F : PF) (x : Stp) : Option PF :=
  if hwP F x.who = none then none
  else if x.kind = 6 ∧ hwP F x.who = some 2 ∧ F.at0 < x.at_ then some (setP F x.who (3, x.at_))
  else if x.kind = 7 ∧ hwP F x.who = some 2 then some (setP F x.who (4, 0))
  else if x.kind = 8 ∧ hwP F x.who ≠ some 2 then some (setP F x.who (2, 0))
  else none
def stpP (F : PF) (x : Stp) : Option PF := if F.st = true then aftP F x else befP F x
/-- the reference's contest -/
structure QF where
  ks : List ByteArray
  hw : ByteArray → Option Nat
  en : ByteArray → Option Int
  at0 : Int
def qf0 : QF := ⟨[], fun _ => none, fun _ => none, -1⟩
def rdyQ (G : QF) : List ByteArray := G.ks.filter (fun t => decide (G.hw t = some 1))
def mvQ (G : QF) (x : Stp) (a b : Nat) : Option QF := if G.hw x.who = some a then some ⟨G.ks, setE G.hw x.who b, setE G.en x.who x.at_, G.at0⟩ else none
def stpQ (G : QF) (x : Stp) : Option QF :=
  if x.kind = 1 then (if 0 ≤ G.at0 ∨ (G.hw x.who).isSome = true ∨ G.ks.length = 128 then none else some ⟨G.ks ++ [x.who], setE G.hw x.who 0, G.en, G.at0⟩)
  else if x.kind = 5 then (if 0 ≤ G.at0 ∨ (rdyQ G).length < 2 then none else some ⟨rdyQ G, fun s => if G.hw s = some 1 then some 2 else none, G.en, x.at_⟩)
  else if x.kind = 4 then (if 0 ≤ G.at0 ∨ G.hw x.who = none then none else some ⟨G.ks.filter (fun t => decide (t ≠ x.who)), delE G.hw x.who, G.en, G.at0⟩)
  else if x.kind = 8 then (if G.hw x.who = some 3 ∨ G.hw x.who = some 4 then some ⟨G.ks, setE G.hw x.who 2, G.en, G.at0⟩ else none)
  else if x.kind = 2 then mvQ G x 0 1
  else if x.kind = 3 then mvQ G x 1 0
  else if x.kind = 6 then (if x.at_ = G.at0 then none else mvQ G x 2 3)
  else mvQ G x 2 4
/-- a step, with the numbers of the refused ones -/
def accS {S : Type} (f : S → Stp → Option S) (a : S × Nat × List Int) (x : Stp) : S × Nat × List Int :=
  match f a.1 x with
  | some s => (s, a.2.1 + 1, a.2.2)
  | none => (a.1, a.2.1 + 1, a.2.2 ++ [(a.2.1 : Int)])
theorem accS_some {S : Type} {f : S → Stp → Option S} {a : S × Nat × List Int} {x : Stp} {s : S} (h : f a.1 x = some s) : accS f a x = (s, a.2.1 + 1, a.2.2) := by unfold accS; rw [h]
theorem accS_none {S : Type} {f : S → Stp → Option S} {a : S × Nat × List Int} {x : Stp} (h : f a.1 x = none) : accS f a x = (a.1, a.2.1 + 1, a.2.2 ++ [(a.2.1 : Int)]) := by unfold accS; rw [h]
def untilS (u : Int) (l : List Stp) : List Stp := l.takeWhile (fun x => decide (x.at_ ≤ u))
def rfolS (l : List Stp) : PF × Nat × List Int := l.foldl (accS stpP) (pf0, 0, [])
def rfolP (l : List Stp) (u : Int) : PF × Nat × List Int := rfolS (untilS u l)
def accQ (u : Int) (a : QF × Nat × List Int) (x : Stp) : QF × Nat × List Int := if x.at_ ≤ u then accS stpQ a x else (a.1, a.2.1 + 1, a.2.2)
def rfolQ (l : List Stp) (u : Int) : QF × Nat × List Int := l.foldl (accQ u) (qf0, 0, [])
theorem rfolS_step (l : List Stp) (k : Nat) (hk : k < l.length) : rfolS (l.take (k + 1)) = accS stpP (rfolS (l.take k)) l[k] := by
  unfold rfolS
  rw [List.take_succ_eq_append_getElem hk, List.foldl_append]
  rfl
theorem rfolQ_step (l : List Stp) (u : Int) (k : Nat) (hk : k < l.length) : rfolQ (l.take (k + 1)) u = accQ u (rfolQ (l.take k) u) l[k] := by
  unfold rfolQ
  rw [List.take_succ_eq_append_getElem hk, List.foldl_append]
  rfl
/-- both stand alike at time t -/
structure RF (F : PF) (G : QF) (t : Int) : Prop where
  ks : G.ks = F.ks
  hw : ∀ s, G.hw s = hwP F s
  on : F.st = true → G.at0 = F.at0 ∧ 0 ≤ F.at0 ∧ F.at0 ≤ t
  off : F.st = false → G.at0 = -1 ∧ F.at0 = 0
  dn : ∀ s a, F.en s = some (3, a) → G.en s = some a ∧ F.at0 < a
  c1 : F.st = true → ∀ s c, hwP F s = some c → 2 ≤ c ∧ c ≤ 4
  c0 : F.st = false → ∀ s c, hwP F s = some c → c ≤ 1
  len : F.ks.length ≤ 128
theorem RF.start (t : Int) : RF pf0 qf0 t :=
  ⟨rfl, fun _ => rfl, (fun h => by cases h), fun _ => ⟨rfl, rfl⟩, (fun s a h => by cases h), (fun h => by cases h), (fun _ s c h => by cases h), by decide⟩
theorem hwP_set (F : PF) (k : ByteArray) (v : Nat × Int) (s : ByteArray) : hwP (setP F k v) s = setE (hwP F) k v.1 s := by
  unfold hwP setP setE
  by_cases h : s = k
  · simp [h]
  · simp [h]
theorem hwP_rDel (F : PF) (k s : ByteArray) : hwP (rDel F k) s = delE (hwP F) k s := by
  unfold hwP rDel delE
  by_cases h : s = k
  · simp [h]
  · simp [h]
theorem hwP_go (F : PF) (a : Int) (s : ByteArray) : hwP (goP F a) s = if hwP F s = some 1 then some 2 else none := by
  show ((goP F a).en s).map (·.1) = _
  show (if hwP F s = some 1 then some ((2 : Nat), (0 : Int)) else none).map (·.1) = _
  split <;> rfl
theorem RF.rdy {F : PF} {G : QF} {t : Int} (h : RF F G t) : rdyQ G = rdyP F := by
  unfold rdyQ rdyP
  rw [h.ks]
  congr 1
  funext s
  rw [h.hw]
theorem setE_same {β : Type} (f : ByteArray → Option β) (k : ByteArray) (v : β) : setE f k v k = some v := by simp [setE]
theorem setE_ne {β : Type} (f : ByteArray → Option β) {k s : ByteArray} (v : β) (h : s ≠ k) : setE f k v s = f s := by simp [setE, h]
/-- one turned -/
theorem RF.set {F : PF} {G : QF} {t u : Int} (h : RF F G t) (hu : t ≤ u) (k : ByteArray) (c : Nat) (a : Int) (g : ByteArray → Option Int) (hg : ∀ s, s ≠ k → g s = G.en s)
    (h3 : c = 3 → g k = some a ∧ F.at0 < a) (h1 : F.st = true → 2 ≤ c ∧ c ≤ 4) (h0 : F.st = false → c ≤ 1) : RF (setP F k (c, a)) ⟨G.ks, setE G.hw k c, g, G.at0⟩ u := by
  refine ⟨h.ks, fun s => ?_, fun hs => ?_, h.off, fun s b hb => ?_, fun hs s d hd => ?_, fun hs s d hd => ?_, h.len⟩
  · rw [hwP_set]
    show setE G.hw k c s = _
    by_cases e : s = k
    · subst e; rw [setE_same, setE_same]
    · rw [setE_ne _ _ e, setE_ne _ _ e]; exact h.hw s
  · have := h.on hs
    exact ⟨this.1, this.2.1, Int.le_trans this.2.2 hu⟩
  · have hb : setE F.en k (c, a) s = some (3, b) := hb
    by_cases e : s = k
    · subst e
      rw [setE_same] at hb
      injection hb with hb
      injection hb with e1 e2
      subst e2
      exact h3 e1
    · rw [setE_ne _ _ e] at hb
      show g s = some b ∧ _
      rw [hg s e]
      exact h.dn s b hb
  · rw [hwP_set] at hd
    by_cases e : s = k
    · subst e; rw [setE_same] at hd; injection hd with hd; subst hd; exact h1 hs
    · rw [setE_ne _ _ e] at hd; exact h.c1 hs s d hd
  · rw [hwP_set] at hd
    by_cases e : s = k
    · subst e; rw [setE_same] at hd; injection hd with hd; subst hd; exact h0 hs
    · rw [setE_ne _ _ e] at hd; exact h.c0 hs s d hd
theorem RF.later {F : PF} {G : QF} {t u : Int} (h : RF F G t) (hu : t ≤ u) : RF F G u :=
  ⟨h.ks, h.hw, fun hs => ⟨(h.on hs).1, (h.on hs).2.1, Int.le_trans (h.on hs).2.2 hu⟩, h.off, h.dn, h.c1, h.c0, h.len⟩
/-- what a step makes of both -/
def BothS (F : PF) (G : QF) (u : Int) (x : Stp) : Prop := (stpP F x = none ∧ stpQ G x = none) ∨ ∃ F' G', stpP F x = some F' ∧ stpQ G x = some G' ∧ RF F' G' u
theorem RF.before {F : PF} {G : QF} {t : Int} (h : RF F G t) (x : Stp) (hx : t ≤ x.at_) (h0 : 0 ≤ x.at_) (hk : 1 ≤ x.kind ∧ x.kind ≤ 8) (hs : F.st = false) : BothS F G x.at_ x := by
  obtain ⟨hq0, hp0⟩ := h.off hs
  have hq : ¬ 0 ≤ G.at0 := by omega
  have hp : stpP F x = befP F x := by unfold stpP; rw [if_neg (by rw [hs]; simp)]
  have hw := h.hw x.who
  have hc := h.c0 hs x.who
  unfold BothS
  rw [hp]
  unfold befP stpQ
  rcases (show x.kind = 1 ∨ x.kind = 2 ∨ x.kind = 3 ∨ x.kind = 4 ∨ x.kind = 5 ∨ x.kind = 6 ∨ x.kind = 7 ∨ x.kind = 8 by omega) with e | e | e | e | e | e | e | e <;> simp only [e, Int.reduceEq, ↓reduceIte, true_and]
  · rw [hw, h.ks]
    have hl := h.len
    by_cases hc1 : (hwP F x.who).isSome = true ∨ 128 ≤ F.ks.length
    · rw [if_pos hc1, if_pos (by rcases hc1 with h1 | h1; exact .inr (.inl h1); exact .inr (.inr (by omega)))]
      exact .inl ⟨rfl, rfl⟩
    · rw [if_neg hc1, if_neg (by rintro (h1 | h1 | h1); exact hq h1; exact hc1 (.inl h1); exact hc1 (.inr (by omega)))]
      refine .inr ⟨_, _, rfl, rfl, ?_⟩
      have hr := h.set hx x.who 0 0 G.en (fun _ _ => rfl) (by intro h3; cases h3) (by rw [hs]; intro h3; cases h3) (fun _ => by omega)
      exact ⟨by show _ = F.ks ++ [x.who]; rw [← h.ks], hr.hw, hr.on, hr.off, hr.dn, hr.c1, hr.c0, by show (F.ks ++ [x.who]).length ≤ 128; rw [List.length_append]; simp; omega⟩
  · unfold mvQ
    rw [hw]
    by_cases h1 : hwP F x.who = some 0
    · rw [if_pos h1, if_pos h1]
      exact .inr ⟨_, _, rfl, rfl, h.set hx x.who 1 0 _ (fun s hn => setE_ne _ _ hn) (by intro h3; cases h3) (by rw [hs]; intro h3; cases h3) (fun _ => by omega)⟩
    · rw [if_neg h1, if_neg h1]
      exact .inl ⟨rfl, rfl⟩
  · unfold mvQ
    rw [hw]
    by_cases h1 : hwP F x.who = some 1
    · rw [if_pos h1, if_pos h1]
      exact .inr ⟨_, _, rfl, rfl, h.set hx x.who 0 0 _ (fun s hn => setE_ne _ _ hn) (by intro h3; cases h3) (by rw [hs]; intro h3; cases h3) (fun _ => by omega)⟩
    · rw [if_neg h1, if_neg h1]
      exact .inl ⟨rfl, rfl⟩
  · rw [hw]
    by_cases h1 : (hwP F x.who).isSome = true
    · have h2 : ¬ hwP F x.who = none := fun e2 => by rw [e2] at h1; cases h1
      rw [if_pos h1, if_neg (by rintro (h3 | h3); exact hq h3; exact h2 h3)]
      refine .inr ⟨_, _, rfl, rfl, ⟨by rw [h.ks]; rfl, fun s => ?_, (fun h3 => by rw [show (rDel F x.who).st = F.st from rfl, hs] at h3; cases h3), fun _ => ⟨hq0, hp0⟩, fun s a ha => ?_, (fun h3 => by rw [show (rDel F x.who).st = F.st from rfl, hs] at h3; cases h3), fun _ s c hcs => ?_, ?_⟩⟩
      · rw [hwP_rDel]
        show delE G.hw x.who s = _
        unfold delE
        split
        · rfl
        · exact h.hw s
      · have ha : delE F.en x.who s = some (3, a) := ha
        unfold delE at ha
        split at ha
        · cases ha
        · exact h.dn s a ha
      · rw [hwP_rDel] at hcs
        unfold delE at hcs
        split at hcs
        · cases hcs
        · exact h.c0 hs s c hcs
      · exact Nat.le_trans (List.length_filter_le _ _) h.len
    · have h2 : hwP F x.who = none := by cases hh : hwP F x.who with | none => rfl | some c => rw [hh] at h1; exact absurd rfl h1
      rw [if_neg h1, if_pos (.inr h2)]
      exact .inl ⟨rfl, rfl⟩
  · rw [h.rdy]
    by_cases h1 : (rdyP F).length < 2
    · rw [if_pos h1, if_pos (.inr h1)]
      exact .inl ⟨rfl, rfl⟩
    · rw [if_neg h1, if_neg (by rintro (h3 | h3); exact hq h3; exact h1 h3)]
      refine .inr ⟨_, _, rfl, rfl, ⟨rfl, fun s => ?_, fun _ => ⟨rfl, h0, Int.le_refl _⟩, (fun h3 => by cases h3), fun s a ha => ?_, fun _ s c hcs => ?_, (fun h3 => by cases h3), ?_⟩⟩
      · rw [hwP_go]
        show (if G.hw s = some 1 then some 2 else none) = _
        rw [h.hw]
      · have ha : (if hwP F s = some 1 then some ((2 : Nat), (0 : Int)) else none) = some (3, a) := ha
        split at ha
        · injection ha with ha; injection ha with ha _; cases ha
        · cases ha
      · rw [hwP_go] at hcs
        split at hcs
        · injection hcs with hcs; omega
        · cases hcs
      · exact Nat.le_trans (List.length_filter_le _ _) h.len
  · refine .inl ?_
    unfold mvQ
    rw [hw]
    have h1 : ¬ hwP F x.who = some 2 := fun h2 => by have := hc 2 h2; omega
    rw [if_neg h1]
    simp
  · refine .inl ?_
    unfold mvQ
    rw [hw]
    exact if_neg (fun h2 => by have := hc 2 h2; omega)
  · rw [hw]
    refine .inl (if_neg ?_)
    rintro (h2 | h2)
    · have := hc 3 h2; omega
    · have := hc 4 h2; omega
theorem RF.after {F : PF} {G : QF} {t : Int} (h : RF F G t) (x : Stp) (hx : t ≤ x.at_) (hk : 1 ≤ x.kind ∧ x.kind ≤ 8) (hs : F.st = true) : BothS F G x.at_ x := by
  obtain ⟨hq0, hp0, hp1⟩ := h.on hs
  have hq : 0 ≤ G.at0 := by omega
  have hp : stpP F x = aftP F x := by unfold stpP; rw [if_pos hs]
  have hw := h.hw x.who
  have hc := h.c1 hs x.who
  have h00 : ¬ hwP F x.who = some 0 := fun h2 => by have := hc 0 h2; omega
  have h01 : ¬ hwP F x.who = some 1 := fun h2 => by have := hc 1 h2; omega
  have hst : ¬ F.st = false := by rw [hs]; simp
  unfold BothS
  rw [hp]
  unfold aftP stpQ
  rcases (show x.kind = 1 ∨ x.kind = 2 ∨ x.kind = 3 ∨ x.kind = 4 ∨ x.kind = 5 ∨ x.kind = 6 ∨ x.kind = 7 ∨ x.kind = 8 by omega) with e | e | e | e | e | e | e | e <;> simp only [e, Int.reduceEq, ↓reduceIte, false_and, true_and, ite_self]
  · exact .inl (if_pos (.inl hq))
  · unfold mvQ
    rw [hw]
    exact .inl (if_neg h00)
  · unfold mvQ
    rw [hw]
    exact .inl (if_neg h01)
  · exact .inl (if_pos (.inl hq))
  · exact .inl (if_pos (.inl hq))
  · unfold mvQ
    rw [hw]
    by_cases h2 : hwP F x.who = some 2
    · by_cases h3 : F.at0 < x.at_
      · refine .inr ?_
        rw [if_neg (by rw [h2]; simp), if_pos ⟨h2, h3⟩, if_neg (show ¬ x.at_ = G.at0 by omega), if_pos h2]
        exact ⟨_, _, rfl, rfl, h.set hx x.who 3 x.at_ _ (fun s hn => setE_ne _ _ hn) (fun _ => ⟨setE_same _ _ _, h3⟩) (fun _ => by omega) (fun h4 => absurd h4 hst)⟩
      · refine .inl ?_
        rw [if_neg (by rw [h2]; simp), if_neg (fun h4 => h3 h4.2), if_pos (show x.at_ = G.at0 by omega)]
        exact ⟨rfl, rfl⟩
    · refine .inl ⟨?_, ?_⟩
      · split
        · rfl
        · exact if_neg (fun h4 => h2 h4.1)
      · rw [if_neg h2]; split <;> rfl
  · unfold mvQ
    rw [hw]
    by_cases h2 : hwP F x.who = some 2
    · refine .inr ?_
      rw [if_neg (by rw [h2]; simp), if_pos h2, if_pos h2]
      exact ⟨_, _, rfl, rfl, h.set hx x.who 4 0 _ (fun s hn => setE_ne _ _ hn) (by intro h3; cases h3) (fun _ => by omega) (fun h4 => absurd h4 hst)⟩
    · refine .inl ⟨?_, if_neg h2⟩
      rw [if_neg h2]; split <;> rfl
  · rw [hw]
    by_cases h5 : hwP F x.who = none
    · refine .inl ⟨if_pos h5, if_neg ?_⟩
      rw [h5]
      simp
    · by_cases h2 : hwP F x.who = some 2
      · refine .inl ⟨?_, if_neg ?_⟩
        · rw [if_neg h5, if_neg (fun h4 => h4 h2)]
        · rw [h2]; simp
      · have h34 : hwP F x.who = some 3 ∨ hwP F x.who = some 4 := by
          cases hh : hwP F x.who with
          | none => exact absurd hh h5
          | some c =>
            have h6 := hc c hh
            rw [hh] at h2
            have h7 : c ≠ 2 := fun e => h2 (by rw [e])
            rcases (show c = 3 ∨ c = 4 by omega) with rfl | rfl
            · exact .inl rfl
            · exact .inr rfl
        refine .inr ?_
        rw [if_neg h5, if_pos h2, if_pos h34]
        exact ⟨_, _, rfl, rfl, h.set hx x.who 2 0 G.en (fun _ _ => rfl) (by intro h3; cases h3) (fun _ => by omega) (fun h4 => absurd h4 hst)⟩
theorem RF.step {F : PF} {G : QF} {t : Int} (h : RF F G t) (x : Stp) (hx : t ≤ x.at_) (h0 : 0 ≤ x.at_) (hk : 1 ≤ x.kind ∧ x.kind ≤ 8) : BothS F G x.at_ x := by
  cases hs : F.st with
  | true => exact h.after x hx hk hs
  | false => exact h.before x hx h0 hk hs
/-- steps that follow one another in time -/
def StSrt (l : List Stp) : Prop := l.Pairwise (fun a b => a.at_ ≤ b.at_)
theorem rfol_rel : ∀ (l : List Stp) (F : PF) (G : QF) (i : Nat) (bad : List Int) (t : Int), RF F G t → (∀ x ∈ l, t ≤ x.at_ ∧ 0 ≤ x.at_ ∧ 1 ≤ x.kind ∧ x.kind ≤ 8) → StSrt l →
    ∃ F' G' i' bad' t', l.foldl (accS stpP) (F, i, bad) = (F', i', bad') ∧ l.foldl (accS stpQ) (G, i, bad) = (G', i', bad') ∧ RF F' G' t' ∧ t ≤ t' ∧ (∀ y, t ≤ y → (∀ x ∈ l, x.at_ ≤ y) → t' ≤ y)
  | [], F, G, i, bad, t, h, _, _ => ⟨F, G, i, bad, t, rfl, rfl, h, Int.le_refl _, fun _ hy _ => hy⟩
  | x :: l, F, G, i, bad, t, h, hl, hs => by
    obtain ⟨h1, h2, h3⟩ := hl x (List.mem_cons_self ..)
    obtain ⟨hs1, hs2⟩ := List.pairwise_cons.1 hs
    have hl2 : ∀ y ∈ l, x.at_ ≤ y.at_ ∧ 0 ≤ y.at_ ∧ 1 ≤ y.kind ∧ y.kind ≤ 8 := fun y hy => ⟨hs1 y hy, (hl y (List.mem_cons_of_mem _ hy)).2⟩
    rcases h.step x h1 h2 h3 with ⟨n1, n2⟩ | ⟨F', G', n1, n2, hr⟩
    · obtain ⟨F2, G2, i2, b2, t2, e1, e2, e3, e4, e5⟩ := rfol_rel l F G (i + 1) (bad ++ [(i : Int)]) x.at_ (h.later h1) hl2 hs2
      refine ⟨F2, G2, i2, b2, t2, ?_, ?_, e3, by omega, fun y hy hx => e5 y (hx x (List.mem_cons_self ..)) (fun z hz => hx z (List.mem_cons_of_mem _ hz))⟩
      · rw [List.foldl_cons, accS_none n1]; exact e1
      · rw [List.foldl_cons, accS_none n2]; exact e2
    · obtain ⟨F2, G2, i2, b2, t2, e1, e2, e3, e4, e5⟩ := rfol_rel l F' G' (i + 1) bad x.at_ hr hl2 hs2
      refine ⟨F2, G2, i2, b2, t2, ?_, ?_, e3, by omega, fun y hy hx => e5 y (hx x (List.mem_cons_self ..)) (fun z hz => hx z (List.mem_cons_of_mem _ hz))⟩
      · rw [List.foldl_cons, accS_some n1]; exact e1
      · rw [List.foldl_cons, accS_some n2]; exact e2
theorem accQ_late (u : Int) : ∀ (l : List Stp) (a : QF × Nat × List Int), (∀ x ∈ l, u < x.at_) → (l.foldl (accQ u) a).1 = a.1 ∧ (l.foldl (accQ u) a).2.2 = a.2.2
  | [], _, _ => ⟨rfl, rfl⟩
  | x :: l, a, h => by
    have hx := h x (List.mem_cons_self ..)
    have h2 := accQ_late u l (accQ u a x) (fun y hy => h y (List.mem_cons_of_mem _ hy))
    have h3 : accQ u a x = (a.1, a.2.1 + 1, a.2.2) := by unfold accQ; rw [if_neg (by omega)]
    rw [List.foldl_cons]
    rw [h3] at h2 ⊢
    exact h2
theorem accQ_early (u : Int) : ∀ (l : List Stp) (a : QF × Nat × List Int), (∀ x ∈ l, x.at_ ≤ u) → l.foldl (accQ u) a = l.foldl (accS stpQ) a
  | [], _, _ => rfl
  | x :: l, a, h => by
    have hx := h x (List.mem_cons_self ..)
    rw [List.foldl_cons, List.foldl_cons, show accQ u a x = accS stpQ a x by unfold accQ; rw [if_pos hx]]
    exact accQ_early u l _ (fun y hy => h y (List.mem_cons_of_mem _ hy))
theorem untilS_parts (u : Int) : ∀ l : List Stp, StSrt l → ∃ l2, l = untilS u l ++ l2 ∧ (∀ x ∈ untilS u l, x.at_ ≤ u) ∧ ∀ x ∈ l2, u < x.at_
  | [], _ => ⟨[], rfl, (by intro x hx; cases hx), (by intro x hx; cases hx)⟩
  | x :: l, h => by
    obtain ⟨h1, h2⟩ := List.pairwise_cons.1 h
    by_cases hx : x.at_ ≤ u
    · obtain ⟨l2, e1, e2, e3⟩ := untilS_parts u l h2
      have he : untilS u (x :: l) = x :: untilS u l := by unfold untilS; rw [List.takeWhile_cons_of_pos (by simpa using hx)]
      rw [he]
      refine ⟨l2, by rw [List.cons_append, ← e1], fun y hy => ?_, e3⟩
      rcases List.mem_cons.1 hy with rfl | hy
      · exact hx
      · exact e2 y hy
    · have he : untilS u (x :: l) = [] := by unfold untilS; rw [List.takeWhile_cons_of_neg (by simpa using hx)]
      rw [he]
      refine ⟨x :: l, rfl, (by intro y hy; cases hy), fun y hy => ?_⟩
      rcases List.mem_cons.1 hy with rfl | hy
      · omega
      · have := h1 y hy; omega
/-- both stand alike behind the steps up to a moment -/
theorem rfolP_rel (l : List Stp) (u : Int) (hs : StSrt l) (hl : ∀ x ∈ l, 0 ≤ x.at_ ∧ 1 ≤ x.kind ∧ x.kind ≤ 8) :
    (∃ t, RF (rfolP l u).1 (rfolQ l u).1 t) ∧ (rfolP l u).2.2 = (rfolQ l u).2.2 := by
  obtain ⟨l2, e1, e2, e3⟩ := untilS_parts u l hs
  have hsub : ∀ x ∈ untilS u l, x ∈ l := fun x hx => by rw [e1]; exact List.mem_append_left _ hx
  have hs1 : StSrt (untilS u l) := by
    have := hs
    rw [e1] at this
    exact (List.pairwise_append.1 this).1
  obtain ⟨F, G, i, bad, t, k1, k2, k3, _, _⟩ := rfol_rel (untilS u l) pf0 qf0 0 [] 0 (RF.start 0) (fun x hx => ⟨(hl x (hsub x hx)).1, hl x (hsub x hx)⟩) hs1
  have h1 : rfolP l u = (F, i, bad) := k1
  have h2 : rfolQ l u = l2.foldl (accQ u) (G, i, bad) := by
    have : rfolQ l u = (untilS u l ++ l2).foldl (accQ u) (qf0, 0, []) := by rw [← e1]; rfl
    rw [this, List.foldl_append, accQ_early u _ _ e2, k2]
  obtain ⟨m1, m2⟩ := accQ_late u l2 (G, i, bad) e3
  rw [h2, m1, m2, h1]
  exact ⟨⟨t, k3⟩, rfl⟩
end Go.Proofs.YthbcogekfdllmaaGreat
