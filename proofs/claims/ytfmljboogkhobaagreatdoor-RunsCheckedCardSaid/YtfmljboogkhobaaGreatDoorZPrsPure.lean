/-
  Clocks in plain words: the program's clock, the reference's attempt, and that they stand alike. No Go text is named here.
-/
import Derived.Test.YtfmljboogkhobaaGreatDoorZCutPure
import Derived.Test.YtfmljboogkhobaaGreatDoorZSlot5
namespace Go.Proofs.YtfmljboogkhobaaGreatDoor
open Go Go.RowKit

/-- a press: when, and its kind -/
abbrev Pz := Int × Int
def pzC (p : Pz) : List Value := [.int .i64 p.1, .int .i64 p.2]
theorem pzC_len (p : Pz) : (pzC p).length = 2 := rfl

structure Clk where
  phase : Int
  loads : Bool
  at_ : Int
  real : Int
  game : Int
  cuts : List Cut
  end_ : Cut
  begun : Int
  done : Int
def clk0 : Clk := ⟨0, false, 0, 0, 0, [], (0, 0, false), 0, 0⟩
def advP (c : Clk) (t : Int) : Clk :=
  { c with real := if c.phase = 1 ∨ c.phase = 3 then c.real + (t - c.at_) else c.real,
           game := if c.phase = 1 ∨ c.phase = 3 then (if c.loads = true then c.game else c.game + (t - c.at_)) else c.game, at_ := t }
def cutP (n : Nat) (c : Clk) (x : Cut) : Clk :=
  if c.cuts.length + 1 = n then { c with cuts := c.cuts ++ [x], phase := 3, end_ := x } else { c with cuts := c.cuts ++ [x] }
def resetP (c : Clk) : Clk := { c with done := if c.phase = 3 then c.done + 1 else c.done, phase := 0, real := 0, game := 0, loads := false, cuts := [] }
/-- is a press refused? c: the clock that has gone on to it -/
def refP (n : Nat) (c : Clk) (k : Int) : Bool :=
  if k = 1 then decide (c.phase ≠ 0)
  else if k = 2 then decide (c.phase ≠ 1)
  else if k = 3 then decide (c.phase ≠ 1 ∨ c.cuts.length + 1 = n)
  else if k = 4 then decide (c.phase = 0 ∨ c.cuts.length = 0)
  else if k = 5 then decide (c.phase ≠ 1)
  else if k = 6 then decide (c.phase ≠ 2)
  else if k = 7 then decide (c.phase ≠ 1) || c.loads
  else if k = 8 then decide (c.phase ≠ 1) || !c.loads
  else decide (c.phase = 0)
def doneP (n : Nat) (c : Clk) (k : Int) : Clk :=
  if k = 1 then { c with phase := 1, real := 0, game := 0, loads := false, cuts := [], begun := c.begun + 1 }
  else if k = 2 then cutP n c (c.real, c.game, false)
  else if k = 3 then cutP n c (0, 0, true)
  else if k = 4 then { c with cuts := c.cuts.take (c.cuts.length - 1), phase := if c.phase = 3 then 1 else c.phase }
  else if k = 5 then { c with phase := 2 }
  else if k = 6 then { c with phase := 1 }
  else if k = 7 then { c with loads := true }
  else if k = 8 then { c with loads := false }
  else resetP c
def pressP (n : Nat) (c : Clk) (p : Pz) : Clk := if refP n (advP c p.1) p.2 = true then advP c p.1 else doneP n (advP c p.1) p.2

structure Att where
  start : Int
  ended : List Pz
  breaks : List Pz
def runS (r : Bool) (p : Pz) : Bool := if p.2 = 5 then false else if p.2 = 6 then true else r
def loadS (r : Bool) (p : Pz) : Bool := if p.2 = 7 then true else if p.2 = 8 then false else r
def runsQ (b : List Pz) : Bool := b.foldl runS true
def loadsQ (b : List Pz) : Bool := b.foldl loadS false
def phaseQ (n : Nat) : Option Att → Int
  | none => 0
  | some a => if a.ended.length = n then 3 else if runsQ a.breaks = true then 1 else 2
structure TSt where
  real : Int
  game : Int
  runs : Bool
  loads : Bool
  last : Int
def stepT (t : Int) (s : TSt) (p : Pz) : TSt :=
  ⟨if s.runs = true then s.real + (min p.1 t - min s.last t) else s.real, if s.runs = true then (if s.loads = true then s.game else s.game + (min p.1 t - min s.last t)) else s.game, runS s.runs p, loadS s.loads p, p.1⟩
def tim0 (start : Int) : TSt := ⟨0, 0, true, false, start⟩
def timT (start : Int) (b : List Pz) (t : Int) : TSt := (b ++ [(t, 0)]).foldl (stepT t) (tim0 start)
def timesQ (start : Int) (b : List Pz) (t : Int) : Int × Int := ((timT start b t).real, (timT start b t).game)
def refQ (n : Nat) (a : Option Att) (k : Int) : Bool :=
  if k = 1 then decide (phaseQ n a ≠ 0)
  else if k = 2 then decide (phaseQ n a ≠ 1)
  else if k = 3 then decide (phaseQ n a ≠ 1) || (match a with | none => false | some x => decide (x.ended.length + 1 = n))
  else if k = 4 then decide (phaseQ n a = 0) || (match a with | none => true | some x => decide (x.ended.length = 0))
  else if k = 5 then decide (phaseQ n a ≠ 1)
  else if k = 6 then decide (phaseQ n a ≠ 2)
  else if k = 7 then decide (phaseQ n a ≠ 1) || (match a with | none => true | some x => loadsQ x.breaks)
  else if k = 8 then decide (phaseQ n a ≠ 1) || (match a with | none => true | some x => !loadsQ x.breaks)
  else decide (phaseQ n a = 0)
def doneQ (a : Option Att) (p : Pz) : Option Att :=
  if p.2 = 1 then some ⟨p.1, [], []⟩
  else if p.2 = 2 ∨ p.2 = 3 then a.map fun x => { x with ended := x.ended ++ [p] }
  else if p.2 = 4 then a.map fun x => { x with ended := x.ended.take (x.ended.length - 1) }
  else if p.2 = 5 ∨ p.2 = 6 ∨ p.2 = 7 ∨ p.2 = 8 then a.map fun x => { x with breaks := x.breaks ++ [p] }
  else none
def pressQ (n : Nat) (a : Option Att) (p : Pz) : Option Att := if refQ n a p.2 = true then a else doneQ a p

/-! ### times -/
theorem fold_last (t : Int) : ∀ (b : List Pz) (s : TSt), (∀ p ∈ b, p.1 ≤ t) → s.last ≤ t → (b.foldl (stepT t) s).last ≤ t
  | [], _, _, h => h
  | p :: b, s, hb, _ => fold_last t b (stepT t s p) (fun q hq => hb q (List.mem_cons_of_mem _ hq)) (hb p (List.mem_cons_self ..))
theorem fold_flags (t : Int) : ∀ (b : List Pz) (s : TSt), (b.foldl (stepT t) s).runs = b.foldl runS s.runs ∧ (b.foldl (stepT t) s).loads = b.foldl loadS s.loads
  | [], _ => ⟨rfl, rfl⟩
  | p :: b, s => fold_flags t b (stepT t s p)
/-- up to a later moment, the same -/
theorem fold_up (t t' : Int) (h : t ≤ t') : ∀ (b : List Pz) (s : TSt), (∀ p ∈ b, p.1 ≤ t) → s.last ≤ t → b.foldl (stepT t) s = b.foldl (stepT t') s
  | [], _, _, _ => rfl
  | p :: b, s, hb, hs => by
    have hp := hb p (List.mem_cons_self ..)
    have he : stepT t s p = stepT t' s p := by
      unfold stepT
      rw [Int.min_eq_left hp, Int.min_eq_left hs, Int.min_eq_left (Int.le_trans hp h), Int.min_eq_left (Int.le_trans hs h)]
    rw [List.foldl_cons, List.foldl_cons, ← he]
    exact fold_up t t' h b (stepT t s p) (fun q hq => hb q (List.mem_cons_of_mem _ hq)) hp
theorem timT_eq (start : Int) (b : List Pz) (t : Int) : timT start b t = stepT t (b.foldl (stepT t) (tim0 start)) (t, 0) := by
  unfold timT
  rw [List.foldl_append]
  rfl
/-- how the times go on -/
theorem times_on (start : Int) (b : List Pz) (t t' : Int) (h : t ≤ t') (hb : ∀ p ∈ b, p.1 ≤ t) (hs : start ≤ t) :
    timesQ start b t' = (if runsQ b = true then (timesQ start b t).1 + (t' - t) else (timesQ start b t).1, if runsQ b = true then (if loadsQ b = true then (timesQ start b t).2 else (timesQ start b t).2 + (t' - t)) else (timesQ start b t).2) := by
  have hl := fold_last t b (tim0 start) hb hs
  have hu := fold_up t t' h b (tim0 start) hb hs
  obtain ⟨f1, f2⟩ := fold_flags t b (tim0 start)
  unfold timesQ
  rw [timT_eq, timT_eq, ← hu]
  obtain ⟨s, he⟩ : ∃ s, b.foldl (stepT t) (tim0 start) = s := ⟨_, rfl⟩
  rw [he] at hl f1 f2 ⊢
  have r1 : runsQ b = s.runs := f1.symm
  have r2 : loadsQ b = s.loads := f2.symm
  rw [r1, r2]
  unfold stepT
  simp only
  rw [Int.min_eq_left (Int.le_refl t), Int.min_eq_left (Int.le_refl t'), Int.min_eq_left hl, Int.min_eq_left (Int.le_trans hl h)]
  cases s.runs <;> cases s.loads <;> simp <;> omega
/-- a break that is not before a moment changes nothing of the times up to this -/
theorem times_break (start : Int) (b : List Pz) (p : Pz) (t : Int) (h : t ≤ p.1) : timesQ start (b ++ [p]) t = timesQ start b t := by
  unfold timesQ
  rw [timT_eq, timT_eq, List.foldl_append]
  obtain ⟨s, he⟩ : ∃ s, b.foldl (stepT t) (tim0 start) = s := ⟨_, rfl⟩
  rw [he]
  simp only [List.foldl_cons, List.foldl_nil]
  unfold stepT
  simp only
  rw [Int.min_eq_right h, Int.min_eq_left (Int.le_refl t)]
  cases s.runs <;> cases s.loads <;> simp only [if_true, if_false, Bool.false_eq_true] <;> (try (cases runS _ p <;> cases loadS _ p <;> simp)) <;> (try omega)
theorem times_new (t : Int) : timesQ t [] t = (0, 0) := by
  unfold timesQ timT tim0
  simp [stepT]

/-! ### both stand alike -/
def cutQ (a : Att) (p : Pz) : Cut := if p.2 = 3 then (0, 0, true) else ((timesQ a.start a.breaks p.1).1, (timesQ a.start a.breaks p.1).2, false)
structure CRel (n : Nat) (c : Clk) (a : Option Att) : Prop where
  phase : c.phase = phaseQ n a
  none_ : a = none → c.cuts = [] ∧ c.real = 0 ∧ c.game = 0 ∧ c.loads = false
  some_ : ∀ x, a = some x → c.loads = loadsQ x.breaks ∧ (c.real, c.game) = timesQ x.start x.breaks c.at_ ∧ c.cuts = x.ended.map (cutQ x) ∧ (∀ p ∈ x.breaks, p.1 ≤ c.at_) ∧ x.start ≤ c.at_ ∧
    (∀ p ∈ x.ended, p.1 ≤ c.at_) ∧ x.ended.length ≤ n ∧ (x.ended.length = n → runsQ x.breaks = true ∧ c.cuts.getLast? = some c.end_)
theorem CRel.start (n : Nat) : CRel n clk0 none := ⟨rfl, fun _ => ⟨rfl, rfl, rfl, rfl⟩, fun x hx => by cases hx⟩
theorem phase_cases (n : Nat) (x : Att) : phaseQ n (some x) = 3 ∧ x.ended.length = n ∨ phaseQ n (some x) = 1 ∧ x.ended.length ≠ n ∧ runsQ x.breaks = true ∨ phaseQ n (some x) = 2 ∧ x.ended.length ≠ n ∧ runsQ x.breaks = false := by
  unfold phaseQ
  by_cases h : x.ended.length = n
  · exact .inl ⟨by simp [h], h⟩
  · cases hr : runsQ x.breaks
    · exact .inr (.inr ⟨by simp [h, hr], h, rfl⟩)
    · exact .inr (.inl ⟨by simp [h, hr], h, rfl⟩)
theorem CRel.adv {n : Nat} {c : Clk} {a : Option Att} (h : CRel n c a) (t : Int) (ht : c.at_ ≤ t) : CRel n (advP c t) a := by
  refine ⟨h.phase, fun ha => ?_, fun x hx => ?_⟩
  · obtain ⟨h1, h2, h3, h4⟩ := h.none_ ha
    have hp : c.phase = 0 := by rw [h.phase, ha]; rfl
    refine ⟨h1, ?_, ?_, h4⟩
    · simp [advP, hp, h2]
    · simp [advP, hp, h3]
  · obtain ⟨h1, h2, h3, h4, h5, h6, h7, h8⟩ := h.some_ x hx
    have hon := times_on x.start x.breaks c.at_ t ht h4 h5
    rw [← h2, ← h1] at hon
    have hp := h.phase
    rw [hx] at hp
    refine ⟨h1, ?_, h3, fun p hp => Int.le_trans (h4 p hp) ht, Int.le_trans h5 ht, fun p hp => Int.le_trans (h6 p hp) ht, h7, h8⟩
    rw [show (advP c t).at_ = t from rfl, hon]
    unfold advP
    simp only
    rcases phase_cases n x with ⟨k1, k2⟩ | ⟨k1, k2, k3⟩ | ⟨k1, k2, k3⟩
    · rw [k1] at hp
      simp [hp, (h8 k2).1]
    · rw [k1] at hp
      simp [hp, k3]
    · rw [k1] at hp
      simp [hp, k3]
theorem ref_eq {n : Nat} {c : Clk} {a : Option Att} (h : CRel n c a) (k : Int) : refP n c k = refQ n a k := by
  unfold refP refQ
  rw [h.phase]
  cases a with
  | none =>
    obtain ⟨h1, _, _, h4⟩ := h.none_ rfl
    simp [phaseQ]
  | some x =>
    obtain ⟨h1, _, h3, _⟩ := h.some_ x rfl
    have hl : c.cuts.length = x.ended.length := by rw [h3]; simp
    rw [hl, h1]
    simp only [Bool.decide_or]
theorem cut_break (x : Att) (p q : Pz) (h : q.1 ≤ p.1) : cutQ { x with breaks := x.breaks ++ [p] } q = cutQ x q := by
  unfold cutQ
  simp only
  rw [times_break _ _ _ _ h]
theorem runs_snoc (b : List Pz) (p : Pz) : runsQ (b ++ [p]) = runS (runsQ b) p := by simp [runsQ]
theorem loads_snoc (b : List Pz) (p : Pz) : loadsQ (b ++ [p]) = loadS (loadsQ b) p := by simp [loadsQ]
theorem CRel.ended {n : Nat} {c : Clk} {x : Att} {p : Pz} (h : CRel n c (some x)) (hat : c.at_ = p.1) (hp : phaseQ n (some x) = 1) (y : Cut) (hy : cutQ x p = y) : CRel n (cutP n c y) (some { x with ended := x.ended ++ [p] }) := by
  obtain ⟨h1, h2, h3, h4, h5, h6, h7, h8⟩ := h.some_ x rfl
  have hl : c.cuts.length = x.ended.length := by rw [h3]; simp
  obtain ⟨q1, q2⟩ : x.ended.length ≠ n ∧ runsQ x.breaks = true := by
    rcases phase_cases n x with ⟨k1, _⟩ | ⟨_, k2, k3⟩ | ⟨k1, _⟩
    · omega
    · exact ⟨k2, k3⟩
    · omega
  have hc : c.cuts ++ [y] = (x.ended ++ [p]).map (cutQ { x with ended := x.ended ++ [p] }) := by
    rw [h3, List.map_append, List.map_singleton]
    exact congrArg (fun z => x.ended.map (cutQ x) ++ [z]) hy.symm
  have h6' : ∀ q ∈ x.ended ++ [p], q.1 ≤ c.at_ := by
    intro q hq
    rcases List.mem_append.1 hq with hq | hq
    · exact h6 q hq
    · simp at hq; subst hq; omega
  unfold cutP
  by_cases hn : c.cuts.length + 1 = n
  · rw [if_pos hn]
    refine ⟨?_, fun e => by (cases e), fun z hz => ?_⟩
    · simp [phaseQ]; omega
    · injection hz with hz
      subst hz
      exact ⟨h1, h2, hc, h4, h5, h6', by simp; omega, fun _ => ⟨q2, by simp⟩⟩
  · rw [if_neg hn]
    refine ⟨?_, fun e => by (cases e), fun z hz => ?_⟩
    · rw [show ({ c with cuts := c.cuts ++ [y] } : Clk).phase = c.phase from rfl, h.phase, hp]
      simp [phaseQ, q2]; omega
    · injection hz with hz
      subst hz
      exact ⟨h1, h2, hc, h4, h5, h6', by simp; omega, fun e => by simp at e; omega⟩
theorem CRel.broken {n : Nat} {c : Clk} {x : Att} {p : Pz} (h : CRel n c (some x)) (hat : c.at_ = p.1) (hl : x.ended.length ≠ n) (ph : Int) (ld : Bool) (hp : ph = if runS (runsQ x.breaks) p = true then 1 else 2) (hd : ld = loadS (loadsQ x.breaks) p) :
    CRel n { c with phase := ph, loads := ld } (some { x with breaks := x.breaks ++ [p] }) := by
  obtain ⟨h1, h2, h3, h4, h5, h6, h7, h8⟩ := h.some_ x rfl
  refine ⟨?_, fun e => by (cases e), fun z hz => ?_⟩
  · simp only [phaseQ, runs_snoc]
    rw [if_neg hl, hp]
  · injection hz with hz
    subst hz
    refine ⟨by rw [hd]; exact (loads_snoc _ _).symm, ?_, ?_, ?_, h5, h6, h7, fun e => absurd e hl⟩
    · rw [show ({ c with phase := ph, loads := ld } : Clk).at_ = c.at_ from rfl]
      simp only
      rw [times_break _ _ _ _ (by omega)]
      exact h2
    · simp only
      rw [h3]
      refine List.map_congr_left fun q hq => ?_
      exact (cut_break x p q (by have := h6 q hq; omega)).symm
    · intro q hq
      rcases List.mem_append.1 hq with hq | hq
      · exact h4 q hq
      · simp at hq; subst hq; simp only; omega
theorem CRel.done {n : Nat} (hn : 1 ≤ n) {c : Clk} {a : Option Att} {p : Pz} (h : CRel n c a) (hat : c.at_ = p.1) (hk : 1 ≤ p.2 ∧ p.2 ≤ 9) (hr : refQ n a p.2 = false) : CRel n (doneP n c p.2) (doneQ a p) := by
  unfold refQ at hr
  rcases (show p.2 = 1 ∨ p.2 = 2 ∨ p.2 = 3 ∨ p.2 = 4 ∨ p.2 = 5 ∨ p.2 = 6 ∨ p.2 = 7 ∨ p.2 = 8 ∨ p.2 = 9 by omega) with k | k | k | k | k | k | k | k | k
  · -- start
    refine ⟨?_, fun e => ?_, fun z hz => ?_⟩
    · simp [doneP, doneQ, k, phaseQ, runsQ]; omega
    · simp [doneQ, k] at e
    · simp [doneQ, k] at hz
      subst hz
      refine ⟨by simp [doneP, k, loadsQ], ?_, by simp [doneP, k], by simp, by simp [doneP, k]; omega, by simp, by simp, fun e => ?_⟩
      · simp only [doneP, k, if_true, hat]
        exact (times_new _).symm
      · simp at e; omega
  · -- split
    cases a with
    | none => simp [k, phaseQ] at hr
    | some x =>
      have hp : phaseQ n (some x) = 1 := by simpa [k] using hr
      have e1 : doneP n c p.2 = cutP n c (c.real, c.game, false) := by simp [doneP, k]
      have e2 : doneQ (some x) p = some { x with ended := x.ended ++ [p] } := by simp [doneQ, k]
      rw [e1, e2]
      refine h.ended hat hp _ ?_
      obtain ⟨_, h2, _⟩ := h.some_ x rfl
      unfold cutQ
      rw [if_neg (by omega), ← hat, ← h2]
  · -- skip
    cases a with
    | none => simp [k, phaseQ] at hr
    | some x =>
      have hp : phaseQ n (some x) = 1 := by simp [k] at hr; exact hr.1
      have e1 : doneP n c p.2 = cutP n c (0, 0, true) := by simp [doneP, k]
      have e2 : doneQ (some x) p = some { x with ended := x.ended ++ [p] } := by simp [doneQ, k]
      rw [e1, e2]
      refine h.ended hat hp _ ?_
      unfold cutQ
      rw [if_pos k]
  · -- undo
    cases a with
    | none => simp [k, phaseQ] at hr
    | some x =>
      obtain ⟨h1, h2, h3, h4, h5, h6, h7, h8⟩ := h.some_ x rfl
      have hne : x.ended.length ≠ 0 := by
        simp [k] at hr
        intro e
        exact hr.2 (List.eq_nil_of_length_eq_zero e)
      have e2 : doneQ (some x) p = some { x with ended := x.ended.take (x.ended.length - 1) } := by simp [doneQ, k]
      have hl : (x.ended.take (x.ended.length - 1)).length = x.ended.length - 1 := by rw [List.length_take]; omega
      have hcl : c.cuts.length = x.ended.length := by rw [h3]; simp
      rw [e2]
      refine ⟨?_, fun e => by (cases e), fun z hz => ?_⟩
      · have hp := h.phase
        simp only [phaseQ, hl]
        rw [if_neg (by omega)]
        simp only [doneP, k]
        rcases phase_cases n x with ⟨k1, k2⟩ | ⟨k1, k2, k3⟩ | ⟨k1, k2, k3⟩
        · rw [k1] at hp; simp [hp, (h8 k2).1]
        · rw [k1] at hp; simp [hp, k3]
        · rw [k1] at hp; simp [hp, k3]
      · injection hz with hz
        subst hz
        refine ⟨by simpa [doneP, k] using h1, by simpa [doneP, k] using h2, ?_, by simpa [doneP, k] using h4, by simpa [doneP, k] using h5, ?_, by simp only [hl]; omega, fun e => by simp only [hl] at e; omega⟩
        · have : (doneP n c p.2).cuts = c.cuts.take (c.cuts.length - 1) := by simp [doneP, k]
          rw [this, hcl, h3, ← List.map_take]
          rfl
        · intro q hq
          have := h6 q (List.mem_of_mem_take hq)
          simpa [doneP, k] using this
  · -- pause
    cases a with
    | none => simp [k, phaseQ] at hr
    | some x =>
      have hp : phaseQ n (some x) = 1 := by simpa [k] using hr
      have e1 : doneP n c p.2 = { c with phase := 2, loads := c.loads } := by simp [doneP, k]
      have e2 : doneQ (some x) p = some { x with breaks := x.breaks ++ [p] } := by simp [doneQ, k]
      rw [e1, e2]
      refine h.broken hat ?_ _ _ (by simp [runS, k]) (by rw [(h.some_ x rfl).1]; simp [loadS, k])
      rcases phase_cases n x with ⟨k1, _⟩ | ⟨_, k2, _⟩ | ⟨k1, _⟩ <;> omega
  · -- resume
    cases a with
    | none => simp [k, phaseQ] at hr
    | some x =>
      have hp : phaseQ n (some x) = 2 := by simpa [k] using hr
      have e1 : doneP n c p.2 = { c with phase := 1, loads := c.loads } := by simp [doneP, k]
      have e2 : doneQ (some x) p = some { x with breaks := x.breaks ++ [p] } := by simp [doneQ, k]
      rw [e1, e2]
      refine h.broken hat ?_ _ _ (by simp [runS, k]) (by rw [(h.some_ x rfl).1]; simp [loadS, k])
      rcases phase_cases n x with ⟨k1, _⟩ | ⟨k1, _⟩ | ⟨_, k2, _⟩ <;> omega
  · -- load
    cases a with
    | none => simp [k, phaseQ] at hr
    | some x =>
      have hp : phaseQ n (some x) = 1 := by simp [k] at hr; exact hr.1
      have e1 : doneP n c p.2 = { c with phase := c.phase, loads := true } := by simp [doneP, k]
      have e2 : doneQ (some x) p = some { x with breaks := x.breaks ++ [p] } := by simp [doneQ, k]
      rw [e1, e2]
      have hq : x.ended.length ≠ n ∧ runsQ x.breaks = true := by rcases phase_cases n x with ⟨k1, _⟩ | ⟨_, k2, k3⟩ | ⟨k1, _⟩; omega; exact ⟨k2, k3⟩; omega
      refine h.broken hat hq.1 _ _ (by rw [h.phase, hp]; simp [runS, k, hq.2]) (by simp [loadS, k])
  · -- loaded
    cases a with
    | none => simp [k, phaseQ] at hr
    | some x =>
      have hp : phaseQ n (some x) = 1 := by simp [k] at hr; exact hr.1
      have e1 : doneP n c p.2 = { c with phase := c.phase, loads := false } := by simp [doneP, k]
      have e2 : doneQ (some x) p = some { x with breaks := x.breaks ++ [p] } := by simp [doneQ, k]
      rw [e1, e2]
      have hq : x.ended.length ≠ n ∧ runsQ x.breaks = true := by rcases phase_cases n x with ⟨k1, _⟩ | ⟨_, k2, k3⟩ | ⟨k1, _⟩; omega; exact ⟨k2, k3⟩; omega
      refine h.broken hat hq.1 _ _ (by rw [h.phase, hp]; simp [runS, k, hq.2]) (by simp [loadS, k])
  · -- reset
    have e1 : doneP n c p.2 = resetP c := by simp [doneP, k]
    have e2 : doneQ a p = none := by simp [doneQ, k]
    rw [e1, e2]
    exact ⟨rfl, fun _ => ⟨rfl, rfl, rfl, rfl⟩, fun x hx => by cases hx⟩
theorem CRel.press {n : Nat} (hn : 1 ≤ n) {c : Clk} {a : Option Att} {p : Pz} (h : CRel n c a) (hat : c.at_ ≤ p.1) (hk : 1 ≤ p.2 ∧ p.2 ≤ 9) : CRel n (pressP n c p) (pressQ n a p) := by
  have h1 := h.adv p.1 hat
  unfold pressP pressQ
  rw [ref_eq h1]
  cases hr : refQ n a p.2
  · rw [if_neg (by decide), if_neg (by decide)]
    exact h1.done hn rfl hk hr
  · rw [if_pos rfl, if_pos rfl]
    exact h1
/-! ### all presses -/
theorem done_begun (n : Nat) (c : Clk) (k : Int) (hk : 1 ≤ k ∧ k ≤ 9) : (doneP n c k).begun = (if k = 1 then c.begun + 1 else c.begun) ∧ (doneP n c k).done = (if k = 9 ∧ c.phase = 3 then c.done + 1 else c.done) := by
  rcases (show k = 1 ∨ k = 2 ∨ k = 3 ∨ k = 4 ∨ k = 5 ∨ k = 6 ∨ k = 7 ∨ k = 8 ∨ k = 9 by omega) with k | k | k | k | k | k | k | k | k <;> subst k <;> (unfold doneP) <;> simp [cutP, resetP] <;> split <;> simp
theorem done_at (n : Nat) (c : Clk) (k : Int) : (doneP n c k).at_ = c.at_ := by
  unfold doneP cutP resetP
  repeat' split
  all_goals rfl
/-- the program's clock, and the refused ones, behind k presses -/
def folP (n : Nat) (u : Int) (l : List Pz) : Nat → Clk × List Int
  | 0 => (clk0, [])
  | k + 1 => match l[k]? with
    | none => folP n u l k
    | some p => if p.1 ≤ u then (pressP n (folP n u l k).1 p, if refP n (advP (folP n u l k).1 p.1) p.2 = true then (folP n u l k).2 ++ [(k : Int)] else (folP n u l k).2) else folP n u l k
structure PlSt where
  a : Option Att
  refused : List Int
  begun : Int
  done : Int
/-- the reference's attempt, and what it counts, behind k presses -/
def plaQ (n : Nat) (l : List Pz) : Nat → PlSt
  | 0 => ⟨none, [], 0, 0⟩
  | k + 1 => match l[k]? with
    | none => plaQ n l k
    | some p => if refQ n (plaQ n l k).a p.2 = true then { plaQ n l k with refused := (plaQ n l k).refused ++ [(k : Int)] }
      else ⟨doneQ (plaQ n l k).a p, (plaQ n l k).refused, if p.2 = 1 then (plaQ n l k).begun + 1 else (plaQ n l k).begun, if p.2 = 9 ∧ phaseQ n (plaQ n l k).a = 3 then (plaQ n l k).done + 1 else (plaQ n l k).done⟩
theorem folP_step (n : Nat) (u : Int) (l : List Pz) (k : Nat) (hk : k < l.length) : folP n u l (k + 1) =
    if l[k].1 ≤ u then (pressP n (folP n u l k).1 l[k], if refP n (advP (folP n u l k).1 l[k].1) l[k].2 = true then (folP n u l k).2 ++ [(k : Int)] else (folP n u l k).2) else folP n u l k := by
  rw [folP, List.getElem?_eq_getElem hk]
theorem plaQ_step (n : Nat) (l : List Pz) (k : Nat) (hk : k < l.length) : plaQ n l (k + 1) =
    if refQ n (plaQ n l k).a l[k].2 = true then { plaQ n l k with refused := (plaQ n l k).refused ++ [(k : Int)] }
      else ⟨doneQ (plaQ n l k).a l[k], (plaQ n l k).refused, if l[k].2 = 1 then (plaQ n l k).begun + 1 else (plaQ n l k).begun, if l[k].2 = 9 ∧ phaseQ n (plaQ n l k).a = 3 then (plaQ n l k).done + 1 else (plaQ n l k).done⟩ := by
  rw [plaQ, List.getElem?_eq_getElem hk]
structure PzOk (l : List Pz) : Prop where
  at_ : ∀ p ∈ l, 0 ≤ p.1 ∧ p.1 ≤ 345686399999
  kind : ∀ p ∈ l, 1 ≤ p.2 ∧ p.2 ≤ 9
  order : ∀ i (h : i + 1 < l.length), l[i].1 ≤ l[i + 1].1
structure PRel (n : Nat) (l : List Pz) (k : Nat) (c : Clk × List Int) (q : PlSt) : Prop where
  rel : CRel n c.1 q.a
  refused : c.2 = q.refused
  begun : c.1.begun = q.begun
  done : c.1.done = q.done
  at0 : k = 0 → c.1.at_ = 0
  at_ : ∀ i (h : i < l.length), i + 1 = k → c.1.at_ = l[i].1
theorem fol_rel {n : Nat} (hn : 1 ≤ n) {l : List Pz} (hl : PzOk l) (u : Int) : ∀ k, k ≤ l.length → (∀ i (h : i < l.length), i < k → l[i].1 ≤ u) → PRel n l k (folP n u l k) (plaQ n l k)
  | 0, _, _ => ⟨CRel.start n, rfl, rfl, rfl, fun _ => rfl, fun i _ h => by omega⟩
  | k + 1, hk, hu => by
    have hlt : k < l.length := by omega
    have ih := fol_rel hn hl u k (by omega) (fun i h hi => hu i h (by omega))
    have hm := List.getElem_mem hlt
    have hkd := hl.kind _ hm
    have hle : (folP n u l k).1.at_ ≤ l[k].1 := by
      cases k with
      | zero => rw [ih.at0 rfl]; exact (hl.at_ _ hm).1
      | succ j => rw [ih.at_ j (by omega) rfl]; exact hl.order j (by omega)
    have hadv := ih.rel.adv l[k].1 hle
    have hre := ref_eq hadv l[k].2
    rw [folP_step n u l k hlt, if_pos (hu k hlt (by omega)), plaQ_step n l k hlt]
    have hpr := ih.rel.press hn hle hkd
    unfold pressP pressQ at hpr
    unfold pressP
    rw [hre] at hpr ⊢
    cases hr : refQ n (plaQ n l k).a l[k].2
    · rw [hr, if_neg (by decide), if_neg (by decide)] at hpr
      simp only [Bool.false_eq_true, if_false]
      obtain ⟨b1, b2⟩ := done_begun n (advP (folP n u l k).1 l[k].1) l[k].2 hkd
      refine ⟨hpr, ih.refused, ?_, ?_, fun e => by omega, fun i h e => ?_⟩
      · rw [b1]
        rw [show (advP (folP n u l k).1 l[k].1).begun = (folP n u l k).1.begun from rfl, ih.begun]
      · rw [b2]
        rw [show (advP (folP n u l k).1 l[k].1).done = (folP n u l k).1.done from rfl, show (advP (folP n u l k).1 l[k].1).phase = (folP n u l k).1.phase from rfl, ih.done, ih.rel.phase]
      · obtain rfl : i = k := by omega
        rw [done_at]
        rfl
    · rw [hr, if_pos rfl, if_pos rfl] at hpr
      simp only [if_true]
      refine ⟨hpr, by rw [ih.refused], ih.begun, ih.done, fun e => by omega, fun i h e => ?_⟩
      obtain rfl : i = k := by omega
      rfl
end Go.Proofs.YtfmljboogkhobaaGreatDoor
/-
  What is wrong with presses: CheckPresses, fault and their twins of the reference by contracts. (Printed by gen_prs1.py.)
-/
namespace Go.Proofs.YtfmljboogkhobaaGreatDoor
open Go Go.RowKit

def pBeh (pv : Option Int) (x : Int) : Bool := match pv with
  | none => false
  | some y => decide (x < y)
def prE (pv : Option Int) (p : Pz) : Int := if momB p.1 = true then (if outB p.2 1 9 = true then 4 else if pBeh pv p.1 = true then 7 else 0) else 1
def prG : Option Int → List Pz → Int
  | _, [] => 0
  | pv, p :: l => if prE pv p = 0 then prG (some p.1) l else prE pv p
/-- what is wrong with presses -/
def prF (l : List Pz) : Int := if 2000 < l.length then 2 else prG none l
def pPrev (l : List Pz) (k : Nat) : Option Int := match k with
  | 0 => none
  | k + 1 => (l[k]?).map fun p => p.1
theorem prG_step (l : List Pz) (k : Nat) (hk : k < l.length) : prG (pPrev l k) (l.drop k) = if prE (pPrev l k) l[k] = 0 then prG (pPrev l (k + 1)) (l.drop (k + 1)) else prE (pPrev l k) l[k] := by
  have hp : pPrev l (k + 1) = some l[k].1 := by simp [pPrev, List.getElem?_eq_getElem hk]
  rw [List.drop_eq_getElem_cons hk, prG, hp]
def segF (n : Int) (l : List Pz) : Int := if outB n 1 100 = true then 1 else prF l
theorem prE_ok {pv : Option Int} {p : Pz} (h : prE pv p = 0) : (0 ≤ p.1 ∧ p.1 ≤ 345686399999) ∧ (1 ≤ p.2 ∧ p.2 ≤ 9) ∧ pBeh pv p.1 = false := by
  unfold prE at h
  by_cases h1 : momB p.1 = true
  · rw [if_pos h1] at h
    by_cases h2 : outB p.2 1 9 = true
    · rw [if_pos h2] at h; exact absurd h (by decide)
    · rw [if_neg h2] at h
      by_cases h3 : pBeh pv p.1 = true
      · rw [if_pos h3] at h; exact absurd h (by decide)
      · refine ⟨?_, ?_, by simpa using h3⟩
        · unfold momB outB at h1; simp at h1; exact h1
        · unfold outB at h2; simp at h2; omega
  · rw [if_neg h1] at h; exact absurd h (by decide)
theorem prG_ok : ∀ (l : List Pz) (pv : Option Int), prG pv l = 0 → (∀ p ∈ l, (0 ≤ p.1 ∧ p.1 ≤ 345686399999) ∧ (1 ≤ p.2 ∧ p.2 ≤ 9)) ∧ (∀ i (h : i + 1 < l.length), l[i].1 ≤ l[i + 1].1) ∧ (∀ (h : 0 < l.length), pBeh pv l[0].1 = false)
  | [], _, _ => ⟨(by intro p hp; cases hp), fun i h => absurd h (by simp), fun h => absurd h (by simp)⟩
  | p :: l, pv, h => by
    rw [prG] at h
    by_cases h0 : prE pv p = 0
    · rw [if_pos h0] at h
      obtain ⟨a1, a2, a3⟩ := prE_ok h0
      obtain ⟨b1, b2, b3⟩ := prG_ok l (some p.1) h
      refine ⟨fun q hq => ?_, fun i hi => ?_, fun _ => a3⟩
      · rcases List.mem_cons.1 hq with rfl | hq
        · exact ⟨a1, a2⟩
        · exact b1 q hq
      · cases i with
        | zero =>
          have := b3 (by simp at hi; omega)
          unfold pBeh at this
          simp at this
          simpa using this
        | succ i => simpa using b2 i (by simp at hi; omega)
    · rw [if_neg h0] at h; exact absurd h h0
theorem prF_ok {l : List Pz} (h : prF l = 0) : PzOk l ∧ l.length ≤ 2000 := by
  unfold prF at h
  by_cases hl : 2000 < l.length
  · rw [if_pos hl] at h; exact absurd h (by decide)
  · rw [if_neg hl] at h
    obtain ⟨h1, h2, _⟩ := prG_ok l none h
    exact ⟨⟨fun p hp => (h1 p hp).1, fun p hp => (h1 p hp).2, h2⟩, by omega⟩

end Go.Proofs.YtfmljboogkhobaaGreatDoor
/-
  Presses as values: what a new one takes, and lists of them in cells.
-/
namespace Go.Proofs.YtfmljboogkhobaaGreatDoor
open Go Go.RowKit

theorem one2p {x y : Value} (hx : x.oneCell' = true) (hy : y.oneCell' = true) : ∀ u ∈ [x, y], u.oneCell' = true := by
  intro u hu
  simp at hu
  rcases hu with rfl | rfl <;> assumption
theorem flat_pz (l : List Pz) (p : Pz) : (l ++ [p]).flatMap pzC = l.flatMap pzC ++ pzC p := flat_snoc pzC l p
end Go.Proofs.YtfmljboogkhobaaGreatDoor
