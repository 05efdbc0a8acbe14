/-
  What is live in a marathon, in plain words: both sides of chapter 9's CheckLive and Expected. No Go text is named here.
-/
import Derived.Test.YthbcogekfdllmaaGreatDoorZSlotPure
namespace Go.Proofs.YthbcogekfdllmaaGreatDoor
open Go Go.RowKit

/-- something live: at, kind, key -/
abbrev Lv := Int × Int × ByteArray
def lvC (y : Lv) : List Value := [.int .i64 y.1, .int .i64 y.2.1, .string y.2.2]
theorem lvC_len (y : Lv) : (lvC y).length = 3 := rfl
/-- when a slot began, when it ended, whether it is out -/
def seen1 (key : ByteArray) (s : Int × Int × Bool) (y : Lv) : Int × Int × Bool :=
  if eqS y.2.2 key = true then (if y.2.1 = 1 then (y.1, s.2.1, s.2.2) else if y.2.1 = 2 then (s.1, y.1, s.2.2) else (s.1, s.2.1, true)) else s
def seenF (p : List Lv) (key : ByteArray) : Int × Int × Bool := p.foldl (seen1 key) (-1, -1, false)
theorem seenF_snoc (p : List Lv) (y : Lv) (key : ByteArray) : seenF (p ++ [y]) key = seen1 key (seenF p key) y := by simp [seenF]
/-- how a slot goes -/
structure Stg where
  began : Bool
  ended : Bool
  out : Bool
  at_ : Int
  end_ : Int
def stgD : Stg := ⟨false, false, false, 0, 0⟩
structure ShowP where
  st : ByteArray → Stg
  order : List ByteArray
  on : Bool
def show0 : ShowP := ⟨fun _ => stgD, [], false⟩
def setSt (st : ByteArray → Stg) (s : ByteArray) (v : Stg) : ByteArray → Stg := fun t => if t = s then v else st t
def stepP (S : ShowP) (y : Lv) : Option ShowP :=
  if y.2.1 = 1 then (if ((S.st y.2.2).began || (S.st y.2.2).out || S.on) = true then none else some ⟨setSt S.st y.2.2 { S.st y.2.2 with began := true, at_ := y.1 }, S.order ++ [y.2.2], true⟩)
  else if y.2.1 = 2 then (if (!(S.st y.2.2).began || (S.st y.2.2).ended) = true then none else some ⟨setSt S.st y.2.2 { S.st y.2.2 with ended := true, end_ := y.1 }, S.order, false⟩)
  else (if ((S.st y.2.2).began || (S.st y.2.2).out) = true then none else some ⟨setSt S.st y.2.2 { S.st y.2.2 with out := true }, S.order, S.on⟩)
def stateP (p : List Lv) : ShowP := p.foldl (fun S y => (stepP S y).getD S) show0
theorem stateP_snoc (p : List Lv) (y : Lv) : stateP (p ++ [y]) = (stepP (stateP p) y).getD (stateP p) := by simp [stateP]
def wrongP (p : List Lv) (y : Lv) : Bool := (stepP (stateP p) y).isNone

/-- what is wrong with something live by itself -/
def lateB (pre : List Lv) (y : Lv) : Bool := match pre.getLast? with | some z => decide (y.1 < z.1) | none => false
def lvE (xs : List Slt) (pre : List Lv) (y : Lv) : Int := if momB y.1 = true then if outB y.2.1 1 3 = true then 4 else if findL xs y.2.2 < 0 then 8 else if lateB pre y = true then 7 else 0 else 1
def liveG (wrong : List Lv → Lv → Bool) (xs : List Slt) : List Lv → List Lv → Int
  | _, [] => 0
  | pre, y :: ys => if lvE xs pre y = 0 then if wrong pre y = true then 11 else liveG wrong xs (pre ++ [y]) ys else lvE xs pre y
def liveF (wrong : List Lv → Lv → Bool) (xs : List Slt) (ys : List Lv) : Int := if slotsF xs = 0 then if 400 < ys.length then 2 else liveG wrong xs [] ys else slotsF xs
theorem liveG_step (wrong : List Lv → Lv → Bool) (xs : List Slt) (ys : List Lv) (k : Nat) (hk : k < ys.length) : liveG wrong xs (ys.take k) (ys.drop k) =
    if lvE xs (ys.take k) ys[k] = 0 then if wrong (ys.take k) ys[k] = true then 11 else liveG wrong xs (ys.take (k + 1)) (ys.drop (k + 1)) else lvE xs (ys.take k) ys[k] := by
  rw [List.drop_eq_getElem_cons hk, liveG, List.take_succ_eq_append_getElem hk]
theorem lateB_succ (ys : List Lv) (y : Lv) (k : Nat) (hk : k < ys.length) : lateB (ys.take (k + 1)) y = decide (y.1 < ys[k].1) := by
  unfold lateB
  rw [List.take_succ_eq_append_getElem hk, List.getLast?_concat]

/-- what holds of what is live and right -/
structure Inv (xs : List Slt) (p : List Lv) : Prop where
  began : ∀ key, ((stateP p).st key).began = decide (0 ≤ (seenF p key).1)
  ended : ∀ key, ((stateP p).st key).ended = decide (0 ≤ (seenF p key).2.1)
  out : ∀ key, ((stateP p).st key).out = (seenF p key).2.2
  end_ : ∀ key, 0 ≤ (seenF p key).2.1 → ((stateP p).st key).end_ = (seenF p key).2.1
  one : (stateP p).on = true → ∃ x ∈ xs, 0 ≤ (seenF p x.key).1 ∧ (seenF p x.key).2.1 < 0
  uniq : (stateP p).on = true → ∀ k k', 0 ≤ (seenF p k).1 → (seenF p k).2.1 < 0 → 0 ≤ (seenF p k').1 → (seenF p k').2.1 < 0 → k = k'
  off : (stateP p).on = false → ∀ key, 0 ≤ (seenF p key).1 → 0 ≤ (seenF p key).2.1
  order : (stateP p).order = (p.filter (fun y => decide (y.2.1 = 1))).map (fun y => y.2.2)
  at_ : ∀ y ∈ p, y.2.1 = 1 → ((stateP p).st y.2.2).at_ = y.1 ∧ 0 ≤ (seenF p y.2.2).1
  fnd : ∀ y ∈ p, 0 ≤ findL xs y.2.2
  bd : ∀ y ∈ p, 0 ≤ y.1 ∧ y.1 ≤ 345686399999
  eb : ∀ key, 0 ≤ (seenF p key).2.1 → 0 ≤ (seenF p key).1
  lo : ∀ key, -1 ≤ (seenF p key).1 ∧ (seenF p key).1 ≤ 345686399999 ∧ -1 ≤ (seenF p key).2.1 ∧ (seenF p key).2.1 ≤ 345686399999
theorem Inv.start (xs : List Slt) : Inv xs [] := by
  refine ⟨fun key => rfl, fun key => rfl, fun key => rfl, fun key h => ?_, fun h => ?_, fun h => ?_, fun _ key h => ?_, rfl, (by intro y hy; cases hy), (by intro y hy; cases hy), (by intro y hy; cases hy), fun key h => absurd h (by simp [seenF]), fun key => by simp [seenF]⟩
  · exact absurd h (by simp [seenF])
  · exact absurd h (by simp [stateP, show0])
  · exact absurd h (by simp [stateP, show0])
  · exact absurd h (by simp [seenF])
theorem momB_iff (f : Int) : momB f = true ↔ 0 ≤ f ∧ f ≤ 345686399999 := by
  unfold momB outB
  simp
theorem findL_mem {xs : List Slt} {key : ByteArray} (h : 0 ≤ findL xs key) : ∃ x ∈ xs, x.key = key := by
  have := ixOf_mem (fun x : Slt => eqS x.key key) xs
  rw [show decide (0 ≤ ixOf (fun x : Slt => eqS x.key key) xs) = true from decide_eq_true h] at this
  obtain ⟨x, hx, he⟩ := List.any_eq_true.1 this.symm
  exact ⟨x, hx, (eqS_iff _ _).1 he⟩
theorem eqS_self (s : ByteArray) : eqS s s = true := (eqS_iff s s).2 rfl
theorem eqS_ne {s t : ByteArray} (h : s ≠ t) : eqS s t = false := by
  cases he : eqS s t
  · rfl
  · exact absurd ((eqS_iff s t).1 he) h
theorem lvE_zero {xs : List Slt} {p : List Lv} {y : Lv} (h : lvE xs p y = 0) : (0 ≤ y.1 ∧ y.1 ≤ 345686399999) ∧ (y.2.1 = 1 ∨ y.2.1 = 2 ∨ y.2.1 = 3) ∧ 0 ≤ findL xs y.2.2 ∧ lateB p y = false := by
  unfold lvE at h
  by_cases h1 : momB y.1 = true
  · rw [if_pos h1] at h
    by_cases h2 : outB y.2.1 1 3 = true
    · rw [if_pos h2] at h; exact absurd h (by decide)
    · rw [if_neg h2] at h
      by_cases h3 : findL xs y.2.2 < 0
      · rw [if_pos h3] at h; exact absurd h (by decide)
      · rw [if_neg h3] at h
        by_cases h4 : lateB p y = true
        · rw [if_pos h4] at h; exact absurd h (by decide)
        · refine ⟨(momB_iff _).1 h1, ?_, by omega, by simpa using h4⟩
          unfold outB at h2
          simp at h2
          omega
  · rw [if_neg h1] at h; exact absurd h (by decide)
end Go.Proofs.YthbcogekfdllmaaGreatDoor
/-
  What is live in a marathon, on: the invariant's step, both sides are one; when slots are expected. No Go text is named here.
-/
namespace Go.Proofs.YthbcogekfdllmaaGreatDoor
open Go Go.RowKit

theorem seen_other {p : List Lv} {y : Lv} {k : ByteArray} (h : k ≠ y.2.2) : seenF (p ++ [y]) k = seenF p k := by
  rw [seenF_snoc, seen1, if_neg (by rw [eqS_ne (Ne.symm h)]; simp)]
theorem seen_same (p : List Lv) (y : Lv) : seenF (p ++ [y]) y.2.2 = if y.2.1 = 1 then (y.1, (seenF p y.2.2).2.1, (seenF p y.2.2).2.2) else if y.2.1 = 2 then ((seenF p y.2.2).1, y.1, (seenF p y.2.2).2.2) else ((seenF p y.2.2).1, (seenF p y.2.2).2.1, true) := by
  rw [seenF_snoc, seen1, if_pos (eqS_self _)]
theorem setSt_same (st : ByteArray → Stg) (s : ByteArray) (v : Stg) : setSt st s v s = v := by simp [setSt]
theorem setSt_other {st : ByteArray → Stg} {s t : ByteArray} {v : Stg} (h : t ≠ s) : setSt st s v t = st t := by simp [setSt, h]
theorem Inv.step {xs : List Slt} {p : List Lv} {y : Lv} (hI : Inv xs p) (h0 : lvE xs p y = 0) (hw : wrongP p y = false) : Inv xs (p ++ [y]) := by
  obtain ⟨⟨y0, y1⟩, hk, hf, _⟩ := lvE_zero h0
  have hfnd : ∀ z ∈ p ++ [y], 0 ≤ findL xs z.2.2 := by
    intro z hz
    rcases List.mem_append.1 hz with hz | hz
    · exact hI.fnd z hz
    · simp at hz; subst hz; exact hf
  have hbd : ∀ z ∈ p ++ [y], 0 ≤ z.1 ∧ z.1 ≤ 345686399999 := by
    intro z hz
    rcases List.mem_append.1 hz with hz | hz
    · exact hI.bd z hz
    · simp at hz; subst hz; exact ⟨y0, y1⟩
  have hss := seen_same p y
  have hlo := hI.lo y.2.2
  have b := hI.began y.2.2
  have e := hI.ended y.2.2
  have o := hI.out y.2.2
  unfold wrongP stepP at hw
  rcases hk with hk | hk | hk
  · rw [if_pos hk] at hw hss
    have hc : ¬ ((((stateP p).st y.2.2).began || ((stateP p).st y.2.2).out || (stateP p).on) = true) := by
      intro h; rw [if_pos h] at hw; simp at hw
    have hS : stateP (p ++ [y]) = ⟨setSt (stateP p).st y.2.2 { (stateP p).st y.2.2 with began := true, at_ := y.1 }, (stateP p).order ++ [y.2.2], true⟩ := by
      rw [stateP_snoc, stepP, if_pos hk, if_neg hc]; rfl
    simp at hc
    obtain ⟨⟨hb, ho⟩, hon⟩ := hc
    have hnb : (seenF p y.2.2).1 < 0 := by rw [hb] at b; have := b.symm; simp at this; omega
    have hne : (seenF p y.2.2).2.1 < 0 := by
      rcases Int.lt_or_le (seenF p y.2.2).2.1 0 with h | h
      · exact h
      · have := hI.eb y.2.2 h; omega
    have hoff := hI.off hon
    refine ⟨fun k => ?_, fun k => ?_, fun k => ?_, fun k hk0 => ?_, fun _ => ?_, fun _ k k' h1 h2 h3 h4 => ?_, fun h => ?_, ?_, fun z hz hz1 => ?_, hfnd, hbd, fun k hk0 => ?_, fun k => ?_⟩
    · rw [hS]
      by_cases h : k = y.2.2
      · subst h; simp only [setSt_same]; rw [hss]; simp [y0]
      · simp only [setSt_other h]; rw [seen_other h]; exact hI.began k
    · rw [hS]
      by_cases h : k = y.2.2
      · subst h; simp only [setSt_same]; rw [hss]; exact e
      · simp only [setSt_other h]; rw [seen_other h]; exact hI.ended k
    · rw [hS]
      by_cases h : k = y.2.2
      · subst h; simp only [setSt_same]; rw [hss]; exact o
      · simp only [setSt_other h]; rw [seen_other h]; exact hI.out k
    · rw [hS]
      by_cases h : k = y.2.2
      · subst h; rw [hss] at hk0; simp only at hk0; omega
      · simp only [setSt_other h]; rw [seen_other h] at hk0 ⊢; exact hI.end_ k hk0
    · obtain ⟨x, hx, hxk⟩ := findL_mem hf
      refine ⟨x, hx, ?_⟩
      rw [hxk, hss]
      exact ⟨y0, hne⟩
    · have hall : ∀ j, 0 ≤ (seenF (p ++ [y]) j).1 → (seenF (p ++ [y]) j).2.1 < 0 → j = y.2.2 := by
        intro j hj1 hj2
        by_cases h : j = y.2.2
        · exact h
        · rw [seen_other h] at hj1 hj2
          have := hoff j hj1
          omega
      rw [hall k h1 h2, hall k' h3 h4]
    · rw [hS] at h; simp at h
    · rw [hS, List.filter_append, List.map_append, hI.order]
      simp [hk]
    · rw [hS]
      rcases List.mem_append.1 hz with hz | hz
      · obtain ⟨ha, hb2⟩ := hI.at_ z hz hz1
        have h : z.2.2 ≠ y.2.2 := by intro h; rw [h] at hb2; omega
        simp only [setSt_other h]
        rw [seen_other h]
        exact ⟨ha, hb2⟩
      · simp at hz; subst hz
        simp only [setSt_same]
        rw [hss]
        exact ⟨trivial, y0⟩
    · by_cases h : k = y.2.2
      · subst h; rw [hss]; exact y0
      · rw [seen_other h] at hk0 ⊢; exact hI.eb k hk0
    · by_cases h : k = y.2.2
      · subst h; rw [hss]; simp only; omega
      · rw [seen_other h]; exact hI.lo k
  · rw [hk, if_neg (show ¬ (2 : Int) = 1 by decide), if_pos rfl] at hw
    rw [hk, if_neg (show ¬ (2 : Int) = 1 by decide), if_pos rfl] at hss
    have hc : ¬ ((!((stateP p).st y.2.2).began || ((stateP p).st y.2.2).ended) = true) := by
      intro h; rw [if_pos h] at hw; simp at hw
    have hS : stateP (p ++ [y]) = ⟨setSt (stateP p).st y.2.2 { (stateP p).st y.2.2 with ended := true, end_ := y.1 }, (stateP p).order, false⟩ := by
      rw [stateP_snoc, stepP, hk, if_neg (show ¬ (2 : Int) = 1 by decide), if_pos rfl, if_neg hc]; rfl
    simp at hc
    obtain ⟨hb, he⟩ := hc
    have hnb : 0 ≤ (seenF p y.2.2).1 := by rw [hb] at b; have := b.symm; simp at this; omega
    have hne : (seenF p y.2.2).2.1 < 0 := by rw [he] at e; have := e.symm; simp at this; omega
    refine ⟨fun k => ?_, fun k => ?_, fun k => ?_, fun k hk0 => ?_, fun h => ?_, fun h => ?_, fun _ k hk0 => ?_, ?_, fun z hz hz1 => ?_, hfnd, hbd, fun k hk0 => ?_, fun k => ?_⟩
    · rw [hS]
      by_cases h : k = y.2.2
      · subst h; simp only [setSt_same]; rw [hss]; exact b
      · simp only [setSt_other h]; rw [seen_other h]; exact hI.began k
    · rw [hS]
      by_cases h : k = y.2.2
      · subst h; simp only [setSt_same]; rw [hss]; simp [y0]
      · simp only [setSt_other h]; rw [seen_other h]; exact hI.ended k
    · rw [hS]
      by_cases h : k = y.2.2
      · subst h; simp only [setSt_same]; rw [hss]; exact o
      · simp only [setSt_other h]; rw [seen_other h]; exact hI.out k
    · rw [hS]
      by_cases h : k = y.2.2
      · subst h; simp only [setSt_same]; rw [hss]
      · simp only [setSt_other h]; rw [seen_other h] at hk0 ⊢; exact hI.end_ k hk0
    · rw [hS] at h; simp at h
    · rw [hS] at h; simp at h
    · by_cases h : k = y.2.2
      · subst h; rw [hss]; exact y0
      · rw [seen_other h] at hk0 ⊢
        cases hon : (stateP p).on
        · exact hI.off hon k hk0
        · rcases Int.lt_or_le (seenF p k).2.1 0 with hlt | hle
          · exact absurd (hI.uniq hon k y.2.2 hk0 hlt hnb hne) h
          · exact hle
    · rw [hS, List.filter_append, List.map_append, hI.order]
      simp [hk]
    · rw [hS]
      rcases List.mem_append.1 hz with hz | hz
      · obtain ⟨ha, hb2⟩ := hI.at_ z hz hz1
        by_cases h : z.2.2 = y.2.2
        · rw [h] at ha hb2 ⊢
          simp only [setSt_same]
          rw [hss]
          exact ⟨ha, hb2⟩
        · simp only [setSt_other h]
          rw [seen_other h]
          exact ⟨ha, hb2⟩
      · simp at hz; subst hz; omega
    · by_cases h : k = y.2.2
      · subst h; rw [hss]; exact hnb
      · rw [seen_other h] at hk0 ⊢; exact hI.eb k hk0
    · by_cases h : k = y.2.2
      · subst h; rw [hss]; simp only; omega
      · rw [seen_other h]; exact hI.lo k
  · rw [hk, if_neg (show ¬ (3 : Int) = 1 by decide), if_neg (show ¬ (3 : Int) = 2 by decide)] at hw
    rw [hk, if_neg (show ¬ (3 : Int) = 1 by decide), if_neg (show ¬ (3 : Int) = 2 by decide)] at hss
    have hc : ¬ ((((stateP p).st y.2.2).began || ((stateP p).st y.2.2).out) = true) := by
      intro h; rw [if_pos h] at hw; simp at hw
    have hS : stateP (p ++ [y]) = ⟨setSt (stateP p).st y.2.2 { (stateP p).st y.2.2 with out := true }, (stateP p).order, (stateP p).on⟩ := by
      rw [stateP_snoc, stepP, hk, if_neg (show ¬ (3 : Int) = 1 by decide), if_neg (show ¬ (3 : Int) = 2 by decide), if_neg hc]; rfl
    have h12 : ∀ k, (seenF (p ++ [y]) k).1 = (seenF p k).1 ∧ (seenF (p ++ [y]) k).2.1 = (seenF p k).2.1 := by
      intro k
      by_cases h : k = y.2.2
      · subst h; rw [hss]; exact ⟨rfl, rfl⟩
      · rw [seen_other h]; exact ⟨rfl, rfl⟩
    refine ⟨fun k => ?_, fun k => ?_, fun k => ?_, fun k hk0 => ?_, fun h => ?_, fun h k k' h1 h2 h3 h4 => ?_, fun h k hk0 => ?_, ?_, fun z hz hz1 => ?_, hfnd, hbd, fun k hk0 => ?_, fun k => ?_⟩
    · rw [hS, (h12 k).1]
      by_cases h : k = y.2.2
      · subst h; simp only [setSt_same]; exact b
      · simp only [setSt_other h]; exact hI.began k
    · rw [hS, (h12 k).2]
      by_cases h : k = y.2.2
      · subst h; simp only [setSt_same]; exact e
      · simp only [setSt_other h]; exact hI.ended k
    · rw [hS]
      by_cases h : k = y.2.2
      · subst h; simp only [setSt_same]; rw [hss]
      · simp only [setSt_other h]; rw [seen_other h]; exact hI.out k
    · rw [hS]
      rw [(h12 k).2] at hk0 ⊢
      by_cases h : k = y.2.2
      · subst h; simp only [setSt_same]; exact hI.end_ _ hk0
      · simp only [setSt_other h]; exact hI.end_ k hk0
    · rw [hS] at h
      obtain ⟨x, hx, h1, h2⟩ := hI.one h
      exact ⟨x, hx, by rw [(h12 _).1]; exact h1, by rw [(h12 _).2]; exact h2⟩
    · rw [hS] at h
      rw [(h12 _).1] at h1 h3
      rw [(h12 _).2] at h2 h4
      exact hI.uniq h k k' h1 h2 h3 h4
    · rw [hS] at h
      rw [(h12 _).1] at hk0
      rw [(h12 _).2]
      exact hI.off h k hk0
    · rw [hS, List.filter_append, List.map_append, hI.order]
      simp [hk]
    · rw [hS, (h12 _).1]
      rcases List.mem_append.1 hz with hz | hz
      · obtain ⟨ha, hb2⟩ := hI.at_ z hz hz1
        refine ⟨?_, hb2⟩
        by_cases h : z.2.2 = y.2.2
        · rw [h] at ha ⊢
          simp only [setSt_same]
          exact ha
        · simp only [setSt_other h]
          exact ha
      · simp at hz; subst hz; omega
    · rw [(h12 _).1]
      rw [(h12 _).2] at hk0
      exact hI.eb k hk0
    · rw [(h12 _).1, (h12 _).2]
      exact hI.lo k
def Srt (ys : List Lv) : Prop := ys.Pairwise (fun a b => a.1 ≤ b.1)
theorem Srt.snoc {pre : List Lv} {y : Lv} (h : Srt pre) (hl : lateB pre y = false) : Srt (pre ++ [y]) := by
  refine List.pairwise_append.2 ⟨h, List.pairwise_singleton _ _, fun a ha b hb => ?_⟩
  simp at hb
  subst hb
  rcases List.eq_nil_or_concat pre with rfl | ⟨q, z, rfl⟩
  · cases ha
  · rw [List.concat_eq_append] at ha hl h
    have hz : z.1 ≤ b.1 := by
      unfold lateB at hl
      rw [List.getLast?_concat] at hl
      simpa using hl
    rcases List.mem_append.1 ha with ha | ha
    · have := (List.pairwise_append.1 h).2.2 a ha z (by simp)
      omega
    · simp at ha; subst ha; exact hz
theorem live_good {xs : List Slt} : ∀ (rest pre : List Lv), Inv xs pre → Srt pre → liveG wrongP xs pre rest = 0 → (∀ m, m ≤ rest.length → Inv xs (pre ++ rest.take m)) ∧ Srt (pre ++ rest)
  | [], pre, hI, hs, _ => ⟨fun m _ => by simpa using hI, by simpa using hs⟩
  | y :: ys, pre, hI, hs, hg => by
    rw [liveG] at hg
    by_cases h0 : lvE xs pre y = 0
    · rw [if_pos h0] at hg
      cases hw : wrongP pre y
      · rw [hw] at hg
        simp only [Bool.false_eq_true, if_false] at hg
        obtain ⟨h1, h2⟩ := live_good ys (pre ++ [y]) (hI.step h0 hw) (hs.snoc (lvE_zero h0).2.2.2) hg
        refine ⟨fun m hm => ?_, by simpa using h2⟩
        cases m with
        | zero => simpa using hI
        | succ m => have := h1 m (by simpa using hm); simpa using this
      · rw [hw] at hg; simp at hg
    · rw [if_neg h0] at hg; exact absurd hg h0
theorem live_ok {xs : List Slt} {ys : List Lv} (h : liveF wrongP xs ys = 0) : (∀ m, m ≤ ys.length → Inv xs (ys.take m)) ∧ Srt ys ∧ ys.length ≤ 400 ∧ slotsF xs = 0 := by
  unfold liveF at h
  by_cases h0 : slotsF xs = 0
  · rw [if_pos h0] at h
    by_cases h4 : 400 < ys.length
    · rw [if_pos h4] at h; exact absurd h (by decide)
    · rw [if_neg h4] at h
      obtain ⟨h1, h2⟩ := live_good ys [] (Inv.start xs) List.Pairwise.nil h
      exact ⟨fun m hm => by simpa using h1 m hm, by simpa using h2, by omega, h0⟩
  · rw [if_neg h0] at h; exact absurd h h0
/-- what is known at a moment -/
def upTo (ys : List Lv) (at_ : Int) : List Lv := ys.filter (fun y => decide (y.1 ≤ at_))
theorem upTo_take : ∀ (ys : List Lv) (at_ : Int), Srt ys → ∃ m, m ≤ ys.length ∧ upTo ys at_ = ys.take m
  | [], _, _ => ⟨0, by simp, rfl⟩
  | y :: ys, at_, hs => by
    obtain ⟨h1, h2⟩ := List.pairwise_cons.1 hs
    by_cases h : y.1 ≤ at_
    · obtain ⟨m, hm, he⟩ := upTo_take ys at_ h2
      refine ⟨m + 1, by simpa using hm, ?_⟩
      unfold upTo at he ⊢
      rw [List.filter_cons, if_pos (by simpa using h), he]
      rfl
    · refine ⟨0, by simp, ?_⟩
      unfold upTo
      rw [List.take_zero, List.filter_eq_nil_iff]
      intro a ha
      rcases List.mem_cons.1 ha with rfl | ha
      · simpa using h
      · have := h1 a ha
        simp; omega
theorem live_upTo {xs : List Slt} {ys : List Lv} (h : liveF wrongP xs ys = 0) (at_ : Int) : Inv xs (upTo ys at_) := by
  obtain ⟨h1, h2, _⟩ := live_ok h
  obtain ⟨m, hm, he⟩ := upTo_take ys at_ h2
  rw [he]
  exact h1 m hm

/-- a slot that has begun: its key, when, whether it has ended, when -/
abbrev Ev := ByteArray × Int × Bool × Int
def evP (S : ShowP) : List Ev := S.order.map fun k => (k, (S.st k).at_, (S.st k).ended, if (S.st k).ended = true then (S.st k).end_ else 0)
def evQ (p : List Lv) : List Ev := (p.filter (fun y => decide (y.2.1 = 1))).map fun y => (y.2.2, y.1, decide (0 ≤ (seenF p y.2.2).2.1), if 0 ≤ (seenF p y.2.2).2.1 then (seenF p y.2.2).2.1 else 0)
theorem ev_eq {xs : List Slt} {p : List Lv} (hI : Inv xs p) : evP (stateP p) = evQ p := by
  unfold evP evQ
  rw [hI.order, List.map_map]
  refine List.map_congr_left (fun y hy => ?_)
  obtain ⟨hm, h1⟩ := List.mem_filter.1 hy
  have ha := (hI.at_ y hm (by simpa using h1)).1
  simp only [Function.comp, ha, hI.ended]
  by_cases h : 0 ≤ (seenF p y.2.2).2.1
  · simp [h, hI.end_ _ h]
  · simp [h]
def skipP (S : ShowP) (k : ByteArray) : Bool := (S.st k).began || (S.st k).out
def bplX (x : Slt) (at_ : Int) (e : Ev) : Plc := if e.2.2.1 = true then (e.1, e.2.1, min (e.2.1 + x.setup) e.2.2.2, e.2.2.2) else (e.1, e.2.1, e.2.1 + x.setup, max at_ (e.2.1 + x.setup + x.long))
def bplL (xs : List Slt) (at_ : Int) (e : Ev) : Plc := match xs[(findL xs e.1).toNat]? with
  | some x => bplX x at_ e
  | none => (e.1, 0, 0, 0)
theorem bplL_at (xs : List Slt) (at_ : Int) (e : Ev) (k : Nat) (hk : findL xs e.1 = k) (hlt : k < xs.length) : bplL xs at_ e = bplX xs[k] at_ e := by
  unfold bplL
  rw [hk, Int.toNat_natCast, List.getElem?_eq_getElem hlt]
/-- the places of the first i that have begun, and what is next -/
def fstTo (xs : List Slt) (at_ : Int) (evs : List Ev) (i : Nat) : List Plc := (evs.take i).map (bplL xs at_)
def nxtTo (xs : List Slt) (f at_ : Int) (evs : List Ev) : Nat → Int
  | 0 => max f at_
  | i + 1 => match evs[i]? with
    | some e => max at_ (bplL xs at_ e).2.2.2
    | none => 0
theorem fstTo_step (xs : List Slt) (at_ : Int) (evs : List Ev) (i : Nat) (hi : i < evs.length) : fstTo xs at_ evs (i + 1) = fstTo xs at_ evs i ++ [bplL xs at_ evs[i]] := by
  unfold fstTo
  rw [List.take_succ_eq_append_getElem hi, List.map_append]
  rfl
theorem nxtTo_step (xs : List Slt) (f at_ : Int) (evs : List Ev) (i : Nat) (hi : i < evs.length) : nxtTo xs f at_ evs (i + 1) = max at_ (bplL xs at_ evs[i]).2.2.2 := by
  rw [nxtTo, List.getElem?_eq_getElem hi]
def rstTo (skip : ByteArray → Bool) (nx : Int) (xs : List Slt) : Nat → List Plc × Int
  | 0 => ([], nx)
  | k + 1 => match xs[k]? with
    | some x => if skip x.key = true then rstTo skip nx xs k else ((rstTo skip nx xs k).1 ++ [plcOf (rstTo skip nx xs k).2 x], (rstTo skip nx xs k).2 + x.setup + x.long)
    | none => rstTo skip nx xs k
theorem rstTo_step (skip : ByteArray → Bool) (nx : Int) (xs : List Slt) (k : Nat) (hk : k < xs.length) : rstTo skip nx xs (k + 1) =
    if skip xs[k].key = true then rstTo skip nx xs k else ((rstTo skip nx xs k).1 ++ [plcOf (rstTo skip nx xs k).2 xs[k]], (rstTo skip nx xs k).2 + xs[k].setup + xs[k].long) := by
  rw [rstTo, List.getElem?_eq_getElem hk]
theorem rstTo_len (skip : ByteArray → Bool) (nx : Int) (xs : List Slt) : ∀ k, (rstTo skip nx xs k).1.length ≤ k
  | 0 => by simp [rstTo]
  | k + 1 => by
    have ih := rstTo_len skip nx xs k
    rw [rstTo]
    split
    · split
      · omega
      · simp; omega
    · omega
def expF (xs : List Slt) (f at_ : Int) (evs : List Ev) (skip : ByteArray → Bool) : List Plc := fstTo xs at_ evs evs.length ++ (rstTo skip (nxtTo xs f at_ evs evs.length) xs xs.length).1
end Go.Proofs.YthbcogekfdllmaaGreatDoor
