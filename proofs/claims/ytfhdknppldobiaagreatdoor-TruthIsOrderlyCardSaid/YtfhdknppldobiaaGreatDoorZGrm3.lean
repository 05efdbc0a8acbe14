/-
  Rules that are put together of parts: how parts are joined, and what Tidy makes of them. No Go text is named here.
-/
import Derived.Test.YtfhdknppldobiaaGreatDoorZGrm2
import Derived.Test.YtfhdknppldobiaaGreatDoorZLow
namespace Go.Proofs.YtfhdknppldobiaaGreatDoor
open Go Go.RowKit TxtP

/-- bytes and their tokens -/
structure LX (l : List UInt8) (u : List ByteArray) : Prop where
  cl : ∀ c ∈ l, cleanB c = true
  lx : (lexW [] l).map baOf = u
theorem LX.cut {l1 l2 : List UInt8} {u1 u2 : List ByteArray} (h1 : LX l1 u1) (h2 : LX l2 u2) (hb : l2 = [] ∨ ∃ c r, l2 = c :: r ∧ wordB c = false) : LX (l1 ++ l2) (u1 ++ u2) :=
  ⟨fun c hc => (List.mem_append.1 hc).elim (h1.cl c) (h2.cl c), by rw [lex_app _ _ _ hb, List.map_append, h1.lx, h2.lx]⟩
theorem LX.cutL {l1 : List UInt8} {c : UInt8} {l2 : List UInt8} {u1 u2 : List ByteArray} (h1 : LX (l1 ++ [c]) u1) (hc : wordB c = false) (h2 : LX l2 u2) : LX (l1 ++ [c] ++ l2) (u1 ++ u2) := by
  refine ⟨fun x hx => (List.mem_append.1 hx).elim (h1.cl x) (h2.cl x), ?_⟩
  have e1 := h1.lx
  rw [lex_app _ _ _ (.inr ⟨c, [], rfl, hc⟩)] at e1
  have e2 : l1 ++ [c] ++ l2 = l1 ++ (c :: l2) := by simp
  rw [e2, lex_app _ _ _ (.inr ⟨c, l2, rfl, hc⟩), ← e1, ← h2.lx]
  simp [lexW, hc]
theorem lex_all : ∀ (l acc : List UInt8), l.all wordB = true → lexW acc l = if acc ++ l = [] then [] else [acc ++ l]
  | [], acc, _ => by rw [lexW, List.append_nil]
  | c :: l, acc, h => by
    rw [List.all_cons, Bool.and_eq_true] at h
    rw [lexW, if_pos h.1, lex_all l _ h.2]
    simp
theorem LX.word {l : List UInt8} (h : l.all wordB = true) (hn : l ≠ []) : LX l [baOf l] := by
  refine ⟨fun c hc => ?_, ?_⟩
  · have := List.all_eq_true.1 h c hc
    unfold cleanB
    rw [this, Bool.or_true]
  · rw [lex_all l [] h, List.nil_append, if_neg hn]
    rfl
theorem LX.of_dec {l : List UInt8} {u : List ByteArray} (h : (l.all cleanB && decide ((lexW [] l).map baOf = u)) = true) : LX l u := by
  rw [Bool.and_eq_true] at h
  exact ⟨fun c hc => List.all_eq_true.1 h.1 c hc, of_decide_eq_true h.2⟩
/-- the weight of tokens: each with a blank behind -/
def wsum (u : List ByteArray) : Nat := (u.map fun t => t.size + 1).sum
theorem wsum_app (u v : List ByteArray) : wsum (u ++ v) = wsum u + wsum v := by unfold wsum; rw [List.map_append, List.sum_append_nat]
theorem wsum_cons (t : ByteArray) (v : List ByteArray) : wsum (t :: v) = t.size + 1 + wsum v := by unfold wsum; rw [List.map_cons, List.sum_cons]
theorem wsum_nil : wsum [] = 0 := rfl
theorem wt_atom {a : Atm} (h : AtmOk numF a) : (txtA a).size + 1 = wsum (atT a) := by
  obtain ⟨wd, nm, vl, n⟩ := a
  have k1 : sTrue.size = 4 := rfl
  have k2 : sHas.size = 3 := rfl
  have k3 : sEq.size = 1 := rfl
  have k4 : sTime.size = 4 := rfl
  unfold txtA atT
  rcases h with ⟨h, _⟩ | ⟨h, h1, _⟩ | ⟨h, h1, h2⟩ | ⟨h, _, h1, h2, h3, h4⟩ <;> simp only at *
  · subst h
    rw [if_pos rfl, if_pos rfl]
    rfl
  · subst h
    rw [if_neg (by decide), if_pos rfl, if_neg (by decide), if_pos rfl, has_size, wsum_cons, wsum_cons, wsum_nil]
    omega
  · subst h
    rw [if_neg (by decide), if_neg (by decide), if_pos rfl, if_neg (by decide), if_neg (by decide), if_pos rfl, tri_size, wsum_cons, wsum_cons, wsum_cons, wsum_nil]
    omega
  · have hw : wd ≠ sTrue ∧ wd ≠ sHas ∧ wd ≠ sEq := by rcases h with rfl | rfl <;> decide
    rw [if_neg hw.1, if_neg hw.2.1, if_neg hw.2.2, if_neg hw.1, if_neg hw.2.1, if_neg hw.2.2, tri_size, wsum_cons, wsum_cons, wsum_cons, wsum_nil]
    omega

/-- one list behind another one -/
def andA : Rx → Rx → Rx
  | .andC f a, y => .andC f (andA a y)
  | .atom a, y => .andC (.atom a) y
  | .not a, y => .andC (.not a) y
  | .par a, y => .andC (.par a) y
  | .orC a b, y => .andC (.orC a b) y
def orO : Rx → Rx → Rx
  | .orC a o, y => .orC a (orO o y)
  | .atom a, y => .orC (.atom a) y
  | .not a, y => .orC (.not a) y
  | .par a, y => .orC (.par a) y
  | .andC a b, y => .orC (.andC a b) y
def andT (x : Rx) : Rx → Rx
  | .orC a o => .orC (andA x a) o
  | .atom a => andA x (.atom a)
  | .not a => andA x (.not a)
  | .par a => andA x (.par a)
  | .andC a b => andA x (.andC a b)
def andO : Rx → Rx → Rx
  | .orC a o, y => .orC a (andO o y)
  | .atom a, y => andT (.atom a) y
  | .not a, y => andT (.not a) y
  | .par a, y => andT (.par a) y
  | .andC a b, y => andT (.andC a b) y
def notO : Rx → Rx
  | .orC a o => .orC (notO a) o
  | .andC f a => .andC (.not f) a
  | .atom a => .not (.atom a)
  | .not a => .not (.not a)
  | .par a => .not (.par a)
theorem tok_andA (y : Rx) : ∀ x, tokX (andA x y) = tokX x ++ sAnd :: tokX y
  | .andC f a => by rw [andA, tokX, tok_andA y a, tokX]; simp
  | .atom a => rfl
  | .not a => rfl
  | .par a => rfl
  | .orC a b => rfl
theorem tok_orO (y : Rx) : ∀ x, tokX (orO x y) = tokX x ++ sOr :: tokX y
  | .orC f a => by rw [orO, tokX, tok_orO y a, tokX]; simp
  | .atom a => rfl
  | .not a => rfl
  | .par a => rfl
  | .andC a b => rfl
theorem tok_andT (x : Rx) : ∀ y, tokX (andT x y) = tokX x ++ sAnd :: tokX y
  | .orC a o => by rw [andT, tokX, tok_andA, tokX]; simp
  | .atom a => tok_andA _ _
  | .not a => tok_andA _ _
  | .par a => tok_andA _ _
  | .andC a b => tok_andA _ _
theorem tok_andO (y : Rx) : ∀ x, tokX (andO x y) = tokX x ++ sAnd :: tokX y
  | .orC f a => by rw [andO, tokX, tok_andO y a, tokX]; simp
  | .atom a => tok_andT _ _
  | .not a => tok_andT _ _
  | .par a => tok_andT _ _
  | .andC a b => tok_andT _ _
theorem tok_notO : ∀ x, tokX (notO x) = sNot :: tokX x
  | .orC f a => by rw [notO, tokX, tok_notO f, tokX]; rfl
  | .atom a => rfl
  | .not a => rfl
  | .par a => rfl
  | .andC a b => rfl
theorem ats_andA (y : Rx) : ∀ x, atsX (andA x y) = atsX x ++ atsX y
  | .andC f a => by rw [andA, atsX, ats_andA y a, atsX]; simp
  | .atom a => rfl
  | .not a => rfl
  | .par a => rfl
  | .orC a b => rfl
theorem ats_orO (y : Rx) : ∀ x, atsX (orO x y) = atsX x ++ atsX y
  | .orC f a => by rw [orO, atsX, ats_orO y a, atsX]; simp
  | .atom a => rfl
  | .not a => rfl
  | .par a => rfl
  | .andC a b => rfl
theorem ats_andT (x : Rx) : ∀ y, atsX (andT x y) = atsX x ++ atsX y
  | .orC a o => by rw [andT, atsX, ats_andA, atsX]; simp
  | .atom a => ats_andA _ _
  | .not a => ats_andA _ _
  | .par a => ats_andA _ _
  | .andC a b => ats_andA _ _
theorem ats_andO (y : Rx) : ∀ x, atsX (andO x y) = atsX x ++ atsX y
  | .orC f a => by rw [andO, atsX, ats_andO y a, atsX]; simp
  | .atom a => ats_andT _ _
  | .not a => ats_andT _ _
  | .par a => ats_andT _ _
  | .andC a b => ats_andT _ _
theorem ats_notO : ∀ x, atsX (notO x) = atsX x
  | .orC f a => by rw [notO, atsX, ats_notO f, atsX]
  | .atom a => rfl
  | .not a => rfl
  | .par a => rfl
  | .andC a b => rfl
theorem dep_andA (y : Rx) : ∀ x, depX (andA x y) = max (depX x) (depX y)
  | .andC f a => by rw [andA, depX, dep_andA y a, depX]; omega
  | .atom a => rfl
  | .not a => rfl
  | .par a => rfl
  | .orC a b => rfl
theorem dep_orO (y : Rx) : ∀ x, depX (orO x y) = max (depX x) (depX y)
  | .orC f a => by rw [orO, depX, dep_orO y a, depX]; omega
  | .atom a => rfl
  | .not a => rfl
  | .par a => rfl
  | .andC a b => rfl
theorem dep_andT (x : Rx) : ∀ y, depX (andT x y) = max (depX x) (depX y)
  | .orC a o => by rw [andT, depX, dep_andA, depX]; omega
  | .atom a => dep_andA _ _
  | .not a => dep_andA _ _
  | .par a => dep_andA _ _
  | .andC a b => dep_andA _ _
theorem dep_andO (y : Rx) : ∀ x, depX (andO x y) = max (depX x) (depX y)
  | .orC f a => by rw [andO, depX, dep_andO y a, depX]; omega
  | .atom a => dep_andT _ _
  | .not a => dep_andT _ _
  | .par a => dep_andT _ _
  | .andC a b => dep_andT _ _
theorem dep_notO : ∀ x, depX (notO x) ≤ depX x + 1
  | .orC f a => by rw [notO, depX, depX]; have := dep_notO f; omega
  | .atom a => Nat.le_refl _
  | .not a => Nat.le_refl _
  | .par a => Nat.le_refl _
  | .andC a b => by rw [notO, depX, depX, depX]; omega
theorem LvX.fac0 {f : Rx} (h : LvX 0 f) {a : Rx} (h2 : LvX 1 a) : LvX 1 (andA f a) := by
  cases h with
  | atom a => exact .andC (.atom _) h2
  | not h => exact .andC (.not h) h2
  | par h => exact .andC (.par h) h2
theorem LvX.andA {lv : Nat} {x : Rx} (h : LvX lv x) : lv = 1 → ∀ {y : Rx}, LvX 1 y → LvX 1 (andA x y) := by
  induction h with
  | oneA h0 _ => exact fun _ _ hy => h0.fac0 hy
  | andC h1 h2 _ ih2 => exact fun _ _ hy => .andC h1 (ih2 rfl hy)
  | _ => exact fun h => absurd h (by decide)
theorem LvX.orO1 {a : Rx} (h : LvX 1 a) {y : Rx} (hy : LvX 2 y) : LvX 2 (orO a y) := by
  cases h with
  | oneA h0 =>
    cases h0 with
    | atom a => exact .orC (.oneA (.atom _)) hy
    | not h => exact .orC (.oneA (.not h)) hy
    | par h => exact .orC (.oneA (.par h)) hy
  | andC h1 h2 => exact .orC (.andC h1 h2) hy
theorem LvX.orO {lv : Nat} {x : Rx} (h : LvX lv x) : lv = 2 → ∀ {y : Rx}, LvX 2 y → LvX 2 (orO x y) := by
  induction h with
  | oneO h0 _ => exact fun _ _ hy => h0.orO1 hy
  | orC h1 h2 _ ih2 => exact fun _ _ hy => .orC h1 (ih2 rfl hy)
  | _ => exact fun h => absurd h (by decide)
theorem LvX.andT {x y : Rx} (hx : LvX 1 x) (hy : LvX 2 y) : LvX 2 (andT x y) := by
  cases hy with
  | oneO h0 =>
    have := LvX.andA hx rfl h0
    cases h0 with
    | oneA h0 =>
      cases h0 with
      | atom a => exact .oneO this
      | not h => exact .oneO this
      | par h => exact .oneO this
    | andC h1 h2 => exact .oneO this
  | orC h1 h2 => exact .orC (LvX.andA hx rfl h1) h2
theorem LvX.andO1 {a : Rx} (h : LvX 1 a) {y : Rx} (hy : LvX 2 y) : LvX 2 (andO a y) := by
  have := LvX.andT h hy
  cases h with
  | oneA h0 =>
    cases h0 with
    | atom a => exact this
    | not h => exact this
    | par h => exact this
  | andC h1 h2 => exact this
theorem LvX.andO {lv : Nat} {x : Rx} (h : LvX lv x) : lv = 2 → ∀ {y : Rx}, LvX 2 y → LvX 2 (andO x y) := by
  induction h with
  | oneO h0 _ => exact fun _ _ hy => h0.andO1 hy
  | orC h1 h2 _ ih2 => exact fun _ _ hy => .orC h1 (ih2 rfl hy)
  | _ => exact fun h => absurd h (by decide)
theorem LvX.notA {a : Rx} (h : LvX 1 a) : LvX 1 (notO a) := by
  cases h with
  | oneA h0 =>
    cases h0 with
    | atom a => exact .oneA (.not (.atom _))
    | not h => exact .oneA (.not (.not h))
    | par h => exact .oneA (.not (.par h))
  | andC h1 h2 => exact .andC (.not h1) h2
theorem LvX.notO {x : Rx} (h : LvX 2 x) : LvX 2 (notO x) := by
  cases h with
  | oneO h0 => exact .oneO h0.notA
  | orC h1 h2 => exact .orC h1.notA h2

theorem RXs.lX {s : ByteArray} {x : Rx} (h : RXs numF s x) : LX s.data.toList (tokX x) := ⟨h.cl, h.lx⟩
theorem LX.rx {s : ByteArray} {x : Rx} (h : LX s.data.toList (tokX x)) (hl : LvX 2 x) (ho : OkX numF x) : RXs numF s x := ⟨h.cl, h.lx, hl, ho⟩
theorem lx_par {l : List UInt8} {u : List ByteArray} (h : LX l u) : LX ([40] ++ l ++ [41]) (sOpen :: (u ++ [sShut])) := by
  have h1 : LX ([40] ++ (l ++ [41])) ([sOpen] ++ (u ++ [sShut])) := LX.cutL (l1 := []) (LX.of_dec (by decide)) (by decide) (LX.cut h (LX.of_dec (by decide)) (.inr ⟨41, [], rfl, by decide⟩))
  rw [List.append_assoc]
  exact h1
theorem lx_not {l : List UInt8} {u : List ByteArray} (h : LX l u) : LX ([110, 111, 116, 32] ++ l) (sNot :: u) := LX.cutL (l1 := [110, 111, 116]) (u1 := [sNot]) (LX.of_dec (by decide)) (by decide) h
theorem lx_sep {l1 l2 : List UInt8} {u1 u2 : List ByteArray} (h1 : LX l1 u1) (h2 : LX l2 u2) {sep : List UInt8} {t : ByteArray} (hs : LX (32 :: sep ++ [32]) [t]) : LX (l1 ++ (32 :: sep ++ [32]) ++ l2) (u1 ++ t :: u2) := by
  have h3 : LX (32 :: sep ++ [32] ++ l2) ([t] ++ u2) := LX.cutL hs (by decide) h2
  have h4 := LX.cut h1 h3 (.inr ⟨32, sep ++ [32] ++ l2, rfl, by decide⟩)
  rw [List.append_assoc]
  exact h4
theorem OkX.app {num : ByteArray → Int × Bool} {x y z : Rx} (h : atsX z = atsX x ++ atsX y) (h1 : OkX num x) (h2 : OkX num y) : OkX num z := fun a ha => by
  rw [h] at ha
  exact (List.mem_append.1 ha).elim (h1 a) (h2 a)
theorem RXs.par {s s' : ByteArray} {x : Rx} (h : RXs numF s x) (e : s'.data.toList = [40] ++ s.data.toList ++ [41]) : RXs numF s' (.par x) :=
  LX.rx (by rw [e]; exact lx_par h.lX) (.oneO (.oneA (.par h.lv))) h.ok
theorem RXs.not {s s' : ByteArray} {x : Rx} (h : RXs numF s x) (e : s'.data.toList = [110, 111, 116, 32] ++ s.data.toList) : RXs numF s' (notO x) :=
  LX.rx (by rw [e, tok_notO]; exact lx_not h.lX) h.lv.notO (fun a ha => h.ok a (by rwa [ats_notO] at ha))
theorem RXs.or {s1 s2 s' : ByteArray} {x y : Rx} (h1 : RXs numF s1 x) (h2 : RXs numF s2 y) (e : s'.data.toList = s1.data.toList ++ [32, 111, 114, 32] ++ s2.data.toList) : RXs numF s' (orO x y) :=
  LX.rx (by rw [e, tok_orO]; exact lx_sep (sep := [111, 114]) h1.lX h2.lX (LX.of_dec (by decide))) (LvX.orO h1.lv rfl h2.lv) (OkX.app (ats_orO y x) h1.ok h2.ok)
theorem RXs.and {s1 s2 s' : ByteArray} {x y : Rx} (h1 : RXs numF s1 x) (h2 : RXs numF s2 y) (e : s'.data.toList = s1.data.toList ++ [32, 97, 110, 100, 32] ++ s2.data.toList) : RXs numF s' (andO x y) :=
  LX.rx (by rw [e, tok_andO]; exact lx_sep (sep := [97, 110, 100]) h1.lX h2.lX (LX.of_dec (by decide))) (LvX.andO h1.lv rfl h2.lv) (OkX.app (ats_andO y x) h1.ok h2.ok)
theorem RXs.and2 {s1 s2 s' : ByteArray} {x y : Rx} (h1 : RXs numF s1 x) (h2 : RXs numF s2 y) (e : s'.data.toList = s1.data.toList ++ [32, 32, 97, 110, 100, 32] ++ s2.data.toList) : RXs numF s' (andO x y) :=
  LX.rx (by rw [e, tok_andO]; exact lx_sep (sep := [32, 97, 110, 100]) h1.lX h2.lX (LX.of_dec (by decide))) (LvX.andO h1.lv rfl h2.lv) (OkX.app (ats_andO y x) h1.ok h2.ok)
end Go.Proofs.YtfhdknppldobiaaGreatDoor
