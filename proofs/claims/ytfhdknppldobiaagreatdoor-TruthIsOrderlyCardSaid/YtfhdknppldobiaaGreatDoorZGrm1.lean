/-
  Rules that are put together of parts, in plain words: the tokens of a string, and that the check of rules follows them. No Go text is named here.
-/
import Derived.Test.YtfhdknppldobiaaGreatDoorZTidPure
namespace Go.Proofs.YtfhdknppldobiaaGreatDoor
open Go Go.RowKit

/-- the tokens of bytes, behind a word that has begun -/
def lexW : List UInt8 → List UInt8 → List (List UInt8)
  | acc, [] => if acc = [] then [] else [acc]
  | acc, c :: r => if wordB c = true then lexW (acc ++ [c]) r else (if acc = [] then [] else [acc]) ++ ((if markB c = true then [[c]] else []) ++ lexW [] r)
theorem lex_app : ∀ (x acc y : List UInt8), (y = [] ∨ ∃ c r, y = c :: r ∧ wordB c = false) → lexW acc (x ++ y) = lexW acc x ++ lexW [] y
  | [], acc, y, h => by
    rcases h with rfl | ⟨c, r, rfl, hc⟩
    · simp [lexW]
    · rw [List.nil_append]
      simp [lexW, hc]
  | a :: x, acc, y, h => by
    rw [List.cons_append, lexW, lexW]
    by_cases ha : wordB a = true
    · rw [if_pos ha, if_pos ha]
      exact lex_app x _ y h
    · rw [if_neg ha, if_neg ha, lex_app x [] y h]
      simp
theorem lex_word : ∀ (l acc : List UInt8), lexW acc l = (if acc ++ l.takeWhile wordB = [] then [] else [acc ++ l.takeWhile wordB]) ++ lexW [] (l.dropWhile wordB)
  | [], acc => by simp [lexW]
  | a :: l, acc => by
    rw [lexW, List.takeWhile_cons, List.dropWhile_cons]
    by_cases ha : wordB a = true
    · rw [if_pos ha, if_pos ha, if_pos ha, lex_word l]
      simp
    · rw [if_neg ha, if_neg ha, if_neg ha, List.append_nil, lexW, if_neg ha]
      simp
def cleanB (c : UInt8) : Bool := blankB c || markB c || wordB c
def baOf (l : List UInt8) : ByteArray := ⟨l.toArray⟩
theorem dat_app (a b : ByteArray) : (a ++ b).data.toList = a.data.toList ++ b.data.toList := by
  rw [ByteArray.data_append, Array.toList_append]
theorem baOf_data (l : List UInt8) : (baOf l).data.toList = l := by simp [baOf]
theorem ba_of (x : ByteArray) : baOf x.data.toList = x := by
  cases x
  simp [baOf]
theorem ba_eq {x y : ByteArray} (h : x.data.toList = y.data.toList) : x = y := by rw [← ba_of x, h, ba_of]
theorem ext_data (s : ByteArray) (i j : Nat) : (s.extract i j).data.toList = (s.data.toList.drop i).take (j - i) := by
  rw [ByteArray.data_extract, Array.toList_extract, List.extract_eq_take_drop]
theorem blank_no {c : UInt8} (h : blankB c = true) : wordB c = false ∧ markB c = false := by
  unfold blankB at h
  have h := of_decide_eq_true h
  unfold wordB markB
  exact ⟨decide_eq_false (by omega), decide_eq_false (by omega)⟩
theorem toks_lex (s : ByteArray) (hc : ∀ c ∈ s.data.toList, cleanB c = true) : ∀ k i, s.size - i ≤ k → i ≤ s.size →
    ∃ l : List Tk, toks s i = l ++ [(⟨#[]⟩, s.size)] ∧ l.map (·.1) = (lexW [] (s.data.toList.drop i)).map baOf
  | 0, i, hk, hi => by
    have hz : ¬ i < s.size := by omega
    rw [toks, dif_neg hz, List.drop_eq_nil_of_le (by simp; omega)]
    exact ⟨[], rfl, rfl⟩
  | k + 1, i, hk, hi => by
    rw [toks]
    by_cases hlt : i < s.size
    · rw [dif_pos hlt]
      have hl : i < s.data.toList.length := by simpa using hlt
      have hd : s.data.toList.drop i = s[i] :: s.data.toList.drop (i + 1) := List.drop_eq_getElem_cons hl
      have hcl : cleanB s[i] = true := hc _ (by
        have := List.getElem_mem hl
        exact this)
      by_cases h1 : blankB s[i] = true
      · rw [if_pos h1, hd, lexW, (blank_no h1).1, (blank_no h1).2]
        obtain ⟨l, e1, e2⟩ := toks_lex s hc k (i + 1) (by omega) (by omega)
        exact ⟨l, e1, by simpa using e2⟩
      · rw [if_neg h1]
        by_cases h2 : markB s[i] = true
        · rw [if_pos h2, hd, lexW, mark_word _ h2, h2]
          obtain ⟨l, e1, e2⟩ := toks_lex s hc k (i + 1) (by omega) (by omega)
          refine ⟨(s.extract i (i + 1), i) :: l, by rw [e1]; rfl, ?_⟩
          have e3 : s.extract i (i + 1) = baOf [s[i]] := ba_eq (by
            rw [ext_data, baOf_data, hd, show i + 1 - i = 1 by omega]; rfl)
          rw [List.map_cons, e2, e3]
          simp
        · rw [if_neg h2]
          have h3 : wordB s[i] = true := by
            unfold cleanB at hcl
            cases hh : wordB s[i]
            · rw [hh] at hcl; simp [h1, h2] at hcl
            · rfl
          rw [dif_pos h3]
          have hgt := span_gt wordB s i hlt h3
          have hle := span_le wordB s i hi
          obtain ⟨l, e1, e2⟩ := toks_lex s hc k (spanF wordB s i) (by omega) hle
          refine ⟨(s.extract i (spanF wordB s i), i) :: l, by rw [e1]; rfl, ?_⟩
          have hn : spanF wordB s i - i = ((s.data.toList.drop i).takeWhile wordB).length := by unfold spanF; omega
          have hw : (s.data.toList.drop i).take ((s.data.toList.drop i).takeWhile wordB).length = (s.data.toList.drop i).takeWhile wordB := by
            conv => lhs; arg 2; rw [← List.takeWhile_append_dropWhile (p := wordB) (l := s.data.toList.drop i)]
            exact List.take_left
          have hdw : s.data.toList.drop (spanF wordB s i) = (s.data.toList.drop i).dropWhile wordB := by
            have e : spanF wordB s i = i + ((s.data.toList.drop i).takeWhile wordB).length := rfl
            rw [e, ← List.drop_drop]
            conv => lhs; arg 2; rw [← List.takeWhile_append_dropWhile (p := wordB) (l := s.data.toList.drop i)]
            exact List.drop_left
          have e3 : s.extract i (spanF wordB s i) = baOf ((s.data.toList.drop i).takeWhile wordB) := ba_eq (by rw [ext_data, baOf_data, hn, hw])
          have hne : (s.data.toList.drop i).takeWhile wordB ≠ [] := by
            intro e
            rw [e] at hn
            simp at hn
            omega
          rw [lex_word, List.nil_append, if_neg hne, List.map_cons, e2, e3, hdw]
          rfl
    · rw [dif_neg hlt, List.drop_eq_nil_of_le (by simp; omega)]
      exact ⟨[], rfl, rfl⟩

/-- the check goes over tokens without a fault -/
def nxtF (num : ByteArray → Int × Bool) (w : Nat) (st : List Bool) (t : ByteArray) : List Bool := if (fitF num w t (st.count true)).2 = 1 then popN (pushF w t st) else pushF w t st
def RunT (num : ByteArray → Int × Bool) : Nat → List Bool → List ByteArray → Nat → List Bool → Prop
  | w, st, [], w', st' => w = w' ∧ st = st'
  | w, st, t :: u, w', st' => (fitF num w t (st.count true)).1 = true ∧ t.size ≠ 0 ∧ (t = sOpen ∨ (t = sNot ∧ w = 0) → st.length ≤ 20) ∧ RunT num (fitF num w t (st.count true)).2 (nxtF num w st t) u w' st'
theorem RunT.app {num : ByteArray → Int × Bool} : ∀ {u : List ByteArray} {w : Nat} {st : List Bool} {w1 : Nat} {st1 : List Bool} {v : List ByteArray} {w2 : Nat} {st2 : List Bool}, RunT num w st u w1 st1 → RunT num w1 st1 v w2 st2 → RunT num w st (u ++ v) w2 st2
  | [], _, _, _, _, _, _, _, ⟨h1, h2⟩, h => by subst h1 h2; exact h
  | _ :: _, _, _, _, _, _, _, _, ⟨h1, h2, h3, h4⟩, h => ⟨h1, h2, h3, RunT.app h4 h⟩
theorem RunT.chk {num : ByteArray → Int × Bool} : ∀ {u : List ByteArray} {w : Nat} {st : List Bool} {w1 : Nat} {st1 : List Bool}, RunT num w st u w1 st1 → ∀ (tk l : List Tk) (n : Nat) (d : Int), tk.map (·.1) = u → chkF num n w st d (tk ++ l) = chkF num n w1 st1 d l
  | [], _, _, _, _, ⟨h1, h2⟩, tk, l, n, d, ht => by
    subst h1 h2
    rw [List.map_eq_nil_iff.1 ht]
    rfl
  | t :: u, w, st, w1, st1, ⟨h1, h2, h3, h4⟩, tk, l, n, d, ht => by
    cases tk with
    | nil => cases ht
    | cons x tk =>
      rw [List.map_cons] at ht
      injection ht with ht1 ht2
      subst ht1
      rw [List.cons_append, chkF, if_neg (by simp [h1, h2])]
      have hd : deepF w x.1 x.2 st d = d := by
        unfold deepF
        split
        · rename_i hp
          rw [if_neg (by have := h3 hp; omega)]
        · rfl
      rw [hd]
      exact RunT.chk h4 tk l n d ht2

/-- a rule as it is put together -/
inductive Rx where
  | atom (a : Atm)
  | not (f : Rx)
  | par (o : Rx)
  | andC (f a : Rx)
  | orC (a o : Rx)
/-- 0: a NOT; 1: an AND; 2: an OR -/
inductive LvX : Nat → Rx → Prop
  | atom (a : Atm) : LvX 0 (.atom a)
  | not {f : Rx} (h : LvX 0 f) : LvX 0 (.not f)
  | par {o : Rx} (h : LvX 2 o) : LvX 0 (.par o)
  | oneA {f : Rx} (h : LvX 0 f) : LvX 1 f
  | andC {f a : Rx} (h1 : LvX 0 f) (h2 : LvX 1 a) : LvX 1 (.andC f a)
  | oneO {a : Rx} (h : LvX 1 a) : LvX 2 a
  | orC {a o : Rx} (h1 : LvX 1 a) (h2 : LvX 2 o) : LvX 2 (.orC a o)
def atT (a : Atm) : List ByteArray := if a.word = sTrue then [sTrue] else if a.word = sHas then [sHas, a.name] else if a.word = sEq then [a.name, sEq, a.value] else [sTime, a.word, a.value]
def tokX : Rx → List ByteArray
  | .atom a => atT a
  | .not f => sNot :: tokX f
  | .par o => sOpen :: (tokX o ++ [sShut])
  | .andC f a => tokX f ++ sAnd :: tokX a
  | .orC a o => tokX a ++ sOr :: tokX o
def atsX : Rx → List Atm
  | .atom a => [a]
  | .not f => atsX f
  | .par o => atsX o
  | .andC f a => atsX f ++ atsX a
  | .orC a o => atsX a ++ atsX o
def depX : Rx → Nat
  | .atom _ => 0
  | .not f => depX f + 1
  | .par o => depX o + 1
  | .andC f a => max (depX f) (depX a)
  | .orC a o => max (depX a) (depX o)
def treeX : Rx → Nq
  | .atom a => .node noB (txtA a) []
  | .not f => .node sNot noB [treeX f]
  | .par o => treeX o
  | .andC f a => .node sAnd noB (splQ sAnd (treeX f) ++ splQ sAnd (treeX a))
  | .orC a o => .node sOr noB (splQ sOr (treeX a) ++ splQ sOr (treeX o))
def OkX (num : ByteArray → Int × Bool) (x : Rx) : Prop := ∀ a ∈ atsX x, AtmOk num a
theorem popN_pop : ∀ st, popN (popN st) = popN st
  | [] => rfl
  | true :: st => rfl
  | false :: st => by rw [popN]; exact popN_pop st
theorem popX_len : ∀ st, (popN st).length ≤ st.length
  | [] => Nat.le_refl _
  | true :: st => Nat.le_refl _
  | false :: st => by rw [popN, List.length_cons]; have := popX_len st; omega
theorem name_fit {x : ByteArray} (h : nameB x = true) : x ≠ sOpen ∧ x ≠ sNot ∧ x ≠ sTrue ∧ x ≠ sHas ∧ x ≠ sTime ∧ x ≠ sShut ∧ x.size ≠ 0 := by
  obtain ⟨h1, h2, h3, h4⟩ := name_ok h
  unfold nameB at h
  rw [Bool.and_eq_true] at h
  have h5 := h.2
  refine ⟨h2, h4, fun e => ?_, fun e => ?_, fun e => ?_, h3, h1⟩ <;> (subst e; simp at h5)
theorem push_no {w : Nat} {t : ByteArray} {st : List Bool} (h1 : t ≠ sOpen) (h2 : ¬ (t = sNot ∧ w = 0)) (h3 : t ≠ sShut) : pushF w t st = st := by
  unfold pushF
  rw [if_neg (by rintro (h | h); exact h1 h; exact h2 h), if_neg h3]
/-- a token at which nothing is opened or shut -/
theorem RunT.step {num : ByteArray → Int × Bool} {w w1 : Nat} {st : List Bool} {t : ByteArray} {u : List ByteArray} {w2 : Nat} {st2 : List Bool} (hf : fitF num w t (st.count true) = (true, w1)) (hz : t.size ≠ 0) (h1 : t ≠ sOpen) (h2 : ¬ (t = sNot ∧ w = 0)) (h3 : t ≠ sShut)
    (h : RunT num w1 (if w1 = 1 then popN st else st) u w2 st2) : RunT num w st (t :: u) w2 st2 := by
  refine ⟨by rw [hf], hz, fun hp => ?_, ?_⟩
  · rcases hp with hp | hp
    · exact absurd hp h1
    · exact absurd hp h2
  · have e : nxtF num w st t = if w1 = 1 then popN st else st := by
      unfold nxtF
      rw [hf, push_no h1 h2 h3]
    rw [e, hf]
    exact h
theorem run_atom {num : ByteArray → Int × Bool} (hnum : NumOk num) {a : Atm} (h : AtmOk num a) (st : List Bool) : RunT num 0 st (atT a) 1 (popN st) := by
  obtain ⟨wd, nm, vl, n⟩ := a
  unfold atT
  rcases h with ⟨h, _⟩ | ⟨h, h1, _⟩ | ⟨h, h1, h2⟩ | ⟨h, _, h1, h2, h3, h4⟩ <;> simp only at *
  · subst h
    rw [if_pos rfl]
    exact RunT.step (w1 := 1) (by unfold fitF; simp [show sTrue ≠ sOpen by decide, show sTrue ≠ sNot by decide]) (by decide) (by decide) (fun h => absurd h.1 (by decide)) (by decide) ⟨rfl, rfl⟩
  · subst h
    rw [if_neg (by decide), if_pos rfl]
    obtain ⟨n1, n2, n3, n4, n5, n6, n7⟩ := name_fit h1
    refine RunT.step (w1 := 2) (by unfold fitF; simp [show sHas ≠ sOpen by decide, show sHas ≠ sNot by decide, show sHas ≠ sTrue by decide]) (by decide) (by decide) (fun h => absurd h.1 (by decide)) (by decide) ?_
    exact RunT.step (w1 := 1) (by unfold fitF; simp [h1]) n7 n1 (fun h => absurd h.2 (by decide)) n6 ⟨rfl, rfl⟩
  · subst h
    rw [if_neg (by decide), if_neg (by decide), if_pos rfl]
    obtain ⟨n1, n2, n3, n4, n5, n6, n7⟩ := name_fit h1
    obtain ⟨v1, v2, v3⟩ := value_ok h2
    refine RunT.step (w1 := 3) (by unfold fitF; simp [h1, n1, n2, n3, n4, n5]) n7 n1 (fun h => n2 h.1) n6 ?_
    refine RunT.step (w1 := 4) (by unfold fitF; simp) (by decide) (by decide) (fun h => absurd h.2 (by decide)) (by decide) ?_
    exact RunT.step (w1 := 1) (by unfold fitF; simp [h2]) v1 v2 (fun h => absurd h.2 (by decide)) v3 ⟨rfl, rfl⟩
  · have hw : wd ≠ sTrue ∧ wd ≠ sHas ∧ wd ≠ sEq ∧ wd.size ≠ 0 ∧ wd ≠ sOpen ∧ wd ≠ sShut := by rcases h with rfl | rfl <;> decide
    rw [if_neg hw.1, if_neg hw.2.1, if_neg hw.2.2.1]
    obtain ⟨z1, z2, z3⟩ := hnum _ h1
    refine RunT.step (w1 := 5) (by unfold fitF; simp [show sTime ≠ sOpen by decide, show sTime ≠ sNot by decide, show sTime ≠ sTrue by decide, show sTime ≠ sHas by decide]) (by decide) (by decide) (fun h => absurd h.1 (by decide)) (by decide) ?_
    refine RunT.step (w1 := 6) (by unfold fitF; rcases h with rfl | rfl <;> simp) hw.2.2.2.1 hw.2.2.2.2.1 (fun h => absurd h.2 (by decide)) hw.2.2.2.2.2 ?_
    refine RunT.step (w1 := 1) ?_ z1 z2 (fun h => absurd h.2 (by decide)) z3 ⟨rfl, rfl⟩
    unfold fitF
    simp only [show (6 : Nat) ≠ 0 by decide, show (6 : Nat) ≠ 1 by decide, show (6 : Nat) ≠ 2 by decide, show (6 : Nat) ≠ 3 by decide, show (6 : Nat) ≠ 4 by decide, show (6 : Nat) ≠ 5 by decide, if_false, h1, Bool.true_and]
    rw [decide_eq_true (by omega)]
/-- the check follows each rule that is put together -/
theorem run_all {num : ByteArray → Int × Bool} (hnum : NumOk num) : ∀ (x : Rx), OkX num x → ∀ st : List Bool, st.length + depX x ≤ 21 → RunT num 0 st (tokX x) 1 (popN st)
  | .atom a, h, st, _ => run_atom hnum (h a (by simp [atsX])) st
  | .not f, h, st, hd => by
    rw [depX] at hd
    have ih := run_all hnum f h (false :: st) (by rw [List.length_cons]; omega)
    have e : fitF num 0 sNot (st.count true) = (true, 0) := by unfold fitF; simp
    refine ⟨by rw [e], by decide, fun _ => by omega, ?_⟩
    have e2 : nxtF num 0 st sNot = false :: st := by unfold nxtF; rw [e]; rfl
    rw [e, e2]
    exact ih
  | .par o, h, st, hd => by
    rw [depX] at hd
    have ih := run_all hnum o h (true :: st) (by rw [List.length_cons]; omega)
    have e : fitF num 0 sOpen (st.count true) = (true, 0) := by unfold fitF; simp
    refine ⟨by rw [e], by decide, fun _ => by omega, ?_⟩
    have e2 : nxtF num 0 st sOpen = true :: st := by unfold nxtF; rw [e]; rfl
    rw [e, e2]
    refine ih.app ?_
    have e3 : fitF num 1 sShut ((popN (true :: st)).count true) = (true, 1) := by
      unfold fitF
      simp [popN, show sShut ≠ sAnd by decide, show sShut ≠ sOr by decide]
    refine ⟨by rw [e3], by decide, fun hp => ?_, ?_⟩
    · rcases hp with hp | hp
      · exact absurd hp (by decide)
      · exact absurd hp.1 (by decide)
    · have e4 : nxtF num 1 (popN (true :: st)) sShut = popN st := by
        unfold nxtF
        rw [e3]
        rfl
      rw [e3, e4]
      exact ⟨rfl, rfl⟩
  | .andC f a, h, st, hd => by
    rw [depX] at hd
    have i1 := run_all hnum f (fun x hx => h x (by simp [atsX, hx])) st (by omega)
    have i2 := run_all hnum a (fun x hx => h x (by simp [atsX, hx])) (popN st) (by have := popX_len st; omega)
    rw [popN_pop] at i2
    exact i1.app (RunT.step (w1 := 0) (by unfold fitF; simp) (by decide) (by decide) (fun h => absurd h.2 (by decide)) (by decide) i2)
  | .orC f a, h, st, hd => by
    rw [depX] at hd
    have i1 := run_all hnum f (fun x hx => h x (by simp [atsX, hx])) st (by omega)
    have i2 := run_all hnum a (fun x hx => h x (by simp [atsX, hx])) (popN st) (by have := popX_len st; omega)
    rw [popN_pop] at i2
    exact i1.app (RunT.step (w1 := 0) (by unfold fitF; simp) (by decide) (by decide) (fun h => absurd h.2 (by decide)) (by decide) i2)
end Go.Proofs.YtfhdknppldobiaaGreatDoor
