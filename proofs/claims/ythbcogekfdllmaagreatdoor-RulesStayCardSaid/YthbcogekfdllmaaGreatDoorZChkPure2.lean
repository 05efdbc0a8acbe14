/-
  The reference's check of a rule answers as the parser does, and its tree is the parser's, flat. No Go text is named here.
-/
import Derived.Test.YthbcogekfdllmaaGreatDoorZChkPure
namespace Go.Proofs.YthbcogekfdllmaaGreatDoor
open Go Go.RowKit

theorem flat_leaf (a : Atm) : flat (.node 4 [] a) = .node noB (txtA a) [] := by rw [flat_eq, if_pos rfl]
theorem flat_not (k : Nd) (a : Atm) : flat (.node 3 [k] a) = .node sNot noB [flat k] := by rw [flat_eq, if_neg (by decide), if_pos rfl]; rfl
theorem flat_or (ks : List Nd) (a : Atm) : flat (.node 1 ks a) = .node sOr noB (ks.flatMap fun k => splQ sOr (flat k)) := by rw [flat_eq, if_neg (by decide), if_neg (by decide), if_pos rfl]
theorem flat_and (ks : List Nd) (a : Atm) : flat (.node 2 ks a) = .node sAnd noB (ks.flatMap fun k => splQ sAnd (flat k)) := by rw [flat_eq, if_neg (by decide), if_neg (by decide), if_neg (by decide)]
theorem flatMap_len {α β : Type} (f : α → List β) : ∀ (l : List α), (∀ x ∈ l, 1 ≤ (f x).length) → l.length ≤ (l.flatMap f).length
  | [], _ => Nat.zero_le _
  | x :: l, h => by
    have h1 := h x (List.mem_cons_self ..)
    have h2 := flatMap_len f l (fun y hy => h y (List.mem_cons_of_mem _ hy))
    rw [List.flatMap_cons, List.length_append, List.length_cons]
    omega
/-- an or, an and has two kids, and no atom -/
def FOk (n : Nq) : Prop := n.op = sOr ∨ n.op = sAnd → 2 ≤ n.kids.length ∧ n = .node n.op noB n.kids
theorem FOk.spl {n : Nq} (h : FOk n) {op : ByteArray} (hop : op = sOr ∨ op = sAnd) : 1 ≤ (splQ op n).length := by
  unfold splQ
  split
  · rename_i he
    have := (h (by rw [he]; exact hop)).1
    omega
  · exact Nat.le_refl 1
theorem flat_fok {num : ByteArray → Int × Bool} {t : Nd} (h : NdOk num t) : FOk (flat t) := by
  induction h with
  | atom a _ => rw [flat_leaf]; intro h; exact absurd h (show ¬ (noB = sOr ∨ noB = sAnd) by decide)
  | not k _ _ => rw [flat_not]; intro h; exact absurd h (show ¬ (sNot = sOr ∨ sNot = sAnd) by decide)
  | or ks h2 _ ih => rw [flat_or]; intro _; exact ⟨Nat.le_trans h2 (flatMap_len _ ks (fun k hk => (ih k hk).spl (.inl rfl))), rfl⟩
  | and ks h2 _ ih => rw [flat_and]; intro _; exact ⟨Nat.le_trans h2 (flatMap_len _ ks (fun k hk => (ih k hk).spl (.inr rfl))), rfl⟩
theorem joinQ_two (op : ByteArray) : ∀ (ks : List Nq), 2 ≤ ks.length → joinQ op ks = .node op noB ks
  | [], h => absurd h (by decide)
  | [_], h => absurd h (by simp)
  | _ :: _ :: _, _ => rfl
theorem joinQ_one {n : Nq} (h : FOk n) {op : ByteArray} (hop : op = sOr ∨ op = sAnd) : joinQ op (splQ op n) = n := by
  unfold splQ
  split
  · rename_i he
    obtain ⟨h1, h2⟩ := h (by rw [he]; exact hop)
    rw [joinQ_two op _ h1, ← he]
    exact h2.symm
  · rfl

theorem tf {P : Prop} (h : true = false) : P := by cases h
/-- a reader of numbers reads none of nothing, nor of a mark -/
def NumOk (num : ByteArray → Int × Bool) : Prop := ∀ x, (num x).2 = true → x.size ≠ 0 ∧ x ≠ sOpen ∧ x ≠ sShut
theorem name_ok {x : ByteArray} (h : nameB x = true) : x.size ≠ 0 ∧ x ≠ sOpen ∧ x ≠ sShut ∧ x ≠ sNot := by
  refine ⟨fun e => ?_, fun e => ?_, fun e => ?_, fun e => ?_⟩
  · rw [ba_nil e] at h; exact absurd h (by decide +kernel)
  · rw [e] at h; exact absurd h (by decide +kernel)
  · rw [e] at h; exact absurd h (by decide +kernel)
  · rw [e] at h; exact absurd h (by decide +kernel)
theorem value_ok {x : ByteArray} (h : valueB x = true) : x.size ≠ 0 ∧ x ≠ sOpen ∧ x ≠ sShut := by
  refine ⟨fun e => ?_, fun e => ?_, fun e => ?_⟩
  · rw [ba_nil e] at h; exact absurd h (by decide +kernel)
  · rw [e] at h; exact absurd h (by decide +kernel)
  · rw [e] at h; exact absurd h (by decide +kernel)
theorem take_no {s : ByteArray} {t : PSt} (h : t.bad = false) : takeF s t false = { t with bad := true } := by unfold takeF; rw [h]; rfl
theorem take_yes {s : ByteArray} {t : PSt} (h : t.bad = false) : takeF s t true = nextF s t := by unfold takeF; rw [h]; rfl
theorem take_bad {s : ByteArray} {t : PSt} (h : t.bad = true) (ok : Bool) : takeF s t ok = t := by
  unfold takeF
  rw [h, if_pos (by rfl)]
  cases t
  simp only at h
  rw [h]
theorem takeS_yes {t : PSt} (h : t.bad = false) : takeS t true = t.tok := by unfold takeS; rw [h]; rfl
section
variable {num : ByteArray → Int × Bool} {s : ByteArray} {t : PSt} {l : List Tk} {st : List Bool} {w nx : Nat}
theorem chk_no (hT : TM s t l) {d : Int} (hf : (fitF num w t.tok (st.count true)).1 = false) : chkF num s.size w st d l = ((t.at_ : Int), 9) := by
  rw [hT.cons.2, chkF, if_pos (.inl hf)]
theorem chk_yes (hT : TM s t l) {d : Int} (hz : t.tok.size ≠ 0) (hf : fitF num w t.tok (st.count true) = (true, nx)) :
    chkF num s.size w st d l = chkF num s.size nx (if nx = 1 then popN (pushF w t.tok st) else pushF w t.tok st) (deepF w t.tok t.at_ st d) l.tail := by
  rw [hT.cons.2, chkF, hf, if_neg (by simp [hz])]
  rfl
theorem TM.hd (hT : TM s t l) : l = (t.tok, t.at_) :: l.tail := by
  rw [hT.cons.2]
  rfl
theorem plain_step (hT : TM s t l) (hb : t.bad = false) (w : Nat) {nx : Nat} {ok : Bool} (hf : fitF num w t.tok (st.count true) = (ok, nx)) (hz : ok = true → t.tok.size ≠ 0 ∧ t.tok ≠ sOpen ∧ t.tok ≠ sShut ∧ (w = 0 → t.tok ≠ sNot)) :
    (ok = false → takeF s t ok = { t with bad := true } ∧ chkF num s.size w st t.deep l = ((t.at_ : Int), 9)) ∧
    (ok = true → takeF s t ok = nextF s t ∧ takeS t ok = t.tok ∧ TM s (nextF s t) l.tail ∧ chkF num s.size w st t.deep l = chkF num s.size nx (if nx = 1 then popN st else st) t.deep l.tail) := by
  refine ⟨fun h => ?_, fun h => ?_⟩
  · subst h
    exact ⟨take_no hb, chk_no hT (by rw [hf])⟩
  · subst h
    obtain ⟨z1, z2, z3, z4⟩ := hz rfl
    refine ⟨take_yes hb, takeS_yes hb, hT.next z1, ?_⟩
    rw [chk_yes hT z1 hf]
    have hne : ¬ (t.tok = sOpen ∨ (t.tok = sNot ∧ w = 0)) := by
      rintro (h | ⟨h1, h2⟩)
      · exact z2 h
      · exact z4 h2 h1
    have e1 : pushF w t.tok st = st := by unfold pushF; rw [if_neg hne, if_neg z3]
    have e2 : deepF w t.tok t.at_ st t.deep = t.deep := by unfold deepF; rw [if_neg hne]
    rw [e1, e2]
end
/-- a part of a rule: the parser and the reference alike -/
def SimP (num : ByteArray → Int × Bool) (s : ByteArray) (st st' : List Bool) (t : PSt) (l : List Tk) (r : Nd × PSt) (q : Option (Nq × List Tk)) : Prop :=
  (r.2.bad = true → chkF num s.size 0 st t.deep l = ((r.2.at_ : Int), 9)) ∧
  (r.2.bad = false → ∃ l', TM s r.2 l' ∧ cntN r.1 + l'.length ≤ l.length ∧ chkF num s.size 0 st t.deep l = chkF num s.size 1 st' r.2.deep l' ∧ q = some (flat r.1, l') ∧ NdOk num r.1)
theorem cnt_leaf (a : Atm) : cntN (.node 4 [] a) = 1 := by rw [cntN_eq]; rfl
theorem tail_lt {α : Type} {l : List α} {x : α} {r : List α} (h : l = x :: r) : r.length < l.length := by rw [h, List.length_cons]; omega

theorem atom_sim (num : ByteArray → Int × Bool) (hnum : NumOk num) (s : ByteArray) (st : List Bool) (t : PSt) (l : List Tk) (hT : TM s t l) (hb : t.bad = false) (h1 : t.tok ≠ sNot) (h2 : t.tok ≠ sOpen) (f : Nat) :
    SimP num s st (popN st) t l (.node 4 [] (atomF num s t).1, (atomF num s t).2) (notR (f + 1) l) := by
  have hl := hT.hd
  have hlt := tail_lt hl
  have hor : ¬ (t.tok = sOpen ∨ t.tok = sNot) := by rintro (h | h); exact h2 h; exact h1 h
  unfold atomF SimP
  by_cases q1 : t.tok = sTrue
  · rw [if_pos q1]
    obtain ⟨_, k⟩ := plain_step (num := num) (st := st) hT hb 0 (nx := 1) (ok := true) (by unfold fitF; rw [if_pos rfl, if_neg hor, if_pos q1]) (fun _ => ⟨by rw [q1]; decide, h2, by rw [q1]; decide, fun _ => h1⟩)
    obtain ⟨k1, _, k3, k4⟩ := k rfl
    simp only [k1]
    refine ⟨fun h => absurd (hb.symm.trans h) (by decide), fun _ => ⟨l.tail, k3, (by rw [cnt_leaf]; omega), k4, ?_, .atom _ (.inl ⟨rfl, rfl, rfl⟩)⟩⟩
    rw [hl, notR, if_neg h1, if_neg h2, if_pos q1, flat_leaf]
    rfl
  · rw [if_neg q1]
    by_cases q2 : t.tok = sHas
    · rw [if_pos q2]
      obtain ⟨_, k⟩ := plain_step (num := num) (st := st) hT hb 0 (nx := 2) (ok := true) (by unfold fitF; rw [if_pos rfl, if_neg hor, if_neg q1, if_pos q2]) (fun _ => ⟨by rw [q2]; decide, h2, by rw [q2]; decide, fun _ => h1⟩)
      obtain ⟨k1, _, k3, k4⟩ := k rfl
      rw [if_neg (by decide)] at k4
      simp only [k1]
      have hb1 : (nextF s t).bad = false := hb
      have hd1 : (nextF s t).deep = t.deep := rfl
      generalize nextF s t = t1 at k1 k3 k4 hb1 hd1 ⊢
      have hl1 := k3.hd
      have hlt1 := tail_lt hl1
      obtain ⟨m0, m1⟩ := plain_step (num := num) (st := st) k3 hb1 2 (nx := 1) (ok := nameB t1.tok) (by unfold fitF; rw [if_neg (by decide), if_neg (by decide), if_pos rfl]) (fun h => by obtain ⟨a, b, c, d⟩ := name_ok h; exact ⟨a, b, c, fun _ => d⟩)
      rw [hd1] at m0 m1
      cases hB : nameB t1.tok
      · rw [hB] at m0
        obtain ⟨n1, n2⟩ := m0 rfl
        simp only [n1]
        exact ⟨fun _ => k4.trans n2, fun h => tf h⟩
      · rw [hB] at m1
        obtain ⟨n1, n2, n3, n4⟩ := m1 rfl
        simp only [n1, n2]
        have hb2 : (nextF s t1).bad = false := hb1
        have hd2 : (nextF s t1).deep = t.deep := hd1
        rw [hb2, hd2]
        refine ⟨fun h => tf h.symm, fun _ => ⟨l.tail.tail, n3, (by rw [cnt_leaf]; omega), k4.trans (n4.trans (by rw [if_pos rfl])), ?_, .atom _ (.inr (.inl ⟨rfl, hB, rfl⟩))⟩⟩
        rw [hl, hl1, notR, if_neg h1, if_neg h2, if_neg q1, if_pos q2, flat_leaf]
        rfl
    · rw [if_neg q2]
      by_cases q3 : t.tok = sTime
      · rw [if_pos q3]
        obtain ⟨_, k⟩ := plain_step (num := num) (st := st) hT hb 0 (nx := 5) (ok := true) (by unfold fitF; rw [if_pos rfl, if_neg hor, if_neg q1, if_neg q2, if_pos q3]) (fun _ => ⟨by rw [q3]; decide, h2, by rw [q3]; decide, fun _ => h1⟩)
        obtain ⟨k1, _, k3, k4⟩ := k rfl
        rw [if_neg (by decide)] at k4
        simp only [k1]
        have hb1 : (nextF s t).bad = false := hb
        have hd1 : (nextF s t).deep = t.deep := rfl
        generalize nextF s t = t1 at k1 k3 k4 hb1 hd1 ⊢
        have hl1 := k3.hd
        have hlt1 := tail_lt hl1
        obtain ⟨m0, m1⟩ := plain_step (num := num) (st := st) k3 hb1 5 (nx := 6) (ok := decide (t1.tok = sLt) || decide (t1.tok = sGt)) (by unfold fitF; rw [if_neg (by decide), if_neg (by decide), if_neg (by decide), if_neg (by decide), if_neg (by decide), if_pos rfl]) (fun h => by
          have h : t1.tok = sLt ∨ t1.tok = sGt := by simpa using h
          rcases h with h | h <;> rw [h] <;> exact ⟨by decide, by decide, by decide, fun _ => by decide⟩)
        rw [hd1] at m0 m1
        cases hB : (decide (t1.tok = sLt) || decide (t1.tok = sGt))
        · rw [hB] at m0
          obtain ⟨n1, n2⟩ := m0 rfl
          simp only [n1]
          rw [take_bad rfl]
          exact ⟨fun _ => k4.trans n2, fun h => tf h⟩
        · rw [hB] at m1
          obtain ⟨n1, n2, n3, n4⟩ := m1 rfl
          rw [if_neg (by decide)] at n4
          simp only [n1, n2]
          have hb2 : (nextF s t1).bad = false := hb1
          have hd2 : (nextF s t1).deep = t.deep := hd1
          generalize nextF s t1 = t2 at n1 n3 n4 hb2 hd2 ⊢
          have hl2 := n3.hd
          have hlt2 := tail_lt hl2
          obtain ⟨o0, o1⟩ := plain_step (num := num) (st := st) n3 hb2 6 (nx := 1) (ok := (num t2.tok).2 && decide (0 ≤ (num t2.tok).1 ∧ (num t2.tok).1 ≤ 864000000)) (by unfold fitF; rw [if_neg (by decide), if_neg (by decide), if_neg (by decide), if_neg (by decide), if_neg (by decide), if_neg (by decide)]) (fun h => by
            have h : (num t2.tok).2 = true := by rw [Bool.and_eq_true] at h; exact h.1
            obtain ⟨a, b, c⟩ := hnum _ h
            exact ⟨a, b, c, fun e => absurd e (by decide)⟩)
          rw [hd2] at o0 o1
          cases hC : ((num t2.tok).2 && decide (0 ≤ (num t2.tok).1 ∧ (num t2.tok).1 ≤ 864000000))
          · rw [hC] at o0
            obtain ⟨p1, p2⟩ := o0 rfl
            simp only [p1]
            exact ⟨fun _ => k4.trans (n4.trans p2), fun h => tf h⟩
          · rw [hC] at o1
            obtain ⟨p1, p2, p3, p4⟩ := o1 rfl
            simp only [p1, p2]
            have hb3 : (nextF s t2).bad = false := hb2
            have hd3 : (nextF s t2).deep = t.deep := hd2
            rw [hb3, hd3]
            have hB' : t1.tok = sLt ∨ t1.tok = sGt := by simpa using hB
            rw [Bool.and_eq_true, decide_eq_true_eq] at hC
            refine ⟨fun h => tf h.symm, fun _ => ⟨l.tail.tail.tail, p3, (by rw [cnt_leaf]; omega), k4.trans (n4.trans (p4.trans (by rw [if_pos rfl]))), ?_, .atom _ (.inr (.inr (.inr ⟨hB', rfl, hC.1, rfl, hC.2⟩)))⟩⟩
            rw [hl, hl1, hl2, notR, if_neg h1, if_neg h2, if_neg q1, if_neg q2, flat_leaf]
            have e : txtA ⟨t1.tok, ⟨#[]⟩, t2.tok, (num t2.tok).1⟩ = triQ t.tok t1.tok t2.tok := by
              unfold txtA
              rcases hB' with h | h <;> (simp only [h]; rw [if_neg (by decide), if_neg (by decide), if_neg (by decide), q3])
            rw [e]
            rfl
      · rw [if_neg q3]
        obtain ⟨m0, m1⟩ := plain_step (num := num) (st := st) hT hb 0 (nx := 3) (ok := nameB t.tok) (by unfold fitF; rw [if_pos rfl, if_neg hor, if_neg q1, if_neg q2, if_neg q3]) (fun h => by obtain ⟨a, b, c, d⟩ := name_ok h; exact ⟨a, b, c, fun _ => d⟩)
        cases hA : nameB t.tok
        · rw [hA] at m0
          obtain ⟨n1, n2⟩ := m0 rfl
          simp only [n1]
          rw [take_bad rfl, take_bad rfl]
          exact ⟨fun _ => n2, fun h => tf h⟩
        · rw [hA] at m1
          obtain ⟨k1, k2, k3, k4⟩ := m1 rfl
          rw [if_neg (by decide)] at k4
          simp only [k1, k2]
          have hb1 : (nextF s t).bad = false := hb
          have hd1 : (nextF s t).deep = t.deep := rfl
          generalize nextF s t = t1 at k1 k3 k4 hb1 hd1 ⊢
          have hl1 := k3.hd
          have hlt1 := tail_lt hl1
          obtain ⟨m0, m1⟩ := plain_step (num := num) (st := st) k3 hb1 3 (nx := 4) (ok := decide (t1.tok = sEq)) (by unfold fitF; rw [if_neg (by decide), if_neg (by decide), if_neg (by decide), if_pos rfl]) (fun h => by
            have h := of_decide_eq_true h
            rw [h]; exact ⟨by decide, by decide, by decide, fun _ => by decide⟩)
          rw [hd1] at m0 m1
          cases hB : decide (t1.tok = sEq)
          · rw [hB] at m0
            obtain ⟨n1, n2⟩ := m0 rfl
            simp only [n1]
            rw [take_bad rfl]
            exact ⟨fun _ => k4.trans n2, fun h => tf h⟩
          · rw [hB] at m1
            obtain ⟨n1, n2, n3, n4⟩ := m1 rfl
            rw [if_neg (by decide)] at n4
            simp only [n1]
            have hb2 : (nextF s t1).bad = false := hb1
            have hd2 : (nextF s t1).deep = t.deep := hd1
            generalize nextF s t1 = t2 at n1 n3 n4 hb2 hd2 ⊢
            have hl2 := n3.hd
            have hlt2 := tail_lt hl2
            obtain ⟨o0, o1⟩ := plain_step (num := num) (st := st) n3 hb2 4 (nx := 1) (ok := valueB t2.tok) (by unfold fitF; rw [if_neg (by decide), if_neg (by decide), if_neg (by decide), if_neg (by decide), if_pos rfl]) (fun h => by
              obtain ⟨a, b, c⟩ := value_ok h
              exact ⟨a, b, c, fun e => absurd e (by decide)⟩)
            rw [hd2] at o0 o1
            cases hC : valueB t2.tok
            · rw [hC] at o0
              obtain ⟨p1, p2⟩ := o0 rfl
              simp only [p1]
              exact ⟨fun _ => k4.trans (n4.trans p2), fun h => tf h⟩
            · rw [hC] at o1
              obtain ⟨p1, p2, p3, p4⟩ := o1 rfl
              simp only [p1, p2]
              have hb3 : (nextF s t2).bad = false := hb2
              have hd3 : (nextF s t2).deep = t.deep := hd2
              rw [hb3, hd3]
              refine ⟨fun h => tf h.symm, fun _ => ⟨l.tail.tail.tail, p3, (by rw [cnt_leaf]; omega), k4.trans (n4.trans (p4.trans (by rw [if_pos rfl]))), ?_, .atom _ (.inr (.inr (.inl ⟨rfl, hA, hC⟩)))⟩⟩
              rw [hl, hl1, hl2, notR, if_neg h1, if_neg h2, if_neg q1, if_neg q2, flat_leaf]
              have e : txtA ⟨sEq, t.tok, t2.tok, 0⟩ = triQ t.tok t1.tok t2.tok := by
                unfold txtA
                simp only
                rw [if_neg (by decide), if_neg (by decide), if_pos trivial, of_decide_eq_true hB]
              rw [e]
              rfl

theorem loop_bad (s word : ByteArray) (part : PSt → Nd × PSt) : ∀ (m : Nat) (ks : List Nd) (t : PSt), t.bad = true → loopF s word part m ks t = (ks, t)
  | 0, _, _, _ => rfl
  | m + 1, ks, t, h => by rw [loopF, if_neg (by rw [h]; simp)]
/-- a part, wherever the stack ends in no not -/
def SimA (num : ByteArray → Int × Bool) (s : ByteArray) (st : List Bool) (part : PSt → Nd × PSt) (partR : List Tk → Option (Nq × List Tk)) (E : ByteArray → Prop) (bnd : Nat) : Prop :=
  ∀ t l, TM s t l → t.bad = false → l.length ≤ bnd → SimP num s st st t l (part t) (partR l) ∧ ((part t).2.bad = false → E (part t).2.tok)
theorem more_sim (num : ByteArray → Int × Bool) (s : ByteArray) (st : List Bool) (hst : popN st = st) (part : PSt → Nd × PSt) (partR : List Tk → Option (Nq × List Tk)) (E : ByteArray → Prop) (bnd : Nat) (HP : SimA num s st part partR E bnd) (word : ByteArray) (hw : word = sOr ∨ word = sAnd) :
    ∀ (m1 m2 : Nat) (ks : List Nd) (t : PSt) (l : List Tk), TM s t l → t.bad = false → l.length ≤ m1 → l.length ≤ m2 → l.length ≤ bnd + 1 → E t.tok →
      ((loopF s word part m1 ks t).2.bad = true → chkF num s.size 1 st t.deep l = (((loopF s word part m1 ks t).2.at_ : Int), 9)) ∧
      ((loopF s word part m1 ks t).2.bad = false → (loopF s word part m1 ks t).2.tok ≠ word ∧ E (loopF s word part m1 ks t).2.tok ∧ ∃ l' new, TM s (loopF s word part m1 ks t).2 l' ∧ new.length + (new.map cntN).sum + l'.length ≤ l.length ∧
        chkF num s.size 1 st t.deep l = chkF num s.size 1 st (loopF s word part m1 ks t).2.deep l' ∧ (loopF s word part m1 ks t).1 = ks ++ new ∧ (∀ k ∈ new, NdOk num k) ∧
        ∀ qs, moreR word partR m2 qs l = some (qs ++ new.flatMap (fun k => splQ word (flat k)), l'))
  | 0, _, _, _, l, hT, _, h, _, _, _ => by
    have := tail_lt hT.hd
    omega
  | _ + 1, 0, _, _, l, hT, _, _, h, _, _ => by
    have := tail_lt hT.hd
    omega
  | m1 + 1, m2 + 1, ks, t, l, hT, hb, h1, h2, h3, hE => by
    have hl := hT.hd
    have hlt := tail_lt hl
    rw [loopF]
    by_cases q : t.tok = word
    · rw [if_pos ⟨hb, q⟩]
      have hz : t.tok.size ≠ 0 := by rw [q]; rcases hw with h | h <;> rw [h] <;> decide
      have hf : fitF num 1 t.tok (st.count true) = (true, 0) := by
        unfold fitF
        rw [if_neg (by decide), if_pos rfl, if_pos (by rw [q]; exact hw.symm)]
      have hc := chk_yes (num := num) hT (d := t.deep) hz hf
      have e1 : pushF 1 t.tok st = st := by
        unfold pushF
        rw [q]
        rcases hw with h | h <;> (rw [h, if_neg (by decide), if_neg (by decide)])
      have e2 : deepF 1 t.tok t.at_ st t.deep = t.deep := by
        unfold deepF
        rw [q]
        rcases hw with h | h <;> (rw [h, if_neg (by decide)])
      rw [if_neg (by decide), e1, e2] at hc
      have hT1 := hT.next hz
      have hb1 : (nextF s t).bad = false := hb
      have hd1 : (nextF s t).deep = t.deep := rfl
      generalize nextF s t = t1 at hT1 hb1 hd1 ⊢
      obtain ⟨⟨a1, a2⟩, a3⟩ := HP t1 l.tail hT1 hb1 (by omega)
      rw [hd1] at a1 a2
      cases hB : (part t1).2.bad
      · obtain ⟨l1, b1, b2, b3, b4, b5⟩ := a2 hB
        obtain ⟨c1, c2⟩ := more_sim num s st hst part partR E bnd HP word hw m1 m2 (ks ++ [(part t1).1]) (part t1).2 l1 b1 hB (by omega) (by omega) (by omega) (a3 hB)
        refine ⟨fun h => hc.trans (b3.trans (c1 h)), fun h => ?_⟩
        obtain ⟨d1, d2, l', new, d3, d4, d5, d6, d7, d8⟩ := c2 h
        refine ⟨d1, d2, l', (part t1).1 :: new, d3, (by rw [List.length_cons, List.map_cons, List.sum_cons]; omega), hc.trans (b3.trans d5), ?_, ?_, ?_⟩
        · rw [d6, List.append_assoc]; rfl
        · intro k hk
          rcases List.mem_cons.1 hk with rfl | hk
          · exact b5
          · exact d7 k hk
        · intro qs
          rw [hl, moreR, if_pos q, b4]
          simp only
          rw [d8, List.flatMap_cons, List.append_assoc]
      · rw [loop_bad s word part _ _ _ hB]
        exact ⟨fun _ => hc.trans (a1 hB), fun h => absurd (hB.symm.trans h) (by decide)⟩
    · rw [if_neg (by simp [q])]
      refine ⟨fun h => absurd (hb.symm.trans h) (by decide), fun _ => ⟨q, hE, l, [], hT, (by simp), rfl, by simp, fun k hk => (by cases hk), fun qs => ?_⟩⟩
      rw [hl, moreR, if_neg q]
      simp
theorem many_sim (num : ByteArray → Int × Bool) (s : ByteArray) (st : List Bool) (hst : popN st = st) (part : PSt → Nd × PSt) (partR : List Tk → Option (Nq × List Tk)) (E : ByteArray → Prop) (bnd : Nat) (HP : SimA num s st part partR E bnd) (kind : Int) (word : ByteArray) (hw : (kind = 1 ∧ word = sOr) ∨ (kind = 2 ∧ word = sAnd)) :
    SimA num s st (manyF s kind word part) (listR word partR) (fun x => x ≠ word ∧ E x) bnd := by
  have hw2 : word = sOr ∨ word = sAnd := by rcases hw with h | h; exact .inl h.2; exact .inr h.2
  intro t l hT hb hl
  obtain ⟨⟨a1, a2⟩, a3⟩ := HP t l hT hb hl
  unfold manyF SimP
  cases hB : (part t).2.bad
  · obtain ⟨l1, b1, b2, b3, b4, b5⟩ := a2 hB
    obtain ⟨c1, c2⟩ := more_sim num s st hst part partR E bnd HP word hw2 (s.size + 1) l.length [(part t).1] (part t).2 l1 b1 hB b1.len (by omega) (by omega) (a3 hB)
    generalize loopF s word part (s.size + 1) [(part t).1] (part t).2 = r at c1 c2 ⊢
    refine ⟨⟨fun h => b3.trans (c1 h), fun h => ?_⟩, fun h => ?_⟩
    · obtain ⟨d1, d2, l', new, d3, d4, d5, d6, d7, d8⟩ := c2 h
      have hF := flat_fok b5
      refine ⟨l', d3, ?_, b3.trans d5, ?_, ?_⟩
      · simp only
        rw [d6]
        cases new with
        | nil =>
          have : l'.length ≤ l1.length := by simpa using d4
          show cntN (part t).1 + l'.length ≤ l.length
          omega
        | cons k ks =>
          show cntN (.node kind ((part t).1 :: k :: ks) atm0) + l'.length ≤ l.length
          rw [cntN_eq, List.map_cons, List.sum_cons]
          rw [List.length_cons] at d4
          omega
      · rw [listR, b4]
        simp only
        rw [d8]
        simp only
        rw [d6]
        cases new with
        | nil =>
          simp only [List.flatMap_nil, List.append_nil]
          rw [joinQ_one hF hw2]
          rfl
        | cons k ks =>
          have e1 : splQ word (flat (part t).1) ++ (k :: ks).flatMap (fun k => splQ word (flat k)) = ((part t).1 :: k :: ks).flatMap (fun k => splQ word (flat k)) := rfl
          rw [e1, joinQ_two]
          · show _ = some (flat (.node kind ((part t).1 :: k :: ks) atm0), l')
            rcases hw with ⟨h1, h2⟩ | ⟨h1, h2⟩
            · rw [h1, h2, flat_or]
            · rw [h1, h2, flat_and]
          · refine Nat.le_trans ?_ (flatMap_len _ _ (fun x hx => ?_))
            · simp
            · rcases List.mem_cons.1 hx with rfl | hx
              · exact hF.spl hw2
              · exact (flat_fok (d7 x hx)).spl hw2
      · simp only
        rw [d6]
        cases new with
        | nil => exact b5
        | cons k ks =>
          have hall : ∀ x ∈ (part t).1 :: k :: ks, NdOk num x := fun x hx => by
            rcases List.mem_cons.1 hx with rfl | hx
            · exact b5
            · exact d7 x hx
          show NdOk num (.node kind ((part t).1 :: k :: ks) atm0)
          rcases hw with ⟨h1, h2⟩ | ⟨h1, h2⟩
          · rw [h1]; exact .or _ (by simp) hall
          · rw [h1]; exact .and _ (by simp) hall
    · obtain ⟨d1, d2, _⟩ := c2 h
      exact ⟨d1, d2⟩
  · rw [loop_bad s word part _ _ _ hB]
    exact ⟨⟨fun _ => a1 hB, fun h => absurd (hB.symm.trans h) (by decide)⟩, fun h => absurd (hB.symm.trans h) (by decide)⟩
theorem or_sim (num : ByteArray → Int × Bool) (s : ByteArray) (st : List Bool) (hst : popN st = st) (f : Nat) (d : Int)
    (HN : ∀ t l, TM s t l → t.bad = false → l.length ≤ f → SimP num s st (popN st) t l (notF num s f d t) (notR f l)) :
    SimA num s st (manyF s 1 sOr (manyF s 2 sAnd (notF num s f d))) (listR sOr (listR sAnd (notR f))) (fun x => x ≠ sOr ∧ x ≠ sAnd ∧ True) f :=
  many_sim num s st hst _ _ (fun x => x ≠ sAnd ∧ True) f
    (many_sim num s st hst _ _ (fun _ => True) f (fun t l h1 h2 h3 => ⟨by have := HN t l h1 h2 h3; rw [hst] at this; exact this, fun _ => trivial⟩) 2 sAnd (.inr ⟨rfl, rfl⟩)) 1 sOr (.inl ⟨rfl, rfl⟩)
theorem not_sim (num : ByteArray → Int × Bool) (hnum : NumOk num) (s : ByteArray) : ∀ (f : Nat) (d : Int) (st : List Bool), d = st.length → ∀ (t : PSt) (l : List Tk), TM s t l → t.bad = false → l.length ≤ f →
    SimP num s st (popN st) t l (notF num s f d t) (notR f l)
  | 0, _, _, _, _, l, hT, _, h => by
    have := tail_lt hT.hd
    omega
  | f + 1, d, st, hd, t, l, hT, hb, hlf => by
    have hl := hT.hd
    have hlt := tail_lt hl
    rw [notF]
    have hpush (q : t.tok = sNot ∨ t.tok = sOpen) : fitF num 0 t.tok (st.count true) = (true, 0) ∧ pushF 0 t.tok st = decide (t.tok = sOpen) :: st ∧ deepF 0 t.tok t.at_ st t.deep = (nestF d t).deep ∧ t.tok.size ≠ 0 := by
      have q' : t.tok = sOpen ∨ t.tok = sNot := q.symm
      have q2 : t.tok = sOpen ∨ (t.tok = sNot ∧ 0 = 0) := by rcases q with h | h; exact .inr ⟨h, rfl⟩; exact .inl h
      refine ⟨?_, ?_, ?_, ?_⟩
      · unfold fitF; rw [if_pos rfl, if_pos q']
      · unfold pushF; rw [if_pos q2]
      · unfold deepF nestF
        rw [if_pos q2, hd]
        split <;> rfl
      · rcases q with h | h <;> rw [h] <;> decide
    have hnest : takeF s (nestF d t) true = nextF s (nestF d t) ∧ (nextF s (nestF d t)).bad = false ∧ (nextF s (nestF d t)).deep = (nestF d t).deep ∧ (nestF d t).tok = t.tok ∧ TM s (nestF d t) l := by
      have e1 : (nestF d t).bad = t.bad := by unfold nestF; split <;> rfl
      have e2 : (nestF d t).tok = t.tok := by unfold nestF; split <;> rfl
      have e3 : (nestF d t).at_ = t.at_ := by unfold nestF; split <;> rfl
      exact ⟨take_yes (e1.trans hb), e1.trans hb, rfl, e2, hT.same e3 e2⟩
    obtain ⟨n1, n2, n3, n4, n5⟩ := hnest
    by_cases q1 : t.tok = sNot
    · rw [if_pos q1]
      obtain ⟨p1, p2, p3, p4⟩ := hpush (.inl q1)
      have hT1 := n5.next (by rw [n4]; exact p4)
      have hc := chk_yes (num := num) hT (d := t.deep) p4 p1
      rw [if_neg (by decide), p2, p3, show decide (t.tok = sOpen) = false by rw [q1]; decide, ← n3] at hc
      rw [n1]
      generalize nextF s (nestF d t) = t1 at n1 n2 n3 hT1 hc ⊢
      obtain ⟨a1, a2⟩ := not_sim num hnum s f (d + 1) (false :: st) (by rw [hd]; simp) t1 l.tail hT1 n2 (by omega)
      refine ⟨fun h => hc.trans (a1 h), fun h => ?_⟩
      obtain ⟨l', b1, b2, b3, b4, b5⟩ := a2 h
      refine ⟨l', b1, (by rw [cntN_eq]; simp; omega), hc.trans b3, ?_, .not _ b5⟩
      rw [hl, notR, if_pos q1, b4, flat_not]
      rfl
    · rw [if_neg q1]
      by_cases q2 : t.tok = sOpen
      · rw [if_pos q2]
        obtain ⟨p1, p2, p3, p4⟩ := hpush (.inr q2)
        have hT1 := n5.next (by rw [n4]; exact p4)
        have hc := chk_yes (num := num) hT (d := t.deep) p4 p1
        rw [if_neg (by decide), p2, p3, show decide (t.tok = sOpen) = true by rw [q2]; decide, ← n3] at hc
        rw [n1]
        generalize nextF s (nestF d t) = t1 at n1 n2 n3 hT1 hc ⊢
        obtain ⟨⟨a1, a2⟩, a3⟩ := or_sim num s (true :: st) rfl f (d + 1) (fun t' l' h1 h2 h3 => not_sim num hnum s f (d + 1) (true :: st) (by rw [hd]; simp) t' l' h1 h2 h3) t1 l.tail hT1 n2 (by omega)
        generalize manyF s 1 sOr (manyF s 2 sAnd (notF num s f (d + 1))) t1 = r at a1 a2 a3 ⊢
        simp only
        cases hB : r.2.bad
        · obtain ⟨l1, b1, b2, b3, b4, b5⟩ := a2 hB
          obtain ⟨e1, e2, _⟩ := a3 hB
          have hl1 := b1.hd
          have hlt1 := tail_lt hl1
          by_cases q3 : r.2.tok = sShut
          · have hz : r.2.tok.size ≠ 0 := by rw [q3]; decide
            have hf : fitF num 1 r.2.tok ((true :: st).count true) = (true, 1) := by
              unfold fitF
              rw [if_neg (by decide), if_pos rfl, if_neg (by rw [q3]; decide), if_pos q3]
              simp
            have hc2 := chk_yes (num := num) b1 (d := r.2.deep) hz hf
            have e3 : pushF 1 r.2.tok (true :: st) = st := by
              unfold pushF
              rw [q3, if_neg (by decide), if_pos rfl]
              rfl
            have e4 : deepF 1 r.2.tok r.2.at_ (true :: st) r.2.deep = r.2.deep := by
              unfold deepF
              rw [q3, if_neg (by decide)]
            rw [if_pos rfl, e3, e4] at hc2
            have hT2 := b1.next hz
            have eT : takeF s r.2 (decide (r.2.tok = sShut)) = nextF s r.2 := by rw [q3, show decide (sShut = sShut) = true by decide]; exact take_yes hB
            unfold SimP
            simp only
            rw [eT]
            refine ⟨fun h => absurd (hB.symm.trans h) (by decide), fun _ => ⟨l1.tail, hT2, (by omega), hc.trans (b3.trans hc2), ?_, b5⟩⟩
            rw [hl, notR, if_neg q1, if_pos q2, b4, hl1]
            rfl
          · have eT : takeF s r.2 (decide (r.2.tok = sShut)) = { r.2 with bad := true } := by rw [decide_eq_false q3]; exact take_no hB
            have hf : (fitF num 1 r.2.tok ((true :: st).count true)).1 = false := by
              unfold fitF
              rw [if_neg (by decide), if_pos rfl, if_neg (by rintro (h | h); exact e2 h; exact e1 h), if_neg q3]
              simp
            have hc2 := chk_no (num := num) b1 (d := r.2.deep) hf
            unfold SimP
            simp only
            rw [eT]
            exact ⟨fun _ => hc.trans (b3.trans hc2), fun h => tf h⟩
        · unfold SimP
          simp only
          rw [take_bad hB]
          exact ⟨fun _ => hc.trans (a1 hB), fun h => absurd (hB.symm.trans h) (by decide)⟩
      · rw [if_neg q2]
        exact atom_sim num hnum s st t l hT hb q1 q2 f
/-- the reference's check is the parser's; the tree of a right rule is the parser's, flat -/
theorem check_parse (num : ByteArray → Int × Bool) (hnum : NumOk num) (s : ByteArray) :
    checkE num s = parseE num s ∧ ((parseE num s).2 = 0 → NdOk num (parseT num s).1 ∧ cntN (parseT num s).1 ≤ s.size + 1 ∧ ∃ l', orR (s.size + 1) (toks s 0) = some (flat (parseT num s).1, l')) := by
  unfold checkE parseE
  by_cases h0 : 2000 < s.size
  · rw [if_pos h0, if_pos h0]
    exact ⟨rfl, fun h => absurd (show (2 : Int) = 0 from h) (by decide)⟩
  · rw [if_neg h0, if_neg h0]
    have hT := TM.start s
    obtain ⟨⟨a1, a2⟩, a3⟩ := or_sim num s [] rfl (s.size + 1) 0 (fun t' l' h1 h2 h3 => not_sim num hnum s (s.size + 1) 0 [] rfl t' l' h1 h2 h3) (pst0 s) (toks s 0) hT rfl hT.len
    have hd : (pst0 s).deep = -1 := rfl
    rw [hd] at a1 a2
    have e : manyF s 1 sOr (manyF s 2 sAnd (notF num s (s.size + 1) 0)) (pst0 s) = parseT num s := rfl
    have e2 : listR sOr (listR sAnd (notR (s.size + 1))) (toks s 0) = orR (s.size + 1) (toks s 0) := rfl
    rw [e] at a1 a2 a3
    rw [e2] at a2
    generalize parseT num s = r at a1 a2 a3 ⊢
    cases hB : r.2.bad
    · obtain ⟨l1, b1, b2, b3, b4, b5⟩ := a2 hB
      obtain ⟨q1, q2, _⟩ := a3 hB
      obtain ⟨c1, c2⟩ := b1.cons
      rw [Bool.false_or]
      refine ⟨b3.trans ?_, fun _ => ⟨b5, (by have := hT.len; omega), l1, b4⟩⟩
      by_cases hz : r.2.tok.size = 0
      · rw [if_pos hz] at c2
        by_cases hat : r.2.at_ < s.size
        · rw [if_pos (decide_eq_true hat), c2, chkF, if_pos (.inr ⟨hz, hat⟩)]
        · have hf : fitF num 1 r.2.tok (([] : List Bool).count true) = (true, 1) := by
            unfold fitF
            rw [if_neg (by decide), if_pos rfl, if_neg (by rintro (h | h); exact q2 h; exact q1 h), if_neg (by intro h; rw [h] at hz; exact absurd hz (by decide))]
            simp [hz]
          have n1 : ¬ (r.2.tok = sOpen ∨ (r.2.tok = sNot ∧ 1 = 0)) := by
            rintro (h | h)
            · rw [h] at hz; exact absurd hz (by decide)
            · exact absurd h.2 (by decide)
          rw [if_neg (by simp [hat]), c2, chkF, hf, if_neg (by simp; omega), chkF]
          unfold deepF
          rw [if_neg n1]
      · have hat : r.2.at_ < s.size := by omega
        have hf : (fitF num 1 r.2.tok (([] : List Bool).count true)).1 = false := by
          unfold fitF
          rw [if_neg (by decide), if_pos rfl, if_neg (by rintro (h | h); exact q2 h; exact q1 h)]
          split
          · rfl
          · simp [hz]
        rw [if_pos (decide_eq_true hat)]
        exact chk_no b1 hf
    · rw [Bool.true_or, if_pos rfl]
      exact ⟨a1 hB, fun h => absurd (show (9 : Int) = 0 from h) (by decide)⟩
end Go.Proofs.YthbcogekfdllmaaGreatDoor
