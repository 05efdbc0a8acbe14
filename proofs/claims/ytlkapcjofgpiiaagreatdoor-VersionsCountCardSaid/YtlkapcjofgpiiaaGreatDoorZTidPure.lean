/-
  What Tidy writes, in plain words: the program's and the reference's, and that they are one. No Go text is named here.
-/
import Derived.Test.YtlkapcjofgpiiaaGreatDoorZChkPure2
import Derived.Lib.Join
import Derived.Lib.SlicesCompact
namespace Go.Proofs.YtlkapcjofgpiiaaGreatDoor
open Go Go.RowKit

def kindOf : Nd → Int
  | .node k _ _ => k
/-- a number that is read is short -/
def NumZ (num : ByteArray → Int × Bool) : Prop := ∀ x, (num x).2 = true → x.size ≤ 40
theorem name_le {x : ByteArray} (h : nameB x = true) : x.size ≤ 40 := by
  unfold nameB at h
  rw [Bool.and_eq_true] at h
  have h := h.1
  unfold keyB at h
  rw [Bool.and_eq_true, Bool.and_eq_true, decide_eq_true_eq] at h
  have := h.1.1.2
  simpa using this
theorem value_le {x : ByteArray} (h : valueB x = true) : x.size ≤ 40 := by
  unfold valueB at h
  rw [Bool.and_eq_true, decide_eq_true_eq] at h
  exact h.1.2
theorem has_size (x : ByteArray) : (hasQ x).size = x.size + 4 := by
  unfold hasQ
  rw [ByteArray.size_append]
  show 4 + x.size = _
  omega
theorem tri_size (a b c : ByteArray) : (triQ a b c).size = a.size + b.size + c.size + 2 := by
  unfold triQ
  rw [ByteArray.size_append, ByteArray.size_append, ByteArray.size_append, ByteArray.size_append]
  have : sBl.size = 1 := rfl
  omega
theorem txtA_size {num : ByteArray → Int × Bool} (hz : NumZ num) {a : Atm} (h : AtmOk num a) : (txtA a).size ≤ 90 := by
  have k1 : sTrue.size = 4 := rfl
  have k2 : sTime.size = 4 := rfl
  have k3 : sEq.size = 1 := rfl
  unfold txtA
  rcases h with ⟨h, _⟩ | ⟨h, h1, _⟩ | ⟨h, h1, h2⟩ | ⟨h, _, h1, _⟩
  · rw [if_pos h]; omega
  · rw [h, if_neg (by decide), if_pos rfl, has_size]
    have := name_le h1
    omega
  · rw [h, if_neg (by decide), if_neg (by decide), if_pos rfl, tri_size]
    have := name_le h1
    have := value_le h2
    omega
  · have := hz _ h1
    rcases h with h | h
    · rw [h, if_neg (by decide), if_neg (by decide), if_neg (by decide), tri_size]
      have : sLt.size = 1 := rfl
      omega
    · rw [h, if_neg (by decide), if_neg (by decide), if_neg (by decide), tri_size]
      have : sGt.size = 1 := rfl
      omega
/-- the atoms of a tree, as the program meets them -/
def atsF : Nd → List Atm
  | .node kind ks a => (if kind = 4 then [a] else []) ++ (ks.attach.flatMap fun k => atsF k.1)
termination_by t => SizeOf.sizeOf t
decreasing_by
  have := List.sizeOf_lt_of_mem k.2
  simp only [Nd.node.sizeOf_spec]
  omega
theorem atsF_eq (kind : Int) (ks : List Nd) (a : Atm) : atsF (.node kind ks a) = (if kind = 4 then [a] else []) ++ ks.flatMap atsF := by
  rw [atsF]
  congr 1
  rw [List.flatMap_def, List.flatMap_def]
  exact congrArg List.flatten (List.attach_map_val (l := ks) (f := atsF))
theorem ats_leaf (a : Atm) : atsF (.node 4 [] a) = [a] := by rw [atsF_eq, if_pos rfl]; rfl
theorem ats_in {kind : Int} (h : kind ≠ 4) (ks : List Nd) (a : Atm) : atsF (.node kind ks a) = ks.flatMap atsF := by rw [atsF_eq, if_neg h]; rfl
theorem ats_ok {num : ByteArray → Int × Bool} {t : Nd} (h : NdOk num t) : ∀ a ∈ atsF t, AtmOk num a := by
  induction h with
  | atom a h => intro x hx; rw [ats_leaf] at hx; simp at hx; subst hx; exact h
  | not k _ ih => intro x hx; rw [ats_in (by decide)] at hx; simp at hx; exact ih x hx
  | or ks _ _ ih => intro x hx; rw [ats_in (by decide), List.mem_flatMap] at hx; obtain ⟨k, hk, hx⟩ := hx; exact ih k hk x hx
  | and ks _ _ ih => intro x hx; rw [ats_in (by decide), List.mem_flatMap] at hx; obtain ⟨k, hk, hx⟩ := hx; exact ih k hk x hx
end Go.Proofs.YtlkapcjofgpiiaaGreatDoor
/-
  How many tokens the reference's parser takes. No Go text is named here.
-/
namespace Go.Proofs.YtlkapcjofgpiiaaGreatDoor
open Go Go.RowKit

/-- what a list goes on to be -/
def goR (op : ByteArray) (part : List Tk → Option (Nq × List Tk)) (m : Nat) (ks : List Nq) (l : List Tk) : Option (List Nq × List Tk) :=
  match part l with
  | none => none
  | some r => moreR op part m (ks ++ splQ op r.1) r.2
theorem list_go {op : ByteArray} {part : List Tk → Option (Nq × List Tk)} {l : List Tk} {r : Nq × List Tk} (h : listR op part l = some r) : ∃ q, goR op part l.length [] l = some q ∧ r = (joinQ op q.1, q.2) := by
  unfold listR at h
  unfold goR
  cases hx : part l with
  | none => rw [hx] at h; cases h
  | some r1 =>
    rw [hx] at h
    simp only at h
    simp only [List.nil_append]
    cases hy : moreR op part l.length (splQ op r1.1) r1.2 with
    | none => rw [hy] at h; cases h
    | some q =>
      rw [hy] at h
      injection h with h
      exact ⟨q, rfl, h.symm⟩
theorem go_step {op : ByteArray} {part : List Tk → Option (Nq × List Tk)} {m : Nat} {ks : List Nq} {l : List Tk} {q : List Nq × List Tk} (h : goR op part m ks l = some q) :
    ∃ r1 t l2, part l = some (r1, t :: l2) ∧ ((t.1 = op ∧ ∃ m', m = m' + 1 ∧ goR op part m' (ks ++ splQ op r1) l2 = some q) ∨ (t.1 ≠ op ∧ q = (ks ++ splQ op r1, t :: l2))) := by
  unfold goR at h
  cases hx : part l with
  | none => rw [hx] at h; cases h
  | some r =>
    rw [hx] at h
    simp only at h
    obtain ⟨r1, l1⟩ := r
    cases m with
    | zero => cases h
    | succ m =>
      cases l1 with
      | nil => cases h
      | cons t l2 =>
        simp only at h
        rw [moreR] at h
        refine ⟨r1, t, l2, rfl, ?_⟩
        split at h
        · rename_i ht
          refine .inl ⟨ht, m, rfl, ?_⟩
          unfold goR
          cases hy : part l2 with
          | none => rw [hy] at h; cases h
          | some r2 =>
            rw [hy] at h
            exact h
        · rename_i ht
          injection h with h
          exact .inr ⟨ht, h.symm⟩

def cq : Nq → Nat
  | .node _ _ ks => max 1 (ks.attach.map fun k => cq k.1).sum
termination_by t => SizeOf.sizeOf t
decreasing_by
  have := List.sizeOf_lt_of_mem k.2
  simp only [Nq.node.sizeOf_spec]
  omega
theorem cq_eq (op atom : ByteArray) (ks : List Nq) : cq (.node op atom ks) = max 1 (ks.map cq).sum := by
  rw [cq]
  have e1 : (ks.attach.map fun k => cq k.1) = ks.map cq := List.attach_map_val (l := ks) (f := cq)
  rw [e1]
theorem cq_pos (t : Nq) : 1 ≤ cq t := by
  cases t
  rw [cq_eq]
  omega
def cqs (ks : List Nq) : Nat := (ks.map cq).sum
theorem cqs_app (a b : List Nq) : cqs (a ++ b) = cqs a + cqs b := by unfold cqs; simp
theorem cqs_len : ∀ (ks : List Nq), ks.length ≤ cqs ks
  | [] => Nat.le_refl _
  | k :: ks => by
    have h1 := cq_pos k
    have h2 := cqs_len ks
    unfold cqs at h2 ⊢
    rw [List.length_cons, List.map_cons, List.sum_cons]
    omega
theorem cqs_spl (op : ByteArray) (k : Nq) : cqs (splQ op k) ≤ cq k := by
  unfold splQ
  split
  · cases k with
    | node o a ks => rw [cq_eq]; show cqs ks ≤ _; unfold cqs; omega
  · unfold cqs; simp
/-- a part takes as many tokens as it has atoms -/
def LenP (part : List Tk → Option (Nq × List Tk)) : Prop := ∀ l r, part l = some r → cq r.1 + r.2.length ≤ l.length
theorem more_len {op : ByteArray} {part : List Tk → Option (Nq × List Tk)} (hp : LenP part) : ∀ (m : Nat) (ks : List Nq) (l : List Tk) (q : List Nq × List Tk), moreR op part m ks l = some q → cqs q.1 + q.2.length ≤ cqs ks + l.length ∧ cqs ks ≤ cqs q.1
  | 0, _, _, _, h => by cases h
  | _ + 1, _, [], _, h => by cases h
  | m + 1, ks, t :: l, q, h => by
    rw [moreR] at h
    split at h
    · cases hx : part l with
      | none => rw [hx] at h; cases h
      | some r =>
        rw [hx] at h
        have h1 := hp l r hx
        have h3 := more_len hp m _ _ q h
        have h4 := cqs_spl op r.1
        rw [cqs_app] at h3
        rw [List.length_cons]
        omega
    · injection h with h
      subst h
      exact ⟨Nat.le_refl _, Nat.le_refl _⟩
theorem cq_join (op : ByteArray) (ks : List Nq) : cq (joinQ op ks) ≤ max 1 (cqs ks) := by
  unfold joinQ
  split
  · unfold cqs; simp; omega
  · rw [cq_eq]; exact Nat.le_refl _
theorem list_len {op : ByteArray} {part : List Tk → Option (Nq × List Tk)} (hp : LenP part) : LenP (listR op part) := by
  intro l r h
  obtain ⟨q, hq, rfl⟩ := list_go h
  clear h
  have h : (match part l with | none => none | some r => moreR op part l.length ([] ++ splQ op r.1) r.2) = some q := hq
  cases hx : part l with
  | none => rw [hx] at h; cases h
  | some r1 =>
    rw [hx] at h
    have h1 := hp l r1 hx
    have h2 := more_len hp _ _ _ _ h
    have h3 := cqs_spl op r1.1
    have h4 := cq_join op q.1
    have h5 := cq_pos r1.1
    obtain ⟨h2, h6⟩ := h2
    have h6 : cqs (splQ op r1.1) ≤ cqs q.1 := h6
    simp only
    have : cqs q.1 + q.2.length ≤ cqs (splQ op r1.1) + r1.2.length := h2
    omega
theorem not_len : ∀ (f : Nat), LenP (notR f)
  | 0 => fun l r h => by cases h
  | f + 1 => fun l r h => by
    cases l with
    | nil => cases h
    | cons t l =>
      have ih := not_len f
      rw [notR] at h
      split at h
      · cases hx : notR f l with
        | none => rw [hx] at h; cases h
        | some r0 =>
          rw [hx] at h
          injection h with h
          subst h
          have := ih l r0 hx
          have := cq_pos r0.1
          rw [cq_eq]
          simp only [List.map_cons, List.map_nil, List.sum_cons, List.sum_nil, List.length_cons]
          omega
      · split at h
        · cases hx : listR sOr (listR sAnd (notR f)) l with
          | none => rw [hx] at h; cases h
          | some r0 =>
            have h1 := list_len (list_len ih) l r0 hx
            rw [hx] at h
            obtain ⟨n, l2⟩ := r0
            cases l2 with
            | nil => cases h
            | cons t2 l2 =>
              injection h with h
              subst h
              simp only [List.length_cons] at h1 ⊢
              omega
        · split at h
          · injection h with h
            subst h
            rw [cq_eq]
            simp
            omega
          · split at h
            · cases l with
              | nil => cases h
              | cons x l2 =>
                injection h with h
                subst h
                rw [cq_eq]
                simp
                omega
            · cases l with
              | nil => cases h
              | cons x l2 => cases l2 with
                | nil => cases h
                | cons y l2 =>
                  injection h with h
                  subst h
                  rw [cq_eq]
                  simp
                  omega
end Go.Proofs.YtlkapcjofgpiiaaGreatDoor
/-
  The reference's tree of a rule that was read: its form and its sizes. No Go text is named here.
-/
namespace Go.Proofs.YtlkapcjofgpiiaaGreatDoor
open Go Go.RowKit

inductive QOk : Nq → Prop
  | leaf (a : ByteArray) (h : a.size ≤ 90) : QOk (.node noB a [])
  | not (k : Nq) (h : QOk k) : QOk (.node sNot noB [k])
  | list (op : ByteArray) (ks : List Nq) (hop : op = sOr ∨ op = sAnd) (h2 : 2 ≤ ks.length) (h : ∀ k ∈ ks, QOk k) : QOk (.node op noB ks)
def cntQ : Nq → Nat
  | .node _ _ ks => 1 + (ks.attach.map fun k => cntQ k.1).sum
termination_by t => SizeOf.sizeOf t
decreasing_by
  have := List.sizeOf_lt_of_mem k.2
  simp only [Nq.node.sizeOf_spec]
  omega
theorem cntQ_eq (op a : ByteArray) (ks : List Nq) : cntQ (.node op a ks) = 1 + (ks.map cntQ).sum := by
  rw [cntQ]
  have e1 : (ks.attach.map fun k => cntQ k.1) = ks.map cntQ := List.attach_map_val (l := ks) (f := cntQ)
  rw [e1]
theorem cntQ_pos (t : Nq) : 1 ≤ cntQ t := by
  cases t
  rw [cntQ_eq]
  omega
theorem qok_spl {op : ByteArray} {k : Nq} (h : QOk k) (hop : op = sOr ∨ op = sAnd) : ∀ x ∈ splQ op k, QOk x := by
  intro x hx
  unfold splQ at hx
  split at hx
  · rename_i he
    cases h with
    | leaf a h => cases hx
    | not k h => exact absurd (show sNot = op from he) (by rcases hop with h | h <;> rw [h] <;> decide)
    | list o ks h1 h2 h3 => exact h3 x hx
  · simp at hx; subst hx; exact h
theorem flat_qok {num : ByteArray → Int × Bool} (hz : NumZ num) {t : Nd} (h : NdOk num t) : QOk (flat t) := by
  induction h with
  | atom a h => rw [flat_leaf]; exact .leaf _ (txtA_size hz h)
  | not k _ ih => rw [flat_not]; exact .not _ ih
  | or ks h2 h ih =>
    rw [flat_or]
    refine .list sOr _ (.inl rfl) (Nat.le_trans h2 (flatMap_len _ ks (fun k hk => (flat_fok (h k hk)).spl (.inl rfl)))) (fun x hx => ?_)
    obtain ⟨k, hk, hx⟩ := List.mem_flatMap.1 hx
    exact qok_spl (ih k hk) (.inl rfl) x hx
  | and ks h2 h ih =>
    rw [flat_and]
    refine .list sAnd _ (.inr rfl) (Nat.le_trans h2 (flatMap_len _ ks (fun k hk => (flat_fok (h k hk)).spl (.inr rfl)))) (fun x hx => ?_)
    obtain ⟨k, hk, hx⟩ := List.mem_flatMap.1 hx
    exact qok_spl (ih k hk) (.inr rfl) x hx
theorem cnt_spl (op : ByteArray) (k : Nq) : ((splQ op k).map cntQ).sum ≤ cntQ k := by
  unfold splQ
  split
  · cases k with
    | node o a ks => rw [cntQ_eq]; show (ks.map cntQ).sum ≤ _; omega
  · simp
theorem cnt_flatMap (op : ByteArray) : ∀ (ks : List Nd), (∀ k ∈ ks, cntQ (flat k) ≤ cntN k) → ((ks.flatMap fun k => splQ op (flat k)).map cntQ).sum ≤ (ks.map cntN).sum
  | [], _ => Nat.le_refl _
  | k :: ks, h => by
    have h1 := h k (List.mem_cons_self ..)
    have h2 := cnt_flatMap op ks (fun x hx => h x (List.mem_cons_of_mem _ hx))
    have h3 := cnt_spl op (flat k)
    rw [List.flatMap_cons, List.map_append, List.sum_append, List.map_cons, List.sum_cons]
    omega
theorem cnt_flat {num : ByteArray → Int × Bool} {t : Nd} (h : NdOk num t) : cntQ (flat t) ≤ cntN t := by
  induction h with
  | atom a _ => rw [flat_leaf, cntQ_eq, cnt_leaf]; simp
  | not k _ ih => rw [flat_not, cntQ_eq, cntN_eq]; simp; exact ih
  | or ks _ _ ih => rw [flat_or, cntQ_eq, cntN_eq]; have := cnt_flatMap sOr ks ih; omega
  | and ks _ _ ih => rw [flat_and, cntQ_eq, cntN_eq]; have := cnt_flatMap sAnd ks ih; omega
theorem mem_sumQ (f : Nq → Nat) : ∀ (l : List Nq) (k : Nq), k ∈ l → f k ≤ (l.map f).sum
  | [], _, h => by cases h
  | x :: l, k, h => by
    rw [List.map_cons, List.sum_cons]
    rcases List.mem_cons.1 h with rfl | h
    · omega
    · have := mem_sumQ f l k h; omega
theorem len_sumQ (f : Nq → Nat) (h : ∀ k, 1 ≤ f k) : ∀ (l : List Nq), l.length ≤ (l.map f).sum
  | [] => Nat.le_refl _
  | x :: l => by
    have h1 := h x
    have h2 := len_sumQ f h l
    rw [List.length_cons, List.map_cons, List.sum_cons]
    omega
end Go.Proofs.YtlkapcjofgpiiaaGreatDoor
/-
  Sorted lists without twins: a list is told by what it holds; the atoms of both trees are one. No Go text is named here.
-/
namespace Go.Proofs.YtlkapcjofgpiiaaGreatDoor
open Go Go.RowKit

abbrev BL := List UInt8
end Go.Proofs.YtlkapcjofgpiiaaGreatDoor
/-
  Whether a rule holds, and who is to blame, in plain words: the program's tree and the reference's. No Go text is named here.
-/
namespace Go.Proofs.YtlkapcjofgpiiaaGreatDoor
open Go Go.RowKit

def notV : List Bool → Bool
  | b :: _ => !b
  | [] => false
def holF (is : Atm → Bool) : Nd → Bool
  | .node kind ks a =>
    if kind = 4 then is a
    else if kind = 3 then notV (ks.attach.map fun k => holF is k.1)
    else if kind = 1 then (ks.attach.map fun k => holF is k.1).any id
    else (ks.attach.map fun k => holF is k.1).all id
termination_by t => SizeOf.sizeOf t
decreasing_by
  all_goals
    have := List.sizeOf_lt_of_mem k.2
    simp only [Nd.node.sizeOf_spec]
    omega
theorem holF_eq (is : Atm → Bool) (kind : Int) (ks : List Nd) (a : Atm) : holF is (.node kind ks a) =
    if kind = 4 then is a else if kind = 3 then notV (ks.map (holF is)) else if kind = 1 then (ks.map (holF is)).any id else (ks.map (holF is)).all id := by
  rw [holF]
  have e1 : (ks.attach.map fun k => holF is k.1) = ks.map (holF is) := List.attach_map_val (l := ks) (f := holF is)
  rw [e1]
theorem hol_leaf (is : Atm → Bool) (a : Atm) : holF is (.node 4 [] a) = is a := by rw [holF_eq, if_pos rfl]
theorem hol_not (is : Atm → Bool) (k : Nd) (a : Atm) : holF is (.node 3 [k] a) = !holF is k := by rw [holF_eq, if_neg (by decide), if_pos rfl]; rfl
theorem hol_or (is : Atm → Bool) (ks : List Nd) (a : Atm) : holF is (.node 1 ks a) = ks.any (holF is) := by rw [holF_eq, if_neg (by decide), if_neg (by decide), if_pos rfl, List.any_map]; rfl
theorem hol_and (is : Atm → Bool) (ks : List Nd) (a : Atm) : holF is (.node 2 ks a) = ks.all (holF is) := by rw [holF_eq, if_neg (by decide), if_neg (by decide), if_neg (by decide), List.all_map]; rfl
def truQ (is : ByteArray → Bool) : Nq → Bool
  | .node op atom ks =>
    if op = noB then is atom
    else if op = sNot then notV (ks.attach.map fun k => truQ is k.1)
    else if op = sOr then (ks.attach.map fun k => truQ is k.1).any id
    else (ks.attach.map fun k => truQ is k.1).all id
termination_by t => SizeOf.sizeOf t
decreasing_by
  all_goals
    have := List.sizeOf_lt_of_mem k.2
    simp only [Nq.node.sizeOf_spec]
    omega
theorem truQ_eq (is : ByteArray → Bool) (op atom : ByteArray) (ks : List Nq) : truQ is (.node op atom ks) =
    if op = noB then is atom else if op = sNot then notV (ks.map (truQ is)) else if op = sOr then (ks.map (truQ is)).any id else (ks.map (truQ is)).all id := by
  rw [truQ]
  have e1 : (ks.attach.map fun k => truQ is k.1) = ks.map (truQ is) := List.attach_map_val (l := ks) (f := truQ is)
  rw [e1]
theorem tru_leaf (is : ByteArray → Bool) (a : ByteArray) (ks : List Nq) : truQ is (.node noB a ks) = is a := by rw [truQ_eq, if_pos rfl]
theorem tru_not (is : ByteArray → Bool) (k : Nq) (a : ByteArray) : truQ is (.node sNot a [k]) = !truQ is k := by rw [truQ_eq, if_neg (by decide), if_pos rfl]; rfl
theorem tru_or (is : ByteArray → Bool) (ks : List Nq) (a : ByteArray) : truQ is (.node sOr a ks) = ks.any (truQ is) := by rw [truQ_eq, if_neg (by decide), if_neg (by decide), if_pos rfl, List.any_map]; rfl
theorem tru_and (is : ByteArray → Bool) (ks : List Nq) (a : ByteArray) : truQ is (.node sAnd a ks) = ks.all (truQ is) := by rw [truQ_eq, if_neg (by decide), if_neg (by decide), if_neg (by decide), List.all_map]; rfl
theorem spl_any (is : ByteArray → Bool) {k : Nq} (h : QOk k) : (splQ sOr k).any (truQ is) = truQ is k := by
  unfold splQ
  split
  · rename_i he
    cases h with
    | leaf a h => exact absurd (show noB = sOr from he) (by decide)
    | not k h => exact absurd (show sNot = sOr from he) (by decide)
    | list o ks h1 h2 h3 =>
      obtain rfl : o = sOr := he
      rw [tru_or]
      rfl
  · simp
theorem spl_all (is : ByteArray → Bool) {k : Nq} (h : QOk k) : (splQ sAnd k).all (truQ is) = truQ is k := by
  unfold splQ
  split
  · rename_i he
    cases h with
    | leaf a h => exact absurd (show noB = sAnd from he) (by decide)
    | not k h => exact absurd (show sNot = sAnd from he) (by decide)
    | list o ks h1 h2 h3 =>
      obtain rfl : o = sAnd := he
      rw [tru_and]
      rfl
  · simp
theorem any_congr {α : Type} (f g : α → Bool) : ∀ (l : List α), (∀ x ∈ l, f x = g x) → l.any f = l.any g
  | [], _ => rfl
  | x :: l, h => by
    rw [List.any_cons, List.any_cons, h x (List.mem_cons_self ..), any_congr f g l (fun y hy => h y (List.mem_cons_of_mem _ hy))]
theorem all_congr {α : Type} (f g : α → Bool) : ∀ (l : List α), (∀ x ∈ l, f x = g x) → l.all f = l.all g
  | [], _ => rfl
  | x :: l, h => by
    rw [List.all_cons, List.all_cons, h x (List.mem_cons_self ..), all_congr f g l (fun y hy => h y (List.mem_cons_of_mem _ hy))]
/-- both trees hold alike, where their atoms do -/
theorem tru_flat {num : ByteArray → Int × Bool} (hz : NumZ num) (is : Atm → Bool) (isQ : ByteArray → Bool) {t : Nd} (h : NdOk num t) (ha : ∀ a ∈ atsF t, isQ (txtA a) = is a) : truQ isQ (flat t) = holF is t := by
  induction h with
  | atom a _ => rw [flat_leaf, tru_leaf, hol_leaf]; exact ha a (by rw [ats_leaf]; simp)
  | not k _ ih => rw [flat_not, tru_not, hol_not, ih (fun a h => ha a (by rw [ats_in (by decide)]; simpa using h))]
  | or ks h2 h ih =>
    rw [flat_or, tru_or, hol_or, List.any_flatMap]
    refine any_congr _ _ ks (fun k hk => ?_)
    rw [spl_any isQ (flat_qok hz (h k hk))]
    exact ih k hk (fun a h => ha a (by rw [ats_in (by decide)]; exact List.mem_flatMap.2 ⟨k, hk, h⟩))
  | and ks h2 h ih =>
    rw [flat_and, tru_and, hol_and, List.all_flatMap]
    refine all_congr _ _ ks (fun k hk => ?_)
    rw [spl_all isQ (flat_qok hz (h k hk))]
    exact ih k hk (fun a h => ha a (by rw [ats_in (by decide)]; exact List.mem_flatMap.2 ⟨k, hk, h⟩))

end Go.Proofs.YtlkapcjofgpiiaaGreatDoor
/-
  Trees of the reference whose atoms have a property, in plain words. No Go text is named here.
-/
namespace Go.Proofs.YtlkapcjofgpiiaaGreatDoor
open Go Go.RowKit

inductive AllQ (G : ByteArray → Prop) : Nq → Prop
  | leaf (a : ByteArray) (h : G a) : AllQ G (.node noB a [])
  | not (k : Nq) (h : AllQ G k) : AllQ G (.node sNot noB [k])
  | list (op : ByteArray) (ks : List Nq) (hop : op = sOr ∨ op = sAnd) (h2 : 2 ≤ ks.length) (h : ∀ k ∈ ks, AllQ G k) : AllQ G (.node op noB ks)
theorem AllQ.mono {G G' : ByteArray → Prop} (hg : ∀ a, G a → G' a) {t : Nq} (h : AllQ G t) : AllQ G' t := by
  induction h with
  | leaf a h => exact .leaf a (hg a h)
  | not k _ ih => exact .not k ih
  | list op ks hop h2 _ ih => exact .list op ks hop h2 ih
theorem all_spl {G : ByteArray → Prop} {op : ByteArray} {k : Nq} (h : AllQ G k) (ho : op = sOr ∨ op = sAnd) : ∀ x ∈ splQ op k, AllQ G x := by
  unfold splQ
  split
  · rename_i he
    cases h with
    | leaf a h =>
      have he : noB = op := he
      rcases ho with rfl | rfl <;> exact absurd he (by decide)
    | not k h =>
      have he : sNot = op := he
      rcases ho with rfl | rfl <;> exact absurd he (by decide)
    | list o ks h1 h2 h3 => exact h3
  · intro x hx
    simp only [List.mem_singleton] at hx
    subst hx
    exact h
theorem flat_all {num : ByteArray → Int × Bool} {t : Nd} (h : NdOk num t) : AllQ (fun l => ∃ a ∈ atsF t, txtA a = l) (flat t) := by
  induction h with
  | atom a h => rw [flat_leaf]; exact .leaf _ ⟨a, by rw [ats_leaf]; simp, rfl⟩
  | not k _ ih => rw [flat_not]; exact .not _ (ih.mono (fun l ⟨a, ha, hl⟩ => ⟨a, by rw [ats_in (by decide)]; simpa using ha, hl⟩))
  | or ks h2 h ih =>
    rw [flat_or]
    refine .list sOr _ (.inl rfl) (Nat.le_trans h2 (flatMap_len _ ks (fun k hk => (flat_fok (h k hk)).spl (.inl rfl)))) (fun x hx => ?_)
    obtain ⟨k, hk, hx⟩ := List.mem_flatMap.1 hx
    exact (all_spl (ih k hk) (.inl rfl) x hx).mono (fun l ⟨a, ha, hl⟩ => ⟨a, by rw [ats_in (by decide)]; exact List.mem_flatMap.2 ⟨k, hk, ha⟩, hl⟩)
  | and ks h2 h ih =>
    rw [flat_and]
    refine .list sAnd _ (.inr rfl) (Nat.le_trans h2 (flatMap_len _ ks (fun k hk => (flat_fok (h k hk)).spl (.inr rfl)))) (fun x hx => ?_)
    obtain ⟨k, hk, hx⟩ := List.mem_flatMap.1 hx
    exact (all_spl (ih k hk) (.inr rfl) x hx).mono (fun l ⟨a, ha, hl⟩ => ⟨a, by rw [ats_in (by decide)]; exact List.mem_flatMap.2 ⟨k, hk, ha⟩, hl⟩)
end Go.Proofs.YtlkapcjofgpiiaaGreatDoor
