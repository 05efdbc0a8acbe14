/-
  What Tidy writes, in plain words: the program's and the reference's, and that they are one. No Go text is named here.
-/
import Derived.Test.YtfhdknppldobiaaGreatDoorZChkPure2
import Derived.Lib.Join
import Derived.Lib.SlicesCompact
namespace Go.Proofs.YtfhdknppldobiaaGreatDoor
open Go Go.RowKit

def sepOr : List UInt8 := [32, 111, 114, 32]
def sepAnd : List UInt8 := [32, 97, 110, 100, 32]
def kindOf : Nd → Int
  | .node k _ _ => k
/-- a number that is read is short -/
def NumZ (num : ByteArray → Int × Bool) : Prop := ∀ x, (num x).2 = true → x.size ≤ 40
theorem name_le {x : ByteArray} (h : nameB x = true) : x.size ≤ 40 := by
  unfold nameB at h
  rw [Bool.and_eq_true] at h
  have h := h.1
  unfold keyB at h
  rw [Bool.and_eq_true, Bool.and_eq_true, decide_eq_true_eq] at h
  have := h.1.1.2
  simpa using this
theorem value_le {x : ByteArray} (h : valueB x = true) : x.size ≤ 40 := by
  unfold valueB at h
  rw [Bool.and_eq_true, decide_eq_true_eq] at h
  exact h.1.2
theorem has_size (x : ByteArray) : (hasQ x).size = x.size + 4 := by
  unfold hasQ
  rw [ByteArray.size_append]
  show 4 + x.size = _
  omega
theorem tri_size (a b c : ByteArray) : (triQ a b c).size = a.size + b.size + c.size + 2 := by
  unfold triQ
  rw [ByteArray.size_append, ByteArray.size_append, ByteArray.size_append, ByteArray.size_append]
  have : sBl.size = 1 := rfl
  omega
theorem txtA_size {num : ByteArray → Int × Bool} (hz : NumZ num) {a : Atm} (h : AtmOk num a) : (txtA a).size ≤ 90 := by
  have k1 : sTrue.size = 4 := rfl
  have k2 : sTime.size = 4 := rfl
  have k3 : sEq.size = 1 := rfl
  unfold txtA
  rcases h with ⟨h, _⟩ | ⟨h, h1, _⟩ | ⟨h, h1, h2⟩ | ⟨h, _, h1, _⟩
  · rw [if_pos h]; omega
  · rw [h, if_neg (by decide), if_pos rfl, has_size]
    have := name_le h1
    omega
  · rw [h, if_neg (by decide), if_neg (by decide), if_pos rfl, tri_size]
    have := name_le h1
    have := value_le h2
    omega
  · have := hz _ h1
    rcases h with h | h
    · rw [h, if_neg (by decide), if_neg (by decide), if_neg (by decide), tri_size]
      have : sLt.size = 1 := rfl
      omega
    · rw [h, if_neg (by decide), if_neg (by decide), if_neg (by decide), tri_size]
      have : sGt.size = 1 := rfl
      omega
theorem atm_sizes {num : ByteArray → Int × Bool} (hz : NumZ num) {a : Atm} (h : AtmOk num a) : a.word.size ≤ 100000 ∧ a.name.size ≤ 100000 ∧ a.value.size ≤ 100000 := by
  have k0 : noB.size = 0 := rfl
  have k1 : sTrue.size = 4 := rfl
  have k2 : sHas.size = 3 := rfl
  have k3 : sEq.size = 1 := rfl
  have k4 : sLt.size = 1 := rfl
  have k5 : sGt.size = 1 := rfl
  rcases h with ⟨h, h1, h2⟩ | ⟨h, h1, h2⟩ | ⟨h, h1, h2⟩ | ⟨h, h0, h1, _⟩
  · rw [h, h1, h2]; omega
  · have := name_le h1
    rw [h, h2]; omega
  · have := name_le h1
    have := value_le h2
    rw [h]; omega
  · have := hz _ h1
    rw [h0]
    rcases h with h | h <;> (rw [h]; omega)
/-- the atoms of a tree, as the program meets them -/
def atsF : Nd → List Atm
  | .node kind ks a => (if kind = 4 then [a] else []) ++ (ks.attach.flatMap fun k => atsF k.1)
termination_by t => SizeOf.sizeOf t
decreasing_by
  have := List.sizeOf_lt_of_mem k.2
  simp only [Nd.node.sizeOf_spec]
  omega
theorem atsF_eq (kind : Int) (ks : List Nd) (a : Atm) : atsF (.node kind ks a) = (if kind = 4 then [a] else []) ++ ks.flatMap atsF := by
  rw [atsF]
  congr 1
  rw [List.flatMap_def, List.flatMap_def]
  exact congrArg List.flatten (List.attach_map_val (l := ks) (f := atsF))
theorem ats_leaf (a : Atm) : atsF (.node 4 [] a) = [a] := by rw [atsF_eq, if_pos rfl]; rfl
theorem ats_in {kind : Int} (h : kind ≠ 4) (ks : List Nd) (a : Atm) : atsF (.node kind ks a) = ks.flatMap atsF := by rw [atsF_eq, if_neg h]; rfl
theorem flat_len_le (f : Nd → List Atm) : ∀ (ks : List Nd), (∀ k ∈ ks, (f k).length ≤ cntN k) → (ks.flatMap f).length ≤ (ks.map cntN).sum
  | [], _ => Nat.zero_le _
  | k :: ks, h => by
    have h1 := h k (List.mem_cons_self ..)
    have h2 := flat_len_le f ks (fun x hx => h x (List.mem_cons_of_mem _ hx))
    rw [List.flatMap_cons, List.length_append, List.map_cons, List.sum_cons]
    omega
theorem ats_len {num : ByteArray → Int × Bool} {t : Nd} (h : NdOk num t) : (atsF t).length ≤ cntN t := by
  induction h with
  | atom a _ => rw [ats_leaf, cnt_leaf]; exact Nat.le_refl 1
  | not k _ ih =>
    rw [ats_in (by decide), cntN_eq]
    have := flat_len_le atsF [k] (fun x hx => by simp at hx; subst hx; exact ih)
    omega
  | or ks _ _ ih => rw [ats_in (by decide), cntN_eq]; have := flat_len_le atsF ks ih; omega
  | and ks _ _ ih => rw [ats_in (by decide), cntN_eq]; have := flat_len_le atsF ks ih; omega
theorem ats_ok {num : ByteArray → Int × Bool} {t : Nd} (h : NdOk num t) : ∀ a ∈ atsF t, AtmOk num a := by
  induction h with
  | atom a h => intro x hx; rw [ats_leaf] at hx; simp at hx; subst hx; exact h
  | not k _ ih => intro x hx; rw [ats_in (by decide)] at hx; simp at hx; exact ih x hx
  | or ks _ _ ih => intro x hx; rw [ats_in (by decide), List.mem_flatMap] at hx; obtain ⟨k, hk, hx⟩ := hx; exact ih k hk x hx
  | and ks _ _ ih => intro x hx; rw [ats_in (by decide), List.mem_flatMap] at hx; obtain ⟨k, hk, hx⟩ := hx; exact ih k hk x hx
end Go.Proofs.YtfhdknppldobiaaGreatDoor
/-
  How many tokens the reference's parser takes. No Go text is named here.
-/
namespace Go.Proofs.YtfhdknppldobiaaGreatDoor
open Go Go.RowKit

/-- what a list goes on to be -/
def goR (op : ByteArray) (part : List Tk → Option (Nq × List Tk)) (m : Nat) (ks : List Nq) (l : List Tk) : Option (List Nq × List Tk) :=
  match part l with
  | none => none
  | some r => moreR op part m (ks ++ splQ op r.1) r.2
end Go.Proofs.YtfhdknppldobiaaGreatDoor
/-
  The reference's tree of a rule that was read: its form and its sizes. No Go text is named here.
-/
namespace Go.Proofs.YtfhdknppldobiaaGreatDoor
open Go Go.RowKit

inductive QOk : Nq → Prop
  | leaf (a : ByteArray) (h : a.size ≤ 90) : QOk (.node noB a [])
  | not (k : Nq) (h : QOk k) : QOk (.node sNot noB [k])
  | list (op : ByteArray) (ks : List Nq) (hop : op = sOr ∨ op = sAnd) (h2 : 2 ≤ ks.length) (h : ∀ k ∈ ks, QOk k) : QOk (.node op noB ks)
theorem qok_spl {op : ByteArray} {k : Nq} (h : QOk k) (hop : op = sOr ∨ op = sAnd) : ∀ x ∈ splQ op k, QOk x := by
  intro x hx
  unfold splQ at hx
  split at hx
  · rename_i he
    cases h with
    | leaf a h => cases hx
    | not k h => exact absurd (show sNot = op from he) (by rcases hop with h | h <;> rw [h] <;> decide)
    | list o ks h1 h2 h3 => exact h3 x hx
  · simp at hx; subst hx; exact h
theorem flat_qok {num : ByteArray → Int × Bool} (hz : NumZ num) {t : Nd} (h : NdOk num t) : QOk (flat t) := by
  induction h with
  | atom a h => rw [flat_leaf]; exact .leaf _ (txtA_size hz h)
  | not k _ ih => rw [flat_not]; exact .not _ ih
  | or ks h2 h ih =>
    rw [flat_or]
    refine .list sOr _ (.inl rfl) (Nat.le_trans h2 (flatMap_len _ ks (fun k hk => (flat_fok (h k hk)).spl (.inl rfl)))) (fun x hx => ?_)
    obtain ⟨k, hk, hx⟩ := List.mem_flatMap.1 hx
    exact qok_spl (ih k hk) (.inl rfl) x hx
  | and ks h2 h ih =>
    rw [flat_and]
    refine .list sAnd _ (.inr rfl) (Nat.le_trans h2 (flatMap_len _ ks (fun k hk => (flat_fok (h k hk)).spl (.inr rfl)))) (fun x hx => ?_)
    obtain ⟨k, hk, hx⟩ := List.mem_flatMap.1 hx
    exact qok_spl (ih k hk) (.inr rfl) x hx
end Go.Proofs.YtfhdknppldobiaaGreatDoor
/-
  Sorted lists without twins: a list is told by what it holds; the atoms of both trees are one. No Go text is named here.
-/
namespace Go.Proofs.YtfhdknppldobiaaGreatDoor
open Go Go.RowKit

abbrev BL := List UInt8
def srtQ (ls : List BL) : List BL := ls.mergeSort fun x y => decide (x ≤ y)
theorem bl_total (a b : BL) : (decide (a ≤ b) || decide (b ≤ a)) = true := by
  rcases List.le_total a b with h | h
  · rw [decide_eq_true h]; rfl
  · rw [decide_eq_true h]; simp
theorem bl_trans (a b c : BL) (h1 : decide (a ≤ b) = true) (h2 : decide (b ≤ c) = true) : decide (a ≤ c) = true :=
  decide_eq_true (List.le_trans (of_decide_eq_true h1) (of_decide_eq_true h2))
theorem srtQ_sorted (ls : List BL) : (srtQ ls).Pairwise (fun a b => a ≤ b) := by
  have := List.pairwise_mergeSort (le := fun x y : BL => decide (x ≤ y)) bl_trans bl_total ls
  exact this.imp (fun h => of_decide_eq_true h)
theorem srtQ_mem (ls : List BL) (x : BL) : x ∈ srtQ ls ↔ x ∈ ls := List.mem_mergeSort
/-- in a sorted row without twins each comes once -/
theorem comp_upto (d : Array BL) (hs : ∀ i j, i ≤ j → j < d.size → d[i]! ≤ d[j]!) : ∀ m, m ≤ d.size → (∀ x, x ∈ Lib.compactUpTo d m ↔ ∃ j, j < m ∧ d[j]! = x) ∧ (Lib.compactUpTo d m).Pairwise (fun a b => a ≤ b ∧ a ≠ b)
  | 0, _ => ⟨fun x => by simp [Lib.compactUpTo], by simp [Lib.compactUpTo]⟩
  | m + 1, h => by
    obtain ⟨h1, h2⟩ := comp_upto d hs m (by omega)
    rw [Lib.compactUpTo_succ]
    by_cases hk : Lib.keeps d m = true
    · rw [if_pos hk]
      refine ⟨fun x => ?_, ?_⟩
      · rw [List.mem_append, h1]
        constructor
        · rintro (⟨j, hj, e⟩ | e)
          · exact ⟨j, by omega, e⟩
          · simp at e; exact ⟨m, by omega, e.symm⟩
        · rintro ⟨j, hj, e⟩
          rcases Nat.lt_or_ge j m with h | h
          · exact .inl ⟨j, h, e⟩
          · obtain rfl : j = m := by omega
            exact .inr (by simp [e])
      · rw [List.pairwise_append]
        refine ⟨h2, by simp, fun a ha b hb => ?_⟩
        simp at hb
        subst hb
        obtain ⟨j, hj, rfl⟩ := (h1 a).1 ha
        refine ⟨hs j m (by omega) (by omega), fun e => ?_⟩
        have hm : m ≠ 0 := by omega
        have hne : d[m]! ≠ d[m - 1]! := by
          unfold Lib.keeps at hk
          have := of_decide_eq_true hk
          rcases this with h | h
          · exact absurd h hm
          · exact h
        have q1 := hs j (m - 1) (by omega) (by omega)
        have q2 := hs (m - 1) m (by omega) (by omega)
        rw [e] at q1
        exact hne (List.le_antisymm q1 q2)
    · rw [if_neg hk, List.append_nil]
      refine ⟨fun x => ?_, h2⟩
      have hk : Lib.keeps d m = false := by simpa using hk
      unfold Lib.keeps at hk
      have hk := of_decide_eq_false hk
      have hm : m ≠ 0 := fun e => hk (.inl e)
      have he : d[m]! = d[m - 1]! := by
        by_cases e : d[m]! = d[m - 1]!
        · exact e
        · exact absurd (.inr e) hk
      rw [h1]
      constructor
      · rintro ⟨j, hj, e⟩; exact ⟨j, by omega, e⟩
      · rintro ⟨j, hj, e⟩
        rcases Nat.lt_or_ge j m with h | h
        · exact ⟨j, h, e⟩
        · obtain rfl : j = m := by omega
          exact ⟨j - 1, by omega, by rw [← he]; exact e⟩
theorem comp_ok (ls : List BL) : (∀ x, x ∈ Lib.compact (srtQ ls) ↔ x ∈ ls) ∧ (Lib.compact (srtQ ls)).Pairwise (fun a b => a ≤ b ∧ a ≠ b) := by
  have hs := srtQ_sorted ls
  obtain ⟨h1, h2⟩ := comp_upto (srtQ ls).toArray (fun i j hij hj => by
    have hj' : j < (srtQ ls).length := by simpa using hj
    rw [getElem!_pos _ i (by simp; omega), getElem!_pos _ j hj]
    simp only [List.getElem_toArray]
    rcases Nat.lt_or_eq_of_le hij with h | h
    · exact List.pairwise_iff_getElem.1 hs i j (by omega) hj' h
    · subst h; exact List.le_refl _) (srtQ ls).length (by simp)
  refine ⟨fun x => ?_, h2⟩
  rw [← srtQ_mem ls x]
  have := h1 x
  rw [show Lib.compact (srtQ ls) = Lib.compactUpTo (srtQ ls).toArray (srtQ ls).length from rfl, this, List.mem_iff_getElem]
  constructor
  · rintro ⟨j, hj, e⟩
    exact ⟨j, hj, by rw [getElem!_pos _ j (by simpa using hj)] at e; simpa using e⟩
  · rintro ⟨j, hj, e⟩
    exact ⟨j, hj, by rw [getElem!_pos _ j (by simpa using hj)]; simpa using e⟩
theorem strict_one : ∀ (a b : List BL), a.Pairwise (fun x y => x ≤ y ∧ x ≠ y) → b.Pairwise (fun x y => x ≤ y ∧ x ≠ y) → (∀ x, x ∈ a ↔ x ∈ b) → a = b
  | [], [], _, _, _ => rfl
  | [], y :: b, _, _, h => absurd ((h y).2 (List.mem_cons_self ..)) (by simp)
  | x :: a, [], _, _, h => absurd ((h x).1 (List.mem_cons_self ..)) (by simp)
  | x :: a, y :: b, ha, hb, h => by
    rw [List.pairwise_cons] at ha hb
    have exy : x = y := by
      rcases List.mem_cons.1 ((h x).1 (List.mem_cons_self ..)) with e | e
      · exact e
      · rcases List.mem_cons.1 ((h y).2 (List.mem_cons_self ..)) with e2 | e2
        · exact e2.symm
        · exact List.le_antisymm (ha.1 y e2).1 (hb.1 x e).1
    subst exy
    congr 1
    refine strict_one a b ha.2 hb.2 (fun z => ?_)
    constructor
    · intro hz
      rcases List.mem_cons.1 ((h z).1 (List.mem_cons_of_mem _ hz)) with e | e
      · exact absurd e.symm (ha.1 z hz).2
      · exact e
    · intro hz
      rcases List.mem_cons.1 ((h z).2 (List.mem_cons_of_mem _ hz)) with e | e
      · exact absurd e.symm (hb.1 z hz).2
      · exact e
theorem comp_one {l1 l2 : List BL} (h : ∀ x, x ∈ l1 ↔ x ∈ l2) : Lib.compact (srtQ l1) = Lib.compact (srtQ l2) :=
  strict_one _ _ (comp_ok l1).2 (comp_ok l2).2 (fun x => by rw [(comp_ok l1).1, (comp_ok l2).1, h])

/-- the atoms of the reference's tree -/
def atsQ : Nq → List BL
  | .node op atom ks => Lib.compact (srtQ ((if op = noB then [atom.data.toList] else []) ++ ks.attach.flatMap fun k => atsQ k.1))
termination_by t => SizeOf.sizeOf t
decreasing_by
  have := List.sizeOf_lt_of_mem k.2
  simp only [Nq.node.sizeOf_spec]
  omega
theorem atsQ_eq (op atom : ByteArray) (ks : List Nq) : atsQ (.node op atom ks) = Lib.compact (srtQ ((if op = noB then [atom.data.toList] else []) ++ ks.flatMap atsQ)) := by
  rw [atsQ]
  congr 3
  rw [List.flatMap_def, List.flatMap_def]
  exact congrArg List.flatten (List.attach_map_val (l := ks) (f := atsQ))
theorem atsQ_mem (op atom : ByteArray) (ks : List Nq) (x : BL) : x ∈ atsQ (.node op atom ks) ↔ (op = noB ∧ x = atom.data.toList) ∨ ∃ k ∈ ks, x ∈ atsQ k := by
  rw [atsQ_eq, (comp_ok _).1, List.mem_append, List.mem_flatMap]
  by_cases h : op = noB
  · rw [if_pos h]; simp [h]
  · rw [if_neg h]; simp [h]
theorem atsQ_spl {op : ByteArray} {k : Nq} (h : QOk k) (hop : op = sOr ∨ op = sAnd) (x : BL) : (∃ y ∈ splQ op k, x ∈ atsQ y) ↔ x ∈ atsQ k := by
  unfold splQ
  split
  · rename_i he
    cases h with
    | leaf a h => exact absurd (show noB = op from he) (by rcases hop with h | h <;> rw [h] <;> decide)
    | not k h => exact absurd (show sNot = op from he) (by rcases hop with h | h <;> rw [h] <;> decide)
    | list o ks h1 h2 h3 =>
      rw [atsQ_mem]
      have : o ≠ noB := by rcases h1 with h | h <;> rw [h] <;> decide
      simp [this, Nq.kids]
  · simp
theorem ats_flat {num : ByteArray → Int × Bool} (hz : NumZ num) {t : Nd} (h : NdOk num t) : ∀ x, x ∈ atsQ (flat t) ↔ x ∈ (atsF t).map fun a => (txtA a).data.toList := by
  induction h with
  | atom a _ => intro x; rw [flat_leaf, atsQ_mem, ats_leaf]; simp
  | not k _ ih =>
    intro x
    have hn : ¬ sNot = noB := by decide
    rw [flat_not, atsQ_mem, ats_in (by decide)]
    simp only [List.flatMap_cons, List.flatMap_nil, List.append_nil]
    rw [← ih x]
    simp [hn]
  | or ks h2 h ih =>
    intro x
    have hn : ¬ sOr = noB := by decide
    rw [flat_or, atsQ_mem, ats_in (by decide), List.map_flatMap, List.mem_flatMap]
    constructor
    · rintro (⟨e, _⟩ | ⟨y, hy, hx⟩)
      · exact absurd e hn
      · obtain ⟨k, hk, hy⟩ := List.mem_flatMap.1 hy
        exact ⟨k, hk, (ih k hk x).1 ((atsQ_spl (flat_qok hz (h k hk)) (.inl rfl) x).1 ⟨y, hy, hx⟩)⟩
    · rintro ⟨k, hk, hx⟩
      obtain ⟨y, hy, hx⟩ := (atsQ_spl (flat_qok hz (h k hk)) (.inl rfl) x).2 ((ih k hk x).2 hx)
      exact .inr ⟨y, List.mem_flatMap.2 ⟨k, hk, hy⟩, hx⟩
  | and ks h2 h ih =>
    intro x
    have hn : ¬ sAnd = noB := by decide
    rw [flat_and, atsQ_mem, ats_in (by decide), List.map_flatMap, List.mem_flatMap]
    constructor
    · rintro (⟨e, _⟩ | ⟨y, hy, hx⟩)
      · exact absurd e hn
      · obtain ⟨k, hk, hy⟩ := List.mem_flatMap.1 hy
        exact ⟨k, hk, (ih k hk x).1 ((atsQ_spl (flat_qok hz (h k hk)) (.inr rfl) x).1 ⟨y, hy, hx⟩)⟩
    · rintro ⟨k, hk, hx⟩
      obtain ⟨y, hy, hx⟩ := (atsQ_spl (flat_qok hz (h k hk)) (.inr rfl) x).2 ((ih k hk x).2 hx)
      exact .inr ⟨y, List.mem_flatMap.2 ⟨k, hk, hy⟩, hx⟩
theorem atsQ_self (t : Nq) : atsQ t = Lib.compact (srtQ (atsQ t)) := by
  cases t with
  | node op atom ks =>
    rw [atsQ_eq]
    exact strict_one _ _ (comp_ok _).2 (comp_ok _).2 (fun x => by rw [(comp_ok (Lib.compact _)).1])
/-- both name the same atoms -/
theorem ats_both {num : ByteArray → Int × Bool} (hz : NumZ num) {t : Nd} (h : NdOk num t) : atsQ (flat t) = Lib.compact (srtQ ((atsF t).map fun a => (txtA a).data.toList)) := by
  rw [atsQ_self]
  exact comp_one (ats_flat hz h)
end Go.Proofs.YtfhdknppldobiaaGreatDoor
/-
  Whether a rule holds, and who is to blame, in plain words: the program's tree and the reference's. No Go text is named here.
-/
namespace Go.Proofs.YtfhdknppldobiaaGreatDoor
open Go Go.RowKit

def notV : List Bool → Bool
  | b :: _ => !b
  | [] => false
def holF (is : Atm → Bool) : Nd → Bool
  | .node kind ks a =>
    if kind = 4 then is a
    else if kind = 3 then notV (ks.attach.map fun k => holF is k.1)
    else if kind = 1 then (ks.attach.map fun k => holF is k.1).any id
    else (ks.attach.map fun k => holF is k.1).all id
termination_by t => SizeOf.sizeOf t
decreasing_by
  all_goals
    have := List.sizeOf_lt_of_mem k.2
    simp only [Nd.node.sizeOf_spec]
    omega
theorem holF_eq (is : Atm → Bool) (kind : Int) (ks : List Nd) (a : Atm) : holF is (.node kind ks a) =
    if kind = 4 then is a else if kind = 3 then notV (ks.map (holF is)) else if kind = 1 then (ks.map (holF is)).any id else (ks.map (holF is)).all id := by
  rw [holF]
  have e1 : (ks.attach.map fun k => holF is k.1) = ks.map (holF is) := List.attach_map_val (l := ks) (f := holF is)
  rw [e1]
theorem hol_leaf (is : Atm → Bool) (a : Atm) : holF is (.node 4 [] a) = is a := by rw [holF_eq, if_pos rfl]
theorem hol_not (is : Atm → Bool) (k : Nd) (a : Atm) : holF is (.node 3 [k] a) = !holF is k := by rw [holF_eq, if_neg (by decide), if_pos rfl]; rfl
theorem hol_or (is : Atm → Bool) (ks : List Nd) (a : Atm) : holF is (.node 1 ks a) = ks.any (holF is) := by rw [holF_eq, if_neg (by decide), if_neg (by decide), if_pos rfl, List.any_map]; rfl
theorem hol_and (is : Atm → Bool) (ks : List Nd) (a : Atm) : holF is (.node 2 ks a) = ks.all (holF is) := by rw [holF_eq, if_neg (by decide), if_neg (by decide), if_neg (by decide), List.all_map]; rfl
def truQ (is : ByteArray → Bool) : Nq → Bool
  | .node op atom ks =>
    if op = noB then is atom
    else if op = sNot then notV (ks.attach.map fun k => truQ is k.1)
    else if op = sOr then (ks.attach.map fun k => truQ is k.1).any id
    else (ks.attach.map fun k => truQ is k.1).all id
termination_by t => SizeOf.sizeOf t
decreasing_by
  all_goals
    have := List.sizeOf_lt_of_mem k.2
    simp only [Nq.node.sizeOf_spec]
    omega
theorem truQ_eq (is : ByteArray → Bool) (op atom : ByteArray) (ks : List Nq) : truQ is (.node op atom ks) =
    if op = noB then is atom else if op = sNot then notV (ks.map (truQ is)) else if op = sOr then (ks.map (truQ is)).any id else (ks.map (truQ is)).all id := by
  rw [truQ]
  have e1 : (ks.attach.map fun k => truQ is k.1) = ks.map (truQ is) := List.attach_map_val (l := ks) (f := truQ is)
  rw [e1]
theorem tru_leaf (is : ByteArray → Bool) (a : ByteArray) (ks : List Nq) : truQ is (.node noB a ks) = is a := by rw [truQ_eq, if_pos rfl]
theorem tru_not (is : ByteArray → Bool) (k : Nq) (a : ByteArray) : truQ is (.node sNot a [k]) = !truQ is k := by rw [truQ_eq, if_neg (by decide), if_pos rfl]; rfl
theorem tru_or (is : ByteArray → Bool) (ks : List Nq) (a : ByteArray) : truQ is (.node sOr a ks) = ks.any (truQ is) := by rw [truQ_eq, if_neg (by decide), if_neg (by decide), if_pos rfl, List.any_map]; rfl
theorem tru_and (is : ByteArray → Bool) (ks : List Nq) (a : ByteArray) : truQ is (.node sAnd a ks) = ks.all (truQ is) := by rw [truQ_eq, if_neg (by decide), if_neg (by decide), if_neg (by decide), List.all_map]; rfl
theorem spl_any (is : ByteArray → Bool) {k : Nq} (h : QOk k) : (splQ sOr k).any (truQ is) = truQ is k := by
  unfold splQ
  split
  · rename_i he
    cases h with
    | leaf a h => exact absurd (show noB = sOr from he) (by decide)
    | not k h => exact absurd (show sNot = sOr from he) (by decide)
    | list o ks h1 h2 h3 =>
      obtain rfl : o = sOr := he
      rw [tru_or]
      rfl
  · simp
theorem spl_all (is : ByteArray → Bool) {k : Nq} (h : QOk k) : (splQ sAnd k).all (truQ is) = truQ is k := by
  unfold splQ
  split
  · rename_i he
    cases h with
    | leaf a h => exact absurd (show noB = sAnd from he) (by decide)
    | not k h => exact absurd (show sNot = sAnd from he) (by decide)
    | list o ks h1 h2 h3 =>
      obtain rfl : o = sAnd := he
      rw [tru_and]
      rfl
  · simp
theorem any_congr {α : Type} (f g : α → Bool) : ∀ (l : List α), (∀ x ∈ l, f x = g x) → l.any f = l.any g
  | [], _ => rfl
  | x :: l, h => by
    rw [List.any_cons, List.any_cons, h x (List.mem_cons_self ..), any_congr f g l (fun y hy => h y (List.mem_cons_of_mem _ hy))]
theorem all_congr {α : Type} (f g : α → Bool) : ∀ (l : List α), (∀ x ∈ l, f x = g x) → l.all f = l.all g
  | [], _ => rfl
  | x :: l, h => by
    rw [List.all_cons, List.all_cons, h x (List.mem_cons_self ..), all_congr f g l (fun y hy => h y (List.mem_cons_of_mem _ hy))]
/-- both trees hold alike, where their atoms do -/
theorem tru_flat {num : ByteArray → Int × Bool} (hz : NumZ num) (is : Atm → Bool) (isQ : ByteArray → Bool) {t : Nd} (h : NdOk num t) (ha : ∀ a ∈ atsF t, isQ (txtA a) = is a) : truQ isQ (flat t) = holF is t := by
  induction h with
  | atom a _ => rw [flat_leaf, tru_leaf, hol_leaf]; exact ha a (by rw [ats_leaf]; simp)
  | not k _ ih => rw [flat_not, tru_not, hol_not, ih (fun a h => ha a (by rw [ats_in (by decide)]; simpa using h))]
  | or ks h2 h ih =>
    rw [flat_or, tru_or, hol_or, List.any_flatMap]
    refine any_congr _ _ ks (fun k hk => ?_)
    rw [spl_any isQ (flat_qok hz (h k hk))]
    exact ih k hk (fun a h => ha a (by rw [ats_in (by decide)]; exact List.mem_flatMap.2 ⟨k, hk, h⟩))
  | and ks h2 h ih =>
    rw [flat_and, tru_and, hol_and, List.all_flatMap]
    refine all_congr _ _ ks (fun k hk => ?_)
    rw [spl_all isQ (flat_qok hz (h k hk))]
    exact ih k hk (fun a h => ha a (by rw [ats_in (by decide)]; exact List.mem_flatMap.2 ⟨k, hk, h⟩))

end Go.Proofs.YtfhdknppldobiaaGreatDoor
