/-
  What Tidy writes, in plain words: the program's and the reference's, and that they are one. No Go text is named here.
-/
import Derived.Test.YtfhdknppldobiaaGreatDoorZChkPure2
import Derived.Lib.Join
namespace Go.Proofs.YtfhdknppldobiaaGreatDoor
open Go Go.RowKit

def sepOr : List UInt8 := [32, 111, 114, 32]
def sepAnd : List UInt8 := [32, 97, 110, 100, 32]
def notT : ByteArray := ⟨#[110, 111, 116, 32]⟩
def parB (x : ByteArray) : ByteArray := (⟨#[40]⟩ ++ x) ++ ⟨#[41]⟩
def parIf (b : Bool) (x : ByteArray) : ByteArray := if b = true then parB x else x
def joinB (sep : List UInt8) (l : List ByteArray) : ByteArray := ⟨(Lib.join (l.map (·.data.toList)) sep).toArray⟩
def kindOf : Nd → Int
  | .node k _ _ => k
def noteB : List ByteArray → ByteArray
  | [] => noB
  | x :: _ => notT ++ x
/-- a kid's text within a node of this kind -/
def kidT (kind : Int) (k : Nd) (x : ByteArray) : ByteArray := parIf (decide (kindOf k = 1 ∧ (kind = 2 ∨ kind = 3)) || decide (kindOf k = 2 ∧ kind = 3)) x
def tidF : Nd → ByteArray
  | .node kind ks a =>
    if kind = 4 then txtA a
    else if kind = 3 then noteB (ks.attach.map fun k => kidT kind k.1 (tidF k.1))
    else joinB (if kind = 1 then sepOr else sepAnd) (ks.attach.map fun k => kidT kind k.1 (tidF k.1))
termination_by t => SizeOf.sizeOf t
decreasing_by
  all_goals
    have := List.sizeOf_lt_of_mem k.2
    simp only [Nd.node.sizeOf_spec]
    omega
theorem tidF_eq (kind : Int) (ks : List Nd) (a : Atm) : tidF (.node kind ks a) =
    if kind = 4 then txtA a
    else if kind = 3 then noteB (ks.map fun k => kidT kind k (tidF k))
    else joinB (if kind = 1 then sepOr else sepAnd) (ks.map fun k => kidT kind k (tidF k)) := by
  rw [tidF]
  have e1 : (ks.attach.map fun k => kidT kind k.1 (tidF k.1)) = ks.map fun k => kidT kind k (tidF k) := List.attach_map_val (l := ks) (f := fun k => kidT kind k (tidF k))
  rw [e1]
theorem tid_leaf (a : Atm) : tidF (.node 4 [] a) = txtA a := by rw [tidF_eq, if_pos rfl]
theorem tid_not (k : Nd) (a : Atm) : tidF (.node 3 [k] a) = notT ++ kidT 3 k (tidF k) := by rw [tidF_eq, if_neg (by decide), if_pos rfl]; rfl
theorem tid_or (ks : List Nd) (a : Atm) : tidF (.node 1 ks a) = joinB sepOr (ks.map fun k => kidT 1 k (tidF k)) := by rw [tidF_eq, if_neg (by decide), if_neg (by decide), if_pos rfl]
theorem tid_and (ks : List Nd) (a : Atm) : tidF (.node 2 ks a) = joinB sepAnd (ks.map fun k => kidT 2 k (tidF k)) := by rw [tidF_eq, if_neg (by decide), if_neg (by decide), if_neg (by decide)]
theorem parB_size (x : ByteArray) : (parB x).size = x.size + 2 := by
  unfold parB
  rw [ByteArray.size_append, ByteArray.size_append]
  show 1 + x.size + 1 = x.size + 2
  omega
theorem kidT_size (kind : Int) (k : Nd) (x : ByteArray) : (kidT kind k x).size ≤ x.size + 2 := by
  unfold kidT parIf
  split
  · rw [parB_size]; exact Nat.le_refl _
  · omega
theorem tail_len (sep : List UInt8) (r : List (List UInt8)) : (Lib.joinTail sep r).length = (r.map (fun x => x.length + sep.length)).sum := by
  unfold Lib.joinTail
  induction r with
  | nil => rfl
  | cons x r ih =>
    rw [List.map_cons, List.flatten_cons, List.length_append, ih, List.map_cons, List.sum_cons, List.length_append]
    omega
theorem join_len (sep : List UInt8) (xs : List (List UInt8)) : (Lib.join xs sep).length ≤ (xs.map (fun x => x.length + sep.length)).sum := by
  cases xs with
  | nil => exact Nat.zero_le _
  | cons x r =>
    rw [Lib.join_cons, List.length_append, tail_len, List.map_cons, List.sum_cons]
    omega
theorem joinB_size (sep : List UInt8) (l : List ByteArray) : (joinB sep l).size ≤ (l.map (fun x => x.size + sep.length)).sum := by
  have h := join_len sep (l.map (·.data.toList))
  rw [List.map_map] at h
  have e : (l.map ((fun x => x.length + sep.length) ∘ fun x => x.data.toList)) = l.map (fun x => x.size + sep.length) := List.map_congr_left (fun x _ => by simp)
  rw [e] at h
  have e2 : (joinB sep l).size = (Lib.join (l.map (·.data.toList)) sep).length := by
    show (Lib.join (l.map (·.data.toList)) sep).toArray.size = _
    simp
  rw [e2]
  exact h
theorem sum_le {α : Type} (f g : α → Nat) : ∀ (l : List α), (∀ x ∈ l, f x ≤ g x) → (l.map f).sum ≤ (l.map g).sum
  | [], _ => Nat.le_refl _
  | x :: l, h => by
    have h1 := h x (List.mem_cons_self ..)
    have h2 := sum_le f g l (fun y hy => h y (List.mem_cons_of_mem _ hy))
    simp only [List.map_cons, List.sum_cons]
    omega
theorem sum_mul (f : Nd → Nat) (c : Nat) : ∀ (l : List Nd), (l.map (fun x => c * f x)).sum = c * (l.map f).sum
  | [] => rfl
  | x :: l => by
    simp only [List.map_cons, List.sum_cons]
    rw [sum_mul f c l, Nat.mul_add]
/-- a number that is read is short -/
def NumZ (num : ByteArray → Int × Bool) : Prop := ∀ x, (num x).2 = true → x.size ≤ 40
theorem name_le {x : ByteArray} (h : nameB x = true) : x.size ≤ 40 := by
  unfold nameB at h
  rw [Bool.and_eq_true] at h
  have h := h.1
  unfold keyB at h
  rw [Bool.and_eq_true, Bool.and_eq_true, decide_eq_true_eq] at h
  have := h.1.1.2
  simpa using this
theorem value_le {x : ByteArray} (h : valueB x = true) : x.size ≤ 40 := by
  unfold valueB at h
  rw [Bool.and_eq_true, decide_eq_true_eq] at h
  exact h.1.2
theorem has_size (x : ByteArray) : (hasQ x).size = x.size + 4 := by
  unfold hasQ
  rw [ByteArray.size_append]
  show 4 + x.size = _
  omega
theorem tri_size (a b c : ByteArray) : (triQ a b c).size = a.size + b.size + c.size + 2 := by
  unfold triQ
  rw [ByteArray.size_append, ByteArray.size_append, ByteArray.size_append, ByteArray.size_append]
  have : sBl.size = 1 := rfl
  omega
theorem txtA_size {num : ByteArray → Int × Bool} (hz : NumZ num) {a : Atm} (h : AtmOk num a) : (txtA a).size ≤ 90 := by
  have k1 : sTrue.size = 4 := rfl
  have k2 : sTime.size = 4 := rfl
  have k3 : sEq.size = 1 := rfl
  unfold txtA
  rcases h with ⟨h, _⟩ | ⟨h, h1, _⟩ | ⟨h, h1, h2⟩ | ⟨h, _, h1, _⟩
  · rw [if_pos h]; omega
  · rw [h, if_neg (by decide), if_pos rfl, has_size]
    have := name_le h1
    omega
  · rw [h, if_neg (by decide), if_neg (by decide), if_pos rfl, tri_size]
    have := name_le h1
    have := value_le h2
    omega
  · have := hz _ h1
    rcases h with h | h
    · rw [h, if_neg (by decide), if_neg (by decide), if_neg (by decide), tri_size]
      have : sLt.size = 1 := rfl
      omega
    · rw [h, if_neg (by decide), if_neg (by decide), if_neg (by decide), tri_size]
      have : sGt.size = 1 := rfl
      omega
theorem atm_sizes {num : ByteArray → Int × Bool} (hz : NumZ num) {a : Atm} (h : AtmOk num a) : a.word.size ≤ 100000 ∧ a.name.size ≤ 100000 ∧ a.value.size ≤ 100000 := by
  have k0 : noB.size = 0 := rfl
  have k1 : sTrue.size = 4 := rfl
  have k2 : sHas.size = 3 := rfl
  have k3 : sEq.size = 1 := rfl
  have k4 : sLt.size = 1 := rfl
  have k5 : sGt.size = 1 := rfl
  rcases h with ⟨h, h1, h2⟩ | ⟨h, h1, h2⟩ | ⟨h, h1, h2⟩ | ⟨h, h0, h1, _⟩
  · rw [h, h1, h2]; omega
  · have := name_le h1
    rw [h, h2]; omega
  · have := name_le h1
    have := value_le h2
    rw [h]; omega
  · have := hz _ h1
    rw [h0]
    rcases h with h | h <;> (rw [h]; omega)
theorem mem_sum (f : Nd → Nat) : ∀ (l : List Nd) (k : Nd), k ∈ l → f k ≤ (l.map f).sum
  | [], _, h => by cases h
  | x :: l, k, h => by
    rw [List.map_cons, List.sum_cons]
    rcases List.mem_cons.1 h with rfl | h
    · omega
    · have := mem_sum f l k h; omega
theorem len_sum (f : Nd → Nat) (h : ∀ k, 1 ≤ f k) : ∀ (l : List Nd), l.length ≤ (l.map f).sum
  | [] => Nat.le_refl _
  | x :: l => by
    have h1 := h x
    have h2 := len_sum f h l
    rw [List.length_cons, List.map_cons, List.sum_cons]
    omega
theorem list_size (kind : Int) (sep : List UInt8) (hs : sep.length ≤ 5) (ks : List Nd) (ih : ∀ k ∈ ks, (tidF k).size + 10 ≤ 100 * cntN k) : (joinB sep (ks.map fun k => kidT kind k (tidF k))).size + 10 ≤ 100 * (1 + (ks.map cntN).sum) := by
  have h1 := joinB_size sep (ks.map fun k => kidT kind k (tidF k))
  rw [List.map_map] at h1
  have h2 := sum_le ((fun x => x.size + sep.length) ∘ fun k => kidT kind k (tidF k)) (fun k => 100 * cntN k) ks (fun k hk => by
    have := ih k hk
    have := kidT_size kind k (tidF k)
    show (kidT kind k (tidF k)).size + sep.length ≤ 100 * cntN k
    omega)
  rw [sum_mul] at h2
  omega
theorem tid_size {num : ByteArray → Int × Bool} (hz : NumZ num) {t : Nd} (h : NdOk num t) : (tidF t).size + 10 ≤ 100 * cntN t := by
  induction h with
  | atom a h => rw [tid_leaf, cnt_leaf]; have := txtA_size hz h; omega
  | not k _ ih =>
    rw [tid_not, cntN_eq, ByteArray.size_append]
    have := kidT_size 3 k (tidF k)
    have e : notT.size = 4 := rfl
    simp only [List.map_cons, List.map_nil, List.sum_cons, List.sum_nil]
    omega
  | or ks _ _ ih => rw [tid_or, cntN_eq]; exact list_size 1 sepOr (by decide) ks ih
  | and ks _ _ ih => rw [tid_and, cntN_eq]; exact list_size 2 sepAnd (by decide) ks ih

/-- a kid's text in the reference -/
def partQ (op : ByteArray) (k : Nq) (x : ByteArray) : ByteArray := parIf (decide (k.op = sOr) || (decide (k.op = sAnd) && decide (op = sNot))) x
def txtQ : Nq → ByteArray
  | .node op atom ks =>
    if op = noB then atom
    else if op = sNot then noteB (ks.attach.map fun k => partQ op k.1 (txtQ k.1))
    else joinB ([32] ++ op.data.toList ++ [32]) (ks.attach.map fun k => partQ op k.1 (txtQ k.1))
termination_by t => SizeOf.sizeOf t
decreasing_by
  all_goals
    have := List.sizeOf_lt_of_mem k.2
    simp only [Nq.node.sizeOf_spec]
    omega
theorem txtQ_eq (op atom : ByteArray) (ks : List Nq) : txtQ (.node op atom ks) =
    if op = noB then atom
    else if op = sNot then noteB (ks.map fun k => partQ op k (txtQ k))
    else joinB ([32] ++ op.data.toList ++ [32]) (ks.map fun k => partQ op k (txtQ k)) := by
  rw [txtQ]
  have e1 : (ks.attach.map fun k => partQ op k.1 (txtQ k.1)) = ks.map fun k => partQ op k (txtQ k) := List.attach_map_val (l := ks) (f := fun k => partQ op k (txtQ k))
  rw [e1]
theorem join_two (sep : List UInt8) (x : List UInt8) (l : List (List UInt8)) (hl : l ≠ []) : Lib.join (x :: l) sep = x ++ sep ++ Lib.join l sep := by
  cases l with
  | nil => exact absurd rfl hl
  | cons y r =>
    rw [Lib.join_cons, Lib.join_cons]
    unfold Lib.joinTail
    rw [List.map_cons, List.flatten_cons]
    simp
theorem join_app (sep : List UInt8) : ∀ (l1 l2 : List (List UInt8)), l1 ≠ [] → l2 ≠ [] → Lib.join (l1 ++ l2) sep = Lib.join l1 sep ++ sep ++ Lib.join l2 sep
  | [], _, h, _ => absurd rfl h
  | [x], l2, _, h2 => by
    rw [Lib.join_one]
    exact join_two sep x l2 h2
  | x :: y :: r, l2, _, h2 => by
    have ih := join_app sep (y :: r) l2 (by simp) h2
    rw [List.cons_append, join_two sep x _ (by simp), ih, join_two sep x (y :: r) (by simp)]
    simp
theorem join_flat (sep : List UInt8) {α : Type} (f : α → List (List UInt8)) (g : α → List UInt8) : ∀ (l : List α), (∀ x ∈ l, f x ≠ [] ∧ Lib.join (f x) sep = g x) → Lib.join (l.flatMap f) sep = Lib.join (l.map g) sep
  | [], _ => rfl
  | [x], h => by
    have := (h x (List.mem_cons_self ..)).2
    simp only [List.flatMap_cons, List.flatMap_nil, List.append_nil, List.map_cons, List.map_nil]
    rw [Lib.join_one, this]
  | x :: y :: l, h => by
    have ih := join_flat sep f g (y :: l) (fun z hz => h z (List.mem_cons_of_mem _ hz))
    have h1 := h x (List.mem_cons_self ..)
    have hne : (y :: l).flatMap f ≠ [] := by
      rw [List.flatMap_cons]
      intro e
      exact (h y (by simp)).1 (List.append_eq_nil_iff.1 e).1
    have e : List.map g (x :: y :: l) = g x :: List.map g (y :: l) := rfl
    rw [List.flatMap_cons, join_app sep _ _ h1.1 hne, ih, h1.2, e, join_two sep (g x) (List.map g (y :: l)) (by simp)]
theorem flat_op {num : ByteArray → Int × Bool} {t : Nd} (h : NdOk num t) : ((flat t).op = sOr ↔ kindOf t = 1) ∧ ((flat t).op = sAnd ↔ kindOf t = 2) := by
  cases h with
  | atom a _ => rw [flat_leaf]; exact ⟨⟨fun h => absurd (show noB = sOr from h) (by decide), fun h => absurd (show (4 : Int) = 1 from h) (by decide)⟩, ⟨fun h => absurd (show noB = sAnd from h) (by decide), fun h => absurd (show (4 : Int) = 2 from h) (by decide)⟩⟩
  | not k _ => rw [flat_not]; exact ⟨⟨fun h => absurd (show sNot = sOr from h) (by decide), fun h => absurd (show (3 : Int) = 1 from h) (by decide)⟩, ⟨fun h => absurd (show sNot = sAnd from h) (by decide), fun h => absurd (show (3 : Int) = 2 from h) (by decide)⟩⟩
  | or ks _ _ => rw [flat_or]; exact ⟨⟨fun _ => rfl, fun _ => rfl⟩, ⟨fun h => absurd (show sOr = sAnd from h) (by decide), fun h => absurd (show (1 : Int) = 2 from h) (by decide)⟩⟩
  | and ks _ _ => rw [flat_and]; exact ⟨⟨fun h => absurd (show sAnd = sOr from h) (by decide), fun h => absurd (show (2 : Int) = 1 from h) (by decide)⟩, ⟨fun _ => rfl, fun _ => rfl⟩⟩
theorem part_kid {num : ByteArray → Int × Bool} {k : Nd} (h : NdOk num k) (kind : Int) (op : ByteArray) (hk : (kind = 1 ∧ op = sOr ∧ kindOf k ≠ 1) ∨ (kind = 2 ∧ op = sAnd) ∨ (kind = 3 ∧ op = sNot)) (x : ByteArray) : partQ op (flat k) x = kidT kind k x := by
  obtain ⟨h1, h2⟩ := flat_op h
  unfold partQ kidT
  congr 1
  have d1 : decide ((flat k).op = sOr) = decide (kindOf k = 1) := decide_eq_decide.2 h1
  have d2 : decide ((flat k).op = sAnd) = decide (kindOf k = 2) := decide_eq_decide.2 h2
  rw [d1, d2]
  rcases hk with ⟨rfl, rfl, h3⟩ | ⟨rfl, rfl⟩ | ⟨rfl, rfl⟩
  · rw [decide_eq_false h3, show decide (sOr = sNot) = false by decide]; simp
  · rw [show decide (sAnd = sNot) = false by decide]; simp
  · rw [show decide (sNot = sNot) = true by decide]; simp
theorem list_txt {num : ByteArray → Int × Bool} (kind : Int) (op : ByteArray) (hk : (kind = 1 ∧ op = sOr) ∨ (kind = 2 ∧ op = sAnd)) (sep : List UInt8) (hsep : sep = [32] ++ op.data.toList ++ [32]) (ks : List Nd) (ho : ∀ k ∈ ks, NdOk num k) (ih : ∀ k ∈ ks, txtQ (flat k) = tidF k) :
    joinB sep ((ks.flatMap fun k => splQ op (flat k)).map fun k => partQ op k (txtQ k)) = joinB sep (ks.map fun k => kidT kind k (tidF k)) := by
  have hop : op = sOr ∨ op = sAnd := by rcases hk with h | h; exact .inl h.2; exact .inr h.2
  have hne : op ≠ noB ∧ op ≠ sNot := by rcases hop with h | h <;> rw [h] <;> decide
  unfold joinB
  congr 2
  rw [List.map_map, List.map_flatMap, List.map_map]
  refine join_flat sep (fun k => (splQ op (flat k)).map ((fun x => x.data.toList) ∘ fun k => partQ op k (txtQ k))) _ ks (fun k hkm => ?_)
  have hF := flat_fok (ho k hkm)
  refine ⟨fun e => ?_, ?_⟩
  · have h1 := hF.spl hop
    rw [List.map_eq_nil_iff] at e
    rw [e] at h1
    exact absurd h1 (by decide)
  · by_cases hs : (flat k).op = op
    · -- spliced: its own text, bare
      obtain ⟨h2, h3⟩ := hF (by rw [hs]; exact hop)
      have e1 : splQ op (flat k) = (flat k).kids := by unfold splQ; rw [if_pos hs]
      have e2 : txtQ (flat k) = joinB sep ((flat k).kids.map fun k => partQ op k (txtQ k)) := by
        rw [h3, hs, txtQ_eq, if_neg hne.1, if_neg hne.2, hsep]
        rfl
      have e3 : kidT kind k (tidF k) = tidF k := by
        obtain ⟨f1, f2⟩ := flat_op (ho k hkm)
        unfold kidT parIf
        rcases hk with ⟨rfl, rfl⟩ | ⟨rfl, rfl⟩
        · have := f1.1 hs
          rw [this]; rfl
        · have := f2.1 hs
          rw [this]; rfl
      show Lib.join _ sep = (kidT kind k (tidF k)).data.toList
      rw [e3, ← ih k hkm, e2, e1]
      unfold joinB
      rw [List.map_map]
    · have e1 : splQ op (flat k) = [flat k] := by unfold splQ; rw [if_neg hs]
      have e2 : partQ op (flat k) (tidF k) = kidT kind k (tidF k) := part_kid (ho k hkm) kind op (by
        rcases hk with ⟨h1, h2⟩ | h
        · exact .inl ⟨h1, h2, fun e => hs (by rw [h2]; exact (flat_op (ho k hkm)).1.2 e)⟩
        · exact .inr (.inl h)) _
      rw [e1]
      show Lib.join [(partQ op (flat k) (txtQ (flat k))).data.toList] sep = (kidT kind k (tidF k)).data.toList
      rw [Lib.join_one, ih k hkm, e2]
/-- the reference's text of a tree is what Tidy writes -/
theorem txt_flat {num : ByteArray → Int × Bool} {t : Nd} (h : NdOk num t) : txtQ (flat t) = tidF t := by
  induction h with
  | atom a _ => rw [flat_leaf, txtQ_eq, if_pos rfl, tid_leaf]
  | not k hk ih =>
    rw [flat_not, txtQ_eq, if_neg (by decide), if_pos rfl, tid_not]
    show notT ++ partQ sNot (flat k) (txtQ (flat k)) = _
    rw [ih, part_kid hk 3 sNot (.inr (.inr ⟨rfl, rfl⟩))]
  | or ks _ ho ih =>
    rw [flat_or, txtQ_eq, if_neg (by decide), if_neg (by decide), tid_or]
    exact list_txt 1 sOr (.inl ⟨rfl, rfl⟩) _ rfl ks ho ih
  | and ks _ ho ih =>
    rw [flat_and, txtQ_eq, if_neg (by decide), if_neg (by decide), tid_and]
    exact list_txt 2 sAnd (.inr ⟨rfl, rfl⟩) _ rfl ks ho ih

/-- the atoms of a tree, as the program meets them -/
def atsF : Nd → List Atm
  | .node kind ks a => (if kind = 4 then [a] else []) ++ (ks.attach.flatMap fun k => atsF k.1)
termination_by t => SizeOf.sizeOf t
decreasing_by
  have := List.sizeOf_lt_of_mem k.2
  simp only [Nd.node.sizeOf_spec]
  omega
theorem atsF_eq (kind : Int) (ks : List Nd) (a : Atm) : atsF (.node kind ks a) = (if kind = 4 then [a] else []) ++ ks.flatMap atsF := by
  rw [atsF]
  congr 1
  rw [List.flatMap_def, List.flatMap_def]
  exact congrArg List.flatten (List.attach_map_val (l := ks) (f := atsF))
theorem ats_leaf (a : Atm) : atsF (.node 4 [] a) = [a] := by rw [atsF_eq, if_pos rfl]; rfl
theorem ats_in {kind : Int} (h : kind ≠ 4) (ks : List Nd) (a : Atm) : atsF (.node kind ks a) = ks.flatMap atsF := by rw [atsF_eq, if_neg h]; rfl
theorem flat_len_le (f : Nd → List Atm) : ∀ (ks : List Nd), (∀ k ∈ ks, (f k).length ≤ cntN k) → (ks.flatMap f).length ≤ (ks.map cntN).sum
  | [], _ => Nat.zero_le _
  | k :: ks, h => by
    have h1 := h k (List.mem_cons_self ..)
    have h2 := flat_len_le f ks (fun x hx => h x (List.mem_cons_of_mem _ hx))
    rw [List.flatMap_cons, List.length_append, List.map_cons, List.sum_cons]
    omega
theorem ats_len {num : ByteArray → Int × Bool} {t : Nd} (h : NdOk num t) : (atsF t).length ≤ cntN t := by
  induction h with
  | atom a _ => rw [ats_leaf, cnt_leaf]; exact Nat.le_refl 1
  | not k _ ih =>
    rw [ats_in (by decide), cntN_eq]
    have := flat_len_le atsF [k] (fun x hx => by simp at hx; subst hx; exact ih)
    omega
  | or ks _ _ ih => rw [ats_in (by decide), cntN_eq]; have := flat_len_le atsF ks ih; omega
  | and ks _ _ ih => rw [ats_in (by decide), cntN_eq]; have := flat_len_le atsF ks ih; omega
theorem ats_ok {num : ByteArray → Int × Bool} {t : Nd} (h : NdOk num t) : ∀ a ∈ atsF t, AtmOk num a := by
  induction h with
  | atom a h => intro x hx; rw [ats_leaf] at hx; simp at hx; subst hx; exact h
  | not k _ ih => intro x hx; rw [ats_in (by decide)] at hx; simp at hx; exact ih x hx
  | or ks _ _ ih => intro x hx; rw [ats_in (by decide), List.mem_flatMap] at hx; obtain ⟨k, hk, hx⟩ := hx; exact ih k hk x hx
  | and ks _ _ ih => intro x hx; rw [ats_in (by decide), List.mem_flatMap] at hx; obtain ⟨k, hk, hx⟩ := hx; exact ih k hk x hx
end Go.Proofs.YtfhdknppldobiaaGreatDoor
