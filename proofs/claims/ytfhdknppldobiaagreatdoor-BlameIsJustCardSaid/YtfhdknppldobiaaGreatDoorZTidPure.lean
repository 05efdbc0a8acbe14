/-
  What Tidy writes, in plain words: the program's and the reference's, and that they are one. No Go text is named here.
-/
import Derived.Test.YtfhdknppldobiaaGreatDoorZChkPure2
import Derived.Lib.Join
import Derived.Lib.SlicesCompact
namespace Go.Proofs.YtfhdknppldobiaaGreatDoor
open Go Go.RowKit

def sepOr : List UInt8 := [32, 111, 114, 32]
def sepAnd : List UInt8 := [32, 97, 110, 100, 32]
def kindOf : Nd → Int
  | .node k _ _ => k
/-- a number that is read is short -/
def NumZ (num : ByteArray → Int × Bool) : Prop := ∀ x, (num x).2 = true → x.size ≤ 40
theorem name_le {x : ByteArray} (h : nameB x = true) : x.size ≤ 40 := by
  unfold nameB at h
  rw [Bool.and_eq_true] at h
  have h := h.1
  unfold keyB at h
  rw [Bool.and_eq_true, Bool.and_eq_true, decide_eq_true_eq] at h
  have := h.1.1.2
  simpa using this
theorem value_le {x : ByteArray} (h : valueB x = true) : x.size ≤ 40 := by
  unfold valueB at h
  rw [Bool.and_eq_true, decide_eq_true_eq] at h
  exact h.1.2
theorem has_size (x : ByteArray) : (hasQ x).size = x.size + 4 := by
  unfold hasQ
  rw [ByteArray.size_append]
  show 4 + x.size = _
  omega
theorem tri_size (a b c : ByteArray) : (triQ a b c).size = a.size + b.size + c.size + 2 := by
  unfold triQ
  rw [ByteArray.size_append, ByteArray.size_append, ByteArray.size_append, ByteArray.size_append]
  have : sBl.size = 1 := rfl
  omega
theorem atm_sizes {num : ByteArray → Int × Bool} (hz : NumZ num) {a : Atm} (h : AtmOk num a) : a.word.size ≤ 100000 ∧ a.name.size ≤ 100000 ∧ a.value.size ≤ 100000 := by
  have k0 : noB.size = 0 := rfl
  have k1 : sTrue.size = 4 := rfl
  have k2 : sHas.size = 3 := rfl
  have k3 : sEq.size = 1 := rfl
  have k4 : sLt.size = 1 := rfl
  have k5 : sGt.size = 1 := rfl
  rcases h with ⟨h, h1, h2⟩ | ⟨h, h1, h2⟩ | ⟨h, h1, h2⟩ | ⟨h, h0, h1, _⟩
  · rw [h, h1, h2]; omega
  · have := name_le h1
    rw [h, h2]; omega
  · have := name_le h1
    have := value_le h2
    rw [h]; omega
  · have := hz _ h1
    rw [h0]
    rcases h with h | h <;> (rw [h]; omega)
/-- the atoms of a tree, as the program meets them -/
def atsF : Nd → List Atm
  | .node kind ks a => (if kind = 4 then [a] else []) ++ (ks.attach.flatMap fun k => atsF k.1)
termination_by t => SizeOf.sizeOf t
decreasing_by
  have := List.sizeOf_lt_of_mem k.2
  simp only [Nd.node.sizeOf_spec]
  omega
theorem atsF_eq (kind : Int) (ks : List Nd) (a : Atm) : atsF (.node kind ks a) = (if kind = 4 then [a] else []) ++ ks.flatMap atsF := by
  rw [atsF]
  congr 1
  rw [List.flatMap_def, List.flatMap_def]
  exact congrArg List.flatten (List.attach_map_val (l := ks) (f := atsF))
theorem ats_leaf (a : Atm) : atsF (.node 4 [] a) = [a] := by rw [atsF_eq, if_pos rfl]; rfl
theorem ats_in {kind : Int} (h : kind ≠ 4) (ks : List Nd) (a : Atm) : atsF (.node kind ks a) = ks.flatMap atsF := by rw [atsF_eq, if_neg h]; rfl
theorem flat_len_le (f : Nd → List Atm) : ∀ (ks : List Nd), (∀ k ∈ ks, (f k).length ≤ cntN k) → (ks.flatMap f).length ≤ (ks.map cntN).sum
  | [], _ => Nat.zero_le _
  | k :: ks, h => by
    have h1 := h k (List.mem_cons_self ..)
    have h2 := flat_len_le f ks (fun x hx => h x (List.mem_cons_of_mem _ hx))
    rw [List.flatMap_cons, List.length_append, List.map_cons, List.sum_cons]
    omega
theorem ats_len {num : ByteArray → Int × Bool} {t : Nd} (h : NdOk num t) : (atsF t).length ≤ cntN t := by
  induction h with
  | atom a _ => rw [ats_leaf, cnt_leaf]; exact Nat.le_refl 1
  | not k _ ih =>
    rw [ats_in (by decide), cntN_eq]
    have := flat_len_le atsF [k] (fun x hx => by simp at hx; subst hx; exact ih)
    omega
  | or ks _ _ ih => rw [ats_in (by decide), cntN_eq]; have := flat_len_le atsF ks ih; omega
  | and ks _ _ ih => rw [ats_in (by decide), cntN_eq]; have := flat_len_le atsF ks ih; omega
end Go.Proofs.YtfhdknppldobiaaGreatDoor
/-
  How many tokens the reference's parser takes. No Go text is named here.
-/
namespace Go.Proofs.YtfhdknppldobiaaGreatDoor
open Go Go.RowKit

/-- what a list goes on to be -/
def goR (op : ByteArray) (part : List Tk → Option (Nq × List Tk)) (m : Nat) (ks : List Nq) (l : List Tk) : Option (List Nq × List Tk) :=
  match part l with
  | none => none
  | some r => moreR op part m (ks ++ splQ op r.1) r.2
end Go.Proofs.YtfhdknppldobiaaGreatDoor
/-
  Sorted lists without twins: a list is told by what it holds; the atoms of both trees are one. No Go text is named here.
-/
namespace Go.Proofs.YtfhdknppldobiaaGreatDoor
open Go Go.RowKit

abbrev BL := List UInt8
def srtQ (ls : List BL) : List BL := ls.mergeSort fun x y => decide (x ≤ y)
theorem bl_total (a b : BL) : (decide (a ≤ b) || decide (b ≤ a)) = true := by
  rcases List.le_total a b with h | h
  · rw [decide_eq_true h]; rfl
  · rw [decide_eq_true h]; simp
theorem bl_trans (a b c : BL) (h1 : decide (a ≤ b) = true) (h2 : decide (b ≤ c) = true) : decide (a ≤ c) = true :=
  decide_eq_true (List.le_trans (of_decide_eq_true h1) (of_decide_eq_true h2))
theorem srtQ_sorted (ls : List BL) : (srtQ ls).Pairwise (fun a b => a ≤ b) := by
  have := List.pairwise_mergeSort (le := fun x y : BL => decide (x ≤ y)) bl_trans bl_total ls
  exact this.imp (fun h => of_decide_eq_true h)
theorem srtQ_mem (ls : List BL) (x : BL) : x ∈ srtQ ls ↔ x ∈ ls := List.mem_mergeSort
/-- in a sorted row without twins each comes once -/
theorem comp_upto (d : Array BL) (hs : ∀ i j, i ≤ j → j < d.size → d[i]! ≤ d[j]!) : ∀ m, m ≤ d.size → (∀ x, x ∈ Lib.compactUpTo d m ↔ ∃ j, j < m ∧ d[j]! = x) ∧ (Lib.compactUpTo d m).Pairwise (fun a b => a ≤ b ∧ a ≠ b)
  | 0, _ => ⟨fun x => by simp [Lib.compactUpTo], by simp [Lib.compactUpTo]⟩
  | m + 1, h => by
    obtain ⟨h1, h2⟩ := comp_upto d hs m (by omega)
    rw [Lib.compactUpTo_succ]
    by_cases hk : Lib.keeps d m = true
    · rw [if_pos hk]
      refine ⟨fun x => ?_, ?_⟩
      · rw [List.mem_append, h1]
        constructor
        · rintro (⟨j, hj, e⟩ | e)
          · exact ⟨j, by omega, e⟩
          · simp at e; exact ⟨m, by omega, e.symm⟩
        · rintro ⟨j, hj, e⟩
          rcases Nat.lt_or_ge j m with h | h
          · exact .inl ⟨j, h, e⟩
          · obtain rfl : j = m := by omega
            exact .inr (by simp [e])
      · rw [List.pairwise_append]
        refine ⟨h2, by simp, fun a ha b hb => ?_⟩
        simp at hb
        subst hb
        obtain ⟨j, hj, rfl⟩ := (h1 a).1 ha
        refine ⟨hs j m (by omega) (by omega), fun e => ?_⟩
        have hm : m ≠ 0 := by omega
        have hne : d[m]! ≠ d[m - 1]! := by
          unfold Lib.keeps at hk
          have := of_decide_eq_true hk
          rcases this with h | h
          · exact absurd h hm
          · exact h
        have q1 := hs j (m - 1) (by omega) (by omega)
        have q2 := hs (m - 1) m (by omega) (by omega)
        rw [e] at q1
        exact hne (List.le_antisymm q1 q2)
    · rw [if_neg hk, List.append_nil]
      refine ⟨fun x => ?_, h2⟩
      have hk : Lib.keeps d m = false := by simpa using hk
      unfold Lib.keeps at hk
      have hk := of_decide_eq_false hk
      have hm : m ≠ 0 := fun e => hk (.inl e)
      have he : d[m]! = d[m - 1]! := by
        by_cases e : d[m]! = d[m - 1]!
        · exact e
        · exact absurd (.inr e) hk
      rw [h1]
      constructor
      · rintro ⟨j, hj, e⟩; exact ⟨j, by omega, e⟩
      · rintro ⟨j, hj, e⟩
        rcases Nat.lt_or_ge j m with h | h
        · exact ⟨j, h, e⟩
        · obtain rfl : j = m := by omega
          exact ⟨j - 1, by omega, by rw [← he]; exact e⟩
theorem comp_ok (ls : List BL) : (∀ x, x ∈ Lib.compact (srtQ ls) ↔ x ∈ ls) ∧ (Lib.compact (srtQ ls)).Pairwise (fun a b => a ≤ b ∧ a ≠ b) := by
  have hs := srtQ_sorted ls
  obtain ⟨h1, h2⟩ := comp_upto (srtQ ls).toArray (fun i j hij hj => by
    have hj' : j < (srtQ ls).length := by simpa using hj
    rw [getElem!_pos _ i (by simp; omega), getElem!_pos _ j hj]
    simp only [List.getElem_toArray]
    rcases Nat.lt_or_eq_of_le hij with h | h
    · exact List.pairwise_iff_getElem.1 hs i j (by omega) hj' h
    · subst h; exact List.le_refl _) (srtQ ls).length (by simp)
  refine ⟨fun x => ?_, h2⟩
  rw [← srtQ_mem ls x]
  have := h1 x
  rw [show Lib.compact (srtQ ls) = Lib.compactUpTo (srtQ ls).toArray (srtQ ls).length from rfl, this, List.mem_iff_getElem]
  constructor
  · rintro ⟨j, hj, e⟩
    exact ⟨j, hj, by rw [getElem!_pos _ j (by simpa using hj)] at e; simpa using e⟩
  · rintro ⟨j, hj, e⟩
    exact ⟨j, hj, by rw [getElem!_pos _ j (by simpa using hj)]; simpa using e⟩
end Go.Proofs.YtfhdknppldobiaaGreatDoor
/-
  Whether a rule holds, and who is to blame, in plain words: the program's tree and the reference's. No Go text is named here.
-/
namespace Go.Proofs.YtfhdknppldobiaaGreatDoor
open Go Go.RowKit

def notV : List Bool → Bool
  | b :: _ => !b
  | [] => false
def holF (is : Atm → Bool) : Nd → Bool
  | .node kind ks a =>
    if kind = 4 then is a
    else if kind = 3 then notV (ks.attach.map fun k => holF is k.1)
    else if kind = 1 then (ks.attach.map fun k => holF is k.1).any id
    else (ks.attach.map fun k => holF is k.1).all id
termination_by t => SizeOf.sizeOf t
decreasing_by
  all_goals
    have := List.sizeOf_lt_of_mem k.2
    simp only [Nd.node.sizeOf_spec]
    omega
theorem holF_eq (is : Atm → Bool) (kind : Int) (ks : List Nd) (a : Atm) : holF is (.node kind ks a) =
    if kind = 4 then is a else if kind = 3 then notV (ks.map (holF is)) else if kind = 1 then (ks.map (holF is)).any id else (ks.map (holF is)).all id := by
  rw [holF]
  have e1 : (ks.attach.map fun k => holF is k.1) = ks.map (holF is) := List.attach_map_val (l := ks) (f := holF is)
  rw [e1]
theorem hol_leaf (is : Atm → Bool) (a : Atm) : holF is (.node 4 [] a) = is a := by rw [holF_eq, if_pos rfl]
theorem hol_not (is : Atm → Bool) (k : Nd) (a : Atm) : holF is (.node 3 [k] a) = !holF is k := by rw [holF_eq, if_neg (by decide), if_pos rfl]; rfl
theorem hol_or (is : Atm → Bool) (ks : List Nd) (a : Atm) : holF is (.node 1 ks a) = ks.any (holF is) := by rw [holF_eq, if_neg (by decide), if_neg (by decide), if_pos rfl, List.any_map]; rfl
theorem hol_and (is : Atm → Bool) (ks : List Nd) (a : Atm) : holF is (.node 2 ks a) = ks.all (holF is) := by rw [holF_eq, if_neg (by decide), if_neg (by decide), if_neg (by decide), List.all_map]; rfl
/-- the atoms to blame, as the program meets them -/
def blmF (is : Atm → Bool) : Bool → Nd → List BL
  | want, .node kind ks a =>
    if kind = 4 then [(txtA a).data.toList]
    else if kind = 3 then ks.attach.flatMap fun k => blmF is (!want) k.1
    else ks.attach.flatMap fun k => if holF is k.1 = want then [] else blmF is want k.1
termination_by _ t => SizeOf.sizeOf t
decreasing_by
  all_goals
    have := List.sizeOf_lt_of_mem k.2
    simp only [Nd.node.sizeOf_spec]
    omega
theorem blmF_eq (is : Atm → Bool) (want : Bool) (kind : Int) (ks : List Nd) (a : Atm) : blmF is want (.node kind ks a) =
    if kind = 4 then [(txtA a).data.toList] else if kind = 3 then ks.flatMap (blmF is (!want)) else ks.flatMap fun k => if holF is k = want then [] else blmF is want k := by
  rw [blmF]
  have e1 : (ks.attach.flatMap fun k => blmF is (!want) k.1) = ks.flatMap (blmF is (!want)) := by
    rw [List.flatMap_def, List.flatMap_def]
    exact congrArg List.flatten (List.attach_map_val (l := ks) (f := blmF is (!want)))
  have e2 : (ks.attach.flatMap fun k => if holF is k.1 = want then [] else blmF is want k.1) = ks.flatMap fun k => if holF is k = want then [] else blmF is want k := by
    rw [List.flatMap_def, List.flatMap_def]
    exact congrArg List.flatten (List.attach_map_val (l := ks) (f := fun k => if holF is k = want then [] else blmF is want k))
  rw [e1, e2]
end Go.Proofs.YtfhdknppldobiaaGreatDoor
