/-
  Whether a rule holds, and who is to blame, in plain words: the program's tree and the reference's. No Go text is named here.
-/
import Derived.Test.YtfhdknppldobiaaGreatDoorZTidPure
namespace Go.Proofs.YtfhdknppldobiaaGreatDoor
open Go Go.RowKit

def notV : List Bool → Bool
  | b :: _ => !b
  | [] => false
def holF (is : Atm → Bool) : Nd → Bool
  | .node kind ks a =>
    if kind = 4 then is a
    else if kind = 3 then notV (ks.attach.map fun k => holF is k.1)
    else if kind = 1 then (ks.attach.map fun k => holF is k.1).any id
    else (ks.attach.map fun k => holF is k.1).all id
termination_by t => SizeOf.sizeOf t
decreasing_by
  all_goals
    have := List.sizeOf_lt_of_mem k.2
    simp only [Nd.node.sizeOf_spec]
    omega
theorem holF_eq (is : Atm → Bool) (kind : Int) (ks : List Nd) (a : Atm) : holF is (.node kind ks a) =
    if kind = 4 then is a else if kind = 3 then notV (ks.map (holF is)) else if kind = 1 then (ks.map (holF is)).any id else (ks.map (holF is)).all id := by
  rw [holF]
  have e1 : (ks.attach.map fun k => holF is k.1) = ks.map (holF is) := List.attach_map_val (l := ks) (f := holF is)
  rw [e1]
theorem hol_leaf (is : Atm → Bool) (a : Atm) : holF is (.node 4 [] a) = is a := by rw [holF_eq, if_pos rfl]
theorem hol_not (is : Atm → Bool) (k : Nd) (a : Atm) : holF is (.node 3 [k] a) = !holF is k := by rw [holF_eq, if_neg (by decide), if_pos rfl]; rfl
theorem hol_or (is : Atm → Bool) (ks : List Nd) (a : Atm) : holF is (.node 1 ks a) = ks.any (holF is) := by rw [holF_eq, if_neg (by decide), if_neg (by decide), if_pos rfl, List.any_map]; rfl
theorem hol_and (is : Atm → Bool) (ks : List Nd) (a : Atm) : holF is (.node 2 ks a) = ks.all (holF is) := by rw [holF_eq, if_neg (by decide), if_neg (by decide), if_neg (by decide), List.all_map]; rfl
def truQ (is : ByteArray → Bool) : Nq → Bool
  | .node op atom ks =>
    if op = noB then is atom
    else if op = sNot then notV (ks.attach.map fun k => truQ is k.1)
    else if op = sOr then (ks.attach.map fun k => truQ is k.1).any id
    else (ks.attach.map fun k => truQ is k.1).all id
termination_by t => SizeOf.sizeOf t
decreasing_by
  all_goals
    have := List.sizeOf_lt_of_mem k.2
    simp only [Nq.node.sizeOf_spec]
    omega
theorem truQ_eq (is : ByteArray → Bool) (op atom : ByteArray) (ks : List Nq) : truQ is (.node op atom ks) =
    if op = noB then is atom else if op = sNot then notV (ks.map (truQ is)) else if op = sOr then (ks.map (truQ is)).any id else (ks.map (truQ is)).all id := by
  rw [truQ]
  have e1 : (ks.attach.map fun k => truQ is k.1) = ks.map (truQ is) := List.attach_map_val (l := ks) (f := truQ is)
  rw [e1]
theorem tru_leaf (is : ByteArray → Bool) (a : ByteArray) (ks : List Nq) : truQ is (.node noB a ks) = is a := by rw [truQ_eq, if_pos rfl]
theorem tru_not (is : ByteArray → Bool) (k : Nq) (a : ByteArray) : truQ is (.node sNot a [k]) = !truQ is k := by rw [truQ_eq, if_neg (by decide), if_pos rfl]; rfl
theorem tru_or (is : ByteArray → Bool) (ks : List Nq) (a : ByteArray) : truQ is (.node sOr a ks) = ks.any (truQ is) := by rw [truQ_eq, if_neg (by decide), if_neg (by decide), if_pos rfl, List.any_map]; rfl
theorem tru_and (is : ByteArray → Bool) (ks : List Nq) (a : ByteArray) : truQ is (.node sAnd a ks) = ks.all (truQ is) := by rw [truQ_eq, if_neg (by decide), if_neg (by decide), if_neg (by decide), List.all_map]; rfl
theorem spl_any (is : ByteArray → Bool) {k : Nq} (h : QOk k) : (splQ sOr k).any (truQ is) = truQ is k := by
  unfold splQ
  split
  · rename_i he
    cases h with
    | leaf a h => exact absurd (show noB = sOr from he) (by decide)
    | not k h => exact absurd (show sNot = sOr from he) (by decide)
    | list o ks h1 h2 h3 =>
      obtain rfl : o = sOr := he
      rw [tru_or]
      rfl
  · simp
theorem spl_all (is : ByteArray → Bool) {k : Nq} (h : QOk k) : (splQ sAnd k).all (truQ is) = truQ is k := by
  unfold splQ
  split
  · rename_i he
    cases h with
    | leaf a h => exact absurd (show noB = sAnd from he) (by decide)
    | not k h => exact absurd (show sNot = sAnd from he) (by decide)
    | list o ks h1 h2 h3 =>
      obtain rfl : o = sAnd := he
      rw [tru_and]
      rfl
  · simp
theorem any_congr {α : Type} (f g : α → Bool) : ∀ (l : List α), (∀ x ∈ l, f x = g x) → l.any f = l.any g
  | [], _ => rfl
  | x :: l, h => by
    rw [List.any_cons, List.any_cons, h x (List.mem_cons_self ..), any_congr f g l (fun y hy => h y (List.mem_cons_of_mem _ hy))]
theorem all_congr {α : Type} (f g : α → Bool) : ∀ (l : List α), (∀ x ∈ l, f x = g x) → l.all f = l.all g
  | [], _ => rfl
  | x :: l, h => by
    rw [List.all_cons, List.all_cons, h x (List.mem_cons_self ..), all_congr f g l (fun y hy => h y (List.mem_cons_of_mem _ hy))]
/-- both trees hold alike, where their atoms do -/
theorem tru_flat {num : ByteArray → Int × Bool} (hz : NumZ num) (is : Atm → Bool) (isQ : ByteArray → Bool) {t : Nd} (h : NdOk num t) (ha : ∀ a ∈ atsF t, isQ (txtA a) = is a) : truQ isQ (flat t) = holF is t := by
  induction h with
  | atom a _ => rw [flat_leaf, tru_leaf, hol_leaf]; exact ha a (by rw [ats_leaf]; simp)
  | not k _ ih => rw [flat_not, tru_not, hol_not, ih (fun a h => ha a (by rw [ats_in (by decide)]; simpa using h))]
  | or ks h2 h ih =>
    rw [flat_or, tru_or, hol_or, List.any_flatMap]
    refine any_congr _ _ ks (fun k hk => ?_)
    rw [spl_any isQ (flat_qok hz (h k hk))]
    exact ih k hk (fun a h => ha a (by rw [ats_in (by decide)]; exact List.mem_flatMap.2 ⟨k, hk, h⟩))
  | and ks h2 h ih =>
    rw [flat_and, tru_and, hol_and, List.all_flatMap]
    refine all_congr _ _ ks (fun k hk => ?_)
    rw [spl_all isQ (flat_qok hz (h k hk))]
    exact ih k hk (fun a h => ha a (by rw [ats_in (by decide)]; exact List.mem_flatMap.2 ⟨k, hk, h⟩))

/-- the atoms to blame, as the program meets them -/
def blmF (is : Atm → Bool) : Bool → Nd → List BL
  | want, .node kind ks a =>
    if kind = 4 then [(txtA a).data.toList]
    else if kind = 3 then ks.attach.flatMap fun k => blmF is (!want) k.1
    else ks.attach.flatMap fun k => if holF is k.1 = want then [] else blmF is want k.1
termination_by _ t => SizeOf.sizeOf t
decreasing_by
  all_goals
    have := List.sizeOf_lt_of_mem k.2
    simp only [Nd.node.sizeOf_spec]
    omega
theorem blmF_eq (is : Atm → Bool) (want : Bool) (kind : Int) (ks : List Nd) (a : Atm) : blmF is want (.node kind ks a) =
    if kind = 4 then [(txtA a).data.toList] else if kind = 3 then ks.flatMap (blmF is (!want)) else ks.flatMap fun k => if holF is k = want then [] else blmF is want k := by
  rw [blmF]
  have e1 : (ks.attach.flatMap fun k => blmF is (!want) k.1) = ks.flatMap (blmF is (!want)) := by
    rw [List.flatMap_def, List.flatMap_def]
    exact congrArg List.flatten (List.attach_map_val (l := ks) (f := blmF is (!want)))
  have e2 : (ks.attach.flatMap fun k => if holF is k.1 = want then [] else blmF is want k.1) = ks.flatMap fun k => if holF is k = want then [] else blmF is want k := by
    rw [List.flatMap_def, List.flatMap_def]
    exact congrArg List.flatten (List.attach_map_val (l := ks) (f := fun k => if holF is k = want then [] else blmF is want k))
  rw [e1, e2]
/-- as the reference has it -/
def blmQ (is : ByteArray → Bool) : Bool → Nq → List BL
  | want, .node op atom ks =>
    if truQ is (.node op atom ks) = want then []
    else if op = noB then [atom.data.toList]
    else if op = sNot then (ks.attach.take 1).flatMap fun k => blmQ is (!want) k.1
    else ks.attach.flatMap fun k => blmQ is want k.1
termination_by _ t => SizeOf.sizeOf t
decreasing_by
  all_goals
    have := List.sizeOf_lt_of_mem k.2
    simp only [Nq.node.sizeOf_spec]
    omega
theorem blmQ_eq (is : ByteArray → Bool) (want : Bool) (op atom : ByteArray) (ks : List Nq) : blmQ is want (.node op atom ks) =
    if truQ is (.node op atom ks) = want then [] else if op = noB then [atom.data.toList] else if op = sNot then (ks.take 1).flatMap (blmQ is (!want)) else ks.flatMap (blmQ is want) := by
  rw [blmQ]
  have e1 : ((ks.attach.take 1).flatMap fun k => blmQ is (!want) k.1) = (ks.take 1).flatMap (blmQ is (!want)) := by
    cases ks with
    | nil => rfl
    | cons x l => simp [List.attach_cons]
  have e2 : (ks.attach.flatMap fun k => blmQ is want k.1) = ks.flatMap (blmQ is want) := by
    rw [List.flatMap_def, List.flatMap_def]
    exact congrArg List.flatten (List.attach_map_val (l := ks) (f := blmQ is want))
  rw [e1, e2]
theorem blmQ_nil {is : ByteArray → Bool} {want : Bool} {t : Nq} (h : truQ is t = want) : blmQ is want t = [] := by
  cases t with
  | node o a ks => rw [blmQ_eq, if_pos h]
theorem blm_splO (is : ByteArray → Bool) (want : Bool) {k : Nq} (h : QOk k) (hw : want = true → truQ is k = false) (x : BL) : (∃ y ∈ splQ sOr k, x ∈ blmQ is want y) ↔ x ∈ blmQ is want k := by
  unfold splQ
  split
  · rename_i he
    cases h with
    | leaf a h => exact absurd (show noB = sOr from he) (by decide)
    | not k h => exact absurd (show sNot = sOr from he) (by decide)
    | list o ks h1 h2 h3 =>
      obtain rfl : o = sOr := he
      by_cases ht : truQ is (.node sOr noB ks) = want
      · rw [blmQ_nil ht]
        have hwf : want = false := by
          cases want
          · rfl
          · exact absurd (ht.symm.trans (hw rfl)) (by decide)
        refine ⟨fun ⟨y, hy, hx⟩ => ?_, fun hx => by cases hx⟩
        have hy : y ∈ ks := hy
        rw [tru_or, hwf] at ht
        have hyf : truQ is y = want := by
          rw [hwf]
          cases hty : truQ is y
          · rfl
          · have : ks.any (truQ is) = true := List.any_eq_true.2 ⟨y, hy, hty⟩
            exact absurd (ht.symm.trans this) (by decide)
        rw [blmQ_nil hyf] at hx
        exact hx
      · rw [blmQ_eq, if_neg ht, if_neg (by decide), if_neg (by decide), List.mem_flatMap]
        exact Iff.rfl
  · simp
theorem blm_splA (is : ByteArray → Bool) (want : Bool) {k : Nq} (h : QOk k) (hw : want = false → truQ is k = true) (x : BL) : (∃ y ∈ splQ sAnd k, x ∈ blmQ is want y) ↔ x ∈ blmQ is want k := by
  unfold splQ
  split
  · rename_i he
    cases h with
    | leaf a h => exact absurd (show noB = sAnd from he) (by decide)
    | not k h => exact absurd (show sNot = sAnd from he) (by decide)
    | list o ks h1 h2 h3 =>
      obtain rfl : o = sAnd := he
      by_cases ht : truQ is (.node sAnd noB ks) = want
      · rw [blmQ_nil ht]
        have hwf : want = true := by
          cases want
          · exact absurd (ht.symm.trans (hw rfl)) (by decide)
          · rfl
        refine ⟨fun ⟨y, hy, hx⟩ => ?_, fun hx => by cases hx⟩
        have hy : y ∈ ks := hy
        rw [tru_and, hwf] at ht
        have hyf : truQ is y = want := by rw [hwf]; exact List.all_eq_true.1 ht y hy
        rw [blmQ_nil hyf] at hx
        exact hx
      · rw [blmQ_eq, if_neg ht, if_neg (by decide), if_neg (by decide), List.mem_flatMap]
        exact Iff.rfl
  · simp
/-- both blame the same atoms -/
theorem blm_flat {num : ByteArray → Int × Bool} (hz : NumZ num) (is : Atm → Bool) (isQ : ByteArray → Bool) {t : Nd} (h : NdOk num t) : ∀ want, (∀ a ∈ atsF t, isQ (txtA a) = is a) → holF is t ≠ want → ∀ x, x ∈ blmQ isQ want (flat t) ↔ x ∈ blmF is want t := by
  induction h with
  | atom a h0 =>
    intro want ha hw x
    have htr := tru_flat hz is isQ (.atom a h0) ha
    rw [blmF_eq, if_pos rfl]
    rw [flat_leaf] at htr ⊢
    rw [blmQ_eq, if_neg (by rw [htr]; exact hw), if_pos rfl]
  | not k h0 ih =>
    intro want ha hw x
    have htr := tru_flat hz is isQ (.not k h0) ha
    have hak : ∀ a ∈ atsF k, isQ (txtA a) = is a := fun a h => ha a (by rw [ats_in (by decide)]; simpa using h)
    rw [blmF_eq, if_neg (by decide), if_pos rfl]
    rw [flat_not] at htr ⊢
    rw [blmQ_eq, if_neg (by rw [htr]; exact hw), if_neg (by decide), if_pos rfl]
    have hk : holF is k ≠ !want := fun e => hw (by rw [hol_not, e]; simp)
    have := ih (!want) hak hk x
    simpa using this
  | or ks h2 h ih =>
    intro want ha hw x
    have htr := tru_flat hz is isQ (.or ks h2 h) ha
    have hak : ∀ k ∈ ks, ∀ a ∈ atsF k, isQ (txtA a) = is a := fun k hk a h => ha a (by rw [ats_in (by decide)]; exact List.mem_flatMap.2 ⟨k, hk, h⟩)
    have hsp : ∀ k ∈ ks, (∃ y ∈ splQ sOr (flat k), x ∈ blmQ isQ want y) ↔ x ∈ (if holF is k = want then [] else blmF is want k) := fun k hk => by
      have htk := tru_flat hz is isQ (h k hk) (hak k hk)
      rw [blm_splO isQ want (flat_qok hz (h k hk)) (fun e => by
        rw [htk]
        cases hh : holF is k
        · rfl
        · exact absurd (by rw [hol_or, e]; exact List.any_eq_true.2 ⟨k, hk, hh⟩) hw)]
      split
      · rename_i e
        rw [blmQ_nil (htk.trans e)]
      · rename_i e
        exact ih k hk want (hak k hk) e x
    rw [blmF_eq, if_neg (by decide), if_neg (by decide), List.mem_flatMap]
    rw [flat_or] at htr ⊢
    rw [blmQ_eq, if_neg (by rw [htr]; exact hw), if_neg (by decide), if_neg (by decide), List.mem_flatMap]
    constructor
    · rintro ⟨y, hy, hx⟩
      obtain ⟨k, hk, hy⟩ := List.mem_flatMap.1 hy
      exact ⟨k, hk, (hsp k hk).1 ⟨y, hy, hx⟩⟩
    · rintro ⟨k, hk, hx⟩
      obtain ⟨y, hy, hx⟩ := (hsp k hk).2 hx
      exact ⟨y, List.mem_flatMap.2 ⟨k, hk, hy⟩, hx⟩
  | and ks h2 h ih =>
    intro want ha hw x
    have htr := tru_flat hz is isQ (.and ks h2 h) ha
    have hak : ∀ k ∈ ks, ∀ a ∈ atsF k, isQ (txtA a) = is a := fun k hk a h => ha a (by rw [ats_in (by decide)]; exact List.mem_flatMap.2 ⟨k, hk, h⟩)
    have hsp : ∀ k ∈ ks, (∃ y ∈ splQ sAnd (flat k), x ∈ blmQ isQ want y) ↔ x ∈ (if holF is k = want then [] else blmF is want k) := fun k hk => by
      have htk := tru_flat hz is isQ (h k hk) (hak k hk)
      rw [blm_splA isQ want (flat_qok hz (h k hk)) (fun e => by
        rw [htk]
        cases hh : holF is k
        · have hf : ks.all (holF is) ≠ true := fun h9 => by have := List.all_eq_true.1 h9 k hk; rw [hh] at this; cases this
          refine absurd ?_ hw
          rw [hol_and, e]
          simpa using hf
        · rfl)]
      split
      · rename_i e
        rw [blmQ_nil (htk.trans e)]
      · rename_i e
        exact ih k hk want (hak k hk) e x
    rw [blmF_eq, if_neg (by decide), if_neg (by decide), List.mem_flatMap]
    rw [flat_and] at htr ⊢
    rw [blmQ_eq, if_neg (by rw [htr]; exact hw), if_neg (by decide), if_neg (by decide), List.mem_flatMap]
    constructor
    · rintro ⟨y, hy, hx⟩
      obtain ⟨k, hk, hy⟩ := List.mem_flatMap.1 hy
      exact ⟨k, hk, (hsp k hk).1 ⟨y, hy, hx⟩⟩
    · rintro ⟨k, hk, hx⟩
      obtain ⟨y, hy, hx⟩ := (hsp k hk).2 hx
      exact ⟨y, List.mem_flatMap.2 ⟨k, hk, hy⟩, hx⟩
end Go.Proofs.YtfhdknppldobiaaGreatDoor
/-
  Trees of the reference whose atoms have a property, in plain words. No Go text is named here.
-/
namespace Go.Proofs.YtfhdknppldobiaaGreatDoor
open Go Go.RowKit

inductive AllQ (G : ByteArray → Prop) : Nq → Prop
  | leaf (a : ByteArray) (h : G a) : AllQ G (.node noB a [])
  | not (k : Nq) (h : AllQ G k) : AllQ G (.node sNot noB [k])
  | list (op : ByteArray) (ks : List Nq) (hop : op = sOr ∨ op = sAnd) (h2 : 2 ≤ ks.length) (h : ∀ k ∈ ks, AllQ G k) : AllQ G (.node op noB ks)
theorem AllQ.mono {G G' : ByteArray → Prop} (hg : ∀ a, G a → G' a) {t : Nq} (h : AllQ G t) : AllQ G' t := by
  induction h with
  | leaf a h => exact .leaf a (hg a h)
  | not k _ ih => exact .not k ih
  | list op ks hop h2 _ ih => exact .list op ks hop h2 ih
theorem all_spl {G : ByteArray → Prop} {op : ByteArray} {k : Nq} (h : AllQ G k) (ho : op = sOr ∨ op = sAnd) : ∀ x ∈ splQ op k, AllQ G x := by
  unfold splQ
  split
  · rename_i he
    cases h with
    | leaf a h =>
      have he : noB = op := he
      rcases ho with rfl | rfl <;> exact absurd he (by decide)
    | not k h =>
      have he : sNot = op := he
      rcases ho with rfl | rfl <;> exact absurd he (by decide)
    | list o ks h1 h2 h3 => exact h3
  · intro x hx
    simp only [List.mem_singleton] at hx
    subst hx
    exact h
theorem flat_all {num : ByteArray → Int × Bool} {t : Nd} (h : NdOk num t) : AllQ (fun l => ∃ a ∈ atsF t, txtA a = l) (flat t) := by
  induction h with
  | atom a h => rw [flat_leaf]; exact .leaf _ ⟨a, by rw [ats_leaf]; simp, rfl⟩
  | not k _ ih => rw [flat_not]; exact .not _ (ih.mono (fun l ⟨a, ha, hl⟩ => ⟨a, by rw [ats_in (by decide)]; simpa using ha, hl⟩))
  | or ks h2 h ih =>
    rw [flat_or]
    refine .list sOr _ (.inl rfl) (Nat.le_trans h2 (flatMap_len _ ks (fun k hk => (flat_fok (h k hk)).spl (.inl rfl)))) (fun x hx => ?_)
    obtain ⟨k, hk, hx⟩ := List.mem_flatMap.1 hx
    exact (all_spl (ih k hk) (.inl rfl) x hx).mono (fun l ⟨a, ha, hl⟩ => ⟨a, by rw [ats_in (by decide)]; exact List.mem_flatMap.2 ⟨k, hk, ha⟩, hl⟩)
  | and ks h2 h ih =>
    rw [flat_and]
    refine .list sAnd _ (.inr rfl) (Nat.le_trans h2 (flatMap_len _ ks (fun k hk => (flat_fok (h k hk)).spl (.inr rfl)))) (fun x hx => ?_)
    obtain ⟨k, hk, hx⟩ := List.mem_flatMap.1 hx
    exact (all_spl (ih k hk) (.inr rfl) x hx).mono (fun l ⟨a, ha, hl⟩ => ⟨a, by rw [ats_in (by decide)]; exact List.mem_flatMap.2 ⟨k, hk, ha⟩, hl⟩)
end Go.Proofs.YtfhdknppldobiaaGreatDoor
