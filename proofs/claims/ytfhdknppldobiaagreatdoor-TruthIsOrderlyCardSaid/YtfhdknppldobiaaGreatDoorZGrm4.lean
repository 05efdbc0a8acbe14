/-
  What Tidy makes of a rule that is put together of parts: the same tree, again such a rule, and no longer one. No Go text is named here.
-/
import Derived.Test.YtfhdknppldobiaaGreatDoorZGrm3
import Derived.Test.YtfhdknppldobiaaGreatDoorZTidPure
namespace Go.Proofs.YtfhdknppldobiaaGreatDoor
open Go Go.RowKit TxtP

/-- in marks, where a NOT asks for them, or an AND does -/
def facX : Rx → Rx
  | .andC f a => .par (.andC f a)
  | .orC a o => .par (.orC a o)
  | .atom a => .atom a
  | .not a => .not a
  | .par a => .par a
def alvX : Rx → Rx
  | .orC a o => .par (.orC a o)
  | .andC f a => .andC f a
  | .atom a => .atom a
  | .not a => .not a
  | .par a => .par a
def tidX : Rx → Rx
  | .atom a => .atom a
  | .not f => .not (facX (tidX f))
  | .par o => tidX o
  | .andC f a => andA (alvX (tidX f)) (alvX (tidX a))
  | .orC a o => orO (tidX a) (tidX o)
def strX : Rx → List UInt8
  | .atom a => (txtA a).data.toList
  | .not f => [110, 111, 116, 32] ++ strX f
  | .par o => [40] ++ strX o ++ [41]
  | .andC f a => strX f ++ sepAnd ++ strX a
  | .orC a o => strX a ++ sepOr ++ strX o
theorem ats_fac : ∀ x, atsX (facX x) = atsX x
  | .atom _ => rfl
  | .not _ => rfl
  | .par _ => rfl
  | .andC _ _ => rfl
  | .orC _ _ => rfl
theorem ats_alv : ∀ x, atsX (alvX x) = atsX x
  | .atom _ => rfl
  | .not _ => rfl
  | .par _ => rfl
  | .andC _ _ => rfl
  | .orC _ _ => rfl
theorem ats_tid : ∀ x, atsX (tidX x) = atsX x
  | .atom _ => rfl
  | .not f => by rw [tidX, atsX, atsX, ats_fac, ats_tid f]
  | .par o => by rw [tidX, atsX, ats_tid o]
  | .andC f a => by rw [tidX, ats_andA, ats_alv, ats_alv, ats_tid f, ats_tid a, atsX]
  | .orC f a => by rw [tidX, ats_orO, ats_tid f, ats_tid a, atsX]
theorem str_len : ∀ x, OkX numF x → (strX x).length + 1 ≤ wsum (tokX x)
  | .atom a, h => by
    have := wt_atom (h a (by simp [atsX]))
    show (txtA a).data.toList.length + 1 ≤ wsum (atT a)
    rw [← this]
    simp
  | .not f, h => by
    have := str_len f h
    rw [strX, tokX, wsum_cons, List.length_append]
    show 4 + _ + 1 ≤ 3 + 1 + _
    omega
  | .par f, h => by
    have := str_len f h
    rw [strX, tokX, wsum_cons, wsum_app, wsum_cons, wsum_nil, List.length_append, List.length_append]
    show 1 + _ + 1 + 1 ≤ 1 + 1 + (_ + (1 + 1 + 0))
    omega
  | .andC f a, h => by
    have h1 := str_len f (fun x hx => h x (by simp [atsX, hx]))
    have h2 := str_len a (fun x hx => h x (by simp [atsX, hx]))
    rw [strX, tokX, wsum_app, wsum_cons, List.length_append, List.length_append]
    show _ + 5 + _ + 1 ≤ _ + (3 + 1 + _)
    omega
  | .orC f a, h => by
    have h1 := str_len f (fun x hx => h x (by simp [atsX, hx]))
    have h2 := str_len a (fun x hx => h x (by simp [atsX, hx]))
    rw [strX, tokX, wsum_app, wsum_cons, List.length_append, List.length_append]
    show _ + 4 + _ + 1 ≤ _ + (2 + 1 + _)
    omega
def wX (x : Rx) : Nat := wsum (tokX x)
theorem w_not (f : Rx) : wX (.not f) = wX f + 4 := by unfold wX; rw [tokX, wsum_cons]; show 3 + 1 + _ = _; omega
theorem w_par (f : Rx) : wX (.par f) = wX f + 4 := by unfold wX; rw [tokX, wsum_cons, wsum_app, wsum_cons, wsum_nil]; show 1 + 1 + (_ + (1 + 1 + 0)) = _; omega
theorem w_andC (f a : Rx) : wX (.andC f a) = wX f + wX a + 4 := by unfold wX; rw [tokX, wsum_app, wsum_cons]; show _ + (3 + 1 + _) = _; omega
theorem w_orC (f a : Rx) : wX (.orC f a) = wX f + wX a + 3 := by unfold wX; rw [tokX, wsum_app, wsum_cons]; show _ + (2 + 1 + _) = _; omega
theorem w_andA (f a : Rx) : wX (andA f a) = wX f + wX a + 4 := by unfold wX; rw [tok_andA, wsum_app, wsum_cons]; show _ + (3 + 1 + _) = _; omega
theorem w_andO (f a : Rx) : wX (andO f a) = wX f + wX a + 4 := by unfold wX; rw [tok_andO, wsum_app, wsum_cons]; show _ + (3 + 1 + _) = _; omega
theorem w_orO (f a : Rx) : wX (orO f a) = wX f + wX a + 3 := by unfold wX; rw [tok_orO, wsum_app, wsum_cons]; show _ + (2 + 1 + _) = _; omega
theorem w_notO (f : Rx) : wX (notO f) = wX f + 4 := by unfold wX; rw [tok_notO, wsum_cons]; show 3 + 1 + _ = _; omega
theorem fac_two : ∀ x, (wX (facX x) ≤ wX x + 4 ∧ depX (facX x) ≤ depX x + 1) ∧ (wX (alvX x) ≤ wX (facX x) ∧ depX (alvX x) ≤ depX (facX x)) ∧ wX x ≤ wX (alvX x) ∧ depX x ≤ depX (alvX x)
  | .atom _ => ⟨⟨Nat.le_add_right _ _, Nat.le_add_right _ _⟩, ⟨Nat.le_refl _, Nat.le_refl _⟩, Nat.le_refl _, Nat.le_refl _⟩
  | .not _ => ⟨⟨Nat.le_add_right _ _, Nat.le_add_right _ _⟩, ⟨Nat.le_refl _, Nat.le_refl _⟩, Nat.le_refl _, Nat.le_refl _⟩
  | .par _ => ⟨⟨Nat.le_add_right _ _, Nat.le_add_right _ _⟩, ⟨Nat.le_refl _, Nat.le_refl _⟩, Nat.le_refl _, Nat.le_refl _⟩
  | .andC f a => by
    simp only [facX, alvX, w_par, depX]
    omega
  | .orC f a => by
    simp only [facX, alvX, w_par, depX]
    omega
/-- Tidy makes no rule longer, none deeper -/
theorem tid_two {lv : Nat} {x : Rx} (h : LvX lv x) : (lv = 0 → wX (facX (tidX x)) ≤ wX x ∧ depX (facX (tidX x)) ≤ depX x) ∧ (lv = 1 → wX (alvX (tidX x)) ≤ wX x ∧ depX (alvX (tidX x)) ≤ depX x) ∧ (lv = 2 → wX (tidX x) ≤ wX x ∧ depX (tidX x) ≤ depX x) := by
  induction h with
  | atom a => exact ⟨fun _ => ⟨Nat.le_refl _, Nat.le_refl _⟩, fun h => absurd h (by decide), fun h => absurd h (by decide)⟩
  | not h0 ih =>
    refine ⟨fun _ => ?_, fun h => absurd h (by decide), fun h => absurd h (by decide)⟩
    have := ih.1 rfl
    rw [tidX, facX, w_not, w_not, depX, depX]
    omega
  | par h0 ih =>
    rename_i o
    refine ⟨fun _ => ?_, fun h => absurd h (by decide), fun h => absurd h (by decide)⟩
    have := ih.2.2 rfl
    have h2 := (fac_two (tidX o)).1
    rw [tidX, w_par, depX]
    omega
  | oneA h0 ih =>
    rename_i f
    refine ⟨fun h => absurd h (by decide), fun _ => ?_, fun h => absurd h (by decide)⟩
    have := ih.1 rfl
    have h2 := (fac_two (tidX f)).2.1
    omega
  | andC h1 h2 i1 i2 =>
    rename_i f a
    refine ⟨fun h => absurd h (by decide), fun _ => ?_, fun h => absurd h (by decide)⟩
    have := i1.1 rfl
    have := i2.2.1 rfl
    have h2 := (fac_two (tidX f)).2.1
    have e : alvX (andA (alvX (tidX f)) (alvX (tidX a))) = andA (alvX (tidX f)) (alvX (tidX a)) := by cases alvX (tidX f) <;> rfl
    rw [tidX, e, w_andA, dep_andA, w_andC, depX]
    omega
  | oneO h0 ih =>
    rename_i f
    refine ⟨fun h => absurd h (by decide), fun h => absurd h (by decide), fun _ => ?_⟩
    have := ih.2.1 rfl
    have h2 := (fac_two (tidX f)).2.2
    omega
  | orC h1 h2 i1 i2 =>
    rename_i f a
    refine ⟨fun h => absurd h (by decide), fun h => absurd h (by decide), fun _ => ?_⟩
    have := i1.2.1 rfl
    have := i2.2.2 rfl
    have h2 := (fac_two (tidX f)).2.2
    rw [tidX, w_orO, dep_orO, w_orC, depX]
    omega
theorem RXs.size {s : ByteArray} {x : Rx} (h : RXs numF s x) : (strX (tidX x)).length + 1 ≤ wX x := by
  have h1 := str_len (tidX x) (fun a ha => h.ok a (by rwa [ats_tid] at ha))
  have h2 := ((tid_two h.lv).2.2 rfl).1
  unfold wX at h2 ⊢
  omega
/-- whether it holds, and its atoms -/
def evX (is : ByteArray → Bool) : Rx → Bool
  | .atom a => is (txtA a)
  | .not f => !evX is f
  | .par o => evX is o
  | .andC f a => evX is f && evX is a
  | .orC a o => evX is a || evX is o
theorem any_splX (is : ByteArray → Bool) {k : Nq} (h : QxOk k) : (splQ sOr k).any (truQ is) = truQ is k := by
  unfold splQ
  split
  · rename_i he
    cases h with
    | leaf a => exact absurd (show noB = sOr from he) (by decide)
    | not k h => exact absurd (show sNot = sOr from he) (by decide)
    | list o ks h1 h2 =>
      obtain rfl : o = sOr := he
      rw [tru_or]
      rfl
  · simp
theorem all_splX (is : ByteArray → Bool) {k : Nq} (h : QxOk k) : (splQ sAnd k).all (truQ is) = truQ is k := by
  unfold splQ
  split
  · rename_i he
    cases h with
    | leaf a => exact absurd (show noB = sAnd from he) (by decide)
    | not k h => exact absurd (show sNot = sAnd from he) (by decide)
    | list o ks h1 h2 =>
      obtain rfl : o = sAnd := he
      rw [tru_and]
      rfl
  · simp
theorem tru_tree (is : ByteArray → Bool) : ∀ x, truQ is (treeX x) = evX is x
  | .atom a => tru_leaf _ _ _
  | .not f => by rw [treeX, tru_not, tru_tree is f, evX]
  | .par o => by rw [treeX, tru_tree is o, evX]
  | .andC f a => by rw [treeX, tru_and, List.all_append, all_splX is (tree_ok f), all_splX is (tree_ok a), tru_tree is f, tru_tree is a, evX]
  | .orC f a => by rw [treeX, tru_or, List.any_append, any_splX is (tree_ok f), any_splX is (tree_ok a), tru_tree is f, tru_tree is a, evX]
theorem ev_congr {is is2 : ByteArray → Bool} : ∀ x, (∀ a ∈ atsX x, is (txtA a) = is2 (txtA a)) → evX is x = evX is2 x
  | .atom a, h => h a (by simp [atsX])
  | .not f, h => by rw [evX, evX, ev_congr f h]
  | .par f, h => by rw [evX, evX, ev_congr f h]
  | .andC f a, h => by rw [evX, evX, ev_congr f (fun x hx => h x (by simp [atsX, hx])), ev_congr a (fun x hx => h x (by simp [atsX, hx]))]
  | .orC f a, h => by rw [evX, evX, ev_congr f (fun x hx => h x (by simp [atsX, hx])), ev_congr a (fun x hx => h x (by simp [atsX, hx]))]
theorem ats_splX {op : ByteArray} (hop : op = sOr ∨ op = sAnd) {k : Nq} (h : QxOk k) (x : BL) : (∃ y ∈ splQ op k, x ∈ atsQ y) ↔ x ∈ atsQ k := by
  unfold splQ
  split
  · rename_i he
    cases h with
    | leaf a => exact absurd (show noB = op from he) (by rcases hop with h | h <;> rw [h] <;> decide)
    | not k h => exact absurd (show sNot = op from he) (by rcases hop with h | h <;> rw [h] <;> decide)
    | list o ks h1 h2 =>
      rw [atsQ_mem]
      constructor
      · exact fun h => .inr h
      · rintro (⟨h, _⟩ | h)
        · exact absurd h (by rcases h1 with h | h <;> rw [h] <;> decide)
        · exact h
  · simp
theorem ats_tree : ∀ (x : Rx) (y : BL), y ∈ atsQ (treeX x) ↔ ∃ a ∈ atsX x, y = (txtA a).data.toList
  | .atom a, y => by
    rw [treeX, atsQ_mem]
    simp [atsX]
  | .not f, y => by
    rw [treeX, atsQ_mem, atsX, ← ats_tree f y]
    constructor
    · rintro (⟨h, _⟩ | ⟨k, hk, h⟩)
      · exact absurd h (by decide)
      · simp at hk; subst hk; exact h
    · exact fun h => .inr ⟨_, by simp, h⟩
  | .par f, y => ats_tree f y
  | .andC f a, y => by
    have h1 := (ats_splX (.inr rfl) (tree_ok f) y).trans (ats_tree f y)
    have h2 := (ats_splX (.inr rfl) (tree_ok a) y).trans (ats_tree a y)
    rw [treeX, atsQ_mem]
    constructor
    · rintro (⟨h, _⟩ | ⟨k, hk, h⟩)
      · exact absurd h (by decide)
      · rcases List.mem_append.1 hk with hk | hk
        · obtain ⟨z, hz, e⟩ := h1.1 ⟨k, hk, h⟩
          exact ⟨z, by rw [atsX]; exact List.mem_append_left _ hz, e⟩
        · obtain ⟨z, hz, e⟩ := h2.1 ⟨k, hk, h⟩
          exact ⟨z, by rw [atsX]; exact List.mem_append_right _ hz, e⟩
    · rintro ⟨z, hz, e⟩
      rw [atsX] at hz
      rcases List.mem_append.1 hz with hz | hz
      · obtain ⟨k, hk, h⟩ := h1.2 ⟨z, hz, e⟩
        exact .inr ⟨k, List.mem_append_left _ hk, h⟩
      · obtain ⟨k, hk, h⟩ := h2.2 ⟨z, hz, e⟩
        exact .inr ⟨k, List.mem_append_right _ hk, h⟩
  | .orC f a, y => by
    have h1 := (ats_splX (.inl rfl) (tree_ok f) y).trans (ats_tree f y)
    have h2 := (ats_splX (.inl rfl) (tree_ok a) y).trans (ats_tree a y)
    rw [treeX, atsQ_mem]
    constructor
    · rintro (⟨h, _⟩ | ⟨k, hk, h⟩)
      · exact absurd h (by decide)
      · rcases List.mem_append.1 hk with hk | hk
        · obtain ⟨z, hz, e⟩ := h1.1 ⟨k, hk, h⟩
          exact ⟨z, by rw [atsX]; exact List.mem_append_left _ hz, e⟩
        · obtain ⟨z, hz, e⟩ := h2.1 ⟨k, hk, h⟩
          exact ⟨z, by rw [atsX]; exact List.mem_append_right _ hz, e⟩
    · rintro ⟨z, hz, e⟩
      rw [atsX] at hz
      rcases List.mem_append.1 hz with hz | hz
      · obtain ⟨k, hk, h⟩ := h1.2 ⟨z, hz, e⟩
        exact .inr ⟨k, List.mem_append_left _ hk, h⟩
      · obtain ⟨k, hk, h⟩ := h2.2 ⟨z, hz, e⟩
        exact .inr ⟨k, List.mem_append_right _ hk, h⟩
end Go.Proofs.YtfhdknppldobiaaGreatDoor
