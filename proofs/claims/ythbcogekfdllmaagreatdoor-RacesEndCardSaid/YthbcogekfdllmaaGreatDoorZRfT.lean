/-
  A field on its way: times within their bounds, who is in it. No walk.
-/
import Derived.Test.YthbcogekfdllmaaGreatDoorZRf1
namespace Go.Proofs.YthbcogekfdllmaaGreatDoor
open Go Go.RowKit

/-- times within their bounds -/
structure TF (F : PF) : Prop where
  a0 : 0 ≤ F.at0 ∧ F.at0 ≤ 345686399999
  en : ∀ s v, F.en s = some v → 0 ≤ v.2 ∧ v.2 ≤ 345686399999
  dn : ∀ s a, F.en s = some (3, a) → F.at0 < a
theorem TF.start : TF pf0 := ⟨⟨by decide, by decide⟩, (fun s v h => by cases h), (fun s a h => by cases h)⟩
theorem TF.set {F : PF} (h : TF F) (k : ByteArray) (v : Nat × Int) (hv : 0 ≤ v.2 ∧ v.2 ≤ 345686399999) (h3 : v.1 = 3 → F.at0 < v.2) : TF (setP F k v) := by
  refine ⟨h.a0, fun s u hu => ?_, fun s a ha => ?_⟩
  · have hu : setE F.en k v s = some u := hu
    by_cases e : s = k
    · subst e; rw [setE_same] at hu; injection hu with hu; subst hu; exact hv
    · rw [setE_ne _ _ e] at hu; exact h.en s u hu
  · have ha : setE F.en k v s = some (3, a) := ha
    by_cases e : s = k
    · subst e; rw [setE_same] at ha; injection ha with ha; subst ha; exact h3 rfl
    · rw [setE_ne _ _ e] at ha; exact h.dn s a ha
theorem TF.step {F F' : PF} (h : TF F) {x : Stp} (hx : 0 ≤ x.at_ ∧ x.at_ ≤ 345686399999) (hs : stpP F x = some F') : TF F' := by
  have z : (0 : Int) ≤ 0 ∧ (0 : Int) ≤ 345686399999 := by decide
  have key : (∃ k v, F' = setP F k v ∧ (0 ≤ v.2 ∧ v.2 ≤ 345686399999) ∧ (v.1 = 3 → F.at0 < v.2)) ∨ F' = addP F x.who ∨ F' = rDel F x.who ∨ F' = goP F x.at_ := by
    unfold stpP at hs
    split at hs
    · unfold aftP at hs
      split at hs
      · cases hs
      · split at hs
        · rename_i h6; injection hs with hs; exact .inl ⟨_, _, hs.symm, hx, fun _ => h6.2.2⟩
        · split at hs
          · injection hs with hs; exact .inl ⟨_, _, hs.symm, z, fun h => by cases h⟩
          · split at hs
            · injection hs with hs; exact .inl ⟨_, _, hs.symm, z, fun h => by cases h⟩
            · cases hs
    · unfold befP at hs
      split at hs
      · split at hs
        · cases hs
        · injection hs with hs; exact .inr (.inl hs.symm)
      · split at hs
        · split at hs
          · injection hs with hs; exact .inl ⟨_, _, hs.symm, z, fun h => by cases h⟩
          · cases hs
        · split at hs
          · split at hs
            · injection hs with hs; exact .inl ⟨_, _, hs.symm, z, fun h => by cases h⟩
            · cases hs
          · split at hs
            · split at hs
              · injection hs with hs; exact .inr (.inr (.inl hs.symm))
              · cases hs
            · split at hs
              · split at hs
                · cases hs
                · injection hs with hs; exact .inr (.inr (.inr hs.symm))
              · cases hs
  rcases key with ⟨k, v, rfl, h1, h2⟩ | rfl | rfl | rfl
  · exact h.set k v h1 h2
  · have h2 := h.set x.who (0, 0) z (fun h => by cases h)
    exact ⟨h2.a0, h2.en, h2.dn⟩
  · refine ⟨h.a0, fun s v hv => ?_, fun s a ha => ?_⟩
    · have hv : delE F.en x.who s = some v := hv
      unfold delE at hv
      split at hv
      · cases hv
      · exact h.en s v hv
    · have ha : delE F.en x.who s = some (3, a) := ha
      unfold delE at ha
      split at ha
      · cases ha
      · exact h.dn s a ha
  · refine ⟨hx, fun s v hv => ?_, fun s a ha => ?_⟩
    · have hv : (if hwP F s = some 1 then some ((2 : Nat), (0 : Int)) else none) = some v := hv
      split at hv
      · injection hv with hv; subst hv; exact z
      · cases hv
    · have ha : (if hwP F s = some 1 then some ((2 : Nat), (0 : Int)) else none) = some (3, a) := ha
      split at ha
      · injection ha with ha; cases ha
      · cases ha
/-- who is in a field comes from the steps -/
theorem ks_step {F F' : PF} {x : Stp} (hs : stpP F x = some F') : ∀ s ∈ F'.ks, s ∈ F.ks ∨ s = x.who := by
  have key : F'.ks = F.ks ∨ F'.ks = F.ks ++ [x.who] ∨ (∃ p, F'.ks = F.ks.filter p) := by
    unfold stpP at hs
    split at hs
    · unfold aftP at hs
      split at hs
      · cases hs
      · split at hs
        · injection hs with hs; subst hs; exact .inl rfl
        · split at hs
          · injection hs with hs; subst hs; exact .inl rfl
          · split at hs
            · injection hs with hs; subst hs; exact .inl rfl
            · cases hs
    · unfold befP at hs
      split at hs
      · split at hs
        · cases hs
        · injection hs with hs; subst hs; exact .inr (.inl rfl)
      · split at hs
        · split at hs
          · injection hs with hs; subst hs; exact .inl rfl
          · cases hs
        · split at hs
          · split at hs
            · injection hs with hs; subst hs; exact .inl rfl
            · cases hs
          · split at hs
            · split at hs
              · injection hs with hs; subst hs; exact .inr (.inr ⟨_, rfl⟩)
              · cases hs
            · split at hs
              · split at hs
                · cases hs
                · injection hs with hs; subst hs; exact .inr (.inr ⟨_, rfl⟩)
              · cases hs
  intro s hm
  rcases key with e | e | ⟨p, e⟩ <;> rw [e] at hm
  · exact .inl hm
  · rcases List.mem_append.1 hm with hm | hm
    · exact .inl hm
    · simp at hm; exact .inr hm
  · exact .inl (List.mem_filter.1 hm).1
theorem fol_inv : ∀ (l : List Stp) (F : PF) (i : Nat) (bad : List Int), TF F → (∀ x ∈ l, 0 ≤ x.at_ ∧ x.at_ ≤ 345686399999) → TF (l.foldl (accS stpP) (F, i, bad)).1 ∧ ∀ s ∈ (l.foldl (accS stpP) (F, i, bad)).1.ks, s ∈ F.ks ∨ ∃ x ∈ l, x.who = s
  | [], F, i, bad, h, _ => ⟨h, fun s hs => .inl hs⟩
  | x :: l, F, i, bad, h, hl => by
    rw [List.foldl_cons]
    have hl2 : ∀ y ∈ l, 0 ≤ y.at_ ∧ y.at_ ≤ 345686399999 := fun y hy => hl y (List.mem_cons_of_mem _ hy)
    cases ho : stpP F x with
    | none =>
      rw [accS_none ho]
      obtain ⟨h1, h2⟩ := fol_inv l F (i + 1) (bad ++ [(i : Int)]) h hl2
      refine ⟨h1, fun s hs => ?_⟩
      rcases h2 s hs with h3 | ⟨y, hy, h3⟩
      · exact .inl h3
      · exact .inr ⟨y, List.mem_cons_of_mem _ hy, h3⟩
    | some F' =>
      rw [accS_some ho]
      obtain ⟨h1, h2⟩ := fol_inv l F' (i + 1) bad (h.step (hl x (List.mem_cons_self ..)) ho) hl2
      refine ⟨h1, fun s hs => ?_⟩
      rcases h2 s hs with h3 | ⟨y, hy, h3⟩
      · rcases ks_step ho s h3 with h4 | h4
        · exact .inl h4
        · exact .inr ⟨x, List.mem_cons_self .., h4.symm⟩
      · exact .inr ⟨y, List.mem_cons_of_mem _ hy, h3⟩
theorem rfolP_inv {l : List Stp} (u : Int) (h : StOk l) : TF (rfolP l u).1 ∧ ∀ s ∈ (rfolP l u).1.ks, ∃ x ∈ l, x.who = s := by
  have hsub : ∀ x ∈ untilS u l, x ∈ l := fun x hx => (List.takeWhile_sublist _).subset hx
  obtain ⟨h1, h2⟩ := fol_inv (untilS u l) pf0 0 [] TF.start (fun x hx => h.at_ x (hsub x hx))
  refine ⟨h1, fun s hs => ?_⟩
  rcases h2 s hs with h3 | ⟨x, hx, h3⟩
  · cases h3
  · exact ⟨x, hsub x hx, h3⟩
/-- when somebody finished -/
def dP (F : PF) (s : ByteArray) : Option Int := (F.en s).bind (fun v => if v.1 = 3 then some v.2 else none)
theorem dP_some {F : PF} {s : ByteArray} {a : Int} (h : dP F s = some a) : F.en s = some (3, a) := by
  unfold dP at h
  cases he : F.en s with
  | none => rw [he] at h; cases h
  | some v =>
    obtain ⟨c, b⟩ := v
    rw [he] at h
    have h : (if c = 3 then some b else none) = some a := h
    split at h
    · rename_i e; injection h with h; rw [e, h]
    · cases h
theorem dP_at {F : PF} {s : ByteArray} {c : Nat} {b : Int} (h : F.en s = some (c, b)) : dP F s = if c = 3 then some b else none := by
  unfold dP
  rw [h]
  rfl
end Go.Proofs.YthbcogekfdllmaaGreatDoor
