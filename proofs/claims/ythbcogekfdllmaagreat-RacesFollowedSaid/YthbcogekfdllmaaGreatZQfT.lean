/-
  A contest on its way: times within their bounds; what both sides say of who finished. No walk.
-/
import Derived.Test.YthbcogekfdllmaaGreatZRfT
import Derived.Test.YthbcogekfdllmaaGreatZResP
namespace Go.Proofs.YthbcogekfdllmaaGreat
open Go Go.RowKit

/-- times within their bounds -/
structure TQ (G : QF) : Prop where
  a0 : -1 ≤ G.at0 ∧ G.at0 ≤ 345686399999
  en : ∀ s v, G.en s = some v → 0 ≤ v ∧ v ≤ 345686399999
theorem TQ.start : TQ qf0 := ⟨⟨by decide, by decide⟩, (fun s v h => by cases h)⟩
theorem TQ.step {G G' : QF} (h : TQ G) {x : Stp} (hx : 0 ≤ x.at_ ∧ x.at_ ≤ 345686399999) (hs : stpQ G x = some G') : TQ G' := by
  have hmv : ∀ a b, mvQ G x a b = some G' → TQ G' := fun a b h2 => by
    unfold mvQ at h2
    split at h2
    · injection h2 with h2; subst h2
      refine ⟨h.a0, fun s v hv => ?_⟩
      have hv : setE G.en x.who x.at_ s = some v := hv
      by_cases e : s = x.who
      · subst e; rw [setE_same] at hv; injection hv with hv; subst hv; exact hx
      · rw [setE_ne _ _ e] at hv; exact h.en s v hv
    · cases h2
  unfold stpQ at hs
  split at hs
  · split at hs
    · cases hs
    · injection hs with hs; subst hs; exact ⟨h.a0, h.en⟩
  · split at hs
    · split at hs
      · cases hs
      · injection hs with hs; subst hs; exact ⟨⟨by have := hx.1; show -1 ≤ x.at_; omega, hx.2⟩, h.en⟩
    · split at hs
      · split at hs
        · cases hs
        · injection hs with hs; subst hs; exact ⟨h.a0, h.en⟩
      · split at hs
        · split at hs
          · injection hs with hs; subst hs; exact ⟨h.a0, h.en⟩
          · cases hs
        · split at hs
          · exact hmv 0 1 hs
          · split at hs
            · exact hmv 1 0 hs
            · split at hs
              · split at hs
                · cases hs
                · exact hmv 2 3 hs
              · exact hmv 2 4 hs
theorem rfolQ_inv (u : Int) : ∀ (l : List Stp) (a : QF × Nat × List Int), TQ a.1 → (∀ x ∈ l, 0 ≤ x.at_ ∧ x.at_ ≤ 345686399999) → TQ (l.foldl (accQ u) a).1
  | [], _, h, _ => h
  | x :: l, a, h, hl => by
    rw [List.foldl_cons]
    refine rfolQ_inv u l _ ?_ (fun y hy => hl y (List.mem_cons_of_mem _ hy))
    unfold accQ
    split
    · unfold accS
      split
      · rename_i s hs; exact h.step (hl x (List.mem_cons_self ..)) hs
      · exact h
    · exact h
theorem rfolQ_TQ {l : List Stp} (u : Int) (h : StOk l) : TQ (rfolQ l u).1 := rfolQ_inv u l _ TQ.start (fun x hx => h.at_ x hx)
/-- when somebody finished, by the reference -/
def dQ (G : QF) (s : ByteArray) : Option Int := if G.hw s = some 3 then some ((G.en s).getD 0) else none
theorem dQ_eq {F : PF} {G : QF} {t : Int} (h : RF F G t) : dP F = dQ G := by
  funext s
  unfold dQ
  rw [h.hw]
  cases he : F.en s with
  | none =>
    have h1 : hwP F s = none := by unfold hwP; rw [he]; rfl
    rw [h1, if_neg (by intro h; cases h)]
    unfold dP
    rw [he]
    rfl
  | some v =>
    obtain ⟨c, a⟩ := v
    have h1 : hwP F s = some c := by unfold hwP; rw [he]; rfl
    rw [dP_at he, h1]
    by_cases e : c = 3
    · subst e
      rw [if_pos rfl, if_pos rfl, (h.dn s a he).1]
      rfl
    · rw [if_neg e, if_neg (fun h => e (Option.some.inj h))]
theorem aheadE_snoc (d : ByteArray → Option Int) (x : Option Int) (ks : List ByteArray) (o : ByteArray) : aheadE (ks ++ [o]) d x = aheadE ks d x + (if aheadB (d o) x = true then 1 else 0) := by
  unfold aheadE
  rw [List.countP_append, List.countP_singleton]
theorem aheadE_le (d : ByteArray → Option Int) (x : Option Int) (ks : List ByteArray) : aheadE ks d x ≤ ks.length := List.countP_le_length
theorem aheadE_perm {ks ks' : List ByteArray} (h : ks.Perm ks') (d : ByteArray → Option Int) (x : Option Int) : aheadE ks d x = aheadE ks' d x := h.countP_eq _
end Go.Proofs.YthbcogekfdllmaaGreat
