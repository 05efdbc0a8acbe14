/-
  What a slot says, wherever its hosts lie; faults go by that alone. (Split out of XMov1 and XOclPure.)
-/
import Derived.Test.YtfmljboogkhobaaGreatDoorZSlotPure
import Derived.Test.YtfmljboogkhobaaGreatDoorZSep
namespace Go.Proofs.YtfmljboogkhobaaGreatDoor
open Go Go.RowKit

/-- what a slot says, wherever its hosts lie -/
def cntS (x : Slt) : ByteArray × ByteArray × List ByteArray × Int × Int := (x.key, x.who, x.hosts, x.setup, x.long)
theorem Sq.snocR {w W : World} {l : List Rsc} {α : Type} {f : α → Rsc} {xs : List α} {a : α} (h : Sq w W (f a :: rAll f xs :: l)) (hf : ∀ a, (f a).Ok) : Sq w W (rAll f (xs ++ [a]) :: l) := by
  have h1 := h.hp.apart
  rw [List.pairwise_cons] at h1
  have h2 := List.pairwise_cons.1 h1.2
  refine ⟨h.below, ?_⟩
  refine Hp.cons h.hp.tail.tail ?_ (rAll_ok hf _) (fun g hg => ?_) (fun s hs g hg hg2 => ?_)
  · intro x hx
    rcases List.mem_append.1 hx with hx | hx
    · exact (h.nth 1 rfl : ∀ a ∈ xs, (f a).P W) x hx
    · simp at hx; subst hx; exact h.head
  · obtain ⟨x, hx, hg⟩ := hg
    rcases List.mem_append.1 hx with hx | hx
    · exact h.hp.new _ (List.mem_cons_of_mem _ (List.mem_cons_self ..)) g ⟨x, hx, hg⟩
    · simp at hx; subst hx; exact h.hp.new _ (List.mem_cons_self ..) g hg
  · obtain ⟨x, hx, hg⟩ := hg
    rcases List.mem_append.1 hx with hx | hx
    · exact h2.1 s hs g ⟨x, hx, hg⟩ hg2
    · simp at hx; subst hx; exact h1.1 s (List.mem_cons_of_mem _ hs) g hg hg2
theorem Sq.allNil {w W : World} {l : List Rsc} {α : Type} (h : Sq w W l) (f : α → Rsc) (hf : ∀ a, (f a).Ok) : Sq w W (rAll f [] :: l) :=
  ⟨h.below, h.hp.cons (by intro a ha; cases ha) (rAll_ok hf _) (fun g hg => by obtain ⟨a, ha, _⟩ := hg; cases ha) (fun s _ g hg => by obtain ⟨a, ha, _⟩ := hg; cases ha)⟩
theorem slotF_cnt {x y : Slt} (h : cntS x = cntS y) : slotF x = slotF y := by
  simp only [cntS, Prod.mk.injEq] at h
  obtain ⟨a1, a2, a3, a4, a5⟩ := h
  unfold slotF
  rw [a2, a3, a4, a5]
theorem findL_cnt : ∀ (p q : List Slt) (k : ByteArray), p.map cntS = q.map cntS → findL p k = findL q k
  | [], [], _, _ => rfl
  | [], _ :: _, _, h => by simp at h
  | _ :: _, [], _, h => by simp at h
  | x :: p, y :: q, k, h => by
    simp only [List.map_cons, List.cons.injEq] at h
    have ih := findL_cnt p q k h.2
    have hk : x.key = y.key := congrArg (·.1) h.1
    unfold findL at ih ⊢
    rw [ixOf, ixOf, ih, hk]
theorem slotsG_cnt : ∀ (p q pre pre' : List Slt), pre.map cntS = pre'.map cntS → p.map cntS = q.map cntS → slotsG pre p = slotsG pre' q
  | [], [], _, _, _, _ => rfl
  | [], _ :: _, _, _, _, h => by simp at h
  | _ :: _, [], _, _, _, h => by simp at h
  | x :: p, y :: q, pre, pre', hp, h => by
    simp only [List.map_cons, List.cons.injEq] at h
    have ih := slotsG_cnt p q (pre ++ [x]) (pre' ++ [y]) (by simp [hp, h.1]) h.2
    have hk : x.key = y.key := congrArg (·.1) h.1
    have hw : x.who = y.who := congrArg (·.2.1) h.1
    rw [slotsG, slotsG, ih, findL_cnt pre pre' x.key hp, slotF_cnt h.1, hk, hw]
theorem slotsF_cnt {p q : List Slt} (h : p.map cntS = q.map cntS) : slotsF p = slotsF q := by
  have hl : p.length = q.length := by simpa using congrArg List.length h
  unfold slotsF
  rw [hl, slotsG_cnt p q [] [] rfl h]
end Go.Proofs.YtfmljboogkhobaaGreatDoor
