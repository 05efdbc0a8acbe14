/-
  A drawn region by an invariant: each operation is proved once, whatever came before it.
-/
import Derived.Test.YtejadhehmcifoaaGreatDoorZBase
import Derived.Orders
import Derived.RegionTactic
namespace Go.Proofs.YtejadhehmcifoaaGreatDoor
open Go Go.RowKit

theorem count_set {l : List Bool} : ∀ {i : Nat}, l[i]? = some false → (l.set i true).count false + 1 = l.count false := by
  induction l with
  | nil => intro i h; simp at h
  | cons a l ih =>
    intro i h
    cases i with
    | zero => simp at h; subst h; simp
    | succ i =>
      simp only [List.getElem?_cons_succ] at h
      have := ih h
      simp only [List.set_cons_succ, List.count_cons]
      omega

theorem ready_of {md : Region.Mode} {ops : Array Oper} {listed : Array Bool} {i : Nat} {o : Oper} (h0 : listed.getD i true = false) (ho : ops[i]? = some o) (hd : (o.after.toList.all fun e => !Region.binds md e || listed.getD e.on false) = true) : i ∈ Region.ready md ops listed := by
  rw [mem_ready]
  refine ⟨h0, o, ho, fun e he hb => ?_⟩
  have := List.all_eq_true.1 hd e (by simpa using he)
  simpa [hb] using this
theorem ready_ne {md : Region.Mode} {ops : Array Oper} {listed : Array Bool} (he : Region.ready md ops listed = []) (i : Nat) {o : Oper} (h0 : listed.getD i true = false) (ho : ops[i]? = some o) (hd : (o.after.toList.all fun e => !Region.binds md e || listed.getD e.on false) = true) : False := by
  have := ready_of h0 ho hd
  rw [he] at this
  cases this
theorem ready_dep {md : Region.Mode} {ops : Array Oper} {listed : Array Bool} {i : Nat} (h : i ∈ Region.ready md ops listed) (j : Nat) (hj : ((ops[i]?).map (fun o => o.after.toList.any (fun e => Region.binds md e && e.on == j))).getD false = true) : listed.getD j false = true := by
  obtain ⟨_, o, ho, hd⟩ := mem_ready.1 h
  rw [ho] at hj
  simp only [Option.map_some, Option.getD_some, List.any_eq_true, Bool.and_eq_true, beq_iff_eq] at hj
  obtain ⟨e, he, hb, rfl⟩ := hj
  exact hd e (by simpa using he) hb

theorem wpAny_inv {P : Program} {md : Region.Mode} {ops : Array Oper} {Q : Exit → Act → World → Prop} {Inv : Array Bool → Act → World → Prop}
    (hstep : ∀ listed a w, Inv listed a w → (∀ fuel, listed.toList.count false ≤ fuel → wpAny P md ops Q fuel listed a w) ∨
      (Region.ready md ops listed ≠ [] ∧ ∀ i ∈ Region.ready md ops listed, wpOp P ops Q i (fun a' w' => Inv (listed.setIfInBounds i true) a' w') a w)) :
    ∀ fuel listed a w, listed.toList.count false ≤ fuel → listed.size = ops.size → Inv listed a w → wpAny P md ops Q fuel listed a w
  | 0, listed, a, w, hc, hs, h => by
    rcases hstep listed a w h with hd | ⟨hne, _⟩
    · exact hd 0 hc
    · exfalso
      obtain ⟨j, hj⟩ := List.exists_mem_of_ne_nil _ hne
      obtain ⟨h0, o, ho, _⟩ := mem_ready.1 hj
      have hlt : j < listed.size := by rw [hs]; exact (Array.getElem?_eq_some_iff.1 ho).1
      have hf : listed.toList[j]? = some false := by
        have : listed[j]? = some false := by
          rw [Array.getElem?_eq_getElem hlt] at *
          simp only [Array.getD_eq_getD_getElem?, Array.getElem?_eq_getElem hlt, Option.getD_some] at h0
          rw [h0]
        simpa using this
      have := count_set hf
      omega
  | fuel + 1, listed, a, w, hc, hs, h => by
    rcases hstep listed a w h with hd | ⟨hne, hall⟩
    · exact hd (fuel + 1) hc
    · refine ⟨fun h0 => absurd h0 hne, fun i hi => wpOp_mono (fun a' w' h' => ?_) (hall i hi)⟩
      obtain ⟨h0, o, ho, _⟩ := mem_ready.1 hi
      have hlt : i < listed.size := by rw [hs]; exact (Array.getElem?_eq_some_iff.1 ho).1
      have hf : listed.toList[i]? = some false := by
        have : listed[i]? = some false := by
          simp only [Array.getD_eq_getD_getElem?, Array.getElem?_eq_getElem hlt, Option.getD_some] at h0
          rw [Array.getElem?_eq_getElem hlt, h0]
        simpa using this
      have hcs := count_set hf
      refine wpAny_inv hstep fuel _ a' w' ?_ (by simpa using hs) h'
      rw [Array.toList_setIfInBounds]
      omega
end Go.Proofs.YtejadhehmcifoaaGreatDoor
