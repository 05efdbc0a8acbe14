/-
  Steps of a drawn region, in few words. No Go text is named here.
-/
import Derived.Deep.RegionHeld3
import Derived.RegionTactic
import Derived.Deep.DeepCutAuto
import Derived.Test.YtapgnaimbgjcnaaGreatDoorProg
import Derived.Test.YtapgnaimbgjcnaaGreatDoorZScmp
import Derived.Test.YtapgnaimbgjcnaaGreatDoorZFlat
import Derived.Sort.Statements
import Derived.Shelf.SlSortCmp.Insertion
namespace Go.Proofs.YtapgnaimbgjcnaaGreatDoor
open Go
section
variable {P : Program} {ops : Array Oper} {Q : Exit → Act → World → Prop} {md : Region.Mode} {S : World → Prop} {fuel : Nat} {listed : Array Bool} {a a' : Act} {w : World} {oi : Oper}
theorem tkY (i : Nat) (v : Value) (hi : ops[i]? = some oi) (hS : S w) (h : wpAnyH P md ops Q S fuel (listed.setIfInBounds i true) a' w)
 (ha : a.put oi.dst v = a' := by (try simp only [Act.put, List.getElem_toArray, List.getElem_cons_zero, List.getElem_cons_succ, List.setIfInBounds_toArray, List.set_cons_zero, List.set_cons_succ]); exact rfl)
 (hs : Region.noSelect ops = true := by kernel_rfl) (hf : Region.free md ops listed i = true := by kernel_rfl) (hr : (Region.ready md ops listed).contains i = true := by kernel_rfl)
 (hQ : ∀ c a w, Q (.panic c) (a.put oi.dst v) w → Q (.panic c) a w := by exact fun _ _ _ h => h) (hg : Region.wanted oi (yielded ops a.tmps) = true := by rfl)
 (hT : ∀ V, S V → (execOp a.eval oi).run P V = .ok (.value v) V := by
  intro V hV
  (try dsimp only at hV)
  (repeat (have hV0 := And.left hV; replace hV := And.right hV))
  first | (go_simp; done) | (go_simp; rfl) | (go_simp; omega) | (go_simp; simp only [*]; done) | rfl) : wpAnyH P md ops Q S (fuel + 1) listed a w :=
 wpAnyH_take hi hs hf hr hQ (Or.inl ⟨hg, hT⟩) hS (ha ▸ h)
theorem tkN (i : Nat) (hi : ops[i]? = some oi) (hS : S w) (h : wpAnyH P md ops Q S fuel (listed.setIfInBounds i true) a' w)
 (ha : a.put oi.dst undef = a' := by (try simp only [Act.put, List.getElem_toArray, List.getElem_cons_zero, List.getElem_cons_succ, List.setIfInBounds_toArray, List.set_cons_zero, List.set_cons_succ]); exact rfl)
 (hs : Region.noSelect ops = true := by kernel_rfl) (hf : Region.free md ops listed i = true := by kernel_rfl) (hr : (Region.ready md ops listed).contains i = true := by kernel_rfl)
 (hQ : ∀ c a w, Q (.panic c) (a.put oi.dst undef) w → Q (.panic c) a w := by exact fun _ _ _ h => h) (hg : Region.wanted oi (yielded ops a.tmps) = false := by rfl) : wpAnyH P md ops Q S (fuel + 1) listed a w :=
 wpAnyH_take hi hs hf hr hQ (Or.inr ⟨hg, rfl⟩) hS (ha ▸ h)
theorem tkC (i : Nat) {o : Oper} (ho : ops[i]? = some o)
 (h : ∀ K' : Act → World → Prop, Shut (∀ a w, S w → (S w → wpAnyH P md ops Q S fuel (listed.setIfInBounds i true) a w) → K' a w) → if Region.wanted o (yielded ops a.tmps) = true then Oper.wp P o a w K' Q else K' (a.put o.dst undef) w)
 (hr : Region.ready md ops listed = [i] := by kernel_rfl) : wpAnyH P md ops Q S (fuel + 1) listed a w :=
 wpAnyH_ready hr (by simp) (AllReadyH.cons ho h AllReadyH.nil)
end
end Go.Proofs.YtapgnaimbgjcnaaGreatDoor
/-
  Strings in order: transitive, total, antisymmetric. No Go text is named here.
-/
namespace Go.Proofs.YtapgnaimbgjcnaaGreatDoor
open Go Go.RowKit
theorem gt_trans : ∀ x y z : List UInt8, 0 < Lib.compareBytes x y → 0 < Lib.compareBytes y z → 0 < Lib.compareBytes x z
 | [], [], _, h, _ => by simp [Lib.compareBytes] at h
 | [], _ :: _, _, h, _ => by simp [Lib.compareBytes] at h
 | _ :: _, [], [], _, h => by simp [Lib.compareBytes] at h
 | _ :: _, [], _ :: _, _, h => by simp [Lib.compareBytes] at h
 | _ :: _, _ :: _, [], _, _ => by simp [Lib.compareBytes]
 | a :: p, b :: q, c :: r, h1, h2 => by
   have ih := gt_trans p q r
   unfold Lib.compareBytes at h1 h2 ⊢
   by_cases a1 : a < b
   · rw [if_pos a1] at h1; exact absurd h1 (by decide)
   by_cases b1 : b < c
   · rw [if_pos b1] at h2; exact absurd h2 (by decide)
   rw [if_neg a1] at h1
   rw [if_neg b1] at h2
   by_cases a2 : b < a
   · by_cases b2 : c < b
     · have hc := UInt8.lt_trans b2 a2
       rw [if_neg (fun h => UInt8.lt_irrefl _ (UInt8.lt_trans h hc)), if_pos hc]
       decide
     · have e : b = c := UInt8.le_antisymm (UInt8.not_lt.1 b2) (UInt8.not_lt.1 b1)
       subst e
       rw [if_neg a1, if_pos a2]
       decide
   · have e : a = b := UInt8.le_antisymm (UInt8.not_lt.1 a2) (UInt8.not_lt.1 a1)
     subst e
     by_cases b2 : c < a
     · rw [if_neg b1, if_pos b2]
       decide
     · have e : a = c := UInt8.le_antisymm (UInt8.not_lt.1 b2) (UInt8.not_lt.1 b1)
       subst e
       rw [if_neg a2] at h1
       rw [if_neg b2] at h2
       rw [if_neg b1, if_neg b2]
       exact ih h1 h2
def gtS (a b : ByteArray) : Prop := leS a b = false
theorem gtS_iff (a b : ByteArray) : gtS a b ↔ 0 < cmpS a b := by
 unfold gtS
 rw [← cmpS_le]
 simp
theorem gtS.trans {a b c : ByteArray} (h1 : gtS a b) (h2 : gtS b c) : gtS a c :=
 (gtS_iff a c).2 (gt_trans _ _ _ ((gtS_iff a b).1 h1) ((gtS_iff b c).1 h2))
theorem cmpL_zero : ∀ a b : List UInt8, Lib.compareBytes a b = 0 → a = b
 | [], [], _ => rfl
 | [], _ :: _, h => by simp [Lib.compareBytes] at h
 | _ :: _, [], h => by simp [Lib.compareBytes] at h
 | a :: p, b :: q, h => by
   unfold Lib.compareBytes at h
   by_cases h1 : a < b
   · rw [if_pos h1] at h; exact absurd h (by decide)
   · by_cases h2 : b < a
     · rw [if_neg h1, if_pos h2] at h; exact absurd h (by decide)
     · rw [if_neg h1, if_neg h2] at h
       rw [cmpL_zero p q h, UInt8.le_antisymm (UInt8.not_lt.1 h2) (UInt8.not_lt.1 h1)]
theorem cmpS_zero {a b : ByteArray} (h : cmpS a b = 0) : a = b := by
 have := cmpL_zero _ _ h
 cases a; cases b
 congr
 exact Array.toList_inj.1 this
theorem leS_gt {a b : ByteArray} (h : gtS b a) : leS a b = true := by
 have := (gtS_iff b a).1 h
 rw [← cmpS_ge]
 simp
 omega
theorem leS_cases {a b : ByteArray} (h : leS a b = true) : gtS b a ∨ a = b := by
 rw [← cmpS_ge] at h
 have h : 0 ≤ cmpS b a := by simpa using h
 by_cases h0 : cmpS b a = 0
 · exact .inr (cmpS_zero h0).symm
 · exact .inl ((gtS_iff b a).2 (by omega))
theorem leS_trans {a b c : ByteArray} (h1 : leS a b = true) (h2 : leS b c = true) : leS a c = true := by
 rcases leS_cases h1 with h1 | rfl
 · rcases leS_cases h2 with h2 | rfl
   · exact leS_gt (h2.trans h1)
   · exact leS_gt h1
 · exact h2
end Go.Proofs.YtapgnaimbgjcnaaGreatDoor
/-
  Three-way comparisons that hang together (Ord3): numbers, strings, one behind the other. No Go text is named here.
-/
namespace Go.Proofs.YtapgnaimbgjcnaaGreatDoor
open Go Go.RowKit
theorem cmpI_neg (a b : Int) : cmpI b a = - cmpI a b := by
 unfold cmpI
 split <;> split <;> (try split) <;> omega
theorem cmpL_neg : ∀ a b : List UInt8, Lib.compareBytes b a = - Lib.compareBytes a b
 | [], [] => by simp [Lib.compareBytes]
 | [], _ :: _ => by simp [Lib.compareBytes]
 | _ :: _, [] => by simp [Lib.compareBytes]
 | a :: p, b :: q => by
   have ih := cmpL_neg p q
   unfold Lib.compareBytes
   by_cases h1 : a < b
   · have h2 : ¬ b < a := fun h => UInt8.lt_irrefl _ (UInt8.lt_trans h1 h)
     simp [h1, h2]
   · by_cases h2 : b < a
     · simp [h1, h2]
     · simp [h1, h2, ih]
theorem cmpS_neg (a b : ByteArray) : cmpS b a = - cmpS a b := cmpL_neg _ _
structure Ord3 {α : Type} (f : α → α → Int) : Prop where
 neg : ∀ x y, f y x = - f x y
 trans : ∀ x y z, f x y ≤ 0 → f y z ≤ 0 → f x z ≤ 0
theorem Ord3.first {α : Type} {f g : α → α → Int} (hf : Ord3 f) (hg : Ord3 g) : Ord3 (fun x y => if f x y = 0 then g x y else f x y) where
 neg x y := by
  have h1 := hf.neg x y
  have h2 := hg.neg x y
  show (if f y x = 0 then g y x else f y x) = - (if f x y = 0 then g x y else f x y)
  by_cases h : f x y = 0
  · rw [if_pos h, if_pos (by omega), h2]
  · rw [if_neg h, if_neg (by omega), h1]
 trans x y z := by
  show (if f x y = 0 then g x y else f x y) ≤ 0 → (if f y z = 0 then g y z else f y z) ≤ 0 → (if f x z = 0 then g x z else f x z) ≤ 0
  intro h1 h2
  have a1 : f x y ≤ 0 := by split at h1 <;> omega
  have a2 : f y z ≤ 0 := by split at h2 <;> omega
  have a3 := hf.trans x y z a1 a2
  by_cases h : f x z = 0
  · have b1 := hf.neg x z
    have b2 := hf.trans y z x a2 (by omega)
    have b3 := hf.trans z x y (by omega) a1
    have c1 := hf.neg x y
    have c2 := hf.neg y z
    rw [if_pos (by omega)] at h1 h2
    rw [if_pos h]
    exact hg.trans x y z h1 h2
  · rw [if_neg h]
    exact a3
theorem ord3_zero {α : Type} : Ord3 (fun _ _ : α => (0 : Int)) := ⟨fun _ _ => rfl, fun _ _ _ _ _ => Int.le_refl _⟩
theorem ord3_int {α : Type} (p : α → Int) : Ord3 (fun x y => cmpI (p x) (p y)) := ⟨fun x y => cmpI_neg _ _, fun x y z => by
 show cmpI _ _ ≤ 0 → cmpI _ _ ≤ 0 → cmpI _ _ ≤ 0
 unfold cmpI
 intro h1 h2
 split at h1 <;> split at h2 <;> split <;> (try split at h1) <;> (try split at h2) <;> (try split) <;> omega⟩
theorem ord3_str {α : Type} (p : α → ByteArray) : Ord3 (fun x y => cmpS (p x) (p y)) := ⟨fun x y => cmpS_neg _ _, fun x y z h1 h2 => by
 have e1 := (cmpS_le (p x) (p y)).symm.trans (decide_eq_true h1)
 have e2 := (cmpS_le (p y) (p z)).symm.trans (decide_eq_true h2)
 exact of_decide_eq_true ((cmpS_le (p x) (p z)).trans (leS_trans e1 e2))⟩
theorem Ord3.swo {α : Type} {f : α → α → Int} (h : Ord3 f) : Go.Sort.SWO (ltOf f) where
 irrefl x := by
  have := h.neg x x
  exact decide_eq_false (by omega)
 trans x y z h1 h2 := by
  have h1 : f x y < 0 := of_decide_eq_true h1
  have h2 : f y z < 0 := of_decide_eq_true h2
  refine decide_eq_true ?_
  have a := h.trans x y z (by omega) (by omega)
  by_cases e : f x z = 0
  · have b := h.neg x z
    have c := h.neg x y
    have d := h.trans y z x (by omega) (by omega)
    have := h.neg y x
    omega
  · omega
 ntrans x y z h1 h2 := by
  have h1 : ¬ f x y < 0 := of_decide_eq_false h1
  have h2 : ¬ f y z < 0 := of_decide_eq_false h2
  refine decide_eq_false ?_
  have a := h.neg x y
  have b := h.neg y z
  have c := h.neg x z
  have d := h.trans z y x (by omega) (by omega)
  omega
end Go.Proofs.YtapgnaimbgjcnaaGreatDoor
