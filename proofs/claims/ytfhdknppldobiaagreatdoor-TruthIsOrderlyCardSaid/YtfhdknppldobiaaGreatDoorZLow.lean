/-
  Two laws that many texts want: cells set above a mark; where the first one lies. No Go text is named here.
-/
import Derived.Test.YtfhdknppldobiaaGreatDoorZSq
import Derived.Test.YtfhdknppldobiaaGreatDoorZSlotPure
import Derived.Test.YtfhdknppldobiaaGreatDoorZSlot1
import Derived.Deep.DeepCutAuto
import Derived.Deep.MidRow
import Derived.Test.YtfhdknppldobiaaGreatDoorZTxt1
import Derived.Test.YtfhdknppldobiaaGreatDoorZChkPure2
import Derived.Test.YtfhdknppldobiaaGreatDoorZRule1
import Derived.Test.YtfhdknppldobiaaGreatDoorZRun1
import Derived.Test.YtfhdknppldobiaaGreatDoorZRatMake4
import Derived.Test.YtfhdknppldobiaaGreatDoorZRule3
import Derived.Test.YtfhdknppldobiaaGreatDoorZClk
import Derived.Test.YtfhdknppldobiaaGreatDoorZTidPure
import Derived.Test.YtfhdknppldobiaaGreatDoorZSrt
import Derived.Deep.RegionHeld3
import Derived.BigRegion
import Derived.Deep.DrawnRows
import Derived.Test.YtfhdknppldobiaaGreatDoorZRst1
namespace Go.Proofs.YtfhdknppldobiaaGreatDoor
open Go Go.RowKit

theorem ixOf_split {α : Type} (p : α → Bool) : ∀ l : List α, (ixOf p l = -1 ∧ ∀ i (hi : i < l.length), p l[i] = false) ∨ (∃ k : Nat, ∃ hk : k < l.length, ixOf p l = k ∧ p l[k] = true ∧ ∀ i (hi : i < k), p (l[i]'(Nat.lt_trans hi hk)) = false)
  | [] => .inl ⟨rfl, by intro i hi; simp at hi⟩
  | a :: l => by
    cases hp : p a
    · rcases ixOf_split p l with ⟨h1, h2⟩ | ⟨k, hk, h1, h2, h3⟩
      · refine .inl ⟨ixOf_no p _ (fun i hi => ?_), fun i hi => ?_⟩
        all_goals
          cases i with
          | zero => exact hp
          | succ i => exact h2 i (by simpa using hi)
      · refine .inr ⟨k + 1, by simpa using hk, ?_, by simpa using h2, ?_⟩
        · refine ixOf_at p (a :: l) (k + 1) (by simpa using hk) (fun i hi => ?_) (by simpa using h2)
          cases i with
          | zero => exact hp
          | succ i => exact h3 i (by omega)
        · intro i hi
          cases i with
          | zero => exact hp
          | succ i => exact h3 i (by omega)
    · exact .inr ⟨0, by simp, ixOf_at p (a :: l) 0 (by simp) (by intro i hi; omega) hp, hp, by intro i hi; omega⟩
end Go.Proofs.YtfhdknppldobiaaGreatDoor
/-
  What slices.DeleteFunc of strings leaves, and the laws of a row of strings that it asks for. (Printed by gen_dels.py.)
-/
namespace Go.Proofs.YtfhdknppldobiaaGreatDoor
open Go Go.RowKit

def s1C (x : ByteArray) : List Value := [.string x]
theorem s1C_len : ∀ x, (s1C x).length = 1 := fun _ => rfl
theorem strsV_flat : ∀ (ys : List ByteArray), strsV ys = ys.flatMap s1C
  | [] => rfl
  | y :: ys => by
    rw [List.flatMap_cons, ← strsV_flat ys]
    rfl
def kptS (p : ByteArray → Bool) (ys : List ByteArray) : List ByteArray := ys.filter (fun x => !p x)
theorem kptS_step (p : ByteArray → Bool) (ys : List ByteArray) (j : Nat) (hj : j < ys.length) : kptS p (ys.take (j + 1)) = if p ys[j] = true then kptS p (ys.take j) else kptS p (ys.take j) ++ [ys[j]] := by
  unfold kptS
  rw [List.take_succ_eq_append_getElem hj, List.filter_append]
  cases h : p ys[j]
  · rw [if_neg (by decide), List.filter_cons, h]
    rfl
  · rw [if_pos rfl, List.filter_cons, h]
    simp
structure DlS (p : ByteArray → Bool) (ys : List ByteArray) (i j : Nat) (zs : List ByteArray) : Prop where
  len : zs.length = ys.length
  cnt : (kptS p (ys.take j)).length = i
  lo : ∀ t, t < i → zs[t]? = (kptS p (ys.take j))[t]?
  hi : ∀ t, j ≤ t → zs[t]? = ys[t]?
theorem DlS.skip {p : ByteArray → Bool} {ys zs : List ByteArray} {i j : Nat} (h : DlS p ys i j zs) (hj : j < ys.length) (hp : p ys[j] = true) : DlS p ys i (j + 1) zs := by
  have e : kptS p (ys.take (j + 1)) = kptS p (ys.take j) := by rw [kptS_step p ys j hj, if_pos hp]
  exact ⟨h.len, by rw [e]; exact h.cnt, by rw [e]; exact h.lo, fun t ht => h.hi t (by omega)⟩
theorem DlS.keep {p : ByteArray → Bool} {ys zs : List ByteArray} {i j : Nat} (h : DlS p ys i j zs) (hj : j < ys.length) (hp : p ys[j] = false) (hij : i < j) : DlS p ys (i + 1) (j + 1) (zs.set i ys[j]) := by
  have e : kptS p (ys.take (j + 1)) = kptS p (ys.take j) ++ [ys[j]] := by rw [kptS_step p ys j hj, if_neg (by rw [hp]; decide)]
  refine ⟨by rw [List.length_set]; exact h.len, by rw [e, List.length_append, h.cnt]; rfl, fun t ht => ?_, fun t ht => ?_⟩
  · rw [e]
    by_cases hti : t = i
    · subst hti
      rw [List.getElem?_set_self (by rw [h.len]; omega), List.getElem?_append_right (by rw [h.cnt]; exact Nat.le_refl _), h.cnt, Nat.sub_self]
      rfl
    · rw [List.getElem?_set_ne (by omega), List.getElem?_append_left (by rw [h.cnt]; omega)]
      exact h.lo t (by omega)
  · rw [List.getElem?_set_ne (by omega)]
    exact h.hi t (by omega)
theorem kptS_all {p : ByteArray → Bool} {ys : List ByteArray} : ∀ k, k ≤ ys.length → (∀ i (_ : i < k) (hi : i < ys.length), p ys[i] = false) → kptS p (ys.take k) = ys.take k
  | 0, _, _ => rfl
  | k + 1, hk, h => by
    rw [kptS_step p ys k hk, if_neg (by rw [h k (by omega) hk]; decide), kptS_all k (by omega) (fun i hi hi' => h i (by omega) hi'), ← List.take_succ_eq_append_getElem]
theorem s_store {w0 W : World} {L : List Rsc} {g n c i : Nat} {zs : List ByteArray} (y : ByteArray) (h : Sq w0 W (rOwn w0.heap.size 9 1 (.slice (some ⟨g, 0, none⟩) n c) n (zs.flatMap s1C) :: L)) (hn : zs.length = n) (hi : i < n) :
    Sq w0 (W.setCell ⟨g, i, none⟩ (.string y)) (rOwn w0.heap.size 9 1 (.slice (some ⟨g, 0, none⟩) n c) n ((zs.set i y).flatMap s1C) :: L) := by
  subst hn
  have h1 := h.field s1C 1 s1C_len i 0 hi (by omega) (.string y) y rfl
  rw [List.length_set, Nat.mul_one, Nat.add_zero] at h1
  exact h1
theorem run_clear_s (w : World) (b o n c : Nat) (hn : 0 < n) (hc : ∀ j, j < n → (w.cell? ⟨b, o + j, none⟩).isSome = true) (hf : ∀ j, j < n → w.frozen? ⟨b, o + j, none⟩ = false) :
    ∃ vs : List Value, (∀ ty, (Builtin.clear_ #[37] ty #[.slice (some ⟨b, o, none⟩) n c]).run Tryz.prog w = .ok (.tuple #[]) (w.setCells b o vs)) ∧ vs.length = n := by
  have hv : ∀ w, (zeroValue 9).run Tryz.prog w = .ok (.string ⟨#[]⟩) w := fun w => by kernel_rfl
  obtain ⟨vs, hvs⟩ : ∃ vs, (Builtin.zeroCells #[.string ⟨#[]⟩] n).toList = vs := ⟨_, rfl⟩
  have hlen : vs.length = n := by rw [← hvs]; simp [Builtin.zeroCells]
  have h1 : ∀ v ∈ vs, v.oneCell' = true := by
    intro v hv
    rw [← hvs] at hv
    simp [Builtin.zeroCells] at hv
    obtain ⟨i, _, rfl⟩ := hv
    rw [show i % 1 = 0 by omega]
    rfl
  have hst := run_storeCells_cells (P := Tryz.prog) b o vs 0 w (by simpa [hlen] using hc) (by simpa [hlen] using hf) h1
  simp only [Nat.add_zero] at hst
  refine ⟨vs, fun ty => ?_, hlen⟩
  obtain ⟨m, rfl⟩ : ∃ m, n = m + 1 := ⟨n - 1, by omega⟩
  simp [Builtin.clear_, run_underlying Tryz.underlying37, hv, Value.cells, hvs, hst, Result.andThen]
theorem grown_setCells (g : Nat) : ∀ (vs : List Value) (o : Nat) (W : World), W.grownBy (W.setCells g o vs) (some g)
  | [], o, W => ⟨rfl, rfl, rfl, Nat.le_refl _, fun _ _ _ => rfl⟩
  | v :: vs, o, W => by
    have h1 : W.grownBy (W.setCell ⟨g, o, none⟩ v) (some g) := ⟨rfl, rfl, rfl, by simp [World.setCell], fun k _ hk => Below.heap_setCell W ⟨g, o, none⟩ v k (fun e => hk (by rw [e]))⟩
    have h2 := grown_setCells g vs (o + 1) (W.setCell ⟨g, o, none⟩ v)
    exact ⟨h2.os.trans h1.os, h2.tape.trans h1.tape, h2.output.trans h1.output, Nat.le_trans h1.size h2.size, fun k hk hn => (h2.block k (Nat.lt_of_lt_of_le hk h1.size) hn).trans (h1.block k hk hn)⟩
/-- a row of one's own that is no longer asked for -/
def rGone (g : Nat) : Rsc := ⟨fun _ => True, fun k => k = g⟩
theorem Sq.clear_ {w0 W W' : World} {L : List Rsc} {e : TypeId} {g n c : Nat} {xs : List Value} (h : Sq w0 W (rOwn w0.heap.size e 1 (.slice (some ⟨g, 0, none⟩) n c) n xs :: L)) (hg : W.grownBy W' (some g)) : Sq w0 W' L := by
  have hlt := h.hp.new _ (List.mem_cons_self ..) g rfl
  exact (h.turn (row := some g) (r' := rGone g) hg (fun k hk => hk) trivial (fun _ _ _ _ => trivial) (fun k hk => by
    obtain rfl : k = g := hk
    exact ⟨.inl rfl, Nat.lt_of_lt_of_le hlt.2 hg.size⟩)).tail
/-- what DeleteFunc answers -/
def DelSq (w0 : World) (b : Nat) (ys : List ByteArray) (L : List Rsc) (e : Ending) (w' : World) : Prop :=
  ∃ A' m c', e = .returned (.slice A' m c') ∧ m = ys.length ∧ Rd w' b 1 (.slice A' m c') m (strsV ys) ∧ Sq w0 w' L
theorem DelSq.st {w0 w' : World} {b : Nat} {ys : List ByteArray} {L : List Rsc} {e : Ending} (h : DelSq w0 b ys L e w') : ∃ A' m c', e = .returned (.slice A' m c') ∧ m = ys.length ∧ Rd w' b 1 (.slice A' m c') m (strsV ys) ∧ Below w0.heap.size w0 w' := by
  obtain ⟨A', m, c', h1, h2, h3, h4⟩ := h
  exact ⟨A', m, c', h1, h2, h3, h4.below⟩
end Go.Proofs.YtfhdknppldobiaaGreatDoor
/-
  How numbers of rules are read: base.Number and the reference's Number as one function.
-/
namespace Go.Proofs.YtfhdknppldobiaaGreatDoor
open Go Go.RowKit TxtP

def numF (x : ByteArray) : Int × Bool := (if numB x.data.toList 9 = true then numI x.data.toList else 0, numB x.data.toList 9)
theorem numF_c : NumC numF := fun x W hx => number_calls x 9 (by decide) W (by unfold maxLen; omega)
theorem numF_body {x : ByteArray} (h : (numF x).2 = true) : body x.data.toList ≠ [] ∧ (body x.data.toList).length ≤ 9 ∧ (body x.data.toList).all isDig = true := by
  have h : numB x.data.toList 9 = true := h
  obtain ⟨a, b, c, _⟩ := numB_iff.1 h
  exact ⟨a, b, c⟩
theorem numF_ok : NumOk numF := by
  intro x h
  obtain ⟨a, b, c⟩ := numF_body h
  refine ⟨fun e => ?_, fun e => ?_, fun e => ?_⟩
  · rw [ba_nil e] at a; exact a rfl
  · rw [e] at c; exact absurd c (by decide)
  · rw [e] at c; exact absurd c (by decide)
theorem numF_z : NumZ numF := by
  intro x h
  obtain ⟨a, b, c⟩ := numF_body h
  have := (body_len x.data.toList).2
  have e : x.data.toList.length = x.size := by simp
  omega
end Go.Proofs.YtfhdknppldobiaaGreatDoor
/-
  The reference's free and FreeFault by contracts.
-/
namespace Go.Proofs.YtfhdknppldobiaaGreatDoor
open Go Go.RowKit TxtP
attribute [local go_sem ↓] Go.wp_at_zero Go.wp_at_succ

def mkS (x : BL) : ByteArray := ⟨x.toArray⟩
theorem svB_mk (ls : List BL) : svB ls = strsV (ls.map mkS) := by
  unfold svB strsV
  rw [List.map_map]
  rfl
/-- is it the atom that always holds? -/
def isT (s : ByteArray) : Bool := decide (s = sTrue)
/-- the atoms of rules that can hold or not -/
def frL (ls : List BL) : List ByteArray := kptS isT ((Lib.compact (srtL ls)).map mkS)
def atS1 (s : ByteArray) : List BL := atsQ (flat (parseT numF s).1)
def frS (ss : List ByteArray) : List ByteArray := frL (ss.flatMap atS1)
/-- the error of rules with too many atoms -/
def freE (ss : List ByteArray) : Int := if 12 < (frS ss).length then 12 else 0
end Go.Proofs.YtfhdknppldobiaaGreatDoor
