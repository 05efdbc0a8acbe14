/-
  The reference's parser of rules: its tree in memory; next, take, not by contracts. (Printed by gen_rst.py.)
-/
import Derived.Test.YtfhdknppldobiaaGreatDoorZChkPure2
import Derived.Test.YtfhdknppldobiaaGreatDoorZRule1
import Derived.Test.YtfhdknppldobiaaGreatDoorZRun1
import Derived.Test.YtfhdknppldobiaaGreatDoorZSlot2
import Derived.Test.YtfhdknppldobiaaGreatDoorZSq
import Derived.Test.YtfhdknppldobiaaGreatDoorZRule3
import Derived.Test.YtfhdknppldobiaaGreatDoorZRstP
import Derived.Test.YtfhdknppldobiaaGreatDoorZAppAny
import Derived.Deep.DeepCutAuto
import Derived.Test.YtfhdknppldobiaaGreatDoorZClk
import Derived.Test.YtfhdknppldobiaaGreatDoorZOwnSet
import Derived.Deep.CutBlock
import Derived.Test.YtfhdknppldobiaaGreatDoorZSjoin
import Derived.Test.YtfhdknppldobiaaGreatDoorZSlotPure2
import Derived.Test.YtfhdknppldobiaaGreatDoorZNumF
import Derived.Test.YtfhdknppldobiaaGreatDoorZHld1
import Derived.Test.YtfhdknppldobiaaGreatDoorZHld3
import Derived.Test.YtfhdknppldobiaaGreatDoorZSlotPure
import Derived.Deep.RegionHeld3
namespace Go.Proofs.YtfhdknppldobiaaGreatDoor
open Go Go.RowKit
attribute [local go_sem ↓] Go.wp_at_zero Go.wp_at_succ

def Nq.atom : Nq → ByteArray | .node _ a _ => a
abbrev Qn := (Option Addr × Nat) × Nq
def qnC (p : Qn) : List Value := [.string p.2.op, .string p.2.atom, .slice p.1.1 p.2.kids.length p.1.2]
/-- the reference's node, its kids in blocks of which P speaks -/
inductive NqV (w : World) (P : Nat → Prop) : Option Addr × Nat → Nq → Prop
  | mk (A : Option Addr) (c : Nat) (op atom : ByteArray) (ps : List Qn) (h1 : w.ownsRow 0 139 3 (.slice A ps.length c) ps.length (ps.flatMap qnC)) (h2 : ∀ k, (Value.slice A ps.length c).ownBlock = some k → P k)
      (h3 : ∀ p ∈ ps, NqV w P p.1 p.2) : NqV w P (A, c) (.node op atom (ps.map (·.2)))
theorem own_heapQ {w w' : World} {base : Nat} {e : TypeId} {size n : Nat} {v : Value} {xs : List Value} (h : w.ownsRow base e size v n xs) (hk : ∀ g, v.ownBlock = some g → w'.heap[g]? = w.heap[g]?) : w'.ownsRow base e size v n xs := by
  refine ⟨h.1, ?_⟩
  rcases h.2 with hn | ⟨g, cap, cur, rfl, hb, hgg, rest⟩
  · exact .inl hn
  · exact .inr ⟨g, cap, cur, rfl, hb, (hk g rfl).trans hgg, rest⟩
theorem NqV.keep {w w' : World} {P : Nat → Prop} {a : Option Addr × Nat} {t : Nq} (h : NqV w P a t) (hk : ∀ k, P k → w'.heap[k]? = w.heap[k]?) : NqV w' P a t := by
  induction h with
  | mk A c op atom ps h1 h2 h3 ih => exact .mk A c op atom ps (own_heapQ h1 (fun g e => hk g (h2 g e))) h2 ih
theorem NqV.wide {w : World} {P P' : Nat → Prop} {a : Option Addr × Nat} {t : Nq} (h : NqV w P a t) (hk : ∀ k, P k → P' k) : NqV w P' a t := by
  induction h with
  | mk A c op atom ps h1 h2 h3 ih => exact .mk A c op atom ps h1 (fun k e => hk k (h2 k e)) ih
def rQ (P : Nat → Prop) (ps : List Qn) : Rsc := ⟨fun W => ∀ p ∈ ps, NqV W P p.1 p.2, P⟩
theorem rQ_ok (P : Nat → Prop) (ps : List Qn) : (rQ P ps).Ok := fun _ _ h hp p hm => (hp p hm).keep h
section
variable {w W W' : World} {b : Nat} {l : List Rsc} {r r' : Rsc}
end
theorem Px.nq {w W W' : World} {b : Nat} {l : List Rsc} (h : Px w b W l) (k : Bx W.heap.size b W W') {A : Option Addr} {c : Nat} {P : Nat → Prop} {t : Nq} (hn : NqV W' P (A, c) t) (hP : ∀ k, P k → W.heap.size ≤ k ∧ k < W'.heap.size) : Px w b W' (rQ P [((A, c), t)] :: l) :=
  h.new_ k (by intro p hp; simp at hp; subst hp; exact hn) (rQ_ok _ _) hP

end Go.Proofs.YtfhdknppldobiaaGreatDoor
/-
  Whether the reference's tree holds: (node).truth by contract.
-/
namespace Go.Proofs.YtfhdknppldobiaaGreatDoor
open Go Go.RowKit
attribute [local go_sem ↓] Go.wp_at_zero Go.wp_at_succ

theorem NqV.row {w : World} {P : Nat → Prop} {A : Option Addr} {c : Nat} {op atom : ByteArray} {ks : List Nq} (h : NqV w P (A, c) (.node op atom ks)) :
    ∃ ps : List Qn, ks = ps.map (·.2) ∧ w.ownsRow 0 139 3 (.slice A ps.length c) ps.length (ps.flatMap qnC) ∧ ∀ p ∈ ps, NqV w P p.1 p.2 := by
  cases h with
  | mk A c op atom ps h1 h2 h3 => exact ⟨ps, rfl, h1, h3⟩
end Go.Proofs.YtfhdknppldobiaaGreatDoor
/-
  The words of an atom's text, in plain words. No Go text is named here.
-/
namespace Go.Proofs.YtfhdknppldobiaaGreatDoor
open Go Go.RowKit TxtP

theorem pcs_of {c : UInt8} {s : ByteArray} {l : List ByteArray} (h : spl c s.data.toList = l.map (·.data.toList)) : pcs c s = l := by
  have h2 := pcs_data c s
  rw [h] at h2
  exact (List.map_inj_right (fun a b h => ba_inj h)).1 h2
theorem data_app (a b : ByteArray) : (a ++ b).data.toList = a.data.toList ++ b.data.toList := by
  rw [ByteArray.data_append, Array.toList_append]
theorem pcs_has {x : ByteArray} (h : (32 : UInt8) ∉ x.data.toList) : pcs 32 (hasQ x) = [sHas, x] := by
  refine pcs_of ?_
  have e : (hasQ x).data.toList = [104, 97, 115] ++ 32 :: x.data.toList := by unfold hasQ; rw [data_app]; rfl
  rw [e, spl_app _ (by decide), spl_no h]
  rfl
theorem pcs_tri {a b c : ByteArray} (ha : (32 : UInt8) ∉ a.data.toList) (hb : (32 : UInt8) ∉ b.data.toList) (hc : (32 : UInt8) ∉ c.data.toList) : pcs 32 (triQ a b c) = [a, b, c] := by
  refine pcs_of ?_
  have e : (triQ a b c).data.toList = a.data.toList ++ 32 :: (b.data.toList ++ 32 :: c.data.toList) := by
    unfold triQ
    rw [data_app, data_app, data_app, data_app]
    show ((a.data.toList ++ [32]) ++ b.data.toList ++ [32]) ++ c.data.toList = _
    simp
  rw [e, spl_app _ ha, spl_app _ hb, spl_no hc]
  rfl
theorem word_noBl {l : List UInt8} (h : l.all wordB = true) : (32 : UInt8) ∉ l := fun hm => by
  have := List.all_eq_true.1 h 32 hm
  exact absurd this (by decide)
theorem value_noBl {x : ByteArray} (h : valueB x = true) : (32 : UInt8) ∉ x.data.toList := by
  unfold valueB at h
  rw [Bool.and_eq_true] at h
  exact word_noBl h.2
theorem name_noBl {x : ByteArray} (h : nameB x = true) : (32 : UInt8) ∉ x.data.toList := by
  unfold nameB at h
  rw [Bool.and_eq_true] at h
  have h1 := h.1
  unfold keyB at h1
  rw [Bool.and_eq_true] at h1
  intro hm
  have := List.all_eq_true.1 h1.2 32 hm
  exact absurd this (by decide)
theorem name_ne {x : ByteArray} (h : nameB x = true) : x ≠ sTime ∧ x ≠ sHas ∧ x ≠ sTrue := by
  unfold nameB at h
  rw [Bool.and_eq_true] at h
  have h2 := h.2
  refine ⟨fun e => ?_, fun e => ?_, fun e => ?_⟩ <;> (subst e; simp at h2)
theorem fieldH_any (f : ByteArray) : ∀ ps : List Pr, fieldH f ps = ps.any fun p => decide (p.1 = f)
  | [] => rfl
  | p :: ps => by
    rw [fieldH, List.any_cons, fieldH_any f ps]
    by_cases h : p.1 = f
    · rw [if_pos h]; simp [h]
    · rw [if_neg h]; simp [h]
/-- in a right run each name comes once -/
theorem field_mem (f v : ByteArray) : ∀ (ps : List Pr) (last : ByteArray), fldG last ps = 0 → ((fieldH f ps && decide (fieldV f ps = v)) = true ↔ (f, v) ∈ ps)
  | [], _, _ => by simp [fieldH]
  | p :: ps, last, h => by
    have hg := fldG_gt (p :: ps) last h
    rw [fldG] at h
    split at h
    · cases h
    · split at h
      · cases h
      · split at h
        · cases h
        · have ih := field_mem f v ps p.1 h
          have hn : ∀ q ∈ ps, q.1 ≠ p.1 := fun q hq e => by
            have h1 := fldG_gt ps p.1 h q hq
            rw [e] at h1
            unfold gtS at h1
            rw [leS_self] at h1
            cases h1
          rw [fieldH, fieldV]
          by_cases he : p.1 = f
          · rw [if_pos he, if_pos he, Bool.true_and, decide_eq_true_eq]
            constructor
            · intro hv
              rw [← he, ← hv]
              exact List.mem_cons_self ..
            · intro hm
              rcases List.mem_cons.1 hm with hm | hm
              · rw [← hm]
              · exact absurd he.symm (hn _ hm)
          · rw [if_neg he, if_neg he, ih]
            constructor
            · exact fun hm => List.mem_cons_of_mem _ hm
            · intro hm
              rcases List.mem_cons.1 hm with hm | hm
              · exact absurd (by rw [← hm]) he
              · exact hm
end Go.Proofs.YtfhdknppldobiaaGreatDoor
/-
  What splitref2.holds answers of an atom's text, in plain words, and that it is what the program answers of the atom. No Go text is named here.
-/
namespace Go.Proofs.YtfhdknppldobiaaGreatDoor
open Go Go.RowKit TxtP

def isH (tm : Int) (fs : List Pr) (l : ByteArray) : Bool :=
  if l = sTrue then true else
  match pcs 32 l with
  | [_, b] => fs.any (fun y => decide (y.1 = b))
  | [a, b, c] => if a = sTime then (if b = sLt then decide (tm ≠ 0) && decide (tm < numI c.data.toList) else decide (numI c.data.toList < tm)) else fs.any (fun y => decide (y.1 = a) && decide (y.2 = c))
  | _ => false
theorem numF_noBl {x : ByteArray} (h : (numF x).2 = true) : (32 : UInt8) ∉ x.data.toList := by
  obtain ⟨_, _, c⟩ := numF_body h
  intro hm
  cases hl : x.data.toList with
  | nil => rw [hl] at hm; cases hm
  | cons b r =>
    rw [hl] at hm c
    have e : body (b :: r) = if b = 45 then r else b :: r := rfl
    rw [e] at c
    by_cases hb : b = 45
    · rw [if_pos hb] at c
      rcases List.mem_cons.1 hm with e | e
      · subst e; exact absurd hb (by decide)
      · exact absurd (List.all_eq_true.1 c 32 e) (by decide)
    · rw [if_neg hb] at c
      exact absurd (List.all_eq_true.1 c 32 hm) (by decide)
theorem num_val {x : ByteArray} (h : (numF x).2 = true) : (numF x).1 = numI x.data.toList := by
  have h : numB x.data.toList 9 = true := h
  show (if numB x.data.toList 9 = true then numI x.data.toList else 0) = _
  rw [if_pos h]
theorem has_ne (x : ByteArray) : hasQ x ≠ sTrue := fun e => by
  have e := congrArg (fun z : ByteArray => z.data.toList.head?) e
  unfold hasQ at e
  simp only [data_app] at e
  exact absurd (show some (104 : UInt8) = some 116 from e) (by decide)
theorem tri_ne (a b c : ByteArray) : triQ a b c ≠ sTrue := fun e => by
  have h : (32 : UInt8) ∈ (triQ a b c).data.toList := by
    unfold triQ
    rw [data_app, data_app, data_app, data_app]
    have : (32 : UInt8) ∈ sBl.data.toList := by decide
    simp [this]
  rw [e] at h
  exact absurd h (by decide)
/-- the answer at each kind of atom -/
theorem isH_true (tm : Int) (fs : List Pr) : isH tm fs sTrue = true := by unfold isH; rw [if_pos rfl]
theorem isH_has (tm : Int) (fs : List Pr) {x : ByteArray} (h : (32 : UInt8) ∉ x.data.toList) : isH tm fs (hasQ x) = fs.any (fun y => decide (y.1 = x)) := by
  unfold isH
  rw [if_neg (has_ne x), pcs_has h]
theorem isH_eq (tm : Int) (fs : List Pr) {a c : ByteArray} (ha : (32 : UInt8) ∉ a.data.toList) (hc : (32 : UInt8) ∉ c.data.toList) (hn : a ≠ sTime) : isH tm fs (triQ a sEq c) = fs.any (fun y => decide (y.1 = a) && decide (y.2 = c)) := by
  unfold isH
  rw [if_neg (tri_ne _ _ _), pcs_tri ha (by decide) hc]
  show (if a = sTime then _ else _) = _
  rw [if_neg hn]
theorem isH_time (tm : Int) (fs : List Pr) {b c : ByteArray} (hb : (32 : UInt8) ∉ b.data.toList) (hc : (32 : UInt8) ∉ c.data.toList) : isH tm fs (triQ sTime b c) = if b = sLt then decide (tm ≠ 0) && decide (tm < numI c.data.toList) else decide (numI c.data.toList < tm) := by
  unfold isH
  rw [if_neg (tri_ne _ _ _), pcs_tri (by decide) hb hc]
  show (if sTime = sTime then _ else _) = _
  rw [if_pos rfl]
theorem isH_atP {tm : Int} {fs : List Pr} {a : Atm} (h : AtmOk numF a) (hf : fldG ⟨#[]⟩ fs = 0) : isH tm fs (txtA a) = atP tm fs a := by
  obtain ⟨wd, nm, vl, n⟩ := a
  unfold txtA atP
  rcases h with ⟨h, _⟩ | ⟨h, h1, _⟩ | ⟨h, h1, h2⟩ | ⟨h, _, h1, h2, _⟩ <;> simp only at *
  · rw [if_pos h, if_pos h, isH_true]
  · subst h
    rw [if_neg (by decide), if_pos rfl, if_neg (by decide), if_pos rfl, isH_has _ _ (name_noBl h1), fieldH_any]
  · subst h
    rw [if_neg (by decide), if_neg (by decide), if_pos rfl, if_neg (by decide), if_neg (by decide), if_pos rfl, isH_eq _ _ (name_noBl h1) (value_noBl h2) (name_ne h1).1]
    have := field_mem nm vl fs ⟨#[]⟩ hf
    have hmem : (fs.any (fun y => decide (y.1 = nm) && decide (y.2 = vl)) = true) ↔ (nm, vl) ∈ fs := by
      rw [List.any_eq_true]
      constructor
      · rintro ⟨y, hy, h⟩
        rw [Bool.and_eq_true, decide_eq_true_eq, decide_eq_true_eq] at h
        rw [← h.1, ← h.2]
        exact hy
      · exact fun h => ⟨_, h, by simp⟩
    rw [← hmem] at this
    cases hb : (fieldH nm fs && decide (fieldV nm fs = vl)) <;> cases hc : fs.any (fun y => decide (y.1 = nm) && decide (y.2 = vl)) <;> simp_all
  · rw [num_val h1] at h2
    rcases h with rfl | rfl
    · rw [if_neg (by decide), if_neg (by decide), if_neg (by decide), if_neg (by decide), if_neg (by decide), if_neg (by decide), if_pos rfl, isH_time _ _ (by decide) (numF_noBl h1), if_pos rfl, h2]
    · rw [if_neg (by decide), if_neg (by decide), if_neg (by decide), if_neg (by decide), if_neg (by decide), if_neg (by decide), if_neg (by decide), isH_time _ _ (by decide) (numF_noBl h1), if_neg (by decide), h2]
theorem runF_fld0 {x : Rn} (h : runF x = 0) : fldG ⟨#[]⟩ x.fs = 0 := by
  unfold runF at h
  split at h
  · split at h
    · cases h
    · split at h
      · cases h
      · exact h
  · cases h
end Go.Proofs.YtfhdknppldobiaaGreatDoor
/-
  The program's and the reference's answers are one, given that they agree on atoms. No walk here.
-/
namespace Go.Proofs.YtfhdknppldobiaaGreatDoor
open Go Go.RowKit

theorem hld_both {num : ByteArray → Int × Bool} (hnum : NumOk num) (hz : NumZ num) {s : ByteArray} {x : Rn} (isQ : ByteArray → Bool) (h0 : rulE num s x = 0) (hp : (parseE num s).2 = 0) (ha : ∀ a ∈ atsF (parseT num s).1, isQ (txtA a) = atP x.time x.fs a) :
    hldV num s x = truQ isQ (flat (parseT num s).1) := by
  unfold hldV
  rw [if_pos h0, tru_flat hz (atP x.time x.fs) isQ ((check_parse num hnum s).2 hp).1 ha]
end Go.Proofs.YtfhdknppldobiaaGreatDoor
/-
  What HoldsFor and WhyOf answer of right arguments: what Holds and Why do; ruleFault by a contract.
-/
namespace Go.Proofs.YtfhdknppldobiaaGreatDoor
open Go Go.RowKit TxtP
attribute [local go_sem ↓] Go.wp_at_zero Go.wp_at_succ

theorem svB_strs (ls : List BL) : svB ls = (ls.map fun x => (⟨x.toArray⟩ : ByteArray)).map Value.string := by
  unfold svB
  rw [List.map_map]
  rfl
theorem rulE_zero {num : ByteArray → Int × Bool} {s : ByteArray} {x : Rn} (h : rulE num s x = 0) : (parseE num s).2 = 0 ∧ runF x = 0 := by
  unfold rulE at h
  split at h
  · rename_i h1; exact ⟨h1, h⟩
  · rename_i h1; exact absurd h h1
theorem hdq_atoms {s : ByteArray} {x : Rn} (h : rulE numF s x = 0) : ∀ a ∈ atsF (parseT numF s).1, isH x.time x.fs (txtA a) = atP x.time x.fs a := by
  obtain ⟨h1, h2⟩ := rulE_zero h
  have hok := ((check_parse numF numF_ok s).2 h1).1
  exact fun a ha => isH_atP (ats_ok hok a ha) (runF_fld0 h2)
end Go.Proofs.YtfhdknppldobiaaGreatDoor
