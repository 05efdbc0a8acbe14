/-
  What a reading of lines holds of a world: the closure's own resources, and others; the lines as base.Lines cuts them are those that a line feed ends.
-/
import Derived.Test.YtfhdknppldobiaaGreatDoorZClk
import Derived.Test.YtfhdknppldobiaaGreatDoorZSq
import Derived.Test.YtfhdknppldobiaaGreatDoorZFlat
import Derived.Test.YtfhdknppldobiaaGreatDoorZSlotPure
import Derived.Test.YtfhdknppldobiaaGreatDoorZSlotPure2
import Derived.Test.YtfhdknppldobiaaGreatDoorZSlot5
import Derived.Deep.DeepCutAuto
import Derived.Deep.RegionLaw
import Derived.Deep.RegionHeld3
import Derived.Deep.QuietTactic
import Derived.BigQuiet
import Derived.Test.YtfhdknppldobiaaGreatDoorZSlot2
import Derived.Test.YtfhdknppldobiaaGreatDoorZAppAny
import Derived.RegionTactic
import Derived.ChangeAlike
import Derived.BigRegion
import Derived.Test.YtfhdknppldobiaaGreatDoorZRun1
namespace Go.Proofs.YtfhdknppldobiaaGreatDoor
open Go Go.RowKit TxtP

section
variable {w0 W W' : World} {Q : List (List UInt8) → List Rsc → Prop} {done : List (List UInt8)} {L : List Rsc}
theorem Sq.perm {w W : World} {l l' : List Rsc} (h : Sq w W l) (hp : l.Perm l') : Sq w W l' := ⟨h.below, h.hp.perm hp⟩
end
end Go.Proofs.YtfhdknppldobiaaGreatDoor
/-
  Cuts in plain Lean: what is wrong with them, and how long each segment was. No Go text is named here.
-/
namespace Go.Proofs.YtfhdknppldobiaaGreatDoor
open Go Go.RowKit

abbrev Cut := Int × Int × Bool
/-- how long a segment was -/
def cutL (s : Int × Int) (c : Cut) : Cut := if c.2.2 = true then c else (c.1 - s.1, c.2.1 - s.2, false)
end Go.Proofs.YtfhdknppldobiaaGreatDoor
/-
  What a slot says, wherever its hosts lie; faults go by that alone. (Split out of XMov1 and XOclPure.)
-/
namespace Go.Proofs.YtfhdknppldobiaaGreatDoor
open Go Go.RowKit

theorem Sq.allNil {w W : World} {l : List Rsc} {α : Type} (h : Sq w W l) (f : α → Rsc) (hf : ∀ a, (f a).Ok) : Sq w W (rAll f [] :: l) :=
  ⟨h.below, h.hp.cons (by intro a ha; cases ha) (rAll_ok hf _) (fun g hg => by obtain ⟨a, ha, _⟩ := hg; cases ha) (fun s _ g hg => by obtain ⟨a, ha, _⟩ := hg; cases ha)⟩
end Go.Proofs.YtfhdknppldobiaaGreatDoor
/-
  Runs as texts: what a line's words say. No Go text is named here but types.
-/
namespace Go.Proofs.YtfhdknppldobiaaGreatDoor
open Go Go.RowKit TxtP

theorem info_prR : (Tryz.prog.info? 86).map (fun i => (i.zero, i.size, i.bytes)) = some (some (.agg #[.string ⟨#[]⟩, .string ⟨#[]⟩]), 2, 32) := by kernel_rfl
theorem one2r {x y : Value} (hx : x.oneCell' = true) (hy : y.oneCell' = true) : ∀ v ∈ [x, y], v.oneCell' = true := by
  intro v hv
  simp only [List.mem_cons, List.not_mem_nil, or_false] at hv
  rcases hv with rfl | rfl <;> assumption
/-- the fields of a run, in memory of the call's own -/
def fldR (base : Nat) (x : Rn) : Rsc := rOwn base 86 2 (.slice x.fa x.fs.length x.fc) x.fs.length (x.fs.flatMap prC)
/-- a run within its bounds -/
structure RnZ (x : Rn) : Prop where
  hi : x.id.size ≤ 1000
  hw : x.who.size ≤ 1000
  hf : ∀ p ∈ x.fs, p.1.size ≤ 1000 ∧ p.2.size ≤ 1000
  hn : x.fs.length ≤ 4
  ht : -2199023255552 ≤ x.time ∧ x.time ≤ 2199023255552
  hd : -2199023255552 ≤ x.date ∧ x.date ≤ 2199023255552
end Go.Proofs.YtfhdknppldobiaaGreatDoor
/-
  rule.field by its contract.
-/
namespace Go.Proofs.YtfhdknppldobiaaGreatDoor
open Go Go.RowKit
attribute [local go_sem ↓] Go.wp_at_zero Go.wp_at_succ

theorem fieldV_drop {f : ByteArray} : ∀ (ps : List Pr) (k : Nat), k ≤ ps.length → (∀ j (hj : j < ps.length), j < k → ps[j].1 ≠ f) → fieldV f ps = fieldV f (ps.drop k) ∧ fieldH f ps = fieldH f (ps.drop k)
  | _, 0, _, _ => ⟨rfl, rfl⟩
  | [], k + 1, h, _ => by simp at h
  | p :: ps, k + 1, h, hn => by
    have h0 : p.1 ≠ f := hn 0 (by simp) (by omega)
    have ih := fieldV_drop ps k (by simp at h; omega) (fun j hj hjk => by have := hn (j + 1) (by simp; omega) (by omega); simpa using this)
    rw [fieldV, fieldH, if_neg h0, if_neg h0, List.drop_succ_cons]
    exact ih
set_option maxRecDepth 100000 in
theorem field_calls (b g o : Nat) (fa : Option Addr) (m fc : Nat) (fs : List Pr) (f : ByteArray) (w : World) (c4 : w.cell? ⟨g, o + 4, none⟩ = some (.slice fa m fc)) (hr : Rd w b 2 (.slice fa m fc) m (fs.flatMap prC)) :
    Calls Tryz.prog 114 #[.pointer (some ⟨g, o, none⟩), .string f] w (BRet (.tuple #[.string (fieldV f fs), .bool (fieldH f fs)]) w) := by
  obtain ⟨hl, hmc, hmm, hcells⟩ := hr.cells prC_len (by omega)
  unfold maxLen at hmm
  have HL := Lib.hid hl
  have HC := Lib.hid hcells
  clear hcells hl hr
  go_enter Tryz.func114, Tryz.ntmps114
  go_wp2_with fail
  go_loopw [13] (fun i wr => ∃ k : Nat, k ≤ m ∧ i = .int .i64 k ∧ Hid (∀ j (hj : j < fs.length), j < k → fs[j].1 ≠ f) ∧ Below w.heap.size w wr) (fun i _ => m - (intOf i).toNat)
  case atStart => exact ⟨0, Nat.zero_le _, rfl, Lib.hid (fun j hj h => by omega), Below.refl _ _⟩
  case round =>
    obtain ⟨k, hk, rfl, HN, hb⟩ := hrel
    have HD := Lib.hid (fieldV_drop fs k (by rw [HL.out]; exact hk) HN.out)
    by_cases hlt : k < m
    · have hkr : k < fs.length := by rw [HL.out]; exact hlt
      obtain ⟨q, o2, hA, _, hcs⟩ := HC.out (by omega)
      subst hA
      have d0 := below_cell hb (hcs k hkr 0 (by omega))
      have d1 := below_cell hb (hcs k hkr 1 (by omega))
      have HN2 : Hid (fs[k].1 ≠ f → ∀ j (hj : j < fs.length), j < k + 1 → fs[j].1 ≠ f) := Lib.hid (fun h j hj hjk => by
        by_cases he : j = k
        · subst he; exact h
        · exact HN.out j hj (by omega))
      have HV : Hid (fs[k].1 = f → fieldV f fs = fs[k].2 ∧ fieldH f fs = true) := Lib.hid (fun h => by
        rw [HD.out.1, HD.out.2, List.drop_eq_getElem_cons hkr, fieldV, fieldH, if_pos h, if_pos h]
        exact ⟨rfl, rfl⟩)
      obtain ⟨p, hp⟩ : ∃ p, p = fs[k] := ⟨_, rfl⟩
      rw [← hp] at d0 d1 HN2 HV
      obtain ⟨nm, vl⟩ := p
      replace d0 : wr.cell? ⟨q, o2 + k * 2, none⟩ = some (.string nm) := d0
      replace d1 : wr.cell? ⟨q, o2 + k * 2 + 1, none⟩ = some (.string vl) := d1
      have hbz := hb.alloc hb.size (.cells #[.string nm, .string vl] 86)
      have hk0 : (0 : Int) ≤ (k : Int) := by omega
      have hk1 : (k : Int) < (m : Int) := by omega
      clear hp hcs HN HD
      by_cases he : nm = f
      · subst he
        obtain ⟨e1, e2⟩ := HV.out rfl
        have heq : (nm.toList == nm.toList) = true := by simp
        clear HN2
        go_wp2_with fail
        go_ret2
        exact ⟨by first | rfl | (rw [e1, e2]; rfl), hbz⟩
      · have HN3 := Lib.hid (HN2.out he)
        have heq : (nm.toList == f.toList) = false := by
          rw [beq_eq_false_iff_ne]
          intro h
          exact he (by rw [Lib.toList_data, Lib.toList_data] at h; exact ba_inj h)
        clear HV
        go_wp2_with fail
        go_roundw
        case rel => exact ⟨k + 1, by omega, by go_num, HN3, hbz⟩
        case measure => simp [intOf]; omega
    · obtain rfl : k = m := by omega
      have e9 : fs.drop k = [] := List.drop_of_length_le (by rw [HL.out]; exact Nat.le_refl _)
      have HE := Lib.hid HD.out
      rw [e9] at HE
      clear e9 HD
      go_wp2_with fail
      go_ret2
      exact ⟨by first | (rw [HE.out.1, HE.out.2]; rfl) | rfl, hb⟩
end Go.Proofs.YtfhdknppldobiaaGreatDoor
