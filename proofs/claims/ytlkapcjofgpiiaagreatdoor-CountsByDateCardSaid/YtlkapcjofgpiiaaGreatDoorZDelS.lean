/-
  What slices.DeleteFunc of strings leaves, and the laws of a row of strings that it asks for. (Printed by gen_dels.py.)
-/
import Derived.Test.YtlkapcjofgpiiaaGreatDoorZSlot1
import Derived.Test.YtlkapcjofgpiiaaGreatDoorZSq
import Derived.Test.YtlkapcjofgpiiaaGreatDoorZSlotPure
import Derived.Deep.DeepCutAuto
import Derived.Deep.MidRow
import Derived.Test.YtlkapcjofgpiiaaGreatDoorZHld3
import Derived.Test.YtlkapcjofgpiiaaGreatDoorZVer2
namespace Go.Proofs.YtlkapcjofgpiiaaGreatDoor
open Go Go.RowKit

def kptS (p : ByteArray → Bool) (ys : List ByteArray) : List ByteArray := ys.filter (fun x => !p x)
end Go.Proofs.YtlkapcjofgpiiaaGreatDoor
/-
  The categories of versions, each once, of which those stay that a run counts for: the program's answer and the reference's are one. No Go text is walked here.
-/
namespace Go.Proofs.YtlkapcjofgpiiaaGreatDoor
open Go Go.RowKit TxtP

def mkB (l : List UInt8) : ByteArray := ⟨l.toArray⟩
theorem mkB_toList (c : ByteArray) : mkB c.toList = c := by
  rw [Lib.toList_data]
  cases c
  simp [mkB]
/-- all categories of versions, each once (the reference's) -/
def catA (vs : List Vr) : List (List UInt8) := Lib.compact (vs.map fun v => v.c.toList)
def catL (vs : List Vr) : List ByteArray := (catA vs).map mkB
theorem cat_upto (vs : List Vr) (x : Rn) : ∀ m, m ≤ vs.length →
    cntL vs x = (((Lib.compactUpTo (vs.map fun v => v.c.toList).toArray m).map mkB).filter fun c => cntV vs c x) ++ cntG vs x (lastV vs m) (vs.drop m)
  | 0, _ => by simp [Lib.compactUpTo, cntL, lastV]
  | m + 1, hm => by
    rw [cat_upto vs x m (by omega), cntG_step vs x vs m hm, Lib.compactUpTo_succ, List.map_append, List.filter_append, List.append_assoc]
    congr 1
    congr 1
    have g0 : (vs.map fun v => v.c.toList).toArray[m]! = vs[m].c.toList := by
      rw [getElem!_pos _ _ (by simp; omega)]
      simp
    have hk : Lib.keeps (vs.map fun v => v.c.toList).toArray m = fstO (lastV vs m) vs[m] := by
      unfold Lib.keeps
      cases m with
      | zero => simp [lastV, fstO]
      | succ j =>
        have hj : j < vs.length := by omega
        have g1 : (vs.map fun v => v.c.toList).toArray[j]! = vs[j].c.toList := by
          rw [getElem!_pos _ _ (by simp; omega)]
          simp
        rw [g0, Nat.add_sub_cancel, g1]
        simp [lastV, hj, fstO]
        by_cases h : vs[j].c.toList = vs[j + 1].c.toList
        · simp [h]
        · have h2 : ¬ vs[j + 1].c.toList = vs[j].c.toList := fun e => h e.symm
          simp [h, h2]
    rw [hk, g0]
    cases h1 : fstO (lastV vs m) vs[m]
    · simp
    · cases h2 : cntV vs vs[m].c x <;> simp [mkB_toList, h2]
/-- what Counts answers is what CountsFor answers -/
theorem cnt_cat (vs : List Vr) (x : Rn) : cntL vs x = kptS (fun c => !cntV vs c x) (catL vs) := by
  rw [cat_upto vs x vs.length (Nat.le_refl _), List.drop_length]
  unfold kptS catL catA Lib.compact
  rw [List.length_map]
  simp [cntG]
theorem catA_upto (vs : List Vr) : ∀ m, m ≤ vs.length → ∀ l, l ∈ Lib.compactUpTo (vs.map fun v => v.c.toList).toArray m ↔ ∃ v ∈ vs.take m, v.c.toList = l
  | 0, _ => by simp [Lib.compactUpTo]
  | m + 1, hm => fun l => by
    have ih := catA_upto vs m (by omega) l
    have g0 : (vs.map fun v => v.c.toList).toArray[m]! = vs[m].c.toList := by
      rw [getElem!_pos _ _ (by simp; omega)]
      simp
    rw [Lib.compactUpTo_succ, List.mem_append, ih, List.take_succ_eq_append_getElem hm]
    by_cases hk : Lib.keeps (vs.map fun v => v.c.toList).toArray m = true
    · rw [if_pos hk, g0]
      simp only [List.mem_append, List.mem_singleton]
      constructor
      · rintro (⟨v, hv, h⟩ | h)
        · exact ⟨v, .inl hv, h⟩
        · exact ⟨vs[m], .inr rfl, h.symm⟩
      · rintro ⟨v, hv | rfl, h⟩
        · exact .inl ⟨v, hv, h⟩
        · exact .inr h.symm
    · rw [if_neg hk]
      simp only [List.mem_append, List.mem_singleton, List.not_mem_nil, or_false]
      constructor
      · rintro ⟨v, hv, h⟩
        exact ⟨v, .inl hv, h⟩
      · rintro ⟨v, hv | rfl, h⟩
        · exact ⟨v, hv, h⟩
        · unfold Lib.keeps at hk
          rw [decide_eq_true_eq] at hk
          cases m with
          | zero => exact absurd (.inl rfl) hk
          | succ j =>
            have hj : j < vs.length := by omega
            have g1 : (vs.map fun v => v.c.toList).toArray[j]! = vs[j].c.toList := by
              rw [getElem!_pos _ _ (by simp; omega)]
              simp
            rw [g0, Nat.add_sub_cancel, g1] at hk
            have he : vs[j + 1].c.toList = vs[j].c.toList := Decidable.byContradiction fun h => hk (.inr h)
            refine ⟨vs[j], ?_, by rw [← he, h]⟩
            rw [List.take_succ_eq_append_getElem hj]
            exact List.mem_append.2 (.inr (List.mem_singleton.2 rfl))
theorem catL_mem (vs : List Vr) (c : ByteArray) : c ∈ catL vs ↔ ∃ v ∈ vs, v.c = c := by
  unfold catL catA Lib.compact
  rw [List.length_map, List.mem_map]
  constructor
  · rintro ⟨l, hl, rfl⟩
    obtain ⟨v, hv, rfl⟩ := (catA_upto vs vs.length (Nat.le_refl _) l).1 hl
    rw [List.take_length] at hv
    exact ⟨v, hv, (mkB_toList _).symm⟩
  · rintro ⟨v, hv, rfl⟩
    exact ⟨v.c.toList, (catA_upto vs vs.length (Nat.le_refl _) _).2 ⟨v, by rw [List.take_length]; exact hv, rfl⟩, mkB_toList _⟩
def endT : Int := 345686400000
/-- what is lost: runs that count, but not by the last rule -/
def lostL (vs : List Vr) (xs : List Rn) (c : ByteArray) : List ByteArray :=
  xs.flatMap fun x => if (cntV vs c x && !(!isE (rulAt vs c endT) && hldV numF (rulAt vs c endT) x)) = true then [x.id] else []
/-- is there a version of this category? -/
def hasC (vs : List Vr) (c : ByteArray) : Bool := vs.any fun v => v.c.toList == c.toList
def lostE (vs : List Vr) (xs : List Rn) (c : ByteArray) : Int :=
  if versF vs = 0 then if keyB c.data.toList = true then if runsF xs = 0 then if hasC vs c = true then 0 else 8 else runsF xs else 5 else versF vs
end Go.Proofs.YtlkapcjofgpiiaaGreatDoor
/-
  slices.ContainsFunc of versions at rule.Lost's closure, by a contract. (Printed by gen_ver5.py.)
-/
namespace Go.Proofs.YtlkapcjofgpiiaaGreatDoor
open Go Go.RowKit

set_option maxRecDepth 100000 in
theorem hasL1_calls (gb : Nat) (cat : ByteArray) (v : Vr) (w : World) (hg : Blk w gb 9 #[.string cat]) :
    Calls Tryz.prog 56 #[.agg #[.string v.c, .int .i64 v.f, .string v.r], .pointer (some ⟨gb, 0, none⟩)] w (BRet (.bool (v.c.toList == cat.toList)) w) := by
  have hb : Below w.heap.size w (w.alloc (.cells #[.string v.c, .int .i64 v.f, .string v.r] 59)) := (Below.refl _ _).alloc (Nat.le_refl _) _
  have g0 := hg.cell 0
  have gl := hg.lt
  clear hg
  go_enter Tryz.func56, Tryz.ntmps56
  go_wp2_with fail
  go_ret
  exact ⟨rfl, hb⟩
set_option maxRecDepth 100000 in
theorem hasL_calls (b gb : Nat) (cat : ByteArray) (A2 : Option Addr) (m c2 : Nat) (hs : List Vr) (w : World) (hg : Blk w gb 9 #[.string cat]) (hr2 : Rd w b 3 (.slice A2 m c2) m (hs.flatMap vrC)) :
    Calls Tryz.prog 25 #[.slice A2 m c2, .func (.func 56) #[] #[.pointer (some ⟨gb, 0, none⟩)]] w (BRet (.bool (hasC hs cat)) w) := by
  obtain ⟨hl, hnc, hcm, hcells⟩ := hr2.cells vrC_len (by omega)
  unfold maxLen at hcm
  have HB : Hid (hasC hs cat = hs.any (fun x : Vr => x.c.toList == cat.toList)) := rfl
  rw [HB.out]
  obtain ⟨p, hpp⟩ : ∃ p : Vr → Bool, (fun x : Vr => x.c.toList == cat.toList) = p := ⟨_, rfl⟩
  have HCC : Hid (∀ W (x : Vr), Below w.heap.size w W → Calls Tryz.prog 56 #[.agg #[.string x.c, .int .i64 x.f, .string x.r], .pointer (some ⟨gb, 0, none⟩)] W (BRet (.bool (p x)) W)) := fun W x hW => by
    rw [← hpp]
    exact hasL1_calls gb cat x W (hg.below hW)
  have HL := Lib.hid hl
  have HCL := Lib.hid hcells
  rw [hpp]
  have HM := Lib.hid (ixOf_mem p hs)
  clear hcells hl hr2 hg hpp HB
  go_enter Tryz.func25, Tryz.ntmps25
  go_wp2
  go_loopw [8] (fun i wr => ∃ k : Nat, k ≤ m ∧ i = .int .i64 k ∧ Hid (∀ i (_ : i < k) (hi' : i < hs.length), p hs[i] = false) ∧ Below w.heap.size w wr) (fun i _ => m - (intOf i).toNat)
  case atStart => exact ⟨0, Nat.zero_le _, rfl, (fun i hi => absurd hi (by omega)), Below.refl _ _⟩
  case round =>
    obtain ⟨k, hk, rfl, HF, hbr⟩ := hrel
    by_cases hlt : k < m
    · have hkr : k < hs.length := by rw [HL.out]; exact hlt
      obtain ⟨g, o, hA, _, hcs⟩ := HCL.out (by omega)
      subst hA
      have c0 := below_cell hbr (hcs k hkr 0 (by omega))
      have c1 := below_cell hbr (hcs k hkr 1 (by omega))
      have c2 := below_cell hbr (hcs k hkr 2 (by omega))
      obtain ⟨s, hs'⟩ : ∃ s, hs[k] = s := ⟨_, rfl⟩
      rw [hs'] at c0 c1 c2
      replace c0 : wr.cell? ⟨g, o + k * 3, none⟩ = some (.string s.c) := c0
      replace c1 : wr.cell? ⟨g, o + k * 3 + 1, none⟩ = some (.int .i64 s.f) := c1
      replace c2 : wr.cell? ⟨g, o + k * 3 + 2, none⟩ = some (.string s.r) := c2
      have HK := Lib.hid (HCC.out wr s hbr)
      clear hcs
      cases hp : p s
      · rw [hp] at HK
        have HF2 : Hid (∀ i (_ : i < k + 1) (hi' : i < hs.length), p hs[i] = false) := by
          intro i hi hi'
          by_cases hik : i = k
          · subst hik; rw [hs']; exact hp
          · exact HF.out i (by omega) hi'
        clear hp hs'
        go_wp2_with (go_at_call 56; refine HK.out.mono ?_; rintro e w2 ⟨rfl, hb2⟩)
        have hb3 := below_call hbr hb2 (Nat.le_refl _)
        go_roundw
        case rel => exact ⟨k + 1, by omega, by go_num, HF2, hb3⟩
        case measure => simp [intOf]; omega
      · rw [hp] at HK
        have HR : Hid (ixOf p hs = k) := ixOf_at _ hs k hkr (fun i hi => HF.out i hi (by omega)) (by rw [hs']; exact hp)
        have HA : Hid (hs.any p = true) := by
          have := HM.out
          rw [HR.out] at this
          rw [← this]
          exact Lib.hid (decide_eq_true (by omega))
        clear hp hs'
        go_wp2_with (go_at_call 56; refine HK.out.mono ?_; rintro e w2 ⟨rfl, hb2⟩)
        have hb3 := below_call hbr hb2 (Nat.le_refl _)
        go_ret
        exact ⟨ret_bool HA.out.symm, hb3⟩
    · obtain rfl : k = m := by omega
      have HR : Hid (ixOf p hs = -1) := ixOf_no _ hs (fun i hi => HF.out i (by rw [← HL.out]; exact hi) hi)
      have HA : Hid (hs.any p = false) := by
        have := HM.out
        rw [HR.out] at this
        rw [← this]
        exact Lib.hid rfl
      go_wp2
      go_ret
      exact ⟨ret_bool HA.out.symm, hbr⟩
end Go.Proofs.YtlkapcjofgpiiaaGreatDoor
