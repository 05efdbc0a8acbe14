/-
  splitref2.seenBy by a contract.
-/
import Derived.Test.YtmngnmffmohhcaaGreatDoorZLive1
import Derived.Deep.DeepCutAuto
import Derived.Deep.RegionHeld3
namespace Go.Proofs.YtmngnmffmohhcaaGreatDoor
open Go Go.RowKit

/-- what is known of a slot -/
def SeenS (s : Int × Int × Bool) (w : World) (e : Ending) (w' : World) : Prop := e = .returned (.agg #[.int .i64 s.1, .int .i64 s.2.1, .bool s.2.2]) ∧ Below w.heap.size w w'

end Go.Proofs.YtmngnmffmohhcaaGreatDoor
/-
  splitref2.LiveFault's closure, and slices.ContainsFunc over slots with it.
-/
namespace Go.Proofs.YtmngnmffmohhcaaGreatDoor
open Go Go.RowKit
attribute [local go_sem ↓] Go.wp_at_zero Go.wp_at_succ

end Go.Proofs.YtmngnmffmohhcaaGreatDoor
/-
  slices.ContainsFunc over slots with LiveFault's closure, and over places with those of known. (Printed by gen_live6.py.)
-/
namespace Go.Proofs.YtmngnmffmohhcaaGreatDoor
open Go Go.RowKit


set_option maxRecDepth 100000 in
theorem known1_calls (p : Plc) (w : World) : Calls Tryz.prog 59 #[.agg #[.string p.1, .int .i64 p.2.1, .int .i64 p.2.2.1, .int .i64 p.2.2.2]] w (BRet (.bool (decide (345686400000 < p.2.2.2))) w) := by
  have hb : Below w.heap.size w (w.alloc (.cells #[.string p.1, .int .i64 p.2.1, .int .i64 p.2.2.1, .int .i64 p.2.2.2] 35)) := (Below.refl _ _).alloc (Nat.le_refl _) _
  obtain ⟨z, hz⟩ : ∃ z, p.2.2.2 = z := ⟨_, rfl⟩
  rw [hz] at hb ⊢
  clear hz
  by_cases h : 345686400000 < z
  · go_enter Tryz.func59, Tryz.ntmps59
    go_wp2_with fail
    go_ret
    exact ⟨ret_bool (by simp [h]), hb⟩
  · go_enter Tryz.func59, Tryz.ntmps59
    go_wp2_with fail
    go_ret
    exact ⟨ret_bool (by simp [h]), hb⟩

set_option maxRecDepth 100000 in
theorem contK_calls (b : Nat) (A2 : Option Addr) (m c2 : Nat) (hs : List Plc) (p : Plc → Bool) (w : World) (hr2 : Rd w b 4 (.slice A2 m c2) m (hs.flatMap plcC))
    (HC : ∀ W x, Below w.heap.size w W → Calls Tryz.prog 59 #[.agg #[.string x.1, .int .i64 x.2.1, .int .i64 x.2.2.1, .int .i64 x.2.2.2]] W (BRet (.bool (p x)) W)) :
    Calls Tryz.prog 58 #[.slice A2 m c2, .func (.func 59) #[] #[]] w (BRet (.bool (hs.any p)) w) := by
  obtain ⟨hl, hnc, hcm, hcells⟩ := hr2.cells plcC_len (by omega)
  unfold maxLen at hcm
  have HL := Lib.hid hl
  have HCL := Lib.hid hcells
  have HCC := Lib.hid HC
  have HM := Lib.hid (ixOf_mem p hs)
  clear hcells hl hr2 HC
  go_enter Tryz.func58, Tryz.ntmps58
  go_wp2
  go_loopw [8] (fun i wr => ∃ k : Nat, k ≤ m ∧ i = .int .i64 k ∧ Hid (∀ i (_ : i < k) (hi' : i < hs.length), p hs[i] = false) ∧ Below w.heap.size w wr) (fun i _ => m - (intOf i).toNat)
  case atStart => exact ⟨0, Nat.zero_le _, rfl, (fun i hi => absurd hi (by omega)), Below.refl _ _⟩
  case round =>
    obtain ⟨k, hk, rfl, HF, hbr⟩ := hrel
    by_cases hlt : k < m
    · have hkr : k < hs.length := by rw [HL.out]; exact hlt
      obtain ⟨g, o, hA, _, hcs⟩ := HCL.out (by omega)
      subst hA
      have c0 := below_cell hbr (hcs k hkr 0 (by omega))
      have c1 := below_cell hbr (hcs k hkr 1 (by omega))
      have c2 := below_cell hbr (hcs k hkr 2 (by omega))
      have c3 := below_cell hbr (hcs k hkr 3 (by omega))
      obtain ⟨s, hs'⟩ : ∃ s, hs[k] = s := ⟨_, rfl⟩
      rw [hs'] at c0 c1 c2 c3
      replace c0 : wr.cell? ⟨g, o + k * 4, none⟩ = some (.string s.1) := c0
      replace c1 : wr.cell? ⟨g, o + k * 4 + 1, none⟩ = some (.int .i64 s.2.1) := c1
      replace c2 : wr.cell? ⟨g, o + k * 4 + 2, none⟩ = some (.int .i64 s.2.2.1) := c2
      replace c3 : wr.cell? ⟨g, o + k * 4 + 3, none⟩ = some (.int .i64 s.2.2.2) := c3
      have HK := Lib.hid (HCC.out wr s hbr)
      clear hcs
      cases hp : p s
      · rw [hp] at HK
        have HF2 : Hid (∀ i (_ : i < k + 1) (hi' : i < hs.length), p hs[i] = false) := by
          intro i hi hi'
          by_cases hik : i = k
          · subst hik; rw [hs']; exact hp
          · exact HF.out i (by omega) hi'
        clear hp hs'
        go_wp2_with (go_at_call 59; refine HK.out.mono ?_; rintro e w2 ⟨rfl, hb2⟩)
        have hb3 := below_call hbr hb2 (Nat.le_refl _)
        go_roundw
        case rel => exact ⟨k + 1, by omega, by go_num, HF2, hb3⟩
        case measure => simp [intOf]; omega
      · rw [hp] at HK
        have HR : Hid (ixOf p hs = k) := ixOf_at _ hs k hkr (fun i hi => HF.out i hi (by omega)) (by rw [hs']; exact hp)
        have HA : Hid (hs.any p = true) := by
          have := HM.out
          rw [HR.out] at this
          rw [← this]
          exact Lib.hid (decide_eq_true (by omega))
        clear hp hs'
        go_wp2_with (go_at_call 59; refine HK.out.mono ?_; rintro e w2 ⟨rfl, hb2⟩)
        have hb3 := below_call hbr hb2 (Nat.le_refl _)
        go_ret
        exact ⟨ret_bool HA.out.symm, hb3⟩
    · obtain rfl : k = m := by omega
      have HR : Hid (ixOf p hs = -1) := ixOf_no _ hs (fun i hi => HF.out i (by rw [← HL.out]; exact hi) hi)
      have HA : Hid (hs.any p = false) := by
        have := HM.out
        rw [HR.out] at this
        rw [← this]
        exact Lib.hid rfl
      go_wp2
      go_ret
      exact ⟨ret_bool HA.out.symm, hbr⟩
end Go.Proofs.YtmngnmffmohhcaaGreatDoor
