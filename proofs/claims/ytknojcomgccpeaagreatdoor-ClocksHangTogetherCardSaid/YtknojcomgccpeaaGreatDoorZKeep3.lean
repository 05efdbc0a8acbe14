/-
  slices.ContainsFunc of presses with the closure of ClocksHangTogether.
-/
import Derived.Test.YtknojcomgccpeaaGreatDoorZKeepPure
import Derived.Test.YtknojcomgccpeaaGreatDoorZCutCheck
namespace Go.Proofs.YtknojcomgccpeaaGreatDoor
open Go Go.RowKit
attribute [local go_sem ↓] Go.wp_at_zero Go.wp_at_succ

set_option maxRecDepth 100000 in
theorem chang1_calls (g7 : Nat) (u : Int) (hu : 0 ≤ u ∧ u ≤ 400) (y : Pz) (w : World) (hg : Blk w g7 3 #[.int .i64 u]) :
    Calls Tryz.prog 25 #[.agg #[.int .i64 y.1, .int .i64 y.2], .pointer (some ⟨g7, 0, none⟩)] w (BRet (.bool (y.1 == u + 1)) w) := by
  have hb : Below w.heap.size w (w.alloc (.cells #[.int .i64 y.1, .int .i64 y.2] 46)) := (Below.refl _ _).alloc (Nat.le_refl _) _
  have g0 := hg.cell 0
  have gl := hg.lt
  obtain ⟨hu0, hu1⟩ := hu
  obtain ⟨a, ha⟩ : ∃ a, y.1 = a := ⟨_, rfl⟩
  rw [ha] at hb ⊢
  clear ha hg
  go_enter Tryz.func25, Tryz.ntmps25
  go_wp2_with fail
  go_ret
  exact ⟨rfl, hb⟩
set_option maxRecDepth 100000 in
theorem contHang_calls (b g7 : Nat) (u : Int) (hu : 0 ≤ u ∧ u ≤ 400) (A2 : Option Addr) (m c2 : Nat) (hs : List Pz) (w : World) (hg : Blk w g7 3 #[.int .i64 u]) (hr2 : Rd w b 2 (.slice A2 m c2) m (hs.flatMap pzC)) :
    Calls Tryz.prog 24 #[.slice A2 m c2, .func (.func 25) #[] #[.pointer (some ⟨g7, 0, none⟩)]] w (BRet (.bool (hs.any (fun y => y.1 == u + 1))) w) := by
  obtain ⟨hl, hnc, hcm, hcells⟩ := hr2.cells pzC_len (by omega)
  unfold maxLen at hcm
  obtain ⟨p, hpp⟩ : ∃ p : Pz → Bool, (fun y : Pz => y.1 == u + 1) = p := ⟨_, rfl⟩
  have HCC : Hid (∀ W x, Below w.heap.size w W → Calls Tryz.prog 25 #[.agg #[.int .i64 x.1, .int .i64 x.2], .pointer (some ⟨g7, 0, none⟩)] W (BRet (.bool (p x)) W)) := fun W x hW => by
    rw [← hpp]
    exact chang1_calls g7 u hu x W (hg.below hW)
  have HL := Lib.hid hl
  have HCL := Lib.hid hcells
  rw [hpp]
  have HM := Lib.hid (ixOf_mem p hs)
  clear hcells hl hr2 hg hpp hu
  go_enter Tryz.func24, Tryz.ntmps24
  go_wp2
  go_loopw [8] (fun i wr => ∃ k : Nat, k ≤ m ∧ i = .int .i64 k ∧ Hid (∀ i (_ : i < k) (hi' : i < hs.length), p hs[i] = false) ∧ Below w.heap.size w wr) (fun i _ => m - (intOf i).toNat)
  case atStart => exact ⟨0, Nat.zero_le _, rfl, (fun i hi => absurd hi (by omega)), Below.refl _ _⟩
  case round =>
    obtain ⟨k, hk, rfl, HF, hbr⟩ := hrel
    by_cases hlt : k < m
    · have hkr : k < hs.length := by rw [HL.out]; exact hlt
      obtain ⟨g, o, hA, _, hcs⟩ := HCL.out (by omega)
      subst hA
      have c0 := below_cell hbr (hcs k hkr 0 (by omega))
      have c1 := below_cell hbr (hcs k hkr 1 (by omega))
      obtain ⟨s, hs'⟩ : ∃ s, hs[k] = s := ⟨_, rfl⟩
      rw [hs'] at c0 c1
      replace c0 : wr.cell? ⟨g, o + k * 2, none⟩ = some (.int .i64 s.1) := c0
      replace c1 : wr.cell? ⟨g, o + k * 2 + 1, none⟩ = some (.int .i64 s.2) := c1
      have HK := Lib.hid (HCC.out wr s hbr)
      clear hcs
      cases hp : p s
      · rw [hp] at HK
        have HF2 : Hid (∀ i (_ : i < k + 1) (hi' : i < hs.length), p hs[i] = false) := by
          intro i hi hi'
          by_cases hik : i = k
          · subst hik; rw [hs']; exact hp
          · exact HF.out i (by omega) hi'
        clear hp hs'
        go_wp2_with (go_at_call 25; refine HK.out.mono ?_; rintro e w2 ⟨rfl, hb2⟩)
        have hb3 := below_call hbr hb2 (Nat.le_refl _)
        go_roundw
        case rel => exact ⟨k + 1, by omega, by go_num, HF2, hb3⟩
        case measure => simp [intOf]; omega
      · rw [hp] at HK
        have HR : Hid (ixOf p hs = k) := ixOf_at _ hs k hkr (fun i hi => HF.out i hi (by omega)) (by rw [hs']; exact hp)
        have HA : Hid (hs.any p = true) := by
          have := HM.out
          rw [HR.out] at this
          rw [← this]
          exact Lib.hid (decide_eq_true (by omega))
        clear hp hs'
        go_wp2_with (go_at_call 25; refine HK.out.mono ?_; rintro e w2 ⟨rfl, hb2⟩)
        have hb3 := below_call hbr hb2 (Nat.le_refl _)
        go_ret
        exact ⟨ret_bool HA.out.symm, hb3⟩
    · obtain rfl : k = m := by omega
      have HR : Hid (ixOf p hs = -1) := ixOf_no _ hs (fun i hi => HF.out i (by rw [← HL.out]; exact hi) hi)
      have HA : Hid (hs.any p = false) := by
        have := HM.out
        rw [HR.out] at this
        rw [← this]
        exact Lib.hid rfl
      go_wp2
      go_ret
      exact ⟨ret_bool HA.out.symm, hbr⟩
end Go.Proofs.YtknojcomgccpeaaGreatDoor
