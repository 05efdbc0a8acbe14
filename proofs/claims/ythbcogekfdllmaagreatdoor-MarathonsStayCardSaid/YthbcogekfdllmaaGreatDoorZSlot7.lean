/-
  marathon.Timetable by a contract.
-/
import Derived.Test.YthbcogekfdllmaaGreatDoorZSlot5
import Derived.Test.YthbcogekfdllmaaGreatDoorZSpoil2
import Derived.Test.YthbcogekfdllmaaGreatDoorZEqLv
namespace Go.Proofs.YthbcogekfdllmaaGreatDoor
open Go Go.RowKit

def tabE (f : Int) (xs : List Slt) : Int := firstE [slotsF xs, fromF f xs]
/-- what Timetable answers -/
def tabL (f : Int) (xs : List Slt) : List Plc := if tabE f xs = 0 then placesF f xs else []
def TabS (l : List Plc) (er : Int) (w : World) (e : Ending) (w' : World) : Prop :=
  ∃ v, e = .returned (.tuple #[v, .int .i64 er]) ∧ w'.ownsRow w.heap.size 71 4 v l.length (l.flatMap plcC) ∧ Below w.heap.size w w'

set_option maxRecDepth 100000 in
theorem timetableX_calls (b : Nat) (A : Option Addr) (n c : Nat) (xs : List Slt) (f : Int) (w : World) (hr : Slts w b A n c xs) (hn : n ≤ 1000) (hf : -4398046511104 ≤ f ∧ f ≤ 4398046511104) (hb : b < w.heap.size) :
    Calls Tryz.prog 59 #[.slice A n c, .int .i64 f] w (TabS (tabL f xs) (tabE f xs) w) := by
  obtain ⟨E, hE⟩ : ∃ E, tabE f xs = E := ⟨_, rfl⟩
  have hL : tabL f xs = if E = 0 then placesF f xs else [] := by rw [← hE]; rfl
  have HE : Hid (firstE [slotsF xs, fromF f xs] = E) := hE
  rw [hE]
  have HR := Lib.hid hr
  have HF := Lib.hid hf
  clear hr hE hf
  by_cases hz : E = 0
  · rw [if_pos hz] at hL
    rw [hL]
    subst hz
    clear hL
    go_enter Tryz.func59, Tryz.ntmps59
    go_wp2_with fail
    refine (checkSlots_calls b A n c xs _ HR.out hb).mono ?_
    rintro e w1 ⟨rfl, hb1⟩
    have hz1 := hb1.size
    go_wp2_with fail
    refine (fromFault_calls b A n c xs f _ (HR.out.below hb1) hn HF.out (by omega)).mono ?_
    rintro e w2 ⟨rfl, hb2⟩
    have hz2 := hb2.size
    have hb2' := below_call hb1 hb2 (Nat.le_refl _)
    go_wp2_with fail
    refine (first_calls b _ 2 2 [slotsF xs, fromF f xs] _ (Rd.lit w2 b 1 2 #[.int .i64 (slotsF xs), .int .i64 (fromF f xs)] 29 (by omega) (by decide) rfl)).mono ?_
    rintro e w3 ⟨rfl, nq, rfl⟩
    rw [HE.out]
    have hb3 := below_drewN (hb2'.alloc (by omega) (.cells #[.int .i64 (slotsF xs), .int .i64 (fromF f xs)] 29)) nq
    go_wp2_with fail
    refine (timetable_calls b A n c xs f _ (HR.out.below hb3) hn HF.out).mono ?_
    rintro e w4 ⟨v, rfl, hown, hb4⟩
    have hb5 := below_call hb3 hb4 (Nat.le_refl _)
    have hown2 := own_base hown hb3.size
    go_wp2_with fail
    refine bodyPost_ret (v := .tuple #[v, .int .i64 0]) (by simp [results, Tryz.results59, go_sem]) rfl ⟨v, rfl, hown2, hb5⟩
  · rw [if_neg hz] at hL
    rw [hL]
    have hz' : (E != 0) = true := by rw [bne_iff_ne]; exact hz
    clear hL
    go_enter Tryz.func59, Tryz.ntmps59
    go_wp2_with fail
    refine (checkSlots_calls b A n c xs _ HR.out hb).mono ?_
    rintro e w1 ⟨rfl, hb1⟩
    have hz1 := hb1.size
    go_wp2_with fail
    refine (fromFault_calls b A n c xs f _ (HR.out.below hb1) hn HF.out (by omega)).mono ?_
    rintro e w2 ⟨rfl, hb2⟩
    have hz2 := hb2.size
    have hb2' := below_call hb1 hb2 (Nat.le_refl _)
    go_wp2_with fail
    refine (first_calls b _ 2 2 [slotsF xs, fromF f xs] _ (Rd.lit w2 b 1 2 #[.int .i64 (slotsF xs), .int .i64 (fromF f xs)] 29 (by omega) (by decide) rfl)).mono ?_
    rintro e w3 ⟨rfl, nq, rfl⟩
    rw [HE.out]
    have hb3 := below_drewN (hb2'.alloc (by omega) (.cells #[.int .i64 (slotsF xs), .int .i64 (fromF f xs)] 29)) nq
    go_wp2_with fail
    refine bodyPost_ret (v := .tuple #[.slice none 0 0, .int .i64 E]) (by simp [results, Tryz.results59, go_sem]) rfl ⟨_, rfl, World.ownsRow_nil _ _ _ _, hb3⟩
end Go.Proofs.YthbcogekfdllmaaGreatDoor
/-
  The closures of clashes and ClashesOf, and slices.ContainsFunc over names with each, by contracts. (Printed by gen_slot8.py.)
-/
namespace Go.Proofs.YthbcogekfdllmaaGreatDoor
open Go Go.RowKit


set_option maxRecDepth 100000 in
theorem cloP_calls (b gx : Nat) (x : Slt) (s : ByteArray) (w : World) (hx : SltOk w b x) (hg : Blk w gx 64 #[.string x.key, .string x.who, .slice x.ha x.hosts.length x.hc, .int .i64 x.setup, .int .i64 x.long]) (hb : b < w.heap.size) :
    Calls Tryz.prog 132 #[.string s, .pointer (some ⟨gx, 0, none⟩)] w (BRet (.bool (memS (needL x) s)) w) := by
  have HN : Hid (∀ W, SltOk W b x → Calls Tryz.prog 131 #[.agg #[.string x.key, .string x.who, .slice x.ha x.hosts.length x.hc, .int .i64 x.setup, .int .i64 x.long]] W (StrsS (needL x) W)) := fun W h => needed_calls b x W h
  have HX := Lib.hid hx
  have c0 := hg.cell 0
  have c1 := hg.cell 1
  have c2 := hg.cell 2
  have c3 := hg.cell 3
  have c4 := hg.cell 4
  obtain ⟨L, hL⟩ : ∃ L, needL x = L := ⟨_, rfl⟩
  rw [hL] at HN ⊢
  clear hx hg hL
  go_enter Tryz.func132, Tryz.ntmps132
  go_wp2_with fail
  refine (HN.out _ HX.out).mono ?_
  rintro e w1 ⟨v, rfl, hown, hb1⟩
  obtain ⟨A2, cc, hv⟩ := own_form hown
  subst hv
  go_wp2_with fail
  refine (containsS_calls b A2 L.length cc L s _ (Rd.own hown hb)).mono ?_
  rintro e w2 ⟨rfl, nq, rfl⟩
  go_wp2_with fail
  go_ret
  exact ⟨rfl, below_drewN hb1 _⟩

set_option maxRecDepth 100000 in
theorem contP_calls (b : Nat) (gx : Nat) (A2 : Option Addr) (m c2 : Nat) (hs : List ByteArray) (p : ByteArray → Bool) (w : World) (hr2 : Rd w b 1 (.slice A2 m c2) m (strsV hs))
    (HC : ∀ W s, Below w.heap.size w W → Calls Tryz.prog 132 #[.string s, .pointer (some ⟨gx, 0, none⟩)] W (BRet (.bool (p s)) W)) :
    Calls Tryz.prog 130 #[.slice A2 m c2, .func (.func 132) #[] #[.pointer (some ⟨gx, 0, none⟩)]] w (BRet (.bool (hs.any p)) w) := by
  obtain ⟨hl, hnc, hcm, hcells⟩ := strs_cells hr2
  unfold maxLen at hcm
  have HL := Lib.hid hl
  have HCL := Lib.hid hcells
  have HCC := Lib.hid HC
  have HM := Lib.hid (ixOf_mem p hs)
  clear hcells hl hr2 HC
  go_enter Tryz.func130, Tryz.ntmps130
  go_wp2
  go_loopw [8] (fun i wr => ∃ k : Nat, k ≤ m ∧ i = .int .i64 k ∧ Hid (∀ i (_ : i < k) (hi' : i < hs.length), p hs[i] = false) ∧ Below w.heap.size w wr) (fun i _ => m - (intOf i).toNat)
  case atStart => exact ⟨0, Nat.zero_le _, rfl, (fun i hi => absurd hi (by omega)), Below.refl _ _⟩
  case round =>
    obtain ⟨k, hk, rfl, HF, hbr⟩ := hrel
    by_cases hlt : k < m
    · have hkr : k < hs.length := by rw [HL.out]; exact hlt
      obtain ⟨g, o, hA, _, hcs⟩ := HCL.out (by omega)
      subst hA
      have c0 := below_cell hbr (hcs k hkr)
      obtain ⟨s, hs'⟩ : ∃ s, hs[k] = s := ⟨_, rfl⟩
      rw [hs'] at c0
      have HK := Lib.hid (HCC.out wr s hbr)
      clear hcs
      cases hp : p s
      · rw [hp] at HK
        have HF2 : Hid (∀ i (_ : i < k + 1) (hi' : i < hs.length), p hs[i] = false) := by
          intro i hi hi'
          by_cases hik : i = k
          · subst hik; rw [hs']; exact hp
          · exact HF.out i (by omega) hi'
        clear hp hs'
        go_wp2_with (go_at_call 132; refine HK.out.mono ?_; rintro e w2 ⟨rfl, hb2⟩)
        have hb3 := below_call hbr hb2 (Nat.le_refl _)
        go_roundw
        case rel => exact ⟨k + 1, by omega, by go_num, HF2, hb3⟩
        case measure => simp [intOf]; omega
      · rw [hp] at HK
        have HR : Hid (ixOf p hs = k) := ixOf_at _ hs k hkr (fun i hi => HF.out i hi (by omega)) (by rw [hs']; exact hp)
        have HA : Hid (hs.any p = true) := by
          have := HM.out
          rw [HR.out] at this
          rw [← this]
          exact Lib.hid (decide_eq_true (by omega))
        clear hp hs'
        go_wp2_with (go_at_call 132; refine HK.out.mono ?_; rintro e w2 ⟨rfl, hb2⟩)
        have hb3 := below_call hbr hb2 (Nat.le_refl _)
        go_ret
        exact ⟨ret_bool HA.out.symm, hb3⟩
    · obtain rfl : k = m := by omega
      have HR : Hid (ixOf p hs = -1) := ixOf_no _ hs (fun i hi => HF.out i (by rw [← HL.out]; exact hi) hi)
      have HA : Hid (hs.any p = false) := by
        have := HM.out
        rw [HR.out] at this
        rw [← this]
        exact Lib.hid rfl
      go_wp2
      go_ret
      exact ⟨ret_bool HA.out.symm, hbr⟩

end Go.Proofs.YthbcogekfdllmaaGreatDoor
