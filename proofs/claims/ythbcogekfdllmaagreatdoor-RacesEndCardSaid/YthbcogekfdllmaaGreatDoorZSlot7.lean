/-
  marathon.Timetable by a contract.
-/
import Derived.Test.YthbcogekfdllmaaGreatDoorZBs
import Derived.Test.YthbcogekfdllmaaGreatDoorZRat1
import Derived.Test.YthbcogekfdllmaaGreatDoorZSjoin
import Derived.Test.YthbcogekfdllmaaGreatDoorZClk
import Derived.Test.YthbcogekfdllmaaGreatDoorZRat4
namespace Go.Proofs.YthbcogekfdllmaaGreatDoor
open Go Go.RowKit

def tabE (f : Int) (xs : List Slt) : Int := firstE [slotsF xs, fromF f xs]
/-- what Timetable answers -/
def tabL (f : Int) (xs : List Slt) : List Plc := if tabE f xs = 0 then placesF f xs else []
def TabS (l : List Plc) (er : Int) (w : World) (e : Ending) (w' : World) : Prop :=
  ∃ v, e = .returned (.tuple #[v, .int .i64 er]) ∧ w'.ownsRow w.heap.size 71 4 v l.length (l.flatMap plcC) ∧ Below w.heap.size w w'

set_option maxRecDepth 100000 in
theorem timetableX_calls (b : Nat) (A : Option Addr) (n c : Nat) (xs : List Slt) (f : Int) (w : World) (hr : Slts w b A n c xs) (hn : n ≤ 1000) (hf : -4398046511104 ≤ f ∧ f ≤ 4398046511104) (hb : b < w.heap.size) :
    Calls Tryz.prog 59 #[.slice A n c, .int .i64 f] w (TabS (tabL f xs) (tabE f xs) w) := by
  obtain ⟨E, hE⟩ : ∃ E, tabE f xs = E := ⟨_, rfl⟩
  have hL : tabL f xs = if E = 0 then placesF f xs else [] := by rw [← hE]; rfl
  have HE : Hid (firstE [slotsF xs, fromF f xs] = E) := hE
  rw [hE]
  have HR := Lib.hid hr
  have HF := Lib.hid hf
  clear hr hE hf
  by_cases hz : E = 0
  · rw [if_pos hz] at hL
    rw [hL]
    subst hz
    clear hL
    go_enter Tryz.func59, Tryz.ntmps59
    go_wp2_with fail
    refine (checkSlots_calls b A n c xs _ HR.out hb).mono ?_
    rintro e w1 ⟨rfl, hb1⟩
    have hz1 := hb1.size
    go_wp2_with fail
    refine (fromFault_calls b A n c xs f _ (HR.out.below hb1) hn HF.out (by omega)).mono ?_
    rintro e w2 ⟨rfl, hb2⟩
    have hz2 := hb2.size
    have hb2' := below_call hb1 hb2 (Nat.le_refl _)
    go_wp2_with fail
    refine (first_calls b _ 2 2 [slotsF xs, fromF f xs] _ (Rd.lit w2 b 1 2 #[.int .i64 (slotsF xs), .int .i64 (fromF f xs)] 29 (by omega) (by decide) rfl)).mono ?_
    rintro e w3 ⟨rfl, nq, rfl⟩
    rw [HE.out]
    have hb3 := below_drewN (hb2'.alloc (by omega) (.cells #[.int .i64 (slotsF xs), .int .i64 (fromF f xs)] 29)) nq
    go_wp2_with fail
    refine (timetable_calls b A n c xs f _ (HR.out.below hb3) hn HF.out).mono ?_
    rintro e w4 ⟨v, rfl, hown, hb4⟩
    have hb5 := below_call hb3 hb4 (Nat.le_refl _)
    have hown2 := own_base hown hb3.size
    go_wp2_with fail
    refine bodyPost_ret (v := .tuple #[v, .int .i64 0]) (by simp [results, Tryz.results59, go_sem]) rfl ⟨v, rfl, hown2, hb5⟩
  · rw [if_neg hz] at hL
    rw [hL]
    have hz' : (E != 0) = true := by rw [bne_iff_ne]; exact hz
    clear hL
    go_enter Tryz.func59, Tryz.ntmps59
    go_wp2_with fail
    refine (checkSlots_calls b A n c xs _ HR.out hb).mono ?_
    rintro e w1 ⟨rfl, hb1⟩
    have hz1 := hb1.size
    go_wp2_with fail
    refine (fromFault_calls b A n c xs f _ (HR.out.below hb1) hn HF.out (by omega)).mono ?_
    rintro e w2 ⟨rfl, hb2⟩
    have hz2 := hb2.size
    have hb2' := below_call hb1 hb2 (Nat.le_refl _)
    go_wp2_with fail
    refine (first_calls b _ 2 2 [slotsF xs, fromF f xs] _ (Rd.lit w2 b 1 2 #[.int .i64 (slotsF xs), .int .i64 (fromF f xs)] 29 (by omega) (by decide) rfl)).mono ?_
    rintro e w3 ⟨rfl, nq, rfl⟩
    rw [HE.out]
    have hb3 := below_drewN (hb2'.alloc (by omega) (.cells #[.int .i64 (slotsF xs), .int .i64 (fromF f xs)] 29)) nq
    go_wp2_with fail
    refine bodyPost_ret (v := .tuple #[.slice none 0 0, .int .i64 E]) (by simp [results, Tryz.results59, go_sem]) rfl ⟨_, rfl, World.ownsRow_nil _ _ _ _, hb3⟩
end Go.Proofs.YthbcogekfdllmaaGreatDoor
/-
  splitkeep2.errs and splitkeep2.ready by contracts: ready answers true. (Printed by gen_ready.py.)
-/
namespace Go.Proofs.YthbcogekfdllmaaGreatDoor
open Go Go.RowKit

set_option maxRecDepth 100000 in
theorem errsK_calls (b : Nat) (A : Option Addr) (n c : Nat) (l : List Int) (w : World) (hr : Rd w b 1 (.slice A n c) n (l.map (Value.int .i64))) :
    Calls Tryz.prog 12 #[.slice A n c] w (QRet (.int .i64 (firstE l)) w) := by
  obtain ⟨A', c', e1, e2, e3, e4, e5, e6⟩ := hr
  injection e1 with ea eb ec
  subst ea ec
  unfold maxLen at e3
  have hl : l.length = n := by simpa using e4
  have HL := Lib.hid hl
  have HC := Lib.hid e6
  clear e4 e5 e6 hl
  go_enter Tryz.func12, Tryz.ntmps12
  go_wp2_with fail
  go_loop [7] (fun i => ∃ k : Nat, k ≤ n ∧ i = .int .i64 k ∧ Hid (firstE l = firstE (l.drop k))) (fun i => n - (intOf i).toNat)
  case atStart => exact ⟨0, Nat.zero_le _, rfl, rfl⟩
  case round =>
    obtain ⟨k, hk, rfl, HF⟩ := hrel
    by_cases hlt : k < n
    · have hkr : k < l.length := by rw [HL.out]; exact hlt
      obtain ⟨g, o, hA, _, hcs⟩ := HC.out (by omega)
      subst hA
      have hst := HF.out.trans (firstE_step l k hkr)
      have c0 := hcs k _ (by rw [List.getElem?_map, List.getElem?_eq_getElem hkr]; rfl)
      clear hcs
      obtain ⟨z, hz⟩ : ∃ z, l[k] = z := ⟨_, rfl⟩
      rw [hz] at c0 hst
      clear hz
      by_cases h0 : z = 0
      · subst h0
        rw [if_pos rfl] at hst
        have HS := Lib.hid hst
        clear hst
        go_wp2_with fail
        go_round
        case rel => exact ⟨k + 1, by omega, by go_num, HS⟩
        case measure => simp [intOf]; omega
      · rw [if_neg h0] at hst
        have HS := Lib.hid hst
        have hne : (z != 0) = true := by rw [bne_iff_ne]; exact h0
        clear hst
        go_wp2_with fail
        go_ret
        exact ⟨ret_int HS.out.symm, 0, rfl⟩
    · obtain rfl : k = n := by omega
      have HS := Lib.hid (HF.out.trans (by rw [List.drop_of_length_le (by rw [HL.out]; exact Nat.le_refl _)]; rfl : _ = (0 : Int)))
      go_wp2_with fail
      go_ret
      exact ⟨ret_int HS.out.symm, 0, rfl⟩

def rdyX : Slt := ⟨⟨#[97]⟩, ⟨#[98]⟩, none, 0, [], 5, 10⟩
theorem rdy_E : tabE 1 [rdyX] = 0 := by decide +kernel
theorem rdy_L : tabL 1 [rdyX] = [(⟨#[97]⟩, 1, 6, 16)] := by
  unfold tabL
  rw [if_pos rdy_E]
  rfl
theorem rdy1600 : RatOK 1600 1 := ⟨by decide, by decide, by decide, by decide, by decide, by decide⟩
theorem rdy1400 : RatOK 1400 1 := ⟨by decide, by decide, by decide, by decide, by decide, by decide⟩
theorem rdySlts (b : Nat) (w : World) (hb : b < w.heap.size) : Slts (w.alloc (.cells #[.string ⟨#[97]⟩, .string ⟨#[98]⟩, .slice none 0 0, .int .i64 5, .int .i64 10] 64)) b (some ⟨w.heap.size, 0, none⟩) 1 1 [rdyX] := by
  have hrd : Rd (w.alloc (.cells #[.string ⟨#[97]⟩, .string ⟨#[98]⟩, .slice none 0 0, .int .i64 5, .int .i64 10] 64)) b 5 (.slice (some ⟨w.heap.size, 0, none⟩) 1 1) 1 ([rdyX].flatMap sltC) := Rd.lit0 (n := 1) hb (by decide) rfl
  exact ⟨hrd, fun x hx => by
      simp at hx
      subst hx
      exact ⟨Rd.nil _ _ _, by decide, by decide, (by intro s hs; cases hs), by decide, by decide, by decide⟩⟩
set_option maxRecDepth 100000 in
set_option maxHeartbeats 1000000 in
theorem ready_calls (b : Nat) (w : World) (hb : b < w.heap.size) (ht : Tab w) : Calls Tryz.prog 14 #[] w (BRet (.bool true) w) := by
  have HW := Lib.hid (timeWrite1_calls w ht)
  have HT : Hid (∀ W : World, Calls Tryz.prog 57 #[.string ⟨#[40, 97, 61, 120, 41, 111, 114, 32, 104, 97, 115, 32, 98]⟩] W (BRet (.tuple #[.string ⟨#[97, 32, 61, 32, 120, 32, 111, 114, 32, 104, 97, 115, 32, 98]⟩, .int .i64 0, .int .i64 0]) W)) := fun W => tidyLit_calls W
  have h1 := fun W : World => expected1_calls 1600 1 1400 1 W ⟨by omega, by omega⟩ ⟨by omega, by omega⟩ ⟨by omega, by omega⟩ ⟨by omega, by omega⟩ rdy1600 rdy1400 (by decide)
  have e1 : RatP.lowN (RatP.expd (thou 1600 1) (thou 1400 1)) 800000 = 3 := by decide
  have e2 : RatP.lowD (RatP.expd (thou 1600 1) (thou 1400 1)) 800000 = 4 := by decide
  rw [e1, e2] at h1
  have H1 := Lib.hid h1
  have HTT : Hid (∀ (W : World) (G : Nat), W.heap.size = G → w.heap.size ≤ W.heap.size → Calls Tryz.prog 59 #[.slice (some ⟨G, 0, none⟩) 1 1, .int .i64 1] (W.alloc (.cells #[.string ⟨#[97]⟩, .string ⟨#[98]⟩, .slice none 0 0, .int .i64 5, .int .i64 10] 64)) (TabS [(⟨#[97]⟩, 1, 6, 16)] 0 (W.alloc (.cells #[.string ⟨#[97]⟩, .string ⟨#[98]⟩, .slice none 0 0, .int .i64 5, .int .i64 10] 64)))) := fun W G hG hW => by
    subst hG
    have := timetableX_calls b _ 1 1 [rdyX] 1 _ (rdySlts b W (by omega)) (by omega) (by omega) (by simp; omega)
    rw [rdy_E, rdy_L] at this
    exact this
  have HE : Hid (∀ W : World, w.heap.size ≤ W.heap.size → Calls Tryz.prog 12 #[.slice (some ⟨W.heap.size, 0, none⟩) 4 4] (W.alloc (.cells #[.int .i64 0, .int .i64 0, .int .i64 0, .int .i64 0] 29)) (QRet (.int .i64 0) (W.alloc (.cells #[.int .i64 0, .int .i64 0, .int .i64 0, .int .i64 0] 29)))) := fun W hW =>
    errsK_calls b _ 4 4 [0, 0, 0, 0] _ (Rd.lit0 (n := 4) (by omega) (by decide) rfl)
  clear h1 e1 e2 ht
  go_enter Tryz.func14, Tryz.ntmps14
  go_wp2_with fail
  refine HW.out.mono ?_
  rintro e w1 ⟨rfl, hb1⟩
  go_wp2_with fail
  refine (HT.out _).mono ?_
  rintro e w2 ⟨rfl, hb2⟩
  have hB2 := below_call hb1 hb2 (Nat.le_refl _)
  go_wp2_with fail
  refine (H1.out _).mono ?_
  rintro e w3 ⟨rfl, hb3⟩
  have hB3 := below_call hB2 hb3 (Nat.le_refl _)
  have hS3 := (Sq.start w).callB hB3
  have hS4 := hS3.add #[.int .i64 3, .int .i64 4] 132
  have hz4 := hS4.size
  clear hS3 hB2 hb2 hb1
  go_wp2_with fail
  with_reducible refine (HTT.out _ (w3.heap.size + 1) (size1 _ _) hz4).mono ?_
  rintro e w5 ⟨v, rfl, hown, hb5⟩
  have hS5 := (hS4.alloc _).callB hb5
  obtain ⟨g, cap, hv, _⟩ := hown.form (by decide)
  subst hv
  have k1 : w5.cell? ⟨w3.heap.size, 1, none⟩ = some (.int .i64 4) := Blk.cell (hS5.nth 0 rfl) 1
  have hlt5 : w3.heap.size < w5.heap.size := (Blk.lt (hS5.nth 0 rfl : Blk w5 w3.heap.size _ _))
  have hz5 := hS5.size
  clear hS4 hown hb5
  go_wp2_with fail
  with_reducible refine (HE.out _ hz5).mono ?_
  rintro e w6 ⟨rfl, nq, rfl⟩
  go_wp2_with fail
  go_ret
  exact ⟨rfl, below_drewN (hS5.below.alloc hz5 _) nq⟩
end Go.Proofs.YthbcogekfdllmaaGreatDoor
