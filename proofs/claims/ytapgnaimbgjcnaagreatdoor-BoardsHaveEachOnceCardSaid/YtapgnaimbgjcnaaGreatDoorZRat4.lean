/-
  race.Expected by a contract.
-/
import Derived.Test.YtapgnaimbgjcnaaGreatDoorZScmp
import Derived.Deep.RegionLaw
import Derived.Deep.RegionWith
import Derived.Deep.DrawnRows
import Derived.Test.YtapgnaimbgjcnaaGreatDoorZSlot3
import Derived.Test.YtapgnaimbgjcnaaGreatDoorZRule5
import Derived.Test.YtapgnaimbgjcnaaGreatDoorZItoa
namespace Go.Proofs.YtapgnaimbgjcnaaGreatDoor
open Go Go.RowKit
attribute [local go_sem ↓] Go.wp_at_zero Go.wp_at_succ
def FracE (n d er : Int) (w : World) (e : Ending) (w' : World) : Prop := e = .returned (.tuple #[.agg #[.int .i64 n, .int .i64 d], .int .i64 er]) ∧ Below w.heap.size w w'
def E3 (w : World) (aN aD bN bD : Int) (w' : World) : Prop :=
 Below w.heap.size w w' ∧ w.heap.size + 3 ≤ w'.heap.size ∧ Blk w' w.heap.size 73 #[.int .i64 aN, .int .i64 aD] ∧ Blk w' (w.heap.size + 1) 73 #[.int .i64 bN, .int .i64 bD] ∧ Blk w' (w.heap.size + 2) 73 #[.int .i64 0, .int .i64 0]
theorem E3.start (w : World) (aN aD bN bD : Int) : E3 w aN aD bN bD (((w.alloc (.cells #[.int .i64 aN, .int .i64 aD] 73)).alloc (.cells #[.int .i64 bN, .int .i64 bD] 73)).alloc (.cells #[.int .i64 0, .int .i64 0] 73)) := by
 refine ⟨(((Below.refl _ _).alloc (Nat.le_refl _) _).alloc (by simp) _).alloc (by simp; omega) _, by simp, ((Blk.new w _ _).alloc _).alloc _, ?_, ?_⟩
 · have := (Blk.new (w.alloc (.cells #[.int .i64 aN, .int .i64 aD] 73)) 73 #[.int .i64 bN, .int .i64 bD]).alloc (.cells #[.int .i64 0, .int .i64 0] 73)
   simpa using this
 · have := Blk.new ((w.alloc (.cells #[.int .i64 aN, .int .i64 aD] 73)).alloc (.cells #[.int .i64 bN, .int .i64 bD] 73)) 73 #[.int .i64 0, .int .i64 0]
   simpa using this
section
variable {w w1 w2 : World} {aN aD bN bD : Int}
theorem E3.below (h : E3 w aN aD bN bD w1) (k : Below w1.heap.size w1 w2) : E3 w aN aD bN bD w2 := by
 obtain ⟨h1, h2, h3, h4, h5⟩ := h
 exact ⟨below_call h1 k (Nat.le_refl _), Nat.le_trans h2 k.size, h3.below k, h4.below k, h5.below k⟩
theorem E3.drew (h : E3 w aN aD bN bD w1) : E3 w aN aD bN bD w1.drew := h.below (below_drewN (Below.refl _ _) 1)
theorem E3.drewN (h : E3 w aN aD bN bD w1) (n : Nat) : E3 w aN aD bN bD (w1.drewN n) := h.below (below_drewN (Below.refl _ _) n)
theorem E3.alloc (h : E3 w aN aD bN bD w1) (o : Obj) : E3 w aN aD bN bD (w1.alloc o) := h.below ((Below.refl _ _).alloc (Nat.le_refl _) _)
theorem E3.cells (h : E3 w aN aD bN bD w1) : w1.cell? ⟨w.heap.size, 0, none⟩ = some (.int .i64 aN) ∧ w1.cell? ⟨w.heap.size, 1, none⟩ = some (.int .i64 aD) ∧ w1.cell? ⟨w.heap.size + 1, 0, none⟩ = some (.int .i64 bN) ∧ w1.cell? ⟨w.heap.size + 1, 1, none⟩ = some (.int .i64 bD) ∧
 w1.cell? ⟨w.heap.size + 2, 0, none⟩ = some (.int .i64 0) ∧ w1.cell? ⟨w.heap.size + 2, 1, none⟩ = some (.int .i64 0) ∧ w1.frozen? ⟨w.heap.size + 2, 0, none⟩ = false ∧ w1.frozen? ⟨w.heap.size + 2, 1, none⟩ = false := by
 obtain ⟨_, _, h3, h4, h5⟩ := h
 exact ⟨h3.two.1, h3.two.2.1, h4.two.1, h4.two.2.1, h5.two.1, h5.two.2.1, h5.two.2.2.1, h5.two.2.2.2⟩
end
end Go.Proofs.YtapgnaimbgjcnaaGreatDoor
/-
  race.Expected of right ratings, by a contract.
-/
namespace Go.Proofs.YtapgnaimbgjcnaaGreatDoor
open Go Go.RowKit
attribute [local go_sem ↓] Go.wp_at_zero Go.wp_at_succ
set_option maxRecDepth 100000 in
set_option maxHeartbeats 2000000 in
theorem expected1_calls (aN aD bN bD : Int) (w : World) (ha1 : I64 aN) (ha2 : I64 aD) (hb1 : I64 bN) (hb2 : I64 bD) (hra : RatOK aN aD) (hrb : RatOK bN bD) (hne : firstE [ratF aN aD, ratF bN bD] = 0) :
 Calls Tryz.prog 99 #[.agg #[.int .i64 aN, .int .i64 aD], .agg #[.int .i64 bN, .int .i64 bD]] w (FracE (RatP.lowN (RatP.expd (thou aN aD) (thou bN bD)) 800000) (RatP.lowD (RatP.expd (thou aN aD) (thou bN bD)) 800000) 0 w) := by
 have hE := E3.start w aN aD bN bD
 have ta := thou_bd hra
 have tb := thou_bd hrb
 have hx := RatP.expd_bd (thou aN aD) (thou bN bD)
 obtain ⟨X, hX⟩ : ∃ x, RatP.expd (thou aN aD) (thou bN bD) = x := ⟨_, rfl⟩
 rw [hX] at hx ⊢
 obtain ⟨TA, hTA⟩ : ∃ x, thou aN aD = x := ⟨_, rfl⟩
 obtain ⟨TB, hTB⟩ : ∃ x, thou bN bD = x := ⟨_, rfl⟩
 rw [hTA] at ta hX
 rw [hTB] at tb hX
 obtain ⟨N, hN⟩ : ∃ x, RatP.lowN X 800000 = x := ⟨_, rfl⟩
 obtain ⟨D, hD⟩ : ∃ x, RatP.lowD X 800000 = x := ⟨_, rfl⟩
 rw [hN, hD]
 have HTA : Hid (∀ W, E3 w aN aD bN bD W → Calls Tryz.prog 150 #[.agg #[.int .i64 aN, .int .i64 aD]] W (fun e w1 => e = .returned (.int .i64 TA) ∧ E3 w aN aD bN bD w1)) := by
  intro W hW
  refine (thousandths_calls aN aD W hra).mono ?_
  rintro e w1 ⟨rfl, hb⟩
  exact ⟨by rw [hTA], hW.below hb⟩
 have HTB : Hid (∀ W, E3 w aN aD bN bD W → Calls Tryz.prog 150 #[.agg #[.int .i64 bN, .int .i64 bD]] W (fun e w1 => e = .returned (.int .i64 TB) ∧ E3 w aN aD bN bD w1)) := by
  intro W hW
  refine (thousandths_calls bN bD W hrb).mono ?_
  rintro e w1 ⟨rfl, hb⟩
  exact ⟨by rw [hTB], hW.below hb⟩
 have HEX : Hid (∀ W, E3 w aN aD bN bD W → Calls Tryz.prog 149 #[.int .i64 TA, .int .i64 TB] W (fun e w1 => e = .returned (.int .i64 X) ∧ E3 w aN aD bN bD w1)) := by
  intro W hW
  refine (expectedR_calls TA TB W (by omega) (by omega) (by omega) (by omega)).mono ?_
  rintro e w1 ⟨rfl, n, rfl⟩
  exact ⟨by rw [hX], hW.drewN n⟩
 have HFR : Hid (∀ W, E3 w aN aD bN bD W → Calls Tryz.prog 80 #[.int .i64 X, .int .i64 800000] W (fun e w1 => e = .returned (.agg #[.int .i64 N, .int .i64 D]) ∧ E3 w aN aD bN bD w1)) := by
  intro W hW
  refine (fraction_calls X 800000 W (by omega) (by omega) (by omega) (by omega)).mono ?_
  rintro e w1 ⟨rfl, hb⟩
  exact ⟨by rw [hN, hD], hW.below hb⟩
 clear hX hTA hTB hN hD
 obtain ⟨EA, hEA⟩ : ∃ x, ratF aN aD = x := ⟨_, rfl⟩
 obtain ⟨EB, hEB⟩ : ∃ x, ratF bN bD = x := ⟨_, rfl⟩
 have HA : Hid (∀ W, E3 w aN aD bN bD W → Calls Tryz.prog 148 #[.agg #[.int .i64 aN, .int .i64 aD]] W (fun e w1 => e = .returned (.int .i64 EA) ∧ E3 w aN aD bN bD w1)) := by
  intro W hW
  refine (ratingFault_calls aN aD W ha1 ha2).mono ?_
  rintro e w1 ⟨rfl, hb⟩
  exact ⟨by rw [hEA], hW.below hb⟩
 have HB : Hid (∀ W, E3 w aN aD bN bD W → Calls Tryz.prog 148 #[.agg #[.int .i64 bN, .int .i64 bD]] W (fun e w1 => e = .returned (.int .i64 EB) ∧ E3 w aN aD bN bD w1)) := by
  intro W hW
  refine (ratingFault_calls bN bD W hb1 hb2).mono ?_
  rintro e w1 ⟨rfl, hb⟩
  exact ⟨by rw [hEB], hW.below hb⟩
 have HF : Hid (∀ W, E3 w aN aD bN bD W → Calls Tryz.prog 147 #[.slice (some ⟨W.heap.size, 0, none⟩) 2 2] (W.alloc (.cells #[.int .i64 EA, .int .i64 EB] 32)) (fun e w1 => e = .returned (.int .i64 0) ∧ E3 w aN aD bN bD w1)) := by
  intro W hW
  have hr : Rd (W.alloc (.cells #[.int .i64 EA, .int .i64 EB] 32)) (W.heap.size + 5) 1 (.slice (some ⟨W.heap.size, 0, none⟩) 2 2) 2 ([EA, EB].map (Value.int .i64)) := Rd.lit W _ 1 2 #[.int .i64 EA, .int .i64 EB] _ (by omega) (by decide) rfl
  refine (first_calls (W.heap.size + 5) _ 2 2 [EA, EB] _ hr).mono ?_
  rintro e w1 ⟨rfl, n, rfl⟩
  exact ⟨by rw [← hne, hEA, hEB], (hW.alloc _).drewN n⟩
 clear hEA hEB hne
 go_enter Tryz.func99, Tryz.ntmps99
 go_wp2_with fail
 go_region_law (first
  | (go_simp; go_at_call 148; ((with_reducible refine (HA.out _ hE.drew).mono ?_); rintro e w1 ⟨rfl, hE1⟩; obtain ⟨x1, x2, x3, x4, x5, x6, x7, x8⟩ := hE1.cells))
  | (go_simp; go_at_call 148; ((with_reducible refine (HB.out w1 hE1).mono ?_); rintro e w2 ⟨rfl, hE2⟩))
  | (go_simp; go_at_call 147; ((with_reducible refine (HF.out w2 hE2).mono ?_); rintro e w3 ⟨rfl, hE3⟩)))
 all_goals
  clear hE hE1 hE2 x1 x2 x3 x4 x5 x6 x7 x8
  obtain ⟨x1, x2, x3, x4, x5, x6, x7, x8⟩ := hE3.cells
  go_wp2_with fail
  go_region_law (first
   | (go_simp; go_at_call 150; ((with_reducible refine (HTA.out _ hE3.drew).mono ?_); rintro e w4 ⟨rfl, hE4⟩; obtain ⟨y1, y2, y3, y4, y5, y6, y7, y8⟩ := hE4.cells))
   | (go_simp; go_at_call 150; ((with_reducible refine (HTB.out w4 hE4).mono ?_); rintro e w5 ⟨rfl, hE5⟩))
   | (go_simp; go_at_call 149; ((with_reducible refine (HEX.out w5 hE5).mono ?_); rintro e w6 ⟨rfl, hE6⟩))
   | (go_simp; go_at_call 80; ((with_reducible refine (HFR.out w6 hE6).mono ?_); rintro e w7 ⟨rfl, hE7⟩; obtain ⟨z1, z2, z3, z4, z5, z6, z7, z8⟩ := hE7.cells)))
  all_goals
   clear x1 x2 x3 x4 x5 x6 x7 x8
   clear y1 y2 y3 y4 y5 y6 y7 y8
   go_wp2_with fail
   refine bodyPost_ret (v := .tuple #[.agg #[.int .i64 N, .int .i64 D], .int .i64 0]) (by simp [results, Tryz.results99, go_sem, z5, z6]) rfl ⟨rfl, ?_⟩
   exact (hE7.1.setCell (p := ⟨w.heap.size + 2, 0, none⟩) (by simp) _).setCell (p := ⟨w.heap.size + 2, 1, none⟩) (by simp) _
end Go.Proofs.YtapgnaimbgjcnaaGreatDoor
/-
  marathon.Timetable by a contract.
-/
namespace Go.Proofs.YtapgnaimbgjcnaaGreatDoor
open Go Go.RowKit
def tabE (f : Int) (xs : List Slt) : Int := firstE [slotsF xs, fromF f xs]
def tabL (f : Int) (xs : List Slt) : List Plc := if tabE f xs = 0 then placesF f xs else []
def TabS (l : List Plc) (er : Int) (w : World) (e : Ending) (w' : World) : Prop :=
 ∃ v, e = .returned (.tuple #[v, .int .i64 er]) ∧ w'.ownsRow w.heap.size 249 4 v l.length (l.flatMap plcC) ∧ Below w.heap.size w w'
set_option maxRecDepth 100000 in
theorem timetableX_calls (b : Nat) (A : Option Addr) (n c : Nat) (xs : List Slt) (f : Int) (w : World) (hr : Slts w b A n c xs) (hn : n ≤ 1000) (hf : -4398046511104 ≤ f ∧ f ≤ 4398046511104) (hb : b < w.heap.size) :
 Calls Tryz.prog 100 #[.slice A n c, .int .i64 f] w (TabS (tabL f xs) (tabE f xs) w) := by
 obtain ⟨E, hE⟩ : ∃ E, tabE f xs = E := ⟨_, rfl⟩
 have hL : tabL f xs = if E = 0 then placesF f xs else [] := by rw [← hE]; rfl
 have HE : Hid (firstE [slotsF xs, fromF f xs] = E) := hE
 rw [hE]
 have HR := Lib.hid hr
 have HF := Lib.hid hf
 clear hr hE hf
 by_cases hz : E = 0
 · rw [if_pos hz] at hL
   rw [hL]
   subst hz
   clear hL
   go_enter Tryz.func100, Tryz.ntmps100
   go_wp2_with fail
   refine (checkSlots_calls b A n c xs _ HR.out hb).mono ?_
   rintro e w1 ⟨rfl, hb1⟩
   have hz1 := hb1.size
   go_wp2_with fail
   refine (fromFault_calls b A n c xs f _ (HR.out.below hb1) hn HF.out (by omega)).mono ?_
   rintro e w2 ⟨rfl, hb2⟩
   have hz2 := hb2.size
   have hb2' := below_call hb1 hb2 (Nat.le_refl _)
   go_wp2_with fail
   refine (first_calls b _ 2 2 [slotsF xs, fromF f xs] _ (Rd.lit w2 b 1 2 #[.int .i64 (slotsF xs), .int .i64 (fromF f xs)] 32 (by omega) (by decide) rfl)).mono ?_
   rintro e w3 ⟨rfl, nq, rfl⟩
   rw [HE.out]
   have hb3 := below_drewN (hb2'.alloc (by omega) (.cells #[.int .i64 (slotsF xs), .int .i64 (fromF f xs)] 32)) nq
   go_wp2_with fail
   refine (timetable_calls b A n c xs f _ (HR.out.below hb3) hn HF.out).mono ?_
   rintro e w4 ⟨v, rfl, hown, hb4⟩
   have hb5 := below_call hb3 hb4 (Nat.le_refl _)
   have hown2 := own_base hown hb3.size
   go_wp2_with fail
   refine bodyPost_ret (v := .tuple #[v, .int .i64 0]) (by simp [results, Tryz.results100, go_sem]) rfl ⟨v, rfl, hown2, hb5⟩
 · rw [if_neg hz] at hL
   rw [hL]
   have hz' : (E != 0) = true := by rw [bne_iff_ne]; exact hz
   clear hL
   go_enter Tryz.func100, Tryz.ntmps100
   go_wp2_with fail
   refine (checkSlots_calls b A n c xs _ HR.out hb).mono ?_
   rintro e w1 ⟨rfl, hb1⟩
   have hz1 := hb1.size
   go_wp2_with fail
   refine (fromFault_calls b A n c xs f _ (HR.out.below hb1) hn HF.out (by omega)).mono ?_
   rintro e w2 ⟨rfl, hb2⟩
   have hz2 := hb2.size
   have hb2' := below_call hb1 hb2 (Nat.le_refl _)
   go_wp2_with fail
   refine (first_calls b _ 2 2 [slotsF xs, fromF f xs] _ (Rd.lit w2 b 1 2 #[.int .i64 (slotsF xs), .int .i64 (fromF f xs)] 32 (by omega) (by decide) rfl)).mono ?_
   rintro e w3 ⟨rfl, nq, rfl⟩
   rw [HE.out]
   have hb3 := below_drewN (hb2'.alloc (by omega) (.cells #[.int .i64 (slotsF xs), .int .i64 (fromF f xs)] 32)) nq
   go_wp2_with fail
   refine bodyPost_ret (v := .tuple #[.slice none 0 0, .int .i64 E]) (by simp [results, Tryz.results100, go_sem]) rfl ⟨_, rfl, World.ownsRow_nil _ _ _ _, hb3⟩
end Go.Proofs.YtapgnaimbgjcnaaGreatDoor
/-
  splitkeep2.errs and splitkeep2.ready by contracts: ready answers true. (Printed by gen_ready.py.)
-/
namespace Go.Proofs.YtapgnaimbgjcnaaGreatDoor
open Go Go.RowKit
set_option maxRecDepth 100000 in
theorem errsK_calls (b : Nat) (A : Option Addr) (n c : Nat) (l : List Int) (w : World) (hr : Rd w b 1 (.slice A n c) n (l.map (Value.int .i64))) :
 Calls Tryz.prog 42 #[.slice A n c] w (QRet (.int .i64 (firstE l)) w) := by
 obtain ⟨A', c', e1, e2, e3, e4, e5, e6⟩ := hr
 injection e1 with ea eb ec
 subst ea ec
 unfold maxLen at e3
 have hl : l.length = n := by simpa using e4
 have HL := Lib.hid hl
 have HC := Lib.hid e6
 clear e4 e5 e6 hl
 go_enter Tryz.func42, Tryz.ntmps42
 go_wp2_with fail
 go_loop [7] (fun i => ∃ k : Nat, k ≤ n ∧ i = .int .i64 k ∧ Hid (firstE l = firstE (l.drop k))) (fun i => n - (intOf i).toNat)
 case atStart => exact ⟨0, Nat.zero_le _, rfl, rfl⟩
 case round =>
  obtain ⟨k, hk, rfl, HF⟩ := hrel
  by_cases hlt : k < n
  · have hkr : k < l.length := by rw [HL.out]; exact hlt
    obtain ⟨g, o, hA, _, hcs⟩ := HC.out (by omega)
    subst hA
    have hst := HF.out.trans (firstE_step l k hkr)
    have c0 := hcs k _ (by rw [List.getElem?_map, List.getElem?_eq_getElem hkr]; rfl)
    clear hcs
    obtain ⟨z, hz⟩ : ∃ z, l[k] = z := ⟨_, rfl⟩
    rw [hz] at c0 hst
    clear hz
    by_cases h0 : z = 0
    · subst h0
      rw [if_pos rfl] at hst
      have HS := Lib.hid hst
      clear hst
      go_wp2_with fail
      go_round
      case rel => exact ⟨k + 1, by omega, by go_num, HS⟩
      case measure => simp [intOf]; omega
    · rw [if_neg h0] at hst
      have HS := Lib.hid hst
      have hne : (z != 0) = true := by rw [bne_iff_ne]; exact h0
      clear hst
      go_wp2_with fail
      go_ret
      exact ⟨ret_int HS.out.symm, 0, rfl⟩
  · obtain rfl : k = n := by omega
    have HS := Lib.hid (HF.out.trans (by rw [List.drop_of_length_le (by rw [HL.out]; exact Nat.le_refl _)]; rfl : _ = (0 : Int)))
    go_wp2_with fail
    go_ret
    exact ⟨ret_int HS.out.symm, 0, rfl⟩
def rdyX : Slt := ⟨⟨#[97]⟩, ⟨#[98]⟩, none, 0, [], 5, 10⟩
theorem rdy_E : tabE 1 [rdyX] = 0 := by decide +kernel
theorem rdy_L : tabL 1 [rdyX] = [(⟨#[97]⟩, 1, 6, 16)] := by
 unfold tabL
 rw [if_pos rdy_E]
 rfl
theorem rdy1600 : RatOK 1600 1 := ⟨by decide, by decide, by decide, by decide, by decide, by decide⟩
theorem rdy1400 : RatOK 1400 1 := ⟨by decide, by decide, by decide, by decide, by decide, by decide⟩
theorem rdySlts (b : Nat) (w : World) (hb : b < w.heap.size) : Slts (w.alloc (.cells #[.string ⟨#[97]⟩, .string ⟨#[98]⟩, .slice none 0 0, .int .i64 5, .int .i64 10] 156)) b (some ⟨w.heap.size, 0, none⟩) 1 1 [rdyX] := by
 have hrd : Rd (w.alloc (.cells #[.string ⟨#[97]⟩, .string ⟨#[98]⟩, .slice none 0 0, .int .i64 5, .int .i64 10] 156)) b 5 (.slice (some ⟨w.heap.size, 0, none⟩) 1 1) 1 ([rdyX].flatMap sltC) := Rd.lit0 (n := 1) hb (by decide) rfl
 exact ⟨hrd, fun x hx => by
  simp at hx
  subst hx
  exact ⟨Rd.nil _ _ _, by decide, by decide, (by intro s hs; cases hs), by decide, by decide, by decide⟩⟩
set_option maxRecDepth 100000 in
set_option maxHeartbeats 1000000 in
theorem ready_calls (b : Nat) (w : World) (hb : b < w.heap.size) (ht : Tab w) : Calls Tryz.prog 45 #[] w (BRet (.bool true) w) := by
 have HW := Lib.hid (timeWrite1_calls w ht)
 have HT : Hid (∀ W : World, Calls Tryz.prog 98 #[.string ⟨#[40, 97, 61, 120, 41, 111, 114, 32, 104, 97, 115, 32, 98]⟩] W (BRet (.tuple #[.string ⟨#[97, 32, 61, 32, 120, 32, 111, 114, 32, 104, 97, 115, 32, 98]⟩, .int .i64 0, .int .i64 0]) W)) := fun W => tidyLit_calls W
 have h1 := fun W : World => expected1_calls 1600 1 1400 1 W ⟨by omega, by omega⟩ ⟨by omega, by omega⟩ ⟨by omega, by omega⟩ ⟨by omega, by omega⟩ rdy1600 rdy1400 (by decide)
 have e1 : RatP.lowN (RatP.expd (thou 1600 1) (thou 1400 1)) 800000 = 3 := by decide
 have e2 : RatP.lowD (RatP.expd (thou 1600 1) (thou 1400 1)) 800000 = 4 := by decide
 rw [e1, e2] at h1
 have H1 := Lib.hid h1
 have HTT : Hid (∀ (W : World) (G : Nat), W.heap.size = G → w.heap.size ≤ W.heap.size → Calls Tryz.prog 100 #[.slice (some ⟨G, 0, none⟩) 1 1, .int .i64 1] (W.alloc (.cells #[.string ⟨#[97]⟩, .string ⟨#[98]⟩, .slice none 0 0, .int .i64 5, .int .i64 10] 156)) (TabS [(⟨#[97]⟩, 1, 6, 16)] 0 (W.alloc (.cells #[.string ⟨#[97]⟩, .string ⟨#[98]⟩, .slice none 0 0, .int .i64 5, .int .i64 10] 156)))) := fun W G hG hW => by
  subst hG
  have := timetableX_calls b _ 1 1 [rdyX] 1 _ (rdySlts b W (by omega)) (by omega) (by omega) (by simp; omega)
  rw [rdy_E, rdy_L] at this
  exact this
 have HE : Hid (∀ W : World, w.heap.size ≤ W.heap.size → Calls Tryz.prog 42 #[.slice (some ⟨W.heap.size, 0, none⟩) 4 4] (W.alloc (.cells #[.int .i64 0, .int .i64 0, .int .i64 0, .int .i64 0] 32)) (QRet (.int .i64 0) (W.alloc (.cells #[.int .i64 0, .int .i64 0, .int .i64 0, .int .i64 0] 32)))) := fun W hW =>
  errsK_calls b _ 4 4 [0, 0, 0, 0] _ (Rd.lit0 (n := 4) (by omega) (by decide) rfl)
 clear h1 e1 e2 ht
 go_enter Tryz.func45, Tryz.ntmps45
 go_wp2_with fail
 refine HW.out.mono ?_
 rintro e w1 ⟨rfl, hb1⟩
 go_wp2_with fail
 refine (HT.out _).mono ?_
 rintro e w2 ⟨rfl, hb2⟩
 have hB2 := below_call hb1 hb2 (Nat.le_refl _)
 go_wp2_with fail
 refine (H1.out _).mono ?_
 rintro e w3 ⟨rfl, hb3⟩
 have hB3 := below_call hB2 hb3 (Nat.le_refl _)
 have hS3 := (Sq.start w).callB hB3
 have hS4 := hS3.add #[.int .i64 3, .int .i64 4] 73
 have hz4 := hS4.size
 clear hS3 hB2 hb2 hb1
 go_wp2_with fail
 with_reducible refine (HTT.out _ (w3.heap.size + 1) (size1 _ _) hz4).mono ?_
 rintro e w5 ⟨v, rfl, hown, hb5⟩
 have hS5 := (hS4.alloc _).callB hb5
 obtain ⟨g, cap, hv, _⟩ := hown.form (by decide)
 subst hv
 have k1 : w5.cell? ⟨w3.heap.size, 1, none⟩ = some (.int .i64 4) := Blk.cell (hS5.nth 0 rfl) 1
 have hlt5 : w3.heap.size < w5.heap.size := (Blk.lt (hS5.nth 0 rfl : Blk w5 w3.heap.size _ _))
 have hz5 := hS5.size
 clear hS4 hown hb5
 go_wp2_with fail
 with_reducible refine (HE.out _ hz5).mono ?_
 rintro e w6 ⟨rfl, nq, rfl⟩
 go_wp2_with fail
 go_ret
 exact ⟨rfl, below_drewN (hS5.below.alloc hz5 _) nq⟩
end Go.Proofs.YtapgnaimbgjcnaaGreatDoor
