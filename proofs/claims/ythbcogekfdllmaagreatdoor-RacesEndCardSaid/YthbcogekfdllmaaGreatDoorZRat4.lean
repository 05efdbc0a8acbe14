/-
  race.Expected by a contract.
-/
import Derived.Test.YthbcogekfdllmaaGreatDoorZRat1
import Derived.Deep.RegionLaw
import Derived.Deep.RegionWith
import Derived.Deep.DrawnRows
namespace Go.Proofs.YthbcogekfdllmaaGreatDoor
open Go Go.RowKit
attribute [local go_sem ↓] Go.wp_at_zero Go.wp_at_succ

/-- a fraction and an error were returned -/
def FracE (n d er : Int) (w : World) (e : Ending) (w' : World) : Prop := e = .returned (.tuple #[.agg #[.int .i64 n, .int .i64 d], .int .i64 er]) ∧ Below w.heap.size w w'

/-- the three blocks of Expected: both ratings and the result -/
def E3 (w : World) (aN aD bN bD : Int) (w' : World) : Prop :=
  Below w.heap.size w w' ∧ w.heap.size + 3 ≤ w'.heap.size ∧ Blk w' w.heap.size 132 #[.int .i64 aN, .int .i64 aD] ∧ Blk w' (w.heap.size + 1) 132 #[.int .i64 bN, .int .i64 bD] ∧ Blk w' (w.heap.size + 2) 132 #[.int .i64 0, .int .i64 0]
theorem E3.start (w : World) (aN aD bN bD : Int) : E3 w aN aD bN bD (((w.alloc (.cells #[.int .i64 aN, .int .i64 aD] 132)).alloc (.cells #[.int .i64 bN, .int .i64 bD] 132)).alloc (.cells #[.int .i64 0, .int .i64 0] 132)) := by
  refine ⟨(((Below.refl _ _).alloc (Nat.le_refl _) _).alloc (by simp) _).alloc (by simp; omega) _, by simp, ((Blk.new w _ _).alloc _).alloc _, ?_, ?_⟩
  · have := (Blk.new (w.alloc (.cells #[.int .i64 aN, .int .i64 aD] 132)) 132 #[.int .i64 bN, .int .i64 bD]).alloc (.cells #[.int .i64 0, .int .i64 0] 132)
    simpa using this
  · have := Blk.new ((w.alloc (.cells #[.int .i64 aN, .int .i64 aD] 132)).alloc (.cells #[.int .i64 bN, .int .i64 bD] 132)) 132 #[.int .i64 0, .int .i64 0]
    simpa using this
section
variable {w w1 w2 : World} {aN aD bN bD : Int}
theorem E3.below (h : E3 w aN aD bN bD w1) (k : Below w1.heap.size w1 w2) : E3 w aN aD bN bD w2 := by
  obtain ⟨h1, h2, h3, h4, h5⟩ := h
  exact ⟨below_call h1 k (Nat.le_refl _), Nat.le_trans h2 k.size, h3.below k, h4.below k, h5.below k⟩
theorem E3.drew (h : E3 w aN aD bN bD w1) : E3 w aN aD bN bD w1.drew := h.below (below_drewN (Below.refl _ _) 1)
theorem E3.drewN (h : E3 w aN aD bN bD w1) (n : Nat) : E3 w aN aD bN bD (w1.drewN n) := h.below (below_drewN (Below.refl _ _) n)
theorem E3.alloc (h : E3 w aN aD bN bD w1) (o : Obj) : E3 w aN aD bN bD (w1.alloc o) := h.below ((Below.refl _ _).alloc (Nat.le_refl _) _)
theorem E3.cells (h : E3 w aN aD bN bD w1) : w1.cell? ⟨w.heap.size, 0, none⟩ = some (.int .i64 aN) ∧ w1.cell? ⟨w.heap.size, 1, none⟩ = some (.int .i64 aD) ∧ w1.cell? ⟨w.heap.size + 1, 0, none⟩ = some (.int .i64 bN) ∧ w1.cell? ⟨w.heap.size + 1, 1, none⟩ = some (.int .i64 bD) ∧
    w1.cell? ⟨w.heap.size + 2, 0, none⟩ = some (.int .i64 0) ∧ w1.cell? ⟨w.heap.size + 2, 1, none⟩ = some (.int .i64 0) ∧ w1.frozen? ⟨w.heap.size + 2, 0, none⟩ = false ∧ w1.frozen? ⟨w.heap.size + 2, 1, none⟩ = false := by
  obtain ⟨_, _, h3, h4, h5⟩ := h
  exact ⟨h3.two.1, h3.two.2.1, h4.two.1, h4.two.2.1, h5.two.1, h5.two.2.1, h5.two.2.2.1, h5.two.2.2.2⟩
end

end Go.Proofs.YthbcogekfdllmaaGreatDoor
/-
  race.Expected of right ratings, by a contract.
-/
namespace Go.Proofs.YthbcogekfdllmaaGreatDoor
open Go Go.RowKit
attribute [local go_sem ↓] Go.wp_at_zero Go.wp_at_succ

set_option maxRecDepth 100000 in
set_option maxHeartbeats 2000000 in
theorem expected1_calls (aN aD bN bD : Int) (w : World) (ha1 : I64 aN) (ha2 : I64 aD) (hb1 : I64 bN) (hb2 : I64 bD) (hra : RatOK aN aD) (hrb : RatOK bN bD) (hne : firstE [ratF aN aD, ratF bN bD] = 0) :
    Calls Tryz.prog 58 #[.agg #[.int .i64 aN, .int .i64 aD], .agg #[.int .i64 bN, .int .i64 bD]] w (FracE (RatP.lowN (RatP.expd (thou aN aD) (thou bN bD)) 800000) (RatP.lowD (RatP.expd (thou aN aD) (thou bN bD)) 800000) 0 w) := by
  have hE := E3.start w aN aD bN bD
  have ta := thou_bd hra
  have tb := thou_bd hrb
  have hx := RatP.expd_bd (thou aN aD) (thou bN bD)
  obtain ⟨X, hX⟩ : ∃ x, RatP.expd (thou aN aD) (thou bN bD) = x := ⟨_, rfl⟩
  rw [hX] at hx ⊢
  obtain ⟨TA, hTA⟩ : ∃ x, thou aN aD = x := ⟨_, rfl⟩
  obtain ⟨TB, hTB⟩ : ∃ x, thou bN bD = x := ⟨_, rfl⟩
  rw [hTA] at ta hX
  rw [hTB] at tb hX
  obtain ⟨N, hN⟩ : ∃ x, RatP.lowN X 800000 = x := ⟨_, rfl⟩
  obtain ⟨D, hD⟩ : ∃ x, RatP.lowD X 800000 = x := ⟨_, rfl⟩
  rw [hN, hD]
  have HTA : Hid (∀ W, E3 w aN aD bN bD W → Calls Tryz.prog 124 #[.agg #[.int .i64 aN, .int .i64 aD]] W (fun e w1 => e = .returned (.int .i64 TA) ∧ E3 w aN aD bN bD w1)) := by
    intro W hW
    refine (thousandths_calls aN aD W hra).mono ?_
    rintro e w1 ⟨rfl, hb⟩
    exact ⟨by rw [hTA], hW.below hb⟩
  have HTB : Hid (∀ W, E3 w aN aD bN bD W → Calls Tryz.prog 124 #[.agg #[.int .i64 bN, .int .i64 bD]] W (fun e w1 => e = .returned (.int .i64 TB) ∧ E3 w aN aD bN bD w1)) := by
    intro W hW
    refine (thousandths_calls bN bD W hrb).mono ?_
    rintro e w1 ⟨rfl, hb⟩
    exact ⟨by rw [hTB], hW.below hb⟩
  have HEX : Hid (∀ W, E3 w aN aD bN bD W → Calls Tryz.prog 123 #[.int .i64 TA, .int .i64 TB] W (fun e w1 => e = .returned (.int .i64 X) ∧ E3 w aN aD bN bD w1)) := by
    intro W hW
    refine (expectedR_calls TA TB W (by omega) (by omega) (by omega) (by omega)).mono ?_
    rintro e w1 ⟨rfl, n, rfl⟩
    exact ⟨by rw [hX], hW.drewN n⟩
  have HFR : Hid (∀ W, E3 w aN aD bN bD W → Calls Tryz.prog 122 #[.int .i64 X, .int .i64 800000] W (fun e w1 => e = .returned (.agg #[.int .i64 N, .int .i64 D]) ∧ E3 w aN aD bN bD w1)) := by
    intro W hW
    refine (fraction_calls X 800000 W (by omega) (by omega) (by omega) (by omega)).mono ?_
    rintro e w1 ⟨rfl, hb⟩
    exact ⟨by rw [hN, hD], hW.below hb⟩
  clear hX hTA hTB hN hD
  obtain ⟨EA, hEA⟩ : ∃ x, ratF aN aD = x := ⟨_, rfl⟩
  obtain ⟨EB, hEB⟩ : ∃ x, ratF bN bD = x := ⟨_, rfl⟩
  have HA : Hid (∀ W, E3 w aN aD bN bD W → Calls Tryz.prog 121 #[.agg #[.int .i64 aN, .int .i64 aD]] W (fun e w1 => e = .returned (.int .i64 EA) ∧ E3 w aN aD bN bD w1)) := by
    intro W hW
    refine (ratingFault_calls aN aD W ha1 ha2).mono ?_
    rintro e w1 ⟨rfl, hb⟩
    exact ⟨by rw [hEA], hW.below hb⟩
  have HB : Hid (∀ W, E3 w aN aD bN bD W → Calls Tryz.prog 121 #[.agg #[.int .i64 bN, .int .i64 bD]] W (fun e w1 => e = .returned (.int .i64 EB) ∧ E3 w aN aD bN bD w1)) := by
    intro W hW
    refine (ratingFault_calls bN bD W hb1 hb2).mono ?_
    rintro e w1 ⟨rfl, hb⟩
    exact ⟨by rw [hEB], hW.below hb⟩
  have HF : Hid (∀ W, E3 w aN aD bN bD W → Calls Tryz.prog 77 #[.slice (some ⟨W.heap.size, 0, none⟩) 2 2] (W.alloc (.cells #[.int .i64 EA, .int .i64 EB] 29)) (fun e w1 => e = .returned (.int .i64 0) ∧ E3 w aN aD bN bD w1)) := by
    intro W hW
    have hr : Rd (W.alloc (.cells #[.int .i64 EA, .int .i64 EB] 29)) (W.heap.size + 5) 1 (.slice (some ⟨W.heap.size, 0, none⟩) 2 2) 2 ([EA, EB].map (Value.int .i64)) := Rd.lit W _ 1 2 #[.int .i64 EA, .int .i64 EB] _ (by omega) (by decide) rfl
    refine (first_calls (W.heap.size + 5) _ 2 2 [EA, EB] _ hr).mono ?_
    rintro e w1 ⟨rfl, n, rfl⟩
    exact ⟨by rw [← hne, hEA, hEB], (hW.alloc _).drewN n⟩
  clear hEA hEB hne
  go_enter Tryz.func58, Tryz.ntmps58
  go_wp2_with fail
  go_region_law (first
    | (go_simp; go_at_call 121; ((with_reducible refine (HA.out _ hE.drew).mono ?_); rintro e w1 ⟨rfl, hE1⟩; obtain ⟨x1, x2, x3, x4, x5, x6, x7, x8⟩ := hE1.cells))
    | (go_simp; go_at_call 121; ((with_reducible refine (HB.out w1 hE1).mono ?_); rintro e w2 ⟨rfl, hE2⟩))
    | (go_simp; go_at_call 77; ((with_reducible refine (HF.out w2 hE2).mono ?_); rintro e w3 ⟨rfl, hE3⟩)))
  all_goals
    clear hE hE1 hE2 x1 x2 x3 x4 x5 x6 x7 x8
    obtain ⟨x1, x2, x3, x4, x5, x6, x7, x8⟩ := hE3.cells
    go_wp2_with fail
    go_region_law (first
      | (go_simp; go_at_call 124; ((with_reducible refine (HTA.out _ hE3.drew).mono ?_); rintro e w4 ⟨rfl, hE4⟩; obtain ⟨y1, y2, y3, y4, y5, y6, y7, y8⟩ := hE4.cells))
      | (go_simp; go_at_call 124; ((with_reducible refine (HTB.out w4 hE4).mono ?_); rintro e w5 ⟨rfl, hE5⟩))
      | (go_simp; go_at_call 123; ((with_reducible refine (HEX.out w5 hE5).mono ?_); rintro e w6 ⟨rfl, hE6⟩))
      | (go_simp; go_at_call 122; ((with_reducible refine (HFR.out w6 hE6).mono ?_); rintro e w7 ⟨rfl, hE7⟩; obtain ⟨z1, z2, z3, z4, z5, z6, z7, z8⟩ := hE7.cells)))
    all_goals
      clear x1 x2 x3 x4 x5 x6 x7 x8
      clear y1 y2 y3 y4 y5 y6 y7 y8
      go_wp2_with fail
      refine bodyPost_ret (v := .tuple #[.agg #[.int .i64 N, .int .i64 D], .int .i64 0]) (by simp [results, Tryz.results58, go_sem, z5, z6]) rfl ⟨rfl, ?_⟩
      exact (hE7.1.setCell (p := ⟨w.heap.size + 2, 0, none⟩) (by simp) _).setCell (p := ⟨w.heap.size + 2, 1, none⟩) (by simp) _
end Go.Proofs.YthbcogekfdllmaaGreatDoor
