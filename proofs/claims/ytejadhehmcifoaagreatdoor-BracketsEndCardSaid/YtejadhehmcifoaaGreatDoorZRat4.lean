/-
  race.Expected by a contract.
-/
import Derived.Test.YtejadhehmcifoaaGreatDoorZRat3
import Derived.Deep.RegionLaw
import Derived.Deep.RegionWith
import Derived.Deep.DrawnRows
namespace Go.Proofs.YtejadhehmcifoaaGreatDoor
open Go Go.RowKit
attribute [local go_sem ↓] Go.wp_at_zero Go.wp_at_succ

/-- a fraction and an error were returned -/
def FracE (n d er : Int) (w : World) (e : Ending) (w' : World) : Prop := e = .returned (.tuple #[.agg #[.int .i64 n, .int .i64 d], .int .i64 er]) ∧ Below w.heap.size w w'

/-- the three blocks of Expected: both ratings and the result -/
def E3 (w : World) (aN aD bN bD : Int) (w' : World) : Prop :=
  Below w.heap.size w w' ∧ w.heap.size + 3 ≤ w'.heap.size ∧ Blk w' w.heap.size 65 #[.int .i64 aN, .int .i64 aD] ∧ Blk w' (w.heap.size + 1) 65 #[.int .i64 bN, .int .i64 bD] ∧ Blk w' (w.heap.size + 2) 65 #[.int .i64 0, .int .i64 0]
theorem E3.start (w : World) (aN aD bN bD : Int) : E3 w aN aD bN bD (((w.alloc (.cells #[.int .i64 aN, .int .i64 aD] 65)).alloc (.cells #[.int .i64 bN, .int .i64 bD] 65)).alloc (.cells #[.int .i64 0, .int .i64 0] 65)) := by
  refine ⟨(((Below.refl _ _).alloc (Nat.le_refl _) _).alloc (by simp) _).alloc (by simp; omega) _, by simp, ((Blk.new w _ _).alloc _).alloc _, ?_, ?_⟩
  · have := (Blk.new (w.alloc (.cells #[.int .i64 aN, .int .i64 aD] 65)) 65 #[.int .i64 bN, .int .i64 bD]).alloc (.cells #[.int .i64 0, .int .i64 0] 65)
    simpa using this
  · have := Blk.new ((w.alloc (.cells #[.int .i64 aN, .int .i64 aD] 65)).alloc (.cells #[.int .i64 bN, .int .i64 bD] 65)) 65 #[.int .i64 0, .int .i64 0]
    simpa using this
section
variable {w w1 w2 : World} {aN aD bN bD : Int}
theorem E3.below (h : E3 w aN aD bN bD w1) (k : Below w1.heap.size w1 w2) : E3 w aN aD bN bD w2 := by
  obtain ⟨h1, h2, h3, h4, h5⟩ := h
  exact ⟨below_call h1 k (Nat.le_refl _), Nat.le_trans h2 k.size, h3.below k, h4.below k, h5.below k⟩
theorem E3.drew (h : E3 w aN aD bN bD w1) : E3 w aN aD bN bD w1.drew := h.below (below_drewN (Below.refl _ _) 1)
theorem E3.drewN (h : E3 w aN aD bN bD w1) (n : Nat) : E3 w aN aD bN bD (w1.drewN n) := h.below (below_drewN (Below.refl _ _) n)
theorem E3.alloc (h : E3 w aN aD bN bD w1) (o : Obj) : E3 w aN aD bN bD (w1.alloc o) := h.below ((Below.refl _ _).alloc (Nat.le_refl _) _)
theorem E3.cells (h : E3 w aN aD bN bD w1) : w1.cell? ⟨w.heap.size, 0, none⟩ = some (.int .i64 aN) ∧ w1.cell? ⟨w.heap.size, 1, none⟩ = some (.int .i64 aD) ∧ w1.cell? ⟨w.heap.size + 1, 0, none⟩ = some (.int .i64 bN) ∧ w1.cell? ⟨w.heap.size + 1, 1, none⟩ = some (.int .i64 bD) ∧
    w1.cell? ⟨w.heap.size + 2, 0, none⟩ = some (.int .i64 0) ∧ w1.cell? ⟨w.heap.size + 2, 1, none⟩ = some (.int .i64 0) ∧ w1.frozen? ⟨w.heap.size + 2, 0, none⟩ = false ∧ w1.frozen? ⟨w.heap.size + 2, 1, none⟩ = false := by
  obtain ⟨_, _, h3, h4, h5⟩ := h
  exact ⟨h3.two.1, h3.two.2.1, h4.two.1, h4.two.2.1, h5.two.1, h5.two.2.1, h5.two.2.2.1, h5.two.2.2.2⟩
end

set_option maxRecDepth 100000 in
set_option maxHeartbeats 2000000 in
theorem expected0_calls (aN aD bN bD : Int) (w : World) (ha1 : I64 aN) (ha2 : I64 aD) (hb1 : I64 bN) (hb2 : I64 bD) (hne : ¬ firstE [ratF aN aD, ratF bN bD] = 0) :
    Calls Tryz.prog 25 #[.agg #[.int .i64 aN, .int .i64 aD], .agg #[.int .i64 bN, .int .i64 bD]] w (FracE 0 0 (firstE [ratF aN aD, ratF bN bD]) w) := by
  have hE := E3.start w aN aD bN bD
  obtain ⟨EA, hEA⟩ : ∃ x, ratF aN aD = x := ⟨_, rfl⟩
  obtain ⟨EB, hEB⟩ : ∃ x, ratF bN bD = x := ⟨_, rfl⟩
  obtain ⟨FE, hFE⟩ : ∃ x, firstE [ratF aN aD, ratF bN bD] = x := ⟨_, rfl⟩
  rw [hFE] at hne ⊢
  have hnb : (FE != 0) = true := by rw [bne_iff_ne]; exact hne
  have HA : Hid (∀ W, E3 w aN aD bN bD W → Calls Tryz.prog 49 #[.agg #[.int .i64 aN, .int .i64 aD]] W (fun e w1 => e = .returned (.int .i64 EA) ∧ E3 w aN aD bN bD w1)) := by
    intro W hW
    refine (ratingFault_calls aN aD W ha1 ha2).mono ?_
    rintro e w1 ⟨rfl, hb⟩
    exact ⟨by rw [hEA], hW.below hb⟩
  have HB : Hid (∀ W, E3 w aN aD bN bD W → Calls Tryz.prog 49 #[.agg #[.int .i64 bN, .int .i64 bD]] W (fun e w1 => e = .returned (.int .i64 EB) ∧ E3 w aN aD bN bD w1)) := by
    intro W hW
    refine (ratingFault_calls bN bD W hb1 hb2).mono ?_
    rintro e w1 ⟨rfl, hb⟩
    exact ⟨by rw [hEB], hW.below hb⟩
  have HF : Hid (∀ W, E3 w aN aD bN bD W → Calls Tryz.prog 48 #[.slice (some ⟨W.heap.size, 0, none⟩) 2 2] (W.alloc (.cells #[.int .i64 EA, .int .i64 EB] 29)) (fun e w1 => e = .returned (.int .i64 FE) ∧ E3 w aN aD bN bD w1)) := by
    intro W hW
    have hr : Rd (W.alloc (.cells #[.int .i64 EA, .int .i64 EB] 29)) (W.heap.size + 5) 1 (.slice (some ⟨W.heap.size, 0, none⟩) 2 2) 2 ([EA, EB].map (Value.int .i64)) := Rd.lit W _ 1 2 #[.int .i64 EA, .int .i64 EB] _ (by omega) (by decide) rfl
    refine (first_calls (W.heap.size + 5) _ 2 2 [EA, EB] _ hr).mono ?_
    rintro e w1 ⟨rfl, n, rfl⟩
    exact ⟨by rw [← hFE, hEA, hEB], (hW.alloc _).drewN n⟩
  clear hEA hEB hFE
  go_enter Tryz.func25, Tryz.ntmps25
  go_wp2_with fail
  go_region_law (first
    | (go_simp; go_at_call 49; ((with_reducible refine (HA.out _ hE.drew).mono ?_); rintro e w1 ⟨rfl, hE1⟩; obtain ⟨x1, x2, x3, x4, x5, x6, x7, x8⟩ := hE1.cells))
    | (go_simp; go_at_call 49; ((with_reducible refine (HB.out w1 hE1).mono ?_); rintro e w2 ⟨rfl, hE2⟩))
    | (go_simp; go_at_call 48; ((with_reducible refine (HF.out w2 hE2).mono ?_); rintro e w3 ⟨rfl, hE3⟩)))
  all_goals
    clear hE hE1 hE2 x1 x2 x3 x4 x5 x6 x7 x8
    obtain ⟨x1, x2, x3, x4, x5, x6, x7, x8⟩ := hE3.cells
    go_wp2_with fail
    refine bodyPost_ret (v := .tuple #[.agg #[.int .i64 0, .int .i64 0], .int .i64 FE]) (by simp [results, Tryz.results25, go_sem, x5, x6]) rfl ⟨rfl, ?_⟩
    exact (hE3.1.setCell (p := ⟨w.heap.size + 2, 0, none⟩) (by simp) _).setCell (p := ⟨w.heap.size + 2, 1, none⟩) (by simp) _
end Go.Proofs.YtejadhehmcifoaaGreatDoor
