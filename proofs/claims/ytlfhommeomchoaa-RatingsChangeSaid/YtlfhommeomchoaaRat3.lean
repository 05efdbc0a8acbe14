/-
  splitref2.ExpectedOf by a contract.
-/
import Derived.Test.YtlfhommeomchoaaRat2
namespace Go.Proofs.Ytlfhommeomchoaa
open Go Go.RowKit

theorem mul_bd {x y X Y : Int} (h0 : -X ≤ x) (h1 : x ≤ X) (k0 : 0 ≤ y) (k1 : y ≤ Y) (hX : 0 ≤ X) : -(X * Y) ≤ x * y ∧ x * y ≤ X * Y := by
  have a1 := Int.mul_le_mul_of_nonneg_right h1 k0
  have a2 := Int.mul_le_mul_of_nonneg_left k1 hX
  have a3 := Int.mul_le_mul_of_nonneg_right h0 k0
  rw [Int.neg_mul] at a3
  omega

/-- two right ratings' expectation, before it is brought to lowest terms -/
def expN (aN aD bN bD : Int) : Int := min (max (aN * bD - bN * aD + 400 * aD * bD) 0) (800 * aD * bD)
def expD (aD bD : Int) : Int := 800 * aD * bD

set_option maxRecDepth 100000 in
theorem expectedOf_calls (aN aD bN bD : Int) (w : World) (ha : RatOK aN aD) (hb : RatOK bN bD) :
    Calls Try.prog 16 #[.agg #[.int .i64 aN, .int .i64 aD], .agg #[.int .i64 bN, .int .i64 bD]] w (FracB (RatP.lowN (expN aN aD bN bD) (expD aD bD)) (RatP.lowD (expN aN aD bN bD) (expD aD bD)) w) := by
  have a1 := ha.d1
  have a2 := ha.d2
  have a3 := ha.lo
  have a4 := ha.hi
  have b1 := hb.d1
  have b2 := hb.d2
  have b3 := hb.lo
  have b4 := hb.hi
  have p1 := mul_bd (x := aN) (y := bD) (X := 10000000) (Y := 1000) (by omega) (by omega) (by omega) b2 (by omega)
  have p2 := mul_bd (x := bN) (y := aD) (X := 10000000) (Y := 1000) (by omega) (by omega) (by omega) a2 (by omega)
  have p3 := mul_bd (x := 400 * aD) (y := bD) (X := 400000) (Y := 1000) (by omega) (by omega) (by omega) b2 (by omega)
  have p4 := mul_bd (x := 800 * aD) (y := bD) (X := 800000) (Y := 1000) (by omega) (by omega) (by omega) b2 (by omega)
  have p5 : 0 < 800 * aD * bD := Int.mul_pos (by omega) (by omega)
  have hA : ∀ o1 o2 o3 : Obj, Below w.heap.size w (((w.alloc o1).alloc o2).alloc o3) := fun o1 o2 o3 => (((Below.refl _ _).alloc (Nat.le_refl _) _).alloc (by simp) _).alloc (by simp; omega) _
  obtain ⟨m, hm⟩ : ∃ m, expN aN aD bN bD = m := ⟨_, rfl⟩
  have hm1 : 0 ≤ m ∧ m ≤ 800 * aD * bD := by rw [← hm]; unfold expN; omega
  rw [hm]
  have HM := Lib.hid (show min (max (aN * bD - bN * aD + 400 * aD * bD) 0) (800 * aD * bD) = m from hm)
  have HD := Lib.hid (show expD aD bD = 800 * aD * bD from rfl)
  rw [HD.out]
  clear hm a3 a4 b3 b4 ha hb
  go_enter Try.func16, Try.ntmps16
  go_wp2_with fail
  have q1 : IntKind.i64.wrap (aN * bD) = aN * bD := IntWalk.i64_in _ ⟨by omega, by omega⟩
  have q2 : IntKind.i64.wrap (bN * aD) = bN * aD := IntWalk.i64_in _ ⟨by omega, by omega⟩
  have q3 : IntKind.i64.wrap (aN * bD - bN * aD) = aN * bD - bN * aD := IntWalk.i64_in _ ⟨by omega, by omega⟩
  have q4 : IntKind.i64.wrap (400 * aD) = 400 * aD := IntWalk.i64_in _ ⟨by omega, by omega⟩
  have q5 : IntKind.i64.wrap (400 * aD * bD) = 400 * aD * bD := IntWalk.i64_in _ ⟨by omega, by omega⟩
  have q6 : IntKind.i64.wrap (aN * bD - bN * aD + 400 * aD * bD) = aN * bD - bN * aD + 400 * aD * bD := IntWalk.i64_in _ ⟨by omega, by omega⟩
  have q7 : IntKind.i64.wrap (800 * aD) = 800 * aD := IntWalk.i64_in _ ⟨by omega, by omega⟩
  have q8 : IntKind.i64.wrap (800 * aD * bD) = 800 * aD * bD := IntWalk.i64_in _ ⟨by omega, by omega⟩
  go_quiet (fail)
  clear q1 q2 q3 q4 q5 q6 q7 q8
  go_wp2_with fail
  · have hX : 800 * aD * bD = m := by have := HM.out; omega
    have hN := congrArg (fun z => RatP.lowN z (800 * aD * bD)) hX
    have hD := congrArg (fun z => RatP.lowD z (800 * aD * bD)) hX
    refine (lowest_calls (800 * aD * bD) (800 * aD * bD) _ (by omega) (by omega) (by omega) (by omega)).mono ?_
    rintro e w1 ⟨rfl, hb1⟩
    rw [hN, hD]
    have B0 : Blk w1 (w.heap.size + 2) 27 #[.int .i64 0, .int .i64 0] := by
      have := (Blk.drewN (Blk.new ((w.alloc (.cells #[.int .i64 aN, .int .i64 aD] 27)).alloc (.cells #[.int .i64 bN, .int .i64 bD] 27)) 27 #[.int .i64 0, .int .i64 0]) _).below hb1
      simpa using this
    obtain ⟨b1, b2, b3, b4⟩ := B0.two
    have hbl := below_call (below_drewN (hA _ _ _) _) hb1 (Nat.le_refl _)
    clear hN hD hX
    generalize RatP.lowN m (800 * aD * bD) = N at *
    generalize RatP.lowD m (800 * aD * bD) = D at *
    go_wp2_with fail
    refine bodyPost_ret (v := .agg #[.int .i64 N, .int .i64 D]) (by simp [results, Try.results16, go_sem, b1, b2]) rfl ⟨rfl, ?_⟩
    exact (hbl.setCell (p := ⟨w.heap.size + 2, 0, none⟩) (by simp) _).setCell (p := ⟨w.heap.size + 2, 1, none⟩) (by simp) _
  · have hX : 0 = m := by have := HM.out; omega
    have hN := congrArg (fun z => RatP.lowN z (800 * aD * bD)) hX
    have hD := congrArg (fun z => RatP.lowD z (800 * aD * bD)) hX
    refine (lowest_calls (0) (800 * aD * bD) _ (by omega) (by omega) (by omega) (by omega)).mono ?_
    rintro e w1 ⟨rfl, hb1⟩
    rw [hN, hD]
    have B0 : Blk w1 (w.heap.size + 2) 27 #[.int .i64 0, .int .i64 0] := by
      have := (Blk.drewN (Blk.new ((w.alloc (.cells #[.int .i64 aN, .int .i64 aD] 27)).alloc (.cells #[.int .i64 bN, .int .i64 bD] 27)) 27 #[.int .i64 0, .int .i64 0]) _).below hb1
      simpa using this
    obtain ⟨b1, b2, b3, b4⟩ := B0.two
    have hbl := below_call (below_drewN (hA _ _ _) _) hb1 (Nat.le_refl _)
    clear hN hD hX
    generalize RatP.lowN m (800 * aD * bD) = N at *
    generalize RatP.lowD m (800 * aD * bD) = D at *
    go_wp2_with fail
    refine bodyPost_ret (v := .agg #[.int .i64 N, .int .i64 D]) (by simp [results, Try.results16, go_sem, b1, b2]) rfl ⟨rfl, ?_⟩
    exact (hbl.setCell (p := ⟨w.heap.size + 2, 0, none⟩) (by simp) _).setCell (p := ⟨w.heap.size + 2, 1, none⟩) (by simp) _
  · have hX : aN * bD - bN * aD + 400 * aD * bD = m := by have := HM.out; omega
    have hN := congrArg (fun z => RatP.lowN z (800 * aD * bD)) hX
    have hD := congrArg (fun z => RatP.lowD z (800 * aD * bD)) hX
    refine (lowest_calls (aN * bD - bN * aD + 400 * aD * bD) (800 * aD * bD) _ (by omega) (by omega) (by omega) (by omega)).mono ?_
    rintro e w1 ⟨rfl, hb1⟩
    rw [hN, hD]
    have B0 : Blk w1 (w.heap.size + 2) 27 #[.int .i64 0, .int .i64 0] := by
      have := (Blk.drewN (Blk.new ((w.alloc (.cells #[.int .i64 aN, .int .i64 aD] 27)).alloc (.cells #[.int .i64 bN, .int .i64 bD] 27)) 27 #[.int .i64 0, .int .i64 0]) _).below hb1
      simpa using this
    obtain ⟨b1, b2, b3, b4⟩ := B0.two
    have hbl := below_call (below_drewN (hA _ _ _) _) hb1 (Nat.le_refl _)
    clear hN hD hX
    generalize RatP.lowN m (800 * aD * bD) = N at *
    generalize RatP.lowD m (800 * aD * bD) = D at *
    go_wp2_with fail
    refine bodyPost_ret (v := .agg #[.int .i64 N, .int .i64 D]) (by simp [results, Try.results16, go_sem, b1, b2]) rfl ⟨rfl, ?_⟩
    exact (hbl.setCell (p := ⟨w.heap.size + 2, 0, none⟩) (by simp) _).setCell (p := ⟨w.heap.size + 2, 1, none⟩) (by simp) _
end Go.Proofs.Ytlfhommeomchoaa
