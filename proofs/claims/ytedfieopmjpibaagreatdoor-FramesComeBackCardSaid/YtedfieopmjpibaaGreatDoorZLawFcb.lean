/-
  FramesComeBack: the law's own walk.
-/
import Derived.Test.YtedfieopmjpibaaGreatDoorZStream
import Derived.Test.YtedfieopmjpibaaGreatDoorZFcbPure
import Derived.Test.YtedfieopmjpibaaGreatDoorZReady
import Derived.Deep.DeepCutAuto
namespace Go.Proofs.YtedfieopmjpibaaGreatDoor
open Go Go.RowKit

def rates3 : List (Int × Int) := [(60, 1), (30000, 1001), (25, 1)]
theorem rates3_at : ∀ i, ∀ hi : i < rates3.length, Rate3 rates3[i].1 rates3[i].2 := by
  intro i hi
  have hi : i < 3 := hi
  rcases (show i = 0 ∨ i = 1 ∨ i = 2 by omega) with rfl | rfl | rfl
  · exact .inl ⟨rfl, rfl⟩
  · exact .inr (.inl ⟨rfl, rfl⟩)
  · exact .inr (.inr ⟨rfl, rfl⟩)
theorem rates3_cell {w w' : World} {b : Nat} {cs : Array Value} {t : TypeId} (hcs : cs.toList = rates3.flatMap fracC) (hb : b < w.heap.size)
    (k : Bx (w.alloc (.cells cs t)).heap.size b (w.alloc (.cells cs t)) w') (i : Nat) (hi : i < 3) :
    ∃ n d : Int, w'.cell? ⟨w.heap.size, i * 2, none⟩ = some (.int .i64 n) ∧ w'.cell? ⟨w.heap.size, i * 2 + 1, none⟩ = some (.int .i64 d) ∧ Rate3 n d := by
  have hc : ∀ j, (w.alloc (.cells cs t)).cell? ⟨w.heap.size, j, none⟩ = (rates3.flatMap fracC)[j]? := fun j => by
    rw [cell_of_row _ w.heap.size j cs t (0, 0) (heap_alloc_new w _), ← hcs]; simp
  have h0 := flat_get fracC 2 fracC_len rates3 i 0 hi (by omega)
  have h1 := flat_get fracC 2 fracC_len rates3 i 1 hi (by omega)
  have hne : w.heap.size ≠ b := by omega
  exact ⟨rates3[i].1, rates3[i].2, k.cell ((hc _).trans h0) hne, k.cell ((hc _).trans h1) hne, rates3_at i hi⟩

set_option maxRecDepth 100000 in
set_option maxHeartbeats 2000000 in
theorem fcb_walk (a0 : Option Addr) (len0 cap0 : Nat) (z0 : List Int) (w : World) (w0 : InRow w a0 len0 cap0 z0) (ht : Tab w) :
    Calls Tryz.prog 3 #[.slice a0 len0 cap0] w fun e w' => e = .returned (.bool true) ∧ Below w.heap.size w w' := by
  have hs0 := strm_start w0 25
  have hb0 : Bx w.heap.size w.heap.size w (w.alloc (.cells #[.slice a0 len0 cap0, .int .i64 0] 25)) := (Bx.refl _ _ _).alloc (Nat.le_refl _) _
  obtain ⟨W0, hW0⟩ : ∃ W0, w.alloc (.cells #[.slice a0 len0 cap0, .int .i64 0] 25) = W0 := ⟨_, rfl⟩
  have hz0 : W0.heap.size = w.heap.size + 1 := by rw [← hW0]; simp
  rw [hW0] at hs0 hb0
  clear w0
  go_enter Tryz.func3, Tryz.ntmps3
  go_wp2_with fail
  refine (next_calls w.heap.size 0 3 _ (by omega) (by omega) (hs0.alloc _) (by omega)).mono ?_
  rintro e w1 ⟨v, rfl, g1, g2, hs1, hb1⟩
  obtain ⟨i, rfl⟩ := Int.eq_ofNat_of_zero_le g1
  obtain ⟨N, D, hc0, hc1, hR⟩ := rates3_cell rfl (by omega) hb1 i (by omega)
  have hI := rate3_I hR
  rw [hz0] at hc0 hc1
  have hz1 := hb1.size
  simp only [size1] at hz1
  have hbx1 := ((hb0.alloc (Nat.le_refl _) _).call hb1 (Nat.le_refl _)).alloc (Nat.le_refl _) (.cells #[.int .i64 N, .int .i64 D] 27)
  have B1 := Blk.new w1 27 #[.int .i64 N, .int .i64 D]
  clear hW0
  go_wp2_with fail
  refine (range_calls w.heap.size 1 0 1000000 _ (by omega) (by omega) (by omega) (hs1.alloc _) (by omega)).mono ?_
  rintro e w2 ⟨n, rfl, n1, n2, hs2, hb2⟩
  have hB2 := (hbx1.call hb2 (Nat.le_refl _)).below (Nat.le_refl _)
  have B2 := B1.bx hb2 (by omega)
  obtain ⟨k0, k1, _, _⟩ := B2.two
  have HFT := Lib.hid (frameTimeE_calls n N D w2 hI.1 hI.2)
  rw [rate3_ftE hR n1 n2, rate3_ftV hR n1 n2] at HFT
  have hft := rate3_ft hR n1 n2
  have HFO := Lib.hid (fun W => frameOf_calls (FrmP.ft n N D) N D W hI.1 hI.2)
  have HRT := Lib.hid (fun W => retime_calls w.heap.size 7 (7 + n) none 0 0 [] N D W hI.1 hI.2 (Rd.nil _ _ _) (by intro p hp; cases hp))
  obtain ⟨r1, r2, r3⟩ := rate3_ret hR n1 n2
  rw [r1, r2, r3] at HRT
  have HU := Lib.hid (rate3_FoP hR n1 n2)
  obtain ⟨T, hT⟩ : ∃ T, FrmP.ft n N D = T := ⟨_, rfl⟩
  rw [hT] at HFT HFO HRT HU
  have hlt2 := hs2.lt
  clear hs0 hb0 hs1 hb1 hbx1 hb2 hs2 B1 r1 r2 r3 hft hT hc0 hc1
  go_wp2_with fail
  refine HFT.out.mono ?_
  rintro e w3 ⟨rfl, hb3⟩
  have hB3 := below_call hB2 hb3 (Nat.le_refl _)
  have B3 := B2.below hb3
  clear k0 k1 HFT
  obtain ⟨k0, k1, _, _⟩ := B3.two
  go_wp2_with fail
  refine (HFO.out _).mono ?_
  rintro e w4 ⟨v, er, rfl, hfo, hb4⟩
  obtain ⟨rfl, rfl⟩ := FoP.unique hfo HU.out
  have hB4 := below_call hB3 hb4 (Nat.le_refl _)
  have B4 := B3.below hb4
  clear k0 k1 HFO hfo HU
  obtain ⟨k0, k1, _, _⟩ := B4.two
  go_wp2_with fail
  refine (HRT.out _).mono ?_
  rintro e w5 ⟨rfl, hb5⟩
  have hB5 := below_call hB4 hb5 (Nat.le_refl _)
  have hz5 := hB5.size
  have hlt5 : w.heap.size < w5.heap.size := by have := hb3.size; have := hb4.size; have := hb5.size; omega
  have HE := Lib.hid (errsK_calls w.heap.size _ 3 3 [0, 0, 0] _ (Rd.lit0 (w := w5) (cs := #[.int .i64 0, .int .i64 0, .int .i64 0]) (t := 31) (size := 1) (n := 3) hlt5 (by decide) rfl))
  have hbz := hB5.alloc hz5 (.cells #[.int .i64 0, .int .i64 0, .int .i64 0] 31)
  clear k0 k1 HRT
  go_wp2_with fail
  refine HE.out.mono ?_
  rintro e w6 ⟨rfl, nq, rfl⟩
  have hb6 := below_drewN hbz nq
  have HRD := Lib.hid (ready_calls w.heap.size _ (by show w.heap.size < (w5.alloc _).heap.size; simp; omega) (ht.below hb6))
  go_wp2_with fail
  refine HRD.out.mono ?_
  rintro e w7 ⟨rfl, hb7⟩
  have hfin := below_call hb6 hb7 (Nat.le_refl _)
  go_wp2_with fail
  go_ret
  exact ⟨rfl, hfin⟩
end Go.Proofs.YtedfieopmjpibaaGreatDoor
