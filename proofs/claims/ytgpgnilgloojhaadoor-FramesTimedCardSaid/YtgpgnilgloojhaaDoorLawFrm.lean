/-
  FramesTimed: the law's own walk.
-/
import Derived.Test.YtgpgnilgloojhaaDoorLawStart
import Derived.Test.YtgpgnilgloojhaaDoorFrmInv
import Derived.Test.YtgpgnilgloojhaaDoorFrm3
import Derived.Test.YtgpgnilgloojhaaDoorRetime2
import Derived.Test.YtgpgnilgloojhaaDoorClk
import Derived.Deep.DeepCutAuto
import Derived.Deep.RegionLaw
namespace Go.Proofs.YtgpgnilgloojhaaDoor
open Go Go.RowKit

theorem parts1_calls (b K : Nat) (w : World) (hs : Strm w b K) (hK : K ≤ 900000) :
    Calls Tryd.prog 19 #[.pointer (some ⟨b, 0, none⟩), .int .i64 1] w (PartsS 1 b (K + 7) w) := parts_calls b K 1 w hs hK (by omega)

set_option maxRecDepth 100000 in
set_option maxHeartbeats 4000000 in
theorem frames_walk (a0 : Option Addr) (len0 cap0 : Nat) (z0 : List Int) (w : World) (w0 : InRow w a0 len0 cap0 z0) (ht : Tab w) :
    Calls Tryd.prog 4 #[.slice a0 len0 cap0] w fun e w' => e = .returned (.bool true) ∧ Below w.heap.size w w' := by
  have hs0 := strm_start w0 25
  obtain ⟨W0, hW0⟩ : ∃ W0, w.alloc (.cells #[.slice a0 len0 cap0, .int .i64 0] 25) = W0 := ⟨_, rfl⟩
  rw [hW0] at hs0
  have hsz : w.heap.size + 1 ≤ W0.heap.size := by rw [← hW0]; simp
  have hbw : Below w.heap.size w W0 := by rw [← hW0]; exact (Below.refl _ _).alloc (Nat.le_refl _) _
  clear w0
  go_enter Tryd.func4, Tryd.ntmps4
  go_upto_region 2 with (fail)
  clear hW0
  go_cut [4, 5, 6, 7, 8] (fun s4 s5 s6 s7 s8 W => ∃ (g4 g7 : Nat) (N D z t p q : Int) (l : List FrmP.Part) (A : Option Addr) (c : Nat), s4 = .pointer (some ⟨g4, 0, none⟩) ∧ s5 = .int .i64 z ∧ s6 = .int .i64 t ∧ s7 = .pointer (some ⟨g7, 0, none⟩) ∧ s8 = .slice A l.length c ∧ Bx W0.heap.size w.heap.size W0 W ∧ W0.heap.size ≤ g4 ∧ W0.heap.size ≤ g7 ∧ I64 N ∧ I64 D ∧ BigI p ∧ BigI q ∧ PartI l ∧ l.length ≤ 4 ∧ Blk W g4 40 #[.int .i64 N, .int .i64 D] ∧ Blk W g7 45 #[.int .i64 p, .int .i64 q] ∧ W.ownsRow W0.heap.size 45 2 (.slice A l.length c) l.length (l.flatMap partC) ∧ (Value.slice A l.length c).ownBlock ≠ some g7 ∧ ∃ k, k ≤ 300 ∧ Strm W w.heap.size k)
  case first =>
    refine wp_region_any (by kernel_rfl) ?_
    refine wpAny_take (i := 0) (v := ?_) rfl (by kernel_rfl) (by kernel_rfl) (by kernel_rfl) (fun _ _ _ h => h) (Or.inl ⟨by rfl, ?_⟩) ?_
    rotate_left
    · intro W
      go_simp
      with_reducible rfl
    refine wpAny_take (i := 2) (v := ?_) rfl (by kernel_rfl) (by kernel_rfl) (by kernel_rfl) (fun _ _ _ h => h) (Or.inl ⟨by rfl, ?_⟩) ?_
    rotate_left
    · intro W
      go_simp
      with_reducible rfl
    refine wpAny_take (i := 5) (v := ?_) rfl (by kernel_rfl) (by kernel_rfl) (by kernel_rfl) (fun _ _ _ h => h) (Or.inl ⟨by rfl, ?_⟩) ?_
    rotate_left
    · intro W
      go_simp
      with_reducible rfl
    refine wpAny_take (i := 7) (v := ?_) rfl (by kernel_rfl) (by kernel_rfl) (by kernel_rfl) (fun _ _ _ h => h) (Or.inl ⟨by rfl, ?_⟩) ?_
    rotate_left
    · intro W
      go_simp
      with_reducible rfl
    refine wpAny_take (i := 11) (v := ?_) rfl (by kernel_rfl) (by kernel_rfl) (by kernel_rfl) (fun _ _ _ h => h) (Or.inl ⟨by rfl, ?_⟩) ?_
    rotate_left
    · intro W
      go_simp
      with_reducible rfl
    refine wpAny_take (i := 12) (v := ?_) rfl (by kernel_rfl) (by kernel_rfl) (by kernel_rfl) (fun _ _ _ h => h) (Or.inl ⟨by rfl, ?_⟩) ?_
    rotate_left
    · intro W
      go_simp
      with_reducible rfl
    refine wpAny_inv (Inv := fun li a W => ∃ (b1 b3 b4 b6 b8 b9 b10 b13 b14 b15 b16 b17 b18 b19 b20 b21 : Bool) (s4 s5 s6 s7 s8 u27 u29 u30 u32 u34 u35 u36 u39 u40 : Value), li = #[true, b1, true, b3, b4, true, b6, true, b8, b9, b10, true, true, b13, b14, b15, b16, b17, b18, b19, b20, b21] ∧ a = (⟨#[.slice a0 len0 cap0, undef, .bool false, .pointer (some ⟨w.heap.size, 0, none⟩), s4, s5, s6, s7, s8, undef, undef, undef, undef, undef, undef, undef, undef, undef, undef, undef, undef, undef, undef, .slice a0 len0 cap0, .agg #[.slice a0 len0 cap0, .int .i64 0], .pointer (some ⟨w.heap.size, 0, none⟩), .pointer (some ⟨w.heap.size, 0, none⟩), u27, .pointer (some ⟨w.heap.size, 0, none⟩), u29, u30, .pointer (some ⟨w.heap.size, 0, none⟩), u32, .pointer (some ⟨w.heap.size, 0, none⟩), u34, u35, u36, .pointer (some ⟨w.heap.size, 0, none⟩), .pointer (some ⟨w.heap.size, 0, none⟩), u39, u40, undef, undef, undef, undef, undef, undef, undef, undef, undef, undef, undef, undef, undef, undef, undef, undef, undef, undef, undef, undef, undef, undef, undef, undef, undef, undef, undef, undef, undef, undef, undef, undef, undef, undef, undef, undef, undef, undef, undef, undef, undef, undef, undef, undef, undef, undef, undef, undef, undef, undef, undef, undef, undef, undef, undef, undef, undef, undef, undef, undef, undef, undef, undef, undef, undef, undef, undef, undef, undef, undef, undef, undef, undef, undef, undef, undef, undef, undef, undef, undef, undef, undef, undef, undef], []⟩ : Act) ∧ FI W0 w.heap.size (40 * (b1.toNat + b4.toNat + b6.toNat + b8.toNat + b13.toNat + b14.toNat)) b1 b3 b4 b6 b8 b9 b10 b13 b14 b15 b16 b17 b18 b19 b20 b21 s4 s5 s6 s7 s8 u27 u29 u30 u32 u34 u35 u36 u39 u40 W) ?_ _ _ _ _ (Nat.le_of_ble_eq_true (by kernel_rfl)) (by kernel_rfl) ?_
    · rintro li a W ⟨b1, b3, b4, b6, b8, b9, b10, b13, b14, b15, b16, b17, b18, b19, b20, b21, s4, s5, s6, s7, s8, u27, u29, u30, u32, u34, u35, u36, u39, u40, rfl, rfl, hI⟩
      by_cases hall : (b1 && b3 && b4 && b6 && b8 && b9 && b10 && b13 && b14 && b15 && b16 && b17 && b18 && b19 && b20 && b21) = true
      · simp only [Bool.and_eq_true] at hall
        obtain ⟨⟨⟨⟨⟨⟨⟨⟨⟨⟨⟨⟨⟨⟨⟨rfl, rfl⟩, rfl⟩, rfl⟩, rfl⟩, rfl⟩, rfl⟩, rfl⟩, rfl⟩, rfl⟩, rfl⟩, rfl⟩, rfl⟩, rfl⟩, rfl⟩, rfl⟩ := hall
        left
        intro fuel _
        refine wpAny_done (by kernel_rfl) ?_ fuel
        obtain ⟨kk, hk1, hk2⟩ := hI.st
        obtain ⟨N, D, rfl, hN, hD⟩ := hI.c1 rfl
        obtain ⟨z, rfl⟩ := hI.c4 rfl
        obtain ⟨t, rfl⟩ := hI.c6 rfl
        obtain ⟨p, q, rfl, hp, hq⟩ := hI.c10 rfl
        obtain ⟨l, ho, hl4, hP⟩ := hI.c14 rfl
        obtain ⟨g4, rfl, hg4, _, hX4⟩ := hI.c15 rfl
        obtain ⟨g7, rfl, hg7, _, hX7⟩ := hI.c16 rfl
        obtain ⟨N1, D1, e4, hB4⟩ := hX4 rfl
        obtain ⟨p1, q1, e7, hB7⟩ := hX7 rfl
        clear hX4 hX7
        have hcd := hI.cd rfl rfl g7 rfl
        have e5 := hI.c18 rfl
        have e6 := hI.c19 rfl
        have e8 := hI.c21 rfl
        subst e5 e6 e8
        obtain ⟨A, c, hv⟩ := own_form ho
        subst hv
        injection e4 with e4
        simp at e4 e7
        obtain ⟨rfl, rfl⟩ := e4
        obtain ⟨rfl, rfl⟩ := e7
        have hbx := hI.bx
        clear hI
        go_wp2_with fail
        go_meet
        exact ⟨g4, g7, N, D, z, t, p, q, l, A, c, rfl, rfl, rfl, rfl, rfl, hbx, hg4, hg7, hN, hD, hp, hq, hP, hl4, hB4, hB7, ho, hcd, kk, by simp only [Bool.toNat_true] at hk1; omega, hk2⟩
      · right
        refine ⟨fun he => ?_, fun i hi => ?_⟩
        · clear hI
          cases b1
          · exact ready_ne he 1 rfl rfl (by rfl)
          cases b3
          · exact ready_ne he 3 rfl rfl (by rfl)
          cases b4
          · exact ready_ne he 4 rfl rfl (by rfl)
          cases b6
          · exact ready_ne he 6 rfl rfl (by rfl)
          cases b8
          · exact ready_ne he 8 rfl rfl (by rfl)
          cases b9
          · exact ready_ne he 9 rfl rfl (by rfl)
          cases b10
          · exact ready_ne he 10 rfl rfl (by rfl)
          cases b13
          · exact ready_ne he 13 rfl rfl (by rfl)
          cases b14
          · exact ready_ne he 14 rfl rfl (by rfl)
          cases b15
          · exact ready_ne he 15 rfl rfl (by rfl)
          cases b16
          · exact ready_ne he 16 rfl rfl (by rfl)
          cases b17
          · exact ready_ne he 17 rfl rfl (by rfl)
          cases b18
          · exact ready_ne he 18 rfl rfl (by rfl)
          cases b19
          · exact ready_ne he 19 rfl rfl (by rfl)
          cases b20
          · exact ready_ne he 20 rfl rfl (by rfl)
          cases b21
          · exact ready_ne he 21 rfl rfl (by rfl)
          exact hall rfl
        · obtain ⟨h0, o, ho, hd0⟩ := mem_ready.1 hi
          have hlt : i < 22 := (Array.getElem?_eq_some_iff.1 ho).1
          clear hd0 ho o hall
          have hc : i = 0 ∨ i = 1 ∨ i = 2 ∨ i = 3 ∨ i = 4 ∨ i = 5 ∨ i = 6 ∨ i = 7 ∨ i = 8 ∨ i = 9 ∨ i = 10 ∨ i = 11 ∨ i = 12 ∨ i = 13 ∨ i = 14 ∨ i = 15 ∨ i = 16 ∨ i = 17 ∨ i = 18 ∨ i = 19 ∨ i = 20 ∨ i = 21 := by omega
          rcases hc with rfl | rfl | rfl | rfl | rfl | rfl | rfl | rfl | rfl | rfl | rfl | rfl | rfl | rfl | rfl | rfl | rfl | rfl | rfl | rfl | rfl | rfl
          · cases h0
          · obtain rfl : b1 = false := h0
            clear hi
            obtain ⟨kk, hk1, hk2⟩ := hI.st
            have t4 := Bool.toNat_le b4
            have t6 := Bool.toNat_le b6
            have t8 := Bool.toNat_le b8
            have t13 := Bool.toNat_le b13
            have t14 := Bool.toNat_le b14
            have hkb : kk ≤ 240 := by simp only [Bool.toNat_false] at hk1; omega
            have hzz := hI.bx.size
            refine wpOp_step rfl (fun K hK => ?_)
            have HK := Lib.hid hK
            clear hK
            go_simp
            refine (rate_calls w.heap.size kk W hk2 (by omega)).mono ?_
            rintro e W1 ⟨N, D, rfl, hN, hD, hs1, hb1⟩
            exact HK.out _ _ ⟨true, b3, b4, b6, b8, b9, b10, b13, b14, b15, b16, b17, b18, b19, b20, b21, _, _, _, _, _, _, _, _, _, _, _, _, _, _, rfl, rfl, (hI.op1 ⟨N, D, rfl, hN, hD⟩).world hb1 ⟨_, by simp only [Bool.toNat_false, Bool.toNat_true] at hk1 ⊢; omega, hs1⟩⟩
          · cases h0
          · obtain rfl : b3 = false := h0
            clear hi
            obtain ⟨kk, hk1, hk2⟩ := hI.st
            have hzz := hI.bx.size
            refine wpOp_step rfl (fun K hK => ?_)
            have HK := Lib.hid hK
            clear hK
            go_simp
            have hw := hI.world ((Bx.refl W.heap.size w.heap.size W).alloc (Nat.le_refl _) (.cells #[.int .i64 0, .int .i64 1, .int .i64 2, .int .i64 59, .int .i64 60, .int .i64 100, .int .i64 12345, .int .i64 10000000, .int .i64 (-1), .int .i64 10000001] 3)) ⟨kk, hk1, hk2.alloc _⟩
            exact HK.out _ _ ⟨b1, true, b4, b6, b8, b9, b10, b13, b14, b15, b16, b17, b18, b19, b20, b21, _, _, _, _, _, _, _, _, _, _, _, _, _, _, rfl, rfl, hw.op3 ⟨W.heap.size, rfl, Rd.lit0 hk2.lt (by decide) rfl⟩⟩
          · obtain rfl : b4 = false := h0
            have d3 : b3 = true := ready_dep hi 3 (by kernel_rfl)
            have d1 : b1 = true := ready_dep hi 1 (by kernel_rfl)
            clear hi
            obtain ⟨kk, hk1, hk2⟩ := hI.st
            have t1 := Bool.toNat_le b1
            have t6 := Bool.toNat_le b6
            have t8 := Bool.toNat_le b8
            have t13 := Bool.toNat_le b13
            have t14 := Bool.toNat_le b14
            have hkb : kk ≤ 240 := by simp only [Bool.toNat_false] at hk1; omega
            have hzz := hI.bx.size
            obtain ⟨g, rfl, hr⟩ := hI.c3 d3 rfl
            refine wpOp_step rfl (fun K hK => ?_)
            have HK := Lib.hid hK
            clear hK
            go_simp
            refine (pick_calls w.heap.size kk _ 10 10 lits10 W (by omega) hr (by simp [lits10]) hk2 (by omega)).mono ?_
            rintro e W1 ⟨x, rfl, hm, hs1, hb1⟩
            obtain ⟨z, rfl⟩ : ∃ z, x = .int .i64 z := by
              simp [lits10] at hm
              rcases hm with rfl | rfl | rfl | rfl | rfl | rfl | rfl | rfl | rfl | rfl <;> exact ⟨_, rfl⟩
            exact HK.out _ _ ⟨b1, b3, true, b6, b8, b9, b10, b13, b14, b15, b16, b17, b18, b19, b20, b21, _, _, _, _, _, _, _, _, _, _, _, _, _, _, rfl, rfl, (hI.op4 d3 d1 ⟨z, rfl⟩).world hb1 ⟨_, by simp only [Bool.toNat_false, Bool.toNat_true] at hk1 ⊢; omega, hs1⟩⟩
          · cases h0
          · obtain rfl : b6 = false := h0
            have d4 : b4 = true := ready_dep hi 4 (by kernel_rfl)
            clear hi
            obtain ⟨kk, hk1, hk2⟩ := hI.st
            have t1 := Bool.toNat_le b1
            have t4 := Bool.toNat_le b4
            have t8 := Bool.toNat_le b8
            have t13 := Bool.toNat_le b13
            have t14 := Bool.toNat_le b14
            have hkb : kk ≤ 240 := by simp only [Bool.toNat_false] at hk1; omega
            have hzz := hI.bx.size
            refine wpOp_step rfl (fun K hK => ?_)
            have HK := Lib.hid hK
            clear hK
            go_simp
            refine (duration_calls w.heap.size kk W hk2 (by omega)).mono ?_
            rintro e W1 ⟨z, rfl, z1, z2, hs1, hb1⟩
            exact HK.out _ _ ⟨b1, b3, b4, true, b8, b9, b10, b13, b14, b15, b16, b17, b18, b19, b20, b21, _, _, _, _, _, _, _, _, _, _, _, _, _, _, rfl, rfl, (hI.op6 d4 ⟨z, rfl⟩).world hb1 ⟨_, by simp only [Bool.toNat_false, Bool.toNat_true] at hk1 ⊢; omega, hs1⟩⟩
          · cases h0
          · obtain rfl : b8 = false := h0
            have d6 : b6 = true := ready_dep hi 6 (by kernel_rfl)
            clear hi
            obtain ⟨kk, hk1, hk2⟩ := hI.st
            have t1 := Bool.toNat_le b1
            have t4 := Bool.toNat_le b4
            have t6 := Bool.toNat_le b6
            have t13 := Bool.toNat_le b13
            have t14 := Bool.toNat_le b14
            have hkb : kk ≤ 240 := by simp only [Bool.toNat_false] at hk1; omega
            have hzz := hI.bx.size
            refine wpOp_step rfl (fun K hK => ?_)
            have HK := Lib.hid hK
            clear hK
            go_simp
            refine (parts1_calls w.heap.size kk W hk2 (by omega)).mono ?_
            rintro e W1 ⟨v, l, rfl, ho, hl, hP, hs1, hb1⟩
            rw [hl] at ho
            have hw := hI.world (B' := 40 * (b1.toNat + b4.toNat + b6.toNat + true.toNat + b13.toNat + b14.toNat)) hb1 ⟨_, by simp only [Bool.toNat_false, Bool.toNat_true] at hk1 ⊢; omega, hs1⟩
            exact HK.out _ _ ⟨b1, b3, b4, b6, true, b9, b10, b13, b14, b15, b16, b17, b18, b19, b20, b21, _, _, _, _, _, _, _, _, _, _, _, _, _, _, rfl, rfl, hw.op8 d6 ⟨l, hl, own_base ho hzz, hP⟩⟩
          · obtain rfl : b9 = false := h0
            have d8 : b8 = true := ready_dep hi 8 (by kernel_rfl)
            clear hi
            have hb10 := hI.n10 rfl
            obtain ⟨l, hl, ho, hP⟩ := hI.c8 d8 hb10
            obtain ⟨g, cap, hv, hg0, hg1⟩ := ho.form (by omega)
            subst hv
            refine wpOp_step rfl (fun K hK => ?_)
            have HK := Lib.hid hK
            clear hK
            go_simp
            exact HK.out _ _ ⟨b1, b3, b4, b6, b8, true, b10, b13, b14, b15, b16, b17, b18, b19, b20, b21, _, _, _, _, _, _, _, _, _, _, _, _, _, _, rfl, rfl, hI.op9 d8 ⟨g, cap, rfl, rfl⟩⟩
          · obtain rfl : b10 = false := h0
            have d9 : b9 = true := ready_dep hi 9 (by kernel_rfl)
            clear hi
            have hb8 := hI.y8 d9
            obtain ⟨l, hl, ho, hP⟩ := hI.c8 hb8 rfl
            obtain ⟨g, cap, rfl, rfl⟩ := hI.c9 d9 rfl
            obtain ⟨⟨p, q⟩, rfl⟩ : ∃ x, l = [x] := List.length_eq_one_iff.1 hl
            have c0 := own_cell partC 2 partC_len ho 0 0 (by simp) (by omega) (by omega)
            have c1 := own_cell partC 2 partC_len ho 0 1 (by simp) (by omega) (by omega)
            simp [partC] at c0 c1
            obtain ⟨⟨i1, i2⟩, i3, i4⟩ := hP _ (List.mem_singleton.2 rfl)
            refine wpOp_step rfl (fun K hK => ?_)
            have HK := Lib.hid hK
            clear hK
            go_simp
            exact HK.out _ _ ⟨b1, b3, b4, b6, b8, b9, true, b13, b14, b15, b16, b17, b18, b19, b20, b21, _, _, _, _, _, _, _, _, _, _, _, _, _, _, rfl, rfl, hI.op10 d9 ⟨p, q, rfl, ⟨i1, i2⟩, i3, i4⟩⟩
          · cases h0
          · cases h0
          · obtain rfl : b13 = false := h0
            have d8 : b8 = true := ready_dep hi 8 (by kernel_rfl)
            clear hi
            obtain ⟨kk, hk1, hk2⟩ := hI.st
            have t1 := Bool.toNat_le b1
            have t4 := Bool.toNat_le b4
            have t6 := Bool.toNat_le b6
            have t8 := Bool.toNat_le b8
            have t14 := Bool.toNat_le b14
            have hkb : kk ≤ 240 := by simp only [Bool.toNat_false] at hk1; omega
            have hzz := hI.bx.size
            refine wpOp_step rfl (fun K hK => ?_)
            have HK := Lib.hid hK
            clear hK
            go_simp
            refine (range_calls w.heap.size kk 0 4 W (by omega) (by omega) (by omega) hk2 (by omega)).mono ?_
            rintro e W1 ⟨z, rfl, z1, z2, hs1, hb1⟩
            obtain ⟨q, rfl⟩ : ∃ q : Nat, z = (q : Int) := ⟨z.toNat, by omega⟩
            exact HK.out _ _ ⟨b1, b3, b4, b6, b8, b9, b10, true, b14, b15, b16, b17, b18, b19, b20, b21, _, _, _, _, _, _, _, _, _, _, _, _, _, _, rfl, rfl, (hI.op13 d8 ⟨q, rfl, by omega⟩).world hb1 ⟨_, by simp only [Bool.toNat_false, Bool.toNat_true] at hk1 ⊢; omega, hs1⟩⟩
          · obtain rfl : b14 = false := h0
            have d13 : b13 = true := ready_dep hi 13 (by kernel_rfl)
            clear hi
            obtain ⟨kk, hk1, hk2⟩ := hI.st
            have t1 := Bool.toNat_le b1
            have t4 := Bool.toNat_le b4
            have t6 := Bool.toNat_le b6
            have t8 := Bool.toNat_le b8
            have t13 := Bool.toNat_le b13
            have hkb : kk ≤ 240 := by simp only [Bool.toNat_false] at hk1; omega
            have hzz := hI.bx.size
            obtain ⟨q, rfl, hq⟩ := hI.c13 d13
            refine wpOp_step rfl (fun K hK => ?_)
            have HK := Lib.hid hK
            clear hK
            go_simp
            refine (parts_calls w.heap.size kk q W hk2 (by omega) (by omega)).mono ?_
            rintro e W1 ⟨v, l, rfl, ho, hl, hP, hs1, hb1⟩
            have hw := hI.world (B' := 40 * (b1.toNat + b4.toNat + b6.toNat + b8.toNat + b13.toNat + true.toNat)) hb1 ⟨_, by simp only [Bool.toNat_false, Bool.toNat_true] at hk1 ⊢; omega, hs1⟩
            have hd : b16 = true → ∀ g, s7 = .pointer (some ⟨g, 0, none⟩) → v.ownBlock ≠ some g := by
              intro h16 g hg hx
              obtain ⟨g1, e1, _, e3, e4⟩ := hI.c16 h16
              have hgg : g1 = g := by rw [hg] at e1; injection e1 with e1; injection e1 with e1; injection e1 with e1; exact e1.symm
              have h1 := (ho.lt g hx).1
              have h2 : g1 < W.heap.size := by
                cases hb : b20
                · exact (e3 hb).lt
                · obtain ⟨p, q, _, hB⟩ := e4 hb; exact hB.lt
              omega
            exact HK.out _ _ ⟨b1, b3, b4, b6, b8, b9, b10, b13, true, b15, b16, b17, b18, b19, b20, b21, _, _, _, _, _, _, _, _, _, _, _, _, _, _, rfl, rfl, hw.op14 d13 ⟨l, own_base ho hzz, by omega, hP⟩ hd⟩
          · obtain rfl : b15 = false := h0
            clear hi
            obtain ⟨kk, hk1, hk2⟩ := hI.st
            have hzz := hI.bx.size
            refine wpOp_step rfl (fun K hK => ?_)
            have HK := Lib.hid hK
            clear hK
            go_simp
            have hw := hI.world ((Bx.refl W.heap.size w.heap.size W).alloc (Nat.le_refl _) (.cells #[.int .i64 0, .int .i64 0] 40)) ⟨kk, hk1, hk2.alloc _⟩
            exact HK.out _ _ ⟨b1, b3, b4, b6, b8, b9, b10, b13, b14, true, b16, b17, b18, b19, b20, b21, _, _, _, _, _, _, _, _, _, _, _, _, _, _, rfl, rfl, hw.op15 ⟨W.heap.size, rfl, hzz, Blk.new W _ _⟩⟩
          · obtain rfl : b16 = false := h0
            clear hi
            obtain ⟨kk, hk1, hk2⟩ := hI.st
            have hzz := hI.bx.size
            refine wpOp_step rfl (fun K hK => ?_)
            have HK := Lib.hid hK
            clear hK
            go_simp
            have hw := hI.world ((Bx.refl W.heap.size w.heap.size W).alloc (Nat.le_refl _) (.cells #[.int .i64 0, .int .i64 0] 45)) ⟨kk, hk1, hk2.alloc _⟩
            have hd : b14 = true → u40.ownBlock ≠ some W.heap.size := by
              intro h14 hx
              obtain ⟨l, ho, _⟩ := hI.c14 h14
              have := (ho.lt _ hx).2
              omega
            exact HK.out _ _ ⟨b1, b3, b4, b6, b8, b9, b10, b13, b14, b15, true, b17, b18, b19, b20, b21, _, _, _, _, _, _, _, _, _, _, _, _, _, _, rfl, rfl, hw.op16 ⟨W.heap.size, rfl, hzz, Blk.new W _ _, hd⟩⟩
          · obtain rfl : b17 = false := h0
            have d15 : b15 = true := ready_dep hi 15 (by kernel_rfl)
            have d1 : b1 = true := ready_dep hi 1 (by kernel_rfl)
            have d14 : b14 = true := ready_dep hi 14 (by kernel_rfl)
            have d16 : b16 = true := ready_dep hi 16 (by kernel_rfl)
            clear hi
            have h4 := hI.y4 d14
            obtain ⟨g, rfl, hg0, hB, _⟩ := hI.c15 d15
            obtain ⟨N, D, rfl, hN, hD⟩ := hI.c1 d1
            obtain ⟨k0, k1, k2, k3⟩ := (hB rfl).two
            clear hB
            refine wpOp_step rfl (fun K hK => ?_)
            have HK := Lib.hid hK
            clear hK
            go_simp
            exact HK.out _ _ ⟨b1, b3, b4, b6, b8, b9, b10, b13, b14, b15, b16, true, b18, b19, b20, b21, _, _, _, _, _, _, _, _, _, _, _, _, _, _, rfl, rfl, hI.op17 d1 d14 d16 h4 rfl d15 rfl⟩
          · obtain rfl : b18 = false := h0
            have d4 : b4 = true := ready_dep hi 4 (by kernel_rfl)
            have d17 : b17 = true := ready_dep hi 17 (by kernel_rfl)
            clear hi
            refine wpOp_step rfl (fun K hK => ?_)
            have HK := Lib.hid hK
            clear hK
            go_simp
            exact HK.out _ _ ⟨b1, b3, b4, b6, b8, b9, b10, b13, b14, b15, b16, b17, true, b19, b20, b21, _, _, _, _, _, _, _, _, _, _, _, _, _, _, rfl, rfl, hI.op18 d4 d17⟩
          · obtain rfl : b19 = false := h0
            have d6 : b6 = true := ready_dep hi 6 (by kernel_rfl)
            have d18 : b18 = true := ready_dep hi 18 (by kernel_rfl)
            clear hi
            refine wpOp_step rfl (fun K hK => ?_)
            have HK := Lib.hid hK
            clear hK
            go_simp
            exact HK.out _ _ ⟨b1, b3, b4, b6, b8, b9, b10, b13, b14, b15, b16, b17, b18, true, b20, b21, _, _, _, _, _, _, _, _, _, _, _, _, _, _, rfl, rfl, hI.op19 d6 d18⟩
          · obtain rfl : b20 = false := h0
            have d16 : b16 = true := ready_dep hi 16 (by kernel_rfl)
            have d10 : b10 = true := ready_dep hi 10 (by kernel_rfl)
            have d19 : b19 = true := ready_dep hi 19 (by kernel_rfl)
            have d4 : b4 = true := ready_dep hi 4 (by kernel_rfl)
            clear hi
            have h14 := hI.y14 d19
            obtain ⟨g, rfl, hg0, hB, _⟩ := hI.c16 d16
            obtain ⟨p, q, rfl, hp, hq⟩ := hI.c10 d10
            obtain ⟨k0, k1, k2, k3⟩ := (hB rfl).two
            clear hB
            refine wpOp_step rfl (fun K hK => ?_)
            have HK := Lib.hid hK
            clear hK
            go_simp
            exact HK.out _ _ ⟨b1, b3, b4, b6, b8, b9, b10, b13, b14, b15, b16, b17, b18, b19, true, b21, _, _, _, _, _, _, _, _, _, _, _, _, _, _, rfl, rfl, hI.op20 d4 d10 d19 rfl d16 h14 rfl⟩
          · obtain rfl : b21 = false := h0
            have d14 : b14 = true := ready_dep hi 14 (by kernel_rfl)
            have d20 : b20 = true := ready_dep hi 20 (by kernel_rfl)
            clear hi
            refine wpOp_step rfl (fun K hK => ?_)
            have HK := Lib.hid hK
            clear hK
            go_simp
            exact HK.out _ _ ⟨b1, b3, b4, b6, b8, b9, b10, b13, b14, b15, b16, b17, b18, b19, b20, true, _, _, _, _, _, _, _, _, _, _, _, _, _, _, rfl, rfl, hI.op21 d14 d20⟩
    · exact ⟨false, false, false, false, false, false, false, false, false, false, false, false, false, false, false, false, undef, undef, undef, undef, undef, undef, undef, undef, undef, undef, undef, undef, undef, undef, rfl, rfl, { bx := (Bx.refl _ _ _).drew, lt := by omega, og := by simp, st := ⟨0, Nat.zero_le _, hs0.drew⟩, c1 := by simp, c3 := by simp, c4 := by simp, c6 := by simp, c8 := by simp, c9 := by simp, c10 := by simp, c13 := by simp, c14 := by simp, c15 := by simp, c16 := by simp, cd := by simp, c18 := by simp, c19 := by simp, c21 := by simp }⟩
  case rest =>
    obtain ⟨g4, g7, N, D, z, t, p, q, l, A, c, rfl, rfl, rfl, rfl, rfl, hbx, hg4, hg7, hN, hD, hp, hq, hP, hl4, hB4, hB7, ho, hcd, kk, hk, hs⟩ := hcut
    have hg4b : g4 ≠ w.heap.size := by omega
    have hg7b : g7 ≠ w.heap.size := by omega
    have hltb : w.heap.size < W0.heap.size := by omega
    go_wp2_with fail
    refine (flip_calls w.heap.size kk _ _ (by omega) (by omega) hs (by omega)).mono ?_
    rintro e w1 ⟨v, rfl, hs1, hb1⟩
    have hbx1 := hbx.call hb1 (Nat.le_refl _)
    have C4 := hB4.bx hb1 hg4b
    have C7 := hB7.bx hb1 hg7b
    have ho1 := own_bx ho hb1 hltb
    obtain ⟨hq1, hq2⟩ := hq
    obtain ⟨hp1, hp2⟩ := hp
    clear hbx hB4 hB7 ho hs hb1
    go_upto_if 42 with (fail)
    go_cut [] (fun W => ∃ q1 : Int, -1099511627776 ≤ q1 ∧ q1 ≤ 2199023255552 ∧ Below w.heap.size w W ∧ W0.heap.size ≤ W.heap.size ∧ Blk W g4 40 #[.int .i64 N, .int .i64 D] ∧ Blk W g7 45 #[.int .i64 p, .int .i64 q1] ∧ W.ownsRow W0.heap.size 45 2 (.slice A l.length c) l.length (l.flatMap partC))
    case first =>
      cases v
      · go_wp2_with fail
        go_meet
        exact ⟨q, by omega, by omega, hbw.trans ((hbx1.mono (B' := w.heap.size) (by omega)).below (Nat.le_refl _)), hbx1.size, C4, C7, ho1⟩
      · have HR : Hid (Calls Tryd.prog 9 #[.pointer (some ⟨w.heap.size, 0, none⟩), .int .i64 0, .int .i64 100] w1.drew (NumS 0 100 w.heap.size (kk + 1 + 1) w1.drew)) :=
          range_calls w.heap.size (kk + 1) 0 100 w1.drew (by omega) (by omega) (by omega) hs1.drew (by omega)
        obtain ⟨k0, k1, k2, k3⟩ := C7.two
        go_wp2_with fail
        go_region_law (first
          | (go_simp; go_at_call 9; ((with_reducible refine HR.out.mono ?_); rintro e w2 ⟨r, rfl, r1, r2, hs2, hb2⟩; obtain ⟨m0, m1, m2, m3⟩ := (Blk.bx (Blk.drew C7) hb2 hg7b).two; have hwr : IntKind.i64.wrap (q + r) = q + r := IntWalk.i64_in _ ⟨by omega, by omega⟩)))
        all_goals
          clear hwr
          have hbx2 := hbx1.drew.call hb2 (Nat.le_refl _)
          have D4 := Blk.bx (Blk.drew C4) hb2 hg4b
          have D7 := Blk.bx (Blk.drew C7) hb2 hg7b
          have ho2 := own_bx (own_drew ho1) hb2 hltb
          have hne : g4 ≠ g7 := Blk.ne_ D4 D7 (by decide)
          have E7 := D7.set_ 1 (.int .i64 (q + r))
          have E4 := D4.far (p := ⟨g7, 1, none⟩) hne (.int .i64 (q + r))
          have ho3 := own_set ho2 hcd 1 (.int .i64 (q + r))
          have hbx3 := hbx2.setCell (p := ⟨g7, 1, none⟩) (.inr hg7) (.int .i64 (q + r))
          simp at E7
          clear k0 k1 k2 k3 m0 m1 m2 m3
          go_wp2_with fail
          go_meet
          exact ⟨q + r, by omega, by omega, hbw.trans ((hbx3.mono (B' := w.heap.size) (by omega)).below (Nat.le_refl _)), hbx3.size, E4, E7, ho3⟩
    case rest =>
      obtain ⟨q1, hqa, hqb, hB, hz0, C4, C7, ho⟩ := hcut
      have hr := Rd.own (b := w.heap.size) ho hltb
      have hS : Bs wc wc [(g4, 40, #[.int .i64 N, .int .i64 D]), (g7, 45, #[.int .i64 p, .int .i64 q1])] := ((Bs.start wc).push C7).push C4
      clear C4 C7 ho hbx1 ho1 hs1
      obtain ⟨k0, k1, k2, k3⟩ := hS.head.two
      obtain ⟨k4, k5, k6, k7⟩ := hS.at1.two
      go_wp2_with fail
      refine (frameTimeE_calls z N D _ hN hD).mono ?_
      rintro e w3 ⟨rfl, hb3⟩
      have hS3 := hS.below hb3
      clear k0 k1 k2 k3 k4 k5 k6 k7 hS hb3
      obtain ⟨k0, k1, k2, k3⟩ := hS3.head.two
      obtain ⟨k4, k5, k6, k7⟩ := hS3.at1.two
      go_wp2_with fail
      refine (frameOf_calls t N D _ hN hD).mono ?_
      rintro e w4 ⟨v1, e1, rfl, hF1, hb4⟩
      have hS4 := hS3.below hb4
      clear k0 k1 k2 k3 k4 k5 k6 k7 hS3 hb4
      obtain ⟨k0, k1, k2, k3⟩ := hS4.head.two
      obtain ⟨k4, k5, k6, k7⟩ := hS4.at1.two
      go_wp2_with fail
      refine (retime_calls w.heap.size p q1 A _ c l N D _ hN hD (hr.below hS4.1) hP).mono ?_
      rintro e w5 ⟨rfl, hb5⟩
      have hS5 := hS4.below hb5
      clear k0 k1 k2 k3 k4 k5 k6 k7 hS4 hb5
      obtain ⟨k0, k1, k2, k3⟩ := hS5.head.two
      obtain ⟨k4, k5, k6, k7⟩ := hS5.at1.two
      go_wp2_with fail
      refine (frameTimeOf_calls z N D _ hN hD).mono ?_
      rintro e w6 ⟨rfl, hb6⟩
      have hS6 := hS5.below hb6
      clear k0 k1 k2 k3 k4 k5 k6 k7 hS5 hb6
      obtain ⟨k0, k1, k2, k3⟩ := hS6.head.two
      obtain ⟨k4, k5, k6, k7⟩ := hS6.at1.two
      go_wp2_with fail
      refine (frameFor_calls t N D _ hN hD).mono ?_
      rintro e w7 ⟨v2, e2, rfl, hF2, hb7⟩
      obtain ⟨hv, he⟩ := FoP.unique hF1 hF2
      subst hv he
      have hS7 := hS6.below hb7
      clear k0 k1 k2 k3 k4 k5 k6 k7 hS6 hb7 hF1 hF2
      obtain ⟨k0, k1, k2, k3⟩ := hS7.head.two
      obtain ⟨k4, k5, k6, k7⟩ := hS7.at1.two
      go_wp2_with fail
      refine (retimeOf_calls w.heap.size p q1 A _ c l N D _ hN hD (hr.below hS7.1) hP).mono ?_
      rintro e w8 ⟨rfl, hb8⟩
      have hS8 := hS7.below hb8
      have hB8 := below_call hB hS8.1 (Nat.le_refl _)
      clear k0 k1 k2 k3 k4 k5 k6 k7 hS7 hb8
      go_wp2_with fail
      refine (clocked_calls _ (ht.below hB8)).mono ?_
      rintro e w9 ⟨rfl, hb9⟩
      have hfin := below_call hB8 hb9 (Nat.le_refl _)
      go_wp2_with fail
      go_ret
      exact ⟨rfl, hfin⟩
end Go.Proofs.YtgpgnilgloojhaaDoor
