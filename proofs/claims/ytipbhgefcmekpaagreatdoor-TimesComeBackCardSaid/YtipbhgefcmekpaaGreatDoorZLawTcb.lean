/-
  TimesComeBack: the law's own walk.
-/
import Derived.Test.YtipbhgefcmekpaaGreatDoorZStream
import Derived.Test.YtipbhgefcmekpaaGreatDoorZTcbPure
import Derived.Test.YtipbhgefcmekpaaGreatDoorZTim2
import Derived.Test.YtipbhgefcmekpaaGreatDoorZTim4
import Derived.Test.YtipbhgefcmekpaaGreatDoorZReady
import Derived.Deep.DeepCutAuto
import Derived.Deep.RegionLaw
import Derived.Deep.RegionHeld3
import Derived.Deep.QuietTactic
import Derived.BigQuiet
namespace Go.Proofs.YtipbhgefcmekpaaGreatDoor
open Go Go.RowKit TxtP

theorem tcb_down {t u : Int} (ht : 0 ≤ t ∧ t ≤ 864000000) (hu : 1 ≤ u ∧ u ≤ 1000) : downR t u = .tuple #[.int .i64 (t - t % u), .int .i64 0] := by
  unfold downR
  rw [if_neg (by unfold outB; simp; omega)]
theorem tcb_write {t d : Nat} (ht : t ≤ 864000000) (hd : d ≤ 3) : wrtR (t : Int) (d : Int) = .tuple #[.string ⟨(writeT t d).toArray⟩, .int .i64 0] := by
  unfold wrtR
  rw [if_neg (by unfold outB; simp; omega), Int.toNat_natCast, Int.toNat_natCast]
theorem tcb_delta {t u d : Int} (ht : 0 ≤ t ∧ t ≤ 864000000) (hu : 0 ≤ u ∧ u ≤ 864000000) (hd : 0 ≤ d ∧ d ≤ 3) : dltR t u d = .tuple #[.string ⟨(dltT t u d).toArray⟩, .int .i64 0] := by
  unfold dltR
  rw [if_neg (by unfold outB; simp; omega)]
theorem dlt_tail (t u d : Int) : (dltT t u d).drop 1 = (dltT u t d).drop 1 := by
  unfold dltT
  by_cases h1 : t < u
  · rw [if_pos h1, if_neg (by omega)]; rfl
  · rw [if_neg h1]
    by_cases h2 : u < t
    · rw [if_pos h2]; rfl
    · rw [if_neg h2, show t = u by omega]
theorem dlt_head {t u d : Int} {a b : ByteArray} (ha : a = ⟨(dltT t u d).toArray⟩) (hb : b = ⟨(dltT u t d).toArray⟩) (la : 0 < a.size) (lb : 0 < b.size) :
    ((a[0].toNat : Int) == (b[0].toNat : Int)) = (t == u) := by
  have h1 : a[0] = if t < u then 45 else 43 := by
    subst ha
    show ((⟨(dltT t u d).toArray⟩ : ByteArray).data[0]'la) = _
    unfold dltT
    split <;> rfl
  have h2 : b[0] = if u < t then 45 else 43 := by
    subst hb
    show ((⟨(dltT u t d).toArray⟩ : ByteArray).data[0]'lb) = _
    unfold dltT
    split <;> rfl
  rw [h1, h2]
  by_cases h3 : t = u
  · subst h3
    simp
  · by_cases h4 : t < u
    · rw [if_pos h4, if_neg (by omega)]
      have : (t == u) = false := by simpa using h3
      rw [this]; rfl
    · rw [if_neg h4, if_pos (by omega)]
      have : (t == u) = false := by simpa using h3
      rw [this]; rfl
theorem dlt_len (t u d : Int) : 1 ≤ (dltT t u d).length := by
  unfold dltT
  split <;> simp
theorem units_cell (w : World) (t : TypeId) (d : Nat) (hd : d ≤ 3) : (w.alloc (.cells #[.int .i64 1000, .int .i64 100, .int .i64 10, .int .i64 1] t)).cell? ⟨w.heap.size, d, none⟩ = some (.int .i64 (unitD d)) := by
  rw [cell_of_row _ w.heap.size d _ t (0, 0) (heap_alloc_new w _)]
  rcases (show d = 0 ∨ d = 1 ∨ d = 2 ∨ d = 3 by omega) with rfl | rfl | rfl | rfl <;> rfl
theorem unitD_bd {d : Nat} (hd : d ≤ 3) : 1 ≤ unitD d ∧ unitD d ≤ 1000 := by
  rcases (show d = 0 ∨ d = 1 ∨ d = 2 ∨ d = 3 by omega) with rfl | rfl | rfl | rfl <;> decide

set_option maxRecDepth 100000 in
set_option maxHeartbeats 2000000 in
theorem tcb_walk (a0 : Option Addr) (len0 cap0 : Nat) (z0 : List Int) (w : World) (w0 : InRow w a0 len0 cap0 z0) (ht : Tab w) (hx : MxL w) (hEr : ErrS w) :
    Calls Tryz.prog 3 #[.slice a0 len0 cap0] w fun e w' => e = .returned (.bool true) ∧ Below w.heap.size w w' := by
  have hs0 := strm_start w0 25
  have hb0 : Bx w.heap.size w.heap.size w (w.alloc (.cells #[.slice a0 len0 cap0, .int .i64 0] 25)) := (Bx.refl _ _ _).alloc (Nat.le_refl _) _
  clear w0
  go_enter Tryz.func3, Tryz.ntmps3
  go_wp2_with fail
  refine (range_calls w.heap.size 0 0 864000000 _ (by omega) (by omega) (by omega) hs0 (by omega)).mono ?_
  rintro e w1 ⟨t, rfl, t0, t1, hs1, hc1⟩
  have hS1 := (Sp.start hs0).call hs1 hc1
  clear hs0 hs1 hc1
  go_wp2_with fail
  refine (range_calls w.heap.size 1 0 864000000 _ (by omega) (by omega) (by omega) hS1.strm (by omega)).mono ?_
  rintro e w2 ⟨u, rfl, u0, u1, hs2, hc2⟩
  have hS2 := hS1.call hs2 hc2
  clear hS1 hs2 hc2
  go_wp2_with fail
  refine (range_calls w.heap.size 2 0 3 _ (by omega) (by omega) (by omega) hS2.strm (by omega)).mono ?_
  rintro e w3 ⟨d, rfl, d0, d1, hs3, hc3⟩
  have hS3 := hS2.call hs3 hc3
  clear hS2 hs3 hc3
  have hB3 := (hb0.call hS3.bx (Nat.le_refl _)).below (Nat.le_refl _)
  have hlt3 := hS3.lt
  clear hS3 hb0
  have HW : Hid (∀ W, Below w3.heap.size w3 W → Tab W ∧ MxL W ∧ ErrS W ∧ Below w.heap.size w W ∧ w.heap.size < W.heap.size) := by
    refine Lib.hid (fun W h => ?_)
    have hh := below_call hB3 h (Nat.le_refl _)
    exact ⟨ht.below hh, hx.below hh, hEr.below hh, hh, Nat.lt_of_lt_of_le hlt3 h.size⟩
  clear ht hx hEr hB3 hlt3
  obtain ⟨T, rfl⟩ := Int.eq_ofNat_of_zero_le t0
  obtain ⟨D, rfl⟩ := Int.eq_ofNat_of_zero_le d0
  have hT : T ≤ 864000000 := by omega
  have hD : D ≤ 3 := by omega
  obtain ⟨pE, pT, pD⟩ := parse_write hT hD
  have hud := unitD_bd hD
  have hpl := write_size T D (by omega) hD
  obtain ⟨WS, hWS⟩ : ∃ WS : ByteArray, WS = ⟨(writeT T D).toArray⟩ := ⟨_, rfl⟩
  obtain ⟨DA, hDA⟩ : ∃ DA : ByteArray, DA = ⟨(dltT (T : Int) u (D : Int)).toArray⟩ := ⟨_, rfl⟩
  obtain ⟨DB, hDB⟩ : ∃ DB : ByteArray, DB = ⟨(dltT u (T : Int) (D : Int)).toArray⟩ := ⟨_, rfl⟩
  have lA : 0 < DA.size := by rw [hDA, ba_size]; exact dlt_len _ _ _
  have lB : 0 < DB.size := by rw [hDB, ba_size]; exact dlt_len _ _ _
  have eH := dlt_head hDA hDB lA lB
  have eX : DA.extract 1 DA.size = DB.extract 1 DB.size := by
    apply ByteArray.ext
    apply Array.ext'
    rw [Lib.extract_to_end, Lib.extract_to_end, hDA, hDB, dat, dat, dlt_tail]
  have H1 : Hid (∀ W, Tab W → Calls Tryz.prog 5 #[.int .i64 T, .int .i64 D] W (BRet (.tuple #[.string WS, .int .i64 0]) W)) := by
    rw [hWS, ← tcb_write hT hD]
    exact Lib.hid (fun W h => timWrite_calls _ _ W h)
  have H2 : Hid (∀ W, MxL W → ErrS W → Calls Tryz.prog 6 #[.string WS] W (BRet (.tuple #[.int .i64 ((T : Int) - (T : Int) % (unitD D : Int)), .int .i64 D, .int .i64 0]) W)) := by
    refine Lib.hid (fun W h1 h2 => ?_)
    have h := timParse_calls WS W (by rw [hWS]; omega) h1 h2
    unfold ParR at h
    rw [hWS, dat, pE, pT, pD] at h
    have e : ((T - T % unitD D : Nat) : Int) = (T : Int) - (T : Int) % (unitD D : Int) := by
      have := Nat.mod_le T (unitD D)
      omega
    rw [e] at h
    rw [hWS]
    exact h
  have H3 : Hid (∀ W, Calls Tryz.prog 7 #[.int .i64 T, .int .i64 (unitD D)] W (fun e w' => e = .returned (.tuple #[.int .i64 ((T : Int) - (T : Int) % (unitD D : Int)), .int .i64 0]) ∧ W = w')) := by
    rw [← tcb_down (t := (T : Int)) (u := (unitD D : Int)) (by omega) (by omega)]
    exact Lib.hid (fun W => down_calls _ _ W)
  have H4 : Hid (∀ W, Tab W → Calls Tryz.prog 8 #[.int .i64 T, .int .i64 u, .int .i64 D] W (BRet (.tuple #[.string DA, .int .i64 0]) W)) := by
    rw [hDA, ← tcb_delta ⟨t0, t1⟩ ⟨u0, u1⟩ ⟨d0, d1⟩]
    exact Lib.hid (fun W h => delta_calls _ _ _ W h)
  have H5 : Hid (∀ W, Tab W → Calls Tryz.prog 8 #[.int .i64 u, .int .i64 T, .int .i64 D] W (BRet (.tuple #[.string DB, .int .i64 0]) W)) := by
    rw [hDB, ← tcb_delta ⟨u0, u1⟩ ⟨t0, t1⟩ ⟨d0, d1⟩]
    exact Lib.hid (fun W h => delta_calls _ _ _ W h)
  have HEX := Lib.hid eX
  have HEH := Lib.hid eH
  have nA := isEmpty_f (s := DA) (by omega)
  have nB := isEmpty_f (s := DB) (by omega)
  have sA : 1 ≤ DA.size := lA
  have sB : 1 ≤ DB.size := lB
  obtain ⟨V, hV⟩ : ∃ V : Int, V = (T : Int) - (T : Int) % (unitD D : Int) := ⟨_, rfl⟩
  rw [← hV] at H2 H3
  clear hV hWS hDA hDB pE pT pD hpl eH eX
  go_wp2_with fail
  refine (H1.out _ (HW.out _ (Below.refl _ _)).1).mono ?_
  rintro e w4 ⟨rfl, hb4⟩
  go_wp2_with fail
  obtain ⟨_, q2, q3, _⟩ := HW.out _ hb4
  refine (H2.out _ q2 q3).mono ?_
  rintro e w5 ⟨rfl, hb50⟩
  have hb5 := below_call hb4 hb50 (Nat.le_refl _)
  clear q2 q3 hb4 hb50
  have hcu := units_cell w5 3 D hD
  have hb6 := hb5.alloc hb5.size (.cells #[.int .i64 1000, .int .i64 100, .int .i64 10, .int .i64 1] 3)
  go_wp2_with fail
  refine (H3.out _).mono ?_
  rintro e w6 ⟨rfl, rfl⟩
  clear hcu
  go_wp2_with fail
  refine (H4.out _ (HW.out _ hb6).1).mono ?_
  rintro e w7 ⟨rfl, hb70⟩
  have hb7 := below_call hb6 hb70 (Nat.le_refl _)
  clear hb6 hb70
  go_wp2_with fail
  refine (H5.out _ (HW.out _ hb7).1).mono ?_
  rintro e w8 ⟨rfl, hb80⟩
  have hb8 := below_call hb7 hb80 (Nat.le_refl _)
  clear hb7 hb80
  have hlt8 : w.heap.size < w8.heap.size := (HW.out _ hb8).2.2.2.2
  have HE := Lib.hid (errsK_calls w.heap.size _ 5 5 [0, 0, 0, 0, 0] _ (Rd.lit0 (w := w8) (cs := #[.int .i64 0, .int .i64 0, .int .i64 0, .int .i64 0, .int .i64 0]) (t := 27) (size := 1) (n := 5) hlt8 (by decide) rfl))
  have hb9 := hb8.alloc hb8.size (.cells #[.int .i64 0, .int .i64 0, .int .i64 0, .int .i64 0, .int .i64 0] 27)
  go_wp2_with fail
  refine HE.out.mono ?_
  rintro e w9 ⟨rfl, nq, rfl⟩
  have hb10 := below_drewN hb9 nq
  have HRD : Hid (∀ V, Below w3.heap.size w3 V → Calls Tryz.prog 10 #[] V (fun e w' => e = .returned (.bool true) ∧ Below V.heap.size V w')) := by
    refine Lib.hid (fun V k => ?_)
    obtain ⟨q1, _, _, _, q5⟩ := HW.out _ k
    exact ready_calls w.heap.size V q5 q1
  have hfin : Hid (∀ V, Below w3.heap.size w3 V → Below w.heap.size w V) := Lib.hid (fun V k => (HW.out _ k).2.2.2.1)
  clear H1 H2 H3 H4 H5 HE HW hb8 hb9 hud hT hD hlt8
  have eX := HEX.out
  have eH := HEH.out
  clear HEX HEH
  go_wp2_with fail
  obtain ⟨W9, hW9⟩ : ∃ W9, W9 = (w8.alloc (.cells #[.int .i64 0, .int .i64 0, .int .i64 0, .int .i64 0, .int .i64 0] 27)).drewN nq := ⟨_, rfl⟩
  rw [← hW9] at hb10 ⊢
  clear hW9
  obtain ⟨TU, hTU⟩ : ∃ TU, TU = ((T : Int) == u) := ⟨_, rfl⟩
  rw [← hTU] at eH
  have eT := hTU.symm
  clear hTU
  have sAi : (1 : Int) ≤ (DA.size : Int) := by omega
  have sBi : (1 : Int) ≤ (DB.size : Int) := by omega
  have lAi : (0 : Int) < (DA.size : Int) := by omega
  have lBi : (0 : Int) < (DB.size : Int) := by omega
  have hdr : Below w3.heap.size w3 W9.drew := below_drewN hb10 1
  go_region_held3 (fun V => True)
    (first | trivial | go_keep)
    (first
    | (go_at_call 10; ((with_reducible refine (HRD.out _ hdr).mono ?_); rintro e w11 ⟨rfl, hb11⟩; have hb12 := below_call hdr hb11 (Nat.le_refl _))))
  all_goals (clear eX eH HRD; cases TU <;> (go_wp2_with fail; go_ret; exact ⟨by first | rfl | simp, hfin.out _ hb12⟩))
end Go.Proofs.YtipbhgefcmekpaaGreatDoor
