/-
  TruthIsOrderly: the law's own walk.
-/
import Derived.Test.YtfhdknppldobiaaGreatDoorZLawStart
import Derived.Test.YtfhdknppldobiaaGreatDoorZTrhP
import Derived.Test.YtfhdknppldobiaaGreatDoorZRat4
import Derived.Test.YtfhdknppldobiaaGreatDoorZHld3
import Derived.Test.YtfhdknppldobiaaGreatDoorZSrn1
import Derived.Deep.DeepCutAuto
import Derived.Deep.RegionHeld3
namespace Go.Proofs.YtfhdknppldobiaaGreatDoor
open Go Go.RowKit TxtP
attribute [local go_sem ↓] Go.wp_at_zero Go.wp_at_succ

set_option maxRecDepth 100000 in
set_option maxHeartbeats 4000000 in
theorem trh_walk (a0 : Option Addr) (len0 cap0 : Nat) (z0 : List Int) (w : World) (w0 : InRow w a0 len0 cap0 z0) (ht : Tab w) :
    Calls Tryz.prog 8 #[.slice a0 len0 cap0] w fun e w' => e = .returned (.bool true) ∧ Below w.heap.size w w' := by
  have hs0 := Sp.start (strm_start w0 25)
  have hb0 : Bx w.heap.size w.heap.size w (w.alloc (.cells #[.slice a0 len0 cap0, .int .i64 0] 25)) := (Bx.refl _ _ _).alloc (Nat.le_refl _) _
  have hK2 : ruK 2 ≤ 1000 := ruK_le 2 (by omega)
  clear w0
  go_enter Tryz.func8, Tryz.ntmps8
  go_wp2_with fail
  refine (rightRg_calls 2 (by omega) _ _ _ hs0.strm (by omega)).mono ?_
  rintro e w2 ⟨_, rfl, ⟨a, rfl, hra⟩, hR2⟩
  have hS2 := (hs0.call hR2.strm hR2.bx).more (K' := 1001) (by omega)
  clear hs0 hR2
  go_wp2_with fail
  refine (rightRg_calls 2 (by omega) _ _ _ hS2.strm (by omega)).mono ?_
  rintro e w3 ⟨_, rfl, ⟨b, rfl, hrb⟩, hR3⟩
  have hS3 := (hS2.call hR3.strm hR3.bx).more (K' := 2002) (by omega)
  clear hS2 hR3
  go_wp2_with fail
  refine (someRun_calls w.heap.size _ _ _ hS3.strm (by omega) (by decide)).mono ?_
  rintro e w4 ⟨x, rfl, hxz, hS4⟩
  have hb4 := (hb0.call hS3.bx (Nat.le_refl _)).call hS4.bx (Nat.le_refl _)
  have hx4 : RnW w4 w.heap.size x := ⟨Rd.own hS4.head hS4.hb, Nat.le_trans hxz.hi (by omega), Nat.le_trans hxz.hw (by omega), fun p hp => ⟨Nat.le_trans (hxz.hf p hp).1 (by omega), Nat.le_trans (hxz.hf p hp).2 (by omega)⟩, Nat.le_trans hxz.hn (by omega)⟩
  have hlt4 := hS4.lt
  have hS5 := (Sq.start w4).add (rnC x).toArray 36
  have hB4 := hb4.below (Nat.le_refl _)
  have hB5 := below_call hB4 hS5.below (Nat.le_refl _)
  have hx5 := hx4.below hS5.below
  have hk5 : Blk _ w4.heap.size _ (rnC x).toArray := hS5.head
  clear hb0 hb4 hS3 hS4 hx4 hxz hS5
  have hr0 : (rnC x).toArray = #[.string x.id, .string x.who, .int .i64 x.time, .int .i64 x.date, .slice x.fa x.fs.length x.fc] := rfl
  rw [hr0] at hB5 hx5 hk5
  go_upto_region 3 with (fail)
  obtain ⟨w5, hw5⟩ : ∃ w5, w5 = w4.alloc (.cells #[.string x.id, .string x.who, .int .i64 x.time, .int .i64 x.date, .slice x.fa x.fs.length x.fc] 36) := ⟨_, rfl⟩
  rw [← hw5] at hB5 hx5 hk5 ⊢
  have hlt5 : w.heap.size < w5.heap.size := by rw [hw5]; exact Nat.lt_of_lt_of_le hlt4 (Nat.le_of_lt (by simp))
  clear hw5 hr0
  have HCL : Hid (∀ W, Below w5.heap.size w5 W → W.cell? ⟨w4.heap.size, 0, none⟩ = some (.string x.id) ∧ W.cell? ⟨w4.heap.size, 1, none⟩ = some (.string x.who) ∧ W.cell? ⟨w4.heap.size, 2, none⟩ = some (.int .i64 x.time) ∧ W.cell? ⟨w4.heap.size, 3, none⟩ = some (.int .i64 x.date) ∧ W.cell? ⟨w4.heap.size, 4, none⟩ = some (.slice x.fa x.fs.length x.fc)) := Lib.hid (fun W h => by
    have hk := Blk.below hk5 h
    exact ⟨hk.cell 0, hk.cell 1, hk.cell 2, hk.cell 3, hk.cell 4⟩)
  obtain ⟨s1, hs1⟩ : ∃ s, (⟨#[40]⟩ : ByteArray) ++ a ++ ⟨#[41, 32, 111, 114, 32, 40]⟩ ++ b ++ ⟨#[41]⟩ = s := ⟨_, rfl⟩
  obtain ⟨s2, hs2⟩ : ∃ s, (⟨#[40]⟩ : ByteArray) ++ a ++ ⟨#[41, 32, 97, 110, 100, 32, 40]⟩ ++ b ++ ⟨#[41]⟩ = s := ⟨_, rfl⟩
  obtain ⟨s3, hs3⟩ : ∃ s, (⟨#[40]⟩ : ByteArray) ++ a ++ ⟨#[41, 32, 97, 110, 100, 32, 110, 111, 116, 32, 40]⟩ ++ a ++ ⟨#[41]⟩ = s := ⟨_, rfl⟩
  obtain ⟨⟨q1, q2⟩, ⟨q3, q4⟩, ⟨q5, q6⟩, q7, q8, q9, q10, z1, z2, z3, z4, z5⟩ := trh_law (s1 := s1) (s2 := s2) (s3 := s3) hra hrb (by rw [← hs1]; simp only [ByteArray.data_append, Array.toList_append]) (by rw [← hs2]; simp only [ByteArray.data_append, Array.toList_append]) (by rw [← hs3]; simp only [ByteArray.data_append, Array.toList_append])
  have hrun := q10 x
  have H1 := Lib.hid (fun W => implies_calls a s1 W (by omega) (by omega))
  have H2 := Lib.hid (fun W => implies_calls s2 b W (by omega) (by omega))
  have H3 := Lib.hid (fun W => nvr_calls s3 W (by omega))
  have H4 := Lib.hid (fun W => implies_calls a b W (by omega) (by omega))
  have H5 := Lib.hid (fun W => same_calls a b W (by omega) (by omega))
  have H6 := Lib.hid (fun W => implies_calls b a W (by omega) (by omega))
  have HE6 : Hid (∀ W, Calls Tryz.prog 53 #[.slice (some ⟨W.heap.size, 0, none⟩) 6 6] (W.alloc (.cells #[.int .i64 0, .int .i64 0, .int .i64 0, .int .i64 0, .int .i64 0, .int .i64 0] 30)) (fun e w' => e = .returned (.int .i64 0) ∧ Below W.heap.size W w')) := Lib.hid (fun W => by
    refine (errsK_calls (W.heap.size + 5) _ 6 6 [0, 0, 0, 0, 0, 0] _ (Rd.lit W (W.heap.size + 5) 1 6 #[.int .i64 0, .int .i64 0, .int .i64 0, .int .i64 0, .int .i64 0, .int .i64 0] 30 (by omega) (by decide) rfl)).mono ?_
    rintro e w' ⟨he, nq, rfl⟩
    exact ⟨he, below_drewN ((Below.refl _ _).alloc (Nat.le_refl _) _) nq⟩)
  have HE2 : Hid (∀ W, Calls Tryz.prog 53 #[.slice (some ⟨W.heap.size, 0, none⟩) 2 2] (W.alloc (.cells #[.int .i64 0, .int .i64 0] 30)) (fun e w' => e = .returned (.int .i64 0) ∧ Below W.heap.size W w')) := Lib.hid (fun W => by
    refine (errsK_calls (W.heap.size + 5) _ 2 2 [0, 0] _ (Rd.lit W (W.heap.size + 5) 1 2 #[.int .i64 0, .int .i64 0] 30 (by omega) (by decide) rfl)).mono ?_
    rintro e w' ⟨he, nq, rfl⟩
    exact ⟨he, below_drewN ((Below.refl _ _).alloc (Nat.le_refl _) _) nq⟩)
  have HRF := Lib.hid (fun W (h : Below w5.heap.size w5 W) => runFault_calls w.heap.size x W (hx5.below h))
  have H7 := Lib.hid (fun W (h : Below w5.heap.size w5 W) => holds_calls numF numF_c numF_ok a w.heap.size x W (by omega) (hx5.below h))
  have H8 := Lib.hid (fun W (h : Below w5.heap.size w5 W) => holds_calls numF numF_c numF_ok b w.heap.size x W (by omega) (hx5.below h))
  have HRD : Hid (∀ W, Below w5.heap.size w5 W → Calls Tryz.prog 15 #[] W (BRet (.bool true) W)) := Lib.hid (fun W h => ready_calls w.heap.size W (Nat.lt_of_lt_of_le hlt5 h.size) ((ht.below hB5).below h))
  rw [q1, q2, ← hs1] at H1
  rw [q3, q4, ← hs2] at H2
  rw [q5, q6, ← hs3] at H3
  rw [q7] at H4
  rw [q7, q9] at H5
  rw [q8] at H6
  have HRN : Hid (runF x = 0 → rulE numF a x = 0 ∧ rulE numF b x = 0 ∧ (impB a b = true → hldV numF a x = true → hldV numF b x = true)) := Lib.hid hrun
  obtain ⟨iB, hiB⟩ : ∃ z, impB a b = z := ⟨_, rfl⟩
  obtain ⟨oB, hoB⟩ : ∃ z, impB b a = z := ⟨_, rfl⟩
  obtain ⟨hA, hhA⟩ : ∃ z, hldV numF a x = z := ⟨_, rfl⟩
  obtain ⟨hB, hhB⟩ : ∃ z, hldV numF b x = z := ⟨_, rfl⟩
  obtain ⟨eA, heA⟩ : ∃ z, rulE numF a x = z := ⟨_, rfl⟩
  obtain ⟨eB, heB⟩ : ∃ z, rulE numF b x = z := ⟨_, rfl⟩
  obtain ⟨re, hre⟩ : ∃ z, runF x = z := ⟨_, rfl⟩
  rw [hiB, hhA, hhB, heA, heB, hre] at HRN
  rw [hiB] at H4
  rw [hiB, hoB] at H5
  rw [hoB] at H6
  rw [hhA, heA] at H7
  rw [hhB, heB] at H8
  rw [hre] at HRF
  have HB5 := Lib.hid hB5
  obtain ⟨xid, xwho, xt, xd, xfa, xfc, xfs⟩ := x
  simp only at HCL H7 H8 HRF
  obtain ⟨fl, hfl⟩ : ∃ z, xfs.length = z := ⟨_, rfl⟩
  rw [hfl] at HCL H7 H8 HRF
  have n9 : ((0 : Int) != 0) = false := by decide
  clear hx5 hk5 hB4 hB5 hiB hoB hhA hhB heA heB hre hfl ht hlt4 hlt5 hs1 hs2 hs3 q1 q2 q3 q4 q5 q6 q7 q8 q9 q10 z3 z4 z5 hrun hra hrb hK2
  have S0 : Below w5.heap.size w5 w5 := Below.refl _ _
  go_wp2_with fail
  refine (H1.out _).mono ?_
  rintro e w6 ⟨rfl, hb6⟩
  have S6 := below_call S0 hb6 (Nat.le_refl _)
  clear hb6 H1
  go_wp2_with fail
  refine (H2.out _).mono ?_
  rintro e w7 ⟨rfl, hb7⟩
  have S7 := below_call S6 hb7 (Nat.le_refl _)
  clear hb7 S6 H2
  go_wp2_with fail
  refine (H3.out _).mono ?_
  rintro e w8 ⟨rfl, hb8⟩
  have S8 := below_call S7 hb8 (Nat.le_refl _)
  clear hb8 S7 H3
  go_wp2_with fail
  refine (H4.out _).mono ?_
  rintro e w9 ⟨rfl, hb9⟩
  have S9 := below_call S8 hb9 (Nat.le_refl _)
  clear hb9 S8 H4
  go_wp2_with fail
  refine (H5.out _).mono ?_
  rintro e w10 ⟨rfl, hb10⟩
  have S10 := below_call S9 hb10 (Nat.le_refl _)
  clear hb10 S9 H5
  go_wp2_with fail
  refine (H6.out _).mono ?_
  rintro e w11 ⟨rfl, hb11⟩
  have S11 := below_call S10 hb11 (Nat.le_refl _)
  clear hb11 S10 H6 S0
  have HE6a := Lib.hid (HE6.out w11)
  have HS11 := Lib.hid S11
  clear HE6 S11
  by_cases h0 : re = 0
  · obtain ⟨g1, g2, g3⟩ := HRN.out h0
    subst h0 g1 g2
    clear HRN
    have hcase : iB = false ∨ (iB = true ∧ hA = false) ∨ (iB = true ∧ hA = true ∧ hB = true) := by
      cases iB
      · exact .inl rfl
      · cases hA
        · exact .inr (.inl ⟨rfl, rfl⟩)
        · exact .inr (.inr ⟨rfl, rfl, g3 rfl rfl⟩)
    clear g3
    rcases hcase with rfl | ⟨rfl, rfl⟩ | ⟨rfl, rfl, rfl⟩
    · go_wp2_with (first
        | (go_at_call 53; refine HE6a.out.mono ?_; rintro e w12 ⟨rfl, hb12⟩; have S12 := below_call HS11.out hb12 (Nat.le_refl _); obtain ⟨k0, k1, k2, k3, k4⟩ := HCL.out _ S12; clear HE6a HS11 hb12)
        | (go_at_call 29; refine (HRF.out _ S12).mono ?_; rintro e w13 ⟨rfl, hb13⟩; have S13 := below_call S12 hb13 (Nat.le_refl _); clear k0 k1 k2 k3 k4 HRF S12 hb13; obtain ⟨k0, k1, k2, k3, k4⟩ := HCL.out _ S13)
        | (go_at_call 18; refine (H7.out _ S13).mono ?_; rintro e w14 ⟨rfl, hb14⟩; have S14 := below_call S13 hb14 (Nat.le_refl _); clear k0 k1 k2 k3 k4 S13 H7 hb14; obtain ⟨k0, k1, k2, k3, k4⟩ := HCL.out _ S14)
        | (go_at_call 18; refine (H8.out _ S14).mono ?_; rintro e w15 ⟨rfl, hb15⟩; have S15 := below_call S14 hb15 (Nat.le_refl _); clear k0 k1 k2 k3 k4 S14 H8 HCL hb15)
        | (go_at_call 53; refine (HE2.out _).mono ?_; rintro e w16 ⟨rfl, hb16⟩; have S16 := below_call S15 hb16 (Nat.le_refl _); clear S15 HE2 hb16)
        | (go_at_call 15; refine (HRD.out _ S16).mono ?_; rintro e w17 ⟨rfl, hb17⟩; have S17 := below_call S16 hb17 (Nat.le_refl _)))
      all_goals
        go_ret
        exact ⟨rfl, below_call HB5.out S17 (Nat.le_refl _)⟩
    · go_wp2_with (first
        | (go_at_call 53; refine HE6a.out.mono ?_; rintro e w12 ⟨rfl, hb12⟩; have S12 := below_call HS11.out hb12 (Nat.le_refl _); obtain ⟨k0, k1, k2, k3, k4⟩ := HCL.out _ S12; clear HE6a HS11 hb12)
        | (go_at_call 29; refine (HRF.out _ S12).mono ?_; rintro e w13 ⟨rfl, hb13⟩; have S13 := below_call S12 hb13 (Nat.le_refl _); clear k0 k1 k2 k3 k4 HRF S12 hb13; obtain ⟨k0, k1, k2, k3, k4⟩ := HCL.out _ S13)
        | (go_at_call 18; refine (H7.out _ S13).mono ?_; rintro e w14 ⟨rfl, hb14⟩; have S14 := below_call S13 hb14 (Nat.le_refl _); clear k0 k1 k2 k3 k4 S13 H7 hb14; obtain ⟨k0, k1, k2, k3, k4⟩ := HCL.out _ S14)
        | (go_at_call 18; refine (H8.out _ S14).mono ?_; rintro e w15 ⟨rfl, hb15⟩; have S15 := below_call S14 hb15 (Nat.le_refl _); clear k0 k1 k2 k3 k4 S14 H8 HCL hb15)
        | (go_at_call 53; refine (HE2.out _).mono ?_; rintro e w16 ⟨rfl, hb16⟩; have S16 := below_call S15 hb16 (Nat.le_refl _); clear S15 HE2 hb16)
        | (go_at_call 15; refine (HRD.out _ S16).mono ?_; rintro e w17 ⟨rfl, hb17⟩; have S17 := below_call S16 hb17 (Nat.le_refl _)))
      all_goals
        go_ret
        exact ⟨rfl, below_call HB5.out S17 (Nat.le_refl _)⟩
    · go_wp2_with (first
        | (go_at_call 53; refine HE6a.out.mono ?_; rintro e w12 ⟨rfl, hb12⟩; have S12 := below_call HS11.out hb12 (Nat.le_refl _); obtain ⟨k0, k1, k2, k3, k4⟩ := HCL.out _ S12; clear HE6a HS11 hb12)
        | (go_at_call 29; refine (HRF.out _ S12).mono ?_; rintro e w13 ⟨rfl, hb13⟩; have S13 := below_call S12 hb13 (Nat.le_refl _); clear k0 k1 k2 k3 k4 HRF S12 hb13; obtain ⟨k0, k1, k2, k3, k4⟩ := HCL.out _ S13)
        | (go_at_call 18; refine (H7.out _ S13).mono ?_; rintro e w14 ⟨rfl, hb14⟩; have S14 := below_call S13 hb14 (Nat.le_refl _); clear k0 k1 k2 k3 k4 S13 H7 hb14; obtain ⟨k0, k1, k2, k3, k4⟩ := HCL.out _ S14)
        | (go_at_call 18; refine (H8.out _ S14).mono ?_; rintro e w15 ⟨rfl, hb15⟩; have S15 := below_call S14 hb15 (Nat.le_refl _); clear k0 k1 k2 k3 k4 S14 H8 HCL hb15)
        | (go_at_call 53; refine (HE2.out _).mono ?_; rintro e w16 ⟨rfl, hb16⟩; have S16 := below_call S15 hb16 (Nat.le_refl _); clear S15 HE2 hb16)
        | (go_at_call 15; refine (HRD.out _ S16).mono ?_; rintro e w17 ⟨rfl, hb17⟩; have S17 := below_call S16 hb17 (Nat.le_refl _)))
      all_goals
        go_ret
        exact ⟨rfl, below_call HB5.out S17 (Nat.le_refl _)⟩
  · have hne : (re != 0) = true := by simpa using h0
    clear HRN H7 H8 HE2 h0
    go_wp2_with (first
      | (go_at_call 53; refine HE6a.out.mono ?_; rintro e w12 ⟨rfl, hb12⟩; have S12 := below_call HS11.out hb12 (Nat.le_refl _); obtain ⟨k0, k1, k2, k3, k4⟩ := HCL.out _ S12; clear HE6a HS11 hb12)
      | (go_at_call 29; refine (HRF.out _ S12).mono ?_; rintro e w13 ⟨rfl, hb13⟩; have S13 := below_call S12 hb13 (Nat.le_refl _))
      | (go_at_call 15; refine (HRD.out _ S13).mono ?_; rintro e w14 ⟨rfl, hb14⟩; have S14 := below_call S13 hb14 (Nat.le_refl _)))
    all_goals
      go_ret
      exact ⟨rfl, below_call HB5.out S14 (Nat.le_refl _)⟩
end Go.Proofs.YtfhdknppldobiaaGreatDoor
