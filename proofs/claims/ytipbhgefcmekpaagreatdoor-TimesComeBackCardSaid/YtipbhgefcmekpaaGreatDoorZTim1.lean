/-
  Times that are written: two, write and splitref2's Written by one contract.
-/
import Derived.Test.YtipbhgefcmekpaaGreatDoorZTimPure
import Derived.Test.YtipbhgefcmekpaaGreatDoorZSumS
import Derived.Test.YtipbhgefcmekpaaGreatDoorZClk
import Derived.Test.YtipbhgefcmekpaaGreatDoorZSep
import Derived.Lib.ItoaLen
import Derived.Deep.DeepCutAuto
import Derived.Deep.CutBlock
namespace Go.Proofs.YtipbhgefcmekpaaGreatDoor
open Go Go.RowKit TxtP
attribute [local go_sem ↓ high] run_sumS

def bsD (n : Nat) : ByteArray := ⟨(dec n).toArray⟩
theorem bsD_size (n : Nat) (h : n ≤ 1000000000000000) : (bsD n).size ≤ 21 := by
  unfold bsD
  rw [ba_size]
  have := Lib.itoa_length_le (n : Int) (by omega) (by omega)
  rw [Lib.itoa_nonneg] at this
  exact this
theorem itoaD_calls (n : Nat) (h : n ≤ 1000000000000000) (w : World) (ht : Tab w) : Calls Tryz.prog 23 #[.int .i64 n] w (BRet (.string (bsD n)) w) := by
  have := itoa_calls (n : Int) (by omega) (by omega) w ht
  rw [Lib.itoa_nonneg] at this
  exact this
theorem sumS_eq {a b : ByteArray} {l : List UInt8} (h : a.data.toList ++ b.data.toList = l) : sumS a b = ⟨l.toArray⟩ := by
  have h1 : (sumS a b).data.toList = l := by rw [sumS_data]; exact h
  cases hs : sumS a b with
  | mk d => rw [hs] at h1; rw [← h1]
theorem itoaI_calls (z : Int) (n : Nat) (hz : z = n) (h : n ≤ 1000000000000000) (w : World) (ht : Tab w) : Calls Tryz.prog 23 #[.int .i64 z] w (BRet (.string (bsD n)) w) := by
  rw [hz]; exact itoaD_calls n h w ht
theorem dat (l : List UInt8) : (⟨l.toArray⟩ : ByteArray).data.toList = l := ba_list l
theorem bsD_data (n : Nat) : (bsD n).data.toList = dec n := ba_list _
set_option maxRecDepth 100000 in
theorem two_calls (n : Nat) (h : n < 100) (w : World) (ht : Tab w) : Calls Tryz.prog 24 #[.int .i64 n] w (BRet (.string ⟨(dd n).toArray⟩) w) := by
  have H1 := Lib.hid (itoaI_calls ((n : Int) / 10) (n / 10) (by omega) (by omega) w ht)
  have H2 := Lib.hid (fun W (hW : Tab W) => itoaI_calls ((n : Int) % 10) (n % 10) (by omega) (by omega) W hW)
  have hs1 := bsD_size (n / 10) (by omega)
  have hs2 := bsD_size (n % 10) (by omega)
  have HE : Hid (sumS (bsD (n / 10)) (bsD (n % 10)) = ⟨(dd n).toArray⟩) := Lib.hid (sumS_eq (by rw [bsD_data, bsD_data, dd_eq h]))
  obtain ⟨x, hx⟩ : ∃ x, x = bsD (n / 10) := ⟨_, rfl⟩
  obtain ⟨y, hy⟩ : ∃ y, y = bsD (n % 10) := ⟨_, rfl⟩
  rw [← hx] at H1 hs1 HE
  rw [← hy] at H2 hs2 HE
  have a1 : AddOk x y := addOk_of (by omega) (by omega)
  clear hx hy hs1 hs2
  go_enter Tryz.func24, Tryz.ntmps24
  go_wp2_with fail
  refine H1.out.mono ?_
  rintro e w1 ⟨rfl, hb1⟩
  have ht1 := ht.below hb1
  go_wp2_with fail
  refine (H2.out _ ht1).mono ?_
  rintro e w2 ⟨rfl, hb2⟩
  go_wp2_with fail
  go_ret
  exact ⟨by rw [← HE.out]; rfl, below_call hb1 hb2 (Nat.le_refl _)⟩
theorem whole3 {S : Nat} (h : 3600 ≤ S) : wholeT S = dec (S / 3600) ++ [58] ++ dd (S / 60 % 60) ++ [58] ++ dd (S % 60) := by
  unfold wholeT wholeL
  rw [if_pos h]
  simp [joinC]
theorem whole2 {S : Nat} (h : ¬ 3600 ≤ S) (h2 : 60 ≤ S) : wholeT S = dec (S / 60) ++ [58] ++ dd (S % 60) := by
  unfold wholeT wholeL
  rw [if_neg h, if_pos h2]
  simp [joinC]
theorem whole1 {S : Nat} (h2 : ¬ 60 ≤ S) : wholeT S = dec S := by
  unfold wholeT wholeL
  rw [if_neg (by omega), if_neg h2]
  rfl
theorem ddS (n : Nat) : (⟨(dd n).toArray⟩ : ByteArray).size = 2 := rfl
theorem whole_size (S : Nat) (h : S ≤ 1000000000000) : (⟨(wholeT S).toArray⟩ : ByteArray).size ≤ 40 := by
  rw [ba_size]
  have h1 : ∀ n, n ≤ 1000000000000 → (dec n).length ≤ 21 := by
    intro n hn
    have := bsD_size n (by omega)
    unfold bsD at this
    rw [ba_size] at this
    exact this
  have hd : ∀ n, (dd n).length = 2 := fun n => rfl
  by_cases a : 3600 ≤ S
  · rw [whole3 a]
    simp only [List.length_append, hd, List.length_singleton]
    have := h1 (S / 3600) (by omega)
    omega
  · by_cases b : 60 ≤ S
    · rw [whole2 a b]
      simp only [List.length_append, hd, List.length_singleton]
      have := h1 (S / 60) (by omega)
      omega
    · rw [whole1 b]
      have := h1 S (by omega)
      omega
set_option maxRecDepth 100000 in
set_option maxHeartbeats 1000000 in
theorem write_calls (t d : Nat) (hT : t ≤ 1000000000000) (hd : d ≤ 3) (w : World) (ht : Tab w) : Calls Tryz.prog 13 #[.int .i64 t, .int .i64 d] w (BRet (.string ⟨(writeT t d).toArray⟩) w) := by
  obtain ⟨S, hS⟩ : ∃ S, S = t / 1000 := ⟨_, rfl⟩
  have hI := Lib.hid (fun (z : Int) (n : Nat) (hz : z = n) (h : n ≤ 1000000000000000) W (hW : Tab W) => itoaI_calls z n hz h W hW)
  have H2 := Lib.hid (fun (z : Int) (n : Nat) (hz : z = n) (h : n < 100) W (hW : Tab W) => (by rw [hz]; exact two_calls n h W hW : Calls Tryz.prog 24 #[.int .i64 z] W (BRet (.string ⟨(dd n).toArray⟩) W)))
  have I0 := Lib.hid (hI.out ((t : Int) / 1000 % 60) (S % 60) (by omega) (by omega) w ht)
  have I1 := Lib.hid (fun W (hW : Tab W) => hI.out ((t : Int) / 3600000) (S / 3600) (by omega) (by omega) W hW)
  have I2 := Lib.hid (fun W (hW : Tab W) => hI.out ((t : Int) / 60000 % 60) (S / 60 % 60) (by omega) (by omega) W hW)
  have I3 := Lib.hid (fun W (hW : Tab W) => hI.out (1000 + (t : Int) % 1000) (1000 + t % 1000) (by omega) (by omega) W hW)
  have T1 := Lib.hid (fun W (hW : Tab W) => H2.out ((t : Int) / 60000 % 60) (S / 60 % 60) (by omega) (by omega) W hW)
  have T2 := Lib.hid (fun W (hW : Tab W) => H2.out ((t : Int) / 1000 % 60) (S % 60) (by omega) (by omega) W hW)
  clear hI H2
  have z0 := bsD_size (S % 60) (by omega)
  have z1 := bsD_size (S / 3600) (by omega)
  have z2 := bsD_size (S / 60 % 60) (by omega)
  have hws := whole_size S (by omega)
  obtain ⟨X, hX⟩ : ∃ X : ByteArray, X = ⟨(wholeT S).toArray⟩ := ⟨_, rfl⟩
  have HX := Lib.hid hX
  rw [← hX] at hws
  clear hX
  go_enter Tryz.func13, Tryz.ntmps13
  go_upto_block 0 with (first | (go_at_call 23; refine I0.out.mono ?_; rintro e w1 ⟨rfl, hb1⟩))
  have ht1 := ht.below hb1
  have hwT : ∀ d, writeT t d = wholeT S ++ (if d = 0 then [] else 46 :: ((dec (1000 + t % 1000)).drop 1).take d) := by
    intro d; unfold writeT; rw [hS]
  have HW := Lib.hid (hwT d)
  clear hwT
  go_cut [9] (fun s9 V => s9 = .string X ∧ Below w.heap.size w V)
  case first =>
    have a58 : (⟨#[58]⟩ : ByteArray).size = 1 := rfl
    by_cases h1 : 3600 ≤ S
    · have c1 : (0 : Int) < (t : Int) / 3600000 := by omega
      have HE : Hid (sumS (sumS (sumS (sumS (bsD (S / 3600)) ⟨#[58]⟩) ⟨(dd (S / 60 % 60)).toArray⟩) ⟨#[58]⟩) ⟨(dd (S % 60)).toArray⟩ = X) := by
        refine Lib.hid ?_
        rw [HX.out]
        refine sumS_eq ?_
        rw [sumS_data, sumS_data, sumS_data, bsD_data, dat, dat, dat, whole3 h1]
      have d1 := ddS (S / 60 % 60)
      have d2 := ddS (S % 60)
      obtain ⟨x, hx⟩ : ∃ x, x = bsD (S / 3600) := ⟨_, rfl⟩
      obtain ⟨y, hy⟩ : ∃ y : ByteArray, y = ⟨(dd (S / 60 % 60)).toArray⟩ := ⟨_, rfl⟩
      obtain ⟨z, hz⟩ : ∃ z : ByteArray, z = ⟨(dd (S % 60)).toArray⟩ := ⟨_, rfl⟩
      rw [← hx] at I1 z1 HE
      rw [← hy] at T1 d1 HE
      rw [← hz] at T2 d2 HE
      have a1 : AddOk x ⟨#[58]⟩ := addOk_of (by omega) (by decide)
      have a2 : AddOk (sumS x ⟨#[58]⟩) y := addOk_of (by rw [sumS_size]; omega) (by omega)
      have a3 : AddOk (sumS (sumS x ⟨#[58]⟩) y) ⟨#[58]⟩ := addOk_of (by rw [sumS_size, sumS_size]; omega) (by decide)
      have a4 : AddOk (sumS (sumS (sumS x ⟨#[58]⟩) y) ⟨#[58]⟩) z := addOk_of (by rw [sumS_size, sumS_size, sumS_size]; omega) (by omega)
      clear hx hy hz h1 hS I0 I2 I3 z0 z2 HX HW a58 d1 d2 z1
      go_wp2_with fail
      refine (I1.out _ ht1).mono ?_
      rintro e w2 ⟨rfl, hb2⟩
      have ht2 := ht1.below hb2
      go_wp2_with fail
      refine (T1.out _ ht2).mono ?_
      rintro e w3 ⟨rfl, hb3⟩
      have ht3 := ht2.below hb3
      go_wp2_with fail
      refine (T2.out _ ht3).mono ?_
      rintro e w4 ⟨rfl, hb4⟩
      go_wp2_with fail
      go_meet
      exact ⟨by rw [HE.out], below_call (below_call (below_call hb1 hb2 (Nat.le_refl _)) hb3 (Nat.le_refl _)) hb4 (Nat.le_refl _)⟩
    · have c1 : ¬ (0 : Int) < (t : Int) / 3600000 := by omega
      by_cases h2 : 60 ≤ S
      · have c2 : (0 : Int) < (t : Int) / 60000 % 60 := by omega
        have e60 : S / 60 % 60 = S / 60 := by omega
        have HE : Hid (sumS (sumS (bsD (S / 60 % 60)) ⟨#[58]⟩) ⟨(dd (S % 60)).toArray⟩ = X) := by
          refine Lib.hid ?_
          rw [HX.out]
          refine sumS_eq ?_
          rw [sumS_data, bsD_data, dat, dat, whole2 h1 h2, e60]
        have d2 := ddS (S % 60)
        obtain ⟨x, hx⟩ : ∃ x, x = bsD (S / 60 % 60) := ⟨_, rfl⟩
        obtain ⟨z, hz⟩ : ∃ z : ByteArray, z = ⟨(dd (S % 60)).toArray⟩ := ⟨_, rfl⟩
        rw [← hx] at I2 z2 HE
        rw [← hz] at T2 d2 HE
        have a1 : AddOk x ⟨#[58]⟩ := addOk_of (by omega) (by decide)
        have a2 : AddOk (sumS x ⟨#[58]⟩) z := addOk_of (by rw [sumS_size]; omega) (by omega)
        clear hx hz h1 h2 hS I0 I1 I3 z0 z1 HX HW a58 d2 z2 e60 T1
        go_wp2_with fail
        refine (I2.out _ ht1).mono ?_
        rintro e w2 ⟨rfl, hb2⟩
        have ht2 := ht1.below hb2
        go_wp2_with fail
        refine (T2.out _ ht2).mono ?_
        rintro e w4 ⟨rfl, hb4⟩
        go_wp2_with fail
        go_meet
        exact ⟨by rw [HE.out], below_call (below_call hb1 hb2 (Nat.le_refl _)) hb4 (Nat.le_refl _)⟩
      · have c2 : ¬ (0 : Int) < (t : Int) / 60000 % 60 := by omega
        have HE : Hid (bsD (t / 1000 % 60) = X) := by
          refine Lib.hid ?_
          rw [← hS, HX.out, whole1 h2]
          have : S % 60 = S := by omega
          rw [this]; rfl
        clear h1 h2 hS I0 I1 I2 I3 z0 z1 z2 HX HW a58 T1 T2
        go_wp2_with fail
        go_meet
        exact ⟨by rw [HE.out], hb1⟩
  case rest =>
    obtain ⟨rfl, hb2⟩ := hcut
    have ht2 := ht.below hb2
    clear hb1 ht1 I0 I1 I2 T1 T2 z0 z1 z2
    by_cases h0 : d = 0
    · subst h0
      have HE : Hid (X = ⟨(writeT t 0).toArray⟩) := by
        refine Lib.hid ?_
        rw [HW.out, if_pos rfl, List.append_nil, HX.out]
      clear HW HX hS I3
      go_wp2_with fail
      go_ret
      exact ⟨by rw [← HE.out]; rfl, hb2⟩
    · have hdb : ((d : Int) == 0) = false := by simp; omega
      obtain ⟨y, hy⟩ : ∃ y, y = bsD (1000 + t % 1000) := ⟨_, rfl⟩
      have hyl : y.data.toList.drop 1 = [UInt8.ofNat (48 + t % 1000 / 100), UInt8.ofNat (48 + t % 1000 / 10 % 10), UInt8.ofNat (48 + t % 1000 % 10)] := by
        rw [hy, bsD_data, dec4 (by omega)]
      have hys : y.size = 4 := by
        have h1 : y.data.toList.length = y.size := by simp
        have h2 := congrArg List.length hyl
        rw [List.length_drop, h1] at h2
        simp at h2
        omega
      have hx1 : (y.extract 1 y.size).size = 3 := by rw [ByteArray.size_extract]; omega
      have hx2 : ((y.extract 1 y.size).extract 0 d).size ≤ 3 := by rw [ByteArray.size_extract]; omega
      have HE : Hid (sumS (sumS X ⟨#[46]⟩) ((y.extract 1 y.size).extract 0 d) = ⟨(writeT t d).toArray⟩) := by
        refine Lib.hid (sumS_eq ?_)
        rw [sumS_data, Lib.extract_from_zero, Lib.extract_to_end, hy, bsD_data, HW.out, if_neg h0, HX.out, dat, dat, List.append_assoc]
        rfl
      have a1 : AddOk X ⟨#[46]⟩ := addOk_of (by omega) (by decide)
      have a2 : AddOk (sumS X ⟨#[46]⟩) ((y.extract 1 y.size).extract 0 d) := addOk_of (by rw [sumS_size]; show X.size + 1 ≤ 200000; omega) (by omega)
      have hy1 : 1 ≤ y.size := by omega
      have hdx : d ≤ (y.extract 1 y.size).size := by omega
      rw [← hy] at I3
      rw [hys] at HE a2 hdx
      clear HW HX hS hy hyl hx1 hx2
      go_wp2_with fail
      refine (I3.out _ ht2).mono ?_
      rintro e w3 ⟨rfl, hb3⟩
      go_wp2_with fail
      go_ret
      exact ⟨by rw [← HE.out]; rfl, below_call hb2 hb3 (Nat.le_refl _)⟩

end Go.Proofs.YtipbhgefcmekpaaGreatDoor
