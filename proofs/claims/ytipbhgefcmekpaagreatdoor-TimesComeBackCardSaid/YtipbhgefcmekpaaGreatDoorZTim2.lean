/-
  Down, Write, Delta and DeltaOf by contracts.
-/
import Derived.Test.YtipbhgefcmekpaaGreatDoorZTim1
namespace Go.Proofs.YtipbhgefcmekpaaGreatDoor
open Go Go.RowKit TxtP
attribute [local go_sem ↓ high] run_sumS

def timE (a : Int) : Int := if outB a 0 864000000 = true then 1 else 0
theorem outB_no {a lo hi : Int} (h : outB a lo hi = false) : lo ≤ a ∧ a ≤ hi := by
  unfold outB at h
  have := of_decide_eq_false h
  omega
/-- Down's answer -/
def downR (a u : Int) : Value := if outB a 0 864000000 = true ∨ outB u 1 864000000 = true then .tuple #[.int .i64 0, .int .i64 1] else .tuple #[.int .i64 (a - a % u), .int .i64 0]
theorem rem_bd {a u : Int} (a0 : 0 ≤ a) (u0 : 1 ≤ u) : 0 ≤ a % u ∧ a % u ≤ a := by
  have hq0 : 0 ≤ a / u := Int.ediv_nonneg a0 (by omega)
  have hdm : u * (a / u) + a % u = a := Int.mul_ediv_add_emod a u
  have hm0 : 0 ≤ a % u := Int.emod_nonneg a (by omega)
  have h1 : 0 ≤ u * (a / u) := Int.mul_nonneg (by omega) hq0
  omega
set_option maxRecDepth 100000 in
theorem down_calls (a u : Int) (w : World) : Calls Tryz.prog 7 #[.int .i64 a, .int .i64 u] w (fun e w' => e = .returned (downR a u) ∧ w = w') := by
  unfold downR
  cases ha : outB a 0 864000000
  · cases hu : outB u 1 864000000
    · rw [if_neg (by simp)]
      obtain ⟨a0, a1⟩ := outB_no ha
      obtain ⟨u0, u1⟩ := outB_no hu
      have hu0 : ¬ u = 0 := by omega
      have hdm : u * (a / u) + a % u = a := Int.mul_ediv_add_emod a u
      obtain ⟨hm0, hm1⟩ := rem_bd a0 u0
      have hmul : a / u * u = a - a % u := by rw [Int.mul_comm]; omega
      have HW : Hid (wrap64 (a - a % u) = a - a % u) := by
        exact Lib.hid (IntWalk.wrap64_in _ (by omega))
      clear hdm
      go_enter Tryz.func7, Tryz.ntmps7
      go_wp2_with (first | (go_at_call 12; refine (out_calls _ _ _ _).mono ?_; rintro e w1 ⟨rfl, rfl⟩))
      go_ret2
      exact ⟨by first | (show Ending.returned (.tuple #[.int .i64 (wrap64 (a - a % u)), .int .i64 0]) = _; rw [HW.out]) | rfl, rfl⟩
    · rw [if_pos (Or.inr rfl)]
      go_enter Tryz.func7, Tryz.ntmps7
      go_wp2_with (first | (go_at_call 12; refine (out_calls _ _ _ _).mono ?_; rintro e w1 ⟨rfl, rfl⟩))
      go_ret2
      exact ⟨rfl, rfl⟩
  · rw [if_pos (Or.inl rfl)]
    go_enter Tryz.func7, Tryz.ntmps7
    go_wp2_with (first | (go_at_call 12; refine (out_calls _ _ _ _).mono ?_; rintro e w1 ⟨rfl, rfl⟩))
    go_ret2
    exact ⟨rfl, rfl⟩
/-- Write's answer -/
def wrtR (a d : Int) : Value := if outB a 0 864000000 = true ∨ outB d 0 3 = true then .tuple #[.string ⟨#[]⟩, .int .i64 1] else .tuple #[.string ⟨(writeT a.toNat d.toNat).toArray⟩, .int .i64 0]
set_option maxRecDepth 100000 in
theorem timWrite_calls (a d : Int) (w : World) (ht : Tab w) : Calls Tryz.prog 5 #[.int .i64 a, .int .i64 d] w (BRet (wrtR a d) w) := by
  unfold wrtR
  cases ha : outB a 0 864000000
  · cases hd : outB d 0 3
    · rw [if_neg (by simp)]
      obtain ⟨a0, a1⟩ := outB_no ha
      obtain ⟨d0, d1⟩ := outB_no hd
      obtain ⟨t, rfl⟩ := Int.eq_ofNat_of_zero_le a0
      obtain ⟨k, rfl⟩ := Int.eq_ofNat_of_zero_le d0
      have HW := Lib.hid (write_calls t k (by omega) (by omega) w ht)
      rw [Int.toNat_natCast, Int.toNat_natCast]
      go_enter Tryz.func5, Tryz.ntmps5
      go_wp2_with (first | (go_at_call 12; refine (out_calls _ _ _ _).mono ?_; rintro e w1 ⟨rfl, rfl⟩) | (go_at_call 13; refine HW.out.mono ?_; rintro e w2 ⟨rfl, hb2⟩))
      go_ret2
      exact ⟨rfl, hb2⟩
    · rw [if_pos (Or.inr rfl)]
      go_enter Tryz.func5, Tryz.ntmps5
      go_wp2_with (first | (go_at_call 12; refine (out_calls _ _ _ _).mono ?_; rintro e w1 ⟨rfl, rfl⟩))
      go_ret2
      exact ⟨rfl, Below.refl _ _⟩
  · rw [if_pos (Or.inl rfl)]
    go_enter Tryz.func5, Tryz.ntmps5
    go_wp2_with (first | (go_at_call 12; refine (out_calls _ _ _ _).mono ?_; rintro e w1 ⟨rfl, rfl⟩))
    go_ret2
    exact ⟨rfl, Below.refl _ _⟩
/-- a difference, written -/
def dltT (a b : Int) (d : Int) : List UInt8 := if a < b then 45 :: writeT (b - a).toNat d.toNat else 43 :: writeT (a - b).toNat d.toNat
theorem write_size (t d : Nat) (hT : t ≤ 1000000000000) (hd : d ≤ 3) : (⟨(writeT t d).toArray⟩ : ByteArray).size ≤ 100 := by
  rw [ba_size]
  have h1 := whole_size (t / 1000) (by omega)
  rw [ba_size] at h1
  unfold writeT
  rw [List.length_append]
  by_cases h0 : d = 0
  · rw [if_pos h0]; simp; omega
  · rw [if_neg h0, List.length_cons, List.length_take]; omega
theorem sub_wrap {a b : Int} (ha : 0 ≤ a ∧ a ≤ 864000000) (hb : 0 ≤ b ∧ b ≤ 864000000) : IntKind.i64.wrap (a - b) = a - b := IntWalk.i64_in _ (by omega)
/-- Delta's answer -/
def dltR (a b d : Int) : Value := if outB a 0 864000000 = true ∨ outB b 0 864000000 = true ∨ outB d 0 3 = true then .tuple #[.string ⟨#[]⟩, .int .i64 1] else .tuple #[.string ⟨(dltT a b d).toArray⟩, .int .i64 0]
set_option maxRecDepth 100000 in
set_option maxHeartbeats 1000000 in
theorem delta_calls (a b d : Int) (w : World) (ht : Tab w) : Calls Tryz.prog 8 #[.int .i64 a, .int .i64 b, .int .i64 d] w (BRet (dltR a b d) w) := by
  unfold dltR
  cases ha : outB a 0 864000000
  · cases hb : outB b 0 864000000
    · cases hd : outB d 0 3
      · rw [if_neg (by simp)]
        have a01 := outB_no ha
        have b01 := outB_no hb
        obtain ⟨d0, d1⟩ := outB_no hd
        obtain ⟨k, rfl⟩ := Int.eq_ofNat_of_zero_le d0
        by_cases hlt : a < b
        · obtain ⟨t, hT⟩ := Int.eq_ofNat_of_zero_le (show 0 ≤ b - a by omega)
          have HW := Lib.hid (write_calls t k (by omega) (by omega) w ht)
          have hsz := write_size t k (by omega) (by omega)
          obtain ⟨x, hx⟩ : ∃ x : ByteArray, x = ⟨(writeT t k).toArray⟩ := ⟨_, rfl⟩
          have HE : Hid (sumS ⟨#[45]⟩ x = ⟨(dltT a b (k : Int)).toArray⟩) := by
            refine Lib.hid (sumS_eq ?_)
            unfold dltT
            rw [if_pos hlt, hT, Int.toNat_natCast, Int.toNat_natCast, hx, dat]
            rfl
          rw [← hx] at HW hsz
          have a1 : AddOk ⟨#[45]⟩ x := addOk_of (by decide) (by omega)
          have hw := sub_wrap b01 a01
          rw [← hT] at HW
          clear hx hT
          go_enter Tryz.func8, Tryz.ntmps8
          go_wp2_with (first | (go_at_call 12; refine (out_calls _ _ _ _).mono ?_; rintro e w1 ⟨rfl, rfl⟩) | (go_at_call 13; refine HW.out.mono ?_; rintro e w2 ⟨rfl, hb2⟩))
          go_ret2
          exact ⟨by rw [← HE.out]; rfl, hb2⟩
        · obtain ⟨t, hT⟩ := Int.eq_ofNat_of_zero_le (show 0 ≤ a - b by omega)
          have HW := Lib.hid (write_calls t k (by omega) (by omega) w ht)
          have hsz := write_size t k (by omega) (by omega)
          obtain ⟨x, hx⟩ : ∃ x : ByteArray, x = ⟨(writeT t k).toArray⟩ := ⟨_, rfl⟩
          have HE : Hid (sumS ⟨#[43]⟩ x = ⟨(dltT a b (k : Int)).toArray⟩) := by
            refine Lib.hid (sumS_eq ?_)
            unfold dltT
            rw [if_neg hlt, hT, Int.toNat_natCast, Int.toNat_natCast, hx, dat]
            rfl
          rw [← hx] at HW hsz
          have a1 : AddOk ⟨#[43]⟩ x := addOk_of (by decide) (by omega)
          have hw := sub_wrap a01 b01
          rw [← hT] at HW
          clear hx hT
          go_enter Tryz.func8, Tryz.ntmps8
          go_wp2_with (first | (go_at_call 12; refine (out_calls _ _ _ _).mono ?_; rintro e w1 ⟨rfl, rfl⟩) | (go_at_call 13; refine HW.out.mono ?_; rintro e w2 ⟨rfl, hb2⟩))
          go_ret2
          exact ⟨by rw [← HE.out]; rfl, hb2⟩
      · rw [if_pos (Or.inr (Or.inr rfl))]
        go_enter Tryz.func8, Tryz.ntmps8
        go_wp2_with (first | (go_at_call 12; refine (out_calls _ _ _ _).mono ?_; rintro e w1 ⟨rfl, rfl⟩))
        go_ret2
        exact ⟨rfl, Below.refl _ _⟩
    · rw [if_pos (Or.inr (Or.inl rfl))]
      go_enter Tryz.func8, Tryz.ntmps8
      go_wp2_with (first | (go_at_call 12; refine (out_calls _ _ _ _).mono ?_; rintro e w1 ⟨rfl, rfl⟩))
      go_ret2
      exact ⟨rfl, Below.refl _ _⟩
  · rw [if_pos (Or.inl rfl)]
    go_enter Tryz.func8, Tryz.ntmps8
    go_wp2_with (first | (go_at_call 12; refine (out_calls _ _ _ _).mono ?_; rintro e w1 ⟨rfl, rfl⟩))
    go_ret2
    exact ⟨rfl, Below.refl _ _⟩
end Go.Proofs.YtipbhgefcmekpaaGreatDoor
