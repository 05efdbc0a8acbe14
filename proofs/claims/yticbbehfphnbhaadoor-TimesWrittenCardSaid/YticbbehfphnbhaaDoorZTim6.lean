/-
  The stream's TimeText, and the law's own faults by contracts.
-/
import Derived.Test.YticbbehfphnbhaaDoorZTim2
import Derived.Test.YticbbehfphnbhaaDoorZTim5
import Derived.Test.YticbbehfphnbhaaDoorZTxt5
import Derived.Test.YticbbehfphnbhaaDoorZRat1
import Derived.Test.YticbbehfphnbhaaDoorZFrmMake
namespace Go.Proofs.YticbbehfphnbhaaDoor
open Go Go.RowKit TxtP

set_option maxRecDepth 100000 in
set_option maxHeartbeats 2000000 in
theorem timeText_calls (b K : Nat) (w00 w : World) (hs : Strm w b K) (hK : K ≤ 700000) (ht : Tab w00) (hb00 : Below w00.heap.size w00 w) (h0b : w00.heap.size ≤ b) :
    Calls Tryd.prog 6 #[.pointer (some ⟨b, 0, none⟩)] w (SpS (IsStrN 9000) w b (K + 200) []) := by
  have hS0 := Sp.start hs
  have HT : Hid (∀ W, Bx w.heap.size b w W → Tab W) := by
    refine Lib.hid (fun W h => ?_)
    exact ht.below (hb00.trans ((h.mono hb00.size).below h0b))
  clear ht hb00 h0b
  go_enter Tryd.func6, Tryd.ntmps6
  go_wp2_with fail
  refine (sp_range hS0 0 1000 (by omega) (by omega) (by omega) (by omega)).mono ?_
  rintro e w1 ⟨_, rfl, ⟨m0, rfl, h0, h1⟩, hS1⟩
  clear hS0
  go_wp2_with fail
  refine (sp_pickL hS1 #[.int .i64 1, .int .i64 1000, .int .i64 3600, .int .i64 864000] 3 4 1 864000 (by decide) (by decide) rfl rfl (by omega)).mono ?_
  rintro e w2 ⟨_, rfl, ⟨p0, rfl, hp0, hp1⟩, hS2⟩
  clear hS1
  have hbd := mul_bd (x := m0) (y := p0) (X := 1000) (Y := 864000) (by omega) (by omega) (by omega) (by omega) (by omega)
  have hnn : 0 ≤ m0 * p0 := Int.mul_nonneg h0 (by omega)
  have hwr : IntKind.i64.wrap (m0 * p0) = m0 * p0 := IntWalk.i64_in _ (by omega)
  obtain ⟨t, hT⟩ := Int.eq_ofNat_of_zero_le hnn
  go_wp2_with fail
  refine (sp_range hS2 0 3 (by omega) (by omega) (by omega) (by omega)).mono ?_
  rintro e w3 ⟨_, rfl, ⟨d0, rfl, hd0, hd1⟩, hS3⟩
  obtain ⟨d, rfl⟩ := Int.eq_ofNat_of_zero_le hd0
  clear hS2
  have htw := HT.out w3 hS3.bx
  have HPL := Lib.hid (written_calls t d (by omega) (by omega) w3 htw)
  have hsz := write_size t d (by omega) (by omega)
  obtain ⟨x, hx⟩ : ∃ x : ByteArray, x = ⟨(writeT t d).toArray⟩ := ⟨_, rfl⟩
  rw [← hx] at HPL hsz

  clear hx htw HT hT hnn hbd
  go_wp2_with (first | (go_at_call 14; refine HPL.out.mono ?_; rintro e w4 ⟨rfl, hb4⟩))
  have hS4 := hS3.callB hb4
  clear hS3
  refine (sp_pickL hS4 #[.int .i64 0, .int .i64 0, .int .i64 1, .int .i64 2] 3 4 0 2 (by decide) (by decide) rfl rfl (by omega)).mono ?_
  rintro e w5 ⟨_, rfl, ⟨q, rfl, hq0, hq1⟩, hS5⟩
  obtain ⟨n, rfl⟩ := Int.eq_ofNat_of_zero_le hq0
  have hn2 : n ≤ 2 := by omega
  clear hS4 hb4
  go_wp2_with fail
  go_loopw [3, 16] (fun s i wr => ∃ (k : Nat) (y : ByteArray), k ≤ n ∧ s = .string y ∧ i = .int .i64 k ∧ y.size ≤ 200 + 20 * k ∧ Sp w b (K + 52 + 20 * k) wr []) (fun _ i _ => n - (intOf i).toNat)
  case atStart => exact ⟨0, x, Nat.zero_le _, rfl, rfl, by omega, hS5.more (by omega)⟩
  case round =>
    clear hS5
    obtain ⟨k, y, hk, rfl, rfl, hys, hS⟩ := hrel
    by_cases hlt : k < n
    · go_wp2_with fail
      refine (changed_calls b (K + 52 + 20 * k) y ⟨#[58, 46, 48, 53, 57, 54]⟩ wr hS.strm (by omega) (by omega) (by decide) (by decide)).mono ?_
      rintro e w6 ⟨_, rfl, ⟨z, rfl, hz⟩, hS6⟩
      have hz2 : z.size ≤ 200 + 20 * (k + 1) := by
        have : (⟨#[58, 46, 48, 53, 57, 54]⟩ : ByteArray).size = 6 := rfl
        omega
      have hS7 := (hS.call hS6.strm hS6.bx).more (K' := K + 52 + 20 * (k + 1)) (by omega)
      clear hS hS6 hz
      go_wp2_with fail
      go_roundw
      case rel => exact ⟨k + 1, z, by omega, rfl, by go_num, hz2, hS7⟩
      case measure => simp [intOf]; omega
    · go_wp2_with fail
      go_ret
      exact ⟨_, rfl, ⟨y, rfl, by omega⟩, hS.more (by omega)⟩
theorem whenT_calls (B : Bool) (E : Int) (w : World) : Calls Tryd.prog 11 #[.bool B, .int .i64 E] w fun e w' => e = .returned (.int .i64 (if B = true then E else 0)) ∧ w = w' := by
  cases B
  · go_enter Tryd.func11, Tryd.ntmps11
    go_wp2_with fail
    go_ret
    exact ⟨rfl, rfl⟩
  · go_enter Tryd.func11, Tryd.ntmps11
    go_wp2_with fail
    go_ret
    exact ⟨rfl, rfl⟩
theorem timeFault_calls (a : Int) (w : World) : Calls Tryd.prog 13 #[.int .i64 a] w fun e w' => e = .returned (.int .i64 (timE a)) ∧ w = w' := by
  unfold timE outB
  by_cases h0 : a < 0
  · rw [if_pos (by simp; omega)]
    go_enter Tryd.func13, Tryd.ntmps13
    go_wp2_with (first | (go_at_call 11; refine (whenT_calls _ _ _).mono ?_; rintro e w1 ⟨rfl, rfl⟩))
    go_ret
    exact ⟨rfl, rfl⟩
  · by_cases h1 : 864000000 < a
    · rw [if_pos (by simp; omega)]
      go_enter Tryd.func13, Tryd.ntmps13
      go_wp2_with (first | (go_at_call 11; refine (whenT_calls _ _ _).mono ?_; rintro e w1 ⟨rfl, rfl⟩))
      go_ret
      exact ⟨rfl, rfl⟩
    · rw [if_neg (by simp; omega)]
      go_enter Tryd.func13, Tryd.ntmps13
      go_wp2_with (first | (go_at_call 11; refine (whenT_calls _ _ _).mono ?_; rintro e w1 ⟨rfl, rfl⟩))
      go_ret
      exact ⟨rfl, rfl⟩
theorem errsT_calls (b : Nat) (l : List Int) (G : Nat) (V : World) (hb : b < V.heap.size) (hG : V.heap.size = G) (hl : l.length ≤ 10) :
    Calls Tryd.prog 12 #[.slice (some ⟨G, 0, none⟩) l.length l.length] (V.alloc (.cells (l.map (Value.int .i64)).toArray 29)) (fun e w' => e = .returned (.int .i64 (firstE l)) ∧ Below (V.alloc (.cells (l.map (Value.int .i64)).toArray 29)).heap.size (V.alloc (.cells (l.map (Value.int .i64)).toArray 29)) w') := by
  subst hG
  have hrd := Rd.lit0 (w := V) (cs := (l.map (Value.int .i64)).toArray) (t := 29) (size := 1) (n := l.length) hb (by unfold maxLen; omega) (by simp)
  have := errs_calls b _ l.length l.length l _ (by simpa using hrd)
  refine this.mono ?_
  rintro e w' ⟨rfl, n, rfl⟩
  exact ⟨rfl, below_drewN (Below.refl _ _) n⟩
end Go.Proofs.YticbbehfphnbhaaDoor
