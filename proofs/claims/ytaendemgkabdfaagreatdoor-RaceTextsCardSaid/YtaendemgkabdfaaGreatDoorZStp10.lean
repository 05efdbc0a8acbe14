/-
  The stream's RaceText by its contract: some string. (Printed by gen_stp10.py out of XPrt6.)
-/
import Derived.Test.YtaendemgkabdfaaGreatDoorZStp7
import Derived.Test.YtaendemgkabdfaaGreatDoorZTxt5
import Derived.Test.YtaendemgkabdfaaGreatDoorZStp8
namespace Go.Proofs.YtaendemgkabdfaaGreatDoor
open Go Go.RowKit TxtP

set_option maxRecDepth 100000 in
set_option maxHeartbeats 2000000 in
theorem raceStrm_calls (b K : Nat) (w00 w : World) (hs : Strm w b K) (hK : K ≤ 700000) (ht : Tab w00) (hb00 : Below w00.heap.size w00 w) (h0b : w00.heap.size ≤ b) :
    Calls Tryz.prog 7 #[.pointer (some ⟨b, 0, none⟩)] w (SpS (IsStrN 9000) w b (K + 300) []) := by
  have hS0 := Sp.start hs
  have HT : Hid (∀ W, Bx w.heap.size b w W → Tab W) := by
    refine Lib.hid (fun W h => ?_)
    exact ht.below (hb00.trans ((h.mono hb00.size).below h0b))
  clear ht hb00 h0b
  go_enter Tryz.func7, Tryz.ntmps7
  go_wp2_with fail
  refine (sp_range hS0 0 4 (by omega) (by omega) (by omega) (by omega)).mono ?_
  rintro e w1 ⟨_, rfl, ⟨m0, rfl, h0, h1⟩, hS1⟩
  obtain ⟨m, rfl⟩ := Int.eq_ofNat_of_zero_le h0
  clear hS0
  go_wp2_with fail
  refine (rightSteps_calls b (K + 1) m w1 hS1.strm (by omega) (by omega)).mono ?_
  rintro e w2 ⟨v, l, rfl, hlm, HR, hS2⟩
  have hO : w2.ownsRow w1.heap.size 39 3 v m (l.flatMap stC) := hS2.head
  obtain ⟨A, c, hv⟩ := own_form hO
  subst hv
  have hr2 := Rd.own (b := b) hO hS1.strm.lt
  have hok := HR.ok (by omega)
  have hS3 := hS1.call hS2.strm hS2.bx
  have htw := HT.out w2 hS3.bx
  have hsz := slinesT_le hok
  have HPL := Lib.hid (stepLines_calls b A m c l w2 hr2 hS3.lt htw (by omega) hok)
  obtain ⟨x, hx⟩ : ∃ x : ByteArray, x = ⟨(slinesT l).toArray⟩ := ⟨_, rfl⟩
  have hxs : x.size ≤ 400 := by rw [hx, ba_size]; omega
  rw [← hx] at HPL
  clear hx hr2 hO hS2 HR hok hS1 htw hsz HT
  go_wp2_with (first | (go_at_call 10; refine HPL.out.mono ?_; rintro e w3 ⟨rfl, hb3⟩))
  have hS4 := hS3.callB hb3
  clear hS3
  refine (sp_pickL hS4 #[.int .i64 0, .int .i64 0, .int .i64 1, .int .i64 2] 3 4 0 2 (by decide) (by decide) rfl rfl (by omega)).mono ?_
  rintro e w4 ⟨_, rfl, ⟨q, rfl, hq0, hq1⟩, hS5⟩
  obtain ⟨n, rfl⟩ := Int.eq_ofNat_of_zero_le hq0
  have hn2 : n ≤ 2 := by omega
  clear hS4 hb3
  go_wp2_with fail
  go_loopw [3, 12] (fun s i wr => ∃ (k : Nat) (y : ByteArray), k ≤ n ∧ s = .string y ∧ i = .int .i64 k ∧ y.size ≤ 400 + 20 * k ∧ Sp w b (K + 112 + 20 * k) wr []) (fun _ i _ => n - (intOf i).toNat)
  case atStart => exact ⟨0, x, Nat.zero_le _, rfl, rfl, by omega, hS5.more (by omega)⟩
  case round =>
    clear hS5
    obtain ⟨k, y, hk, rfl, rfl, hys, hS⟩ := hrel
    by_cases hlt : k < n
    · go_wp2_with fail
      refine (changed_calls b (K + 112 + 20 * k) y ⟨#[32, 10, 48, 45, 57, 101, 103]⟩ wr hS.strm (by omega) (by omega) (by decide) (by decide)).mono ?_
      rintro e w6 ⟨_, rfl, ⟨z, rfl, hz⟩, hS6⟩
      have hz2 : z.size ≤ 400 + 20 * (k + 1) := by
        have : (⟨#[32, 10, 48, 45, 57, 101, 103]⟩ : ByteArray).size = 7 := rfl
        omega
      have hS7 := (hS.call hS6.strm hS6.bx).more (K' := K + 112 + 20 * (k + 1)) (by omega)
      clear hS hS6 hz
      go_wp2_with fail
      go_roundw
      case rel => exact ⟨k + 1, z, by omega, rfl, by go_num, hz2, hS7⟩
      case measure => simp [intOf]; omega
    · go_wp2_with fail
      go_ret
      exact ⟨_, rfl, ⟨y, rfl, by omega⟩, hS.more (by omega)⟩
end Go.Proofs.YtaendemgkabdfaaGreatDoor
