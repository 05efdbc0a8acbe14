/-
  The stream's SlotText by its contract: some string. (Printed out of XStp10.)
-/
import Derived.Test.YtaendemgkabdfaaGreatDoorZSlt5
import Derived.Test.YtaendemgkabdfaaGreatDoorZTxt5
import Derived.Test.YtaendemgkabdfaaGreatDoorZShown
namespace Go.Proofs.YtaendemgkabdfaaGreatDoor
open Go Go.RowKit TxtP

set_option maxRecDepth 100000 in
set_option maxHeartbeats 2000000 in
theorem slotStrm_calls (b K : Nat) (w00 w : World) (hs : Strm w b K) (hK : K ≤ 700000) (ht : Tab w00) (hb00 : Below w00.heap.size w00 w) (h0b : w00.heap.size ≤ b) :
    Calls Tryz.prog 16 #[.pointer (some ⟨b, 0, none⟩)] w (SpS (IsStrN 90000) w b (K + 300) []) := by
  have hS0 := Sp.start hs
  have HT : Hid (∀ W, Bx w.heap.size b w W → Tab W) := by
    refine Lib.hid (fun W h => ?_)
    exact ht.below (hb00.trans ((h.mono hb00.size).below h0b))
  clear ht hb00 h0b
  go_enter Tryz.func16, Tryz.ntmps16
  go_wp2_with fail
  refine (rightSlots_calls b K 3 w hS0.strm (by omega) (by omega)).mono ?_
  rintro e w2 ⟨v, l, rfl, hlm, hz, hS2⟩
  obtain ⟨m, hm⟩ : ∃ m, l.length = m := ⟨_, rfl⟩
  rw [hm] at hlm hS2
  have hO : w2.ownsRow w.heap.size 52 5 v m (l.flatMap sltC) := hS2.head
  obtain ⟨A, c, hv⟩ := own_form hO
  subst hv
  have hr2 := slts_of hS2 hz (by omega)
  have hS3 := hS0.call hS2.strm hS2.bx
  have htw := HT.out w2 hS3.bx
  have hsz := sltsT_le (hz.more (by omega) : SltZs 4 l)
  have HPL := Lib.hid (slotLines_calls b A m c l w2 hr2 hS3.lt htw (by omega) (hz.more (by omega)))
  obtain ⟨x, hx⟩ : ∃ x : ByteArray, x = ⟨(sltsT l).toArray⟩ := ⟨_, rfl⟩
  have hxs : x.size ≤ 20000 := by rw [hx, ba_size]; omega
  rw [← hx] at HPL
  clear hx hr2 hO hS2 htw hsz HT hz hS0 hm
  go_wp2_with (first | (go_at_call 19; refine HPL.out.mono ?_; rintro e w3 ⟨rfl, hb3⟩))
  have hS4 := hS3.callB hb3
  clear hS3
  refine (sp_pickL hS4 #[.int .i64 0, .int .i64 0, .int .i64 1, .int .i64 2] 3 4 0 2 (by decide) (by decide) rfl rfl (by omega)).mono ?_
  rintro e w4 ⟨_, rfl, ⟨q, rfl, hq0, hq1⟩, hS5⟩
  obtain ⟨n, rfl⟩ := Int.eq_ofNat_of_zero_le hq0
  have hn2 : n ≤ 2 := by omega
  clear hS4 hb3
  go_wp2_with fail
  go_loopw [3, 10] (fun s i wr => ∃ (k : Nat) (y : ByteArray), k ≤ n ∧ s = .string y ∧ i = .int .i64 k ∧ y.size ≤ 20000 + 20 * k ∧ Sp w b (K + 112 + 20 * k) wr []) (fun _ i _ => n - (intOf i).toNat)
  case atStart => exact ⟨0, x, Nat.zero_le _, rfl, rfl, by omega, hS5.more (by omega)⟩
  case round =>
    clear hS5
    obtain ⟨k, y, hk, rfl, rfl, hys, hS⟩ := hrel
    by_cases hlt : k < n
    · go_wp2_with fail
      refine (changed_calls b (K + 112 + 20 * k) y ⟨#[32, 10, 48, 45, 57, 44, 115, 97]⟩ wr hS.strm (by omega) (by omega) (by decide) (by decide)).mono ?_
      rintro e w6 ⟨_, rfl, ⟨z, rfl, hz⟩, hS6⟩
      have hz2 : z.size ≤ 20000 + 20 * (k + 1) := by
        have : (⟨#[32, 10, 48, 45, 57, 44, 115, 97]⟩ : ByteArray).size = 8 := rfl
        omega
      have hS7 := (hS.call hS6.strm hS6.bx).more (K' := K + 112 + 20 * (k + 1)) (by omega)
      clear hS hS6 hz
      go_wp2_with fail
      go_roundw
      case rel => exact ⟨k + 1, z, by omega, rfl, by go_num, hz2, hS7⟩
      case measure => simp [intOf]; omega
    · go_wp2_with fail
      go_ret
      exact ⟨_, rfl, ⟨y, rfl, by omega⟩, hS.more (by omega)⟩
end Go.Proofs.YtaendemgkabdfaaGreatDoor
