/-
  RunTexts: the law's own walk.
-/
import Derived.Test.YtmbeclcdpagjiaaGreatDoorZLawStart
import Derived.Test.YtmbeclcdpagjiaaGreatDoorZRtx3
import Derived.Test.YtmbeclcdpagjiaaGreatDoorZRtx4
import Derived.Test.YtmbeclcdpagjiaaGreatDoorZSrn2
import Derived.Test.YtmbeclcdpagjiaaGreatDoorZEqRun
import Derived.Test.YtmbeclcdpagjiaaGreatDoorZRuled
import Derived.Deep.DeepCutAuto
namespace Go.Proofs.YtmbeclcdpagjiaaGreatDoor
open Go Go.RowKit TxtP

/-- runs that can be read in memory -/
structure RunRd (w : World) (b : Nat) (A : Option Addr) (n c : Nat) (xs : List Rn) : Prop where
  rd : Rd w b 5 (.slice A n c) n (xs.flatMap rnC)
  hs : ∀ x ∈ xs, Rd w b 2 (.slice x.fa x.fs.length x.fc) x.fs.length (x.fs.flatMap prC)
theorem RunRd.below {w w' : World} {b n c : Nat} {A : Option Addr} {xs : List Rn} (h : RunRd w b A n c xs) (k : Below w.heap.size w w') : RunRd w' b A n c xs := ⟨h.rd.below k, fun x hx => (h.hs x hx).below k⟩
set_option maxRecDepth 100000 in
set_option maxHeartbeats 4000000 in
theorem rxt_walk (a0 : Option Addr) (len0 cap0 : Nat) (z0 : List Int) (w : World) (w0 : InRow w a0 len0 cap0 z0) (ht : Tab w) (hx : MxL w) :
    Calls Tryz.prog 4 #[.slice a0 len0 cap0] w fun e w' => e = .returned (.bool true) ∧ Below w.heap.size w w' := by
  have hs0 := strm_start w0 25
  have hb0 : Bx w.heap.size w.heap.size w (w.alloc (.cells #[.slice a0 len0 cap0, .int .i64 0] 25)) := (Bx.refl _ _ _).alloc (Nat.le_refl _) _
  clear w0
  go_enter Tryz.func4, Tryz.ntmps4
  go_wp2_with fail
  refine (someRuns_calls w.heap.size 0 _ hs0 (by omega)).mono ?_
  rintro e w3 ⟨v, l, rfl, hlm, hz, hS3⟩
  obtain ⟨m, hm⟩ : ∃ m, l.length = m := ⟨_, rfl⟩
  rw [hm] at hlm hS3
  have hO : w3.ownsRow _ _ _ v m (l.flatMap rnC) := hS3.head
  have hb3 := hb0.call hS3.bx (Nat.le_refl _)
  have hB3 := hb3.below (Nat.le_refl _)
  have hlt3 := hS3.lt
  have hs3 := hS3.strm
  obtain ⟨A, c, hv⟩ := own_form hO
  subst hv
  have hr3 := rns_ofS hS3 hz
  clear hs0 hb0 hS3 hO hm
  go_wp2_with fail
  refine (runStrm_calls w.heap.size _ w w3 hs3 (by omega) ht hB3 (Nat.le_refl _)).mono ?_
  rintro e w4 ⟨_, rfl, ⟨t, rfl, hts⟩, hS4⟩
  have hr4 := hr3.bx hS4.bx
  have hB4 := (hb3.call hS4.bx (Nat.le_refl _)).below (Nat.le_refl _)
  have hlt4 := hS4.lt
  have ht4 := ht.below hB4
  have hx4 := hx.below hB4
  clear hs3 hb3 hB3 hlt3 hr3 hS4
  obtain ⟨F, hF⟩ : ∃ F, runsF l = F := ⟨_, rfl⟩
  obtain ⟨X, hX⟩ : ∃ X : ByteArray, (if runsF l = 0 then ⟨(rnsT l).toArray⟩ else ⟨#[]⟩) = X := ⟨_, rfl⟩
  have HRX := Lib.hid (fun W (h : Below w4.heap.size w4 W) => hr4.below h)
  have H1 : Hid (Calls Tryz.prog 17 #[.slice A m c] w4 (BRet (.tuple #[.string X, .int .i64 F]) w4)) := by
    have := runText_calls w.heap.size A m c l w4 hr4 hlt4 ht4 (by omega) hz
    unfold RnTxtR at this
    rw [hX, hF] at this
    exact Lib.hid this
  have H2 : Hid (∀ W, Below w4.heap.size w4 W → Calls Tryz.prog 18 #[.slice A m c] W (BRet (.int .i64 F) W)) := by
    refine Lib.hid (fun W h => ?_)
    have := runsFaultQ_calls w.heap.size A m c l W (HRX.out W h) (Nat.lt_of_lt_of_le hlt4 h.size)
    rw [hF] at this
    exact this
  have H3 : Hid (F = 0 → ∀ W, Below w4.heap.size w4 W → Calls Tryz.prog 19 #[.slice A m c] W (BRet (.string X) W)) := by
    refine Lib.hid (fun h0 W h => ?_)
    have hp : runsF l = 0 := hF.trans h0
    have := runLines_calls w.heap.size A m c l W (HRX.out W h) (Nat.lt_of_lt_of_le hlt4 h.size) (ht4.below h) (by omega) hz
    rw [if_pos hp] at hX
    rw [hX] at this
    exact this
  have H3n : Hid (F ≠ 0 → X = ⟨#[]⟩) := by
    refine Lib.hid (fun h0 => ?_)
    rw [← hX, if_neg (by rw [hF]; exact h0)]
  obtain ⟨E, hE⟩ : ∃ E, rrdE t.data.toList = E := ⟨_, rfl⟩
  obtain ⟨I, hI⟩ : ∃ I, rrdI t.data.toList = I := ⟨_, rfl⟩
  obtain ⟨L, hL⟩ : ∃ L, rrdL t.data.toList = L := ⟨_, rfl⟩
  obtain ⟨n, hn⟩ : ∃ n, n = L.length := ⟨_, rfl⟩
  have H4 : Hid (∀ W, Below w4.heap.size w4 W → Calls Tryz.prog 20 #[.string t] W (fun e w' => ∃ A8 c8 xs, e = .returned (.tuple #[.slice A8 n c8, .int .i64 I, .int .i64 E]) ∧ Hid (xs.map cntR = L) ∧ Hid (RunRd w' w.heap.size A8 n c8 xs) ∧ Below W.heap.size W w')) := by
    refine Lib.hid (fun W h => (runRead_calls t W (hx4.below h)).mono ?_)
    rintro e w' ⟨v, xs, rfl, hxs, hS⟩
    rw [hL] at hxs
    have hl : xs.length = n := by rw [hn, ← hxs, List.length_map]
    rw [hE, hI]
    rw [hl] at hS
    obtain ⟨A8, c8, hv⟩ := own_form (show w'.ownsRow _ _ _ v n (xs.flatMap rnC) from hS.head)
    subst hv
    have hbW : w.heap.size < W.heap.size := Nat.lt_of_lt_of_le hlt4 h.size
    exact ⟨A8, c8, xs, rfl, Lib.hid hxs, Lib.hid ⟨Rd.own (show w'.ownsRow _ _ _ (.slice A8 n c8) n (xs.flatMap rnC) from hS.head) hbW, fun x hx => Rd.own ((hS.nth 1 rfl : ∀ a ∈ xs, (fldR W.heap.size a).P w') x hx) hbW⟩, hS.below⟩
  have H5 : Hid (∀ W, Below w4.heap.size w4 W → Calls Tryz.prog 21 #[.string t] W (fun e w' => ∃ A8 c8 xs, e = .returned (.tuple #[.slice A8 n c8, .int .i64 I, .int .i64 E]) ∧ Hid (xs.map cntR = L) ∧ Hid (RunRd w' w.heap.size A8 n c8 xs) ∧ Below W.heap.size W w')) := by
    refine Lib.hid (fun W h => (runsRead_calls t W (hx4.below h) (ht4.below h)).mono ?_)
    rintro e w' ⟨v, xs, rfl, hxs, hS⟩
    rw [hL] at hxs
    have hl : xs.length = n := by rw [hn, ← hxs, List.length_map]
    rw [hE, hI]
    rw [hl] at hS
    obtain ⟨A8, c8, hv⟩ := own_form (show w'.ownsRow _ _ _ v n (xs.flatMap rnC) from hS.head)
    subst hv
    have hbW : w.heap.size < W.heap.size := Nat.lt_of_lt_of_le hlt4 h.size
    exact ⟨A8, c8, xs, rfl, Lib.hid hxs, Lib.hid ⟨Rd.own (show w'.ownsRow _ _ _ (.slice A8 n c8) n (xs.flatMap rnC) from hS.head) hbW, fun x hx => Rd.own ((hS.nth 1 rfl : ∀ a ∈ xs, (fldR W.heap.size a).P w') x hx) hbW⟩, hS.below⟩
  have HB4 := Lib.hid hB4
  clear hr4 HRX hE hI hL hn hF hX hlm hz hts hx hx4
  go_wp2_with fail
  refine H1.out.mono ?_
  rintro e w5 ⟨rfl, hb5⟩
  go_wp2_with fail
  refine (H2.out _ hb5).mono ?_
  rintro e w6 ⟨rfl, hb6⟩
  have hB6 := below_call hb5 hb6 (Nat.le_refl _)
  clear hb5 hb6 H1 H2
  go_upto_if 31 with (fail)
  go_cut [9] (fun s9 W => s9 = .string X ∧ Below w4.heap.size w4 W)
  case first =>
    by_cases h0 : F = 0
    · subst h0
      go_wp2_with fail
      refine (H3.out (by first | rfl | trivial) _ hB6).mono ?_
      rintro e w7 ⟨rfl, hb7⟩
      go_wp2_with fail
      go_meet
      exact ⟨rfl, below_call hB6 hb7 (Nat.le_refl _)⟩
    · have e1 := H3n.out h0
      have hx : (F == 0) = false := by simpa using h0
      subst e1
      go_wp2_with fail
      go_meet
      exact ⟨rfl, hB6⟩
  case rest =>
    obtain ⟨rfl, hB7⟩ := hcut
    clear hB6 H3 H3n
    go_wp2_with fail
    refine (H4.out _ hB7).mono ?_
    rintro e w8 ⟨A8, c8, xs8, rfl, HX8, HR8, hb8⟩
    have hB8 := below_call hB7 hb8 (Nat.le_refl _)
    clear hb8 hB7
    go_wp2_with fail
    refine (H5.out _ hB8).mono ?_
    rintro e w9 ⟨A9, c9, xs9, rfl, HX9, HR9, hb9⟩
    have HQ := Lib.hid (equalRn_calls w.heap.size A8 A9 n c8 c9 xs8 xs9 w9 (HR8.out.below hb9).rd HR9.out.rd (HR8.out.below hb9).hs HR9.out.hs (HX8.out.trans HX9.out.symm))
    have hB9 := below_call hB8 hb9 (Nat.le_refl _)
    have hx9 : Below w.heap.size w w9 := below_call HB4.out hB9 (Nat.le_refl _)
    have HCK : Hid (∀ V, Calls Tryz.prog 11 #[] V (BRet (.bool true) V)) := Lib.hid (fun V => ruled_calls V)
    have he : (X.toList == X.toList) = true := by simp
    have hlt9 : w.heap.size < w9.heap.size := Nat.lt_of_lt_of_le hlt4 hB9.size
    clear hb9 hB8 hB9 H4 H5 HX8 HR8 HX9 HR9
    go_wp2_with (first
      | (go_at_call 22; refine HQ.out.mono ?_; rintro e w10 ⟨rfl, hb10⟩)
      | (go_at_call 11; refine (HCK.out _).mono ?_; rintro e w11 ⟨rfl, hb11⟩))
    have hfin := below_call (below_call hx9 hb10 (Nat.le_refl _)) hb11 (Nat.le_refl _)
    go_ret
    exact ⟨rfl, hfin⟩
end Go.Proofs.YtmbeclcdpagjiaaGreatDoor
