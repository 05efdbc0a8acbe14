/-
  RunsChecked: the law's own walk.
-/
import Derived.Test.YtfmljboogkhobaaGreatDoorZStream
import Derived.Test.YtfmljboogkhobaaGreatDoorZSpl3
import Derived.Test.YtfmljboogkhobaaGreatDoorZSrn2
import Derived.Test.YtfmljboogkhobaaGreatDoorZWhen
import Derived.Test.YtfmljboogkhobaaGreatDoorZRuled
import Derived.Deep.DeepCutAuto
import Derived.Deep.RegionHeld3
namespace Go.Proofs.YtfmljboogkhobaaGreatDoor
open Go Go.RowKit TxtP

theorem split_err (xs : List Rn) (f : ByteArray) : firstE [runsF xs, if (!nameB f) = true then 5 else 0] = splE xs f := by
  unfold splE
  by_cases h : runsF xs = 0
  · rw [if_pos h, h]
    cases nameB f <;> rfl
  · rw [if_neg h]
    simp [firstE, h]
set_option maxRecDepth 100000 in
set_option maxHeartbeats 4000000 in
theorem rck_walk (a0 : Option Addr) (len0 cap0 : Nat) (z0 : List Int) (w : World) (w0 : InRow w a0 len0 cap0 z0) (ht : Tab w) :
    Calls Tryz.prog 4 #[.slice a0 len0 cap0] w fun e w' => e = .returned (.bool true) ∧ Below w.heap.size w w' := by
  have hs0 := strm_start w0 25
  have hb0 : Bx w.heap.size w.heap.size w (w.alloc (.cells #[.slice a0 len0 cap0, .int .i64 0] 25)) := (Bx.refl _ _ _).alloc (Nat.le_refl _) _
  clear w0
  go_enter Tryz.func4, Tryz.ntmps4
  go_wp2_with fail
  refine (someRun_calls w.heap.size 0 _ _ hs0 (by omega) (by decide)).mono ?_
  rintro e w3 ⟨x, rfl, hxz, hS3⟩
  have hb3 := hb0.call hS3.bx (Nat.le_refl _)
  have hs3 := hS3.strm
  have hx3 : RnW w3 w.heap.size x := ⟨Rd.own hS3.head hS3.hb, Nat.le_trans hxz.hi (by omega), Nat.le_trans hxz.hw (by omega), fun p hp => ⟨Nat.le_trans (hxz.hf p hp).1 (by omega), Nat.le_trans (hxz.hf p hp).2 (by omega)⟩, Nat.le_trans hxz.hn (by omega)⟩
  clear hs0 hb0 hS3 hxz
  go_wp2_with fail
  refine (someRuns_calls w.heap.size _ _ hs3 (by omega)).mono ?_
  rintro e w4 ⟨v, l, rfl, hlm, hz, hS4⟩
  obtain ⟨m, hm⟩ : ∃ m, l.length = m := ⟨_, rfl⟩
  rw [hm] at hlm hS4
  have hO : w4.ownsRow _ _ _ v m (l.flatMap rnC) := hS4.head
  have hx4 := hx3.bx hS4.bx
  have hb4 := hb3.call hS4.bx (Nat.le_refl _)
  have hs4 := hS4.strm
  obtain ⟨A, c, hv⟩ := own_form hO
  subst hv
  have hr4 := rns_ofS hS4 hz
  clear hs3 hb3 hx3 hS4 hO hm
  go_wp2_with fail
  refine (sp_someL (Sp.start hs4) #[.string ⟨#[97]⟩, .string ⟨#[98]⟩, .string ⟨#[122, 122]⟩, .string ⟨#[116, 105, 109, 101]⟩, .string ⟨#[]⟩] 9 5 (by decide) (by decide) rfl (strLit_ok rfl) (by omega)).mono ?_
  rintro e w5 ⟨_, rfl, ⟨f, rfl, hf⟩, hS5⟩
  have hx5 := hx4.bx hS5.bx
  have hr5 := hr4.bx hS5.bx
  have hb5 := hb4.call hS5.bx (Nat.le_refl _)
  have hlt5 := hS5.lt
  obtain ⟨rt, hrt⟩ : ∃ rt, runF x = rt := ⟨_, rfl⟩
  have hS6 := (Sp.start hS5.strm).add #[.string x.id, .string x.who, .int .i64 x.time, .int .i64 x.date, .slice x.fa x.fs.length x.fc] 43
  clear hs4 hx4 hr4 hb4 hS5
  go_wp2_with fail
  obtain ⟨w6, hw6, hS6⟩ : ∃ w6, w6 = _ ∧ Sp w5 w.heap.size (0 + 20 + 84 + 1) w6 [rBlk w5.heap.size 43 #[.string x.id, .string x.who, .int .i64 x.time, .int .i64 x.date, .slice x.fa x.fs.length x.fc]] := ⟨_, rfl, hS6⟩
  rw [← hw6]
  clear hw6
  have hx6 := hx5.bx hS6.bx
  have hr6 := hr5.bx hS6.bx
  have hB6 := (hb5.call hS6.bx (Nat.le_refl _)).below (Nat.le_refl _)
  have ht6 := ht.below hB6
  have hk6 : Blk w6 w5.heap.size _ #[.string x.id, .string x.who, .int .i64 x.time, .int .i64 x.date, .slice x.fa x.fs.length x.fc] := hS6.head
  have hlt6 : w.heap.size < w6.heap.size := Nat.lt_of_lt_of_le hlt5 hS6.bx.size
  obtain ⟨F, hF⟩ : ∃ F, runsF l = F := ⟨_, rfl⟩
  obtain ⟨E, hE⟩ : ∃ E, splE l f = E := ⟨_, rfl⟩
  obtain ⟨nb, hnb⟩ : ∃ nb, nameB f = nb := ⟨_, rfl⟩
  obtain ⟨vs, hvs⟩ : ∃ vs, valsV f l = vs := ⟨_, rfl⟩
  have hFE := split_err l f
  rw [hF, hE, hnb] at hFE
  obtain ⟨qv, hqv⟩ : ∃ qv : Int, (if (!nb) = true then 5 else 0) = qv := ⟨_, rfl⟩
  rw [hqv] at hFE
  have HWN : Hid (∀ W, Calls Tryz.prog 23 #[.bool (!nb), .int .i64 5] W fun e w' => e = .returned (.int .i64 qv) ∧ W = w') := Lib.hid (fun W => by rw [← hqv]; exact when_calls _ _ _)
  have HE1 : Hid (E = 0 → F = 0) := Lib.hid (fun h => by
    rw [← hF]
    rw [← hE] at h
    unfold splE at h
    split at h
    · rename_i h1; exact h1
    · exact h)
  have H1 : Hid (Calls Tryz.prog 20 #[.slice A m c, .string f] w6 (fun e w' => ∃ v, e = .returned (.tuple #[v, .int .i64 E]) ∧ SpoR vs E w6 w' v)) := by
    have := splitRun_calls w.heap.size A m c l f w6 hr6 hlt6 ht6 (by omega) hf hz
    rw [hE, hvs] at this
    exact Lib.hid this
  have H2 : Hid (∀ W, Below w6.heap.size w6 W → Calls Tryz.prog 22 #[.slice A m c] W (BRet (.int .i64 F) W)) := by
    refine Lib.hid (fun W h => ?_)
    have := runsFaultQ_calls w.heap.size A m c l W (hr6.below h) (Nat.lt_of_lt_of_le hlt6 h.size)
    rw [hF] at this
    exact this
  have H3 : Hid (∀ W, Below w6.heap.size w6 W → Calls Tryz.prog 28 #[.slice A m c] W (BRet (.int .i64 F) W)) := by
    refine Lib.hid (fun W h => ?_)
    have := checkRuns_calls w.heap.size A m c l W (hr6.below h) (Nat.lt_of_lt_of_le hlt6 h.size)
    rw [hF] at this
    exact this
  have H4 : Hid (∀ W, Calls Tryz.prog 24 #[.string f] W (BRet (.bool nb) W)) := Lib.hid (fun W => by rw [← hnb]; exact fieldQ_calls f W (by omega))
  have H5 : Hid (∀ W, Calls Tryz.prog 21 #[.slice (some ⟨W.heap.size, 0, none⟩) 2 2] (W.alloc (.cells #[.int .i64 F, .int .i64 qv] 27)) (fun e w' => e = .returned (.int .i64 E) ∧ Below W.heap.size W w')) := Lib.hid (fun W => by
    have h := errs_calls (W.heap.size + 5) _ 2 2 [F, qv] _ (Rd.lit W (W.heap.size + 5) 1 2 #[.int .i64 F, .int .i64 qv] 27 (by omega) (by decide) rfl)
    rw [hFE] at h
    refine h.mono ?_
    rintro e w' ⟨he, nq, rfl⟩
    exact ⟨he, below_drewN ((Below.refl _ _).alloc (Nat.le_refl _) _) nq⟩)
  have H6 : Hid (E = 0 → ∀ W, Below w6.heap.size w6 W → Calls Tryz.prog 25 #[.slice A m c, .string f] W (fun e w' => ∃ v, e = .returned v ∧ SpoR vs 0 W w' v)) := Lib.hid (fun h0 W h => by
    have := splitOf_calls w.heap.size A m c l f W (hr6.below h) (ht6.below h) (by omega) hz
    rw [valsL_eq (hF.trans (HE1.out h0)), hvs] at this
    exact this)
  have H7 : Hid (∀ W, Below w6.heap.size w6 W → Calls Tryz.prog 26 #[.agg #[.string x.id, .string x.who, .int .i64 x.time, .int .i64 x.date, .slice x.fa x.fs.length x.fc]] W (BRet (.int .i64 rt) W)) := Lib.hid (fun W h => by rw [← hrt]; exact checkRun_calls w.heap.size x W (hx6.below h))
  have H8 : Hid (∀ W, Below w6.heap.size w6 W → Calls Tryz.prog 27 #[.agg #[.string x.id, .string x.who, .int .i64 x.time, .int .i64 x.date, .slice x.fa x.fs.length x.fc]] W (BRet (.int .i64 rt) W)) := Lib.hid (fun W h => by rw [← hrt]; exact runFault_calls w.heap.size x W (hx6.below h))
  have H9 : Hid (∀ V, Calls Tryz.prog 13 #[] V (BRet (.bool true) V)) := Lib.hid (fun V => ruled_calls V)
  clear hx5 hr5 hb5 hS6 hx6 hr6 ht6 hF hE hnb hvs hFE hrt hz hlm hqv
  go_wp2_with fail
  refine H1.out.mono ?_
  rintro e w7 ⟨v7, rfl, ys, HY0, HY1, ho7, hB7⟩
  obtain ⟨q, hq⟩ : ∃ q, ys.length = q := ⟨_, rfl⟩
  rw [hq] at ho7
  obtain ⟨A7, c7, hv7⟩ := own_form ho7
  subst hv7
  have hR7 : Rd w7 w.heap.size 2 (.slice A7 q c7) q (ys.flatMap prC) := Rd.own ho7 hlt6
  have HY : Hid ((E = 0 → SplitP vs ys) ∧ (E ≠ 0 → ys = [])) := Lib.hid ⟨HY0, HY1⟩
  have HYL := Lib.hid hq
  clear ho7 H1 HY0 HY1 hq
  go_wp2_with fail
  refine (H2.out _ hB7).mono ?_
  rintro e w8 ⟨rfl, hb8⟩
  have hB8 := below_call hB7 hb8 (Nat.le_refl _)
  have hR8 := hR7.below hb8
  clear hB7 hb8 hR7
  go_wp2_with fail
  refine (H4.out _).mono ?_
  rintro e w9 ⟨rfl, hb9⟩
  have hB9 := below_call hB8 hb9 (Nat.le_refl _)
  have hR9 := hR8.below hb9
  clear hB8 hb9 hR8
  go_wp2_with fail
  refine (HWN.out _).mono ?_
  rintro e w10 ⟨rfl, rfl⟩
  go_wp2_with fail
  refine (H5.out _).mono ?_
  rintro e w11 ⟨rfl, hb11⟩
  have hB11 := below_call hB9 hb11 (Nat.le_refl _)
  have hR11 := hR9.below hb11
  clear hB9 hb11 hR9 H4 H5
  go_upto_if 36 with (fail)
  go_cut [10] (fun s10 W => ∃ w33, w33 = W ∧ ∃ A2 c2, s10 = .slice A2 q c2 ∧ Below w6.heap.size w6 W ∧ Rd W w.heap.size 2 (.slice A7 q c7) q (ys.flatMap prC) ∧ Rd W w.heap.size 2 (.slice A2 q c2) q (ys.flatMap prC))
  case first =>
    by_cases h0 : E = 0
    · subst h0
      go_wp2_with fail
      refine (H6.out (by first | rfl | trivial) _ hB11).mono ?_
      rintro e w12 ⟨v12, rfl, y2, hy2, _, ho12, hb12⟩
      obtain rfl : y2 = ys := (hy2 rfl).one (HY.out.1 (by first | rfl | trivial))
      rw [HYL.out] at ho12
      obtain ⟨A12, c12, hv12⟩ := own_form ho12
      subst hv12
      have hR12 := hR11.below hb12
      have hR13 : Rd w12 w.heap.size 2 (.slice A12 q c12) q (y2.flatMap prC) := Rd.own ho12 (Nat.lt_of_lt_of_le hlt6 hB11.size)
      have hB12 := below_call hB11 hb12 (Nat.le_refl _)
      go_wp2_with fail
      go_meet
      exact ⟨_, rfl, A12, c12, rfl, hB12, hR12, hR13⟩
    · have hx : (E == 0) = false := by simpa using h0
      have e1 := HY.out.2 h0
      have e2 : q = 0 := by rw [← HYL.out, e1]; rfl
      go_wp2_with fail
      go_meet
      exact ⟨_, rfl, none, 0, by rw [e2], hB11, hR11, by rw [e2, e1]; exact Rd.nil _ _ _⟩
  case rest =>
    obtain ⟨w12, rfl, A2, c2, rfl, hB12, hR12, hR13⟩ := hcut
    clear hB11 hR11 H6 HY HYL
    have hBw := below_call hB6 hB12 (Nat.le_refl _)
    have S0 : Below w12.heap.size w12 w12 := Below.refl _ _
    have S1 : Below w12.heap.size w12 w12.drew := below_drewN S0 1
    have HCL : Hid (∀ W, Below w12.heap.size w12 W → W.cell? ⟨w5.heap.size, 0, none⟩ = some (.string x.id) ∧ W.cell? ⟨w5.heap.size, 1, none⟩ = some (.string x.who) ∧ W.cell? ⟨w5.heap.size, 2, none⟩ = some (.int .i64 x.time) ∧ W.cell? ⟨w5.heap.size, 3, none⟩ = some (.int .i64 x.date) ∧ W.cell? ⟨w5.heap.size, 4, none⟩ = some (.slice x.fa x.fs.length x.fc)) := Lib.hid (fun W h => by
      have hk := Blk.below (Blk.below hk6 hB12) h
      exact ⟨hk.cell 0, hk.cell 1, hk.cell 2, hk.cell 3, hk.cell 4⟩)
    have GA : Hid (∀ W, Below w12.heap.size w12 W → Calls Tryz.prog 26 #[.agg #[.string x.id, .string x.who, .int .i64 x.time, .int .i64 x.date, .slice x.fa x.fs.length x.fc]] W (fun e w' => e = .returned (.int .i64 rt) ∧ Below w12.heap.size w12 w')) := Lib.hid (fun W h => (H7.out W (below_call hB12 h (Nat.le_refl _))).mono (fun e w' ⟨h1, h2⟩ => ⟨h1, below_call h h2 (Nat.le_refl _)⟩))
    have GB : Hid (∀ W, Below w12.heap.size w12 W → Calls Tryz.prog 27 #[.agg #[.string x.id, .string x.who, .int .i64 x.time, .int .i64 x.date, .slice x.fa x.fs.length x.fc]] W (fun e w' => e = .returned (.int .i64 rt) ∧ Below w12.heap.size w12 w')) := Lib.hid (fun W h => (H8.out W (below_call hB12 h (Nat.le_refl _))).mono (fun e w' ⟨h1, h2⟩ => ⟨h1, below_call h h2 (Nat.le_refl _)⟩))
    have GC : Hid (∀ W, Below w12.heap.size w12 W → Calls Tryz.prog 28 #[.slice A m c] W (fun e w' => e = .returned (.int .i64 F) ∧ Below w12.heap.size w12 w')) := Lib.hid (fun W h => (H3.out W (below_call hB12 h (Nat.le_refl _))).mono (fun e w' ⟨h1, h2⟩ => ⟨h1, below_call h h2 (Nat.le_refl _)⟩))
    have GD : Hid (∀ W, Below w12.heap.size w12 W → Calls Tryz.prog 22 #[.slice A m c] W (fun e w' => e = .returned (.int .i64 F) ∧ Below w12.heap.size w12 w')) := Lib.hid (fun W h => (H2.out W (below_call hB12 h (Nat.le_refl _))).mono (fun e w' ⟨h1, h2⟩ => ⟨h1, below_call h h2 (Nat.le_refl _)⟩))
    have GE : Hid (∀ W, Below w12.heap.size w12 W → Calls Tryz.prog 29 #[.slice A7 q c7, .slice A2 q c2] W (fun e w' => e = .returned (.bool true) ∧ Below w12.heap.size w12 w')) := Lib.hid (fun W h => (equalPrR_calls w.heap.size A7 A2 q c7 c2 ys W (hR12.below h) (hR13.below h)).mono (fun e w' ⟨h1, nq, h2⟩ => ⟨h1, by rw [h2]; exact below_drewN h nq⟩))
    have GF : Hid (∀ W, Below w12.heap.size w12 W → Calls Tryz.prog 13 #[] W (fun e w' => e = .returned (.bool true) ∧ Below w12.heap.size w12 w')) := Lib.hid (fun W h => (ruled_calls W).mono (fun e w' ⟨h1, h2⟩ => ⟨h1, below_call h h2 (Nat.le_refl _)⟩))
    obtain ⟨k0, k1, k2, k3, k4⟩ := HCL.out _ S0
    clear H7 H8 H3 H2 H9 hB12 hR12 hR13 hk6
    have hr1 : (rt == rt) = true := by simp
    have hr2 : (F == F) = true := by simp
    have hr3 : (E == E) = true := by simp
    go_wp2_with fail
    go_region_held3 (fun W => W.cell? ⟨w5.heap.size, 0, none⟩ = some (.string x.id) ∧ W.cell? ⟨w5.heap.size, 1, none⟩ = some (.string x.who) ∧ W.cell? ⟨w5.heap.size, 2, none⟩ = some (.int .i64 x.time) ∧ W.cell? ⟨w5.heap.size, 3, none⟩ = some (.int .i64 x.date) ∧ W.cell? ⟨w5.heap.size, 4, none⟩ = some (.slice x.fa x.fs.length x.fc))
      (first | exact HCL.out _ S1 | exact HCL.out _ S18 | exact HCL.out _ S17 | exact HCL.out _ S16 | exact HCL.out _ S15 | exact HCL.out _ S14 | exact HCL.out _ S13)
      (first
        | (go_at_call 26; ((with_reducible refine (GA.out _ S1).mono ?_); rintro e w13 ⟨rfl, S13⟩))
        | (go_at_call 27; ((with_reducible refine (GB.out w13 S13).mono ?_); rintro e w14 ⟨rfl, S14⟩))
        | (go_at_call 28; ((with_reducible refine (GC.out w14 S14).mono ?_); rintro e w15 ⟨rfl, S15⟩))
        | (go_at_call 22; ((with_reducible refine (GD.out w15 S15).mono ?_); rintro e w16 ⟨rfl, S16⟩))
        | (go_at_call 29; ((with_reducible refine (GE.out w16 S16).mono ?_); rintro e w17 ⟨rfl, S17⟩))
        | (go_at_call 13; ((with_reducible refine (GF.out w17 S17).mono ?_); rintro e w18 ⟨rfl, S18⟩)))
    have hfin := below_call hBw S18 (Nat.le_refl _)
    go_wp2_with fail
    go_ret
    exact ⟨rfl, hfin⟩
end Go.Proofs.YtfmljboogkhobaaGreatDoor
