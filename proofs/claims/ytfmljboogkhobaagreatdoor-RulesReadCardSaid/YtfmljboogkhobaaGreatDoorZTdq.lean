/-
  The reference's TidyOf of a right rule, by a contract.
-/
import Derived.Test.YtfmljboogkhobaaGreatDoorZQtx
import Derived.Test.YtfmljboogkhobaaGreatDoorZTid
namespace Go.Proofs.YtfmljboogkhobaaGreatDoor
open Go Go.RowKit
attribute [local go_sem ↓] Go.wp_at_zero Go.wp_at_succ

set_option maxRecDepth 100000 in
theorem tidyOf_calls (num : ByteArray → Int × Bool) (hnum : NumOk num) (hz : NumZ num) (s : ByteArray) (w : World) (hs : s.size ≤ 90000) (h0 : (parseE num s).2 = 0) :
    Calls Tryz.prog 14 #[.string s] w (BRet (.tuple #[.string (tdS num s), .int .i64 (tdE num s)]) w) := by
  obtain ⟨hok, hcn, l', hor⟩ := (check_parse num hnum s).2 h0
  have hE : tdE num s = if 2000 < (tidF (parseT num s).1).size then 2 else 0 := by unfold tdE; rw [if_pos h0]
  have hS : tdS num s = if tdE num s = 0 then tidF (parseT num s).1 else ⟨#[]⟩ := rfl
  rw [hE] at hS
  obtain ⟨t, ht⟩ : ∃ t, (parseT num s).1 = t := ⟨_, rfl⟩
  rw [ht] at hE hS hok hcn hor
  have hc := cnt_flat hok
  have HP := Lib.hid (parsed_calls s (flat t) l' (s.size + 1) w hs hor)
  have HX : Hid (QtxH (flat t)) := Lib.hid (qtx_calls (flat_qok hz hok) (by omega))
  have HT : Hid (txtQ (flat t) = tidF t) := Lib.hid (txt_flat hok)
  obtain ⟨x, hx⟩ : ∃ x, tidF t = x := ⟨_, rfl⟩
  rw [hx] at hE hS HT
  unfold QtxH at HX
  obtain ⟨u, hu⟩ : ∃ u, flat t = u := ⟨_, rfl⟩
  rw [hu] at HP HX HT
  unfold PsdS at HP
  clear hor hok hcn hc h0 ht hx hu
  by_cases hbig : 2000 < x.size
  · rw [if_pos hbig] at hE hS
    rw [if_neg (by decide)] at hS
    rw [hE, hS]
    clear hE hS
    go_enter Tryz.func14, Tryz.ntmps14
    go_wp2_with fail
    refine HP.out.mono ?_
    rintro e w2 ⟨A, c, P, rfl, hN, hP, hb2⟩
    have HC := Lib.hid (HX.out w2 A c P hN (fun k hk => (hP k hk).2))
    rw [HT.out] at HC
    clear hN hP
    go_wp2_with fail
    refine HC.out.mono ?_
    rintro e w3 ⟨rfl, hb3⟩
    go_wp2_with fail
    go_ret2
    exact ⟨rfl, below_call hb2 hb3 (Nat.le_refl _)⟩
  · rw [if_neg hbig] at hE hS
    rw [if_pos rfl] at hS
    rw [hE, hS]
    clear hE hS
    go_enter Tryz.func14, Tryz.ntmps14
    go_wp2_with fail
    refine HP.out.mono ?_
    rintro e w2 ⟨A, c, P, rfl, hN, hP, hb2⟩
    have HC := Lib.hid (HX.out w2 A c P hN (fun k hk => (hP k hk).2))
    rw [HT.out] at HC
    clear hN hP
    go_wp2_with fail
    refine HC.out.mono ?_
    rintro e w3 ⟨rfl, hb3⟩
    go_wp2_with fail
    go_ret2
    exact ⟨rfl, below_call hb2 hb3 (Nat.le_refl _)⟩
end Go.Proofs.YtfmljboogkhobaaGreatDoor
