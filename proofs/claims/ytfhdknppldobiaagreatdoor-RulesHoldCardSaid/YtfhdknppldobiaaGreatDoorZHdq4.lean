/-
  What HoldsFor and WhyOf answer of right arguments: what Holds and Why do; ruleFault by a contract.
-/
import Derived.Test.YtfhdknppldobiaaGreatDoorZHdq3
import Derived.Test.YtfhdknppldobiaaGreatDoorZChkOf
namespace Go.Proofs.YtfhdknppldobiaaGreatDoor
open Go Go.RowKit TxtP
attribute [local go_sem ↓] Go.wp_at_zero Go.wp_at_succ

theorem svB_strs (ls : List BL) : svB ls = (ls.map fun x => (⟨x.toArray⟩ : ByteArray)).map Value.string := by
  unfold svB
  rw [List.map_map]
  rfl
theorem hdqH_of {t : Nd} (hok : NdOk numF t) (x : Rn) (b : Nat) (w0 : World) (hm : MxL w0) : HdqH (fun l => ∃ a ∈ atsF t, txtA a = l) (isH x.time x.fs) b x w0 := by
  rintro l W ⟨a, ha, rfl⟩ hW hx
  exact holdsQ_calls (ats_ok hok a ha) b x W hx (hm.below hW)
theorem rulE_zero {num : ByteArray → Int × Bool} {s : ByteArray} {x : Rn} (h : rulE num s x = 0) : (parseE num s).2 = 0 ∧ runF x = 0 := by
  unfold rulE at h
  split at h
  · rename_i h1; exact ⟨h1, h⟩
  · rename_i h1; exact absurd h h1
theorem hdq_atoms {s : ByteArray} {x : Rn} (h : rulE numF s x = 0) : ∀ a ∈ atsF (parseT numF s).1, isH x.time x.fs (txtA a) = atP x.time x.fs a := by
  obtain ⟨h1, h2⟩ := rulE_zero h
  have hok := ((check_parse numF numF_ok s).2 h1).1
  exact fun a ha => isH_atP (ats_ok hok a ha) (runF_fld0 h2)
theorem holdsForV_calls (s : ByteArray) (b : Nat) (x : Rn) (w : World) (hs : s.size ≤ 90000) (h0 : rulE numF s x = 0) (hx : RnW w b x) (hm : MxL w) :
    Calls Tryz.prog 55 #[.string s, .agg #[.string x.id, .string x.who, .int .i64 x.time, .int .i64 x.date, .slice x.fa x.fs.length x.fc]] w (BRet (.bool (hldV numF s x)) w) := by
  obtain ⟨h1, h2⟩ := rulE_zero h0
  have hok := ((check_parse numF numF_ok s).2 h1).1
  rw [hld_both numF_ok numF_z (isH x.time x.fs) h0 h1 (hdq_atoms h0)]
  exact holdsFor_calls numF numF_ok s b x w hs h1 hx _ (fun w0 hb => hdqH_of hok x b w0 (hm.below hb))
theorem whyOfV_calls (s : ByteArray) (b : Nat) (x : Rn) (w : World) (hs : s.size ≤ 90000) (h0 : rulE numF s x = 0) (hx : RnW w b x) (hm : MxL w) :
    Calls Tryz.prog 56 #[.string s, .agg #[.string x.id, .string x.who, .int .i64 x.time, .int .i64 x.date, .slice x.fa x.fs.length x.fc]] w (AtqS (whyL numF s x) w) := by
  obtain ⟨h1, h2⟩ := rulE_zero h0
  have hok := ((check_parse numF numF_ok s).2 h1).1
  rw [why_both numF_ok numF_z (isH x.time x.fs) h0 h1 (hdq_atoms h0)]
  exact whyOf_calls numF numF_ok s b x w hs h1 hx _ (fun w0 hb => hdqH_of hok x b w0 (hm.below hb))
theorem ruleFault_calls (t : ByteArray) (w : World) (hz : t.size ≤ 90000) (ht : Tab w) : Calls Tryz.prog 46 #[.string t] w (BRet (.int .i64 (parseE numF t).2) w) := by
  have HQ := Lib.hid (checkOf_calls numF numF_qc numF_ok t w hz ht)
  rw [(check_parse numF numF_ok t).1] at HQ
  obtain ⟨q1, hq1⟩ : ∃ q, (parseE numF t).1 = q := ⟨_, rfl⟩
  obtain ⟨q2, hq2⟩ : ∃ q, (parseE numF t).2 = q := ⟨_, rfl⟩
  rw [hq1, hq2] at HQ
  rw [hq2]
  clear hq1 hq2
  go_enter Tryz.func46, Tryz.ntmps46
  go_wp2_with fail
  refine HQ.out.mono ?_
  rintro e w2 ⟨rfl, hb2⟩
  go_wp2_with fail
  go_ret
  exact ⟨rfl, hb2⟩
end Go.Proofs.YtfhdknppldobiaaGreatDoor
