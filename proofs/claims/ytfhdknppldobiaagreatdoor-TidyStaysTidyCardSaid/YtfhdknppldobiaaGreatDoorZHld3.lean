/-
  rule.ruled, rule.Holds, rule.Why by contracts.
-/
import Derived.Test.YtfhdknppldobiaaGreatDoorZHld1
import Derived.Test.YtfhdknppldobiaaGreatDoorZRun1
namespace Go.Proofs.YtfhdknppldobiaaGreatDoor
open Go Go.RowKit
attribute [local go_sem ↓] Go.wp_at_zero Go.wp_at_succ

def rulE (num : ByteArray → Int × Bool) (s : ByteArray) (x : Rn) : Int := if (parseE num s).2 = 0 then runF x else (parseE num s).2
/-- a run as a block -/
def RunB (w : World) (b g : Nat) (x : Rn) : Prop := Blk w g 36 (rnC x).toArray ∧ RnW w b x
theorem RunB.below {w W : World} {b g : Nat} {x : Rn} (h : RunB w b g x) (hb : Below w.heap.size w W) : RunB W b g x := ⟨h.1.below hb, h.2.below hb⟩
theorem truth_calls (g : Nat) (W : World) : Calls Tryz.prog 80 #[.pointer (some ⟨g, 0, none⟩)] W fun e w' => e = .returned (.func (.func 139) #[] #[.pointer (some ⟨W.heap.size, 0, none⟩)]) ∧
    w'.cell? ⟨W.heap.size, 0, none⟩ = some (.pointer (some ⟨g, 0, none⟩)) ∧ Below W.heap.size W w' := by
  have hS := (Sq.start W).add #[.pointer (some ⟨g, 0, none⟩)] 109
  have HF := Lib.hid (And.intro (Blk.cell hS.head 0) hS.below)
  clear hS
  go_enter Tryz.func80, Tryz.ntmps80
  go_wp2_with fail
  go_ret
  exact ⟨rfl, HF.out.1, HF.out.2⟩
set_option maxRecDepth 100000 in
set_option maxHeartbeats 1000000 in
theorem ruledR_calls (num : ByteArray → Int × Bool) (hc : NumC num) (s : ByteArray) (b g : Nat) (x : Rn) (w : World) (hs : s.size ≤ 90000) (hx : RunB w b g x) :
    Calls Tryz.prog 78 #[.string s, .pointer (some ⟨g, 0, none⟩)] w fun e w' => ∃ v, e = .returned (.tuple #[v, .int .i64 (rulE num s x)]) ∧ Below w.heap.size w w' ∧
      (rulE num s x = 0 → ∃ g1 hi, v = .pointer (some ⟨g1, 0, none⟩) ∧ NodeAt w' w.heap.size hi g1 (parseT num s).1 ∧ hi ≤ w'.heap.size) := by
  have HP := Lib.hid (parse_calls num s w (by omega) (.inr hc))
  have HX := Lib.hid hx
  have HR : Hid (∀ V, Below w.heap.size w V → Calls Tryz.prog 73 #[.agg #[.string x.id, .string x.who, .int .i64 x.time, .int .i64 x.date, .slice x.fa x.fs.length x.fc]] V (BRet (.int .i64 (runF x)) V)) := Lib.hid (fun V hV => checkRun_calls b x V (hx.2.below hV))
  have HCE : Hid (∀ V, Below w.heap.size w V → V.cell? ⟨g, 0, none⟩ = some (.string x.id) ∧ V.cell? ⟨g, 1, none⟩ = some (.string x.who) ∧ V.cell? ⟨g, 2, none⟩ = some (.int .i64 x.time) ∧ V.cell? ⟨g, 3, none⟩ = some (.int .i64 x.date) ∧ V.cell? ⟨g, 4, none⟩ = some (.slice x.fa x.fs.length x.fc)) :=
    Lib.hid (fun V hV => have h := hx.1.below hV; ⟨h.cell 0, h.cell 1, h.cell 2, h.cell 3, h.cell 4⟩)
  obtain ⟨q, hq⟩ : ∃ q, parseE num s = q := ⟨_, rfl⟩
  have hE : rulE num s x = if q.2 = 0 then runF x else q.2 := by unfold rulE; rw [hq]
  have HQ := Lib.hid hq
  obtain ⟨E, hEE⟩ : ∃ z, rulE num s x = z := ⟨_, rfl⟩
  rw [hEE] at hE ⊢
  obtain ⟨r, hr⟩ : ∃ z, runF x = z := ⟨_, rfl⟩
  rw [hr] at hE HR
  obtain ⟨t, ht⟩ : ∃ t, (parseT num s).1 = t := ⟨_, rfl⟩
  rw [ht]
  have HTT := Lib.hid ht
  obtain ⟨fl, hfl⟩ : ∃ z, x.fs.length = z := ⟨_, rfl⟩
  rw [hfl] at HR HCE
  obtain ⟨xid, xwho, xt, xd, xfa, xfc, xfs⟩ := x
  simp only at HR HCE
  clear hq hx hEE hr ht hfl HX
  obtain ⟨q1, q2⟩ := q
  simp only at hE
  by_cases h0 : q2 = 0
  · subst h0
    rw [if_pos rfl] at hE
    subst hE
    go_enter Tryz.func78, Tryz.ntmps78
    go_wp2_with fail
    refine HP.out.mono ?_
    rintro e w2 ⟨v, rfl, hb2, hN⟩
    rw [HQ.out] at hN ⊢
    obtain ⟨g1, rfl, hnode⟩ := hN rfl
    rw [HTT.out] at hnode
    obtain ⟨e0, e1, e2, e3, e4⟩ := HCE.out w2 hb2
    have HC := Lib.hid (HR.out w2 hb2)
    have HNO := Lib.hid hnode
    clear hN hnode
    go_wp2_with fail
    refine HC.out.mono ?_
    rintro e w3 ⟨rfl, hb3⟩
    have HNB : Hid (NodeAt w3 w.heap.size w2.heap.size g1 t ∧ w2.heap.size ≤ w3.heap.size) := Lib.hid ⟨HNO.out.keep (fun k _ hk => hb3.block k hk), hb3.size⟩
    have HB3 := Lib.hid (below_call hb2 hb3 (Nat.le_refl _))
    clear hb2 hb3 e0 e1 e2 e3 e4
    by_cases hr0 : E = 0
    · subst hr0
      go_wp2_with fail
      go_ret2
      exact ⟨_, rfl, HB3.out, g1, rfl, _, HNB.out.1, HNB.out.2⟩
    · have hne : (E != 0) = true := by rw [bne_iff_ne]; exact hr0
      go_wp2_with fail
      go_ret2
      exact ⟨_, rfl, HB3.out, fun h => absurd h hr0⟩
  · rw [if_neg h0] at hE
    subst hE
    have hne : (E != 0) = true := by rw [bne_iff_ne]; exact h0
    go_enter Tryz.func78, Tryz.ntmps78
    go_wp2_with fail
    refine HP.out.mono ?_
    rintro e w2 ⟨v, rfl, hb2, _⟩
    rw [HQ.out]
    go_wp2_with fail
    go_ret2
    exact ⟨_, rfl, hb2, fun h => absurd h h0⟩
def hldV (num : ByteArray → Int × Bool) (s : ByteArray) (x : Rn) : Bool := if rulE num s x = 0 then holF (atP x.time x.fs) (parseT num s).1 else false
/-- behind truth: what holds and blame ask -/
theorem rnA_of {w2 w3 : World} {b g bx : Nat} {x : Rn} (h : RunB w2 b g x) (hb : Below w2.heap.size w2 w3) (hc : w3.cell? ⟨bx, 0, none⟩ = some (.pointer (some ⟨g, 0, none⟩))) : RnA w3 bx x.time x.fs := by
  have h := h.below hb
  exact ⟨g, 0, b, _, _, _, hc, h.1.cell 2, h.1.cell 4, h.2.rd⟩
set_option maxRecDepth 100000 in
set_option maxHeartbeats 1000000 in
theorem holds_calls (num : ByteArray → Int × Bool) (hc : NumC num) (hnum : NumOk num) (s : ByteArray) (b : Nat) (x : Rn) (w : World) (hs : s.size ≤ 90000) (hx : RnW w b x) :
    Calls Tryz.prog 18 #[.string s, .agg #[.string x.id, .string x.who, .int .i64 x.time, .int .i64 x.date, .slice x.fa x.fs.length x.fc]] w (BRet (.tuple #[.bool (hldV num s x), .int .i64 (rulE num s x)]) w) := by
  have hS := (Sq.start w).add (rnC x).toArray 36
  have hX1 : RunB (w.alloc (.cells (rnC x).toArray 36)) b w.heap.size x := ⟨hS.head, hx.below hS.below⟩
  have hbw := Lib.hid hS.below
  have HR := Lib.hid (ruledR_calls num hc s b w.heap.size x _ hs hX1)
  have HK : Hid (rulE num s x = 0 → NdOk num (parseT num s).1) := Lib.hid (fun h => (((check_parse num hnum s).2 (by unfold rulE at h; split at h <;> assumption))).1)
  have HX2 : Hid (∀ w2, Below (w.alloc (.cells (rnC x).toArray 36)).heap.size (w.alloc (.cells (rnC x).toArray 36)) w2 → RunB w2 b w.heap.size x) := Lib.hid (fun w2 h => hX1.below h)
  have HHV : Hid (rulE num s x = 0 → hldV num s x = holF (atP x.time x.fs) (parseT num s).1) := Lib.hid (fun h => by unfold hldV; rw [if_pos h])
  have HHN : Hid (rulE num s x ≠ 0 → hldV num s x = false) := Lib.hid (fun h => by unfold hldV; rw [if_neg h])
  have HTC : Hid (∀ w2 w3 bx g1 lo hi, rulE num s x = 0 → RunB w2 b w.heap.size x → NodeAt w2 lo hi g1 (parseT num s).1 → hi ≤ w2.heap.size → Below w2.heap.size w2 w3 → w3.cell? ⟨bx, 0, none⟩ = some (.pointer (some ⟨w.heap.size, 0, none⟩)) →
      Calls Tryz.prog 79 #[.pointer (some ⟨g1, 0, none⟩), .func (.func 139) #[] #[.pointer (some ⟨bx, 0, none⟩)]] w3 (BRet (.bool (hldV num s x)) w3)) := Lib.hid (fun w2 w3 bx g1 lo hi h0 h1 h2 h3 h4 h5 => by
    rw [HHV.out h0]
    exact hol_calls _ _ (HK.out h0) w3 bx g1 lo hi w3 (h2.keep (fun k _ hk => h4.block k (by omega))) (Nat.le_trans h3 h4.size) (rnA_of h1 h4 h5) (Below.refl _ _))
  have HTR := Lib.hid (fun W => truth_calls w.heap.size W)
  obtain ⟨E, hEE⟩ : ∃ z, rulE num s x = z := ⟨_, rfl⟩
  obtain ⟨v9, hv9⟩ : ∃ z, hldV num s x = z := ⟨_, rfl⟩
  rw [hEE] at HR HHN HTC ⊢
  rw [hv9] at HHN HTC ⊢
  clear hX1 hS hx HK HHV hEE hv9
  obtain ⟨fl, hfl⟩ : ∃ z, x.fs.length = z := ⟨_, rfl⟩
  have hrn : (rnC x).toArray = #[.string x.id, .string x.who, .int .i64 x.time, .int .i64 x.date, .slice x.fa fl x.fc] := by rw [← hfl]; rfl
  rw [hrn] at HR HX2 hbw
  rw [hfl]
  clear hrn hfl
  go_enter Tryz.func18, Tryz.ntmps18
  go_wp2_with fail
  refine HR.out.mono ?_
  rintro e w2 ⟨v, rfl, hb2, hN⟩
  by_cases h0 : E = 0
  · subst h0
    obtain ⟨g1, hi, rfl, hno, hhi⟩ := hN rfl
    have HH := Lib.hid (fun w3 bx => HTC.out w2 w3 bx g1 _ hi rfl (HX2.out w2 hb2) hno hhi)
    have HBW := Lib.hid (below_call hbw.out hb2 (Nat.le_refl _))
    have HT2 := Lib.hid (HTR.out w2)
    clear hN hno hhi hb2 HHN HTC HX2
    go_wp2_with fail
    refine HT2.out.mono ?_
    rintro e w3 ⟨rfl, hc3, hb3⟩
    have HH3 := Lib.hid (HH.out w3 _ hb3 hc3)
    have HB3 := Lib.hid (below_call HBW.out hb3 (Nat.le_refl _))
    clear hc3 hb3
    go_wp2_with fail
    refine HH3.out.mono ?_
    rintro e w4 ⟨rfl, hb4⟩
    go_wp2_with fail
    go_ret2
    exact ⟨rfl, below_call HB3.out hb4 (Nat.le_refl _)⟩
  · have hne : (E != 0) = true := by rw [bne_iff_ne]; exact h0
    have HV := Lib.hid (HHN.out h0)
    have HBW := Lib.hid (below_call hbw.out hb2 (Nat.le_refl _))
    clear hN hb2 HHN HTC HX2
    go_wp2_with fail
    go_ret2
    exact ⟨by rw [HV.out]; rfl, HBW.out⟩
end Go.Proofs.YtfhdknppldobiaaGreatDoor
