/-
  RulesStay: the law's own walk.
-/
import Derived.Test.YthbcogekfdllmaaGreatDoorZLawStart
import Derived.Test.YthbcogekfdllmaaGreatDoorZSepX
import Derived.Test.YthbcogekfdllmaaGreatDoorZSumS
import Derived.Test.YthbcogekfdllmaaGreatDoorZVstX
import Derived.Test.YthbcogekfdllmaaGreatDoorZEqRun
import Derived.Test.YthbcogekfdllmaaGreatDoorZEqVr
import Derived.Test.YthbcogekfdllmaaGreatDoorZSortPr
import Derived.Test.YthbcogekfdllmaaGreatDoorZVer7
import Derived.Test.YthbcogekfdllmaaGreatDoorZEachRun
import Derived.Test.YthbcogekfdllmaaGreatDoorZBldF
import Derived.Test.YthbcogekfdllmaaGreatDoorZSpoil
import Derived.Test.YthbcogekfdllmaaGreatDoorZRat4
import Derived.Deep.DeepCutAuto
namespace Go.Proofs.YthbcogekfdllmaaGreatDoor
open Go Go.RowKit TxtP

section
variable {zs : ZsT} {w0 W W' : World} {p q p' : Nat} {l l2 : List Rsc}
theorem Two.rns (h : Two zs w0 p q W l) (i : Nat) {base n c : Nat} {A : Option Addr} {xs : List Rn} (h1 : l[i]? = some (rOwn base 101 5 (.slice A n c) n (xs.flatMap rnC))) (h2 : l[i + 1]? = some (rAll (fldR base) xs)) (hz : RnZs xs) {b : Nat} (hb : b < base) : Rns W b A n c xs := by
  have o1 : W.ownsRow base 101 5 (.slice A n c) n (xs.flatMap rnC) := h.nth i h1
  have o2 : ∀ x ∈ xs, (fldR base x).P W := h.nth (i + 1) h2
  exact ⟨Rd.own o1 hb, fun x hx => ⟨Rd.own (o2 x hx) hb, Nat.le_trans (hz x hx).hi (by omega), Nat.le_trans (hz x hx).hw (by omega), fun p hp => ⟨Nat.le_trans ((hz x hx).hf p hp).1 (by omega), Nat.le_trans ((hz x hx).hf p hp).2 (by omega)⟩, Nat.le_trans (hz x hx).hn (by omega)⟩⟩
theorem Two.vrs (h : Two zs w0 p q W l) (i : Nat) {base n c : Nat} {A : Option Addr} {vs : List Vr} (h1 : l[i]? = some (rOwn base 106 3 (.slice A n c) n (vs.flatMap vrC))) (hz : VrZs vs) {b : Nat} (hb : b < base) : Vrs W b A n c vs := by
  have o1 : W.ownsRow base 106 3 (.slice A n c) n (vs.flatMap vrC) := h.nth i h1
  exact ⟨Rd.own o1 hb, fun v hv => ⟨by have := (hz v hv).1; omega, by have := (hz v hv).2; omega⟩⟩
end
theorem rnsX_two {zs : ZsT} {p m r r' : Nat} {xs us : List Rn} (h1 : rnsX zs p m = (r, xs.map cntR)) (h2 : rnsX zs p m = (r', us.map cntR)) : r = r' ∧ xs.map cntR = us.map cntR := by
  have h := h1.symm.trans h2
  injection h with a b
  exact ⟨a, b⟩
theorem keepsS_below {w W W' : World} {M n c : Nat} {A : Option Addr} {l : List Value} (h : Below M w W) (ho : W.ownsRow M 9 1 (.slice A n c) n l) (hk : KeepsS A W W') : Below M w W' :=
  hk (fun V => Below M w V) (fun V g i hA hV => below_setM hV ((ho.lt g (by rw [hA]; rfl)).1) _) h
set_option maxRecDepth 100000 in
set_option maxHeartbeats 4000000 in
theorem rsy_walk (a0 : Option Addr) (len0 cap0 : Nat) (z0 : List Int) (w : World) (w0 : InRow w a0 len0 cap0 z0) (ht : Tab w) (hmx : MxL w) :
    Calls Tryz.prog 5 #[.slice a0 len0 cap0] w fun e w' => e = .returned (.bool true) ∧ Below w.heap.size w w' := by
  have BA := (Blk.new w 25 #[.slice a0 len0 cap0, .int .i64 0]).alloc (.cells #[.slice a0 len0 cap0, .int .i64 0] 25)
  have BB := Blk.new (w.alloc (.cells #[.slice a0 len0 cap0, .int .i64 0] 25)) 25 #[.slice a0 len0 cap0, .int .i64 0]
  have hBl : Below w.heap.size w ((w.alloc (.cells #[.slice a0 len0 cap0, .int .i64 0] 25)).alloc (.cells #[.slice a0 len0 cap0, .int .i64 0] 25)) := ((Below.refl _ _).alloc (Nat.le_refl _) _).alloc (by simp) _
  have hsz : ((w.alloc (.cells #[.slice a0 len0 cap0, .int .i64 0] 25)).alloc (.cells #[.slice a0 len0 cap0, .int .i64 0] 25)).heap.size = w.heap.size + 2 := by simp
  have hgb : (w.alloc (.cells #[.slice a0 len0 cap0, .int .i64 0] 25)).heap.size = w.heap.size + 1 := by simp
  rw [hgb] at BB
  clear hgb
  go_enter Tryz.func5, Tryz.ntmps5
  go_wp2_with fail
  obtain ⟨W2, hW2⟩ : ∃ W2, W2 = (w.alloc (.cells #[.slice a0 len0 cap0, .int .i64 0] 25)).alloc (.cells #[.slice a0 len0 cap0, .int .i64 0] 25) := ⟨_, rfl⟩
  rw [← hW2] at BA BB hBl hsz ⊢
  clear hW2
  obtain ⟨zs, hzs⟩ : ∃ zs : ZsT, (⟨z0.take len0, w.heap.size⟩ : ZsT) = zs := ⟨_, rfl⟩
  have hT0 : Two zs w 0 0 W2 [] := by
    subst hzs
    exact ⟨rfl, strmX_at0 w0 hBl BA (Nat.le_refl _), strmX_at0 w0 hBl BB (by omega), hBl, Hp.start _ _, by omega⟩
  clear BA BB hBl hzs w0
  refine (someRunsX_calls w.heap.size 0 zs W2 hT0.sa (by omega)).mono ?_
  rintro e w3 ⟨v1, xs, r1, rfl, hx4, hxz, hx, hr1, hS⟩
  have hT1 := hT0.callA hS
  have hb3 := hT0.sz
  clear hS hT0
  go_wp2_with fail
  refine (versionsX_calls w.heap.size r1 zs w3 hT1.sa (by omega)).mono ?_
  rintro e w4 ⟨v2, vs, r2, rfl, hv9, hvz, hv, hr2, hS⟩
  have hT2 := hT1.callA hS
  have hb4 := hT1.sz
  clear hS hT1
  go_wp2_with fail
  refine (someRunsX_calls (w.heap.size + 1) 0 zs w4 hT2.sb (by omega)).mono ?_
  rintro e w5 ⟨v3, us, r3, rfl, hu4, huz, hu, hr3, hS⟩
  obtain ⟨rfl, hcs⟩ := rnsX_two hx hu
  have hT3 := hT2.callB hS
  have hb5 := hT2.sz
  clear hS hT2 hx hu
  go_wp2_with fail
  refine (versionsX_calls (w.heap.size + 1) r1 zs w5 hT3.sb (by omega)).mono ?_
  rintro e w6 ⟨v4, vs2, r4, rfl, _, _, hv2, _, hS⟩
  rw [hv] at hv2
  obtain ⟨rfl, rfl⟩ : r2 = r4 ∧ vs = vs2 := by injection hv2 with a b; exact ⟨a, b⟩
  have hT4 := hT3.callB hS
  have hb6 := hT3.sz
  clear hS hT3 hv hv2
  obtain ⟨n, hn⟩ : ∃ n, xs.length = n := ⟨_, rfl⟩
  have hun : us.length = n := by rw [← hn]; have := congrArg List.length hcs; simpa using this.symm
  obtain ⟨m, hm⟩ : ∃ m, vs.length = m := ⟨_, rfl⟩
  rw [hn] at hT4 hx4
  rw [hun] at hT4
  rw [hm] at hT4 hv9
  obtain ⟨A1, c1, hv⟩ := own_form (show w6.ownsRow _ _ _ v1 n _ from hT4.nth 4 rfl)
  subst hv
  obtain ⟨A2, c2, hv⟩ := own_form (show w6.ownsRow _ _ _ v2 m _ from hT4.nth 3 rfl)
  subst hv
  obtain ⟨A3, c3, hv⟩ := own_form (show w6.ownsRow _ _ _ v3 n _ from hT4.nth 1 rfl)
  subst hv
  obtain ⟨A4, c4, hv⟩ := own_form (show w6.ownsRow _ _ _ v4 m _ from hT4.nth 0 rfl)
  subst hv
  have hT := fun W (h : Below w6.heap.size w6 W) => hT4.below h
  have HX := Lib.hid (fun W h => (hT W h).rns 4 rfl rfl hxz (b := w.heap.size) (by omega))
  have HV := Lib.hid (fun W h => (hT W h).vrs 3 rfl hvz (b := w.heap.size) (by omega))
  have HU := Lib.hid (fun W h => (hT W h).rns 1 rfl rfl huz (b := w.heap.size) (by omega))
  have HY := Lib.hid (fun W h => (hT W h).vrs 0 rfl hvz (b := w.heap.size) (by omega))
  have HXZ := Lib.hid hxz
  have hbel := hT4.bel
  have hsz6 := hT4.sz
  have HT := Lib.hid (fun W (h : Below w6.heap.size w6 W) => ht.below (below_call hbel h (by omega)))
  have HMX := Lib.hid (fun W (h : Below w6.heap.size w6 W) => hmx.below (below_call hbel h (by omega)))
  have HFI := Lib.hid (fun W (h : Below w6.heap.size w6 W) => below_call hbel h (by omega))
  have HLT : Hid (w.heap.size < w6.heap.size) := Lib.hid (by omega)
  clear hT hT4 hxz huz hvz hbel ht hmx hsz hsz6 hb3 hb4 hb5 hb6
  go_wp2_with fail
  refine (splitRun_calls w.heap.size A1 n c1 xs ⟨#[97]⟩ w6 (HX.out _ (Below.refl _ _)) HLT.out (HT.out _ (Below.refl _ _)) (by omega) (by decide) HXZ.out).mono ?_
  rintro e w7 ⟨v7, rfl, ps, _, _, ho7, hb7⟩
  obtain ⟨A7, c7, hv⟩ := own_form ho7
  subst hv
  go_wp2_with fail
  refine (spoilPr_calls w6.heap.size ps.length A7 c7 ps w7 ho7 rfl hb7.size).mono ?_
  rintro e w8 ⟨rfl, hb8⟩
  have hc8 : Below w6.heap.size w6 w8 := hb7.trans hb8
  clear ho7 hb7 hb8
  go_wp2_with fail
  refine (lost_calls w.heap.size w.heap.size A2 m c2 vs A1 n c1 xs ⟨#[97, 110, 121]⟩ w8 (HV.out _ hc8) (HX.out _ hc8) (Nat.lt_of_lt_of_le HLT.out hc8.size) (by decide)).mono ?_
  rintro e w9 ⟨A9, c9, rfl, ho9, hb9⟩
  obtain ⟨LL, hLL⟩ : ∃ L, lostA vs xs ⟨#[97, 110, 121]⟩ = L := ⟨_, rfl⟩
  obtain ⟨EL, hEL⟩ : ∃ L, lostE vs xs ⟨#[97, 110, 121]⟩ = L := ⟨_, rfl⟩
  rw [hLL] at ho9
  rw [hLL, hEL]
  clear hLL hEL
  go_wp2_with fail
  refine (spoilStr_calls w8.heap.size LL.length A9 c9 LL w9 ho9 rfl).mono ?_
  rintro e w10 ⟨rfl, hk10⟩
  have hc10 : Below w6.heap.size w6 w10 := below_call hc8 (keepsS_below hb9 ho9 hk10) (Nat.le_refl _)
  clear ho9 hb9 hk10 hc8
  go_wp2_with fail
  refine (runText_calls w.heap.size A1 n c1 xs w10 (HX.out _ hc10) (Nat.lt_of_lt_of_le HLT.out hc10.size) (HT.out _ hc10) (by omega) HXZ.out).mono ?_
  rintro e w11 ⟨rfl, hb11⟩
  have hc11 := below_call hc10 hb11 (Nat.le_refl _)
  clear hb11 hc10
  obtain ⟨TX, hTX⟩ : ∃ X, (if runsF xs = 0 then (⟨(rnsT xs).toArray⟩ : ByteArray) else ⟨#[]⟩) = X := ⟨_, rfl⟩
  rw [hTX]
  clear hTX
  go_wp2_with fail
  refine (runRead_calls TX w11 (HMX.out _ hc11)).mono ?_
  rintro e w12 ⟨v12, zl, rfl, _, hSZ⟩
  obtain ⟨hI, hap⟩ := fldI_start hSZ
  obtain ⟨A12, c12, hv⟩ := own_form hI.row
  subst hv
  obtain ⟨t, htt⟩ : ∃ t, zl.length = t := ⟨_, rfl⟩
  have HTL := Lib.hid htt
  rw [htt] at hI hap ⊢
  have HAP := Lib.hid hap
  have HI0 := Lib.hid hI
  have HB11 := Lib.hid hc11
  have hro := hI.row
  rw [htt] at hro
  have hcap := own_cap hro
  unfold maxLen at hcap
  clear hSZ hap hI htt hro hc11
  go_wp2_with fail
  go_loopw [61] (fun i wr => ∃ q : Nat, q ≤ t ∧ i = .int .i64 q ∧ Hid (FldI w11.heap.size w11 (.slice A12 t c12) zl wr)) (fun i _ => t - (intOf i).toNat)
  case atStart => exact ⟨0, Nat.zero_le _, rfl, HI0⟩
  case round =>
    obtain ⟨q, hq, rfl, HI⟩ := hrel
    obtain ⟨wo, hwo⟩ : ∃ z, z = wr := ⟨_, rfl⟩
    subst hwo
    by_cases hlt : q < t
    · have hqr : q < zl.length := by rw [HTL.out]; exact hlt
      have hrow := HI.out.row
      rw [HTL.out] at hrow
      obtain ⟨g, cap, hv, hg, _⟩ := hrow.form (by omega)
      injection hv with hA _ hc
      subst hA hc
      obtain ⟨x, hx⟩ : ∃ x, zl[q] = x := ⟨_, rfl⟩
      have hxm : x ∈ zl := by rw [← hx]; exact List.getElem_mem hqr
      have x4 := own_cell rnC 5 rnC_len hrow q 4 hqr hlt (by omega)
      rw [hx] at x4
      replace x4 : wo.cell? ⟨g, q * 5 + 4, none⟩ = some (.slice x.fa x.fs.length x.fc) := x4
      obtain ⟨pl, hl, hos⟩ := (HI.out.fld x hxm).prs
      have HSP := Lib.hid (spoilPrK_calls w11.heap.size x.fs.length x.fa x.fc pl wo hos hl)
      have hq0 : (0 : Int) ≤ (q : Int) := by omega
      have hq1 : (q : Int) < (t : Int) := by omega
      clear hx hrow hos
      go_wp2_with fail
      refine HSP.out.mono ?_
      rintro e w13 ⟨rfl, hk13⟩
      have HI2 := Lib.hid (HI.out.keeps hxm HAP.out hk13)
      clear hk13 HSP x4
      go_wp2_with fail
      go_roundw
      case rel => exact ⟨q + 1, by omega, by go_num, HI2⟩
      case measure => simp [intOf]; omega
    · obtain rfl : q = t := by omega
      have hc14 : Below w6.heap.size w6 wo := below_call HB11.out HI.out.bel (Nat.le_refl _)
      clear HI0 HI HAP
      go_wp2_with fail
      refine (equalRn_calls w.heap.size A1 A3 n c1 c3 xs us wo (HX.out _ hc14).rd (HU.out _ hc14).rd (fun x hx => ((HX.out _ hc14).ok x hx).rd) (fun x hx => ((HU.out _ hc14).ok x hx).rd) hcs).mono ?_
      rintro e w15 ⟨rfl, hb15⟩
      have hc15 := below_call hc14 hb15 (Nat.le_refl _)
      clear hb15 hc14
      go_wp2_with fail
      refine (equalVr_calls w.heap.size A2 A4 m c2 c4 vs w15 (HV.out _ hc15).rd (HY.out _ hc15).rd).mono ?_
      rintro e w16 ⟨rfl, q1, rfl⟩
      have hc16 := below_drewN hc15 q1
      clear hc15
      go_wp2_with fail
      refine (ready_calls w.heap.size _ (Nat.lt_of_lt_of_le HLT.out hc16.size) (HT.out _ hc16)).mono ?_
      rintro e w17 ⟨rfl, hb17⟩
      have hfin := HFI.out _ (below_call hc16 hb17 (Nat.le_refl _))
      go_wp2_with fail
      go_ret
      exact ⟨rfl, hfin⟩
end Go.Proofs.YthbcogekfdllmaaGreatDoor
