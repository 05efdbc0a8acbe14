/-
  CountsByDate: the law's own walk.
-/
import Derived.Test.YtlkapcjofgpiiaaGreatDoorZLawStart
import Derived.Test.YtlkapcjofgpiiaaGreatDoorZVst
import Derived.Test.YtlkapcjofgpiiaaGreatDoorZVer4
import Derived.Test.YtlkapcjofgpiiaaGreatDoorZVer7
import Derived.Test.YtlkapcjofgpiiaaGreatDoorZVer8
import Derived.Test.YtlkapcjofgpiiaaGreatDoorZSrn2
import Derived.Test.YtlkapcjofgpiiaaGreatDoorZRat4
import Derived.Deep.DeepCutAuto
namespace Go.Proofs.YtlkapcjofgpiiaaGreatDoor
open Go Go.RowKit TxtP
attribute [local go_sem ↓] Go.wp_at_zero Go.wp_at_succ

theorem key3_at (j : Nat) (hj : j < 3) : ∃ s : ByteArray, (#[.string ⟨#[97, 110, 121]⟩, .string ⟨#[102, 97, 115, 116]⟩, .string ⟨#[102, 117, 108, 108]⟩] : Array Value)[j]? = some (.string s) ∧ keyB s.data.toList = true ∧ s.size ≤ 100 := by
  rcases (show j = 0 ∨ j = 1 ∨ j = 2 by omega) with rfl | rfl | rfl
  · exact ⟨_, rfl, by decide, by decide⟩
  · exact ⟨_, rfl, by decide, by decide⟩
  · exact ⟨_, rfl, by decide, by decide⟩
/-- what Counts of a right run hands on: a slice of which Contains tells whether the run counts -/
def CntC (vs : List Vr) (x : Rn) (w : World) (e : Ending) (w' : World) : Prop :=
  ∃ A' q c', e = .returned (.tuple #[.slice A' q c', .int .i64 0]) ∧ Below w.heap.size w w' ∧ ∀ V k, Below w'.heap.size w' V → Calls Tryz.prog 13 #[.slice A' q c', .string k] V (fun e w2 => e = .returned (.bool (cntV vs k x)) ∧ ∃ nq, w2 = V.drewN nq)
theorem countsC_calls (b : Nat) (A : Option Addr) (n c : Nat) (vs : List Vr) (x : Rn) (w : World) (hr : Vrs w b A n c vs) (hx : RnW w b x) (hv : versF vs = 0) (h : runF x = 0) (hlt : b < w.heap.size) :
    Calls Tryz.prog 10 #[.slice A n c, .agg #[.string x.id, .string x.who, .int .i64 x.time, .int .i64 x.date, .slice x.fa x.fs.length x.fc]] w (CntC vs x w) := by
  refine (counts_calls b b A n c vs x w hr hx).mono ?_
  rintro e w' ⟨A', c', rfl, ho, hb⟩
  have hE := cntE_right hv h
  have hA : cntA vs x = cntL vs x := by unfold cntA; rw [if_pos hE]
  rw [hA] at ho
  refine ⟨A', (cntL vs x).length, c', by rw [hE, hA], hb, fun V k hV => ?_⟩
  refine (containsS_calls b A' _ c' (cntL vs x) k V ((Rd.own ho hlt).below hV)).mono ?_
  rintro e w9 ⟨rfl, nq, rfl⟩
  exact ⟨by rw [mem_cntA], nq, rfl⟩
set_option maxRecDepth 100000 in
set_option maxHeartbeats 8000000 in
theorem cbd_walk (a0 : Option Addr) (len0 cap0 : Nat) (z0 : List Int) (w : World) (w0 : InRow w a0 len0 cap0 z0) (ht : Tab w) :
    Calls Tryz.prog 3 #[.slice a0 len0 cap0] w fun e w' => e = .returned (.bool true) ∧ Below w.heap.size w w' := by
  have hs0 := strm_start w0 25
  have hb0 : Bx w.heap.size w.heap.size w (w.alloc (.cells #[.slice a0 len0 cap0, .int .i64 0] 25)) := (Bx.refl _ _ _).alloc (Nat.le_refl _) _
  clear w0
  go_enter Tryz.func3, Tryz.ntmps3
  go_wp2_with fail
  refine (versions_calls w.heap.size 0 _ hs0 (by omega)).mono ?_
  rintro e w3 ⟨v, vs, rfl, hvl, hvz, hS3⟩
  obtain ⟨n, hn⟩ : ∃ n, vs.length = n := ⟨_, rfl⟩
  rw [hn] at hvl hS3
  have hO : w3.ownsRow _ _ _ v n (vs.flatMap vrC) := hS3.head
  obtain ⟨A, c, hv⟩ := own_form hO
  subst hv
  have hr3 := vrs_ofS hS3 hvz
  have hb3 := hb0.call hS3.bx (Nat.le_refl _)
  have hs3 := hS3.strm
  clear hs0 hb0 hS3 hO hvz
  go_wp2_with fail
  refine (someRuns_calls w.heap.size _ _ hs3 (by omega)).mono ?_
  rintro e w5 ⟨v, xs, rfl, hxm, hz, hS7⟩
  obtain ⟨m, hm'⟩ : ∃ m, xs.length = m := ⟨_, rfl⟩
  rw [hm'] at hxm hS7
  have hO : w5.ownsRow _ _ _ v m (xs.flatMap rnC) := hS7.head
  obtain ⟨A2, c2, hv⟩ := own_form hO
  subst hv
  have hx5 := rns_ofS hS7 hz
  have hr5 := hr3.bx hS7.bx
  have hb5 := (hb3.call hS7.bx (Nat.le_refl _)).below (Nat.le_refl _)
  have hlt5 := hS7.lt
  have ht5 := ht.below hb5
  have HB := Lib.hid hb5
  clear hs3 hr3 hb3 hS7 hO ht hb5
  have GV := Lib.hid (versionsFault_calls w.heap.size A n c vs w5 hr5 ht5)
  have GX := Lib.hid (fun W (h : Below w5.heap.size w5 W) => runsFaultQ_calls w.heap.size A2 m c2 xs W (hx5.below h) (Nat.lt_of_lt_of_le hlt5 h.size))
  have GR := Lib.hid (fun W (h : Below w5.heap.size w5 W) => ready_calls w.heap.size W (Nat.lt_of_lt_of_le hlt5 h.size) (ht5.below h))
  by_cases hv : versF vs = 0
  case neg =>
    obtain ⟨VF, hVF⟩ : ∃ z, versF vs = z := ⟨_, rfl⟩
    rw [hVF] at hv GV
    have hne : (VF != 0) = true := by rw [bne_iff_ne]; exact hv
    clear hVF hv hx5 hr5 ht5 hz GX
    go_wp2_with (first | (go_at_call 7; refine GV.out.mono ?_; rintro e w6 ⟨rfl, hb6⟩) | (go_at_call 9; refine (GR.out _ hb6).mono ?_; rintro e w7 ⟨rfl, hb7⟩))
    go_ret
    exact ⟨rfl, below_call HB.out (below_call hb6 hb7 (Nat.le_refl _)) (Nat.le_refl _)⟩
  rw [hv] at GV
  by_cases hx : runsF xs = 0
  case neg =>
    obtain ⟨SF, hSF⟩ : ∃ z, runsF xs = z := ⟨_, rfl⟩
    rw [hSF] at hx GX
    have hne : (SF != 0) = true := by rw [bne_iff_ne]; exact hx
    clear hSF hv hx hx5 hr5 ht5 hz
    go_wp2_with (first | (go_at_call 7; refine GV.out.mono ?_; rintro e w6 ⟨rfl, hb6⟩) | (go_at_call 8; refine (GX.out _ hb6).mono ?_; rintro e w7 ⟨rfl, hb7⟩; have hb67 := below_call hb6 hb7 (Nat.le_refl _)) | (go_at_call 9; refine (GR.out _ hb67).mono ?_; rintro e w8 ⟨rfl, hb8⟩))
    go_ret
    exact ⟨rfl, below_call HB.out (below_call hb67 hb8 (Nat.le_refl _)) (Nat.le_refl _)⟩
  rw [hx] at GX
  obtain ⟨hxl, hxnc, hxcm, hxcells⟩ := hx5.rd.cells rnC_len (by omega)
  unfold maxLen at hxcm
  have HXL := Lib.hid hxl
  have HXC := Lib.hid hxcells
  have hrz := (runsF_zero hx).2
  have HRF : Hid (∀ k (hk : k < xs.length), runF xs[k] = 0) := Lib.hid (fun k hk => hrz _ (List.getElem_mem hk))
  have HC : Hid (∀ W, Below w5.heap.size w5 W → ∀ k (hk : k < xs.length), Calls Tryz.prog 10 #[.slice A n c, .agg #[.string xs[k].id, .string xs[k].who, .int .i64 xs[k].time, .int .i64 xs[k].date, .slice xs[k].fa xs[k].fs.length xs[k].fc]] W (CntC vs xs[k] W)) := Lib.hid (fun W h k hk =>
    countsC_calls w.heap.size A n c vs xs[k] W (hr5.below h) ((hx5.ok _ (List.getElem_mem hk)).below h) hv (HRF.out k hk) (Nat.lt_of_lt_of_le hlt5 h.size))
  have HRA : Hid (∀ W, Below w5.heap.size w5 W → ∀ k (hk : k < xs.length) (s : ByteArray), keyB s.data.toList = true → s.size ≤ 100 → Calls Tryz.prog 11 #[.slice A n c, .string s, .int .i64 xs[k].date] W (BRet (.tuple #[.string (rulAt vs s xs[k].date), .bool (!isE (rulAt vs s xs[k].date)), .int .i64 0]) W)) := Lib.hid (fun W h k hk s hs hz => by
    have h1 := ruleAt_calls w.heap.size A n c vs s xs[k].date W (hr5.below h) (by omega)
    have h2 := rlE_right hv hs (runF_date (HRF.out k hk))
    unfold rlT rlB at h1
    rw [h2, if_pos rfl, if_pos rfl] at h1
    exact h1)
  have HHD : Hid (∀ W, Below w5.heap.size w5 W → ∀ k (hk : k < xs.length) (s : ByteArray), isE (rulAt vs s xs[k].date) = false → Calls Tryz.prog 12 #[.string (rulAt vs s xs[k].date), .agg #[.string xs[k].id, .string xs[k].who, .int .i64 xs[k].time, .int .i64 xs[k].date, .slice xs[k].fa xs[k].fs.length xs[k].fc]] W (BRet (.tuple #[.bool (hldV numF (rulAt vs s xs[k].date) xs[k]), .int .i64 0]) W)) := Lib.hid (fun W h k hk s he => by
    have h1 := holds_calls numF numF_c numF_ok (rulAt vs s xs[k].date) w.heap.size xs[k] W (rulAt_size hr5.ok s xs[k].date) ((hx5.ok _ (List.getElem_mem hk)).below h)
    have h2 : rulE numF (rulAt vs s xs[k].date) xs[k] = 0 := by unfold rulE; rw [if_pos (rulAt_rgt (versF_rules hv) s xs[k].date he), HRF.out k hk]
    rw [h2] at h1
    exact h1)
  have HLO := Lib.hid (fun W (h : Below w5.heap.size w5 W) => lost_calls w.heap.size w.heap.size A n c vs A2 m c2 xs ⟨#[97, 110, 121]⟩ W (hr5.below h) (hx5.below h) (Nat.lt_of_lt_of_le hlt5 h.size) (by decide))
  have HLE := lostE_right (vs := vs) (xs := xs) (c := ⟨#[97, 110, 121]⟩) hv (by decide) hx
  have HAT := Lib.hid (fun id hm => lost_at vs xs ⟨#[97, 110, 121]⟩ id hx hm)
  have HIX := Lib.hid (fun W (h : Below w5.heap.size w5 W) gb id (hg : Blk W gb 9 #[.string id]) => ixRun_calls w.heap.size gb id A2 m c2 xs W hg (hx5.below h).rd)
  have HLT := Lib.hid hlt5
  clear hrz hv hx hx5 hr5 ht5 hz hxcells hxl hn hm' hvl hlt5
  go_wp2_with (first | (go_at_call 7; refine GV.out.mono ?_; rintro e w6 ⟨rfl, hb6⟩) | (go_at_call 8; refine (GX.out _ hb6).mono ?_; rintro e w7 ⟨rfl, hb7⟩; have hb67 := below_call hb6 hb7 (Nat.le_refl _)))
  clear GV GX hb6 hb7
  go_loopw [40] (fun i wr => ∃ k : Nat, k ≤ m ∧ i = .int .i64 k ∧ Below w5.heap.size w5 wr) (fun i _ => m - (intOf i).toNat)
  case atStart => exact ⟨0, Nat.zero_le _, rfl, hb67⟩
  case round =>
    clear hb67
    obtain ⟨k, hk, rfl, hbr⟩ := hrel
    by_cases hlt : k < m
    · have hkr : k < xs.length := by rw [HXL.out]; exact hlt
      obtain ⟨g, o, hA, _, hcs⟩ := HXC.out (by omega)
      subst hA
      have hk0 : (0 : Int) ≤ (k : Int) := by omega
      have hkn : (k : Int) < (m : Int) := by omega
      have c0 := below_cell hbr (hcs k hkr 0 (by omega))
      have c1 := below_cell hbr (hcs k hkr 1 (by omega))
      have c2 := below_cell hbr (hcs k hkr 2 (by omega))
      have c3 := below_cell hbr (hcs k hkr 3 (by omega))
      have c4 := below_cell hbr (hcs k hkr 4 (by omega))
      have HC1 := Lib.hid (fun W h => HC.out W h k hkr)
      have HR1 := Lib.hid (fun W h => HRA.out W h k hkr)
      have HH1 := Lib.hid (fun W h => HHD.out W h k hkr)
      obtain ⟨x, hxk⟩ : ∃ x, xs[k] = x := ⟨_, rfl⟩
      rw [hxk] at HC1 HR1 HH1 c0 c1 c2 c3 c4
      clear hcs hxk
      obtain ⟨xi, xw, xt, xd, xfa, xfc, xfs⟩ := x
      have HCV : Hid (∀ s, cntV vs s ⟨xi, xw, xt, xd, xfa, xfc, xfs⟩ = (!isE (rulAt vs s xd) && hldV numF (rulAt vs s xd) ⟨xi, xw, xt, xd, xfa, xfc, xfs⟩)) := Lib.hid (fun s => rfl)
      simp only at HC1 HR1 HH1
      unfold CntC at HC1
      replace c0 : wr.cell? ⟨g, o + k * 5, none⟩ = some (.string xi) := c0
      replace c1 : wr.cell? ⟨g, o + k * 5 + 1, none⟩ = some (.string xw) := c1
      replace c2 : wr.cell? ⟨g, o + k * 5 + 2, none⟩ = some (.int .i64 xt) := c2
      replace c3 : wr.cell? ⟨g, o + k * 5 + 3, none⟩ = some (.int .i64 xd) := c3
      replace c4 : wr.cell? ⟨g, o + k * 5 + 4, none⟩ = some (.slice xfa xfs.length xfc) := c4
      obtain ⟨CVX, hCVX⟩ : ∃ f : ByteArray → Bool, (fun s => cntV vs s ⟨xi, xw, xt, xd, xfa, xfc, xfs⟩) = f := ⟨_, rfl⟩
      have hCVx : ∀ s, cntV vs s ⟨xi, xw, xt, xd, xfa, xfc, xfs⟩ = CVX s := fun s => by rw [← hCVX]
      simp only [hCVx] at HC1 HCV
      obtain ⟨HDX, hHDX⟩ : ∃ f : ByteArray → Bool, (fun s => hldV numF s ⟨xi, xw, xt, xd, xfa, xfc, xfs⟩) = f := ⟨_, rfl⟩
      have hHDx : ∀ s, hldV numF s ⟨xi, xw, xt, xd, xfa, xfc, xfs⟩ = HDX s := fun s => by rw [← hHDX]
      simp only [hHDx] at HH1 HCV
      obtain ⟨fl, hfl⟩ : ∃ z, xfs.length = z := ⟨_, rfl⟩
      rw [hfl] at HC1 HH1 c4
      clear hfl hCVX hCVx hHDX hHDx
      have hT1 := (Sq.start wr).add #[.string xi, .string xw, .int .i64 xt, .int .i64 xd, .slice xfa fl xfc] 36
      go_upto_region 8 with (fail)
      obtain ⟨H, hH⟩ : ∃ H, wr.heap.size = H := ⟨_, rfl⟩
      obtain ⟨W1, hW1⟩ : ∃ W, wr.alloc (.cells #[.string xi, .string xw, .int .i64 xt, .int .i64 xd, .slice xfa fl xfc] 36) = W := ⟨_, rfl⟩
      have hbW := hT1.below
      have hbk := (show Blk _ wr.heap.size 36 _ from hT1.head)
      rw [hH, hW1] at hbk
      rw [hW1] at hbW
      have hbW5 := below_call hbr hbW (Nat.le_refl _)
      rw [hH, hW1]
      clear c0 c1 c2 c3 c4 hH hW1 hT1 hbr hbW
      have HCE : Hid (∀ V, Below W1.heap.size W1 V → V.cell? ⟨H, 0, none⟩ = some (.string xi) ∧ V.cell? ⟨H, 1, none⟩ = some (.string xw) ∧ V.cell? ⟨H, 2, none⟩ = some (.int .i64 xt) ∧ V.cell? ⟨H, 3, none⟩ = some (.int .i64 xd) ∧ V.cell? ⟨H, 4, none⟩ = some (.slice xfa fl xfc)) := Lib.hid (fun V h => by
        have hb := hbk.below h
        exact ⟨hb.cell 0, hb.cell 1, hb.cell 2, hb.cell 3, hb.cell 4⟩)
      obtain ⟨k0, k1, k2, k3, k4⟩ := HCE.out _ (Below.refl _ _)
      clear hbk
      go_wp2_with fail
      refine (HC1.out _ hbW5).mono ?_
      rintro e w8 ⟨A8, q8, c8, rfl, hb8, hcon⟩
      have HCON := Lib.hid hcon
      clear hcon k0 k1 k2 k3 k4 HC1
      have hL := (Sq.start w8).add #[.string ⟨#[97, 110, 121]⟩, .string ⟨#[102, 97, 115, 116]⟩, .string ⟨#[102, 117, 108, 108]⟩] 9
      have HLB := Lib.hid (show Blk _ w8.heap.size 9 _ from hL.head)
      have hb9 := hL.below
      clear hL
      go_wp2_with fail
      go_loopw [54] (fun i V => ∃ j : Nat, j ≤ 3 ∧ i = .int .i64 j ∧ Below w8.heap.size w8 V ∧ Blk V w8.heap.size 9 #[.string ⟨#[97, 110, 121]⟩, .string ⟨#[102, 97, 115, 116]⟩, .string ⟨#[102, 117, 108, 108]⟩]) (fun i _ => 3 - (intOf i).toNat)
      case atStart => exact ⟨0, Nat.zero_le _, rfl, hb9, HLB.out⟩
      case round =>
        clear hb9 HLB
        obtain ⟨j, hj, rfl, hbV, hbl⟩ := hrel
        by_cases hjt : j < 3
        · obtain ⟨s, hsc, hsk, hsz⟩ := key3_at j hjt
          have c0 := (hbl.cell j).trans hsc
          have hj0 : (0 : Int) ≤ (j : Int) := by omega
          have hj3 : (j : Int) < 3 := by omega
          have HR2 := Lib.hid (fun W h => HR1.out W h s hsk hsz)
          have HH2 := Lib.hid (fun W h => HH1.out W h s)
          have HCO := Lib.hid (fun V h => HCON.out V s h)
          have hcv := HCV.out s
          obtain ⟨R, hR⟩ : ∃ z, rulAt vs s xd = z := ⟨_, rfl⟩
          rw [hR] at HR2 HH2 hcv
          obtain ⟨HD, hHD⟩ : ∃ z, HDX R = z := ⟨_, rfl⟩
          rw [hHD] at HH2 hcv
          obtain ⟨CC, hCC⟩ : ∃ z, CVX s = z := ⟨_, rfl⟩
          rw [hCC] at HCO hcv
          have hbV1 := below_call hb8 hbV (Nat.le_refl _)
          obtain ⟨k0, k1, k2, k3, k4⟩ := HCE.out _ hbV1
          have HBL := Lib.hid hbl
          have HBV := Lib.hid (below_call hbW5 hbV1 (Nat.le_refl _))
          clear hsc hsk hsz hR hHD hCC hbl
          cases hIE : isE R
          · rw [hIE] at HR2 hcv
            obtain rfl : CC = HD := by rw [hcv]; rfl
            have HH3 := Lib.hid (fun W h => HH2.out W h hIE)
            have hne : (CC == CC) = true := by simp
            clear hcv hIE HH2
            go_wp2_with fail
            refine (HR2.out _ HBV.out).mono ?_
            rintro e w10 ⟨rfl, hb10⟩
            clear c0 k0 k1 k2 k3 k4
            obtain ⟨k0, k1, k2, k3, k4⟩ := HCE.out _ (below_call hbV1 hb10 (Nat.le_refl _))
            go_wp2_with fail
            refine (HH3.out _ (below_call HBV.out hb10 (Nat.le_refl _))).mono ?_
            rintro e w11 ⟨rfl, hb11⟩
            have hb12 := below_call hb10 hb11 (Nat.le_refl _)
            have hbV2 := below_call hbV hb12 (Nat.le_refl _)
            clear k0 k1 k2 k3 k4
            go_wp2_with fail
            refine (HCO.out _ hbV2).mono ?_
            rintro e w12 ⟨rfl, nq, hw⟩
            have hb13 : Below w8.heap.size w8 w12 := by rw [hw]; exact below_drewN hbV2 nq
            have hbl2 : Blk w12 w8.heap.size 9 #[.string ⟨#[97, 110, 121]⟩, .string ⟨#[102, 97, 115, 116]⟩, .string ⟨#[102, 117, 108, 108]⟩] := HBL.out.below (by rw [hw]; exact below_drewN hb12 nq)
            clear hw
            go_wp2_with fail
            go_roundw
            case rel => exact ⟨j + 1, by omega, by go_num, hb13, hbl2⟩
            case measure => simp [intOf]; omega
          · rw [hIE] at HR2 hcv
            obtain rfl : CC = false := hcv
            clear hIE HH2
            go_wp2_with fail
            refine (HR2.out _ HBV.out).mono ?_
            rintro e w10 ⟨rfl, hb10⟩
            have hbV2 := below_call hbV hb10 (Nat.le_refl _)
            clear c0 k0 k1 k2 k3 k4
            go_wp2_with fail
            refine (HCO.out _ hbV2).mono ?_
            rintro e w12 ⟨rfl, nq, hw⟩
            have hb13 : Below w8.heap.size w8 w12 := by rw [hw]; exact below_drewN hbV2 nq
            have hbl2 : Blk w12 w8.heap.size 9 #[.string ⟨#[97, 110, 121]⟩, .string ⟨#[102, 97, 115, 116]⟩, .string ⟨#[102, 117, 108, 108]⟩] := HBL.out.below (by rw [hw]; exact below_drewN hb10 nq)
            clear hw
            go_wp2_with fail
            go_roundw
            case rel => exact ⟨j + 1, by omega, by go_num, hb13, hbl2⟩
            case measure => simp [intOf]; omega
        · obtain rfl : j = 3 := by omega
          have hbe := below_call hbW5 (below_call hb8 hbV (Nat.le_refl _)) (Nat.le_refl _)
          clear hbl
          go_wp2_with fail
          go_roundw
          case rel => exact ⟨k + 1, by omega, by go_num, hbe⟩
          case measure => simp [intOf]; omega
    · obtain rfl : m = k := by omega
      have HLO2 := Lib.hid (HLO.out _ hbr)
      unfold LostS at HLO2
      obtain ⟨hc, hhc⟩ : ∃ z, hasC vs ⟨#[97, 110, 121]⟩ = z := ⟨_, rfl⟩
      rw [hhc] at HLE
      have hA : lostA vs xs ⟨#[97, 110, 121]⟩ = if lostE vs xs ⟨#[97, 110, 121]⟩ = 0 then lostL vs xs ⟨#[97, 110, 121]⟩ else [] := rfl
      rw [HLE] at HLO2 hA
      clear hhc HLE HLO HRA HHD
      cases hc
      · rw [if_neg (by decide)] at HLO2 hA
        clear hA HAT HIX HC
        go_wp2_with fail
        refine HLO2.out.mono ?_
        rintro e w8 ⟨A8, c8, rfl, _, hb8⟩
        have hb9 := below_call hbr hb8 (Nat.le_refl _)
        go_wp2_with (first | (go_at_call 9; refine (GR.out _ hb9).mono ?_; rintro e w10 ⟨rfl, hb10⟩))
        go_ret
        exact ⟨rfl, below_call HB.out (below_call hb9 hb10 (Nat.le_refl _)) (Nat.le_refl _)⟩
      · rw [if_pos rfl] at HLO2 hA
        rw [if_pos rfl] at hA
        rw [hA] at HLO2
        clear hA
        obtain ⟨L, hL⟩ : ∃ z, lostL vs xs ⟨#[97, 110, 121]⟩ = z := ⟨_, rfl⟩
        rw [hL] at HLO2 HAT
        clear hL
        obtain ⟨q, hq⟩ : ∃ z, L.length = z := ⟨_, rfl⟩
        rw [hq] at HLO2
        have HQ := Lib.hid hq
        clear hq
        go_wp2_with fail
        refine HLO2.out.mono ?_
        rintro e w8 ⟨A8, c8, rfl, ho8, hb8⟩
        have hb9 := below_call hbr hb8 (Nat.le_refl _)
        have hrd8 : Rd w8 w.heap.size 1 (.slice A8 q c8) q (strsV L) := Rd.own ho8 (Nat.lt_of_lt_of_le HLT.out hbr.size)
        obtain ⟨hll, hlnc, hlcm, hlcells⟩ := strs_cells hrd8
        unfold maxLen at hlcm
        have HLC := Lib.hid hlcells
        have HB9 := Lib.hid hb9
        clear hlcells hrd8 ho8 hb8 hbr HLO2 hb9 hll
        go_wp2_with fail
        go_loopw [102] (fun i V => ∃ j : Nat, j ≤ q ∧ i = .int .i64 j ∧ Below w8.heap.size w8 V) (fun i _ => q - (intOf i).toNat)
        case atStart => exact ⟨0, Nat.zero_le _, rfl, Below.refl _ _⟩
        case round =>
          obtain ⟨j, hj, rfl, hbV⟩ := hrel
          by_cases hjt : j < q
          · have hjr : j < L.length := by rw [HQ.out]; exact hjt
            obtain ⟨g8, o8, hA8, _, hcs8⟩ := HLC.out (by omega)
            subst hA8
            have c0 := below_cell hbV (hcs8 j hjr)
            obtain ⟨i, hir, hix, hcv⟩ := HAT.out L[j] (List.getElem_mem hjr)
            obtain ⟨id, hid⟩ : ∃ z, L[j] = z := ⟨_, rfl⟩
            rw [hid] at c0 hix
            have hj0 : (0 : Int) ≤ (j : Int) := by omega
            have hjq : (j : Int) < (q : Int) := by omega
            have him : i < m := by rw [← HXL.out]; exact hir
            have hi0 : (0 : Int) ≤ (i : Int) := by omega
            have hii : (i : Int) < (m : Int) := by omega
            have hneg : ¬ (i : Int) < 0 := by omega
            obtain ⟨g, o, hA, _, hcs⟩ := HXC.out (by omega)
            subst hA
            have d0 := hcs i hir 0 (by omega)
            have d1 := hcs i hir 1 (by omega)
            have d2 := hcs i hir 2 (by omega)
            have d3 := hcs i hir 3 (by omega)
            have d4 := hcs i hir 4 (by omega)
            have HC1 := Lib.hid (fun W h => HC.out W h i hir)
            obtain ⟨x, hxk⟩ : ∃ x, xs[i] = x := ⟨_, rfl⟩
            rw [hxk] at HC1 d0 d1 d2 d3 d4 hcv
            obtain ⟨xi, xw, xt, xd, xfa, xfc, xfs⟩ := x
            simp only at HC1
            unfold CntC at HC1
            obtain ⟨fl, hfl⟩ : ∃ z, xfs.length = z := ⟨_, rfl⟩
            rw [hfl] at HC1
            replace d0 : w5.cell? ⟨g, o + i * 5, none⟩ = some (.string xi) := d0
            replace d1 : w5.cell? ⟨g, o + i * 5 + 1, none⟩ = some (.string xw) := d1
            replace d2 : w5.cell? ⟨g, o + i * 5 + 2, none⟩ = some (.int .i64 xt) := d2
            replace d3 : w5.cell? ⟨g, o + i * 5 + 3, none⟩ = some (.int .i64 xd) := d3
            replace d4 : w5.cell? ⟨g, o + i * 5 + 4, none⟩ = some (.slice xfa fl xfc) := by rw [← hfl]; exact d4
            have HDC : Hid (∀ W, Below w5.heap.size w5 W → W.cell? ⟨g, o + i * 5, none⟩ = some (.string xi) ∧ W.cell? ⟨g, o + i * 5 + 1, none⟩ = some (.string xw) ∧ W.cell? ⟨g, o + i * 5 + 2, none⟩ = some (.int .i64 xt) ∧ W.cell? ⟨g, o + i * 5 + 3, none⟩ = some (.int .i64 xd) ∧ W.cell? ⟨g, o + i * 5 + 4, none⟩ = some (.slice xfa fl xfc)) := Lib.hid (fun W h => ⟨below_cell h d0, below_cell h d1, below_cell h d2, below_cell h d3, below_cell h d4⟩)
            have HCVT := Lib.hid hcv
            have hT := (Sq.start wr).add #[.string id] 9
            have hbT := hT.below
            have hbx := (show Blk _ wr.heap.size 9 _ from hT.head)
            have hb10 := below_call (below_call HB9.out hbV (Nat.le_refl _)) hbT (Nat.le_refl _)
            have HIX2 := Lib.hid (HIX.out _ hb10 _ id hbx)
            rw [hix] at HIX2
            have HBT := Lib.hid hb10
            clear d0 d1 d2 d3 d4 hcs hcs8 hfl hxk hid hir hix hcv hT hbT hbx hb10 HC
            go_wp2_with fail
            refine HIX2.out.mono ?_
            rintro e w11 ⟨rfl, hb11⟩
            have hb12 := below_call HBT.out hb11 (Nat.le_refl _)
            obtain ⟨k0, k1, k2, k3, k4⟩ := HDC.out _ hb12
            clear c0
            go_wp2_with fail
            refine (HC1.out _ hb12).mono ?_
            rintro e w13 ⟨A13, q13, c13, rfl, hb13, hcon⟩
            have HCO := Lib.hid (hcon w13 ⟨#[97, 110, 121]⟩ (Below.refl _ _))
            rw [HCVT.out] at HCO
            clear hcon k0 k1 k2 k3 k4
            go_wp2_with fail
            refine HCO.out.mono ?_
            rintro e w14 ⟨rfl, nq, hw⟩
            have hbE : Below w8.heap.size w8 w14 := by
              rw [hw]
              have := ((Sq.start wr).add #[.string id] 9).below
              exact below_drewN (below_call (below_call (below_call hbV this (Nat.le_refl _)) hb11 (Nat.le_refl _)) hb13 (Nat.le_refl _)) nq
            clear hw
            go_wp2_with fail
            go_roundw
            case rel => exact ⟨j + 1, by omega, by go_num, hbE⟩
            case measure => simp [intOf]; omega
          · obtain rfl : j = q := by omega
            have hb10 := below_call HB9.out hbV (Nat.le_refl _)
            go_wp2_with (first | (go_at_call 9; refine (GR.out _ hb10).mono ?_; rintro e w11 ⟨rfl, hb11⟩))
            go_ret
            exact ⟨rfl, below_call HB.out (below_call hb10 hb11 (Nat.le_refl _)) (Nat.le_refl _)⟩
end Go.Proofs.YtlkapcjofgpiiaaGreatDoor
