/-
  race.Rate of right arguments by a contract: the new ratings are rateTo's.
-/
import Derived.Test.YtedfieopmjpibaaGreatDoorZRate
namespace Go.Proofs.YtedfieopmjpibaaGreatDoor
open Go Go.RowKit

theorem ratedC_one (rs : List Rtd) : ∀ u ∈ rs.flatMap ratedC, u.oneCell' = true := by
  intro u hu
  obtain ⟨r, _, hr⟩ := List.mem_flatMap.1 hu
  simp [ratedC] at hr
  rcases hr with rfl | rfl | rfl <;> rfl
set_option maxRecDepth 100000 in
set_option maxHeartbeats 2000000 in
theorem rate1_calls (b : Nat) (A : Option Addr) (n c : Nat) (rs : List Rtd) (A2 : Option Addr) (m c2 : Nat) (r : List Res) (wt : Int) (w : World) (hr : Rd w b 3 (.slice A n c) n (rs.flatMap ratedC)) (hr2 : Rd w b 3 (.slice A2 m c2) m (r.flatMap resC)) (hrs : Rts rs) (hss : Rss r) (hf : ratesF rs r wt = 0) :
    Calls Tryz.prog 15 #[.slice A n c, .slice A2 m c2, .int .i64 wt] w fun e w' => ∃ v, e = .returned (.tuple #[v, .int .i64 0]) ∧ w'.ownsRow w.heap.size 44 3 v n ((rateTo rs r wt r.length).flatMap ratedC) ∧ Below w.heap.size w w' := by
  have hfe := first_rates rs r wt
  obtain ⟨hf1, hf2⟩ := rates_ok hf
  rw [hf1, hf2, hf] at hfe
  have hok := ratedF_ok hf1
  have R := resF_ok hf2
  have hn128 : rs.length ≤ 128 := by
    apply Classical.byContradiction
    intro hc
    have : ratedF rs = 2 := by unfold ratedF; rw [if_pos (by omega)]
    omega
  obtain ⟨hl, hnc, hcm, hcells⟩ := hr.cells ratedC_len (by omega)
  obtain ⟨hl2, hnc2, hcm2, hcells2⟩ := hr2.cells resC_len (by omega)
  unfold maxLen at hcm hcm2
  have hm1 := R.many
  have hm2 := R.small
  rw [hl2] at hm1 hm2
  rw [hl] at hn128
  have hw1 := R.w1
  have hw2 := R.w2
  have HE1 := Lib.hid hf1
  have HE2 := Lib.hid hf2
  have HFE := Lib.hid hfe
  have HL := Lib.hid hl
  have HL2 := Lib.hid hl2
  have HC := Lib.hid hcells
  have HC2 := Lib.hid hcells2
  clear hf1 hf2 hf hfe hl hl2 hcells hcells2
  go_enter Tryz.func15, Tryz.ntmps15
  go_wp2_with fail
  refine (checkRated_calls b A n c rs _ hr hrs).mono ?_
  rintro e w1 ⟨rfl, hb1⟩
  rw [HE1.out]
  go_wp2_with fail
  refine (resultsFault_calls b A n c rs A2 m c2 r wt _ (hr.below hb1) (hr2.below hb1) hss).mono ?_
  rintro e w2 ⟨rfl, hb2⟩
  rw [HE2.out]
  go_wp2_with fail
  refine (first_calls (w2.heap.size + 5) _ 2 2 [0, 0] _ (Rd.lit w2 _ 1 2 #[.int .i64 0, .int .i64 0] _ (by omega) (by decide) rfl)).mono ?_
  rintro e w3 ⟨rfl, n3, rfl⟩
  rw [HFE.out]
  have hb3 : Below w.heap.size w ((w2.alloc (.cells #[.int .i64 0, .int .i64 0] 31)).drewN n3) := below_drewN ((below_call hb1 hb2 (Nat.le_refl _)).alloc (Nat.le_trans hb1.size hb2.size) _) _
  go_wp2_with fail
  refine (cloneRated_calls b A n c (rs.flatMap ratedC) _ (hr.below hb3) (ratedC_one rs) (by omega)).mono ?_
  rintro e w4 ⟨v, rfl, hown0, hb4⟩
  have hown := own_base hown0 hb3.size
  have hbr0 := below_call hb3 hb4 (Nat.le_refl _)
  clear hown0 hb1 hb2 hb3 hb4
  obtain ⟨A3, c3, hv⟩ := own_form hown
  subst hv
  have h00 : Hid (rs = rateTo rs r wt 0) := rfl
  go_wp2_with fail
  go_loopw [34] (fun i wr => ∃ (k : Nat) (L : List Rtd), k ≤ m ∧ i = .int .i64 k ∧ Hid (L = rateTo rs r wt k) ∧ wr.ownsRow w.heap.size 44 3 (.slice A3 n c3) n (L.flatMap ratedC) ∧ Below w.heap.size w wr) (fun i _ => m - (intOf i).toNat)
  case atStart => exact ⟨0, rs, Nat.zero_le _, rfl, h00, hown, hbr0⟩
  case round =>
    clear h00 hown hbr0
    obtain ⟨k, L, hk, rfl, HLk, hown, hbr⟩ := hrel
    obtain ⟨wo, rfl⟩ : ∃ wo : World, wo = wr := ⟨_, rfl⟩
    by_cases hlt : k < m
    · have hkr : k < r.length := by rw [HL2.out]; exact hlt
      obtain ⟨g2, o2, hA2, _, hcs2⟩ := HC2.out (by omega)
      have hxa := R.all _ (List.getElem_mem hkr)
      obtain ⟨ix, hix, hixl, hat⟩ := atR_eq hxa.2.1 hxa.1
      have hixn : ix < n := by rw [← HL.out]; exact hixl
      obtain ⟨g1, o1, hA, _, hcs⟩ := HC.out (by omega)
      have hro := hok _ (List.getElem_mem hixl)
      have hkstep := rateTo_step rs r wt k hkr
      have hxs := hss _ (List.getElem_mem hkr)
      have c0 := below_cell hbr (hcs2 k hkr 0 (by omega))
      have c1 := below_cell hbr (hcs2 k hkr 1 (by omega))
      have c2' := below_cell hbr (hcs2 k hkr 2 (by omega))
      have l1 := hcs ix hixl 1 (by omega)
      have l2 := hcs ix hixl 2 (by omega)
      have hth : thouR rs r[k].2.1 = thou rs[ix].2.1 rs[ix].2.2 := by unfold thouR; rw [hat]
      obtain ⟨x, hx⟩ : ∃ x, r[k] = x := ⟨_, rfl⟩
      obtain ⟨q, hq⟩ : ∃ q, rs[ix] = q := ⟨_, rfl⟩
      rw [hx] at c0 c1 c2' hkstep hix hth hxs
      rw [hq] at l1 l2 hro hth
      simp only [ratedC, Nat.add_zero, List.getElem?_cons_zero, List.getElem?_cons_succ] at c0 c1 c2' l1 l2
      have HX := Lib.hid hx
      have HQ := Lib.hid hq
      have HIX := Lib.hid hix
      have HK := Lib.hid hkstep
      have HTH := Lib.hid hth
      have HCS := Lib.hid hcs
      have HCS2 := Lib.hid hcs2
      clear hx hq hix hkstep hth hxa hat hcs hcs2
      subst hA hA2
      have htb := thou_bd hro
      have hb5 := hbr.alloc hbr.size (.cells #[.int .i64 x.1, .string x.2.1, .int .i64 x.2.2] 50)
      have RB := Lib.hid (hr.below hb5)
      have hlz := hbr.size
      go_wp2_with fail
      refine (find_calls b _ n c rs x.2.1 _ RB.out).mono ?_
      rintro e w5 ⟨rfl, hb6⟩
      rw [HIX.out]
      have hb7 := below_call hb5 hb6 (Nat.le_refl _)
      have own5 := own_below (hown.alloc (.cells #[.int .i64 x.1, .string x.2.1, .int .i64 x.2.2] 50)) hb6
      have BX := (Blk.new wo 50 #[.int .i64 x.1, .string x.2.1, .int .i64 x.2.2]).below hb6
      clear RB hb5 hb6 hown hbr c0 c1 c2'
      have l1' := below_cell hb7 l1
      have l2' := below_cell hb7 l2
      have hi0 : (0 : Int) ≤ (ix : Int) := by omega
      have hi1 : (ix : Int) < (n : Int) := by omega
      go_wp2_with fail
      refine (thousandths_calls q.2.1 q.2.2 _ hro).mono ?_
      rintro e w6 ⟨rfl, hb8⟩
      rw [← HTH.out] at htb ⊢
      have hb9 := below_call hb7 hb8 (Nat.le_refl _)
      have own6 := own_below own5 hb8
      have BX6 := BX.below hb8
      have hlz6 := hb9.size
      clear l1' l2' own5 BX hb7 hb8
      obtain ⟨T, hT⟩ : ∃ T, thouR rs x.2.1 = T := ⟨_, rfl⟩
      rw [hT] at htb ⊢
      have HT := Lib.hid hT
      clear hT
      have hg0 : Hid ((0 : Int) = gainTo rs r x 0) := rfl
      go_wp2_with fail
      go_loopw [14, 50] (fun G i wr => ∃ (j : Nat) (gn : Int), j ≤ m ∧ G = .int .i64 gn ∧ i = .int .i64 j ∧ Hid (gn = gainTo rs r x j) ∧ -800000 * (j : Int) ≤ gn ∧ gn ≤ 800000 * (j : Int) ∧ wr.ownsRow w.heap.size 44 3 (.slice A3 n c3) n (L.flatMap ratedC) ∧ Below w.heap.size w wr ∧ Blk wr wo.heap.size 50 #[.int .i64 x.1, .string x.2.1, .int .i64 x.2.2]) (fun _ i _ => m - (intOf i).toNat)
      case atStart => exact ⟨0, 0, Nat.zero_le _, rfl, rfl, hg0, by omega, by omega, own6, hb9, BX6⟩
      case round =>
        clear hg0 own6 hb9 BX6
        obtain ⟨j, gn, hj, rfl, rfl, HG, hgl, hgh, hown, hbr, BX⟩ := hrel
        by_cases hjm : j < m
        · have hjr : j < r.length := by rw [HL2.out]; exact hjm
          have hya := R.all _ (List.getElem_mem hjr)
          obtain ⟨iy, hiy, hiyl, haty⟩ := atR_eq hya.2.1 hya.1
          have hiyn : iy < n := by rw [← HL.out]; exact hiyl
          have hroy := hok _ (List.getElem_mem hiyl)
          have hgstep := gainTo_step rs r x j hjr
          have d0 := below_cell hbr (HCS2.out j hjr 0 (by omega))
          have d1 := below_cell hbr (HCS2.out j hjr 1 (by omega))
          have d2 := below_cell hbr (HCS2.out j hjr 2 (by omega))
          have m1 := HCS.out iy hiyl 1 (by omega)
          have m2 := HCS.out iy hiyl 2 (by omega)
          have hty : thouR rs r[j].2.1 = thou rs[iy].2.1 rs[iy].2.2 := by unfold thouR; rw [haty]
          obtain ⟨y, hy⟩ : ∃ y, r[j] = y := ⟨_, rfl⟩
          obtain ⟨p, hp⟩ : ∃ p, rs[iy] = p := ⟨_, rfl⟩
          rw [hy] at d0 d1 d2 hgstep hiy hty
          rw [hp] at m1 m2 hroy hty
          simp only [ratedC, Nat.add_zero, List.getElem?_cons_zero, List.getElem?_cons_succ] at d0 d1 d2 m1 m2
          rw [← HG.out] at hgstep
          have HIY := Lib.hid hiy
          have HTY := Lib.hid hty
          have htyb := thou_bd hroy
          rw [← hty] at htyb
          obtain ⟨TY, hTY⟩ : ∃ TY, thouR rs y.2.1 = TY := ⟨_, rfl⟩
          have HTY2 := Lib.hid hTY
          unfold gainS at hgstep
          rw [HT.out, hTY] at hgstep
          rw [hTY] at htyb
          have hxb := RatP.expd_bd T TY
          obtain ⟨XE, hXE⟩ : ∃ XE, RatP.expd T TY = XE := ⟨_, rfl⟩
          rw [hXE] at hgstep hxb
          have HX2 := Lib.hid hXE
          have hb5 := hbr.alloc hbr.size (.cells #[.int .i64 y.1, .string y.2.1, .int .i64 y.2.2] 50)
          have RB := Lib.hid (hr.below hb5)
          have hlzr := hbr.size
          have hbxl := BX.lt
          have bx := (BX.alloc (.cells #[.int .i64 y.1, .string y.2.1, .int .i64 y.2.2] 50)).three
          have bx0 := bx.1
          have bx1 := bx.2.1
          have hj0 : (0 : Int) ≤ (iy : Int) := by omega
          have hj1 : (iy : Int) < (n : Int) := by omega
          clear hy hp hiy hty haty hya hTY hXE bx
          cases heq : eqS y.2.1 x.2.1
          · have he' : (y.2.1.toList == x.2.1.toList) = false := heq
            rw [heq, if_neg (by simp)] at hgstep
            clear heq
            by_cases hlt1 : x.1 < y.1
            · have hS : gn + 800000 - XE = gainTo rs r x (j + 1) := by rw [hgstep]; unfold wonR; rw [if_pos hlt1]
              have HS := Lib.hid hS
              clear hS hgstep
              have _hk := hlt1
              go_wp2_with fail
              refine (find_calls b _ n c rs y.2.1 _ RB.out).mono ?_
              rintro e w7 ⟨rfl, hc1⟩
              rw [HIY.out]
              have hd1 := below_call hb5 hc1 (Nat.le_refl _)
              have own7 := own_below (hown.alloc (.cells #[.int .i64 y.1, .string y.2.1, .int .i64 y.2.2] 50)) hc1
              have BX7 := (BX.alloc (.cells #[.int .i64 y.1, .string y.2.1, .int .i64 y.2.2] 50)).below hc1
              have m1' := below_cell hd1 m1
              have m2' := below_cell hd1 m2
              clear hb5 hc1 hown BX hbr RB
              go_wp2_with fail
              refine (thousandths_calls p.2.1 p.2.2 _ hroy).mono ?_
              rintro e w8 ⟨rfl, hc2⟩
              rw [← HTY.out, HTY2.out]
              have hd2 := below_call hd1 hc2 (Nat.le_refl _)
              have own8 := own_below own7 hc2
              have BX8 := BX7.below hc2
              clear hd1 hc2 own7 BX7 m1' m2'
              go_wp2_with fail
              refine (expectedR_calls T TY _ (by omega) (by omega) (by omega) (by omega)).mono ?_
              rintro e w9 ⟨rfl, nq, rfl⟩
              rw [HX2.out]
              go_wp2
              go_roundw
              case rel => exact ⟨j + 1, gn + 800000 - XE, by omega, rfl, by go_num, HS, by omega, by omega, own_drewN own8 _, below_drewN hd2 _, BX8.drewN _⟩
              case measure => simp [intOf]; omega
            · by_cases heq1 : x.1 = y.1
              · have hS : gn + 400000 - XE = gainTo rs r x (j + 1) := by rw [hgstep]; unfold wonR; rw [if_neg hlt1, if_pos heq1]
                have HS := Lib.hid hS
                have hqq : (x.1 == y.1) = true := by simpa using heq1
                clear hS hgstep heq1
                have _hk := hqq
                go_wp2_with fail
                refine (find_calls b _ n c rs y.2.1 _ RB.out).mono ?_
                rintro e w7 ⟨rfl, hc1⟩
                rw [HIY.out]
                have hd1 := below_call hb5 hc1 (Nat.le_refl _)
                have own7 := own_below (hown.alloc (.cells #[.int .i64 y.1, .string y.2.1, .int .i64 y.2.2] 50)) hc1
                have BX7 := (BX.alloc (.cells #[.int .i64 y.1, .string y.2.1, .int .i64 y.2.2] 50)).below hc1
                have m1' := below_cell hd1 m1
                have m2' := below_cell hd1 m2
                clear hb5 hc1 hown BX hbr RB
                go_wp2_with fail
                refine (thousandths_calls p.2.1 p.2.2 _ hroy).mono ?_
                rintro e w8 ⟨rfl, hc2⟩
                rw [← HTY.out, HTY2.out]
                have hd2 := below_call hd1 hc2 (Nat.le_refl _)
                have own8 := own_below own7 hc2
                have BX8 := BX7.below hc2
                clear hd1 hc2 own7 BX7 m1' m2'
                go_wp2_with fail
                refine (expectedR_calls T TY _ (by omega) (by omega) (by omega) (by omega)).mono ?_
                rintro e w9 ⟨rfl, nq, rfl⟩
                rw [HX2.out]
                go_wp2
                go_roundw
                case rel => exact ⟨j + 1, gn + 400000 - XE, by omega, rfl, by go_num, HS, by omega, by omega, own_drewN own8 _, below_drewN hd2 _, BX8.drewN _⟩
                case measure => simp [intOf]; omega
              · have hS : gn - XE = gainTo rs r x (j + 1) := by rw [hgstep]; unfold wonR; rw [if_neg hlt1, if_neg heq1]; omega
                have HS := Lib.hid hS
                have hqq : (x.1 == y.1) = false := by simpa using heq1
                clear hS hgstep heq1
                have _hk := hqq
                go_wp2_with fail
                refine (find_calls b _ n c rs y.2.1 _ RB.out).mono ?_
                rintro e w7 ⟨rfl, hc1⟩
                rw [HIY.out]
                have hd1 := below_call hb5 hc1 (Nat.le_refl _)
                have own7 := own_below (hown.alloc (.cells #[.int .i64 y.1, .string y.2.1, .int .i64 y.2.2] 50)) hc1
                have BX7 := (BX.alloc (.cells #[.int .i64 y.1, .string y.2.1, .int .i64 y.2.2] 50)).below hc1
                have m1' := below_cell hd1 m1
                have m2' := below_cell hd1 m2
                clear hb5 hc1 hown BX hbr RB
                go_wp2_with fail
                refine (thousandths_calls p.2.1 p.2.2 _ hroy).mono ?_
                rintro e w8 ⟨rfl, hc2⟩
                rw [← HTY.out, HTY2.out]
                have hd2 := below_call hd1 hc2 (Nat.le_refl _)
                have own8 := own_below own7 hc2
                have BX8 := BX7.below hc2
                clear hd1 hc2 own7 BX7 m1' m2'
                go_wp2_with fail
                refine (expectedR_calls T TY _ (by omega) (by omega) (by omega) (by omega)).mono ?_
                rintro e w9 ⟨rfl, nq, rfl⟩
                rw [HX2.out]
                go_wp2
                go_roundw
                case rel => exact ⟨j + 1, gn - XE, by omega, rfl, by go_num, HS, by omega, by omega, own_drewN own8 _, below_drewN hd2 _, BX8.drewN _⟩
                case measure => simp [intOf]; omega
          · have he' : (y.2.1.toList == x.2.1.toList) = true := heq
            rw [heq, if_pos rfl] at hgstep
            have HS := Lib.hid hgstep.symm
            clear heq hgstep
            go_wp2
            go_roundw
            case rel => exact ⟨j + 1, gn, by omega, rfl, by go_num, HS, by omega, by omega, hown.alloc _, hb5, BX.alloc _⟩
            case measure => simp [intOf]; omega
        · obtain rfl : j = m := by omega
          have hm3 : 2 ≤ j := by omega
          obtain ⟨g3, cap3, hv3, hg3, _⟩ := hown.form (by omega)
          injection hv3 with hA3 _ hc3
          subst hA3 hc3
          have hLl : L.length = n := by rw [HLk.out, rateTo_len, HL.out]
          have hixL : ix < L.length := by omega
          have hnext : rateTo rs r wt (k + 1) = L.set ix (L[ix].1, RatP.lowN (newT rs r wt x) 1000, RatP.lowD (newT rs r wt x) 1000) := by
            rw [HK.out, ← HLk.out]
            unfold rateS newR
            rw [HIX.out, Int.toNat_natCast, List.getD_eq_getElem?_getD, List.getElem?_eq_getElem hixL]
            rfl
          have hp1 := mul_bd (x := T) (y := (j : Int) - 1) (X := 10000000) (Y := 127) (by omega) (by omega) (by omega) (by omega) (by omega)
          have hp2 := mul_bd (x := gn) (y := wt) (X := 102400000) (Y := 1000) (by omega) (by omega) (by omega) (by omega) (by omega)
          rw [Int.mul_comm gn wt] at hp2
          obtain ⟨NT, hNT⟩ : ∃ NT, newT rs r wt x = NT := ⟨_, rfl⟩
          have hNT2 : RatP.clampR (RatP.near (T * ((j : Int) - 1) * 800 + wt * gn) (((j : Int) - 1) * 800)) = NT := by
            rw [← hNT]; unfold newT; rw [HL2.out, HT.out, ← HG.out]
          have HNT := Lib.hid hNT
          obtain ⟨NV, hNV⟩ : ∃ NV, RatP.near (T * ((j : Int) - 1) * 800 + wt * gn) (((j : Int) - 1) * 800) = NV := ⟨_, rfl⟩
          rw [hNV] at hNT2
          have HNV := Lib.hid hNV
          have HNT2 := Lib.hid hNT2
          have hntb : -10000000 ≤ NT ∧ NT ≤ 10000000 := by rw [← hNT2]; unfold RatP.clampR; omega
          rw [hNT] at hnext
          have HNX := Lib.hid hnext
          clear hNT hNT2 hNV hnext
          go_wp2_with fail
          refine (nearest_calls (T * ((j : Int) - 1) * 800 + wt * gn) (((j : Int) - 1) * 800) _ (by omega) (by omega) (by omega) (by omega)).mono ?_
          rintro e w7 ⟨rfl, rfl⟩
          rw [HNV.out]
          go_wp2_with fail
          · have hX : NV = NT := by have := HNT2.out; unfold RatP.clampR at this; omega
            have hN := congrArg (fun z => RatP.lowN z 1000) hX
            have hD := congrArg (fun z => RatP.lowD z 1000) hX
            clear hX
            refine (fraction_calls (NV) 1000 _ (by omega) (by omega) (by omega) (by omega)).mono ?_
            rintro e w8 ⟨rfl, hb8⟩
            rw [hN, hD]
            clear hN hD
            have own8 := own_below hown hb8
            have hb9 := below_call hbr hb8 (Nat.le_refl _)
            obtain ⟨N, hN⟩ : ∃ N, RatP.lowN NT 1000 = N := ⟨_, rfl⟩
            obtain ⟨D, hD⟩ : ∃ D, RatP.lowD NT 1000 = D := ⟨_, rfl⟩
            rw [hN, hD]
            have hnx : rateTo rs r wt (k + 1) = L.set ix (L[ix].1, N, D) := by rw [← hN, ← hD]; exact HNX.out
            clear hN hD hown hbr hb8 BX
            have v1 := own_cell ratedC 3 ratedC_len own8 ix 1 hixL hixn (by omega)
            have v2 := own_cell ratedC 3 ratedC_len own8 ix 2 hixL hixn (by omega)
            have f1 := own8.frozenAt (ix * 3 + 1)
            have f2 := own8.frozenAt (ix * 3 + 2)
            simp only [ratedC, List.getElem?_cons_zero, List.getElem?_cons_succ] at v1 v2
            have st1 := own_store ratedC 3 ratedC_len (by rw [hLl]; exact own8) ix 1 hixL (by omega) (.int .i64 N) (L[ix].1, N, L[ix].2.2) rfl
            have hix2 : ix < (L.set ix (L[ix].1, N, L[ix].2.2)).length := by rw [List.length_set]; exact hixL
            have st2 := own_store ratedC 3 ratedC_len st1 ix 2 hix2 (by omega) (.int .i64 D) (L[ix].1, N, D) (by simp [ratedC])
            rw [List.set_set] at st2
            have hl2 : (L.set ix (L[ix].1, N, D)).length = n := (List.length_set ..).trans hLl
            rw [hl2, ← hnx] at st2
            have hx3 := (hb9.setCell (p := ⟨g3, ix * 3 + 1, none⟩) hg3 (.int .i64 N)).setCell (p := ⟨g3, ix * 3 + 2, none⟩) hg3 (.int .i64 D)
            clear st1 hix2 hl2 hnx own8 hb9 HNX
            clear hLl
            go_wp2
            go_roundw
            case rel => exact ⟨k + 1, _, by omega, by go_num, rfl, st2, hx3⟩
            case measure => simp [intOf]; omega
          · have hX : -10000000 = NT := by have := HNT2.out; unfold RatP.clampR at this; omega
            have hN := congrArg (fun z => RatP.lowN z 1000) hX
            have hD := congrArg (fun z => RatP.lowD z 1000) hX
            clear hX
            refine (fraction_calls (-10000000) 1000 _ (by omega) (by omega) (by omega) (by omega)).mono ?_
            rintro e w8 ⟨rfl, hb8⟩
            rw [hN, hD]
            clear hN hD
            have own8 := own_below hown hb8
            have hb9 := below_call hbr hb8 (Nat.le_refl _)
            obtain ⟨N, hN⟩ : ∃ N, RatP.lowN NT 1000 = N := ⟨_, rfl⟩
            obtain ⟨D, hD⟩ : ∃ D, RatP.lowD NT 1000 = D := ⟨_, rfl⟩
            rw [hN, hD]
            have hnx : rateTo rs r wt (k + 1) = L.set ix (L[ix].1, N, D) := by rw [← hN, ← hD]; exact HNX.out
            clear hN hD hown hbr hb8 BX
            have v1 := own_cell ratedC 3 ratedC_len own8 ix 1 hixL hixn (by omega)
            have v2 := own_cell ratedC 3 ratedC_len own8 ix 2 hixL hixn (by omega)
            have f1 := own8.frozenAt (ix * 3 + 1)
            have f2 := own8.frozenAt (ix * 3 + 2)
            simp only [ratedC, List.getElem?_cons_zero, List.getElem?_cons_succ] at v1 v2
            have st1 := own_store ratedC 3 ratedC_len (by rw [hLl]; exact own8) ix 1 hixL (by omega) (.int .i64 N) (L[ix].1, N, L[ix].2.2) rfl
            have hix2 : ix < (L.set ix (L[ix].1, N, L[ix].2.2)).length := by rw [List.length_set]; exact hixL
            have st2 := own_store ratedC 3 ratedC_len st1 ix 2 hix2 (by omega) (.int .i64 D) (L[ix].1, N, D) (by simp [ratedC])
            rw [List.set_set] at st2
            have hl2 : (L.set ix (L[ix].1, N, D)).length = n := (List.length_set ..).trans hLl
            rw [hl2, ← hnx] at st2
            have hx3 := (hb9.setCell (p := ⟨g3, ix * 3 + 1, none⟩) hg3 (.int .i64 N)).setCell (p := ⟨g3, ix * 3 + 2, none⟩) hg3 (.int .i64 D)
            clear st1 hix2 hl2 hnx own8 hb9 HNX
            clear hLl
            go_wp2
            go_roundw
            case rel => exact ⟨k + 1, _, by omega, by go_num, rfl, st2, hx3⟩
            case measure => simp [intOf]; omega
          · have hX : 10000000 = NT := by have := HNT2.out; unfold RatP.clampR at this; omega
            have hN := congrArg (fun z => RatP.lowN z 1000) hX
            have hD := congrArg (fun z => RatP.lowD z 1000) hX
            clear hX
            refine (fraction_calls (10000000) 1000 _ (by omega) (by omega) (by omega) (by omega)).mono ?_
            rintro e w8 ⟨rfl, hb8⟩
            rw [hN, hD]
            clear hN hD
            have own8 := own_below hown hb8
            have hb9 := below_call hbr hb8 (Nat.le_refl _)
            obtain ⟨N, hN⟩ : ∃ N, RatP.lowN NT 1000 = N := ⟨_, rfl⟩
            obtain ⟨D, hD⟩ : ∃ D, RatP.lowD NT 1000 = D := ⟨_, rfl⟩
            rw [hN, hD]
            have hnx : rateTo rs r wt (k + 1) = L.set ix (L[ix].1, N, D) := by rw [← hN, ← hD]; exact HNX.out
            clear hN hD hown hbr hb8 BX
            have v1 := own_cell ratedC 3 ratedC_len own8 ix 1 hixL hixn (by omega)
            have v2 := own_cell ratedC 3 ratedC_len own8 ix 2 hixL hixn (by omega)
            have f1 := own8.frozenAt (ix * 3 + 1)
            have f2 := own8.frozenAt (ix * 3 + 2)
            simp only [ratedC, List.getElem?_cons_zero, List.getElem?_cons_succ] at v1 v2
            have st1 := own_store ratedC 3 ratedC_len (by rw [hLl]; exact own8) ix 1 hixL (by omega) (.int .i64 N) (L[ix].1, N, L[ix].2.2) rfl
            have hix2 : ix < (L.set ix (L[ix].1, N, L[ix].2.2)).length := by rw [List.length_set]; exact hixL
            have st2 := own_store ratedC 3 ratedC_len st1 ix 2 hix2 (by omega) (.int .i64 D) (L[ix].1, N, D) (by simp [ratedC])
            rw [List.set_set] at st2
            have hl2 : (L.set ix (L[ix].1, N, D)).length = n := (List.length_set ..).trans hLl
            rw [hl2, ← hnx] at st2
            have hx3 := (hb9.setCell (p := ⟨g3, ix * 3 + 1, none⟩) hg3 (.int .i64 N)).setCell (p := ⟨g3, ix * 3 + 2, none⟩) hg3 (.int .i64 D)
            clear st1 hix2 hl2 hnx own8 hb9 HNX
            clear hLl
            go_wp2
            go_roundw
            case rel => exact ⟨k + 1, _, by omega, by go_num, rfl, st2, hx3⟩
            case measure => simp [intOf]; omega
    · obtain rfl : k = m := by omega
      go_wp2_with fail
      go_ret2
      exact ⟨_, rfl, by rw [HL2.out, ← HLk.out]; exact hown, hbr⟩
end Go.Proofs.YtedfieopmjpibaaGreatDoor
