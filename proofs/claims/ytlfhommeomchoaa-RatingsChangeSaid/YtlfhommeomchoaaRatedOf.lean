/-
  splitref2.RatedOf of right arguments by a contract: the new ratings are rateTo's.
-/
import Derived.Test.YtlfhommeomchoaaTail
import Derived.Deep.RegionHeld3
namespace Go.Proofs.Ytlfhommeomchoaa
open Go Go.RowKit
attribute [local go_sem ↓] Go.wp_at_zero Go.wp_at_succ

set_option maxRecDepth 100000 in
set_option maxHeartbeats 4000000 in
theorem ratedOf_calls (b : Nat) (A : Option Addr) (n c : Nat) (rs : List Rtd) (A2 : Option Addr) (m c2 : Nat) (r : List Res) (wt : Int) (w : World) (hr : Rd w b 3 (.slice A n c) n (rs.flatMap ratedC)) (hr2 : Rd w b 3 (.slice A2 m c2) m (r.flatMap resC)) (hss : Rss r) (hf : ratesF rs r wt = 0) :
    Calls Try.prog 17 #[.slice A n c, .slice A2 m c2, .int .i64 wt] w fun e w' => ∃ v, e = .returned v ∧ w'.ownsRow w.heap.size 47 3 v n ((rateTo rs r wt r.length).flatMap ratedC) ∧ Below w.heap.size w w' := by
  obtain ⟨hf1, hf2⟩ := rates_ok hf
  have hok := ratedF_ok hf1
  have R := resF_ok hf2
  have hn128 : rs.length ≤ 128 := by
    apply Classical.byContradiction
    intro hc
    have : ratedF rs = 2 := by unfold ratedF; rw [if_pos (by omega)]
    omega
  obtain ⟨hl, hnc, hcm, hcells⟩ := hr.cells ratedC_len (by omega)
  obtain ⟨hl2, hnc2, hcm2, hcells2⟩ := hr2.cells resC_len (by omega)
  unfold maxLen at hcm hcm2
  have hm1 := R.many
  have hm2 := R.small
  rw [hl2] at hm1 hm2
  rw [hl] at hn128
  have hw1 := R.w1
  have hw2 := R.w2
  have HL := Lib.hid hl
  have HL2 := Lib.hid hl2
  have HC := Lib.hid hcells
  have HC2 := Lib.hid hcells2
  clear hf1 hf2 hf hl hl2 hcells hcells2
  go_enter Try.func17, Try.ntmps17
  go_wp2_with fail
  refine (cloneRated_calls b A n c (rs.flatMap ratedC) _ hr (ratedC_one rs) (by omega)).mono ?_
  rintro e w4 ⟨v, rfl, hown, hbr0⟩
  obtain ⟨A3, c3, hv⟩ := own_form hown
  subst hv
  have h00 : Hid (rs = rateTo rs r wt 0) := rfl
  have hS0 : St w w4 (.slice A3 n c3) n rs [] := ⟨hbr0, hown, fun p hp => by cases hp⟩
  clear hown hbr0
  go_wp2_with fail
  go_loopw [25] (fun i wr => ∃ (k : Nat) (L : List Rtd), k ≤ m ∧ i = .int .i64 k ∧ Hid (L = rateTo rs r wt k) ∧ St w wr (.slice A3 n c3) n L []) (fun i _ => m - (intOf i).toNat)
  case atStart => exact ⟨0, rs, Nat.zero_le _, rfl, h00, hS0⟩
  case round =>
    clear h00 hS0
    obtain ⟨k, L, hk, rfl, HLk, hS⟩ := hrel
    obtain ⟨wo, rfl⟩ : ∃ wo : World, wo = wr := ⟨_, rfl⟩
    by_cases hlt : k < m
    · have hkr : k < r.length := by rw [HL2.out]; exact hlt
      obtain ⟨g2, o2, hA2, _, hcs2⟩ := HC2.out (by omega)
      have hxa := R.all _ (List.getElem_mem hkr)
      obtain ⟨ix, hix, hixl, hat⟩ := atR_eq hxa.2.1 hxa.1
      have hixn : ix < n := by rw [← HL.out]; exact hixl
      obtain ⟨g1, o1, hA, _, hcs⟩ := HC.out (by omega)
      have hro := hok _ (List.getElem_mem hixl)
      have hkstep := rateTo_step rs r wt k hkr
      have hxs := hss _ (List.getElem_mem hkr)
      have c0 := below_cell hS.1 (hcs2 k hkr 0 (by omega))
      have c1 := below_cell hS.1 (hcs2 k hkr 1 (by omega))
      have c2' := below_cell hS.1 (hcs2 k hkr 2 (by omega))
      have l1 := hcs ix hixl 1 (by omega)
      have l2 := hcs ix hixl 2 (by omega)
      have hth : thouR rs r[k].2.1 = thou rs[ix].2.1 rs[ix].2.2 := by unfold thouR; rw [hat]
      obtain ⟨x, hx⟩ : ∃ x, r[k] = x := ⟨_, rfl⟩
      obtain ⟨q, hq⟩ : ∃ q, rs[ix] = q := ⟨_, rfl⟩
      rw [hx] at c0 c1 c2' hkstep hix hth hxs hxa
      rw [hq] at l1 l2 hro hth
      simp only [ratedC, Nat.add_zero, List.getElem?_cons_zero, List.getElem?_cons_succ] at c0 c1 c2' l1 l2
      have HX := Lib.hid hx
      have HQ := Lib.hid hq
      have HIX := Lib.hid hix
      have HK0 := Lib.hid hkstep
      have HTH := Lib.hid hth
      have HCS := Lib.hid hcs
      have HCS2 := Lib.hid hcs2
      have hx1 := hxa.2.2.1
      have hx2 := hxa.2.2.2
      clear hx hq hix hkstep hth hxa hat hcs hcs2
      subst hA hA2
      have hlz := hS.1.size
      have hS1 := hS.add #[.int .i64 x.1, .string x.2.1, .int .i64 x.2.2] 98
      have RB := Lib.hid (hr.below hS1.1)
      go_wp2_with fail
      refine (ratedAt_calls b _ n c rs x.2.1 _ RB.out).mono ?_
      rintro e w5 ⟨rfl, hb6⟩
      rw [HIX.out]
      have hS2 := hS1.below hb6
      have hz6 : wo.heap.size + 1 ≤ w5.heap.size := by have := hb6.size; simp at this; omega
      clear RB hb6 hS1 hS c0 c1 c2'
      have hi0 : (0 : Int) ≤ (ix : Int) := by omega
      have hi1 : (ix : Int) < (n : Int) := by omega
      have hS3 := hS2.add #[.int .i64 0, .int .i64 1] 27
      have hg0 : Hid (RatP.Is 0 1 (gainTo rs r x 0) 800000) := by
        show RatP.Is 0 1 0 800000
        unfold RatP.Is RatP.lowN RatP.lowD
        decide
      clear hS2
      go_wp2_with fail
      go_loopw [36] (fun i wr => ∃ (j : Nat) (gN gD : Int), j ≤ m ∧ i = .int .i64 j ∧ Hid (RatP.Is gN gD (gainTo rs r x j) 800000) ∧ St w wr (.slice A3 n c3) n L [(w5.heap.size, 27, #[.int .i64 gN, .int .i64 gD]), (wo.heap.size, 98, #[.int .i64 x.1, .string x.2.1, .int .i64 x.2.2])]) (fun i _ => m - (intOf i).toNat)
      case atStart => exact ⟨0, 0, 1, Nat.zero_le _, rfl, hg0, hS3⟩
      case round =>
        clear hg0 hS3
        obtain ⟨j, gN, gD, hj, rfl, HG, hS⟩ := hrel
        by_cases hjm : j < m
        · have hjr : j < r.length := by rw [HL2.out]; exact hjm
          have hya := R.all _ (List.getElem_mem hjr)
          obtain ⟨iy, hiy, hiyl, haty⟩ := atR_eq hya.2.1 hya.1
          have hiyn : iy < n := by rw [← HL.out]; exact hiyl
          have hroy := hok _ (List.getElem_mem hiyl)
          have hgstep := gainTo_step rs r x j hjr
          have hgb := gainTo_bd rs r x j (by omega)
          have d0 := below_cell hS.1 (HCS2.out j hjr 0 (by omega))
          have d1 := below_cell hS.1 (HCS2.out j hjr 1 (by omega))
          have d2 := below_cell hS.1 (HCS2.out j hjr 2 (by omega))
          have m1 := HCS.out iy hiyl 1 (by omega)
          have m2 := HCS.out iy hiyl 2 (by omega)
          have hty : thouR rs r[j].2.1 = thou rs[iy].2.1 rs[iy].2.2 := by unfold thouR; rw [haty]
          obtain ⟨y, hy⟩ : ∃ y, r[j] = y := ⟨_, rfl⟩
          obtain ⟨p, hp⟩ : ∃ p, rs[iy] = p := ⟨_, rfl⟩
          rw [hy] at d0 d1 d2 hgstep hiy hty hya
          rw [hp] at m1 m2 hroy hty
          simp only [ratedC, Nat.add_zero, List.getElem?_cons_zero, List.getElem?_cons_succ] at d0 d1 d2 m1 m2
          have hy1 := hya.2.2.1
          have hy2 := hya.2.2.2
          have HIY := Lib.hid hiy
          unfold gainS at hgstep
          rw [HTH.out, hty] at hgstep
          have hS1 := hS.add #[.int .i64 y.1, .string y.2.1, .int .i64 y.2.2] 98
          have hlzr := hS.1.size
          have hggl := hS.head.lt
          have hs5 : w.heap.size ≤ w5.heap.size := by omega
          obtain ⟨by0, by1, by2, by3, by4, by5⟩ := hS1.head.three
          obtain ⟨bx0, bx1, bx2, bx3, bx4, bx5⟩ := hS1.at2.three
          clear hy hp hiy hty haty hya
          cases heq : eqS y.2.1 x.2.1
          · have he' : (y.2.1.toList == x.2.1.toList) = false := heq
            rw [heq, if_neg (by simp)] at hgstep
            have HGS := Lib.hid hgstep
            have hsb := sgn_bd (y.1 - x.1)
            have hwi := won_is x y
            have hli := low_I64 (n := 1 + RatP.sgn (y.1 - x.1)) (d := 2) (by omega) (by omega) (by omega)
            obtain ⟨wN, hwN⟩ : ∃ z, RatP.lowN (1 + RatP.sgn (y.1 - x.1)) 2 = z := ⟨_, rfl⟩
            obtain ⟨wD, hwD⟩ : ∃ z, RatP.lowD (1 + RatP.sgn (y.1 - x.1)) 2 = z := ⟨_, rfl⟩
            rw [hwN, hwD] at hwi
            have HWI := Lib.hid hwi
            have HWN := Lib.hid hwN
            have HWD := Lib.hid hwD
            clear heq hgstep hwi hwN hwD hli hS
            go_wp2_with fail
            refine (sign_calls (y.1 - x.1) _).mono ?_
            rintro e w6 ⟨rfl, rfl⟩
            go_wp2_with fail
            refine (lowest_calls (1 + RatP.sgn (y.1 - x.1)) 2 _ (by omega) (by omega) (by omega) (by omega)).mono ?_
            rintro e w7 ⟨rfl, hb7⟩
            rw [HWN.out, HWD.out]
            have hS2 := (hS1.below hb7).add #[.int .i64 wN, .int .i64 wD] 27
            have hz7 : wr.heap.size + 1 ≤ w7.heap.size := by have := hb7.size; simp at this; omega
            clear hS1 hb7 by0 by1 by2 by3 by4 by5 bx0 bx1 bx2 bx3 bx4 bx5
            have hj0 : (0 : Int) ≤ (iy : Int) := by omega
            have hj1 : (iy : Int) < (n : Int) := by omega
            have hei := exp_is hro hroy
            obtain ⟨eN, heN⟩ : ∃ z, RatP.lowN (expN q.2.1 q.2.2 p.2.1 p.2.2) (expD q.2.2 p.2.2) = z := ⟨_, rfl⟩
            obtain ⟨eD, heD⟩ : ∃ z, RatP.lowD (expN q.2.1 q.2.2 p.2.1 p.2.2) (expD q.2.2 p.2.2) = z := ⟨_, rfl⟩
            rw [heN, heD] at hei
            have HEI := Lib.hid hei
            have HCL : Hid (∀ w1, St w w1 (.slice A3 n c3) n L [(w7.heap.size, 27, #[.int .i64 wN, .int .i64 wD]), (wr.heap.size, 98, #[.int .i64 y.1, .string y.2.1, .int .i64 y.2.2]), (w5.heap.size, 27, #[.int .i64 gN, .int .i64 gD]), (wo.heap.size, 98, #[.int .i64 x.1, .string x.2.1, .int .i64 x.2.2])] → w1.cell? ⟨wr.heap.size, 1, none⟩ = some (.string y.2.1) ∧ w1.cell? ⟨g1, o1 + ix * 3 + 1, none⟩ = some (.int .i64 q.2.1) ∧ w1.cell? ⟨g1, o1 + ix * 3 + 2, none⟩ = some (.int .i64 q.2.2) ∧ w1.cell? ⟨g1, o1 + iy * 3 + 1, none⟩ = some (.int .i64 p.2.1) ∧ w1.cell? ⟨g1, o1 + iy * 3 + 2, none⟩ = some (.int .i64 p.2.2) ∧ g1 < w1.heap.size ∧ wr.heap.size < w1.heap.size) := by
              intro w1 h
              exact ⟨h.at1.three.2.1, below_cell h.1 l1, below_cell h.1 l2, below_cell h.1 m1, below_cell h.1 m2, World.block_lt_of_cell? w1 _ (below_cell h.1 m1), h.at1.lt⟩
            have HA : Hid (∀ W, St w W (.slice A3 n c3) n L [(w7.heap.size, 27, #[.int .i64 wN, .int .i64 wD]), (wr.heap.size, 98, #[.int .i64 y.1, .string y.2.1, .int .i64 y.2.2]), (w5.heap.size, 27, #[.int .i64 gN, .int .i64 gD]), (wo.heap.size, 98, #[.int .i64 x.1, .string x.2.1, .int .i64 x.2.2])] → Calls Try.prog 70 #[.slice (some ⟨g1, o1, none⟩) n c, .string y.2.1] W (fun e w1 => e = .returned (.int .i64 iy) ∧ St w w1 (.slice A3 n c3) n L [(w7.heap.size, 27, #[.int .i64 wN, .int .i64 wD]), (wr.heap.size, 98, #[.int .i64 y.1, .string y.2.1, .int .i64 y.2.2]), (w5.heap.size, 27, #[.int .i64 gN, .int .i64 gD]), (wo.heap.size, 98, #[.int .i64 x.1, .string x.2.1, .int .i64 x.2.2])])) := by
              intro W h
              refine (ratedAt_calls b _ n c rs y.2.1 W (hr.below h.1)).mono ?_
              rintro e w1 ⟨rfl, hb⟩
              exact ⟨by rw [HIY.out], h.below hb⟩
            have HA2 : Hid (∀ W gz, St w W (.slice A3 n c3) n L [(w7.heap.size, 27, #[.int .i64 wN, .int .i64 wD]), (wr.heap.size, 98, #[.int .i64 y.1, .string y.2.1, .int .i64 y.2.2]), (w5.heap.size, 27, #[.int .i64 gN, .int .i64 gD]), (wo.heap.size, 98, #[.int .i64 x.1, .string x.2.1, .int .i64 x.2.2])] ∧ Blk W gz 27 #[.int .i64 0, .int .i64 0] → Calls Try.prog 70 #[.slice (some ⟨g1, o1, none⟩) n c, .string y.2.1] W (fun e w1 => e = .returned (.int .i64 iy) ∧ St w w1 (.slice A3 n c3) n L [(w7.heap.size, 27, #[.int .i64 wN, .int .i64 wD]), (wr.heap.size, 98, #[.int .i64 y.1, .string y.2.1, .int .i64 y.2.2]), (w5.heap.size, 27, #[.int .i64 gN, .int .i64 gD]), (wo.heap.size, 98, #[.int .i64 x.1, .string x.2.1, .int .i64 x.2.2])] ∧ Blk w1 gz 27 #[.int .i64 0, .int .i64 0])) := by
              rintro W gz ⟨h, hz⟩
              refine (ratedAt_calls b _ n c rs y.2.1 W (hr.below h.1)).mono ?_
              rintro e w1 ⟨rfl, hb⟩
              exact ⟨by rw [HIY.out], h.below hb, hz.below hb⟩
            have HB : Hid (∀ W, St w W (.slice A3 n c3) n L [(w7.heap.size, 27, #[.int .i64 wN, .int .i64 wD]), (wr.heap.size, 98, #[.int .i64 y.1, .string y.2.1, .int .i64 y.2.2]), (w5.heap.size, 27, #[.int .i64 gN, .int .i64 gD]), (wo.heap.size, 98, #[.int .i64 x.1, .string x.2.1, .int .i64 x.2.2])] → Calls Try.prog 16 #[.agg #[.int .i64 q.2.1, .int .i64 q.2.2], .agg #[.int .i64 p.2.1, .int .i64 p.2.2]] W (fun e w1 => e = .returned (.agg #[.int .i64 eN, .int .i64 eD]) ∧ St w w1 (.slice A3 n c3) n L [(w7.heap.size, 27, #[.int .i64 wN, .int .i64 wD]), (wr.heap.size, 98, #[.int .i64 y.1, .string y.2.1, .int .i64 y.2.2]), (w5.heap.size, 27, #[.int .i64 gN, .int .i64 gD]), (wo.heap.size, 98, #[.int .i64 x.1, .string x.2.1, .int .i64 x.2.2])])) := by
              intro W h
              refine (expectedOf_calls q.2.1 q.2.2 p.2.1 p.2.2 W hro hroy).mono ?_
              rintro e w1 ⟨rfl, hb⟩
              exact ⟨by rw [heN, heD], h.below hb⟩
            have HB2 : Hid (∀ W gz, St w W (.slice A3 n c3) n L [(w7.heap.size, 27, #[.int .i64 wN, .int .i64 wD]), (wr.heap.size, 98, #[.int .i64 y.1, .string y.2.1, .int .i64 y.2.2]), (w5.heap.size, 27, #[.int .i64 gN, .int .i64 gD]), (wo.heap.size, 98, #[.int .i64 x.1, .string x.2.1, .int .i64 x.2.2])] ∧ Blk W gz 27 #[.int .i64 0, .int .i64 0] → Calls Try.prog 16 #[.agg #[.int .i64 q.2.1, .int .i64 q.2.2], .agg #[.int .i64 p.2.1, .int .i64 p.2.2]] W (fun e w1 => e = .returned (.agg #[.int .i64 eN, .int .i64 eD]) ∧ St w w1 (.slice A3 n c3) n L [(w7.heap.size, 27, #[.int .i64 wN, .int .i64 wD]), (wr.heap.size, 98, #[.int .i64 y.1, .string y.2.1, .int .i64 y.2.2]), (w5.heap.size, 27, #[.int .i64 gN, .int .i64 gD]), (wo.heap.size, 98, #[.int .i64 x.1, .string x.2.1, .int .i64 x.2.2])] ∧ Blk w1 gz 27 #[.int .i64 0, .int .i64 0])) := by
              rintro W gz ⟨h, hz⟩
              refine (expectedOf_calls q.2.1 q.2.2 p.2.1 p.2.2 W hro hroy).mono ?_
              rintro e w1 ⟨rfl, hb⟩
              exact ⟨by rw [heN, heD], h.below hb, hz.below hb⟩
            obtain ⟨W0, hW0⟩ : ∃ W0, w7.alloc (.cells #[.int .i64 wN, .int .i64 wD] 27) = W0 := ⟨_, rfl⟩
            have hsz0 : W0.heap.size = w7.heap.size + 1 := by rw [← hW0]; simp
            have hge0 : w7.heap.size + 1 ≤ W0.heap.size := by omega
            rw [hW0] at hS2
            have HST : Hid (∀ W gz, St w (W) (.slice A3 n c3) n L [(w7.heap.size, 27, #[.int .i64 wN, .int .i64 wD]), (wr.heap.size, 98, #[.int .i64 y.1, .string y.2.1, .int .i64 y.2.2]), (w5.heap.size, 27, #[.int .i64 gN, .int .i64 gD]), (wo.heap.size, 98, #[.int .i64 x.1, .string x.2.1, .int .i64 x.2.2])] → Blk W gz 27 #[.int .i64 0, .int .i64 0] → w7.heap.size + 1 ≤ gz → St w ((W.setCell ⟨gz, 0, none⟩ (.int .i64 eN)).setCell ⟨gz, 1, none⟩ (.int .i64 eD)) (.slice A3 n c3) n L [(w7.heap.size, 27, #[.int .i64 wN, .int .i64 wD]), (wr.heap.size, 98, #[.int .i64 y.1, .string y.2.1, .int .i64 y.2.2]), (w5.heap.size, 27, #[.int .i64 gN, .int .i64 gD]), (wo.heap.size, 98, #[.int .i64 x.1, .string x.2.1, .int .i64 x.2.2])] ∧ Blk ((W.setCell ⟨gz, 0, none⟩ (.int .i64 eN)).setCell ⟨gz, 1, none⟩ (.int .i64 eD)) gz 27 #[.int .i64 eN, .int .i64 eD]) := by
              intro W gz h hz hge
              have hne : ∀ p ∈ ([(w7.heap.size, 27, #[.int .i64 wN, .int .i64 wD]), (wr.heap.size, 98, #[.int .i64 y.1, .string y.2.1, .int .i64 y.2.2]), (w5.heap.size, 27, #[.int .i64 gN, .int .i64 gD]), (wo.heap.size, 98, #[.int .i64 x.1, .string x.2.1, .int .i64 x.2.2])] : List (Nat × TypeId × Array Value)), p.1 ≠ gz := by
                intro p hp
                simp only [List.mem_cons, List.not_mem_nil, or_false] at hp
                rcases hp with rfl | rfl | rfl | rfl <;> simp only [ne_eq] <;> omega
              have h1 := h.store hz (by decide) (by omega) hne 0 (.int .i64 eN)
              have hz1 := hz.set_ 0 (.int .i64 eN)
              have h2 := h1.store hz1 (by decide) (by omega) hne 1 (.int .i64 eD)
              have hz2 := hz1.set_ 1 (.int .i64 eD)
              exact ⟨h2, by simpa using hz2⟩
            clear heN heD hei hsz0
            go_upto_region 12 with (fail)
            clear hW0
            go_cut [15] (fun s15 W => ∃ g15 : Nat, s15 = .pointer (some ⟨g15, 0, none⟩) ∧ w7.heap.size + 1 ≤ g15 ∧ St w W (.slice A3 n c3) n L [(w7.heap.size, 27, #[.int .i64 wN, .int .i64 wD]), (wr.heap.size, 98, #[.int .i64 y.1, .string y.2.1, .int .i64 y.2.2]), (w5.heap.size, 27, #[.int .i64 gN, .int .i64 gD]), (wo.heap.size, 98, #[.int .i64 x.1, .string x.2.1, .int .i64 x.2.2])] ∧ Blk W g15 27 #[.int .i64 eN, .int .i64 eD])
            case first =>
              have HK : Hid (∀ W, St w W (.slice A3 n c3) n L [(w7.heap.size, 27, #[.int .i64 wN, .int .i64 wD]), (wr.heap.size, 98, #[.int .i64 y.1, .string y.2.1, .int .i64 y.2.2]), (w5.heap.size, 27, #[.int .i64 gN, .int .i64 gD]), (wo.heap.size, 98, #[.int .i64 x.1, .string x.2.1, .int .i64 x.2.2])] → W.cell? ⟨wr.heap.size, 1, none⟩ = some (.string y.2.1) ∧ W.cell? ⟨g1, o1 + ix * 3 + 1, none⟩ = some (.int .i64 q.2.1) ∧ W.cell? ⟨g1, o1 + ix * 3 + 2, none⟩ = some (.int .i64 q.2.2) ∧ W.cell? ⟨g1, o1 + iy * 3 + 1, none⟩ = some (.int .i64 p.2.1) ∧ W.cell? ⟨g1, o1 + iy * 3 + 2, none⟩ = some (.int .i64 p.2.2)) := by
                intro W h
                obtain ⟨a0, a1, a2, a3, a4, a5, a6⟩ := HCL.out _ h
                exact ⟨a0, a1, a2, a3, a4⟩
              go_region_held3 (fun W => W.cell? ⟨wr.heap.size, 1, none⟩ = some (.string y.2.1) ∧ W.cell? ⟨g1, o1 + ix * 3 + 1, none⟩ = some (.int .i64 q.2.1) ∧ W.cell? ⟨g1, o1 + ix * 3 + 2, none⟩ = some (.int .i64 q.2.2) ∧ W.cell? ⟨g1, o1 + iy * 3 + 1, none⟩ = some (.int .i64 p.2.1) ∧ W.cell? ⟨g1, o1 + iy * 3 + 2, none⟩ = some (.int .i64 p.2.2))
                (first | exact HK.out _ hS2.drew | exact HK.out _ (hS2.alloc _).drew | exact HK.out _ (hS2.drew.alloc _) | exact HK.out _ (HST.out _ _ hS4 hzz hge0).1 | exact HK.out _ (HST.out _ _ hS4 hzz hS3.head.lt).1 | exact HK.out _ (hS4.alloc _) | exact HK.out _ hS4 | exact HK.out _ (hS3.alloc _) | exact HK.out _ hS3)
                (first
                  | (go_at_call 70; ((with_reducible refine (HA.out _ hS2.drew).mono ?_); rintro e w8 ⟨rfl, hS3⟩))
                  | (go_at_call 70; ((with_reducible refine (HA2.out _ W0.heap.size ⟨(hS2.alloc _).drew, Blk.drew (Blk.new W0 _ _)⟩).mono ?_); rintro e w8 ⟨rfl, hS3, hz⟩))
                  | (go_at_call 16; ((with_reducible refine (HB2.out w8 W0.heap.size ⟨hS3, hz⟩).mono ?_); rintro e w9 ⟨rfl, hS4, hzz⟩; obtain ⟨z0, z1, z2, z3⟩ := hzz.two))
                  | (go_at_call 16; ((with_reducible refine (HB.out w8 hS3).mono ?_); rintro e w9 ⟨rfl, hS4⟩))
                  | (go_at_call 16; ((with_reducible refine (HB2.out _ w8.heap.size ⟨hS3.alloc _, Blk.new w8 _ _⟩).mono ?_); rintro e w9 ⟨rfl, hS4, hzz⟩; obtain ⟨z0, z1, z2, z3⟩ := hzz.two)))
              all_goals (go_wp2_with fail; go_meet)
              all_goals first
                | exact ⟨w9.heap.size, rfl, hS4.head.lt, hS4.alloc _, Blk.new w9 _ _⟩
                | exact ⟨W0.heap.size, rfl, hge0, HST.out w9 _ hS4 hzz hge0⟩
                | exact ⟨w8.heap.size, rfl, hS3.head.lt, HST.out w9 _ hS4 hzz hS3.head.lt⟩
            case rest =>
              obtain ⟨g15, rfl, hg15, hS3, hB15⟩ := hcut
              have hS5 := hS3.push hB15
              have wp := HWI.out.pos (by omega)
              have wl := HWI.out.le (by omega)
              have wa := HWI.out.abs (by omega)
              have wb := wonR_bd x y
              have ep := HEI.out.pos (by omega)
              have el := HEI.out.le (by omega)
              have ea := HEI.out.abs (by omega)
              have eb := RatP.expd_bd (thou q.2.1 q.2.2) (thou p.2.1 p.2.2)
              have gp := HG.out.pos (by omega)
              have gl := HG.out.le (by omega)
              have ga := HG.out.abs (by omega)
              have hP1 := HWI.out.plus HEI.out.neg (by omega)
              have b1 := mul_bd (x := wN) (y := eD) (X := 800000) (Y := 800000) (by omega) (by omega) (by omega) el (by omega)
              have b2 := mul_bd (x := -eN) (y := wD) (X := 800000) (Y := 800000) (by omega) (by omega) (by omega) wl (by omega)
              have b3 := mul_bd (x := wD) (y := eD) (X := 800000) (Y := 800000) (by omega) wl (by omega) el (by omega)
              have b4 : 0 < wD * eD := Int.mul_pos wp ep
              have HC1 : Hid (∀ W, Calls Try.prog 76 #[.agg #[.int .i64 wN, .int .i64 wD], .agg #[.int .i64 (-eN), .int .i64 eD]] W (FracB (RatP.lowN (wN * eD + -eN * wD) (wD * eD)) (RatP.lowD (wN * eD + -eN * wD) (wD * eD)) W)) :=
                fun W => plus_calls wN wD (-eN) eD W (by omega) (by omega) (by omega) (by omega) (by omega) (by omega)
              obtain ⟨pN, hpN⟩ : ∃ z, RatP.lowN (wN * eD + -eN * wD) (wD * eD) = z := ⟨_, rfl⟩
              obtain ⟨pD, hpD⟩ : ∃ z, RatP.lowD (wN * eD + -eN * wD) (wD * eD) = z := ⟨_, rfl⟩
              rw [hpN, hpD] at hP1
              have pp := hP1.pos (by omega)
              have pl := hP1.le (by omega)
              have pa := hP1.abs (by omega)
              have hP2 := HG.out.plus hP1 (by omega)
              have b5 := mul_bd (x := gN) (y := pD) (X := 102400000) (Y := 800000) (by omega) (by omega) (by omega) pl (by omega)
              have b6 := mul_bd (x := pN) (y := gD) (X := 800000) (Y := 800000) (by omega) (by omega) (by omega) gl (by omega)
              have b7 := mul_bd (x := gD) (y := pD) (X := 800000) (Y := 800000) (by omega) gl (by omega) pl (by omega)
              have b8 : 0 < gD * pD := Int.mul_pos gp pp
              have HC2 : Hid (∀ W, Calls Try.prog 76 #[.agg #[.int .i64 gN, .int .i64 gD], .agg #[.int .i64 pN, .int .i64 pD]] W (FracB (RatP.lowN (gN * pD + pN * gD) (gD * pD)) (RatP.lowD (gN * pD + pN * gD) (gD * pD)) W)) :=
                fun W => plus_calls gN gD pN pD W (by omega) (by omega) (by omega) (by omega) (by omega) (by omega)
              obtain ⟨hN, hhN⟩ : ∃ z, RatP.lowN (gN * pD + pN * gD) (gD * pD) = z := ⟨_, rfl⟩
              obtain ⟨hD, hhD⟩ : ∃ z, RatP.lowD (gN * pD + pN * gD) (gD * pD) = z := ⟨_, rfl⟩
              rw [hhN, hhD] at hP2
              have HS : Hid (RatP.Is hN hD (gainTo rs r x (j + 1)) 800000) := by
                rw [HGS.out]
                have e : gainTo rs r x j + wonR x y - RatP.expd (thou q.2.1 q.2.2) (thou p.2.1 p.2.2) = gainTo rs r x j + (wonR x y + -RatP.expd (thou q.2.1 q.2.2) (thou p.2.1 p.2.2)) := by omega
                rw [e]
                exact hP2
              have HP1 : Hid (∀ W, St w W (.slice A3 n c3) n L [(g15, 27, #[.int .i64 eN, .int .i64 eD]), (w7.heap.size, 27, #[.int .i64 wN, .int .i64 wD]), (wr.heap.size, 98, #[.int .i64 y.1, .string y.2.1, .int .i64 y.2.2]), (w5.heap.size, 27, #[.int .i64 gN, .int .i64 gD]), (wo.heap.size, 98, #[.int .i64 x.1, .string x.2.1, .int .i64 x.2.2])] → Calls Try.prog 76 #[.agg #[.int .i64 wN, .int .i64 wD], .agg #[.int .i64 (-eN), .int .i64 eD]] W (fun e w1 => e = .returned (.agg #[.int .i64 pN, .int .i64 pD]) ∧ St w w1 (.slice A3 n c3) n L [(g15, 27, #[.int .i64 eN, .int .i64 eD]), (w7.heap.size, 27, #[.int .i64 wN, .int .i64 wD]), (wr.heap.size, 98, #[.int .i64 y.1, .string y.2.1, .int .i64 y.2.2]), (w5.heap.size, 27, #[.int .i64 gN, .int .i64 gD]), (wo.heap.size, 98, #[.int .i64 x.1, .string x.2.1, .int .i64 x.2.2])])) := by
                intro W h
                refine (HC1.out W).mono ?_
                rintro e w1 ⟨rfl, hb⟩
                exact ⟨by rw [hpN, hpD], h.below hb⟩
              have HP2 : Hid (∀ W, St w W (.slice A3 n c3) n L [(g15, 27, #[.int .i64 eN, .int .i64 eD]), (w7.heap.size, 27, #[.int .i64 wN, .int .i64 wD]), (wr.heap.size, 98, #[.int .i64 y.1, .string y.2.1, .int .i64 y.2.2]), (w5.heap.size, 27, #[.int .i64 gN, .int .i64 gD]), (wo.heap.size, 98, #[.int .i64 x.1, .string x.2.1, .int .i64 x.2.2])] → Calls Try.prog 76 #[.agg #[.int .i64 gN, .int .i64 gD], .agg #[.int .i64 pN, .int .i64 pD]] W (fun e w1 => e = .returned (.agg #[.int .i64 hN, .int .i64 hD]) ∧ St w w1 (.slice A3 n c3) n L [(g15, 27, #[.int .i64 eN, .int .i64 eD]), (w7.heap.size, 27, #[.int .i64 wN, .int .i64 wD]), (wr.heap.size, 98, #[.int .i64 y.1, .string y.2.1, .int .i64 y.2.2]), (w5.heap.size, 27, #[.int .i64 gN, .int .i64 gD]), (wo.heap.size, 98, #[.int .i64 x.1, .string x.2.1, .int .i64 x.2.2])])) := by
                intro W h
                refine (HC2.out W).mono ?_
                rintro e w1 ⟨rfl, hb⟩
                exact ⟨by rw [hhN, hhD], h.below hb⟩
              have HCE : Hid (∀ w1, St w w1 (.slice A3 n c3) n L [(g15, 27, #[.int .i64 eN, .int .i64 eD]), (w7.heap.size, 27, #[.int .i64 wN, .int .i64 wD]), (wr.heap.size, 98, #[.int .i64 y.1, .string y.2.1, .int .i64 y.2.2]), (w5.heap.size, 27, #[.int .i64 gN, .int .i64 gD]), (wo.heap.size, 98, #[.int .i64 x.1, .string x.2.1, .int .i64 x.2.2])] → w1.cell? ⟨g15, 0, none⟩ = some (.int .i64 eN) ∧ w1.cell? ⟨g15, 1, none⟩ = some (.int .i64 eD) ∧ w1.cell? ⟨w7.heap.size, 0, none⟩ = some (.int .i64 wN) ∧ w1.cell? ⟨w7.heap.size, 1, none⟩ = some (.int .i64 wD) ∧ w1.cell? ⟨w5.heap.size, 0, none⟩ = some (.int .i64 gN) ∧ w1.cell? ⟨w5.heap.size, 1, none⟩ = some (.int .i64 gD) ∧ w1.frozen? ⟨w5.heap.size, 0, none⟩ = false ∧ w1.frozen? ⟨w5.heap.size, 1, none⟩ = false) := by
                intro w1 h
                have t1 := h.head.two
                have t2 := h.at1.two
                have t3 := h.at3.two
                exact ⟨t1.1, t1.2.1, t2.1, t2.2.1, t3.1, t3.2.1, t3.2.2.1, t3.2.2.2⟩
              have HFIN : Hid (∀ W, St w W (.slice A3 n c3) n L [(g15, 27, #[.int .i64 eN, .int .i64 eD]), (w7.heap.size, 27, #[.int .i64 wN, .int .i64 wD]), (wr.heap.size, 98, #[.int .i64 y.1, .string y.2.1, .int .i64 y.2.2]), (w5.heap.size, 27, #[.int .i64 gN, .int .i64 gD]), (wo.heap.size, 98, #[.int .i64 x.1, .string x.2.1, .int .i64 x.2.2])] → St w ((W.setCell ⟨w5.heap.size, 0, none⟩ (.int .i64 hN)).setCell ⟨w5.heap.size, 1, none⟩ (.int .i64 hD)) (.slice A3 n c3) n L [(w5.heap.size, 27, #[.int .i64 hN, .int .i64 hD]), (wo.heap.size, 98, #[.int .i64 x.1, .string x.2.1, .int .i64 x.2.2])]) := by
                intro W h
                have hne : ∀ p ∈ ([(wo.heap.size, 98, #[.int .i64 x.1, .string x.2.1, .int .i64 x.2.2])] : List (Nat × TypeId × Array Value)), p.1 ≠ w5.heap.size := by
                  intro p hp
                  simp only [List.mem_cons, List.not_mem_nil, or_false] at hp
                  subst hp
                  simp only [ne_eq]
                  omega
                have h1 := h.tail.tail.tail.set_ (by decide) (by omega) hne 0 (.int .i64 hN)
                have h2 := h1.set_ (by decide) (by omega) hne 1 (.int .i64 hD)
                simpa using h2
              have en : -800000 ≤ eN ∧ eN ≤ 800000 := by omega
              clear hP1 hP2 hpN hpD hhN hhD b1 b2 b3 b4 b5 b6 b7 b8 wp wl wa wb ep el ea eb gp gl ga pp pl pa hgb
              obtain ⟨u0, u1, u2, u3, u4, u5, u6, u7⟩ := HCE.out _ hS5
              go_wp2_with fail
              have hwe : IntKind.i64.wrap (-eN) = -eN := IntWalk.i64_in _ ⟨by omega, by omega⟩
              go_region_law (first
                | (go_simp; go_at_call 76; ((with_reducible refine (HP1.out _ hS5.drew).mono ?_); rintro e w8 ⟨rfl, hS6⟩; obtain ⟨v0, v1, v2, v3, v4, v5, v6, v7⟩ := HCE.out _ hS6))
                | (go_simp; go_at_call 76; ((with_reducible refine (HP2.out w8 hS6).mono ?_); rintro e w9 ⟨rfl, hS7⟩; obtain ⟨y0, y1, y2, y3, y4, y5, y6, y7⟩ := HCE.out _ hS7)))
              all_goals
                clear hwe
                have hend := HFIN.out _ hS7
                clear hS3 hS5 hS6 hS7 u0 u1 u2 u3 u4 u5 u6 u7 v0 v1 v2 v3 v4 v5 v6 v7 y0 y1 y2 y3 y4 y5 y6 y7
                go_wp2
                go_roundw
                case rel => exact ⟨j + 1, hN, hD, by omega, by go_num, HS, hend⟩
                case measure => simp [intOf]; omega
          · have he' : (y.2.1.toList == x.2.1.toList) = true := heq
            rw [heq, if_pos rfl] at hgstep
            have HS : Hid (RatP.Is gN gD (gainTo rs r x (j + 1)) 800000) := by rw [hgstep]; exact HG.out
            clear heq hgstep
            go_wp2
            go_roundw
            case rel => exact ⟨j + 1, gN, gD, by omega, by go_num, HS, hS1.tail⟩
            case measure => simp [intOf]; omega
        · obtain rfl : j = m := by omega
          have hS0 := hS.cut1
          have hm3 : 2 ≤ j := by omega
          have hgb := gainTo_bd rs r x j (by have := HL2.out; omega)
          obtain ⟨G, hG⟩ : ∃ G, gainTo rs r x j = G := ⟨_, rfl⟩
          rw [hG] at hgb
          have HG2 := HG.out
          rw [hG] at HG2
          obtain ⟨sN, hsN⟩ : ∃ z, RatP.lowN (gN * wt) (gD * ((j : Int) - 1)) = z := ⟨_, rfl⟩
          obtain ⟨sD, hsD⟩ : ∃ z, RatP.lowD (gN * wt) (gD * ((j : Int) - 1)) = z := ⟨_, rfl⟩
          obtain ⟨N, hN⟩ : ∃ z, RatP.lowN (q.2.1 * sD + sN * q.2.2) (q.2.2 * sD) = z := ⟨_, rfl⟩
          obtain ⟨D, hD⟩ : ∃ z, RatP.lowD (q.2.1 * sD + sN * q.2.2) (q.2.2 * sD) = z := ⟨_, rfl⟩
          obtain ⟨a1, a2, a3, a4, g1', g2', g3, g4, p1, p2, p3, p4, s1, s2, s3, s4, q1, q2, q3, q4, q5, q6, n1, n2, n3, n4, hfin⟩ := tail_ok hro HG2 (by omega) (by omega) (by omega) (by omega) (by omega) (by omega) hsN hsD hN hD
          have HNT : Hid (newT rs r wt x = RatP.clampR (RatP.near (thou q.2.1 q.2.2 * ((j : Int) - 1) * 800 + wt * G) (((j : Int) - 1) * 800))) := by
            unfold newT
            rw [HTH.out, HL2.out, hG]
            exact Lib.hid rfl
          rw [← HNT.out] at hfin
          have HFIN := Lib.hid hfin
          have HC1 : Hid (∀ W, Calls Try.prog 74 #[.int .i64 (gN * wt), .int .i64 (gD * ((j : Int) - 1))] W (FracB sN sD W)) := by
            intro W
            have := lowest_calls (gN * wt) (gD * ((j : Int) - 1)) W (by omega) (by omega) (by omega) (by omega)
            rw [hsN, hsD] at this
            exact this
          have HC2 : Hid (∀ W, Calls Try.prog 76 #[.agg #[.int .i64 q.2.1, .int .i64 q.2.2], .agg #[.int .i64 sN, .int .i64 sD]] W (FracB N D W)) := by
            intro W
            have := plus_calls q.2.1 q.2.2 sN sD W q1 q2 q3 q4 q5 q6
            rw [hN, hD] at this
            exact this
          have HCL : Hid (∀ w1, St w w1 (.slice A3 n c3) n L [(w5.heap.size, 27, #[.int .i64 gN, .int .i64 gD])] → w1.cell? ⟨g1, o1 + ix * 3 + 1, none⟩ = some (.int .i64 q.2.1) ∧ w1.cell? ⟨g1, o1 + ix * 3 + 2, none⟩ = some (.int .i64 q.2.2) ∧ w1.cell? ⟨w5.heap.size, 0, none⟩ = some (.int .i64 gN) ∧ w1.cell? ⟨w5.heap.size, 1, none⟩ = some (.int .i64 gD) ∧ g1 < w1.heap.size ∧ w5.heap.size < w1.heap.size) := by
            intro w1 h
            exact ⟨below_cell h.1 l1, below_cell h.1 l2, h.head.two.1, h.head.two.2.1, World.block_lt_of_cell? w1 _ (below_cell h.1 l1), h.head.lt⟩
          have HK : Hid (∀ w1, St w w1 (.slice A3 n c3) n L [(w5.heap.size, 27, #[.int .i64 gN, .int .i64 gD])] → w1.cell? ⟨g1, o1 + ix * 3 + 1, none⟩ = some (.int .i64 q.2.1) ∧ w1.cell? ⟨g1, o1 + ix * 3 + 2, none⟩ = some (.int .i64 q.2.2) ∧ w1.cell? ⟨w5.heap.size, 0, none⟩ = some (.int .i64 gN) ∧ w1.cell? ⟨w5.heap.size, 1, none⟩ = some (.int .i64 gD)) := by
            intro w1 h
            exact ⟨below_cell h.1 l1, below_cell h.1 l2, h.head.two.1, h.head.two.2.1⟩
          have HA : Hid (∀ W, St w W (.slice A3 n c3) n L [(w5.heap.size, 27, #[.int .i64 gN, .int .i64 gD])] → Calls Try.prog 74 #[.int .i64 (gN * wt), .int .i64 (gD * ((j : Int) - 1))] W (fun e w1 => e = .returned (.agg #[.int .i64 sN, .int .i64 sD]) ∧ St w w1 (.slice A3 n c3) n L [(w5.heap.size, 27, #[.int .i64 gN, .int .i64 gD])])) := by
            intro W h
            refine (HC1.out W).mono ?_
            rintro e w1 ⟨rfl, hb⟩
            exact ⟨rfl, h.below hb⟩
          have HA2 : Hid (∀ W gz, St w W (.slice A3 n c3) n L [(w5.heap.size, 27, #[.int .i64 gN, .int .i64 gD])] ∧ Blk W gz 27 #[.int .i64 0, .int .i64 0] → Calls Try.prog 74 #[.int .i64 (gN * wt), .int .i64 (gD * ((j : Int) - 1))] W (fun e w1 => e = .returned (.agg #[.int .i64 sN, .int .i64 sD]) ∧ St w w1 (.slice A3 n c3) n L [(w5.heap.size, 27, #[.int .i64 gN, .int .i64 gD])] ∧ Blk w1 gz 27 #[.int .i64 0, .int .i64 0])) := by
            rintro W gz ⟨h, hz⟩
            refine (HC1.out W).mono ?_
            rintro e w1 ⟨rfl, hb⟩
            exact ⟨rfl, h.below hb, hz.below hb⟩
          have HB : Hid (∀ W, St w W (.slice A3 n c3) n L [(w5.heap.size, 27, #[.int .i64 gN, .int .i64 gD])] → Calls Try.prog 76 #[.agg #[.int .i64 q.2.1, .int .i64 q.2.2], .agg #[.int .i64 sN, .int .i64 sD]] W (fun e w1 => e = .returned (.agg #[.int .i64 N, .int .i64 D]) ∧ St w w1 (.slice A3 n c3) n L [(w5.heap.size, 27, #[.int .i64 gN, .int .i64 gD])])) := by
            intro W h
            refine (HC2.out W).mono ?_
            rintro e w1 ⟨rfl, hb⟩
            exact ⟨rfl, h.below hb⟩
          have HB2 : Hid (∀ W gz, St w W (.slice A3 n c3) n L [(w5.heap.size, 27, #[.int .i64 gN, .int .i64 gD])] ∧ Blk W gz 27 #[.int .i64 0, .int .i64 0] → Calls Try.prog 76 #[.agg #[.int .i64 q.2.1, .int .i64 q.2.2], .agg #[.int .i64 sN, .int .i64 sD]] W (fun e w1 => e = .returned (.agg #[.int .i64 N, .int .i64 D]) ∧ St w w1 (.slice A3 n c3) n L [(w5.heap.size, 27, #[.int .i64 gN, .int .i64 gD])] ∧ Blk w1 gz 27 #[.int .i64 0, .int .i64 0])) := by
            rintro W gz ⟨h, hz⟩
            refine (HC2.out W).mono ?_
            rintro e w1 ⟨rfl, hb⟩
            exact ⟨rfl, h.below hb, hz.below hb⟩
          have HST : Hid (∀ W gz, St w W (.slice A3 n c3) n L [(w5.heap.size, 27, #[.int .i64 gN, .int .i64 gD])] → Blk W gz 27 #[.int .i64 0, .int .i64 0] → w5.heap.size < gz → St w ((W.setCell ⟨gz, 0, none⟩ (.int .i64 N)).setCell ⟨gz, 1, none⟩ (.int .i64 D)) (.slice A3 n c3) n L [(w5.heap.size, 27, #[.int .i64 gN, .int .i64 gD])] ∧ Blk ((W.setCell ⟨gz, 0, none⟩ (.int .i64 N)).setCell ⟨gz, 1, none⟩ (.int .i64 D)) gz 27 #[.int .i64 N, .int .i64 D]) := by
            intro W gz h hz hge
            have hle := hS.1.size
            have hne : ∀ p ∈ ([(w5.heap.size, 27, #[.int .i64 gN, .int .i64 gD])] : List (Nat × TypeId × Array Value)), p.1 ≠ gz := by
              intro p hp
              simp only [List.mem_cons, List.not_mem_nil, or_false] at hp
              subst hp
              simp only [ne_eq]
              omega
            have h1 := h.store hz (by decide) (by omega) hne 0 (.int .i64 N)
            have hz1 := hz.set_ 0 (.int .i64 N)
            have h2 := h1.store hz1 (by decide) (by omega) hne 1 (.int .i64 D)
            have hz2 := hz1.set_ 1 (.int .i64 D)
            exact ⟨h2, by simpa using hz2⟩
          have hm2 : IntKind.i64.wrap (gN * wt) = gN * wt := IntWalk.i64_in _ ⟨by omega, by omega⟩
          have hm3 : IntKind.i64.wrap (gD * ((j : Int) - 1)) = gD * ((j : Int) - 1) := IntWalk.i64_in _ ⟨by omega, by omega⟩
          obtain ⟨k0, k1, k2, k3, k4, k5⟩ := HCL.out _ hS0
          clear hS hG HG2 hsN hsD hN hD hfin HG hgb
          go_upto_region 16 with (fail)
          go_cut [17] (fun s17 W => ∃ g17 : Nat, s17 = .pointer (some ⟨g17, 0, none⟩) ∧ St w W (.slice A3 n c3) n L [] ∧ Blk W g17 27 #[.int .i64 N, .int .i64 D])
          case first =>
            go_region_held3 (fun W => W.cell? ⟨g1, o1 + ix * 3 + 1, none⟩ = some (.int .i64 q.2.1) ∧ W.cell? ⟨g1, o1 + ix * 3 + 2, none⟩ = some (.int .i64 q.2.2) ∧ W.cell? ⟨w5.heap.size, 0, none⟩ = some (.int .i64 gN) ∧ W.cell? ⟨w5.heap.size, 1, none⟩ = some (.int .i64 gD))
              (first | exact HK.out _ hS0.drew | exact HK.out _ (hS0.alloc _).drew | exact HK.out _ (hS0.drew.alloc _) | exact HK.out _ (HST.out _ _ hS4 hzz hS3.head.lt).1 | exact HK.out _ (HST.out _ _ hS4 hzz hS0.head.lt).1 | exact HK.out _ (hS4.alloc _) | exact HK.out _ hS4 | exact HK.out _ (hS3.alloc _) | exact HK.out _ hS3)
              (first
                | (go_at_call 74; ((with_reducible refine (HA.out _ hS0.drew).mono ?_); rintro e w8 ⟨rfl, hS3⟩; have hz8 := hS3.1.size))
                | (go_at_call 74; ((with_reducible refine (HA2.out _ wr.heap.size ⟨(hS0.alloc _).drew, Blk.drew (Blk.new wr _ _)⟩).mono ?_); rintro e w8 ⟨rfl, hS3, hz⟩))
                | (go_at_call 76; ((with_reducible refine (HB2.out w8 wr.heap.size ⟨hS3, hz⟩).mono ?_); rintro e w9 ⟨rfl, hS4, hzz⟩; obtain ⟨z0, z1, z2, z3⟩ := hzz.two))
                | (go_at_call 76; ((with_reducible refine (HB.out w8 hS3).mono ?_); rintro e w9 ⟨rfl, hS4⟩))
                | (go_at_call 76; ((with_reducible refine (HB2.out _ w8.heap.size ⟨hS3.alloc _, Blk.new w8 _ _⟩).mono ?_); rintro e w9 ⟨rfl, hS4, hzz⟩; obtain ⟨z0, z1, z2, z3⟩ := hzz.two)))
            all_goals (go_wp2_with fail; go_meet)
            all_goals first
              | exact ⟨w9.heap.size, rfl, (hS4.alloc _).tail, Blk.new w9 _ _⟩
              | exact ⟨wr.heap.size, rfl, (HST.out w9 _ hS4 hzz hS0.head.lt).1.tail, (HST.out w9 _ hS4 hzz hS0.head.lt).2⟩
              | exact ⟨w8.heap.size, rfl, (HST.out w9 _ hS4 hzz hS3.head.lt).1.tail, (HST.out w9 _ hS4 hzz hS3.head.lt).2⟩
          case rest =>
            obtain ⟨g17, rfl, hS6, hB17⟩ := hcut
            obtain ⟨t0, t1, t2, t3⟩ := hB17.two
            clear hS0 k0 k1 k2 k3 k4 k5
            obtain ⟨NT, hNT⟩ : ∃ z, newT rs r wt x = z := ⟨_, rfl⟩
            have HNX := Lib.hid hNT
            have hfin := HFIN.out
            rw [hNT] at hfin
            have hLl : L.length = n := by rw [HLk.out, rateTo_len, HL.out]
            have hixL : ix < L.length := by omega
            have hnext : rateTo rs r wt (k + 1) = L.set ix (L[ix].1, RatP.lowN NT 1000, RatP.lowD NT 1000) := by
              rw [HK0.out, ← HLk.out, ← hNT]
              unfold rateS newR
              rw [HIX.out, Int.toNat_natCast, List.getD_eq_getElem?_getD, List.getElem?_eq_getElem hixL]
              rfl
            obtain ⟨rN, hrN⟩ : ∃ z, RatP.lowN NT 1000 = z := ⟨_, rfl⟩
            obtain ⟨rD, hrD⟩ : ∃ z, RatP.lowD NT 1000 = z := ⟨_, rfl⟩
            rw [hrN, hrD] at hnext
            have HLOW : Hid (∀ z : Int, z = NT → -10000000 ≤ z → z ≤ 10000000 → ∀ W, Calls Try.prog 74 #[.int .i64 z, .int .i64 1000] W (FracB rN rD W)) := by
              intro z hz h1 h2 W
              subst hz
              have := lowest_calls z 1000 W (by omega) (by omega) (by omega) (by omega)
              rw [hrN, hrD] at this
              exact this
            obtain ⟨g4, cap4, hv4, hg4, _⟩ := hS6.2.1.form (by omega)
            injection hv4 with hA4 _ hc4
            subst hA4 hc4
            have HNX2 := Lib.hid hnext
            have HLl := Lib.hid hLl
            clear hNT hnext hLl hrN hrD
            have hsg : (N < 0 ∧ RatP.sgn N = -1) ∨ (N = 0 ∧ RatP.sgn N = 0) ∨ (0 < N ∧ RatP.sgn N = 1) := by unfold RatP.sgn; split <;> (try split) <;> omega
            rcases hsg with ⟨hn, hsg⟩ | ⟨hn, hsg⟩ | ⟨hn, hsg⟩
            · have hd0 : 0 ≤ (2000 * -N + D) / (2 * D) := Int.ediv_nonneg (by omega) (by omega)
              rw [hsg, Int.max_eq_right (by omega)] at hfin
              have HF := Lib.hid hfin
              have HSG := Lib.hid hsg
              clear hsg hfin
              go_wp2_with fail
              go_quiet (fail)
              go_wp2_with fail
              all_goals
                refine (sign_calls N _).mono ?_
                rintro e w8 ⟨rfl, rfl⟩
                rw [HSG.out]
                go_wp2_with fail
                refine (HLOW.out _ (by have := HF.out; omega) (by omega) (by omega) _).mono ?_
                rintro e w9 ⟨rfl, hb9⟩
                have own8 := own_below (own_drewN hS6.2.1 nq) hb9
                have hb10 := below_call (below_drewN hS6.1 nq) hb9 (Nat.le_refl _)
                clear hb9
                have v1 := own_cell ratedC 3 ratedC_len own8 ix 1 hixL hixn (by omega)
                have v2 := own_cell ratedC 3 ratedC_len own8 ix 2 hixL hixn (by omega)
                have f1 := own8.frozenAt (ix * 3 + 1)
                have f2 := own8.frozenAt (ix * 3 + 2)
                simp only [ratedC, List.getElem?_cons_zero, List.getElem?_cons_succ] at v1 v2
                have st1 := own_store ratedC 3 ratedC_len (by rw [HLl.out]; exact own8) ix 1 hixL (by omega) (.int .i64 rN) (L[ix].1, rN, L[ix].2.2) rfl
                have hix2 : ix < (L.set ix (L[ix].1, rN, L[ix].2.2)).length := by rw [List.length_set]; exact hixL
                have st2 := own_store ratedC 3 ratedC_len st1 ix 2 hix2 (by omega) (.int .i64 rD) (L[ix].1, rN, rD) (by simp [ratedC])
                rw [List.set_set] at st2
                have hl2 : (L.set ix (L[ix].1, rN, rD)).length = n := (List.length_set ..).trans HLl.out
                rw [hl2, ← HNX2.out] at st2
                have hx3 := (hb10.setCell (p := ⟨g4, ix * 3 + 1, none⟩) hg4 (.int .i64 rN)).setCell (p := ⟨g4, ix * 3 + 2, none⟩) hg4 (.int .i64 rD)
                clear st1 hix2 hl2 own8 hb10
                go_wp2
                go_roundw
                case rel => exact ⟨k + 1, rateTo rs r wt (k + 1), by omega, by go_num, Lib.hid rfl, hx3, st2, fun p hp => by cases hp⟩
                case measure => simp [intOf]; omega
            · obtain ⟨hn1, hn2⟩ : 0 ≤ N ∧ N ≤ 0 := by omega
              have hd0 : 0 ≤ (2000 * N + D) / (2 * D) := Int.ediv_nonneg (by omega) (by omega)
              rw [hsg, Int.max_eq_left (by omega)] at hfin
              clear hn
              have HF := Lib.hid hfin
              have HSG := Lib.hid hsg
              clear hsg hfin
              go_wp2_with fail
              go_quiet (fail)
              go_wp2_with fail
              all_goals
                refine (sign_calls N _).mono ?_
                rintro e w8 ⟨rfl, rfl⟩
                rw [HSG.out]
                go_wp2_with fail
                refine (HLOW.out _ (by have := HF.out; omega) (by omega) (by omega) _).mono ?_
                rintro e w9 ⟨rfl, hb9⟩
                have own8 := own_below (own_drewN hS6.2.1 nq) hb9
                have hb10 := below_call (below_drewN hS6.1 nq) hb9 (Nat.le_refl _)
                clear hb9
                have v1 := own_cell ratedC 3 ratedC_len own8 ix 1 hixL hixn (by omega)
                have v2 := own_cell ratedC 3 ratedC_len own8 ix 2 hixL hixn (by omega)
                have f1 := own8.frozenAt (ix * 3 + 1)
                have f2 := own8.frozenAt (ix * 3 + 2)
                simp only [ratedC, List.getElem?_cons_zero, List.getElem?_cons_succ] at v1 v2
                have st1 := own_store ratedC 3 ratedC_len (by rw [HLl.out]; exact own8) ix 1 hixL (by omega) (.int .i64 rN) (L[ix].1, rN, L[ix].2.2) rfl
                have hix2 : ix < (L.set ix (L[ix].1, rN, L[ix].2.2)).length := by rw [List.length_set]; exact hixL
                have st2 := own_store ratedC 3 ratedC_len st1 ix 2 hix2 (by omega) (.int .i64 rD) (L[ix].1, rN, rD) (by simp [ratedC])
                rw [List.set_set] at st2
                have hl2 : (L.set ix (L[ix].1, rN, rD)).length = n := (List.length_set ..).trans HLl.out
                rw [hl2, ← HNX2.out] at st2
                have hx3 := (hb10.setCell (p := ⟨g4, ix * 3 + 1, none⟩) hg4 (.int .i64 rN)).setCell (p := ⟨g4, ix * 3 + 2, none⟩) hg4 (.int .i64 rD)
                clear st1 hix2 hl2 own8 hb10
                go_wp2
                go_roundw
                case rel => exact ⟨k + 1, rateTo rs r wt (k + 1), by omega, by go_num, Lib.hid rfl, hx3, st2, fun p hp => by cases hp⟩
                case measure => simp [intOf]; omega
            · have hd0 : 0 ≤ (2000 * N + D) / (2 * D) := Int.ediv_nonneg (by omega) (by omega)
              rw [hsg, Int.max_eq_left (by omega)] at hfin
              have HF := Lib.hid hfin
              have HSG := Lib.hid hsg
              clear hsg hfin
              go_wp2_with fail
              go_quiet (fail)
              go_wp2_with fail
              all_goals
                refine (sign_calls N _).mono ?_
                rintro e w8 ⟨rfl, rfl⟩
                rw [HSG.out]
                go_wp2_with fail
                refine (HLOW.out _ (by have := HF.out; omega) (by omega) (by omega) _).mono ?_
                rintro e w9 ⟨rfl, hb9⟩
                have own8 := own_below (own_drewN hS6.2.1 nq) hb9
                have hb10 := below_call (below_drewN hS6.1 nq) hb9 (Nat.le_refl _)
                clear hb9
                have v1 := own_cell ratedC 3 ratedC_len own8 ix 1 hixL hixn (by omega)
                have v2 := own_cell ratedC 3 ratedC_len own8 ix 2 hixL hixn (by omega)
                have f1 := own8.frozenAt (ix * 3 + 1)
                have f2 := own8.frozenAt (ix * 3 + 2)
                simp only [ratedC, List.getElem?_cons_zero, List.getElem?_cons_succ] at v1 v2
                have st1 := own_store ratedC 3 ratedC_len (by rw [HLl.out]; exact own8) ix 1 hixL (by omega) (.int .i64 rN) (L[ix].1, rN, L[ix].2.2) rfl
                have hix2 : ix < (L.set ix (L[ix].1, rN, L[ix].2.2)).length := by rw [List.length_set]; exact hixL
                have st2 := own_store ratedC 3 ratedC_len st1 ix 2 hix2 (by omega) (.int .i64 rD) (L[ix].1, rN, rD) (by simp [ratedC])
                rw [List.set_set] at st2
                have hl2 : (L.set ix (L[ix].1, rN, rD)).length = n := (List.length_set ..).trans HLl.out
                rw [hl2, ← HNX2.out] at st2
                have hx3 := (hb10.setCell (p := ⟨g4, ix * 3 + 1, none⟩) hg4 (.int .i64 rN)).setCell (p := ⟨g4, ix * 3 + 2, none⟩) hg4 (.int .i64 rD)
                clear st1 hix2 hl2 own8 hb10
                go_wp2
                go_roundw
                case rel => exact ⟨k + 1, rateTo rs r wt (k + 1), by omega, by go_num, Lib.hid rfl, hx3, st2, fun p hp => by cases hp⟩
                case measure => simp [intOf]; omega
    · obtain rfl : k = m := by omega
      go_wp2_with fail
      go_ret
      exact ⟨_, rfl, by rw [HL2.out, ← HLk.out]; exact hS.2.1, hS.1⟩
end Go.Proofs.Ytlfhommeomchoaa
