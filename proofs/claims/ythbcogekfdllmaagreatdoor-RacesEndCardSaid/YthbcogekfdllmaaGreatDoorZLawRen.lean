/-
  RacesEnd: the law's own walk.
-/
import Derived.Test.YthbcogekfdllmaaGreatDoorZLawStart
import Derived.Test.YthbcogekfdllmaaGreatDoorZRenP
import Derived.Test.YthbcogekfdllmaaGreatDoorZMemI
import Derived.Test.YthbcogekfdllmaaGreatDoorZEqRs
import Derived.Test.YthbcogekfdllmaaGreatDoorZSlot7
import Derived.Deep.DeepCutAuto
namespace Go.Proofs.YthbcogekfdllmaaGreatDoor
open Go Go.RowKit

theorem rnk_cases {p z : Res} (h : rnkB p z = true) : (p.2.2 = 0 ∧ ¬ 0 < z.2.2) ∨ (p.2.2 ≠ 0 ∧ ¬ 0 < z.2.2) ∨ (p.2.2 ≠ 0 ∧ 0 < z.2.2 ∧ ¬ z.2.2 < p.2.2 ∧ z.2.2 = p.2.2 ∧ z.1 = p.1) ∨ (p.2.2 ≠ 0 ∧ 0 < z.2.2 ∧ ¬ z.2.2 < p.2.2 ∧ z.2.2 ≠ p.2.2 ∧ z.1 ≠ p.1) := by
  unfold rnkB at h
  by_cases h1 : p.2.2 = 0 <;> by_cases h2 : 0 < z.2.2 <;> by_cases h3 : z.2.2 < p.2.2 <;> by_cases h4 : z.2.2 = p.2.2 <;> by_cases h5 : z.1 = p.1 <;> simp [h1, h2, h3, h4, h5] at h ⊢
  all_goals omega
set_option maxRecDepth 100000 in
set_option maxHeartbeats 4000000 in
theorem ren_walk (a0 : Option Addr) (len0 cap0 : Nat) (z0 : List Int) (w : World) (w0 : InRow w a0 len0 cap0 z0) (ht : Tab w) :
    Calls Tryz.prog 3 #[.slice a0 len0 cap0] w fun e w' => e = .returned (.bool true) ∧ Below w.heap.size w w' := by
  have hs0 := strm_start w0 25
  have hb0 : Bx w.heap.size w.heap.size w (w.alloc (.cells #[.slice a0 len0 cap0, .int .i64 0] 25)) := (Bx.refl _ _ _).alloc (Nat.le_refl _) _
  clear w0
  go_enter Tryz.func3, Tryz.ntmps3
  go_wp2_with fail
  refine (range_calls w.heap.size _ 0 24 _ (by omega) (by omega) (by omega) hs0 (by omega)).mono ?_
  rintro e w2 ⟨m, rfl, m0, m1, hs2, hc2⟩
  obtain ⟨m, rfl⟩ := Int.eq_ofNat_of_zero_le m0
  have hb2 := hb0.call hc2 (Nat.le_refl _)
  have hlt2 := hs2.lt
  clear hs0 hb0 hc2
  go_wp2_with fail
  refine (rightSteps_calls w.heap.size _ m _ hs2 (by omega) (by omega)).mono ?_
  rintro e w4 ⟨v, l, rfl, hlm, hR, hS4⟩
  have hO : w4.ownsRow w2.heap.size 34 3 v m (l.flatMap stC) := hS4.head
  have hbel := (hb2.call hS4.bx (Nat.le_refl _)).below (Nat.le_refl _)
  have HB4 := Lib.hid hbel
  have hlt4 := hS4.lt
  obtain ⟨A, c, hv⟩ := own_form hO
  subst hv
  have hr4 := Rd.own (b := w.heap.size) hO hlt2
  have hm1 : m ≤ 1000 := by omega
  obtain ⟨hri, hsr⟩ := hR.right (by omega)
  have hl1 : l.length ≤ 1000 := by omega
  have hf0 := stF_right hri hsr hl1
  obtain ⟨hf1, hry, hl2⟩ := cln_right hri hsr hl1
  have hz4 : ∀ s ∈ l, s.who.size ≤ 1000000 := fun s hs => Nat.le_trans ((stF_ok hf0).1.who s hs) (by decide)
  have hz5 : ∀ s ∈ clnS l, s.who.size ≤ 1000000 := fun s hs => Nat.le_trans ((stF_ok hf1).1.who s hs) (by decide)
  have hnm : ∃ N : List ByteArray, N.length ≤ 19 ∧ ∀ s ∈ l, s.who ∈ N := ⟨nms6, by decide, hR.nm⟩
  have hsub : (clnS l).Sublist l := by
    have := wthS_sub l (refS l) l.length (Nat.le_refl _)
    rw [List.take_length] at this
    exact this
  have hnm2 : ∃ N : List ByteArray, N.length ≤ 19 ∧ ∀ s ∈ clnS l, s.who ∈ N := ⟨nms6, by decide, fun s hs => hR.nm s (hsub.subset hs)⟩
  have hre := cln_ref hri hf0 hry hf1
  have hrs := cln_rsF hri hf0 hry hf1
  have hfo := (cln_fol hri hf0 hry).1
  have hst := ren_st hf0
  have hmf := ren_mf hf0
  have htw := ren_two hf0
  have hpo := ren_pos hf0
  have hfe : (rfolP l 345686399999).1 = (rfolP l 345686400000).1 := by rw [(fol_all hri).1, (fol_all hri).2]
  have HT := Lib.hid (fun W (h : Below w4.heap.size w4 W) => ready_calls w.heap.size W (by have := h.size; omega) (ht.below (below_call hbel h (Nat.le_refl _))))
  clear hs2 hb2 hO hS4 hlt2 hlm hR hsub ht hbel hri hsr hry
  have HRX := Lib.hid (fun W (h : Below w4.heap.size w4 W) => hr4.below h)
  have H1 := Lib.hid (raceRefused_calls w.heap.size A m c l w4 hr4 hz4 hm1)
  have H2 := Lib.hid (fun A2 m2 c2 W (h : Below w4.heap.size w4 W) h2 => withoutS_calls w.heap.size A A2 m c m2 c2 l (refS l) W (HRX.out W h) h2 (by omega))
  have H3 := Lib.hid (fun A2 c2 W h2 => raceRefused_calls w.heap.size A2 (clnS l).length c2 (clnS l) W h2 hz5 hl2)
  have H4 := Lib.hid (fun W (h : Below w4.heap.size w4 W) => raceResults_calls w.heap.size A m c l W (HRX.out W h) hz4 hm1 hnm)
  have H5 := Lib.hid (fun A2 c2 W h2 => raceResults_calls w.heap.size A2 (clnS l).length c2 (clnS l) W h2 hz5 hl2 hnm2)
  have H6 := Lib.hid (fun W (h : Below w4.heap.size w4 W) => raceStarted_calls w.heap.size A m c l W (HRX.out W h) hz4 hm1)
  have H7 := Lib.hid (fun W (h : Below w4.heap.size w4 W) => raceEntrants_calls w.heap.size A m c l 345686399999 W (HRX.out W h) hz4 hm1)
  have HER : Hid (∀ W : World, w.heap.size < W.heap.size → Calls Tryz.prog 12 #[.slice (some ⟨W.heap.size, 0, none⟩) 3 3] (W.alloc (.cells #[.int .i64 0, .int .i64 0, .int .i64 0] 29)) (QRet (.int .i64 0) (W.alloc (.cells #[.int .i64 0, .int .i64 0, .int .i64 0] 29)))) :=
    Lib.hid (fun W hW => errsK_calls w.heap.size _ 3 3 [0, 0, 0] _ (Rd.lit0 hW (by decide) rfl))
  unfold RefR at H1 H3
  unfold ResS at H4 H5
  unfold EntS at H7
  simp only [hf0] at H1 H6
  simp only [hf1, hre] at H3
  rw [hrs, hfo] at H5
  simp only [hmf, hfe] at H7
  obtain ⟨RL, hRL⟩ : ∃ RL, refS l = RL := ⟨_, rfl⟩
  obtain ⟨YL, hYL⟩ : ∃ YL, clnS l = YL := ⟨_, rfl⟩
  obtain ⟨SA, hSA⟩ : ∃ SA, srtA l = SA := ⟨_, rfl⟩
  obtain ⟨SB, hSB⟩ : ∃ SB, srtB l = SB := ⟨_, rfl⟩
  obtain ⟨F, hF⟩ : ∃ F, rsF l = F := ⟨_, rfl⟩
  obtain ⟨P, hP⟩ : ∃ P, (rfolP l 345686400000).1 = P := ⟨_, rfl⟩
  have hwt : wthS l (refS l) l.length = YL := hYL
  rw [hwt] at H2
  simp only [hRL] at H1 H2
  simp only [hYL] at H3 H5
  simp only [hF, hP] at H4 H5 hst
  simp only [hP] at H7 htw hpo
  simp only [hSA, hSB] at H6
  rw [hSB] at hst htw
  have HST := Lib.hid hst
  have HTW := Lib.hid htw
  have HPO := Lib.hid hpo
  clear hr4 hz4 hz5 hnm hnm2 hm1 hl1 hl2 hf0 hf1 HRX hre hrs hfo hst hmf htw hpo hfe hRL hYL hSA hSB hF hP hwt
  go_wp2_with fail
  refine H1.out.mono ?_
  rintro e w5 ⟨v5, rfl, ho5, hb5⟩
  obtain ⟨A5, c5, hv5⟩ := own_form ho5
  subst hv5
  have hQ5 := (Sq.start w4).ownB hb5 ho5
  have r5 := Rd.own (b := w.heap.size) ho5 hlt4
  clear H1 ho5 hb5
  go_wp2_with fail
  refine (H2.out _ _ _ _ hQ5.below r5).mono ?_
  rintro e w6 ⟨v6, rfl, ho6, hb6⟩
  obtain ⟨A6, c6, hv6⟩ := own_form ho6
  subst hv6
  have hQ6 := hQ5.ownB hb6 ho6
  have HR6 := Lib.hid (fun W (h : Below w6.heap.size w6 W) => Rd.own (b := w.heap.size) (show W.ownsRow w4.heap.size 34 3 (.slice A6 YL.length c6) YL.length (YL.flatMap stC) from (hQ6.callB h).head) hlt4)
  clear H2 ho6 hb6 hQ5 r5
  go_wp2_with fail
  refine (H3.out _ _ _ (HR6.out _ (Below.refl _ _))).mono ?_
  rintro e w7 ⟨v7, rfl, ho7, hb7⟩
  obtain ⟨A7, c7, hv7⟩ := own_form ho7
  subst hv7
  have hQ7 := hQ6.callB hb7
  have hb67 := hb7
  clear H3 ho7 hb7 hQ6
  go_wp2_with fail
  refine (H4.out _ hQ7.below).mono ?_
  rintro e w8 ⟨v8, Y, rfl, hY, hY0, ho8, hb8⟩
  obtain ⟨A8, c8, hv8⟩ := own_form ho8
  subst hv8
  have hQ8 := hQ7.ownB hb8 ho8
  have hb68 := below_call hb67 hb8 (Nat.le_refl _)
  clear H4 ho8 hb8 hQ7 hb67
  go_wp2_with fail
  refine (H5.out _ _ _ (HR6.out _ hb68)).mono ?_
  rintro e w9 ⟨v9, Y2, rfl, hZ, hZ0, ho9, hb9⟩
  obtain ⟨A9, c9, hv9⟩ := own_form ho9
  subst hv9
  have hyy : Y = Y2 := by
    by_cases h0 : F = 0
    · exact (hY h0).one (hZ h0)
    · rw [hY0 h0, hZ0 h0]
  subst hyy
  have HY := Lib.hid hY
  have hQ9 := hQ8.ownB hb9 ho9
  obtain ⟨q, hq⟩ : ∃ q, Y.length = q := ⟨_, rfl⟩
  have HQ := Lib.hid hq
  rw [hq] at hQ9 ⊢
  clear H5 ho9 hb9 hQ8 hb68 hY hY0 hZ hZ0 HR6 hq
  go_wp2_with fail
  refine (H6.out _ hQ9.below).mono ?_
  rintro e w10 ⟨rfl, hb10⟩
  have hQ10 := hQ9.callB hb10
  clear H6 hb10 hQ9
  go_upto_region 9 with (fail)
  have hz10 := hQ10.below.size
  have HE := Lib.hid (HER.out w10 (by omega))
  have r8 := fun W (h : Below w10.heap.size w10 W) => Rd.own (b := w.heap.size) (show W.ownsRow w4.heap.size 43 3 (.slice A8 q c8) q (Y.flatMap resC) from (hQ10.callB h).nth 1 rfl) hlt4
  have r9 := fun W (h : Below w10.heap.size w10 W) => Rd.own (b := w.heap.size) (show W.ownsRow w4.heap.size 43 3 (.slice A9 q c9) q (Y.flatMap resC) from (hQ10.callB h).nth 0 rfl) hlt4
  have HEQ := Lib.hid (fun W h => equalRs_calls w.heap.size A8 A9 q c8 c9 Y W (r8 W h) (r9 W h))
  have HR8 := Lib.hid r8
  have HB10 := Lib.hid hQ10.below
  clear r8 r9 hQ10 HER hz10
  go_cut [84] (fun s84 W => s84 = .bool false ∧ Below w10.heap.size w10 W)
  case first =>
    have hFF : (F != F) = false := by simp
    go_wp2_with fail
    refine HE.out.mono ?_
    rintro e w11 ⟨rfl, n1, rfl⟩
    have hb11 : Below w10.heap.size w10 ((w10.alloc (.cells #[.int .i64 0, .int .i64 0, .int .i64 0] 29)).drewN n1) := below_drewN ((Below.refl _ _).alloc (Nat.le_refl _) _) n1
    go_wp2_with fail
    refine (HEQ.out _ hb11).mono ?_
    rintro e w12 ⟨rfl, n2, rfl⟩
    have hb12 := below_drewN hb11 n2
    clear hb11
    go_wp2_with fail
    go_meet
    exact ⟨congrArg Value.bool (by rcases HST.out with ⟨rfl, rfl⟩ | ⟨rfl, rfl⟩ <;> rfl), below_drewN ((Below.refl _ _).alloc (Nat.le_refl _) _) _⟩
  case rest =>
    obtain ⟨rfl, hb11⟩ := hcut
    obtain ⟨w11, hw11⟩ : ∃ z, z = wc := ⟨_, rfl⟩
    subst hw11
    clear HE HEQ
    have HB11 := Lib.hid (below_call HB10.out hb11 (Nat.le_refl _))
    have HR11 := Lib.hid (fun W (h : Below w11.heap.size w11 W) => HR8.out W (below_call hb11 h (Nat.le_refl _)))
    clear hb11 HR8 HB10
    rcases HST.out with ⟨h1, h2⟩ | ⟨h1, h2⟩
    · have hrs := HY.out h2
      have h2q : 2 ≤ q := by rw [← HQ.out, hrs.pm.length_eq, List.length_map]; exact HTW.out h1
      have HKQ : Hid (P.ks.length = q) := Lib.hid (by rw [← HQ.out, hrs.pm.length_eq, List.length_map])
      have HRK := Lib.hid (fun k hk => hrs.rnk HPO.out k hk)
      have hq2 : ¬ (q : Int) < 2 := by omega
      have hqq : ((q : Int) != (q : Int)) = false := by simp
      subst h1 h2
      clear hrs HST HTW HPO HY
      go_wp2_with fail
      refine (H7.out _ HB11.out).mono ?_
      rintro e w12 ⟨v12, PL, rfl, hPL, _, ho12, hb12⟩
      have hpl : PL.length = q := by rw [(hPL (by first | trivial | rfl)).2]; exact HKQ.out
      rw [hpl] at ho12
      obtain ⟨A12, c12, hv12⟩ := own_form ho12
      subst hv12
      have HB12 := Lib.hid (below_call HB11.out hb12 (Nat.le_refl _))
      have hr12 := HR11.out _ hb12
      clear H7 hPL ho12 hb12 hpl HR11 HB11
      obtain ⟨hyl, hyc, hym, hcells⟩ := hr12.cells resC_len (by omega)
      have HC := Lib.hid hcells
      unfold maxLen at hym
      clear hcells hr12
      go_wp2_with fail
      go_loopw [113] (fun i wr => ∃ k : Nat, k ≤ q ∧ i = .int .i64 k ∧ Below w12.heap.size w12 wr) (fun i _ => q - (intOf i).toNat)
      case atStart => exact ⟨0, Nat.zero_le _, rfl, Below.refl _ _⟩
      case round =>
        obtain ⟨k, hk, rfl, hb⟩ := hrel
        obtain ⟨wo, hwo⟩ : ∃ z, z = wr := ⟨_, rfl⟩
        subst hwo
        by_cases hlt : k < q
        · have hkr : k < Y.length := by omega
          obtain ⟨g, o, hA, _, hcs⟩ := HC.out (by omega)
          subst hA
          obtain ⟨z, hz⟩ : ∃ z, Y[k] = z := ⟨_, rfl⟩
          have c0 := below_cell hb (hcs k hkr 0 (by omega))
          have c1 := below_cell hb (hcs k hkr 1 (by omega))
          have c2 := below_cell hb (hcs k hkr 2 (by omega))
          rw [hz] at c0 c1 c2
          obtain ⟨zr, zw, zt⟩ := z
          replace c0 : wo.cell? ⟨g, o + k * 3, none⟩ = some (.int .i64 zr) := c0
          replace c1 : wo.cell? ⟨g, o + k * 3 + 1, none⟩ = some (.string zw) := c1
          replace c2 : wo.cell? ⟨g, o + k * 3 + 2, none⟩ = some (.int .i64 zt) := c2
          have hk0 : (0 : Int) ≤ (k : Int) := by omega
          have hk1 : (k : Int) < (q : Int) := by omega
          have hbn : Below w12.heap.size w12 (wo.alloc (.cells #[.int .i64 zr, .string zw, .int .i64 zt] 43)) := hb.alloc hb.size _
          obtain ⟨W2, hW2⟩ : ∃ z, z = wo.alloc (.cells #[.int .i64 zr, .string zw, .int .i64 zt] 43) := ⟨_, rfl⟩
          have hbo : Below wo.heap.size wo W2 := by rw [hW2]; exact (Below.refl _ _).alloc (Nat.le_refl _) _
          have hby : Blk W2 wo.heap.size 43 #[.int .i64 zr, .string zw, .int .i64 zt] := by rw [hW2]; exact Blk.new wo _ _
          go_upto_region 19 with (fail)
          rw [← hW2] at hbn ⊢
          clear hW2
          have y0 := hby.cell 0
          have y2 := hby.cell 2
          go_cut [170] (fun s170 W => s170 = .bool false ∧ Below w12.heap.size w12 W)
          case first =>
            rcases Nat.eq_zero_or_pos k with h0 | h0
            · subst h0
              clear hcs hz hb
              go_quiet (fail)
              go_wp2_with fail
              go_meet
              exact ⟨rfl, below_drewN hbn _⟩
            · obtain ⟨j, rfl⟩ : ∃ j, k = j + 1 := ⟨k - 1, by omega⟩
              have hrk := HRK.out j hkr
              obtain ⟨p, hp⟩ : ∃ p, Y[j] = p := ⟨_, rfl⟩
              have d0 := below_cell hbo (below_cell hb (hcs j (by omega) 0 (by omega)))
              have d2 := below_cell hbo (below_cell hb (hcs j (by omega) 2 (by omega)))
              rw [hp] at d0 d2 hrk
              rw [hz] at hrk
              obtain ⟨pr, pw, pt⟩ := p
              replace d0 : W2.cell? ⟨g, o + j * 3, none⟩ = some (.int .i64 pr) := d0
              replace d2 : W2.cell? ⟨g, o + j * 3 + 2, none⟩ = some (.int .i64 pt) := d2
              have hj0 : (0 : Int) ≤ (j : Int) := by omega
              have hj1 : (j : Int) < (q : Int) := by omega
              have hgt : (0 : Int) < (j : Int) + 1 := by omega
              have hw1 : IntKind.i64.wrap ((((j + 1 : Nat)) : Int) - 1) = (j : Int) := (IntWalk.i64_in _ (by omega)).trans (by omega)
              have hw2 : IntKind.i64.wrap ((j : Int) + 1 - 1) = (j : Int) := (IntWalk.i64_in _ (by omega)).trans (by omega)
              have hw3 : IntKind.i64.wrap (j : Int) = (j : Int) := IntWalk.i64_in _ (by omega)
              clear hcs hz hb hp h0
              rcases rnk_cases hrk with ⟨f1, f2⟩ | ⟨f1, f2⟩ | ⟨f1, f2, f3, f4, f5⟩ | ⟨f1, f2, f3, f4, f5⟩ <;> simp only at f1 f2
              · have e1 : (pt == 0) = true := by simpa using f1
                clear f1 hrk
                go_quiet (fail)
                go_wp2_with fail
                go_meet
                exact ⟨rfl, below_drewN hbn _⟩
              · have e1 : (pt == 0) = false := by simpa using f1
                clear f1 hrk
                go_quiet (fail)
                go_wp2_with fail
                go_meet
                exact ⟨rfl, below_drewN hbn _⟩
              · have e1 : (pt == 0) = false := by simpa using f1
                simp only at f3 f4 f5
                subst f4 f5
                clear f1 hrk
                go_quiet (fail)
                go_wp2_with fail
                go_meet
                exact ⟨rfl, below_drewN hbn _⟩
              · have e1 : (pt == 0) = false := by simpa using f1
                simp only at f3 f4 f5
                have e2 : (zt == pt) = false := by simpa using f4
                have e3 : (zr == pr) = false := by simpa using f5
                clear f1 f4 f5 hrk
                go_quiet (fail)
                go_wp2_with fail
                go_meet
                exact ⟨rfl, below_drewN hbn _⟩
          case rest =>
            obtain ⟨rfl, hb13⟩ := hcut
            clear hcs hz hb hbn c0 c1 c2
            go_wp2_with fail
            go_roundw
            case rel => exact ⟨k + 1, by omega, by go_num, hb13⟩
            case measure => simp [intOf]; omega
        · obtain rfl : k = q := by omega
          have hb13 := below_call HB12.out hb (Nat.le_refl _)
          go_wp2_with fail
          refine (HT.out _ hb13).mono ?_
          rintro e w14 ⟨rfl, hb14⟩
          have hfin := below_call HB4.out (below_call hb13 hb14 (Nat.le_refl _)) (Nat.le_refl _)
          go_wp2_with fail
          go_ret
          exact ⟨rfl, hfin⟩
    · subst h1 h2
      clear HST HTW HPO HY H7 HR11 HQ
      go_wp2_with fail
      refine (HT.out _ HB11.out).mono ?_
      rintro e w12 ⟨rfl, hb12⟩
      have hfin := below_call HB4.out (below_call HB11.out hb12 (Nat.le_refl _)) (Nat.le_refl _)
      go_wp2_with fail
      go_ret
      exact ⟨rfl, hfin⟩
end Go.Proofs.YthbcogekfdllmaaGreatDoor
