/-
  EventsFollowed: the law's own walk.
-/
import Derived.Test.YtebaaoacmmhppaaGreatZLawStart
import Derived.Test.YtebaaoacmmhppaaGreatZEv1W
import Derived.Test.YtebaaoacmmhppaaGreatZEvZ
import Derived.Test.YtebaaoacmmhppaaGreatZEv5W
import Derived.Test.YtebaaoacmmhppaaGreatZErB
import Derived.Test.YtebaaoacmmhppaaGreatZMrg2
import Derived.Test.YtebaaoacmmhppaaGreatZDk6
import Derived.Test.YtebaaoacmmhppaaGreatZOrM
import Derived.Deep.DeepCutAuto
namespace Go.Proofs.YtebaaoacmmhppaaGreat
open Go Go.RowKit

set_option maxRecDepth 100000 in
set_option maxHeartbeats 8000000 in
theorem evf_walk (a0 : Option Addr) (len0 cap0 : Nat) (z0 : List Int) (w : World) (w0 : InRow w a0 len0 cap0 z0) :
    Calls Tryz.prog 4 #[.slice a0 len0 cap0] w fun e w' => e = .returned (.bool true) ∧ Below w.heap.size w w' := by
  have hs0 := strmX_start w0 25
  have hb0 : Bx w.heap.size w.heap.size w (w.alloc (.cells #[.slice a0 len0 cap0, .int .i64 0] 25)) := (Bx.refl _ _ _).alloc (Nat.le_refl _) _
  obtain ⟨W1, hW1⟩ : ∃ W, W = w.alloc (.cells #[.slice a0 len0 cap0, .int .i64 0] 25) := ⟨_, rfl⟩
  obtain ⟨zs, hzs⟩ : ∃ zs : ZsT, (⟨z0.take len0, w.heap.size⟩ : ZsT) = zs := ⟨_, rfl⟩
  rw [← hW1, hzs] at hs0
  rw [← hW1] at hb0
  have hX0 := SpX.start hs0
  clear w0 hs0 hzs
  go_enter Tryz.func4, Tryz.ntmps4
  go_wp2_with fail
  rw [← hW1]
  clear hW1
  obtain ⟨b, hb⟩ : ∃ b, b = w.heap.size := ⟨_, rfl⟩
  rw [← hb] at hX0 hb0 ⊢
  have HBE := Lib.hid hb
  have HB0 := Lib.hid hb0
  clear hb hb0
  refine (spE_range hX0 0 18 (by omega) (by omega) (by omega) (by omega)).mono ?_
  rintro e w2 ⟨m, rfl, _, m0, m1, hX2⟩
  obtain ⟨m, rfl⟩ := Int.eq_ofNat_of_zero_le m0
  go_wp2_with fail
  refine (eventsX_calls b 1 m zs w2 hX2.strm (by omega) (by omega)).mono ?_
  rintro e w3 ⟨A1, c1, L1, aa, r, rfl, _, hLm, hLZ, hr, hX3⟩
  have hXZ := evnX_Z hLZ
  have hXL := evnX_len L1
  obtain ⟨l1, hl⟩ : ∃ l, evnX L1 = l := ⟨_, rfl⟩
  rw [hl] at hX3 hXZ hXL ⊢
  have HXZ := Lib.hid hXZ
  have hn0 : l1.length ≤ 18 := by omega
  obtain ⟨n1, hn⟩ : ∃ n, l1.length = n := ⟨_, rfl⟩
  rw [hn] at hX3 hn0 ⊢
  have HN := Lib.hid hn
  have hc2 : b < w2.heap.size := hX2.lt
  have HB2 := Lib.hid hX2.bx
  have hr1 : r ≤ 361 := by omega
  clear hX0 hX2 hLZ hLm hl hXL hXZ hn hr m0 m1
  go_wp2_with fail
  refine (spE_range hX3 0 6 (by omega) (by omega) (by omega) (by omega)).mono ?_
  rintro e w4 ⟨m', rfl, _, m0, m1, hX4⟩
  obtain ⟨m', rfl⟩ := Int.eq_ofNat_of_zero_le m0
  go_wp2_with fail
  refine (eventsX_calls b (r + 1) m' zs w4 hX4.strm (by omega) (by omega)).mono ?_
  rintro e w5 ⟨A2, c2, L2, aa2, r2, rfl, _, hLm, hLZ, hr, hX5⟩
  have hXZ := evnX_Z hLZ
  have hXL := evnX_len L2
  obtain ⟨l2, hl⟩ : ∃ l, evnX L2 = l := ⟨_, rfl⟩
  rw [hl] at hX5 hXZ hXL ⊢
  have HXZ2 := Lib.hid hXZ.bevW
  have hn02 : l2.length ≤ 18 := by omega
  obtain ⟨n2, hn⟩ : ∃ n, l2.length = n := ⟨_, rfl⟩
  rw [hn] at hX5 hn02 ⊢
  have hc4 : b < w4.heap.size := hX4.lt
  have hr22 : r2 ≤ 500 := by omega
  have hX6 : SpX zs w2 b r2 w5 [rOwn w4.heap.size 62 8 (.slice A2 n2 c2) n2 (l2.flatMap bevC), rOwn w2.heap.size 62 8 (.slice A1 n1 c1) n1 (l1.flatMap bevC)] := hX4.merge hX5
  obtain ⟨B4, hB4⟩ : ∃ z, w4.heap.size = z := ⟨_, rfl⟩
  rw [hB4] at hX6 hc4
  clear hX3 hX4 hX5 hLZ hLm hl hXL hXZ hn hr m0 m1 hB4
  go_wp2_with fail
  refine (spE_someLN 1000 hX6 [⟨#[114, 97]⟩, ⟨#[114, 98]⟩, ⟨#[114, 99]⟩, ⟨#[122, 122]⟩] #[.string ⟨#[114, 97]⟩, .string ⟨#[114, 98]⟩, .string ⟨#[114, 99]⟩, .string ⟨#[122, 122]⟩] 9 4 rfl (by decide) (by unfold maxLen; omega) rfl (by decide) (by omega)).mono ?_
  rintro e w6 ⟨id, rfl, _, hidz, hX7⟩
  go_wp2_with fail
  refine (boardTime_calls hX7 (by omega)).mono ?_
  rintro e w7 ⟨u, rfl, _, u0, u1, hX8⟩
  clear hX6 hX7
  go_upto_region 3 with (fail)
  go_cut [46] (fun s46 W => ∃ w33, w33 = W ∧ ∃ (B : Bool) (p : Nat), s46 = .bool B ∧ (B = true → 0 < n1) ∧ p ≤ 600 ∧ SpX zs w2 b p W [rOwn B4 62 8 (.slice A2 n2 c2) n2 (l2.flatMap bevC), rOwn w2.heap.size 62 8 (.slice A1 n1 c1) n1 (l1.flatMap bevC)])
  case first =>
    by_cases h0 : n1 = 0
    · subst h0
      go_wp2_with fail
      go_meet
      exact ⟨_, rfl, false, _, rfl, fun h => (by cases h), by omega, hX8⟩
    · have hpos : (0 : Int) < (n1 : Int) := by omega
      go_wp2_with fail
      refine (spE_flip hX8 2 (by omega) (by omega) (by omega)).mono ?_
      rintro e w8 ⟨fv, rfl, _, hX9⟩
      clear hX8
      go_wp2_with fail
      go_meet
      exact ⟨_, rfl, fv, _, rfl, fun _ => by omega, by omega, hX9⟩
  case rest =>
  obtain ⟨w8, rfl, B, p8, rfl, hB, hp8, hX9⟩ := hcut
  clear hX8
  go_upto_if 46 with (fail)
  go_cut [5] (fun s5 W => ∃ w33, w33 = W ∧ ∃ (A : Option Addr) (n c : Nat) (l : List Bev) (p : Nat), s5 = .slice A n c ∧ n ≤ 18 ∧ (∀ x ∈ l, BevW x) ∧ Rd W b 8 (.slice A n c) n (l.flatMap bevC) ∧ SpX zs w2 b p W [rOwn w2.heap.size 62 8 (.slice A1 n1 c1) n1 (l1.flatMap bevC)])
  case first =>
    cases B
    · go_wp2_with fail
      go_meet
      exact ⟨_, rfl, A2, n2, c2, l2, _, rfl, hn02, HXZ2.out, Rd.own (hX9.head : World.ownsRow _ _ _ _ _ _ _) hc4, hX9.tail⟩
    · have hpos := hB rfl
      obtain ⟨g1, hg1⟩ := own_ptr (hX9.nth 1 rfl : World.ownsRow _ _ _ _ _ _ _) hpos
      subst hg1
      clear hB
      go_wp2_with fail
      refine (spE_next hX9 n1 (by omega) (by omega) (by omega)).mono ?_
      rintro e w9 ⟨q, rfl, _, q0, q1, hXa⟩
      obtain ⟨k, rfl⟩ := Int.eq_ofNat_of_zero_le q0
      have hown : w9.ownsRow w2.heap.size 62 8 (.slice (some ⟨g1, 0, none⟩) n1 c1) n1 (l1.flatMap bevC) := hXa.nth 1 rfl
      have hcap := own_cap hown
      have hkn : k < n1 := by omega
      have hrd := (Rd.own hown hc2).dropE k (by omega)
      rw [Nat.zero_add] at hrd
      have hk1 : ¬ c1 = k := by omega
      have hk2 : ¬ (c1 : Int) = (k : Int) := by omega
      have hk3 : (k : Int) ≤ (n1 : Int) := by omega
      have hk4 : (k : Int) ≤ (c1 : Int) := by omega
      have hk5 : (n1 : Int) - (k : Int) = ((n1 - k : Nat) : Int) := by omega
      have hk6 : (c1 : Int) - (k : Int) = ((c1 - k : Nat) : Int) := by omega
      have HCL := Lib.hid (cloneEv_calls b _ (n1 - k) (c1 - k) _ w9 hrd (bevC_oneL _) (by omega))
      have hlb : (l1.drop k).length = n1 - k := by rw [List.length_drop, HN.out]
      have HWB : Hid (∀ x ∈ l1.drop k, BevW x) := Lib.hid (fun x hx => HXZ.out.bevW x (List.mem_of_mem_drop hx))
      have hXa1 := hXa.tail
      clear hX9 hown hrd hXa
      go_wp2_with fail
      refine HCL.out.mono ?_
      rintro e w10 ⟨v, rfl, hown2, hb10⟩
      have hXb := hXa1.ownB hb10 hown2
      obtain ⟨A3, c3, rfl⟩ := own_form hown2
      obtain ⟨nb, hnb⟩ : ∃ z, n1 - k = z := ⟨_, rfl⟩
      obtain ⟨lb, hlbe⟩ : ∃ z, l1.drop k = z := ⟨_, rfl⟩
      rw [hnb] at hXb hlb ⊢
      rw [hlbe] at hXb hlb HWB
      have hnb0 : 0 < nb := by omega
      have hnb18 : nb ≤ 18 := by omega
      clear HCL hown2 hb10 hlbe hXa1 hnb hk1 hk2 hk3 hk4 hk5 hk6
      go_wp2_with fail
      refine (spE_flip hXb 4 (by omega) (by omega) (by omega)).mono ?_
      rintro e w11 ⟨fv, rfl, _, hXc⟩
      clear hXb
      cases fv
      · go_wp2_with fail
        go_meet
        exact ⟨_, rfl, A3, nb, c3, lb, _, rfl, hnb18, HWB.out, Rd.own (hXc.head : World.ownsRow _ _ _ _ _ _ _) hc2, hXc.tail⟩
      · obtain ⟨g3, hg3⟩ := own_ptr (hXc.head : World.ownsRow _ _ _ _ _ _ _) hnb0
        subst hg3
        have hlt : 0 < lb.length := by omega
        have ho : w11.ownsRow w2.heap.size 62 8 (.slice (some ⟨g3, 0, none⟩) nb c3) nb (lb.flatMap bevC) := hXc.head
        have e6 := (ev_cells ho 0 hlt hnb0).2.2.2.2.2.2.1
        simp only [Nat.zero_mul, Nat.zero_add] at e6
        have f6 : w11.frozen? ⟨g3, 6, none⟩ = false := ho.frozenAt _
        obtain ⟨⟨at_, kd, idx, whx, by1, ct, tm, dt⟩, hx⟩ : ∃ x, lb[0] = x := ⟨_, rfl⟩
        rw [hx] at e6
        simp only at e6
        obtain ⟨t1, ht1⟩ : ∃ t1, IntKind.i64.wrap (tm + 1) = t1 := ⟨_, rfl⟩
        have HF : Hid (∃ l : List Bev, (∀ x ∈ l, BevW x) ∧ SpX zs w2 b (p8 + 1 + 1) (w11.setCell ⟨g3, 6, none⟩ (.int .i64 t1)) [rOwn w2.heap.size 62 8 (.slice (some ⟨g3, 0, none⟩) nb c3) nb (l.flatMap bevC), rOwn w2.heap.size 62 8 (.slice (some ⟨g1, 0, none⟩) n1 c1) n1 (l1.flatMap bevC)]) := Lib.hid (by
          refine ⟨lb.set 0 ⟨at_, kd, idx, whx, by1, ct, t1, dt⟩, fun x hx2 => ?_, ?_⟩
          · rcases List.mem_or_eq_of_mem_set hx2 with h | h
            · exact HWB.out x h
            · subst h
              have h3 := HWB.out _ (List.getElem_mem hlt)
              rw [hx] at h3
              exact ⟨h3.1, h3.2, h3.3, h3.4⟩
          · rw [← hlb] at hXc
            have h := hXc.field bevC 8 bevC_len 0 6 hlt (by omega) (.int .i64 t1) ⟨at_, kd, idx, whx, by1, ct, t1, dt⟩ (by rw [hx]; rfl)
            rw [List.length_set, hlb] at h
            exact h)
        have hz0 : (0 : Int) < (nb : Int) := by omega
        clear hXc ho hx hlt hlb HWB
        go_wp2_with fail
        go_meet
        obtain ⟨l, h1, h2⟩ := HF.out
        exact ⟨_, rfl, some ⟨g3, 0, none⟩, nb, c3, l, _, rfl, hnb18, h1, Rd.own (h2.head : World.ownsRow _ _ _ _ _ _ _) hc2, h2.tail⟩
  case rest =>
  obtain ⟨w9, rfl, A5, n5, c5, l5, p9, rfl, hn5, hW5, hr5, hXf⟩ := hcut
  have hR1 : Bevs w9 b A1 n1 c1 l1 := ⟨Rd.own (hXf.head : World.ownsRow _ _ _ _ _ _ _) hc2, HXZ.out.bevW⟩
  have hR2 : Bevs w9 b A5 n5 c5 l5 := ⟨hr5, hW5⟩
  have hlt9 : b < w9.heap.size := hXf.lt
  have HBW : Hid (Below w.heap.size w w9) := Lib.hid (by
    have h2 := (HB0.out.call HB2.out (by have := HBE.out; omega)).call hXf.bx (by have := HBE.out; omega)
    rw [← HBE.out]
    exact h2.below (Nat.le_refl _))
  have hn3 : n1 ≤ 3000 := by omega
  have hn39 : n1 + n5 ≤ 39 := by omega
  have HLT0 := Lib.hid hlt9
  have HR1 := Lib.hid (fun W (h : Below w9.heap.size w9 W) => hR1.below h)
  have HR2 := Lib.hid (fun W (h : Below w9.heap.size w9 W) => hR2.below h)
  have hiz2 : id.size ≤ 1000000 := by omega
  have HE : Hid (bevsF l1 = 0 → (∀ x ∈ l1, bevF x = 0) ∧ (∀ x ∈ l1, EvK x)) := Lib.hid (fun h => ⟨(bevs_ok h).1, evK_all h⟩)
  have HKD : Hid (bevsF l1 = 0 → KD (folE l1 u).1) := Lib.hid (fun h => by
    have h2 := KD.fol l1 u (evK_all h) l1.length (Nat.le_refl _)
    rwa [List.take_length] at h2)
  have P1 := Lib.hid (mergeO_calls b A1 A5 n1 c1 n5 c5 l1 l5 w9 hR1 hR2 hn39)
  have P2 := Lib.hid (fun W h => refused_calls b A1 n1 c1 l1 W (HR1.out W h) hn3)
  have P3 := Lib.hid (fun W h => state_calls b A1 n1 c1 l1 u id W (HR1.out W h) hn3 hiz2)
  have P4 := Lib.hid (fun W h => waiting_calls b A1 n1 c1 l1 u W (HR1.out W h) hn3)
  have P5 := Lib.hid (fun W h => eventsFault_calls b A1 n1 c1 l1 W (HR1.out W h))
  have P6 := Lib.hid (fun W h => eventsFault_calls b A5 n5 c5 l5 W (HR2.out W h))
  have P7 := Lib.hid (fun W h => checkEvents_calls b A1 n1 c1 l1 W (HR1.out W h))
  have G1 := Lib.hid (fun W h h0 => eventsOfO_calls b A1 A5 n1 c1 n5 c5 l1 l5 W (HR1.out W h) (HR2.out W h) hn39 h0)
  have G2 := Lib.hid (fun W h h0 => refusedEvents_calls b A1 n1 c1 l1 W (HR1.out W h).rd (HE.out h0).2 hn3)
  have G3 := Lib.hid (fun W h h0 => waitingOf_calls b A1 n1 c1 l1 u W (HR1.out W h).rd (HE.out h0).1 hn3)
  have G4 := Lib.hid (fun W h h0 => stateOf_calls b A1 n1 c1 l1 u id W (HR1.out W h).rd (HE.out h0).2 hn3 hiz2)
  have NM := Lib.hid (fun W => momentFaultB_calls u W)
  have E1 := Lib.hid (fun W => errsB_calls [bevsF l1, bevsF l5] _ 2 rfl rfl (by omega) W)
  have E2 := Lib.hid (fun W => errsB_calls [bevsF l1, moB u] _ 2 rfl (mom_first l1 u) (by omega) W)
  have HMB : Hid (firstE [bevsF l1, bevsF l5] ≠ 0 → mgE l1 l5 = firstE [bevsF l1, bevsF l5] ∧ mgM l1 l5 = []) := Lib.hid mg_bad
  have HMO : Hid (momF l1 u = 0 → bevsF l1 = 0) := Lib.hid momF_ok
  obtain ⟨F, hF⟩ : ∃ z, bevsF l1 = z := ⟨_, rfl⟩
  obtain ⟨F2, hF2⟩ : ∃ z, bevsF l5 = z := ⟨_, rfl⟩
  obtain ⟨MF, hMF⟩ : ∃ z, momF l1 u = z := ⟨_, rfl⟩
  obtain ⟨mo, hmo⟩ : ∃ z, moB u = z := ⟨_, rfl⟩
  obtain ⟨ME, hME⟩ : ∃ z, mgE l1 l5 = z := ⟨_, rfl⟩
  obtain ⟨M, hM⟩ : ∃ z, mgM l1 l5 = z := ⟨_, rfl⟩
  rw [hF] at P2 P5 P7 G2 G3 G4 HE HKD HMO
  rw [hF2] at P6
  rw [hF, hF2] at E1 HMB G1
  obtain ⟨F0, hF0⟩ : ∃ z, firstE [F, F2] = z := ⟨_, rfl⟩
  rw [hF0] at E1 HMB G1
  rw [hF, hmo, hMF] at E2
  rw [hMF] at P3 P4 HMO
  rw [hmo] at NM
  rw [hME, hM] at P1 G1 HMB
  obtain ⟨ST, hST⟩ : ∃ z, sttT l1 id u = z := ⟨_, rfl⟩
  obtain ⟨SE, hSE⟩ : ∃ z, sttE l1 id u = z := ⟨_, rfl⟩
  rw [hST, hSE] at P3 G4
  obtain ⟨T3, hT3⟩ : ∃ z, (if MF = 0 then ST else noBev) = z := ⟨_, rfl⟩
  obtain ⟨X3, hX3⟩ : ∃ z, (if MF = 0 then SE else MF) = z := ⟨_, rfl⟩
  rw [hT3, hX3] at P3
  have HT3 := Lib.hid hT3
  have HX3 := Lib.hid hX3
  obtain ⟨n8, hn8⟩ : ∃ z, M.length = z := ⟨_, rfl⟩
  have HN8 := Lib.hid hn8
  unfold MgO at P1 G1
  rw [hn8] at P1 G1
  simp only [List.map_cons, List.map_nil] at E1 E2
  clear hXf hr5 hR1 hR2 hlt9 hF hF2 hMF hmo hME hM hF0 hST hSE hT3 hX3 hn8 hn3 hiz2 hidz HB2 HB0 HR1 HR2 HXZ HXZ2 HE hW5 hX9 hB hc2 hc4 hn0 hn02 hn39
  go_wp2_with fail
  refine P1.out.mono ?_
  rintro e w10 ⟨A8, c8, rfl, hS1⟩
  have S10 := hS1.below
  have HRd8 : Hid (Rd w10 b 8 (.slice A8 n8 c8) n8 (M.flatMap bevC)) := Lib.hid (Rd.own (hS1.head : World.ownsRow _ _ _ _ _ _ _) HLT0.out)
  clear hS1 P1
  go_wp2_with fail
  refine (P2.out _ S10).mono ?_
  rintro e w11 ⟨A10, c10, R, hRa, hRb, rfl, hS2⟩
  have HRA := Lib.hid hRa
  have HRB := Lib.hid hRb
  obtain ⟨n10, hn10⟩ : ∃ z, R.length = z := ⟨_, rfl⟩
  rw [hn10] at hS2 ⊢
  have HN10 := Lib.hid hn10
  have S11 := below_call S10 hS2.below (Nat.le_refl _)
  have hRd10 : Rd w11 b 1 (.slice A10 n10 c10) n10 (intsV R) := Rd.own (hS2.head : World.ownsRow _ _ _ _ _ _ _) (Nat.lt_of_lt_of_le HLT0.out (by have := S10.size; omega))
  have HX11 := Lib.hid (And.intro (HRd8.out.below hS2.below) hRd10)
  clear hRa hRb hS2 hn10 hRd10 HRd8 P2 S10
  go_wp2_with fail
  refine (P3.out _ S11).mono ?_
  rintro e w12 ⟨rfl, hb12⟩
  have S12 := below_call S11 hb12 (Nat.le_refl _)
  have HX12 := Lib.hid (And.intro (HX11.out.1.below hb12) (HX11.out.2.below hb12))
  clear hb12 HX11 P3 S11
  go_wp2_with fail
  refine (P4.out _ S12).mono ?_
  rintro e w13 ⟨A14, c14, ids, hI4, rfl, hS4⟩
  have HI4 := Lib.hid hI4
  obtain ⟨n14, hn14⟩ : ∃ z, ids.length = z := ⟨_, rfl⟩
  rw [hn14] at hS4 ⊢
  have HN14 := Lib.hid hn14
  have S13 := below_call S12 hS4.below (Nat.le_refl _)
  have hRd14 : Rd w13 b 1 (.slice A14 n14 c14) n14 (strsV ids) := Rd.own (hS4.head : World.ownsRow _ _ _ _ _ _ _) (Nat.lt_of_lt_of_le HLT0.out (by have := S12.size; omega))
  have HX13 := Lib.hid (And.intro (HX12.out.1.below hS4.below) (And.intro (HX12.out.2.below hS4.below) hRd14))
  clear hI4 hS4 hn14 hRd14 HX12 P4 S12
  go_wp2_with fail
  refine (P5.out _ S13).mono ?_
  rintro e w14 ⟨rfl, hb14⟩
  have S14 := below_call S13 hb14 (Nat.le_refl _)
  have T14 := hb14
  have HS13 := Lib.hid S13
  clear hb14 P5 S13
  go_wp2_with fail
  refine (P6.out _ S14).mono ?_
  rintro e w15 ⟨rfl, hb15⟩
  have T15 := below_call T14 hb15 (Nat.le_refl _)
  clear T14 hb15 S14 P6
  go_wp2_with fail
  refine (E1.out _).mono ?_
  rintro e w16 ⟨rfl, hb16⟩
  have T16 := below_call T15 hb16 (Nat.le_refl _)
  clear T15 hb16 E1
  go_wp2_with fail
  refine (NM.out _).mono ?_
  rintro e w17 ⟨rfl, hb17⟩
  have T17 := below_call T16 hb17 (Nat.le_refl _)
  clear T16 hb17 NM
  go_wp2_with fail
  refine (E2.out _).mono ?_
  rintro e w18 ⟨rfl, hb18⟩
  have T18 := below_call T17 hb18 (Nat.le_refl _)
  clear T17 hb18 E2
  go_upto_if 101 with (fail)
  go_cut [20, 17] (fun s20 s17 W => ∃ w33, w33 = W ∧ ∃ A' c', s20 = .slice A' n8 c' ∧ s17 = .int .i64 ME ∧ Rd W b 8 (.slice A' n8 c') n8 (M.flatMap bevC) ∧ Below w13.heap.size w13 W)
  case first =>
    by_cases h0 : F0 = 0
    · have HG := Lib.hid (G1.out _ (below_call HS13.out T18 (Nat.le_refl _)) h0)
      subst h0
      clear HMB G1
      go_wp2_with fail
      refine HG.out.mono ?_
      rintro e w19 ⟨A', c', rfl, hS19⟩
      have hrd : Rd w19 b 8 (.slice A' n8 c') n8 (M.flatMap bevC) := Rd.own (hS19.head : World.ownsRow _ _ _ _ _ _ _) (Nat.lt_of_lt_of_le HLT0.out (by have := HS13.out.size; have := T18.size; omega))
      have HRD := Lib.hid hrd
      have T19 := Lib.hid (below_call T18 hS19.below (Nat.le_refl _))
      clear hS19 hrd HG T18
      go_wp2_with fail
      go_meet
      exact ⟨_, rfl, A', c', rfl, rfl, HRD.out, T19.out⟩
    · have hx : (F0 == 0) = false := by simpa using h0
      obtain ⟨e1, e2⟩ := HMB.out h0
      have e3 : n8 = 0 := by rw [← HN8.out, e2]; rfl
      clear h0
      go_wp2_with fail
      go_meet
      exact ⟨_, rfl, none, 0, by rw [e3], by rw [e1], by rw [e3, e2]; exact Rd.nil _ _ _, T18⟩
  case rest =>
  obtain ⟨w19, rfl, A20, c20, rfl, rfl, hRd20, T19⟩ := hcut
  have HX19 := Lib.hid (And.intro (And.intro (HX13.out.1.below T19) hRd20) (And.intro (HX13.out.2.1.below T19) (HX13.out.2.2.below T19)))
  clear hRd20 T18 G1 HMB HX13 HN8
  go_upto_if 109 with (fail)
  go_cut [21] (fun s21 W => ∃ w33, w33 = W ∧ ∃ A' c', s21 = .slice A' n10 c' ∧ Rd W b 1 (.slice A' n10 c') n10 (intsV R) ∧ Below w19.heap.size w19 W)
  case first =>
    by_cases h0 : F = 0
    · have HG := Lib.hid (G2.out _ (below_call HS13.out T19 (Nat.le_refl _)) h0)
      have hre := HRA.out h0
      rw [← hre] at HG
      have hlen : R.length = n10 := HN10.out
      rw [hlen] at HG
      subst h0
      clear HRA HRB hre G2
      go_wp2_with fail
      refine HG.out.mono ?_
      rintro e w20 ⟨A', c', rfl, hS20⟩
      have hrd : Rd w20 b 1 (.slice A' n10 c') n10 (intsV R) := Rd.own (hS20.head : World.ownsRow _ _ _ _ _ _ _) (Nat.lt_of_lt_of_le HLT0.out (by have := HS13.out.size; have := T19.size; omega))
      have HRD := Lib.hid hrd
      have T20 := Lib.hid hS20.below
      clear hS20 hrd HG T19 hlen
      go_wp2_with fail
      go_meet
      exact ⟨_, rfl, A', c', rfl, HRD.out, T20.out⟩
    · have hx : (F == 0) = false := by simpa using h0
      have e2 := HRB.out h0
      have e3 : n10 = 0 := by rw [← HN10.out, e2]; rfl
      clear h0
      go_wp2_with fail
      go_meet
      exact ⟨_, rfl, none, 0, by rw [e3], by rw [e3, e2]; exact Rd.nil _ _ _, Below.refl _ _⟩
  case rest =>
  obtain ⟨w20, rfl, A21, c21, rfl, hRd21, hb20⟩ := hcut
  have T20 := below_call T19 hb20 (Nat.le_refl _)
  have HX20 := Lib.hid (And.intro (And.intro (HX19.out.1.1.below hb20) (HX19.out.1.2.below hb20)) (And.intro (And.intro (HX19.out.2.1.below hb20) hRd21) (HX19.out.2.2.below hb20)))
  clear hRd21 hb20 T19 G2 HRA HRB HX19 HN10
  go_upto_if 113 with (fail)
  go_cut [22, 23, 19] (fun s22 s23 s19 W => ∃ w33, w33 = W ∧ ∃ A' c', s22 = .slice A' n14 c' ∧ s23 = .string T3 ∧ s19 = .int .i64 X3 ∧ Rd W b 1 (.slice A' n14 c') n14 (strsV ids) ∧ Below w20.heap.size w20 W)
  case first =>
    by_cases h0 : MF = 0
    · have HG3 := Lib.hid (G3.out _ (below_call HS13.out T20 (Nat.le_refl _)) (HMO.out h0))
      have HG4 := Lib.hid (fun W (h : Below w20.heap.size w20 W) => G4.out W (below_call HS13.out (below_call T20 h (Nat.le_refl _)) (Nat.le_refl _)) (HMO.out h0))
      have HQ := Lib.hid (HI4.out.1 h0)
      have HKK := Lib.hid (HKD.out (HMO.out h0))
      have e1 := HT3.out
      rw [if_pos h0] at e1
      have e2 := HX3.out
      rw [if_pos h0] at e2
      subst e1 e2 h0
      clear HI4 HKD HMO G3 G4
      go_wp2_with fail
      refine HG3.out.mono ?_
      rintro e w21 ⟨A', c', ys, hY, rfl, hS21⟩
      obtain ⟨ys2, hY2, hid4⟩ := HQ.out
      have hone := swt_one HKK.out hY hY2
      subst hone
      have hyl : ys.length = n14 := by rw [← HN14.out, hid4, List.length_map]
      rw [← hid4] at hS21
      rw [hyl] at hS21 ⊢
      have hrd : Rd w21 b 1 (.slice A' n14 c') n14 (strsV ids) := Rd.own (hS21.head : World.ownsRow _ _ _ _ _ _ _) (Nat.lt_of_lt_of_le HLT0.out (by have := HS13.out.size; have := T20.size; omega))
      have HRD := Lib.hid hrd
      have hb21 := hS21.below
      clear hS21 hrd hyl hid4 hY hY2 HQ HG3
      go_wp2_with fail
      refine (HG4.out _ hb21).mono ?_
      rintro e w22 ⟨rfl, hb22⟩
      have HRD2 := Lib.hid (HRD.out.below hb22)
      have T22 := Lib.hid (below_call hb21 hb22 (Nat.le_refl _))
      clear hb21 hb22 HRD HG4
      go_wp2_with fail
      go_meet
      exact ⟨_, rfl, A', c', rfl, rfl, rfl, HRD2.out, T22.out⟩
    · have hx : (MF == 0) = false := by simpa using h0
      have e2 := HI4.out.2 h0
      have e3 : n14 = 0 := by rw [← HN14.out, e2]; rfl
      have e4 := HT3.out
      rw [if_neg h0] at e4
      have e5 := HX3.out
      rw [if_neg h0] at e5
      subst e4 e5
      clear h0
      go_wp2_with fail
      go_meet
      exact ⟨_, rfl, none, 0, by rw [e3], rfl, rfl, by rw [e3, e2]; exact Rd.nil _ _ _, Below.refl _ _⟩
  case rest =>
  obtain ⟨w28, rfl, A22, c22, rfl, rfl, rfl, hRd22, hb28⟩ := hcut
  have T28 := below_call T20 hb28 (Nat.le_refl _)
  have HX28 := And.intro (And.intro (HX20.out.1.1.below hb28) (HX20.out.1.2.below hb28)) (And.intro (And.intro (HX20.out.2.1.1.below hb28) (HX20.out.2.1.2.below hb28)) (And.intro (HX20.out.2.2.below hb28) hRd22))
  have HRD := Lib.hid (fun V (h : Below w28.heap.size w28 V) => And.intro (And.intro (HX28.1.1.below h) (HX28.1.2.below h)) (And.intro (And.intro (HX28.2.1.1.below h) (HX28.2.1.2.below h)) (And.intro (HX28.2.2.1.below h) (HX28.2.2.2.below h))))
  have HFIN := Lib.hid (below_call HBW.out (below_call HS13.out T28 (Nat.le_refl _)) (by have := HBW.out.size; omega))
  have HLT := Lib.hid (Nat.lt_of_lt_of_le HLT0.out (by have := HS13.out.size; have := T28.size; omega) : b < w28.heap.size)
  have HBD := Lib.hid (fun V (h : Below w28.heap.size w28 V) => boarded_calls b V (Nat.lt_of_lt_of_le HLT.out h.size))
  have HP7 := Lib.hid (P7.out _ (below_call HS13.out T28 (Nat.le_refl _)))
  clear hb28 hRd22 HX28 HX20 HI4 HKD HMO G3 G4 T20 T28 HS13 HLT0 HBW P7 HN14 HT3 HX3
  have n1' : (F == F) = true := by simp
  have n2' : (ME == ME) = true := by simp
  have n3' : (X3 == X3) = true := by simp
  have n4' : (MF == MF) = true := by simp
  have n5' : (T3.toList == T3.toList) = true := by simp
  go_wp2_with fail
  refine HP7.out.mono ?_
  rintro e w29 ⟨rfl, hb29⟩
  have S29 := hb29
  clear hb29 HP7
  go_wp2_with fail
  refine (equalEv_calls b A8 A20 n8 c8 c20 M w29 (HRD.out _ S29).1.1 (HRD.out _ S29).1.2).mono ?_
  rintro e w30 ⟨rfl, nq, hw30⟩
  have S30 : Below w28.heap.size w28 w30 := by rw [hw30]; exact below_drewN S29 nq
  clear hw30 S29
  go_wp2_with fail
  refine (equalIn_calls b A10 A21 n10 c10 c21 R w30 (HRD.out _ S30).2.1.1 (HRD.out _ S30).2.1.2).mono ?_
  rintro e w31 ⟨rfl, nq2, hw31⟩
  have S31 : Below w28.heap.size w28 w31 := by rw [hw31]; exact below_drewN S30 nq2
  clear hw31 S30
  go_wp2_with fail
  refine (equalStr_calls b A14 A22 n14 c14 c22 ids w31 (HRD.out _ S31).2.2.1 (HRD.out _ S31).2.2.2).mono ?_
  rintro e w32 ⟨rfl, nq3, hw32⟩
  have S32 : Below w28.heap.size w28 w32 := by rw [hw32]; exact below_drewN S31 nq3
  clear hw32 S31 HRD
  go_wp2_with fail
  refine (HBD.out w32 S32).mono ?_
  rintro e w33 ⟨rfl, hb33⟩
  have S33 := below_call S32 hb33 (Nat.le_refl _)
  have hfin := below_call HFIN.out S33 (by have := HFIN.out.size; omega)
  clear S32 hb33 S33 HBD
  go_wp2_with fail
  go_ret
  exact ⟨rfl, hfin⟩
end Go.Proofs.YtebaaoacmmhppaaGreat
