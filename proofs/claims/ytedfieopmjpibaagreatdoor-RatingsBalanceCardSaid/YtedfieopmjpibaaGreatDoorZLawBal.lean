/-
  RatingsBalance: the law's own walk.
-/
import Derived.Test.YtedfieopmjpibaaGreatDoorZStream
import Derived.Test.YtedfieopmjpibaaGreatDoorZBalPure
import Derived.Test.YtedfieopmjpibaaGreatDoorZRate2
import Derived.Test.YtedfieopmjpibaaGreatDoorZEqual
import Derived.Test.YtedfieopmjpibaaGreatDoorZReady
import Derived.Test.YtedfieopmjpibaaGreatDoorZSep
import Derived.Deep.DeepCutAuto
import Derived.Deep.RegionLaw
import Derived.Deep.RegionHeld3
import Derived.Deep.QuietTactic
import Derived.BigQuiet
namespace Go.Proofs.YtedfieopmjpibaaGreatDoor
open Go Go.RowKit
attribute [local go_sem ↓] run_maxB

/-- what is behind the first m elements -/
theorem Rd.dropF {α : Type} {w : World} {b k n c g o : Nat} {f : α → List Value} {rs : List α} (h : Rd w b k (.slice (some ⟨g, o, none⟩) n c) n (rs.flatMap f)) (hf : ∀ a, (f a).length = k) (hk : 0 < k) (m : Nat) (hm : m ≤ n) :
    Rd w b k (.slice (some ⟨g, o + m * k, none⟩) (n - m) (c - m)) (n - m) ((rs.drop m).flatMap f) := by
  obtain ⟨hl, h1, h2, h3⟩ := h.cells hf hk
  refine ⟨_, _, rfl, by omega, by omega, by rw [flat_len f k hf, List.length_drop, hl], (fun e => by cases e), fun hn => ?_⟩
  obtain ⟨g', o', e1, e2, e3⟩ := h3 (by omega)
  injection e1 with e1
  injection e1 with e1 e4
  subst e1 e4
  refine ⟨g, o + m * k, rfl, e2, fun j u hu => ?_⟩
  have hj : j < (n - m) * k := by
    have := (List.getElem?_eq_some_iff.1 hu).1
    rw [flat_len f k hf, List.length_drop, hl] at this
    exact this
  obtain ⟨i, r, hi, hr, hjr⟩ : ∃ i r, i < n - m ∧ r < k ∧ j = i * k + r := ⟨j / k, j % k, (Nat.div_lt_iff_lt_mul hk).2 hj, Nat.mod_lt _ hk, by rw [Nat.mul_comm]; exact (Nat.div_add_mod j k).symm⟩
  subst hjr
  have hx := e3 (m + i) (by omega) r hr
  have hi2 : i < (rs.drop m).length := by rw [List.length_drop, hl]; exact hi
  rw [flat_get f k hf (rs.drop m) i r hi2 hr, List.getElem_drop] at hu
  rw [hu] at hx
  rw [← hx]
  congr 2
  rw [Nat.add_mul]
  omega
/-- as the walk spells what is behind the first two -/
theorem Rd.drop2 {w : World} {b n c g : Nat} {rs : List Rtd} (h : Rd w b 3 (.slice (some ⟨g, 0, none⟩) n c) n (rs.flatMap ratedC)) (hn : 2 ≤ n) :
    Rd w b 3 (.slice (if c = 2 then some ⟨g, 0, none⟩ else some ⟨g, 6, none⟩) (n - 2) (c - 2)) (n - 2) ((rs.drop 2).flatMap ratedC) := by
  have h2 := h.dropF ratedC_len (by omega) 2 hn
  by_cases hc : c = 2
  · rw [if_pos hc]
    obtain ⟨A', c', e1, e2, e3, e4, e5, e6⟩ := h2
    injection e1 with ea _ ec
    obtain ⟨_, hnc, _⟩ := h.cells ratedC_len (by omega)
    refine ⟨_, _, rfl, by omega, by omega, e4, (fun e => by cases e), fun hh => ?_⟩
    omega
  · rw [if_neg hc]
    exact h2
theorem milli_calls (N D v : Int) (w : World) (hv : (1000 * N).tdiv (max 1 D) = v) (h1 : -1125899906842624 ≤ N ∧ N ≤ 1125899906842624) (h2 : -1125899906842624 ≤ D ∧ D ≤ 1125899906842624) (_h3 : -1125899906842624 ≤ v ∧ v ≤ 1125899906842624) :
    Calls Tryz.prog 17 #[.agg #[.int .i64 N, .int .i64 D]] w (BRet (.int .i64 v) w) := by
  obtain ⟨k0, k1, k2, k3⟩ := (Blk.new w 27 #[.int .i64 N, .int .i64 D]).two
  have hb := (Below.refl w.heap.size w).alloc (Nat.le_refl _) (.cells #[.int .i64 N, .int .i64 D] 27)
  have HV := Lib.hid hv
  obtain ⟨M, hM⟩ : ∃ M, max 1 D = M := ⟨_, rfl⟩
  have hM1 : 1 ≤ M := by omega
  have hz : (M == 0) = false := by simp; omega
  have HM := Lib.hid hM
  clear hv
  go_enter Tryz.func17, Tryz.ntmps17
  go_wp2_with fail
  go_ret
  exact ⟨by rw [← HM.out, HV.out]; rfl, hb⟩

set_option maxRecDepth 100000 in
set_option maxHeartbeats 4000000 in
theorem bal_walk (a0 : Option Addr) (len0 cap0 : Nat) (z0 : List Int) (w : World) (w0 : InRow w a0 len0 cap0 z0) (ht : Tab w) :
    Calls Tryz.prog 4 #[.slice a0 len0 cap0] w fun e w' => e = .returned (.bool true) ∧ Below w.heap.size w w' := by
  have hs0 := strm_start w0 25
  have hb0 : Bx w.heap.size w.heap.size w (w.alloc (.cells #[.slice a0 len0 cap0, .int .i64 0] 25)) := (Bx.refl _ _ _).alloc (Nat.le_refl _) _
  clear w0
  go_enter Tryz.func4, Tryz.ntmps4
  go_wp2_with fail
  refine (rightRatedB_calls w.heap.size 0 _ hs0 (by omega)).mono ?_
  rintro e w1 ⟨v, rs, rfl, ho1, hl4, hrs, hB, hs1, hc1⟩
  have hlt0 := hs0.lt
  have hb1 := hb0.call hc1 (Nat.le_refl _)
  clear hs0 hb0 hc1
  go_wp2_with fail
  refine (range_calls w.heap.size _ 1 64 _ (by omega) (by omega) (by omega) hs1 (by omega)).mono ?_
  rintro e w2 ⟨wt, rfl, t1, t2, hs2, hc2⟩
  have hb2 := hb1.call hc2 (Nat.le_refl _)
  have ho2 := own_bx ho1 hc2 hlt0
  have hlt2 := hs2.lt
  obtain ⟨A0, c0, hv⟩ := own_form ho2
  subst hv
  have hcap := own_cap ho2
  obtain ⟨n, hn⟩ : ∃ n, rs.length = n := ⟨_, rfl⟩
  rw [hn] at ho2 hl4 hcap ⊢
  clear ho1 hs1 hb1 hc2
  by_cases h2 : n < 2
  · have hfin := hb2.below (Nat.le_refl _)
    have HRD := Lib.hid (ready_calls w.heap.size w2 hlt2 (ht.below hfin))
    go_wp2_with fail
    refine HRD.out.mono ?_
    rintro e w3 ⟨rfl, hb3⟩
    have hfin2 := below_call hfin hb3 (Nat.le_refl _)
    go_wp2_with fail
    go_ret
    exact ⟨rfl, hfin2⟩
  obtain ⟨a, b, t, rfl⟩ : ∃ a b t, rs = a :: b :: t := by
    rcases rs with _ | ⟨a, _ | ⟨b, t⟩⟩
    · simp at hn; omega
    · simp at hn; omega
    · exact ⟨a, b, t, rfl⟩
  obtain ⟨g, cp, hv3, hg, _⟩ := ho2.form (by omega)
  injection hv3 with hA0 _ hc0
  subst hA0 hc0
  have hn2 : 2 ≤ n := by omega
  have hlr0 : 0 < (a :: b :: t).length := by simp
  have hlr1 : 1 < (a :: b :: t).length := by simp
  have x0 := own_cell ratedC 3 ratedC_len ho2 0 0 hlr0 (by omega) (by omega)
  have x1 := own_cell ratedC 3 ratedC_len ho2 0 1 hlr0 (by omega) (by omega)
  have x2 := own_cell ratedC 3 ratedC_len ho2 0 2 hlr0 (by omega) (by omega)
  have x3 := own_cell ratedC 3 ratedC_len ho2 1 0 hlr1 (by omega) (by omega)
  have x4 := own_cell ratedC 3 ratedC_len ho2 1 1 hlr1 (by omega) (by omega)
  have x5 := own_cell ratedC 3 ratedC_len ho2 1 2 hlr1 (by omega) (by omega)
  simp only [ratedC, Nat.zero_mul, Nat.zero_add, Nat.one_mul, List.getElem_cons_zero, List.getElem_cons_succ, List.getElem?_cons_zero, List.getElem?_cons_succ, Nat.reduceAdd] at x0 x1 x2 x3 x4 x5
  obtain ⟨an, aN, aD⟩ := a
  obtain ⟨bn, bN, bD⟩ := b
  simp only at x0 x1 x2 x3 x4 x5
  have hgl := (ho2.lt g rfl).2
  have HO := Lib.hid ho2
  have HB := Lib.hid hB
  have HRS := Lib.hid hrs
  have HN := Lib.hid hn
  obtain ⟨va, va1, va2, vaN, vaD⟩ := hB.all _ (List.mem_cons_self ..)
  obtain ⟨vb, vb1, vb2, vbN, vbD⟩ := hB.all _ (List.mem_cons_of_mem _ (List.mem_cons_self ..))
  replace vaN : aN = _ := vaN
  replace vaD : aD = _ := vaD
  replace vbN : bN = _ := vbN
  replace vbD : bD = _ := vbD
  have hfa := balR_ratF (hB.all _ (List.mem_cons_self ..))
  have hfb := balR_ratF (hB.all _ (List.mem_cons_of_mem _ (List.mem_cons_self ..)))
  have hra := ratOK_of hfa
  have hrb := ratOK_of hfb
  have hia := (hrs _ (List.mem_cons_self ..)).2
  have hib := (hrs _ (List.mem_cons_of_mem _ (List.mem_cons_self ..))).2
  simp only at hra hrb hia hib hfa hfb
  have tA : thou aN aD = va := by rw [vaN, vaD]; exact balR_thou va1 va2
  have tB : thou bN bD = vb := by rw [vbN, vbD]; exact balR_thou vb1 vb2
  have HTA := Lib.hid tA
  have HTB := Lib.hid tB
  have HSZ : Hid (an.size ≤ 1000 ∧ bn.size ≤ 1000) := ⟨(hrs _ (List.mem_cons_self ..)).1, (hrs _ (List.mem_cons_of_mem _ (List.mem_cons_self ..))).1⟩
  have HM1 := Lib.hid (fun W => milli_calls aN aD va W (by rw [vaN, vaD]; exact low_milli va) (by unfold I64 at hia; have := RatP.lowN_abs (n := va) (d := 1000) (by omega); rw [← vaN] at this; omega) (by have h1 := RatP.lowD_pos (n := va) (d := 1000) (by omega); have h2 := RatP.lowD_le (n := va) (d := 1000) (by omega); rw [← vaD] at h1 h2; omega) (by omega))
  have HM2 := Lib.hid (fun W => milli_calls bN bD vb W (by rw [vbN, vbD]; exact low_milli vb) (by unfold I64 at hib; have := RatP.lowN_abs (n := vb) (d := 1000) (by omega); rw [← vbN] at this; omega) (by have h1 := RatP.lowD_pos (n := vb) (d := 1000) (by omega); have h2 := RatP.lowD_le (n := vb) (d := 1000) (by omega); rw [← vbD] at h1 h2; omega) (by omega))
  have HE1 := Lib.hid (fun W => expected1_calls aN aD bN bD W hia.1 hia.2 hib.1 hib.2 hra hrb (by rw [hfa, hfb]; rfl))
  have HE2 := Lib.hid (fun W => expected1_calls bN bD aN aD W hib.1 hib.2 hia.1 hia.2 hrb hra (by rw [hfa, hfb]; rfl))
  rw [tA, tB] at HE1 HE2
  have hbe := RatP.expd_bd va vb
  have hbf := RatP.expd_bd vb va
  have h2p := two_point (D := 800000) (by omega) (expd_two va vb)
  have pN1 := RatP.lowN_abs (n := RatP.expd va vb) (d := 800000) (by omega)
  have pD1 := RatP.lowD_pos (n := RatP.expd va vb) (d := 800000) (by omega)
  have pD2 := RatP.lowD_le (n := RatP.expd va vb) (d := 800000) (by omega)
  have qN1 := RatP.lowN_abs (n := RatP.expd vb va) (d := 800000) (by omega)
  have qD1 := RatP.lowD_pos (n := RatP.expd vb va) (d := 800000) (by omega)
  have qD2 := RatP.lowD_le (n := RatP.expd vb va) (d := 800000) (by omega)
  obtain ⟨pN, hpN⟩ : ∃ z, RatP.lowN (RatP.expd va vb) 800000 = z := ⟨_, rfl⟩
  obtain ⟨pD, hpD⟩ : ∃ z, RatP.lowD (RatP.expd va vb) 800000 = z := ⟨_, rfl⟩
  obtain ⟨qN, hqN⟩ : ∃ z, RatP.lowN (RatP.expd vb va) 800000 = z := ⟨_, rfl⟩
  obtain ⟨qD, hqD⟩ : ∃ z, RatP.lowD (RatP.expd vb va) 800000 = z := ⟨_, rfl⟩
  rw [hpN] at pN1
  rw [hpD] at pD1 pD2
  rw [hqN] at qN1
  rw [hqD] at qD1 qD2
  rw [hpN, hpD, hqN, hqD] at h2p
  rw [hpN, hpD] at HE1
  rw [hqN, hqD] at HE2
  have m1 := mul_bd (x := pN) (y := qD) (X := 800000) (Y := 800000) (by omega) (by omega) (by omega) (by omega) (by omega)
  have m2 := mul_bd (x := qN) (y := pD) (X := 800000) (Y := 800000) (by omega) (by omega) (by omega) (by omega) (by omega)
  have m3 := mul_bd (x := pD) (y := qD) (X := 800000) (Y := 800000) (by omega) (by omega) (by omega) (by omega) (by omega)
  have hne : (pN * qD + qN * pD != pD * qD) = false := by rw [h2p]; simp
  have hS0 := ((Sp.start hs2).add #[.string an, .int .i64 aN, .int .i64 aD] 44).add #[.string bn, .int .i64 bN, .int .i64 bD] 44
  have hS0' := ((Sp.start hs2).add #[.string bn, .int .i64 bN, .int .i64 bD] 44).add #[.string an, .int .i64 aN, .int .i64 aD] 44
  simp only [size1] at hS0 hS0'
  obtain ⟨m1a, m1b⟩ := m1
  obtain ⟨m2a, m2b⟩ := m2
  obtain ⟨m3a, m3b⟩ := m3
  clear ho2 hB hrs hn vaN vaD vbN vbD hra hrb hfa hfb hia hib tA tB hpN hpD hqN hqD h2p hbe hbf pN1 qN1 hs2
  go_upto_region 5 with (fail)
  go_cut [6, 7] (fun s6 s7 W => ∃ ga gb : Nat, s6 = .pointer (some ⟨ga, 0, none⟩) ∧ s7 = .pointer (some ⟨gb, 0, none⟩) ∧ Sp w2 w.heap.size 13 W [rBlk ga 44 #[.string an, .int .i64 aN, .int .i64 aD], rBlk gb 44 #[.string bn, .int .i64 bN, .int .i64 bD]])
  case first =>
    go_region
    · go_wp2_with fail
      go_meet
      exact ⟨_, _, rfl, rfl, (hS0.front 1 rfl rfl).drew⟩
    · go_wp2_with fail
      go_meet
      exact ⟨_, _, rfl, rfl, hS0'.drew⟩
  case rest =>
    obtain ⟨ga, gb, rfl, rfl, hS⟩ := hcut
    clear hS0 hS0'
    have kA : Blk _ ga _ _ := hS.nth 0 rfl
    have kB : Blk _ gb _ _ := hS.nth 1 rfl
    have a1 := kA.cell 1
    have a2 := kA.cell 2
    have b1 := kB.cell 1
    have b2 := kB.cell 2
    go_wp2_with fail
    refine (HE1.out _).mono ?_
    rintro e w3 ⟨rfl, hb3⟩
    have hS3 := (hS.callB hb3).add #[.int .i64 pN, .int .i64 pD] 27
    clear kA kB a1 a2 b1 b2 hS hb3
    have kA : Blk _ ga _ _ := hS3.nth 1 rfl
    have kB : Blk _ gb _ _ := hS3.nth 2 rfl
    have a1 := kA.cell 1
    have a2 := kA.cell 2
    have b1 := kB.cell 1
    have b2 := kB.cell 2
    go_wp2_with fail
    refine (HE2.out _).mono ?_
    rintro e w4 ⟨rfl, hb4⟩
    have hS4 := (hS3.callB hb4).add #[.int .i64 qN, .int .i64 qD] 27
    clear kA kB a1 a2 b1 b2 hS3 hb4
    have hlt4 : w.heap.size < (w4.alloc (.cells #[.int .i64 qN, .int .i64 qD] 27)).heap.size := hS4.lt
    obtain ⟨W5, hW5⟩ : ∃ W5, w4.alloc (.cells #[.int .i64 qN, .int .i64 qD] 27) = W5 := ⟨_, rfl⟩
    obtain ⟨gq, hgq⟩ : ∃ gq, w4.heap.size = gq := ⟨_, rfl⟩
    rw [hW5] at hS4 hlt4
    rw [hgq] at hS4
    have HER := Lib.hid (errsK_calls w.heap.size _ 2 2 [0, 0] _ (Rd.lit0 (w := W5) (cs := #[.int .i64 0, .int .i64 0]) (t := 31) (size := 1) (n := 2) hlt4 (by decide) rfl))
    go_wp2_with fail
    refine HER.out.mono ?_
    rintro e w5 ⟨rfl, nq, rfl⟩
    have hS6 := (hS4.alloc (.cells #[.int .i64 0, .int .i64 0] 31)).drewN nq
    clear HER
    obtain ⟨W6, hW6⟩ : ∃ W6, (W5.alloc (.cells #[.int .i64 0, .int .i64 0] 31)).drewN nq = W6 := ⟨_, rfl⟩
    rw [hW6] at hS6
    rw [hW6]
    clear hS4 hW6
    have kp : Blk _ w3.heap.size _ _ := hS6.nth 1 rfl
    have kq : Blk _ gq _ _ := hS6.nth 0 rfl
    have p0 := kp.cell 0
    have p1 := kp.cell 1
    have q0 := kq.cell 0
    have q1 := kq.cell 1
    have hS7 : Sp w2 w.heap.size 13 W6 [rBlk ga 44 #[.string an, .int .i64 aN, .int .i64 aD], rBlk gb 44 #[.string bn, .int .i64 bN, .int .i64 bD]] := (hS6.drop 1 rfl rfl).drop 0 rfl rfl
    have hRD : Rd w2 w.heap.size 3 (.slice (some ⟨g, 0, none⟩) n c0) n (((an, aN, aD) :: (bn, bN, bD) :: t).flatMap ratedC) := Rd.own HO.out hlt0
    have HR1 := Lib.hid (sp_range hS7.drew 1 2 (by omega) (by omega) (by omega) (by omega))
    have HR2 : Hid (∀ W, Sp w2 w.heap.size (13 + 1) W [rBlk ga 44 #[.string an, .int .i64 aN, .int .i64 aD], rBlk gb 44 #[.string bn, .int .i64 bN, .int .i64 bD]] → Calls Tryz.prog 7 #[.pointer (some ⟨w.heap.size, 0, none⟩), .int .i64 1, .int .i64 2] W (SpS (IsInt 1 2) w2 w.heap.size (13 + 1 + 1) [rBlk ga 44 #[.string an, .int .i64 aN, .int .i64 aD], rBlk gb 44 #[.string bn, .int .i64 bN, .int .i64 bD]])) :=
      fun W h => sp_range h 1 2 (by omega) (by omega) (by omega) (by omega)
    have HRT : Hid (∀ W k1 k2, 1 ≤ k1 → k1 ≤ 2 → 1 ≤ k2 → k2 ≤ 2 → Sp w2 w.heap.size (13 + 1 + 1) W [rBlk ga 44 #[.string an, .int .i64 aN, .int .i64 aD], rBlk gb 44 #[.string bn, .int .i64 bN, .int .i64 bD]] → Calls Tryz.prog 15 #[.slice (some ⟨g, 0, none⟩) n c0, .slice (some ⟨W.heap.size, 0, none⟩) 2 2, .int .i64 wt] (W.alloc (.cells #[.int .i64 k1, .string an, .int .i64 0, .int .i64 k2, .string bn, .int .i64 0] 50))
        (fun e w' => ∃ v, e = .returned (.tuple #[v, .int .i64 0]) ∧ w'.ownsRow (W.alloc (.cells #[.int .i64 k1, .string an, .int .i64 0, .int .i64 k2, .string bn, .int .i64 0] 50)).heap.size 44 3 v n (((an, RatP.lowN (balN va vb k1 k2 wt) 1000, RatP.lowD (balN va vb k1 k2 wt) 1000) :: (bn, RatP.lowN (balN vb va k2 k1 wt) 1000, RatP.lowD (balN vb va k2 k1 wt) 1000) :: t).flatMap ratedC) ∧ Sp w2 w.heap.size 15 w' [rBlk ga 44 #[.string an, .int .i64 aN, .int .i64 aD], rBlk gb 44 #[.string bn, .int .i64 bN, .int .i64 bD]])) := by
      intro W k1 k2 k11 k12 k21 k22 hW
      have hl : (((an, aN, aD) :: (bn, bN, bD) :: t) : List Rtd).length ≤ 4 := by rw [HN.out]; exact hl4
      have hW2 := hW.alloc (.cells #[.int .i64 k1, .string an, .int .i64 0, .int .i64 k2, .string bn, .int .i64 0] 50)
      have hss : Rss (race2 (an, aN, aD) (bn, bN, bD) k1 k2) := by
        intro r hr
        unfold race2 at hr
        simp only [List.mem_cons, List.not_mem_nil, or_false] at hr
        rcases hr with rfl | rfl
        · exact ⟨(by unfold I64; omega : I64 k1), HSZ.out.1, rfl⟩
        · exact ⟨(by unfold I64; omega : I64 k2), HSZ.out.2, rfl⟩
      refine (rate1_calls w.heap.size _ n c0 _ _ 2 2 (race2 (an, aN, aD) (bn, bN, bD) k1 k2) wt _ (hW2.rd hRD) (Rd.lit0 (n := 2) hW.lt (by decide) rfl) HRS.out hss (race2_fault HB.out hl ⟨k11, k12⟩ ⟨k21, k22⟩ ⟨t1, t2⟩)).mono ?_
      rintro e w' ⟨v, he, ho, hb⟩
      rw [race2_rate HB.out HTA.out HTB.out] at ho
      exact ⟨v, he, ho, hW2.callB hb⟩
    have HCL : Hid (∀ W K, Sp w2 w.heap.size K W [rBlk ga 44 #[.string an, .int .i64 aN, .int .i64 aD], rBlk gb 44 #[.string bn, .int .i64 bN, .int .i64 bD]] → W.cell? ⟨ga, 0, none⟩ = some (.string an) ∧ W.cell? ⟨gb, 0, none⟩ = some (.string bn)) := fun W K h => ⟨Blk.cell (h.nth 0 rfl) 0, Blk.cell (h.nth 1 rfl) 0⟩
    obtain ⟨l0, l1⟩ := HCL.out _ _ hS7
    clear hS6
    go_upto_region 10 with (fail)
    clear kp kq p0 p1 q0 q1
    go_region_held3 (fun W => W.cell? ⟨ga, 0, none⟩ = some (.string an) ∧ W.cell? ⟨gb, 0, none⟩ = some (.string bn))
      (first | exact HCL.out _ _ hS7.drew | exact HCL.out _ _ hS10 | exact HCL.out _ _ (hS9.alloc _) | exact HCL.out _ _ hS9 | exact HCL.out _ _ hS8)
      (first
        | (go_at_call 7; ((with_reducible refine HR1.out.mono ?_); rintro e w8 ⟨_, rfl, ⟨k1, rfl, k11, k12⟩, hS8⟩))
        | (go_at_call 7; ((with_reducible refine (HR2.out w8 hS8).mono ?_); rintro e w9 ⟨_, rfl, ⟨k2, rfl, k21, k22⟩, hS9⟩))
        | (go_at_call 15; ((with_reducible refine (HRT.out w9 k1 k2 k11 k12 k21 k22 hS9).mono ?_); rintro e w10 ⟨v, rfl, ho10, hS10⟩)))
    obtain ⟨v0, cv, hv0⟩ := own_form ho10
    subst hv0
    obtain ⟨gy, cy, hvy, hgy, _⟩ := ho10.form (by omega)
    injection hvy with hvA _ hvc
    subst hvA hvc
    have hgw : w.heap.size < (w9.alloc (.cells #[.int .i64 k1, .string an, .int .i64 0, .int .i64 k2, .string bn, .int .i64 0] 50)).heap.size := (hS9.alloc _).lt
    have hcy := own_cap ho10
    have h2t := balN_two (k1 := k1) (k2 := k2) ⟨va1, va2⟩ ⟨vb1, vb2⟩ ⟨t1, t2⟩
    have hba : -10000000 ≤ balN va vb k1 k2 wt ∧ balN va vb k1 k2 wt ≤ 10000000 := by unfold balN RatP.clampR; omega
    have hbb : -10000000 ≤ balN vb va k2 k1 wt ∧ balN vb va k2 k1 wt ≤ 10000000 := by unfold balN RatP.clampR; omega
    have HM3 := Lib.hid (fun W => milli_calls (RatP.lowN (balN va vb k1 k2 wt) 1000) (RatP.lowD (balN va vb k1 k2 wt) 1000) (balN va vb k1 k2 wt) W (low_milli _) (by have := RatP.lowN_abs (n := balN va vb k1 k2 wt) (d := 1000) (by omega); omega) (by have h1 := RatP.lowD_pos (n := balN va vb k1 k2 wt) (d := 1000) (by omega); have h2 := RatP.lowD_le (n := balN va vb k1 k2 wt) (d := 1000) (by omega); omega) (by omega))
    have HM4 := Lib.hid (fun W => milli_calls (RatP.lowN (balN vb va k2 k1 wt) 1000) (RatP.lowD (balN vb va k2 k1 wt) 1000) (balN vb va k2 k1 wt) W (low_milli _) (by have := RatP.lowN_abs (n := balN vb va k2 k1 wt) (d := 1000) (by omega); omega) (by have h1 := RatP.lowD_pos (n := balN vb va k2 k1 wt) (d := 1000) (by omega); have h2 := RatP.lowD_le (n := balN vb va k2 k1 wt) (d := 1000) (by omega); omega) (by omega))
    obtain ⟨NA, hNA⟩ : ∃ z, balN va vb k1 k2 wt = z := ⟨_, rfl⟩
    obtain ⟨NB, hNB⟩ : ∃ z, balN vb va k2 k1 wt = z := ⟨_, rfl⟩
    rw [hNA, hNB] at ho10 h2t
    have HMX := Lib.hid h2t
    clear h2t
    rw [hNA] at HM3 hba
    rw [hNB] at HM4 hbb
    obtain ⟨xN, hxN⟩ : ∃ z, RatP.lowN NA 1000 = z := ⟨_, rfl⟩
    obtain ⟨xD, hxD⟩ : ∃ z, RatP.lowD NA 1000 = z := ⟨_, rfl⟩
    obtain ⟨yN, hyN⟩ : ∃ z, RatP.lowN NB 1000 = z := ⟨_, rfl⟩
    obtain ⟨yD, hyD⟩ : ∃ z, RatP.lowD NB 1000 = z := ⟨_, rfl⟩
    rw [hxN, hxD, hyN, hyD] at ho10
    rw [hxN, hxD] at HM3
    rw [hyN, hyD] at HM4
    have hrx : Rd w10 w.heap.size 3 (.slice (some ⟨g, 0, none⟩) n c0) n (((an, aN, aD) :: (bn, bN, bD) :: t).flatMap ratedC) := hS10.rd hRD
    have hry : Rd w10 w.heap.size 3 (.slice (some ⟨gy, 0, none⟩) n _) n (((an, xN, xD) :: (bn, yN, yD) :: t).flatMap ratedC) := Rd.own ho10 hgw
    have HX := Lib.hid (hrx.drop2 hn2)
    have HY := Lib.hid (hry.drop2 hn2)
    have HEQ := Lib.hid (fun m => equalRated_calls w.heap.size _ _ (n - 2) _ _ t (w10.drewN m) (HY.out.below (below_drewN (Below.refl _ _) m)) (HX.out.below (below_drewN (Below.refl _ _) m)))
    clear hrx hry hgw l0 l1
    go_upto_region 11 with (fail)
    go_quiet (first | (go_at_call 16; refine Calls.quiet_of (HEQ.out _)))
    generalize (if cv = 2 then some (⟨gy, 0, none⟩ : Addr) else some ⟨gy, 6, none⟩) = PY
    generalize (if c0 = 2 then some (⟨g, 0, none⟩ : Addr) else some ⟨g, 6, none⟩) = PX
    have hS11 := hS10.drewN nq
    have ho11 := own_drewN ho10 nq
    have hB11 := (hb2.call hS11.bx (Nat.le_refl _)).below (Nat.le_refl _)
    obtain ⟨W11, hW11⟩ : ∃ W11, w10.drewN nq = W11 := ⟨_, rfl⟩
    rw [hW11] at hS11 ho11 hB11
    rw [hW11]
    have hlt11 := hS11.lt
    have kA : Blk W11 ga 44 #[.string an, .int .i64 aN, .int .i64 aD] := hS11.nth 0 rfl
    have kB : Blk W11 gb 44 #[.string bn, .int .i64 bN, .int .i64 bD] := hS11.nth 1 rfl
    have y1 := own_cell ratedC 3 ratedC_len ho11 0 1 (by simp) (by omega) (by omega)
    have y2 := own_cell ratedC 3 ratedC_len ho11 0 2 (by simp) (by omega) (by omega)
    have y4 := own_cell ratedC 3 ratedC_len ho11 1 1 (by simp) (by omega) (by omega)
    have y5 := own_cell ratedC 3 ratedC_len ho11 1 2 (by simp) (by omega) (by omega)
    replace y1 : W11.cell? ⟨gy, 1, none⟩ = some (.int .i64 xN) := y1
    replace y2 : W11.cell? ⟨gy, 2, none⟩ = some (.int .i64 xD) := y2
    replace y4 : W11.cell? ⟨gy, 4, none⟩ = some (.int .i64 yN) := y4
    replace y5 : W11.cell? ⟨gy, 5, none⟩ = some (.int .i64 yD) := y5
    have HS : Hid (∀ W, Below W11.heap.size W11 W → W.cell? ⟨ga, 1, none⟩ = some (.int .i64 aN) ∧ W.cell? ⟨ga, 2, none⟩ = some (.int .i64 aD) ∧ W.cell? ⟨gb, 1, none⟩ = some (.int .i64 bN) ∧ W.cell? ⟨gb, 2, none⟩ = some (.int .i64 bD) ∧ W.cell? ⟨gy, 1, none⟩ = some (.int .i64 xN) ∧ W.cell? ⟨gy, 2, none⟩ = some (.int .i64 xD) ∧ W.cell? ⟨gy, 4, none⟩ = some (.int .i64 yN) ∧ W.cell? ⟨gy, 5, none⟩ = some (.int .i64 yD)) :=
      fun W h => ⟨(kA.below h).cell 1, (kA.below h).cell 2, (kB.below h).cell 1, (kB.below h).cell 2, below_cell h y1, below_cell h y2, below_cell h y4, below_cell h y5⟩
    have hdr : Below W11.heap.size W11 W11.drew := below_drewN (Below.refl _ _) 1
    obtain ⟨ya1, ya2, yb1, yb2, yx1, yx2, yy1, yy2⟩ := HS.out _ (Below.refl _ _)
    obtain ⟨ba1, ba2⟩ := hba
    obtain ⟨bb1, bb2⟩ := hbb
    clear m1a m1b m2a m2b m3a m3b hne pD1 pD2 qD1 qD2 hgl hl4 hlr0 hlr1 hcap hcy k11 k12 k21 k22 t1 t2 x0 x1 x2 x3 x4 x5
    clear kA kB y1 y2 y4 y5 hS10 ho10 hS11 ho11 hW11 hNA hNB hxN hxD hyN hyD HEQ HX HY
    have ix0 : 0 < n := by omega
    have ix1 : (1 : Int) < (n : Int) := by omega
    go_upto_region 14 with (fail)
    go_region_held3 (fun W => W.cell? ⟨ga, 1, none⟩ = some (.int .i64 aN) ∧ W.cell? ⟨ga, 2, none⟩ = some (.int .i64 aD) ∧ W.cell? ⟨gb, 1, none⟩ = some (.int .i64 bN) ∧ W.cell? ⟨gb, 2, none⟩ = some (.int .i64 bD) ∧ W.cell? ⟨gy, 1, none⟩ = some (.int .i64 xN) ∧ W.cell? ⟨gy, 2, none⟩ = some (.int .i64 xD) ∧ W.cell? ⟨gy, 4, none⟩ = some (.int .i64 yN) ∧ W.cell? ⟨gy, 5, none⟩ = some (.int .i64 yD))
      (first | exact HS.out _ hdr | exact HS.out _ hB15 | exact HS.out _ hB14 | exact HS.out _ hB13 | exact HS.out _ hB12)
      (first
        | (go_at_call 17; ((with_reducible refine (HM1.out W11.drew).mono ?_); rintro e w12 ⟨rfl, hb12⟩; have hB12 := below_call hdr hb12 (Nat.le_refl _)))
        | (go_at_call 17; ((with_reducible refine (HM2.out w12).mono ?_); rintro e w13 ⟨rfl, hb13⟩; have hB13 := below_call hB12 hb13 (Nat.le_refl _)))
        | (go_at_call 17; ((with_reducible refine (HM3.out w13).mono ?_); rintro e w14 ⟨rfl, hb14⟩; have hB14 := below_call hB13 hb14 (Nat.le_refl _)))
        | (go_at_call 17; ((with_reducible refine (HM4.out w14).mono ?_); rintro e w15 ⟨rfl, hb15⟩; have hB15 := below_call hB14 hb15 (Nat.le_refl _))))
    have hfin := below_call hB11 hB15 (Nat.le_refl _)
    have hmx : decide (max (va + vb - (NA + NB)) (NA + NB - (va + vb)) ≤ 1) = true := decide_eq_true HMX.out
    have HRD := Lib.hid (ready_calls w.heap.size w15 (by have := hB15.size; omega) (ht.below hfin))
    go_wp2_with fail
    refine HRD.out.mono ?_
    rintro e w16 ⟨rfl, hb16⟩
    have hfin2 := below_call hfin hb16 (Nat.le_refl _)
    go_wp2_with fail
    go_ret
    exact ⟨rfl, hfin2⟩
end Go.Proofs.YtedfieopmjpibaaGreatDoor
