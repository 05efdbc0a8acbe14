/-
  The reference's times by a contract. (Printed by gen_prs17.py.)
-/
import Derived.Test.YtedfieopmjpibaaDoorZPrs14
import Derived.Test.YtedfieopmjpibaaDoorZPrs4
namespace Go.Proofs.YtedfieopmjpibaaDoor
open Go Go.RowKit
attribute [local go_sem ↓] Go.wp_at_zero Go.wp_at_succ run_minC

/-- the times behind k stretches -/
def timK (start : Int) (L : List Pz) (t : Int) (k : Nat) : TSt := (L.take k).foldl (stepT t) (tim0 start)
theorem timK_step (start : Int) (L : List Pz) (t : Int) (k : Nat) (hk : k < L.length) : timK start L t (k + 1) = stepT t (timK start L t k) L[k] := by
  unfold timK
  rw [List.take_succ_eq_append_getElem hk, List.foldl_append]
  rfl
structure TB (k : Int) (s : TSt) : Prop where
  real : -345686400000 * k ≤ s.real ∧ s.real ≤ 345686400000 * k
  game : -345686400000 * k ≤ s.game ∧ s.game ≤ 345686400000 * k
  last : 0 ≤ s.last ∧ s.last ≤ 345686400000
theorem TB.step {k : Int} {s : TSt} (h : TB k s) (_hk : 0 ≤ k) {t : Int} {p : Pz} (ht : 0 ≤ t ∧ t ≤ 345686400000) (hp : 0 ≤ p.1 ∧ p.1 ≤ 345686400000) : TB (k + 1) (stepT t s p) := by
  obtain ⟨⟨r1, r2⟩, ⟨g1, g2⟩, ⟨l1, l2⟩⟩ := h
  refine ⟨?_, ?_, hp⟩
  · show -345686400000 * (k + 1) ≤ (if s.runs = true then s.real + (min p.1 t - min s.last t) else s.real) ∧ (if s.runs = true then s.real + (min p.1 t - min s.last t) else s.real) ≤ 345686400000 * (k + 1)
    split <;> omega
  · show -345686400000 * (k + 1) ≤ (if s.runs = true then (if s.loads = true then s.game else s.game + (min p.1 t - min s.last t)) else s.game) ∧ (if s.runs = true then (if s.loads = true then s.game else s.game + (min p.1 t - min s.last t)) else s.game) ≤ 345686400000 * (k + 1)
    split
    · split <;> omega
    · omega
theorem timK_bd (start : Int) (L : List Pz) (t : Int) (hs : 0 ≤ start ∧ start ≤ 345686400000) (ht : 0 ≤ t ∧ t ≤ 345686400000) (hL : ∀ p ∈ L, 0 ≤ p.1 ∧ p.1 ≤ 345686400000) : ∀ k, k ≤ L.length → TB k (timK start L t k)
  | 0, _ => by
    refine ⟨?_, ?_, hs⟩ <;> simp [timK, tim0]
  | k + 1, hk => by
    rw [timK_step start L t k hk]
    have := (timK_bd start L t hs ht hL k (by omega)).step (by omega) ht (hL _ (List.getElem_mem hk))
    simpa using this
theorem timK_all (start : Int) (b : List Pz) (t : Int) : timK start (b ++ [(t, 0)]) t (b ++ [(t, 0)]).length = timT start b t := by
  unfold timK timT
  rw [List.take_length]

set_option maxRecDepth 100000 in
set_option maxHeartbeats 4000000 in
theorem times_calls (b g : Nat) (x : Att) (A1 : Option Addr) (c1 : Nat) (A2 : Option Addr) (c2 : Nat) (t : Int) (w : World) (h : AttAt w b g x A1 c1 A2 c2) (hs : 0 ≤ x.start ∧ x.start ≤ 345686400000) (ht : 0 ≤ t ∧ t ≤ 345686400000)
    (hL : ∀ p ∈ x.breaks, 0 ≤ p.1 ∧ p.1 ≤ 345686400000) (hl : x.breaks.length ≤ 2000) :
    Calls Tryd.prog 46 #[.pointer (some ⟨g, 0, none⟩), .int .i64 t] w (BRet (.tuple #[.int .i64 (timesQ x.start x.breaks t).1, .int .i64 (timesQ x.start x.breaks t).2]) w) := by
  obtain ⟨i0, hi, hi0, hi1, hi2⟩ := info_parts info_press
  obtain ⟨k0, k1, k2⟩ := h.cells
  have HCL := Lib.hid (fun W (hW : Below w.heap.size w W) => clonePz_calls b A2 x.breaks.length c2 _ W (h.breaks.below hW) (pzC_one _) (by omega))
  have hLL : ∀ p ∈ x.breaks ++ [(t, 0)], 0 ≤ p.1 ∧ p.1 ≤ 345686400000 := by
    intro p hp
    rcases List.mem_append.1 hp with hp | hp
    · exact hL p hp
    · simp at hp; subst hp; exact ht
  have HBD := Lib.hid (timK_bd x.start (x.breaks ++ [(t, 0)]) t hs ht hLL)
  have HALL := Lib.hid (timK_all x.start x.breaks t)
  have HQ : Hid (timesQ x.start x.breaks t = ((timT x.start x.breaks t).real, (timT x.start x.breaks t).game)) := rfl
  have HLL := Lib.hid hLL
  obtain ⟨bs, hbs⟩ : ∃ bs, x.breaks = bs := ⟨_, rfl⟩
  rw [hbs] at k2 HCL HBD HALL HQ HLL hl ⊢
  obtain ⟨st, hst⟩ : ∃ st, x.start = st := ⟨_, rfl⟩
  rw [hst] at k0 HBD HALL HQ ⊢
  rw [HQ.out]
  obtain ⟨m, hm⟩ : ∃ m, bs.length = m := ⟨_, rfl⟩
  have HM := Lib.hid hm
  rw [hm] at k2 HCL hl
  have h00 : Hid (tim0 st = timK st (bs ++ [(t, 0)]) t 0) := rfl
  obtain ⟨t1, t2⟩ := ht
  clear h hs hL hLL hbs hst hm HQ
  go_enter Tryd.func46, Tryd.ntmps46
  go_wp2_with fail
  go_quiet (fail)
  have hq0 : Below w.heap.size w (w.drewN nq) := below_drewN (Below.refl _ _) nq
  have k2q := below_cell hq0 k2
  go_wp2_with fail
  refine (HCL.out _ hq0).mono ?_
  rintro e w1 ⟨v, rfl, ho1, hb1⟩
  have hS1 := (Sq.start w).callB hq0
  have hS2 := hS1.ownB hb1 ho1
  obtain ⟨A3, c3, hv⟩ := own_form ho1
  subst hv
  have hO : w1.ownsRow w.heap.size 61 2 (.slice A3 m c3) m (bs.flatMap pzC) := hS2.head
  have hz1 := hS2.size
  have hcap3 := own_cap hO
  clear hS1 ho1 hb1
  go_wp2_with (first
    | (at_builtin; refine wpList_append_own_at _ rfl _ _ 27 rfl w.heap.size 61 i0 (.agg #[.int .i64 0, .int .i64 0]) 2 16 Tryd.underlying27 hi hi0 hi1 hi2 rfl (by decide) _ _ _ rfl (hO.alloc _) ⟨w1.heap.size, 0, none⟩ 1 1 [.int .i64 t, .int .i64 0] rfl rfl (World.news_of_block (heap_alloc_new _ _)) (one2p rfl rfl) (by unfold maxLen; omega) (by omega) (by simp; omega) ?_; intro v' w8 hown' hgrow _ hblk; obtain ⟨A8, c8, hv8⟩ := own_form hown'; subst hv8; have hS8 := (hS2.alloc _).append hown' hgrow hblk; clear hown' hgrow hblk hO))
  have hS9 : Sq w w8 [rOwn w.heap.size 61 2 (.slice A8 (m + 1) c8) (m + 1) ((bs ++ [(t, 0)]).flatMap pzC)] := by
    rw [flat_pz]
    exact hS8
  have hO8 : w8.ownsRow w.heap.size 61 2 (.slice A8 (m + 1) c8) (m + 1) ((bs ++ [(t, 0)]).flatMap pzC) := hS9.head
  have hcap8 := own_cap hO8
  clear hO8
  have HLN : Hid ((bs ++ [(t, (0 : Int))]).length = m + 1) := by show _ = _; rw [List.length_append, HM.out]; rfl
  obtain ⟨L, hL⟩ : ∃ L, bs ++ [(t, (0 : Int))] = L := ⟨_, rfl⟩
  rw [hL] at hS9 HLN HBD HALL HLL h00
  clear hS8 hS2 hL
  go_loopw [6, 7, 8, 9, 10, 28] (fun re ga ru lo la i wr => ∃ (k : Nat) (S : TSt), k ≤ m + 1 ∧ i = .int .i64 k ∧ re = .int .i64 S.real ∧ ga = .int .i64 S.game ∧ ru = .bool S.runs ∧ lo = .bool S.loads ∧ la = .int .i64 S.last ∧ Hid (S = timK st L t k) ∧ Sq w wr [rOwn w.heap.size 61 2 (.slice A8 (m + 1) c8) (m + 1) (L.flatMap pzC)]) (fun _ _ _ _ _ i _ => m + 1 - (intOf i).toNat)
  case atStart => exact ⟨0, tim0 st, Nat.zero_le _, rfl, rfl, rfl, rfl, rfl, rfl, h00, hS9⟩
  case round =>
    clear hS9 h00
    obtain ⟨k, S, hk, rfl, rfl, rfl, rfl, rfl, rfl, HS, hS⟩ := hrel
    by_cases hlt : k < m + 1
    · have hkr : k < L.length := by rw [HLN.out]; exact hlt
      have hO : wr.ownsRow w.heap.size 61 2 (.slice A8 (m + 1) c8) (m + 1) (L.flatMap pzC) := hS.head
      obtain ⟨g8, cp, hv, _, _⟩ := hO.form (by omega)
      injection hv with hA _ hc
      subst hA hc
      have x0 := own_cell pzC 2 pzC_len hO k 0 hkr hlt (by omega)
      have x1 := own_cell pzC 2 pzC_len hO k 1 hkr hlt (by omega)
      have hstp := timK_step st L t k hkr
      rw [← HS.out] at hstp
      have hbd := HBD.out k (by omega)
      rw [← HS.out] at hbd
      have hpb := HLL.out _ (List.getElem_mem hkr)
      obtain ⟨p, hp⟩ : ∃ p, L[k] = p := ⟨_, rfl⟩
      rw [hp] at x0 x1 hstp hpb
      obtain ⟨pt, kd⟩ := p
      replace x0 : wr.cell? ⟨g8, k * 2, none⟩ = some (.int .i64 pt) := x0
      replace x1 : wr.cell? ⟨g8, k * 2 + 1, none⟩ = some (.int .i64 kd) := x1
      obtain ⟨re, ga, ru, lo, la⟩ := S
      obtain ⟨⟨r1, r2⟩, ⟨u1, u2⟩, ⟨l1, l2⟩⟩ := hbd
      simp only at r1 r2 u1 u2 l1 l2 hpb
      obtain ⟨p1, p2⟩ := hpb
      have hS2 := (hS.add #[.int .i64 pt, .int .i64 kd] 61).tail
      obtain ⟨d, hd⟩ : ∃ d, min pt t - min la t = d := ⟨_, rfl⟩
      have d1 : -345686400000 ≤ d ∧ d ≤ 345686400000 := by omega
      obtain ⟨d1, d2⟩ := d1
      have HD := Lib.hid hd
      have e0 : stepT t ⟨re, ga, ru, lo, la⟩ (pt, kd) = ⟨if ru = true then re + d else re, if ru = true then (if lo = true then ga else ga + d) else ga, runS ru (pt, kd), loadS lo (pt, kd), pt⟩ := by
        unfold stepT
        simp only
        rw [hd]
      rw [e0] at hstp
      clear hp hO hS hd e0
      rcases (show kd = 5 ∨ kd = 6 ∨ kd = 7 ∨ kd = 8 ∨ (kd ≠ 5 ∧ kd ≠ 6 ∧ kd ≠ 7 ∧ kd ≠ 8) by omega) with rfl | rfl | rfl | rfl | ⟨h5, h6, h7, h8⟩
      · cases ru
        · cases lo
          · have HN : Hid ((⟨re, ga, false, false, pt⟩ : TSt) = timK st L t (k + 1)) := by rw [hstp]; exact Lib.hid rfl
            clear hstp
            go_wp2_with fail
            go_roundw
            case rel => exact ⟨k + 1, (⟨re, ga, false, false, pt⟩ : TSt), by omega, by go_num, rfl, rfl, rfl, rfl, rfl, HN, hS2⟩
            case measure => simp [intOf]; omega
          · have HN : Hid ((⟨re, ga, false, true, pt⟩ : TSt) = timK st L t (k + 1)) := by rw [hstp]; exact Lib.hid rfl
            clear hstp
            go_wp2_with fail
            go_roundw
            case rel => exact ⟨k + 1, (⟨re, ga, false, true, pt⟩ : TSt), by omega, by go_num, rfl, rfl, rfl, rfl, rfl, HN, hS2⟩
            case measure => simp [intOf]; omega
        · cases lo
          · have HN : Hid ((⟨re + d, ga + d, false, false, pt⟩ : TSt) = timK st L t (k + 1)) := by rw [hstp]; exact Lib.hid rfl
            clear hstp
            go_wp2_with fail
            go_roundw
            case rel => exact ⟨k + 1, (⟨re + d, ga + d, false, false, pt⟩ : TSt), by omega, by go_num, by rw [HD.out], by rw [HD.out], rfl, rfl, rfl, HN, hS2⟩
            case measure => simp [intOf]; omega
          · have HN : Hid ((⟨re + d, ga, false, true, pt⟩ : TSt) = timK st L t (k + 1)) := by rw [hstp]; exact Lib.hid rfl
            clear hstp
            go_wp2_with fail
            go_roundw
            case rel => exact ⟨k + 1, (⟨re + d, ga, false, true, pt⟩ : TSt), by omega, by go_num, by rw [HD.out], rfl, rfl, rfl, rfl, HN, hS2⟩
            case measure => simp [intOf]; omega
      · cases ru
        · cases lo
          · have HN : Hid ((⟨re, ga, true, false, pt⟩ : TSt) = timK st L t (k + 1)) := by rw [hstp]; exact Lib.hid rfl
            clear hstp
            go_wp2_with fail
            go_roundw
            case rel => exact ⟨k + 1, (⟨re, ga, true, false, pt⟩ : TSt), by omega, by go_num, rfl, rfl, rfl, rfl, rfl, HN, hS2⟩
            case measure => simp [intOf]; omega
          · have HN : Hid ((⟨re, ga, true, true, pt⟩ : TSt) = timK st L t (k + 1)) := by rw [hstp]; exact Lib.hid rfl
            clear hstp
            go_wp2_with fail
            go_roundw
            case rel => exact ⟨k + 1, (⟨re, ga, true, true, pt⟩ : TSt), by omega, by go_num, rfl, rfl, rfl, rfl, rfl, HN, hS2⟩
            case measure => simp [intOf]; omega
        · cases lo
          · have HN : Hid ((⟨re + d, ga + d, true, false, pt⟩ : TSt) = timK st L t (k + 1)) := by rw [hstp]; exact Lib.hid rfl
            clear hstp
            go_wp2_with fail
            go_roundw
            case rel => exact ⟨k + 1, (⟨re + d, ga + d, true, false, pt⟩ : TSt), by omega, by go_num, by rw [HD.out], by rw [HD.out], rfl, rfl, rfl, HN, hS2⟩
            case measure => simp [intOf]; omega
          · have HN : Hid ((⟨re + d, ga, true, true, pt⟩ : TSt) = timK st L t (k + 1)) := by rw [hstp]; exact Lib.hid rfl
            clear hstp
            go_wp2_with fail
            go_roundw
            case rel => exact ⟨k + 1, (⟨re + d, ga, true, true, pt⟩ : TSt), by omega, by go_num, by rw [HD.out], rfl, rfl, rfl, rfl, HN, hS2⟩
            case measure => simp [intOf]; omega
      · cases ru
        · cases lo
          · have HN : Hid ((⟨re, ga, false, true, pt⟩ : TSt) = timK st L t (k + 1)) := by rw [hstp]; exact Lib.hid rfl
            clear hstp
            go_wp2_with fail
            go_roundw
            case rel => exact ⟨k + 1, (⟨re, ga, false, true, pt⟩ : TSt), by omega, by go_num, rfl, rfl, rfl, rfl, rfl, HN, hS2⟩
            case measure => simp [intOf]; omega
          · have HN : Hid ((⟨re, ga, false, true, pt⟩ : TSt) = timK st L t (k + 1)) := by rw [hstp]; exact Lib.hid rfl
            clear hstp
            go_wp2_with fail
            go_roundw
            case rel => exact ⟨k + 1, (⟨re, ga, false, true, pt⟩ : TSt), by omega, by go_num, rfl, rfl, rfl, rfl, rfl, HN, hS2⟩
            case measure => simp [intOf]; omega
        · cases lo
          · have HN : Hid ((⟨re + d, ga + d, true, true, pt⟩ : TSt) = timK st L t (k + 1)) := by rw [hstp]; exact Lib.hid rfl
            clear hstp
            go_wp2_with fail
            go_roundw
            case rel => exact ⟨k + 1, (⟨re + d, ga + d, true, true, pt⟩ : TSt), by omega, by go_num, by rw [HD.out], by rw [HD.out], rfl, rfl, rfl, HN, hS2⟩
            case measure => simp [intOf]; omega
          · have HN : Hid ((⟨re + d, ga, true, true, pt⟩ : TSt) = timK st L t (k + 1)) := by rw [hstp]; exact Lib.hid rfl
            clear hstp
            go_wp2_with fail
            go_roundw
            case rel => exact ⟨k + 1, (⟨re + d, ga, true, true, pt⟩ : TSt), by omega, by go_num, by rw [HD.out], rfl, rfl, rfl, rfl, HN, hS2⟩
            case measure => simp [intOf]; omega
      · cases ru
        · cases lo
          · have HN : Hid ((⟨re, ga, false, false, pt⟩ : TSt) = timK st L t (k + 1)) := by rw [hstp]; exact Lib.hid rfl
            clear hstp
            go_wp2_with fail
            go_roundw
            case rel => exact ⟨k + 1, (⟨re, ga, false, false, pt⟩ : TSt), by omega, by go_num, rfl, rfl, rfl, rfl, rfl, HN, hS2⟩
            case measure => simp [intOf]; omega
          · have HN : Hid ((⟨re, ga, false, false, pt⟩ : TSt) = timK st L t (k + 1)) := by rw [hstp]; exact Lib.hid rfl
            clear hstp
            go_wp2_with fail
            go_roundw
            case rel => exact ⟨k + 1, (⟨re, ga, false, false, pt⟩ : TSt), by omega, by go_num, rfl, rfl, rfl, rfl, rfl, HN, hS2⟩
            case measure => simp [intOf]; omega
        · cases lo
          · have HN : Hid ((⟨re + d, ga + d, true, false, pt⟩ : TSt) = timK st L t (k + 1)) := by rw [hstp]; exact Lib.hid rfl
            clear hstp
            go_wp2_with fail
            go_roundw
            case rel => exact ⟨k + 1, (⟨re + d, ga + d, true, false, pt⟩ : TSt), by omega, by go_num, by rw [HD.out], by rw [HD.out], rfl, rfl, rfl, HN, hS2⟩
            case measure => simp [intOf]; omega
          · have HN : Hid ((⟨re + d, ga, true, false, pt⟩ : TSt) = timK st L t (k + 1)) := by rw [hstp]; exact Lib.hid rfl
            clear hstp
            go_wp2_with fail
            go_roundw
            case rel => exact ⟨k + 1, (⟨re + d, ga, true, false, pt⟩ : TSt), by omega, by go_num, by rw [HD.out], rfl, rfl, rfl, rfl, HN, hS2⟩
            case measure => simp [intOf]; omega
      · have e5 : (kd == 5) = false := by simpa using h5
        have e6 : (kd == 6) = false := by simpa using h6
        have e7 : (kd == 7) = false := by simpa using h7
        have e8 : (kd == 8) = false := by simpa using h8
        cases ru
        · cases lo
          · have HN : Hid ((⟨re, ga, false, false, pt⟩ : TSt) = timK st L t (k + 1)) := by rw [hstp]; unfold runS loadS; simp only; rw [if_neg h5, if_neg h6, if_neg h7, if_neg h8]; exact Lib.hid rfl
            clear hstp
            go_wp2_with fail
            go_roundw
            case rel => exact ⟨k + 1, (⟨re, ga, false, false, pt⟩ : TSt), by omega, by go_num, rfl, rfl, rfl, rfl, rfl, HN, hS2⟩
            case measure => simp [intOf]; omega
          · have HN : Hid ((⟨re, ga, false, true, pt⟩ : TSt) = timK st L t (k + 1)) := by rw [hstp]; unfold runS loadS; simp only; rw [if_neg h5, if_neg h6, if_neg h7, if_neg h8]; exact Lib.hid rfl
            clear hstp
            go_wp2_with fail
            go_roundw
            case rel => exact ⟨k + 1, (⟨re, ga, false, true, pt⟩ : TSt), by omega, by go_num, rfl, rfl, rfl, rfl, rfl, HN, hS2⟩
            case measure => simp [intOf]; omega
        · cases lo
          · have HN : Hid ((⟨re + d, ga + d, true, false, pt⟩ : TSt) = timK st L t (k + 1)) := by rw [hstp]; unfold runS loadS; simp only; rw [if_neg h5, if_neg h6, if_neg h7, if_neg h8]; exact Lib.hid rfl
            clear hstp
            go_wp2_with fail
            go_roundw
            case rel => exact ⟨k + 1, (⟨re + d, ga + d, true, false, pt⟩ : TSt), by omega, by go_num, by rw [HD.out], by rw [HD.out], rfl, rfl, rfl, HN, hS2⟩
            case measure => simp [intOf]; omega
          · have HN : Hid ((⟨re + d, ga, true, true, pt⟩ : TSt) = timK st L t (k + 1)) := by rw [hstp]; unfold runS loadS; simp only; rw [if_neg h5, if_neg h6, if_neg h7, if_neg h8]; exact Lib.hid rfl
            clear hstp
            go_wp2_with fail
            go_roundw
            case rel => exact ⟨k + 1, (⟨re + d, ga, true, true, pt⟩ : TSt), by omega, by go_num, by rw [HD.out], rfl, rfl, rfl, rfl, HN, hS2⟩
            case measure => simp [intOf]; omega
    · obtain rfl : k = m + 1 := by omega
      have hfin := hS.below
      have HE : Hid (S = timT st bs t) := by
        have h1 := HS.out
        have h2 := HALL.out
        rw [HLN.out] at h2
        exact h1.trans h2
      go_wp2_with fail
      go_ret2
      exact ⟨by rw [← HE.out]; rfl, hfin⟩
end Go.Proofs.YtedfieopmjpibaaDoor
/-
  The reference's cutsOf by a contract. (Printed by gen_prs18.py.)
-/
namespace Go.Proofs.YtedfieopmjpibaaDoor
open Go Go.RowKit
attribute [local go_sem ↓] Go.wp_at_zero Go.wp_at_succ

/-- an attempt whose times can be reckoned -/
structure AtB (x : Att) : Prop where
  start : 0 ≤ x.start ∧ x.start ≤ 345686400000
  breaks : ∀ p ∈ x.breaks, 0 ≤ p.1 ∧ p.1 ≤ 345686400000
  ended : ∀ p ∈ x.ended, 0 ≤ p.1 ∧ p.1 ≤ 345686400000
  many : x.breaks.length ≤ 2000
  many2 : x.ended.length ≤ 2000
def CofS (l : List Cut) (w : World) (e : Ending) (w' : World) : Prop := ∃ v, e = .returned v ∧ w'.ownsRow w.heap.size 52 3 v l.length (l.flatMap cutC) ∧ Below w.heap.size w w'
def cutsQ (a : Option Att) : List Cut := match a with
  | none => []
  | some x => x.ended.map (cutQ x)
theorem cutsOf0_calls (w : World) : Calls Tryd.prog 47 #[.pointer none] w (CofS [] w) := by
  go_enter Tryd.func47, Tryd.ntmps47
  go_wp2_with fail
  go_ret
  exact ⟨_, rfl, World.ownsRow_nil _ _ _ _, Below.refl _ _⟩
theorem cuts_step (x : Att) (es : List Pz) (k : Nat) (hk : k < es.length) : ((es.take (k + 1)).map (cutQ x)).flatMap cutC = ((es.take k).map (cutQ x)).flatMap cutC ++ cutC (cutQ x es[k]) := by
  rw [List.take_succ_eq_append_getElem hk, List.map_append, List.flatMap_append]
  simp
set_option maxRecDepth 100000 in
set_option maxHeartbeats 4000000 in
theorem cutsOf1_calls (b g : Nat) (x : Att) (A1 : Option Addr) (c1 : Nat) (A2 : Option Addr) (c2 : Nat) (w : World) (h : AttAt w b g x A1 c1 A2 c2) (hB : AtB x) :
    Calls Tryd.prog 47 #[.pointer (some ⟨g, 0, none⟩)] w (CofS (x.ended.map (cutQ x)) w) := by
  obtain ⟨i0, hi, hi0, hi1, hi2⟩ := info_parts info_cut
  obtain ⟨_, k1, _⟩ := h.cells
  obtain ⟨m, hm⟩ : ∃ m, x.ended.length = m := ⟨_, rfl⟩
  have hrd := h.ended
  rw [hm] at hrd k1
  obtain ⟨hl, hnc, hcm, hcells⟩ := hrd.cells pzC_len (by omega)
  unfold maxLen at hcm
  have HTI := Lib.hid (fun W t (hW : Below w.heap.size w W) (ht : 0 ≤ t ∧ t ≤ 345686400000) => times_calls b g x A1 c1 A2 c2 t W (h.below hW) hB.start ht hB.breaks hB.many)
  have HBE := Lib.hid hB.ended
  have hm2 := hB.many2
  rw [hm] at hm2
  have HC := Lib.hid hcells
  have HM := Lib.hid hl
  obtain ⟨es, hes⟩ : ∃ es, x.ended = es := ⟨_, rfl⟩
  rw [hes] at HC HBE HM ⊢
  have hS0 : Sq w w [rOwn w.heap.size 52 3 (.slice none 0 0) 0 (((es.take 0).map (cutQ x)).flatMap cutC)] := (Sq.start w).nil w.heap.size 52 3
  clear h hB hl hcells hes hm hrd
  go_enter Tryd.func47, Tryd.ntmps47
  go_wp2_with fail
  go_loopw [3, 14] (fun v i wr => ∃ k : Nat, k ≤ m ∧ i = .int .i64 k ∧ Sq w wr [rOwn w.heap.size 52 3 v k (((es.take k).map (cutQ x)).flatMap cutC)]) (fun _ i _ => m - (intOf i).toNat)
  case atStart => exact ⟨0, Nat.zero_le _, rfl, hS0⟩
  case round =>
    clear hS0
    obtain ⟨k, hk, rfl, hS⟩ := hrel
    by_cases hlt : k < m
    · have hkr : k < es.length := by rw [HM.out]; exact hlt
      obtain ⟨g8, o, hA, _, hcs⟩ := HC.out (by omega)
      subst hA
      have x0 := below_cell hS.below (hcs k hkr 0 (by omega))
      have x1 := below_cell hS.below (hcs k hkr 1 (by omega))
      have hst := cuts_step x es k hkr
      have hpb := HBE.out _ (List.getElem_mem hkr)
      obtain ⟨p, hp⟩ : ∃ p, es[k] = p := ⟨_, rfl⟩
      rw [hp] at x0 x1 hst hpb
      obtain ⟨pt, kd⟩ := p
      replace x0 : wr.cell? ⟨g8, o + k * 2, none⟩ = some (.int .i64 pt) := x0
      replace x1 : wr.cell? ⟨g8, o + k * 2 + 1, none⟩ = some (.int .i64 kd) := x1
      obtain ⟨p1, p2⟩ := hpb
      simp only at p1 p2
      have hz := hS.size
      by_cases h3 : kd = 3
      · subst h3
        have HN : Hid (((es.take (k + 1)).map (cutQ x)).flatMap cutC = ((es.take k).map (cutQ x)).flatMap cutC ++ [.int .i64 0, .int .i64 0, .bool true]) := hst
        have hS2 := (hS.add #[.int .i64 pt, .int .i64 3] 61).add #[.int .i64 0, .int .i64 0, .bool true] 52
        simp only [size1] at hS2
        have hS3 := hS2.front 2 rfl rfl
        have hz3 := hS3.size
        clear hst hS hS2 hp hcs
        obtain ⟨W2, hW2⟩ : ∃ W2, (wr.alloc (.cells #[.int .i64 pt, .int .i64 3] 61)).alloc (.cells #[.int .i64 0, .int .i64 0, .bool true] 52) = W2 := ⟨_, rfl⟩
        rw [hW2] at hS3 hz3
        have HO := hS3.head
        obtain ⟨y0, y1, y2, _⟩ := Blk.three (show Blk W2 (wr.heap.size + 1) 52 #[.int .i64 0, .int .i64 0, .bool true] from hS3.nth 1 rfl)
        go_wp2_with (first
          | (at_builtin; refine wpList_append_own_at _ rfl _ _ 48 rfl w.heap.size 52 i0 (.agg #[.int .i64 0, .int .i64 0, .bool false]) 3 24 Tryd.underlying48 hi hi0 hi1 hi2 rfl (by decide) _ _ _ rfl (HO.alloc _) ⟨W2.heap.size, 0, none⟩ 1 1 [.int .i64 0, .int .i64 0, .bool true] rfl rfl (World.news_of_block (heap_alloc_new _ _)) (one3c rfl rfl rfl) (by unfold maxLen; omega) (by omega) (by simp; omega) ?_; intro v' w8 hown' hgrow _ hblk; have hS8 := (hS3.alloc _).append hown' hgrow hblk; clear hown' hgrow hblk HO))
        have hS9 : Sq w w8 [rOwn w.heap.size 52 3 v' (k + 1) (((es.take (k + 1)).map (cutQ x)).flatMap cutC)] := by
          rw [HN.out]
          exact (hS8.drop 1 rfl rfl).drop 1 rfl rfl
        go_roundw
        case rel => exact ⟨k + 1, by omega, by go_num, hS9⟩
        case measure => simp [intOf]; omega
      · have e3 : (kd == 3) = false := by simpa using h3
        have HN : Hid (((es.take (k + 1)).map (cutQ x)).flatMap cutC = ((es.take k).map (cutQ x)).flatMap cutC ++ [.int .i64 (timesQ x.start x.breaks pt).1, .int .i64 (timesQ x.start x.breaks pt).2, .bool false]) := by
          rw [hst]
          unfold cutQ
          simp only
          rw [if_neg h3]
          exact Lib.hid rfl
        have hS2 := (hS.add #[.int .i64 pt, .int .i64 kd] 61).add #[.int .i64 0, .int .i64 0, .bool false] 52
        simp only [size1] at hS2
        have HTT := Lib.hid (HTI.out _ pt hS2.below ⟨p1, p2⟩)
        obtain ⟨re, hre⟩ : ∃ re, (timesQ x.start x.breaks pt).1 = re := ⟨_, rfl⟩
        obtain ⟨gm, hgm⟩ : ∃ gm, (timesQ x.start x.breaks pt).2 = gm := ⟨_, rfl⟩
        rw [hre, hgm] at HTT HN
        clear hst hS hp hcs hre hgm
        go_wp2_with fail
        refine HTT.out.mono ?_
        rintro e w3 ⟨rfl, hb3⟩
        have hS3 := hS2.callB hb3
        have hS4 := ((hS3.set_ 0 (.int .i64 re)).set_ 1 (.int .i64 gm)).front 2 rfl rfl
        obtain ⟨y0, y1, y2, f0, f1, f2⟩ := Blk.three (show Blk w3 (wr.heap.size + 1) 52 #[.int .i64 0, .int .i64 0, .bool false] from hS3.nth 0 rfl)
        have hz3 := hS3.size
        have hgl : wr.heap.size + 1 < w3.heap.size := Blk.lt (hS3.nth 0 rfl)
        obtain ⟨W4, hW4⟩ : ∃ W4, (w3.setCell ⟨wr.heap.size + 1, 0, none⟩ (.int .i64 re)).setCell ⟨wr.heap.size + 1, 1, none⟩ (.int .i64 gm) = W4 := ⟨_, rfl⟩
        have hzW : W4.heap.size = w3.heap.size := by rw [← hW4]; simp [World.setCell]
        rw [hW4] at hS4
        have HO := hS4.head
        have hz4 := hS4.size
        obtain ⟨u0, u1, u2, _⟩ := Blk.three (show Blk W4 (wr.heap.size + 1) 52 #[.int .i64 re, .int .i64 gm, .bool false] from hS4.nth 1 rfl)
        clear hS2 hS3 hb3 HTT
        go_wp2_with (first
          | (at_builtin; refine wpList_append_own_at _ rfl _ _ 48 rfl w.heap.size 52 i0 (.agg #[.int .i64 0, .int .i64 0, .bool false]) 3 24 Tryd.underlying48 hi hi0 hi1 hi2 rfl (by decide) _ _ _ rfl (HO.alloc _) ⟨w3.heap.size, 0, none⟩ 1 1 [.int .i64 re, .int .i64 gm, .bool false] rfl rfl (World.news_of_block (by rw [← hzW]; exact heap_alloc_new _ _)) (one3c rfl rfl rfl) (by unfold maxLen; omega) (by omega) (by simp; omega) ?_; intro v' w8 hown' hgrow _ hblk; have hS8 := (hS4.alloc _).append hown' hgrow hblk; clear hown' hgrow hblk HO))
        have hS9 : Sq w w8 [rOwn w.heap.size 52 3 v' (k + 1) (((es.take (k + 1)).map (cutQ x)).flatMap cutC)] := by
          rw [HN.out]
          exact (hS8.drop 1 rfl rfl).drop 1 rfl rfl
        go_roundw
        case rel => exact ⟨k + 1, by omega, by go_num, hS9⟩
        case measure => simp [intOf]; omega
    · obtain rfl : k = m := by omega
      have HT : Hid (es.take k = es) := List.take_of_length_le (by rw [HM.out]; exact Nat.le_refl _)
      have HLL : Hid ((es.map (cutQ x)).length = k) := by show _ = _; rw [List.length_map, HM.out]
      have hO := hS.head
      have hfin := hS.below
      rw [HT.out] at hO
      go_wp2_with fail
      go_ret
      exact ⟨_, rfl, by rw [HLL.out]; exact hO, hfin⟩
theorem cutsOf_calls (b g : Nat) (a : Option Att) (A1 : Option Addr) (c1 : Nat) (A2 : Option Addr) (c2 : Nat) (w : World) (h : ∀ x, a = some x → AttAt w b g x A1 c1 A2 c2) (hB : ∀ x, a = some x → AtB x) :
    Calls Tryd.prog 47 #[attV a g] w (CofS (cutsQ a) w) := by
  cases a with
  | none => exact cutsOf0_calls w
  | some x => exact cutsOf1_calls b g x A1 c1 A2 c2 w (h x rfl) (hB x rfl)
end Go.Proofs.YtedfieopmjpibaaDoor
