/-
  Presses as the stream makes them, by contracts. (Printed by gen_prs13.py.)
-/
import Derived.Test.YticbbehfphnbhaaGreatDoorZPrsLow
import Derived.Test.YticbbehfphnbhaaGreatDoorZSep
import Derived.Test.YticbbehfphnbhaaGreatDoorZSlot4
import Derived.Deep.DeepCutAuto
import Derived.Deep.RegionLaw
import Derived.Deep.RegionHeld3
import Derived.Deep.QuietTactic
import Derived.BigQuiet
namespace Go.Proofs.YticbbehfphnbhaaGreatDoor
open Go Go.RowKit
attribute [local go_sem ↓] Go.wp_at_zero Go.wp_at_succ

/-- presses that rise up to a moment -/
structure RPr (l : List Pz) (a : Int) : Prop where
  at_ : ∀ p ∈ l, 0 ≤ p.1 ∧ p.1 ≤ a
  kind : ∀ p ∈ l, 1 ≤ p.2 ∧ p.2 ≤ 9
  order : ∀ i (h : i + 1 < l.length), l[i].1 ≤ l[i + 1].1
theorem RPr.nil (a : Int) : RPr [] a := ⟨(by intro p hp; cases hp), (by intro p hp; cases hp), fun i h => absurd h (by simp)⟩
theorem RPr.snoc {l : List Pz} {a d k : Int} (h : RPr l a) (h0 : 0 ≤ a) (hd : 0 ≤ d) (hk : 1 ≤ k ∧ k ≤ 9) : RPr (l ++ [(a + d, k)]) (a + d) := by
  refine ⟨fun p hp => ?_, fun p hp => ?_, fun i hi => ?_⟩
  · rcases List.mem_append.1 hp with hp | hp
    · have := h.at_ p hp; omega
    · simp at hp; subst hp; simp only; omega
  · rcases List.mem_append.1 hp with hp | hp
    · exact h.kind p hp
    · simp at hp; subst hp; exact hk
  · simp at hi
    by_cases he : i + 1 = l.length
    · rw [List.getElem_append_left (by omega), List.getElem_append_right (by omega)]
      have := (h.at_ _ (List.getElem_mem (show i < l.length by omega))).2
      simp only [he, Nat.sub_self, List.getElem_cons_zero]
      omega
    · rw [List.getElem_append_left (by omega), List.getElem_append_left (by omega)]
      exact h.order i (by omega)
/-- the first one's kind is another -/
theorem RPr.first {l : List Pz} {a : Int} (h : RPr l a) (hl : 0 < l.length) : RPr (l.set 0 (l[0].1, 1)) a := by
  refine ⟨fun p hp => ?_, fun p hp => ?_, fun i hi => ?_⟩
  · rcases List.mem_or_eq_of_mem_set hp with hp | hp
    · exact h.at_ p hp
    · subst hp; have := h.at_ _ (List.getElem_mem hl); simp only; exact this
  · rcases List.mem_or_eq_of_mem_set hp with hp | hp
    · exact h.kind p hp
    · subst hp; simp
  · rw [List.length_set] at hi
    have h1 : (l.set 0 (l[0].1, 1))[i + 1]'(by rw [List.length_set]; exact hi) = l[i + 1] := List.getElem_set_ne (by omega) _
    rw [h1]
    by_cases h0 : i = 0
    · subst h0
      rw [List.getElem_set_self]
      exact h.order 0 hi
    · rw [List.getElem_set_ne (by omega)]
      exact h.order i hi
/-- the presses from the third one on, the first q of them, came later -/
def bumpL (l l2 : List Pz) (q : Nat) : Prop := l2.length = l.length ∧ ∀ j (h : j < l.length) (h2 : j < l2.length), l2[j] = if 2 ≤ j ∧ j < 2 + q then (l[j].1 + 864000000, l[j].2) else l[j]
theorem bump0 (l : List Pz) : bumpL l l 0 := ⟨rfl, fun j _ _ => by rw [if_neg (by omega)]⟩
theorem bump_step {l l2 : List Pz} {q : Nat} (h : bumpL l l2 q) (hq : 2 + q < l.length) (hq2 : 2 + q < l2.length) : bumpL l (l2.set (2 + q) (l2[2 + q].1 + 864000000, l2[2 + q].2)) (q + 1) := by
  refine ⟨by rw [List.length_set]; exact h.1, fun j hj hj2 => ?_⟩
  rw [List.length_set] at hj2
  have hx := h.2 (2 + q) hq hq2
  rw [if_neg (by omega)] at hx
  by_cases he : j = 2 + q
  · subst he
    rw [List.getElem_set_self, hx, if_pos (by omega)]
  · rw [List.getElem_set_ne (by omega), h.2 j hj hj2]
    by_cases hc : 2 ≤ j ∧ j < 2 + q
    · rw [if_pos hc, if_pos (by omega)]
    · rw [if_neg hc, if_neg (by omega)]
theorem bump_RPr {l l2 : List Pz} {a : Int} (h : RPr l a) (_ha : 0 ≤ a) (hb : bumpL l l2 (l.length - 2)) (hl : 2 ≤ l.length) : RPr l2 (a + 864000000) := by
  have hx : ∀ j (h : j < l.length) (h2 : j < l2.length), l2[j] = if 2 ≤ j then (l[j].1 + 864000000, l[j].2) else l[j] := fun j hj hj2 => by
    rw [hb.2 j hj hj2]
    by_cases hc : 2 ≤ j
    · rw [if_pos hc, if_pos (by omega)]
    · rw [if_neg hc, if_neg (by omega)]
  refine ⟨fun p hp => ?_, fun p hp => ?_, fun i hi => ?_⟩
  · obtain ⟨j, hj, rfl⟩ := List.getElem_of_mem hp
    have hj2 : j < l.length := by rw [← hb.1]; exact hj
    have := h.at_ _ (List.getElem_mem hj2)
    rw [hx j hj2 hj]
    split
    · simp only; omega
    · omega
  · obtain ⟨j, hj, rfl⟩ := List.getElem_of_mem hp
    have hj2 : j < l.length := by rw [← hb.1]; exact hj
    have := h.kind _ (List.getElem_mem hj2)
    rw [hx j hj2 hj]
    split <;> exact this
  · have hi2 : i + 1 < l.length := by rw [← hb.1]; exact hi
    have := h.order i hi2
    rw [hx i (by omega) (by omega), hx (i + 1) hi2 hi]
    split
    · split
      · simp only; omega
      · omega
    · split
      · simp only; omega
      · omega
theorem RPr.ok {l : List Pz} {a : Int} (h : RPr l a) (ha : a ≤ 345686399999) : PzOk l := ⟨fun p hp => by have := h.at_ p hp; omega, h.kind, h.order⟩
theorem RPr.more {l : List Pz} {a a' : Int} (h : RPr l a) (ha : a ≤ a') : RPr l a' := ⟨fun p hp => by have := h.at_ p hp; omega, h.kind, h.order⟩

/-- right presses in new memory, drawn -/
def RPrS (b K m : Nat) (w : World) (e : Ending) (w' : World) : Prop :=
  ∃ (v : Value) (l : List Pz), e = .returned v ∧ l.length = m ∧ RPr l 864001000 ∧ Sp w b K w' [rOwn w.heap.size 39 2 v m (l.flatMap pzC)]
set_option maxRecDepth 100000 in
set_option maxHeartbeats 2000000 in
theorem rightPresses_calls (b K m : Nat) (w : World) (hs : Strm w b K) (hK : K ≤ 900000) (hm : m ≤ 24) :
    Calls Tryz.prog 35 #[.pointer (some ⟨b, 0, none⟩), .int .i64 m] w (RPrS b (K + 50) m w) := by
  obtain ⟨i0, hi, hi0, hi1, hi2⟩ := info_parts info_press
  have hS0 := (Sp.start hs).nil w.heap.size 39 2
  go_enter Tryz.func35, Tryz.ntmps35
  go_wp2_with fail
  go_loopw [5, 6, 9] (fun v a i wr => ∃ (k : Nat) (l : List Pz) (z : Int), k ≤ m ∧ i = .int .i64 k ∧ a = .int .i64 z ∧ 0 ≤ z ∧ z ≤ 30 * (k : Int) ∧ l.length = k ∧ Hid (RPr l z) ∧ Sp w b (K + 2 * k) wr [rOwn w.heap.size 39 2 v l.length (l.flatMap pzC)]) (fun _ _ i _ => m - (intOf i).toNat)
  case atStart => exact ⟨0, [], 0, Nat.zero_le _, rfl, rfl, by omega, by omega, rfl, Lib.hid (RPr.nil 0), hS0⟩
  case round =>
    clear hS0
    obtain ⟨k, l, z, hk, rfl, rfl, hz0, hz1, hlk, HR, hS⟩ := hrel
    by_cases hlt : k < m
    · go_wp2_with fail
      refine (sp_pickL hS #[.int .i64 0, .int .i64 1, .int .i64 5, .int .i64 10, .int .i64 30] 3 5 0 30 (by decide) (by decide) rfl rfl (by omega)).mono ?_
      rintro e w1 ⟨_, rfl, ⟨d, rfl, hd0, hd1⟩, hS1⟩
      clear hS
      go_wp2_with fail
      refine (sp_pickL hS1 #[.int .i64 1, .int .i64 2, .int .i64 2, .int .i64 2, .int .i64 2, .int .i64 3, .int .i64 4, .int .i64 4, .int .i64 5, .int .i64 6, .int .i64 6, .int .i64 7, .int .i64 8, .int .i64 8, .int .i64 9] 3 15 1 9 (by decide) (by decide) rfl rfl (by omega)).mono ?_
      rintro e w2 ⟨_, rfl, ⟨kd, rfl, hk0, hk1⟩, hS2⟩
      clear hS1
      have HO := hS2.head
      have hz2 := hS2.size
      have HR2 : Hid (RPr (l ++ [(z + d, kd)]) (z + d)) := HR.out.snoc hz0 hd0 ⟨hk0, hk1⟩
      go_wp2_with (first
        | (at_builtin; refine wpList_append_own_at _ rfl _ _ 26 rfl w.heap.size 39 i0 (.agg #[.int .i64 0, .int .i64 0]) 2 16 Tryz.underlying26 hi hi0 hi1 hi2 rfl (by decide) _ _ _ rfl (HO.alloc _) ⟨w2.heap.size, 0, none⟩ 1 1 [.int .i64 (z + d), .int .i64 kd] rfl rfl (World.news_of_block (heap_alloc_new _ _)) (one2p rfl rfl) (by unfold maxLen; omega) (by omega) (by simp; omega) ?_; intro v' w8 hown' hgrow _ hblk; have hS8 := (hS2.alloc _).append hown' hgrow hblk; clear hown' hgrow hblk HO))
      have hS9 : Sp w b (K + 2 * k + 1 + 1) w8 [rOwn w.heap.size 39 2 v' (l ++ [(z + d, kd)]).length ((l ++ [(z + d, kd)]).flatMap pzC)] := by
        rw [flat_pz, List.length_append]
        exact hS8
      go_roundw
      case rel => exact ⟨k + 1, _, z + d, by omega, by go_num, rfl, by omega, by omega, by simp; omega, HR2, hS9.more (by omega)⟩
      case measure => simp [intOf]; omega
    · obtain rfl : k = m := by omega
      by_cases hk0 : k = 0
      · subst hk0
        have hl0 : l = [] := List.eq_nil_of_length_eq_zero hlk
        subst hl0
        obtain ⟨A0, c0, hv0⟩ := own_form (show wr.ownsRow w.heap.size 39 2 u5 0 [] from hS.head)
        subst hv0
        go_wp2_with fail
        go_ret
        exact ⟨_, [], rfl, rfl, RPr.nil _, hS.more (by omega)⟩
      · have HO : wr.ownsRow w.heap.size 39 2 u5 l.length (l.flatMap pzC) := hS.head
        obtain ⟨g, cap, hv, _, _⟩ := HO.form (by omega)
        subst hv
        have hcap := own_cap HO
        rw [hlk] at hS hcap ⊢
        have HLK := Lib.hid hlk
        have hkp : 0 < k := by omega
        clear HO
        go_wp2_with fail
        refine (sp_flip hS 8 (by omega) (by omega) (by omega)).mono ?_
        rintro e w1 ⟨_, rfl, ⟨fv, rfl⟩, hS1⟩
        clear hS
        go_upto_if 32 with (fail)
        go_cut [] (fun W => ∃ l2 : List Pz, Hid (l2.length = k) ∧ Hid (RPr l2 z) ∧ Sp w b (K + 2 * k + 1) W [rOwn w.heap.size 39 2 (.slice (some ⟨g, 0, none⟩) k cap) k (l2.flatMap pzC)])
        case first =>
          cases fv
          · have hlp : 0 < l.length := by omega
            have hS2 := Sp.field pzC 2 pzC_len (rs := l) (by rw [hlk]; exact hS1) 0 1 hlp (by omega) (.int .i64 1) (l[0].1, 1) rfl
            rw [List.length_set, hlk] at hS2
            have HO2 : w1.ownsRow w.heap.size 39 2 (.slice (some ⟨g, 0, none⟩) k cap) k (l.flatMap pzC) := hS1.head
            have x1 := own_cell pzC 2 pzC_len HO2 0 1 hlp hkp (by omega)
            have f1 := HO2.frozenAt 1
            replace x1 : w1.cell? ⟨g, 1, none⟩ = some (.int .i64 l[0].2) := x1
            have HR3 : Hid (RPr (l.set 0 (l[0].1, 1)) z) := HR.out.first hlp
            have HL3 : Hid ((l.set 0 (l[0].1, 1)).length = k) := by show _ = _; rw [List.length_set, hlk]
            clear HO2
            go_wp2_with fail
            go_meet
            exact ⟨_, HL3, HR3, hS2⟩
          · go_wp2_with fail
            go_meet
            exact ⟨l, HLK, HR, hS1⟩
        case rest =>
          obtain ⟨l2, HL2, HR2, hS2⟩ := hcut
          clear hS1
          by_cases h3 : k ≤ 3
          · have e3 : ¬ 3 < k := by omega
            go_wp2_with fail
            go_ret
            exact ⟨_, l2, rfl, HL2.out, HR2.out.more (by omega), hS2.more (by omega)⟩
          · have e3 : 3 < k := by omega
            go_wp2_with fail
            refine (sp_flip hS2 12 (by omega) (by omega) (by omega)).mono ?_
            rintro e w2 ⟨_, rfl, ⟨fv2, rfl⟩, hS3⟩
            clear hS2
            cases fv2
            · go_wp2_with fail
              go_ret
              exact ⟨_, l2, rfl, HL2.out, HR2.out.more (by omega), hS3.more (by omega)⟩
            · have hc2 : ¬ cap = 2 := by omega
              have hB0 : Hid (bumpL l2 l2 0) := bump0 l2
              go_wp2_with fail
              go_loopw [46] (fun i wr => ∃ (q : Nat) (l3 : List Pz), q ≤ k - 2 ∧ i = .int .i64 q ∧ Hid (bumpL l2 l3 q) ∧ Sp w b (K + 2 * k + 1 + 1) wr [rOwn w.heap.size 39 2 (.slice (some ⟨g, 0, none⟩) k cap) k (l3.flatMap pzC)]) (fun i _ => k - (intOf i).toNat)
              case atStart => exact ⟨0, l2, Nat.zero_le _, rfl, hB0, hS3⟩
              case round =>
                clear hS3 hB0
                obtain ⟨q, l3, hq, rfl, HB, hS⟩ := hrel
                by_cases hlt : q < k - 2
                · have hl3 : l3.length = k := HB.out.1.trans HL2.out
                  have hl3' : 2 + q < l3.length := by omega
                  have hl2' : 2 + q < l2.length := by rw [HL2.out]; omega
                  have HN := Lib.hid (bump_step HB.out hl2' hl3')
                  have hv := HB.out.2 (2 + q) hl2' hl3'
                  rw [if_neg (by omega)] at hv
                  have hbd := HR2.out.at_ _ (List.getElem_mem hl2')
                  rw [← hv] at hbd
                  have HO3 : wr.ownsRow w.heap.size 39 2 (.slice (some ⟨g, 0, none⟩) k cap) k (l3.flatMap pzC) := hS.head
                  have x0 := own_cell pzC 2 pzC_len HO3 (2 + q) 0 hl3' (by omega) (by omega)
                  have f0 := HO3.frozenAt ((2 + q) * 2)
                  have hS4 := Sp.field pzC 2 pzC_len (rs := l3) (by rw [hl3]; exact hS) (2 + q) 0 hl3' (by omega) (.int .i64 (l3[2 + q].1 + 864000000)) (l3[2 + q].1 + 864000000, l3[2 + q].2) rfl
                  rw [List.length_set, hl3] at hS4
                  obtain ⟨y, hy⟩ : ∃ y, l3[2 + q].1 = y := ⟨_, rfl⟩
                  replace x0 : wr.cell? ⟨g, (2 + q) * 2, none⟩ = some (.int .i64 y) := by rw [← hy]; exact x0
                  rw [hy] at hbd hS4 HN
                  have ix : (2 : Int) + (q : Int) < (k : Int) := by omega
                  clear hv HO3 hS hy
                  go_wp2_with fail
                  go_roundw
                  case rel => exact ⟨q + 1, _, by omega, by go_num, HN, hS4⟩
                  case measure => simp [intOf]; omega
                · obtain rfl : q = k - 2 := by omega
                  have hl3 : l3.length = k := HB.out.1.trans HL2.out
                  have HN : Hid (RPr l3 (z + 864000000)) := bump_RPr HR2.out hz0 (by rw [HL2.out]; exact HB.out) (by rw [HL2.out]; omega)
                  go_wp2_with fail
                  go_ret
                  exact ⟨_, l3, rfl, hl3, HN.out.more (by omega), hS.more (by omega)⟩

/-- presses in new memory, drawn, nearly always right ones -/
def PrsSt (b K m : Nat) (w : World) (e : Ending) (w' : World) : Prop :=
  ∃ (v : Value) (l : List Pz), e = .returned v ∧ l.length = m ∧ Sp w b K w' [rOwn w.heap.size 39 2 v m (l.flatMap pzC)]
set_option maxRecDepth 100000 in
set_option maxHeartbeats 1000000 in
theorem presses_calls (b K m : Nat) (w : World) (hs : Strm w b K) (hK : K ≤ 800000) (hm : m ≤ 24) :
    Calls Tryz.prog 6 #[.pointer (some ⟨b, 0, none⟩), .int .i64 m] w (PrsSt b (K + 60) m w) := by
  go_enter Tryz.func6, Tryz.ntmps6
  go_wp2_with fail
  refine (rightPresses_calls b K m w hs (by omega) hm).mono ?_
  rintro e w1 ⟨v, l, rfl, hlm, _, hS⟩
  have HO : w1.ownsRow w.heap.size 39 2 v m (l.flatMap pzC) := hS.head
  obtain ⟨A, c, hv⟩ := own_form HO
  subst hv
  have hcap := own_cap HO
  by_cases hm0 : m = 0
  · subst hm0
    go_wp2_with fail
    go_ret
    exact ⟨_, l, rfl, hlm, hS.more (by omega)⟩
  · have hmp : 0 < m := by omega
    obtain ⟨g, cap, hv, _, _⟩ := HO.form (by omega)
    injection hv with hA _ hc
    subst hA hc
    clear HO
    go_wp2_with fail
    refine (sp_flip hS 12 (by omega) (by omega) (by omega)).mono ?_
    rintro e w2 ⟨_, rfl, ⟨fv, rfl⟩, hS2⟩
    clear hS
    cases fv
    · go_wp2_with fail
      go_ret
      exact ⟨_, l, rfl, hlm, hS2.more (by omega)⟩
    · go_wp2_with fail
      refine (sp_next hS2 m (by omega) (by omega) (by omega)).mono ?_
      rintro e w3 ⟨_, rfl, ⟨i, rfl, i0, i1⟩, hS3⟩
      obtain ⟨i, rfl⟩ := Int.eq_ofNat_of_zero_le i0
      clear hS2
      have hi0 : (0 : Int) ≤ (i : Int) := by omega
      have hi1 : (i : Int) < (m : Int) := by omega
      go_wp2_with fail
      refine (sp_odd hS3 0 500 (by omega) (by omega) (by omega) (by omega)).mono ?_
      rintro e w4 ⟨_, rfl, ⟨t, rfl, t0, t1⟩, hS4⟩
      clear hS3
      go_wp2_with fail
      refine (sp_odd hS4 1 9 (by omega) (by omega) (by omega) (by omega)).mono ?_
      rintro e w5 ⟨_, rfl, ⟨kd, rfl, k0, k1⟩, hS5⟩
      clear hS4
      have hil : i < l.length := by omega
      have HO5 : w5.ownsRow w.heap.size 39 2 (.slice (some ⟨g, 0, none⟩) m c) m (l.flatMap pzC) := hS5.head
      have x0 := own_cell pzC 2 pzC_len HO5 i 0 hil (by omega) (by omega)
      have x1 := own_cell pzC 2 pzC_len HO5 i 1 hil (by omega) (by omega)
      replace x0 : w5.cell? ⟨g, i * 2, none⟩ = some (.int .i64 l[i].1) := x0
      replace x1 : w5.cell? ⟨g, i * 2 + 1, none⟩ = some (.int .i64 l[i].2) := x1
      have f0 := HO5.frozenAt (i * 2)
      have f1 := HO5.frozenAt (i * 2 + 1)
      have hS6 := Sp.field pzC 2 pzC_len (rs := l) (by rw [hlm]; exact hS5) i 0 hil (by omega) (.int .i64 t) (t, l[i].2) rfl
      have hil2 : i < (l.set i (t, l[i].2)).length := by rw [List.length_set]; exact hil
      have hS7 := Sp.field pzC 2 pzC_len (rs := l.set i (t, l[i].2)) hS6 i 1 hil2 (by omega) (.int .i64 kd) (t, kd) (by rw [List.getElem_set_self]; rfl)
      rw [List.length_set, List.length_set, hlm] at hS7
      clear HO5 hS6 hS5
      go_wp2_with fail
      go_ret
      exact ⟨_, (l.set i (t, l[i].2)).set i (t, kd), rfl, by rw [List.length_set, List.length_set, hlm], hS7.more (by omega)⟩
end Go.Proofs.YticbbehfphnbhaaGreatDoor
