/-
  splitref2.contestAt by its contract: it answers as rfolQ; RefusedSteps, StartOf.
-/
import Derived.Test.YthbcogekfdllmaaGreatZQf2
import Derived.Test.YthbcogekfdllmaaGreatZFlat
namespace Go.Proofs.YthbcogekfdllmaaGreat
open Go Go.RowKit
attribute [local go_sem ↓] Go.wp_at_zero Go.wp_at_succ

theorem run_maxQ {P : Program} {w : World} (ts : Array TypeId) (t : TypeId) (k k' : IntKind) (x y : Int) : (Builtin.max_ ts t #[.int k x, .int k' y]).run P w = .ok (.int k (max x y)) w := by
  rw [run_max_int2, show (if y > x then y else x) = max x y by split <;> omega]
attribute [local go_sem ↓] run_maxQ
theorem qfollow_calls (w0 : World) (g m n m2 n2 : Nat) (G : QF) (l : List Rsc) (at_ kd : Int) (who : ByteArray) (w : World) (hS : Sq w0 w (conL g m n m2 n2 G l)) (hK : KQ G) (hn : n ≤ 100000) (hn2 : n2 ≤ 100000) (hz : who.size ≤ 40) (hkd : 1 ≤ kd ∧ kd ≤ 8) :
    Calls Tryz.prog 61 #[.pointer (some ⟨g, 0, none⟩), .agg #[.int .i64 at_, .int .i64 kd, .string who]] w (ConR w0 g m2 n n2 G (stpQ G ⟨at_, kd, who⟩) l) := by
  cases hc : G.hw who with
  | none => exact qfolN_calls w0 g m n m2 n2 G l at_ kd who w hS hK hn hn2 hz hkd hc
  | some c => exact qfolS_calls w0 g m n m2 n2 G l at_ kd who w hS hK hn hn2 hz hkd c hc
/-- a contest in new memory, and the numbers of the refused steps -/
def ConS (r : QF × Nat × List Int) (w : World) (e : Ending) (w' : World) : Prop :=
  ∃ (g m N m2 N2 : Nat) (A : Option Addr) (c : Nat), e = .returned (.tuple #[.pointer (some ⟨g, 0, none⟩), .slice A r.2.2.length c]) ∧ KQ r.1 ∧ N ≤ 1000 ∧ N2 ≤ 1000 ∧ r.2.2.length ≤ 1000 ∧ Sq w w' (conL g m N m2 N2 r.1 [rOwn w.heap.size 3 1 (.slice A r.2.2.length c) r.2.2.length (r.2.2.map (Value.int .i64))])
theorem accQ_some {u : Int} {a : QF × Nat × List Int} {x : Stp} {s : QF} (hu : x.at_ ≤ u) (h : stpQ a.1 x = some s) : accQ u a x = (s, a.2.1 + 1, a.2.2) := by unfold accQ; rw [if_pos hu]; exact accS_some h
theorem accQ_none {u : Int} {a : QF × Nat × List Int} {x : Stp} (hu : x.at_ ≤ u) (h : stpQ a.1 x = none) : accQ u a x = (a.1, a.2.1 + 1, a.2.2 ++ [(a.2.1 : Int)]) := by unfold accQ; rw [if_pos hu]; exact accS_none h
theorem accQ_skip {u : Int} {a : QF × Nat × List Int} {x : Stp} (hu : ¬ x.at_ ≤ u) : accQ u a x = (a.1, a.2.1 + 1, a.2.2) := by unfold accQ; rw [if_neg hu]
set_option maxRecDepth 100000 in
set_option maxHeartbeats 4000000 in
theorem contestAt_calls (b : Nat) (A : Option Addr) (n c : Nat) (l : List Stp) (u : Int) (w : World) (hr : Rd w b 3 (.slice A n c) n (l.flatMap stC)) (hok : StOk l) (hn : n ≤ 1000) :
    Calls Tryz.prog 40 #[.slice A n c, .int .i64 u] w (ConS (rfolQ l u) w) := by
  obtain ⟨hl, hnc, hcm, hcells⟩ := hr.cells stC_len (by omega)
  obtain ⟨j0, hj, hy0, hy1, hy2⟩ := info_parts info_int
  unfold maxLen at hcm
  have HL := Lib.hid hl
  have HC := Lib.hid hcells
  have HOK := Lib.hid hok
  have hmm := @run_makeMap Tryz.prog
  obtain ⟨q, hq⟩ : ∃ q, q = w.heap.size := ⟨_, rfl⟩
  have hS0 : Sq w (((w.alloc (.map #[] 0)).alloc (.map #[] 0)).alloc (.cells #[.int .i64 (-1), .map (some q), .map (some (q + 1))] 91)) (conL (q + 2) q 0 (q + 1) 0 qf0 [rOwn w.heap.size 3 1 (.slice none 0 0) 0 []]) := by
    have h := ((((Sq.start w).addMap 9).addMap 9).add #[.int .i64 (-1), .map (some w.heap.size), .map (some (w.heap.size + 1))] 91).nil w.heap.size 3 1
    simp only [size1] at h
    subst hq
    exact ((h.front 2 rfl rfl).front 3 rfl rfl).front 3 rfl rfl
  clear hcells hl hr hok
  go_enter Tryz.func40, Tryz.ntmps40
  go_upto_block 0 with (fail)
  clear hmm
  rw [← hq]
  obtain ⟨W0, hW0⟩ : ∃ W0, W0 = ((w.alloc (.map #[] 0)).alloc (.map #[] 0)).alloc (.cells #[.int .i64 (-1), .map (some q), .map (some (q + 1))] 91) := ⟨_, rfl⟩
  rw [← hW0] at hS0 ⊢
  clear hW0 hq
  go_wp2_with fail
  go_loopw [7, 16] (fun s7 i wr => ∃ (k m' N N2 : Nat) (A' : Option Addr) (c' : Nat) (G : QF) (bad : List Int), k ≤ n ∧ i = .int .i64 k ∧ s7 = .slice A' bad.length c' ∧ Hid (rfolQ (l.take k) u = (G, k, bad)) ∧ N ≤ k ∧ N2 ≤ k ∧ bad.length ≤ k ∧ Hid (KQ G) ∧ Sq w wr (conL (q + 2) m' N (q + 1) N2 G [rOwn w.heap.size 3 1 (.slice A' bad.length c') bad.length (bad.map (Value.int .i64))])) (fun _ i _ => n - (intOf i).toNat)
  case atStart => exact ⟨0, q, 0, 0, none, 0, qf0, [], Nat.zero_le _, rfl, rfl, Lib.hid rfl, Nat.le_refl _, Nat.le_refl _, Nat.le_refl _, Lib.hid KQ.start, hS0⟩
  case round =>
    clear hS0
    obtain ⟨k, m', N, N2, A', c', G, bad, hk, rfl, rfl, HF, hNk, hN2k, hbk, HK, hS⟩ := hrel
    obtain ⟨wo, hwo⟩ : ∃ z, z = wr := ⟨_, rfl⟩
    subst hwo
    by_cases hlt : k < n
    · have hkr : k < l.length := by rw [HL.out]; exact hlt
      obtain ⟨g, o, hA, _, hcs⟩ := HC.out (by omega)
      subst hA
      obtain ⟨x, hx⟩ : ∃ x, l[k] = x := ⟨_, rfl⟩
      have c0 := below_cell hS.below (hcs k hkr 0 (by omega))
      have c1 := below_cell hS.below (hcs k hkr 1 (by omega))
      have c2 := below_cell hS.below (hcs k hkr 2 (by omega))
      rw [hx] at c0 c1 c2
      have hxk := HOK.out.kind _ (List.getElem_mem hkr)
      have hxw := HOK.out.who _ (List.getElem_mem hkr)
      have hstep := rfolQ_step l u k hkr
      rw [hx] at hxk hxw hstep
      rw [HF.out] at hstep
      have HST := Lib.hid hstep
      obtain ⟨at_, kd, who⟩ := x
      replace c0 : wo.cell? ⟨g, o + k * 3, none⟩ = some (.int .i64 at_) := c0
      replace c1 : wo.cell? ⟨g, o + k * 3 + 1, none⟩ = some (.int .i64 kd) := c1
      replace c2 : wo.cell? ⟨g, o + k * 3 + 2, none⟩ = some (.string who) := c2
      have hk0 : (0 : Int) ≤ (k : Int) := by omega
      have hk1 : (k : Int) < (n : Int) := by omega
      have hSa := hS.alloc (.cells #[.int .i64 at_, .int .i64 kd, .string who] 63)
      have hwoz := hS.size
      by_cases hle : at_ ≤ u
      · obtain ⟨oG, hoG⟩ : ∃ oG, oG = stpQ G ⟨at_, kd, who⟩ := ⟨_, rfl⟩
        have HA := Lib.hid (qfollow_calls w (q + 2) m' N (q + 1) N2 G [rOwn w.heap.size 3 1 (.slice A' bad.length c') bad.length (bad.map (Value.int .i64))] at_ kd who _ hSa HK.out (by omega) (by omega) hxw hxk)
        rw [← hoG] at HA
        cases oG with
        | none =>
          have HF2 : Hid (rfolQ (l.take (k + 1)) u = (G, k + 1, bad ++ [(k : Int)])) := Lib.hid (HST.out.trans (accQ_none hle hoG.symm))
          clear hcs hx hxk hxw hstep hS hSa hoG
          go_wp2_with fail
          refine HA.out.mono ?_
          rintro e w2 ⟨m3, rfl, hS2⟩
          clear HA c0 c1 c2
          have hS3 := hS2.front 3 rfl rfl
          obtain ⟨nb, hnb⟩ : ∃ nb, bad.length = nb := ⟨_, rfl⟩
          have HNB := Lib.hid hnb
          rw [hnb] at hS3 hbk ⊢
          have HO5 : w2.ownsRow w.heap.size 3 1 (.slice A' nb c') nb (bad.map (Value.int .i64)) := hS3.head
          have hz2 := hS3.size
          clear hS2 hnb
          go_wp2_with (first
            | (at_builtin; refine wpList_append_own_at _ rfl _ _ 22 rfl w.heap.size 3 j0 (.int .i64 0) 1 8 Tryz.underlying22 hj hy0 hy1 hy2 rfl (by decide) _ _ _ rfl (HO5.alloc _) ⟨w2.heap.size, 0, none⟩ 1 1 [.int .i64 k] rfl rfl (World.news_of_block (heap_alloc_new _ _)) (one1 rfl) (by unfold maxLen; omega) (by omega) (by simp; omega) ?_; intro v' w8 hown' hgrow _ hblk; obtain ⟨A8, c8, hv8⟩ := own_form hown'; subst hv8; have hS8 := (hS3.alloc _).append hown' hgrow hblk; clear hown' hgrow hblk))
          have E1 : Hid ((bad ++ [(k : Int)]).length = nb + 1) := Lib.hid (by rw [List.length_append, HNB.out]; rfl)
          have E2 : Hid ((bad ++ [(k : Int)]).map (Value.int .i64) = bad.map (Value.int .i64) ++ [.int .i64 k]) := Lib.hid (by simp)
          go_roundw
          case rel => exact ⟨k + 1, m3, N + 1, N2 + 1, A8, c8, G, bad ++ [(k : Int)], by omega, by go_num, by rw [E1.out], HF2, by omega, by omega, by rw [E1.out]; omega, HK, by rw [E1.out, E2.out]; exact ((hS8.front 3 rfl rfl).front 3 rfl rfl).front 3 rfl rfl⟩
          case measure => simp [intOf]; omega
        | some G' =>
          have HF2 : Hid (rfolQ (l.take (k + 1)) u = (G', k + 1, bad)) := Lib.hid (HST.out.trans (accQ_some hle hoG.symm))
          have HK2 : Hid (KQ G') := Lib.hid (HK.out.step (x := ⟨at_, kd, who⟩) hxw hoG.symm)
          clear hcs hx hxk hxw hstep hS hSa hoG
          go_wp2_with fail
          refine HA.out.mono ?_
          rintro e w2 ⟨m3, rfl, hS2⟩
          clear HA c0 c1 c2
          go_wp2_with fail
          go_roundw
          case rel => exact ⟨k + 1, m3, N + 1, N2 + 1, A', c', G', bad, by omega, by go_num, rfl, HF2, by omega, by omega, by omega, HK2, hS2⟩
          case measure => simp [intOf]; omega
      · have HF2 : Hid (rfolQ (l.take (k + 1)) u = (G, k + 1, bad)) := Lib.hid (HST.out.trans (accQ_skip hle))
        clear hcs hx hxk hxw hstep hS
        go_wp2_with fail
        go_roundw
        case rel => exact ⟨k + 1, m', N, N2, A', c', G, bad, by omega, by go_num, rfl, HF2, by omega, by omega, by omega, HK, hSa⟩
        case measure => simp [intOf]; omega
    · obtain rfl : k = n := by omega
      have e9 : l.take k = l := List.take_of_length_le (by rw [HL.out]; exact Nat.le_refl _)
      have HD : Hid (rfolQ l u = (G, k, bad)) := Lib.hid (by have := HF.out; rw [e9] at this; exact this)
      clear e9
      go_wp2_with fail
      go_ret2
      show ConS (rfolQ l u) w _ _
      rw [HD.out]
      exact ⟨q + 2, m', N, q + 1, N2, A', c', rfl, HK.out, by omega, by omega, by show bad.length ≤ 1000; omega, hS⟩
set_option maxRecDepth 100000 in
theorem refusedQ_calls (b : Nat) (A : Option Addr) (n c : Nat) (l : List Stp) (w : World) (hr : Rd w b 3 (.slice A n c) n (l.flatMap stC)) (hok : StOk l) (hn : n ≤ 1000) :
    Calls Tryz.prog 15 #[.slice A n c] w (fun e w' => ∃ v, e = .returned v ∧ w'.ownsRow w.heap.size 3 1 v (rfolQ l 345686400000).2.2.length ((rfolQ l 345686400000).2.2.map (Value.int .i64)) ∧ Below w.heap.size w w') := by
  have HFO := Lib.hid (contestAt_calls b A n c l 345686400000 w hr hok hn)
  obtain ⟨r, hr0⟩ : ∃ r, rfolQ l 345686400000 = r := ⟨_, rfl⟩
  rw [hr0] at HFO ⊢
  clear hr hok hr0
  go_enter Tryz.func15, Tryz.ntmps15
  go_wp2_with fail
  refine HFO.out.mono ?_
  rintro e w2 ⟨g, m, N, m2, N2, A1, c1, rfl, hk, hN, hN2, hb, hS⟩
  have hO : w2.ownsRow w.heap.size 3 1 (.slice A1 r.2.2.length c1) r.2.2.length (r.2.2.map (Value.int .i64)) := hS.nth 3 rfl
  have hfin := hS.below
  go_wp2_with fail
  go_ret
  exact ⟨_, rfl, hO, hfin⟩
set_option maxRecDepth 100000 in
set_option maxHeartbeats 1000000 in
theorem startQ_calls (b : Nat) (A : Option Addr) (n c : Nat) (l : List Stp) (w : World) (hr : Rd w b 3 (.slice A n c) n (l.flatMap stC)) (hok : StOk l) (hn : n ≤ 1000) :
    Calls Tryz.prog 16 #[.slice A n c] w (BRet (.tuple #[.int .i64 (max 0 (rfolQ l 345686400000).1.at0), .bool (decide (0 ≤ (rfolQ l 345686400000).1.at0))]) w) := by
  have HFO := Lib.hid (contestAt_calls b A n c l 345686400000 w hr hok hn)
  obtain ⟨r, hr0⟩ : ∃ r, rfolQ l 345686400000 = r := ⟨_, rfl⟩
  rw [hr0] at HFO ⊢
  obtain ⟨a0, ha0⟩ : ∃ a0, r.1.at0 = a0 := ⟨_, rfl⟩
  rw [ha0]
  have HA0 := Lib.hid ha0
  clear hr hok hr0 ha0
  go_enter Tryz.func16, Tryz.ntmps16
  go_wp2_with fail
  refine HFO.out.mono ?_
  rintro e w2 ⟨g, m, N, m2, N2, A1, c1, rfl, hk, hN, hN2, hb, hS⟩
  have hB : Blk w2 g 91 #[.int .i64 r.1.at0, .map (some m), .map (some m2)] := hS.nth 0 rfl
  rw [HA0.out] at hB
  have c0 := hB.cell 0
  have hfin := hS.below
  clear hS hB
  go_wp2_with fail
  go_quiet (fail)
  go_wp2_with fail
  go_ret2
  exact ⟨rfl, below_drewN hfin _⟩
end Go.Proofs.YthbcogekfdllmaaGreat
