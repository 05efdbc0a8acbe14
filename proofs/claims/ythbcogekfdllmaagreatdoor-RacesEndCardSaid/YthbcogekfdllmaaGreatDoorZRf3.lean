/-
  race.follow by its contract: it answers as rfolP. (Printed by gen_rf3.py.)
-/
import Derived.Test.YthbcogekfdllmaaGreatDoorZRf2
import Derived.Test.YthbcogekfdllmaaGreatDoorZFlat
namespace Go.Proofs.YthbcogekfdllmaaGreatDoor
open Go Go.RowKit
attribute [local go_sem ↓] Go.wp_at_zero Go.wp_at_succ

theorem untilS_take (u : Int) : ∀ (l : List Stp) (k : Nat), k ≤ l.length → (∀ x ∈ l.take k, x.at_ ≤ u) → (∀ h : k < l.length, u < l[k].at_) → untilS u l = l.take k
  | [], 0, _, _, _ => rfl
  | x :: l, 0, _, _, h => by
    have hx : u < x.at_ := h (Nat.zero_lt_succ _)
    unfold untilS
    rw [List.takeWhile_cons_of_neg (by simpa using hx)]
    rfl
  | x :: l, k + 1, hk, hle, h => by
    have hx := hle x (by simp)
    have ih := untilS_take u l k (by simpa using hk) (fun y hy => hle y (by rw [List.take_succ_cons]; exact List.mem_cons_of_mem _ hy)) (fun h2 => h (by simpa using h2))
    unfold untilS at ih ⊢
    rw [List.takeWhile_cons_of_pos (by simpa using hx), ih, List.take_succ_cons]
/-- a field in new memory, and the numbers of the refused steps -/
def FolR (r : PF × Nat × List Int) (w : World) (e : Ending) (w' : World) : Prop :=
  ∃ (g m N : Nat) (A : Option Addr) (c : Nat), e = .returned (.tuple #[.pointer (some ⟨g, 0, none⟩), .slice A r.2.2.length c]) ∧ KF r.1 ∧ N ≤ 1000 ∧ r.2.2.length ≤ 1000 ∧ Sq w w' (fldL g m N r.1 [rOwn w.heap.size 3 1 (.slice A r.2.2.length c) r.2.2.length (r.2.2.map (Value.int .i64))])
set_option maxRecDepth 100000 in
set_option maxHeartbeats 4000000 in
theorem rfollow_calls (b : Nat) (A : Option Addr) (n c : Nat) (l : List Stp) (u : Int) (w : World) (hr : Rd w b 3 (.slice A n c) n (l.flatMap stC)) (hok : StOk l) (hn : n ≤ 1000) :
    Calls Tryz.prog 49 #[.slice A n c, .int .i64 u] w (FolR (rfolP l u) w) := by
  obtain ⟨hl, hnc, hcm, hcells⟩ := hr.cells stC_len (by omega)
  obtain ⟨j0, hj, hy0, hy1, hy2⟩ := info_parts info_int
  unfold maxLen at hcm
  have HL := Lib.hid hl
  have HC := Lib.hid hcells
  have HOK := Lib.hid hok
  have hmm := @run_makeMap Tryz.prog
  obtain ⟨q, hq⟩ : ∃ q, q = w.heap.size := ⟨_, rfl⟩
  have hS0 : Sq w ((w.alloc (.map #[] 0)).alloc (.cells #[.map (some q), .bool false, .int .i64 0] 118)) (fldL (q + 1) q 0 pf0 [rOwn w.heap.size 3 1 (.slice none 0 0) 0 []]) := by
    have h := (((Sq.start w).addMap 9).add #[.map (some w.heap.size), .bool false, .int .i64 0] 118).nil w.heap.size 3 1
    simp only [size1] at h
    subst hq
    exact (h.front 2 rfl rfl).front 2 rfl rfl
  clear hcells hl hr hok
  go_enter Tryz.func49, Tryz.ntmps49
  go_upto_block 0 with (fail)
  clear hmm
  rw [← hq]
  obtain ⟨W0, hW0⟩ : ∃ W0, W0 = (w.alloc (.map #[] 0)).alloc (.cells #[.map (some q), .bool false, .int .i64 0] 118) := ⟨_, rfl⟩
  rw [← hW0] at hS0 ⊢
  clear hW0 hq
  go_cut [7] (fun s7 W => ∃ (m' N : Nat) (A' : Option Addr) (c' : Nat) (F : PF) (k : Nat) (bad : List Int), s7 = .slice A' bad.length c' ∧ Hid (rfolP l u = (F, k, bad)) ∧ N ≤ 1000 ∧ bad.length ≤ 1000 ∧ Hid (KF F) ∧ Sq w W (rBlk (q + 1) 118 #[.map (some m'), .bool F.st, .int .i64 F.at0] :: rMap 9 m' N (rfF F) :: [rOwn w.heap.size 3 1 (.slice A' bad.length c') bad.length (bad.map (Value.int .i64))]))
  case first =>
    go_wp2_with fail
    go_loopw [7, 16] (fun s7 i wr => ∃ (k m' N : Nat) (A' : Option Addr) (c' : Nat) (F : PF) (bad : List Int), k ≤ n ∧ i = .int .i64 k ∧ s7 = .slice A' bad.length c' ∧ Hid (rfolS (l.take k) = (F, k, bad)) ∧ N ≤ k ∧ bad.length ≤ k ∧ Hid (KF F) ∧ Hid (∀ x ∈ l.take k, x.at_ ≤ u) ∧ Sq w wr (rBlk (q + 1) 118 #[.map (some m'), .bool F.st, .int .i64 F.at0] :: rMap 9 m' N (rfF F) :: [rOwn w.heap.size 3 1 (.slice A' bad.length c') bad.length (bad.map (Value.int .i64))])) (fun _ i _ => n - (intOf i).toNat)
    case atStart => exact ⟨0, q, 0, none, 0, pf0, [], Nat.zero_le _, rfl, rfl, Lib.hid rfl, Nat.le_refl _, Nat.le_refl _, Lib.hid KF.start, Lib.hid (fun x hx => by cases hx), hS0⟩
    case round =>
      clear hS0
      obtain ⟨k, m', N, A', c', F, bad, hk, rfl, rfl, HF, hNk, hbk, HK, HU, hS⟩ := hrel
      obtain ⟨wo, hwo⟩ : ∃ z, z = wr := ⟨_, rfl⟩
      subst hwo
      obtain ⟨st, hst⟩ : ∃ st, F.st = st := ⟨_, rfl⟩
      by_cases hlt : k < n
      · have hkr : k < l.length := by rw [HL.out]; exact hlt
        obtain ⟨g, o, hA, _, hcs⟩ := HC.out (by omega)
        subst hA
        obtain ⟨x, hx⟩ : ∃ x, l[k] = x := ⟨_, rfl⟩
        have c0 := below_cell hS.below (hcs k hkr 0 (by omega))
        have c1 := below_cell hS.below (hcs k hkr 1 (by omega))
        have c2 := below_cell hS.below (hcs k hkr 2 (by omega))
        rw [hx] at c0 c1 c2
        have hxk := HOK.out.kind _ (List.getElem_mem hkr)
        have hxw := HOK.out.who _ (List.getElem_mem hkr)
        have hstep := rfolS_step l k hkr
        have htk : l.take (k + 1) = l.take k ++ [x] := by rw [List.take_succ_eq_append_getElem hkr, hx]
        rw [hx] at hxk hxw hstep
        rw [HF.out] at hstep
        have HST := Lib.hid hstep
        have HTK := Lib.hid htk
        obtain ⟨at_, kd, who⟩ := x
        replace c0 : wo.cell? ⟨g, o + k * 3, none⟩ = some (.int .i64 at_) := c0
        replace c1 : wo.cell? ⟨g, o + k * 3 + 1, none⟩ = some (.int .i64 kd) := c1
        replace c2 : wo.cell? ⟨g, o + k * 3 + 2, none⟩ = some (.string who) := c2
        have hk0 : (0 : Int) ≤ (k : Int) := by omega
        have hk1 : (k : Int) < (n : Int) := by omega
        have hSa := hS.alloc (.cells #[.int .i64 at_, .int .i64 kd, .string who] 34)
        have hgb : Blk (wo.alloc (.cells #[.int .i64 at_, .int .i64 kd, .string who] 34)) (q + 1) 118 #[.map (some m'), .bool F.st, .int .i64 F.at0] := hSa.nth 0 rfl
        have s1 := hgb.cell 1
        have hwoz := hS.size
        rw [hst] at s1
        by_cases hle : at_ ≤ u
        · have HU2 : Hid (∀ x ∈ l.take (k + 1), x.at_ ≤ u) := Lib.hid (fun x hx => by
            rw [HTK.out] at hx
            rcases List.mem_append.1 hx with hx | hx
            · exact HU.out x hx
            · simp at hx; subst hx; exact hle)
          obtain ⟨oF, hoF⟩ : ∃ oF, oF = stpP F ⟨at_, kd, who⟩ := ⟨_, rfl⟩
          cases st
          · have HO : Hid (oF = befP F ⟨at_, kd, who⟩) := Lib.hid (by rw [hoF]; unfold stpP; rw [hst]; rfl)
            have HA := Lib.hid (before_calls w (q + 1) m' N F [rOwn w.heap.size 3 1 (.slice A' bad.length c') bad.length (bad.map (Value.int .i64))] at_ kd who _ hSa HK.out (by omega) hxw hxk)
            rw [← HO.out] at HA
            cases oF with
            | none =>
              have HF2 : Hid (rfolS (l.take (k + 1)) = (F, k + 1, bad ++ [(k : Int)])) := Lib.hid (HST.out.trans (accS_none hoF.symm))
              clear hcs hx hxk hxw hstep htk hS hSa hgb hoF hst
              go_wp2_with fail
              refine HA.out.mono ?_
              rintro e w2 ⟨m3, rfl, hS2⟩
              clear HA c0 c1 c2 s1
              have hS3 := hS2.front 2 rfl rfl
              obtain ⟨nb, hnb⟩ : ∃ nb, bad.length = nb := ⟨_, rfl⟩
              have HNB := Lib.hid hnb
              rw [hnb] at hS3 hbk ⊢
              have HO5 : w2.ownsRow w.heap.size 3 1 (.slice A' nb c') nb (bad.map (Value.int .i64)) := hS3.head
              have hz2 := hS3.size
              clear hS2 hnb
              go_wp2_with (first
                | (at_builtin; refine wpList_append_own_at _ rfl _ _ 22 rfl w.heap.size 3 j0 (.int .i64 0) 1 8 Tryz.underlying22 hj hy0 hy1 hy2 rfl (by decide) _ _ _ rfl (HO5.alloc _) ⟨w2.heap.size, 0, none⟩ 1 1 [.int .i64 k] rfl rfl (World.news_of_block (heap_alloc_new _ _)) (one1 rfl) (by unfold maxLen; omega) (by omega) (by simp; omega) ?_; intro v' w8 hown' hgrow _ hblk; obtain ⟨A8, c8, hv8⟩ := own_form hown'; subst hv8; have hS8 := (hS3.alloc _).append hown' hgrow hblk; clear hown' hgrow hblk))
              have e1 : (bad ++ [(k : Int)]).length = nb + 1 := by rw [List.length_append, HNB.out]; rfl
              have e2 : (bad ++ [(k : Int)]).map (Value.int .i64) = bad.map (Value.int .i64) ++ [.int .i64 k] := by simp
              have E1 := Lib.hid e1
              have E2 := Lib.hid e2
              clear e1 e2
              go_roundw
              case rel => exact ⟨k + 1, m3, N + 1, A8, c8, F, bad ++ [(k : Int)], by omega, by go_num, by rw [E1.out], HF2, by omega, by rw [E1.out]; omega, HK, HU2, by rw [E1.out, E2.out]; exact (hS8.front 2 rfl rfl).front 2 rfl rfl⟩
              case measure => simp [intOf]; omega
            | some F' =>
              have HF2 : Hid (rfolS (l.take (k + 1)) = (F', k + 1, bad)) := Lib.hid (HST.out.trans (accS_some hoF.symm))
              have HK2 : Hid (KF F') := Lib.hid (HK.out.step (x := ⟨at_, kd, who⟩) hxw hoF.symm)
              clear hcs hx hxk hxw hstep htk hS hSa hgb hoF hst
              go_wp2_with fail
              refine HA.out.mono ?_
              rintro e w2 ⟨m3, rfl, hS2⟩
              clear HA c0 c1 c2 s1
              go_wp2_with fail
              go_roundw
              case rel => exact ⟨k + 1, m3, N + 1, A', c', F', bad, by omega, by go_num, rfl, HF2, by omega, by omega, HK2, HU2, hS2⟩
              case measure => simp [intOf]; omega
          · have HO : Hid (oF = aftP F ⟨at_, kd, who⟩) := Lib.hid (by rw [hoF]; unfold stpP; rw [hst]; rfl)
            have HA := Lib.hid (after_calls w (q + 1) m' N F [rOwn w.heap.size 3 1 (.slice A' bad.length c') bad.length (bad.map (Value.int .i64))] at_ kd who _ hSa HK.out (by omega) hxw hxk)
            rw [← HO.out] at HA
            cases oF with
            | none =>
              have HF2 : Hid (rfolS (l.take (k + 1)) = (F, k + 1, bad ++ [(k : Int)])) := Lib.hid (HST.out.trans (accS_none hoF.symm))
              clear hcs hx hxk hxw hstep htk hS hSa hgb hoF hst
              go_wp2_with fail
              refine HA.out.mono ?_
              rintro e w2 ⟨m3, rfl, hS2⟩
              clear HA c0 c1 c2 s1
              have hS3 := hS2.front 2 rfl rfl
              obtain ⟨nb, hnb⟩ : ∃ nb, bad.length = nb := ⟨_, rfl⟩
              have HNB := Lib.hid hnb
              rw [hnb] at hS3 hbk ⊢
              have HO5 : w2.ownsRow w.heap.size 3 1 (.slice A' nb c') nb (bad.map (Value.int .i64)) := hS3.head
              have hz2 := hS3.size
              clear hS2 hnb
              go_wp2_with (first
                | (at_builtin; refine wpList_append_own_at _ rfl _ _ 22 rfl w.heap.size 3 j0 (.int .i64 0) 1 8 Tryz.underlying22 hj hy0 hy1 hy2 rfl (by decide) _ _ _ rfl (HO5.alloc _) ⟨w2.heap.size, 0, none⟩ 1 1 [.int .i64 k] rfl rfl (World.news_of_block (heap_alloc_new _ _)) (one1 rfl) (by unfold maxLen; omega) (by omega) (by simp; omega) ?_; intro v' w8 hown' hgrow _ hblk; obtain ⟨A8, c8, hv8⟩ := own_form hown'; subst hv8; have hS8 := (hS3.alloc _).append hown' hgrow hblk; clear hown' hgrow hblk))
              have e1 : (bad ++ [(k : Int)]).length = nb + 1 := by rw [List.length_append, HNB.out]; rfl
              have e2 : (bad ++ [(k : Int)]).map (Value.int .i64) = bad.map (Value.int .i64) ++ [.int .i64 k] := by simp
              have E1 := Lib.hid e1
              have E2 := Lib.hid e2
              clear e1 e2
              go_roundw
              case rel => exact ⟨k + 1, m3, N + 1, A8, c8, F, bad ++ [(k : Int)], by omega, by go_num, by rw [E1.out], HF2, by omega, by rw [E1.out]; omega, HK, HU2, by rw [E1.out, E2.out]; exact (hS8.front 2 rfl rfl).front 2 rfl rfl⟩
              case measure => simp [intOf]; omega
            | some F' =>
              have HF2 : Hid (rfolS (l.take (k + 1)) = (F', k + 1, bad)) := Lib.hid (HST.out.trans (accS_some hoF.symm))
              have HK2 : Hid (KF F') := Lib.hid (HK.out.step (x := ⟨at_, kd, who⟩) hxw hoF.symm)
              clear hcs hx hxk hxw hstep htk hS hSa hgb hoF hst
              go_wp2_with fail
              refine HA.out.mono ?_
              rintro e w2 ⟨m3, rfl, hS2⟩
              clear HA c0 c1 c2 s1
              go_wp2_with fail
              go_roundw
              case rel => exact ⟨k + 1, m3, N + 1, A', c', F', bad, by omega, by go_num, rfl, HF2, by omega, by omega, HK2, HU2, hS2⟩
              case measure => simp [intOf]; omega
        · have HD : Hid (rfolP l u = (F, k, bad)) := Lib.hid (by
            unfold rfolP
            rw [untilS_take u l k (by omega) HU.out (fun h => by rw [hx]; show u < at_; omega)]
            exact HF.out)
          have hSe := hSa
          clear hcs hx hxk hxw hstep htk hS hSa hgb hst s1
          go_wp2_with fail
          go_meet
          exact ⟨m', N, A', c', F, k, bad, rfl, HD, by omega, by omega, HK, hSe⟩
      · obtain rfl : k = n := by omega
        have HD : Hid (rfolP l u = (F, k, bad)) := Lib.hid (by
          unfold rfolP
          rw [untilS_take u l k (by rw [HL.out]; exact Nat.le_refl _) HU.out (fun h => by rw [HL.out] at h; omega)]
          exact HF.out)
        go_wp2_with fail
        go_meet
        exact ⟨m', N, A', c', F, k, bad, rfl, HD, by omega, by omega, HK, hS⟩
  case rest =>
    obtain ⟨m', N, A', c', F, k, bad, rfl, HD, hN, hb, HK, hS⟩ := hcut
    clear hS0
    go_wp2_with fail
    go_ret2
    show FolR (rfolP l u) w _ _
    rw [HD.out]
    exact ⟨q + 1, m', N, A', c', rfl, HK.out, hN, hb, hS⟩
end Go.Proofs.YthbcogekfdllmaaGreatDoor
