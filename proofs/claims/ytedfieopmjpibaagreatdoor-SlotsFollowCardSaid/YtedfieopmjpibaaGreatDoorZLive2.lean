/-
  marathon.follow and CheckLive by contracts. (Printed by gen_live2.py.)
-/
import Derived.Test.YtedfieopmjpibaaGreatDoorZLive1
import Derived.Test.YtedfieopmjpibaaGreatDoorZSlot6
namespace Go.Proofs.YtedfieopmjpibaaGreatDoor
open Go Go.RowKit
attribute [local go_sem ↓] Go.wp_at_zero Go.wp_at_succ

/-- something live within its bounds -/
def LvOk (y : Lv) : Prop := (-2199023255552 ≤ y.1 ∧ y.1 ≤ 2199023255552) ∧ (-2199023255552 ≤ y.2.1 ∧ y.2.1 ≤ 2199023255552) ∧ y.2.2.size ≤ 1000
theorem step_len (S : ShowP) (y : Lv) : ((stepP S y).getD S).order.length ≤ S.order.length + 1 := by
  unfold stepP
  split
  · split <;> simp
  · split
    · split <;> simp
    · split <;> simp
theorem state_len : ∀ p : List Lv, ∀ S : ShowP, (p.foldl (fun S y => (stepP S y).getD S) S).order.length ≤ S.order.length + p.length
  | [], S => by simp
  | y :: p, S => by
    have := state_len p ((stepP S y).getD S)
    have := step_len S y
    simp only [List.foldl_cons, List.length_cons]
    omega
theorem stateP_len (p : List Lv) : (stateP p).order.length ≤ p.length := by
  have := state_len p show0
  simpa [show0, stateP] using this
theorem upTo_step (ys : List Lv) (u : Int) (k : Nat) (hk : k < ys.length) : upTo (ys.take (k + 1)) u = if ys[k].1 ≤ u then upTo (ys.take k) u ++ [ys[k]] else upTo (ys.take k) u := by
  unfold upTo
  rw [List.take_succ_eq_append_getElem hk, List.filter_append]
  by_cases h : ys[k].1 ≤ u
  · simp [h]
  · simp [h]
theorem upTo_le (ys : List Lv) (u : Int) (k : Nat) : (upTo (ys.take k) u).length ≤ k := by
  unfold upTo
  have := List.length_filter_le (fun y : Lv => decide (y.1 ≤ u)) (ys.take k)
  simp at this ⊢
  omega
/-- a show in new memory -/
def ShowS (S : ShowP) (w : World) (e : Ending) (w' : World) : Prop :=
  ∃ gs gm N A c, e = .returned (.pointer (some ⟨gs, 0, none⟩)) ∧ N ≤ 1000 ∧ Sq w w' (shL w.heap.size gs gm N A c S [])

set_option maxRecDepth 100000 in
set_option maxHeartbeats 2000000 in
theorem follow_calls (b : Nat) (A : Option Addr) (n c : Nat) (ys : List Lv) (u : Int) (w : World) (hr : Rd w b 3 (.slice A n c) n (ys.flatMap lvC)) (hys : ∀ y ∈ ys, LvOk y) (hkd : ∀ y ∈ ys, y.2.1 = 1 ∨ y.2.1 = 2 ∨ y.2.1 = 3) (hn : n ≤ 900) :
    Calls Tryz.prog 79 #[.slice A n c, .int .i64 u] w (ShowS (stateP (upTo ys u)) w) := by
  obtain ⟨hl, hnc, hcm, hcells⟩ := hr.cells lvC_len (by omega)
  unfold maxLen at hcm
  have HL := Lib.hid hl
  have HC := Lib.hid hcells
  have HY := Lib.hid hys
  have HK := Lib.hid hkd
  have hmm := @run_makeMap Tryz.prog
  have hS0 : Sq w ((w.alloc (.map #[] 0)).alloc (.cells #[.map (some w.heap.size), .slice none 0 0, .bool false] 127)) (shL w.heap.size (w.heap.size + 1) w.heap.size 0 none 0 show0 []) := by
    have h := (((((Sq.start w).addMap 9)).add #[.map (some w.heap.size), .slice none 0 0, .bool false] 127).nil w.heap.size 9 1)
    simp only [size1] at h
    refine ((h.front 2 rfl rfl).front 2 rfl rfl |> fun h2 => ?_)
    have h3 := (h2.front 1 rfl rfl)
    refine Sq.front (i := 1) (l := rStg w.heap.size 0 show0.st :: rBlk (w.heap.size + 1) 127 #[.map (some w.heap.size), .slice none 0 0, .bool false] :: rOwn w.heap.size 9 1 (.slice none 0 0) 0 [] :: []) ?_ rfl rfl
    exact ⟨h3.below, h3.hp.tail.cons ⟨_, h3.head, fun _ => rfl⟩ (rStg_ok _ _ _) (fun k hk => h3.hp.new _ (List.mem_cons_self ..) k hk) (fun s hs k hk hk2 => (List.pairwise_cons.1 h3.hp.apart).1 s hs k hk hk2)⟩
  clear hcells hl hr hys hkd
  go_enter Tryz.func79, Tryz.ntmps79
  go_wp2_with fail
  clear hmm
  go_loopw [13] (fun i wr => ∃ (k : Nat) (A' : Option Addr) (c' : Nat), k ≤ n ∧ i = .int .i64 k ∧ Sq w wr (shL w.heap.size (w.heap.size + 1) w.heap.size k A' c' (stateP (upTo (ys.take k) u)) [])) (fun i _ => n - (intOf i).toNat)
  case atStart => exact ⟨0, none, 0, Nat.zero_le _, rfl, hS0⟩
  case round =>
    clear hS0
    obtain ⟨k, A', c', hk, rfl, hS⟩ := hrel
    by_cases hlt : k < n
    · have hkr : k < ys.length := by rw [HL.out]; exact hlt
      obtain ⟨g, o, hA, _, hcs⟩ := HC.out (by omega)
      subst hA
      obtain ⟨y, hy⟩ : ∃ y, ys[k] = y := ⟨_, rfl⟩
      have c0 := below_cell hS.below (hcs k hkr 0 (by omega))
      have c1 := below_cell hS.below (hcs k hkr 1 (by omega))
      have c2 := below_cell hS.below (hcs k hkr 2 (by omega))
      have hok := HY.out _ (List.getElem_mem hkr)
      have hkd := HK.out _ (List.getElem_mem hkr)
      have hst := upTo_step ys u k hkr
      rw [hy] at c0 c1 c2 hok hkd hst
      obtain ⟨at_, kd, key⟩ := y
      replace c0 : wr.cell? ⟨g, o + k * 3, none⟩ = some (.int .i64 at_) := c0
      replace c1 : wr.cell? ⟨g, o + k * 3 + 1, none⟩ = some (.int .i64 kd) := c1
      replace c2 : wr.cell? ⟨g, o + k * 3 + 2, none⟩ = some (.string key) := c2
      have hln : (stateP (upTo (ys.take k) u)).order.length ≤ k := Nat.le_trans (stateP_len _) (upTo_le ys u k)
      have HB := Lib.hid (hS.size)
      have hSa := hS.alloc (.cells #[.int .i64 at_, .int .i64 kd, .string key] 129)
      by_cases hle : at_ ≤ u
      · have HST : Hid (stateP (upTo (ys.take (k + 1)) u) = (stepP (stateP (upTo (ys.take k) u)) (at_, kd, key)).getD (stateP (upTo (ys.take k) u))) := by
          rw [hst, if_pos hle, stateP_snoc]; exact Lib.hid rfl
        have HCALL := Lib.hid (step_calls w w.heap.size (w.heap.size + 1) w.heap.size k A' c' (stateP (upTo (ys.take k) u)) [] at_ kd key _ hSa hkd (by omega) (by omega) hok.2.2 (by have := HB.out; simp; omega))
        clear hcs hy hok hkd hst hS hSa
        go_wp2_with fail
        refine HCALL.out.mono ?_
        rintro e w2 ⟨A2, c2', rfl, hS2⟩
        rw [← HST.out] at hS2
        clear HCALL
        go_wp2_with fail
        go_roundw
        case rel => exact ⟨k + 1, A2, c2', by omega, by go_num, hS2⟩
        case measure => simp [intOf]; omega
      · have HST : Hid (upTo (ys.take (k + 1)) u = upTo (ys.take k) u) := hst.trans (if_neg hle)
        clear hcs hy hok hkd hst hS
        go_wp2_with fail
        go_roundw
        case rel => exact ⟨k + 1, A', c', by omega, by go_num, by rw [HST.out]; exact (hSa.front 1 rfl rfl |>.stgMore (Nat.le_succ _)).front 1 rfl rfl⟩
        case measure => simp [intOf]; omega
    · obtain rfl : k = n := by omega
      have HS : Hid (ys.take k = ys) := List.take_of_length_le (by rw [HL.out]; exact Nat.le_refl _)
      rw [HS.out] at hS
      go_wp2_with fail
      go_ret
      exact ⟨_, _, _, _, _, rfl, by omega, hS⟩
end Go.Proofs.YtedfieopmjpibaaGreatDoor
