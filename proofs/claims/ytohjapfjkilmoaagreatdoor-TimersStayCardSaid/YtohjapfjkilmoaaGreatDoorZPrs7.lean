/-
  The clock's press of any kind, and follow, by contracts. (Printed by gen_prs7.py.)
-/
import Derived.Test.YtohjapfjkilmoaaGreatDoorZPrs6
import Derived.Test.YtohjapfjkilmoaaGreatDoorZSlot4
namespace Go.Proofs.YtohjapfjkilmoaaGreatDoor
open Go Go.RowKit
attribute [local go_sem ↓] Go.wp_at_zero Go.wp_at_succ

theorem press_calls (w0 : World) (b n : Nat) (c : Clk) (t k : Int) (A : Option Addr) (cap : Nat) (l : List Rsc) (w : World)
    (hS : Sq w0 w (rBlk b 66 (clkC n c (.slice A c.cuts.length cap)) :: rOwn w0.heap.size 40 3 (.slice A c.cuts.length cap) c.cuts.length (c.cuts.flatMap cutC) :: l)) (hb : PressBd n c t) (hk : 1 ≤ k ∧ k ≤ 9) :
    Calls Tryz.prog 39 #[.pointer (some ⟨b, 0, none⟩), .agg #[.int .i64 t, .int .i64 k]] w (PressG w0 b n (advP c t) k l) := by
  rcases (show k = 1 ∨ k = 2 ∨ k = 3 ∨ k = 4 ∨ k = 5 ∨ k = 6 ∨ k = 7 ∨ k = 8 ∨ k = 9 by omega) with rfl | rfl | rfl | rfl | rfl | rfl | rfl | rfl | rfl
  · exact press1_calls w0 b n c t A cap l w hS hb
  · exact press2_calls w0 b n c t A cap l w hS hb
  · exact press3_calls w0 b n c t A cap l w hS hb
  · exact press4_calls w0 b n c t A cap l w hS hb
  · exact press5_calls w0 b n c t A cap l w hS hb
  · exact press6_calls w0 b n c t A cap l w hS hb
  · exact press7_calls w0 b n c t A cap l w hS hb
  · exact press8_calls w0 b n c t A cap l w hS hb
  · exact press9_calls w0 b n c t A cap l w hS hb

/-! ### bounds -/
/-- what a clock may hold behind k presses -/
structure FB (k : Int) (c : Clk) : Prop where
  at_ : 0 ≤ c.at_ ∧ c.at_ ≤ 345686400000
  real : -345686400000 * k ≤ c.real ∧ c.real ≤ 345686400000 * k
  game : -345686400000 * k ≤ c.game ∧ c.game ≤ 345686400000 * k
  begun : 0 ≤ c.begun ∧ c.begun ≤ k
  done : 0 ≤ c.done ∧ c.done ≤ k
  cuts : (c.cuts.length : Int) ≤ k
theorem FB.adv {k : Int} {c : Clk} (h : FB k c) (_hk : 0 ≤ k) {t : Int} (ht : 0 ≤ t ∧ t ≤ 345686400000) : FB (k + 1) (advP c t) := by
  obtain ⟨⟨a1, a2⟩, ⟨r1, r2⟩, ⟨g1, g2⟩, ⟨b1, b2⟩, ⟨d1, d2⟩, cl⟩ := h
  refine ⟨ht, ?_, ?_, ?_, ?_, ?_⟩
  · show -345686400000 * (k + 1) ≤ (if c.phase = 1 ∨ c.phase = 3 then c.real + (t - c.at_) else c.real) ∧ (if c.phase = 1 ∨ c.phase = 3 then c.real + (t - c.at_) else c.real) ≤ 345686400000 * (k + 1)
    split <;> omega
  · show -345686400000 * (k + 1) ≤ (if c.phase = 1 ∨ c.phase = 3 then (if c.loads = true then c.game else c.game + (t - c.at_)) else c.game) ∧ (if c.phase = 1 ∨ c.phase = 3 then (if c.loads = true then c.game else c.game + (t - c.at_)) else c.game) ≤ 345686400000 * (k + 1)
    split
    · split <;> omega
    · omega
  · show 0 ≤ c.begun ∧ c.begun ≤ k + 1
    omega
  · show 0 ≤ c.done ∧ c.done ≤ k + 1
    omega
  · show (c.cuts.length : Int) ≤ k + 1
    omega
theorem done_times (n : Nat) (c : Clk) (k : Int) : ((doneP n c k).real = c.real ∨ (doneP n c k).real = 0) ∧ ((doneP n c k).game = c.game ∨ (doneP n c k).game = 0) ∧ ((doneP n c k).cuts.length ≤ c.cuts.length + 1) ∧ (c.begun ≤ (doneP n c k).begun ∧ (doneP n c k).begun ≤ c.begun + 1) ∧ (c.done ≤ (doneP n c k).done ∧ (doneP n c k).done ≤ c.done + 1) := by
  unfold doneP cutP resetP
  repeat' split
  all_goals (refine ⟨?_, ?_, ?_, ⟨?_, ?_⟩, ?_, ?_⟩ <;> (first | exact .inl rfl | exact .inr rfl | (simp; done) | (simp; omega) | omega))
theorem FB.press {k : Int} {c : Clk} (n : Nat) (h : FB k c) (hk : 0 ≤ k) {p : Pz} (ht : 0 ≤ p.1 ∧ p.1 ≤ 345686399999) (h0 : (c.cuts.length : Int) ≤ k ∧ c.begun ≤ k ∧ c.done ≤ k) : FB (k + 1) (pressP n c p) := by
  have h1 := h.adv hk (t := p.1) (by omega)
  unfold pressP
  split
  · exact h1
  · obtain ⟨e1, e2, e3, ⟨e4, e5⟩, e6, e7⟩ := done_times n (advP c p.1) p.2
    have e8 := done_at n (advP c p.1) p.2
    rw [show (advP c p.1).cuts = c.cuts from rfl] at e3
    rw [show (advP c p.1).begun = c.begun from rfl] at e4 e5
    rw [show (advP c p.1).done = c.done from rfl] at e6 e7
    have hbg := h.begun
    have hdn := h.done
    obtain ⟨x1, x2⟩ := h1.real
    obtain ⟨x3, x4⟩ := h1.game
    refine ⟨by rw [e8]; exact h1.at_, ?_, ?_, by omega, by omega, by omega⟩
    · rcases e1 with e | e <;> rw [e] <;> omega
    · rcases e2 with e | e <;> rw [e] <;> omega
theorem fol_bd (n : Nat) (u : Int) {l : List Pz} (hl : PzOk l) : ∀ k, k ≤ l.length → FB k (folP n u l k).1 ∧ (folP n u l k).2.length ≤ k
  | 0, _ => by
    refine ⟨⟨?_, ?_, ?_, ?_, ?_, ?_⟩, ?_⟩ <;> simp [folP, clk0]
  | k + 1, hk => by
    have hlt : k < l.length := by omega
    obtain ⟨ih, ihl⟩ := fol_bd n u hl k (by omega)
    have hp := hl.at_ _ (List.getElem_mem hlt)
    rw [folP_step n u l k hlt]
    split
    · refine ⟨?_, ?_⟩
      · have := ih.press n (by omega) hp ⟨ih.cuts, ih.begun.2, ih.done.2⟩
        simpa using this
      · simp only
        split
        · simp; omega
        · omega
    · refine ⟨?_, by omega⟩
      obtain ⟨a, ⟨r1, r2⟩, ⟨g1, g2⟩, ⟨b1, b2⟩, ⟨d1, d2⟩, cl⟩ := ih
      exact ⟨a, by omega, by omega, by omega, by omega, by omega⟩
theorem FB.pbd {k : Int} {c : Clk} {n : Nat} (h : FB k c) (hk : 0 ≤ k) (hk2 : k ≤ 2001) (hn : n ≤ 100000) {t : Int} (ht : 0 ≤ t ∧ t ≤ 345686400000) : PressBd n c t := by
  have h1 := h.adv hk ht
  obtain ⟨⟨a1, a2⟩, ⟨r1, r2⟩, ⟨g1, g2⟩, ⟨b1, b2⟩, ⟨d1, d2⟩, cl⟩ := h
  obtain ⟨⟨s1, s2⟩, ⟨t1, t2⟩, ⟨u1, u2⟩, ⟨v1, v2⟩, ⟨x1, x2⟩, _⟩ := h1
  exact ⟨⟨by omega, by omega, by omega, by omega⟩, ⟨by omega, by omega, by omega, by omega⟩, by omega, by omega, by omega, hn⟩

/-- a clock in new memory, and the refused ones -/
def FolS (n : Nat) (f : Clk × List Int) (w : World) (e : Ending) (w' : World) : Prop :=
  ∃ (gc : Nat) (A1 : Option Addr) (cap1 : Nat) (A2 : Option Addr) (cap2 : Nat), e = .returned (.tuple #[.pointer (some ⟨gc, 0, none⟩), .slice A2 f.2.length cap2]) ∧
    Sq w w' [rBlk gc 66 (clkC n f.1 (.slice A1 f.1.cuts.length cap1)), rOwn w.heap.size 40 3 (.slice A1 f.1.cuts.length cap1) f.1.cuts.length (f.1.cuts.flatMap cutC), rOwn w.heap.size 3 1 (.slice A2 f.2.length cap2) f.2.length (f.2.map (Value.int .i64))]

set_option maxRecDepth 100000 in
set_option maxHeartbeats 4000000 in
theorem followT_calls (b : Nat) (n : Nat) (A : Option Addr) (m c : Nat) (l : List Pz) (u : Int) (w : World) (hr : Rd w b 2 (.slice A m c) m (l.flatMap pzC)) (hn : n ≤ 100000) (hl : PzOk l) (hm : m ≤ 2000) :
    Calls Tryz.prog 22 #[.int .i64 n, .slice A m c, .int .i64 u] w (FolS n (folP n u l l.length) w) := by
  obtain ⟨j0, hj, hy0, hy1, hy2⟩ := info_parts info_int
  obtain ⟨hlen, hnc, hcm, hcells⟩ := hr.cells pzC_len (by omega)
  unfold maxLen at hcm
  have HL := Lib.hid hlen
  have HC := Lib.hid hcells
  have HOK := Lib.hid hl
  have HBD := Lib.hid (fol_bd n u hl)
  have hS0 : Sq w (w.alloc (.cells #[.int .i64 n, .int .i64 0, .bool false, .int .i64 0, .int .i64 0, .int .i64 0, .slice none 0 0, .int .i64 0, .int .i64 0, .bool false, .int .i64 0, .int .i64 0] 66))
      [rBlk w.heap.size 66 (clkC n (folP n u l 0).1 (.slice none (folP n u l 0).1.cuts.length 0)), rOwn w.heap.size 40 3 (.slice none (folP n u l 0).1.cuts.length 0) (folP n u l 0).1.cuts.length ((folP n u l 0).1.cuts.flatMap cutC), rOwn w.heap.size 3 1 (.slice none (folP n u l 0).2.length 0) (folP n u l 0).2.length ((folP n u l 0).2.map (Value.int .i64))] :=
    ((((Sq.start w).nil w.heap.size 3 1).nil w.heap.size 40 3).add #[.int .i64 n, .int .i64 0, .bool false, .int .i64 0, .int .i64 0, .int .i64 0, .slice none 0 0, .int .i64 0, .int .i64 0, .bool false, .int .i64 0, .int .i64 0] 66)
  clear hcells hlen hl hr
  go_enter Tryz.func22, Tryz.ntmps22
  go_wp2_with fail
  go_loopw [9, 17] (fun rf i wr => ∃ (k : Nat) (A1 : Option Addr) (cap1 : Nat) (A2 : Option Addr) (cap2 : Nat), k ≤ m ∧ i = .int .i64 k ∧ rf = .slice A2 (folP n u l k).2.length cap2 ∧ Sq w wr [rBlk w.heap.size 66 (clkC n (folP n u l k).1 (.slice A1 (folP n u l k).1.cuts.length cap1)), rOwn w.heap.size 40 3 (.slice A1 (folP n u l k).1.cuts.length cap1) (folP n u l k).1.cuts.length ((folP n u l k).1.cuts.flatMap cutC), rOwn w.heap.size 3 1 (.slice A2 (folP n u l k).2.length cap2) (folP n u l k).2.length ((folP n u l k).2.map (Value.int .i64))]) (fun _ i _ => m - (intOf i).toNat)
  case atStart => exact ⟨0, none, 0, none, 0, Nat.zero_le _, rfl, rfl, hS0⟩
  case round =>
    clear hS0
    obtain ⟨k, A1, cap1, A2, cap2, hk, rfl, rfl, hS⟩ := hrel
    by_cases hlt : k < m
    · have hkr : k < l.length := by rw [HL.out]; exact hlt
      obtain ⟨g, o, hA, _, hcs⟩ := HC.out (by omega)
      subst hA
      have hst := folP_step n u l k hkr
      have hpa := HOK.out.at_ _ (List.getElem_mem hkr)
      have hpk := HOK.out.kind _ (List.getElem_mem hkr)
      have x0 := below_cell hS.below (hcs k hkr 0 (by omega))
      have x1 := below_cell hS.below (hcs k hkr 1 (by omega))
      obtain ⟨p, hp⟩ : ∃ p, l[k] = p := ⟨_, rfl⟩
      rw [hp] at hst hpa hpk x0 x1
      obtain ⟨t, kd⟩ := p
      simp only at hpa hpk
      replace x0 : wr.cell? ⟨g, o + k * 2, none⟩ = some (.int .i64 t) := x0
      replace x1 : wr.cell? ⟨g, o + k * 2 + 1, none⟩ = some (.int .i64 kd) := x1
      obtain ⟨fb, fl⟩ := HBD.out k (by omega)
      have hz := hS.size
      obtain ⟨F, hF⟩ : ∃ F, folP n u l k = F := ⟨_, rfl⟩
      obtain ⟨F2, hF2⟩ : ∃ F2, folP n u l (k + 1) = F2 := ⟨_, rfl⟩
      rw [hF, hF2] at hst
      rw [hF] at fb fl hS ⊢
      have HF2 := Lib.hid hF2
      obtain ⟨c1, rs⟩ := F
      simp only at hst fb fl hS
      have hSa := ((hS.add #[.int .i64 t, .int .i64 kd] 50).front 2 rfl rfl).front 2 rfl rfl
      obtain ⟨gp, hgp⟩ : ∃ gp, wr.heap.size = gp := ⟨_, rfl⟩
      obtain ⟨wa, hwa⟩ : ∃ wa, wr.alloc (.cells #[.int .i64 t, .int .i64 kd] 50) = wa := ⟨_, rfl⟩
      rw [hwa] at hSa
      obtain ⟨y0, y1, _, _⟩ := Blk.two (show Blk wa wr.heap.size 50 #[.int .i64 t, .int .i64 kd] from hSa.nth 2 rfl)
      by_cases hu : t ≤ u
      · rw [if_pos hu] at hst
        have HP := Lib.hid (press_calls w w.heap.size n c1 t kd A1 cap1 _ wa hSa (fb.pbd (by omega) (by omega) hn (by omega)) hpk)
        clear hcs hp hF hF2 hS hSa fb hgp
        go_wp2_with fail
        refine HP.out.mono ?_
        rintro e w2 ⟨rfl, B1, capB, hS2⟩
        have hC2 : (if refP n (advP c1 t) kd = true then advP c1 t else doneP n (advP c1 t) kd) = pressP n c1 (t, kd) := rfl
        rw [hC2] at hS2
        obtain ⟨C2, hC2'⟩ : ∃ C2, pressP n c1 (t, kd) = C2 := ⟨_, rfl⟩
        rw [hC2'] at hS2 hst
        obtain ⟨B, hB⟩ : ∃ B, refP n (advP c1 t) kd = B := ⟨_, rfl⟩
        rw [hB] at hst ⊢
        clear hC2 hC2' hB HP y0 y1 hwa x0 x1
        cases B
        · rw [if_neg (by decide)] at hst
          have HST : Hid (folP n u l (k + 1) = (C2, rs)) := HF2.out.trans hst
          clear hst
          go_wp2_with fail
          go_roundw
          case rel => exact ⟨k + 1, B1, capB, A2, cap2, by omega, by go_num, by rw [HST.out], by rw [HST.out]; exact hS2.drop 2 rfl rfl⟩
          case measure => simp [intOf]; omega
        · rw [if_pos rfl] at hst
          have HST : Hid (folP n u l (k + 1) = (C2, rs ++ [(k : Int)])) := HF2.out.trans hst
          have hSf := (hS2.drop 2 rfl rfl).front 2 rfl rfl
          have HO : w2.ownsRow w.heap.size 3 1 (.slice A2 rs.length cap2) rs.length (rs.map (Value.int .i64)) := hSf.head
          have hz2 := hS2.size
          clear hst hS2
          go_wp2_with (first
            | (at_builtin; refine wpList_append_own_at _ rfl _ _ 22 rfl w.heap.size 3 j0 (.int .i64 0) 1 8 Tryz.underlying22 hj hy0 hy1 hy2 rfl (by decide) _ _ _ rfl (HO.alloc _) ⟨w2.heap.size, 0, none⟩ 1 1 [.int .i64 k] rfl rfl (World.news_of_block (heap_alloc_new _ _)) (one1 rfl) (by unfold maxLen; omega) (by omega) (by simp; omega) ?_; intro v' w8 hown' hgrow _ hblk; obtain ⟨A8, c8, hv8⟩ := own_form hown'; subst hv8; have hS8 := (hSf.alloc _).append hown' hgrow hblk; clear hown' hgrow hblk HO))
          have hS9 := (hS8.front 2 rfl rfl).front 2 rfl rfl
          go_roundw
          case rel => exact ⟨k + 1, B1, capB, A8, c8, by omega, by go_num, by rw [HST.out, List.length_append]; rfl, by rw [HST.out, List.length_append, List.map_append]; exact hS9⟩
          case measure => simp [intOf]; omega
      · rw [if_neg hu] at hst
        have HST : Hid (folP n u l (k + 1) = (c1, rs)) := HF2.out.trans hst
        clear hcs hp hF hF2 hS fb hgp hst
        go_wp2_with fail
        go_roundw
        case rel => exact ⟨k + 1, A1, cap1, A2, cap2, by omega, by go_num, by rw [HST.out], by rw [HST.out]; exact hSa.drop 2 rfl rfl⟩
        case measure => simp [intOf]; omega
    · obtain rfl : k = m := by omega
      have HLL := Lib.hid HL.out.symm
      go_wp2_with fail
      refine bodyPost_ret (v := .tuple #[.pointer (some ⟨w.heap.size, 0, none⟩), .slice A2 (folP n u l k).2.length cap2]) (by simp [results, Tryz.results22, go_sem]) rfl ?_
      rw [HL.out]
      exact ⟨w.heap.size, A1, cap1, A2, cap2, rfl, hS⟩
end Go.Proofs.YtohjapfjkilmoaaGreatDoor
