/-
  splitref2.LiveFault's closure, and slices.ContainsFunc over slots with it.
-/
import Derived.Test.YtlfhommeomchoaaZLive4
import Derived.Deep.DeepCutAuto
import Derived.Deep.RegionHeld3
namespace Go.Proofs.Ytlfhommeomchoaa
open Go Go.RowKit
attribute [local go_sem ↓] Go.wp_at_zero Go.wp_at_succ

set_option maxRecDepth 100000 in
set_option maxHeartbeats 2000000 in
theorem cloL_calls (b gx gi gy : Nat) (A : Option Addr) (m c k : Nat) (ys : List Lv) (y : Lv) (x : Slt) (w : World) (hr : Rd w b 3 (.slice A m c) m (ys.flatMap lvC)) (hk : k ≤ m)
    (hx : Blk w gx 85 #[.slice A m c]) (hi : Blk w gi 3 #[.int .i64 k]) (hy : Blk w gy 129 #[.int .i64 y.1, .int .i64 y.2.1, .string y.2.2]) :
    Calls Try.prog 113 #[.agg #[.string x.key, .string x.who, .slice x.ha x.hosts.length x.hc, .int .i64 x.setup, .int .i64 x.long], .pointer (some ⟨gx, 0, none⟩), .pointer (some ⟨gi, 0, none⟩), .pointer (some ⟨gy, 0, none⟩)] w (BRet (.bool (otherB (ys.take k) y.2.2 x)) w) := by
  obtain ⟨hl, hmc, hcm, _⟩ := hr.cells lvC_len (by omega)
  unfold maxLen at hcm
  have hS1 := (Sq.start w).add #[.string x.key, .string x.who, .slice x.ha x.hosts.length x.hc, .int .i64 x.setup, .int .i64 x.long] 121
  obtain ⟨w1, hw1⟩ : ∃ W, w.alloc (.cells #[.string x.key, .string x.who, .slice x.ha x.hosts.length x.hc, .int .i64 x.setup, .int .i64 x.long] 121) = W := ⟨_, rfl⟩
  have hz1 : w1.heap.size = w.heap.size + 1 := by rw [← hw1]; simp
  rw [hw1] at hS1
  obtain ⟨s1, hs1⟩ : ∃ s, (seenF (ys.take k) x.key).1 = s := ⟨_, rfl⟩
  obtain ⟨s2, hs2⟩ : ∃ s, (seenF (ys.take k) x.key).2.1 = s := ⟨_, rfl⟩
  obtain ⟨s3, hs3⟩ : ∃ s, (seenF (ys.take k) x.key).2.2 = s := ⟨_, rfl⟩
  have hv : otherB (ys.take k) y.2.2 x = (!(x.key.toList == y.2.2.toList) && (decide (0 ≤ s1) && decide (s2 < 0))) := by unfold otherB eqS; rw [hs1, hs2]
  have HS : Hid (∀ W, Below w1.heap.size w1 W → Calls Try.prog 109 #[.slice A k c, .string x.key] W (fun e w' => e = .returned (.agg #[.int .i64 s1, .int .i64 s2, .bool s3]) ∧ Below W.heap.size W w')) := fun W hW => by
    have h := seenBy_calls b A k c (ys.take k) x.key W (((hr.take lvC_len (by omega) hk).below hS1.below).below hW)
    unfold SeenS at h
    rw [hs1, hs2, hs3] at h
    exact h
  have HSP : Hid (∀ W, Below w1.heap.size w1 W → W.cell? ⟨gx, 0, none⟩ = some (.slice A m c) ∧ W.cell? ⟨gi, 0, none⟩ = some (.int .i64 k) ∧ W.cell? ⟨w.heap.size, 0, none⟩ = some (.string x.key)) := fun W hW => by
    have hb : Blk w1 w.heap.size _ _ := hS1.nth 0 rfl
    exact ⟨((hx.below hS1.below).below hW).cell 0, ((hi.below hS1.below).below hW).cell 0, (hb.below hW).cell 0⟩
  have HYP : Hid (∀ W, Below w.heap.size w W → W.cell? ⟨gy, 2, none⟩ = some (.string y.2.2)) := fun W hW => (hy.below hW).cell 2
  have hdr : Below w1.heap.size w1 w1.drew := below_drewN (Below.refl _ _) 1
  have hdrA : Below w1.heap.size w1 (w1.alloc (.cells #[.int .i64 0, .int .i64 0, .bool false] 135)).drew := below_drewN ((Below.refl _ _).alloc (Nat.le_refl _) _) 1
  have HZ : Hid (Blk (w1.alloc (.cells #[.int .i64 0, .int .i64 0, .bool false] 135)).drew (w.heap.size + 1) 135 #[.int .i64 0, .int .i64 0, .bool false]) := by rw [← hz1]; exact Blk.drew (Blk.new w1 _ _)
  have HQ1 : Hid (∀ w2, Below w1.heap.size w1 w2 → Sq w (w2.alloc (.cells #[.int .i64 s1, .int .i64 s2, .bool s3] 135)) [rBlk w2.heap.size 135 #[.int .i64 s1, .int .i64 s2, .bool s3], rBlk w.heap.size 121 #[.string x.key, .string x.who, .slice x.ha x.hosts.length x.hc, .int .i64 x.setup, .int .i64 x.long]]) := fun w2 h2 => (hS1.callB h2).add _ _
  have HQ2 : Hid (∀ w2, Below (w1.alloc (.cells #[.int .i64 0, .int .i64 0, .bool false] 135)).heap.size (w1.alloc (.cells #[.int .i64 0, .int .i64 0, .bool false] 135)).drew w2 → Sq w (((w2.setCell ⟨w.heap.size + 1, 0, none⟩ (.int .i64 s1)).setCell ⟨w.heap.size + 1, 1, none⟩ (.int .i64 s2)).setCell ⟨w.heap.size + 1, 2, none⟩ (.bool s3)) [rBlk (w.heap.size + 1) 135 #[.int .i64 s1, .int .i64 s2, .bool s3], rBlk w.heap.size 121 #[.string x.key, .string x.who, .slice x.ha x.hosts.length x.hc, .int .i64 x.setup, .int .i64 x.long]]) := fun w2 h2 =>
  by
    have h := ((((hS1.add #[.int .i64 0, .int .i64 0, .bool false] 135).drew.callB h2).set_ 0 (.int .i64 s1)).set_ 1 (.int .i64 s2)).set_ 2 (.bool s3)
    rw [hz1] at h
    exact h
  have hk0 : (0 : Int) ≤ (k : Int) := by omega
  have hkc : (k : Int) ≤ (c : Int) := by omega
  rw [hv]
  clear hs1 hs2 hs3 hv hr hx hi hy hl hS1
  go_enter Try.func113, Try.ntmps113
  go_wp2_with fail
  clear hw1
  go_cut [6] (fun s6 W => ∃ g6, s6 = .pointer (some ⟨g6, 0, none⟩) ∧ Sq w W [rBlk g6 135 #[.int .i64 s1, .int .i64 s2, .bool s3], rBlk w.heap.size 121 #[.string x.key, .string x.who, .slice x.ha x.hosts.length x.hc, .int .i64 x.setup, .int .i64 x.long]])
  case first =>
    go_region_held3 (fun W => W.cell? ⟨gx, 0, none⟩ = some (.slice A m c) ∧ W.cell? ⟨gi, 0, none⟩ = some (.int .i64 k) ∧ W.cell? ⟨w.heap.size, 0, none⟩ = some (.string x.key))
      (first | exact HSP.out _ hdr | exact HSP.out _ hdrA | exact HSP.out _ hb3 | exact HSP.out _ (hb3.alloc hb3.size _) | exact HSP.out _ (((hb3.setCell (p := ⟨w.heap.size + 1, 0, none⟩) (Nat.le_of_eq hz1) _).setCell (p := ⟨w.heap.size + 1, 1, none⟩) (Nat.le_of_eq hz1) _).setCell (p := ⟨w.heap.size + 1, 2, none⟩) (Nat.le_of_eq hz1) _) | go_keep)
      (first
        | (go_at_call 109; ((with_reducible refine (HS.out _ hdr).mono ?_); rintro e w2 ⟨rfl, hb2⟩; have hb3 := below_call hdr hb2 (Nat.le_refl _)))
        | (go_at_call 109; ((with_reducible refine (HS.out _ hdrA).mono ?_); rintro e w2 ⟨rfl, hb2⟩; have hb3 := below_call hdrA hb2 (Nat.le_refl _); have z0 := (HZ.out.below hb2).cell 0; have z1 := (HZ.out.below hb2).cell 1; have z2 := (HZ.out.below hb2).cell 2; have f0 := (HZ.out.below hb2).frozen 0; have f1 := (HZ.out.below hb2).frozen 1; have f2 := (HZ.out.below hb2).frozen 2; have hzl := (HZ.out.below hb2).lt)))
    all_goals (go_wp2_with fail; go_meet)
    all_goals first
      | exact ⟨_, rfl, HQ1.out _ hb3⟩
      | exact ⟨_, rfl, HQ2.out _ hb2⟩
  case rest =>
    obtain ⟨g6, rfl, hS⟩ := hcut
    have hb6 : Blk wc g6 _ #[.int .i64 s1, .int .i64 s2, .bool s3] := hS.nth 0 rfl
    have hb4 : Blk wc w.heap.size _ _ := hS.nth 1 rfl
    have z0 := hb6.cell 0
    have z1 := hb6.cell 1
    have x0 := hb4.cell 0
    have y2 := HYP.out _ hS.below
    have hbf := hS.below
    obtain ⟨BK, hBK⟩ : ∃ B, (x.key.toList == y.2.2.toList) = B := ⟨_, rfl⟩
    clear hb6 hb4 hS
    cases BK
    · by_cases h1 : 0 ≤ s1
      · by_cases h2 : s2 < 0
        · go_wp2_with fail
          go_ret
          exact ⟨ret_bool (by simp [hBK, h1, h2]), hbf⟩
        · go_wp2_with fail
          go_ret
          exact ⟨ret_bool (by simp; omega), hbf⟩
      · go_wp2_with fail
        go_ret
        exact ⟨ret_bool (by simp; omega), hbf⟩
    · go_wp2_with fail
      go_ret
      exact ⟨ret_bool (by simp [hBK]), hbf⟩
end Go.Proofs.Ytlfhommeomchoaa
