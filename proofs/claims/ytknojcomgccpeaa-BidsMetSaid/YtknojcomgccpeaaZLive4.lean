/-
  splitref2.seenBy by a contract.
-/
import Derived.Test.YtknojcomgccpeaaZLive1
import Derived.Deep.DeepCutAuto
import Derived.Deep.RegionHeld3
namespace Go.Proofs.Ytknojcomgccpeaa
open Go Go.RowKit

/-- what is known of a slot -/
def SeenS (s : Int × Int × Bool) (w : World) (e : Ending) (w' : World) : Prop := e = .returned (.agg #[.int .i64 s.1, .int .i64 s.2.1, .bool s.2.2]) ∧ Below w.heap.size w w'

set_option maxRecDepth 100000 in
set_option maxHeartbeats 2000000 in
theorem seenBy_calls (b : Nat) (A : Option Addr) (n c : Nat) (ys : List Lv) (key : ByteArray) (w : World) (hr : Rd w b 3 (.slice A n c) n (ys.flatMap lvC)) :
    Calls Try.prog 73 #[.slice A n c, .string key] w (SeenS (seenF ys key) w) := by
  obtain ⟨hl, hnc, hcm, hcells⟩ := hr.cells lvC_len (by omega)
  unfold maxLen at hcm
  have HL := Lib.hid hl
  have HC := Lib.hid hcells
  have hS0 := ((Sq.start w).add #[.int .i64 0, .int .i64 0, .bool false] 124).add #[.int .i64 (-1), .int .i64 (-1), .bool false] 124
  simp only [size1] at hS0
  clear hcells hl hr
  go_enter Try.func73, Try.ntmps73
  go_wp2_with fail
  go_loopw [11] (fun i wr => ∃ (k : Nat), k ≤ n ∧ i = .int .i64 k ∧ Sq w wr [rBlk (w.heap.size + 1) 124 #[.int .i64 (seenF (ys.take k) key).1, .int .i64 (seenF (ys.take k) key).2.1, .bool (seenF (ys.take k) key).2.2], rBlk w.heap.size 124 #[.int .i64 0, .int .i64 0, .bool false]]) (fun i _ => n - (intOf i).toNat)
  case atStart => exact ⟨0, Nat.zero_le _, rfl, hS0⟩
  case round =>
    clear hS0
    obtain ⟨k, hk, rfl, hS⟩ := hrel
    obtain ⟨s1, hs1⟩ : ∃ s, (seenF (ys.take k) key).1 = s := ⟨_, rfl⟩
    obtain ⟨s2, hs2⟩ : ∃ s, (seenF (ys.take k) key).2.1 = s := ⟨_, rfl⟩
    obtain ⟨s3, hs3⟩ : ∃ s, (seenF (ys.take k) key).2.2 = s := ⟨_, rfl⟩
    rw [hs1, hs2, hs3] at hS
    have hbs : Blk wr (w.heap.size + 1) _ _ := hS.nth 0 rfl
    have b0 := hbs.cell 0
    have b1 := hbs.cell 1
    have b2 := hbs.cell 2
    have f0 := hbs.frozen 0
    have f1 := hbs.frozen 1
    have f2 := hbs.frozen 2
    have lb := hbs.lt
    clear hbs
    by_cases hlt : k < n
    · have hkr : k < ys.length := by rw [HL.out]; exact hlt
      obtain ⟨g, o, hA, _, hcs⟩ := HC.out (by omega)
      subst hA
      obtain ⟨y, hy⟩ : ∃ y, ys[k] = y := ⟨_, rfl⟩
      have c0 := below_cell hS.below (hcs k hkr 0 (by omega))
      have c1 := below_cell hS.below (hcs k hkr 1 (by omega))
      have c2 := below_cell hS.below (hcs k hkr 2 (by omega))
      have hst := seenF_take ys key k hkr
      rw [hy] at c0 c1 c2 hst
      obtain ⟨at_, kd, ky⟩ := y
      replace c0 : wr.cell? ⟨g, o + k * 3, none⟩ = some (.int .i64 at_) := c0
      replace c1 : wr.cell? ⟨g, o + k * 3 + 1, none⟩ = some (.int .i64 kd) := c1
      replace c2 : wr.cell? ⟨g, o + k * 3 + 2, none⟩ = some (.string ky) := c2
      have hSa := hS.alloc (.cells #[.int .i64 at_, .int .i64 kd, .string ky] 103)
      have hst2 : seenF (ys.take (k + 1)) key = if (ky.toList == key.toList) = true then (if kd = 1 then (at_, s2, s3) else if kd = 2 then (s1, at_, s3) else (s1, s2, true)) else (s1, s2, s3) := by
        rw [hst, ← hs1, ← hs2, ← hs3]; rfl
      obtain ⟨BK, hBK⟩ : ∃ B, (ky.toList == key.toList) = B := ⟨_, rfl⟩
      rw [hBK] at hst2
      have hne : (w.heap.size + 1) ≠ wr.heap.size := by omega
      clear hcs hy hst hs1 hs2 hs3
      cases BK
      · have HST := Lib.hid (hst2.trans (if_neg (by simp)))
        clear hst2
        go_wp2_with fail
        go_roundw
        case rel => exact ⟨k + 1, by omega, by go_num, by rw [HST.out]; exact hSa⟩
        case measure => simp [intOf]; omega
      · have hst3 := hst2.trans (if_pos rfl)
        clear hst2
        by_cases h1 : kd = 1
        · subst h1
          have HST := Lib.hid (hst3.trans (if_pos rfl))
          clear hst3
          go_wp2_with fail
          go_roundw
          case rel => exact ⟨k + 1, by omega, by go_num, by rw [HST.out]; exact (hS.set_ 0 _).alloc _⟩
          case measure => simp [intOf]; omega
        · by_cases h2 : kd = 2
          · subst h2
            have HST := Lib.hid ((hst3.trans (if_neg (by decide))).trans (if_pos rfl))
            clear hst3
            go_wp2_with fail
            go_roundw
            case rel => exact ⟨k + 1, by omega, by go_num, by rw [HST.out]; exact (hS.set_ 1 _).alloc _⟩
            case measure => simp [intOf]; omega
          · have HST := Lib.hid ((hst3.trans (if_neg h1)).trans (if_neg h2))
            have e1 : (kd == 1) = false := by simpa using h1
            have e2 : (kd == 2) = false := by simpa using h2
            clear hst3
            go_wp2_with fail
            go_roundw
            case rel => exact ⟨k + 1, by omega, by go_num, by rw [HST.out]; exact (hS.set_ 2 _).alloc _⟩
            case measure => simp [intOf]; omega
    · obtain rfl : k = n := by omega
      have hT : ys.take k = ys := List.take_of_length_le (by rw [HL.out]; exact Nat.le_refl _)
      rw [hT] at hs1 hs2 hs3
      have HV : Hid (seenF ys key = (s1, s2, s3)) := by rw [← hs1, ← hs2, ← hs3]; exact Lib.hid rfl
      have hbz : Blk wr w.heap.size _ _ := hS.nth 1 rfl
      have z0 := hbz.cell 0
      have z1 := hbz.cell 1
      have z2 := hbz.cell 2
      have y0 := hbz.frozen 0
      have y1 := hbz.frozen 1
      have y2 := hbz.frozen 2
      have hSg := ((((hS.front 1 rfl rfl).set_ 0 (.int .i64 s1)).set_ 1 (.int .i64 s2)).set_ 2 (.bool s3))
      have hSf := hSg.below
      have hgz : Blk _ w.heap.size _ #[.int .i64 s1, .int .i64 s2, .bool s3] := hSg.head
      have r0 := hgz.cell 0
      have r1 := hgz.cell 1
      have r2 := hgz.cell 2
      clear hSg hgz
      clear hbz hs1 hs2 hs3 hT hS
      go_wp2_with fail
      refine bodyPost_ret (v := .agg #[.int .i64 s1, .int .i64 s2, .bool s3]) (by simp [results, Try.results73, go_sem, r0, r1, r2]) rfl ⟨by rw [HV.out], hSf⟩
end Go.Proofs.Ytknojcomgccpeaa
/-
  splitref2.LiveFault's closure, and slices.ContainsFunc over slots with it.
-/
namespace Go.Proofs.Ytknojcomgccpeaa
open Go Go.RowKit
attribute [local go_sem ↓] Go.wp_at_zero Go.wp_at_succ

set_option maxRecDepth 100000 in
set_option maxHeartbeats 2000000 in
theorem cloL_calls (b gx gi gy : Nat) (A : Option Addr) (m c k : Nat) (ys : List Lv) (y : Lv) (x : Slt) (w : World) (hr : Rd w b 3 (.slice A m c) m (ys.flatMap lvC)) (hk : k ≤ m)
    (hx : Blk w gx 47 #[.slice A m c]) (hi : Blk w gi 3 #[.int .i64 k]) (hy : Blk w gy 103 #[.int .i64 y.1, .int .i64 y.2.1, .string y.2.2]) :
    Calls Try.prog 75 #[.agg #[.string x.key, .string x.who, .slice x.ha x.hosts.length x.hc, .int .i64 x.setup, .int .i64 x.long], .pointer (some ⟨gx, 0, none⟩), .pointer (some ⟨gi, 0, none⟩), .pointer (some ⟨gy, 0, none⟩)] w (BRet (.bool (otherB (ys.take k) y.2.2 x)) w) := by
  obtain ⟨hl, hmc, hcm, _⟩ := hr.cells lvC_len (by omega)
  unfold maxLen at hcm
  have hS1 := (Sq.start w).add #[.string x.key, .string x.who, .slice x.ha x.hosts.length x.hc, .int .i64 x.setup, .int .i64 x.long] 78
  obtain ⟨w1, hw1⟩ : ∃ W, w.alloc (.cells #[.string x.key, .string x.who, .slice x.ha x.hosts.length x.hc, .int .i64 x.setup, .int .i64 x.long] 78) = W := ⟨_, rfl⟩
  have hz1 : w1.heap.size = w.heap.size + 1 := by rw [← hw1]; simp
  rw [hw1] at hS1
  obtain ⟨s1, hs1⟩ : ∃ s, (seenF (ys.take k) x.key).1 = s := ⟨_, rfl⟩
  obtain ⟨s2, hs2⟩ : ∃ s, (seenF (ys.take k) x.key).2.1 = s := ⟨_, rfl⟩
  obtain ⟨s3, hs3⟩ : ∃ s, (seenF (ys.take k) x.key).2.2 = s := ⟨_, rfl⟩
  have hv : otherB (ys.take k) y.2.2 x = (!(x.key.toList == y.2.2.toList) && (decide (0 ≤ s1) && decide (s2 < 0))) := by unfold otherB eqS; rw [hs1, hs2]
  have HS : Hid (∀ W, Below w1.heap.size w1 W → Calls Try.prog 73 #[.slice A k c, .string x.key] W (fun e w' => e = .returned (.agg #[.int .i64 s1, .int .i64 s2, .bool s3]) ∧ Below W.heap.size W w')) := fun W hW => by
    have h := seenBy_calls b A k c (ys.take k) x.key W (((hr.take lvC_len (by omega) hk).below hS1.below).below hW)
    unfold SeenS at h
    rw [hs1, hs2, hs3] at h
    exact h
  have HSP : Hid (∀ W, Below w1.heap.size w1 W → W.cell? ⟨gx, 0, none⟩ = some (.slice A m c) ∧ W.cell? ⟨gi, 0, none⟩ = some (.int .i64 k) ∧ W.cell? ⟨w.heap.size, 0, none⟩ = some (.string x.key)) := fun W hW => by
    have hb : Blk w1 w.heap.size _ _ := hS1.nth 0 rfl
    exact ⟨((hx.below hS1.below).below hW).cell 0, ((hi.below hS1.below).below hW).cell 0, (hb.below hW).cell 0⟩
  have HYP : Hid (∀ W, Below w.heap.size w W → W.cell? ⟨gy, 2, none⟩ = some (.string y.2.2)) := fun W hW => (hy.below hW).cell 2
  have hdr : Below w1.heap.size w1 w1.drew := below_drewN (Below.refl _ _) 1
  have hdrA : Below w1.heap.size w1 (w1.alloc (.cells #[.int .i64 0, .int .i64 0, .bool false] 124)).drew := below_drewN ((Below.refl _ _).alloc (Nat.le_refl _) _) 1
  have HZ : Hid (Blk (w1.alloc (.cells #[.int .i64 0, .int .i64 0, .bool false] 124)).drew (w.heap.size + 1) 124 #[.int .i64 0, .int .i64 0, .bool false]) := by rw [← hz1]; exact Blk.drew (Blk.new w1 _ _)
  have HQ1 : Hid (∀ w2, Below w1.heap.size w1 w2 → Sq w (w2.alloc (.cells #[.int .i64 s1, .int .i64 s2, .bool s3] 124)) [rBlk w2.heap.size 124 #[.int .i64 s1, .int .i64 s2, .bool s3], rBlk w.heap.size 78 #[.string x.key, .string x.who, .slice x.ha x.hosts.length x.hc, .int .i64 x.setup, .int .i64 x.long]]) := fun w2 h2 => (hS1.callB h2).add _ _
  have HQ2 : Hid (∀ w2, Below (w1.alloc (.cells #[.int .i64 0, .int .i64 0, .bool false] 124)).heap.size (w1.alloc (.cells #[.int .i64 0, .int .i64 0, .bool false] 124)).drew w2 → Sq w (((w2.setCell ⟨w.heap.size + 1, 0, none⟩ (.int .i64 s1)).setCell ⟨w.heap.size + 1, 1, none⟩ (.int .i64 s2)).setCell ⟨w.heap.size + 1, 2, none⟩ (.bool s3)) [rBlk (w.heap.size + 1) 124 #[.int .i64 s1, .int .i64 s2, .bool s3], rBlk w.heap.size 78 #[.string x.key, .string x.who, .slice x.ha x.hosts.length x.hc, .int .i64 x.setup, .int .i64 x.long]]) := fun w2 h2 =>
  by
    have h := ((((hS1.add #[.int .i64 0, .int .i64 0, .bool false] 124).drew.callB h2).set_ 0 (.int .i64 s1)).set_ 1 (.int .i64 s2)).set_ 2 (.bool s3)
    rw [hz1] at h
    exact h
  have hk0 : (0 : Int) ≤ (k : Int) := by omega
  have hkc : (k : Int) ≤ (c : Int) := by omega
  rw [hv]
  clear hs1 hs2 hs3 hv hr hx hi hy hl hS1
  go_enter Try.func75, Try.ntmps75
  go_wp2_with fail
  clear hw1
  go_cut [6] (fun s6 W => ∃ g6, s6 = .pointer (some ⟨g6, 0, none⟩) ∧ Sq w W [rBlk g6 124 #[.int .i64 s1, .int .i64 s2, .bool s3], rBlk w.heap.size 78 #[.string x.key, .string x.who, .slice x.ha x.hosts.length x.hc, .int .i64 x.setup, .int .i64 x.long]])
  case first =>
    go_region_held3 (fun W => W.cell? ⟨gx, 0, none⟩ = some (.slice A m c) ∧ W.cell? ⟨gi, 0, none⟩ = some (.int .i64 k) ∧ W.cell? ⟨w.heap.size, 0, none⟩ = some (.string x.key))
      (first | exact HSP.out _ hdr | exact HSP.out _ hdrA | exact HSP.out _ hb3 | exact HSP.out _ (hb3.alloc hb3.size _) | exact HSP.out _ (((hb3.setCell (p := ⟨w.heap.size + 1, 0, none⟩) (Nat.le_of_eq hz1) _).setCell (p := ⟨w.heap.size + 1, 1, none⟩) (Nat.le_of_eq hz1) _).setCell (p := ⟨w.heap.size + 1, 2, none⟩) (Nat.le_of_eq hz1) _) | go_keep)
      (first
        | (go_at_call 73; ((with_reducible refine (HS.out _ hdr).mono ?_); rintro e w2 ⟨rfl, hb2⟩; have hb3 := below_call hdr hb2 (Nat.le_refl _)))
        | (go_at_call 73; ((with_reducible refine (HS.out _ hdrA).mono ?_); rintro e w2 ⟨rfl, hb2⟩; have hb3 := below_call hdrA hb2 (Nat.le_refl _); have z0 := (HZ.out.below hb2).cell 0; have z1 := (HZ.out.below hb2).cell 1; have z2 := (HZ.out.below hb2).cell 2; have f0 := (HZ.out.below hb2).frozen 0; have f1 := (HZ.out.below hb2).frozen 1; have f2 := (HZ.out.below hb2).frozen 2; have hzl := (HZ.out.below hb2).lt)))
    all_goals (go_wp2_with fail; go_meet)
    all_goals first
      | exact ⟨_, rfl, HQ1.out _ hb3⟩
      | exact ⟨_, rfl, HQ2.out _ hb2⟩
  case rest =>
    obtain ⟨g6, rfl, hS⟩ := hcut
    have hb6 : Blk wc g6 _ #[.int .i64 s1, .int .i64 s2, .bool s3] := hS.nth 0 rfl
    have hb4 : Blk wc w.heap.size _ _ := hS.nth 1 rfl
    have z0 := hb6.cell 0
    have z1 := hb6.cell 1
    have x0 := hb4.cell 0
    have y2 := HYP.out _ hS.below
    have hbf := hS.below
    obtain ⟨BK, hBK⟩ : ∃ B, (x.key.toList == y.2.2.toList) = B := ⟨_, rfl⟩
    clear hb6 hb4 hS
    cases BK
    · by_cases h1 : 0 ≤ s1
      · by_cases h2 : s2 < 0
        · go_wp2_with fail
          go_ret
          exact ⟨ret_bool (by simp [hBK, h1, h2]), hbf⟩
        · go_wp2_with fail
          go_ret
          exact ⟨ret_bool (by simp; omega), hbf⟩
      · go_wp2_with fail
        go_ret
        exact ⟨ret_bool (by simp; omega), hbf⟩
    · go_wp2_with fail
      go_ret
      exact ⟨ret_bool (by simp [hBK]), hbf⟩
end Go.Proofs.Ytknojcomgccpeaa
/-
  slices.ContainsFunc over slots with LiveFault's closure, and over places with those of known. (Printed by gen_live6.py.)
-/
namespace Go.Proofs.Ytknojcomgccpeaa
open Go Go.RowKit


set_option maxRecDepth 100000 in
theorem contL_calls (b : Nat) (gx gi gy : Nat) (A2 : Option Addr) (m c2 : Nat) (hs : List Slt) (p : Slt → Bool) (w : World) (hr2 : Rd w b 5 (.slice A2 m c2) m (hs.flatMap sltC))
    (HC : ∀ W x, Below w.heap.size w W → Calls Try.prog 75 #[.agg #[.string x.key, .string x.who, .slice x.ha x.hosts.length x.hc, .int .i64 x.setup, .int .i64 x.long], .pointer (some ⟨gx, 0, none⟩), .pointer (some ⟨gi, 0, none⟩), .pointer (some ⟨gy, 0, none⟩)] W (BRet (.bool (p x)) W)) :
    Calls Try.prog 74 #[.slice A2 m c2, .func (.func 75) #[] #[.pointer (some ⟨gx, 0, none⟩), .pointer (some ⟨gi, 0, none⟩), .pointer (some ⟨gy, 0, none⟩)]] w (BRet (.bool (hs.any p)) w) := by
  obtain ⟨hl, hnc, hcm, hcells⟩ := hr2.cells sltC_len (by omega)
  unfold maxLen at hcm
  have HL := Lib.hid hl
  have HCL := Lib.hid hcells
  have HCC := Lib.hid HC
  have HM := Lib.hid (ixOf_mem p hs)
  clear hcells hl hr2 HC
  go_enter Try.func74, Try.ntmps74
  go_wp2
  go_loopw [8] (fun i wr => ∃ k : Nat, k ≤ m ∧ i = .int .i64 k ∧ Hid (∀ i (_ : i < k) (hi' : i < hs.length), p hs[i] = false) ∧ Below w.heap.size w wr) (fun i _ => m - (intOf i).toNat)
  case atStart => exact ⟨0, Nat.zero_le _, rfl, (fun i hi => absurd hi (by omega)), Below.refl _ _⟩
  case round =>
    obtain ⟨k, hk, rfl, HF, hbr⟩ := hrel
    by_cases hlt : k < m
    · have hkr : k < hs.length := by rw [HL.out]; exact hlt
      obtain ⟨g, o, hA, _, hcs⟩ := HCL.out (by omega)
      subst hA
      have c0 := below_cell hbr (hcs k hkr 0 (by omega))
      have c1 := below_cell hbr (hcs k hkr 1 (by omega))
      have c2 := below_cell hbr (hcs k hkr 2 (by omega))
      have c3 := below_cell hbr (hcs k hkr 3 (by omega))
      have c4 := below_cell hbr (hcs k hkr 4 (by omega))
      obtain ⟨s, hs'⟩ : ∃ s, hs[k] = s := ⟨_, rfl⟩
      rw [hs'] at c0 c1 c2 c3 c4
      replace c0 : wr.cell? ⟨g, o + k * 5, none⟩ = some (.string s.key) := c0
      replace c1 : wr.cell? ⟨g, o + k * 5 + 1, none⟩ = some (.string s.who) := c1
      replace c2 : wr.cell? ⟨g, o + k * 5 + 2, none⟩ = some (.slice s.ha s.hosts.length s.hc) := c2
      replace c3 : wr.cell? ⟨g, o + k * 5 + 3, none⟩ = some (.int .i64 s.setup) := c3
      replace c4 : wr.cell? ⟨g, o + k * 5 + 4, none⟩ = some (.int .i64 s.long) := c4
      have HK := Lib.hid (HCC.out wr s hbr)
      clear hcs
      cases hp : p s
      · rw [hp] at HK
        have HF2 : Hid (∀ i (_ : i < k + 1) (hi' : i < hs.length), p hs[i] = false) := by
          intro i hi hi'
          by_cases hik : i = k
          · subst hik; rw [hs']; exact hp
          · exact HF.out i (by omega) hi'
        clear hp hs'
        go_wp2_with (go_at_call 75; refine HK.out.mono ?_; rintro e w2 ⟨rfl, hb2⟩)
        have hb3 := below_call hbr hb2 (Nat.le_refl _)
        go_roundw
        case rel => exact ⟨k + 1, by omega, by go_num, HF2, hb3⟩
        case measure => simp [intOf]; omega
      · rw [hp] at HK
        have HR : Hid (ixOf p hs = k) := ixOf_at _ hs k hkr (fun i hi => HF.out i hi (by omega)) (by rw [hs']; exact hp)
        have HA : Hid (hs.any p = true) := by
          have := HM.out
          rw [HR.out] at this
          rw [← this]
          exact Lib.hid (decide_eq_true (by omega))
        clear hp hs'
        go_wp2_with (go_at_call 75; refine HK.out.mono ?_; rintro e w2 ⟨rfl, hb2⟩)
        have hb3 := below_call hbr hb2 (Nat.le_refl _)
        go_ret
        exact ⟨ret_bool HA.out.symm, hb3⟩
    · obtain rfl : k = m := by omega
      have HR : Hid (ixOf p hs = -1) := ixOf_no _ hs (fun i hi => HF.out i (by rw [← HL.out]; exact hi) hi)
      have HA : Hid (hs.any p = false) := by
        have := HM.out
        rw [HR.out] at this
        rw [← this]
        exact Lib.hid rfl
      go_wp2
      go_ret
      exact ⟨ret_bool HA.out.symm, hbr⟩

end Go.Proofs.Ytknojcomgccpeaa
