/-
  splitref2.seenBy by a contract.
-/
import Derived.Test.YtlfhommeomchoaaZLive2
import Derived.Deep.MidRow
import Derived.Deep.RegionHeld3
namespace Go.Proofs.Ytlfhommeomchoaa
open Go Go.RowKit

/-- what is known of a slot -/
def SeenS (s : Int × Int × Bool) (w : World) (e : Ending) (w' : World) : Prop := e = .returned (.agg #[.int .i64 s.1, .int .i64 s.2.1, .bool s.2.2]) ∧ Below w.heap.size w w'

set_option maxRecDepth 100000 in
set_option maxHeartbeats 2000000 in
theorem seenBy_calls (b : Nat) (A : Option Addr) (n c : Nat) (ys : List Lv) (key : ByteArray) (w : World) (hr : Rd w b 3 (.slice A n c) n (ys.flatMap lvC)) :
    Calls Try.prog 109 #[.slice A n c, .string key] w (SeenS (seenF ys key) w) := by
  obtain ⟨hl, hnc, hcm, hcells⟩ := hr.cells lvC_len (by omega)
  unfold maxLen at hcm
  have HL := Lib.hid hl
  have HC := Lib.hid hcells
  have hS0 := ((Sq.start w).add #[.int .i64 0, .int .i64 0, .bool false] 135).add #[.int .i64 (-1), .int .i64 (-1), .bool false] 135
  simp only [size1] at hS0
  clear hcells hl hr
  go_enter Try.func109, Try.ntmps109
  go_wp2_with fail
  go_loopw [11] (fun i wr => ∃ (k : Nat), k ≤ n ∧ i = .int .i64 k ∧ Sq w wr [rBlk (w.heap.size + 1) 135 #[.int .i64 (seenF (ys.take k) key).1, .int .i64 (seenF (ys.take k) key).2.1, .bool (seenF (ys.take k) key).2.2], rBlk w.heap.size 135 #[.int .i64 0, .int .i64 0, .bool false]]) (fun i _ => n - (intOf i).toNat)
  case atStart => exact ⟨0, Nat.zero_le _, rfl, hS0⟩
  case round =>
    clear hS0
    obtain ⟨k, hk, rfl, hS⟩ := hrel
    obtain ⟨s1, hs1⟩ : ∃ s, (seenF (ys.take k) key).1 = s := ⟨_, rfl⟩
    obtain ⟨s2, hs2⟩ : ∃ s, (seenF (ys.take k) key).2.1 = s := ⟨_, rfl⟩
    obtain ⟨s3, hs3⟩ : ∃ s, (seenF (ys.take k) key).2.2 = s := ⟨_, rfl⟩
    rw [hs1, hs2, hs3] at hS
    have hbs : Blk wr (w.heap.size + 1) _ _ := hS.nth 0 rfl
    have b0 := hbs.cell 0
    have b1 := hbs.cell 1
    have b2 := hbs.cell 2
    have f0 := hbs.frozen 0
    have f1 := hbs.frozen 1
    have f2 := hbs.frozen 2
    have lb := hbs.lt
    clear hbs
    by_cases hlt : k < n
    · have hkr : k < ys.length := by rw [HL.out]; exact hlt
      obtain ⟨g, o, hA, _, hcs⟩ := HC.out (by omega)
      subst hA
      obtain ⟨y, hy⟩ : ∃ y, ys[k] = y := ⟨_, rfl⟩
      have c0 := below_cell hS.below (hcs k hkr 0 (by omega))
      have c1 := below_cell hS.below (hcs k hkr 1 (by omega))
      have c2 := below_cell hS.below (hcs k hkr 2 (by omega))
      have hst := seenF_take ys key k hkr
      rw [hy] at c0 c1 c2 hst
      obtain ⟨at_, kd, ky⟩ := y
      replace c0 : wr.cell? ⟨g, o + k * 3, none⟩ = some (.int .i64 at_) := c0
      replace c1 : wr.cell? ⟨g, o + k * 3 + 1, none⟩ = some (.int .i64 kd) := c1
      replace c2 : wr.cell? ⟨g, o + k * 3 + 2, none⟩ = some (.string ky) := c2
      have hSa := hS.alloc (.cells #[.int .i64 at_, .int .i64 kd, .string ky] 129)
      have hst2 : seenF (ys.take (k + 1)) key = if (ky.toList == key.toList) = true then (if kd = 1 then (at_, s2, s3) else if kd = 2 then (s1, at_, s3) else (s1, s2, true)) else (s1, s2, s3) := by
        rw [hst, ← hs1, ← hs2, ← hs3]; rfl
      obtain ⟨BK, hBK⟩ : ∃ B, (ky.toList == key.toList) = B := ⟨_, rfl⟩
      rw [hBK] at hst2
      have hne : (w.heap.size + 1) ≠ wr.heap.size := by omega
      clear hcs hy hst hs1 hs2 hs3
      cases BK
      · have HST := Lib.hid (hst2.trans (if_neg (by simp)))
        clear hst2
        go_wp2_with fail
        go_roundw
        case rel => exact ⟨k + 1, by omega, by go_num, by rw [HST.out]; exact hSa⟩
        case measure => simp [intOf]; omega
      · have hst3 := hst2.trans (if_pos rfl)
        clear hst2
        by_cases h1 : kd = 1
        · subst h1
          have HST := Lib.hid (hst3.trans (if_pos rfl))
          clear hst3
          go_wp2_with fail
          go_roundw
          case rel => exact ⟨k + 1, by omega, by go_num, by rw [HST.out]; exact (hS.set_ 0 _).alloc _⟩
          case measure => simp [intOf]; omega
        · by_cases h2 : kd = 2
          · subst h2
            have HST := Lib.hid ((hst3.trans (if_neg (by decide))).trans (if_pos rfl))
            clear hst3
            go_wp2_with fail
            go_roundw
            case rel => exact ⟨k + 1, by omega, by go_num, by rw [HST.out]; exact (hS.set_ 1 _).alloc _⟩
            case measure => simp [intOf]; omega
          · have HST := Lib.hid ((hst3.trans (if_neg h1)).trans (if_neg h2))
            have e1 : (kd == 1) = false := by simpa using h1
            have e2 : (kd == 2) = false := by simpa using h2
            clear hst3
            go_wp2_with fail
            go_roundw
            case rel => exact ⟨k + 1, by omega, by go_num, by rw [HST.out]; exact (hS.set_ 2 _).alloc _⟩
            case measure => simp [intOf]; omega
    · obtain rfl : k = n := by omega
      have hT : ys.take k = ys := List.take_of_length_le (by rw [HL.out]; exact Nat.le_refl _)
      rw [hT] at hs1 hs2 hs3
      have HV : Hid (seenF ys key = (s1, s2, s3)) := by rw [← hs1, ← hs2, ← hs3]; exact Lib.hid rfl
      have hbz : Blk wr w.heap.size _ _ := hS.nth 1 rfl
      have z0 := hbz.cell 0
      have z1 := hbz.cell 1
      have z2 := hbz.cell 2
      have y0 := hbz.frozen 0
      have y1 := hbz.frozen 1
      have y2 := hbz.frozen 2
      have hSg := ((((hS.front 1 rfl rfl).set_ 0 (.int .i64 s1)).set_ 1 (.int .i64 s2)).set_ 2 (.bool s3))
      have hSf := hSg.below
      have hgz : Blk _ w.heap.size _ #[.int .i64 s1, .int .i64 s2, .bool s3] := hSg.head
      have r0 := hgz.cell 0
      have r1 := hgz.cell 1
      have r2 := hgz.cell 2
      clear hSg hgz
      clear hbz hs1 hs2 hs3 hT hS
      go_wp2_with fail
      refine bodyPost_ret (v := .agg #[.int .i64 s1, .int .i64 s2, .bool s3]) (by simp [results, Try.results109, go_sem, r0, r1, r2]) rfl ⟨by rw [HV.out], hSf⟩
end Go.Proofs.Ytlfhommeomchoaa
/-
  slices.Clone, IndexFunc and DeleteFunc of what is live. (Printed from XSlot4's text by hand.)
-/
namespace Go.Proofs.Ytlfhommeomchoaa
open Go Go.RowKit
attribute [local go_sem ↓] Go.wp_at_zero Go.wp_at_succ

theorem info_lv : (Try.prog.info? 129).map (fun i => (i.zero, i.size, i.bytes)) = some (some (.agg #[.int .i64 0, .int .i64 0, .string ⟨#[]⟩]), 3, 32) := by kernel_rfl
theorem lvC_one (ys : List Lv) : ∀ u ∈ ys.flatMap lvC, u.oneCell' = true := by
  intro u hu
  obtain ⟨y, _, hy⟩ := List.mem_flatMap.1 hu
  simp [lvC] at hy
  rcases hy with rfl | rfl | rfl <;> rfl
set_option maxRecDepth 100000 in
theorem cloneLv_calls (b : Nat) (A : Option Addr) (n c : Nat) (xs : List Value) (w : World) (hr : Rd w b 3 (.slice A n c) n xs) (h1 : ∀ u ∈ xs, u.oneCell' = true) (hn : n ≤ 100000) :
    Calls Try.prog 107 #[.slice A n c] w fun e w' => ∃ v, e = .returned v ∧ w'.ownsRow w.heap.size 129 3 v n xs ∧ Below w.heap.size w w' := by
  obtain ⟨i0, hi, hz0, hz1, hz2⟩ := info_parts info_lv
  have q29 : ∀ (w : World) (a : Option Addr) (n c n' c' : Nat), (binOp .eql 85 (.slice a n c) (.slice none n' c')).run Try.prog w = .ok (.bool a.isNone) w := fun w a n c n' c' => Lib.run_eql_slice_nil w _ _ a n c n' c' Try.underlying85
  obtain ⟨A', c', e1, e2, e3, e4, e5, e6⟩ := hr
  injection e1 with ea eb ec
  subst ea ec
  cases A with
  | none =>
    obtain ⟨rfl, rfl⟩ := e5 rfl
    have hx : xs = [] := List.eq_nil_of_length_eq_zero (by simpa using e4)
    subst hx
    clear e6
    go_enter Try.func107, Try.ntmps107
    go_wp2
    go_ret
    exact ⟨_, rfl, World.ownsRow_nil _ _ _ _, Below.refl _ _⟩
  | some a =>
    have hcells : ∀ j u, xs[j]? = some u → w.cell? (a.add j) = some u := by
      intro j u hu
      have hpos : 0 < n := by
        rcases Nat.eq_zero_or_pos n with h | h
        · subst h
          have hx : xs = [] := List.eq_nil_of_length_eq_zero (by simpa using e4)
          subst hx
          simp at hu
        · exact h
      obtain ⟨g, o, f1, _, f3⟩ := e6 hpos
      injection f1 with f1
      subst f1
      have hadd : (⟨g, o, none⟩ : Addr).add j = ⟨g, o + j, none⟩ := by unfold Addr.add; split <;> simp_all
      rw [hadd]
      exact f3 j u hu
    have hcells2 : ∀ ob : Obj, ∀ j u, xs[j]? = some u → (w.alloc ob).cell? (a.add j) = some u := fun ob j u hu =>
      (World.cell?_alloc_lt w ob (a.add j) (World.block_lt_of_cell? w _ (hcells j u hu))).trans (hcells j u hu)
    clear e6 hcells
    go_enter Try.func107, Try.ntmps107
    go_wp2_with (first
      | (at_builtin; refine wpList_append_own _ rfl _ _ 85 rfl w.heap.size 129 i0 (.agg #[.int .i64 0, .int .i64 0, .string ⟨#[]⟩]) 3 32 Try.underlying85 hi hz0 hz1 hz2 rfl (by decide) _ 0 [] rfl (World.ownsRow_lit (base := w.heap.size) w #[] 0 (Nat.le_refl _) (by decide) rfl) a n c xs rfl (by simpa using e4) (hcells2 _) h1 (by unfold maxLen; omega) (by omega) (by simp) ?_; intro v' w1 hown' hgrow hnil))
    go_ret
    refine ⟨_, rfl, by simpa using hown', ((Below.refl _ _).alloc (Nat.le_refl _) _).grown hgrow (by simp) (fun q hq => ?_)⟩
    have h2 : some w.heap.size = some q := hq
    injection h2 with h2
    omega


theorem run_clear_lv (w : World) (b o n c : Nat) (hn : 0 < n) (hc : ∀ j, j < n * 3 → (w.cell? ⟨b, o + j, none⟩).isSome = true) (hf : ∀ j, j < n * 3 → w.frozen? ⟨b, o + j, none⟩ = false) :
    ∃ vs : List Value, (∀ ty, (Builtin.clear_ #[85] ty #[.slice (some ⟨b, o, none⟩) n c]).run Try.prog w = .ok (.tuple #[]) (w.setCells b o vs)) ∧ vs.length = n * 3 := by
  have hv : ∀ w, (zeroValue 129).run Try.prog w = .ok (.agg #[.int .i64 0, .int .i64 0, .string ⟨#[]⟩]) w := fun w => by kernel_rfl
  obtain ⟨vs, hvs⟩ : ∃ vs, (Builtin.zeroCells #[.int .i64 0, .int .i64 0, .string ⟨#[]⟩] n).toList = vs := ⟨_, rfl⟩
  have hlen : vs.length = n * 3 := by rw [← hvs]; simp [Builtin.zeroCells]
  have h1 : ∀ v ∈ vs, v.oneCell' = true := by
    intro v hv
    rw [← hvs] at hv
    simp [Builtin.zeroCells] at hv
    obtain ⟨i, _, rfl⟩ := hv
    rcases (show i % 3 = 0 ∨ i % 3 = 1 ∨ i % 3 = 2 by omega) with h | h | h <;> simp [h] <;> rfl
  have hst := run_storeCells_cells (P := Try.prog) b o vs 0 w (by simpa [hlen] using hc) (by simpa [hlen] using hf) h1
  simp only [Nat.add_zero] at hst
  refine ⟨vs, fun ty => ?_, hlen⟩
  obtain ⟨m, rfl⟩ : ∃ m, n = m + 1 := ⟨n - 1, by omega⟩
  simp [Builtin.clear_, run_underlying Try.underlying85, hv, Value.cells, hvs, hst, Result.andThen]
end Go.Proofs.Ytlfhommeomchoaa
