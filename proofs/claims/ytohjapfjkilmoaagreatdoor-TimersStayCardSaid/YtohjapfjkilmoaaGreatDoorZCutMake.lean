/-
  Cuts as the stream makes them, by contracts: right ones, and nearly always right ones.
-/
import Derived.Test.YtohjapfjkilmoaaGreatDoorZStream
import Derived.Test.YtohjapfjkilmoaaGreatDoorZCutPure
namespace Go.Proofs.YtohjapfjkilmoaaGreatDoor
open Go Go.RowKit

theorem info_cut : (Tryz.prog.info? 40).map (fun i => (i.zero, i.size, i.bytes)) = some (some (.agg #[.int .i64 0, .int .i64 0, .bool false]), 3, 24) := by kernel_rfl
theorem flat_cut (l : List Cut) (c : Cut) : (l ++ [c]).flatMap cutC = l.flatMap cutC ++ cutC c := flat_snoc cutC l c

/-- cuts in new memory -/
def CutsS (P : List Cut → Prop) (m b K : Nat) (w : World) (e : Ending) (w' : World) : Prop :=
  ∃ (v : Value) (l : List Cut), e = .returned v ∧ w'.ownsRow w.heap.size 40 3 v l.length (l.flatMap cutC) ∧ l.length ≤ m ∧ P l ∧ Strm w' b K ∧ Bx w.heap.size b w w'

set_option maxRecDepth 100000 in
theorem rightCuts_calls (b K m : Nat) (w : World) (hs : Strm w b K) (hK : K ≤ 900000) (hm : m ≤ 24) :
    Calls Tryz.prog 5 #[.pointer (some ⟨b, 0, none⟩), .int .i64 m] w (CutsS (fun l => cutF l = 0) m b (K + 3 * m) w) := by
  have hlt := hs.lt
  obtain ⟨i0, hi, hz0, hz1, hz2⟩ := info_parts info_cut
  go_enter Tryz.func5, Tryz.ntmps5
  go_wp2_with fail
  go_loopw [5, 6, 7, 10] (fun v r g i wr => ∃ (k : Nat) (l : List Cut) (real game : Int), k ≤ m ∧ l.length = k ∧ i = .int .i64 k ∧ r = .int .i64 real ∧ g = .int .i64 game ∧ 0 ≤ game ∧ game ≤ real ∧ real ≤ 1000 * k ∧ Hid (CutR l real game) ∧
      wr.ownsRow w.heap.size 40 3 v l.length (l.flatMap cutC) ∧ Strm wr b (K + 3 * k) ∧ Bx w.heap.size b w wr) (fun _ _ _ i _ => m - (intOf i).toNat)
  case atStart => exact ⟨0, [], 0, 0, Nat.zero_le _, rfl, rfl, rfl, rfl, by omega, by omega, by omega, CutR.nil, World.ownsRow_nil _ _ _ _, hs, Bx.refl _ _ _⟩
  case round =>
    obtain ⟨k, l, real, game, hk, hlk, rfl, rfl, rfl, hg0, hgr, hrk, HC, hown, hsr, hbr⟩ := hrel
    by_cases hltk : k < m
    · have hlk0 : l.length ≤ k := by omega
      have hlk1 : k ≤ l.length := by omega
      clear hlk
      go_wp2_with fail
      refine (flip_calls b _ _ _ (by omega) (by omega) hsr (by omega)).mono ?_
      rintro e w1 ⟨v, rfl, hs1, hb1⟩
      have hb1' := hbr.call hb1 (Nat.le_refl _)
      have hown1 := own_bx hown hb1 (by omega)
      clear hown hsr hbr hb1
      cases v
      · go_wp2_with fail
        refine (pick_calls b _ _ 4 4 _ _ (by omega) (Rd.lit0 hs1.lt (by decide) rfl) (by simp) (hs1.alloc _) (by omega)).mono ?_
        rintro e w2 ⟨x, rfl, hx, hs2, hb2⟩
        obtain ⟨d, rfl, hd0, hd1⟩ : ∃ z : Int, x = .int .i64 z ∧ 0 ≤ z ∧ z ≤ 1000 := by
          simp at hx
          rcases hx with rfl | rfl | rfl | rfl <;> exact ⟨_, rfl, by omega, by omega⟩
        have hown2 := own_bx (hown1.alloc _) hb2 (by omega)
        have hb2' := (hb1'.alloc (Nat.le_refl _) _).call hb2 (Nat.le_refl _)
        clear hown1 hs1 hb1' hb2 hx
        go_wp2_with fail
        refine (range_calls b _ _ _ _ (by omega) (by omega) (by omega) hs2 (by omega)).mono ?_
        rintro e w3 ⟨q, rfl, q1, q2, hs3, hb3⟩
        have hown3 := own_bx hown2 hb3 (by omega)
        have hb3' := hb2'.call hb3 (Nat.le_refl _)
        have hC := HC.out.take (r := real + d) (g := game + q) (by omega) (by omega) (by omega) (by omega) (by omega)
        have HC1 := Lib.hid hC
        have hbz := hb3'.size
        clear hown2 hs2 hb2' hb3 hC HC
        go_wp2_with (first
          | (at_builtin; refine wpList_append_own _ rfl _ _ 28 rfl w.heap.size 40 i0 (.agg #[.int .i64 0, .int .i64 0, .bool false]) 3 24 Tryz.underlying28 hi hz0 hz1 hz2 rfl (by decide) _ _ _ rfl (hown3.alloc _) ⟨w3.heap.size, 0, none⟩ 1 1 [.int .i64 (real + d), .int .i64 (game + q), .bool false] rfl rfl (World.news_of_block (heap_alloc_new _ _)) (by simp [Value.oneCell']) (by unfold maxLen; omega) (by omega) (by simp; omega) ?_; intro v' w5 hown' hgrow hnil))
        have hb6 : Bx w.heap.size b w w5 := (hb3'.alloc (Nat.le_refl _) _).grown hgrow (Nat.le_refl _) (fun q hq => .inr (hown3.lt q hq).1)
        have hs5 := (hs3.alloc _).grown hgrow (fun q hq => by have := (hown3.lt q hq).1; omega)
        have hown4 : w5.ownsRow w.heap.size 40 3 v' (l ++ [(real + d, game + q, false)]).length ((l ++ [(real + d, game + q, false)]).flatMap cutC) := by
          rw [flat_cut, List.length_append]; exact hown'
        have hle : (l ++ [(real + d, game + q, false)]).length = k + 1 := by simp; omega
        have HLE := Lib.hid hle
        clear hown' hgrow hnil hown3 hb3' hs3 hle
        go_wp2
        go_roundw
        case rel => exact ⟨k + 1, _, real + d, game + q, by omega, HLE.out, by go_num, rfl, rfl, by omega, by omega, by omega, HC1, hown4, hs5.more (by omega), hb6⟩
        case measure => simp [intOf]; omega
      · have hC := HC.out.skip
        have HC1 := Lib.hid hC
        have hbz := hb1'.size
        clear hC HC
        go_wp2_with (first
          | (at_builtin; refine wpList_append_own _ rfl _ _ 28 rfl w.heap.size 40 i0 (.agg #[.int .i64 0, .int .i64 0, .bool false]) 3 24 Tryz.underlying28 hi hz0 hz1 hz2 rfl (by decide) _ _ _ rfl (hown1.alloc _) ⟨w1.heap.size, 0, none⟩ 1 1 [.int .i64 0, .int .i64 0, .bool true] rfl rfl (World.news_of_block (heap_alloc_new _ _)) (by simp [Value.oneCell']) (by unfold maxLen; omega) (by omega) (by simp; omega) ?_; intro v' w5 hown' hgrow hnil))
        have hb6 : Bx w.heap.size b w w5 := (hb1'.alloc (Nat.le_refl _) _).grown hgrow (Nat.le_refl _) (fun q hq => .inr (hown1.lt q hq).1)
        have hs5 := (hs1.alloc _).grown hgrow (fun q hq => by have := (hown1.lt q hq).1; omega)
        have hown4 : w5.ownsRow w.heap.size 40 3 v' (l ++ [(0, 0, true)]).length ((l ++ [(0, 0, true)]).flatMap cutC) := by
          rw [flat_cut, List.length_append]; exact hown'
        have hle : (l ++ [((0 : Int), (0 : Int), true)]).length = k + 1 := by simp; omega
        have HLE := Lib.hid hle
        clear hown' hgrow hnil hown1 hb1' hs1 hle
        go_wp2
        go_roundw
        case rel => exact ⟨k + 1, _, real, game, by omega, HLE.out, by go_num, rfl, rfl, by omega, by omega, by omega, HC1, hown4, hs5.more (by omega), hb6⟩
        case measure => simp [intOf]; omega
    · obtain rfl : k = m := by omega
      go_wp2
      go_ret
      exact ⟨_, l, rfl, hown, by omega, HC.out.ok (by omega), hsr.more (by omega), hbr⟩

/-- cuts whose numbers are ints -/
def CutI (l : List Cut) : Prop := ∀ c ∈ l, I64 c.1 ∧ I64 c.2.1
theorem CutI.set {l : List Cut} (h : CutI l) (i : Nat) {c : Cut} (hc : I64 c.1 ∧ I64 c.2.1) : CutI (l.set i c) := by
  intro x hx
  rcases List.mem_or_eq_of_mem_set hx with hx | hx
  · exact h x hx
  · rw [hx]; exact hc
theorem CutI.of_ok {l : List Cut} (h : cutF l = 0) : CutI l := by
  intro c hc
  obtain ⟨k, hk, rfl⟩ := List.getElem_of_mem hc
  have h1 := cutE_ok (cutF_all h k hk)
  unfold I64
  cases hs : l[k].2.2
  · have := h1.2 hs
    exact ⟨⟨by omega, by omega⟩, by omega, by omega⟩
  · have := h1.1 hs
    exact ⟨⟨by omega, by omega⟩, by omega, by omega⟩

end Go.Proofs.YtohjapfjkilmoaaGreatDoor
