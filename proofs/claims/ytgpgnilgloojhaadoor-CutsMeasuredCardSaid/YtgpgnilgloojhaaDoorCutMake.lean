/-
  Cuts as the stream makes them, by contracts: right ones, and nearly always right ones.
-/
import Derived.Test.YtgpgnilgloojhaaDoorStream3
import Derived.Test.YtgpgnilgloojhaaDoorCutPure
namespace Go.Proofs.YtgpgnilgloojhaaDoor
open Go Go.RowKit

theorem info_cut : (Tryd.prog.info? 36).map (fun i => (i.zero, i.size, i.bytes)) = some (some (.agg #[.int .i64 0, .int .i64 0, .bool false]), 3, 24) := by kernel_rfl
theorem flat_cut (l : List Cut) (c : Cut) : (l ++ [c]).flatMap cutC = l.flatMap cutC ++ cutC c := flat_snoc cutC l c

/-- cuts in new memory -/
def CutsS (P : List Cut → Prop) (m b K : Nat) (w : World) (e : Ending) (w' : World) : Prop :=
  ∃ (v : Value) (l : List Cut), e = .returned v ∧ w'.ownsRow w.heap.size 36 3 v l.length (l.flatMap cutC) ∧ l.length ≤ m ∧ P l ∧ Strm w' b K ∧ Bx w.heap.size b w w'

set_option maxRecDepth 100000 in
theorem rightCuts_calls (b K m : Nat) (w : World) (hs : Strm w b K) (hK : K ≤ 900000) (hm : m ≤ 24) :
    Calls Tryd.prog 55 #[.pointer (some ⟨b, 0, none⟩), .int .i64 m] w (CutsS (fun l => cutF l = 0) m b (K + 3 * m) w) := by
  have hlt := hs.lt
  obtain ⟨i0, hi, hz0, hz1, hz2⟩ := info_parts info_cut
  go_enter Tryd.func55, Tryd.ntmps55
  go_wp2_with fail
  go_loopw [5, 6, 7, 10] (fun v r g i wr => ∃ (k : Nat) (l : List Cut) (real game : Int), k ≤ m ∧ l.length = k ∧ i = .int .i64 k ∧ r = .int .i64 real ∧ g = .int .i64 game ∧ 0 ≤ game ∧ game ≤ real ∧ real ≤ 1000 * k ∧ Hid (CutR l real game) ∧
      wr.ownsRow w.heap.size 36 3 v l.length (l.flatMap cutC) ∧ Strm wr b (K + 3 * k) ∧ Bx w.heap.size b w wr) (fun _ _ _ i _ => m - (intOf i).toNat)
  case atStart => exact ⟨0, [], 0, 0, Nat.zero_le _, rfl, rfl, rfl, rfl, by omega, by omega, by omega, CutR.nil, World.ownsRow_nil _ _ _ _, hs, Bx.refl _ _ _⟩
  case round =>
    obtain ⟨k, l, real, game, hk, hlk, rfl, rfl, rfl, hg0, hgr, hrk, HC, hown, hsr, hbr⟩ := hrel
    by_cases hltk : k < m
    · have hlk0 : l.length ≤ k := by omega
      have hlk1 : k ≤ l.length := by omega
      clear hlk
      go_wp2_with fail
      refine (flip_calls b _ _ _ (by omega) (by omega) hsr (by omega)).mono ?_
      rintro e w1 ⟨v, rfl, hs1, hb1⟩
      have hb1' := hbr.call hb1 (Nat.le_refl _)
      have hown1 := own_bx hown hb1 (by omega)
      clear hown hsr hbr hb1
      cases v
      · go_wp2_with fail
        refine (pick_calls b _ _ 4 4 _ _ (by omega) (Rd.lit0 hs1.lt (by decide) rfl) (by simp) (hs1.alloc _) (by omega)).mono ?_
        rintro e w2 ⟨x, rfl, hx, hs2, hb2⟩
        obtain ⟨d, rfl, hd0, hd1⟩ : ∃ z : Int, x = .int .i64 z ∧ 0 ≤ z ∧ z ≤ 1000 := by
          simp at hx
          rcases hx with rfl | rfl | rfl | rfl <;> exact ⟨_, rfl, by omega, by omega⟩
        have hown2 := own_bx (hown1.alloc _) hb2 (by omega)
        have hb2' := (hb1'.alloc (Nat.le_refl _) _).call hb2 (Nat.le_refl _)
        clear hown1 hs1 hb1' hb2 hx
        go_wp2_with fail
        refine (range_calls b _ _ _ _ (by omega) (by omega) (by omega) hs2 (by omega)).mono ?_
        rintro e w3 ⟨q, rfl, q1, q2, hs3, hb3⟩
        have hown3 := own_bx hown2 hb3 (by omega)
        have hb3' := hb2'.call hb3 (Nat.le_refl _)
        have hC := HC.out.take (r := real + d) (g := game + q) (by omega) (by omega) (by omega) (by omega) (by omega)
        have HC1 := Lib.hid hC
        have hbz := hb3'.size
        clear hown2 hs2 hb2' hb3 hC HC
        go_wp2_with (first
          | (at_builtin; refine wpList_append_own _ rfl _ _ 26 rfl w.heap.size 36 i0 (.agg #[.int .i64 0, .int .i64 0, .bool false]) 3 24 Tryd.underlying26 hi hz0 hz1 hz2 rfl (by decide) _ _ _ rfl (hown3.alloc _) ⟨w3.heap.size, 0, none⟩ 1 1 [.int .i64 (real + d), .int .i64 (game + q), .bool false] rfl rfl (World.news_of_block (heap_alloc_new _ _)) (by simp [Value.oneCell']) (by unfold maxLen; omega) (by omega) (by simp; omega) ?_; intro v' w5 hown' hgrow hnil))
        have hb6 : Bx w.heap.size b w w5 := (hb3'.alloc (Nat.le_refl _) _).grown hgrow (Nat.le_refl _) (fun q hq => .inr (hown3.lt q hq).1)
        have hs5 := (hs3.alloc _).grown hgrow (fun q hq => by have := (hown3.lt q hq).1; omega)
        have hown4 : w5.ownsRow w.heap.size 36 3 v' (l ++ [(real + d, game + q, false)]).length ((l ++ [(real + d, game + q, false)]).flatMap cutC) := by
          rw [flat_cut, List.length_append]; exact hown'
        have hle : (l ++ [(real + d, game + q, false)]).length = k + 1 := by simp; omega
        have HLE := Lib.hid hle
        clear hown' hgrow hnil hown3 hb3' hs3 hle
        go_wp2
        go_roundw
        case rel => exact ⟨k + 1, _, real + d, game + q, by omega, HLE.out, by go_num, rfl, rfl, by omega, by omega, by omega, HC1, hown4, hs5.more (by omega), hb6⟩
        case measure => simp [intOf]; omega
      · have hC := HC.out.skip
        have HC1 := Lib.hid hC
        have hbz := hb1'.size
        clear hC HC
        go_wp2_with (first
          | (at_builtin; refine wpList_append_own _ rfl _ _ 26 rfl w.heap.size 36 i0 (.agg #[.int .i64 0, .int .i64 0, .bool false]) 3 24 Tryd.underlying26 hi hz0 hz1 hz2 rfl (by decide) _ _ _ rfl (hown1.alloc _) ⟨w1.heap.size, 0, none⟩ 1 1 [.int .i64 0, .int .i64 0, .bool true] rfl rfl (World.news_of_block (heap_alloc_new _ _)) (by simp [Value.oneCell']) (by unfold maxLen; omega) (by omega) (by simp; omega) ?_; intro v' w5 hown' hgrow hnil))
        have hb6 : Bx w.heap.size b w w5 := (hb1'.alloc (Nat.le_refl _) _).grown hgrow (Nat.le_refl _) (fun q hq => .inr (hown1.lt q hq).1)
        have hs5 := (hs1.alloc _).grown hgrow (fun q hq => by have := (hown1.lt q hq).1; omega)
        have hown4 : w5.ownsRow w.heap.size 36 3 v' (l ++ [(0, 0, true)]).length ((l ++ [(0, 0, true)]).flatMap cutC) := by
          rw [flat_cut, List.length_append]; exact hown'
        have hle : (l ++ [((0 : Int), (0 : Int), true)]).length = k + 1 := by simp; omega
        have HLE := Lib.hid hle
        clear hown' hgrow hnil hown1 hb1' hs1 hle
        go_wp2
        go_roundw
        case rel => exact ⟨k + 1, _, real, game, by omega, HLE.out, by go_num, rfl, rfl, by omega, by omega, by omega, HC1, hown4, hs5.more (by omega), hb6⟩
        case measure => simp [intOf]; omega
    · obtain rfl : k = m := by omega
      go_wp2
      go_ret
      exact ⟨_, l, rfl, hown, by omega, HC.out.ok (by omega), hsr.more (by omega), hbr⟩

/-- cuts whose numbers are ints -/
def CutI (l : List Cut) : Prop := ∀ c ∈ l, I64 c.1 ∧ I64 c.2.1
theorem CutI.set {l : List Cut} (h : CutI l) (i : Nat) {c : Cut} (hc : I64 c.1 ∧ I64 c.2.1) : CutI (l.set i c) := by
  intro x hx
  rcases List.mem_or_eq_of_mem_set hx with hx | hx
  · exact h x hx
  · rw [hx]; exact hc
theorem CutI.of_ok {l : List Cut} (h : cutF l = 0) : CutI l := by
  intro c hc
  obtain ⟨k, hk, rfl⟩ := List.getElem_of_mem hc
  have h1 := cutE_ok (cutF_all h k hk)
  unfold I64
  cases hs : l[k].2.2
  · have := h1.2 hs
    exact ⟨⟨by omega, by omega⟩, by omega, by omega⟩
  · have := h1.1 hs
    exact ⟨⟨by omega, by omega⟩, by omega, by omega⟩

set_option maxRecDepth 100000 in
theorem cuts_calls (b K m : Nat) (w : World) (hs : Strm w b K) (hK : K ≤ 900000) (hm : m ≤ 24) :
    Calls Tryd.prog 8 #[.pointer (some ⟨b, 0, none⟩), .int .i64 m] w (CutsS CutI m b (K + 3 * m + 10) w) := by
  have hlt := hs.lt
  go_enter Tryd.func8, Tryd.ntmps8
  go_wp2_with fail
  refine (rightCuts_calls b K m _ hs hK hm).mono ?_
  rintro e w1 ⟨v, l, rfl, hown, hlm, hok, hs1, hb1⟩
  have hI := CutI.of_ok hok
  obtain ⟨A, cp, hv⟩ := own_form hown
  subst hv
  clear hok hs
  by_cases hl : 0 < l.length
  · have hl0 : (0 : Int) < (l.length : Int) := by omega
    go_wp2_with fail
    refine (flip_calls b _ _ _ (by omega) (by omega) hs1 (by omega)).mono ?_
    rintro e w2 ⟨v, rfl, hs2, hb2⟩
    have hown2 := own_bx hown hb2 (by omega)
    have hb2' := hb1.call hb2 (Nat.le_refl _)
    clear hs1 hown hb1 hb2
    cases v
    · go_wp2_with fail
      go_ret
      exact ⟨_, l, rfl, hown2, hlm, hI, hs2.more (by omega), hb2'⟩
    · go_wp2_with fail
      refine (next_calls b _ _ _ (by omega) (by omega) hs2 (by omega)).mono ?_
      rintro e w3 ⟨q, rfl, q1, q2, hs3, hb3⟩
      obtain ⟨i, rfl⟩ : ∃ i : Nat, q = (i : Int) := ⟨q.toNat, by omega⟩
      have hi : i < l.length := by omega
      have hown3 := own_bx hown2 hb3 (by omega)
      have hb3' := hb2'.call hb3 (Nat.le_refl _)
      obtain ⟨g, cap, hv, hg0, hg1⟩ := hown3.form (by omega)
      injection hv with hA _ hcap
      subst hA hcap
      clear hs2 hown2 hb2' hb3
      go_wp2_with fail
      refine (odd_calls b _ _ _ _ (by omega) (by omega) (by omega) hs3 (by omega)).mono ?_
      rintro e w4 ⟨p, rfl, p1, p2, hs4, hb4⟩
      have hown4 := own_bx hown3 hb4 (by omega)
      have hb4' := hb3'.call hb4 (Nat.le_refl _)
      clear hs3 hown3 hb3' hb4
      go_wp2_with fail
      refine (odd_calls b _ _ _ _ (by omega) (by omega) (by omega) hs4 (by omega)).mono ?_
      rintro e w5 ⟨r, rfl, r1, r2, hs5, hb5⟩
      have hown5 := own_bx hown4 hb5 (by omega)
      have hb5' := hb4'.call hb5 (Nat.le_refl _)
      clear hs4 hown4 hb4' hb5
      go_wp2_with fail
      refine (flip_calls b _ _ _ (by omega) (by omega) hs5 (by omega)).mono ?_
      rintro e w6 ⟨s, rfl, hs6, hb6⟩
      have hown6 := own_bx hown5 hb6 (by omega)
      have hb6' := hb5'.call hb6 (Nat.le_refl _)
      clear hs5 hown5 hb5' hb6
      have hgb : b < g := by omega
      have c0 := own_cell cutC 3 cutC_len hown6 i 0 hi hi (by omega)
      have c1 := own_cell cutC 3 cutC_len hown6 i 1 hi hi (by omega)
      have c2 := own_cell cutC 3 cutC_len hown6 i 2 hi hi (by omega)
      have f0 := hown6.frozenAt (i * 3 + 0)
      have f1 := hown6.frozenAt (i * 3 + 1)
      have f2 := hown6.frozenAt (i * 3 + 2)
      have t0 := own_store cutC 3 cutC_len hown6 i 0 hi (by omega) (.int .i64 p) (p, l[i].2.1, l[i].2.2) rfl
      have hi1 : i < (l.set i (p, l[i].2.1, l[i].2.2)).length := by rw [List.length_set]; exact hi
      have t1 := own_store cutC 3 cutC_len t0 i 1 hi1 (by omega) (.int .i64 r) (p, r, l[i].2.2) (by simp [cutC])
      rw [List.set_set] at t1
      have hi2 : i < (l.set i (p, r, l[i].2.2)).length := by rw [List.length_set]; exact hi
      have t2 := own_store cutC 3 cutC_len t1 i 2 hi2 (by omega) (.bool s) (p, r, s) (by simp [cutC])
      rw [List.set_set] at t2
      have hn : (l.set i (p, r, s)).length = l.length := List.length_set ..
      have s2 := ((hs6.setCell (p := ⟨g, i * 3 + 0, none⟩) hgb (.int .i64 p)).setCell (p := ⟨g, i * 3 + 1, none⟩) hgb (.int .i64 r)).setCell (p := ⟨g, i * 3 + 2, none⟩) hgb (.bool s)
      have x2 := ((hb6'.setCell (p := ⟨g, i * 3 + 0, none⟩) (.inr hg0) (.int .i64 p)).setCell (p := ⟨g, i * 3 + 1, none⟩) (.inr hg0) (.int .i64 r)).setCell (p := ⟨g, i * 3 + 2, none⟩) (.inr hg0) (.bool s)
      simp only [Nat.add_zero] at t2 s2 x2 c0 f0
      simp only [cutC, List.getElem?_cons_zero, List.getElem?_cons_succ] at c0 c1 c2
      have HN := Lib.hid hn
      clear hn t0 t1 hi1 hi2
      go_wp2
      go_ret
      exact ⟨_, l.set i (p, r, s), rfl, by rw [HN.out] at t2 ⊢; exact t2, by rw [HN.out]; exact hlm, hI.set i (c := (p, r, s)) ⟨⟨by simp only; omega, by simp only; omega⟩, by simp only; omega, by simp only; omega⟩, s2.more (by omega), x2⟩
  · have hl0 : ¬ (0 : Int) < (l.length : Int) := by omega
    go_wp2_with fail
    go_ret
    exact ⟨_, l, rfl, hown, hlm, hI, hs1.more (by omega), hb1⟩
end Go.Proofs.YtgpgnilgloojhaaDoor
