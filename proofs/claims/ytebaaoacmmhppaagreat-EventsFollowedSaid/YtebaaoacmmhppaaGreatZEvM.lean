/-
  The program's order of events, worlds told as the sorts ask, and slices.SortStableFunc at it. (Printed by gen_bym.py.)
-/
import Derived.Test.YtebaaoacmmhppaaGreatZBid3
import Derived.Test.YtebaaoacmmhppaaGreatZSymC
namespace Go.Proofs.YtebaaoacmmhppaaGreat
open Go Go.RowKit Go.Sort

theorem gw_drewN (w : World) (q : Nat) : Gw w (w.drewN q) := ⟨q, #[], (Go.Sort.grow_empty _).symm⟩
theorem orLG_calls (l : List Int) (E : Int) (n : Nat) (hl : l.length = n) (hE : firstE l = E) (hn : n ≤ 10) (W : World) (g : Nat) (hB : Blk W g 3 (l.map (Value.int .i64)).toArray) : Calls Tryz.prog 51 #[.slice (some ⟨g, 0, none⟩) n n] W (fun e w' => e = .returned (.int .i64 E) ∧ Gw W w') := by
  subst hl hE
  have hr := blkRd 1 l.length hB (Nat.ne_of_lt (Nat.lt_succ_self g)) (by unfold maxLen; omega) (by simp)
  have h := orN_calls (g + 1) _ l.length l.length l W (by simpa using hr)
  refine h.mono ?_
  rintro e w' ⟨he, nq, rfl⟩
  exact ⟨he, gw_drewN W nq⟩
set_option maxRecDepth 100000 in
set_option maxHeartbeats 4000000 in
theorem byMomentG_calls (a1 k1 t1 d1 a2 k2 t2 d2 : Int) (i1 w1 b1 c1 i2 w2 b2 c2 : ByteArray) (w : World) :
    Calls Tryz.prog 69 #[.agg #[.int .i64 a1, .int .i64 k1, .string i1, .string w1, .string b1, .string c1, .int .i64 t1, .int .i64 d1], .agg #[.int .i64 a2, .int .i64 k2, .string i2, .string w2, .string b2, .string c2, .int .i64 t2, .int .i64 d2]] w (fun e w' => e = .returned (.int .i64 (ordBev ⟨a1, k1, i1, w1, b1, c1, t1, d1⟩ ⟨a2, k2, i2, w2, b2, c2, t2, d2⟩)) ∧ Gw w w') := by
  have hS := ((Sq.start w).add #[.int .i64 a1, .int .i64 k1, .string i1, .string w1, .string b1, .string c1, .int .i64 t1, .int .i64 d1] 62).add #[.int .i64 a2, .int .i64 k2, .string i2, .string w2, .string b2, .string c2, .int .i64 t2, .int .i64 d2] 62
  have H1 := Lib.hid (fun W => cmpInt_calls a1 a2 W)
  have H2 := Lib.hid (fun W => cmpInt_calls k1 k2 W)
  have H3 := Lib.hid (fun W => strCmp_calls i1 i2 W)
  have H4 := Lib.hid (fun W => strCmp_calls w1 w2 W)
  have H5 := Lib.hid (fun W => strCmp_calls b1 b2 W)
  have HO := Lib.hid (fun W g h => orLG_calls [cmpI a1 a2, cmpI k1 k2, cmpS i1 i2, cmpS w1 w2, cmpS b1 b2] (ordBev ⟨a1, k1, i1, w1, b1, c1, t1, d1⟩ ⟨a2, k2, i2, w2, b2, c2, t2, d2⟩) 5 rfl rfl (by omega) W g h)
  obtain ⟨O, hO⟩ : ∃ z, ordBev ⟨a1, k1, i1, w1, b1, c1, t1, d1⟩ ⟨a2, k2, i2, w2, b2, c2, t2, d2⟩ = z := ⟨_, rfl⟩
  rw [hO] at HO ⊢
  obtain ⟨x1, hx1⟩ : ∃ z, cmpI a1 a2 = z := ⟨_, rfl⟩
  obtain ⟨x2, hx2⟩ : ∃ z, cmpI k1 k2 = z := ⟨_, rfl⟩
  obtain ⟨x3, hx3⟩ : ∃ z, cmpS i1 i2 = z := ⟨_, rfl⟩
  obtain ⟨x4, hx4⟩ : ∃ z, cmpS w1 w2 = z := ⟨_, rfl⟩
  obtain ⟨x5, hx5⟩ : ∃ z, cmpS b1 b2 = z := ⟨_, rfl⟩
  rw [hx1] at H1
  rw [hx2] at H2
  rw [hx3] at H3
  rw [hx4] at H4
  rw [hx5] at H5
  rw [hx1, hx2, hx3, hx4, hx5] at HO
  simp only [List.map_cons, List.map_nil] at HO
  rw [World.size_alloc] at hS
  obtain ⟨W0, hW0⟩ : ∃ W0, (w.alloc (.cells #[.int .i64 a1, .int .i64 k1, .string i1, .string w1, .string b1, .string c1, .int .i64 t1, .int .i64 d1] 62)).alloc (.cells #[.int .i64 a2, .int .i64 k2, .string i2, .string w2, .string b2, .string c2, .int .i64 t2, .int .i64 d2] 62) = W0 := ⟨_, rfl⟩
  have HW0 := Lib.hid hW0
  rw [hW0] at hS
  have hb1 : Blk W0 w.heap.size _ _ := hS.nth 1 rfl
  have hb2 : Blk W0 (w.heap.size + 1) _ _ := hS.head
  have HB : Hid (Gw w W0) := Lib.hid (by rw [← hW0]; exact ((Gw.refl w).alloc _).alloc _)
  have HC : Hid (∀ V, Gw W0 V → V.cell? ⟨w.heap.size, 0, none⟩ = some (.int .i64 a1) ∧ V.cell? ⟨w.heap.size, 1, none⟩ = some (.int .i64 k1) ∧ V.cell? ⟨w.heap.size, 2, none⟩ = some (.string i1) ∧ V.cell? ⟨w.heap.size, 3, none⟩ = some (.string w1) ∧ V.cell? ⟨w.heap.size, 4, none⟩ = some (.string b1) ∧ V.cell? ⟨w.heap.size + 1, 0, none⟩ = some (.int .i64 a2) ∧ V.cell? ⟨w.heap.size + 1, 1, none⟩ = some (.int .i64 k2) ∧ V.cell? ⟨w.heap.size + 1, 2, none⟩ = some (.string i2) ∧ V.cell? ⟨w.heap.size + 1, 3, none⟩ = some (.string w2) ∧ V.cell? ⟨w.heap.size + 1, 4, none⟩ = some (.string b2)) := Lib.hid (fun V h => by
    have g1 := hb1.below (below_gw h)
    have g2 := hb2.below (below_gw h)
    exact ⟨g1.cell 0, g1.cell 1, g1.cell 2, g1.cell 3, g1.cell 4, g2.cell 0, g2.cell 1, g2.cell 2, g2.cell 3, g2.cell 4⟩)
  have S0 : Gw W0 W0 := Gw.refl _
  have S1 : Gw W0 W0.drew := gw_drewN W0 1
  have HBO : Blk (W0.alloc (.cells #[.int .i64 x1, .int .i64 x2, .int .i64 x3, .int .i64 x4, .int .i64 x5] 3)).drew W0.heap.size 3 #[.int .i64 x1, .int .i64 x2, .int .i64 x3, .int .i64 x4, .int .i64 x5] := Blk.new W0 _ _
  have SA : Gw W0 (W0.alloc (.cells #[.int .i64 x1, .int .i64 x2, .int .i64 x3, .int .i64 x4, .int .i64 x5] 3)).drew := ((Gw.refl W0).alloc _).trans (gw_drewN _ 1)
  have HO2 := Lib.hid ((HO.out _ _ HBO).mono (fun e w' h2 => (⟨h2.1, SA.trans h2.2⟩ : e = .returned (.int .i64 O) ∧ Gw W0 w')))
  clear HBO
  clear hO hx1 hx2 hx3 hx4 hx5 hb1 hb2 hS hW0 HO
  go_enter Tryz.func69, Tryz.ntmps69
  go_upto_region 1 with (fail)
  rw [HW0.out]
  obtain ⟨k0, k1', k2', k3, k4, k5, k6, k7, k8, k9⟩ := HC.out _ S0
  go_region_held3 (fun V => V.cell? ⟨w.heap.size, 0, none⟩ = some (.int .i64 a1) ∧ V.cell? ⟨w.heap.size, 1, none⟩ = some (.int .i64 k1) ∧ V.cell? ⟨w.heap.size, 2, none⟩ = some (.string i1) ∧ V.cell? ⟨w.heap.size, 3, none⟩ = some (.string w1) ∧ V.cell? ⟨w.heap.size, 4, none⟩ = some (.string b1) ∧ V.cell? ⟨w.heap.size + 1, 0, none⟩ = some (.int .i64 a2) ∧ V.cell? ⟨w.heap.size + 1, 1, none⟩ = some (.int .i64 k2) ∧ V.cell? ⟨w.heap.size + 1, 2, none⟩ = some (.string i2) ∧ V.cell? ⟨w.heap.size + 1, 3, none⟩ = some (.string w2) ∧ V.cell? ⟨w.heap.size + 1, 4, none⟩ = some (.string b2))
    (first | with_reducible exact HC.out _ S1 | with_reducible exact HC.out _ SA | exact HC.out _ SA | with_reducible exact HC.out _ S9)
    (first
      | (go_at_call 52; ((with_reducible refine (H1.out _).mono ?_); rintro e w4 ⟨rfl, rfl⟩))
      | (go_at_call 52; ((with_reducible refine (H2.out _).mono ?_); rintro e w4 ⟨rfl, rfl⟩))
      | (go_at_call 53; ((with_reducible refine (H3.out _).mono ?_); rintro e w5 ⟨rfl, rfl⟩))
      | (go_at_call 53; ((with_reducible refine (H4.out _).mono ?_); rintro e w5 ⟨rfl, rfl⟩))
      | (go_at_call 53; ((with_reducible refine (H5.out _).mono ?_); rintro e w5 ⟨rfl, rfl⟩))
      | (go_at_call 51; ((with_reducible refine HO2.out.mono ?_); rintro e w9 ⟨rfl, S9⟩)))
  all_goals
    go_wp2_with fail
    go_ret
    exact ⟨rfl, HB.out.trans S9⟩
theorem insM_none (w : World) (A : Option Addr) (c : Nat) :
    Calls Tryz.prog 101 #[.slice A 0 c, .int .i64 0, .int .i64 0, .func (.func 69) #[] #[]] w (fun e w' => e = .returned (.tuple #[]) ∧ w' = w) :=
  AnyF.insertionSortCmpFunc_none Tryz.insEv A c _ w
set_option maxRecDepth 100000 in
theorem stableM_none (w : World) (A : Option Addr) (c : Nat) :
    Calls Tryz.prog 80 #[.slice A 0 c, .int .i64 0, .func (.func 69) #[] #[]] w (fun e w' => e = .returned (.tuple #[]) ∧ w = w') := by
  have HI := Lib.hid (insM_none w A c)
  go_enter Tryz.func80, Tryz.ntmps80
  go_wp2_with fail
  go_loopw [7, 8] (fun s7 s8 wr => s7 = .int .i64 0 ∧ s8 = .int .i64 20 ∧ wr = w) (fun _ _ _ => 0)
  case atStart => exact ⟨rfl, rfl, rfl⟩
  case round =>
    obtain ⟨rfl, rfl, rfl⟩ := hrel
    go_wp2_with fail
    refine HI.out.mono ?_
    rintro e w1 ⟨rfl, rfl⟩
    go_wp2_with fail
    go_loopw [6] (fun s6 wr => s6 = .int .i64 20 ∧ wr = w1) (fun _ _ => 0)
    case atStart => exact ⟨rfl, rfl⟩
    case round =>
      obtain ⟨rfl, rfl⟩ := hrel
      go_wp2_with fail
      go_end0
      exact ⟨rfl, rfl⟩
set_option maxRecDepth 100000 in
theorem sortMo_calls (base : Nat) (w : World) (A : Option Addr) (n c : Nat) (xs : List Bev) (hl : xs.length = n) (hn : n ≤ 39) (ho : w.ownsRow base 62 8 (.slice A n c) n (xs.flatMap bevC)) :
    Calls Tryz.prog 41 #[.slice A n c, .func (.func 69) #[] #[]] w (SoR w base (.slice A n c) n (sev xs)) := by
  by_cases h0 : n = 0
  · subst h0
    have hx : xs = [] := List.length_eq_zero_iff.1 hl
    subst hx
    have hs : sev [] = [] := List.length_eq_zero_iff.1 (sev_len [])
    have HF : Hid (SoR w base (.slice A 0 c) 0 (sev []) (.returned (.tuple #[])) w) := Lib.hid ⟨rfl, by rw [hs]; exact ho, ⟨rfl, rfl, rfl, Nat.le_refl _, fun _ _ _ => rfl⟩⟩
    have HI := Lib.hid (stableM_none w A c)
    clear ho hl hs
    go_enter Tryz.func41, Tryz.ntmps41
    go_wp2_with fail
    refine HI.out.mono ?_
    rintro e w1 ⟨rfl, rfl⟩
    go_wp2_with fail
    go_end0
    exact HF.out
  · obtain ⟨g, cap, hv, _⟩ := ho.form (by omega)
    injection hv with hA _ hc
    subst hA hc
    have hH : HoldsK bevC 8 w g 0 xs.toArray := holdsK_own _ 8 bevC_len (by decide) xs.toArray (by simpa using ho)
    have hz : xs.toArray.size = n := by simpa using hl
    have HI := Lib.hid (stableE_calls 8 Tryz.isAgg62 Tryz.sizeOf62 bevC ordBev swo_bev 69 #[] g c n xs.toArray w (enters_of Tryz.func69 (by kernel_rfl) rfl)
      (fun m os dk _ x y => byMomentG_calls x.at_ x.kind x.time x.date y.at_ y.kind y.time y.date x.id x.who x.by_ x.cat y.id y.who y.by_ y.cat _) ⟨bevC_len, bevC_one, hH, (ho.lt g rfl).2⟩ hz hn)
    have HF : Hid (∀ w', SWK bevC 8 w g 0 (stbF (ltOf ordBev) n xs.toArray) w' → SoR w base (.slice (some ⟨g, 0, none⟩) n c) n (sev xs) (.returned (.tuple #[])) w') := Lib.hid (by
      rintro w' ⟨m, os, rfl⟩
      have hs : (stbF (ltOf ordBev) n xs.toArray).size = n := stbF_size swo_bev hz
      refine ⟨rfl, ?_, sortW_grown bevC 8 w g m _ os⟩
      unfold sev
      rw [hl]
      exact sortW_own bevC 8 bevC_len (by decide) ho m _ hs os)
    clear ho hl hH hz
    go_enter Tryz.func41, Tryz.ntmps41
    go_wp2_with fail
    refine HI.out.mono ?_
    rintro e w1 ⟨rfl, hys⟩
    have HY := Lib.hid (HF.out _ hys)
    clear hys
    go_wp2_with fail
    go_end0
    exact HY.out
end Go.Proofs.YtebaaoacmmhppaaGreat
