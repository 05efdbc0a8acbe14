/-
  The order of splitref2.ResultsOf: its function value, which holds the contest; SortFunc by it.
-/
import Derived.Test.YthbcogekfdllmaaGreatZQf4
import Derived.Test.YthbcogekfdllmaaGreatZRf7
namespace Go.Proofs.YthbcogekfdllmaaGreat
open Go Go.RowKit
attribute [local go_sem ↓] Go.wp_at_zero Go.wp_at_succ

/-- a result of somebody in the contest, its time within bounds -/
structure CmpP (G : QF) (x : Res) : Prop where
  mem : x.2.1 ∈ G.ks
  t : -400000000000 ≤ x.2.2 ∧ x.2.2 ≤ 400000000000
theorem dQ_some {G : QF} {s : ByteArray} {c : Nat} (h : G.hw s = some c) : (dQ G s).isSome = decide (c = 3) := by
  unfold dQ
  rw [h]
  by_cases e : c = 3
  · subst e; rw [if_pos rfl]; rfl
  · rw [if_neg (fun h => e (Option.some.inj h))]; simp [e]
theorem cfR_eq (d : ByteArray → Option Int) (xr xt yr yt : Int) (xn yn : ByteArray) (px py : Bool) (hx : (d xn).isSome = px) (hy : (d yn).isSome = py) :
    cfR d (xr, xn, xt) (yr, yn, yt) = if px = py then (if xt = yt then cmpS xn yn else cmpI (xt - yt) 0) else if px = true then -1 else 1 := by
  unfold cfR
  simp only [hx, hy]
  rw [cmpI_sub]
  have hz : cmpI xt yt = 0 ↔ xt = yt := ⟨cmpI_z, fun h => by subst h; unfold cmpI; simp⟩
  have h1 : (if cmpI xt yt = 0 then cmpS xn yn else cmpI xt yt) = if xt = yt then cmpS xn yn else cmpI xt yt := by
    by_cases h : xt = yt
    · rw [if_pos h, if_pos (hz.2 h)]
    · rw [if_neg h, if_neg (fun k => h (hz.1 k))]
  rw [h1]
  cases px <;> cases py <;> rfl
set_option maxRecDepth 100000 in
set_option maxHeartbeats 2000000 in
theorem resOrder_calls (g m N m2 gB : Nat) (G : QF) (hK : KQ G) (x y : Res) (w : World) (hx : CmpP G x) (hy : CmpP G y) (hB : w.cell? ⟨gB, 0, none⟩ = some (.pointer (some ⟨g, 0, none⟩))) (hb : Blk w g 91 #[.int .i64 G.at0, .map (some m), .map (some m2)]) (hM : MapS w 9 m N (qfH G)) :
    Calls Tryz.prog 42 (#[.agg (resC x).toArray, .agg (resC y).toArray] ++ #[.pointer (some ⟨gB, 0, none⟩)]) w (GrwT (.int .i64 (cfR (dQ G) x y)) w) := by
  obtain ⟨xr, xn, xt⟩ := x
  obtain ⟨yr, yn, yt⟩ := y
  obtain ⟨mx, tx0, tx1⟩ := hx
  obtain ⟨my, ty0, ty1⟩ := hy
  simp only at mx my tx0 tx1 ty0 ty1
  obtain ⟨cx, hcx⟩ := Option.isSome_iff_exists.1 ((hK.iff xn).1 mx)
  obtain ⟨cy, hcy⟩ := Option.isSome_iff_exists.1 ((hK.iff yn).1 my)
  have hzx := hK.sz xn mx
  have hzy := hK.sz yn my
  obtain ⟨px, hpx⟩ : ∃ px, decide (cx = 3) = px := ⟨_, rfl⟩
  obtain ⟨py, hpy⟩ : ∃ py, decide (cy = 3) = py := ⟨_, rfl⟩
  have HC := Lib.hid (cfR_eq (dQ G) xr xt yr yt xn yn px py ((dQ_some hcx).trans hpx) ((dQ_some hcy).trans hpy))
  obtain ⟨hsx, hhx⟩ : ∃ z, z = hwB cx := ⟨_, rfl⟩
  obtain ⟨hsy, hhy⟩ : ∃ z, z = hwB cy := ⟨_, rfl⟩
  have hBx : (hsx.toList == [100, 111, 110, 101]) = px := (litB hsx [100, 111, 110, 101] (hwB 3) rfl).trans (by rw [← hpx]; exact decide_eq_decide.2 ⟨fun h => hwB_inj (hK.c4 _ _ hcx) (by decide) (hhx ▸ h), fun h => by rw [hhx, h]⟩)
  have hBy : (hsy.toList == [100, 111, 110, 101]) = py := (litB hsy [100, 111, 110, 101] (hwB 3) rfl).trans (by rw [← hpy]; exact decide_eq_decide.2 ⟨fun h => hwB_inj (hK.c4 _ _ hcy) (by decide) (hhy ▸ h), fun h => by rw [hhy, h]⟩)
  obtain ⟨w2, hw2⟩ : ∃ z, (w.alloc (.cells #[.int .i64 xr, .string xn, .int .i64 xt] 57)).alloc (.cells #[.int .i64 yr, .string yn, .int .i64 yt] 57) = z := ⟨_, rfl⟩
  have HG : Hid (∀ n v, GrwT v w (.returned v) (w2.drewN n)) := Lib.hid (fun n v => by rw [← hw2]; exact ⟨rfl, grw_two w _ _ n⟩)
  have hS : Sq w w2 [rBlk (w.heap.size + 1) 57 #[.int .i64 yr, .string yn, .int .i64 yt], rBlk w.heap.size 57 #[.int .i64 xr, .string xn, .int .i64 xt]] := by
    have h := ((Sq.start w).add #[.int .i64 xr, .string xn, .int .i64 xt] 57).add #[.int .i64 yr, .string yn, .int .i64 yt] 57
    rw [hw2] at h
    simp only [World.size_alloc] at h
    exact h
  have by_ : Blk w2 (w.heap.size + 1) 57 #[.int .i64 yr, .string yn, .int .i64 yt] := hS.nth 0 rfl
  have bx : Blk w2 w.heap.size 57 #[.int .i64 xr, .string xn, .int .i64 xt] := hS.nth 1 rfl
  have hbw : Below w.heap.size w w2 := hS.below
  have HSP : Hid (∀ V, Below w2.heap.size w2 V → V.cell? ⟨gB, 0, none⟩ = some (.pointer (some ⟨g, 0, none⟩)) ∧ V.cell? ⟨g, 1, none⟩ = some (.map (some m)) ∧ V.cell? ⟨w.heap.size, 1, none⟩ = some (.string xn) ∧ V.cell? ⟨w.heap.size + 1, 1, none⟩ = some (.string yn)
      ∧ (Instr.lookup 88 (.map (some m)) (.string xn) false).run Tryz.prog V = .ok (.string hsx) V ∧ (Instr.lookup 88 (.map (some m)) (.string yn) false).run Tryz.prog V = .ok (.string hsy) V) := Lib.hid (fun V hV => by
    have hb2 := below_call hbw hV (Nat.le_refl _)
    have h1 := (hM.below hb2).look (t := 88) (e := 9) Tryz.underlying9 Tryz.underlying88 (zero_strM V) (s := xn) (by unfold maxLen; omega)
    have h2 := (hM.below hb2).look (t := 88) (e := 9) Tryz.underlying9 Tryz.underlying88 (zero_strM V) (s := yn) (by unfold maxLen; omega)
    rw [show qfH G xn = some (.string hsx) by unfold qfH; rw [hcx, hhx]; rfl] at h1
    rw [show qfH G yn = some (.string hsy) by unfold qfH; rw [hcy, hhy]; rfl] at h2
    exact ⟨below_cell hb2 hB, (hb.below hb2).cell 1, (bx.below hV).cell 1, (by_.below hV).cell 1, h1, h2⟩)
  have x1 := bx.cell 1
  have x2 := bx.cell 2
  have y1 := by_.cell 1
  have y2 := by_.cell 2
  show Calls Tryz.prog 42 #[.agg #[.int .i64 xr, .string xn, .int .i64 xt], .agg #[.int .i64 yr, .string yn, .int .i64 yt], .pointer (some ⟨gB, 0, none⟩)] w _
  obtain ⟨Z, hZ⟩ : ∃ Z, cfR (dQ G) (xr, xn, xt) (yr, yn, yt) = Z := ⟨_, rfl⟩
  rw [hZ] at HC ⊢
  clear hZ hS bx by_ hbw hB hb hM hhx hhy hcx hcy mx my hK hpx hpy hzx hzy
  go_enter Tryz.func42, Tryz.ntmps42
  go_upto_region 1 with (fail)
  clear hw2
  go_cut [6, 7] (fun s6 s7 W => s6 = .bool px ∧ s7 = .bool py ∧ ∃ q, W = w2.drewN q)
  case first =>
    have hdr : Below w2.heap.size w2 w2.drew := below_drewN (Below.refl _ _) 1
    go_region_held3 (fun W => W.cell? ⟨gB, 0, none⟩ = some (.pointer (some ⟨g, 0, none⟩)) ∧ W.cell? ⟨g, 1, none⟩ = some (.map (some m)) ∧ W.cell? ⟨w.heap.size, 1, none⟩ = some (.string xn) ∧ W.cell? ⟨w.heap.size + 1, 1, none⟩ = some (.string yn)
      ∧ (Instr.lookup 88 (.map (some m)) (.string xn) false).run Tryz.prog W = .ok (.string hsx) W ∧ (Instr.lookup 88 (.map (some m)) (.string yn) false).run Tryz.prog W = .ok (.string hsy) W)
      (first | exact HSP.out _ hdr | go_keep) (fail)
    all_goals (go_wp2_with fail; go_meet; exact ⟨rfl, rfl, ⟨_, rfl⟩⟩)
  case rest =>
    obtain ⟨rfl, rfl, q, rfl⟩ := hcut
    clear HSP
    cases px <;> cases py
    · by_cases h : xt = yt
      · subst h
        have HZ : Hid (Z = cmpS xn yn) := Lib.hid (by rw [HC.out, if_pos rfl, if_pos rfl])
        clear HC
        go_wp2_with fail
        refine (strCmp_calls _ _ _).mono ?_
        rintro e w1 ⟨rfl, rfl⟩
        go_wp2_with fail
        go_ret
        rw [HZ.out]
        exact HG.out _ _
      · have hne : (xt != yt) = true := by simpa using h
        have HZ : Hid (Z = cmpI (xt - yt) 0) := Lib.hid (by rw [HC.out, if_pos rfl, if_neg h])
        clear h HC
        go_wp2_with fail
        refine (signI_calls _ _).mono ?_
        rintro e w1 ⟨rfl, rfl⟩
        go_wp2_with fail
        go_ret
        rw [HZ.out]
        exact HG.out _ _
    · have HZ : Hid (Z = 1) := Lib.hid (by rw [HC.out, if_neg (by decide), if_neg (by decide)])
      clear HC
      go_wp2_with fail
      go_ret
      rw [HZ.out]
      exact HG.out _ _
    · have HZ : Hid (Z = -1) := Lib.hid (by rw [HC.out, if_neg (by decide), if_pos rfl])
      clear HC
      go_wp2_with fail
      go_ret
      rw [HZ.out]
      exact HG.out _ _
    · by_cases h : xt = yt
      · subst h
        have HZ : Hid (Z = cmpS xn yn) := Lib.hid (by rw [HC.out, if_pos rfl, if_pos rfl])
        clear HC
        go_wp2_with fail
        refine (strCmp_calls _ _ _).mono ?_
        rintro e w1 ⟨rfl, rfl⟩
        go_wp2_with fail
        go_ret
        rw [HZ.out]
        exact HG.out _ _
      · have hne : (xt != yt) = true := by simpa using h
        have HZ : Hid (Z = cmpI (xt - yt) 0) := Lib.hid (by rw [HC.out, if_pos rfl, if_neg h])
        clear h HC
        go_wp2_with fail
        refine (signI_calls _ _).mono ?_
        rintro e w1 ⟨rfl, rfl⟩
        go_wp2_with fail
        go_ret
        rw [HZ.out]
        exact HG.out _ _
theorem sortRsE_calls (w0 w : World) (b n c : Nat) (xs : List Res) (l : List Rsc) (hn : n ≤ 100000) (g m N m2 gB : Nat) (G : QF) (hK : KQ G) (hxs : ∀ x ∈ xs, CmpP G x) (hx0 : ∃ x, CmpP G x) (hbB : gB ≠ b) (hbg : g ≠ b) (hbm : m ≠ b)
    (hB : w.cell? ⟨gB, 0, none⟩ = some (.pointer (some ⟨g, 0, none⟩))) (hb : Blk w g 91 #[.int .i64 G.at0, .map (some m), .map (some m2)]) (hM : MapS w 9 m N (qfH G))
    (hS : Sq w0 w (rOwn w0.heap.size 57 3 (.slice (some ⟨b, 0, none⟩) n c) n (xs.flatMap resC) :: l)) :
    Calls Tryz.prog 41 #[.slice (some ⟨b, 0, none⟩) n c, .func (.func 42) #[] #[.pointer (some ⟨gB, 0, none⟩)]] w (SrtT w0 57 3 resC b n c xs (cfR (dQ G)) l) := by
  haveI : Inhabited {x : Res // CmpP G x} := ⟨⟨hx0.choose, hx0.choose_spec⟩⟩
  have hB1 := World.block_lt_of_cell? w _ hB
  exact srtT_calls (P := CmpP G) (k := 3) Tryz.sortRs resC_len (by decide) resC_one Tryz.isAgg57 Tryz.sizeOf57 (cfR (dQ G)) (ord3_cfR _) 42 #[.pointer (some ⟨gB, 0, none⟩)] (enters_of Tryz.func42 (by kernel_rfl) rfl) w0 w b n c xs l hxs hn
    (fun x y W hx hy hW => resOrder_calls g m N m2 gB G hK x y W hx hy ((World.cell?_of_block (hW.2 gB hB1 hbB)).trans hB) ((hW.2 g hb.lt hbg).trans hb) (hM.block (hW.2 m hM.lt hbm))) hS
theorem sortRsE_none (w : World) (A : Option Addr) (c : Nat) (cb : Array Value) :
    Calls Tryz.prog 41 #[.slice A 0 c, .func (.func 42) #[] cb] w fun e w' => e = .returned (.tuple #[]) ∧ w' = w :=
  AnyF.slices_SortFunc_none Tryz.sortRs A c _ w
end Go.Proofs.YthbcogekfdllmaaGreat
