/-
  board.(*desk).rows by its contract.
-/
import Derived.Test.YtapgnaimbgjcnaaGreatDoorZTk
import Derived.Test.YtapgnaimbgjcnaaGreatDoorZDk5
namespace Go.Proofs.YtapgnaimbgjcnaaGreatDoor
open Go Go.RowKit Go.Sort
attribute [local go_sem ↓] Go.wp_at_zero Go.wp_at_succ
def wF (O : List Bev) : ByteArray → Option Value := fun s => if O.any (fun o => decide (o.who = s)) = true then some (.bool true) else none
theorem wF_get (O : List Bev) (s : ByteArray) : (wF O s).getD (.bool false) = .bool (O.any (fun o => decide (o.who = s))) := by
 unfold wF
 cases h : O.any (fun o => decide (o.who = s)) <;> simp
theorem wF_add (O : List Bev) (x : Bev) : upd (wF O) x.who (.bool true) = wF (O ++ [x]) := by
 funext s
 unfold upd wF
 rw [List.any_append]
 by_cases e : s = x.who
 · subst e; simp
 · rw [if_neg e]
   have : decide (x.who = s) = false := decide_eq_false (fun h => e h.symm)
   simp [this]
def RwD (gd m1 m2 n1 n2 : Nat) (L : List Rpt) (D : Dsk) (cat : ByteArray) (w0 : World) (e : Ending) (w' : World) : Prop :=
 ∃ (A : Option Addr) (c : Nat) (ys : List Bev), SbdR D cat ys ∧ e = .returned (.slice A (rowsB ys).length c) ∧ Sq w0 w' (rOwn w0.heap.size 80 5 (.slice A (rowsB ys).length c) (rowsB ys).length ((rowsB ys).flatMap brwC) :: dskL gd m1 n1 m2 n2 L D [])
set_option maxRecDepth 100000 in
set_option maxHeartbeats 8000000 in
theorem rowsD_calls (gd m1 m2 n1 n2 : Nat) (L : List Rpt) (D : Dsk) (cat : ByteArray) (w0 w : World) (hK : KD D) (hL : LD L D) (hz : D.rn.length ≤ 3000) (hS : Sq w0 w (dskL gd m1 n1 m2 n2 L D [])) :
 Calls Tryz.prog 78 #[.pointer (some ⟨gd, 0, none⟩), .string cat] w (RwD gd m1 m2 n1 n2 L D cat w0) := by
 obtain ⟨i0, hi, hz0, hz1, hz2⟩ : ∃ i0, Tryz.prog.info? 80 = some i0 ∧ i0.zero = some (.agg #[.int .i64 0, .int .i64 0, .string ⟨#[]⟩, .string ⟨#[]⟩, .int .i64 0]) ∧ i0.size = 5 ∧ i0.bytes = 56 := by
  have h := info_row
  cases hh : Tryz.prog.info? 80 with
  | none => rw [hh] at h; cases h
  | some i => rw [hh] at h; injection h with h; injection h with h1 h; injection h with h2 h3; exact ⟨i, rfl, h1, h2, h3⟩
 have hmm := @run_makeMap Tryz.prog
 obtain ⟨ms, hms⟩ : ∃ ms, ms = w.heap.size := ⟨_, rfl⟩
 have hS1 : Sq w0 (w.alloc (.map #[] 0)) (dskL gd m1 n1 m2 n2 L D [rMap 9 ms 0 (wF [])]) := by
  rw [hms]
  unfold dskL at hS ⊢
  exact (((((hS.addMap 9).front 4 rfl rfl).front 4 rfl rfl).front 4 rfl rfl).front 4 rfl rfl)
 have HC := Lib.hid (onBoardD_calls gd m1 m2 n1 n2 L D _ cat w0 _ hK hL hz hS1)
 have HZ := Lib.hid hz
 have HK := Lib.hid hK
 have HL := Lib.hid hL
 clear hS hS1 hK hL hz
 go_enter Tryz.func78, Tryz.ntmps78
 go_wp2_with fail
 clear hmm
 rw [← hms]
 refine HC.out.mono ?_
 rintro e w2 ⟨Ap, cp, ps, rfl, hY, hPL, hS2⟩
 have HY := Lib.hid hY
 have HPL := Lib.hid hPL
 obtain ⟨m, hm⟩ : ∃ m, ps.length = m := ⟨_, rfl⟩
 have hS3 := ((hS2.nil w0.heap.size 80 5).front 6 rfl rfl).front 1 rfl rfl
 clear hS2 hY hPL HC hms
 rw [hm] at hS3 ⊢
 have HM := Lib.hid hm
 have HAP : Hid (0 < m → ∃ gP, Ap = some ⟨gP, 0, none⟩) := Lib.hid (fun h0 => by
  have hown : w2.ownsRow w0.heap.size 166 1 (.slice Ap m cp) m (ps.flatMap (fun x => [ptvV x])) := hS3.nth 2 rfl
  rcases hown.2 with ⟨he, hx⟩ | ⟨g, cap, cur, he, _⟩
  · exact absurd (by injection he) (by omega : ¬ m = 0)
  · injection he with he; exact ⟨g, he⟩)
 have HMZ : Hid (m ≤ 3000) := Lib.hid (by
  have h := HY.out.1.length_eq
  rw [List.length_map, hm] at h
  have h2 : (brd D cat).length ≤ D.rn.length := by unfold brd; rw [List.length_map]; exact List.length_filter_le _ _
  have := HZ.out
  omega)
 clear hm
 go_wp2_with fail
 go_loopw [5, 16] (fun s5 s16 wr => ∃ (k : Nat) (A : Option Addr) (c ns : Nat) (O : List Bev) (out : List Brw), k ≤ m ∧ s16 = .int .i64 k ∧ ns ≤ k ∧ O.length ≤ k ∧ out.length = O.length ∧ s5 = .slice A out.length c ∧ Hid (bstW ((ps.map (·.2)).take k) = O) ∧ Hid (O.foldl stR [] = out) ∧ Sq w0 wr (rOwn w0.heap.size 80 5 (.slice A out.length c) out.length (out.flatMap brwC) :: rMap 9 ms ns (wF O) :: rOwn w0.heap.size 166 1 (.slice Ap m cp) m (ps.flatMap (fun x => [ptvV x])) :: dskL gd m1 n1 m2 n2 L D [])) (fun _ s16 _ => m - (intOf s16).toNat)
 case atStart => exact ⟨0, none, 0, 0, [], [], Nat.zero_le _, rfl, Nat.le_refl _, Nat.le_refl _, rfl, rfl, Lib.hid rfl, Lib.hid rfl, hS3⟩
 case round =>
  clear hS3
  obtain ⟨k, A, c, ns, O, out, hk, rfl, hns, hO, hol, rfl, HO, HOUT, hS⟩ := hrel
  obtain ⟨wo, hwo⟩ : ∃ z, z = wr := ⟨_, rfl⟩
  subst hwo
  have hmz := HMZ.out
  by_cases hlt : k < m
  · obtain ⟨gP, hgP⟩ := HAP.out (by omega)
    subst hgP
    have hkp : k < ps.length := by rw [HM.out]; exact hlt
    have hown : wo.ownsRow w0.heap.size 166 1 (.slice (some ⟨gP, 0, none⟩) m cp) m (ps.flatMap (fun x => [ptvV x])) := hS.nth 2 rfl
    have hcp := own_cell (fun x => [ptvV x]) 1 (fun _ => rfl) hown k 0 hkp hlt (by omega)
    rw [Nat.mul_one, Nat.add_zero] at hcp
    obtain ⟨⟨g, at_, kd, id, who, by1, ct, tm, dt⟩, hx⟩ : ∃ x, ps[k] = x := ⟨_, rfl⟩
    rw [hx] at hcp
    replace hcp : wo.cell? ⟨gP, k, none⟩ = some (.pointer (some ⟨g, 0, none⟩)) := hcp
    obtain ⟨kk, hmem⟩ := HPL.out ps[k] (List.getElem_mem hkp)
    rw [hx] at hmem
    have hall : ∀ a ∈ L, (rRun a).P wo := by have h := hS; unfold dskL at h; exact h.nth 6 rfl
    have hb : Blk wo g 168 #[.int .i64 at_, .int .i64 kd, .string id, .string who, .string by1, .string ct, .int .i64 tm, .int .i64 dt, .string (hwV kk)] := hall _ hmem
    have b2 := hb.cell 2
    have b3 := hb.cell 3
    have b6 := hb.cell 6
    have b7 := hb.cell 7
    have hst : bstW ((ps.map (·.2)).take (k + 1)) = stW O ⟨at_, kd, id, who, by1, ct, tm, dt⟩ := by
     rw [List.take_succ_eq_append_getElem (by rw [List.length_map]; exact hkp)]
     unfold bstW
     rw [List.foldl_append, show List.foldl stW [] ((ps.map (·.2)).take k) = O from HO.out, List.getElem_map, hx]
     rfl
    have HST := Lib.hid hst
    have hwz : who.size ≤ 40 := by
     have h : (⟨at_, kd, id, who, by1, ct, tm, dt⟩, kk) ∈ D.rn := by rw [← HL.out.rn]; exact List.mem_map.2 ⟨_, hmem, rfl⟩
     exact HK.out.wz _ h
    have hmp : MapS wo 9 ms ns (wF O) := hS.nth 1 rfl
    have lk := hmp.look (t := 137) (e := 4) Tryz.underlying9 Tryz.underlying137 (zero_bol wo) (s := who) (by unfold maxLen; omega)
    rw [wF_get] at lk
    obtain ⟨S, hSn⟩ : ∃ z, O.any (fun o => decide (o.who = who)) = z := ⟨_, rfl⟩
    rw [hSn] at lk
    have hk0 : (0 : Int) ≤ (k : Int) := by omega
    have hk1 : (k : Int) < (m : Int) := by omega
    clear hst hx hall hmp hown hb
    cases S
    · have hs2 : stW O ⟨at_, kd, id, who, by1, ct, tm, dt⟩ = O ++ [⟨at_, kd, id, who, by1, ct, tm, dt⟩] := by unfold stW; rw [if_neg (by rw [hSn]; decide)]
      clear hSn
      obtain ⟨w6, hput, hS6⟩ := map_put Tryz.underlying137 (hS.front 1 rfl rfl) (by unfold maxLen; omega) (s := who) (by unfold maxLen; omega) (.bool true)
      rw [show upd (wF O) who (.bool true) = wF (O ++ [⟨at_, kd, id, who, by1, ct, tm, dt⟩]) from wF_add O ⟨at_, kd, id, who, by1, ct, tm, dt⟩] at hS6
      have HS6 := Lib.hid hS6
      clear hS
      rcases List.eq_nil_or_concat out with rfl | ⟨o1, y, rfl⟩
      · clear hS6
        have hO0 : O.length = 0 := hol.symm
        go_upto_region 10 with (fail)
        refine wp_region_held_drew (S := (fun _ => True)) (by kernel_rfl) trivial (fun hHeld => ?_)
        refine tkY 0 (.int .i64 (-1)) rfl hHeld ?_
        refine tkY 1 (.bool false) rfl hHeld ?_
        refine tkY 2 (.bool false) rfl hHeld ?_
        refine tkN 3 rfl hHeld ?_
        refine tkN 4 rfl hHeld ?_
        refine tkN 5 rfl hHeld ?_
        refine tkN 6 rfl hHeld ?_
        refine tkN 7 rfl hHeld ?_
        refine tkN 8 rfl hHeld ?_
        refine tkN 9 rfl hHeld ?_
        refine tkN 10 rfl hHeld ?_
        refine tkN 11 rfl hHeld ?_
        refine tkN 12 rfl hHeld ?_
        refine tkN 13 rfl hHeld ?_
        refine tkY 14 (.bool false) rfl hHeld ?_
        refine wpAnyH_done (by kernel_rfl) ?_ _
        obtain ⟨w7, hw7, hS7⟩ : ∃ W, W = w6.drew ∧ Sq w0 W (rMap 9 ms (ns + 1) (wF (O ++ [⟨at_, kd, id, who, by1, ct, tm, dt⟩])) :: rOwn w0.heap.size 80 5 (.slice A (0) c) (0) ((([] : List Brw)).flatMap brwC) :: rOwn w0.heap.size 166 1 (.slice (some ⟨gP, 0, none⟩) m cp) m (ps.flatMap (fun x => [ptvV x])) :: dskL gd m1 n1 m2 n2 L D []) := ⟨_, rfl, HS6.out.drew⟩
        rw [← hw7]
        unfold dskL at hS7
        clear hw7 HS6
        go_wp2_with fail
        have hSA := ((hS7.front 1 rfl rfl).add #[.int .i64 1, .int .i64 tm, .string id, .string who, .int .i64 dt] 80).drew
        have hSAf := hSA.front 1 rfl rfl
        have HO5 : World.ownsRow _ w0.heap.size 80 5 (.slice A (0) c) (0) ((([] : List Brw)).flatMap brwC) := hSAf.head
        have hLit := (hSA.nth 0 rfl : Blk _ w7.heap.size 80 #[.int .i64 1, .int .i64 tm, .string id, .string who, .int .i64 dt])
        obtain ⟨v8, w8, hrun, hown8, hgrow8, _, hblk8⟩ := run_append_own_at (P := Tryz.prog) _ w0.heap.size 83 83 80 i0 (.agg #[.int .i64 0, .int .i64 0, .string ⟨#[]⟩, .string ⟨#[]⟩, .int .i64 0]) 5 56 Tryz.underlying83 hi hz0 hz1 hz2 rfl (by decide) (.slice A (0) c) (0) ((([] : List Brw)).flatMap brwC) HO5 ⟨w7.heap.size, 0, none⟩ 1 1 [.int .i64 1, .int .i64 tm, .string id, .string who, .int .i64 dt] rfl (World.news_of_block hLit) (by intro u hu; simp only [List.mem_cons, List.not_mem_nil, or_false] at hu; rcases hu with rfl | rfl | rfl | rfl | rfl <;> rfl) (by unfold maxLen; omega) (by omega) hSA.size
        have hS9 := hSAf.append hown8 hgrow8 hblk8
        obtain ⟨A8, c8, hv8⟩ := own_form hown8
        subst hv8
        have HG : ∀ (W : World), Blk W g 168 #[.int .i64 at_, .int .i64 kd, .string id, .string who, .string by1, .string ct, .int .i64 tm, .int .i64 dt, .string (hwV kk)] → W.cell? ⟨g, 2, none⟩ = some (.string id) ∧ W.cell? ⟨g, 3, none⟩ = some (.string who) ∧ W.cell? ⟨g, 6, none⟩ = some (.int .i64 tm) ∧ W.cell? ⟨g, 7, none⟩ = some (.int .i64 dt) := fun W b => ⟨b.cell 2, b.cell 3, b.cell 6, b.cell 7⟩
        have P1 : w7.drew.cell? ⟨g, 2, none⟩ = some (.string id) ∧ w7.drew.cell? ⟨g, 3, none⟩ = some (.string who) ∧ w7.drew.cell? ⟨g, 6, none⟩ = some (.int .i64 tm) ∧ w7.drew.cell? ⟨g, 7, none⟩ = some (.int .i64 dt) := HG _ ((show ∀ a ∈ L, (rRun a).P w7.drew from hS7.drew.nth 6 rfl) _ hmem)
        have P2 : (w7.alloc (.cells #[.int .i64 1, .int .i64 tm, .string id, .string who, .int .i64 dt] 80)).drew.cell? ⟨g, 2, none⟩ = some (.string id) ∧ (w7.alloc (.cells #[.int .i64 1, .int .i64 tm, .string id, .string who, .int .i64 dt] 80)).drew.cell? ⟨g, 3, none⟩ = some (.string who) ∧ (w7.alloc (.cells #[.int .i64 1, .int .i64 tm, .string id, .string who, .int .i64 dt] 80)).drew.cell? ⟨g, 6, none⟩ = some (.int .i64 tm) ∧ (w7.alloc (.cells #[.int .i64 1, .int .i64 tm, .string id, .string who, .int .i64 dt] 80)).drew.cell? ⟨g, 7, none⟩ = some (.int .i64 dt) := HG _ ((show ∀ a ∈ L, (rRun a).P _ from hSA.nth 7 rfl) _ hmem)
        have P3 : w8.cell? ⟨g, 2, none⟩ = some (.string id) ∧ w8.cell? ⟨g, 3, none⟩ = some (.string who) ∧ w8.cell? ⟨g, 6, none⟩ = some (.int .i64 tm) ∧ w8.cell? ⟨g, 7, none⟩ = some (.int .i64 dt) := HG _ ((show ∀ a ∈ L, (rRun a).P w8 from hS9.nth 7 rfl) _ hmem)
        have hST2 : Hid (List.foldl stR [] (O ++ [(⟨at_, kd, id, who, by1, ct, tm, dt⟩ : Bev)]) = ([] : List Brw) ++ [(⟨1, tm, id, who, dt⟩ : Brw)]) := Lib.hid (by
         rw [List.foldl_append, HOUT.out]
         show stR _ _ = _
         unfold stR
         rw [show rkP [] tm = 1 from rfl])
        have hS10 := (hS9.drop 1 rfl rfl)
        clear HO5 hLit hown8 hgrow8 hblk8 hSA hSAf hS9 hS7 HG
        go_region_held3 (fun W => W.cell? ⟨g, 2, none⟩ = some (.string id) ∧ W.cell? ⟨g, 3, none⟩ = some (.string who) ∧ W.cell? ⟨g, 6, none⟩ = some (.int .i64 tm) ∧ W.cell? ⟨g, 7, none⟩ = some (.int .i64 dt))
         (first | with_reducible exact P1 | with_reducible exact P2 | with_reducible exact P3 | exact P2 | exact P3)
         (first | (refine oper_app_run _ _ 83 rfl rfl rfl hrun ?_))
        go_wp2_with fail
        go_roundw
        case rel => exact ⟨k + 1, A8, c8, ns + 1, O ++ [⟨at_, kd, id, who, by1, ct, tm, dt⟩], ([] : List Brw) ++ [(⟨1, tm, id, who, dt⟩ : Brw)], by omega, by go_num, by omega, by simp; omega, by (simp only [List.length_append, List.length_cons, List.length_nil] at hol ⊢; omega), by rw [List.length_append]; rfl, Lib.hid (by rw [HST.out, hs2]), hST2, by
         rw [List.flatMap_append, List.length_append]
         exact hS10⟩
        case measure => simp [intOf]; omega
      · obtain ⟨⟨yr, yt, yi, yw, yd⟩, hyE⟩ : ∃ z, y = z := ⟨_, rfl⟩
        subst hyE
        rw [List.concat_eq_append] at *
        obtain ⟨q, hq⟩ : ∃ q, o1.length = q := ⟨_, rfl⟩
        have hol2 : (o1 ++ [(⟨yr, yt, yi, yw, yd⟩ : Brw)]).length = q + 1 := by simp [hq]
        obtain ⟨gR, hgR⟩ : ∃ gR, A = some ⟨gR, 0, none⟩ := by
         have hown : w6.ownsRow w0.heap.size 80 5 (.slice A (o1 ++ [(⟨yr, yt, yi, yw, yd⟩ : Brw)]).length c) (o1 ++ [(⟨yr, yt, yi, yw, yd⟩ : Brw)]).length ((o1 ++ [(⟨yr, yt, yi, yw, yd⟩ : Brw)]).flatMap brwC) := hS6.nth 1 rfl
         rcases hown.2 with ⟨he, hx⟩ | ⟨g, cap, cur, he, _⟩
         · exact absurd (by injection he) (by omega : ¬ (o1 ++ [(⟨yr, yt, yi, yw, yd⟩ : Brw)]).length = 0)
         · injection he with he; exact ⟨g, he⟩
        subst hgR
        have hown6 : w6.ownsRow w0.heap.size 80 5 (.slice (some ⟨gR, 0, none⟩) (o1 ++ [(⟨yr, yt, yi, yw, yd⟩ : Brw)]).length c) (o1 ++ [(⟨yr, yt, yi, yw, yd⟩ : Brw)]).length ((o1 ++ [(⟨yr, yt, yi, yw, yd⟩ : Brw)]).flatMap brwC) := hS6.nth 1 rfl
        have hy : (o1 ++ [(⟨yr, yt, yi, yw, yd⟩ : Brw)])[q]'(by omega) = (⟨yr, yt, yi, yw, yd⟩ : Brw) := by subst hq; simp
        have y0 := own_cell brwC 5 brwC_len hown6 q 0 (by omega) (by omega) (by omega)
        have y1 := own_cell brwC 5 brwC_len hown6 q 1 (by omega) (by omega) (by omega)
        rw [hy] at y0 y1
        rw [Nat.add_zero] at y0
        replace y0 : w6.drew.cell? ⟨gR, q * 5, none⟩ = some (.int .i64 yr) := y0
        replace y1 : w6.drew.cell? ⟨gR, q * 5 + 1, none⟩ = some (.int .i64 yt) := y1
        have t6 : w6.drew.cell? ⟨g, 6, none⟩ = some (.int .i64 tm) := by
         have h := hS6.drew
         unfold dskL at h
         have hb : Blk w6.drew g 168 #[.int .i64 at_, .int .i64 kd, .string id, .string who, .string by1, .string ct, .int .i64 tm, .int .i64 dt, .string (hwV kk)] := (show ∀ a ∈ L, (rRun a).P w6.drew from h.nth 6 rfl) _ hmem
         exact hb.cell 6
        have HSP : Hid (w6.drew.cell? ⟨gR, q * 5 + 1, none⟩ = some (.int .i64 yt) ∧ w6.drew.cell? ⟨g, 6, none⟩ = some (.int .i64 tm)) := Lib.hid ⟨y1, t6⟩
        have hq0 : (0 : Int) ≤ (q : Int) := by omega
        have hq1 : (q : Int) < (q : Int) + 1 := by omega
        have hqe : O.length - 1 = q := by rw [← hol, hol2]; omega
        have hq3 : (0 : Int) ≤ (O.length : Int) - 1 := by rw [← hol, hol2]; omega
        have hq4 : (O.length : Int) - 1 < (O.length : Int) := by omega
        rw [← hqe] at y0
        have Y0 := Lib.hid y0
        rw [hqe] at y0
        clear hown6 hy y0 y1 t6 hS6 hqe
        by_cases hyt : yt = tm
        · have hbe : (yt == tm) = true := by simp [hyt]
          have hrk : rkP (o1 ++ [(⟨yr, yt, yi, yw, yd⟩ : Brw)]) tm = yr := by
           unfold rkP
           rw [List.getLast?_concat]
           simp only
           rw [if_pos hyt]
          have HRK := Lib.hid hrk
          clear hrk hyt
          go_upto_region 10 with (fail)
          refine wp_region_held_drew (S := (fun W => W.cell? ⟨gR, q * 5 + 1, none⟩ = some (.int .i64 yt) ∧ W.cell? ⟨g, 6, none⟩ = some (.int .i64 tm))) (by kernel_rfl) HSP.out (fun hHeld => ?_)
          refine tkY 0 (.int .i64 (q : Int)) rfl hHeld ?_
          refine tkY 1 (.bool true) rfl hHeld ?_
          refine tkY 2 (.bool true) rfl hHeld ?_
          refine tkY 3 (.slice (some ⟨gR, 0, none⟩) (q + 1) c) rfl hHeld ?_
          refine tkY 4 (.int .i64 (q : Int)) rfl hHeld ?_
          refine tkY 5 (.pointer (some ⟨gR, q * 5, none⟩)) rfl hHeld ?_
          refine tkY 6 (.pointer (some ⟨gR, q * 5 + 1, none⟩)) rfl hHeld ?_
          refine tkY 7 (.int .i64 yt) rfl hHeld ?_
          refine tkY 8 (.pointer (some ⟨g, 0, none⟩)) rfl hHeld ?_
          refine tkY 9 (.pointer (some ⟨g, 0, none⟩)) rfl hHeld ?_
          refine tkY 10 (.pointer (some ⟨g, 0, none⟩)) rfl hHeld ?_
          refine tkY 11 (.pointer (some ⟨g, 6, none⟩)) rfl hHeld ?_
          refine tkY 12 (.int .i64 tm) rfl hHeld ?_
          refine tkY 13 (.bool true) rfl hHeld ?_
          refine tkY 14 (.bool true) rfl hHeld ?_
          refine wpAnyH_done (by kernel_rfl) ?_ _
          obtain ⟨w7, hw7, hS7, y7⟩ : ∃ W, W = w6.drew ∧ Sq w0 W (rMap 9 ms (ns + 1) (wF (O ++ [⟨at_, kd, id, who, by1, ct, tm, dt⟩])) :: rOwn w0.heap.size 80 5 (.slice (some ⟨gR, 0, none⟩) O.length c) O.length (((o1 ++ [(⟨yr, yt, yi, yw, yd⟩ : Brw)])).flatMap brwC) :: rOwn w0.heap.size 166 1 (.slice (some ⟨gP, 0, none⟩) m cp) m (ps.flatMap (fun x => [ptvV x])) :: dskL gd m1 n1 m2 n2 L D []) ∧ W.cell? ⟨gR, (O.length - 1) * 5, none⟩ = some (.int .i64 yr) := ⟨_, rfl, (by rw [← hol]; exact HS6.out.drew), Y0.out⟩
          rw [← hw7]
          unfold dskL at hS7
          clear hw7 HS6 Y0 HSP
          clear hbe
          go_wp2_with fail
          clear y7
          have hSA := ((hS7.front 1 rfl rfl).add #[.int .i64 yr, .int .i64 tm, .string id, .string who, .int .i64 dt] 80).drew
          have hSAf := hSA.front 1 rfl rfl
          have HO5 : World.ownsRow _ w0.heap.size 80 5 (.slice (some ⟨gR, 0, none⟩) (O.length) c) (O.length) (((o1 ++ [(⟨yr, yt, yi, yw, yd⟩ : Brw)])).flatMap brwC) := hSAf.head
          have hLit := (hSA.nth 0 rfl : Blk _ w7.heap.size 80 #[.int .i64 yr, .int .i64 tm, .string id, .string who, .int .i64 dt])
          obtain ⟨v8, w8, hrun, hown8, hgrow8, _, hblk8⟩ := run_append_own_at (P := Tryz.prog) _ w0.heap.size 83 83 80 i0 (.agg #[.int .i64 0, .int .i64 0, .string ⟨#[]⟩, .string ⟨#[]⟩, .int .i64 0]) 5 56 Tryz.underlying83 hi hz0 hz1 hz2 rfl (by decide) (.slice (some ⟨gR, 0, none⟩) (O.length) c) (O.length) (((o1 ++ [(⟨yr, yt, yi, yw, yd⟩ : Brw)])).flatMap brwC) HO5 ⟨w7.heap.size, 0, none⟩ 1 1 [.int .i64 yr, .int .i64 tm, .string id, .string who, .int .i64 dt] rfl (World.news_of_block hLit) (by intro u hu; simp only [List.mem_cons, List.not_mem_nil, or_false] at hu; rcases hu with rfl | rfl | rfl | rfl | rfl <;> rfl) (by unfold maxLen; omega) (by omega) hSA.size
          have hS9 := hSAf.append hown8 hgrow8 hblk8
          obtain ⟨A8, c8, hv8⟩ := own_form hown8
          subst hv8
          have HG : ∀ (W : World), Blk W g 168 #[.int .i64 at_, .int .i64 kd, .string id, .string who, .string by1, .string ct, .int .i64 tm, .int .i64 dt, .string (hwV kk)] → W.cell? ⟨g, 2, none⟩ = some (.string id) ∧ W.cell? ⟨g, 3, none⟩ = some (.string who) ∧ W.cell? ⟨g, 6, none⟩ = some (.int .i64 tm) ∧ W.cell? ⟨g, 7, none⟩ = some (.int .i64 dt) := fun W b => ⟨b.cell 2, b.cell 3, b.cell 6, b.cell 7⟩
          have P1 : w7.drew.cell? ⟨g, 2, none⟩ = some (.string id) ∧ w7.drew.cell? ⟨g, 3, none⟩ = some (.string who) ∧ w7.drew.cell? ⟨g, 6, none⟩ = some (.int .i64 tm) ∧ w7.drew.cell? ⟨g, 7, none⟩ = some (.int .i64 dt) := HG _ ((show ∀ a ∈ L, (rRun a).P w7.drew from hS7.drew.nth 6 rfl) _ hmem)
          have P2 : (w7.alloc (.cells #[.int .i64 yr, .int .i64 tm, .string id, .string who, .int .i64 dt] 80)).drew.cell? ⟨g, 2, none⟩ = some (.string id) ∧ (w7.alloc (.cells #[.int .i64 yr, .int .i64 tm, .string id, .string who, .int .i64 dt] 80)).drew.cell? ⟨g, 3, none⟩ = some (.string who) ∧ (w7.alloc (.cells #[.int .i64 yr, .int .i64 tm, .string id, .string who, .int .i64 dt] 80)).drew.cell? ⟨g, 6, none⟩ = some (.int .i64 tm) ∧ (w7.alloc (.cells #[.int .i64 yr, .int .i64 tm, .string id, .string who, .int .i64 dt] 80)).drew.cell? ⟨g, 7, none⟩ = some (.int .i64 dt) := HG _ ((show ∀ a ∈ L, (rRun a).P _ from hSA.nth 7 rfl) _ hmem)
          have P3 : w8.cell? ⟨g, 2, none⟩ = some (.string id) ∧ w8.cell? ⟨g, 3, none⟩ = some (.string who) ∧ w8.cell? ⟨g, 6, none⟩ = some (.int .i64 tm) ∧ w8.cell? ⟨g, 7, none⟩ = some (.int .i64 dt) := HG _ ((show ∀ a ∈ L, (rRun a).P w8 from hS9.nth 7 rfl) _ hmem)
          have hST2 : Hid (List.foldl stR [] (O ++ [(⟨at_, kd, id, who, by1, ct, tm, dt⟩ : Bev)]) = (o1 ++ [(⟨yr, yt, yi, yw, yd⟩ : Brw)]) ++ [(⟨yr, tm, id, who, dt⟩ : Brw)]) := Lib.hid (by
           rw [List.foldl_append, HOUT.out]
           show stR _ _ = _
           unfold stR
           rw [HRK.out])
          have hS10 := (hS9.drop 1 rfl rfl)
          clear HO5 hLit hown8 hgrow8 hblk8 hSA hSAf hS9 hS7 HG
          go_region_held3 (fun W => W.cell? ⟨g, 2, none⟩ = some (.string id) ∧ W.cell? ⟨g, 3, none⟩ = some (.string who) ∧ W.cell? ⟨g, 6, none⟩ = some (.int .i64 tm) ∧ W.cell? ⟨g, 7, none⟩ = some (.int .i64 dt))
           (first | with_reducible exact P1 | with_reducible exact P2 | with_reducible exact P3 | exact P2 | exact P3)
           (first | (refine oper_app_run _ _ 83 rfl rfl rfl hrun ?_))
          go_wp2_with fail
          go_roundw
          case rel => exact ⟨k + 1, A8, c8, ns + 1, O ++ [⟨at_, kd, id, who, by1, ct, tm, dt⟩], (o1 ++ [(⟨yr, yt, yi, yw, yd⟩ : Brw)]) ++ [(⟨yr, tm, id, who, dt⟩ : Brw)], by omega, by go_num, by omega, by simp; omega, by (simp only [List.length_append, List.length_cons, List.length_nil] at hol ⊢; omega), by rw [List.length_append, hol]; rfl, Lib.hid (by rw [HST.out, hs2]), hST2, by
           rw [List.flatMap_append, List.length_append, hol]
           exact hS10⟩
          case measure => simp [intOf]; omega
        · have hbe : (yt == tm) = false := by simpa using hyt
          have hrk : rkP (o1 ++ [(⟨yr, yt, yi, yw, yd⟩ : Brw)]) tm = (O.length : Int) + 1 := by
           unfold rkP
           rw [List.getLast?_concat]
           simp only
           rw [if_neg hyt, List.length_append]
           simp only [List.length_cons, List.length_nil]
           rw [List.length_append] at hol2 hol
           simp only [List.length_cons, List.length_nil] at hol2 hol
           omega
          have HRK := Lib.hid hrk
          clear hrk hyt
          go_upto_region 10 with (fail)
          refine wp_region_held_drew (S := (fun W => W.cell? ⟨gR, q * 5 + 1, none⟩ = some (.int .i64 yt) ∧ W.cell? ⟨g, 6, none⟩ = some (.int .i64 tm))) (by kernel_rfl) HSP.out (fun hHeld => ?_)
          refine tkY 0 (.int .i64 (q : Int)) rfl hHeld ?_
          refine tkY 1 (.bool true) rfl hHeld ?_
          refine tkY 2 (.bool true) rfl hHeld ?_
          refine tkY 3 (.slice (some ⟨gR, 0, none⟩) (q + 1) c) rfl hHeld ?_
          refine tkY 4 (.int .i64 (q : Int)) rfl hHeld ?_
          refine tkY 5 (.pointer (some ⟨gR, q * 5, none⟩)) rfl hHeld ?_
          refine tkY 6 (.pointer (some ⟨gR, q * 5 + 1, none⟩)) rfl hHeld ?_
          refine tkY 7 (.int .i64 yt) rfl hHeld ?_
          refine tkY 8 (.pointer (some ⟨g, 0, none⟩)) rfl hHeld ?_
          refine tkY 9 (.pointer (some ⟨g, 0, none⟩)) rfl hHeld ?_
          refine tkY 10 (.pointer (some ⟨g, 0, none⟩)) rfl hHeld ?_
          refine tkY 11 (.pointer (some ⟨g, 6, none⟩)) rfl hHeld ?_
          refine tkY 12 (.int .i64 tm) rfl hHeld ?_
          refine tkY 13 (.bool false) rfl hHeld ?_
          refine tkY 14 (.bool false) rfl hHeld ?_
          refine wpAnyH_done (by kernel_rfl) ?_ _
          obtain ⟨w7, hw7, hS7, y7⟩ : ∃ W, W = w6.drew ∧ Sq w0 W (rMap 9 ms (ns + 1) (wF (O ++ [⟨at_, kd, id, who, by1, ct, tm, dt⟩])) :: rOwn w0.heap.size 80 5 (.slice (some ⟨gR, 0, none⟩) O.length c) O.length (((o1 ++ [(⟨yr, yt, yi, yw, yd⟩ : Brw)])).flatMap brwC) :: rOwn w0.heap.size 166 1 (.slice (some ⟨gP, 0, none⟩) m cp) m (ps.flatMap (fun x => [ptvV x])) :: dskL gd m1 n1 m2 n2 L D []) ∧ W.cell? ⟨gR, (O.length - 1) * 5, none⟩ = some (.int .i64 yr) := ⟨_, rfl, (by rw [← hol]; exact HS6.out.drew), Y0.out⟩
          rw [← hw7]
          unfold dskL at hS7
          clear hw7 HS6 Y0 HSP
          clear hbe
          go_wp2_with fail
          clear y7
          have hSA := ((hS7.front 1 rfl rfl).add #[.int .i64 ((O.length : Int) + 1), .int .i64 tm, .string id, .string who, .int .i64 dt] 80).drew
          have hSAf := hSA.front 1 rfl rfl
          have HO5 : World.ownsRow _ w0.heap.size 80 5 (.slice (some ⟨gR, 0, none⟩) (O.length) c) (O.length) (((o1 ++ [(⟨yr, yt, yi, yw, yd⟩ : Brw)])).flatMap brwC) := hSAf.head
          have hLit := (hSA.nth 0 rfl : Blk _ w7.heap.size 80 #[.int .i64 ((O.length : Int) + 1), .int .i64 tm, .string id, .string who, .int .i64 dt])
          obtain ⟨v8, w8, hrun, hown8, hgrow8, _, hblk8⟩ := run_append_own_at (P := Tryz.prog) _ w0.heap.size 83 83 80 i0 (.agg #[.int .i64 0, .int .i64 0, .string ⟨#[]⟩, .string ⟨#[]⟩, .int .i64 0]) 5 56 Tryz.underlying83 hi hz0 hz1 hz2 rfl (by decide) (.slice (some ⟨gR, 0, none⟩) (O.length) c) (O.length) (((o1 ++ [(⟨yr, yt, yi, yw, yd⟩ : Brw)])).flatMap brwC) HO5 ⟨w7.heap.size, 0, none⟩ 1 1 [.int .i64 ((O.length : Int) + 1), .int .i64 tm, .string id, .string who, .int .i64 dt] rfl (World.news_of_block hLit) (by intro u hu; simp only [List.mem_cons, List.not_mem_nil, or_false] at hu; rcases hu with rfl | rfl | rfl | rfl | rfl <;> rfl) (by unfold maxLen; omega) (by omega) hSA.size
          have hS9 := hSAf.append hown8 hgrow8 hblk8
          obtain ⟨A8, c8, hv8⟩ := own_form hown8
          subst hv8
          have HG : ∀ (W : World), Blk W g 168 #[.int .i64 at_, .int .i64 kd, .string id, .string who, .string by1, .string ct, .int .i64 tm, .int .i64 dt, .string (hwV kk)] → W.cell? ⟨g, 2, none⟩ = some (.string id) ∧ W.cell? ⟨g, 3, none⟩ = some (.string who) ∧ W.cell? ⟨g, 6, none⟩ = some (.int .i64 tm) ∧ W.cell? ⟨g, 7, none⟩ = some (.int .i64 dt) := fun W b => ⟨b.cell 2, b.cell 3, b.cell 6, b.cell 7⟩
          have P1 : w7.drew.cell? ⟨g, 2, none⟩ = some (.string id) ∧ w7.drew.cell? ⟨g, 3, none⟩ = some (.string who) ∧ w7.drew.cell? ⟨g, 6, none⟩ = some (.int .i64 tm) ∧ w7.drew.cell? ⟨g, 7, none⟩ = some (.int .i64 dt) := HG _ ((show ∀ a ∈ L, (rRun a).P w7.drew from hS7.drew.nth 6 rfl) _ hmem)
          have P2 : (w7.alloc (.cells #[.int .i64 ((O.length : Int) + 1), .int .i64 tm, .string id, .string who, .int .i64 dt] 80)).drew.cell? ⟨g, 2, none⟩ = some (.string id) ∧ (w7.alloc (.cells #[.int .i64 ((O.length : Int) + 1), .int .i64 tm, .string id, .string who, .int .i64 dt] 80)).drew.cell? ⟨g, 3, none⟩ = some (.string who) ∧ (w7.alloc (.cells #[.int .i64 ((O.length : Int) + 1), .int .i64 tm, .string id, .string who, .int .i64 dt] 80)).drew.cell? ⟨g, 6, none⟩ = some (.int .i64 tm) ∧ (w7.alloc (.cells #[.int .i64 ((O.length : Int) + 1), .int .i64 tm, .string id, .string who, .int .i64 dt] 80)).drew.cell? ⟨g, 7, none⟩ = some (.int .i64 dt) := HG _ ((show ∀ a ∈ L, (rRun a).P _ from hSA.nth 7 rfl) _ hmem)
          have P3 : w8.cell? ⟨g, 2, none⟩ = some (.string id) ∧ w8.cell? ⟨g, 3, none⟩ = some (.string who) ∧ w8.cell? ⟨g, 6, none⟩ = some (.int .i64 tm) ∧ w8.cell? ⟨g, 7, none⟩ = some (.int .i64 dt) := HG _ ((show ∀ a ∈ L, (rRun a).P w8 from hS9.nth 7 rfl) _ hmem)
          have hST2 : Hid (List.foldl stR [] (O ++ [(⟨at_, kd, id, who, by1, ct, tm, dt⟩ : Bev)]) = (o1 ++ [(⟨yr, yt, yi, yw, yd⟩ : Brw)]) ++ [(⟨((O.length : Int) + 1), tm, id, who, dt⟩ : Brw)]) := Lib.hid (by
           rw [List.foldl_append, HOUT.out]
           show stR _ _ = _
           unfold stR
           rw [HRK.out])
          have hS10 := (hS9.drop 1 rfl rfl)
          clear HO5 hLit hown8 hgrow8 hblk8 hSA hSAf hS9 hS7 HG
          go_region_held3 (fun W => W.cell? ⟨g, 2, none⟩ = some (.string id) ∧ W.cell? ⟨g, 3, none⟩ = some (.string who) ∧ W.cell? ⟨g, 6, none⟩ = some (.int .i64 tm) ∧ W.cell? ⟨g, 7, none⟩ = some (.int .i64 dt))
           (first | with_reducible exact P1 | with_reducible exact P2 | with_reducible exact P3 | exact P2 | exact P3)
           (first | (refine oper_app_run _ _ 83 rfl rfl rfl hrun ?_))
          go_wp2_with fail
          go_roundw
          case rel => exact ⟨k + 1, A8, c8, ns + 1, O ++ [⟨at_, kd, id, who, by1, ct, tm, dt⟩], (o1 ++ [(⟨yr, yt, yi, yw, yd⟩ : Brw)]) ++ [(⟨((O.length : Int) + 1), tm, id, who, dt⟩ : Brw)], by omega, by go_num, by omega, by simp; omega, by (simp only [List.length_append, List.length_cons, List.length_nil] at hol ⊢; omega), by rw [List.length_append, hol]; rfl, Lib.hid (by rw [HST.out, hs2]), hST2, by
           rw [List.flatMap_append, List.length_append, hol]
           exact hS10⟩
          case measure => simp [intOf]; omega
    · have hs2 : stW O ⟨at_, kd, id, who, by1, ct, tm, dt⟩ = O := by unfold stW; rw [if_pos hSn]
      clear hSn
      go_wp2_with fail
      go_roundw
      case rel => exact ⟨k + 1, A, c, ns, O, out, by omega, by go_num, by omega, by omega, hol, rfl, Lib.hid (by rw [HST.out, hs2]), HOUT, hS⟩
      case measure => simp [intOf]; omega
  · obtain rfl : k = m := by omega
    have HFI : Hid (RwD gd m1 m2 n1 n2 L D cat w0 (.returned (.slice A out.length c)) wo) := Lib.hid (by
     have hO := HO.out
     rw [List.take_of_length_le (by rw [List.length_map, HM.out]; exact Nat.le_refl _)] at hO
     have e : rowsB (ps.map (·.2)) = out := by rw [← rowsB_fold HY.out.2, hO]; exact HOUT.out
     refine ⟨A, c, ps.map (·.2), HY.out, by rw [e], ?_⟩
     rw [e]
     exact (hS.drop 2 rfl rfl).drop 1 rfl rfl)
    clear hS
    obtain ⟨q, hq⟩ : ∃ q, out.length = q := ⟨_, rfl⟩
    rw [hq] at HFI ⊢
    clear hq
    go_wp2_with fail
    go_ret
    exact HFI.out
end Go.Proofs.YtapgnaimbgjcnaaGreatDoor
