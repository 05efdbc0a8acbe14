/-
  board.history by its contract. (Printed by gen_hs2.py.)
-/
import Derived.Test.YtapgnaimbgjcnaaGreatDoorZSortEv
import Derived.Test.YtapgnaimbgjcnaaGreatDoorZTk
import Derived.Test.YtapgnaimbgjcnaaGreatDoorZDk5
import Derived.Test.YtapgnaimbgjcnaaGreatDoorZEv1W
namespace Go.Proofs.YtapgnaimbgjcnaaGreatDoor
open Go Go.RowKit Go.Sort
theorem run_maxH {P : Program} {w : World} (ts : Array TypeId) (t : TypeId) (k k' : IntKind) (x y : Int) : (Builtin.max_ ts t #[.int k x, .int k' y]).run P w = .ok (.int k (max x y)) w := by
 rw [run_max_int2, show (if y > x then y else x) = max x y by split <;> omega]
attribute [local go_sem ↓] Go.wp_at_zero Go.wp_at_succ run_maxH
theorem info_rgn : (Tryz.prog.info? 50).map (fun i => (i.zero, i.size, i.bytes)) = some (some (.agg #[.string ⟨#[]⟩, .string ⟨#[]⟩, .int .i64 0, .int .i64 0, .int .i64 0]), 5, 56) := by kernel_rfl
theorem sortHis_calls (gd m1 m2 n1 n2 m cp : Nat) (L : List Rpt) (D : Dsk) (Ap : Option Addr) (ps : List Ptv) (w0 w : World) (hm : ps.length = m) (hz : m ≤ 3000) (hP : ∀ p ∈ ps, ∃ k, (p.1, (p.2, k)) ∈ L) (hS : Sq w0 w (rOwn w0.heap.size 166 1 (.slice Ap m cp) m (ps.flatMap (fun x => [ptvV x])) :: dskL gd m1 n1 m2 n2 L D [])) :
 Calls Tryz.prog 113 #[.slice Ap m cp, .func (.func 114) #[] #[]] w (fun e w' => e = .returned (.tuple #[]) ∧ ∃ zs : List Ptv, zs.Perm ps ∧ zs.Pairwise (fun a b => 0 ≤ cmpH b.2 a.2) ∧ Sq w0 w' (rOwn w0.heap.size 166 1 (.slice Ap m cp) m (zs.flatMap (fun x => [ptvV x])) :: dskL gd m1 n1 m2 n2 L D [])) := by
 by_cases h0 : m = 0
 · subst h0
   have hp0 := List.length_eq_zero_iff.1 hm
   subst hp0
   refine (sortRunH_none w Ap cp).mono ?_
   rintro e w' ⟨rfl, rfl⟩
   exact ⟨rfl, [], List.Perm.refl _, List.Pairwise.nil, hS⟩
 · obtain ⟨g, hA⟩ := own_ptr (hS.head : World.ownsRow _ _ _ _ _ _ _) (by omega)
   subst hA
   have hruns : ∀ x ∈ ps, RunAt w x ∧ x.1 < w.heap.size ∧ x.1 ≠ g := fun x hx => by
    obtain ⟨k, hk⟩ := hP x hx
    unfold dskL at hS
    have hall : ∀ a ∈ L, (rRun a).P w := hS.nth 4 rfl
    have hb : Blk w x.1 168 (runC (x.2, k)).toArray := hall _ hk
    refine ⟨fun V hV => ?_, hb.lt, fun e => ?_⟩
    · have hb2 : Blk V x.1 168 (runC (x.2, k)).toArray := Eq.trans hV hb
      exact ⟨hb2.cell 2, hb2.cell 6, hb2.cell 7⟩
    · have h1 := (List.pairwise_cons.1 hS.hp.apart).1 (rAll rRun L) (by simp)
      exact h1 g rfl ⟨_, hk, e.symm⟩
   refine (sortRunH_calls w0 w g m cp ps _ (by omega) hruns (by omega) hS).mono ?_
   rintro e w' ⟨rfl, zs, h1, h2, h3⟩
   exact ⟨rfl, zs, h1, h2, h3⟩
def HisR (l : List Bev) (cat : ByteArray) (u : Int) (w : World) (e : Ending) (w' : World) : Prop :=
 ∃ (A : Option Addr) (c : Nat) (ys : List Bev), SbdH (folE l u).1 cat ys ∧ e = .returned (.slice A (hisF u ys).length c) ∧ Sq w w' [rOwn w.heap.size 50 5 (.slice A (hisF u ys).length c) (hisF u ys).length ((hisF u ys).flatMap rgnC)]
theorem hisF_step (u : Int) (ys : List Bev) (k : Nat) (hk : k < ys.length) : hisF u (ys.take (k + 1)) = stH u (hisF u (ys.take k)) ys[k] := by
 rw [List.take_succ_eq_append_getElem hk]
 unfold hisF
 rw [List.foldl_append]
 rfl
theorem stH_len (u : Int) (out : List Rgn) (r : Bev) : (stH u out r).length ≤ out.length + 1 := by
 unfold stH
 split
 · rename_i o ho
   split
   · omega
   · have : out ≠ [] := fun e => by subst e; cases ho
     have := List.length_pos_iff.2 this
     simp
     omega
 · simp
set_option maxRecDepth 100000 in
set_option maxHeartbeats 8000000 in
theorem history_calls (b : Nat) (A : Option Addr) (n c : Nat) (l : List Bev) (u : Int) (cat : ByteArray) (w : World) (hr : Rd w b 8 (.slice A n c) n (l.flatMap bevC)) (hk : ∀ x ∈ l, EvK x) (hn : n ≤ 3000) :
 Calls Tryz.prog 57 #[.slice A n c, .string cat, .int .i64 u] w (HisR l cat u w) := by
 obtain ⟨i0, hi, hz0, hz1, hz2⟩ := info_parts info_rgn
 obtain ⟨hl, _, _, _⟩ := hr.cells bevC_len (by omega)
 have hz : (folE l u).1.rn.length ≤ 3000 := by
  have h := (fol_cnt l u l.length (Nat.le_refl _)).1
  rw [List.take_length] at h
  omega
 have HL : Hid (l.length ≤ 3000) := Lib.hid (by omega)
 have HAT := Lib.hid (atD_calls b A n c l u w hr hk hn)
 have HZ := Lib.hid hz
 clear hr hk hl hz
 go_enter Tryz.func57, Tryz.ntmps57
 go_wp2_with fail
 refine HAT.out.mono ?_
 rintro e w2 ⟨gd, m1, m2, n1, n2, L, rfl, h1, h2, h3, h4, h5⟩
 have HOB := Lib.hid (onBoardD_calls gd m1 m2 n1 n2 L _ [] cat w w2 h2 h1 HZ.out h5)
 clear h1 h2 h3 h4 h5 HAT
 go_wp2_with fail
 refine HOB.out.mono ?_
 rintro e w3 ⟨Ap, cp, ps, rfl, hY, hPL, hS3⟩
 have hmz : ps.length ≤ 3000 := by have h1 := HL.out; have h2 := sbd_len hY; rw [List.length_map] at h2; omega
 obtain ⟨m, hm⟩ : ∃ m, ps.length = m := ⟨_, rfl⟩
 rw [hm] at hS3 hmz ⊢
 have HSO := Lib.hid (sortHis_calls gd m1 m2 n1 n2 m cp L _ Ap ps w w3 hm hmz hPL hS3)
 have HY := Lib.hid hY
 have HPL := Lib.hid hPL
 have HM0 := Lib.hid hm
 clear hS3 hY hPL hm HOB
 go_wp2_with fail
 refine HSO.out.mono ?_
 rintro e w4 ⟨rfl, zs, hzp, hzs, hS4⟩
 have HYH : Hid (SbdH (folE l u).1 cat (zs.map (·.2))) := Lib.hid ⟨(hzp.map _).trans HY.out.1, by rw [List.pairwise_map]; exact hzs⟩
 have HPZ : Hid (∀ p ∈ zs, ∃ k, (p.1, (p.2, k)) ∈ L) := Lib.hid (fun p hp => HPL.out p (hzp.mem_iff.1 hp))
 have HM : Hid (zs.length = m) := Lib.hid (by rw [hzp.length_eq]; exact HM0.out)
 have HAP : Hid (0 < m → ∃ g, Ap = some ⟨g, 0, none⟩) := Lib.hid (fun h0 => own_ptr (hS4.head : World.ownsRow _ _ _ _ _ _ _) h0)
 have hS5 := hS4.nil w.heap.size 50 5
 clear hzp hzs hS4 HSO HY HPL HM0
 go_wp2_with fail
 go_loopw [8, 21] (fun s8 s21 wr => ∃ (k : Nat) (A : Option Addr) (c : Nat) (out : List Rgn), k ≤ m ∧ s21 = .int .i64 k ∧ out.length ≤ k ∧ s8 = .slice A out.length c ∧ Hid (hisF u ((zs.map (·.2)).take k) = out) ∧ Sq w wr (rOwn w.heap.size 50 5 (.slice A out.length c) out.length (out.flatMap rgnC) :: rOwn w.heap.size 166 1 (.slice Ap m cp) m (zs.flatMap (fun x => [ptvV x])) :: dskL gd m1 n1 m2 n2 L (folE l u).1 [])) (fun _ s21 _ => m - (intOf s21).toNat)
 case atStart => exact ⟨0, none, 0, [], Nat.zero_le _, rfl, Nat.le_refl _, rfl, Lib.hid rfl, hS5⟩
 case round =>
  clear hS5
  obtain ⟨k, A, c, out, hk, rfl, hO, rfl, HOUT, hS⟩ := hrel
  obtain ⟨wo, hwo⟩ : ∃ z, z = wr := ⟨_, rfl⟩
  subst hwo
  by_cases hlt : k < m
  · obtain ⟨gP, hgP⟩ := HAP.out (by omega)
    subst hgP
    have hkp : k < zs.length := by rw [HM.out]; exact hlt
    have hown : wo.ownsRow w.heap.size 166 1 (.slice (some ⟨gP, 0, none⟩) m cp) m (zs.flatMap (fun x => [ptvV x])) := hS.nth 1 rfl
    have hcp := own_cell (fun x => [ptvV x]) 1 (fun _ => rfl) hown k 0 hkp hlt (by omega)
    rw [Nat.mul_one, Nat.add_zero] at hcp
    have hst := hisF_step u (zs.map (·.2)) k (by rw [List.length_map]; exact hkp)
    rw [HOUT.out, List.getElem_map] at hst
    obtain ⟨⟨g, at_, kd, id, who, by1, ct, tm, dt⟩, hx⟩ : ∃ x, zs[k] = x := ⟨_, rfl⟩
    rw [hx] at hcp hst
    replace hcp : wo.cell? ⟨gP, k, none⟩ = some (.pointer (some ⟨g, 0, none⟩)) := hcp
    obtain ⟨kk, hmem⟩ := HPZ.out zs[k] (List.getElem_mem hkp)
    rw [hx] at hmem
    simp only at hst hmem
    have HST := Lib.hid hst
    unfold dskL at hS
    have hall : ∀ a ∈ L, (rRun a).P wo := hS.nth 5 rfl
    have hb : Blk wo g 168 #[.int .i64 at_, .int .i64 kd, .string id, .string who, .string by1, .string ct, .int .i64 tm, .int .i64 dt, .string (hwV kk)] := hall _ hmem
    have b6 := hb.cell 6
    have b7 := hb.cell 7
    have hk0 : (0 : Int) ≤ (k : Int) := by omega
    have hk1 : (k : Int) < (m : Int) := by omega
    clear hst hx hall hown
    rcases List.eq_nil_or_concat out with rfl | ⟨o1, y, rfl⟩
    · have HST2 : Hid (hisF u ((zs.map (·.2)).take (k + 1)) = ([] : List Rgn) ++ [(⟨id, who, tm, dt, max u dt⟩ : Rgn)]) := Lib.hid HST.out
      clear HST b6 b7 hb
      go_upto_region 8 with (fail)
      refine wp_region_held_drew (S := (fun _ => True)) (by kernel_rfl) trivial (fun hHeld => ?_)
      refine tkY 0 (.int .i64 (-1)) rfl hHeld ?_
      refine tkY 1 (.bool false) rfl hHeld ?_
      refine tkY 2 (.bool false) rfl hHeld ?_
      refine tkN 3 rfl hHeld ?_
      refine tkN 4 rfl hHeld ?_
      refine tkN 5 rfl hHeld ?_
      refine tkN 6 rfl hHeld ?_
      refine tkN 7 rfl hHeld ?_
      refine tkN 8 rfl hHeld ?_
      refine tkN 9 rfl hHeld ?_
      refine tkN 10 rfl hHeld ?_
      refine tkN 11 rfl hHeld ?_
      refine tkN 12 rfl hHeld ?_
      refine tkN 13 rfl hHeld ?_
      refine tkY 14 (.bool false) rfl hHeld ?_
      refine wpAnyH_done (by kernel_rfl) ?_ _
      obtain ⟨w7, hw7, hS7⟩ : ∃ W, W = wo.drew ∧ Sq w W (rOwn w.heap.size 50 5 (.slice A (0) c) (0) ((([] : List Rgn)).flatMap rgnC) :: rOwn w.heap.size 166 1 (.slice (some ⟨gP, 0, none⟩) m cp) m (zs.flatMap (fun x => [ptvV x])) :: dskL gd m1 n1 m2 n2 L (folE l u).1 []) := ⟨_, rfl, hS.drew⟩
      rw [← hw7]
      unfold dskL at hS7
      clear hw7 hS
      go_wp2_with fail
      have hSA := (hS7.add #[.string id, .string who, .int .i64 tm, .int .i64 dt, .int .i64 (max u dt)] 50).drew
      have hSAf := hSA.front 1 rfl rfl
      have HO5 : World.ownsRow _ w.heap.size 50 5 (.slice A (0) c) (0) ((([] : List Rgn)).flatMap rgnC) := hSAf.head
      have hLit := (hSA.nth 0 rfl : Blk _ w7.heap.size 50 #[.string id, .string who, .int .i64 tm, .int .i64 dt, .int .i64 (max u dt)])
      obtain ⟨v8, w8, hrun, hown8, hgrow8, _, hblk8⟩ := run_append_own_at (P := Tryz.prog) _ w.heap.size 31 31 50 i0 (.agg #[.string ⟨#[]⟩, .string ⟨#[]⟩, .int .i64 0, .int .i64 0, .int .i64 0]) 5 56 Tryz.underlying31 hi hz0 hz1 hz2 rfl (by decide) (.slice A (0) c) (0) ((([] : List Rgn)).flatMap rgnC) HO5 ⟨w7.heap.size, 0, none⟩ 1 1 [.string id, .string who, .int .i64 tm, .int .i64 dt, .int .i64 (max u dt)] rfl (World.news_of_block hLit) (by intro v hv; simp only [List.mem_cons, List.not_mem_nil, or_false] at hv; rcases hv with rfl | rfl | rfl | rfl | rfl <;> rfl) (by unfold maxLen; omega) (by omega) hSA.size
      have hS9 := hSAf.append hown8 hgrow8 hblk8
      obtain ⟨A8, c8, hv8⟩ := own_form hown8
      subst hv8
      have HG : ∀ (W : World), Blk W g 168 #[.int .i64 at_, .int .i64 kd, .string id, .string who, .string by1, .string ct, .int .i64 tm, .int .i64 dt, .string (hwV kk)] → W.cell? ⟨g, 2, none⟩ = some (.string id) ∧ W.cell? ⟨g, 3, none⟩ = some (.string who) ∧ W.cell? ⟨g, 6, none⟩ = some (.int .i64 tm) ∧ W.cell? ⟨g, 7, none⟩ = some (.int .i64 dt) := fun W b => ⟨b.cell 2, b.cell 3, b.cell 6, b.cell 7⟩
      have P1 : w7.drew.cell? ⟨g, 2, none⟩ = some (.string id) ∧ w7.drew.cell? ⟨g, 3, none⟩ = some (.string who) ∧ w7.drew.cell? ⟨g, 6, none⟩ = some (.int .i64 tm) ∧ w7.drew.cell? ⟨g, 7, none⟩ = some (.int .i64 dt) := HG _ ((show ∀ a ∈ L, (rRun a).P w7.drew from hS7.drew.nth 5 rfl) _ hmem)
      have P2 : (w7.alloc (.cells #[.string id, .string who, .int .i64 tm, .int .i64 dt, .int .i64 (max u dt)] 50)).drew.cell? ⟨g, 2, none⟩ = some (.string id) ∧ (w7.alloc (.cells #[.string id, .string who, .int .i64 tm, .int .i64 dt, .int .i64 (max u dt)] 50)).drew.cell? ⟨g, 3, none⟩ = some (.string who) ∧ (w7.alloc (.cells #[.string id, .string who, .int .i64 tm, .int .i64 dt, .int .i64 (max u dt)] 50)).drew.cell? ⟨g, 6, none⟩ = some (.int .i64 tm) ∧ (w7.alloc (.cells #[.string id, .string who, .int .i64 tm, .int .i64 dt, .int .i64 (max u dt)] 50)).drew.cell? ⟨g, 7, none⟩ = some (.int .i64 dt) := HG _ ((show ∀ a ∈ L, (rRun a).P _ from hSA.nth 6 rfl) _ hmem)
      have P3 : w8.cell? ⟨g, 2, none⟩ = some (.string id) ∧ w8.cell? ⟨g, 3, none⟩ = some (.string who) ∧ w8.cell? ⟨g, 6, none⟩ = some (.int .i64 tm) ∧ w8.cell? ⟨g, 7, none⟩ = some (.int .i64 dt) := HG _ ((show ∀ a ∈ L, (rRun a).P w8 from hS9.nth 6 rfl) _ hmem)
      have hS10 := (hS9.drop 1 rfl rfl)
      clear HO5 hLit hown8 hgrow8 hblk8 hSA hSAf hS9 hS7 HG
      go_region_held3 (fun W => W.cell? ⟨g, 2, none⟩ = some (.string id) ∧ W.cell? ⟨g, 3, none⟩ = some (.string who) ∧ W.cell? ⟨g, 6, none⟩ = some (.int .i64 tm) ∧ W.cell? ⟨g, 7, none⟩ = some (.int .i64 dt))
       (first | with_reducible exact P1 | with_reducible exact P2 | with_reducible exact P3 | exact P2 | exact P3)
       (first | (refine oper_app_run _ _ 31 rfl rfl rfl hrun ?_))
      go_wp2_with fail
      go_roundw
      case rel => exact ⟨k + 1, A8, c8, ([] : List Rgn) ++ [(⟨id, who, tm, dt, max u dt⟩ : Rgn)], by omega, by go_num, by (simp only [List.length_append, List.length_cons, List.length_nil]; omega), by rw [List.length_append]; first | rfl | (rw [hol2]; rfl), HST2, by
       rw [List.flatMap_append, List.length_append]
       first | exact hS10 | (rw [hol2]; exact hS10)⟩
      case measure => simp [intOf]; omega
    · obtain ⟨⟨yi, yw, yt, yf, yo⟩, hyE⟩ : ∃ z, y = z := ⟨_, rfl⟩
      subst hyE
      rw [List.concat_eq_append] at *
      obtain ⟨q, hq⟩ : ∃ q, o1.length = q := ⟨_, rfl⟩
      have hol : (o1 ++ [(⟨yi, yw, yt, yf, yo⟩ : Rgn)]).length = q + 1 := by simp [hq]
      have hol2 : (o1 ++ [(⟨yi, yw, yt, yf, dt⟩ : Rgn)]).length = q + 1 := by simp [hq]
      rw [hol] at hS hO ⊢
      obtain ⟨gR, hgR⟩ := own_ptr (hS.head : World.ownsRow _ _ _ _ _ _ _) (by omega)
      subst hgR
      have hown6 : wo.ownsRow w.heap.size 50 5 (.slice (some ⟨gR, 0, none⟩) (q + 1) c) (q + 1) ((o1 ++ [(⟨yi, yw, yt, yf, yo⟩ : Rgn)]).flatMap rgnC) := hS.head
      have hy : (o1 ++ [(⟨yi, yw, yt, yf, yo⟩ : Rgn)])[q]'(by omega) = (⟨yi, yw, yt, yf, yo⟩ : Rgn) := by subst hq; simp
      have y2 := own_cell rgnC 5 rgnC_len hown6 q 2 (by omega) (by omega) (by omega)
      have y4 := own_cell rgnC 5 rgnC_len hown6 q 4 (by omega) (by omega) (by omega)
      have f4 : wo.drew.frozen? ⟨gR, q * 5 + 4, none⟩ = false := hown6.frozenAt _
      rw [hy] at y2 y4
      replace y2 : wo.drew.cell? ⟨gR, q * 5 + 2, none⟩ = some (.int .i64 yt) := y2
      replace y4 : wo.drew.cell? ⟨gR, q * 5 + 4, none⟩ = some (.int .i64 yo) := y4
      replace b6 : wo.drew.cell? ⟨g, 6, none⟩ = some (.int .i64 tm) := b6
      replace b7 : wo.drew.cell? ⟨g, 7, none⟩ = some (.int .i64 dt) := b7
      have HSP : Hid (wo.drew.cell? ⟨gR, q * 5 + 2, none⟩ = some (.int .i64 yt) ∧ wo.drew.cell? ⟨g, 6, none⟩ = some (.int .i64 tm)) := Lib.hid ⟨y2, b6⟩
      have hq0 : (0 : Int) ≤ (q : Int) := by omega
      have hq1 : (q : Int) < (q : Int) + 1 := by omega
      have HS := Lib.hid hS
      have HQ := Lib.hid hq
      have HOL := Lib.hid hol
      have HOL2 := Lib.hid hol2
      clear hown6 hy hS hb hol hol2 hq y2 b6
      by_cases hyt : yt ≤ tm
      · have HST2 : Hid (hisF u ((zs.map (·.2)).take (k + 1)) = (o1 ++ [(⟨yi, yw, yt, yf, yo⟩ : Rgn)])) := Lib.hid (by
         rw [HST.out]
         unfold stH
         rw [List.getLast?_concat]
         exact if_pos hyt)
        have hd : decide (yt ≤ tm) = true := decide_eq_true hyt
        clear y4 f4 b7
        go_upto_region 8 with (fail)
        refine wp_region_held_drew (S := (fun W => W.cell? ⟨gR, q * 5 + 2, none⟩ = some (.int .i64 yt) ∧ W.cell? ⟨g, 6, none⟩ = some (.int .i64 tm))) (by kernel_rfl) HSP.out (fun hHeld => ?_)
        refine tkY 0 (.int .i64 (q : Int)) rfl hHeld ?_
        refine tkY 1 (.bool true) rfl hHeld ?_
        refine tkY 2 (.bool true) rfl hHeld ?_
        refine tkY 3 (.pointer (some ⟨g, 0, none⟩)) rfl hHeld ?_
        refine tkY 4 (.pointer (some ⟨g, 0, none⟩)) rfl hHeld ?_
        refine tkY 5 (.pointer (some ⟨g, 0, none⟩)) rfl hHeld ?_
        refine tkY 6 (.pointer (some ⟨g, 6, none⟩)) rfl hHeld ?_
        refine tkY 7 (.int .i64 tm) rfl hHeld ?_
        refine tkY 8 (.slice (some ⟨gR, 0, none⟩) (q + 1) c) rfl hHeld ?_
        refine tkY 9 (.int .i64 (q : Int)) rfl hHeld ?_
        refine tkY 10 (.pointer (some ⟨gR, q * 5, none⟩)) rfl hHeld ?_
        refine tkY 11 (.pointer (some ⟨gR, q * 5 + 2, none⟩)) rfl hHeld ?_
        refine tkY 12 (.int .i64 yt) rfl hHeld ?_
        refine tkY 13 (.bool true) rfl hHeld ?_
        refine tkY 14 (.bool true) rfl hHeld ?_
        refine wpAnyH_done (by kernel_rfl) ?_ _
        have hS8 := HS.out.drew
        clear HS HSP
        go_wp2_with fail
        go_roundw
        case rel => exact ⟨k + 1, some ⟨gR, 0, none⟩, c, (o1 ++ [(⟨yi, yw, yt, yf, yo⟩ : Rgn)]), by omega, by go_num, by rw [HOL.out]; omega, by rw [HOL.out], HST2, by rw [HOL.out]; exact hS8⟩
        case measure => simp [intOf]; omega
      · have HST2 : Hid (hisF u ((zs.map (·.2)).take (k + 1)) = (o1 ++ [(⟨yi, yw, yt, yf, dt⟩ : Rgn)]) ++ [(⟨id, who, tm, dt, max u dt⟩ : Rgn)]) := Lib.hid (by
         rw [HST.out]
         unfold stH
         rw [List.getLast?_concat]
         refine (if_neg hyt).trans ?_
         rw [List.dropLast_concat, List.append_assoc]
         rfl)
        have hd : decide (yt ≤ tm) = false := decide_eq_false hyt
        have HFS : Hid (Sq w (wo.drew.setCell ⟨gR, q * 5 + 4, none⟩ (.int .i64 dt)) (rOwn w.heap.size 50 5 (.slice (some ⟨gR, 0, none⟩) (q + 1) c) (q + 1) (((o1 ++ [(⟨yi, yw, yt, yf, dt⟩ : Rgn)])).flatMap rgnC) :: rOwn w.heap.size 166 1 (.slice (some ⟨gP, 0, none⟩) m cp) m (zs.flatMap (fun x => [ptvV x])) :: dskL gd m1 n1 m2 n2 L (folE l u).1 [])) := Lib.hid (by
         have h0 := HS.out.drew
         rw [← HOL.out] at h0
         have h := h0.field rgnC 5 rgnC_len q 4 (by rw [HOL.out]; omega) (by omega) (.int .i64 dt) (⟨yi, yw, yt, yf, dt⟩ : Rgn) (by rw [show (o1 ++ [(⟨yi, yw, yt, yf, yo⟩ : Rgn)])[q]'(by rw [HOL.out]; omega) = (⟨yi, yw, yt, yf, yo⟩ : Rgn) from by have := HQ.out; subst this; simp]; rfl)
         have hset : (o1 ++ [(⟨yi, yw, yt, yf, yo⟩ : Rgn)]).set q (⟨yi, yw, yt, yf, dt⟩ : Rgn) = (o1 ++ [(⟨yi, yw, yt, yf, dt⟩ : Rgn)]) := by
          have := HQ.out
          subst this
          simp
         rw [hset, HOL2.out] at h
         exact h)
        go_upto_region 8 with (fail)
        refine wp_region_held_drew (S := (fun W => W.cell? ⟨gR, q * 5 + 2, none⟩ = some (.int .i64 yt) ∧ W.cell? ⟨g, 6, none⟩ = some (.int .i64 tm))) (by kernel_rfl) HSP.out (fun hHeld => ?_)
        refine tkY 0 (.int .i64 (q : Int)) rfl hHeld ?_
        refine tkY 1 (.bool true) rfl hHeld ?_
        refine tkY 2 (.bool true) rfl hHeld ?_
        refine tkY 3 (.pointer (some ⟨g, 0, none⟩)) rfl hHeld ?_
        refine tkY 4 (.pointer (some ⟨g, 0, none⟩)) rfl hHeld ?_
        refine tkY 5 (.pointer (some ⟨g, 0, none⟩)) rfl hHeld ?_
        refine tkY 6 (.pointer (some ⟨g, 6, none⟩)) rfl hHeld ?_
        refine tkY 7 (.int .i64 tm) rfl hHeld ?_
        refine tkY 8 (.slice (some ⟨gR, 0, none⟩) (q + 1) c) rfl hHeld ?_
        refine tkY 9 (.int .i64 (q : Int)) rfl hHeld ?_
        refine tkY 10 (.pointer (some ⟨gR, q * 5, none⟩)) rfl hHeld ?_
        refine tkY 11 (.pointer (some ⟨gR, q * 5 + 2, none⟩)) rfl hHeld ?_
        refine tkY 12 (.int .i64 yt) rfl hHeld ?_
        refine tkY 13 (.bool false) rfl hHeld ?_
        refine tkY 14 (.bool false) rfl hHeld ?_
        refine wpAnyH_done (by kernel_rfl) ?_ _
        clear HS HSP
        go_upto_region 11 with (fail)
        obtain ⟨w7, hw7, hS7⟩ : ∃ W, W = (wo.setCell ⟨gR, q * 5 + 4, none⟩ (.int .i64 dt)).drew ∧ Sq w W (rOwn w.heap.size 50 5 (.slice (some ⟨gR, 0, none⟩) (q + 1) c) (q + 1) (((o1 ++ [(⟨yi, yw, yt, yf, dt⟩ : Rgn)])).flatMap rgnC) :: rOwn w.heap.size 166 1 (.slice (some ⟨gP, 0, none⟩) m cp) m (zs.flatMap (fun x => [ptvV x])) :: dskL gd m1 n1 m2 n2 L (folE l u).1 []) := ⟨_, rfl, HFS.out⟩
        rw [← hw7]
        unfold dskL at hS7
        clear hw7 HFS y4 f4 b7
        have hol2 := HOL2.out
        clear HOL HOL2
        have hSA := (hS7.add #[.string id, .string who, .int .i64 tm, .int .i64 dt, .int .i64 (max u dt)] 50).drew
        have hSAf := hSA.front 1 rfl rfl
        have HO5 : World.ownsRow _ w.heap.size 50 5 (.slice (some ⟨gR, 0, none⟩) (q + 1) c) (q + 1) (((o1 ++ [(⟨yi, yw, yt, yf, dt⟩ : Rgn)])).flatMap rgnC) := hSAf.head
        have hLit := (hSA.nth 0 rfl : Blk _ w7.heap.size 50 #[.string id, .string who, .int .i64 tm, .int .i64 dt, .int .i64 (max u dt)])
        obtain ⟨v8, w8, hrun, hown8, hgrow8, _, hblk8⟩ := run_append_own_at (P := Tryz.prog) _ w.heap.size 31 31 50 i0 (.agg #[.string ⟨#[]⟩, .string ⟨#[]⟩, .int .i64 0, .int .i64 0, .int .i64 0]) 5 56 Tryz.underlying31 hi hz0 hz1 hz2 rfl (by decide) (.slice (some ⟨gR, 0, none⟩) (q + 1) c) (q + 1) (((o1 ++ [(⟨yi, yw, yt, yf, dt⟩ : Rgn)])).flatMap rgnC) HO5 ⟨w7.heap.size, 0, none⟩ 1 1 [.string id, .string who, .int .i64 tm, .int .i64 dt, .int .i64 (max u dt)] rfl (World.news_of_block hLit) (by intro v hv; simp only [List.mem_cons, List.not_mem_nil, or_false] at hv; rcases hv with rfl | rfl | rfl | rfl | rfl <;> rfl) (by unfold maxLen; omega) (by omega) hSA.size
        have hS9 := hSAf.append hown8 hgrow8 hblk8
        obtain ⟨A8, c8, hv8⟩ := own_form hown8
        subst hv8
        have HG : ∀ (W : World), Blk W g 168 #[.int .i64 at_, .int .i64 kd, .string id, .string who, .string by1, .string ct, .int .i64 tm, .int .i64 dt, .string (hwV kk)] → W.cell? ⟨g, 2, none⟩ = some (.string id) ∧ W.cell? ⟨g, 3, none⟩ = some (.string who) ∧ W.cell? ⟨g, 6, none⟩ = some (.int .i64 tm) ∧ W.cell? ⟨g, 7, none⟩ = some (.int .i64 dt) := fun W b => ⟨b.cell 2, b.cell 3, b.cell 6, b.cell 7⟩
        have P1 : w7.drew.cell? ⟨g, 2, none⟩ = some (.string id) ∧ w7.drew.cell? ⟨g, 3, none⟩ = some (.string who) ∧ w7.drew.cell? ⟨g, 6, none⟩ = some (.int .i64 tm) ∧ w7.drew.cell? ⟨g, 7, none⟩ = some (.int .i64 dt) := HG _ ((show ∀ a ∈ L, (rRun a).P w7.drew from hS7.drew.nth 5 rfl) _ hmem)
        have P2 : (w7.alloc (.cells #[.string id, .string who, .int .i64 tm, .int .i64 dt, .int .i64 (max u dt)] 50)).drew.cell? ⟨g, 2, none⟩ = some (.string id) ∧ (w7.alloc (.cells #[.string id, .string who, .int .i64 tm, .int .i64 dt, .int .i64 (max u dt)] 50)).drew.cell? ⟨g, 3, none⟩ = some (.string who) ∧ (w7.alloc (.cells #[.string id, .string who, .int .i64 tm, .int .i64 dt, .int .i64 (max u dt)] 50)).drew.cell? ⟨g, 6, none⟩ = some (.int .i64 tm) ∧ (w7.alloc (.cells #[.string id, .string who, .int .i64 tm, .int .i64 dt, .int .i64 (max u dt)] 50)).drew.cell? ⟨g, 7, none⟩ = some (.int .i64 dt) := HG _ ((show ∀ a ∈ L, (rRun a).P _ from hSA.nth 6 rfl) _ hmem)
        have P3 : w8.cell? ⟨g, 2, none⟩ = some (.string id) ∧ w8.cell? ⟨g, 3, none⟩ = some (.string who) ∧ w8.cell? ⟨g, 6, none⟩ = some (.int .i64 tm) ∧ w8.cell? ⟨g, 7, none⟩ = some (.int .i64 dt) := HG _ ((show ∀ a ∈ L, (rRun a).P w8 from hS9.nth 6 rfl) _ hmem)
        have hS10 := (hS9.drop 1 rfl rfl)
        clear HO5 hLit hown8 hgrow8 hblk8 hSA hSAf hS9 hS7 HG
        go_region_held3 (fun W => W.cell? ⟨g, 2, none⟩ = some (.string id) ∧ W.cell? ⟨g, 3, none⟩ = some (.string who) ∧ W.cell? ⟨g, 6, none⟩ = some (.int .i64 tm) ∧ W.cell? ⟨g, 7, none⟩ = some (.int .i64 dt))
         (first | with_reducible exact P1 | with_reducible exact P2 | with_reducible exact P3 | exact P2 | exact P3)
         (first | (refine oper_app_run _ _ 31 rfl rfl rfl hrun ?_))
        go_wp2_with fail
        go_roundw
        case rel => exact ⟨k + 1, A8, c8, (o1 ++ [(⟨yi, yw, yt, yf, dt⟩ : Rgn)]) ++ [(⟨id, who, tm, dt, max u dt⟩ : Rgn)], by omega, by go_num, by (have hqq := HQ.out; simp only [List.length_append, List.length_cons, List.length_nil]; omega), by rw [List.length_append]; first | rfl | (rw [hol2]; rfl), HST2, by
         rw [List.flatMap_append, List.length_append]
         first | exact hS10 | (rw [hol2]; exact hS10)⟩
        case measure => simp [intOf]; omega
  · obtain rfl : k = m := by omega
    have HF : Hid (HisR l cat u w (.returned (.slice A out.length c)) wo) := Lib.hid (by
     have h := HOUT.out
     rw [List.take_of_length_le (by rw [List.length_map, HM.out]; exact Nat.le_refl _)] at h
     refine ⟨A, c, zs.map (·.2), HYH.out, by rw [h], ?_⟩
     rw [h]
     unfold dskL at hS
     exact ((((hS.drop 5 rfl rfl).drop 4 rfl rfl).drop 3 rfl rfl).drop 2 rfl rfl).drop 1 rfl rfl)
    clear hS
    go_wp2_with fail
    go_ret
    exact HF.out
end Go.Proofs.YtapgnaimbgjcnaaGreatDoor
