/-
  splitclock/board.Waiting$1 by its contract. (Printed by gen_or2.py.)
-/
import Derived.Test.YtebaaoacmmhppaaGreatZSortMem
import Derived.Test.YtebaaoacmmhppaaGreatZBtQ
import Derived.Deep.RegionHeld3
import Derived.Deep.DeepCutAuto
import Derived.Test.YtebaaoacmmhppaaGreatZTk
import Derived.Test.YtebaaoacmmhppaaGreatZWtP
import Derived.Test.YtebaaoacmmhppaaGreatZDk5
import Derived.Test.YtebaaoacmmhppaaGreatZMrg2
import Derived.Test.YtebaaoacmmhppaaGreatZRatMake4
import Derived.RegionTactic
import Derived.Deep.CutBlock
namespace Go.Proofs.YtebaaoacmmhppaaGreat
open Go Go.RowKit Go.Sort

set_option maxRecDepth 100000 in
set_option maxHeartbeats 4000000 in
theorem byAt_calls (g1 g2 : Nat) (x y : Bev) (w : World) (hc : ∀ V, Below w.heap.size w V → V.cell? ⟨g1, 2, none⟩ = some (.string x.id) ∧ V.cell? ⟨g1, 0, none⟩ = some (.int .i64 x.at_) ∧ V.cell? ⟨g2, 2, none⟩ = some (.string y.id) ∧ V.cell? ⟨g2, 0, none⟩ = some (.int .i64 y.at_)) :
    Calls Tryz.prog 74 #[.pointer (some ⟨g1, 0, none⟩), .pointer (some ⟨g2, 0, none⟩)] w (GrwT (.int .i64 (cmpM x y)) w) := by
  have HC := Lib.hid hc
  have HE := cmpM_or x y
  obtain ⟨O, hO⟩ : ∃ z, cmpM x y = z := ⟨_, rfl⟩
  rw [hO] at HE ⊢
  obtain ⟨a1, k1, i1, w1, b1, c1, t1, d1⟩ := x
  obtain ⟨a2, k2, i2, w2, b2, c2, t2, d2⟩ := y
  simp only at HE HC
  have H2 := Lib.hid (fun W => cmpInt_calls a1 a2 W)
  have H3 := Lib.hid (fun W => strCmp_calls i1 i2 W)
  obtain ⟨x2, hx2⟩ : ∃ z, cmpI a1 a2 = z := ⟨_, rfl⟩
  obtain ⟨x3, hx3⟩ : ∃ z, cmpS i1 i2 = z := ⟨_, rfl⟩
  rw [hx2] at H2
  rw [hx3] at H3
  rw [hx2, hx3] at HE
  have S0 : Below w.heap.size w w := Below.refl _ _
  have S1 : Below w.heap.size w w.drew := below_drewN S0 1
  have HBO : Blk (w.alloc (.cells #[.int .i64 x2, .int .i64 x3] 3)).drew w.heap.size 3 #[.int .i64 x2, .int .i64 x3] := Blk.new w _ _
  have SA : Below w.heap.size w (w.alloc (.cells #[.int .i64 x2, .int .i64 x3] 3)).drew := below_drewN ((Below.refl _ _).alloc (Nat.le_refl _) _) 1
  have HO2 : Hid (Calls Tryz.prog 51 #[.slice (some ⟨w.heap.size, 0, none⟩) 2 2] (w.alloc (.cells #[.int .i64 x2, .int .i64 x3] 3)).drew (fun e w' => e = .returned (.int .i64 O) ∧ Below w.heap.size w w' ∧ ∃ q os', w' = grow (w.drewN q) os')) := Lib.hid (by
    have hr := blkRd (b := w.heap.size + 1) 1 2 HBO (by omega) (by unfold maxLen; omega) rfl
    have h := orN_calls (w.heap.size + 1) _ 2 2 [x2, x3] _ hr
    rw [HE] at h
    refine h.mono ?_
    rintro e w' ⟨he, nq, rfl⟩
    exact ⟨he, below_call SA (below_drewN (Below.refl _ _) nq) (Nat.le_refl _), grw_oneD w _ nq⟩)
  clear HBO hO hx2 hx3 HE hc
  go_enter Tryz.func74, Tryz.ntmps74
  go_upto_region 1 with (fail)
  obtain ⟨k0, k1', k2', k3⟩ := HC.out _ S0
  go_region_held3 (fun V => V.cell? ⟨g1, 2, none⟩ = some (.string i1) ∧ V.cell? ⟨g1, 0, none⟩ = some (.int .i64 a1) ∧ V.cell? ⟨g2, 2, none⟩ = some (.string i2) ∧ V.cell? ⟨g2, 0, none⟩ = some (.int .i64 a2))
    (first | with_reducible exact HC.out _ S1 | with_reducible exact HC.out _ SA | exact HC.out _ SA | with_reducible exact HC.out _ S9)
    (first
      | (go_at_call 52; ((with_reducible refine (H2.out _).mono ?_); rintro e w4 ⟨rfl, rfl⟩))
      | (go_at_call 53; ((with_reducible refine (H3.out _).mono ?_); rintro e w5 ⟨rfl, rfl⟩))
      | (go_at_call 51; ((with_reducible refine HO2.out.mono ?_); rintro e w9 ⟨rfl, S9, HG⟩)))
  all_goals
    go_wp2_with fail
    go_ret
    exact ⟨rfl, HG⟩
end Go.Proofs.YtebaaoacmmhppaaGreat
/-
  board.Waiting by its contract. (Printed by gen_wt1.py.)
-/
namespace Go.Proofs.YtebaaoacmmhppaaGreat
open Go Go.RowKit Go.Sort
attribute [local go_sem ↓] Go.wp_at_zero Go.wp_at_succ

def RunAtM (w : World) (x : Ptv) : Prop := ∀ V : World, (V.heap[x.1]? = w.heap[x.1]?) → V.cell? ⟨x.1, 2, none⟩ = some (.string x.2.id) ∧ V.cell? ⟨x.1, 0, none⟩ = some (.int .i64 x.2.at_)
theorem ord3_ptvM : Ord3 (fun x y : Ptv => cmpM x.2 y.2) := ⟨fun x y => ord3_cmpM.neg x.2 y.2, fun x y z => ord3_cmpM.trans x.2 y.2 z.2⟩
theorem sortWait_calls (w0 w : World) (g n c : Nat) (xs : List Ptv) (l : List Rsc) (hn : n ≤ 100000) (hx : ∀ x ∈ xs, RunAtM w x ∧ x.1 < w.heap.size ∧ x.1 ≠ g) (h0 : 0 < xs.length) (hS : Sq w0 w (rOwn w0.heap.size 85 1 (.slice (some ⟨g, 0, none⟩) n c) n (xs.flatMap (fun x => [ptvV x])) :: l)) :
    Calls Tryz.prog 49 #[.slice (some ⟨g, 0, none⟩) n c, .func (.func 74) #[] #[]] w (SrtT w0 85 1 (fun x => [ptvV x]) g n c xs (fun x y => cmpM x.2 y.2) l) := by
  have hne : Nonempty {x : Ptv // RunAtM w x ∧ x.1 < w.heap.size ∧ x.1 ≠ g} := by
    cases xs with
    | nil => cases h0
    | cons a r => exact ⟨⟨a, hx a (List.mem_cons_self ..)⟩⟩
  have hin : Inhabited {x : Ptv // RunAtM w x ∧ x.1 < w.heap.size ∧ x.1 ≠ g} := Classical.inhabited_of_nonempty hne
  exact srt1_calls (P := fun x : Ptv => RunAtM w x ∧ x.1 < w.heap.size ∧ x.1 ≠ g) (enc := ptvV) Tryz.sortRun (fun _ => rfl) (fun x y => cmpM x.2 y.2) ord3_ptvM 74 #[] (enters_of Tryz.func74 (by kernel_rfl) rfl) w0 w g n c xs l hx hn
    (fun x y W hx hy hW => byAt_calls x.1 y.1 x.2 y.2 W (fun V hV => by
      have e1 := (hV.block x.1 (by have := hW.1; have := hx.2.1; omega)).trans (hW.2 x.1 hx.2.1 hx.2.2)
      have e2 := (hV.block y.1 (by have := hW.1; have := hy.2.1; omega)).trans (hW.2 y.1 hy.2.1 hy.2.2)
      obtain ⟨a1, a2⟩ := hx.1 V e1
      obtain ⟨b1, b2⟩ := hy.1 V e2
      exact ⟨a1, a2, b1, b2⟩)) hS
theorem sortWait_none (w : World) (A : Option Addr) (c : Nat) :
    Calls Tryz.prog 49 #[.slice A 0 c, .func (.func 74) #[] #[]] w fun e w' => e = .returned (.tuple #[]) ∧ w' = w :=
  AnyF.slices_SortFunc_none Tryz.sortRun0 A c _ w
/-- what Waiting answers -/
def WtR (l : List Bev) (u F : Int) (w : World) (e : Ending) (w' : World) : Prop :=
  ∃ (A : Option Addr) (c : Nat) (ids : List ByteArray), ((F = 0 → ∃ ys : List Bev, SwtR (folE l u).1 ys ∧ ids = ys.map (·.id)) ∧ (F ≠ 0 → ids = [])) ∧ e = .returned (.tuple #[.slice A ids.length c, .int .i64 F]) ∧ Sq w w' [rOwn w.heap.size 9 1 (.slice A ids.length c) ids.length (strsV ids)]
set_option maxRecDepth 100000 in
set_option maxHeartbeats 8000000 in
theorem waiting_calls (b : Nat) (A0 : Option Addr) (n c0 : Nat) (l : List Bev) (u : Int) (w0 : World) (hr : Bevs w0 b A0 n c0 l) (hn : n ≤ 3000) :
    Calls Tryz.prog 32 #[.slice A0 n c0, .int .i64 u] w0 (WtR l u (momF l u) w0) := by
  obtain ⟨i0, hi, hz0, hz1, hz2⟩ := info_parts info_runp
  obtain ⟨j0, hj, hy0, hy1, hy2⟩ := info_parts info_str
  have HC := Lib.hid (bMomentFault_calls b A0 n c0 l u w0 hr)
  have HR := Lib.hid hr.rd
  obtain ⟨hl, _, _, _⟩ := hr.rd.cells bevC_len (by omega)
  have HLL : Hid (l.length ≤ 3000) := Lib.hid (by omega)
  obtain ⟨F, hF⟩ : ∃ F, momF l u = F := ⟨_, rfl⟩
  rw [hF] at HC ⊢
  have HE : Hid (F = 0 → ∀ x ∈ l, EvK x) := Lib.hid (fun h => evK_all (momF_ok (hF.trans h)))
  clear hr hF hl
  by_cases h0 : F = 0
  case neg =>
    have hne : (F != 0) = true := by rw [bne_iff_ne]; exact h0
    go_enter Tryz.func32, Tryz.ntmps32
    go_wp2_with fail
    refine HC.out.mono ?_
    rintro e w1 ⟨rfl, hb1⟩
    have HF : Hid (WtR l u F w0 (.returned (.tuple #[.slice none 0 0, .int .i64 F])) w1) := Lib.hid ⟨none, 0, [], ⟨fun h => absurd h h0, fun _ => rfl⟩, rfl, ((Sq.start w0).callB hb1).nil _ _ _⟩
    clear HC hb1
    go_wp2_with fail
    go_ret2
    exact HF.out
  case pos =>
  subst h0
  have HE0 := Lib.hid (HE.out rfl)
  clear HE
  go_enter Tryz.func32, Tryz.ntmps32
  go_wp2_with fail
  refine HC.out.mono ?_
  rintro e w1 ⟨rfl, hb1⟩
  have HAT := Lib.hid (atD_calls b A0 n c0 l u w1 (HR.out.below hb1) HE0.out hn)
  have HB1 := Lib.hid hb1
  clear hb1 HC
  go_wp2_with fail
  refine HAT.out.mono ?_
  rintro e w ⟨gd, m1, m2, n1, n2, L, rfl, hL, hK, h3, h4, h5⟩
  have hz : (folE l u).1.rn.length ≤ 3000 := by
    have h := (fol_cnt l u l.length (Nat.le_refl _)).1
    rw [List.take_length] at h
    have := HLL.out
    omega
  obtain ⟨D, hD⟩ : ∃ D, (folE l u).1 = D := ⟨_, rfl⟩
  rw [hD] at hL hK h5 hz
  have HD := Lib.hid hD
  have hS := ((Sq.start w0).callB HB1.out).merge h5
  rw [List.append_nil] at hS
  clear hD h3 h4 h5 HAT HR HB1
  unfold dskL at hS
  have hS1 := hS.front 1 rfl rfl
  have HMP : MapS w 9 m1 n1 (ptF L) := hS1.head
  have c0 := (hS1.nth 1 rfl : Blk w gd _ _).cell 0
  have HK := Lib.hid hK
  have HL := Lib.hid hL
  clear hS hK hL
  go_wp2_with (first | (at_range; refine wpList_range_map _ rfl _ 102 rfl 9 85 Tryz.underlying9 Tryz.underlying102 m1 n1 (ptF L) rfl HMP ?_; intro w1 cnt0 hr0 hg0 hs0))
  go_frame
  have hS2 := (hS1.rngStart hr0 hg0).nil w0.heap.size 85 1
  obtain ⟨r, hr⟩ : ∃ r, r = w.heap.size := ⟨_, rfl⟩
  rw [← hr] at hS2 ⊢
  clear hS1 hr0 hg0 hs0 HMP hr
  go_loopw [8] (fun s8 wr => ∃ (A : Option Addr) (c : Nat) (seen : List ByteArray) (cnt : Nat) (ps : List Ptv), s8 = .slice A ps.length c ∧ Hid (ps.map (·.2) = seen.filterMap (wtOne D)) ∧ Hid (∀ s ∈ seen, s.size ≤ maxLen ∧ ∃ r, rnOf D s = some r) ∧ Hid (∀ p ∈ ps, ∃ k, (p.1, (p.2, k)) ∈ L) ∧ Sq w0 wr (rOwn w0.heap.size 85 1 (.slice A ps.length c) ps.length (ps.flatMap (fun x => [ptvV x])) :: rRng 9 m1 r n1 (ptF L) seen cnt :: rBlk gd 105 #[.map (some m1), .map (some m2)] :: rMap 9 m2 n2 (bnF D) :: rAll rRun L :: [])) (fun _ wr => wr.rangeLeft m1 r)
  case atStart => exact ⟨none, 0, [], cnt0, [], rfl, Lib.hid rfl, Lib.hid (fun s hs => by cases hs), Lib.hid (fun p hp => by cases hp), hS2⟩
  case round =>
    clear hS2
    obtain ⟨A, c, seen, cnt, ps, rfl, HY, HSN, HPL, hS⟩ := hrel
    have hrg : RngS wr 9 m1 r n1 (ptF L) seen cnt := hS.nth 1 rfl
    have hnd := hrg.nodup
    have hyl : ps.length ≤ 3000 := by
      have h1 := seen_len hnd (fun s hs => (HSN.out s hs).2)
      have h2 := List.length_filterMap_le (wtOne D) seen
      rw [← HY.out, List.length_map] at h2
      omega
    go_wp2_with (first | (at_next; refine wpList_next_map _ rfl _ rfl 9 Tryz.underlying9 m1 r n1 (ptF L) seen cnt rfl hrg ?_ ?_))
    · intro hdone
      have HP : Hid ((ps.map (·.2)).Perm (wtd D)) := Lib.hid (by
        rw [HY.out]
        refine wtd_perm HK.out hnd (fun s hs => (HSN.out s hs).1) (fun s hs => ?_)
        rw [← hdone s hs]
        unfold evF ptF
        rw [ptOf_rn HL.out]
        cases ptOf L s <;> simp)
      have hown : wr.ownsRow w0.heap.size 85 1 (.slice A ps.length c) ps.length (ps.flatMap (fun x => [ptvV x])) := hS.head
      clear hrg hdone HSN HY hnd
      by_cases h0 : ps.length = 0
      · have hnil : ps = [] := List.length_eq_zero_iff.1 h0
        subst hnil
        have HN := Lib.hid (sortWait_none wr A c)
        have HF : Hid (∀ W : World, Sq w0 W [] → WtR l u 0 w0 (.returned (.tuple #[.slice none 0 0, .int .i64 0])) W) := Lib.hid (fun W hW => ⟨none, 0, [], ⟨fun _ => ⟨[], by rw [HD.out]; exact ⟨HP.out, List.Pairwise.nil⟩, rfl⟩, fun h => absurd rfl h⟩, rfl, hW.nil _ _ _⟩)
        have HSB := Lib.hid hS.bare
        clear hS hown HP
        go_wp2_with (fail)
        refine HN.out.mono ?_
        rintro e w5 ⟨rfl, rfl⟩
        go_wp2_with (fail)
        go_loopw [11, 58] (fun s14 s57 wr => s57 = .int .i64 0 ∧ s14 = .slice none 0 0 ∧ Sq w0 wr []) (fun _ s57 _ => 1 - (intOf s57).toNat)
        case atStart => exact ⟨rfl, rfl, HSB.out⟩
        case round =>
          obtain ⟨rfl, rfl, hS6⟩ := hrel
          have HS6 := Lib.hid (HF.out _ hS6)
          clear hS6
          go_wp2_with fail
          go_ret2
          exact HS6.out
      · obtain ⟨g, hA⟩ := own_ptr hown (by omega)
        subst hA
        have hruns : ∀ x ∈ ps, RunAtM wr x ∧ x.1 < wr.heap.size ∧ x.1 ≠ g := fun x hx => by
          obtain ⟨k, hk⟩ := HPL.out x hx
          have hall : ∀ a ∈ L, (rRun a).P wr := hS.nth 4 rfl
          have hb : Blk wr x.1 87 (runC (x.2, k)).toArray := hall _ hk
          refine ⟨fun V hV => ?_, hb.lt, fun e => ?_⟩
          · have hb2 : Blk V x.1 87 (runC (x.2, k)).toArray := Eq.trans hV hb
            exact ⟨hb2.cell 2, hb2.cell 0⟩
          · have h1 := (List.pairwise_cons.1 hS.hp.apart).1 (rAll rRun L) (by simp)
            exact h1 g rfl ⟨_, hk, e.symm⟩
        have HC := Lib.hid (sortWait_calls w0 wr g ps.length c ps _ (by omega) hruns (by omega) hS)
        obtain ⟨m, hm⟩ : ∃ m, ps.length = m := ⟨_, rfl⟩
        rw [hm] at HC hyl ⊢
        have HM := Lib.hid hm
        clear hS hown hm h0 hruns
        go_wp2_with (fail)
        refine HC.out.mono ?_
        rintro e w5 ⟨rfl, zs, hp, hso, hT2⟩
        have HZ := Lib.hid hp
        have HSO := Lib.hid hso
        have HZM : Hid (zs.length = m) := Lib.hid (hp.length_eq.trans HM.out)
        have hT3 := hT2.nil w0.heap.size 9 1
        clear hT2 hp hso HC
        go_wp2_with fail
        go_loopw [11, 58] (fun s14 s57 wr => ∃ (j : Nat) (A : Option Addr) (cc : Nat), j ≤ m ∧ s57 = .int .i64 j ∧ s14 = .slice A j cc ∧ Sq w0 wr (rOwn w0.heap.size 9 1 (.slice A j cc) j (strsV ((zs.take j).map (·.2.id))) :: rOwn w0.heap.size 85 1 (.slice (some ⟨g, 0, none⟩) m c) m (zs.flatMap (fun x => [ptvV x])) :: rRng 9 m1 r n1 (ptF L) seen cnt :: rBlk gd 105 #[.map (some m1), .map (some m2)] :: rMap 9 m2 n2 (bnF D) :: rAll rRun L :: [])) (fun _ s57 _ => m - (intOf s57).toNat)
        case atStart => exact ⟨0, none, 0, Nat.zero_le _, rfl, rfl, hT3⟩
        case round =>
          clear hT3
          obtain ⟨j, A7, c7, hj7, rfl, rfl, hS⟩ := hrel
          obtain ⟨wq, hwq⟩ : ∃ z, z = wr := ⟨_, rfl⟩
          subst hwq
          by_cases hlt2 : j < m
          · have hjp : j < zs.length := by rw [HZM.out]; exact hlt2
            have hcp := own_cell (fun x => [ptvV x]) 1 (fun _ => rfl) (hS.nth 1 rfl : World.ownsRow _ _ _ _ _ _ _) j 0 hjp hlt2 (by omega)
            rw [Nat.mul_one, Nat.add_zero] at hcp
            obtain ⟨kk, hmem⟩ := HPL.out zs[j] (HZ.out.mem_iff.1 (List.getElem_mem hjp))
            have HTK : Hid ((zs.take (j + 1)).map (·.2.id) = (zs.take j).map (·.2.id) ++ [zs[j].2.id]) := Lib.hid (by
              rw [List.take_succ_eq_append_getElem hjp, List.map_append]
              rfl)
            obtain ⟨⟨gx, at_, kd, id, whx, by1, ct, tm, dt⟩, hx⟩ : ∃ x, zs[j] = x := ⟨_, rfl⟩
            rw [hx] at hcp hmem HTK
            replace hcp : wq.cell? ⟨g, j, none⟩ = some (.pointer (some ⟨gx, 0, none⟩)) := hcp
            have b2 : wq.cell? ⟨gx, 2, none⟩ = some (.string id) := by
              have hb : Blk wq gx 87 #[.int .i64 at_, .int .i64 kd, .string id, .string whx, .string by1, .string ct, .int .i64 tm, .int .i64 dt, .string (hwV kk)] := (show ∀ a ∈ L, (rRun a).P wq from hS.nth 5 rfl) _ hmem
              exact hb.cell 2
            simp only at HTK
            have HO5 : wq.ownsRow w0.heap.size 9 1 (.slice A7 j c7) j (strsV ((zs.take j).map (·.2.id))) := hS.head
            have hsz := hS.size
            have hj0 : (0 : Int) ≤ (j : Int) := by omega
            have hj1 : (j : Int) < (m : Int) := by omega
            clear hx hjp
            go_wp2_with (first
              | (at_builtin; refine wpList_append_own_at _ rfl _ _ 40 rfl w0.heap.size 9 j0 (.string ⟨#[]⟩) 1 16 Tryz.underlying40 hj hy0 hy1 hy2 rfl (by decide) _ _ _ rfl (HO5.alloc _) ⟨wq.heap.size, 0, none⟩ 1 1 [.string id] rfl rfl (World.news_of_block (heap_alloc_new _ _)) (by intro u hu; simp only [List.mem_cons, List.not_mem_nil, or_false] at hu; rcases hu with rfl; rfl) (by unfold maxLen; omega) (by omega) (by simp; omega) ?_; intro v' w11 hown' hgrow _ hblk; have hS9 := (hS.alloc _).append hown' hgrow hblk; obtain ⟨A8, c8, hv8⟩ := own_form hown'; subst hv8; clear hown' hgrow hblk))
            go_roundw
            case rel => exact ⟨j + 1, A8, c8, by omega, by go_num, rfl, by rw [HTK.out, strsV_snoc]; exact hS9⟩
            case measure => simp [intOf]; omega
          · obtain rfl : j = m := by omega
            have HF : Hid (WtR l u 0 w0 (.returned (.tuple #[.slice A7 j c7, .int .i64 0])) wq) := Lib.hid (by
              have hT4 : Sq w0 wq [rOwn w0.heap.size 9 1 (.slice A7 j c7) j (strsV ((zs.take j).map (·.2.id)))] := ((((hS.drop 5 rfl rfl).drop 4 rfl rfl).drop 3 rfl rfl).drop 2 rfl rfl).drop 1 rfl rfl
              have el : ((zs.map (·.2)).map (·.id)).length = j := by rw [List.length_map, List.length_map]; exact HZM.out
              have et : (zs.take j).map (·.2.id) = (zs.map (·.2)).map (·.id) := by
                rw [List.take_of_length_le (by rw [HZM.out]; exact Nat.le_refl _), List.map_map]
                rfl
              rw [et] at hT4
              refine ⟨A7, c7, (zs.map (·.2)).map (·.id), ⟨fun _ => ⟨zs.map (·.2), ?_, rfl⟩, fun h => absurd rfl h⟩, by rw [el], by rw [el]; exact hT4⟩
              rw [HD.out]
              exact ⟨(HZ.out.map _).trans HP.out, by rw [List.pairwise_map]; exact HSO.out⟩)
            clear hS
            go_wp2_with fail
            go_ret2
            exact HF.out
    · intro s v w2 cnt2 hnew hsl hf hrg2 hlt2 hg2 hs2 hen
      have hl1 : wr.rangeLeft m1 r = cnt := hrg.left
      have hS2 := (hS.front 1 rfl rfl).rngStep hrg2 hg2
      have hlt3 : cnt2 < wr.rangeLeft m1 r := by rw [hl1]; exact hlt2
      have HLT := Lib.hid hlt3
      clear hrg hS hl1 hlt2 hlt3 hg2 hrg2
      obtain ⟨⟨g, ⟨at_, kd, id, who, by1, ct, tm, dt⟩, k⟩, hpt⟩ : ∃ z, ptOf L s = some z := by
        cases h : ptOf L s with
        | none => unfold ptF at hf; rw [h] at hf; cases hf
        | some z => exact ⟨z, rfl⟩
      have hrn : rnOf D s = some (⟨at_, kd, id, who, by1, ct, tm, dt⟩, k) := by rw [ptOf_rn HL.out, hpt]; rfl
      have hv : v = .pointer (some ⟨g, 0, none⟩) := by
        have h := hf
        unfold ptF at h
        rw [hpt] at h
        injection h with h
        exact h.symm
      have hmem := (ptOf_mem hpt).1
      have hall : ∀ a ∈ L, (rRun a).P w2 := hS2.nth 4 rfl
      have hb : Blk w2 g 87 #[.int .i64 at_, .int .i64 kd, .string id, .string who, .string by1, .string ct, .int .i64 tm, .int .i64 dt, .string (hwV k)] := hall _ hmem
      have HSN2 : Hid (∀ t ∈ seen ++ [s], t.size ≤ maxLen ∧ ∃ r, rnOf D t = some r) := Lib.hid (fun t ht => by
        rcases List.mem_append.1 ht with ht | ht
        · exact HSN.out t ht
        · simp at ht; subst ht; exact ⟨hsl, _, hrn⟩)
      have HY2 : Hid (ps.map (·.2) ++ (if inW D (⟨at_, kd, id, who, by1, ct, tm, dt⟩, k) = true then [⟨at_, kd, id, who, by1, ct, tm, dt⟩] else []) = (seen ++ [s]).filterMap (wtOne D)) := Lib.hid (by
        rw [List.filterMap_append, ← HY.out]
        congr 1
        have e : wtOne D s = if inW D (⟨at_, kd, id, who, by1, ct, tm, dt⟩, k) = true then some ⟨at_, kd, id, who, by1, ct, tm, dt⟩ else none := by unfold wtOne; rw [hrn]
        by_cases h : inW D (⟨at_, kd, id, who, by1, ct, tm, dt⟩, k) = true
        · rw [if_pos h] at e ⊢
          rw [List.filterMap_cons_some e]
          rfl
        · rw [if_neg h] at e ⊢
          rw [List.filterMap_cons_none e]
          rfl)
      have HPL2 : Hid (∀ p ∈ ps ++ [(g, ⟨at_, kd, id, who, by1, ct, tm, dt⟩)], ∃ k, (p.1, (p.2, k)) ∈ L) := Lib.hid (fun p hp => by
        rcases List.mem_append.1 hp with hp | hp
        · exact HPL.out p hp
        · simp at hp; subst hp; exact ⟨k, hmem⟩)
      have hwz := HK.out.wz _ (rnOf_mem hrn).1
      subst hv
      simp only at hwz
      obtain ⟨hs, hhs⟩ : ∃ z, hwV k = z := ⟨_, rfl⟩
      obtain ⟨B, hB⟩ : ∃ z, D.bn who = z := ⟨_, rfl⟩
      have hI : inW D (⟨at_, kd, id, who, by1, ct, tm, dt⟩, k) = ((hs.toList == [119, 97, 105, 116, 115]) && !B) := by rw [← hhs, ← hB]; rfl
      rw [hI] at HY2
      rw [hhs] at hb
      have hSd := hS2.drew
      have HSP : Hid (w2.drew.cell? ⟨g, 8, none⟩ = some (.string hs) ∧ w2.drew.cell? ⟨g, 3, none⟩ = some (.string who) ∧ w2.drew.cell? ⟨gd, 1, none⟩ = some (.map (some m2)) ∧ (Instr.lookup 103 (.map (some m2)) (.string who) false).run Tryz.prog w2.drew = .ok (.bool B) w2.drew) := Lib.hid (by
        have hall : ∀ a ∈ L, (rRun a).P w2.drew := hSd.nth 4 rfl
        have hb2 : Blk w2.drew g 87 #[.int .i64 at_, .int .i64 kd, .string id, .string who, .string by1, .string ct, .int .i64 tm, .int .i64 dt, .string (hwV k)] := hall _ hmem
        rw [hhs] at hb2
        have hM3 : MapS w2.drew 9 m2 n2 (bnF D) := hSd.nth 3 rfl
        have l3 := hM3.look (t := 103) (e := 4) Tryz.underlying9 Tryz.underlying103 (zero_bol _) (s := who) (by unfold maxLen; omega)
        rw [bnF_get HK.out, hB] at l3
        exact ⟨hb2.cell 8, hb2.cell 3, (hSd.nth 2 rfl : Blk _ gd _ _).cell 1, l3⟩)
      clear hwz hI hrn hf hpt hnew hsl HSN HY HPL hS2 hs2 hb hall hmem hhs hB
      obtain ⟨V, hV⟩ : ∃ b, (hs.toList == [119, 97, 105, 116, 115]) = b := ⟨_, rfl⟩
      rw [hV] at HY2
      cases V
      · rw [if_neg (by simp), List.append_nil] at HY2
        go_upto_region 9 with (fail)
        refine wp_region_held_drew (S := (fun W => W.cell? ⟨g, 8, none⟩ = some (.string hs) ∧ W.cell? ⟨g, 3, none⟩ = some (.string who) ∧ W.cell? ⟨gd, 1, none⟩ = some (.map (some m2)) ∧ (Instr.lookup 103 (.map (some m2)) (.string who) false).run Tryz.prog W = .ok (.bool B) W)) (by kernel_rfl) HSP.out (fun hHeld => ?_)
        refine tkY 0 (.pointer (some ⟨g, 0, none⟩)) rfl hHeld ?_
        refine tkY 1 (.pointer (some ⟨g, 0, none⟩)) rfl hHeld ?_
        refine tkY 2 (.pointer (some ⟨g, 8, none⟩)) rfl hHeld ?_
        refine tkY 3 (.string hs) rfl hHeld ?_
        refine tkY 4 (.bool false) rfl hHeld ?_
        refine tkY 5 (.bool false) rfl hHeld ?_
        refine tkN 6 rfl hHeld ?_
        refine tkN 7 rfl hHeld ?_
        refine tkN 8 rfl hHeld ?_
        refine tkN 9 rfl hHeld ?_
        refine tkN 10 rfl hHeld ?_
        refine tkN 11 rfl hHeld ?_
        refine tkN 12 rfl hHeld ?_
        refine tkN 13 rfl hHeld ?_
        refine tkN 14 rfl hHeld ?_
        refine tkN 15 rfl hHeld ?_
        refine tkN 16 rfl hHeld ?_
        refine tkY 17 (.bool false) rfl hHeld ?_
        refine wpAnyH_done (by kernel_rfl) ?_ _
        have hSe := hSd.front 1 rfl rfl
        have hrl : w2.drew.rangeLeft m1 r = cnt2 := (show RngS w2.drew _ m1 r n1 _ _ cnt2 from hSe.nth 1 rfl).left
        clear hSd
        go_wp2_with fail
        go_roundw
        case rel => exact ⟨A, c, seen ++ [s], cnt2, ps, rfl, HY2, HSN2, Lib.hid (fun p hp => HPL2.out p (List.mem_append_left _ hp)), hSe⟩
        case measure => rw [hrl]; exact HLT.out
      · cases B
        · rw [if_pos (by decide)] at HY2
          go_upto_region 9 with (fail)
          refine wp_region_held_drew (S := (fun W => W.cell? ⟨g, 8, none⟩ = some (.string hs) ∧ W.cell? ⟨g, 3, none⟩ = some (.string who) ∧ W.cell? ⟨gd, 1, none⟩ = some (.map (some m2)) ∧ (Instr.lookup 103 (.map (some m2)) (.string who) false).run Tryz.prog W = .ok (.bool false) W)) (by kernel_rfl) HSP.out (fun hHeld => ?_)
          refine tkY 0 (.pointer (some ⟨g, 0, none⟩)) rfl hHeld ?_
          refine tkY 1 (.pointer (some ⟨g, 0, none⟩)) rfl hHeld ?_
          refine tkY 2 (.pointer (some ⟨g, 8, none⟩)) rfl hHeld ?_
          refine tkY 3 (.string hs) rfl hHeld ?_
          refine tkY 4 (.bool true) rfl hHeld ?_
          refine tkY 5 (.bool true) rfl hHeld ?_
          refine tkY 6 (.pointer (some ⟨gd, 0, none⟩)) rfl hHeld ?_
          refine tkY 7 (.pointer (some ⟨gd, 0, none⟩)) rfl hHeld ?_
          refine tkY 8 (.pointer (some ⟨gd, 1, none⟩)) rfl hHeld ?_
          refine tkY 9 (.map (some m2)) rfl hHeld ?_
          refine tkY 10 (.pointer (some ⟨g, 0, none⟩)) rfl hHeld ?_
          refine tkY 11 (.pointer (some ⟨g, 0, none⟩)) rfl hHeld ?_
          refine tkY 12 (.pointer (some ⟨g, 0, none⟩)) rfl hHeld ?_
          refine tkY 13 (.pointer (some ⟨g, 3, none⟩)) rfl hHeld ?_
          refine tkY 14 (.string who) rfl hHeld ?_
          refine tkY 15 (.bool false) rfl hHeld ?_
          refine tkY 16 (.bool true) rfl hHeld ?_
          refine tkY 17 (.bool true) rfl hHeld ?_
          refine wpAnyH_done (by kernel_rfl) ?_ _
          have hSf := hSd.front 1 rfl rfl
          have HO5 : w2.drew.ownsRow w0.heap.size 85 1 (.slice A ps.length c) ps.length (ps.flatMap (fun x => [ptvV x])) := hSf.head
          have hsz := hSf.size
          clear hSd
          go_wp2_with (first
            | (at_builtin; refine wpList_append_own_at _ rfl _ _ 83 rfl w0.heap.size 85 i0 (.pointer none) 1 8 Tryz.underlying83 hi hz0 hz1 hz2 rfl (by decide) _ _ _ rfl (HO5.alloc _) ⟨w2.drew.heap.size, 0, none⟩ 1 1 [.pointer (some ⟨g, 0, none⟩)] rfl rfl (World.news_of_block (heap_alloc_new _ _)) (one1 rfl) (by unfold maxLen; omega) (by omega) (by simp at hsz ⊢; omega) ?_; intro v' w11 hown' hgrow _ hblk; have hS9 := (hSf.alloc _).append hown' hgrow hblk; obtain ⟨A8, c8, hv8⟩ := own_form hown'; subst hv8; clear hown' hgrow hblk))
          have hrl : w11.rangeLeft m1 r = cnt2 := (show RngS w11 _ m1 r n1 _ _ cnt2 from hS9.nth 1 rfl).left
          go_roundw
          case rel => exact ⟨A8, c8, seen ++ [s], cnt2, ps ++ [(g, ⟨at_, kd, id, who, by1, ct, tm, dt⟩)], by rw [List.length_append]; rfl, Lib.hid (by rw [List.map_append]; exact HY2.out), HSN2, HPL2, by rw [List.flatMap_append, List.length_append]; exact hS9⟩
          case measure => rw [hrl]; exact HLT.out
        · rw [if_neg (by simp), List.append_nil] at HY2
          go_upto_region 9 with (fail)
          refine wp_region_held_drew (S := (fun W => W.cell? ⟨g, 8, none⟩ = some (.string hs) ∧ W.cell? ⟨g, 3, none⟩ = some (.string who) ∧ W.cell? ⟨gd, 1, none⟩ = some (.map (some m2)) ∧ (Instr.lookup 103 (.map (some m2)) (.string who) false).run Tryz.prog W = .ok (.bool true) W)) (by kernel_rfl) HSP.out (fun hHeld => ?_)
          refine tkY 0 (.pointer (some ⟨g, 0, none⟩)) rfl hHeld ?_
          refine tkY 1 (.pointer (some ⟨g, 0, none⟩)) rfl hHeld ?_
          refine tkY 2 (.pointer (some ⟨g, 8, none⟩)) rfl hHeld ?_
          refine tkY 3 (.string hs) rfl hHeld ?_
          refine tkY 4 (.bool true) rfl hHeld ?_
          refine tkY 5 (.bool true) rfl hHeld ?_
          refine tkY 6 (.pointer (some ⟨gd, 0, none⟩)) rfl hHeld ?_
          refine tkY 7 (.pointer (some ⟨gd, 0, none⟩)) rfl hHeld ?_
          refine tkY 8 (.pointer (some ⟨gd, 1, none⟩)) rfl hHeld ?_
          refine tkY 9 (.map (some m2)) rfl hHeld ?_
          refine tkY 10 (.pointer (some ⟨g, 0, none⟩)) rfl hHeld ?_
          refine tkY 11 (.pointer (some ⟨g, 0, none⟩)) rfl hHeld ?_
          refine tkY 12 (.pointer (some ⟨g, 0, none⟩)) rfl hHeld ?_
          refine tkY 13 (.pointer (some ⟨g, 3, none⟩)) rfl hHeld ?_
          refine tkY 14 (.string who) rfl hHeld ?_
          refine tkY 15 (.bool true) rfl hHeld ?_
          refine tkY 16 (.bool false) rfl hHeld ?_
          refine tkY 17 (.bool false) rfl hHeld ?_
          refine wpAnyH_done (by kernel_rfl) ?_ _
          have hSe := hSd.front 1 rfl rfl
          have hrl : w2.drew.rangeLeft m1 r = cnt2 := (show RngS w2.drew _ m1 r n1 _ _ cnt2 from hSe.nth 1 rfl).left
          clear hSd
          go_wp2_with fail
          go_roundw
          case rel => exact ⟨A, c, seen ++ [s], cnt2, ps, rfl, HY2, HSN2, Lib.hid (fun p hp => HPL2.out p (List.mem_append_left _ hp)), hSe⟩
          case measure => rw [hrl]; exact HLT.out
end Go.Proofs.YtebaaoacmmhppaaGreat
/-
  splitref2.WaitingOf by its contract.
-/
namespace Go.Proofs.YtebaaoacmmhppaaGreat
open Go Go.RowKit Go.Sort
attribute [local go_sem ↓] Go.wp_at_zero Go.wp_at_succ

set_option maxRecDepth 100000 in
set_option maxHeartbeats 8000000 in
theorem waitingOf_calls (b : Nat) (A : Option Addr) (n c : Nat) (l : List Bev) (u : Int) (w : World) (hr : Rd w b 8 (.slice A n c) n (l.flatMap bevC)) (hf : ∀ x ∈ l, bevF x = 0) (hn : n ≤ 3000) :
    Calls Tryz.prog 35 #[.slice A n c, .int .i64 u] w (fun e w' => ∃ (A : Option Addr) (c : Nat) (ys : List Bev), SwtR (folE l u).1 ys ∧ e = .returned (.slice A ys.length c) ∧ Sq w w' [rOwn w.heap.size 9 1 (.slice A ys.length c) ys.length (strsV (ys.map (·.id)))]) := by
  obtain ⟨j0, hj, hy0, hy1, hy2⟩ := info_parts info_str
  have hk : ∀ x ∈ l, EvK x := fun x hx => evK_one (hf x hx)
  obtain ⟨hl, _, _, _⟩ := hr.cells bevC_len (by omega)
  have hz : (folE l u).1.rn.length ≤ 3000 := by
    have h := (fol_cnt l u l.length (Nat.le_refl _)).1
    rw [List.take_length] at h
    omega
  have HLL : Hid (l.length ≤ 3000) := Lib.hid (by omega)
  have HA := Lib.hid (siteAt_calls b A n c l u w hr hk hn)
  have HAT : Hid (∀ x ∈ wtd (folE l u).1, AtB2 x) := Lib.hid (fun x hx => by
    obtain ⟨r, hr, rfl⟩ := List.mem_map.1 hx
    have h := fol_bd hf u r (List.mem_filter.1 hr).1
    exact ⟨by have := h.d0; have := h.d1; omega, h.a1⟩)
  have HZ := Lib.hid hz
  clear hr hk hf hl hz
  go_enter Tryz.func35, Tryz.ntmps35
  go_wp2_with fail
  refine HA.out.mono ?_
  rintro e w2 ⟨gs, m1, m2, m3, n1, n2, n3, V, rfl, hK, h1, h2, h3, hS2⟩
  obtain ⟨gp, hgp⟩ : ∃ z, z = w2.heap.size := ⟨_, rfl⟩
  obtain ⟨W3, hW3, hS3⟩ : ∃ W, W = w2.alloc (.cells #[.pointer (some ⟨gs, 0, none⟩)] 111) ∧ Sq w W (sitL gs m1 n1 m2 n2 m3 n3 V (folE l u).1 [rBlk gp 111 #[.pointer (some ⟨gs, 0, none⟩)]]) := ⟨_, rfl, by
    have h := hS2.add #[.pointer (some ⟨gs, 0, none⟩)] 111
    rw [← hgp] at h
    unfold sitL at h ⊢
    exact ((((h.drop 5 rfl rfl).front 4 rfl rfl).front 4 rfl rfl).front 4 rfl rfl).front 4 rfl rfl⟩
  have HC := Lib.hid (chosenW_calls gs m1 m2 m3 n1 n2 n3 gp V _ w W3 hK HZ.out HAT.out hS3)
  have k0 : W3.cell? ⟨gp, 0, none⟩ = some (.pointer (some ⟨gs, 0, none⟩)) := by
    unfold sitL at hS3
    exact (hS3.nth 4 rfl : Blk W3 gp _ _).cell 0
  clear hS2 hS3 hK h1 h2 h3 HA HZ HAT
  go_upto_region 2 with (fail)
  rw [← hgp, ← hW3]
  clear hgp hW3
  go_wp2_with fail
  refine HC.out.mono ?_
  rintro e w5 ⟨A5, c5, ys, rfl, hY, hS5⟩
  have HY := Lib.hid hY
  have hmz : ys.length ≤ 3000 := by have h1 := HLL.out; have h2 := swt_len hY; omega
  obtain ⟨m, hm⟩ : ∃ m, ys.length = m := ⟨_, rfl⟩
  rw [hm] at hS5 hmz ⊢
  have HM := Lib.hid hm
  have HAP : Hid (0 < m → ∃ g, A5 = some ⟨g, 0, none⟩) := Lib.hid (fun h0 => own_ptr (hS5.head : World.ownsRow _ _ _ _ _ _ _) h0)
  have hT := hS5.nil w.heap.size 9 1
  clear hS5 hY hm HC k0
  go_wp2_with fail
  go_loopw [6, 16] (fun s6 s16 wr => ∃ (j : Nat) (A : Option Addr) (cc : Nat), j ≤ m ∧ s16 = .int .i64 j ∧ s6 = .slice A j cc ∧ Sq w wr [rOwn w.heap.size 9 1 (.slice A j cc) j (strsV ((ys.take j).map (·.id))), rOwn w.heap.size 62 8 (.slice A5 m c5) m (ys.flatMap bevC)]) (fun _ s16 _ => m - (intOf s16).toNat)
  case atStart => exact ⟨0, none, 0, Nat.zero_le _, rfl, rfl, hT⟩
  case round =>
    clear hT
    obtain ⟨j, A7, c7, hj7, rfl, rfl, hS⟩ := hrel
    obtain ⟨wq, hwq⟩ : ∃ z, z = wr := ⟨_, rfl⟩
    subst hwq
    by_cases hlt2 : j < m
    · obtain ⟨g, hg⟩ := HAP.out (by omega)
      subst hg
      have hjp : j < ys.length := by rw [HM.out]; exact hlt2
      obtain ⟨a0, a1, a2, a3, a4, a5, a6, a7⟩ := ev_cells (hS.nth 1 rfl : World.ownsRow _ _ _ _ _ _ _) j hjp hlt2
      have HTK : Hid ((ys.take (j + 1)).map (·.id) = (ys.take j).map (·.id) ++ [ys[j].id]) := Lib.hid (by
        rw [List.take_succ_eq_append_getElem hjp, List.map_append]
        rfl)
      obtain ⟨⟨at_, kd, id, whx, by1, ct, tm, dt⟩, hx⟩ : ∃ x, ys[j] = x := ⟨_, rfl⟩
      rw [hx] at a0 a1 a2 a3 a4 a5 a6 a7 HTK
      simp only at a0 a1 a2 a3 a4 a5 a6 a7 HTK
      have hSA := hS.add #[.int .i64 at_, .int .i64 kd, .string id, .string whx, .string by1, .string ct, .int .i64 tm, .int .i64 dt] 62
      have hj0 : (0 : Int) ≤ (j : Int) := by omega
      have hj1 : (j : Int) < (m : Int) := by omega
      obtain ⟨WA, hWA⟩ : ∃ W, W = wq.alloc (.cells #[.int .i64 at_, .int .i64 kd, .string id, .string whx, .string by1, .string ct, .int .i64 tm, .int .i64 dt] 62) := ⟨_, rfl⟩
      obtain ⟨gE, hgE⟩ : ∃ z, z = wq.heap.size := ⟨_, rfl⟩
      rw [← hWA, ← hgE] at hSA
      have HSA := Lib.hid hSA
      clear hS hx hjp hSA
      go_upto_region 6 with (fail)
      rw [← hWA, ← hgE]
      have e2 := (HSA.out.nth 0 rfl : Blk _ gE _ _).cell 2
      have hS6 := HSA.out.drop 0 rfl rfl
      have HO5 : WA.ownsRow w.heap.size 9 1 (.slice A7 j c7) j (strsV ((ys.take j).map (·.id))) := hS6.head
      have hsz := hS6.size
      clear hWA hgE a0 a1 a2 a3 a4 a5 a6 a7 HSA
      go_wp2_with (first
        | (at_builtin; refine wpList_append_own_at _ rfl _ _ 40 rfl w.heap.size 9 j0 (.string ⟨#[]⟩) 1 16 Tryz.underlying40 hj hy0 hy1 hy2 rfl (by decide) _ _ _ rfl (HO5.alloc _) ⟨WA.heap.size, 0, none⟩ 1 1 [.string id] rfl rfl (World.news_of_block (heap_alloc_new _ _)) (by intro u hu; simp only [List.mem_cons, List.not_mem_nil, or_false] at hu; rcases hu with rfl; rfl) (by unfold maxLen; omega) (by omega) (by simp; omega) ?_; intro v' w11 hown' hgrow _ hblk; have hS9 := (hS6.alloc _).append hown' hgrow hblk; obtain ⟨A8, c8, hv8⟩ := own_form hown'; subst hv8; clear hown' hgrow hblk))
      go_roundw
      case rel => exact ⟨j + 1, A8, c8, by omega, by go_num, rfl, by rw [HTK.out, strsV_snoc]; exact hS9⟩
      case measure => simp [intOf]; omega
    · obtain rfl : j = m := by omega
      have HF : Hid (∃ (A : Option Addr) (c : Nat) (ys : List Bev), SwtR (folE l u).1 ys ∧ Ending.returned (.slice A7 j c7) = .returned (.slice A ys.length c) ∧ Sq w wq [rOwn w.heap.size 9 1 (.slice A ys.length c) ys.length (strsV (ys.map (·.id)))]) := Lib.hid (by
        refine ⟨A7, c7, ys, HY.out, by rw [HM.out], ?_⟩
        have h := hS.drop 1 rfl rfl
        rw [List.take_of_length_le (by rw [HM.out]; exact Nat.le_refl _)] at h
        rw [HM.out]
        exact h)
      clear hS
      go_wp2_with fail
      go_ret
      exact HF.out
end Go.Proofs.YtebaaoacmmhppaaGreat
