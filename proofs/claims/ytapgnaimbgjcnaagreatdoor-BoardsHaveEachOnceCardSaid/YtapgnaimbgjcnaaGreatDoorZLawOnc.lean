/-
  BoardsHaveEachOnce: the law's own walk. (Printed by gen_lawonc.py.)
-/
import Derived.Test.YtapgnaimbgjcnaaGreatDoorZLawFal
import Derived.Test.YtapgnaimbgjcnaaGreatDoorZDk6
import Derived.Sort.Defs
import Derived.Test.YtapgnaimbgjcnaaGreatDoorZBase
import Derived.RegionTactic
import Derived.Test.YtapgnaimbgjcnaaGreatDoorZScmp
import Derived.Test.YtapgnaimbgjcnaaGreatDoorZSlot3
import Derived.Test.YtapgnaimbgjcnaaGreatDoorZDk7
import Derived.Test.YtapgnaimbgjcnaaGreatDoorZTakF
import Derived.Test.YtapgnaimbgjcnaaGreatDoorZEqRw
namespace Go.Proofs.YtapgnaimbgjcnaaGreatDoor
open Go Go.RowKit
attribute [local go_sem ↓] Go.wp_at_zero Go.wp_at_succ
theorem cat_who {l : List Bev} {u : Int} {who : ByteArray} (h : bevsF l = 0) (h0 : 0 ≤ u) (h1 : u ≤ 1000) (hw : keyBv who = true) : catF l [anyX, who] u = 0 := by
 unfold catF
 rw [if_pos h]
 have hk : ([anyX, who].any (fun s => !keyBv s)) = false := by rw [List.any_cons, List.any_cons, anyX_key, hw]; rfl
 rw [if_neg (by rw [hk]; decide)]
 have hm : momB u = true := by
  unfold momB outB
  rw [Bool.not_eq_true', decide_eq_false_iff_not]
  omega
 rw [if_pos hm]
theorem wld_any {l : List Bev} {u t : Int} (h : bevsF l = 0) (h0 : 0 ≤ u) (h1 : u ≤ 1000) (t0 : 1 ≤ t) (t1 : t ≤ 864000000) : wouldF l anyX t u = 0 := by
 unfold wouldF
 rw [if_pos h, if_pos anyX_key]
 have ho : outB t 1 864000000 = false := by
  unfold outB
  rw [decide_eq_false_iff_not]
  omega
 rw [if_neg (by rw [ho]; decide)]
 have hm : momB u = true := by
  unfold momB outB
  rw [Bool.not_eq_true', decide_eq_false_iff_not]
  omega
 rw [if_pos hm]
theorem who_key {x : Bev} (h : bevF x = 0) (hk : x.kind = 1) : keyBv x.who = true := by
 obtain ⟨_, _, h3, _, _⟩ := bevF_ok h
 unfold bevK at h3
 simp only [Bool.or_eq_false_iff, Bool.and_eq_false_iff, Bool.not_eq_false'] at h3
 rcases h3.1.1.2 with h | h
 · unfold usW at h
   rw [decide_eq_false_iff_not] at h
   exact absurd (.inl hk) h
 · exact h
theorem row_ok {l : List Bev} (h : ∀ x ∈ l, bevF x = 0) {u : Int} {cat : ByteArray} {ys : List Bev} (hY : SbdR (folE l u).1 cat ys) {z : Brw} (hz : z ∈ rowsB ys) : keyBv z.who = true ∧ z.who.size ≤ 40 ∧ 1 ≤ z.time ∧ z.time ≤ 864000000 := by
 obtain ⟨x, hx, h1, h2, _⟩ := rows_from hz
 have hb := hY.1.mem_iff.1 hx
 unfold brd at hb
 obtain ⟨r, hr, rfl⟩ := List.mem_map.1 hb
 have hr := (List.mem_filter.1 hr).1
 have h3 := fol_in l u l.length (Nat.le_refl _) r (by rw [List.take_length]; exact hr)
 have h4 := who_key (h _ h3.1) h3.2
 have h5 := fol_bd h u r hr
 rw [h1, h2]
 exact ⟨h4, (keyBv_sz h4).2, h5.t0, h5.t1⟩
theorem rowI_one {l k : List Bev} {u : Int} {cat : ByteArray} (hK : KD (folE l u).1) (he : (folE k u).1 = (folE l u).1) {R S : List Brw} (h1 : RwIs l cat u 0 R) (h2 : RwIs k cat u 0 S) : R = S := by
 obtain ⟨ys, hy, rfl⟩ := h1.1 rfl
 obtain ⟨zs, hz, rfl⟩ := h2.1 rfl
 rw [he] at hz
 rw [sbd_one hK hy hz]
set_option maxRecDepth 100000 in
set_option maxHeartbeats 8000000 in
theorem onc_walk (a0 : Option Addr) (len0 cap0 : Nat) (z0 : List Int) (w : World) (w0 : InRow w a0 len0 cap0 z0) (ht : Tab w) :
 Calls Tryz.prog 6 #[.slice a0 len0 cap0] w fun e w' => e = .returned (.bool true) ∧ Below w.heap.size w w' := by
 have HTB := Lib.hid ht
 clear ht
 have hs0 := strmX_start w0 25
 have hb0 : Bx w.heap.size w.heap.size w (w.alloc (.cells #[.slice a0 len0 cap0, .int .i64 0] 25)) := (Bx.refl _ _ _).alloc (Nat.le_refl _) _
 obtain ⟨W1, hW1⟩ : ∃ W, W = w.alloc (.cells #[.slice a0 len0 cap0, .int .i64 0] 25) := ⟨_, rfl⟩
 obtain ⟨zs, hzs⟩ : ∃ zs : ZsT, (⟨z0.take len0, w.heap.size⟩ : ZsT) = zs := ⟨_, rfl⟩
 rw [← hW1, hzs] at hs0
 rw [← hW1] at hb0
 have hX0 := SpX.start hs0
 clear w0 hs0 hzs
 go_enter Tryz.func6, Tryz.ntmps6
 go_wp2_with fail
 rw [← hW1]
 clear hW1
 obtain ⟨b, hb⟩ : ∃ b, b = w.heap.size := ⟨_, rfl⟩
 rw [← hb] at hX0 hb0 ⊢
 have HBE := Lib.hid hb
 have HB0 := Lib.hid hb0
 clear hb hb0
 refine (spE_range hX0 0 24 (by omega) (by omega) (by omega) (by omega)).mono ?_
 rintro e w2 ⟨m, rfl, _, m0, m1, hX2⟩
 obtain ⟨m, rfl⟩ := Int.eq_ofNat_of_zero_le m0
 have hc2 : b < w2.heap.size := hX2.lt
 go_wp2_with fail
 refine (rightEventsX_calls b 1 m zs w2 hX2.strm (by omega) (by omega)).mono ?_
 rintro e w3 ⟨A, c, base, l, r, rfl, _, hl0, hdr, hlz, hlm, hr, hbase, hX3⟩
 have hlen : l.length ≤ 24 := by omega
 have hr3 : r ≤ 5000 := by omega
 have HB2 := Lib.hid hX2.bx
 have hn0 : l.length ≤ 24 := hlen
 have hn3 : l.length ≤ 3000 := by omega
 go_wp2_with fail
 refine (spE_range hX3 0 100 (by omega) (by omega) (by omega) (by omega)).mono ?_
 rintro e w4 ⟨u, rfl, _, u0, u1, hX4⟩
 have HO4 : w4.ownsRow base 78 8 (.slice A l.length c) l.length (l.flatMap bevC) := hX4.head
 have hr4 : Bevs w4 b A l.length c l := ⟨Rd.own HO4 (Nat.lt_of_lt_of_le hc2 hbase), hlz.bevW⟩
 have hlt4 : b < w4.heap.size := hX4.lt
 have HBW : Hid (Below w.heap.size w w4) := Lib.hid (by
  have h2 := (HB0.out.call HB2.out (by have := HBE.out; omega)).call hX4.bx (by have := HBE.out; omega)
  rw [← HBE.out]
  exact h2.below (Nat.le_refl _))
 have hv := (bevs_ok hl0).1
 have hat : ∀ x ∈ l, x.at_ ≤ 345686400000 := fun x hx => at_end (hv x hx)
 obtain ⟨K, hK⟩ : ∃ K, stayF dsk0 l = K := ⟨_, rfl⟩
 have hKs : K.Sublist l := hK ▸ stay_sub l dsk0
 have hK0 := bevs_sub hl0 hKs
 have HWT : Hid (wthE l (refI l) l.length = K) := Lib.hid ((without_stay l 345686400000 hat).trans hK)
 have HRK : Hid (refI K = []) := Lib.hid (by unfold refI; rw [← hK]; exact stay_none l 345686400000 hat)
 have HDK : Hid ((folE K u).1 = (folE l u).1) := Lib.hid (by rw [← hK]; exact stay_board hl0 u)
 have HKD : Hid (KD (folE l u).1) := Lib.hid (by
  have h2 := KD.fol l u (evK_all hl0) l.length (Nat.le_refl _)
  rwa [List.take_length] at h2)
 have hKW : ∀ x ∈ K, BevW x := fun x hx => hlz.bevW x (hKs.subset hx)
 have hKn : K.length ≤ 3000 := Nat.le_trans hKs.length_le hn3
 have HV := Lib.hid hv
 have HL0 := Lib.hid hl0
 have HT := Lib.hid (fun W (h : Below w4.heap.size w4 W) => HTB.out.below (below_call HBW.out h (by have := HBW.out.size; omega)))
 have HRY := Lib.hid (fun W (h : Below w4.heap.size w4 W) => ready_calls b W (Nat.lt_of_lt_of_le hlt4 h.size) (HT.out W h))
 have HLT4 := Lib.hid hlt4
 have HR4 := Lib.hid (fun W (h : Below w4.heap.size w4 W) => hr4.below h)
 have P1 := Lib.hid (refused_calls b A l.length c l w4 hr4 hn3)
 have P2 := Lib.hid (fun A2 m2 c2 W (h : Below w4.heap.size w4 W) h2 => withoutE_calls b A A2 l.length c m2 c2 l (refI l) W (HR4.out W h).rd h2 (by omega))
 have P3 := Lib.hid (fun A2 c2 W (h : Bevs W b A2 K.length c2 K) => refused_calls b A2 K.length c2 K W h hKn)
 have P4 := Lib.hid (fun W (h : Below w4.heap.size w4 W) => board_calls b A l.length c l u anyX W (Nat.lt_of_lt_of_le hlt4 h.size) (HR4.out W h) hn3 (by decide))
 have P5 := Lib.hid (fun A2 c2 W (h : b < W.heap.size) (h2 : Bevs W b A2 K.length c2 K) => board_calls b A2 K.length c2 K u anyX W h h2 hKn (by decide))
 have P6 := Lib.hid (fun who W (h : Below w4.heap.size w4 W) (hw : who.size ≤ 1000000) => place_calls b A l.length c l u anyX who W (Nat.lt_of_lt_of_le hlt4 h.size) (HR4.out W h) hn3 (by decide) hw)
 have P7 := Lib.hid (fun t W (h : Below w4.heap.size w4 W) => would_calls b A l.length c l t u anyX W (HR4.out W h) hn3 (by decide))
 have E1 := Lib.hid (fun W => errs0_calls [0, 0, 0, 0] 4 rfl (by decide) (by omega) W)
 have E2 := Lib.hid (fun W => errs0_calls [0, 0] 2 rfl (by decide) (by omega) W)
 rw [hl0] at P1
 rw [hK0] at P3
 rw [cat_any hl0 (by omega) (by omega)] at P4
 rw [cat_any hK0 (by omega) (by omega)] at P5
 simp only [List.map_cons, List.map_nil] at E1 E2
 have HKW := Lib.hid hKW
 have HKN := Lib.hid hKn
 obtain ⟨n, hn⟩ : ∃ n, l.length = n := ⟨_, rfl⟩
 rw [hn] at P1 P2 P4 P6 P7 hn0 ⊢
 have HN := Lib.hid hn
 have hany : anyX = ⟨#[97, 110, 121]⟩ := rfl
 rw [hany] at P4 P5 P6 P7
 have HU := Lib.hid (And.intro u0 u1)
 clear hX0 hX2 hX3 hX4 HO4 hr4 hlt4 hv hat hK hKs hK0 hKW hKn hl0 hdr hlz hlm hr hr3 hbase hn hlen m0 m1 hc2 hn3 hany u0 u1 HT HR4
 go_wp2_with fail
 refine P1.out.mono ?_
 rintro e w5 ⟨A5, c5, RI, hRI, _, rfl, hS5⟩
 replace hRI := hRI rfl
 subst hRI
 obtain ⟨n5, hn5⟩ : ∃ z, (refI l).length = z := ⟨_, rfl⟩
 rw [hn5] at hS5 ⊢
 have S5 := hS5.below
 have hRd5 : Rd w5 b 1 (.slice A5 n5 c5) n5 ((refI l).map (Value.int .i64)) := Rd.own (hS5.head : World.ownsRow _ _ _ _ _ _ _) HLT4.out
 have HH := Lib.hid (P2.out A5 n5 c5 w5 S5 hRd5)
 rw [← HN.out] at HH
 rw [HWT.out] at HH
 clear hS5 hn5 hRd5 P1 P2
 go_wp2_with fail
 rw [← HN.out]
 refine HH.out.mono ?_
 rintro e w6 ⟨v6, rfl, ho6, hb6⟩
 obtain ⟨A6, c6, hv6⟩ := own_form ho6
 subst hv6
 have S6 := below_call S5 hb6 (Nat.le_refl _)
 have hr6 : Bevs w6 b A6 K.length c6 K := ⟨Rd.own ho6 (Nat.lt_of_lt_of_le HLT4.out S5.size), HKW.out⟩
 have HR6 := Lib.hid (fun W (h : Below w6.heap.size w6 W) => hr6.below h)
 rw [HN.out]
 obtain ⟨k6, hk6⟩ : ∃ z, K.length = z := ⟨_, rfl⟩
 rw [hk6] at P3 P5 HR6 hr6 ⊢
 clear ho6 hb6 S5 HH
 go_wp2_with fail
 refine (P3.out A6 c6 w6 hr6).mono ?_
 rintro e w7 ⟨A7, c7, RJ, hRJ, _, rfl, hS7⟩
 replace hRJ := (hRJ rfl).trans HRK.out
 subst hRJ
 have S67 := hS7.below
 have S7 := below_call S6 S67 (Nat.le_refl _)
 clear hS7 P3 hr6
 go_wp2_with fail
 refine (P4.out w7 S7).mono ?_
 rintro e w8 ⟨A1, c1, R1, hI1, rfl, hS8⟩
 have HI1 := Lib.hid hI1
 have S68 := below_call S67 hS8.below (Nat.le_refl _)
 have S8 := below_call S7 hS8.below (Nat.le_refl _)
 have hRd1 : Rd w8 b 5 (.slice A1 R1.length c1) R1.length (R1.flatMap brwC) := Rd.own (hS8.head : World.ownsRow _ _ _ _ _ _ _) (Nat.lt_of_lt_of_le HLT4.out S7.size)
 have HRd1 := Lib.hid hRd1
 obtain ⟨n1, hn1⟩ : ∃ z, R1.length = z := ⟨_, rfl⟩
 rw [hn1] at HRd1 ⊢
 have HN1 := Lib.hid hn1
 clear hI1 hS8 hRd1 hn1 S67 S7 P4
 go_wp2_with fail
 refine (P5.out A6 c6 w8 (Nat.lt_of_lt_of_le HLT4.out S8.size) (HR6.out w8 S68)).mono ?_
 rintro e w9 ⟨A2, c2, R2, hI2, rfl, hS9⟩
 have hRR := rowI_one HKD.out HDK.out HI1.out hI2
 subst hRR
 rw [HN1.out] at hS9 ⊢
 have S9 := below_call S8 hS9.below (Nat.le_refl _)
 have HX9 := Lib.hid (And.intro (HRd1.out.below hS9.below) (Rd.own (hS9.head : World.ownsRow _ _ _ _ _ _ _) (Nat.lt_of_lt_of_le HLT4.out S8.size) : Rd w9 b 5 (.slice A2 n1 c2) n1 (R1.flatMap brwC)))
 have HS9 := Lib.hid S9
 have HROW : Hid (∀ z ∈ R1, keyBv z.who = true ∧ z.who.size ≤ 40 ∧ 1 ≤ z.time ∧ z.time ≤ 864000000) := Lib.hid (by
  obtain ⟨ys, hY, rfl⟩ := HI1.out.1 rfl
  exact fun z hz => row_ok HV.out hY hz)
 have HPLC : Hid (∀ z ∈ R1, ∀ rs, RwIs l anyX u 0 rs → plcB rs z.who = some z) := Lib.hid (by
  intro z hz rs hrs
  have e := rowI_one HKD.out rfl HI1.out hrs
  rw [← e]
  obtain ⟨ys, hY, rfl⟩ := HI1.out.1 rfl
  exact rows_place ys hz)
 have HRNK : Hid (∀ z ∈ R1, ∀ rs, RwIs l anyX u 0 rs → wldB rs z.time = z.rank) := Lib.hid (by
  intro z hz rs hrs
  have e := rowI_one HKD.out rfl HI1.out hrs
  rw [← e]
  obtain ⟨ys, hY, rfl⟩ := HI1.out.1 rfl
  exact rows_rank ys hz)
 have HTM : Hid (R1.Pairwise (fun a b => a.time ≤ b.time)) := Lib.hid (by
  obtain ⟨ys, hY, rfl⟩ := HI1.out.1 rfl
  exact rows_times hY)
 have HWHO : Hid ((R1.map (·.who)).Nodup) := Lib.hid (by
  obtain ⟨ys, hY, rfl⟩ := HI1.out.1 rfl
  exact rows_who ys)
 have EW := Lib.hid (E1.out w9)
 clear hI2 hS9 HRd1 P5 S8 S9 S68 HR6 E1 HI1 HKD HDK HKW HKN HRK HWT
 go_upto_region 8 with (fail)
 go_cut [73] (fun s73 W => ∃ w33, w33 = W ∧ s73 = .bool false ∧ Below w9.heap.size w9 W)
 case first =>
  go_wp2_with fail
  refine EW.out.mono ?_
  rintro e w10 ⟨rfl, hb10⟩
  have HQ := Lib.hid (equalRw_calls b A1 A2 n1 c1 c2 R1 w10 (HX9.out.1.below hb10) (HX9.out.2.below hb10))
  go_wp2_with fail
  refine HQ.out.mono ?_
  rintro e w11 ⟨rfl, nq, hw11⟩
  have S11 : Below w9.heap.size w9 w11 := by rw [hw11]; exact below_drewN hb10 nq
  clear hw11 HQ hb10
  go_wp2_with fail
  go_meet
  exact ⟨_, rfl, rfl, S11⟩
 case rest =>
 obtain ⟨w11, hw11, rfl, hb11⟩ := hcut
 subst hw11
 clear EW
 have HS11 := Lib.hid (below_call HS9.out hb11 (Nat.le_refl _))
 have HX11 := Lib.hid (HX9.out.1.below hb11)
 obtain ⟨hyl, hyc, hym, hcells⟩ := HX11.out.cells brwC_len (by omega)
 have HC := Lib.hid hcells
 unfold maxLen at hym
 clear hb11 HX9 HS9 hcells
 go_wp2_with fail
 go_loopw [76] (fun i wr => ∃ k : Nat, k ≤ n1 ∧ i = .int .i64 k ∧ Below w11.heap.size w11 wr) (fun i _ => n1 - (intOf i).toNat)
 case atStart => exact ⟨0, Nat.zero_le _, rfl, Below.refl _ _⟩
 case round =>
  obtain ⟨k, hk, rfl, hb⟩ := hrel
  obtain ⟨wo, hwo⟩ : ∃ z, z = wr := ⟨_, rfl⟩
  subst hwo
  by_cases hlt : k < n1
  · have hkr : k < R1.length := by omega
    obtain ⟨g, o, hA, hgb, hcs⟩ := HC.out (by omega)
    subst hA
    have hmem := List.getElem_mem hkr
    have hrow := HROW.out _ hmem
    have hplc := HPLC.out _ hmem
    have hrnk := HRNK.out _ hmem
    have c0 := below_cell hb (hcs k hkr 0 (by omega))
    have c1' := below_cell hb (hcs k hkr 1 (by omega))
    have c2' := below_cell hb (hcs k hkr 2 (by omega))
    have c3' := below_cell hb (hcs k hkr 3 (by omega))
    have c4' := below_cell hb (hcs k hkr 4 (by omega))
    have HPRE : Hid (∀ i, (hi : i + 1 = k) → ∃ tp : Int, tp ≤ (R1[k]).time ∧ w11.cell? ⟨g, o + i * 5 + 1, none⟩ = some (.int .i64 tp)) := Lib.hid (fun i hi => by
     have hir : i < R1.length := by omega
     refine ⟨R1[i].time, ?_, hcs i hir 1 (by omega)⟩
     exact List.pairwise_iff_getElem.1 HTM.out i k hir hkr (by omega))
    have HTK : Hid ((R1.take k).any (oncQ (R1[k])) = false) := Lib.hid (by
     rw [List.any_eq_false]
     intro x hx hq
     unfold oncQ at hq
     have hq : x.who = (R1[k]).who := (eqS_iff _ _).1 hq
     obtain ⟨i, hi, hxi⟩ := List.mem_take_iff_getElem.1 hx
     have hne := List.pairwise_iff_getElem.1 (List.pairwise_map.1 HWHO.out) i k (by omega) hkr (by omega)
     rw [← hxi] at hq
     exact hne hq)
    have hrdT : Rd w11 b 5 (.slice (some ⟨g, o, none⟩) k c1) k ((R1.take k).flatMap brwC) := HX11.out.takeF brwC_len k (by omega)
    obtain ⟨z, hz⟩ : ∃ z, R1[k] = z := ⟨_, rfl⟩
    rw [hz] at c0 c1' c2' c3' c4' hrow hplc hrnk HPRE HTK
    obtain ⟨q1, q2, q3, q4⟩ := hrow
    obtain ⟨zr, zt, zi, zw, zd⟩ := z
    simp only at q1 q2 q3 q4 hplc hrnk HPRE
    replace c0 : wo.cell? ⟨g, o + k * 5, none⟩ = some (.int .i64 zr) := c0
    replace c1' : wo.cell? ⟨g, o + k * 5 + 1, none⟩ = some (.int .i64 zt) := c1'
    replace c2' : wo.cell? ⟨g, o + k * 5 + 2, none⟩ = some (.string zi) := c2'
    replace c3' : wo.cell? ⟨g, o + k * 5 + 3, none⟩ = some (.string zw) := c3'
    replace c4' : wo.cell? ⟨g, o + k * 5 + 4, none⟩ = some (.int .i64 zd) := c4'
    have hSE := (Sq.start wo).add #[.int .i64 zr, .int .i64 zt, .string zi, .string zw, .int .i64 zd] 80
    obtain ⟨WE, hWE⟩ : ∃ W, W = wo.alloc (.cells #[.int .i64 zr, .int .i64 zt, .string zi, .string zw, .int .i64 zd] 80) := ⟨_, rfl⟩
    obtain ⟨E, hE⟩ : ∃ E, E = wo.heap.size := ⟨_, rfl⟩
    rw [← hWE, ← hE] at hSE
    have hbE : Below w11.heap.size w11 WE := by rw [hWE]; exact hb.alloc hb.size _
    have bE : Blk WE E _ _ := hSE.head
    have e1 := bE.cell 1
    have e3 := bE.cell 3
    have hk0 : (0 : Int) ≤ (k : Int) := by omega
    have hk2 : (k : Int) < (n1 : Int) := by omega
    have S4E := below_call HS11.out hbE (Nat.le_refl _)
    have HP6 := Lib.hid (P6.out zw WE S4E (by omega))
    rw [show catF l [⟨#[97, 110, 121]⟩, zw] u = 0 from cat_who HL0.out HU.out.1 (by have := HU.out.2; omega) q1] at HP6
    have HSE := Lib.hid hSE
    have HBE3 := Lib.hid hbE
    have HPLC2 := Lib.hid hplc
    have HRNK2 := Lib.hid hrnk
    have HWLD := Lib.hid (wld_any HL0.out HU.out.1 (by have := HU.out.2; omega) q3 q4)
    have HRT := Lib.hid hrdT
    clear hz hcs hmem hplc hrnk hSE hbE bE hb S4E q1 q2 q3 q4 hrdT
    go_upto_region 13 with (fail)
    rw [← hWE, ← hE]
    clear hWE hE c0 c1' c2' c3' c4'
    go_wp2_with fail
    refine HP6.out.mono ?_
    rintro e w13 ⟨rs, hI, rfl, hb13⟩
    rw [HPLC2.out rs hI, show plcV (some (⟨zr, zt, zi, zw, zd⟩ : Brw)) = Value.agg #[.int .i64 zr, .int .i64 zt, .string zi, .string zw, .int .i64 zd] from rfl, Option.isSome_some]
    have hS13 := (HSE.out.callB hb13).add #[.int .i64 zr, .int .i64 zt, .string zi, .string zw, .int .i64 zd] 80
    obtain ⟨W14, hW14⟩ : ∃ W, W = w13.alloc (.cells #[.int .i64 zr, .int .i64 zt, .string zi, .string zw, .int .i64 zd] 80) := ⟨_, rfl⟩
    obtain ⟨G, hG⟩ : ∃ G, G = w13.heap.size := ⟨_, rfl⟩
    rw [← hW14, ← hG] at hS13
    have hbe14 : Below WE.heap.size WE W14 := by rw [hW14]; exact hb13.alloc hb13.size _
    have S14 := below_call (below_call HS11.out HBE3.out (Nat.le_refl _)) hbe14 (Nat.le_refl _)
    have HB14 := Lib.hid (below_call HBE3.out hbe14 (Nat.le_refl _))
    have HP7 := Lib.hid (P7.out zt W14 S14)
    rw [show wouldF l ⟨#[97, 110, 121]⟩ zt u = 0 from HWLD.out] at HP7
    have HSE14 := Lib.hid hS13
    have e1 := (hS13.nth 1 rfl : Blk W14 E _ _).cell 1
    clear hI hb13 hS13 hbe14 S14 HP6 HSE HBE3 e3
    go_upto_region 14 with (fail)
    rw [← hG, ← hW14]
    clear hG hW14
    go_wp2_with fail
    refine HP7.out.mono ?_
    rintro e w15 ⟨rs, NN, hI, hN0, _, rfl, hb15⟩
    have hNN : NN = zr := (hN0 rfl).trans (HRNK2.out rs hI)
    subst hNN
    have hS15 := HSE14.out.callB hb15
    have HB15 := Lib.hid (below_call HB14.out hb15 (Nat.le_refl _))
    have HS15 := Lib.hid hS15
    clear hI hN0 hb15 HP7 HSE14 HB14 e1
    go_upto_region 15 with (fail)
    have bG : Blk w15 G _ _ := HS15.out.head
    have bE : Blk w15 E _ _ := HS15.out.nth 1 rfl
    have HBB := Lib.hid (And.intro bG bE)
    have HE2 := Lib.hid (E2.out w15.drew)
    have HOC := Lib.hid (fun W (h : Below w15.heap.size w15 W) => hasOnc_calls b E (⟨NN, zt, zi, zw, zd⟩ : Brw) (some ⟨g, o, none⟩) k c1 (R1.take k) W (HBB.out.2.below h) (HRT.out.below (below_call HB15.out h (Nat.le_refl _))))
    rw [HTK.out] at HOC
    have p1 : (NN == NN) = true := by simp
    have p2 : (zt == zt) = true := by simp
    have p3 : (zi.toList == zi.toList) = true := by simp
    have p4 : (zw.toList == zw.toList) = true := by simp
    have p5 : (zd == zd) = true := by simp
    rcases Nat.eq_zero_or_pos k with h0 | h0
    · subst h0
      have HCC := Lib.hid (fun V (h : Below w15.heap.size w15 V) => And.intro (below_cell h (bG.cell 0)) (And.intro (below_cell h (bG.cell 1)) (And.intro (below_cell h (bG.cell 2)) (And.intro (below_cell h (bG.cell 3)) (And.intro (below_cell h (bG.cell 4)) (And.intro (below_cell h (bE.cell 0)) (And.intro (below_cell h (bE.cell 1)) (And.intro (below_cell h (bE.cell 2)) (And.intro (below_cell h (bE.cell 3)) (below_cell h (bE.cell 4)))))))))))
      clear bG bE HPRE HTK HRT
      refine wp_region_held_drew (S := fun V => V.cell? ⟨G, 0, none⟩ = some (.int .i64 NN) ∧ V.cell? ⟨G, 1, none⟩ = some (.int .i64 zt) ∧ V.cell? ⟨G, 2, none⟩ = some (.string zi) ∧ V.cell? ⟨G, 3, none⟩ = some (.string zw) ∧ V.cell? ⟨G, 4, none⟩ = some (.int .i64 zd) ∧ V.cell? ⟨E, 0, none⟩ = some (.int .i64 NN) ∧ V.cell? ⟨E, 1, none⟩ = some (.int .i64 zt) ∧ V.cell? ⟨E, 2, none⟩ = some (.string zi) ∧ V.cell? ⟨E, 3, none⟩ = some (.string zw) ∧ V.cell? ⟨E, 4, none⟩ = some (.int .i64 zd)) (by kernel_rfl) (HCC.out _ (below_drewN (Below.refl _ _) 1)) (fun hHeld => ?_)
      refine tkY 0 (.int .i64 0) rfl hHeld ?_
      refine tkY 1 (.int .i64 0) rfl hHeld ?_
      refine tkC 2 rfl (fun K hK => ?_)
      go_simp
      refine hK.out _ _ (HCC.out _ ((below_drewN (Below.refl _ _) 1).alloc (Nat.le_refl _) _)) (fun hHeld => ?_)
      clear hK K
      try simp only [Act.put, List.getElem_toArray, List.getElem_cons_zero, List.getElem_cons_succ, List.setIfInBounds_toArray, List.set_cons_zero, List.set_cons_succ]
      refine tkC 3 rfl (fun K hK => ?_)
      go_simp
      go_at_call 42
      refine HE2.out.mono ?_
      rintro e w16 ⟨rfl, hb16⟩
      have B16 := below_call (below_drewN (Below.refl _ _) 1) hb16 (Nat.le_refl _)
      refine hK.out _ _ (HCC.out _ B16) (fun hHeld => ?_)
      clear hK K
      try simp only [Act.put, List.getElem_toArray, List.getElem_cons_zero, List.getElem_cons_succ, List.setIfInBounds_toArray, List.set_cons_zero, List.set_cons_succ]
      refine tkY 4 (.bool false) rfl hHeld ?_
      refine tkY 5 (.bool false) rfl hHeld ?_
      refine tkY 6 (.bool true) rfl hHeld ?_
      refine tkY 7 (.bool false) rfl hHeld ?_
      refine tkY 8 (.bool false) rfl hHeld ?_
      refine tkY 9 (.bool false) rfl hHeld ?_
      refine tkY 10 (.agg #[.int .i64 NN, .int .i64 zt, .string zi, .string zw, .int .i64 zd]) rfl hHeld ?_
      refine tkY 11 (.agg #[.int .i64 NN, .int .i64 zt, .string zi, .string zw, .int .i64 zd]) rfl hHeld ?_
      refine tkY 12 (.bool false) rfl hHeld ?_
      refine tkY 13 (.bool false) rfl hHeld ?_
      refine tkY 14 (.bool false) rfl hHeld ?_
      refine tkY 15 (.int .i64 NN) rfl hHeld ?_
      refine tkY 16 (.pointer (some ⟨E, 0, none⟩)) rfl hHeld ?_
      refine tkY 17 (.int .i64 NN) rfl hHeld ?_
      refine tkY 18 (.bool false) rfl hHeld ?_
      refine tkY 19 (.bool false) rfl hHeld ?_
      refine tkY 20 (.bool false) rfl hHeld ?_
      refine tkY 21 (.int .i64 (0 : Int)) rfl hHeld ?_
      refine tkY 22 (.bool false) rfl hHeld ?_
      refine tkY 23 (.bool false) rfl hHeld ?_
      refine tkN 24 rfl hHeld ?_
      refine tkN 25 rfl hHeld ?_
      refine tkN 26 rfl hHeld ?_
      refine tkN 27 rfl hHeld ?_
      refine tkN 28 rfl hHeld ?_
      refine tkN 29 rfl hHeld ?_
      refine tkN 30 rfl hHeld ?_
      refine tkN 31 rfl hHeld ?_
      refine tkN 32 rfl hHeld ?_
      refine tkY 33 (.bool false) rfl hHeld ?_
      refine tkY 34 (.bool false) rfl hHeld ?_
      refine tkY 35 (.bool false) rfl hHeld ?_
      refine tkY 36 (.slice (some ⟨g, o, none⟩) n1 c1) rfl hHeld ?_
      refine tkY 37 (.int .i64 (0 : Int)) rfl hHeld ?_
      refine tkY 38 (.slice (some ⟨g, o, none⟩) 0 c1) rfl hHeld ?_
      refine tkY 39 (.func (.func 50) #[] #[.pointer (some ⟨E, 0, none⟩)]) rfl hHeld ?_
      refine tkC 40 rfl (fun K hK => ?_)
      go_simp
      go_at_call 43
      refine (HOC.out w16 B16).mono ?_
      rintro e w17 ⟨rfl, hb17⟩
      have B17 := below_call B16 hb17 (Nat.le_refl _)
      refine hK.out _ _ (HCC.out _ B17) (fun hHeld => ?_)
      clear hK K
      try simp only [Act.put, List.getElem_toArray, List.getElem_cons_zero, List.getElem_cons_succ, List.setIfInBounds_toArray, List.set_cons_zero, List.set_cons_succ]
      refine tkY 41 (.bool false) rfl hHeld ?_
      refine wpAnyH_done (by kernel_rfl) ?_ _
      have HB17 := Lib.hid (below_call HB15.out B17 (Nat.le_refl _))
      clear B17 B16 hb16 hb17
      go_wp2_with fail
      go_roundw
      case rel => exact ⟨1, by omega, by go_num, HB17.out⟩
      case measure => simp [intOf]; omega
    · obtain ⟨i, hi⟩ : ∃ i, k = i + 1 := ⟨k - 1, by omega⟩
      obtain ⟨tp, htp, hcp⟩ := HPRE.out i hi.symm
      have HCP := Lib.hid (below_cell HB15.out hcp)
      have HCC := Lib.hid (fun V (h : Below w15.heap.size w15 V) => And.intro (below_cell h (bG.cell 0)) (And.intro (below_cell h (bG.cell 1)) (And.intro (below_cell h (bG.cell 2)) (And.intro (below_cell h (bG.cell 3)) (And.intro (below_cell h (bG.cell 4)) (And.intro (below_cell h (bE.cell 0)) (And.intro (below_cell h (bE.cell 1)) (And.intro (below_cell h (bE.cell 2)) (And.intro (below_cell h (bE.cell 3)) (And.intro (below_cell h (bE.cell 4)) (below_cell h HCP.out)))))))))))
      have hw1 : (k : Int) - 1 = (i : Int) := by omega
      have hw2 : IntKind.i64.wrap (i : Int) = (i : Int) := IntWalk.i64_in _ (by omega)
      have hk3 : (0 : Int) < (k : Int) := by omega
      have hi0 : (0 : Int) ≤ (i : Int) := by omega
      have hi1 : (i : Int) < (n1 : Int) := by omega
      have g2 : ¬ zt < tp := by omega
      have HKK : Hid (k + 1 ≤ n1) := Lib.hid hlt
      clear bG bE HPRE HTK HRT hi hcp h0 htp
      refine wp_region_held_drew (S := fun V => V.cell? ⟨G, 0, none⟩ = some (.int .i64 NN) ∧ V.cell? ⟨G, 1, none⟩ = some (.int .i64 zt) ∧ V.cell? ⟨G, 2, none⟩ = some (.string zi) ∧ V.cell? ⟨G, 3, none⟩ = some (.string zw) ∧ V.cell? ⟨G, 4, none⟩ = some (.int .i64 zd) ∧ V.cell? ⟨E, 0, none⟩ = some (.int .i64 NN) ∧ V.cell? ⟨E, 1, none⟩ = some (.int .i64 zt) ∧ V.cell? ⟨E, 2, none⟩ = some (.string zi) ∧ V.cell? ⟨E, 3, none⟩ = some (.string zw) ∧ V.cell? ⟨E, 4, none⟩ = some (.int .i64 zd) ∧ V.cell? ⟨g, o + i * 5 + 1, none⟩ = some (.int .i64 tp)) (by kernel_rfl) (HCC.out _ (below_drewN (Below.refl _ _) 1)) (fun hHeld => ?_)
      refine tkY 0 (.int .i64 0) rfl hHeld ?_
      refine tkY 1 (.int .i64 0) rfl hHeld ?_
      refine tkC 2 rfl (fun K hK => ?_)
      go_simp
      refine hK.out _ _ (HCC.out _ ((below_drewN (Below.refl _ _) 1).alloc (Nat.le_refl _) _)) (fun hHeld => ?_)
      clear hK K
      try simp only [Act.put, List.getElem_toArray, List.getElem_cons_zero, List.getElem_cons_succ, List.setIfInBounds_toArray, List.set_cons_zero, List.set_cons_succ]
      refine tkC 3 rfl (fun K hK => ?_)
      go_simp
      go_at_call 42
      refine HE2.out.mono ?_
      rintro e w16 ⟨rfl, hb16⟩
      have B16 := below_call (below_drewN (Below.refl _ _) 1) hb16 (Nat.le_refl _)
      refine hK.out _ _ (HCC.out _ B16) (fun hHeld => ?_)
      clear hK K
      try simp only [Act.put, List.getElem_toArray, List.getElem_cons_zero, List.getElem_cons_succ, List.setIfInBounds_toArray, List.set_cons_zero, List.set_cons_succ]
      refine tkY 4 (.bool false) rfl hHeld ?_
      refine tkY 5 (.bool false) rfl hHeld ?_
      refine tkY 6 (.bool true) rfl hHeld ?_
      refine tkY 7 (.bool false) rfl hHeld ?_
      refine tkY 8 (.bool false) rfl hHeld ?_
      refine tkY 9 (.bool false) rfl hHeld ?_
      refine tkY 10 (.agg #[.int .i64 NN, .int .i64 zt, .string zi, .string zw, .int .i64 zd]) rfl hHeld ?_
      refine tkY 11 (.agg #[.int .i64 NN, .int .i64 zt, .string zi, .string zw, .int .i64 zd]) rfl hHeld ?_
      refine tkY 12 (.bool false) rfl hHeld ?_
      refine tkY 13 (.bool false) rfl hHeld ?_
      refine tkY 14 (.bool false) rfl hHeld ?_
      refine tkY 15 (.int .i64 NN) rfl hHeld ?_
      refine tkY 16 (.pointer (some ⟨E, 0, none⟩)) rfl hHeld ?_
      refine tkY 17 (.int .i64 NN) rfl hHeld ?_
      refine tkY 18 (.bool false) rfl hHeld ?_
      refine tkY 19 (.bool false) rfl hHeld ?_
      refine tkY 20 (.bool false) rfl hHeld ?_
      refine tkY 21 (.int .i64 k) rfl hHeld ?_
      refine tkY 22 (.bool true) rfl hHeld ?_
      refine tkY 23 (.bool true) rfl hHeld ?_
      refine tkY 24 (.pointer (some ⟨E, 1, none⟩)) rfl hHeld ?_
      refine tkY 25 (.int .i64 zt) rfl hHeld ?_
      refine tkY 26 (.slice (some ⟨g, o, none⟩) n1 c1) rfl hHeld ?_
      refine tkY 27 (.int .i64 k) rfl hHeld ?_
      refine tkY 28 (.int .i64 i) rfl hHeld ?_
      refine tkY 29 (.pointer (some ⟨g, o + i * 5, none⟩)) rfl hHeld ?_
      refine tkY 30 (.pointer (some ⟨g, o + i * 5 + 1, none⟩)) rfl hHeld ?_
      refine tkY 31 (.int .i64 tp) rfl hHeld ?_
      refine tkY 32 (.bool false) rfl hHeld ?_
      refine tkY 33 (.bool false) rfl hHeld ?_
      refine tkY 34 (.bool false) rfl hHeld ?_
      refine tkY 35 (.bool false) rfl hHeld ?_
      refine tkY 36 (.slice (some ⟨g, o, none⟩) n1 c1) rfl hHeld ?_
      refine tkY 37 (.int .i64 k) rfl hHeld ?_
      refine tkY 38 (.slice (some ⟨g, o, none⟩) k c1) rfl hHeld ?_
      refine tkY 39 (.func (.func 50) #[] #[.pointer (some ⟨E, 0, none⟩)]) rfl hHeld ?_
      refine tkC 40 rfl (fun K hK => ?_)
      go_simp
      go_at_call 43
      refine (HOC.out w16 B16).mono ?_
      rintro e w17 ⟨rfl, hb17⟩
      have B17 := below_call B16 hb17 (Nat.le_refl _)
      refine hK.out _ _ (HCC.out _ B17) (fun hHeld => ?_)
      clear hK K
      try simp only [Act.put, List.getElem_toArray, List.getElem_cons_zero, List.getElem_cons_succ, List.setIfInBounds_toArray, List.set_cons_zero, List.set_cons_succ]
      refine tkY 41 (.bool false) rfl hHeld ?_
      refine wpAnyH_done (by kernel_rfl) ?_ _
      have HB17 := Lib.hid (below_call HB15.out B17 (Nat.le_refl _))
      clear B17 B16 hb16 hb17 hw1 hw2 hk3 hi0 hi1 g2
      go_wp2_with fail
      go_roundw
      case rel => exact ⟨k + 1, HKK.out, by go_num, HB17.out⟩
      case measure => (have hkk := HKK.out; simp [intOf]; omega)
  · have HRD := Lib.hid (HRY.out wo (below_call HS11.out hb (Nat.le_refl _)))
    have HFB := Lib.hid (below_call HBW.out (below_call HS11.out hb (Nat.le_refl _)) (by have := HBW.out.size; omega))
    clear hb
    go_wp2_with fail
    refine HRD.out.mono ?_
    rintro e w15 ⟨rfl, hb15⟩
    have hfin := below_call HFB.out hb15 (by have := HFB.out.size; omega)
    clear hb15 HRD
    go_wp2_with fail
    go_ret
    exact ⟨rfl, hfin⟩
end Go.Proofs.YtapgnaimbgjcnaaGreatDoor
