/-
  OrdersClashLeast: the law's own walk.
-/
import Derived.Test.YtejadhehmcifoaaGreatDoorZStream
import Derived.Test.YtejadhehmcifoaaGreatDoorZOclPure
import Derived.Test.YtejadhehmcifoaaGreatDoorZOrd4
import Derived.Test.YtejadhehmcifoaaGreatDoorZReady
import Derived.Deep.DeepCutAuto
namespace Go.Proofs.YtejadhehmcifoaaGreatDoor
open Go Go.RowKit

theorem slts_ofO {w W : World} {b K n c h : Nat} {A : Option Addr} {xs : List Slt} {l : List Rsc} (hS : Sp w b K W (rOwn w.heap.size 47 5 (.slice A n c) n (xs.flatMap sltC) :: rAll (hostR w.heap.size) xs :: l)) (hz : SltZs h xs) (hh : h ≤ 1000) : Slts W b A n c xs := by
  have h0 : W.ownsRow w.heap.size 47 5 (.slice A n c) n (xs.flatMap sltC) := hS.head
  have h1 : ∀ x ∈ xs, (hostR w.heap.size x).P W := hS.tail.head
  exact ⟨Rd.own h0 hS.hb, fun x hx => ⟨Rd.own (h1 x hx) hS.hb, (hz x hx).hk, (hz x hx).hw, (hz x hx).hh, Nat.le_trans (hz x hx).hn hh, (hz x hx).hs, (hz x hx).hl⟩⟩
def keyAt (xs : List Slt) (i : Nat) : ByteArray := ((xs[i]?).map (·.key)).getD ⟨#[]⟩
theorem keysL_of (xs : List Slt) : ∀ l : List Nat, (∀ i ∈ l, i < xs.length) → keysL (l.filterMap (fun i => xs[i]?)) = l.map (keyAt xs)
  | [], _ => rfl
  | i :: l, h => by
    have hi := h i (List.mem_cons_self ..)
    have ih := keysL_of xs l (fun j hj => h j (List.mem_cons_of_mem _ hj))
    unfold keysL at ih ⊢
    rw [List.filterMap_cons, List.getElem?_eq_getElem hi]
    simp only [List.map_cons]
    rw [ih]
    unfold keyAt
    rw [List.getElem?_eq_getElem hi]
    rfl
theorem perm_of_nums {xs : List Slt} {l : List Nat} (h : l.Perm (List.range xs.length)) : ∃ q : List Slt, q.Perm xs ∧ keysL q = l.map (keyAt xs) := by
  refine ⟨l.filterMap (fun i => xs[i]?), ?_, keysL_of xs l (fun i hi => List.mem_range.1 (h.subset hi))⟩
  refine (h.filterMap _).trans ?_
  have e : ∀ k, k ≤ xs.length → (List.range k).filterMap (fun i => xs[i]?) = xs.take k := fun k => by
    induction k with
    | zero => intro _; simp
    | succ k ih =>
      intro hk
      rw [List.range_succ, List.filterMap_append, ih (by omega), List.take_succ_eq_append_getElem (by omega)]
      simp [List.getElem?_eq_getElem (show k < xs.length by omega)]
  rw [e _ (Nat.le_refl _), List.take_of_length_le (Nat.le_refl _)]
theorem out_no {f : Int} (f0 : 0 ≤ f) (f1 : f ≤ 300) : outB f 0 86400000 = false := by unfold outB; exact decide_eq_false (by omega)
theorem clash_right {xs p ys : List Slt} {f : Int} (hR : RSlots xs) (hp : p.Perm xs) (hy : ys.map cntS = p.map cntS) (f0 : 0 ≤ f) (f1 : f ≤ 300) : clashE f ys = 0 ∧ clashL f ys = clF p f := by
  have h1 := clash_cnt hy f
  have h2 : clashE f p = 0 := by unfold clashE; rw [if_pos (right_perm hR hp), out_no f0 f1]; rfl
  refine ⟨h1.1.trans h2, h1.2.trans ?_⟩
  unfold clashL
  rw [if_pos h2]

set_option maxRecDepth 100000 in
set_option maxHeartbeats 4000000 in
theorem ocl_walk (a0 : Option Addr) (len0 cap0 : Nat) (z0 : List Int) (w : World) (w0 : InRow w a0 len0 cap0 z0) (ht : Tab w) :
    Calls Tryz.prog 4 #[.slice a0 len0 cap0] w fun e w' => e = .returned (.bool true) ∧ Below w.heap.size w w' := by
  have hs0 := strm_start w0 25
  have hb0 : Bx w.heap.size w.heap.size w (w.alloc (.cells #[.slice a0 len0 cap0, .int .i64 0] 25)) := (Bx.refl _ _ _).alloc (Nat.le_refl _) _
  clear w0
  go_enter Tryz.func4, Tryz.ntmps4
  go_wp2_with fail
  refine (rightSlotsR_calls w.heap.size 0 5 _ hs0 (by omega) (by omega)).mono ?_
  rintro e w1 ⟨v, xs, rfl, hx5, hz, hR, hS⟩
  obtain ⟨n, hn⟩ : ∃ n, xs.length = n := ⟨_, rfl⟩
  rw [hn] at hS hx5
  obtain ⟨A, c, hv⟩ := own_form (show w1.ownsRow _ _ _ v n _ from hS.head)
  subst hv
  have hr1 := slts_ofO hS hz (by omega)
  have hs1 := hS.strm
  have hb1 := hb0.call hS.bx (Nat.le_refl _)
  have HR := Lib.hid hR
  have HN := Lib.hid hn
  clear hS hs0 hb0 hz hn hR
  go_wp2_with fail
  refine (range_calls w.heap.size _ 0 300 _ (by omega) (by omega) (by omega) hs1 (by omega)).mono ?_
  rintro e w2 ⟨f, rfl, f0, f1, hs2, hc2⟩
  have hr2 := hr1.bx hc2
  have hb2 := hb1.call hc2 (Nat.le_refl _)
  have hlt2 := hs2.lt
  have hSF := HR.out.fault
  have hE : ordE xs f = 0 := by unfold ordE; rw [if_pos hSF, if_neg (by rw [HN.out]; omega), out_no f0 f1]; rfl
  have HO := Lib.hid (order1s_calls w.heap.size A n c xs f w2 hr2 hlt2 hE)
  have HSF := Lib.hid hSF
  have HR2 := Lib.hid hr2
  have HB2 := Lib.hid hb2
  have HS2 := Lib.hid hs2
  clear hs1 hr1 hc2 hb1 hSF hE hr2 hb2 hs2
  go_wp2_with fail
  refine HO.out.mono ?_
  rintro e w3 ⟨srt, hperm, hup, v3, rfl, ho3, hb3⟩
  obtain ⟨c0, hc1, hc2, hc3⟩ := bestP_ok f srt hup
  have h1 : (bestP f srt).1 = c0 := by rw [hc1]
  have h2 : (bestP f srt).2 = clN_ f c0 := by rw [hc1]
  rw [h2]
  rw [h1] at ho3
  have hpx := hc2.trans hperm
  have HLE : Hid (∀ p : List Slt, p.Perm xs → clN_ f c0 ≤ clN_ f p) := Lib.hid (fun p hp => hc3 p (hp.trans hperm.symm))
  have hmov := mov_perm (slots_one HSF.out) hpx
  rw [keysL_len, hpx.length_eq, HN.out] at ho3
  obtain ⟨A3, c3, hv⟩ := own_form ho3
  subst hv
  have hlt3 : w.heap.size < w3.heap.size := by have := hb3.size; omega
  have HMV := Lib.hid (moved_calls w.heap.size A A3 n c n c3 xs (keysL c0) w3 (HR2.out.below hb3) (Rd.own ho3 hlt2) hlt3)
  rw [show movdE xs (keysL c0) = 0 by unfold movdE; rw [if_pos HSF.out, hmov.1]] at HMV
  have HM2 := Lib.hid hmov.2
  have HPX := Lib.hid hpx
  obtain ⟨N, hN⟩ : ∃ N, clN_ f c0 = N := ⟨_, rfl⟩
  rw [hN] at HLE ⊢
  have HNN := Lib.hid hN
  have HB3 := Lib.hid (HB2.out.callB hb3 (Nat.le_refl _))
  have HS3 := Lib.hid (HS2.out.below hb3)
  have HR3 := Lib.hid (HR2.out.below hb3)
  clear HO hperm hup ho3 hb3 hc1 hc2 hc3 h1 h2 hpx hmov hN
  go_wp2_with fail
  refine HMV.out.mono ?_
  rintro e w4 ⟨v4, ys, rfl, hy0, _, hS4⟩
  have hyc : ys.map cntS = c0.map cntS := by rw [hy0 rfl, HM2.out]
  have hyl : ys.length = n := by
    have := congrArg List.length hyc
    rw [List.length_map, List.length_map, HPX.out.length_eq, HN.out] at this
    exact this
  rw [hyl] at hS4
  obtain ⟨A4, c4, hv⟩ := own_form (show w4.ownsRow w3.heap.size _ _ v4 n _ from hS4.head)
  subst hv
  have hlt4 : w.heap.size < w4.heap.size := by have := hS4.below.size; omega
  have hsl4 : Slts w4 w.heap.size A4 n c4 ys := slts_cnt hS4 hlt3 hyc (fun x hx => HR3.out.ok x (HPX.out.subset hx))
  have HCL := Lib.hid (clashesX_calls w.heap.size A4 n c4 ys f w4 hsl4 (by omega) hlt4 ⟨by omega, by omega⟩)
  obtain ⟨e1, e2⟩ := clash_right HR.out HPX.out hyc f0 f1
  rw [e1, e2] at HCL
  have hb4 := hS4.below
  have HB4 := Lib.hid (HB3.out.callB hb4 (Nat.le_refl _))
  have HS4 := Lib.hid (HS3.out.below hb4)
  have HR4 := Lib.hid (HR3.out.below hb4)
  obtain ⟨L1, hL1⟩ : ∃ L, clF c0 f = L := ⟨_, rfl⟩
  have hN1 : Hid ((L1.length : Int) = N) := Lib.hid (by rw [← hL1, ← HNN.out]; rfl)
  rw [hL1] at HCL
  obtain ⟨q1, hq1⟩ : ∃ q, L1.length = q := ⟨_, rfl⟩
  rw [hq1] at hN1
  clear HMV hy0 hyc hyl hS4 hsl4 e1 e2 hb4 hL1
  go_wp2_with fail
  refine HCL.out.mono ?_
  rintro e w5 ⟨v5, rfl, ho5, hb5⟩
  rw [hq1] at ho5
  obtain ⟨A5, c5, hv⟩ := own_form ho5
  subst hv
  have hs5 := HS4.out.below hb5
  have HB5 := Lib.hid (HB4.out.callB hb5 (Nat.le_refl _))
  have HR5 := Lib.hid (HR4.out.below hb5)
  have hlt5 : w.heap.size < w5.heap.size := by have := hb5.size; omega
  have hT0 := Sp.start hs5
  clear HCL ho5 hb5 hq1
  go_wp2_with fail
  refine (orderP_calls w.heap.size _ n _ (by omega) hs5 (by omega)).mono ?_
  rintro e w6 ⟨v6, nums, rfl, ho6, _, hnp, hs6, hbx6⟩
  obtain ⟨l, hl, rfl⟩ := perm_nums hnp
  obtain ⟨A6, c6, hv⟩ := own_form ho6
  subst hv
  have hT6 := (hT0.own hs6 hbx6 ho6).nil w5.heap.size 9 1
  have hln : l.length = n := by rw [hl.length_eq, List.length_range]
  rw [← HN.out] at hl
  have HLP := Lib.hid hl
  have HLN := Lib.hid hln
  clear hT0 ho6 hs6 hbx6 hs5 hnp hl hln
  go_wp2_with fail
  go_loopw [13, 51] (fun v i wr => ∃ (k : Nat), k ≤ n ∧ i = .int .i64 k ∧ Sp w5 w.heap.size (0 + 35 + 1 + n) wr [rOwn w5.heap.size 9 1 v k (strsV ((l.take k).map (keyAt xs))), rOwn w5.heap.size 3 1 (.slice A6 n c6) n (l.map fun i => .int .i64 ((i : Nat) : Int))]) (fun _ i _ => n - (intOf i).toNat)
  case atStart => exact ⟨0, Nat.zero_le _, rfl, hT6⟩
  case round =>
    clear hT6
    obtain ⟨k, hk, rfl, hT⟩ := hrel
    by_cases hlt : k < n
    · have hown6 : wr.ownsRow w5.heap.size 3 1 (.slice A6 n c6) n (l.map fun i => .int .i64 ((i : Nat) : Int)) := hT.nth 1 rfl
      have hkl : k < l.length := by rw [HLN.out]; exact hlt
      obtain ⟨g6, cap6, hv6, _, _⟩ := hown6.form (by omega)
      injection hv6 with hA6 _ hc6
      subst hA6 hc6
      have x6 := hown6.cellAt k (by omega)
      have hge : (l.map fun i => Value.int .i64 ((i : Nat) : Int))[k]? = some (.int .i64 ((l[k] : Nat) : Int)) := by rw [List.getElem?_map, List.getElem?_eq_getElem hkl]; rfl
      rw [hge] at x6
      have hjx : l[k] < xs.length := List.mem_range.1 (HLP.out.subset (List.getElem_mem hkl))
      have hsn : Hid (strsV ((l.take (k + 1)).map (keyAt xs)) = strsV ((l.take k).map (keyAt xs)) ++ [.string (keyAt xs l[k])]) := Lib.hid (by rw [List.take_succ_eq_append_getElem hkl, List.map_append]; simp only [strsV, List.map_append, List.map_cons, List.map_nil])
      obtain ⟨j, hj⟩ : ∃ j, l[k] = j := ⟨_, rfl⟩
      rw [hj] at x6 hjx hsn
      have hrw := HR5.out.bx hT.bx
      obtain ⟨hxl, _, _, hcs0⟩ := hrw.rd.cells sltC_len (by omega)
      have hjn : j < n := by rw [← hxl]; exact hjx
      obtain ⟨g, o, hA, _, hcs⟩ := hcs0 (by omega)
      clear hcs0
      subst hA
      have x0 := hcs j hjx 0 (by omega)
      have hkey : keyAt xs j = xs[j].key := by unfold keyAt; rw [List.getElem?_eq_getElem hjx]; rfl
      replace x0 : wr.cell? ⟨g, o + j * 5, none⟩ = some (.string (keyAt xs j)) := by rw [hkey]; exact x0
      obtain ⟨key, hkk⟩ : ∃ q, keyAt xs j = q := ⟨_, rfl⟩
      rw [hkk] at x0 hsn
      have hown : wr.ownsRow w5.heap.size 9 1 u13 k (strsV ((l.take k).map (keyAt xs))) := hT.head
      have hsz := hT.size
      have hk0 : (0 : Int) ≤ (k : Int) := by omega
      have hk1 : (k : Int) < (n : Int) := by omega
      have hj0 : (0 : Int) ≤ (j : Int) := by omega
      have hj1 : (j : Int) < (n : Int) := by omega
      obtain ⟨j0, hj', hyy0, hyy1, hyy2⟩ := info_parts info_str3
      clear hcs hkey hkk hown6 hrw hge hj hjx hxl
      go_wp2_with (first
        | (at_builtin; refine wpList_append_own_at _ rfl _ _ 26 rfl w5.heap.size 9 j0 (.string ⟨#[]⟩) 1 16 Tryz.underlying26 hj' hyy0 hyy1 hyy2 rfl (by decide) _ _ _ rfl (hown.alloc _) ⟨wr.heap.size, 0, none⟩ 1 1 [.string key] rfl rfl (World.news_of_block (heap_alloc_new _ _)) (one1 rfl) (by unfold maxLen; omega) (by omega) (by simp; omega) ?_; intro v' w8 hown' hgrow _ hblk; have hT8 := (hT.alloc (.cells #[.string key] 9)).append hown' hgrow hblk; clear hown' hgrow hblk))
      go_roundw
      case rel => exact ⟨k + 1, by omega, by go_num, by rw [hsn.out]; exact hT8⟩
      case measure => simp [intOf]; omega
    · obtain rfl : k = n := by omega
      obtain ⟨q, hqp, hqk⟩ := perm_of_nums HLP.out
      have hT1 : Sp w5 w.heap.size (0 + 35 + 1 + k) wr [rOwn w5.heap.size 9 1 u13 k (strsV ((l.take k).map (keyAt xs)))] := hT.drop 1 rfl rfl
      rw [List.take_of_length_le (by rw [HLN.out]; exact Nat.le_refl _), ← hqk] at hT1
      have ho7 : wr.ownsRow w5.heap.size 9 1 u13 k (strsV (keysL q)) := hT1.head
      obtain ⟨A7, c7, hv⟩ := own_form ho7
      subst hv
      have hr7 := HR5.out.bx hT1.bx
      have hlt7 := hT1.lt
      have hmov := mov_perm (slots_one HSF.out) hqp
      have HMV := Lib.hid (moved_calls w.heap.size A A7 k c k c7 xs (keysL q) wr hr7 (Rd.own ho7 hlt5) hlt7)
      rw [show movdE xs (keysL q) = 0 by unfold movdE; rw [if_pos HSF.out, hmov.1]] at HMV
      have HM2 := Lib.hid hmov.2
      have HQP := Lib.hid hqp
      have HB7 := Lib.hid ((HB5.out.call hT1.bx (Nat.le_refl _)).below (Nat.le_refl _))
      have HR7 := Lib.hid hr7
      clear hT hT1 ho7 hr7 hmov hqk hqp
      go_wp2_with fail
      refine HMV.out.mono ?_
      rintro e w8 ⟨v8, zs, rfl, hy0, _, hS8⟩
      have hyc : zs.map cntS = q.map cntS := by rw [hy0 rfl, HM2.out]
      have hyl : zs.length = k := by
        have := congrArg List.length hyc
        rw [List.length_map, List.length_map, HQP.out.length_eq, HN.out] at this
        exact this
      rw [hyl] at hS8
      obtain ⟨A8, c8, hv⟩ := own_form (show w8.ownsRow wr.heap.size _ _ v8 k _ from hS8.head)
      subst hv
      have hlt8 : w.heap.size < w8.heap.size := by have := hS8.below.size; omega
      have hsl8 : Slts w8 w.heap.size A8 k c8 zs := slts_cnt hS8 hlt7 hyc (fun x hx => HR7.out.ok x (HQP.out.subset hx))
      have HCL := Lib.hid (clashesX_calls w.heap.size A8 k c8 zs f w8 hsl8 (by omega) hlt8 ⟨by omega, by omega⟩)
      obtain ⟨e1, e2⟩ := clash_right HR.out HQP.out hyc f0 f1
      rw [e1, e2] at HCL
      have HB8 := Lib.hid (below_call HB7.out hS8.below (Nat.le_refl _))
      obtain ⟨L2, hL2⟩ : ∃ L, clF q f = L := ⟨_, rfl⟩
      have hN2 : Hid (N ≤ (L2.length : Int)) := Lib.hid (by rw [← hL2]; exact HLE.out q HQP.out)
      rw [hL2] at HCL
      obtain ⟨q2, hq2⟩ : ∃ q, L2.length = q := ⟨_, rfl⟩
      rw [hq2] at hN2
      clear HMV hy0 hyc hyl hS8 hsl8 e1 e2 hL2
      go_wp2_with fail
      refine HCL.out.mono ?_
      rintro e w9 ⟨v9, rfl, ho9, hb9⟩
      rw [hq2] at ho9
      obtain ⟨A9, c9, hv⟩ := own_form ho9
      subst hv
      have hb9' := below_call HB8.out hb9 (Nat.le_refl _)
      have hlt9 : w.heap.size < w9.heap.size := by have := hb9.size; omega
      have HER := Lib.hid (errsK_calls w.heap.size _ 5 5 [0, 0, 0, 0, 0] _ (Rd.lit0 (w := w9) (cs := #[.int .i64 0, .int .i64 0, .int .i64 0, .int .i64 0, .int .i64 0]) (t := 29) (size := 1) (n := 5) hlt9 (by decide) rfl))
      rw [show firstE [0, 0, 0, 0, 0] = 0 from rfl] at HER
      have hRY := Lib.hid (fun (m : Nat) => ready_calls w.heap.size ((w9.alloc (.cells #[.int .i64 0, .int .i64 0, .int .i64 0, .int .i64 0, .int .i64 0] 29)).drewN m) (by show w.heap.size < (w9.alloc _).heap.size; rw [World.size_alloc]; omega) (ht.below (below_drewN (hb9'.alloc (hb9'.size) _) m)))
      have hfin : Below w.heap.size w (w9.alloc (.cells #[.int .i64 0, .int .i64 0, .int .i64 0, .int .i64 0, .int .i64 0] 29)) := hb9'.alloc hb9'.size _
      have hn1 := hN1.out
      have hn2 := hN2.out
      obtain rfl : N = (q1 : Int) := hn1.symm
      clear HCL ho9 hb9 hq2 hn1 hN1 hN2 HNN HLE
      go_wp2_with fail
      refine HER.out.mono ?_
      rintro e w10 ⟨rfl, m10, rfl⟩
      have hRZ := Lib.hid (hRY.out m10)
      have hfin2 := below_drewN hfin m10
      clear hRY HER hfin
      go_wp2_with fail
      refine hRZ.out.mono ?_
      rintro e w11 ⟨rfl, hb11⟩
      go_wp2_with fail
      go_ret
      exact ⟨rfl, below_call hfin2 hb11 (Nat.le_refl _)⟩
end Go.Proofs.YtejadhehmcifoaaGreatDoor
