/-
  RecordsFall: the law's own walk. (Printed by gen_lawfal.py.)
-/
import Derived.Test.YtapgnaimbgjcnaaGreatDoorZLawStart
import Derived.Test.YtapgnaimbgjcnaaGreatDoorZClk
import Derived.Test.YtapgnaimbgjcnaaGreatDoorZEvZ
import Derived.Test.YtapgnaimbgjcnaaGreatDoorZRat4
import Derived.Test.YtapgnaimbgjcnaaGreatDoorZTk
import Derived.Deep.DeepCutAuto
import Derived.Deep.QuietTactic
namespace Go.Proofs.YtapgnaimbgjcnaaGreatDoor
open Go Go.RowKit
def anyX : ByteArray := ⟨#[97, 110, 121]⟩
theorem anyX_key : keyBv anyX = true := by decide +kernel
theorem cat_any {l : List Bev} {u : Int} (h : bevsF l = 0) (h0 : 0 ≤ u) (h1 : u ≤ 1000) : catF l [anyX] u = 0 := by
 unfold catF
 rw [if_pos h]
 have hk : ([anyX].any (fun s => !keyBv s)) = false := by rw [List.any_cons, anyX_key]; rfl
 rw [if_neg (by rw [hk]; decide)]
 have hm : momB u = true := by
  unfold momB outB
  rw [Bool.not_eq_true', decide_eq_false_iff_not]
  omega
 rw [if_pos hm]
theorem errs0_calls (l : List Int) (n : Nat) (hl : l.length = n) (hE : firstE l = 0) (hn : n ≤ 10) (W : World) : Calls Tryz.prog 42 #[.slice (some ⟨W.heap.size, 0, none⟩) n n] (W.alloc (.cells (l.map (Value.int .i64)).toArray 32)) (fun e w' => e = .returned (.int .i64 0) ∧ Below W.heap.size W w') := by
 subst hl
 have h := errsK_calls (W.heap.size + 5) _ l.length l.length l _ (Rd.lit W (W.heap.size + 5) 1 l.length (l.map (Value.int .i64)).toArray 32 (by omega) (by unfold maxLen; omega) (by simp))
 rw [hE] at h
 refine h.mono ?_
 rintro e w' ⟨he, nq, rfl⟩
 exact ⟨he, below_drewN ((Below.refl _ _).alloc (Nat.le_refl _) _) nq⟩
set_option maxRecDepth 100000 in
set_option maxHeartbeats 8000000 in
theorem fal_walk (a0 : Option Addr) (len0 cap0 : Nat) (z0 : List Int) (w : World) (w0 : InRow w a0 len0 cap0 z0) (ht : Tab w) :
 Calls Tryz.prog 7 #[.slice a0 len0 cap0] w fun e w' => e = .returned (.bool true) ∧ Below w.heap.size w w' := by
 have HTB := Lib.hid ht
 clear ht
 have hs0 := strmX_start w0 25
 have hb0 : Bx w.heap.size w.heap.size w (w.alloc (.cells #[.slice a0 len0 cap0, .int .i64 0] 25)) := (Bx.refl _ _ _).alloc (Nat.le_refl _) _
 obtain ⟨W1, hW1⟩ : ∃ W, W = w.alloc (.cells #[.slice a0 len0 cap0, .int .i64 0] 25) := ⟨_, rfl⟩
 obtain ⟨zs, hzs⟩ : ∃ zs : ZsT, (⟨z0.take len0, w.heap.size⟩ : ZsT) = zs := ⟨_, rfl⟩
 rw [← hW1, hzs] at hs0
 rw [← hW1] at hb0
 have hX0 := SpX.start hs0
 clear w0 hs0 hzs
 go_enter Tryz.func7, Tryz.ntmps7
 go_wp2_with fail
 rw [← hW1]
 clear hW1
 obtain ⟨b, hb⟩ : ∃ b, b = w.heap.size := ⟨_, rfl⟩
 rw [← hb] at hX0 hb0 ⊢
 have HBE := Lib.hid hb
 have HB0 := Lib.hid hb0
 clear hb hb0
 refine (spE_range hX0 0 24 (by omega) (by omega) (by omega) (by omega)).mono ?_
 rintro e w2 ⟨m, rfl, _, m0, m1, hX2⟩
 obtain ⟨m, rfl⟩ := Int.eq_ofNat_of_zero_le m0
 have hc2 : b < w2.heap.size := hX2.lt
 go_wp2_with fail
 refine (rightEventsX_calls b 1 m zs w2 hX2.strm (by omega) (by omega)).mono ?_
 rintro e w3 ⟨A, c, base, l, r, rfl, _, hl0, hdr, hlz, hlm, hr, hbase, hX3⟩
 have hlen : l.length ≤ 24 := by omega
 have hr3 : r ≤ 5000 := by omega
 have HB2 := Lib.hid hX2.bx
 go_wp2_with fail
 refine (spE_range hX3 10 100 (by omega) (by omega) (by omega) (by omega)).mono ?_
 rintro e w4 ⟨u, rfl, _, u0, u1, hX4⟩
 obtain ⟨n, hn⟩ : ∃ n, l.length = n := ⟨_, rfl⟩
 rw [hn] at hX4 hlen ⊢
 have HN := Lib.hid hn
 have hO : w4.ownsRow base 78 8 (.slice A n c) n (l.flatMap bevC) := hX4.head
 have hr4 : Bevs w4 b A n c l := ⟨Rd.own hO (Nat.lt_of_lt_of_le hc2 hbase), hlz.bevW⟩
 have hlt4 : b < w4.heap.size := hX4.lt
 have HBW : Hid (Below w.heap.size w w4) := Lib.hid (by
  have h2 := (HB0.out.call HB2.out (by have := HBE.out; omega)).call hX4.bx (by have := HBE.out; omega)
  rw [← HBE.out]
  exact h2.below (Nat.le_refl _))
 have hn3 : n ≤ 3000 := by omega
 have h38 : l.length ≤ 38 := by rw [HN.out]; omega
 have HLT0 := Lib.hid hlt4
 have HR := Lib.hid (fun W (h : Below w4.heap.size w4 W) => hr4.below h)
 have HLT := Lib.hid (fun W (h : Below w4.heap.size w4 W) => (Nat.lt_of_lt_of_le hlt4 h.size : b < W.heap.size))
 have HT := Lib.hid (fun W (h : Below w4.heap.size w4 W) => HTB.out.below (below_call HBW.out h (by have := HBW.out.size; omega)))
 have HE := Lib.hid (fun x hx => evK_one ((bevs_ok hl0).1 x hx) : ∀ x ∈ l, EvK x)
 have HKD := Lib.hid (kd_fol HE.out u)
 have HE2 := Lib.hid (bevs_ok hl0).1
 have HU : Hid (u ≤ 345686400000) := Lib.hid (show u ≤ 345686400000 by omega)
 have P1 := Lib.hid (hist_calls b A n c l u anyX w4 hlt4 hr4 hn3 (by decide))
 have P2 := Lib.hid (fun W h => reigned_calls b A n c l u anyX W (HLT.out W h) (HR.out W h) hn3 (by decide) h38 (HT.out W h))
 have P3 := Lib.hid (fun W h => gained_calls b A n c l u anyX W (HLT.out W h) (HR.out W h) hn3 (by decide))
 have E1 := Lib.hid (fun W => errs0_calls [0, 0, 0] 3 rfl (by decide) (by omega) W)
 have HRY := Lib.hid (fun W (h : Below w4.heap.size w4 W) => ready_calls b W (HLT.out W h) (HT.out W h))
 have hcat := cat_any hl0 (by omega) (by omega : u ≤ 1000)
 rw [hcat] at P1 P2 P3
 simp only [List.map_cons, List.map_nil] at E1
 clear hX0 hX2 hX3 hX4 hO hr4 hlt4 hn3 hcat hl0 hdr hlz hlm hr hr3 hbase hn hlen HR HLT HT h38 m0 m1 hc2 u0 u1
 have hany : anyX = ⟨#[97, 110, 121]⟩ := rfl
 rw [hany] at P1 P2 P3
 clear hany
 go_wp2_with fail
 refine P1.out.mono ?_
 rintro e w8 ⟨A1, c1, H, hI1, rfl, hS1⟩
 have HI1 := Lib.hid hI1
 obtain ⟨n1, hn1⟩ : ∃ z, H.length = z := ⟨_, rfl⟩
 rw [hn1] at hS1 ⊢
 have HN1 := Lib.hid hn1
 have HO1 := Lib.hid (hS1.head : w8.ownsRow w4.heap.size 50 5 (.slice A1 n1 c1) n1 (H.flatMap rgnC))
 have S8 := hS1.below
 have HS1 := Lib.hid hS1
 have HFL : Hid (FallAll H) := Lib.hid (by
  clear hn1
  obtain ⟨ys, hY, rfl⟩ := hI1.1 rfl
  exact his_fall HKD.out u hY)
 have HRB : Hid (∀ r ∈ H, 0 ≤ r.to_ - r.from_) := Lib.hid (by
  clear hn1
  obtain ⟨ys, hY, rfl⟩ := hI1.1 rfl
  exact fun r hr => (his_bd HE2.out HU.out hY r hr).1)
 clear hI1 hS1 P1
 clear hn1
 go_wp2_with fail
 refine (P3.out _ S8).mono ?_
 rintro e w10 ⟨H3, hI3, rfl, hb10⟩
 have hHH := hisIs_one (fun _ x hx => HE.out x hx) HI1.out hI3
 subst hHH
 have S10 := below_call S8 hb10 (Nat.le_refl _)
 have HS10 := Lib.hid (HS1.out.callB hb10)
 obtain ⟨GV, hGV⟩ : ∃ z, gnV H = z := ⟨_, rfl⟩
 obtain ⟨GB, hGB⟩ : ∃ z, gnB H = z := ⟨_, rfl⟩
 rw [hGV, hGB]
 have HGV := Lib.hid hGV
 have HGB := Lib.hid hGB
 clear hI3 hb10 hGV hGB P3 S8 HS1 HO1
 go_wp2_with fail
 refine (P2.out _ S10).mono ?_
 rintro e w9 ⟨A2, c2, H2, zs2, hI2, hz1, _, rfl, hS2⟩
 have hHH := hisIs_one (fun _ x hx => HE.out x hx) HI1.out hI2
 subst hHH
 have HZ1 := Lib.hid (hz1 rfl).1
 obtain ⟨n2, hn2⟩ : ∃ z, zs2.length = z := ⟨_, rfl⟩
 rw [hn2] at hS2 ⊢
 have HN2 := Lib.hid hn2
 have S9 := below_call S10 hS2.below (Nat.le_refl _)
 have HS9 := Lib.hid (HS10.out.callB hS2.below)
 clear hI2 hz1 hn2 hS2 P2 HS10 S10
 go_wp2_with fail
 refine (E1.out _).mono ?_
 rintro e w11 ⟨rfl, hb11⟩
 have HS11 := Lib.hid (HS9.out.callB hb11)
 have S11 := below_call S9 hb11 (Nat.le_refl _)
 have HFIN := Lib.hid (below_call HBW.out S11 (by have := HBW.out.size; omega))
 have HQZ : Hid (n1 ≤ maxLen) := Lib.hid (by
  have h1 := own_cap (HS11.out.head : World.ownsRow _ _ _ _ _ _ _)
  omega)
 have HRY2 := Lib.hid (fun W (h : Below w11.heap.size w11 W) => HRY.out W (below_call S11 h (Nat.le_refl _)))
 have HRD := Lib.hid (HRY2.out w11.drew (below_drewN (Below.refl _ _) 1))
 clear HS9 S9 hb11 E1 HRY S11
 rcases Nat.eq_zero_or_pos n1 with h0 | h0
 · have hH0 : H = [] := List.length_eq_zero_iff.1 (HN1.out.trans h0)
   have hn20 : n2 = 0 := by
    have h1 := HZ1.out.length_eq
    rw [hH0, HN2.out] at h1
    exact h1
   have hg : GB = false := by rw [← HGB.out, hH0]; rfl
   subst h0 hn20 hg
   clear hH0 HRB HFL
   go_wp2_with fail
   go_loopw [67] (fun i wr => i = .int .i64 0 ∧ wr = w11) (fun _ _ => 0)
   case atStart => exact ⟨rfl, rfl⟩
   case round =>
    obtain ⟨rfl, rfl⟩ := hrel
    go_upto_region 14 with (fail)
    refine wp_region_held_drew (S := fun _ => True) (by kernel_rfl) trivial (fun hHeld => ?_)
    refine tkY 0 (.bool false) rfl hHeld ?_
    refine tkY 1 (.bool true) rfl hHeld ?_
    refine tkY 2 (.bool true) rfl hHeld ?_
    refine tkN 3 rfl hHeld ?_
    refine tkN 4 rfl hHeld ?_
    refine tkN 5 rfl hHeld ?_
    refine tkN 6 rfl hHeld ?_
    refine tkN 7 rfl hHeld ?_
    refine tkN 8 rfl hHeld ?_
    refine tkN 9 rfl hHeld ?_
    refine tkN 10 rfl hHeld ?_
    refine tkN 11 rfl hHeld ?_
    refine tkN 12 rfl hHeld ?_
    refine tkN 13 rfl hHeld ?_
    refine tkN 14 rfl hHeld ?_
    refine tkN 15 rfl hHeld ?_
    refine tkN 16 rfl hHeld ?_
    refine tkY 17 (.bool true) rfl hHeld ?_
    refine tkY 18 (.bool true) rfl hHeld ?_
    refine tkC 19 rfl (fun K hK => ?_)
    go_simp
    go_at_call 45
    refine HRD.out.mono ?_
    rintro e w9 ⟨rfl, hb9⟩
    refine hK.out _ _ trivial (fun hHeld => ?_)
    clear hK K
    try simp only [Act.put, List.getElem_toArray, List.getElem_cons_zero, List.getElem_cons_succ, List.setIfInBounds_toArray, List.set_cons_zero, List.set_cons_succ]
    refine tkY 20 (.bool true) rfl hHeld ?_
    refine tkY 21 (.bool true) rfl hHeld ?_
    refine wpAnyH_done (by kernel_rfl) ?_ _
    go_wp2_with fail
    go_ret
    exact ⟨rfl, below_call HFIN.out (below_call (below_drewN (Below.refl _ _) 1) hb9 (Nat.le_refl _)) (by have := HFIN.out.size; omega)⟩
 · obtain ⟨j, hj⟩ : ∃ j, n1 = j + 1 := ⟨n1 - 1, by omega⟩
   obtain ⟨g, hgA⟩ := own_ptr (HS11.out.head : World.ownsRow _ _ _ _ _ _ _) h0
   subst hgA
   have hg : GB = true := by rw [← HGB.out]; exact (gn_at (H := H) (j := j) (by rw [HN1.out, hj])).2
   have hn2p : 0 < n2 := by
    rcases Nat.eq_zero_or_pos n2 with e | e
    · exfalso
      have h1 := HZ1.out.length_eq
      rw [HN2.out, e] at h1
      have h2 := lgKs_nil H (List.length_eq_zero_iff.1 h1.symm)
      have h3 := HN1.out
      rw [h2, hj] at h3
      simp at h3
    · exact e
   subst hg
   have f1 : (decide ((0 : Int) < (n1 : Int))) = true := by simp; omega
   have f2 : ((n2 : Int) == 0) = false := by simp; omega
   have f3 : ((n1 : Int) == 0) = false := by simp; omega
   have f4 : (0 : Int) < (n1 : Int) := by omega
   have f5 : ¬ (n1 : Int) = 0 := by omega
   have f6 : ¬ (n2 : Int) = 0 := by omega
   have HP := Lib.hid h0
   have HP2 := Lib.hid hn2p
   have HJ := Lib.hid hj
   clear h0 hn2p hj
   go_wp2_with fail
   clear f1 f2 f3 f5 f6
   go_loopw [67] (fun i wr => ∃ k : Nat, k ≤ n1 ∧ i = .int .i64 k ∧ Below w11.heap.size w11 wr) (fun i _ => n1 - (intOf i).toNat)
   case atStart => exact ⟨0, by omega, rfl, Below.refl _ _⟩
   case round =>
    obtain ⟨k, hk, rfl, hb⟩ := hrel
    obtain ⟨wo, hwo⟩ : ∃ z, z = wr := ⟨_, rfl⟩
    subst hwo
    have hS := HS11.out.callB hb
    have hown : wo.ownsRow w4.heap.size 50 5 (.slice (some ⟨g, 0, none⟩) n1 c1) n1 (H.flatMap rgnC) := hS.head
    by_cases hlt : k < n1
    · have hkp : k < H.length := by rw [HN1.out]; exact hlt
      have a0 := own_cell rgnC 5 rgnC_len hown k 0 hkp hlt (by omega)
      have a1 := own_cell rgnC 5 rgnC_len hown k 1 hkp hlt (by omega)
      have a2 := own_cell rgnC 5 rgnC_len hown k 2 hkp hlt (by omega)
      have a3 := own_cell rgnC 5 rgnC_len hown k 3 hkp hlt (by omega)
      have a4 := own_cell rgnC 5 rgnC_len hown k 4 hkp hlt (by omega)
      have hrb := HRB.out H[k] (List.getElem_mem hkp)
      have hfl : ∀ i, (hi : i + 1 = k) → (H[i]'(by omega)).time > H[k].time ∧ H[k].from_ = (H[i]'(by omega)).to_ := fun i hi => by
       have h := HFL.out i (by omega)
       subst hi
       exact h
      obtain ⟨⟨id, who, tm, fr, to_⟩, hx⟩ : ∃ x, H[k] = x := ⟨_, rfl⟩
      rw [hx] at a0 a1 a2 a3 a4 hrb hfl
      simp only at hrb hfl
      replace a0 : wo.cell? ⟨g, k * 5, none⟩ = some (.string id) := a0
      replace a1 : wo.cell? ⟨g, k * 5 + 1, none⟩ = some (.string who) := a1
      replace a2 : wo.cell? ⟨g, k * 5 + 2, none⟩ = some (.int .i64 tm) := a2
      replace a3 : wo.cell? ⟨g, k * 5 + 3, none⟩ = some (.int .i64 fr) := a3
      replace a4 : wo.cell? ⟨g, k * 5 + 4, none⟩ = some (.int .i64 to_) := a4
      have hSE := hS.add #[.string id, .string who, .int .i64 tm, .int .i64 fr, .int .i64 to_] 50
      obtain ⟨WE, hWE⟩ : ∃ W, W = wo.alloc (.cells #[.string id, .string who, .int .i64 tm, .int .i64 fr, .int .i64 to_] 50) := ⟨_, rfl⟩
      obtain ⟨E, hE⟩ : ∃ E, E = wo.heap.size := ⟨_, rfl⟩
      rw [← hWE, ← hE] at hSE
      have hbE : Below w11.heap.size w11 WE := by rw [hWE]; exact hb.alloc hb.size _
      have hk0 : (0 : Int) ≤ (k : Int) := by omega
      have hk2 : (k : Int) < (n1 : Int) := by omega
      have HSE := Lib.hid hSE
      have HBE2 := Lib.hid hbE
      clear hS hx hown hSE hbE
      go_upto_region 11 with (fail)
      rw [← hWE, ← hE]
      clear hWE hE a0 a1 a2 a3 a4 hb
      have bE : Blk WE E _ _ := HSE.out.head
      have e2 := bE.cell 2
      have e3 := bE.cell 3
      have e4 := bE.cell 4
      have g1 : ¬ to_ < fr := by omega
      rcases Nat.eq_zero_or_pos k with h0 | h0
      · subst h0
        have HCE := Lib.hid (fun V (h : Below WE.heap.size WE V) => And.intro (below_cell h e2) (And.intro (below_cell h e3) (below_cell h e4)))
        clear hfl hkp bE
        refine wp_region_held_drew (S := fun V => V.cell? ⟨E, 2, none⟩ = some (.int .i64 tm) ∧ V.cell? ⟨E, 3, none⟩ = some (.int .i64 fr) ∧ V.cell? ⟨E, 4, none⟩ = some (.int .i64 to_)) (by kernel_rfl) (HCE.out _ (below_drewN (Below.refl _ _) 1)) (fun hHeld => ?_)
        refine tkY 0 (.pointer (some ⟨E, 3, none⟩)) rfl hHeld ?_
        refine tkY 1 (.int .i64 fr) rfl hHeld ?_
        refine tkY 2 (.pointer (some ⟨E, 4, none⟩)) rfl hHeld ?_
        refine tkY 3 (.int .i64 to_) rfl hHeld ?_
        refine tkY 4 (.bool false) rfl hHeld ?_
        refine tkY 5 (.bool false) rfl hHeld ?_
        refine tkY 6 (.int .i64 0) rfl hHeld ?_
        refine tkY 7 (.bool false) rfl hHeld ?_
        refine tkY 8 (.bool false) rfl hHeld ?_
        refine tkN 9 rfl hHeld ?_
        refine tkN 10 rfl hHeld ?_
        refine tkN 11 rfl hHeld ?_
        refine tkN 12 rfl hHeld ?_
        refine tkN 13 rfl hHeld ?_
        refine tkN 14 rfl hHeld ?_
        refine tkN 15 rfl hHeld ?_
        refine tkN 16 rfl hHeld ?_
        refine tkN 17 rfl hHeld ?_
        refine tkN 18 rfl hHeld ?_
        refine tkN 19 rfl hHeld ?_
        refine tkN 20 rfl hHeld ?_
        refine tkN 21 rfl hHeld ?_
        refine tkN 22 rfl hHeld ?_
        refine tkN 23 rfl hHeld ?_
        refine tkN 24 rfl hHeld ?_
        refine tkN 25 rfl hHeld ?_
        refine tkN 26 rfl hHeld ?_
        refine tkN 27 rfl hHeld ?_
        refine tkN 28 rfl hHeld ?_
        refine tkY 29 (.bool false) rfl hHeld ?_
        refine tkY 30 (.bool false) rfl hHeld ?_
        refine wpAnyH_done (by kernel_rfl) ?_ _
        go_wp2_with fail
        go_roundw
        case rel => exact ⟨1, by omega, by go_num, below_drewN HBE2.out _⟩
        case measure => simp [intOf]; omega
      · obtain ⟨i, hi⟩ : ∃ i, k = i + 1 := ⟨k - 1, by omega⟩
        have HKK : Hid (k + 1 ≤ n1) := Lib.hid hlt
        obtain ⟨hf1, hf2⟩ := hfl i hi.symm
        have hip : i < H.length := by omega
        have hownE : WE.ownsRow w4.heap.size 50 5 (.slice (some ⟨g, 0, none⟩) n1 c1) n1 (H.flatMap rgnC) := HSE.out.nth 1 rfl
        have x2 := own_cell rgnC 5 rgnC_len hownE i 2 hip (by omega) (by omega)
        have x4 := own_cell rgnC 5 rgnC_len hownE i 4 hip (by omega) (by omega)
        obtain ⟨⟨id2, who2, tm2, fr2, to2⟩, hy⟩ : ∃ x, H[i] = x := ⟨_, rfl⟩
        rw [hy] at x2 x4 hf1 hf2
        simp only at hf1 hf2
        replace x2 : WE.cell? ⟨g, i * 5 + 2, none⟩ = some (.int .i64 tm2) := x2
        replace x4 : WE.cell? ⟨g, i * 5 + 4, none⟩ = some (.int .i64 to2) := x4
        have hz := HQZ.out
        unfold maxLen at hz
        have hw1 : (k : Int) - 1 = (i : Int) := by omega
        have hw2 : IntKind.i64.wrap (i : Int) = (i : Int) := IntWalk.i64_in _ (by omega)
        have hk3 : (0 : Int) < (k : Int) := by omega
        have hi0 : (0 : Int) ≤ (i : Int) := by omega
        have hi1 : (i : Int) < (n1 : Int) := by omega
        have g2 : ¬ tm2 ≤ tm := by omega
        have g3 : (fr != to2) = false := by rw [hf2]; simp
        have HI := Lib.hid hi
        have HKZ : Hid ((k : Int) + 1 ≤ 9223372036854775807) := Lib.hid (by omega)
        have HCE := Lib.hid (fun V (h : Below WE.heap.size WE V) => And.intro (below_cell h e2) (And.intro (below_cell h e3) (And.intro (below_cell h e4) (And.intro (below_cell h x2) (below_cell h x4)))))
        clear hfl hkp bE hip hownE hy hf1 hi hz h0
        refine wp_region_held_drew (S := fun V => V.cell? ⟨E, 2, none⟩ = some (.int .i64 tm) ∧ V.cell? ⟨E, 3, none⟩ = some (.int .i64 fr) ∧ V.cell? ⟨E, 4, none⟩ = some (.int .i64 to_) ∧ V.cell? ⟨g, i * 5 + 2, none⟩ = some (.int .i64 tm2) ∧ V.cell? ⟨g, i * 5 + 4, none⟩ = some (.int .i64 to2)) (by kernel_rfl) (HCE.out _ (below_drewN (Below.refl _ _) 1)) (fun hHeld => ?_)
        refine tkY 0 (.pointer (some ⟨E, 3, none⟩)) rfl hHeld ?_
        refine tkY 1 (.int .i64 fr) rfl hHeld ?_
        refine tkY 2 (.pointer (some ⟨E, 4, none⟩)) rfl hHeld ?_
        refine tkY 3 (.int .i64 to_) rfl hHeld ?_
        refine tkY 4 (.bool false) rfl hHeld ?_
        refine tkY 5 (.bool false) rfl hHeld ?_
        refine tkY 6 (.int .i64 k) rfl hHeld ?_
        refine tkY 7 (.bool true) rfl hHeld ?_
        refine tkY 8 (.bool true) rfl hHeld ?_
        refine tkY 9 (.pointer (some ⟨E, 2, none⟩)) rfl hHeld ?_
        refine tkY 10 (.int .i64 tm) rfl hHeld ?_
        refine tkY 11 (.slice (some ⟨g, 0, none⟩) n1 c1) rfl hHeld ?_
        refine tkY 12 (.int .i64 k) rfl hHeld ?_
        refine tkY 13 (.int .i64 i) rfl hHeld ?_
        refine tkY 14 (.pointer (some ⟨g, i * 5, none⟩)) rfl hHeld ?_
        refine tkY 15 (.pointer (some ⟨g, i * 5 + 2, none⟩)) rfl hHeld ?_
        refine tkY 16 (.int .i64 tm2) rfl hHeld ?_
        refine tkY 17 (.bool false) rfl hHeld ?_
        refine tkY 18 (.bool false) rfl hHeld ?_
        refine tkY 19 (.pointer (some ⟨E, 3, none⟩)) rfl hHeld ?_
        refine tkY 20 (.int .i64 fr) rfl hHeld ?_
        refine tkY 21 (.slice (some ⟨g, 0, none⟩) n1 c1) rfl hHeld ?_
        refine tkY 22 (.int .i64 k) rfl hHeld ?_
        refine tkY 23 (.int .i64 i) rfl hHeld ?_
        refine tkY 24 (.pointer (some ⟨g, i * 5, none⟩)) rfl hHeld ?_
        refine tkY 25 (.pointer (some ⟨g, i * 5 + 4, none⟩)) rfl hHeld ?_
        refine tkY 26 (.int .i64 to2) rfl hHeld ?_
        refine tkY 27 (.bool false) rfl hHeld ?_
        refine tkY 28 (.bool false) rfl hHeld ?_
        refine tkY 29 (.bool false) rfl hHeld ?_
        refine tkY 30 (.bool false) rfl hHeld ?_
        refine wpAnyH_done (by kernel_rfl) ?_ _
        clear hw1 hw2 hi0 hi1 g2 g3 hk3
        have hkz := HKZ.out
        go_wp2_with fail
        go_roundw
        case rel => exact ⟨k + 1, HKK.out, by go_num, below_drewN HBE2.out _⟩
        case measure => (have hkk := HKK.out; simp [intOf]; omega)
    · have hjp : j < H.length := by rw [HN1.out, HJ.out]; omega
      have h0p : 0 < H.length := by omega
      have a0 := own_cell rgnC 5 rgnC_len hown 0 2 h0p (by omega) (by omega)
      have a1 := own_cell rgnC 5 rgnC_len hown j 2 hjp (by have := HJ.out; omega) (by omega)
      have hgv := (gn_at (H := H) (j := j) (by rw [HN1.out, HJ.out])).1
      obtain ⟨⟨i0, w0, t0, f0, o0⟩, hx⟩ : ∃ x, H[0] = x := ⟨_, rfl⟩
      obtain ⟨⟨i1, w1, t1, f1, o1⟩, hy⟩ : ∃ x, H[j] = x := ⟨_, rfl⟩
      rw [hx] at a0
      rw [hy] at a1
      rw [hx, hy, HGV.out] at hgv
      simp only at hgv
      replace a0 : wo.cell? ⟨g, 2, none⟩ = some (.int .i64 t0) := a0
      replace a1 : wo.cell? ⟨g, j * 5 + 2, none⟩ = some (.int .i64 t1) := a1
      have HCC := Lib.hid (fun V (h : Below wo.heap.size wo V) => And.intro (below_cell h a0) (below_cell h a1))
      have HRD := Lib.hid (HRY2.out wo.drew (below_drewN hb 1))
      have hz := HQZ.out
      unfold maxLen at hz
      have hjj : (n1 : Int) - 1 = (j : Int) := by have := HJ.out; omega
      have hj2 : IntKind.i64.wrap (j : Int) = (j : Int) := IntWalk.i64_in _ (by have := HJ.out; omega)
      have hj0 : (0 : Int) ≤ (j : Int) := by omega
      have hj1 : (j : Int) < (n1 : Int) := by have := HJ.out; omega
      have hgv2 : IntKind.i64.wrap (t0 - t1) = GV := hgv.symm
      have HFB := Lib.hid hb
      clear hS hown hx hy hgv hjp h0p a0 a1 hb hz
      go_upto_region 14 with (fail)
      refine wp_region_held_drew (S := fun V => V.cell? ⟨g, 2, none⟩ = some (.int .i64 t0) ∧ V.cell? ⟨g, j * 5 + 2, none⟩ = some (.int .i64 t1)) (by kernel_rfl) (HCC.out _ (below_drewN (Below.refl _ _) 1)) (fun hHeld => ?_)
      refine tkY 0 (.bool true) rfl hHeld ?_
      refine tkY 1 (.bool false) rfl hHeld ?_
      refine tkY 2 (.bool false) rfl hHeld ?_
      refine tkY 3 (.int .i64 GV) rfl hHeld ?_
      refine tkY 4 (.slice (some ⟨g, 0, none⟩) n1 c1) rfl hHeld ?_
      refine tkY 5 (.pointer (some ⟨g, 0, none⟩)) rfl hHeld ?_
      refine tkY 6 (.pointer (some ⟨g, 2, none⟩)) rfl hHeld ?_
      refine tkY 7 (.int .i64 t0) rfl hHeld ?_
      refine tkY 8 (.slice (some ⟨g, 0, none⟩) n1 c1) rfl hHeld ?_
      refine tkY 9 (.slice (some ⟨g, 0, none⟩) n1 c1) rfl hHeld ?_
      refine tkY 10 (.int .i64 n1) rfl hHeld ?_
      refine tkY 11 (.int .i64 j) rfl hHeld ?_
      refine tkY 12 (.pointer (some ⟨g, j * 5, none⟩)) rfl hHeld ?_
      refine tkY 13 (.pointer (some ⟨g, j * 5 + 2, none⟩)) rfl hHeld ?_
      refine tkY 14 (.int .i64 t1) rfl hHeld ?_
      refine tkY 15 (.int .i64 GV) rfl hHeld ?_
      refine tkY 16 (.bool true) rfl hHeld ?_
      refine tkY 17 (.bool true) rfl hHeld ?_
      refine tkY 18 (.bool true) rfl hHeld ?_
      refine tkC 19 rfl (fun K hK => ?_)
      go_simp
      go_at_call 45
      refine HRD.out.mono ?_
      rintro e w9 ⟨rfl, hb9⟩
      refine hK.out _ _ (HCC.out _ (below_call (below_drewN (Below.refl _ _) 1) hb9 (Nat.le_refl _))) (fun hHeld => ?_)
      clear hK K
      try simp only [Act.put, List.getElem_toArray, List.getElem_cons_zero, List.getElem_cons_succ, List.setIfInBounds_toArray, List.set_cons_zero, List.set_cons_succ]
      refine tkY 20 (.bool true) rfl hHeld ?_
      refine tkY 21 (.bool true) rfl hHeld ?_
      refine wpAnyH_done (by kernel_rfl) ?_ _
      go_wp2_with fail
      go_ret
      exact ⟨rfl, below_call HFIN.out (below_call (below_drewN HFB.out 1) hb9 (Nat.le_refl _)) (by have := HFIN.out.size; omega)⟩
end Go.Proofs.YtapgnaimbgjcnaaGreatDoor
