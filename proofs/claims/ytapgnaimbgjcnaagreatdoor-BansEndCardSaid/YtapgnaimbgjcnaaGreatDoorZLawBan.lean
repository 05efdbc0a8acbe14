/-
  BansEnd: the law's own walk. (Printed by gen_lawban.py.)
-/
import Derived.Test.YtapgnaimbgjcnaaGreatDoorZLawFal
import Derived.Test.YtapgnaimbgjcnaaGreatDoorZOncP
import Derived.Test.YtapgnaimbgjcnaaGreatDoorZRowH
namespace Go.Proofs.YtapgnaimbgjcnaaGreatDoor
open Go Go.RowKit
attribute [local go_sem ↓] Go.wp_at_zero Go.wp_at_succ
theorem annX_key : keyBv annX = true := by decide +kernel
theorem cat_ann {l : List Bev} {u : Int} (h : bevsF l = 0) (h0 : 0 ≤ u) (h1 : u ≤ 1000) : catF l [anyX, annX] u = 0 := by
 unfold catF
 rw [if_pos h]
 have hk : ([anyX, annX].any (fun s => !keyBv s)) = false := by rw [List.any_cons, List.any_cons, anyX_key, annX_key]; rfl
 rw [if_neg (by rw [hk]; decide)]
 have hm : momB u = true := by
  unfold momB outB
  rw [Bool.not_eq_true', decide_eq_false_iff_not]
  omega
 rw [if_pos hm]
theorem drw_erl {x : Bev} (h : DrwE x) (hf : bevF x = 0) : ErlE x := by
 obtain ⟨h1, h2⟩ := h
 have hm := (bevF_ok hf).1
 unfold momB outB at hm
 have c : decide (x.at_ < 0 ∨ 345686399999 < x.at_) = false := by simpa using hm
 have c := of_decide_eq_false c
 refine ⟨by omega, fun e => ?_⟩
 rcases h2 with h2 | h2
 · rw [e] at h2
   unfold whsX at h2
   simp only [List.mem_cons, List.not_mem_nil, or_false] at h2
   rcases h2 with h | h | h <;> exact absurd h (by decide)
 · rw [e] at h2
   exact absurd h2 (by decide)
theorem banL_W {l : List Bev} (h : ∀ x ∈ l, BevW x) : (∀ x ∈ l ++ [banE], BevW x) ∧ (∀ x ∈ l ++ [banE] ++ [freeE], BevW x) := by
 have hb : BevW banE := ⟨by decide, by decide, by decide, by decide⟩
 have hf : BevW freeE := ⟨by decide, by decide, by decide, by decide⟩
 have h1 : ∀ x ∈ l ++ [banE], BevW x := fun x hx => by
  rcases List.mem_append.1 hx with hx | hx
  · exact h x hx
  · rw [List.mem_singleton.1 hx]; exact hb
 refine ⟨h1, fun x hx => ?_⟩
 rcases List.mem_append.1 hx with hx | hx
 · exact h1 x hx
 · rw [List.mem_singleton.1 hx]; exact hf
set_option maxRecDepth 100000 in
set_option maxHeartbeats 8000000 in
theorem ban_walk (a0 : Option Addr) (len0 cap0 : Nat) (z0 : List Int) (w : World) (w0 : InRow w a0 len0 cap0 z0) (ht : Tab w) :
 Calls Tryz.prog 5 #[.slice a0 len0 cap0] w fun e w' => e = .returned (.bool true) ∧ Below w.heap.size w w' := by
 have HTB := Lib.hid ht
 clear ht
 have hs0 := strmX_start w0 25
 have hb0 : Bx w.heap.size w.heap.size w (w.alloc (.cells #[.slice a0 len0 cap0, .int .i64 0] 25)) := (Bx.refl _ _ _).alloc (Nat.le_refl _) _
 obtain ⟨W1, hW1⟩ : ∃ W, W = w.alloc (.cells #[.slice a0 len0 cap0, .int .i64 0] 25) := ⟨_, rfl⟩
 obtain ⟨zs, hzs⟩ : ∃ zs : ZsT, (⟨z0.take len0, w.heap.size⟩ : ZsT) = zs := ⟨_, rfl⟩
 rw [← hW1, hzs] at hs0
 rw [← hW1] at hb0
 have hX0 := SpX.start hs0
 clear w0 hs0 hzs
 go_enter Tryz.func5, Tryz.ntmps5
 go_wp2_with fail
 rw [← hW1]
 clear hW1
 obtain ⟨b, hb⟩ : ∃ b, b = w.heap.size := ⟨_, rfl⟩
 rw [← hb] at hX0 hb0 ⊢
 have HBE := Lib.hid hb
 have HB0 := Lib.hid hb0
 clear hb hb0
 refine (spE_range hX0 0 20 (by omega) (by omega) (by omega) (by omega)).mono ?_
 rintro e w2 ⟨m, rfl, _, m0, m1, hX2⟩
 obtain ⟨m, rfl⟩ := Int.eq_ofNat_of_zero_le m0
 have hc2 : b < w2.heap.size := hX2.lt
 go_wp2_with fail
 refine (rightEventsX_calls b 1 m zs w2 hX2.strm (by omega) (by omega)).mono ?_
 rintro e w3 ⟨A, c, base, l, r, rfl, _, hl0, hdr, hlz, hlm, hr, hbase, hX3⟩
 have hlen : l.length ≤ 20 := by omega
 have hr3 : r ≤ 5000 := by omega
 have HB2 := Lib.hid hX2.bx
 have hn0 : l.length ≤ 20 := hlen
 have HO3 : w3.ownsRow base 78 8 (.slice A l.length c) l.length (l.flatMap bevC) := hX3.head
 have hr3b : Bevs w3 b A l.length c l := ⟨Rd.own HO3 (Nat.lt_of_lt_of_le hc2 hbase), hlz.bevW⟩
 have hlt3 : b < w3.heap.size := hX3.lt
 obtain ⟨i0, hi, hz0, hz1, hz2⟩ := info_parts info_bev
 have HBW : Hid (Below w.heap.size w w3) := Lib.hid (by
  have h2 := (HB0.out.call HB2.out (by have := HBE.out; omega)).call hX3.bx (by have := HBE.out; omega)
  rw [← HBE.out]
  exact h2.below (Nat.le_refl _))
 have hv := (bevs_ok hl0).1
 have her : ∀ x ∈ l, ErlE x := fun x hx => drw_erl (hdr x hx) (hv x hx)
 obtain ⟨hb2, hb3⟩ := ban_bevs hl0 her (by omega)
 obtain ⟨hw2, hw3⟩ := banL_W hlz.bevW
 have HV1 := Lib.hid (fun x hx => evK_one (hv x hx) : ∀ x ∈ l, EvK x)
 have HV3 := Lib.hid (evK_all hb3)
 have HER := Lib.hid her
 have HC1 := Lib.hid (cat_ann hb2 (u := 550) (by omega) (by omega))
 have HC2 := Lib.hid (cat_any hb3 (u := 600) (by omega) (by omega))
 have HC3 := Lib.hid (cat_any hl0 (u := 450) (by omega) (by omega))
 have HBN := Lib.hid (ban_desk her).1
 have HW2 := Lib.hid hw2
 have HW3 := Lib.hid hw3
 have HT := Lib.hid (fun W (h : Below w3.heap.size w3 W) => HTB.out.below (below_call HBW.out h (by have := HBW.out.size; omega)))
 have HRY := Lib.hid (fun W (h : Below w3.heap.size w3 W) => ready_calls b W (Nat.lt_of_lt_of_le hlt3 h.size) (HT.out W h))
 obtain ⟨n, hn⟩ : ∃ n, l.length = n := ⟨_, rfl⟩
 have HN := Lib.hid hn
 rw [hn] at hr3b hn0 ⊢
 have HR3 := Lib.hid (fun W (h : Below w3.heap.size w3 W) => hr3b.below h)
 have HCL := Lib.hid (cloneEv_calls b A n c _ w3 hr3b.rd (fun u hu => by
  obtain ⟨x, hx, hu⟩ := List.mem_flatMap.1 hu
  exact bevC_one x u hu) (by omega))
 have HLT3 := Lib.hid hlt3
 clear hX0 hX2 hX3 HO3 hr3b hlt3 hv her hb2 hb3 hw2 hw3 hl0 hdr hlz hlm hr hr3 hbase hn hlen m0 m1 hc2
 go_wp2_with fail
 refine HCL.out.mono ?_
 rintro e w4 ⟨v4, rfl, ho4, hb4⟩
 have hS4 := (Sq.start w3).ownB hb4 ho4
 have HO4 : w4.ownsRow w3.heap.size 78 8 v4 n (l.flatMap bevC) := hS4.head
 obtain ⟨A4, c4, hv4⟩ := own_form ho4
 subst hv4
 have hz4 := hS4.size
 clear ho4 hb4 HCL
 go_wp2_with (first
  | (at_builtin; refine wpList_append_own_at _ rfl _ _ 26 rfl w3.heap.size 78 i0 (.agg #[.int .i64 0, .int .i64 0, .string ⟨#[]⟩, .string ⟨#[]⟩, .string ⟨#[]⟩, .string ⟨#[]⟩, .int .i64 0, .int .i64 0]) 8 96 Tryz.underlying26 hi hz0 hz1 hz2 rfl (by decide) _ _ _ rfl (HO4.alloc _) ⟨w4.heap.size, 0, none⟩ 1 1 [.int .i64 500, .int .i64 5, .string ⟨#[]⟩, .string ⟨#[97, 110, 110]⟩, .string ⟨#[99, 104, 105, 101, 102]⟩, .string ⟨#[]⟩, .int .i64 0, .int .i64 0] rfl rfl (World.news_of_block (heap_alloc_new _ _)) (one8e rfl rfl rfl rfl rfl rfl rfl rfl) (by unfold maxLen; omega) (by omega) (by rw [World.size_alloc]; omega) ?_; intro v6 w5 hown6 hgrow6 _ hat6; have hS5 := (hS4.alloc _).append hown6 hgrow6 hat6; obtain ⟨A5, c5, hv8⟩ := own_form hown6; subst hv8; clear hown6 hgrow6 hat6))
 have hS6 : Sq w3 w5 [rOwn w3.heap.size 78 8 (.slice A5 (n + 1) c5) (n + 1) ((l ++ [banE]).flatMap bevC)] := by
  rw [bev_snoc]
  exact hS5
 have hr5 : Bevs w5 b A5 (n + 1) c5 (l ++ [banE]) := ⟨Rd.own (hS6.head : World.ownsRow _ _ _ _ _ _ _) HLT3.out, HW2.out⟩
 have HCL := Lib.hid (cloneEv_calls b A5 (n + 1) c5 _ w5 hr5.rd (fun u hu => by
  obtain ⟨x, hx, hu⟩ := List.mem_flatMap.1 hu
  exact bevC_one x u hu) (by omega))
 have HS6 := Lib.hid hS6
 have HR5 := Lib.hid (fun W (h : Below w5.heap.size w5 W) => hr5.below h)
 have hnn : ((n + 1 : Nat) : Int) = (n : Int) + 1 := by omega
 clear HO4 hS4 hS5 hS6 hr5 hz4
 go_wp2_with fail
 refine HCL.out.mono ?_
 rintro e w6 ⟨v6', rfl, ho6, hb6⟩
 have HO6 : w6.ownsRow w5.heap.size 78 8 v6' (n + 1) ((l ++ [banE]).flatMap bevC) := ho6
 have hS7 := (Sq.start w5).ownB hb6 ho6
 obtain ⟨A6, c6, hv6⟩ := own_form ho6
 subst hv6
 have hz6 := hS7.size
 have hz56 : w3.heap.size ≤ w5.heap.size := HS6.out.size
 have HB6 := Lib.hid hb6
 clear ho6 hb6 HCL
 go_wp2_with (first
  | (at_builtin; refine wpList_append_own_at _ rfl _ _ 26 rfl w5.heap.size 78 i0 (.agg #[.int .i64 0, .int .i64 0, .string ⟨#[]⟩, .string ⟨#[]⟩, .string ⟨#[]⟩, .string ⟨#[]⟩, .int .i64 0, .int .i64 0]) 8 96 Tryz.underlying26 hi hz0 hz1 hz2 rfl (by decide) _ _ _ rfl (HO6.alloc _) ⟨w6.heap.size, 0, none⟩ 1 1 [.int .i64 600, .int .i64 6, .string ⟨#[]⟩, .string ⟨#[97, 110, 110]⟩, .string ⟨#[99, 104, 105, 101, 102]⟩, .string ⟨#[]⟩, .int .i64 0, .int .i64 0] rfl rfl (World.news_of_block (heap_alloc_new _ _)) (one8e rfl rfl rfl rfl rfl rfl rfl rfl) (by unfold maxLen; omega) (by omega) (by rw [World.size_alloc]; omega) ?_; intro v6 w8 hown6 hgrow6 _ hat6; have hS8 := (hS7.alloc _).append hown6 hgrow6 hat6; obtain ⟨A8, c8, hv8⟩ := own_form hown6; subst hv8; clear hown6 hgrow6 hat6))
 have hS9 : Sq w5 w8 [rOwn w5.heap.size 78 8 (.slice A8 (n + 2) c8) (n + 2) ((l ++ [banE] ++ [freeE]).flatMap bevC)] := by
  rw [bev_snoc]
  exact hS8
 have hr8 : Bevs w8 b A8 (n + 2) c8 (l ++ [banE] ++ [freeE]) := ⟨Rd.own (hS9.head : World.ownsRow _ _ _ _ _ _ _) (Nat.lt_of_lt_of_le HLT3.out hz56), HW3.out⟩
 have S58 := hS9.below
 have S38 := below_call HS6.out.below S58 (Nat.le_refl _)
 have hlt8 : b < w8.heap.size := Nat.lt_of_lt_of_le HLT3.out S38.size
 have P1 := Lib.hid (place_calls b A5 (n + 1) c5 (l ++ [banE]) 550 anyX annX w8 hlt8 (HR5.out w8 S58) (by omega) (by decide) (by decide))
 have P2 := Lib.hid (fun W (h : Below w8.heap.size w8 W) => board_calls b A8 (n + 2) c8 (l ++ [banE] ++ [freeE]) 600 anyX W (Nat.lt_of_lt_of_le hlt8 h.size) (hr8.below h) (by omega) (by decide))
 have P3 := Lib.hid (fun W (h : Below w8.heap.size w8 W) => board_calls b A n c l 450 anyX W (Nat.lt_of_lt_of_le hlt8 h.size) (HR3.out W (below_call S38 h (Nat.le_refl _))) (by omega) (by decide))
 have E1 := Lib.hid (fun W => errs0_calls [0, 0, 0] 3 rfl (by decide) (by omega) W)
 have HRY2 := Lib.hid (fun W (h : Below w8.heap.size w8 W) => HRY.out W (below_call S38 h (Nat.le_refl _)))
 have HFIN0 := Lib.hid (below_call HBW.out S38 (by have := HBW.out.size; omega))
 have HLT8 := Lib.hid hlt8
 have hany : anyX = ⟨#[97, 110, 121]⟩ := rfl
 have hann : annX = ⟨#[97, 110, 110]⟩ := rfl
 rw [HC1.out] at P1
 rw [HC2.out] at P2
 rw [HC3.out] at P3
 rw [hany] at P1 P2 P3
 rw [hann] at P1
 simp only [List.map_cons, List.map_nil] at E1
 clear hS7 hS8 hS9 hr8 S58 S38 hlt8 HR5 HR3 HO6 hz6 hz56 HS6 hany hann HRY
 go_wp2_with fail
 refine P1.out.mono ?_
 rintro e w9 ⟨R0, hI0, rfl, hb9⟩
 have hpl : plcB R0 annX = none := by
  obtain ⟨ys, hY, rfl⟩ := hI0.1 rfl
  exact ban_place hY HBN.out
 rw [show (⟨#[97, 110, 110]⟩ : ByteArray) = annX from rfl, hpl, show plcV none = Value.agg #[.int .i64 0, .int .i64 0, .string ⟨#[]⟩, .string ⟨#[]⟩, .int .i64 0] from rfl, Option.isSome_none]
 have hb10 : Below w8.heap.size w8 (w9.alloc (.cells #[.int .i64 0, .int .i64 0, .string ⟨#[]⟩, .string ⟨#[]⟩, .int .i64 0] 80)) := hb9.alloc hb9.size _
 have HB10 := Lib.hid hb10
 clear hI0 hpl hb9 hb10 P1
 go_wp2_with fail
 refine (P2.out _ HB10.out).mono ?_
 rintro e w11 ⟨A1, c1, R1, hI1, rfl, hS11⟩
 have HI1 := Lib.hid hI1
 obtain ⟨n1, hn1⟩ : ∃ z, R1.length = z := ⟨_, rfl⟩
 rw [hn1] at hS11 ⊢
 have S11 := below_call HB10.out hS11.below (Nat.le_refl _)
 have hRd1 : Rd w11 b 5 (.slice A1 n1 c1) n1 (R1.flatMap brwC) := Rd.own (hS11.head : World.ownsRow _ _ _ _ _ _ _) (Nat.lt_of_lt_of_le HLT8.out HB10.out.size)
 have HRd1 := Lib.hid hRd1
 clear hI1 hn1 hS11 hRd1 P2 HB10
 go_wp2_with fail
 refine (P3.out _ S11).mono ?_
 rintro e w12 ⟨A2, c2, R2, hI2, rfl, hS12⟩
 have HALL : Hid (∀ z ∈ R2, R1.any (banP z) = true) := Lib.hid (by
  obtain ⟨ys, hY, rfl⟩ := hI2.1 rfl
  obtain ⟨zs, hZ, rfl⟩ := HI1.out.1 rfl
  intro z hz
  obtain ⟨o, ho, h1, h2⟩ := free_board HER.out HV1.out HV3.out hY hZ z hz
  refine List.any_eq_true.2 ⟨o, ho, ?_⟩
  unfold banP
  rw [h1, h2]
  simp)
 obtain ⟨n2, hn2⟩ : ∃ z, R2.length = z := ⟨_, rfl⟩
 rw [hn2] at hS12 ⊢
 have HN2 := Lib.hid hn2
 have S12 := below_call S11 hS12.below (Nat.le_refl _)
 have HX12 := Lib.hid (And.intro (HRd1.out.below hS12.below) (Rd.own (hS12.head : World.ownsRow _ _ _ _ _ _ _) (Nat.lt_of_lt_of_le HLT8.out S11.size) : Rd w12 b 5 (.slice A2 n2 c2) n2 (R2.flatMap brwC)))
 clear hI2 hn2 hS12 HRd1 P3 S11
 go_wp2_with fail
 refine (E1.out _).mono ?_
 rintro e w13 ⟨rfl, hb13⟩
 have HS13 := Lib.hid (below_call S12 hb13 (Nat.le_refl _))
 have HX13 := Lib.hid (And.intro (HX12.out.1.below hb13) (HX12.out.2.below hb13))
 obtain ⟨hyl, hyc, hym, hcells⟩ := HX13.out.2.cells brwC_len (by omega)
 have HC := Lib.hid hcells
 unfold maxLen at hym
 clear S12 hb13 HX12 hcells E1
 go_wp2_with fail
 go_loopw [60] (fun i wr => ∃ k : Nat, k ≤ n2 ∧ i = .int .i64 k ∧ Below w13.heap.size w13 wr) (fun i _ => n2 - (intOf i).toNat)
 case atStart => exact ⟨0, Nat.zero_le _, rfl, Below.refl _ _⟩
 case round =>
  obtain ⟨k, hk, rfl, hb⟩ := hrel
  obtain ⟨wo, hwo⟩ : ∃ z, z = wr := ⟨_, rfl⟩
  subst hwo
  by_cases hlt : k < n2
  · have hkr : k < R2.length := by omega
    obtain ⟨g, o, hA, _, hcs⟩ := HC.out (by omega)
    subst hA
    have hal := HALL.out R2[k] (List.getElem_mem hkr)
    have c0 := below_cell hb (hcs k hkr 0 (by omega))
    have c1' := below_cell hb (hcs k hkr 1 (by omega))
    have c2' := below_cell hb (hcs k hkr 2 (by omega))
    have c3' := below_cell hb (hcs k hkr 3 (by omega))
    have c4' := below_cell hb (hcs k hkr 4 (by omega))
    obtain ⟨z, hz⟩ : ∃ z, R2[k] = z := ⟨_, rfl⟩
    rw [hz] at c0 c1' c2' c3' c4' hal
    replace c0 : wo.cell? ⟨g, o + k * 5, none⟩ = some (.int .i64 z.rank) := c0
    replace c1' : wo.cell? ⟨g, o + k * 5 + 1, none⟩ = some (.int .i64 z.time) := c1'
    replace c2' : wo.cell? ⟨g, o + k * 5 + 2, none⟩ = some (.string z.id) := c2'
    replace c3' : wo.cell? ⟨g, o + k * 5 + 3, none⟩ = some (.string z.who) := c3'
    replace c4' : wo.cell? ⟨g, o + k * 5 + 4, none⟩ = some (.int .i64 z.date) := c4'
    have hSE := (Sq.start wo).add #[.int .i64 z.rank, .int .i64 z.time, .string z.id, .string z.who, .int .i64 z.date] 80
    have hsb := hSE.below
    have HH := Lib.hid (hasBan_calls b wo.heap.size z A1 n1 c1 R1 _ hSE.head (HX13.out.1.below (below_call hb hsb (Nat.le_refl _))))
    rw [hal] at HH
    have HSB := Lib.hid (below_call hb hsb (Nat.le_refl _))
    clear hcs hz hal hSE hsb hb
    go_wp2_with fail
    refine HH.out.mono ?_
    rintro e w15 ⟨rfl, hb15⟩
    have HB15 := Lib.hid (below_call HSB.out hb15 (Nat.le_refl _))
    clear hb15 HH c0 c1' c2' c3' c4'
    go_wp2_with fail
    go_roundw
    case rel => exact ⟨k + 1, by omega, by go_num, HB15.out⟩
    case measure => simp [intOf]; omega
  · have HRD := Lib.hid (HRY2.out wo (below_call HS13.out hb (Nat.le_refl _)))
    have HFB := Lib.hid (below_call HFIN0.out (below_call HS13.out hb (Nat.le_refl _)) (by have := HFIN0.out.size; omega))
    clear hb
    go_wp2_with fail
    refine HRD.out.mono ?_
    rintro e w15 ⟨rfl, hb15⟩
    have hfin := below_call HFB.out hb15 (by have := HFB.out.size; omega)
    clear hb15 HRD
    go_wp2_with fail
    go_ret
    exact ⟨rfl, hfin⟩
end Go.Proofs.YtapgnaimbgjcnaaGreatDoor
