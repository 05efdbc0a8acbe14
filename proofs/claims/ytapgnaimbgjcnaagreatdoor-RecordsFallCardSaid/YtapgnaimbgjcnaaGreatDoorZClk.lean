/-
  clocked answers true: what timer.Write makes of 61500.
-/
import Derived.Test.YtapgnaimbgjcnaaGreatDoorZItoa
import Derived.Test.YtapgnaimbgjcnaaGreatDoorZFlat
import Derived.Test.YtapgnaimbgjcnaaGreatDoorZScmp
import Derived.Lib.AppendIntMem
import Derived.Lib.Split
import Derived.Lib.SplitLaws
import Derived.Lib.IndexBytes
import Derived.Lib.AtoiErr
import Derived.Lib.AtoiBound
import Derived.Lib.ItoaMem
import Derived.Lib.SlicesS
import Derived.Test.YtapgnaimbgjcnaaGreatDoorProg
import Derived.Test.YtapgnaimbgjcnaaGreatDoorZKey2
import Derived.Lib.Hide
import Derived.Lib.AtoiErrMem
import Derived.Deep.DeepCutAuto
import Derived.Deep.RegionLaw
import Derived.BigQuiet
import Derived.Test.YtapgnaimbgjcnaaGreatDoorZTakF
import Derived.Test.YtapgnaimbgjcnaaGreatDoorZHs7
import Derived.Test.YtapgnaimbgjcnaaGreatDoorZHsP
import Derived.Test.YtapgnaimbgjcnaaGreatDoorZEv1W
import Derived.Test.YtapgnaimbgjcnaaGreatDoorZMapR
import Derived.Test.YtapgnaimbgjcnaaGreatDoorZTk
import Derived.Deep.RegionHeld3
import Derived.RegionTactic
import Derived.Test.YtapgnaimbgjcnaaGreatDoorZDk5
import Derived.Test.YtapgnaimbgjcnaaGreatDoorZSlot3
import Derived.Test.YtapgnaimbgjcnaaGreatDoorZEv11
import Derived.Deep.CutBlock
import Derived.Test.YtapgnaimbgjcnaaGreatDoorZSlot1
import Derived.Test.YtapgnaimbgjcnaaGreatDoorZSortMem
import Derived.Shelf.SlGeneric
import Derived.Shelf.SlSortCmp.WholeK
import Derived.Test.YtapgnaimbgjcnaaGreatDoorZSortEv
import Derived.Test.YtapgnaimbgjcnaaGreatDoorZBid3
namespace Go.Proofs.YtapgnaimbgjcnaaGreatDoor
open Go Go.RowKit
theorem ret_str {a b : ByteArray} (h : a = b) : Ending.returned (.string a) = .returned (.string b) := by rw [h]
def Tab (w : World) : Prop := Lib.TabBelow Tryz.prog w.heap.size w "internal/strconv.uint64pow10" .u64 Lib.pow10Tab
theorem Tab.below {w w' : World} (h : Tab w) (k : Below w.heap.size w w') : Tab w' := fun w2 h2 => h w2 (below_call k h2 (Nat.le_refl _))
theorem Tab.bx {w w' : World} {b : Nat} (h : Tab w) (k : Bx w.heap.size b w w') (hb : w.heap.size ≤ b) : Tab w' := h.below (k.below hb)
theorem itoa0_calls (w : World) : Calls Tryz.prog 63 #[.int .i64 0] w fun e w' => e = .returned (.string ⟨#[48]⟩) ∧ w = w' := by
 refine (Tryz.strconv_Itoa_small 0 (by decide) w).mono ?_
 rintro e w1 ⟨rfl, rfl⟩
 exact ⟨ret_str (by kernel_rfl), rfl⟩
theorem itoa1_calls (w : World) : Calls Tryz.prog 63 #[.int .i64 1] w fun e w' => e = .returned (.string ⟨#[49]⟩) ∧ w = w' := by
 refine (Tryz.strconv_Itoa_small 1 (by decide) w).mono ?_
 rintro e w1 ⟨rfl, rfl⟩
 exact ⟨ret_str (by kernel_rfl), rfl⟩
theorem itoa1500_calls (w : World) (ht : Tab w) : Calls Tryz.prog 63 #[.int .i64 1500] w (BRet (.string ⟨#[49, 53, 48, 48]⟩) w) := by
 refine (Tryz.strconv_Itoa 1500 (by decide) (by decide) w ht.here).mono ?_
 rintro e w1 ⟨rfl, k, os, rfl⟩
 exact ⟨ret_str (by kernel_rfl), Lib.below_grow _ _ (Nat.le_refl _) _ _⟩
theorem two1_calls (w : World) : Calls Tryz.prog 196 #[.int .i64 1] w fun e w' => e = .returned (.string ⟨#[48, 49]⟩) ∧ w = w' := by
 go_enter Tryz.func196, Tryz.ntmps196
 go_wp2_with fail
 refine (itoa0_calls _).mono ?_
 rintro e w1 ⟨rfl, rfl⟩
 go_wp2_with fail
 refine (itoa1_calls _).mono ?_
 rintro e w1 ⟨rfl, rfl⟩
 go_wp2_with fail
 go_ret
 exact ⟨ret_str (by kernel_rfl), rfl⟩
theorem write1_calls (w : World) (ht : Tab w) : Calls Tryz.prog 144 #[.int .i64 61500, .int .i64 1] w (BRet (.string ⟨#[49, 58, 48, 49, 46, 53]⟩) w) := by
 go_enter Tryz.func144, Tryz.ntmps144
 go_wp2_with fail
 refine (itoa1_calls _).mono ?_
 rintro e w1 ⟨rfl, rfl⟩
 go_wp2_with fail
 refine (itoa1_calls _).mono ?_
 rintro e w1 ⟨rfl, rfl⟩
 go_wp2_with fail
 refine (two1_calls _).mono ?_
 rintro e w1 ⟨rfl, rfl⟩
 go_wp2_with fail
 refine (itoa1500_calls _ ht).mono ?_
 rintro e w1 ⟨rfl, hb⟩
 go_wp2_with fail
 go_ret
 exact ⟨ret_str (by kernel_rfl), hb⟩
theorem timeWrite1_calls (w : World) (ht : Tab w) : Calls Tryz.prog 97 #[.int .i64 61500, .int .i64 1] w (BRet (.tuple #[.string ⟨#[49, 58, 48, 49, 46, 53]⟩, .int .i64 0]) w) := by
 have o1 : outB 61500 0 864000000 = false := by decide
 have o2 : outB 1 0 3 = false := by decide
 go_enter Tryz.func97, Tryz.ntmps97
 go_wp2_with (first | (go_at_call 104; refine (out_calls _ _ _ _).mono ?_; rintro e w1 ⟨rfl, rfl⟩))
 refine (write1_calls _ ht).mono ?_
 rintro e w1 ⟨rfl, hb⟩
 go_wp2_with fail
 go_ret2
 exact ⟨rfl, hb⟩
end Go.Proofs.YtapgnaimbgjcnaaGreatDoor
/-
  Numbers that are read: base.Number and splitref2.Number by contracts: both answer numB, and numI where it holds.
-/
namespace Go.Proofs.YtapgnaimbgjcnaaGreatDoor
open Go Go.RowKit
theorem itoa_calls (n : Int) (h0 : -9223372036854775808 ≤ n) (h1 : n ≤ 9223372036854775807) (w : World) (ht : Tab w) : Calls Tryz.prog 63 #[.int .i64 n] w (BRet (.string ⟨(Lib.itoa n).toArray⟩) w) := by
 refine (Tryz.strconv_Itoa n h0 h1 w ht.here).mono ?_
 rintro e w1 ⟨rfl, k, os, rfl⟩
 exact ⟨rfl, Lib.below_grow _ _ (Nat.le_refl _) _ _⟩
end Go.Proofs.YtapgnaimbgjcnaaGreatDoor
/-
  board.Reigned by its contract. (Printed by gen_hsa.py.)
-/
namespace Go.Proofs.YtapgnaimbgjcnaaGreatDoor
open Go Go.RowKit
attribute [local go_sem ↓] Go.wp_at_zero Go.wp_at_succ
theorem his_le (u : Int) (l : List Bev) : (hisF u l).length ≤ l.length := by
 have main : ∀ (l : List Bev) (out : List Rgn), (l.foldl (stH u) out).length ≤ out.length + l.length := by
  intro l
  induction l with
  | nil => intro out; exact Nat.le_refl _
  | cons a t ih =>
    intro out
    have h1 := ih (stH u out a)
    have h2 := stH_len u out a
    show (t.foldl (stH u) (stH u out a)).length ≤ _
    rw [List.length_cons]
    omega
 have := main l []
 rw [List.length_nil, Nat.zero_add] at this
 exact this
def prL (g : LgM) (s : ByteArray) : List Value := [.string s, .string ⟨(Lib.itoa ((g s).getD 0)).toArray⟩]
theorem lg_bd (H : List Rgn) (s : ByteArray) : -9223372036854775808 ≤ ((lgF H) s).getD 0 ∧ ((lgF H) s).getD 0 ≤ 9223372036854775807 := by
 rcases List.eq_nil_or_concat H with rfl | ⟨q, r, rfl⟩
 · exact ⟨by show _ ≤ (0 : Int); decide, by show (0 : Int) ≤ _; decide⟩
 · have main : ∀ (l : List Rgn) (g : LgM), (∀ s, -9223372036854775808 ≤ (g s).getD 0 ∧ (g s).getD 0 ≤ 9223372036854775807) → ∀ s, -9223372036854775808 ≤ ((l.foldl lgS g) s).getD 0 ∧ ((l.foldl lgS g) s).getD 0 ≤ 9223372036854775807 := by
    intro l
    induction l with
    | nil => intro g h; exact h
    | cons a t ih =>
      intro g h
      refine ih _ (fun s => ?_)
      unfold lgS
      split
      · show -9223372036854775808 ≤ IntKind.i64.wrap _ ∧ IntKind.i64.wrap _ ≤ 9223372036854775807
        rw [IntKind.wrap_i64]
        omega
      · exact h s
   exact main _ _ (fun s => ⟨by show _ ≤ (0 : Int); decide, by show (0 : Int) ≤ _; decide⟩) s
set_option maxRecDepth 100000 in
theorem sortLgS_calls (w0 w : World) (A : Option Addr) (n c gm m nn : Nat) (g : LgM) (kb : List ByteArray) (l : List Rsc) (hl : kb.length = n) (h20 : n < 20) (hz : ∀ s ∈ kb, s.size ≤ maxLen) (hu : kb.Pairwise (fun a b => cmpS a b < 0))
 (hc0 : w.cell? ⟨gm, 0, none⟩ = some (.map (some m))) (hmp : MapS w 9 m nn (lgV g)) (hne : ∀ q, A = some ⟨q, 0, none⟩ → q ≠ gm ∧ q ≠ m ∧ gm < w.heap.size ∧ m < w.heap.size)
 (hS : Sq w0 w (rOwn w0.heap.size 9 1 (.slice A n c) n (strsV kb) :: l)) :
 Calls Tryz.prog 60 #[.slice A n c, .func (.func 61) #[] #[.pointer (some ⟨gm, 0, none⟩)]] w (SlgR w0 A n c g kb l) := by
 have HI := Lib.hid (stableLg_calls w0 w A n c gm m nn g kb l hl h20 hz hu hc0 hmp hne hS)
 clear hl h20 hz hu hc0 hmp hne hS
 go_enter Tryz.func60, Tryz.ntmps60
 go_wp2_with fail
 refine HI.out.mono ?_
 rintro e w1 hys
 obtain ⟨rfl, hy⟩ := hys
 have HY := Lib.hid hy
 clear hy
 go_wp2_with fail
 go_end0
 exact ⟨rfl, HY.out⟩
theorem info_prH : (Tryz.prog.info? 53).map (fun i => (i.zero, i.size, i.bytes)) = some (some (.agg #[.string ⟨#[]⟩, .string ⟨#[]⟩]), 2, 32) := by kernel_rfl
def RgdR (l : List Bev) (cat : ByteArray) (u F : Int) (w : World) (e : Ending) (w' : World) : Prop :=
 ∃ (A : Option Addr) (c : Nat) (H : List Rgn) (zs : List ByteArray), HisIs l cat u F H ∧ (F = 0 → zs.Perm (lgKs H) ∧ zs.Pairwise (fun a b => 0 ≤ cmpG (lgF H) b a)) ∧ (F ≠ 0 → zs = []) ∧ e = .returned (.tuple #[.slice A zs.length c, .int .i64 F]) ∧ Sq w w' [rOwn w.heap.size 53 2 (.slice A zs.length c) zs.length (zs.flatMap (prL (lgF H)))]
set_option maxRecDepth 100000 in
set_option maxHeartbeats 8000000 in
theorem reigned_calls (b : Nat) (A : Option Addr) (n c : Nat) (l : List Bev) (u : Int) (cat : ByteArray) (w : World) (hb : b < w.heap.size) (hr : Bevs w b A n c l) (hn : n ≤ 3000) (hc : cat.size ≤ 1000000) (h38 : l.length ≤ 38) (ht : Tab w) :
 Calls Tryz.prog 13 #[.slice A n c, .string cat, .int .i64 u] w (RgdR l cat u (catF l [cat] u) w) := by
 obtain ⟨i0, hi, hz0, hz1, hz2⟩ := info_parts info_prH
 have hS0 := (Sq.start w).add #[.string cat] 9
 have hrl := blkRd (b := b) 1 1 (hS0.head : Blk _ w.heap.size _ _) (by omega) (by unfold maxLen; omega) rfl
 have HC := Lib.hid (categoryFault_calls b A (some ⟨w.heap.size, 0, none⟩) n c 1 1 l [cat] u _ (hr.below hS0.below) hrl (by intro s hs; simp at hs; subst hs; exact hc))
 have HS0 := Lib.hid hS0
 have HR := Lib.hid hr.rd
 have HLL := Lib.hid h38
 have HTB := Lib.hid ht
 clear h38 ht
 obtain ⟨F, hF⟩ : ∃ F, catF l [cat] u = F := ⟨_, rfl⟩
 rw [hF] at HC ⊢
 have HE : Hid (F = 0 → ∀ x ∈ l, EvK x) := Lib.hid (fun h => evK_all (catF_ok (hF.trans h)))
 clear hr hS0 hrl hc hF
 by_cases h0 : F = 0
 · subst h0
   have HE0 := Lib.hid (HE.out rfl)
   clear HE
   go_enter Tryz.func13, Tryz.ntmps13
   go_wp2_with fail
   refine HC.out.mono ?_
   rintro e w1 ⟨rfl, hb1⟩
   have hS1 := HS0.out.callB hb1
   have hmm := @run_makeMap Tryz.prog
   have hS1b := hS1.bare
   obtain ⟨mb, hmb⟩ : ∃ z, z = w1.heap.size := ⟨_, rfl⟩
   obtain ⟨W2, hW2, hS2⟩ : ∃ W, W = (w1.alloc (.map #[] 0)).alloc (.cells #[.map (some mb)] 100) ∧ Sq w W [rBlk (mb + 1) 100 #[.map (some mb)], rMap 9 mb 0 (fun _ => none)] := ⟨_, rfl, by
    have h := (hS1b.addMap 9).add #[.map (some mb)] 100
    rw [World.size_alloc, ← hmb] at h
    exact h⟩
   have HRA := Lib.hid (history_calls b A n c l u cat W2 (hS2.rd HR.out) HE0.out hn)
   have HFEW := Lib.hid (brd_half l u cat HE0.out)
   have HKD := Lib.hid (show KD (folE l u).1 by
    have h2 := KD.fol l u HE0.out l.length (Nat.le_refl _)
    rwa [List.take_length] at h2)
   have HS2 := Lib.hid hS2
   clear hS1 hb1 HC HS0 hS1b hS2
   go_upto_region 5 with (fail)
   rw [← hmb, ← hW2]
   clear hmb hW2 hmm
   go_wp2_with fail
   refine HRA.out.mono ?_
   rintro e w3 ⟨A3, c3, ys, hY, rfl, hS3⟩
   have HSZ := Lib.hid (his_sz HKD.out hY)
   have HLE := Lib.hid (his_le u ys)
   have HLY := Lib.hid hY.1.length_eq
   obtain ⟨H, hH⟩ : ∃ H, hisF u ys = H := ⟨_, rfl⟩
   have HIS : Hid (HisIs l cat u 0 H) := Lib.hid (by rw [← hH]; exact hisIs_ok hY)
   rw [hH] at hS3 HSZ HLE ⊢
   obtain ⟨q, hq⟩ : ∃ q, H.length = q := ⟨_, rfl⟩
   rw [hq] at hS3 HLE ⊢
   have HQ := Lib.hid hq
   have hq19 : q ≤ 19 := by have h1 := HLE.out; have h2 := HLY.out; have h3 := HFEW.out; have h4 := HLL.out; omega
   have hS4 : Sq w w3 [rMap 9 mb 0 (lgV (lgF (H.take 0))), rBlk (mb + 1) 100 #[.map (some mb)], rOwn w.heap.size 50 5 (.slice A3 q c3) q (H.flatMap rgnC)] := (((HS2.out.merge hS3).rebase HS2.out.size).front 1 rfl rfl).front 2 rfl rfl
   have HAH : Hid (0 < q → ∃ g, A3 = some ⟨g, 0, none⟩) := Lib.hid (fun h0 => own_ptr (hS4.nth 2 rfl : World.ownsRow _ _ _ _ _ _ _) h0)
   clear hY hH hq hS3 HRA HS2
   obtain ⟨gm, hgm⟩ : ∃ z, mb + 1 = z := ⟨_, rfl⟩
   have hgmm : gm ≠ mb := by omega
   rw [hgm] at hS4 ⊢
   clear hgm
   go_wp2_with fail
   go_loopw [30] (fun s30 wr => ∃ k : Nat, k ≤ q ∧ s30 = .int .i64 k ∧ Sq w wr [rMap 9 mb k (lgV (lgF (H.take k))), rBlk gm 100 #[.map (some mb)], rOwn w.heap.size 50 5 (.slice A3 q c3) q (H.flatMap rgnC)]) (fun s30 _ => q - (intOf s30).toNat)
   case atStart => exact ⟨0, Nat.zero_le _, rfl, hS4⟩
   case round =>
    clear hS4
    obtain ⟨k, hk, rfl, hS⟩ := hrel
    obtain ⟨wo, hwo⟩ : ∃ z, z = wr := ⟨_, rfl⟩
    subst hwo
    by_cases hlt : k < q
    · obtain ⟨gH, hgH⟩ := HAH.out (by omega)
      subst hgH
      have hkp : k < H.length := by rw [HQ.out]; exact hlt
      have hown : wo.ownsRow w.heap.size 50 5 (.slice (some ⟨gH, 0, none⟩) q c3) q (H.flatMap rgnC) := hS.nth 2 rfl
      have a0 := own_cell rgnC 5 rgnC_len hown k 0 hkp hlt (by omega)
      have a1 := own_cell rgnC 5 rgnC_len hown k 1 hkp hlt (by omega)
      have a2 := own_cell rgnC 5 rgnC_len hown k 2 hkp hlt (by omega)
      have a3 := own_cell rgnC 5 rgnC_len hown k 3 hkp hlt (by omega)
      have a4 := own_cell rgnC 5 rgnC_len hown k 4 hkp hlt (by omega)
      have hwz := HSZ.out H[k] (List.getElem_mem hkp)
      have htk : lgF (H.take (k + 1)) = lgS (lgF (H.take k)) H[k] := by rw [List.take_succ_eq_append_getElem hkp, lgF_snoc]
      obtain ⟨⟨id, who, tm, fr, to_⟩, hx⟩ : ∃ x, H[k] = x := ⟨_, rfl⟩
      rw [hx] at a0 a1 a2 a3 a4 hwz htk
      simp only at hwz
      replace a0 : wo.cell? ⟨gH, k * 5, none⟩ = some (.string id) := a0
      replace a1 : wo.cell? ⟨gH, k * 5 + 1, none⟩ = some (.string who) := a1
      replace a2 : wo.cell? ⟨gH, k * 5 + 2, none⟩ = some (.int .i64 tm) := a2
      replace a3 : wo.cell? ⟨gH, k * 5 + 3, none⟩ = some (.int .i64 fr) := a3
      replace a4 : wo.cell? ⟨gH, k * 5 + 4, none⟩ = some (.int .i64 to_) := a4
      have HTK := Lib.hid htk
      have hSE := hS.add #[.string id, .string who, .int .i64 tm, .int .i64 fr, .int .i64 to_] 50
      obtain ⟨WE, hWE⟩ : ∃ W, W = wo.alloc (.cells #[.string id, .string who, .int .i64 tm, .int .i64 fr, .int .i64 to_] 50) := ⟨_, rfl⟩
      obtain ⟨E, hE⟩ : ∃ E, E = wo.heap.size := ⟨_, rfl⟩
      rw [← hWE, ← hE] at hSE
      have hk0 : (0 : Int) ≤ (k : Int) := by omega
      have hk2 : (k : Int) < (q : Int) := by omega
      have HSE := Lib.hid hSE
      clear hS hx hown hkp htk hSE
      go_upto_region 8 with (fail)
      rw [← hWE, ← hE]
      have bE : Blk WE E _ _ := HSE.out.head
      have e1 := bE.cell 1
      have e3 := bE.cell 3
      have e4 := bE.cell 4
      have cg := (HSE.out.nth 2 rfl : Blk WE gm _ _).cell 0
      obtain ⟨D1, hD1⟩ : ∃ z, IntKind.i64.wrap (to_ - fr) = z := ⟨_, rfl⟩
      obtain ⟨g0, hg0⟩ : ∃ z, ((lgF (H.take k)) who).getD 0 = z := ⟨_, rfl⟩
      obtain ⟨V, hV⟩ : ∃ z, IntKind.i64.wrap (g0 + D1) = z := ⟨_, rfl⟩
      have lk := lg_look (HSE.out.nth 1 rfl : MapS WE 9 mb k (lgV (lgF (H.take k)))) (s := who) (by unfold maxLen; omega)
      rw [hg0] at lk
      obtain ⟨W6, hput, hS6⟩ := lg_put (HSE.out.front 1 rfl rfl) (by unfold maxLen; omega) (⟨id, who, tm, fr, to_⟩ : Rgn) (by unfold maxLen; show who.size ≤ _; omega) V (by show IntKind.i64.wrap (((lgF (H.take k)) who).getD 0 + IntKind.i64.wrap (to_ - fr)) = V; rw [hg0, hD1]; exact hV)
      simp only at hput
      have HS6 := Lib.hid hS6
      clear bE hS6 hWE hE a0 a1 a2 a3 a4 HSE hg0
      go_wp2_with fail
      have hS7 := HS6.out.drop 1 rfl rfl
      go_roundw
      case rel => exact ⟨k + 1, by omega, by go_num, by rw [HTK.out]; exact hS7⟩
      case measure => simp [intOf]; omega
    · obtain rfl : k = q := by omega
      rw [List.take_of_length_le (by rw [HQ.out]; exact Nat.le_refl _)] at hS
      have hKM := lg_keys H (fun r hr => by have := HSZ.out r hr; unfold maxLen; omega)
      have hkl := lgKs_len H
      rw [HQ.out] at hkl
      have cg := (hS.nth 1 rfl : Blk wo gm _ _).cell 0
      have HKE := Lib.hid (keysI_calls (some mb) wo)
      have HSE := Lib.hid (sortedI_calls mb k (lgV (lgF H)) (lgKs H) wo hS.head hKM (by omega))
      have HKM := Lib.hid hKM
      have hSa := hS.alloc (.cells #[.map (some mb)] 100)
      clear hS hKM
      go_wp2_with fail
      refine HKE.out.mono ?_
      rintro e w4 ⟨rfl, rfl⟩
      go_wp2_with fail
      refine HSE.out.mono ?_
      rintro e w5 ⟨v5, kb, rfl, hkp, hku, ho5, hb5⟩
      have hS5 := hSa.ownB hb5 ho5
      obtain ⟨A5, c5, rfl⟩ := own_form ho5
      obtain ⟨nk, hnk⟩ : ∃ z, kb.length = z := ⟨_, rfl⟩
      rw [hnk] at hS5 ⊢
      have hnk19 : nk ≤ 19 := by rw [← hnk, hkp.length_eq]; omega
      have hzz : ∀ s ∈ kb, s.size ≤ maxLen := fun s hs => HKM.out.sz s (hkp.mem_iff.1 hs)
      have HSL := Lib.hid (sortLgS_calls w w5 A5 nk c5 gm mb k (lgF H) kb _ hnk (by omega) hzz hku ((hS5.nth 2 rfl : Blk w5 gm _ _).cell 0) (hS5.nth 1 rfl) (fun q' hq' => by
       subst hq'
       have h1 := (List.pairwise_cons.1 hS5.hp.apart).1 (rMap 9 mb k (lgV (lgF H))) (by simp)
       have h2 := (List.pairwise_cons.1 hS5.hp.apart).1 (rBlk gm 100 #[.map (some mb)]) (by simp)
       have h3 := (hS5.hp.new (rMap 9 mb k (lgV (lgF H))) (by simp) mb rfl).2
       have h4 := (hS5.hp.new (rBlk gm 100 #[.map (some mb)]) (by simp) gm rfl).2
       exact ⟨fun e => h2 q' rfl e, fun e => h1 q' rfl e, h4, h3⟩) hS5)
      have HKP := Lib.hid hkp
      clear hSa ho5 hb5 hS5 HKE HSE hkp hku cg
      go_wp2_with fail
      refine HSL.out.mono ?_
      rintro e w6 ⟨rfl, zs, hzp, hzs, hS6⟩
      have HZP := Lib.hid hzp
      have HZS := Lib.hid hzs
      have HZL : Hid (zs.length = nk) := Lib.hid (by rw [hzp.length_eq]; exact hnk)
      have HZZ : Hid (∀ s ∈ zs, s.size ≤ maxLen) := Lib.hid (fun s hs => hzz s (hzp.mem_iff.1 hs))
      have HA5 : Hid (0 < nk → ∃ g, A5 = some ⟨g, 0, none⟩) := Lib.hid (fun h0 => own_ptr (hS6.head : World.ownsRow _ _ _ _ _ _ _) h0)
      have hS7 := hS6.nil w.heap.size 53 2
      clear hS6 hzp hzs hnk hzz HSL
      go_wp2_with fail
      go_loopw [13, 53] (fun s13 s53 wr => ∃ (j : Nat) (A : Option Addr) (c : Nat), j ≤ nk ∧ s53 = .int .i64 j ∧ s13 = .slice A j c ∧ Sq w wr [rOwn w.heap.size 53 2 (.slice A j c) j ((zs.take j).flatMap (prL (lgF H))), rOwn w.heap.size 9 1 (.slice A5 nk c5) nk (strsV zs), rMap 9 mb k (lgV (lgF H)), rBlk gm 100 #[.map (some mb)], rOwn w.heap.size 50 5 (.slice A3 k c3) k (H.flatMap rgnC)]) (fun _ s53 _ => nk - (intOf s53).toNat)
      case atStart => exact ⟨0, none, 0, Nat.zero_le _, rfl, rfl, hS7⟩
      case round =>
       clear hS7
       obtain ⟨j, A9, c9, hj, rfl, rfl, hS⟩ := hrel
       obtain ⟨wp, hwp⟩ : ∃ z, z = wr := ⟨_, rfl⟩
       subst hwp
       by_cases hlt : j < nk
       · obtain ⟨gS, hgS⟩ := HA5.out (by omega)
         subst hgS
         have hjz : j < zs.length := by rw [HZL.out]; exact hlt
         have hown : wp.ownsRow w.heap.size 9 1 (.slice (some ⟨gS, 0, none⟩) nk c5) nk (zs.flatMap (fun x => [Value.string x])) := by rw [flat_strs]; exact hS.nth 1 rfl
         have hcp := own_cell (fun x => [Value.string x]) 1 (fun _ => rfl) hown j 0 hjz hlt (by omega)
         rw [Nat.mul_one, Nat.add_zero] at hcp
         have hsz := HZZ.out zs[j] (List.getElem_mem hjz)
         have HTK : Hid ((zs.take (j + 1)).flatMap (prL (lgF H)) = (zs.take j).flatMap (prL (lgF H)) ++ prL (lgF H) zs[j]) := Lib.hid (by
          rw [List.take_succ_eq_append_getElem hjz, List.flatMap_append, List.flatMap_singleton])
         obtain ⟨s, hs⟩ : ∃ s, zs[j] = s := ⟨_, rfl⟩
         rw [hs] at hcp hsz HTK
         replace hcp : wp.cell? ⟨gS, j, none⟩ = some (.string s) := hcp
         have lk := lg_look (hS.nth 2 rfl : MapS wp 9 mb k (lgV (lgF H))) hsz
         have hbd := lg_bd H s
         have cg := (hS.nth 3 rfl : Blk wp gm _ _).cell 0
         obtain ⟨v, hv⟩ : ∃ v, (lgF H s).getD 0 = v := ⟨_, rfl⟩
         rw [hv] at lk hbd
         have HIT := Lib.hid (itoa_calls v hbd.1 hbd.2 wp (HTB.out.below hS.below))
         obtain ⟨t, ht⟩ : ∃ t : ByteArray, (⟨(Lib.itoa v).toArray⟩ : ByteArray) = t := ⟨_, rfl⟩
         rw [ht] at HIT
         have HTK2 : Hid ((zs.take (j + 1)).flatMap (prL (lgF H)) = (zs.take j).flatMap (prL (lgF H)) ++ [.string s, .string t]) := Lib.hid (by
          rw [HTK.out]
          unfold prL
          rw [hv, ht])
         have hj0 : (0 : Int) ≤ (j : Int) := by omega
         have hj2 : (j : Int) < (nk : Int) := by omega
         have HS := Lib.hid hS
         clear hS hown hjz hsz hs hv ht hbd HTK
         go_wp2_with fail
         refine HIT.out.mono ?_
         rintro e w8 ⟨rfl, hb8⟩
         have hS8 := HS.out.callB hb8
         have HO5 : w8.ownsRow w.heap.size 53 2 (.slice A9 j c9) j ((zs.take j).flatMap (prL (lgF H))) := hS8.head
         have hsz8 := hS8.size
         clear HIT HS hcp lk cg hb8
         go_wp2_with (first
          | (at_builtin; refine wpList_append_own_at _ rfl _ _ 35 rfl w.heap.size 53 i0 (.agg #[.string ⟨#[]⟩, .string ⟨#[]⟩]) 2 32 Tryz.underlying35 hi hz0 hz1 hz2 rfl (by decide) _ _ _ rfl (HO5.alloc _) ⟨w8.heap.size, 0, none⟩ 1 1 [.string s, .string t] rfl rfl (World.news_of_block (heap_alloc_new _ _)) (by intro v hv; simp only [List.mem_cons, List.not_mem_nil, or_false] at hv; rcases hv with rfl | rfl <;> rfl) (by unfold maxLen; omega) (by omega) (by rw [World.size_alloc]; omega) ?_; intro v6 w9 hown6 hgrow6 _ hat6; have hS9 := (hS8.alloc _).append hown6 hgrow6 hat6; obtain ⟨A8, c8, hv8⟩ := own_form hown6; subst hv8))
         go_roundw
         case rel => exact ⟨j + 1, A8, c8, by omega, by go_num, rfl, by rw [HTK2.out]; exact hS9⟩
         case measure => simp [intOf]; omega
       · have HF : Hid (RgdR l cat u 0 w (.returned (.tuple #[.slice A9 j c9, .int .i64 0])) wp) := Lib.hid (by
          have hje : j = nk := by omega
          refine ⟨A9, c9, H, zs, HIS.out, fun _ => ⟨HZP.out.trans HKP.out, HZS.out⟩, fun h => absurd rfl h, by rw [HZL.out, hje], ?_⟩
          have h := (((hS.drop 4 rfl rfl).drop 3 rfl rfl).drop 2 rfl rfl).drop 1 rfl rfl
          rw [List.take_of_length_le (by rw [HZL.out, hje]; exact Nat.le_refl _)] at h
          rw [HZL.out, ← hje]
          exact h)
         clear hS
         go_wp2_with fail
         go_ret2
         exact HF.out
 · have hne : (F != 0) = true := by rw [bne_iff_ne]; exact h0
   go_enter Tryz.func13, Tryz.ntmps13
   go_wp2_with fail
   refine HC.out.mono ?_
   rintro e w1 ⟨rfl, hb1⟩
   have HF : Hid (RgdR l cat u F w (.returned (.tuple #[.slice none 0 0, .int .i64 F])) w1) := Lib.hid ⟨none, 0, [], [], hisIs_no h0, fun h => absurd h h0, fun _ => rfl, rfl, ((HS0.out.callB hb1).bare).nil _ _ _⟩
   clear HC HS0 hb1
   go_wp2_with fail
   go_ret2
   exact HF.out
end Go.Proofs.YtapgnaimbgjcnaaGreatDoor
/-
  How long somebody reigned: bounds of the numbers; lists of names by these numbers are one. No walk.
-/
namespace Go.Proofs.YtapgnaimbgjcnaaGreatDoor
open Go Go.RowKit
def RgB (r : Rgn) : Prop := 0 ≤ r.to_ - r.from_ ∧ r.to_ - r.from_ ≤ 345686400000
theorem fix_bd (u : Int) (hu : u ≤ 345686400000) : ∀ l : List Bev, l.Pairwise (fun a b => a.date < b.date) → (∀ x ∈ l, 0 ≤ x.date ∧ x.date ≤ 345686400000) → ∀ r ∈ fixTo (l.map (rgnOf u)), RgB r
 | [], _, _ => by intro r hr; cases hr
 | [a], _, h => by
   intro r hr
   have ha := h a (List.mem_singleton.2 rfl)
   have hr : r ∈ [rgnOf u a] := hr
   rw [List.mem_singleton.1 hr]
   show 0 ≤ max u a.date - a.date ∧ max u a.date - a.date ≤ 345686400000
   omega
 | a :: b :: t, hp, h => by
   intro r hr
   have ha := h a (List.mem_cons_self ..)
   have hb := h b (by simp)
   have hab := (List.pairwise_cons.1 hp).1 b (by simp)
   have hr : r ∈ (⟨a.id, a.who, a.time, a.date, b.date⟩ : Rgn) :: fixTo ((b :: t).map (rgnOf u)) := hr
   rcases List.mem_cons.1 hr with rfl | hr
   · show 0 ≤ b.date - a.date ∧ b.date - a.date ≤ 345686400000
     omega
   · exact fix_bd u hu (b :: t) (List.pairwise_cons.1 hp).2 (fun x hx => h x (List.mem_cons_of_mem _ hx)) r hr
theorem kd_fol {l : List Bev} (h : ∀ x ∈ l, EvK x) (u : Int) : KD (folE l u).1 := by
 have h2 := KD.fol l u h l.length (Nat.le_refl _)
 rwa [List.take_length] at h2
theorem his_form {D : Dsk} {cat : ByteArray} (hK : KD D) (u : Int) {ys : List Bev} (hY : SbdH D cat ys) : hisF u ys = fixTo ((ys.filter (keepH ys)).map (rgnOf u)) ∧ (ys.filter (keepH ys)).Pairwise (fun a b => a.date < b.date) := by
 have hst := sbdH_strict hK hY
 have e : recs ys = ys.filter (keepH ys) := by
  rw [recs_eq]
  exact recsS_keep ys [] hst
 exact ⟨by rw [hisF_eq, e], recs_dates hst⟩
theorem his_bd {l : List Bev} (h : ∀ x ∈ l, bevF x = 0) {u : Int} {cat : ByteArray} (hu : u ≤ 345686400000) {ys : List Bev} (hY : SbdH (folE l u).1 cat ys) : ∀ r ∈ hisF u ys, RgB r := by
 obtain ⟨e, hd⟩ := his_form (kd_fol (fun x hx => evK_one (h x hx)) u) u hY
 rw [e]
 exact fix_bd u hu _ hd (fun x hx => brd_dates h u cat x (hY.1.mem_iff.1 (List.mem_filter.1 hx).1))
end Go.Proofs.YtapgnaimbgjcnaaGreatDoor
/-
  Records fall from one to the next one, in plain words. No walk.
-/
namespace Go.Proofs.YtapgnaimbgjcnaaGreatDoor
open Go Go.RowKit
theorem recs_times {L : List Bev} (hs : L.Pairwise (fun a b => cmpH a b < 0)) : (L.filter (keepH L)).Pairwise (fun a b => a.date < b.date ∧ b.time < a.time) := by
 have h1 := hs.sublist (List.filter_sublist (p := keepH L))
 have h0 := recs_dates hs
 refine (h0.and (List.Pairwise.imp_of_mem (fun {a b} ha hb hab => ?_) h1))
 have ha := (List.mem_filter.1 ha).1
 have hb := (List.mem_filter.1 hb).2
 unfold keepH at hb
 rw [Bool.not_eq_true', List.any_eq_false] at hb
 have h2 := hb a ha
 rw [wrs_before hab] at h2
 have h2 : ¬ a.time ≤ b.time := by simpa using h2
 omega
def FallR (a b : Rgn) : Prop := b.time < a.time ∧ b.from_ = a.to_
theorem fix_head (u : Int) (b : Bev) (t : List Bev) : ∃ z q, fixTo ((b :: t).map (rgnOf u)) = z :: q ∧ z.from_ = b.date ∧ z.time = b.time := by
 cases t with
 | nil => exact ⟨_, _, rfl, rfl, rfl⟩
 | cons c t => exact ⟨_, _, rfl, rfl, rfl⟩
theorem fix_fall (u : Int) : ∀ l : List Bev, l.Pairwise (fun a b => a.date < b.date ∧ b.time < a.time) → ∀ k (hk : k + 1 < (fixTo (l.map (rgnOf u))).length), FallR ((fixTo (l.map (rgnOf u)))[k]) ((fixTo (l.map (rgnOf u)))[k + 1])
 | [], _ => by intro k hk; simp [fixTo] at hk
 | [a], _ => by intro k hk; simp [fixTo] at hk
 | a :: b :: t, hp => by
   intro k hk
   have e : fixTo ((a :: b :: t).map (rgnOf u)) = (⟨a.id, a.who, a.time, a.date, b.date⟩ : Rgn) :: fixTo ((b :: t).map (rgnOf u)) := rfl
   have ih := fix_fall u (b :: t) (List.pairwise_cons.1 hp).2
   have hab := (List.pairwise_cons.1 hp).1 b (by simp)
   simp only [e]
   cases k with
   | zero =>
     obtain ⟨z, q, h1, h2, h3⟩ := fix_head u b t
     simp only [h1, List.getElem_cons_zero, List.getElem_cons_succ]
     exact ⟨by rw [h3]; exact hab.2, h2⟩
   | succ k =>
     simp only [List.getElem_cons_succ]
     exact ih k (by rw [e, List.length_cons] at hk; omega)
theorem fall_eq {X Y : List Rgn} (e : X = Y) (h : ∀ k (hk : k + 1 < X.length), FallR (X[k]) (X[k + 1])) : ∀ k (hk : k + 1 < Y.length), FallR (Y[k]) (Y[k + 1]) := by
 subst e
 exact h
def FallAll (H : List Rgn) : Prop := ∀ k (hk : k + 1 < H.length), FallR (H[k]) (H[k + 1])
theorem his_fall {D : Dsk} {cat : ByteArray} (hK : KD D) (u : Int) {ys : List Bev} (hY : SbdH D cat ys) : FallAll (hisF u ys) := by
 have hst := sbdH_strict hK hY
 obtain ⟨e, _⟩ := his_form hK u hY
 exact fall_eq e.symm (fix_fall u _ (recs_times hst))
theorem lgKs_nil : ∀ (H : List Rgn), lgKs H = [] → H = [] := by
 intro H h
 rcases List.eq_nil_or_concat H with rfl | ⟨q, r, rfl⟩
 · rfl
 · exfalso
   rw [List.concat_eq_append, lgKs_snoc] at h
   unfold lgKS at h
   split at h
   · rename_i hm
     rw [h] at hm
     simp at hm
   · simp at h
theorem one_his {D : Dsk} {cat : ByteArray} (hK : KD D) {xs ys : List Bev} (h1 : SbdH D cat xs) (h2 : SbdH D cat ys) : xs = ys :=
 one_by ord3_cmpH cmpH_id hK (fun x hx => brd_mem (h1.1.mem_iff.1 hx)) (h1.1.trans h2.1.symm) h1.2 h2.2
theorem hisIs_one {l : List Bev} {cat : ByteArray} {u F : Int} (hE : F = 0 → ∀ x ∈ l, EvK x) {H H2 : List Rgn} (h1 : HisIs l cat u F H) (h2 : HisIs l cat u F H2) : H = H2 := by
 by_cases h0 : F = 0
 · obtain ⟨ys, hy, rfl⟩ := h1.1 h0
   obtain ⟨zs, hz, rfl⟩ := h2.1 h0
   rw [one_his (kd_fol (hE h0) u) hy hz]
 · rw [h1.2 h0, h2.2 h0]
end Go.Proofs.YtapgnaimbgjcnaaGreatDoor
