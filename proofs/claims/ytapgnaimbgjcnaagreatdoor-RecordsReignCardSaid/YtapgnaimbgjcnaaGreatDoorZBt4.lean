/-
  (*splitref2.site).chosen at a board, and splitref2.onBoard by their contracts.
-/
import Derived.Test.YtapgnaimbgjcnaaGreatDoorZMapR
import Derived.Test.YtapgnaimbgjcnaaGreatDoorZBt3
import Derived.Test.YtapgnaimbgjcnaaGreatDoorZSk7
import Derived.Test.YtapgnaimbgjcnaaGreatDoorZRatMake4
import Derived.Test.YtapgnaimbgjcnaaGreatDoorZEv11
import Derived.Deep.RegionHeld3
import Derived.RegionTactic
import Derived.Deep.DeepCutAuto
import Derived.Deep.CutBlock
import Derived.Test.YtapgnaimbgjcnaaGreatDoorZEv1W
import Derived.Test.YtapgnaimbgjcnaaGreatDoorZBtR
import Derived.Test.YtapgnaimbgjcnaaGreatDoorZSlotPure
import Derived.Test.YtapgnaimbgjcnaaGreatDoorZFlat
import Derived.Test.YtapgnaimbgjcnaaGreatDoorZBtQ
import Derived.Test.YtapgnaimbgjcnaaGreatDoorZSortMem
import Derived.Test.YtapgnaimbgjcnaaGreatDoorZSymC
import Derived.Test.YtapgnaimbgjcnaaGreatDoorZHs3
import Derived.Test.YtapgnaimbgjcnaaGreatDoorZBid3
import Derived.Test.YtapgnaimbgjcnaaGreatDoorZHs2
import Derived.Deep.QuietTactic
namespace Go.Proofs.YtapgnaimbgjcnaaGreatDoor
open Go Go.RowKit Go.Sort
attribute [local go_sem ↓] Go.wp_at_zero Go.wp_at_succ
def BdO (D : Dsk) (cat : ByteArray) (w0 : World) (e : Ending) (w' : World) : Prop :=
 ∃ (A : Option Addr) (c : Nat) (ys : List Bev), e = .returned (.slice A ys.length c) ∧ SbdR D cat ys ∧ Sq w0 w' [rOwn w0.heap.size 78 8 (.slice A ys.length c) ys.length (ys.flatMap bevC)]
set_option maxRecDepth 100000 in
set_option maxHeartbeats 8000000 in
theorem chosenB_calls (gs m1 m2 m3 n n2 n3 gc gp : Nat) (V : Value) (D : Dsk) (cat : ByteArray) (w0 w : World) (hK : KD D) (hz : D.rn.length ≤ 3000)
 (hS : Sq w0 w (sitL gs m1 n m2 n2 m3 n3 V D [rBlk gc 9 #[.string cat], rBlk gp 141 #[.pointer (some ⟨gs, 0, none⟩)]])) :
 Calls Tryz.prog 124 #[.pointer (some ⟨gs, 0, none⟩), .func (.func 125) #[] #[.pointer (some ⟨gc, 0, none⟩), .pointer (some ⟨gp, 0, none⟩)], .func (.func 126) #[] #[]] w (BdO D cat w0) := by
 obtain ⟨i0, hi, hz0, hz1, hz2⟩ : ∃ i0, Tryz.prog.info? 78 = some i0 ∧ i0.zero = some (.agg #[.int .i64 0, .int .i64 0, .string ⟨#[]⟩, .string ⟨#[]⟩, .string ⟨#[]⟩, .string ⟨#[]⟩, .int .i64 0, .int .i64 0]) ∧ i0.size = 8 ∧ i0.bytes = 96 := by
  have h := info_bev
  cases hh : Tryz.prog.info? 78 with
  | none => rw [hh] at h; cases h
  | some i => rw [hh] at h; injection h with h; injection h with h1 h; injection h with h2 h3; exact ⟨i, rfl, h1, h2, h3⟩
 unfold sitL at hS
 have hS1 := hS.front 1 rfl rfl
 have HMP : MapS w 9 m1 n (evF D) := hS1.head
 have c0 := (hS1.nth 1 rfl : Blk w gs _ _).cell 0
 have HK := Lib.hid hK
 clear hS hK
 go_enter Tryz.func124, Tryz.ntmps124
 go_wp2_with (first | (at_range; refine wpList_range_map _ rfl _ 135 rfl 9 78 Tryz.underlying9 Tryz.underlying135 m1 n (evF D) rfl HMP ?_; intro w1 cnt0 hr0 hg0 hs0))
 go_frame
 have hS2 := (hS1.rngStart hr0 hg0).nil w0.heap.size 78 8
 obtain ⟨r, hr⟩ : ∃ r, r = w.heap.size := ⟨_, rfl⟩
 rw [← hr] at hS2 ⊢
 clear hS1 hr0 hg0 hs0 HMP hr c0
 go_loopw [7] (fun s7 wr => ∃ (A : Option Addr) (c : Nat) (seen : List ByteArray) (cnt : Nat) (ys : List Bev), s7 = .slice A ys.length c ∧ Hid (ys = seen.filterMap (brOne D cat)) ∧ Hid (∀ s ∈ seen, s.size ≤ maxLen ∧ ∃ r, rnOf D s = some r) ∧ Sq w0 wr [rOwn w0.heap.size 78 8 (.slice A ys.length c) ys.length (ys.flatMap bevC), rRng 9 m1 r n (evF D) seen cnt, rBlk gs 140 #[.map (some m1), .map (some m2), .map (some m3), V], rMap 9 m2 n2 (stF D), rMap 9 m3 n3 (bnF D), rBlk gc 9 #[.string cat], rBlk gp 141 #[.pointer (some ⟨gs, 0, none⟩)]]) (fun _ wr => wr.rangeLeft m1 r)
 case atStart => exact ⟨none, 0, [], cnt0, [], rfl, Lib.hid rfl, Lib.hid (fun s hs => by cases hs), hS2⟩
 case round =>
  clear hS2
  obtain ⟨A, c, seen, cnt, ys, rfl, HY, HSN, hS⟩ := hrel
  have hrg : RngS wr 9 m1 r n (evF D) seen cnt := hS.nth 1 rfl
  have hnd := hrg.nodup
  have hyl : ys.length ≤ 3000 := by
   have h1 := seen_len hnd (fun s hs => (HSN.out s hs).2)
   have h2 := List.length_filterMap_le (brOne D cat) seen
   rw [← HY.out] at h2
   omega
  go_wp2_with (first | (at_next; refine wpList_next_map _ rfl _ rfl 9 Tryz.underlying9 m1 r n (evF D) seen cnt rfl hrg ?_ ?_))
  · intro hdone
    have HP : Hid (ys.Perm (brd D cat)) := Lib.hid (by rw [HY.out]; exact brd_perm HK.out cat hnd (fun s hs => (HSN.out s hs).1) hdone)
    have hT := (((((hS.drop 6 rfl rfl).drop 5 rfl rfl).drop 4 rfl rfl).drop 3 rfl rfl).drop 2 rfl rfl).drop 1 rfl rfl
    have hown : wr.ownsRow w0.heap.size 78 8 (.slice A ys.length c) ys.length (ys.flatMap bevC) := hT.head
    clear hS hrg hdone HSN HY hnd
    by_cases h0 : ys.length = 0
    · have hnil : ys = [] := List.length_eq_zero_iff.1 h0
      subst hnil
      have HN := Lib.hid (sortEvT_none wr A c)
      have HFI : Hid (BdO D cat w0 (.returned (.slice A 0 c)) wr) := Lib.hid ⟨A, c, [], rfl, ⟨HP.out, List.Pairwise.nil⟩, hT⟩
      clear hT hown HP
      go_wp2_with (fail)
      refine HN.out.mono ?_
      rintro e w5 ⟨rfl, rfl⟩
      go_wp2_with (fail)
      go_ret
      exact HFI.out
    · obtain ⟨g, hA⟩ : ∃ g, A = some ⟨g, 0, none⟩ := by
       rcases hown.2 with ⟨he, hx⟩ | ⟨g, cap, cur, he, _⟩
       · exact absurd (by injection he) h0
       · injection he with he; exact ⟨g, he⟩
      subst hA
      have HC := Lib.hid (sortEvT_calls w0 wr g ys.length c ys [] (by omega) hT)
      obtain ⟨m, hm⟩ : ∃ m, ys.length = m := ⟨_, rfl⟩
      rw [hm] at HC ⊢
      have HM := Lib.hid hm
      clear hT hown hyl hm h0
      go_wp2_with (fail)
      refine HC.out.mono ?_
      rintro e w5 ⟨rfl, zs, hp, hso, hT2⟩
      have HFI : Hid (BdO D cat w0 (.returned (.slice (some ⟨g, 0, none⟩) m c)) w5) := Lib.hid (by
       have hl : zs.length = m := by rw [hp.length_eq]; exact HM.out
       rw [← hl] at hT2 ⊢
       exact ⟨_, c, zs, rfl, ⟨hp.trans HP.out, hso⟩, hT2⟩)
      clear hT2
      go_wp2_with (fail)
      go_ret
      exact HFI.out
  · intro s v w2 cnt2 hnew hsl hf hrg2 hlt2 hg2 hs2 hen
    have hl1 : wr.rangeLeft m1 r = cnt := hrg.left
    have hS2 := (hS.front 1 rfl rfl).rngStep hrg2 hg2
    clear hrg hS
    obtain ⟨⟨⟨at_, kd, id, who, by1, ct, tm, dt⟩, k⟩, hrn⟩ : ∃ z, rnOf D s = some z := evF_some.1 (by rw [hf]; rfl)
    have hv : v = .agg #[.int .i64 at_, .int .i64 kd, .string id, .string who, .string by1, .string ct, .int .i64 tm, .int .i64 dt] := by
     have h := hf
     unfold evF at h
     rw [hrn] at h
     injection h with h
     exact h.symm
    have hid : id = s := (rnOf_mem hrn).2
    have HSN2 : Hid (∀ t ∈ seen ++ [s], t.size ≤ maxLen ∧ ∃ r, rnOf D t = some r) := Lib.hid (fun t ht => by
     rcases List.mem_append.1 ht with ht | ht
     · exact HSN.out t ht
     · simp at ht; subst ht; exact ⟨hsl, _, hrn⟩)
    have HY2 : Hid (ys ++ (if inB D cat (⟨at_, kd, id, who, by1, ct, tm, dt⟩, k) = true then [⟨at_, kd, id, who, by1, ct, tm, dt⟩] else []) = (seen ++ [s]).filterMap (brOne D cat)) := Lib.hid (by
     rw [List.filterMap_append, ← HY.out]
     congr 1
     have e : brOne D cat s = if inB D cat (⟨at_, kd, id, who, by1, ct, tm, dt⟩, k) = true then some ⟨at_, kd, id, who, by1, ct, tm, dt⟩ else none := by unfold brOne; rw [hrn]
     by_cases h : inB D cat (⟨at_, kd, id, who, by1, ct, tm, dt⟩, k) = true
     · rw [if_pos h] at e ⊢
       rw [List.filterMap_cons_some e]
       rfl
     · rw [if_neg h] at e ⊢
       rw [List.filterMap_cons_none e]
       rfl)
    have hE2 : (stF D id).getD (.string ⟨#[]⟩) = .string (hwV k) := by unfold stF; rw [hid, hrn]; rfl
    have hwz := HK.out.wz _ (rnOf_mem hrn).1
    have hiz := HK.out.iz _ (rnOf_mem hrn).1
    subst hv
    obtain ⟨I, hI⟩ : ∃ b, inB D cat (⟨at_, kd, id, who, by1, ct, tm, dt⟩, k) = b := ⟨_, rfl⟩
    have HI : Hid (((ct.toList == cat.toList) && ((hwV k).toList == [118, 101, 114, 105, 102, 105, 101, 100]) && !(D.bn who)) = I) := Lib.hid hI
    rw [hI] at HY2
    simp only at hwz hiz
    have hSE := hS2.add #[.int .i64 at_, .int .i64 kd, .string id, .string who, .string by1, .string ct, .int .i64 tm, .int .i64 dt] 78
    obtain ⟨WE, hWE⟩ : ∃ W, W = w2.alloc (.cells #[.int .i64 at_, .int .i64 kd, .string id, .string who, .string by1, .string ct, .int .i64 tm, .int .i64 dt] 78) := ⟨_, rfl⟩
    rw [← hWE] at hSE
    have HFU := Lib.hid (inBoard_calls gc gp gs m2 m3 cat (hwV k) (D.bn who) at_ kd tm dt id who by1 ct WE (fun W hW => by
     have hSW := hSE.callB hW
     have hb : Blk W gs _ #[.map (some m1), .map (some m2), .map (some m3), V] := hSW.nth 3 rfl
     have hM2 : MapS W 9 m2 n2 (stF D) := hSW.nth 4 rfl
     have hM3 : MapS W 9 m3 n3 (bnF D) := hSW.nth 5 rfl
     have hc : Blk W gc _ #[.string cat] := hSW.nth 6 rfl
     have hp : Blk W gp _ #[.pointer (some ⟨gs, 0, none⟩)] := hSW.nth 7 rfl
     have l2 := hM2.look (t := 136) (e := 9) Tryz.underlying9 Tryz.underlying136 (zero_str W) (s := id) (by unfold maxLen; omega)
     have l3 := hM3.look (t := 137) (e := 4) Tryz.underlying9 Tryz.underlying137 (zero_bol W) (s := who) (by unfold maxLen; omega)
     rw [hE2] at l2
     rw [bnF_get HK.out] at l3
     exact ⟨hc.cell 0, hp.cell 0, hb.cell 1, hb.cell 2, l2, l3⟩))
    rw [HI.out] at HFU
    clear hE2 hwz hiz hI HI hid hrn hf hnew hsl HSN HY hS2 hs2
    have hlt3 : cnt2 < wr.rangeLeft m1 r := by rw [hl1]; exact hlt2
    have HLT := Lib.hid hlt3
    clear hl1 hlt2 hlt3 hg2 hrg2
    go_wp2_with fail
    rw [← hWE]
    refine HFU.out.mono ?_
    rintro e w5 ⟨rfl, hb5⟩
    obtain ⟨E, hE⟩ : ∃ E, E = w2.heap.size := ⟨_, rfl⟩
    rw [← hE] at hSE ⊢
    have hS5 := hSE.callB hb5
    clear HFU hSE hb5 hWE hE hen
    cases I
    · replace hS5 := (hS5.drop 0 rfl rfl).front 1 rfl rfl
      rw [if_neg (by decide), List.append_nil] at HY2
      have hrl : w5.rangeLeft m1 r = cnt2 := (show RngS w5 _ m1 r n _ _ cnt2 from hS5.nth 1 rfl).left
      go_wp2_with fail
      go_roundw
      case rel => exact ⟨A, c, seen ++ [s], cnt2, ys, rfl, HY2, HSN2, hS5⟩
      case measure => rw [hrl]; exact HLT.out
    · rw [if_pos rfl] at HY2
      have bE : Blk w5 E _ _ := hS5.head
      have e0 := bE.cell 0
      have e1 := bE.cell 1
      have e2 := bE.cell 2
      have e3 := bE.cell 3
      have e4 := bE.cell 4
      have e5 := bE.cell 5
      have e6 := bE.cell 6
      have e7 := bE.cell 7
      have hSf := hS5.front 2 rfl rfl
      have HO5 : w5.ownsRow w0.heap.size 78 8 (.slice A ys.length c) ys.length (ys.flatMap bevC) := hSf.head
      have hsz := hSf.size
      clear bE hS5
      go_wp2_with (first
       | (at_builtin; refine wpList_append_own_at _ rfl _ _ 26 rfl w0.heap.size 78 i0 (.agg #[.int .i64 0, .int .i64 0, .string ⟨#[]⟩, .string ⟨#[]⟩, .string ⟨#[]⟩, .string ⟨#[]⟩, .int .i64 0, .int .i64 0]) 8 96 Tryz.underlying26 hi hz0 hz1 hz2 rfl (by decide) _ _ _ rfl (HO5.alloc _) ⟨w5.heap.size, 0, none⟩ 1 1 [.int .i64 at_, .int .i64 kd, .string id, .string who, .string by1, .string ct, .int .i64 tm, .int .i64 dt] rfl rfl (World.news_of_block (heap_alloc_new _ _)) (one8e rfl rfl rfl rfl rfl rfl rfl rfl) (by unfold maxLen; omega) (by omega) (by simp; omega) ?_; intro v' w11 hown' hgrow _ hblk; have hS9 := (hSf.alloc _).append hown' hgrow hblk; obtain ⟨A8, c8, hv8⟩ := own_form hown'; subst hv8; clear hown' hgrow hblk))
      have hS10 := hS9.drop 1 rfl rfl
      have hrl : w11.rangeLeft m1 r = cnt2 := (show RngS w11 _ m1 r n _ _ cnt2 from hS10.nth 1 rfl).left
      go_roundw
      case rel => exact ⟨A8, c8, seen ++ [s], cnt2, ys ++ [⟨at_, kd, id, who, by1, ct, tm, dt⟩], by rw [List.length_append]; rfl, HY2, HSN2, by rw [bev_snoc, List.length_append]; exact hS10⟩
      case measure => rw [hrl]; exact HLT.out
end Go.Proofs.YtapgnaimbgjcnaaGreatDoor
/-
  splitref2.onBoard by its contract.
-/
namespace Go.Proofs.YtapgnaimbgjcnaaGreatDoor
open Go Go.RowKit Go.Sort
attribute [local go_sem ↓] Go.wp_at_zero Go.wp_at_succ
set_option maxRecDepth 100000 in
set_option maxHeartbeats 4000000 in
theorem onBoardR_calls (b : Nat) (A : Option Addr) (n c : Nat) (l : List Bev) (u : Int) (cat : ByteArray) (w : World) (hr : Rd w b 8 (.slice A n c) n (l.flatMap bevC)) (hk : ∀ x ∈ l, EvK x) (hn : n ≤ 3000) :
 Calls Tryz.prog 68 #[.slice A n c, .string cat, .int .i64 u] w (BdO (folE l u).1 cat w) := by
 obtain ⟨hl, _, _, _⟩ := hr.cells bevC_len (by omega)
 have hz : (folE l u).1.rn.length ≤ 3000 := by
  have h := (fol_cnt l u l.length (Nat.le_refl _)).1
  rw [List.take_length] at h
  omega
 have hS0 := (Sq.start w).add #[.string cat] 9
 have HA := Lib.hid (siteAt_calls b A n c l u _ (hS0.rd hr) hk hn)
 have HS0 := Lib.hid hS0
 have HZ := Lib.hid hz
 obtain ⟨D, hD⟩ : ∃ D, (folE l u).1 = D := ⟨_, rfl⟩
 rw [hD] at HZ ⊢
 have HD := Lib.hid hD
 clear hS0 hr hk hl hz hD
 go_enter Tryz.func68, Tryz.ntmps68
 go_wp2_with fail
 refine HA.out.mono ?_
 rintro e w2 ⟨gs, m1, m2, m3, n1, n2, n3, V, rfl, hK, h1, h2, h3, hS2⟩
 rw [HD.out] at hK hS2
 have hS3 := (HS0.out.merge hS2).add #[.pointer (some ⟨gs, 0, none⟩)] 141
 have hS4 := (((((hS3.drop 5 rfl rfl).front 5 rfl rfl).front 5 rfl rfl).front 5 rfl rfl).front 5 rfl rfl).front 5 rfl rfl
 have HC := Lib.hid (chosenB_calls gs m1 m2 m3 n1 n2 n3 w.heap.size w2.heap.size V D cat w _ hK HZ.out hS4)
 clear HA hS2 hS3 hS4 h1 h2 h3 hK HD HZ HS0
 go_wp2_with fail
 refine HC.out.mono ?_
 rintro e w3 ⟨A5, c5, ys, rfl, hY, hS5⟩
 have HF : Hid (BdO D cat w (.returned (.slice A5 ys.length c5)) w3) := Lib.hid ⟨A5, c5, ys, rfl, hY, hS5⟩
 obtain ⟨q, hq⟩ : ∃ q, ys.length = q := ⟨_, rfl⟩
 rw [hq] at HF ⊢
 clear hS5 hY HC hq
 go_wp2_with fail
 go_ret
 exact HF.out
end Go.Proofs.YtapgnaimbgjcnaaGreatDoor
/-
  slices.SortFunc at elements of one cell behind the first ones of a row: what lies before them stays. No Go text is named here.
-/
namespace Go.Proofs.YtapgnaimbgjcnaaGreatDoor
open Go Go.RowKit Go.Sort
theorem sortO_heap {α : Type} [Inhabited α] (enc : α → Value) (w : World) (blk off m : Nat) (dk : Array α) (os : Array Obj) (i : Nat) (hi : i < w.heap.size) :
 (sortWorld enc w blk off m dk os).heap[i]? = (mapBlock w blk (putCells enc off dk)).heap[i]? := by
 have e : (sortWorld enc w blk off m dk os).heap = (mapBlock w blk (putCells enc off dk)).heap ++ os := rfl
 rw [e, Array.getElem?_append_left (by rw [mapBlock_size]; exact hi)]
theorem sortO_grown {α : Type} [Inhabited α] (enc : α → Value) (w : World) (blk off m : Nat) (dk : Array α) (os : Array Obj) : w.grownBy (sortWorld enc w blk off m dk os) (some blk) := by
 refine ⟨rfl, rfl, rfl, ?_, fun i hi hn => ?_⟩
 · have e : (sortWorld enc w blk off m dk os).heap = (mapBlock w blk (putCells enc off dk)).heap ++ os := rfl
   rw [e, Array.size_append, mapBlock_size]
   omega
 · rw [sortO_heap enc w blk off m dk os i hi, mapBlock_heap _ _ _ _ (fun e => hn (by rw [e]))]
theorem sortO_but {α : Type} [Inhabited α] (enc : α → Value) (w : World) (blk off m : Nat) (dk : Array α) (os : Array Obj) : ButG blk w (sortWorld enc w blk off m dk os) :=
 ⟨(sortO_grown enc w blk off m dk os).size, fun i hi hn => (sortO_grown enc w blk off m dk os).block i hi (fun e => hn (Option.some.inj e))⟩
section
variable {α : Type} {P : α → Prop} [Inhabited {x : α // P x}] {enc : α → Value}
end
end Go.Proofs.YtapgnaimbgjcnaaGreatDoor
/-
  splitref2.BeatenOf by its contract.
-/
namespace Go.Proofs.YtapgnaimbgjcnaaGreatDoor
open Go Go.RowKit Go.Sort
attribute [local go_sem ↓] Go.wp_at_zero Go.wp_at_succ
def DtB (x : Bev) : Prop := 0 ≤ x.date ∧ x.date ≤ 345686399999
theorem grw_one (w : World) (o1 o2 : Obj) : ∃ q os', (w.alloc o1).alloc o2 = grow (w.drewN q) os' :=
 ⟨0, #[o1, o2], by rw [alloc_eq_grow, alloc_eq_grow, grow_grow]; rfl⟩
instance instBevD : Inhabited {x : Bev // DtB x} := ⟨⟨zBev, by unfold DtB; exact ⟨by decide, by decide⟩⟩⟩
end Go.Proofs.YtapgnaimbgjcnaaGreatDoor
/-
  Reigns sorted by their beginning, and each one up to the next one: the plain parts of splitref2.HistoryOf's end, and its sort.
-/
namespace Go.Proofs.YtapgnaimbgjcnaaGreatDoor
open Go Go.RowKit Go.Sort
theorem fixTo_len : ∀ l : List Rgn, (fixTo l).length = l.length
 | [] => rfl
 | [_] => rfl
 | _ :: b :: t => by
   show (fixTo (b :: t)).length + 1 = _
   rw [fixTo_len (b :: t)]
   rfl
def fxK (S : List Rgn) (k : Nat) : List Rgn := fixTo (S.take k) ++ S.drop k
theorem fxK_len (S : List Rgn) (k : Nat) : (fxK S k).length = S.length := by
 unfold fxK
 rw [List.length_append, fixTo_len, List.length_take, List.length_drop]
 omega
theorem fxK_0 (S : List Rgn) : fxK S 0 = S := rfl
theorem fxK_1 (S : List Rgn) : fxK S 1 = S := by
 cases S with
 | nil => rfl
 | cons a t => rfl
theorem fxK_end (S : List Rgn) : fxK S S.length = fixTo S := by
 unfold fxK
 rw [List.take_length, List.drop_length, List.append_nil]
theorem fxK_form (S : List Rgn) (j : Nat) (hj : j + 1 < S.length) : ∃ p : List Rgn, p.length = j ∧ fxK S (j + 1) = p ++ (S[j] :: S[j + 1] :: S.drop (j + 2)) ∧ fxK S (j + 2) = p ++ ((⟨S[j].id, S[j].who, S[j].time, S[j].from_, S[j + 1].from_⟩ : Rgn) :: S[j + 1] :: S.drop (j + 2)) := by
 have e1 : S.take (j + 1) = S.take j ++ [S[j]] := List.take_succ_eq_append_getElem (by omega)
 have e2 : S.take (j + 2) = S.take j ++ [S[j], S[j + 1]] := by
  rw [List.take_succ_eq_append_getElem (show j + 1 < S.length by omega), e1, List.append_assoc]
  rfl
 have e3 : S.drop (j + 1) = S[j + 1] :: S.drop (j + 2) := List.drop_eq_getElem_cons hj
 have hn : fixTo (S.take j ++ [S[j]]) ≠ [] := fun e => by
  have := congrArg List.length e
  rw [fixTo_len, List.length_append] at this
  simp only [List.length_cons, List.length_nil] at this
  omega
 have e4 : fixTo (S.take j ++ [S[j]]) = (fixTo (S.take j ++ [S[j]])).dropLast ++ [S[j]] := by
  have h1 := (List.dropLast_concat_getLast hn).symm
  have h2 := fixTo_last (S.take j) S[j]
  rw [List.getLast?_eq_some_getLast hn] at h2
  rw [Option.some.inj h2] at h1
  exact h1
 refine ⟨(fixTo (S.take j ++ [S[j]])).dropLast, ?_, ?_, ?_⟩
 · rw [List.length_dropLast, fixTo_len, List.length_append, List.length_take]
   simp
   omega
 · unfold fxK
   rw [e1, e3]
   conv => lhs; rw [e4]
   rw [List.append_assoc]
   rfl
 · unfold fxK
   rw [e2, fixTo_snoc, List.append_assoc]
   rfl
def cmpFr (x y : Rgn) : Int := cmpI x.from_ y.from_
theorem ord3_cmpFr : Ord3 cmpFr := ord3_int (fun x : Rgn => x.from_)
theorem cmpFr_le {a b : Rgn} (h : 0 ≤ cmpFr b a) : a.from_ ≤ b.from_ := by
 unfold cmpFr at h
 rcases Int.lt_or_le b.from_ a.from_ with h2 | h2
 · have := cmpI_ltX.2 h2
   omega
 · exact h2
def FrB (x : Rgn) : Prop := 0 ≤ x.from_ ∧ x.from_ ≤ 345686400000
theorem rgnC_one (x : Rgn) : ∀ v ∈ rgnC x, v.oneCell' = true := by
 intro v hv
 unfold rgnC at hv
 simp only [List.mem_cons, List.not_mem_nil, or_false] at hv
 rcases hv with rfl | rfl | rfl | rfl | rfl <;> rfl
set_option maxRecDepth 100000 in
theorem byFr_calls (x y : Rgn) (hx : FrB x) (hy : FrB y) (w : World) : Calls Tryz.prog 72 #[.agg (rgnC x).toArray, .agg (rgnC y).toArray] w (GrwT (.int .i64 (cmpFr x y)) w) := by
 obtain ⟨x0, x1⟩ := hx
 obtain ⟨y0, y1⟩ := hy
 have HE : cmpFr x y = cmpI x.from_ y.from_ := rfl
 have HZ := cmpI_sub x.from_ y.from_
 obtain ⟨i1, w1, t1, f1, o1⟩ := x
 obtain ⟨i2, w2, t2, f2, o2⟩ := y
 simp only at HE HZ x0 x1 y0 y1
 show Calls Tryz.prog 72 #[.agg #[.string i1, .string w1, .int .i64 t1, .int .i64 f1, .int .i64 o1], .agg #[.string i2, .string w2, .int .i64 t2, .int .i64 f2, .int .i64 o2]] w _
 have HS := Lib.hid (fun W => signI_calls (f1 - f2) W)
 rw [HZ] at HS
 have HG := Lib.hid (grw_one w (.cells #[.string i1, .string w1, .int .i64 t1, .int .i64 f1, .int .i64 o1] 50) (.cells #[.string i2, .string w2, .int .i64 t2, .int .i64 f2, .int .i64 o2] 50))
 have hw : IntKind.i64.wrap (f1 - f2) = f1 - f2 := IntWalk.i64_in _ (by omega)
 rw [HE]
 clear HE HZ
 go_enter Tryz.func72, Tryz.ntmps72
 go_wp2_with fail
 refine (HS.out _).mono ?_
 rintro e w3 ⟨rfl, rfl⟩
 go_wp2_with fail
 go_ret
 exact ⟨rfl, HG.out⟩
instance instRgnF : Inhabited {x : Rgn // FrB x} := ⟨⟨⟨⟨#[]⟩, ⟨#[]⟩, 0, 0, 0⟩, by unfold FrB; exact ⟨by decide, by decide⟩⟩⟩
theorem sortRg_calls (w0 w : World) (A : Option Addr) (n c : Nat) (xs : List Rgn) (l : List Rsc) (hl : xs.length = n) (hx : ∀ x ∈ xs, FrB x) (hn : n ≤ 100000) (hS : Sq w0 w (rOwn w0.heap.size 50 5 (.slice A n c) n (xs.flatMap rgnC) :: l)) :
 Calls Tryz.prog 71 #[.slice A n c, .func (.func 72) #[] #[]] w (fun e w' => e = .returned (.tuple #[]) ∧ ∃ ys : List Rgn, ys.Perm xs ∧ ys.Pairwise (fun a b => a.from_ ≤ b.from_) ∧ Sq w0 w' (rOwn w0.heap.size 50 5 (.slice A n c) n (ys.flatMap rgnC) :: l)) := by
 by_cases h0 : n = 0
 · subst h0
   have hp0 := List.length_eq_zero_iff.1 hl
   subst hp0
   refine (AnyF.slices_SortFunc_none Tryz.sortRg A c _ w).mono ?_
   rintro e w' ⟨rfl, rfl⟩
   exact ⟨rfl, [], List.Perm.refl _, List.Pairwise.nil, hS⟩
 · obtain ⟨g, hA⟩ := own_ptr (hS.head : World.ownsRow _ _ _ _ _ _ _) (by omega)
   subst hA
   refine (srtT_calls (P := FrB) (k := 5) Tryz.sortRg rgnC_len (by decide) rgnC_one Tryz.isAgg50 Tryz.sizeOf50 cmpFr ord3_cmpFr 72 #[] (enters_of Tryz.func72 (by kernel_rfl) rfl) w0 w g n c xs l hx hn
    (fun x y W hx hy _ => byFr_calls x y hx hy W) hS).mono ?_
   rintro e w' ⟨rfl, ys, h1, h2, h3⟩
   exact ⟨rfl, ys, h1, h2.imp cmpFr_le, h3⟩
end Go.Proofs.YtapgnaimbgjcnaaGreatDoor
/-
  splitref2.HistoryOf by its contract. (Printed by gen_hs5.py.)
-/
namespace Go.Proofs.YtapgnaimbgjcnaaGreatDoor
open Go Go.RowKit Go.Sort
attribute [local go_sem ↓] Go.wp_at_zero Go.wp_at_succ run_maxH
def HsoR (D : Dsk) (cat : ByteArray) (u : Int) (w : World) (e : Ending) (w' : World) : Prop :=
 ∃ (A : Option Addr) (c : Nat) (ys : List Bev) (S : List Rgn), SbdR D cat ys ∧ S.Perm ((ys.filter (keepH ys)).map (rgnOf u)) ∧ S.Pairwise (fun a b => a.from_ ≤ b.from_) ∧ e = .returned (.slice A S.length c) ∧ Sq w w' [rOwn w.heap.size 50 5 (.slice A S.length c) S.length ((fixTo S).flatMap rgnC)]
theorem keep_step (u : Int) (all ys : List Bev) (k : Nat) (hk : k < ys.length) (B : Bool) (hB : all.any (fun o => wrsH o ys[k]) = B) : ((ys.take (k + 1)).filter (keepH all)).map (rgnOf u) = ((ys.take k).filter (keepH all)).map (rgnOf u) ++ (if B = true then [] else [rgnOf u ys[k]]) := by
 rw [List.take_succ_eq_append_getElem hk, List.filter_append, List.map_append]
 congr 1
 cases B
 · rw [if_neg (by decide), List.filter_cons_of_pos (by unfold keepH; rw [hB]; rfl)]
   rfl
 · rw [if_pos rfl, List.filter_cons_of_neg (by unfold keepH; rw [hB]; decide)]
   rfl
set_option maxRecDepth 100000 in
set_option maxHeartbeats 8000000 in
theorem historyOf_calls (b : Nat) (A : Option Addr) (n c : Nat) (l : List Bev) (u : Int) (cat : ByteArray) (w : World) (hb : b < w.heap.size) (hr : Rd w b 8 (.slice A n c) n (l.flatMap bevC)) (hk : ∀ x ∈ l, EvK x) (hn : n ≤ 3000) (hd : ∀ x ∈ brd (folE l u).1 cat, 0 ≤ x.date ∧ x.date ≤ 345686400000) :
 Calls Tryz.prog 19 #[.slice A n c, .string cat, .int .i64 u] w (HsoR (folE l u).1 cat u w) := by
 obtain ⟨hl, _, _, _⟩ := hr.cells bevC_len (by omega)
 have hz : (folE l u).1.rn.length ≤ 3000 := by
  have h := (fol_cnt l u l.length (Nat.le_refl _)).1
  rw [List.take_length] at h
  omega
 obtain ⟨j0, hj, hy0, hy1, hy2⟩ := info_parts info_rgn
 have HO := Lib.hid (onBoardR_calls b A n c l u cat w hr hk hn)
 obtain ⟨D, hD⟩ : ∃ D, (folE l u).1 = D := ⟨_, rfl⟩
 rw [hD] at HO hz hd ⊢
 have HZ := Lib.hid hz
 have HDT := Lib.hid hd
 clear hr hk hl hz hD hn hd
 go_enter Tryz.func19, Tryz.ntmps19
 go_wp2_with fail
 refine HO.out.mono ?_
 rintro e w2 ⟨A5, c5, ys, rfl, hY, hS2⟩
 have HY := Lib.hid hY
 have HFR : Hid (∀ x ∈ ys, FrB (rgnOf u x)) := Lib.hid (fun x hx => HDT.out x (hY.1.mem_iff.1 hx))
 obtain ⟨m, hm⟩ : ∃ m, ys.length = m := ⟨_, rfl⟩
 have hS3 := hS2.nil w.heap.size 50 5
 rw [hm] at hS3 ⊢
 have HM := Lib.hid hm
 have HAP : Hid (0 < m → ∃ gP, A5 = some ⟨gP, 0, none⟩) := Lib.hid (fun h0 => own_ptr (hS3.nth 1 rfl : World.ownsRow _ _ _ _ _ _ _) h0)
 have HMZ : Hid (m ≤ 3000) := Lib.hid (by
  have h := HY.out.1.length_eq
  rw [hm] at h
  have h2 : (brd D cat).length ≤ D.rn.length := by unfold brd; rw [List.length_map]; exact List.length_filter_le _ _
  have := HZ.out
  omega)
 clear hS2 hY HO hm
 go_wp2_with fail
 go_loopw [8, 18] (fun s8 s18 wr => ∃ (k : Nat) (A : Option Addr) (c : Nat) (O : List Rgn), k ≤ m ∧ s18 = .int .i64 k ∧ O.length ≤ k ∧ s8 = .slice A O.length c ∧ Hid (((ys.take k).filter (keepH ys)).map (rgnOf u) = O) ∧ Sq w wr [rOwn w.heap.size 50 5 (.slice A O.length c) O.length (O.flatMap rgnC), rOwn w.heap.size 78 8 (.slice A5 m c5) m (ys.flatMap bevC)]) (fun _ s18 _ => m - (intOf s18).toNat)
 case atStart => exact ⟨0, none, 0, [], Nat.zero_le _, rfl, Nat.le_refl _, rfl, Lib.hid rfl, hS3⟩
 case round =>
  clear hS3
  obtain ⟨k, A, c, O, hk, rfl, hO, rfl, HB, hS⟩ := hrel
  obtain ⟨wo, hwo⟩ : ∃ z, z = wr := ⟨_, rfl⟩
  subst hwo
  have hmz := HMZ.out
  by_cases hlt : k < m
  · obtain ⟨gP, hgP⟩ := HAP.out (by omega)
    subst hgP
    have hkp : k < ys.length := by rw [HM.out]; exact hlt
    have hown : wo.ownsRow w.heap.size 78 8 (.slice (some ⟨gP, 0, none⟩) m c5) m (ys.flatMap bevC) := hS.nth 1 rfl
    obtain ⟨a0, a1, a2, a3, a4, a5, a6, a7⟩ := ev_cells hown k hkp hlt
    have hrd : Rd wo b 8 (.slice (some ⟨gP, 0, none⟩) m c5) m (ys.flatMap bevC) := Rd.own hown hb
    obtain ⟨B, hBe⟩ : ∃ B, ys.any (fun o : Bev => wrsH o ys[k]) = B := ⟨_, rfl⟩
    have hst := keep_step u ys ys k hkp B hBe
    rw [HB.out] at hst
    obtain ⟨⟨at_, kd, id, who, by1, ct, tm, dt⟩, hx⟩ : ∃ x, ys[k] = x := ⟨_, rfl⟩
    rw [hx] at a0 a1 a2 a3 a4 a5 a6 a7 hst hBe
    simp only at a0 a1 a2 a3 a4 a5 a6 a7
    have HST := Lib.hid hst
    have hSE := hS.add #[.int .i64 at_, .int .i64 kd, .string id, .string who, .string by1, .string ct, .int .i64 tm, .int .i64 dt] 78
    obtain ⟨WE, hWE⟩ : ∃ W, W = wo.alloc (.cells #[.int .i64 at_, .int .i64 kd, .string id, .string who, .string by1, .string ct, .int .i64 tm, .int .i64 dt] 78) := ⟨_, rfl⟩
    have hrd2 : Rd WE b 8 (.slice (some ⟨gP, 0, none⟩) m c5) m (ys.flatMap bevC) := by rw [hWE]; exact hrd.below ((Below.refl _ _).alloc (Nat.le_refl _) _)
    rw [← hWE] at hSE
    have HC := Lib.hid (hasH_calls b wo.heap.size ⟨at_, kd, id, who, by1, ct, tm, dt⟩ (some ⟨gP, 0, none⟩) m c5 ys WE hSE.head hrd2)
    rw [hBe] at HC
    clear hS hx hBe hrd hrd2 hown HB hkp hst
    have hk0 : (0 : Int) ≤ (k : Int) := by omega
    have hk2 : (k : Int) < (m : Int) := by omega
    go_wp2_with fail
    rw [← hWE]
    refine HC.out.mono ?_
    rintro e w5 ⟨rfl, hb5⟩
    obtain ⟨E, hE⟩ : ∃ E, E = wo.heap.size := ⟨_, rfl⟩
    rw [← hE] at hSE ⊢
    have hS5 := hSE.callB hb5
    clear HC hSE hb5 hWE hE a0 a1 a2 a3 a4 a5 a6 a7
    cases B
    · have HST2 : Hid (((ys.take (k + 1)).filter (keepH ys)).map (rgnOf u) = O ++ [(⟨id, who, tm, dt, max u dt⟩ : Rgn)]) := Lib.hid (HST.out.trans (by rw [if_neg (by decide)]; rfl))
      have bE : Blk w5 E _ _ := hS5.head
      have e2 := bE.cell 2
      have e3 := bE.cell 3
      have e6 := bE.cell 6
      have e7 := bE.cell 7
      have hSf := hS5.front 1 rfl rfl
      have HO5 : w5.ownsRow w.heap.size 50 5 (.slice A O.length c) O.length (O.flatMap rgnC) := hSf.head
      have hsz := hSf.size
      clear bE hS5 HST
      go_wp2_with (first
       | (at_builtin; refine wpList_append_own_at _ rfl _ _ 31 rfl w.heap.size 50 j0 (.agg #[.string ⟨#[]⟩, .string ⟨#[]⟩, .int .i64 0, .int .i64 0, .int .i64 0]) 5 56 Tryz.underlying31 hj hy0 hy1 hy2 rfl (by decide) _ _ _ rfl (HO5.alloc _) ⟨w5.heap.size, 0, none⟩ 1 1 [.string id, .string who, .int .i64 tm, .int .i64 dt, .int .i64 (max u dt)] rfl rfl (World.news_of_block (heap_alloc_new _ _)) (by intro v hv; simp only [List.mem_cons, List.not_mem_nil, or_false] at hv; rcases hv with rfl | rfl | rfl | rfl | rfl <;> rfl) (by unfold maxLen; omega) (by omega) (by rw [World.size_alloc]; omega) ?_; intro v6 w6 hown6 hgrow6 _ hat6; have hS9 := (hSf.alloc _).append hown6 hgrow6 hat6; obtain ⟨A8, c8, hv8⟩ := own_form hown6; subst hv8))
      have hS10 := hS9.drop 1 rfl rfl
      go_roundw
      case rel => exact ⟨k + 1, A8, c8, O ++ [(⟨id, who, tm, dt, max u dt⟩ : Rgn)], by omega, by go_num, by rw [List.length_append]; simp; omega, by rw [List.length_append]; rfl, HST2, by rw [List.flatMap_append, List.length_append]; exact hS10⟩
      case measure => simp [intOf]; omega
    · have HST2 : Hid (((ys.take (k + 1)).filter (keepH ys)).map (rgnOf u) = O) := Lib.hid (HST.out.trans (by rw [if_pos rfl, List.append_nil]))
      have hS6 := hS5.drop 0 rfl rfl
      clear hS5 HST
      go_wp2_with fail
      go_roundw
      case rel => exact ⟨k + 1, A, c, O, by omega, by go_num, by omega, rfl, HST2, hS6⟩
      case measure => simp [intOf]; omega
  · obtain rfl : k = m := by omega
    have HBB : Hid ((ys.filter (keepH ys)).map (rgnOf u) = O) := Lib.hid (by
     have h := HB.out
     rwa [List.take_of_length_le (by rw [HM.out]; exact Nat.le_refl _)] at h)
    have hS4 := hS.drop 1 rfl rfl
    obtain ⟨q, hq⟩ : ∃ q, O.length = q := ⟨_, rfl⟩
    rw [hq] at hS4 hO ⊢
    have HFO : ∀ x ∈ O, FrB x := fun x hx => by
     rw [← HBB.out] at hx
     obtain ⟨y, hy, rfl⟩ := List.mem_map.1 hx
     exact HFR.out y (List.mem_filter.1 hy).1
    have HSO := Lib.hid (sortRg_calls w wo A q c O [] hq HFO (by omega) hS4)
    have HQ0 := Lib.hid hq
    have hqz : q ≤ 3000 := by omega
    clear hS HB hlt hk hq hO HAP HMZ hmz hS4 HFO HFR
    go_wp2_with fail
    refine HSO.out.mono ?_
    rintro e w7 ⟨rfl, S, hSp, hSs, hS7⟩
    have HSP : Hid (S.Perm ((ys.filter (keepH ys)).map (rgnOf u))) := Lib.hid (by rw [HBB.out]; exact hSp)
    have HSS := Lib.hid hSs
    have HQ : Hid (S.length = q) := Lib.hid (by rw [hSp.length_eq]; exact HQ0.out)
    have HAO : Hid (0 < q → ∃ gO, A = some ⟨gO, 0, none⟩) := Lib.hid (fun h0 => own_ptr (hS7.head : World.ownsRow _ _ _ _ _ _ _) h0)
    clear hSp hSs HSO HBB HQ0
    go_wp2_with fail
    go_loopw [46] (fun s46 wr => ∃ k : Nat, k ≤ q ∧ s46 = .int .i64 k ∧ Sq w wr [rOwn w.heap.size 50 5 (.slice A q c) q ((fxK S k).flatMap rgnC)]) (fun s46 _ => q - (intOf s46).toNat)
    case atStart => exact ⟨0, Nat.zero_le _, rfl, by rw [fxK_0]; exact hS7⟩
    case round =>
     clear hS7
     obtain ⟨k, hk, rfl, hS⟩ := hrel
     obtain ⟨wp, hwp⟩ : ∃ z, z = wr := ⟨_, rfl⟩
     subst hwp
     by_cases hlt : k < q
     · rcases Nat.eq_zero_or_pos k with h0 | h0
       · subst h0
         have hq1 : (0 : Int) < (q : Int) := by omega
         rw [fxK_0] at hS
         go_wp2_with fail
         go_roundw
         case rel => exact ⟨1, by omega, rfl, by rw [fxK_1]; exact hS⟩
         case measure => simp [intOf]; omega
       · obtain ⟨j, hj1⟩ : ∃ j, k = j + 1 := ⟨k - 1, by omega⟩
         subst hj1
         obtain ⟨gO, hgO⟩ := HAO.out (by omega)
         subst hgO
         have hjs : j + 1 < S.length := by rw [HQ.out]; exact hlt
         obtain ⟨p, hp, hf1, hf2⟩ := fxK_form S j hjs
         obtain ⟨⟨oi, ow, ot, of_, oo⟩, hox⟩ : ∃ x, S[j] = x := ⟨_, rfl⟩
         obtain ⟨⟨ni, nw, nt, nf, no⟩, hnx⟩ : ∃ x, S[j + 1] = x := ⟨_, rfl⟩
         obtain ⟨t, ht⟩ : ∃ t, S.drop (j + 2) = t := ⟨_, rfl⟩
         rw [hox, hnx, ht] at hf1 hf2
         simp only at hf2
         have hfl : (fxK S (j + 1)).length = q := by rw [fxK_len]; exact HQ.out
         obtain ⟨Z, hZ⟩ : ∃ Z, fxK S (j + 1) = Z := ⟨_, rfl⟩
         obtain ⟨Z2, hZ2⟩ : ∃ Z2, fxK S (j + 2) = Z2 := ⟨_, rfl⟩
         rw [hZ] at hf1 hfl hS
         rw [hZ2] at hf2
         have hown : wp.ownsRow w.heap.size 50 5 (.slice (some ⟨gO, 0, none⟩) q c) q (Z.flatMap rgnC) := hS.head
         have hz0 : Z[j]'(by omega) = (⟨oi, ow, ot, of_, oo⟩ : Rgn) := by subst hf1; subst hp; simp
         have hz1 : Z[j + 1]'(by omega) = (⟨ni, nw, nt, nf, no⟩ : Rgn) := by subst hf1; subst hp; simp
         have c3 := own_cell rgnC 5 rgnC_len hown (j + 1) 3 (by omega) (by omega) (by omega)
         have c4 := own_cell rgnC 5 rgnC_len hown j 4 (by omega) (by omega) (by omega)
         rw [hz1] at c3
         rw [hz0] at c4
         have f4 : wp.frozen? ⟨gO, j * 5 + 4, none⟩ = false := hown.frozenAt _
         have HFS : Hid (Sq w (wp.setCell ⟨gO, j * 5 + 4, none⟩ (.int .i64 nf)) [rOwn w.heap.size 50 5 (.slice (some ⟨gO, 0, none⟩) q c) q ((fxK S (j + 2)).flatMap rgnC)]) := Lib.hid (by
          rw [← hfl] at hS
          have h := hS.field rgnC 5 rgnC_len j 4 (by omega) (by omega) (.int .i64 nf) (⟨oi, ow, ot, of_, nf⟩ : Rgn) (by rw [hz0]; rfl)
          have hset : Z.set j (⟨oi, ow, ot, of_, nf⟩ : Rgn) = Z2 := by
           subst hf1
           rw [hf2]
           subst hp
           simp
          rw [hset] at h
          have hl2 : Z2.length = q := by rw [← hZ2, fxK_len]; exact HQ.out
          rw [hl2] at h
          rw [hZ2]
          exact h)
         obtain ⟨K1, hK1⟩ : ∃ K1, j + 1 = K1 := ⟨_, rfl⟩
         rw [hK1] at c3 hlt hk ⊢
         replace c3 : wp.cell? ⟨gO, K1 * 5 + 3, none⟩ = some (.int .i64 nf) := c3
         replace c4 : wp.cell? ⟨gO, j * 5 + 4, none⟩ = some (.int .i64 oo) := c4
         have hj0 : (0 : Int) ≤ (j : Int) := by omega
         have hjn : (j : Int) < (q : Int) := by omega
         have hk0 : (0 : Int) ≤ (K1 : Int) := by omega
         have hk01 : (0 : Int) < (K1 : Int) := by omega
         have hkn : (K1 : Int) < (q : Int) := by omega
         have hkj : (K1 : Int) - 1 = (j : Int) := by omega
         have hw3 : IntKind.i64.wrap (j : Int) = (j : Int) := IntWalk.i64_in _ (by omega)
         have HK1 := Lib.hid hK1
         clear hS hown hz0 hz1 hf1 hf2 hZ hZ2 hox hnx ht hp hfl hjs h0 hK1
         go_wp2_with fail
         have hS9 := HFS.out
         go_roundw
         case rel => exact ⟨K1 + 1, by omega, by go_num, by rw [← HK1.out]; exact hS9⟩
         case measure => simp [intOf]; omega
     · obtain rfl : k = q := by omega
       have HF : Hid (HsoR D cat u w (.returned (.slice A k c)) wp) := Lib.hid (by
        refine ⟨A, c, ys, S, HY.out, HSP.out, HSS.out, by rw [HQ.out], ?_⟩
        have h := hS
        rw [← HQ.out, fxK_end] at h
        exact h)
       clear hS
       go_wp2_with fail
       go_ret
       exact HF.out
end Go.Proofs.YtapgnaimbgjcnaaGreatDoor
/-
  board.History, board.Gained and splitref2.GainedOf by contracts. (Printed by gen_hs6.py.)
-/
namespace Go.Proofs.YtapgnaimbgjcnaaGreatDoor
open Go Go.RowKit
attribute [local go_sem ↓] Go.wp_at_zero Go.wp_at_succ
def HisIs (l : List Bev) (cat : ByteArray) (u F : Int) (H : List Rgn) : Prop := (F = 0 → ∃ ys, SbdH (folE l u).1 cat ys ∧ H = hisF u ys) ∧ (F ≠ 0 → H = [])
theorem hisIs_no {l : List Bev} {cat : ByteArray} {u F : Int} (h : F ≠ 0) : HisIs l cat u F [] := ⟨fun h2 => absurd h2 h, fun _ => rfl⟩
theorem hisIs_ok {l : List Bev} {cat : ByteArray} {u : Int} {ys : List Bev} (h : SbdH (folE l u).1 cat ys) : HisIs l cat u 0 (hisF u ys) := ⟨fun _ => ⟨ys, h, rfl⟩, fun h => absurd rfl h⟩
def HsyR (l : List Bev) (cat : ByteArray) (u F : Int) (w : World) (e : Ending) (w' : World) : Prop :=
 ∃ (A : Option Addr) (c : Nat) (H : List Rgn), HisIs l cat u F H ∧ e = .returned (.tuple #[.slice A H.length c, .int .i64 F]) ∧ Sq w w' [rOwn w.heap.size 50 5 (.slice A H.length c) H.length (H.flatMap rgnC)]
def gnV (H : List Rgn) : Int := match H.head?, H.getLast? with
 | some a, some b => IntKind.i64.wrap (a.time - b.time)
 | _, _ => 0
def gnB (H : List Rgn) : Bool := !H.isEmpty
theorem gn_at {H : List Rgn} {j : Nat} (hj : H.length = j + 1) : gnV H = IntKind.i64.wrap ((H[0]'(by omega)).time - (H[j]'(by omega)).time) ∧ gnB H = true := by
 cases H with
 | nil => simp at hj
 | cons a t =>
   have hl : (a :: t).getLast? = some ((a :: t)[j]'(by omega)) := by
    have hjj : (a :: t).length - 1 = j := by omega
    subst hjj
    rw [List.getLast?_eq_getElem?, List.getElem?_eq_getElem (by omega)]
   refine ⟨?_, rfl⟩
   unfold gnV
   rw [hl]
   rfl
def GndR (l : List Bev) (cat : ByteArray) (u F : Int) (w : World) (e : Ending) (w' : World) : Prop :=
 ∃ H : List Rgn, HisIs l cat u F H ∧ e = .returned (.tuple #[.int .i64 (gnV H), .bool (gnB H), .int .i64 F]) ∧ Below w.heap.size w w'
set_option maxRecDepth 100000 in
set_option maxHeartbeats 4000000 in
theorem hist_calls (b : Nat) (A : Option Addr) (n c : Nat) (l : List Bev) (u : Int) (cat : ByteArray) (w : World) (hb : b < w.heap.size) (hr : Bevs w b A n c l) (hn : n ≤ 3000) (hc : cat.size ≤ 1000000) :
 Calls Tryz.prog 12 #[.slice A n c, .string cat, .int .i64 u] w (HsyR l cat u (catF l [cat] u) w) := by
 have hS0 := (Sq.start w).add #[.string cat] 9
 have hrl := blkRd (b := b) 1 1 (hS0.head : Blk _ w.heap.size _ _) (by omega) (by unfold maxLen; omega) rfl
 have HC := Lib.hid (categoryFault_calls b A (some ⟨w.heap.size, 0, none⟩) n c 1 1 l [cat] u _ (hr.below hS0.below) hrl (by intro s hs; simp at hs; subst hs; exact hc))
 have HS0 := Lib.hid hS0
 have HR := Lib.hid hr.rd
 obtain ⟨F, hF⟩ : ∃ F, catF l [cat] u = F := ⟨_, rfl⟩
 rw [hF] at HC ⊢
 have HE : Hid (F = 0 → ∀ x ∈ l, EvK x) := Lib.hid (fun h => evK_all (catF_ok (hF.trans h)))
 clear hr hS0 hrl hc hF
 by_cases h0 : F = 0
 · subst h0
   have HE0 := Lib.hid (HE.out rfl)
   clear HE
   go_enter Tryz.func12, Tryz.ntmps12
   go_wp2_with fail
   refine HC.out.mono ?_
   rintro e w1 ⟨rfl, hb1⟩
   have hS1 := HS0.out.callB hb1
   have HRA := Lib.hid (history_calls b A n c l u cat w1 (hS1.rd HR.out) HE0.out hn)
   have HS1 := Lib.hid hS1.bare
   clear hS1 hb1 HC HS0
   go_wp2_with fail
   refine HRA.out.mono ?_
   rintro e w3 ⟨A3, c3, ys, hY, rfl, hS3⟩
   have HF : Hid (HsyR l cat u 0 w (.returned (.tuple #[.slice A3 (hisF u ys).length c3, .int .i64 0])) w3) := Lib.hid ⟨A3, c3, hisF u ys, hisIs_ok hY, rfl, (HS1.out.merge hS3).rebase HS1.out.size⟩
   obtain ⟨q, hq⟩ : ∃ q, (hisF u ys).length = q := ⟨_, rfl⟩
   rw [hq] at HF ⊢
   clear hS3 hY hq HRA HS1
   go_wp2_with fail
   go_ret2
   exact HF.out
 · have hne : (F != 0) = true := by rw [bne_iff_ne]; exact h0
   go_enter Tryz.func12, Tryz.ntmps12
   go_wp2_with fail
   refine HC.out.mono ?_
   rintro e w1 ⟨rfl, hb1⟩
   have HF : Hid (HsyR l cat u F w (.returned (.tuple #[.slice none 0 0, .int .i64 F])) w1) := Lib.hid ⟨none, 0, [], hisIs_no h0, rfl, ((HS0.out.callB hb1).bare).nil _ _ _⟩
   clear HC HS0 hb1
   go_wp2_with fail
   go_ret2
   exact HF.out
set_option maxRecDepth 100000 in
set_option maxHeartbeats 4000000 in
theorem gained_calls (b : Nat) (A : Option Addr) (n c : Nat) (l : List Bev) (u : Int) (cat : ByteArray) (w : World) (hb : b < w.heap.size) (hr : Bevs w b A n c l) (hn : n ≤ 3000) (hc : cat.size ≤ 1000000) :
 Calls Tryz.prog 14 #[.slice A n c, .string cat, .int .i64 u] w (GndR l cat u (catF l [cat] u) w) := by
 have hS0 := (Sq.start w).add #[.string cat] 9
 have hrl := blkRd (b := b) 1 1 (hS0.head : Blk _ w.heap.size _ _) (by omega) (by unfold maxLen; omega) rfl
 have HC := Lib.hid (categoryFault_calls b A (some ⟨w.heap.size, 0, none⟩) n c 1 1 l [cat] u _ (hr.below hS0.below) hrl (by intro s hs; simp at hs; subst hs; exact hc))
 have HS0 := Lib.hid hS0
 have HR := Lib.hid hr.rd
 obtain ⟨F, hF⟩ : ∃ F, catF l [cat] u = F := ⟨_, rfl⟩
 rw [hF] at HC ⊢
 have HE : Hid (F = 0 → ∀ x ∈ l, EvK x) := Lib.hid (fun h => evK_all (catF_ok (hF.trans h)))
 clear hr hS0 hrl hc hF
 by_cases h0 : F = 0
 · subst h0
   have HE0 := Lib.hid (HE.out rfl)
   clear HE
   go_enter Tryz.func14, Tryz.ntmps14
   go_wp2_with fail
   refine HC.out.mono ?_
   rintro e w1 ⟨rfl, hb1⟩
   have hS1 := HS0.out.callB hb1
   have HRA := Lib.hid (history_calls b A n c l u cat w1 (hS1.rd HR.out) HE0.out hn)
   have HS1 := Lib.hid hS1.bare
   clear hS1 hb1 HC HS0
   go_wp2_with fail
   refine HRA.out.mono ?_
   rintro e w3 ⟨A3, c3, ys, hY, rfl, hS3⟩
   obtain ⟨H, hH⟩ : ∃ H, hisF u ys = H := ⟨_, rfl⟩
   have HIS : Hid (HisIs l cat u 0 H) := Lib.hid (by rw [← hH]; exact hisIs_ok hY)
   rw [hH] at hS3 ⊢
   have HB3 := Lib.hid (below_call HS1.out.below hS3.below (Nat.le_refl _))
   clear hY hH HRA HS1
   have HQZ : Hid (H.length ≤ maxLen) := Lib.hid (by
    have h1 := own_cap (hS3.head : World.ownsRow _ _ _ _ _ _ _)
    omega)
   rcases Nat.eq_zero_or_pos H.length with h0 | h0
   · have hn0 := List.length_eq_zero_iff.1 h0
     subst hn0
     clear hS3 h0
     go_wp2_with fail
     go_ret3
     exact ⟨[], HIS.out, rfl, HB3.out⟩
   · obtain ⟨j, hj⟩ : ∃ j, H.length = j + 1 := ⟨H.length - 1, by omega⟩
     obtain ⟨g, hg⟩ := own_ptr (hS3.head : World.ownsRow _ _ _ _ _ _ _) h0
     subst hg
     have hown : w3.ownsRow w1.heap.size 50 5 (.slice (some ⟨g, 0, none⟩) H.length c3) H.length (H.flatMap rgnC) := hS3.head
     have c0 := own_cell rgnC 5 rgnC_len hown 0 2 (by omega) (by omega) (by omega)
     have c1 := own_cell rgnC 5 rgnC_len hown j 2 (by omega) (by omega) (by omega)
     obtain ⟨gv, gb⟩ := gn_at (H := H) (j := j) (by exact hj)
     obtain ⟨⟨i0, w0, t0, f0, o0⟩, hx⟩ : ∃ x, H[0]'(by omega) = x := ⟨_, rfl⟩
     obtain ⟨⟨i1, w1, t1, f1, o1⟩, hy⟩ : ∃ x, H[j]'(by omega) = x := ⟨_, rfl⟩
     rw [hx] at c0 gv
     rw [hy] at c1 gv
     simp only at gv
     replace c0 : w3.cell? ⟨g, 2, none⟩ = some (.int .i64 t0) := c0
     replace c1 : w3.cell? ⟨g, j * 5 + 2, none⟩ = some (.int .i64 t1) := c1
     obtain ⟨GV, hGV⟩ : ∃ z, IntKind.i64.wrap (t0 - t1) = z := ⟨_, rfl⟩
     rw [hGV] at gv
     obtain ⟨q, hq⟩ : ∃ q, H.length = q := ⟨_, rfl⟩
     rw [hq] at hj ⊢
     have hq1 : (q : Int) - 1 = (j : Int) := by omega
     have hq2 : ¬ (q : Int) = 0 := by omega
     have hqb : ((q : Int) == 0) = false := by simp; omega
     have hj0 : (0 : Int) ≤ (j : Int) := by omega
     have hjq : (j : Int) < (q : Int) := by omega
     have hq0 : (0 : Int) < (q : Int) := by omega
     have hw3 : IntKind.i64.wrap (j : Int) = (j : Int) := by
      have hz := HQZ.out
      unfold maxLen at hz
      exact IntWalk.i64_in _ (by omega)
     have GVH := Lib.hid gv
     have GBH := Lib.hid gb
     have HQB := Lib.hid HB3.out
     clear hown hx hy gv gb hq hj hS3 HQZ
     go_wp2_with fail
     go_quiet (fail)
     go_wp2_with fail
     go_ret3
     exact ⟨H, HIS.out, by rw [GVH.out, GBH.out]; rfl, below_drewN HB3.out _⟩
 · have hne : (F != 0) = true := by rw [bne_iff_ne]; exact h0
   go_enter Tryz.func14, Tryz.ntmps14
   go_wp2_with fail
   refine HC.out.mono ?_
   rintro e w1 ⟨rfl, hb1⟩
   have HF : Hid (GndR l cat u F w (.returned (.tuple #[.int .i64 0, .bool false, .int .i64 F])) w1) := Lib.hid ⟨[], hisIs_no h0, rfl, (HS0.out.callB hb1).below⟩
   clear HC HS0 hb1
   go_wp2_with fail
   go_ret3
   exact HF.out
def GnoR (D : Dsk) (cat : ByteArray) (u : Int) (w : World) (e : Ending) (w' : World) : Prop :=
 ∃ (ys : List Bev) (S : List Rgn), SbdR D cat ys ∧ S.Perm ((ys.filter (keepH ys)).map (rgnOf u)) ∧ S.Pairwise (fun a b => a.from_ ≤ b.from_) ∧ e = .returned (.tuple #[.int .i64 (gnV (fixTo S)), .bool (gnB (fixTo S))]) ∧ Below w.heap.size w w'
set_option maxRecDepth 100000 in
set_option maxHeartbeats 4000000 in
theorem gainedOf_calls (b : Nat) (A : Option Addr) (n c : Nat) (l : List Bev) (u : Int) (cat : ByteArray) (w : World) (hb : b < w.heap.size) (hr : Rd w b 8 (.slice A n c) n (l.flatMap bevC)) (hk : ∀ x ∈ l, EvK x) (hn : n ≤ 3000) (hd : ∀ x ∈ brd (folE l u).1 cat, 0 ≤ x.date ∧ x.date ≤ 345686400000) :
 Calls Tryz.prog 21 #[.slice A n c, .string cat, .int .i64 u] w (GnoR (folE l u).1 cat u w) := by
 have HC := Lib.hid (historyOf_calls b A n c l u cat w hb hr hk hn hd)
 clear hr hk hd
 go_enter Tryz.func21, Tryz.ntmps21
 go_wp2_with fail
 refine HC.out.mono ?_
 rintro e w3 ⟨A3, c3, ys, H, hY, hSp, hSs, rfl, hS3⟩
 have HIS := Lib.hid (And.intro hY (And.intro hSp hSs))
 have HB3 := Lib.hid hS3.below
 clear hY hSp hSs HC
 have HQZ : Hid (H.length ≤ maxLen) := Lib.hid (by
  have h1 := own_cap (hS3.head : World.ownsRow _ _ _ _ _ _ _)
  omega)
 rcases Nat.eq_zero_or_pos H.length with h0 | h0
 · have hn0 := List.length_eq_zero_iff.1 h0
   subst hn0
   clear hS3 h0
   go_wp2_with fail
   go_ret2
   exact ⟨ys, [], HIS.out.1, HIS.out.2.1, HIS.out.2.2, rfl, HB3.out⟩
 · obtain ⟨j, hj⟩ : ∃ j, H.length = j + 1 := ⟨H.length - 1, by omega⟩
   obtain ⟨g, hg⟩ := own_ptr (hS3.head : World.ownsRow _ _ _ _ _ _ _) h0
   subst hg
   have hown : w3.ownsRow w.heap.size 50 5 (.slice (some ⟨g, 0, none⟩) H.length c3) H.length ((fixTo H).flatMap rgnC) := hS3.head
   have c0 := own_cell rgnC 5 rgnC_len hown 0 2 (by rw [fixTo_len]; omega) (by omega) (by omega)
   have c1 := own_cell rgnC 5 rgnC_len hown j 2 (by rw [fixTo_len]; omega) (by omega) (by omega)
   obtain ⟨gv, gb⟩ := gn_at (H := (fixTo H)) (j := j) (by rw [fixTo_len]; exact hj)
   obtain ⟨⟨i0, w0, t0, f0, o0⟩, hx⟩ : ∃ x, (fixTo H)[0]'(by rw [fixTo_len]; omega) = x := ⟨_, rfl⟩
   obtain ⟨⟨i1, w1, t1, f1, o1⟩, hy⟩ : ∃ x, (fixTo H)[j]'(by rw [fixTo_len]; omega) = x := ⟨_, rfl⟩
   rw [hx] at c0 gv
   rw [hy] at c1 gv
   simp only at gv
   replace c0 : w3.cell? ⟨g, 2, none⟩ = some (.int .i64 t0) := c0
   replace c1 : w3.cell? ⟨g, j * 5 + 2, none⟩ = some (.int .i64 t1) := c1
   obtain ⟨GV, hGV⟩ : ∃ z, IntKind.i64.wrap (t0 - t1) = z := ⟨_, rfl⟩
   rw [hGV] at gv
   obtain ⟨q, hq⟩ : ∃ q, H.length = q := ⟨_, rfl⟩
   rw [hq] at hj ⊢
   have hq1 : (q : Int) - 1 = (j : Int) := by omega
   have hq2 : ¬ (q : Int) = 0 := by omega
   have hqb : ((q : Int) == 0) = false := by simp; omega
   have hj0 : (0 : Int) ≤ (j : Int) := by omega
   have hjq : (j : Int) < (q : Int) := by omega
   have hq0 : (0 : Int) < (q : Int) := by omega
   have hw3 : IntKind.i64.wrap (j : Int) = (j : Int) := by
    have hz := HQZ.out
    unfold maxLen at hz
    exact IntWalk.i64_in _ (by omega)
   have GVH := Lib.hid gv
   have GBH := Lib.hid gb
   have HQB := Lib.hid HB3.out
   clear hown hx hy gv gb hq hj hS3 HQZ
   go_wp2_with fail
   go_quiet (fail)
   go_wp2_with fail
   go_ret2
   exact ⟨ys, H, HIS.out.1, HIS.out.2.1, HIS.out.2.2, by rw [GVH.out, GBH.out]; rfl, below_drewN HB3.out _⟩
end Go.Proofs.YtapgnaimbgjcnaaGreatDoor
