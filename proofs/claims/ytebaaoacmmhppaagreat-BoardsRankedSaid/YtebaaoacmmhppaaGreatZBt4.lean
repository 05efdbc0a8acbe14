/-
  (*splitref2.site).chosen at a board, and splitref2.onBoard by their contracts.
-/
import Derived.Test.YtebaaoacmmhppaaGreatZMapR
import Derived.Test.YtebaaoacmmhppaaGreatZBt3
import Derived.Test.YtebaaoacmmhppaaGreatZSk7
import Derived.Test.YtebaaoacmmhppaaGreatZRatMake4
import Derived.Test.YtebaaoacmmhppaaGreatZEv11
import Derived.Deep.RegionHeld3
import Derived.RegionTactic
import Derived.Deep.DeepCutAuto
import Derived.Deep.CutBlock
import Derived.Test.YtebaaoacmmhppaaGreatZBtR
import Derived.Test.YtebaaoacmmhppaaGreatZSlotPure
import Derived.Test.YtebaaoacmmhppaaGreatZFlat
namespace Go.Proofs.YtebaaoacmmhppaaGreat
open Go Go.RowKit Go.Sort
attribute [local go_sem ↓] Go.wp_at_zero Go.wp_at_succ

/-- a board's runs in new memory -/
def BdO (D : Dsk) (cat : ByteArray) (w0 : World) (e : Ending) (w' : World) : Prop :=
  ∃ (A : Option Addr) (c : Nat) (ys : List Bev), e = .returned (.slice A ys.length c) ∧ SbdR D cat ys ∧ Sq w0 w' [rOwn w0.heap.size 62 8 (.slice A ys.length c) ys.length (ys.flatMap bevC)]
set_option maxRecDepth 100000 in
set_option maxHeartbeats 8000000 in
theorem chosenB_calls (gs m1 m2 m3 n n2 n3 gc gp : Nat) (V : Value) (D : Dsk) (cat : ByteArray) (w0 w : World) (hK : KD D) (hz : D.rn.length ≤ 3000)
    (hS : Sq w0 w (sitL gs m1 n m2 n2 m3 n3 V D [rBlk gc 9 #[.string cat], rBlk gp 111 #[.pointer (some ⟨gs, 0, none⟩)]])) :
    Calls Tryz.prog 76 #[.pointer (some ⟨gs, 0, none⟩), .func (.func 93) #[] #[.pointer (some ⟨gc, 0, none⟩), .pointer (some ⟨gp, 0, none⟩)], .func (.func 94) #[] #[]] w (BdO D cat w0) := by
  obtain ⟨i0, hi, hz0, hz1, hz2⟩ : ∃ i0, Tryz.prog.info? 62 = some i0 ∧ i0.zero = some (.agg #[.int .i64 0, .int .i64 0, .string ⟨#[]⟩, .string ⟨#[]⟩, .string ⟨#[]⟩, .string ⟨#[]⟩, .int .i64 0, .int .i64 0]) ∧ i0.size = 8 ∧ i0.bytes = 96 := by
    have h := info_bev
    cases hh : Tryz.prog.info? 62 with
    | none => rw [hh] at h; cases h
    | some i => rw [hh] at h; injection h with h; injection h with h1 h; injection h with h2 h3; exact ⟨i, rfl, h1, h2, h3⟩
  unfold sitL at hS
  have hS1 := hS.front 1 rfl rfl
  have HMP : MapS w 9 m1 n (evF D) := hS1.head
  have c0 := (hS1.nth 1 rfl : Blk w gs _ _).cell 0
  have HK := Lib.hid hK
  clear hS hK
  go_enter Tryz.func76, Tryz.ntmps76
  go_wp2_with (first | (at_range; refine wpList_range_map _ rfl _ 106 rfl 9 62 Tryz.underlying9 Tryz.underlying106 m1 n (evF D) rfl HMP ?_; intro w1 cnt0 hr0 hg0 hs0))
  go_frame
  have hS2 := (hS1.rngStart hr0 hg0).nil w0.heap.size 62 8
  obtain ⟨r, hr⟩ : ∃ r, r = w.heap.size := ⟨_, rfl⟩
  rw [← hr] at hS2 ⊢
  clear hS1 hr0 hg0 hs0 HMP hr c0
  go_loopw [7] (fun s7 wr => ∃ (A : Option Addr) (c : Nat) (seen : List ByteArray) (cnt : Nat) (ys : List Bev), s7 = .slice A ys.length c ∧ Hid (ys = seen.filterMap (brOne D cat)) ∧ Hid (∀ s ∈ seen, s.size ≤ maxLen ∧ ∃ r, rnOf D s = some r) ∧ Sq w0 wr [rOwn w0.heap.size 62 8 (.slice A ys.length c) ys.length (ys.flatMap bevC), rRng 9 m1 r n (evF D) seen cnt, rBlk gs 110 #[.map (some m1), .map (some m2), .map (some m3), V], rMap 9 m2 n2 (stF D), rMap 9 m3 n3 (bnF D), rBlk gc 9 #[.string cat], rBlk gp 111 #[.pointer (some ⟨gs, 0, none⟩)]]) (fun _ wr => wr.rangeLeft m1 r)
  case atStart => exact ⟨none, 0, [], cnt0, [], rfl, Lib.hid rfl, Lib.hid (fun s hs => by cases hs), hS2⟩
  case round =>
    clear hS2
    obtain ⟨A, c, seen, cnt, ys, rfl, HY, HSN, hS⟩ := hrel
    have hrg : RngS wr 9 m1 r n (evF D) seen cnt := hS.nth 1 rfl
    have hnd := hrg.nodup
    have hyl : ys.length ≤ 3000 := by
      have h1 := seen_len hnd (fun s hs => (HSN.out s hs).2)
      have h2 := List.length_filterMap_le (brOne D cat) seen
      rw [← HY.out] at h2
      omega
    go_wp2_with (first | (at_next; refine wpList_next_map _ rfl _ rfl 9 Tryz.underlying9 m1 r n (evF D) seen cnt rfl hrg ?_ ?_))
    · intro hdone
      have HP : Hid (ys.Perm (brd D cat)) := Lib.hid (by rw [HY.out]; exact brd_perm HK.out cat hnd (fun s hs => (HSN.out s hs).1) hdone)
      have hT := (((((hS.drop 6 rfl rfl).drop 5 rfl rfl).drop 4 rfl rfl).drop 3 rfl rfl).drop 2 rfl rfl).drop 1 rfl rfl
      have hown : wr.ownsRow w0.heap.size 62 8 (.slice A ys.length c) ys.length (ys.flatMap bevC) := hT.head
      clear hS hrg hdone HSN HY hnd
      by_cases h0 : ys.length = 0
      · have hnil : ys = [] := List.length_eq_zero_iff.1 h0
        subst hnil
        have HN := Lib.hid (sortEvT_none wr A c)
        have HFI : Hid (BdO D cat w0 (.returned (.slice A 0 c)) wr) := Lib.hid ⟨A, c, [], rfl, ⟨HP.out, List.Pairwise.nil⟩, hT⟩
        clear hT hown HP
        go_wp2_with (fail)
        refine HN.out.mono ?_
        rintro e w5 ⟨rfl, rfl⟩
        go_wp2_with (fail)
        go_ret
        exact HFI.out
      · obtain ⟨g, hA⟩ : ∃ g, A = some ⟨g, 0, none⟩ := by
          rcases hown.2 with ⟨he, hx⟩ | ⟨g, cap, cur, he, _⟩
          · exact absurd (by injection he) h0
          · injection he with he; exact ⟨g, he⟩
        subst hA
        have HC := Lib.hid (sortEvT_calls w0 wr g ys.length c ys [] (by omega) hT)
        obtain ⟨m, hm⟩ : ∃ m, ys.length = m := ⟨_, rfl⟩
        rw [hm] at HC ⊢
        have HM := Lib.hid hm
        clear hT hown hyl hm h0
        go_wp2_with (fail)
        refine HC.out.mono ?_
        rintro e w5 ⟨rfl, zs, hp, hso, hT2⟩
        have HFI : Hid (BdO D cat w0 (.returned (.slice (some ⟨g, 0, none⟩) m c)) w5) := Lib.hid (by
          have hl : zs.length = m := by rw [hp.length_eq]; exact HM.out
          rw [← hl] at hT2 ⊢
          exact ⟨_, c, zs, rfl, ⟨hp.trans HP.out, hso⟩, hT2⟩)
        clear hT2
        go_wp2_with (fail)
        go_ret
        exact HFI.out
    · intro s v w2 cnt2 hnew hsl hf hrg2 hlt2 hg2 hs2 hen
      have hl1 : wr.rangeLeft m1 r = cnt := hrg.left
      have hS2 := (hS.front 1 rfl rfl).rngStep hrg2 hg2
      clear hrg hS
      obtain ⟨⟨⟨at_, kd, id, who, by1, ct, tm, dt⟩, k⟩, hrn⟩ : ∃ z, rnOf D s = some z := evF_some.1 (by rw [hf]; rfl)
      have hv : v = .agg #[.int .i64 at_, .int .i64 kd, .string id, .string who, .string by1, .string ct, .int .i64 tm, .int .i64 dt] := by
        have h := hf
        unfold evF at h
        rw [hrn] at h
        injection h with h
        exact h.symm
      have hid : id = s := (rnOf_mem hrn).2
      have HSN2 : Hid (∀ t ∈ seen ++ [s], t.size ≤ maxLen ∧ ∃ r, rnOf D t = some r) := Lib.hid (fun t ht => by
        rcases List.mem_append.1 ht with ht | ht
        · exact HSN.out t ht
        · simp at ht; subst ht; exact ⟨hsl, _, hrn⟩)
      have HY2 : Hid (ys ++ (if inB D cat (⟨at_, kd, id, who, by1, ct, tm, dt⟩, k) = true then [⟨at_, kd, id, who, by1, ct, tm, dt⟩] else []) = (seen ++ [s]).filterMap (brOne D cat)) := Lib.hid (by
        rw [List.filterMap_append, ← HY.out]
        congr 1
        have e : brOne D cat s = if inB D cat (⟨at_, kd, id, who, by1, ct, tm, dt⟩, k) = true then some ⟨at_, kd, id, who, by1, ct, tm, dt⟩ else none := by unfold brOne; rw [hrn]
        by_cases h : inB D cat (⟨at_, kd, id, who, by1, ct, tm, dt⟩, k) = true
        · rw [if_pos h] at e ⊢
          rw [List.filterMap_cons_some e]
          rfl
        · rw [if_neg h] at e ⊢
          rw [List.filterMap_cons_none e]
          rfl)
      have hE2 : (stF D id).getD (.string ⟨#[]⟩) = .string (hwV k) := by unfold stF; rw [hid, hrn]; rfl
      have hwz := HK.out.wz _ (rnOf_mem hrn).1
      have hiz := HK.out.iz _ (rnOf_mem hrn).1
      subst hv
      obtain ⟨I, hI⟩ : ∃ b, inB D cat (⟨at_, kd, id, who, by1, ct, tm, dt⟩, k) = b := ⟨_, rfl⟩
      have HI : Hid (((ct.toList == cat.toList) && ((hwV k).toList == [118, 101, 114, 105, 102, 105, 101, 100]) && !(D.bn who)) = I) := Lib.hid hI
      rw [hI] at HY2
      simp only at hwz hiz
      have hSE := hS2.add #[.int .i64 at_, .int .i64 kd, .string id, .string who, .string by1, .string ct, .int .i64 tm, .int .i64 dt] 62
      obtain ⟨WE, hWE⟩ : ∃ W, W = w2.alloc (.cells #[.int .i64 at_, .int .i64 kd, .string id, .string who, .string by1, .string ct, .int .i64 tm, .int .i64 dt] 62) := ⟨_, rfl⟩
      rw [← hWE] at hSE
      have HFU := Lib.hid (inBoard_calls gc gp gs m2 m3 cat (hwV k) (D.bn who) at_ kd tm dt id who by1 ct WE (fun W hW => by
        have hSW := hSE.callB hW
        have hb : Blk W gs _ #[.map (some m1), .map (some m2), .map (some m3), V] := hSW.nth 3 rfl
        have hM2 : MapS W 9 m2 n2 (stF D) := hSW.nth 4 rfl
        have hM3 : MapS W 9 m3 n3 (bnF D) := hSW.nth 5 rfl
        have hc : Blk W gc _ #[.string cat] := hSW.nth 6 rfl
        have hp : Blk W gp _ #[.pointer (some ⟨gs, 0, none⟩)] := hSW.nth 7 rfl
        have l2 := hM2.look (t := 107) (e := 9) Tryz.underlying9 Tryz.underlying107 (zero_str W) (s := id) (by unfold maxLen; omega)
        have l3 := hM3.look (t := 103) (e := 4) Tryz.underlying9 Tryz.underlying103 (zero_bol W) (s := who) (by unfold maxLen; omega)
        rw [hE2] at l2
        rw [bnF_get HK.out] at l3
        exact ⟨hc.cell 0, hp.cell 0, hb.cell 1, hb.cell 2, l2, l3⟩))
      rw [HI.out] at HFU
      clear hE2 hwz hiz hI HI hid hrn hf hnew hsl HSN HY hS2 hs2
      have hlt3 : cnt2 < wr.rangeLeft m1 r := by rw [hl1]; exact hlt2
      have HLT := Lib.hid hlt3
      clear hl1 hlt2 hlt3 hg2 hrg2
      go_wp2_with fail
      rw [← hWE]
      refine HFU.out.mono ?_
      rintro e w5 ⟨rfl, hb5⟩
      obtain ⟨E, hE⟩ : ∃ E, E = w2.heap.size := ⟨_, rfl⟩
      rw [← hE] at hSE ⊢
      have hS5 := hSE.callB hb5
      clear HFU hSE hb5 hWE hE hen
      cases I
      · replace hS5 := (hS5.drop 0 rfl rfl).front 1 rfl rfl
        rw [if_neg (by decide), List.append_nil] at HY2
        have hrl : w5.rangeLeft m1 r = cnt2 := (show RngS w5 _ m1 r n _ _ cnt2 from hS5.nth 1 rfl).left
        go_wp2_with fail
        go_roundw
        case rel => exact ⟨A, c, seen ++ [s], cnt2, ys, rfl, HY2, HSN2, hS5⟩
        case measure => rw [hrl]; exact HLT.out
      · rw [if_pos rfl] at HY2
        have bE : Blk w5 E _ _ := hS5.head
        have e0 := bE.cell 0
        have e1 := bE.cell 1
        have e2 := bE.cell 2
        have e3 := bE.cell 3
        have e4 := bE.cell 4
        have e5 := bE.cell 5
        have e6 := bE.cell 6
        have e7 := bE.cell 7
        have hSf := hS5.front 2 rfl rfl
        have HO5 : w5.ownsRow w0.heap.size 62 8 (.slice A ys.length c) ys.length (ys.flatMap bevC) := hSf.head
        have hsz := hSf.size
        clear bE hS5
        go_wp2_with (first
          | (at_builtin; refine wpList_append_own_at _ rfl _ _ 26 rfl w0.heap.size 62 i0 (.agg #[.int .i64 0, .int .i64 0, .string ⟨#[]⟩, .string ⟨#[]⟩, .string ⟨#[]⟩, .string ⟨#[]⟩, .int .i64 0, .int .i64 0]) 8 96 Tryz.underlying26 hi hz0 hz1 hz2 rfl (by decide) _ _ _ rfl (HO5.alloc _) ⟨w5.heap.size, 0, none⟩ 1 1 [.int .i64 at_, .int .i64 kd, .string id, .string who, .string by1, .string ct, .int .i64 tm, .int .i64 dt] rfl rfl (World.news_of_block (heap_alloc_new _ _)) (one8e rfl rfl rfl rfl rfl rfl rfl rfl) (by unfold maxLen; omega) (by omega) (by simp; omega) ?_; intro v' w11 hown' hgrow _ hblk; have hS9 := (hSf.alloc _).append hown' hgrow hblk; obtain ⟨A8, c8, hv8⟩ := own_form hown'; subst hv8; clear hown' hgrow hblk))
        have hS10 := hS9.drop 1 rfl rfl
        have hrl : w11.rangeLeft m1 r = cnt2 := (show RngS w11 _ m1 r n _ _ cnt2 from hS10.nth 1 rfl).left
        go_roundw
        case rel => exact ⟨A8, c8, seen ++ [s], cnt2, ys ++ [⟨at_, kd, id, who, by1, ct, tm, dt⟩], by rw [List.length_append]; rfl, HY2, HSN2, by rw [bev_snoc, List.length_append]; exact hS10⟩
        case measure => rw [hrl]; exact HLT.out
end Go.Proofs.YtebaaoacmmhppaaGreat
/-
  splitref2.onBoard by its contract.
-/
namespace Go.Proofs.YtebaaoacmmhppaaGreat
open Go Go.RowKit Go.Sort
attribute [local go_sem ↓] Go.wp_at_zero Go.wp_at_succ

set_option maxRecDepth 100000 in
set_option maxHeartbeats 4000000 in
theorem onBoardR_calls (b : Nat) (A : Option Addr) (n c : Nat) (l : List Bev) (u : Int) (cat : ByteArray) (w : World) (hr : Rd w b 8 (.slice A n c) n (l.flatMap bevC)) (hk : ∀ x ∈ l, EvK x) (hn : n ≤ 3000) :
    Calls Tryz.prog 60 #[.slice A n c, .string cat, .int .i64 u] w (BdO (folE l u).1 cat w) := by
  obtain ⟨hl, _, _, _⟩ := hr.cells bevC_len (by omega)
  have hz : (folE l u).1.rn.length ≤ 3000 := by
    have h := (fol_cnt l u l.length (Nat.le_refl _)).1
    rw [List.take_length] at h
    omega
  have hS0 := (Sq.start w).add #[.string cat] 9
  have HA := Lib.hid (siteAt_calls b A n c l u _ (hS0.rd hr) hk hn)
  have HS0 := Lib.hid hS0
  have HZ := Lib.hid hz
  obtain ⟨D, hD⟩ : ∃ D, (folE l u).1 = D := ⟨_, rfl⟩
  rw [hD] at HZ ⊢
  have HD := Lib.hid hD
  clear hS0 hr hk hl hz hD
  go_enter Tryz.func60, Tryz.ntmps60
  go_wp2_with fail
  refine HA.out.mono ?_
  rintro e w2 ⟨gs, m1, m2, m3, n1, n2, n3, V, rfl, hK, h1, h2, h3, hS2⟩
  rw [HD.out] at hK hS2
  have hS3 := (HS0.out.merge hS2).add #[.pointer (some ⟨gs, 0, none⟩)] 111
  have hS4 := (((((hS3.drop 5 rfl rfl).front 5 rfl rfl).front 5 rfl rfl).front 5 rfl rfl).front 5 rfl rfl).front 5 rfl rfl
  have HC := Lib.hid (chosenB_calls gs m1 m2 m3 n1 n2 n3 w.heap.size w2.heap.size V D cat w _ hK HZ.out hS4)
  clear HA hS2 hS3 hS4 h1 h2 h3 hK HD HZ HS0
  go_wp2_with fail
  refine HC.out.mono ?_
  rintro e w3 ⟨A5, c5, ys, rfl, hY, hS5⟩
  have HF : Hid (BdO D cat w (.returned (.slice A5 ys.length c5)) w3) := Lib.hid ⟨A5, c5, ys, rfl, hY, hS5⟩
  obtain ⟨q, hq⟩ : ∃ q, ys.length = q := ⟨_, rfl⟩
  rw [hq] at HF ⊢
  clear hS5 hY HC hq
  go_wp2_with fail
  go_ret
  exact HF.out
end Go.Proofs.YtebaaoacmmhppaaGreat
/-
  slices.ContainsFunc of events at the closure of splitref2.BoardOf, by a contract. (Printed by gen_btc.py.)
-/
namespace Go.Proofs.YtebaaoacmmhppaaGreat
open Go Go.RowKit

set_option maxRecDepth 100000 in
theorem hasE1_calls (gb : Nat) (r x : Bev) (w : World) (hg : Blk w gb 62 #[.int .i64 r.at_, .int .i64 r.kind, .string r.id, .string r.who, .string r.by_, .string r.cat, .int .i64 r.time, .int .i64 r.date]) :
    Calls Tryz.prog 62 #[.agg #[.int .i64 x.at_, .int .i64 x.kind, .string x.id, .string x.who, .string x.by_, .string x.cat, .int .i64 x.time, .int .i64 x.date], .pointer (some ⟨gb, 0, none⟩)] w (BRet (.bool (x.who.toList == r.who.toList)) w) := by
  have hb : Below w.heap.size w (w.alloc (.cells #[.int .i64 x.at_, .int .i64 x.kind, .string x.id, .string x.who, .string x.by_, .string x.cat, .int .i64 x.time, .int .i64 x.date] 62)) := (Below.refl _ _).alloc (Nat.le_refl _) _
  have g3 := hg.cell 3
  have gl := hg.lt
  clear hg
  go_enter Tryz.func62, Tryz.ntmps62
  go_wp2_with fail
  go_ret
  exact ⟨rfl, hb⟩
set_option maxRecDepth 100000 in
theorem hasE_calls (b gb : Nat) (r : Bev) (A2 : Option Addr) (m c2 : Nat) (hs : List Bev) (w : World) (hg : Blk w gb 62 #[.int .i64 r.at_, .int .i64 r.kind, .string r.id, .string r.who, .string r.by_, .string r.cat, .int .i64 r.time, .int .i64 r.date]) (hr2 : Rd w b 8 (.slice A2 m c2) m (hs.flatMap bevC)) :
    Calls Tryz.prog 61 #[.slice A2 m c2, .func (.func 62) #[] #[.pointer (some ⟨gb, 0, none⟩)]] w (BRet (.bool (hs.any (fun x : Bev => x.who.toList == r.who.toList))) w) := by
  obtain ⟨hl, hnc, hcm, hcells⟩ := hr2.cells bevC_len (by omega)
  unfold maxLen at hcm
  have HB : Hid (hs.any (fun x : Bev => x.who.toList == r.who.toList) = hs.any (fun x : Bev => x.who.toList == r.who.toList)) := rfl
  rw [HB.out]
  obtain ⟨p, hpp⟩ : ∃ p : Bev → Bool, (fun x : Bev => x.who.toList == r.who.toList) = p := ⟨_, rfl⟩
  have HCC : Hid (∀ W (x : Bev), Below w.heap.size w W → Calls Tryz.prog 62 #[.agg #[.int .i64 x.at_, .int .i64 x.kind, .string x.id, .string x.who, .string x.by_, .string x.cat, .int .i64 x.time, .int .i64 x.date], .pointer (some ⟨gb, 0, none⟩)] W (BRet (.bool (p x)) W)) := fun W x hW => by
    rw [← hpp]
    exact hasE1_calls gb r x W (hg.below hW)
  have HL := Lib.hid hl
  have HCL := Lib.hid hcells
  rw [hpp]
  have HM := Lib.hid (ixOf_mem p hs)
  clear hcells hl hr2 hg hpp HB
  go_enter Tryz.func61, Tryz.ntmps61
  go_wp2
  go_loopw [8] (fun i wr => ∃ k : Nat, k ≤ m ∧ i = .int .i64 k ∧ Hid (∀ i (_ : i < k) (hi' : i < hs.length), p hs[i] = false) ∧ Below w.heap.size w wr) (fun i _ => m - (intOf i).toNat)
  case atStart => exact ⟨0, Nat.zero_le _, rfl, (fun i hi => absurd hi (by omega)), Below.refl _ _⟩
  case round =>
    obtain ⟨k, hk, rfl, HF, hbr⟩ := hrel
    by_cases hlt : k < m
    · have hkr : k < hs.length := by rw [HL.out]; exact hlt
      obtain ⟨g, o, hA, _, hcs⟩ := HCL.out (by omega)
      subst hA
      have c0 := below_cell hbr (hcs k hkr 0 (by omega))
      have c1 := below_cell hbr (hcs k hkr 1 (by omega))
      have c2 := below_cell hbr (hcs k hkr 2 (by omega))
      have c3 := below_cell hbr (hcs k hkr 3 (by omega))
      have c4 := below_cell hbr (hcs k hkr 4 (by omega))
      have c5 := below_cell hbr (hcs k hkr 5 (by omega))
      have c6 := below_cell hbr (hcs k hkr 6 (by omega))
      have c7 := below_cell hbr (hcs k hkr 7 (by omega))
      obtain ⟨s, hs'⟩ : ∃ s, hs[k] = s := ⟨_, rfl⟩
      rw [hs'] at c0 c1 c2 c3 c4 c5 c6 c7
      replace c0 : wr.cell? ⟨g, o + k * 8, none⟩ = some (.int .i64 s.at_) := c0
      replace c1 : wr.cell? ⟨g, o + k * 8 + 1, none⟩ = some (.int .i64 s.kind) := c1
      replace c2 : wr.cell? ⟨g, o + k * 8 + 2, none⟩ = some (.string s.id) := c2
      replace c3 : wr.cell? ⟨g, o + k * 8 + 3, none⟩ = some (.string s.who) := c3
      replace c4 : wr.cell? ⟨g, o + k * 8 + 4, none⟩ = some (.string s.by_) := c4
      replace c5 : wr.cell? ⟨g, o + k * 8 + 5, none⟩ = some (.string s.cat) := c5
      replace c6 : wr.cell? ⟨g, o + k * 8 + 6, none⟩ = some (.int .i64 s.time) := c6
      replace c7 : wr.cell? ⟨g, o + k * 8 + 7, none⟩ = some (.int .i64 s.date) := c7
      have HK := Lib.hid (HCC.out wr s hbr)
      clear hcs
      cases hp : p s
      · rw [hp] at HK
        have HF2 : Hid (∀ i (_ : i < k + 1) (hi' : i < hs.length), p hs[i] = false) := by
          intro i hi hi'
          by_cases hik : i = k
          · subst hik; rw [hs']; exact hp
          · exact HF.out i (by omega) hi'
        clear hp hs'
        go_wp2_with (go_at_call 62; refine HK.out.mono ?_; rintro e w2 ⟨rfl, hb2⟩)
        have hb3 := below_call hbr hb2 (Nat.le_refl _)
        go_roundw
        case rel => exact ⟨k + 1, by omega, by go_num, HF2, hb3⟩
        case measure => simp [intOf]; omega
      · rw [hp] at HK
        have HR : Hid (ixOf p hs = k) := ixOf_at _ hs k hkr (fun i hi => HF.out i hi (by omega)) (by rw [hs']; exact hp)
        have HA : Hid (hs.any p = true) := by
          have := HM.out
          rw [HR.out] at this
          rw [← this]
          exact Lib.hid (decide_eq_true (by omega))
        clear hp hs'
        go_wp2_with (go_at_call 62; refine HK.out.mono ?_; rintro e w2 ⟨rfl, hb2⟩)
        have hb3 := below_call hbr hb2 (Nat.le_refl _)
        go_ret
        exact ⟨ret_bool HA.out.symm, hb3⟩
    · obtain rfl : k = m := by omega
      have HR : Hid (ixOf p hs = -1) := ixOf_no _ hs (fun i hi => HF.out i (by rw [← HL.out]; exact hi) hi)
      have HA : Hid (hs.any p = false) := by
        have := HM.out
        rw [HR.out] at this
        rw [← this]
        exact Lib.hid rfl
      go_wp2
      go_ret
      exact ⟨ret_bool HA.out.symm, hbr⟩
end Go.Proofs.YtebaaoacmmhppaaGreat
/-
  The first elements of a list of structs. No Go text is named here.
-/
namespace Go.Proofs.YtebaaoacmmhppaaGreat
open Go Go.RowKit

theorem take_flat {α : Type} (f : α → List Value) (k : Nat) (hf : ∀ a, (f a).length = k) : ∀ (rs : List α) (m : Nat), (rs.take m).flatMap f = (rs.flatMap f).take (m * k)
  | [], m => by simp
  | r :: rs, 0 => by simp
  | r :: rs, m + 1 => by
    simp only [List.take_succ_cons, List.flatMap_cons, take_flat f k hf rs m]
    rw [List.take_append, hf, List.take_of_length_le (l := f r) (by rw [hf, Nat.add_mul]; omega), show (m + 1) * k - k = m * k by rw [Nat.add_mul]; omega]
theorem Rd.takeF {α : Type} {w : World} {b k n c : Nat} {A : Option Addr} {f : α → List Value} {rs : List α} (h : Rd w b k (.slice A n c) n (rs.flatMap f)) (hf : ∀ a, (f a).length = k) (m : Nat) (hm : m ≤ n) :
    Rd w b k (.slice A m c) m ((rs.take m).flatMap f) := by
  obtain ⟨A', c', e1, e2, e3, e4, e5, e6⟩ := h
  injection e1 with ea eb ec
  subst ea ec
  rw [take_flat f k hf]
  refine ⟨A, c, rfl, by omega, e3, by rw [List.length_take, e4]; exact Nat.min_eq_left (Nat.mul_le_mul_right _ hm), fun h => ⟨by have := (e5 h).1; omega, (e5 h).2⟩, fun hn => ?_⟩
  obtain ⟨g, o, f1, f2, f3⟩ := e6 (by omega)
  refine ⟨g, o, f1, f2, fun j u hu => f3 j u ?_⟩
  rw [List.getElem?_take] at hu
  split at hu
  · exact hu
  · cases hu

end Go.Proofs.YtebaaoacmmhppaaGreat
/-
  splitref2.BoardOf by its contract: the rows of a board.
-/
namespace Go.Proofs.YtebaaoacmmhppaaGreat
open Go Go.RowKit Go.Sort
attribute [local go_sem ↓] Go.wp_at_zero Go.wp_at_succ

/-- a board's rows in new memory -/
def RwO (D : Dsk) (cat : ByteArray) (w : World) (e : Ending) (w' : World) : Prop :=
  ∃ (A : Option Addr) (c : Nat) (ys : List Bev), SbdR D cat ys ∧ e = .returned (.slice A (rowsB ys).length c) ∧ Sq w w' [rOwn w.heap.size 37 5 (.slice A (rowsB ys).length c) (rowsB ys).length ((rowsB ys).flatMap brwC)]
theorem who_any (l : List Bev) (s : ByteArray) : l.any (fun x : Bev => x.who.toList == s.toList) = l.any (fun o => decide (o.who = s)) := by
  congr 1
  funext x
  exact eqS_decB x.who s
theorem bst_step (ys : List Bev) (k : Nat) (hk : k < ys.length) {O : List Bev} (h : bstW (ys.take k) = O) {B : Bool} (hB : (ys.take k).any (fun x : Bev => x.who.toList == ys[k].who.toList) = B) :
    bstW (ys.take (k + 1)) = if B = true then O else O ++ [ys[k]] := by
  rw [who_any, ← bstW_who, h] at hB
  rw [List.take_succ_eq_append_getElem hk]
  have e : bstW (ys.take k ++ [ys[k]]) = stW (bstW (ys.take k)) ys[k] := by unfold bstW; rw [List.foldl_append]; rfl
  rw [e, h]
  unfold stW
  rw [hB]
theorem rkT_step (O : List Bev) (j : Nat) (hj : j < O.length) (t : Int) : rkT (O.take (j + 1)) t = rkT (O.take j) t + (if O[j].time < t then 1 else 0) := by
  unfold rkT
  rw [List.take_succ_eq_append_getElem hj, List.filter_append, List.length_append]
  by_cases h : O[j].time < t
  · rw [if_pos h, List.filter_cons_of_pos (by simpa using h)]
    simp
    omega
  · rw [if_neg h, List.filter_cons_of_neg (by simpa using h)]
    simp
set_option maxRecDepth 100000 in
set_option maxHeartbeats 8000000 in
theorem boardOf_calls (b : Nat) (A : Option Addr) (n c : Nat) (l : List Bev) (u : Int) (cat : ByteArray) (w : World) (hb : b < w.heap.size) (hr : Rd w b 8 (.slice A n c) n (l.flatMap bevC)) (hk : ∀ x ∈ l, EvK x) (hn : n ≤ 3000) :
    Calls Tryz.prog 19 #[.slice A n c, .string cat, .int .i64 u] w (RwO (folE l u).1 cat w) := by
  obtain ⟨hl, _, _, _⟩ := hr.cells bevC_len (by omega)
  have hz : (folE l u).1.rn.length ≤ 3000 := by
    have h := (fol_cnt l u l.length (Nat.le_refl _)).1
    rw [List.take_length] at h
    omega
  obtain ⟨i0, hi, hz0, hz1, hz2⟩ := info_parts info_bev
  obtain ⟨j0, hj, hy0, hy1, hy2⟩ := info_parts info_row
  have HO := Lib.hid (onBoardR_calls b A n c l u cat w hr hk hn)
  obtain ⟨D, hD⟩ : ∃ D, (folE l u).1 = D := ⟨_, rfl⟩
  rw [hD] at HO hz ⊢
  have HZ := Lib.hid hz
  clear hr hk hl hz hD hn
  go_enter Tryz.func19, Tryz.ntmps19
  go_wp2_with fail
  refine HO.out.mono ?_
  rintro e w2 ⟨A5, c5, ys, rfl, hY, hS2⟩
  have HY := Lib.hid hY
  obtain ⟨m, hm⟩ : ∃ m, ys.length = m := ⟨_, rfl⟩
  have hS3 := hS2.nil w.heap.size 62 8
  rw [hm] at hS3 ⊢
  have HM := Lib.hid hm
  have HAP : Hid (0 < m → ∃ gP, A5 = some ⟨gP, 0, none⟩) := Lib.hid (fun h0 => by
    have hown : w2.ownsRow w.heap.size 62 8 (.slice A5 m c5) m (ys.flatMap bevC) := hS3.nth 1 rfl
    rcases hown.2 with ⟨he, hx⟩ | ⟨g, cap, cur, he, _⟩
    · exact absurd (by injection he) (by omega : ¬ m = 0)
    · injection he with he; exact ⟨g, he⟩)
  have HMZ : Hid (m ≤ 3000) := Lib.hid (by
    have h := HY.out.1.length_eq
    rw [hm] at h
    have h2 : (brd D cat).length ≤ D.rn.length := by unfold brd; rw [List.length_map]; exact List.length_filter_le _ _
    have := HZ.out
    omega)
  clear hS2 hY HO hm
  go_wp2_with fail
  go_loopw [8, 23] (fun s8 s23 wr => ∃ (k : Nat) (A : Option Addr) (c : Nat) (O : List Bev), k ≤ m ∧ s23 = .int .i64 k ∧ O.length ≤ k ∧ s8 = .slice A O.length c ∧ Hid (bstW (ys.take k) = O) ∧ Sq w wr [rOwn w.heap.size 62 8 (.slice A O.length c) O.length (O.flatMap bevC), rOwn w.heap.size 62 8 (.slice A5 m c5) m (ys.flatMap bevC)]) (fun _ s23 _ => m - (intOf s23).toNat)
  case atStart => exact ⟨0, none, 0, [], Nat.zero_le _, rfl, Nat.le_refl _, rfl, Lib.hid rfl, hS3⟩
  case round =>
    clear hS3
    obtain ⟨k, A, c, O, hk, rfl, hO, rfl, HB, hS⟩ := hrel
    obtain ⟨wo, hwo⟩ : ∃ z, z = wr := ⟨_, rfl⟩
    subst hwo
    have hmz := HMZ.out
    by_cases hlt : k < m
    · obtain ⟨gP, hgP⟩ := HAP.out (by omega)
      subst hgP
      have hkp : k < ys.length := by rw [HM.out]; exact hlt
      have hown : wo.ownsRow w.heap.size 62 8 (.slice (some ⟨gP, 0, none⟩) m c5) m (ys.flatMap bevC) := hS.nth 1 rfl
      obtain ⟨a0, a1, a2, a3, a4, a5, a6, a7⟩ := ev_cells hown k hkp hlt
      have hrd : Rd wo b 8 (.slice (some ⟨gP, 0, none⟩) k c5) k ((ys.take k).flatMap bevC) := (Rd.own hown hb).takeF bevC_len k (by omega)
      have hcp : m ≤ c5 := by
        rcases hown.2 with ⟨he, hx⟩ | ⟨g, cap, cur, he, _, _, h1, _⟩
        · cases he
        · injection he with _ _ he; omega
      obtain ⟨B, hBe⟩ : ∃ B, (ys.take k).any (fun x : Bev => x.who.toList == ys[k].who.toList) = B := ⟨_, rfl⟩
      have HST := Lib.hid (bst_step ys k hkp HB.out hBe)
      obtain ⟨⟨at_, kd, id, who, by1, ct, tm, dt⟩, hx⟩ : ∃ x, ys[k] = x := ⟨_, rfl⟩
      rw [hx] at a0 a1 a2 a3 a4 a5 a6 a7 HST hBe
      simp only at a0 a1 a2 a3 a4 a5 a6 a7 hBe
      have hSE := hS.add #[.int .i64 at_, .int .i64 kd, .string id, .string who, .string by1, .string ct, .int .i64 tm, .int .i64 dt] 62
      obtain ⟨WE, hWE⟩ : ∃ W, W = wo.alloc (.cells #[.int .i64 at_, .int .i64 kd, .string id, .string who, .string by1, .string ct, .int .i64 tm, .int .i64 dt] 62) := ⟨_, rfl⟩
      have hrd2 : Rd WE b 8 (.slice (some ⟨gP, 0, none⟩) k c5) k ((ys.take k).flatMap bevC) := by rw [hWE]; exact hrd.below ((Below.refl _ _).alloc (Nat.le_refl _) _)
      rw [← hWE] at hSE
      have HC := Lib.hid (hasE_calls b wo.heap.size ⟨at_, kd, id, who, by1, ct, tm, dt⟩ (some ⟨gP, 0, none⟩) k c5 (ys.take k) WE hSE.head hrd2)
      rw [hBe] at HC
      clear hS hx hBe hrd hrd2 hown HB hkp
      have hk0 : (0 : Int) ≤ (k : Int) := by omega
      have hk1 : (k : Int) ≤ (m : Int) := by omega
      have hk2 : (k : Int) < (m : Int) := by omega
      have hk3 : (k : Int) ≤ (c5 : Int) := by omega
      go_wp2_with fail
      rw [← hWE]
      refine HC.out.mono ?_
      rintro e w5 ⟨rfl, hb5⟩
      obtain ⟨E, hE⟩ : ∃ E, E = wo.heap.size := ⟨_, rfl⟩
      rw [← hE] at hSE ⊢
      have hS5 := hSE.callB hb5
      clear HC hSE hb5 hWE hE a0 a1 a2 a3 a4 a5 a6 a7
      cases B
      · rw [if_neg (by decide)] at HST
        have bE : Blk w5 E _ _ := hS5.head
        have e0 := bE.cell 0
        have e1 := bE.cell 1
        have e2 := bE.cell 2
        have e3 := bE.cell 3
        have e4 := bE.cell 4
        have e5 := bE.cell 5
        have e6 := bE.cell 6
        have e7 := bE.cell 7
        have hSf := hS5.front 1 rfl rfl
        have HO5 : w5.ownsRow w.heap.size 62 8 (.slice A O.length c) O.length (O.flatMap bevC) := hSf.head
        have hsz := hSf.size
        clear bE hS5
        go_wp2_with (first
          | (at_builtin; refine wpList_append_own_at _ rfl _ _ 26 rfl w.heap.size 62 i0 (.agg #[.int .i64 0, .int .i64 0, .string ⟨#[]⟩, .string ⟨#[]⟩, .string ⟨#[]⟩, .string ⟨#[]⟩, .int .i64 0, .int .i64 0]) 8 96 Tryz.underlying26 hi hz0 hz1 hz2 rfl (by decide) _ _ _ rfl (HO5.alloc _) ⟨w5.heap.size, 0, none⟩ 1 1 [.int .i64 at_, .int .i64 kd, .string id, .string who, .string by1, .string ct, .int .i64 tm, .int .i64 dt] rfl rfl (World.news_of_block (heap_alloc_new _ _)) (one8e rfl rfl rfl rfl rfl rfl rfl rfl) (by unfold maxLen; omega) (by omega) (by simp; omega) ?_; intro v' w11 hown' hgrow _ hblk; have hS9 := (hSf.alloc _).append hown' hgrow hblk; obtain ⟨A8, c8, hv8⟩ := own_form hown'; subst hv8; clear hown' hgrow hblk))
        have hS10 := hS9.drop 1 rfl rfl
        go_roundw
        case rel => exact ⟨k + 1, A8, c8, O ++ [⟨at_, kd, id, who, by1, ct, tm, dt⟩], by omega, by go_num, by rw [List.length_append]; simp; omega, by rw [List.length_append]; rfl, HST, by rw [bev_snoc, List.length_append]; exact hS10⟩
        case measure => simp [intOf]; omega
      · rw [if_pos rfl] at HST
        have hS6 := hS5.drop 0 rfl rfl
        clear hS5
        go_wp2_with fail
        go_roundw
        case rel => exact ⟨k + 1, A, c, O, by omega, by go_num, by omega, rfl, HST, hS6⟩
        case measure => simp [intOf]; omega
    · obtain rfl : k = m := by omega
      have HBB : Hid (bstW ys = O) := Lib.hid (by
        have h := HB.out
        rwa [List.take_of_length_le (by rw [HM.out]; exact Nat.le_refl _)] at h)
      have hS4 := (hS.drop 1 rfl rfl).nil w.heap.size 37 5
      obtain ⟨q, hq⟩ : ∃ q, O.length = q := ⟨_, rfl⟩
      rw [hq] at hS4 hO ⊢
      have HQ := Lib.hid hq
      have HAO : Hid (0 < q → ∃ gO, A = some ⟨gO, 0, none⟩) := Lib.hid (fun h0 => by
        have hown : wo.ownsRow w.heap.size 62 8 (.slice A q c) q (O.flatMap bevC) := hS4.nth 1 rfl
        rcases hown.2 with ⟨he, hx⟩ | ⟨g, cap, cur, he, _⟩
        · exact absurd (by injection he) (by omega : ¬ q = 0)
        · injection he with he; exact ⟨g, he⟩)
      have hqz : q ≤ 3000 := by omega
      clear hS HB hlt hk hq hO HAP HMZ hmz
      go_wp2_with fail
      go_loopw [11, 41] (fun s11 s41 wr => ∃ (k : Nat) (A' : Option Addr) (c' : Nat), k ≤ q ∧ s41 = .int .i64 k ∧ s11 = .slice A' k c' ∧ Sq w wr [rOwn w.heap.size 37 5 (.slice A' k c') k (((O.take k).map (rowOf O)).flatMap brwC), rOwn w.heap.size 62 8 (.slice A q c) q (O.flatMap bevC)]) (fun _ s41 _ => q - (intOf s41).toNat)
      case atStart => exact ⟨0, none, 0, Nat.zero_le _, rfl, rfl, hS4⟩
      case round =>
        clear hS4
        obtain ⟨k, A', c', hk, rfl, rfl, hS⟩ := hrel
        obtain ⟨wp, hwp⟩ : ∃ z, z = wr := ⟨_, rfl⟩
        subst hwp
        by_cases hlt : k < q
        · obtain ⟨gO, hgO⟩ := HAO.out (by omega)
          subst hgO
          have hkp : k < O.length := by rw [HQ.out]; exact hlt
          have hown : wp.ownsRow w.heap.size 62 8 (.slice (some ⟨gO, 0, none⟩) q c) q (O.flatMap bevC) := hS.nth 1 rfl
          obtain ⟨a0, a1, a2, a3, a4, a5, a6, a7⟩ := ev_cells hown k hkp hlt
          have HTK : Hid ((O.take (k + 1)).map (rowOf O) = (O.take k).map (rowOf O) ++ [rowOf O O[k]]) := Lib.hid (by
            rw [List.take_succ_eq_append_getElem hkp, List.map_append]
            rfl)
          obtain ⟨⟨at_, kd, id, who, by1, ct, tm, dt⟩, hx⟩ : ∃ x, O[k] = x := ⟨_, rfl⟩
          rw [hx] at a0 a1 a2 a3 a4 a5 a6 a7 HTK
          simp only at a0 a1 a2 a3 a4 a5 a6 a7
          obtain ⟨W7, h7, hS7⟩ : ∃ W, W = (wp.alloc (.cells #[.int .i64 at_, .int .i64 kd, .string id, .string who, .string by1, .string ct, .int .i64 tm, .int .i64 dt] 62)).alloc (.cells #[.int .i64 1, .int .i64 tm, .string id, .string who, .int .i64 dt] 37) ∧ Sq w W (rBlk (wp.heap.size + 1) 37 #[.int .i64 1, .int .i64 tm, .string id, .string who, .int .i64 dt] :: rBlk wp.heap.size 62 #[.int .i64 at_, .int .i64 kd, .string id, .string who, .string by1, .string ct, .int .i64 tm, .int .i64 dt] :: [rOwn w.heap.size 37 5 (.slice A' k c') k (((O.take k).map (rowOf O)).flatMap brwC), rOwn w.heap.size 62 8 (.slice (some ⟨gO, 0, none⟩) q c) q (O.flatMap bevC)]) := ⟨_, rfl, by
            have h := (hS.add #[.int .i64 at_, .int .i64 kd, .string id, .string who, .string by1, .string ct, .int .i64 tm, .int .i64 dt] 62).add #[.int .i64 1, .int .i64 tm, .string id, .string who, .int .i64 dt] 37
            rw [World.size_alloc] at h
            exact h⟩
          clear hS hx hown hkp
          have hk0 : (0 : Int) ≤ (k : Int) := by omega
          have hk2 : (k : Int) < (q : Int) := by omega
          go_wp2_with fail
          rw [← h7]
          obtain ⟨gE, hgE⟩ : ∃ z, z = wp.heap.size := ⟨_, rfl⟩
          rw [← hgE] at hS7 ⊢
          obtain ⟨gW, hgW⟩ : ∃ z, z = gE + 1 := ⟨_, rfl⟩
          rw [← hgW] at hS7 ⊢
          clear h7 hgE hgW a0 a1 a2 a3 a4 a5 a6 a7
          go_loopw [56] (fun s56 wr => ∃ (j : Nat) (RK : Int), j ≤ q ∧ s56 = .int .i64 j ∧ Hid (rkT (O.take j) tm = RK) ∧ 1 ≤ RK ∧ RK ≤ 1 + (j : Int) ∧ Sq w wr (rBlk gW 37 #[.int .i64 RK, .int .i64 tm, .string id, .string who, .int .i64 dt] :: rBlk gE 62 #[.int .i64 at_, .int .i64 kd, .string id, .string who, .string by1, .string ct, .int .i64 tm, .int .i64 dt] :: [rOwn w.heap.size 37 5 (.slice A' k c') k (((O.take k).map (rowOf O)).flatMap brwC), rOwn w.heap.size 62 8 (.slice (some ⟨gO, 0, none⟩) q c) q (O.flatMap bevC)])) (fun s56 _ => q - (intOf s56).toNat)
          case atStart => exact ⟨0, 1, Nat.zero_le _, rfl, Lib.hid rfl, by omega, by omega, hS7⟩
          case round =>
            clear hS7
            obtain ⟨j, RK, hj2, rfl, HRK, hr1, hr2, hS⟩ := hrel
            obtain ⟨wq, hwq⟩ : ∃ z, z = wr := ⟨_, rfl⟩
            subst hwq
            by_cases hlt2 : j < q
            · have hjp : j < O.length := by rw [HQ.out]; exact hlt2
              have hown : wq.ownsRow w.heap.size 62 8 (.slice (some ⟨gO, 0, none⟩) q c) q (O.flatMap bevC) := hS.nth 3 rfl
              obtain ⟨a0, a1, a2, a3, a4, a5, a6, a7⟩ := ev_cells hown j hjp hlt2
              have HSP := Lib.hid (rkT_step O j hjp tm)
              obtain ⟨⟨xa, xk, xi, xw, xb, xc, xt, xd⟩, hx⟩ : ∃ x, O[j] = x := ⟨_, rfl⟩
              rw [hx] at a0 a1 a2 a3 a4 a5 a6 a7 HSP
              rw [HRK.out] at HSP
              simp only at a0 a1 a2 a3 a4 a5 a6 a7 HSP
              have hSA := hS.add #[.int .i64 xa, .int .i64 xk, .string xi, .string xw, .string xb, .string xc, .int .i64 xt, .int .i64 xd] 62
              have bE := (hSA.nth 2 rfl : Blk _ gE _ _).cell 6
              have bW := (hSA.nth 1 rfl : Blk _ gW _ _).cell 0
              have fW := (hSA.nth 1 rfl : Blk _ gW _ _).frozen 0
              have hS8 := (hSA.drop 0 rfl rfl)
              have hS9 := hS8.set_ 0 (.int .i64 (RK + 1))
              have hj0 : (0 : Int) ≤ (j : Int) := by omega
              have hj1 : (j : Int) < (q : Int) := by omega
              clear hS hx hown hjp hSA
              by_cases hc : xt < tm
              · rw [if_pos hc] at HSP
                clear hS8
                go_wp2_with fail
                go_roundw
                case rel => exact ⟨j + 1, RK + 1, by omega, by go_num, HSP, by omega, by omega, hS9⟩
                case measure => simp [intOf]; omega
              · rw [if_neg hc, Int.add_zero] at HSP
                clear hS9
                go_wp2_with fail
                go_roundw
                case rel => exact ⟨j + 1, RK, by omega, by go_num, HSP, by omega, by omega, hS8⟩
                case measure => simp [intOf]; omega
            · obtain rfl : j = q := by omega
              have HR : Hid (rowOf O ⟨at_, kd, id, who, by1, ct, tm, dt⟩ = ⟨RK, tm, id, who, dt⟩) := Lib.hid (by
                have h := HRK.out
                rw [List.take_of_length_le (by rw [HQ.out]; exact Nat.le_refl _)] at h
                unfold rowOf
                rw [h])
              have bW : Blk wq gW _ _ := hS.head
              have w0_ := bW.cell 0
              have w1_ := bW.cell 1
              have w2_ := bW.cell 2
              have w3_ := bW.cell 3
              have w4_ := bW.cell 4
              have hSf := hS.front 2 rfl rfl
              have HO5 : wq.ownsRow w.heap.size 37 5 (.slice A' k c') k (((O.take k).map (rowOf O)).flatMap brwC) := hSf.head
              have hsz := hSf.size
              clear bW hS HRK
              go_wp2_with (first
                | (at_builtin; refine wpList_append_own_at _ rfl _ _ 32 rfl w.heap.size 37 j0 (.agg #[.int .i64 0, .int .i64 0, .string ⟨#[]⟩, .string ⟨#[]⟩, .int .i64 0]) 5 56 Tryz.underlying32 hj hy0 hy1 hy2 rfl (by decide) _ _ _ rfl (HO5.alloc _) ⟨wq.heap.size, 0, none⟩ 1 1 [.int .i64 RK, .int .i64 tm, .string id, .string who, .int .i64 dt] rfl rfl (World.news_of_block (heap_alloc_new _ _)) (by intro u hu; simp only [List.mem_cons, List.not_mem_nil, or_false] at hu; rcases hu with rfl | rfl | rfl | rfl | rfl <;> rfl) (by unfold maxLen; omega) (by omega) (by simp; omega) ?_; intro v' w11 hown' hgrow _ hblk; have hS9 := (hSf.alloc _).append hown' hgrow hblk; obtain ⟨A8, c8, hv8⟩ := own_form hown'; subst hv8; clear hown' hgrow hblk))
              have hS10 := (hS9.drop 2 rfl rfl).drop 1 rfl rfl
              go_roundw
              case rel => exact ⟨k + 1, A8, c8, by omega, by go_num, rfl, by
                rw [HTK.out, HR.out, List.flatMap_append]
                exact hS10⟩
              case measure => simp [intOf]; omega
        · obtain rfl : k = q := by omega
          have HF : Hid (RwO D cat w (.returned (.slice A' k c')) wp) := Lib.hid (by
            have e : (O.take k).map (rowOf O) = rowsB ys := by
              rw [List.take_of_length_le (by rw [HQ.out]; exact Nat.le_refl _), ← HBB.out]
              rfl
            have el : (rowsB ys).length = k := by
              rw [← e, List.length_map, List.length_take, HQ.out]
              exact Nat.min_eq_left (Nat.le_refl _)
            refine ⟨A', c', ys, HY.out, by rw [el], ?_⟩
            rw [el, ← e]
            exact hS.drop 1 rfl rfl)
          clear hS
          go_wp2_with fail
          go_ret
          exact HF.out
end Go.Proofs.YtebaaoacmmhppaaGreat
