/-
  board.follow with at's closure, and board.at: the desk behind the events up to a moment.
-/
import Derived.Test.YtapgnaimbgjcnaaGreatDoorZDk4
import Derived.Test.YtapgnaimbgjcnaaGreatDoorZTk
import Derived.Test.YtapgnaimbgjcnaaGreatDoorZSortRun0
import Derived.Test.YtapgnaimbgjcnaaGreatDoorZSlot3
import Derived.Deep.RegionHeld3
import Derived.RegionTactic
import Derived.Deep.DeepCutAuto
import Derived.Deep.CutBlock
import Derived.Test.YtapgnaimbgjcnaaGreatDoorZFlat
import Derived.Test.YtapgnaimbgjcnaaGreatDoorZScmp
namespace Go.Proofs.YtapgnaimbgjcnaaGreatDoor
open Go Go.RowKit
attribute [local go_sem ↓] Go.wp_at_zero Go.wp_at_succ
set_option maxRecDepth 100000 in
theorem told_calls (i : Int) (ok : Bool) (w : World) : Calls Tryz.prog 132 #[.int .i64 i, .bool ok] w (fun e w' => e = .returned (.tuple #[]) ∧ w = w') := by
 go_enter Tryz.func132, Tryz.ntmps132
 go_wp2_with fail
 go_end0
 exact ⟨rfl, rfl⟩
theorem rMap_moreE {w W : World} {l : List Rsc} {kt : TypeId} {g n n' : Nat} {f : ByteArray → Option Value} (h : Sq w W (rMap kt g n f :: l)) (hn : n ≤ n') : Sq w W (rMap kt g n' f :: l) :=
 h.mapSet (MapS.mono (show MapS W kt g n f from h.head) hn) ⟨rfl, rfl, rfl, Nat.le_refl _, fun _ _ _ => rfl⟩
def AtD (l : List Bev) (u : Int) (w : World) (e : Ending) (w' : World) : Prop :=
 ∃ (gd m1 m2 n1 n2 : Nat) (L : List Rpt), e = .returned (.pointer (some ⟨gd, 0, none⟩)) ∧ LD L (folE l u).1 ∧ KD (folE l u).1 ∧ n1 ≤ l.length ∧ n2 ≤ l.length ∧ Sq w w' (dskL gd m1 n1 m2 n2 L (folE l u).1 [])
set_option maxRecDepth 100000 in
set_option maxHeartbeats 4000000 in
theorem dfollow_calls (b : Nat) (A : Option Addr) (n c : Nat) (l : List Bev) (u : Int) (w : World) (hr : Rd w b 8 (.slice A n c) n (l.flatMap bevC)) (hk : ∀ x ∈ l, EvK x) (hn : n ≤ 3000) :
 Calls Tryz.prog 83 #[.slice A n c, .int .i64 u, .func (.func 132) #[] #[]] w (AtD l u w) := by
 obtain ⟨hl, hnc, hcm, hcells⟩ := hr.cells bevC_len (by omega)
 unfold maxLen at hcm
 have HL := Lib.hid hl
 have HC := Lib.hid hcells
 have HKE := Lib.hid hk
 have hmm := @run_makeMap Tryz.prog
 obtain ⟨q, hq⟩ : ∃ q, q = w.heap.size := ⟨_, rfl⟩
 have hS0 : Sq w (((w.alloc (.map #[] 0)).alloc (.map #[] 0)).alloc (.cells #[.map (some q), .map (some (q + 1))] 183)) (dskL (q + 2) q 0 (q + 1) 0 [] dsk0 []) := by
  have h := ((((Sq.start w).addMap 9).addMap 9).add #[.map (some w.heap.size), .map (some (w.heap.size + 1))] 183).allNil rRun rRun_ok
  simp only [size1] at h
  subst hq
  exact ((h.front 2 rfl rfl).front 3 rfl rfl).front 3 rfl rfl
 clear hcells hl hr hk
 go_enter Tryz.func83, Tryz.ntmps83
 go_wp2_with fail
 clear hmm
 rw [← hq]
 obtain ⟨W0, hW0⟩ : ∃ W0, W0 = ((w.alloc (.map #[] 0)).alloc (.map #[] 0)).alloc (.cells #[.map (some q), .map (some (q + 1))] 183) := ⟨_, rfl⟩
 rw [← hW0] at hS0 ⊢
 clear hW0 hq
 go_loopw [16] (fun s16 wr => ∃ (k n1 n2 : Nat) (L : List Rpt) (D : Dsk), k ≤ n ∧ s16 = .int .i64 k ∧ n1 ≤ k ∧ n2 ≤ k ∧ Hid ((folE (l.take k) u).1 = D) ∧ Hid (LD L D) ∧ Sq w wr (dskL (q + 2) q n1 (q + 1) n2 L D [])) (fun s16 _ => n - (intOf s16).toNat)
 case atStart => exact ⟨0, 0, 0, [], dsk0, Nat.zero_le _, rfl, Nat.le_refl _, Nat.le_refl _, Lib.hid (by rw [List.take_zero]; rfl), Lib.hid ⟨rfl, List.nodup_nil⟩, hS0⟩
 case round =>
  clear hS0
  obtain ⟨k, n1, n2, L, D, hk, rfl, hn1, hn2, HF, HLD, hS⟩ := hrel
  obtain ⟨wo, hwo⟩ : ∃ z, z = wr := ⟨_, rfl⟩
  subst hwo
  by_cases hlt : k < n
  · have hkr : k < l.length := by rw [HL.out]; exact hlt
    obtain ⟨g, o, hA, _, hcs⟩ := HC.out (by omega)
    subst hA
    obtain ⟨x, hx⟩ : ∃ x, l[k] = x := ⟨_, rfl⟩
    have c0 := below_cell hS.below (hcs k hkr 0 (by omega))
    have c1 := below_cell hS.below (hcs k hkr 1 (by omega))
    have c2 := below_cell hS.below (hcs k hkr 2 (by omega))
    have c3 := below_cell hS.below (hcs k hkr 3 (by omega))
    have c4 := below_cell hS.below (hcs k hkr 4 (by omega))
    have c5 := below_cell hS.below (hcs k hkr 5 (by omega))
    have c6 := below_cell hS.below (hcs k hkr 6 (by omega))
    have c7 := below_cell hS.below (hcs k hkr 7 (by omega))
    rw [hx] at c0 c1 c2 c3 c4 c5 c6 c7
    have hxk : EvK x := by rw [← hx]; exact HKE.out _ (List.getElem_mem hkr)
    have hstep : folE (l.take (k + 1)) u = accE u (folE (l.take k) u) x := by rw [folE_step l u k hkr, hx]
    have hKD : KD D := by rw [← HF.out]; exact KD.fol l u HKE.out k (by omega)
    obtain ⟨at_, kd, id, who, by1, ct, tm, dt⟩ := x
    replace c0 : wo.cell? ⟨g, o + k * 8, none⟩ = some (.int .i64 at_) := c0
    replace c1 : wo.cell? ⟨g, o + k * 8 + 1, none⟩ = some (.int .i64 kd) := c1
    replace c2 : wo.cell? ⟨g, o + k * 8 + 2, none⟩ = some (.string id) := c2
    replace c3 : wo.cell? ⟨g, o + k * 8 + 3, none⟩ = some (.string who) := c3
    replace c4 : wo.cell? ⟨g, o + k * 8 + 4, none⟩ = some (.string by1) := c4
    replace c5 : wo.cell? ⟨g, o + k * 8 + 5, none⟩ = some (.string ct) := c5
    replace c6 : wo.cell? ⟨g, o + k * 8 + 6, none⟩ = some (.int .i64 tm) := c6
    replace c7 : wo.cell? ⟨g, o + k * 8 + 7, none⟩ = some (.int .i64 dt) := c7
    have hk0 : (0 : Int) ≤ (k : Int) := by omega
    have hk1 : (k : Int) < (n : Int) := by omega
    have hSa := hS.alloc (.cells #[.int .i64 at_, .int .i64 kd, .string id, .string who, .string by1, .string ct, .int .i64 tm, .int .i64 dt] 78)
    have HST := Lib.hid hstep
    clear hcs hx hstep
    by_cases hle : at_ ≤ u
    · have hSm := Lib.hid (show Sq w (wo.alloc (.cells #[.int .i64 at_, .int .i64 kd, .string id, .string who, .string by1, .string ct, .int .i64 tm, .int .i64 dt] 78)) (dskL (q + 2) q k (q + 1) k L D []) from by
       unfold dskL at hSa ⊢
       have h1 := rMap_moreE (hSa.front 1 rfl rfl) hn1
       have h2 := rMap_moreE ((h1.front 1 rfl rfl).front 2 rfl rfl) hn2
       exact (h2.front 2 rfl rfl).front 2 rfl rfl)
      have HA := Lib.hid (folD_calls w (q + 2) q (q + 1) k D L [] ⟨at_, kd, id, who, by1, ct, tm, dt⟩ _ hSm.out hKD HLD.out (by omega) hxk)
      have HD2 : Hid ((folE (l.take (k + 1)) u).1 = (stpE D ⟨at_, kd, id, who, by1, ct, tm, dt⟩).getD D) := Lib.hid (by
       rw [HST.out]
       have hF := HF.out
       cases hs : stpE D ⟨at_, kd, id, who, by1, ct, tm, dt⟩ with
       | none => rw [accE_none hle (by rw [hF]; exact hs)]; exact hF
       | some D' => rw [accE_some hle (by rw [hF]; exact hs)]; rfl)
      clear hS hSa hSm hKD hxk HST
      go_wp2_with fail
      refine HA.out.mono ?_
      rintro e w2 ⟨L2, n3, n4, rfl, hL2, hn3, hn4, hS2⟩
      have HL2 := Lib.hid hL2
      clear HA c0 c1 c2 c3 c4 c5 c6 c7 hL2
      obtain ⟨D2, hD2⟩ : ∃ D2, (stpE D ⟨at_, kd, id, who, by1, ct, tm, dt⟩).getD D = D2 := ⟨_, rfl⟩
      rw [hD2] at HL2 HD2 hS2
      obtain ⟨ok, hok⟩ : ∃ ok, (stpE D ⟨at_, kd, id, who, by1, ct, tm, dt⟩).isSome = ok := ⟨_, rfl⟩
      rw [hok]
      clear hD2 hok
      go_wp2_with fail
      refine (told_calls _ _ _).mono ?_
      rintro e w3 ⟨rfl, rfl⟩
      go_wp2_with fail
      go_roundw
      case rel => exact ⟨k + 1, n3, n4, L2, D2, by omega, by go_num, by omega, by omega, HD2, HL2, hS2⟩
      case measure => simp [intOf]; omega
    · have HD2 : Hid ((folE (l.take (k + 1)) u).1 = D) := Lib.hid (by rw [HST.out, accE_late hle]; exact HF.out)
      clear hS hKD hxk HST
      go_wp2_with fail
      go_roundw
      case rel => exact ⟨k + 1, n1, n2, L, D, by omega, by go_num, by omega, by omega, HD2, HLD, hSa⟩
      case measure => simp [intOf]; omega
  · obtain rfl : k = n := by omega
    have HFI : Hid (AtD l u w (.returned (.pointer (some ⟨q + 2, 0, none⟩))) wo) := Lib.hid (by
     have e : l.take k = l := by rw [← HL.out]; exact List.take_length
     have hF := HF.out
     rw [e] at hF
     have hK := KD.fol l u HKE.out l.length (Nat.le_refl _)
     rw [List.take_length] at hK
     refine ⟨q + 2, q, q + 1, n1, n2, L, rfl, by rw [hF]; exact HLD.out, hK, by rw [HL.out]; exact hn1, by rw [HL.out]; exact hn2, by rw [hF]; exact hS⟩)
    clear hS
    go_wp2_with fail
    go_ret
    exact HFI.out
theorem atD_calls (b : Nat) (A : Option Addr) (n c : Nat) (l : List Bev) (u : Int) (w : World) (hr : Rd w b 8 (.slice A n c) n (l.flatMap bevC)) (hk : ∀ x ∈ l, EvK x) (hn : n ≤ 3000) :
 Calls Tryz.prog 76 #[.slice A n c, .int .i64 u] w (AtD l u w) := by
 have HF := Lib.hid (dfollow_calls b A n c l u w hr hk hn)
 clear hr hk
 go_enter Tryz.func76, Tryz.ntmps76
 go_wp2_with fail
 refine HF.out.mono ?_
 rintro e w2 ⟨gd, m1, m2, n1, n2, L, rfl, h1, h2, h3, h4, h5⟩
 have HX : Hid (AtD l u w (.returned (.pointer (some ⟨gd, 0, none⟩))) w2) := Lib.hid ⟨gd, m1, m2, n1, n2, L, rfl, h1, h2, h3, h4, h5⟩
 clear h1 h2 h5
 go_wp2_with fail
 go_ret
 exact HX.out
end Go.Proofs.YtapgnaimbgjcnaaGreatDoor
/-
  board.(*desk).onBoard by its contract. (Printed by gen_bt6.py.)
-/
namespace Go.Proofs.YtapgnaimbgjcnaaGreatDoor
open Go Go.RowKit Go.Sort
attribute [local go_sem ↓] Go.wp_at_zero Go.wp_at_succ
theorem info_runp : (Tryz.prog.info? 166).map (fun i => (i.zero, i.size, i.bytes)) = some (some (.pointer none), 1, 8) := by kernel_rfl
def BdD (gd m1 m2 n1 n2 : Nat) (L : List Rpt) (D : Dsk) (l : List Rsc) (cat : ByteArray) (w0 : World) (e : Ending) (w' : World) : Prop :=
 ∃ (A : Option Addr) (c : Nat) (ps : List Ptv), e = .returned (.slice A ps.length c) ∧ SbdR D cat (ps.map (·.2)) ∧ (∀ p ∈ ps, ∃ k, (p.1, (p.2, k)) ∈ L) ∧ Sq w0 w' (rOwn w0.heap.size 166 1 (.slice A ps.length c) ps.length (ps.flatMap (fun x => [ptvV x])) :: dskL gd m1 n1 m2 n2 L D l)
set_option maxRecDepth 100000 in
set_option maxHeartbeats 8000000 in
theorem onBoardD_calls (gd m1 m2 n1 n2 : Nat) (L : List Rpt) (D : Dsk) (l : List Rsc) (cat : ByteArray) (w0 w : World) (hK : KD D) (hL : LD L D) (hz : D.rn.length ≤ 3000) (hS : Sq w0 w (dskL gd m1 n1 m2 n2 L D l)) :
 Calls Tryz.prog 112 #[.pointer (some ⟨gd, 0, none⟩), .string cat] w (BdD gd m1 m2 n1 n2 L D l cat w0) := by
 obtain ⟨i0, hi, hz0, hz1, hz2⟩ : ∃ i0, Tryz.prog.info? 166 = some i0 ∧ i0.zero = some (.pointer none) ∧ i0.size = 1 ∧ i0.bytes = 8 := by
  have h := info_runp
  cases hh : Tryz.prog.info? 166 with
  | none => rw [hh] at h; cases h
  | some i => rw [hh] at h; injection h with h; injection h with h1 h; injection h with h2 h3; exact ⟨i, rfl, h1, h2, h3⟩
 unfold dskL at hS
 have hS1 := hS.front 1 rfl rfl
 have HMP : MapS w 9 m1 n1 (ptF L) := hS1.head
 have c0 := (hS1.nth 1 rfl : Blk w gd _ _).cell 0
 have HK := Lib.hid hK
 have HL := Lib.hid hL
 clear hS hK hL
 go_enter Tryz.func112, Tryz.ntmps112
 go_wp2_with (first | (at_range; refine wpList_range_map _ rfl _ 181 rfl 9 166 Tryz.underlying9 Tryz.underlying181 m1 n1 (ptF L) rfl HMP ?_; intro w1 cnt0 hr0 hg0 hs0))
 go_frame
 have hS2 := (hS1.rngStart hr0 hg0).nil w0.heap.size 166 1
 obtain ⟨r, hr⟩ : ∃ r, r = w.heap.size := ⟨_, rfl⟩
 rw [← hr] at hS2 ⊢
 clear hS1 hr0 hg0 hs0 HMP hr c0
 go_loopw [5] (fun s5 wr => ∃ (A : Option Addr) (c : Nat) (seen : List ByteArray) (cnt : Nat) (ps : List Ptv), s5 = .slice A ps.length c ∧ Hid (ps.map (·.2) = seen.filterMap (brOne D cat)) ∧ Hid (∀ s ∈ seen, s.size ≤ maxLen ∧ ∃ r, rnOf D s = some r) ∧ Hid (∀ p ∈ ps, ∃ k, (p.1, (p.2, k)) ∈ L) ∧ Sq w0 wr (rOwn w0.heap.size 166 1 (.slice A ps.length c) ps.length (ps.flatMap (fun x => [ptvV x])) :: rRng 9 m1 r n1 (ptF L) seen cnt :: rBlk gd 183 #[.map (some m1), .map (some m2)] :: rMap 9 m2 n2 (bnF D) :: rAll rRun L :: l)) (fun _ wr => wr.rangeLeft m1 r)
 case atStart => exact ⟨none, 0, [], cnt0, [], rfl, Lib.hid rfl, Lib.hid (fun s hs => by cases hs), Lib.hid (fun p hp => by cases hp), hS2⟩
 case round =>
  clear hS2
  obtain ⟨A, c, seen, cnt, ps, rfl, HY, HSN, HPL, hS⟩ := hrel
  have hrg : RngS wr 9 m1 r n1 (ptF L) seen cnt := hS.nth 1 rfl
  have hnd := hrg.nodup
  have hyl : ps.length ≤ 3000 := by
   have h1 := seen_len hnd (fun s hs => (HSN.out s hs).2)
   have h2 := List.length_filterMap_le (brOne D cat) seen
   rw [← HY.out, List.length_map] at h2
   omega
  go_wp2_with (first | (at_next; refine wpList_next_map _ rfl _ rfl 9 Tryz.underlying9 m1 r n1 (ptF L) seen cnt rfl hrg ?_ ?_))
  · intro hdone
    have HP : Hid ((ps.map (·.2)).Perm (brd D cat)) := Lib.hid (by
     rw [HY.out]
     refine brd_perm HK.out cat hnd (fun s hs => (HSN.out s hs).1) (fun s hs => ?_)
     rw [← hdone s hs]
     unfold evF ptF
     rw [ptOf_rn HL.out]
     cases ptOf L s <;> simp)
    have hown : wr.ownsRow w0.heap.size 166 1 (.slice A ps.length c) ps.length (ps.flatMap (fun x => [ptvV x])) := hS.head
    clear hrg hdone HSN HY hnd
    by_cases h0 : ps.length = 0
    · have hnil : ps = [] := List.length_eq_zero_iff.1 h0
      subst hnil
      have HN := Lib.hid (sortRun_none wr A c)
      have HFI : Hid (BdD gd m1 m2 n1 n2 L D l cat w0 (.returned (.slice A 0 c)) wr) := Lib.hid ⟨A, c, [], rfl, ⟨HP.out, List.Pairwise.nil⟩, HPL.out, ((hS.front 1 rfl rfl).rngEnd.front 2 rfl rfl).front 2 rfl rfl⟩
      clear hS hown HP
      go_wp2_with (fail)
      refine HN.out.mono ?_
      rintro e w5 ⟨rfl, rfl⟩
      go_wp2_with (fail)
      go_ret
      exact HFI.out
    · obtain ⟨g, hA⟩ : ∃ g, A = some ⟨g, 0, none⟩ := by
       rcases hown.2 with ⟨he, hx⟩ | ⟨g, cap, cur, he, _⟩
       · exact absurd (by injection he) h0
       · injection he with he; exact ⟨g, he⟩
      subst hA
      have hruns : ∀ x ∈ ps, RunAt wr x ∧ x.1 < wr.heap.size ∧ x.1 ≠ g := fun x hx => by
       obtain ⟨k, hk⟩ := HPL.out x hx
       have hall : ∀ a ∈ L, (rRun a).P wr := hS.nth 4 rfl
       have hb : Blk wr x.1 168 (runC (x.2, k)).toArray := hall _ hk
       refine ⟨fun V hV => ?_, hb.lt, fun e => ?_⟩
       · have hb2 : Blk V x.1 168 (runC (x.2, k)).toArray := Eq.trans hV hb
         exact ⟨hb2.cell 2, hb2.cell 6, hb2.cell 7⟩
       · have h1 := (List.pairwise_cons.1 hS.hp.apart).1 (rAll rRun L) (by simp)
         exact h1 g rfl ⟨_, hk, e.symm⟩
      have HC := Lib.hid (sortRun_calls w0 wr g ps.length c ps _ (by omega) hruns (by omega) hS)
      obtain ⟨m, hm⟩ : ∃ m, ps.length = m := ⟨_, rfl⟩
      rw [hm] at HC ⊢
      have HM := Lib.hid hm
      clear hS hown hyl hm h0 hruns
      go_wp2_with (fail)
      refine HC.out.mono ?_
      rintro e w5 ⟨rfl, zs, hp, hso, hT2⟩
      have HFI : Hid (BdD gd m1 m2 n1 n2 L D l cat w0 (.returned (.slice (some ⟨g, 0, none⟩) m c)) w5) := Lib.hid (by
       have hl : zs.length = m := by rw [hp.length_eq]; exact HM.out
       rw [← hl] at hT2 ⊢
       exact ⟨_, c, zs, rfl, ⟨(hp.map _).trans HP.out, by rw [List.pairwise_map]; exact hso⟩, fun p hp2 => HPL.out p (hp.mem_iff.1 hp2), ((hT2.front 1 rfl rfl).rngEnd.front 2 rfl rfl).front 2 rfl rfl⟩)
      clear hT2
      go_wp2_with (fail)
      go_ret
      exact HFI.out
  · intro s v w2 cnt2 hnew hsl hf hrg2 hlt2 hg2 hs2 hen
    have hl1 : wr.rangeLeft m1 r = cnt := hrg.left
    have hS2 := (hS.front 1 rfl rfl).rngStep hrg2 hg2
    have hlt3 : cnt2 < wr.rangeLeft m1 r := by rw [hl1]; exact hlt2
    have HLT := Lib.hid hlt3
    clear hrg hS hl1 hlt2 hlt3 hg2 hrg2
    obtain ⟨⟨g, ⟨at_, kd, id, who, by1, ct, tm, dt⟩, k⟩, hpt⟩ : ∃ z, ptOf L s = some z := by
     cases h : ptOf L s with
     | none => unfold ptF at hf; rw [h] at hf; cases hf
     | some z => exact ⟨z, rfl⟩
    have hrn : rnOf D s = some (⟨at_, kd, id, who, by1, ct, tm, dt⟩, k) := by rw [ptOf_rn HL.out, hpt]; rfl
    have hv : v = .pointer (some ⟨g, 0, none⟩) := by
     have h := hf
     unfold ptF at h
     rw [hpt] at h
     injection h with h
     exact h.symm
    have hmem := (ptOf_mem hpt).1
    have hall : ∀ a ∈ L, (rRun a).P w2 := hS2.nth 4 rfl
    have hb : Blk w2 g 168 #[.int .i64 at_, .int .i64 kd, .string id, .string who, .string by1, .string ct, .int .i64 tm, .int .i64 dt, .string (hwV k)] := hall _ hmem
    have HSN2 : Hid (∀ t ∈ seen ++ [s], t.size ≤ maxLen ∧ ∃ r, rnOf D t = some r) := Lib.hid (fun t ht => by
     rcases List.mem_append.1 ht with ht | ht
     · exact HSN.out t ht
     · simp at ht; subst ht; exact ⟨hsl, _, hrn⟩)
    have HY2 : Hid (ps.map (·.2) ++ (if inB D cat (⟨at_, kd, id, who, by1, ct, tm, dt⟩, k) = true then [⟨at_, kd, id, who, by1, ct, tm, dt⟩] else []) = (seen ++ [s]).filterMap (brOne D cat)) := Lib.hid (by
     rw [List.filterMap_append, ← HY.out]
     congr 1
     have e : brOne D cat s = if inB D cat (⟨at_, kd, id, who, by1, ct, tm, dt⟩, k) = true then some ⟨at_, kd, id, who, by1, ct, tm, dt⟩ else none := by unfold brOne; rw [hrn]
     by_cases h : inB D cat (⟨at_, kd, id, who, by1, ct, tm, dt⟩, k) = true
     · rw [if_pos h] at e ⊢
       rw [List.filterMap_cons_some e]
       rfl
     · rw [if_neg h] at e ⊢
       rw [List.filterMap_cons_none e]
       rfl)
    have HPL2 : Hid (∀ p ∈ ps ++ [(g, ⟨at_, kd, id, who, by1, ct, tm, dt⟩)], ∃ k, (p.1, (p.2, k)) ∈ L) := Lib.hid (fun p hp => by
     rcases List.mem_append.1 hp with hp | hp
     · exact HPL.out p hp
     · simp at hp; subst hp; exact ⟨k, hmem⟩)
    have hwz := HK.out.wz _ (rnOf_mem hrn).1
    subst hv
    simp only at hwz
    obtain ⟨hs, hhs⟩ : ∃ z, hwV k = z := ⟨_, rfl⟩
    obtain ⟨B, hB⟩ : ∃ z, D.bn who = z := ⟨_, rfl⟩
    have hI : inB D cat (⟨at_, kd, id, who, by1, ct, tm, dt⟩, k) = ((ct.toList == cat.toList) && (hs.toList == [118, 101, 114, 105, 102, 105, 101, 100]) && !B) := by rw [← hhs, ← hB]; rfl
    rw [hI] at HY2
    rw [hhs] at hb
    have hSd := hS2.drew
    have HSP : Hid (w2.drew.cell? ⟨g, 5, none⟩ = some (.string ct) ∧ w2.drew.cell? ⟨g, 8, none⟩ = some (.string hs) ∧ w2.drew.cell? ⟨g, 3, none⟩ = some (.string who) ∧ w2.drew.cell? ⟨gd, 1, none⟩ = some (.map (some m2)) ∧ (Instr.lookup 137 (.map (some m2)) (.string who) false).run Tryz.prog w2.drew = .ok (.bool B) w2.drew) := Lib.hid (by
     have hall : ∀ a ∈ L, (rRun a).P w2.drew := hSd.nth 4 rfl
     have hb2 : Blk w2.drew g 168 #[.int .i64 at_, .int .i64 kd, .string id, .string who, .string by1, .string ct, .int .i64 tm, .int .i64 dt, .string (hwV k)] := hall _ hmem
     rw [hhs] at hb2
     have hM3 : MapS w2.drew 9 m2 n2 (bnF D) := hSd.nth 3 rfl
     have l3 := hM3.look (t := 137) (e := 4) Tryz.underlying9 Tryz.underlying137 (zero_bol _) (s := who) (by unfold maxLen; omega)
     rw [bnF_get HK.out, hB] at l3
     exact ⟨hb2.cell 5, hb2.cell 8, hb2.cell 3, (hSd.nth 2 rfl : Blk _ gd _ _).cell 1, l3⟩)
    clear hwz hI hrn hf hpt hnew hsl HSN HY HPL hS2 hs2 hb hall hmem hhs hB
    obtain ⟨C, hC⟩ : ∃ b, (ct.toList == cat.toList) = b := ⟨_, rfl⟩
    obtain ⟨V, hV⟩ : ∃ b, (hs.toList == [118, 101, 114, 105, 102, 105, 101, 100]) = b := ⟨_, rfl⟩
    rw [hC, hV] at HY2
    cases C
    · rw [if_neg (by simp), List.append_nil] at HY2
      go_upto_region 5 with (fail)
      refine wp_region_held_drew (S := (fun W => W.cell? ⟨g, 5, none⟩ = some (.string ct) ∧ W.cell? ⟨g, 8, none⟩ = some (.string hs) ∧ W.cell? ⟨g, 3, none⟩ = some (.string who) ∧ W.cell? ⟨gd, 1, none⟩ = some (.map (some m2)) ∧ (Instr.lookup 137 (.map (some m2)) (.string who) false).run Tryz.prog W = .ok (.bool B) W)) (by kernel_rfl) HSP.out (fun hHeld => ?_)
      refine tkY 0 (.pointer (some ⟨g, 0, none⟩)) rfl hHeld ?_
      refine tkY 1 (.pointer (some ⟨g, 0, none⟩)) rfl hHeld ?_
      refine tkY 2 (.pointer (some ⟨g, 0, none⟩)) rfl hHeld ?_
      refine tkY 3 (.pointer (some ⟨g, 5, none⟩)) rfl hHeld ?_
      refine tkY 4 (.string ct) rfl hHeld ?_
      refine tkY 5 (.string cat) rfl hHeld ?_
      refine tkY 6 (.bool false) rfl hHeld ?_
      refine tkY 7 (.bool false) rfl hHeld ?_
      refine tkN 8 rfl hHeld ?_
      refine tkN 9 rfl hHeld ?_
      refine tkN 10 rfl hHeld ?_
      refine tkN 11 rfl hHeld ?_
      refine tkN 12 rfl hHeld ?_
      refine tkY 13 (.bool false) rfl hHeld ?_
      refine tkY 14 (.bool false) rfl hHeld ?_
      refine tkN 15 rfl hHeld ?_
      refine tkN 16 rfl hHeld ?_
      refine tkN 17 rfl hHeld ?_
      refine tkN 18 rfl hHeld ?_
      refine tkN 19 rfl hHeld ?_
      refine tkN 20 rfl hHeld ?_
      refine tkN 21 rfl hHeld ?_
      refine tkN 22 rfl hHeld ?_
      refine tkN 23 rfl hHeld ?_
      refine tkN 24 rfl hHeld ?_
      refine tkN 25 rfl hHeld ?_
      refine tkY 26 (.bool false) rfl hHeld ?_
      refine wpAnyH_done (by kernel_rfl) ?_ _
      have hSe := hSd.front 1 rfl rfl
      have hrl : w2.drew.rangeLeft m1 r = cnt2 := (show RngS w2.drew _ m1 r n1 _ _ cnt2 from hSe.nth 1 rfl).left
      clear hSd
      go_wp2_with fail
      go_roundw
      case rel => exact ⟨A, c, seen ++ [s], cnt2, ps, rfl, HY2, HSN2, Lib.hid (fun p hp => HPL2.out p (List.mem_append_left _ hp)), hSe⟩
      case measure => rw [hrl]; exact HLT.out
    · cases V
      · rw [if_neg (by simp), List.append_nil] at HY2
        go_upto_region 5 with (fail)
        refine wp_region_held_drew (S := (fun W => W.cell? ⟨g, 5, none⟩ = some (.string ct) ∧ W.cell? ⟨g, 8, none⟩ = some (.string hs) ∧ W.cell? ⟨g, 3, none⟩ = some (.string who) ∧ W.cell? ⟨gd, 1, none⟩ = some (.map (some m2)) ∧ (Instr.lookup 137 (.map (some m2)) (.string who) false).run Tryz.prog W = .ok (.bool B) W)) (by kernel_rfl) HSP.out (fun hHeld => ?_)
        refine tkY 0 (.pointer (some ⟨g, 0, none⟩)) rfl hHeld ?_
        refine tkY 1 (.pointer (some ⟨g, 0, none⟩)) rfl hHeld ?_
        refine tkY 2 (.pointer (some ⟨g, 0, none⟩)) rfl hHeld ?_
        refine tkY 3 (.pointer (some ⟨g, 5, none⟩)) rfl hHeld ?_
        refine tkY 4 (.string ct) rfl hHeld ?_
        refine tkY 5 (.string cat) rfl hHeld ?_
        refine tkY 6 (.bool true) rfl hHeld ?_
        refine tkY 7 (.bool true) rfl hHeld ?_
        refine tkY 8 (.pointer (some ⟨g, 0, none⟩)) rfl hHeld ?_
        refine tkY 9 (.pointer (some ⟨g, 0, none⟩)) rfl hHeld ?_
        refine tkY 10 (.pointer (some ⟨g, 8, none⟩)) rfl hHeld ?_
        refine tkY 11 (.string hs) rfl hHeld ?_
        refine tkY 12 (.bool false) rfl hHeld ?_
        refine tkY 13 (.bool false) rfl hHeld ?_
        refine tkY 14 (.bool false) rfl hHeld ?_
        refine tkN 15 rfl hHeld ?_
        refine tkN 16 rfl hHeld ?_
        refine tkN 17 rfl hHeld ?_
        refine tkN 18 rfl hHeld ?_
        refine tkN 19 rfl hHeld ?_
        refine tkN 20 rfl hHeld ?_
        refine tkN 21 rfl hHeld ?_
        refine tkN 22 rfl hHeld ?_
        refine tkN 23 rfl hHeld ?_
        refine tkN 24 rfl hHeld ?_
        refine tkN 25 rfl hHeld ?_
        refine tkY 26 (.bool false) rfl hHeld ?_
        refine wpAnyH_done (by kernel_rfl) ?_ _
        have hSe := hSd.front 1 rfl rfl
        have hrl : w2.drew.rangeLeft m1 r = cnt2 := (show RngS w2.drew _ m1 r n1 _ _ cnt2 from hSe.nth 1 rfl).left
        clear hSd
        go_wp2_with fail
        go_roundw
        case rel => exact ⟨A, c, seen ++ [s], cnt2, ps, rfl, HY2, HSN2, Lib.hid (fun p hp => HPL2.out p (List.mem_append_left _ hp)), hSe⟩
        case measure => rw [hrl]; exact HLT.out
      · cases B
        · rw [if_pos (by decide)] at HY2
          go_upto_region 5 with (fail)
          refine wp_region_held_drew (S := (fun W => W.cell? ⟨g, 5, none⟩ = some (.string ct) ∧ W.cell? ⟨g, 8, none⟩ = some (.string hs) ∧ W.cell? ⟨g, 3, none⟩ = some (.string who) ∧ W.cell? ⟨gd, 1, none⟩ = some (.map (some m2)) ∧ (Instr.lookup 137 (.map (some m2)) (.string who) false).run Tryz.prog W = .ok (.bool false) W)) (by kernel_rfl) HSP.out (fun hHeld => ?_)
          refine tkY 0 (.pointer (some ⟨g, 0, none⟩)) rfl hHeld ?_
          refine tkY 1 (.pointer (some ⟨g, 0, none⟩)) rfl hHeld ?_
          refine tkY 2 (.pointer (some ⟨g, 0, none⟩)) rfl hHeld ?_
          refine tkY 3 (.pointer (some ⟨g, 5, none⟩)) rfl hHeld ?_
          refine tkY 4 (.string ct) rfl hHeld ?_
          refine tkY 5 (.string cat) rfl hHeld ?_
          refine tkY 6 (.bool true) rfl hHeld ?_
          refine tkY 7 (.bool true) rfl hHeld ?_
          refine tkY 8 (.pointer (some ⟨g, 0, none⟩)) rfl hHeld ?_
          refine tkY 9 (.pointer (some ⟨g, 0, none⟩)) rfl hHeld ?_
          refine tkY 10 (.pointer (some ⟨g, 8, none⟩)) rfl hHeld ?_
          refine tkY 11 (.string hs) rfl hHeld ?_
          refine tkY 12 (.bool true) rfl hHeld ?_
          refine tkY 13 (.bool true) rfl hHeld ?_
          refine tkY 14 (.bool true) rfl hHeld ?_
          refine tkY 15 (.pointer (some ⟨gd, 0, none⟩)) rfl hHeld ?_
          refine tkY 16 (.pointer (some ⟨gd, 0, none⟩)) rfl hHeld ?_
          refine tkY 17 (.pointer (some ⟨gd, 1, none⟩)) rfl hHeld ?_
          refine tkY 18 (.map (some m2)) rfl hHeld ?_
          refine tkY 19 (.pointer (some ⟨g, 0, none⟩)) rfl hHeld ?_
          refine tkY 20 (.pointer (some ⟨g, 0, none⟩)) rfl hHeld ?_
          refine tkY 21 (.pointer (some ⟨g, 0, none⟩)) rfl hHeld ?_
          refine tkY 22 (.pointer (some ⟨g, 3, none⟩)) rfl hHeld ?_
          refine tkY 23 (.string who) rfl hHeld ?_
          refine tkY 24 (.bool false) rfl hHeld ?_
          refine tkY 25 (.bool true) rfl hHeld ?_
          refine tkY 26 (.bool true) rfl hHeld ?_
          refine wpAnyH_done (by kernel_rfl) ?_ _
          have hSf := hSd.front 1 rfl rfl
          have HO5 : w2.drew.ownsRow w0.heap.size 166 1 (.slice A ps.length c) ps.length (ps.flatMap (fun x => [ptvV x])) := hSf.head
          have hsz := hSf.size
          clear hSd
          go_wp2_with (first
           | (at_builtin; refine wpList_append_own_at _ rfl _ _ 163 rfl w0.heap.size 166 i0 (.pointer none) 1 8 Tryz.underlying163 hi hz0 hz1 hz2 rfl (by decide) _ _ _ rfl (HO5.alloc _) ⟨w2.drew.heap.size, 0, none⟩ 1 1 [.pointer (some ⟨g, 0, none⟩)] rfl rfl (World.news_of_block (heap_alloc_new _ _)) (one1 rfl) (by unfold maxLen; omega) (by omega) (by simp at hsz ⊢; omega) ?_; intro v' w11 hown' hgrow _ hblk; have hS9 := (hSf.alloc _).append hown' hgrow hblk; obtain ⟨A8, c8, hv8⟩ := own_form hown'; subst hv8; clear hown' hgrow hblk))
          have hrl : w11.rangeLeft m1 r = cnt2 := (show RngS w11 _ m1 r n1 _ _ cnt2 from hS9.nth 1 rfl).left
          go_roundw
          case rel => exact ⟨A8, c8, seen ++ [s], cnt2, ps ++ [(g, ⟨at_, kd, id, who, by1, ct, tm, dt⟩)], by rw [List.length_append]; rfl, Lib.hid (by rw [List.map_append]; exact HY2.out), HSN2, HPL2, by rw [List.flatMap_append, List.length_append]; exact hS9⟩
          case measure => rw [hrl]; exact HLT.out
        · rw [if_neg (by simp), List.append_nil] at HY2
          go_upto_region 5 with (fail)
          refine wp_region_held_drew (S := (fun W => W.cell? ⟨g, 5, none⟩ = some (.string ct) ∧ W.cell? ⟨g, 8, none⟩ = some (.string hs) ∧ W.cell? ⟨g, 3, none⟩ = some (.string who) ∧ W.cell? ⟨gd, 1, none⟩ = some (.map (some m2)) ∧ (Instr.lookup 137 (.map (some m2)) (.string who) false).run Tryz.prog W = .ok (.bool true) W)) (by kernel_rfl) HSP.out (fun hHeld => ?_)
          refine tkY 0 (.pointer (some ⟨g, 0, none⟩)) rfl hHeld ?_
          refine tkY 1 (.pointer (some ⟨g, 0, none⟩)) rfl hHeld ?_
          refine tkY 2 (.pointer (some ⟨g, 0, none⟩)) rfl hHeld ?_
          refine tkY 3 (.pointer (some ⟨g, 5, none⟩)) rfl hHeld ?_
          refine tkY 4 (.string ct) rfl hHeld ?_
          refine tkY 5 (.string cat) rfl hHeld ?_
          refine tkY 6 (.bool true) rfl hHeld ?_
          refine tkY 7 (.bool true) rfl hHeld ?_
          refine tkY 8 (.pointer (some ⟨g, 0, none⟩)) rfl hHeld ?_
          refine tkY 9 (.pointer (some ⟨g, 0, none⟩)) rfl hHeld ?_
          refine tkY 10 (.pointer (some ⟨g, 8, none⟩)) rfl hHeld ?_
          refine tkY 11 (.string hs) rfl hHeld ?_
          refine tkY 12 (.bool true) rfl hHeld ?_
          refine tkY 13 (.bool true) rfl hHeld ?_
          refine tkY 14 (.bool true) rfl hHeld ?_
          refine tkY 15 (.pointer (some ⟨gd, 0, none⟩)) rfl hHeld ?_
          refine tkY 16 (.pointer (some ⟨gd, 0, none⟩)) rfl hHeld ?_
          refine tkY 17 (.pointer (some ⟨gd, 1, none⟩)) rfl hHeld ?_
          refine tkY 18 (.map (some m2)) rfl hHeld ?_
          refine tkY 19 (.pointer (some ⟨g, 0, none⟩)) rfl hHeld ?_
          refine tkY 20 (.pointer (some ⟨g, 0, none⟩)) rfl hHeld ?_
          refine tkY 21 (.pointer (some ⟨g, 0, none⟩)) rfl hHeld ?_
          refine tkY 22 (.pointer (some ⟨g, 3, none⟩)) rfl hHeld ?_
          refine tkY 23 (.string who) rfl hHeld ?_
          refine tkY 24 (.bool true) rfl hHeld ?_
          refine tkY 25 (.bool false) rfl hHeld ?_
          refine tkY 26 (.bool false) rfl hHeld ?_
          refine wpAnyH_done (by kernel_rfl) ?_ _
          have hSe := hSd.front 1 rfl rfl
          have hrl : w2.drew.rangeLeft m1 r = cnt2 := (show RngS w2.drew _ m1 r n1 _ _ cnt2 from hSe.nth 1 rfl).left
          clear hSd
          go_wp2_with fail
          go_roundw
          case rel => exact ⟨A, c, seen ++ [s], cnt2, ps, rfl, HY2, HSN2, Lib.hid (fun p hp => HPL2.out p (List.mem_append_left _ hp)), hSe⟩
          case measure => rw [hrl]; exact HLT.out
end Go.Proofs.YtapgnaimbgjcnaaGreatDoor
/-
  Rows of a board and their types; an event's eight cells in a row of events.
-/
namespace Go.Proofs.YtapgnaimbgjcnaaGreatDoor
open Go Go.RowKit
theorem info_row : (Tryz.prog.info? 80).map (fun i => (i.zero, i.size, i.bytes)) = some (some (.agg #[.int .i64 0, .int .i64 0, .string ⟨#[]⟩, .string ⟨#[]⟩, .int .i64 0]), 5, 56) := by kernel_rfl
theorem rw_cells {w : World} {base : Nat} {e : TypeId} {g cap n : Nat} {ys : List Brw} (h : w.ownsRow base e 5 (.slice (some ⟨g, 0, none⟩) n cap) n (ys.flatMap brwC)) (k : Nat) (hk : k < ys.length) (hn : k < n) :
 w.cell? ⟨g, k * 5, none⟩ = some (.int .i64 ys[k].rank) ∧ w.cell? ⟨g, k * 5 + 1, none⟩ = some (.int .i64 ys[k].time) ∧ w.cell? ⟨g, k * 5 + 2, none⟩ = some (.string ys[k].id) ∧ w.cell? ⟨g, k * 5 + 3, none⟩ = some (.string ys[k].who) ∧ w.cell? ⟨g, k * 5 + 4, none⟩ = some (.int .i64 ys[k].date) := by
 have a := fun j hj => own_cell brwC 5 brwC_len h k j hk hn hj
 exact ⟨a 0 (by omega), a 1 (by omega), a 2 (by omega), a 3 (by omega), a 4 (by omega)⟩
theorem Sq.rebase {w W : World} {l : List Rsc} {b0 b1 : Nat} {e : TypeId} {k n : Nat} {v : Value} {xs : List Value} (h : Sq w W (rOwn b1 e k v n xs :: l)) (hb : b0 ≤ b1) : Sq w W (rOwn b0 e k v n xs :: l) :=
 ⟨h.below, h.hp.tail.cons (own_base h.head hb) (rOwn_ok _ _ _ _ _ _) (fun g hg => h.hp.new _ (List.mem_cons_self ..) g hg) (fun s hs g hg hg2 => (List.pairwise_cons.1 h.hp.apart).1 s hs g hg hg2)⟩
theorem own_ptr {w : World} {base n c k : Nat} {e : TypeId} {A : Option Addr} {xs : List Value} (h : w.ownsRow base e k (.slice A n c) n xs) (h0 : 0 < n) : ∃ g, A = some ⟨g, 0, none⟩ := by
 rcases h.2 with ⟨he, hx⟩ | ⟨g, cap, cur, he, _⟩
 · exact absurd (by injection he) (by omega : ¬ n = 0)
 · injection he with he; exact ⟨g, he⟩
theorem eqS_decB (a b : ByteArray) : (a.toList == b.toList) = decide (a = b) := by
 show eqS a b = _
 by_cases h : a = b
 · rw [(eqS_iff a b).2 h, decide_eq_true h]
 · rw [decide_eq_false h]
   cases he : eqS a b with
   | false => rfl
   | true => exact absurd ((eqS_iff a b).1 he) h
end Go.Proofs.YtapgnaimbgjcnaaGreatDoor
/-
  splitref2.siteAt: the site behind the events up to a moment. (Printed by gen_sk8.py.)
-/
namespace Go.Proofs.YtapgnaimbgjcnaaGreatDoor
open Go Go.RowKit
attribute [local go_sem ↓] Go.wp_at_zero Go.wp_at_succ
theorem oper_app_run {P : Program} {w w' : World} {o : Oper} {a : Act} {K : Act → World → Prop} {Q : Exit → Act → World → Prop} (s x : Operand) (t : TypeId)
 (ho : o.op = .call { callee := .builtin .append, args := #[s, x], argTypes := #[t, t] }) {v y v' : Value} (hs : a.eval s = v) (hx : a.eval x = y)
 (hr : (Builtin.append_ #[t, t] o.type #[v, y]).run P w = .ok v' w') (h : K (a.put o.dst v') w') : o.wp P a w K Q := by
 unfold Oper.wp execOp
 simp only [ho, resolve, invoke, builtin, Sem.run_bind, Sem.run_pure, Result.andThen_ok, List.map_toArray, List.map_cons, List.map_nil, hs, hx, hr]
 exact h
end Go.Proofs.YtapgnaimbgjcnaaGreatDoor
