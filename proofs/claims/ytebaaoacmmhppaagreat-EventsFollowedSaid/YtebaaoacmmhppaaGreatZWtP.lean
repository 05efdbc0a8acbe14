/-
  The runs that wait, in plain words (wtd), as a range over a map finds them. No walk.
-/
import Derived.Test.YtebaaoacmmhppaaGreatZBtQ
import Derived.Test.YtebaaoacmmhppaaGreatZEv1W
import Derived.Test.YtebaaoacmmhppaaGreatZSortMem
import Derived.Deep.RegionHeld3
import Derived.Deep.DeepCutAuto
import Derived.Test.YtebaaoacmmhppaaGreatZMapR
import Derived.Test.YtebaaoacmmhppaaGreatZTk
import Derived.RegionTactic
import Derived.Test.YtebaaoacmmhppaaGreatZSk7
import Derived.Test.YtebaaoacmmhppaaGreatZRatMake4
import Derived.Test.YtebaaoacmmhppaaGreatZEv11
import Derived.Deep.CutBlock
import Derived.Test.YtebaaoacmmhppaaGreatZBtR
import Derived.Test.YtebaaoacmmhppaaGreatZSlotPure
import Derived.Test.YtebaaoacmmhppaaGreatZFlat
namespace Go.Proofs.YtebaaoacmmhppaaGreat
open Go Go.RowKit

def inW (D : Dsk) (r : Rcd) : Bool := ((hwV r.2).toList == [119, 97, 105, 116, 115]) && !(D.bn r.1.who)
def wtOne (D : Dsk) (s : ByteArray) : Option Bev := match rnOf D s with
  | some r => if inW D r = true then some r.1 else none
  | none => none
def wtd (D : Dsk) : List Bev := (D.rn.filter (inW D)).map (·.1)
theorem wtd_perm {D : Dsk} (hK : KD D) {seen : List ByteArray} (hn : seen.Nodup) (hz : ∀ s ∈ seen, s.size ≤ maxLen) (hd : ∀ s : ByteArray, s.size ≤ maxLen → ((evF D s).isSome = true ↔ s ∈ seen)) : (seen.filterMap (wtOne D)).Perm (wtd D) := by
  have hp : seen.Perm (D.rn.map (·.1.id)) := (List.perm_ext_iff_of_nodup hn hK.nd).2 (fun s => by
    constructor
    · intro hs
      obtain ⟨r, hr⟩ := evF_some.1 ((hd s (hz s hs)).2 hs)
      exact List.mem_map.2 ⟨r, (rnOf_mem hr).1, (rnOf_mem hr).2⟩
    · intro hs
      obtain ⟨r, hr, rfl⟩ := List.mem_map.1 hs
      have := hK.iz r hr
      exact (hd _ (by unfold maxLen; omega)).1 (evF_some.2 ⟨r, rnOf_self hK hr⟩))
  have h := hp.filterMap (wtOne D)
  rw [List.filterMap_map] at h
  have e : D.rn.filterMap (wtOne D ∘ fun r => r.1.id) = wtd D := by
    unfold wtd
    rw [← fm_filter (inW D) (fun r : Rcd => r.1) D.rn]
    refine fm_congr _ _ _ (fun r hr => ?_)
    show wtOne D r.1.id = _
    unfold wtOne
    rw [rnOf_self hK hr]
  rwa [e] at h
/-- the runs that wait, in order -/
def SwtR (D : Dsk) (ys : List Bev) : Prop := ys.Perm (wtd D) ∧ ys.Pairwise (fun a b => 0 ≤ cmpM b a)
theorem swt_one {D : Dsk} (hK : KD D) {xs ys : List Bev} (h1 : SwtR D xs) (h2 : SwtR D ys) : xs = ys := by
  refine one_by ord3_cmpM cmpM_id hK (fun x hx => ?_) (h1.1.trans h2.1.symm) h1.2 h2.2
  obtain ⟨r, hr, rfl⟩ := List.mem_map.1 (h1.1.mem_iff.1 hx)
  exact ⟨r, (List.mem_filter.1 hr).1, rfl⟩
theorem swt_len {l : List Bev} {u : Int} {ys : List Bev} (h : SwtR (folE l u).1 ys) : ys.length ≤ l.length := by
  have h1 := (fol_cnt l u l.length (Nat.le_refl _)).1
  rw [List.take_length] at h1
  have h2 := h.1.length_eq
  have h3 : (wtd (folE l u).1).length ≤ (folE l u).1.rn.length := by unfold wtd; rw [List.length_map]; exact List.length_filter_le _ _
  omega
end Go.Proofs.YtebaaoacmmhppaaGreat
/-
  board.Beaten by its contract.
-/
namespace Go.Proofs.YtebaaoacmmhppaaGreat
open Go Go.RowKit Go.Sort
attribute [local go_sem ↓] Go.wp_at_zero Go.wp_at_succ

theorem strsV_snoc (l : List ByteArray) (s : ByteArray) : strsV (l ++ [s]) = strsV l ++ [.string s] := by unfold strsV; rw [List.map_append]; rfl
end Go.Proofs.YtebaaoacmmhppaaGreat
/-
  splitref2.BeatenOf by its contract.
-/
namespace Go.Proofs.YtebaaoacmmhppaaGreat
open Go Go.RowKit Go.Sort
attribute [local go_sem ↓] Go.wp_at_zero Go.wp_at_succ

/-- bounds of a date -/
def DtB (x : Bev) : Prop := 0 ≤ x.date ∧ x.date ≤ 345686399999
theorem grw_one (w : World) (o1 o2 : Obj) : ∃ q os', (w.alloc o1).alloc o2 = grow (w.drewN q) os' :=
  ⟨0, #[o1, o2], by rw [alloc_eq_grow, alloc_eq_grow, grow_grow]; rfl⟩
instance instBevD : Inhabited {x : Bev // DtB x} := ⟨⟨zBev, by unfold DtB; exact ⟨by decide, by decide⟩⟩⟩
end Go.Proofs.YtebaaoacmmhppaaGreat
/-
  The closures of splitref2.WaitingOf, and chosen with them. (Printed by gen_wt2.py.)
-/
namespace Go.Proofs.YtebaaoacmmhppaaGreat
open Go Go.RowKit Go.Sort
attribute [local go_sem ↓] Go.wp_at_zero Go.wp_at_succ

set_option maxRecDepth 100000 in
set_option maxHeartbeats 8000000 in
theorem inWait_calls (gp gs m2 m3 : Nat) (hs : ByteArray) (B : Bool) (at_ kd tm dt : Int) (id who by1 ct : ByteArray) (w : World) (hf : ∀ W, Below w.heap.size w W → W.cell? ⟨gp, 0, none⟩ = some (.pointer (some ⟨gs, 0, none⟩)) ∧ W.cell? ⟨gs, 1, none⟩ = some (.map (some m2)) ∧ W.cell? ⟨gs, 2, none⟩ = some (.map (some m3)) ∧ (Instr.lookup 107 (.map (some m2)) (.string id) false).run Tryz.prog W = .ok (.string hs) W ∧ (Instr.lookup 103 (.map (some m3)) (.string who) false).run Tryz.prog W = .ok (.bool B) W) :
    Calls Tryz.prog 77 #[.agg #[.int .i64 at_, .int .i64 kd, .string id, .string who, .string by1, .string ct, .int .i64 tm, .int .i64 dt], .pointer (some ⟨gp, 0, none⟩)] w (BRet (.bool ((hs.toList == [119, 97, 105, 116, 115]) && !B)) w) := by
  obtain ⟨E, hE⟩ : ∃ E, E = w.heap.size := ⟨_, rfl⟩
  have hS := (Sq.start w).add #[.int .i64 at_, .int .i64 kd, .string id, .string who, .string by1, .string ct, .int .i64 tm, .int .i64 dt] 62
  rw [← hE] at hS
  obtain ⟨W0, hW0⟩ : ∃ W, W = w.alloc (.cells #[.int .i64 at_, .int .i64 kd, .string id, .string who, .string by1, .string ct, .int .i64 tm, .int .i64 dt] 62) := ⟨_, rfl⟩
  rw [← hW0] at hS
  have hS1 := hS.drew
  have HSP : Hid (W0.drew.cell? ⟨gp, 0, none⟩ = some (.pointer (some ⟨gs, 0, none⟩)) ∧ W0.drew.cell? ⟨gs, 1, none⟩ = some (.map (some m2)) ∧ W0.drew.cell? ⟨gs, 2, none⟩ = some (.map (some m3)) ∧ (Instr.lookup 107 (.map (some m2)) (.string id) false).run Tryz.prog W0.drew = .ok (.string hs) W0.drew ∧ (Instr.lookup 103 (.map (some m3)) (.string who) false).run Tryz.prog W0.drew = .ok (.bool B) W0.drew ∧ W0.drew.cell? ⟨E, 2, none⟩ = some (.string id) ∧ W0.drew.cell? ⟨E, 3, none⟩ = some (.string who)) := Lib.hid (by
    obtain ⟨f1, f2, f3, f4, f5⟩ := hf _ hS1.below
    have b : Blk _ E 62 #[.int .i64 at_, .int .i64 kd, .string id, .string who, .string by1, .string ct, .int .i64 tm, .int .i64 dt] := hS1.head
    exact ⟨f1, f2, f3, f4, f5, b.cell 2, b.cell 3⟩)
  have HB := Lib.hid hS1.below
  clear hS hS1 hf
  obtain ⟨V, hV⟩ : ∃ b, (hs.toList == [119, 97, 105, 116, 115]) = b := ⟨_, rfl⟩
  rw [hV]
  cases V
  · show Calls _ _ _ _ (BRet (.bool false) w)
    go_enter Tryz.func77, Tryz.ntmps77
    go_upto_region 1 with (fail)
    rw [← hW0]
    (try rw [← hE])
    clear hW0 hE
    refine wp_region_held_drew (S := (fun W => W.cell? ⟨gp, 0, none⟩ = some (.pointer (some ⟨gs, 0, none⟩)) ∧ W.cell? ⟨gs, 1, none⟩ = some (.map (some m2)) ∧ W.cell? ⟨gs, 2, none⟩ = some (.map (some m3)) ∧ (Instr.lookup 107 (.map (some m2)) (.string id) false).run Tryz.prog W = .ok (.string hs) W ∧ (Instr.lookup 103 (.map (some m3)) (.string who) false).run Tryz.prog W = .ok (.bool B) W ∧ W.cell? ⟨E, 2, none⟩ = some (.string id) ∧ W.cell? ⟨E, 3, none⟩ = some (.string who))) (by kernel_rfl) HSP.out (fun hHeld => ?_)
    refine tkY 0 (.pointer (some ⟨gs, 0, none⟩)) rfl hHeld ?_
    refine tkY 1 (.pointer (some ⟨gs, 0, none⟩)) rfl hHeld ?_
    refine tkY 2 (.pointer (some ⟨gs, 1, none⟩)) rfl hHeld ?_
    refine tkY 3 (.map (some m2)) rfl hHeld ?_
    refine tkY 4 (.pointer (some ⟨E, 2, none⟩)) rfl hHeld ?_
    refine tkY 5 (.string id) rfl hHeld ?_
    refine tkY 6 (.string hs) rfl hHeld ?_
    refine tkY 7 (.bool false) rfl hHeld ?_
    refine tkY 8 (.bool false) rfl hHeld ?_
    refine tkN 9 rfl hHeld ?_
    refine tkN 10 rfl hHeld ?_
    refine tkN 11 rfl hHeld ?_
    refine tkN 12 rfl hHeld ?_
    refine tkN 13 rfl hHeld ?_
    refine tkN 14 rfl hHeld ?_
    refine tkN 15 rfl hHeld ?_
    refine tkN 16 rfl hHeld ?_
    refine tkY 17 (.bool false) rfl hHeld ?_
    refine tkY 18 (.bool false) rfl hHeld ?_
    refine wpAnyH_done (by kernel_rfl) ?_ _
    go_wp2_with fail
    go_ret
    exact ⟨rfl, HB.out⟩
  · cases B
    · show Calls _ _ _ _ (BRet (.bool true) w)
      go_enter Tryz.func77, Tryz.ntmps77
      go_upto_region 1 with (fail)
      rw [← hW0]
      (try rw [← hE])
      clear hW0 hE
      refine wp_region_held_drew (S := (fun W => W.cell? ⟨gp, 0, none⟩ = some (.pointer (some ⟨gs, 0, none⟩)) ∧ W.cell? ⟨gs, 1, none⟩ = some (.map (some m2)) ∧ W.cell? ⟨gs, 2, none⟩ = some (.map (some m3)) ∧ (Instr.lookup 107 (.map (some m2)) (.string id) false).run Tryz.prog W = .ok (.string hs) W ∧ (Instr.lookup 103 (.map (some m3)) (.string who) false).run Tryz.prog W = .ok (.bool false) W ∧ W.cell? ⟨E, 2, none⟩ = some (.string id) ∧ W.cell? ⟨E, 3, none⟩ = some (.string who))) (by kernel_rfl) HSP.out (fun hHeld => ?_)
      refine tkY 0 (.pointer (some ⟨gs, 0, none⟩)) rfl hHeld ?_
      refine tkY 1 (.pointer (some ⟨gs, 0, none⟩)) rfl hHeld ?_
      refine tkY 2 (.pointer (some ⟨gs, 1, none⟩)) rfl hHeld ?_
      refine tkY 3 (.map (some m2)) rfl hHeld ?_
      refine tkY 4 (.pointer (some ⟨E, 2, none⟩)) rfl hHeld ?_
      refine tkY 5 (.string id) rfl hHeld ?_
      refine tkY 6 (.string hs) rfl hHeld ?_
      refine tkY 7 (.bool true) rfl hHeld ?_
      refine tkY 8 (.bool true) rfl hHeld ?_
      refine tkY 9 (.pointer (some ⟨gs, 0, none⟩)) rfl hHeld ?_
      refine tkY 10 (.pointer (some ⟨gs, 0, none⟩)) rfl hHeld ?_
      refine tkY 11 (.pointer (some ⟨gs, 2, none⟩)) rfl hHeld ?_
      refine tkY 12 (.map (some m3)) rfl hHeld ?_
      refine tkY 13 (.pointer (some ⟨E, 3, none⟩)) rfl hHeld ?_
      refine tkY 14 (.string who) rfl hHeld ?_
      refine tkY 15 (.bool false) rfl hHeld ?_
      refine tkY 16 (.bool true) rfl hHeld ?_
      refine tkY 17 (.bool true) rfl hHeld ?_
      refine tkY 18 (.bool true) rfl hHeld ?_
      refine wpAnyH_done (by kernel_rfl) ?_ _
      go_wp2_with fail
      go_ret
      exact ⟨rfl, HB.out⟩
    · show Calls _ _ _ _ (BRet (.bool false) w)
      go_enter Tryz.func77, Tryz.ntmps77
      go_upto_region 1 with (fail)
      rw [← hW0]
      (try rw [← hE])
      clear hW0 hE
      refine wp_region_held_drew (S := (fun W => W.cell? ⟨gp, 0, none⟩ = some (.pointer (some ⟨gs, 0, none⟩)) ∧ W.cell? ⟨gs, 1, none⟩ = some (.map (some m2)) ∧ W.cell? ⟨gs, 2, none⟩ = some (.map (some m3)) ∧ (Instr.lookup 107 (.map (some m2)) (.string id) false).run Tryz.prog W = .ok (.string hs) W ∧ (Instr.lookup 103 (.map (some m3)) (.string who) false).run Tryz.prog W = .ok (.bool true) W ∧ W.cell? ⟨E, 2, none⟩ = some (.string id) ∧ W.cell? ⟨E, 3, none⟩ = some (.string who))) (by kernel_rfl) HSP.out (fun hHeld => ?_)
      refine tkY 0 (.pointer (some ⟨gs, 0, none⟩)) rfl hHeld ?_
      refine tkY 1 (.pointer (some ⟨gs, 0, none⟩)) rfl hHeld ?_
      refine tkY 2 (.pointer (some ⟨gs, 1, none⟩)) rfl hHeld ?_
      refine tkY 3 (.map (some m2)) rfl hHeld ?_
      refine tkY 4 (.pointer (some ⟨E, 2, none⟩)) rfl hHeld ?_
      refine tkY 5 (.string id) rfl hHeld ?_
      refine tkY 6 (.string hs) rfl hHeld ?_
      refine tkY 7 (.bool true) rfl hHeld ?_
      refine tkY 8 (.bool true) rfl hHeld ?_
      refine tkY 9 (.pointer (some ⟨gs, 0, none⟩)) rfl hHeld ?_
      refine tkY 10 (.pointer (some ⟨gs, 0, none⟩)) rfl hHeld ?_
      refine tkY 11 (.pointer (some ⟨gs, 2, none⟩)) rfl hHeld ?_
      refine tkY 12 (.map (some m3)) rfl hHeld ?_
      refine tkY 13 (.pointer (some ⟨E, 3, none⟩)) rfl hHeld ?_
      refine tkY 14 (.string who) rfl hHeld ?_
      refine tkY 15 (.bool true) rfl hHeld ?_
      refine tkY 16 (.bool false) rfl hHeld ?_
      refine tkY 17 (.bool false) rfl hHeld ?_
      refine tkY 18 (.bool false) rfl hHeld ?_
      refine wpAnyH_done (by kernel_rfl) ?_ _
      go_wp2_with fail
      go_ret
      exact ⟨rfl, HB.out⟩
/-- bounds of a moment -/
def AtB2 (x : Bev) : Prop := 0 ≤ x.at_ ∧ x.at_ ≤ 345686399999
set_option maxRecDepth 100000 in
set_option maxHeartbeats 4000000 in
theorem byAtQ_calls (x y : Bev) (hx : AtB2 x) (hy : AtB2 y) (w : World) : Calls Tryz.prog 78 #[.agg (bevC x).toArray, .agg (bevC y).toArray] w (GrwT (.int .i64 (cmpM x y)) w) := by
  obtain ⟨x0, x1⟩ := hx
  obtain ⟨y0, y1⟩ := hy
  have HE : cmpM x y = if cmpI x.at_ y.at_ = 0 then cmpS x.id y.id else cmpI x.at_ y.at_ := rfl
  have HZ := cmpI_sub x.at_ y.at_
  have HQ : cmpI x.at_ y.at_ = 0 ↔ x.at_ = y.at_ := cmpI_eqX
  obtain ⟨qq1, k1, i1, w1, b1, c1, t1, d1⟩ := x
  obtain ⟨qq2, k2, i2, w2, b2, c2, t2, d2⟩ := y
  simp only at HE HZ HQ x0 x1 y0 y1
  show Calls Tryz.prog 78 #[.agg #[.int .i64 qq1, .int .i64 k1, .string i1, .string w1, .string b1, .string c1, .int .i64 t1, .int .i64 d1], .agg #[.int .i64 qq2, .int .i64 k2, .string i2, .string w2, .string b2, .string c2, .int .i64 t2, .int .i64 d2]] w _
  have HS := Lib.hid (fun W => signI_calls (qq1 - qq2) W)
  rw [HZ] at HS
  have HC := Lib.hid (fun W => strCmp_calls i1 i2 W)
  have HG := Lib.hid (grw_one w (.cells #[.int .i64 qq1, .int .i64 k1, .string i1, .string w1, .string b1, .string c1, .int .i64 t1, .int .i64 d1] 62) (.cells #[.int .i64 qq2, .int .i64 k2, .string i2, .string w2, .string b2, .string c2, .int .i64 t2, .int .i64 d2] 62))
  have hw : IntKind.i64.wrap (qq1 - qq2) = qq1 - qq2 := IntWalk.i64_in _ (by omega)
  by_cases hd : qq1 = qq2
  · rw [if_pos (HQ.2 hd)] at HE
    rw [HE]
    subst hd
    clear HE HZ HQ HS hw x0 x1 y0 y1
    go_enter Tryz.func78, Tryz.ntmps78
    go_wp2_with fail
    refine (HC.out _).mono ?_
    rintro e w3 ⟨rfl, rfl⟩
    go_wp2_with fail
    go_ret
    exact ⟨rfl, HG.out⟩
  · rw [if_neg (fun h => hd (HQ.1 h))] at HE
    rw [HE]
    have hne : (qq1 != qq2) = true := by rw [bne_iff_ne]; exact hd
    clear HE HZ HQ HC hd
    go_enter Tryz.func78, Tryz.ntmps78
    go_wp2_with fail
    refine (HS.out _).mono ?_
    rintro e w3 ⟨rfl, rfl⟩
    go_wp2_with fail
    go_ret
    exact ⟨rfl, HG.out⟩
instance instBevA2 : Inhabited {x : Bev // AtB2 x} := ⟨⟨zBev, by unfold AtB2; exact ⟨by decide, by decide⟩⟩⟩
theorem sortWtQ_calls (w0 w : World) (g n c : Nat) (xs : List Bev) (l : List Rsc) (hx : ∀ x ∈ xs, AtB2 x) (hn : n ≤ 100000) (hS : Sq w0 w (rOwn w0.heap.size 62 8 (.slice (some ⟨g, 0, none⟩) n c) n (xs.flatMap bevC) :: l)) :
    Calls Tryz.prog 63 #[.slice (some ⟨g, 0, none⟩) n c, .func (.func 78) #[] #[]] w (SrtT w0 62 8 bevC g n c xs cmpM l) :=
  srtT_calls (P := AtB2) (k := 8) Tryz.sortEvF bevC_len (by decide) bevC_oneT Tryz.isAgg62 Tryz.sizeOf62 cmpM ord3_cmpM 78 #[] (enters_of Tryz.func78 (by kernel_rfl) rfl) w0 w g n c xs l hx hn
    (fun x y W hx hy _ => byAtQ_calls x y hx hy W) hS
theorem sortWtQ_none (w : World) (A : Option Addr) (c : Nat) :
    Calls Tryz.prog 63 #[.slice A 0 c, .func (.func 78) #[] #[]] w fun e w' => e = .returned (.tuple #[]) ∧ w' = w :=
  AnyF.slices_SortFunc_none Tryz.sortEvF A c _ w
/-- the runs that wait in new memory -/
def WtO (D : Dsk) (w0 : World) (e : Ending) (w' : World) : Prop :=
  ∃ (A : Option Addr) (c : Nat) (ys : List Bev), e = .returned (.slice A ys.length c) ∧ SwtR D ys ∧ Sq w0 w' [rOwn w0.heap.size 62 8 (.slice A ys.length c) ys.length (ys.flatMap bevC)]
set_option maxRecDepth 100000 in
set_option maxHeartbeats 8000000 in
theorem chosenW_calls (gs m1 m2 m3 n n2 n3 gp : Nat) (V : Value) (D : Dsk) (w0 w : World) (hK : KD D) (hz : D.rn.length ≤ 3000) (hat : ∀ x ∈ wtd D, AtB2 x)
    (hS : Sq w0 w (sitL gs m1 n m2 n2 m3 n3 V D [rBlk gp 111 #[.pointer (some ⟨gs, 0, none⟩)]])) :
    Calls Tryz.prog 76 #[.pointer (some ⟨gs, 0, none⟩), .func (.func 77) #[] #[.pointer (some ⟨gp, 0, none⟩)], .func (.func 78) #[] #[]] w (WtO D w0) := by
  obtain ⟨i0, hi, hz0, hz1, hz2⟩ : ∃ i0, Tryz.prog.info? 62 = some i0 ∧ i0.zero = some (.agg #[.int .i64 0, .int .i64 0, .string ⟨#[]⟩, .string ⟨#[]⟩, .string ⟨#[]⟩, .string ⟨#[]⟩, .int .i64 0, .int .i64 0]) ∧ i0.size = 8 ∧ i0.bytes = 96 := by
    have h := info_bev
    cases hh : Tryz.prog.info? 62 with
    | none => rw [hh] at h; cases h
    | some i => rw [hh] at h; injection h with h; injection h with h1 h; injection h with h2 h3; exact ⟨i, rfl, h1, h2, h3⟩
  unfold sitL at hS
  have hS1 := hS.front 1 rfl rfl
  have HMP : MapS w 9 m1 n (evF D) := hS1.head
  have c0 := (hS1.nth 1 rfl : Blk w gs _ _).cell 0
  have HK := Lib.hid hK
  have HAT := Lib.hid hat
  clear hS hK hat
  go_enter Tryz.func76, Tryz.ntmps76
  go_wp2_with (first | (at_range; refine wpList_range_map _ rfl _ 106 rfl 9 62 Tryz.underlying9 Tryz.underlying106 m1 n (evF D) rfl HMP ?_; intro w1 cnt0 hr0 hg0 hs0))
  go_frame
  have hS2 := (hS1.rngStart hr0 hg0).nil w0.heap.size 62 8
  obtain ⟨r, hr⟩ : ∃ r, r = w.heap.size := ⟨_, rfl⟩
  rw [← hr] at hS2 ⊢
  clear hS1 hr0 hg0 hs0 HMP hr c0
  go_loopw [7] (fun s7 wr => ∃ (A : Option Addr) (c : Nat) (seen : List ByteArray) (cnt : Nat) (ys : List Bev), s7 = .slice A ys.length c ∧ Hid (ys = seen.filterMap (wtOne D)) ∧ Hid (∀ s ∈ seen, s.size ≤ maxLen ∧ ∃ r, rnOf D s = some r) ∧ Sq w0 wr [rOwn w0.heap.size 62 8 (.slice A ys.length c) ys.length (ys.flatMap bevC), rRng 9 m1 r n (evF D) seen cnt, rBlk gs 110 #[.map (some m1), .map (some m2), .map (some m3), V], rMap 9 m2 n2 (stF D), rMap 9 m3 n3 (bnF D), rBlk gp 111 #[.pointer (some ⟨gs, 0, none⟩)]]) (fun _ wr => wr.rangeLeft m1 r)
  case atStart => exact ⟨none, 0, [], cnt0, [], rfl, Lib.hid rfl, Lib.hid (fun s hs => by cases hs), hS2⟩
  case round =>
    clear hS2
    obtain ⟨A, c, seen, cnt, ys, rfl, HY, HSN, hS⟩ := hrel
    have hrg : RngS wr 9 m1 r n (evF D) seen cnt := hS.nth 1 rfl
    have hnd := hrg.nodup
    have hyl : ys.length ≤ 3000 := by
      have h1 := seen_len hnd (fun s hs => (HSN.out s hs).2)
      have h2 := List.length_filterMap_le (wtOne D) seen
      rw [← HY.out] at h2
      omega
    go_wp2_with (first | (at_next; refine wpList_next_map _ rfl _ rfl 9 Tryz.underlying9 m1 r n (evF D) seen cnt rfl hrg ?_ ?_))
    · intro hdone
      have HP : Hid (ys.Perm (wtd D)) := Lib.hid (by rw [HY.out]; exact wtd_perm HK.out hnd (fun s hs => (HSN.out s hs).1) hdone)
      have hT := ((((hS.drop 5 rfl rfl).drop 4 rfl rfl).drop 3 rfl rfl).drop 2 rfl rfl).drop 1 rfl rfl
      have hown : wr.ownsRow w0.heap.size 62 8 (.slice A ys.length c) ys.length (ys.flatMap bevC) := hT.head
      clear hS hrg hdone HSN HY hnd
      by_cases h0 : ys.length = 0
      · have hnil : ys = [] := List.length_eq_zero_iff.1 h0
        subst hnil
        have HN := Lib.hid (sortWtQ_none wr A c)
        have HFI : Hid (WtO D w0 (.returned (.slice A 0 c)) wr) := Lib.hid ⟨A, c, [], rfl, ⟨HP.out, List.Pairwise.nil⟩, hT⟩
        clear hT hown HP
        go_wp2_with (fail)
        refine HN.out.mono ?_
        rintro e w5 ⟨rfl, rfl⟩
        go_wp2_with (fail)
        go_ret
        exact HFI.out
      · obtain ⟨g, hA⟩ : ∃ g, A = some ⟨g, 0, none⟩ := by
          rcases hown.2 with ⟨he, hx⟩ | ⟨g, cap, cur, he, _⟩
          · exact absurd (by injection he) h0
          · injection he with he; exact ⟨g, he⟩
        subst hA
        have HC := Lib.hid (sortWtQ_calls w0 wr g ys.length c ys [] (fun x hx => HAT.out x (HP.out.mem_iff.1 hx)) (by omega) hT)
        obtain ⟨m, hm⟩ : ∃ m, ys.length = m := ⟨_, rfl⟩
        rw [hm] at HC ⊢
        have HM := Lib.hid hm
        clear hT hown hyl hm h0
        go_wp2_with (fail)
        refine HC.out.mono ?_
        rintro e w5 ⟨rfl, zs, hp, hso, hT2⟩
        have HFI : Hid (WtO D w0 (.returned (.slice (some ⟨g, 0, none⟩) m c)) w5) := Lib.hid (by
          have hl : zs.length = m := by rw [hp.length_eq]; exact HM.out
          rw [← hl] at hT2 ⊢
          exact ⟨_, c, zs, rfl, ⟨hp.trans HP.out, hso⟩, hT2⟩)
        clear hT2
        go_wp2_with (fail)
        go_ret
        exact HFI.out
    · intro s v w2 cnt2 hnew hsl hf hrg2 hlt2 hg2 hs2 hen
      have hl1 : wr.rangeLeft m1 r = cnt := hrg.left
      have hS2 := (hS.front 1 rfl rfl).rngStep hrg2 hg2
      clear hrg hS
      obtain ⟨⟨⟨at_, kd, id, who, by1, ct, tm, dt⟩, k⟩, hrn⟩ : ∃ z, rnOf D s = some z := evF_some.1 (by rw [hf]; rfl)
      have hv : v = .agg #[.int .i64 at_, .int .i64 kd, .string id, .string who, .string by1, .string ct, .int .i64 tm, .int .i64 dt] := by
        have h := hf
        unfold evF at h
        rw [hrn] at h
        injection h with h
        exact h.symm
      have hid : id = s := (rnOf_mem hrn).2
      have HSN2 : Hid (∀ t ∈ seen ++ [s], t.size ≤ maxLen ∧ ∃ r, rnOf D t = some r) := Lib.hid (fun t ht => by
        rcases List.mem_append.1 ht with ht | ht
        · exact HSN.out t ht
        · simp at ht; subst ht; exact ⟨hsl, _, hrn⟩)
      have HY2 : Hid (ys ++ (if inW D (⟨at_, kd, id, who, by1, ct, tm, dt⟩, k) = true then [⟨at_, kd, id, who, by1, ct, tm, dt⟩] else []) = (seen ++ [s]).filterMap (wtOne D)) := Lib.hid (by
        rw [List.filterMap_append, ← HY.out]
        congr 1
        have e : wtOne D s = if inW D (⟨at_, kd, id, who, by1, ct, tm, dt⟩, k) = true then some ⟨at_, kd, id, who, by1, ct, tm, dt⟩ else none := by unfold wtOne; rw [hrn]
        by_cases h : inW D (⟨at_, kd, id, who, by1, ct, tm, dt⟩, k) = true
        · rw [if_pos h] at e ⊢
          rw [List.filterMap_cons_some e]
          rfl
        · rw [if_neg h] at e ⊢
          rw [List.filterMap_cons_none e]
          rfl)
      have hE2 : (stF D id).getD (.string ⟨#[]⟩) = .string (hwV k) := by unfold stF; rw [hid, hrn]; rfl
      have hwz := HK.out.wz _ (rnOf_mem hrn).1
      have hiz := HK.out.iz _ (rnOf_mem hrn).1
      subst hv
      obtain ⟨I, hI⟩ : ∃ b, inW D (⟨at_, kd, id, who, by1, ct, tm, dt⟩, k) = b := ⟨_, rfl⟩
      have HI : Hid ((((hwV k).toList == [119, 97, 105, 116, 115]) && !(D.bn who)) = I) := Lib.hid hI
      rw [hI] at HY2
      simp only at hwz hiz
      have hSE := hS2.add #[.int .i64 at_, .int .i64 kd, .string id, .string who, .string by1, .string ct, .int .i64 tm, .int .i64 dt] 62
      obtain ⟨WE, hWE⟩ : ∃ W, W = w2.alloc (.cells #[.int .i64 at_, .int .i64 kd, .string id, .string who, .string by1, .string ct, .int .i64 tm, .int .i64 dt] 62) := ⟨_, rfl⟩
      rw [← hWE] at hSE
      have HFU := Lib.hid (inWait_calls gp gs m2 m3 (hwV k) (D.bn who) at_ kd tm dt id who by1 ct WE (fun W hW => by
        have hSW := hSE.callB hW
        have hb : Blk W gs _ #[.map (some m1), .map (some m2), .map (some m3), V] := hSW.nth 3 rfl
        have hM2 : MapS W 9 m2 n2 (stF D) := hSW.nth 4 rfl
        have hM3 : MapS W 9 m3 n3 (bnF D) := hSW.nth 5 rfl
        have hp : Blk W gp _ #[.pointer (some ⟨gs, 0, none⟩)] := hSW.nth 6 rfl
        have l2 := hM2.look (t := 107) (e := 9) Tryz.underlying9 Tryz.underlying107 (zero_str W) (s := id) (by unfold maxLen; omega)
        have l3 := hM3.look (t := 103) (e := 4) Tryz.underlying9 Tryz.underlying103 (zero_bol W) (s := who) (by unfold maxLen; omega)
        rw [hE2] at l2
        rw [bnF_get HK.out] at l3
        exact ⟨hp.cell 0, hb.cell 1, hb.cell 2, l2, l3⟩))
      rw [HI.out] at HFU
      clear hE2 hwz hiz hI HI hid hrn hf hnew hsl HSN HY hS2 hs2
      have hlt3 : cnt2 < wr.rangeLeft m1 r := by rw [hl1]; exact hlt2
      have HLT := Lib.hid hlt3
      clear hl1 hlt2 hlt3 hg2 hrg2
      go_wp2_with fail
      rw [← hWE]
      refine HFU.out.mono ?_
      rintro e w5 ⟨rfl, hb5⟩
      obtain ⟨E, hE⟩ : ∃ E, E = w2.heap.size := ⟨_, rfl⟩
      rw [← hE] at hSE ⊢
      have hS5 := hSE.callB hb5
      clear HFU hSE hb5 hWE hE hen
      cases I
      · replace hS5 := (hS5.drop 0 rfl rfl).front 1 rfl rfl
        rw [if_neg (by decide), List.append_nil] at HY2
        have hrl : w5.rangeLeft m1 r = cnt2 := (show RngS w5 _ m1 r n _ _ cnt2 from hS5.nth 1 rfl).left
        go_wp2_with fail
        go_roundw
        case rel => exact ⟨A, c, seen ++ [s], cnt2, ys, rfl, HY2, HSN2, hS5⟩
        case measure => rw [hrl]; exact HLT.out
      · rw [if_pos rfl] at HY2
        have bE : Blk w5 E _ _ := hS5.head
        have e0 := bE.cell 0
        have e1 := bE.cell 1
        have e2 := bE.cell 2
        have e3 := bE.cell 3
        have e4 := bE.cell 4
        have e5 := bE.cell 5
        have e6 := bE.cell 6
        have e7 := bE.cell 7
        have hSf := hS5.front 2 rfl rfl
        have HO5 : w5.ownsRow w0.heap.size 62 8 (.slice A ys.length c) ys.length (ys.flatMap bevC) := hSf.head
        have hsz := hSf.size
        clear bE hS5
        go_wp2_with (first
          | (at_builtin; refine wpList_append_own_at _ rfl _ _ 26 rfl w0.heap.size 62 i0 (.agg #[.int .i64 0, .int .i64 0, .string ⟨#[]⟩, .string ⟨#[]⟩, .string ⟨#[]⟩, .string ⟨#[]⟩, .int .i64 0, .int .i64 0]) 8 96 Tryz.underlying26 hi hz0 hz1 hz2 rfl (by decide) _ _ _ rfl (HO5.alloc _) ⟨w5.heap.size, 0, none⟩ 1 1 [.int .i64 at_, .int .i64 kd, .string id, .string who, .string by1, .string ct, .int .i64 tm, .int .i64 dt] rfl rfl (World.news_of_block (heap_alloc_new _ _)) (one8e rfl rfl rfl rfl rfl rfl rfl rfl) (by unfold maxLen; omega) (by omega) (by simp; omega) ?_; intro v' w11 hown' hgrow _ hblk; have hS9 := (hSf.alloc _).append hown' hgrow hblk; obtain ⟨A8, c8, hv8⟩ := own_form hown'; subst hv8; clear hown' hgrow hblk))
        have hS10 := hS9.drop 1 rfl rfl
        have hrl : w11.rangeLeft m1 r = cnt2 := (show RngS w11 _ m1 r n _ _ cnt2 from hS10.nth 1 rfl).left
        go_roundw
        case rel => exact ⟨A8, c8, seen ++ [s], cnt2, ys ++ [⟨at_, kd, id, who, by1, ct, tm, dt⟩], by rw [List.length_append]; rfl, HY2, HSN2, by rw [bev_snoc, List.length_append]; exact hS10⟩
        case measure => rw [hrl]; exact HLT.out
end Go.Proofs.YtebaaoacmmhppaaGreat
