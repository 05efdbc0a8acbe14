/-
  splitref2.(*site).follow, whole. (Printed by gen_sk3.py.)
-/
import Derived.Test.YtapgnaimbgjcnaaGreatDoorZSk1R
import Derived.Test.YtapgnaimbgjcnaaGreatDoorZSk3
import Derived.Test.YtapgnaimbgjcnaaGreatDoorZSk4
import Derived.Test.YtapgnaimbgjcnaaGreatDoorZSk5
import Derived.Test.YtapgnaimbgjcnaaGreatDoorZSk6
import Derived.Test.YtapgnaimbgjcnaaGreatDoorZTk
import Derived.Test.YtapgnaimbgjcnaaGreatDoorZDk5
import Derived.Deep.RegionHeld3
import Derived.RegionTactic
import Derived.Deep.DeepCutAuto
import Derived.Deep.CutBlock
namespace Go.Proofs.YtapgnaimbgjcnaaGreatDoor
open Go Go.RowKit
theorem folS_calls (w0 : World) (gs m1 m2 m3 n : Nat) (V : Value) (D : Dsk) (l : List Rsc) (x : Bev) (w : World) (hS : Sq w0 w (sitL gs m1 n m2 n m3 n V D l)) (hK : KD D) (hn : n ≤ 100000) (hx : EvK x) :
 Calls Tryz.prog 142 #[.pointer (some ⟨gs, 0, none⟩), .agg (bevC x).toArray] w (FolS w0 gs m1 m2 m3 n V D l (stpE D x)) := by
 obtain ⟨at_, kd, id, who, by1, ct, tm, dt⟩ := x
 show Calls Tryz.prog 142 #[.pointer (some ⟨gs, 0, none⟩), .agg #[.int .i64 at_, .int .i64 kd, .string id, .string who, .string by1, .string ct, .int .i64 tm, .int .i64 dt]] w _
 have hkd := hx.kd
 have hb0 := hx.b0
 simp only at hkd hb0
 have kc : kd = 1 ∨ kd = 2 ∨ kd = 3 ∨ kd = 4 ∨ kd = 5 ∨ kd = 6 := by omega
 rcases kc with rfl | rfl | rfl | rfl | rfl | rfl
 · exact fosK1_calls w0 gs m1 m2 m3 n V D l at_ tm dt id who by1 ct w hS hK hn hx (by rw [hb0 (.inl rfl)]; exact hK.noBy)
 · exact fosK2_calls w0 gs m1 m2 m3 n V D l at_ tm dt id who by1 ct w hS hK hn hx
 · exact fosK3_calls w0 gs m1 m2 m3 n V D l at_ tm dt id who by1 ct w hS hK hn hx
 · exact fosK4_calls w0 gs m1 m2 m3 n V D l at_ tm dt id who by1 ct w hS hK hn hx (by rw [hb0 (.inr rfl)]; exact hK.noBy)
 · exact fosK5_calls w0 gs m1 m2 m3 n V D l at_ tm dt id who by1 ct w hS hK hn hx
 · exact fosK6_calls w0 gs m1 m2 m3 n V D l at_ tm dt id who by1 ct w hS hK hn hx
end Go.Proofs.YtapgnaimbgjcnaaGreatDoor
/-
  splitref2.siteAt: the site behind the events up to a moment. (Printed by gen_sk8.py.)
-/
namespace Go.Proofs.YtapgnaimbgjcnaaGreatDoor
open Go Go.RowKit
attribute [local go_sem ↓] Go.wp_at_zero Go.wp_at_succ
theorem oper_app_run {P : Program} {w w' : World} {o : Oper} {a : Act} {K : Act → World → Prop} {Q : Exit → Act → World → Prop} (s x : Operand) (t : TypeId)
 (ho : o.op = .call { callee := .builtin .append, args := #[s, x], argTypes := #[t, t] }) {v y v' : Value} (hs : a.eval s = v) (hx : a.eval x = y)
 (hr : (Builtin.append_ #[t, t] o.type #[v, y]).run P w = .ok v' w') (h : K (a.put o.dst v') w') : o.wp P a w K Q := by
 unfold Oper.wp execOp
 simp only [ho, resolve, invoke, builtin, Sem.run_bind, Sem.run_pure, Result.andThen_ok, List.map_toArray, List.map_cons, List.map_nil, hs, hx, hr]
 exact h
theorem info_bool : (Tryz.prog.info? 4).map (fun i => (i.zero, i.size, i.bytes)) = some (some (.bool false), 1, 1) := by kernel_rfl
def AtS (l : List Bev) (u : Int) (w : World) (e : Ending) (w' : World) : Prop :=
 ∃ (gs m1 m2 m3 n1 n2 n3 : Nat) (V : Value), e = .returned (.pointer (some ⟨gs, 0, none⟩)) ∧ KD (folE l u).1 ∧ n1 ≤ l.length ∧ n2 ≤ l.length ∧ n3 ≤ l.length ∧ Sq w w' (sitL gs m1 n1 m2 n2 m3 n3 V (folE l u).1 [rOwn w.heap.size 4 1 V (folE l u).2.length ((folE l u).2.map .bool)])
set_option maxRecDepth 100000 in
set_option maxHeartbeats 8000000 in
theorem siteAt_calls (b : Nat) (A : Option Addr) (n c : Nat) (l : List Bev) (u : Int) (w : World) (hr : Rd w b 8 (.slice A n c) n (l.flatMap bevC)) (hk : ∀ x ∈ l, EvK x) (hn : n ≤ 3000) :
 Calls Tryz.prog 93 #[.slice A n c, .int .i64 u] w (AtS l u w) := by
 obtain ⟨hl, hnc, hcm, hcells⟩ := hr.cells bevC_len (by omega)
 unfold maxLen at hcm
 obtain ⟨i0, hi, hz0, hz1, hz2⟩ : ∃ i0, Tryz.prog.info? 4 = some i0 ∧ i0.zero = some (.bool false) ∧ i0.size = 1 ∧ i0.bytes = 1 := by
  have h := info_bool
  cases hh : Tryz.prog.info? 4 with
  | none => rw [hh] at h; cases h
  | some i => rw [hh] at h; injection h with h; injection h with h1 h; injection h with h2 h3; exact ⟨i, rfl, h1, h2, h3⟩
 have HL := Lib.hid hl
 have HC := Lib.hid hcells
 have HKE := Lib.hid hk
 have hmm := @run_makeMap Tryz.prog
 obtain ⟨q, hq⟩ : ∃ q, q = w.heap.size := ⟨_, rfl⟩
 have hS0 : Sq w ((((w.alloc (.map #[] 0)).alloc (.map #[] 0)).alloc (.map #[] 0)).alloc (.cells #[.map (some q), .map (some (q + 1)), .map (some (q + 2)), .slice none 0 0] 140)) (sitL (q + 3) q 0 (q + 1) 0 (q + 2) 0 (.slice none 0 0) dsk0 [rOwn w.heap.size 4 1 (.slice none 0 0) 0 []]) := by
  have h := (((((Sq.start w).addMap 9).addMap 9).addMap 9).add #[.map (some w.heap.size), .map (some (w.heap.size + 1)), .map (some (w.heap.size + 2)), .slice none 0 0] 140).nil w.heap.size 4 1
  simp only [size1] at h
  subst hq
  exact (((h.front 2 rfl rfl).front 3 rfl rfl).front 4 rfl rfl).front 4 rfl rfl
 clear hcells hl hr hk
 go_enter Tryz.func93, Tryz.ntmps93
 go_wp2_with fail
 clear hmm
 rw [← hq]
 obtain ⟨W0, hW0⟩ : ∃ W0, W0 = (((w.alloc (.map #[] 0)).alloc (.map #[] 0)).alloc (.map #[] 0)).alloc (.cells #[.map (some q), .map (some (q + 1)), .map (some (q + 2)), .slice none 0 0] 140) := ⟨_, rfl⟩
 rw [← hW0] at hS0 ⊢
 clear hW0 hq
 go_loopw [15] (fun s15 wr => ∃ (k n1 n2 n3 : Nat) (V : Value) (B : List Bool) (D : Dsk), k ≤ n ∧ s15 = .int .i64 k ∧ n1 ≤ k ∧ n2 ≤ k ∧ n3 ≤ k ∧ Hid (folE (l.take k) u = (D, B)) ∧ B.length ≤ k ∧ Sq w wr (sitL (q + 3) q n1 (q + 1) n2 (q + 2) n3 V D [rOwn w.heap.size 4 1 V B.length (B.map .bool)])) (fun s15 _ => n - (intOf s15).toNat)
 case atStart => exact ⟨0, 0, 0, 0, .slice none 0 0, [], dsk0, Nat.zero_le _, rfl, Nat.le_refl _, Nat.le_refl _, Nat.le_refl _, Lib.hid (by rw [List.take_zero]; rfl), Nat.le_refl _, hS0⟩
 case round =>
  clear hS0
  obtain ⟨k, n1, n2, n3, V, B, D, hk, rfl, hn1, hn2, hn3, HF, hB, hS⟩ := hrel
  obtain ⟨wo, hwo⟩ : ∃ z, z = wr := ⟨_, rfl⟩
  subst hwo
  by_cases hlt : k < n
  · have hkr : k < l.length := by rw [HL.out]; exact hlt
    obtain ⟨g, o, hA, _, hcs⟩ := HC.out (by omega)
    subst hA
    obtain ⟨x, hx⟩ : ∃ x, l[k] = x := ⟨_, rfl⟩
    have c0 := below_cell hS.below (hcs k hkr 0 (by omega))
    have c1 := below_cell hS.below (hcs k hkr 1 (by omega))
    have c2 := below_cell hS.below (hcs k hkr 2 (by omega))
    have c3 := below_cell hS.below (hcs k hkr 3 (by omega))
    have c4 := below_cell hS.below (hcs k hkr 4 (by omega))
    have c5 := below_cell hS.below (hcs k hkr 5 (by omega))
    have c6 := below_cell hS.below (hcs k hkr 6 (by omega))
    have c7 := below_cell hS.below (hcs k hkr 7 (by omega))
    rw [hx] at c0 c1 c2 c3 c4 c5 c6 c7
    have hxk : EvK x := by rw [← hx]; exact HKE.out _ (List.getElem_mem hkr)
    have hstep : folE (l.take (k + 1)) u = accE u (folE (l.take k) u) x := by rw [folE_step l u k hkr, hx]
    have hKD : KD D := by have h := KD.fol l u HKE.out k (by omega); rw [HF.out] at h; exact h
    obtain ⟨at_, kd, id, who, by1, ct, tm, dt⟩ := x
    replace c0 : wo.cell? ⟨g, o + k * 8, none⟩ = some (.int .i64 at_) := c0
    replace c1 : wo.cell? ⟨g, o + k * 8 + 1, none⟩ = some (.int .i64 kd) := c1
    replace c2 : wo.cell? ⟨g, o + k * 8 + 2, none⟩ = some (.string id) := c2
    replace c3 : wo.cell? ⟨g, o + k * 8 + 3, none⟩ = some (.string who) := c3
    replace c4 : wo.cell? ⟨g, o + k * 8 + 4, none⟩ = some (.string by1) := c4
    replace c5 : wo.cell? ⟨g, o + k * 8 + 5, none⟩ = some (.string ct) := c5
    replace c6 : wo.cell? ⟨g, o + k * 8 + 6, none⟩ = some (.int .i64 tm) := c6
    replace c7 : wo.cell? ⟨g, o + k * 8 + 7, none⟩ = some (.int .i64 dt) := c7
    have hk0 : (0 : Int) ≤ (k : Int) := by omega
    have hk1 : (k : Int) < (n : Int) := by omega
    have HST := Lib.hid hstep
    clear hcs hx hstep
    by_cases hle : at_ ≤ u
    · obtain ⟨E, hE⟩ : ∃ E, E = wo.heap.size := ⟨_, rfl⟩
      have hSa := hS.add #[.int .i64 at_, .int .i64 kd, .string id, .string who, .string by1, .string ct, .int .i64 tm, .int .i64 dt] 78
      rw [← hE] at hSa
      have hSb : Sq w (wo.alloc (.cells #[.int .i64 at_, .int .i64 kd, .string id, .string who, .string by1, .string ct, .int .i64 tm, .int .i64 dt] 78)) (sitL (q + 3) q k (q + 1) k (q + 2) k V D [rBlk E 78 #[.int .i64 at_, .int .i64 kd, .string id, .string who, .string by1, .string ct, .int .i64 tm, .int .i64 dt], rOwn w.heap.size 4 1 V B.length (B.map .bool)]) := by
       unfold sitL at hSa ⊢
       have h1 := rMap_moreE (hSa.front 4 rfl rfl) hn3
       have h2 := rMap_moreE (h1.front 4 rfl rfl) hn2
       have h3 := rMap_moreE (h2.front 4 rfl rfl) hn1
       exact h3.front 4 rfl rfl
      obtain ⟨s, hs⟩ : ∃ s, s = stpE D ⟨at_, kd, id, who, by1, ct, tm, dt⟩ := ⟨_, rfl⟩
      have HD2' : Hid (folE (l.take (k + 1)) u = (s.getD D, B ++ [s.isSome])) := Lib.hid (by
       rw [HST.out]
       have hF := HF.out
       cases s with
       | none => rw [accE_none hle (by rw [hF]; exact hs.symm), hF]; rfl
       | some D' => rw [accE_some hle (by rw [hF]; exact hs.symm), hF]; rfl)
      have HA' : Hid (∀ W, Sq w W (sitL (q + 3) q k (q + 1) k (q + 2) k V D [rBlk E 78 #[.int .i64 at_, .int .i64 kd, .string id, .string who, .string by1, .string ct, .int .i64 tm, .int .i64 dt], rOwn w.heap.size 4 1 V B.length (B.map .bool)]) → Calls Tryz.prog 142 #[.pointer (some ⟨q + 3, 0, none⟩), .agg #[.int .i64 at_, .int .i64 kd, .string id, .string who, .string by1, .string ct, .int .i64 tm, .int .i64 dt]] W (fun e w' => ∃ n4 n5 n6 : Nat, e = .returned (.bool s.isSome) ∧ n4 ≤ k + 1 ∧ n5 ≤ k + 1 ∧ n6 ≤ k + 1 ∧ Sq w w' (sitL (q + 3) q n4 (q + 1) n5 (q + 2) n6 V (s.getD D) [rBlk E 78 #[.int .i64 at_, .int .i64 kd, .string id, .string who, .string by1, .string ct, .int .i64 tm, .int .i64 dt], rOwn w.heap.size 4 1 V B.length (B.map .bool)]))) := Lib.hid (fun W h => by
       rw [hs]
       exact folS_calls w (q + 3) q (q + 1) (q + 2) k V D _ ⟨at_, kd, id, who, by1, ct, tm, dt⟩ W h hKD (by omega) hxk)
      obtain ⟨D2, hD2⟩ : ∃ D2, s.getD D = D2 := ⟨_, rfl⟩
      obtain ⟨ok, hok⟩ : ∃ ok, s.isSome = ok := ⟨_, rfl⟩
      have HD2 : Hid (folE (l.take (k + 1)) u = (D2, B ++ [ok])) := Lib.hid (by rw [← hD2, ← hok]; exact HD2'.out)
      have HA : Hid (∀ W, Sq w W (sitL (q + 3) q k (q + 1) k (q + 2) k V D [rBlk E 78 #[.int .i64 at_, .int .i64 kd, .string id, .string who, .string by1, .string ct, .int .i64 tm, .int .i64 dt], rOwn w.heap.size 4 1 V B.length (B.map .bool)]) → Calls Tryz.prog 142 #[.pointer (some ⟨q + 3, 0, none⟩), .agg #[.int .i64 at_, .int .i64 kd, .string id, .string who, .string by1, .string ct, .int .i64 tm, .int .i64 dt]] W (fun e w' => ∃ n4 n5 n6 : Nat, e = .returned (.bool ok) ∧ n4 ≤ k + 1 ∧ n5 ≤ k + 1 ∧ n6 ≤ k + 1 ∧ Sq w w' (sitL (q + 3) q n4 (q + 1) n5 (q + 2) n6 V D2 [rBlk E 78 #[.int .i64 at_, .int .i64 kd, .string id, .string who, .string by1, .string ct, .int .i64 tm, .int .i64 dt], rOwn w.heap.size 4 1 V B.length (B.map .bool)]))) := Lib.hid (by rw [← hD2, ← hok]; exact HA'.out)
      clear hS hSa hKD hxk HST HD2' HA' hs hD2 hok s
      go_wp2_with fail
      clear c0 c1 c2 c3 c4 c5 c6 c7
      (try rw [← hE])
      obtain ⟨wa, hwa⟩ : ∃ W, W = wo.alloc (.cells #[.int .i64 at_, .int .i64 kd, .string id, .string who, .string by1, .string ct, .int .i64 tm, .int .i64 dt] 78) := ⟨_, rfl⟩
      rw [← hwa] at hSb ⊢
      clear hwa hE
      unfold sitL at hSb HA
      have hSc := hSb.drew
      clear hSb
      refine wp_region_held_drew (S := fun _ => True) (by kernel_rfl) trivial (fun hHeld => ?_)
      refine wpAnyH_take (i := 0) (v := .pointer (some ⟨q + 3, 0, none⟩)) rfl (by kernel_rfl) (by kernel_rfl) (by kernel_rfl) (fun _ _ _ h => h) (Or.inl ⟨by rfl, fun V hV => ?_⟩) hHeld ?_
      · first | (go_simp; done) | (go_simp; rfl) | rfl
      try simp only [Act.put, List.getElem_toArray, List.getElem_cons_zero, List.getElem_cons_succ, List.setIfInBounds_toArray, List.set_cons_zero, List.set_cons_succ]
      refine wpAnyH_take (i := 1) (v := .pointer (some ⟨q + 3, 0, none⟩)) rfl (by kernel_rfl) (by kernel_rfl) (by kernel_rfl) (fun _ _ _ h => h) (Or.inl ⟨by rfl, fun V hV => ?_⟩) hHeld ?_
      · first | (go_simp; done) | (go_simp; rfl) | rfl
      try simp only [Act.put, List.getElem_toArray, List.getElem_cons_zero, List.getElem_cons_succ, List.setIfInBounds_toArray, List.set_cons_zero, List.set_cons_succ]
      refine wpAnyH_take (i := 2) (v := .pointer (some ⟨q + 3, 0, none⟩)) rfl (by kernel_rfl) (by kernel_rfl) (by kernel_rfl) (fun _ _ _ h => h) (Or.inl ⟨by rfl, fun V hV => ?_⟩) hHeld ?_
      · first | (go_simp; done) | (go_simp; rfl) | rfl
      try simp only [Act.put, List.getElem_toArray, List.getElem_cons_zero, List.getElem_cons_succ, List.setIfInBounds_toArray, List.set_cons_zero, List.set_cons_succ]
      refine wpAnyH_take (i := 3) (v := .pointer (some ⟨q + 3, 3, none⟩)) rfl (by kernel_rfl) (by kernel_rfl) (by kernel_rfl) (fun _ _ _ h => h) (Or.inl ⟨by rfl, fun V hV => ?_⟩) hHeld ?_
      · first | (go_simp; done) | (go_simp; rfl) | rfl
      try simp only [Act.put, List.getElem_toArray, List.getElem_cons_zero, List.getElem_cons_succ, List.setIfInBounds_toArray, List.set_cons_zero, List.set_cons_succ]
      refine wpAnyH_take (i := 5) (v := .pointer (some ⟨q + 3, 0, none⟩)) rfl (by kernel_rfl) (by kernel_rfl) (by kernel_rfl) (fun _ _ _ h => h) (Or.inl ⟨by rfl, fun V hV => ?_⟩) hHeld ?_
      · first | (go_simp; done) | (go_simp; rfl) | rfl
      try simp only [Act.put, List.getElem_toArray, List.getElem_cons_zero, List.getElem_cons_succ, List.setIfInBounds_toArray, List.set_cons_zero, List.set_cons_succ]
      refine wpAnyH_ready (rs := [4, 6]) (by kernel_rfl) (by simp) ?_
      refine AllReadyH.cons rfl (fun KK hK => ?_) ?_
      · have y4 := (hSc.nth 0 rfl : Blk _ (q + 3) 140 #[.map (some q), .map (some (q + 1)), .map (some (q + 2)), V]).cell 3
        go_simp
        refine hK.out _ _ trivial (fun hHeld => ?_)
        try simp only [Act.put, List.getElem_toArray, List.getElem_cons_zero, List.getElem_cons_succ, List.setIfInBounds_toArray, List.set_cons_zero, List.set_cons_succ]
        clear y4
        refine tkC 6 rfl (fun KK hK => ?_)
        have b6 := (hSc.nth 4 rfl : Blk _ E 78 #[.int .i64 at_, .int .i64 kd, .string id, .string who, .string by1, .string ct, .int .i64 tm, .int .i64 dt])
        have y0 := b6.cell 0
        have y1 := b6.cell 1
        have y2 := b6.cell 2
        have y3 := b6.cell 3
        have y4 := b6.cell 4
        have y5 := b6.cell 5
        have y6 := b6.cell 6
        have y7 := b6.cell 7
        go_simp
        refine hK.out _ _ trivial (fun hHeld => ?_)
        try simp only [Act.put, List.getElem_toArray, List.getElem_cons_zero, List.getElem_cons_succ, List.setIfInBounds_toArray, List.set_cons_zero, List.set_cons_succ]
        clear b6 y0 y1 y2 y3 y4 y5 y6 y7
        refine tkC 7 rfl (fun KK hK => ?_)
        go_simp
        go_at_call 142
        refine (HA.out _ hSc).mono ?_
        rintro e w2 ⟨n4, n5, n6, rfl, h4, h5, h6, hR7⟩
        refine hK.out _ _ trivial (fun hHeld => ?_)
        try simp only [Act.put, List.getElem_toArray, List.getElem_cons_zero, List.getElem_cons_succ, List.setIfInBounds_toArray, List.set_cons_zero, List.set_cons_succ]
        refine tkC 8 rfl (fun KK hK => ?_)
        go_simp
        refine hK.out _ _ trivial (fun hHeld => ?_)
        try simp only [Act.put, List.getElem_toArray, List.getElem_cons_zero, List.getElem_cons_succ, List.setIfInBounds_toArray, List.set_cons_zero, List.set_cons_succ]
        have hR8 := hR7.add #[.bool ok] 4
        refine tkC 9 rfl (fun KK hK => ?_)
        have hF := hR8.front 6 rfl rfl
        have HO5 : World.ownsRow _ w.heap.size 4 1 V B.length (B.map .bool) := hF.head
        have hLit := (hR8.nth 0 rfl : Blk _ w2.heap.size 4 #[.bool ok])
        have hzz := hR8.size
        obtain ⟨v8, w8, hrun, hown8, hgrow8, _, hblk8⟩ := run_append_own_at (P := Tryz.prog) _ w.heap.size 138 138 4 i0 (.bool false) 1 1 Tryz.underlying138 hi hz0 hz1 hz2 rfl (by decide) V B.length (B.map .bool) HO5 ⟨w2.heap.size, 0, none⟩ 1 1 [.bool ok] rfl (World.news_of_block hLit) (one1 rfl) (by unfold maxLen; omega) (by omega) hzz
        refine oper_app_run _ _ 138 rfl rfl rfl hrun ?_
        refine hK.out _ _ trivial (fun hHeld => ?_)
        try simp only [Act.put, List.getElem_toArray, List.getElem_cons_zero, List.getElem_cons_succ, List.setIfInBounds_toArray, List.set_cons_zero, List.set_cons_succ]
        have hR9 := hF.append hown8 hgrow8 hblk8
        obtain ⟨A8, c8, hv8⟩ := own_form hown8
        subst hv8
        clear HO5 hLit hrun hown8 hgrow8 hblk8 hF
        refine wpAnyH_take (i := 10) (v := .pointer (some ⟨q + 3, 0, none⟩)) rfl (by kernel_rfl) (by kernel_rfl) (by kernel_rfl) (fun _ _ _ h => h) (Or.inl ⟨by rfl, fun V hV => ?_⟩) hHeld ?_
        · first | (go_simp; done) | (go_simp; rfl) | rfl
        try simp only [Act.put, List.getElem_toArray, List.getElem_cons_zero, List.getElem_cons_succ, List.setIfInBounds_toArray, List.set_cons_zero, List.set_cons_succ]
        refine wpAnyH_take (i := 11) (v := .pointer (some ⟨q + 3, 3, none⟩)) rfl (by kernel_rfl) (by kernel_rfl) (by kernel_rfl) (fun _ _ _ h => h) (Or.inl ⟨by rfl, fun V hV => ?_⟩) hHeld ?_
        · first | (go_simp; done) | (go_simp; rfl) | rfl
        try simp only [Act.put, List.getElem_toArray, List.getElem_cons_zero, List.getElem_cons_succ, List.setIfInBounds_toArray, List.set_cons_zero, List.set_cons_succ]
        refine tkC 12 rfl (fun KK hK => ?_)
        have hT := hR9.front 2 rfl rfl
        have x4 := (hT.nth 0 rfl : Blk _ (q + 3) 140 #[.map (some q), .map (some (q + 1)), .map (some (q + 2)), V]).cell 3
        have f4 := (hT.nth 0 rfl : Blk _ (q + 3) 140 #[.map (some q), .map (some (q + 1)), .map (some (q + 2)), V]).frozen 3
        go_simp
        refine hK.out _ _ trivial (fun hHeld => ?_)
        try simp only [Act.put, List.getElem_toArray, List.getElem_cons_zero, List.getElem_cons_succ, List.setIfInBounds_toArray, List.set_cons_zero, List.set_cons_succ]
        clear x4 f4
        have hU := hT.set_ 3 (.slice A8 (B.length + 1) c8)
        refine wpAnyH_done (by kernel_rfl) ?_ _
        have hV := (((((hU.drop 6 rfl rfl).drop 2 rfl rfl).front 4 rfl rfl).front 4 rfl rfl).front 4 rfl rfl).front 3 rfl rfl
        clear hU hT hR9
        go_wp2_with fail
        go_roundw
        case rel => exact ⟨k + 1, n4, n5, n6, _, B ++ [ok], D2, by omega, by go_num, by omega, by omega, by omega, HD2, by rw [List.length_append]; simp; omega, by rw [List.length_append, List.map_append]; exact hV⟩
        case measure => simp [intOf]; omega
      refine AllReadyH.cons rfl (fun KK hK => ?_) AllReadyH.nil
      have b6 := (hSc.nth 4 rfl : Blk _ E 78 #[.int .i64 at_, .int .i64 kd, .string id, .string who, .string by1, .string ct, .int .i64 tm, .int .i64 dt])
      have y0 := b6.cell 0
      have y1 := b6.cell 1
      have y2 := b6.cell 2
      have y3 := b6.cell 3
      have y4 := b6.cell 4
      have y5 := b6.cell 5
      have y6 := b6.cell 6
      have y7 := b6.cell 7
      go_simp
      refine hK.out _ _ trivial (fun hHeld => ?_)
      try simp only [Act.put, List.getElem_toArray, List.getElem_cons_zero, List.getElem_cons_succ, List.setIfInBounds_toArray, List.set_cons_zero, List.set_cons_succ]
      clear b6 y0 y1 y2 y3 y4 y5 y6 y7
      refine wpAnyH_ready (rs := [4, 7]) (by kernel_rfl) (by simp) ?_
      refine AllReadyH.cons rfl (fun KK hK => ?_) ?_
      · have y4 := (hSc.nth 0 rfl : Blk _ (q + 3) 140 #[.map (some q), .map (some (q + 1)), .map (some (q + 2)), V]).cell 3
        go_simp
        refine hK.out _ _ trivial (fun hHeld => ?_)
        try simp only [Act.put, List.getElem_toArray, List.getElem_cons_zero, List.getElem_cons_succ, List.setIfInBounds_toArray, List.set_cons_zero, List.set_cons_succ]
        clear y4
        refine tkC 7 rfl (fun KK hK => ?_)
        go_simp
        go_at_call 142
        refine (HA.out _ hSc).mono ?_
        rintro e w2 ⟨n4, n5, n6, rfl, h4, h5, h6, hR7⟩
        refine hK.out _ _ trivial (fun hHeld => ?_)
        try simp only [Act.put, List.getElem_toArray, List.getElem_cons_zero, List.getElem_cons_succ, List.setIfInBounds_toArray, List.set_cons_zero, List.set_cons_succ]
        refine tkC 8 rfl (fun KK hK => ?_)
        go_simp
        refine hK.out _ _ trivial (fun hHeld => ?_)
        try simp only [Act.put, List.getElem_toArray, List.getElem_cons_zero, List.getElem_cons_succ, List.setIfInBounds_toArray, List.set_cons_zero, List.set_cons_succ]
        have hR8 := hR7.add #[.bool ok] 4
        refine tkC 9 rfl (fun KK hK => ?_)
        have hF := hR8.front 6 rfl rfl
        have HO5 : World.ownsRow _ w.heap.size 4 1 V B.length (B.map .bool) := hF.head
        have hLit := (hR8.nth 0 rfl : Blk _ w2.heap.size 4 #[.bool ok])
        have hzz := hR8.size
        obtain ⟨v8, w8, hrun, hown8, hgrow8, _, hblk8⟩ := run_append_own_at (P := Tryz.prog) _ w.heap.size 138 138 4 i0 (.bool false) 1 1 Tryz.underlying138 hi hz0 hz1 hz2 rfl (by decide) V B.length (B.map .bool) HO5 ⟨w2.heap.size, 0, none⟩ 1 1 [.bool ok] rfl (World.news_of_block hLit) (one1 rfl) (by unfold maxLen; omega) (by omega) hzz
        refine oper_app_run _ _ 138 rfl rfl rfl hrun ?_
        refine hK.out _ _ trivial (fun hHeld => ?_)
        try simp only [Act.put, List.getElem_toArray, List.getElem_cons_zero, List.getElem_cons_succ, List.setIfInBounds_toArray, List.set_cons_zero, List.set_cons_succ]
        have hR9 := hF.append hown8 hgrow8 hblk8
        obtain ⟨A8, c8, hv8⟩ := own_form hown8
        subst hv8
        clear HO5 hLit hrun hown8 hgrow8 hblk8 hF
        refine wpAnyH_take (i := 10) (v := .pointer (some ⟨q + 3, 0, none⟩)) rfl (by kernel_rfl) (by kernel_rfl) (by kernel_rfl) (fun _ _ _ h => h) (Or.inl ⟨by rfl, fun V hV => ?_⟩) hHeld ?_
        · first | (go_simp; done) | (go_simp; rfl) | rfl
        try simp only [Act.put, List.getElem_toArray, List.getElem_cons_zero, List.getElem_cons_succ, List.setIfInBounds_toArray, List.set_cons_zero, List.set_cons_succ]
        refine wpAnyH_take (i := 11) (v := .pointer (some ⟨q + 3, 3, none⟩)) rfl (by kernel_rfl) (by kernel_rfl) (by kernel_rfl) (fun _ _ _ h => h) (Or.inl ⟨by rfl, fun V hV => ?_⟩) hHeld ?_
        · first | (go_simp; done) | (go_simp; rfl) | rfl
        try simp only [Act.put, List.getElem_toArray, List.getElem_cons_zero, List.getElem_cons_succ, List.setIfInBounds_toArray, List.set_cons_zero, List.set_cons_succ]
        refine tkC 12 rfl (fun KK hK => ?_)
        have hT := hR9.front 2 rfl rfl
        have x4 := (hT.nth 0 rfl : Blk _ (q + 3) 140 #[.map (some q), .map (some (q + 1)), .map (some (q + 2)), V]).cell 3
        have f4 := (hT.nth 0 rfl : Blk _ (q + 3) 140 #[.map (some q), .map (some (q + 1)), .map (some (q + 2)), V]).frozen 3
        go_simp
        refine hK.out _ _ trivial (fun hHeld => ?_)
        try simp only [Act.put, List.getElem_toArray, List.getElem_cons_zero, List.getElem_cons_succ, List.setIfInBounds_toArray, List.set_cons_zero, List.set_cons_succ]
        clear x4 f4
        have hU := hT.set_ 3 (.slice A8 (B.length + 1) c8)
        refine wpAnyH_done (by kernel_rfl) ?_ _
        have hV := (((((hU.drop 6 rfl rfl).drop 2 rfl rfl).front 4 rfl rfl).front 4 rfl rfl).front 4 rfl rfl).front 3 rfl rfl
        clear hU hT hR9
        go_wp2_with fail
        go_roundw
        case rel => exact ⟨k + 1, n4, n5, n6, _, B ++ [ok], D2, by omega, by go_num, by omega, by omega, by omega, HD2, by rw [List.length_append]; simp; omega, by rw [List.length_append, List.map_append]; exact hV⟩
        case measure => simp [intOf]; omega
      refine AllReadyH.cons rfl (fun KK hK => ?_) AllReadyH.nil
      go_simp
      go_at_call 142
      refine (HA.out _ hSc).mono ?_
      rintro e w2 ⟨n4, n5, n6, rfl, h4, h5, h6, hR7⟩
      refine hK.out _ _ trivial (fun hHeld => ?_)
      try simp only [Act.put, List.getElem_toArray, List.getElem_cons_zero, List.getElem_cons_succ, List.setIfInBounds_toArray, List.set_cons_zero, List.set_cons_succ]
      refine wpAnyH_ready (rs := [4, 8]) (by kernel_rfl) (by simp) ?_
      refine AllReadyH.cons rfl (fun KK hK => ?_) ?_
      · have y4 := (hR7.nth 0 rfl : Blk _ (q + 3) 140 #[.map (some q), .map (some (q + 1)), .map (some (q + 2)), V]).cell 3
        go_simp
        refine hK.out _ _ trivial (fun hHeld => ?_)
        try simp only [Act.put, List.getElem_toArray, List.getElem_cons_zero, List.getElem_cons_succ, List.setIfInBounds_toArray, List.set_cons_zero, List.set_cons_succ]
        clear y4
        refine tkC 8 rfl (fun KK hK => ?_)
        go_simp
        refine hK.out _ _ trivial (fun hHeld => ?_)
        try simp only [Act.put, List.getElem_toArray, List.getElem_cons_zero, List.getElem_cons_succ, List.setIfInBounds_toArray, List.set_cons_zero, List.set_cons_succ]
        have hR8 := hR7.add #[.bool ok] 4
        refine tkC 9 rfl (fun KK hK => ?_)
        have hF := hR8.front 6 rfl rfl
        have HO5 : World.ownsRow _ w.heap.size 4 1 V B.length (B.map .bool) := hF.head
        have hLit := (hR8.nth 0 rfl : Blk _ w2.heap.size 4 #[.bool ok])
        have hzz := hR8.size
        obtain ⟨v8, w8, hrun, hown8, hgrow8, _, hblk8⟩ := run_append_own_at (P := Tryz.prog) _ w.heap.size 138 138 4 i0 (.bool false) 1 1 Tryz.underlying138 hi hz0 hz1 hz2 rfl (by decide) V B.length (B.map .bool) HO5 ⟨w2.heap.size, 0, none⟩ 1 1 [.bool ok] rfl (World.news_of_block hLit) (one1 rfl) (by unfold maxLen; omega) (by omega) hzz
        refine oper_app_run _ _ 138 rfl rfl rfl hrun ?_
        refine hK.out _ _ trivial (fun hHeld => ?_)
        try simp only [Act.put, List.getElem_toArray, List.getElem_cons_zero, List.getElem_cons_succ, List.setIfInBounds_toArray, List.set_cons_zero, List.set_cons_succ]
        have hR9 := hF.append hown8 hgrow8 hblk8
        obtain ⟨A8, c8, hv8⟩ := own_form hown8
        subst hv8
        clear HO5 hLit hrun hown8 hgrow8 hblk8 hF
        refine wpAnyH_take (i := 10) (v := .pointer (some ⟨q + 3, 0, none⟩)) rfl (by kernel_rfl) (by kernel_rfl) (by kernel_rfl) (fun _ _ _ h => h) (Or.inl ⟨by rfl, fun V hV => ?_⟩) hHeld ?_
        · first | (go_simp; done) | (go_simp; rfl) | rfl
        try simp only [Act.put, List.getElem_toArray, List.getElem_cons_zero, List.getElem_cons_succ, List.setIfInBounds_toArray, List.set_cons_zero, List.set_cons_succ]
        refine wpAnyH_take (i := 11) (v := .pointer (some ⟨q + 3, 3, none⟩)) rfl (by kernel_rfl) (by kernel_rfl) (by kernel_rfl) (fun _ _ _ h => h) (Or.inl ⟨by rfl, fun V hV => ?_⟩) hHeld ?_
        · first | (go_simp; done) | (go_simp; rfl) | rfl
        try simp only [Act.put, List.getElem_toArray, List.getElem_cons_zero, List.getElem_cons_succ, List.setIfInBounds_toArray, List.set_cons_zero, List.set_cons_succ]
        refine tkC 12 rfl (fun KK hK => ?_)
        have hT := hR9.front 2 rfl rfl
        have x4 := (hT.nth 0 rfl : Blk _ (q + 3) 140 #[.map (some q), .map (some (q + 1)), .map (some (q + 2)), V]).cell 3
        have f4 := (hT.nth 0 rfl : Blk _ (q + 3) 140 #[.map (some q), .map (some (q + 1)), .map (some (q + 2)), V]).frozen 3
        go_simp
        refine hK.out _ _ trivial (fun hHeld => ?_)
        try simp only [Act.put, List.getElem_toArray, List.getElem_cons_zero, List.getElem_cons_succ, List.setIfInBounds_toArray, List.set_cons_zero, List.set_cons_succ]
        clear x4 f4
        have hU := hT.set_ 3 (.slice A8 (B.length + 1) c8)
        refine wpAnyH_done (by kernel_rfl) ?_ _
        have hV := (((((hU.drop 6 rfl rfl).drop 2 rfl rfl).front 4 rfl rfl).front 4 rfl rfl).front 4 rfl rfl).front 3 rfl rfl
        clear hU hT hR9
        go_wp2_with fail
        go_roundw
        case rel => exact ⟨k + 1, n4, n5, n6, _, B ++ [ok], D2, by omega, by go_num, by omega, by omega, by omega, HD2, by rw [List.length_append]; simp; omega, by rw [List.length_append, List.map_append]; exact hV⟩
        case measure => simp [intOf]; omega
      refine AllReadyH.cons rfl (fun KK hK => ?_) AllReadyH.nil
      go_simp
      refine hK.out _ _ trivial (fun hHeld => ?_)
      try simp only [Act.put, List.getElem_toArray, List.getElem_cons_zero, List.getElem_cons_succ, List.setIfInBounds_toArray, List.set_cons_zero, List.set_cons_succ]
      have hR8 := hR7.add #[.bool ok] 4
      refine tkC 4 rfl (fun KK hK => ?_)
      have y4 := (hR8.nth 1 rfl : Blk _ (q + 3) 140 #[.map (some q), .map (some (q + 1)), .map (some (q + 2)), V]).cell 3
      go_simp
      refine hK.out _ _ trivial (fun hHeld => ?_)
      try simp only [Act.put, List.getElem_toArray, List.getElem_cons_zero, List.getElem_cons_succ, List.setIfInBounds_toArray, List.set_cons_zero, List.set_cons_succ]
      clear y4
      refine tkC 9 rfl (fun KK hK => ?_)
      have hF := hR8.front 6 rfl rfl
      have HO5 : World.ownsRow _ w.heap.size 4 1 V B.length (B.map .bool) := hF.head
      have hLit := (hR8.nth 0 rfl : Blk _ w2.heap.size 4 #[.bool ok])
      have hzz := hR8.size
      obtain ⟨v8, w8, hrun, hown8, hgrow8, _, hblk8⟩ := run_append_own_at (P := Tryz.prog) _ w.heap.size 138 138 4 i0 (.bool false) 1 1 Tryz.underlying138 hi hz0 hz1 hz2 rfl (by decide) V B.length (B.map .bool) HO5 ⟨w2.heap.size, 0, none⟩ 1 1 [.bool ok] rfl (World.news_of_block hLit) (one1 rfl) (by unfold maxLen; omega) (by omega) hzz
      refine oper_app_run _ _ 138 rfl rfl rfl hrun ?_
      refine hK.out _ _ trivial (fun hHeld => ?_)
      try simp only [Act.put, List.getElem_toArray, List.getElem_cons_zero, List.getElem_cons_succ, List.setIfInBounds_toArray, List.set_cons_zero, List.set_cons_succ]
      have hR9 := hF.append hown8 hgrow8 hblk8
      obtain ⟨A8, c8, hv8⟩ := own_form hown8
      subst hv8
      clear HO5 hLit hrun hown8 hgrow8 hblk8 hF
      refine wpAnyH_take (i := 10) (v := .pointer (some ⟨q + 3, 0, none⟩)) rfl (by kernel_rfl) (by kernel_rfl) (by kernel_rfl) (fun _ _ _ h => h) (Or.inl ⟨by rfl, fun V hV => ?_⟩) hHeld ?_
      · first | (go_simp; done) | (go_simp; rfl) | rfl
      try simp only [Act.put, List.getElem_toArray, List.getElem_cons_zero, List.getElem_cons_succ, List.setIfInBounds_toArray, List.set_cons_zero, List.set_cons_succ]
      refine wpAnyH_take (i := 11) (v := .pointer (some ⟨q + 3, 3, none⟩)) rfl (by kernel_rfl) (by kernel_rfl) (by kernel_rfl) (fun _ _ _ h => h) (Or.inl ⟨by rfl, fun V hV => ?_⟩) hHeld ?_
      · first | (go_simp; done) | (go_simp; rfl) | rfl
      try simp only [Act.put, List.getElem_toArray, List.getElem_cons_zero, List.getElem_cons_succ, List.setIfInBounds_toArray, List.set_cons_zero, List.set_cons_succ]
      refine tkC 12 rfl (fun KK hK => ?_)
      have hT := hR9.front 2 rfl rfl
      have x4 := (hT.nth 0 rfl : Blk _ (q + 3) 140 #[.map (some q), .map (some (q + 1)), .map (some (q + 2)), V]).cell 3
      have f4 := (hT.nth 0 rfl : Blk _ (q + 3) 140 #[.map (some q), .map (some (q + 1)), .map (some (q + 2)), V]).frozen 3
      go_simp
      refine hK.out _ _ trivial (fun hHeld => ?_)
      try simp only [Act.put, List.getElem_toArray, List.getElem_cons_zero, List.getElem_cons_succ, List.setIfInBounds_toArray, List.set_cons_zero, List.set_cons_succ]
      clear x4 f4
      have hU := hT.set_ 3 (.slice A8 (B.length + 1) c8)
      refine wpAnyH_done (by kernel_rfl) ?_ _
      have hV := (((((hU.drop 6 rfl rfl).drop 2 rfl rfl).front 4 rfl rfl).front 4 rfl rfl).front 4 rfl rfl).front 3 rfl rfl
      clear hU hT hR9
      go_wp2_with fail
      go_roundw
      case rel => exact ⟨k + 1, n4, n5, n6, _, B ++ [ok], D2, by omega, by go_num, by omega, by omega, by omega, HD2, by rw [List.length_append]; simp; omega, by rw [List.length_append, List.map_append]; exact hV⟩
      case measure => simp [intOf]; omega
    · have HD2 : Hid (folE (l.take (k + 1)) u = (D, B)) := Lib.hid (by rw [HST.out, accE_late hle]; exact HF.out)
      have hSa := hS.alloc (.cells #[.int .i64 at_, .int .i64 kd, .string id, .string who, .string by1, .string ct, .int .i64 tm, .int .i64 dt] 78)
      clear hS hKD hxk HST
      go_wp2_with fail
      go_roundw
      case rel => exact ⟨k + 1, n1, n2, n3, V, B, D, by omega, by go_num, by omega, by omega, by omega, HD2, by omega, hSa⟩
      case measure => simp [intOf]; omega
  · obtain rfl : k = n := by omega
    have HFI : Hid (AtS l u w (.returned (.pointer (some ⟨q + 3, 0, none⟩))) wo) := Lib.hid (by
     have e : l.take k = l := by rw [← HL.out]; exact List.take_length
     have hF := HF.out
     rw [e] at hF
     have hK := KD.fol l u HKE.out l.length (Nat.le_refl _)
     rw [List.take_length] at hK
     refine ⟨q + 3, q, q + 1, q + 2, n1, n2, n3, V, rfl, hK, by rw [HL.out]; exact hn1, by rw [HL.out]; exact hn2, by rw [HL.out]; exact hn3, by rw [hF]; exact hS⟩)
    clear hS
    go_wp2_with fail
    go_ret
    exact HFI.out
end Go.Proofs.YtapgnaimbgjcnaaGreatDoor
