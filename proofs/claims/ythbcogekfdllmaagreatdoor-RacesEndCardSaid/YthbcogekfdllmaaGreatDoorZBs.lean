/-
  What a walk holds of a world: old memory is as it was, and some blocks of the call's own are known whole (Bs).
-/
import Derived.Test.YthbcogekfdllmaaGreatDoorZBase
import Derived.Test.YthbcogekfdllmaaGreatDoorZSlot3
namespace Go.Proofs.YthbcogekfdllmaaGreatDoor
open Go Go.RowKit

/-- old memory is as it was; the listed blocks (number, element type, cells) are known whole -/
def Bs (w W : World) (l : List (Nat × TypeId × Array Value)) : Prop := Below w.heap.size w W ∧ ∀ p ∈ l, Blk W p.1 p.2.1 p.2.2
section
variable {w W W' : World} {l : List (Nat × TypeId × Array Value)}
theorem Bs.start (w : World) : Bs w w [] := ⟨Below.refl _ _, fun p hp => by cases hp⟩
theorem Bs.below (h : Bs w W l) (k : Below W.heap.size W W') : Bs w W' l := ⟨below_call h.1 k (Nat.le_refl _), fun p hp => (h.2 p hp).below k⟩
theorem Bs.drew (h : Bs w W l) : Bs w W.drew l := h.below (below_drewN (Below.refl _ _) 1)
theorem Bs.drewN (h : Bs w W l) (k : Nat) : Bs w (W.drewN k) l := h.below (below_drewN (Below.refl _ _) k)
theorem Bs.alloc (h : Bs w W l) (o : Obj) : Bs w (W.alloc o) l := h.below ((Below.refl _ _).alloc (Nat.le_refl _) o)
theorem Bs.add (h : Bs w W l) (cs : Array Value) (t : TypeId) : Bs w (W.alloc (.cells cs t)) ((W.heap.size, t, cs) :: l) := by
  have h' := h.alloc (.cells cs t)
  refine ⟨h'.1, fun p hp => ?_⟩
  rcases List.mem_cons.1 hp with rfl | hp
  · exact Blk.new W t cs
  · exact h'.2 p hp
theorem Bs.push {g : Nat} {t : TypeId} {cs : Array Value} (h : Bs w W l) (hg : Blk W g t cs) : Bs w W ((g, t, cs) :: l) :=
  ⟨h.1, fun p hp => by
    rcases List.mem_cons.1 hp with rfl | hp
    · exact hg
    · exact h.2 p hp⟩
theorem Bs.tail {a : Nat × TypeId × Array Value} (h : Bs w W (a :: l)) : Bs w W l := ⟨h.1, fun p hp => h.2 p (List.mem_cons_of_mem _ hp)⟩
theorem Bs.head {g : Nat} {t : TypeId} {cs : Array Value} (h : Bs w W ((g, t, cs) :: l)) : Blk W g t cs := h.2 (g, t, cs) (List.mem_cons_self ..)
/-- a store into a new block that the list does not name -/
theorem Bs.store (h : Bs w W l) {g : Nat} (hw : w.heap.size ≤ g) (hl : ∀ p ∈ l, p.1 ≠ g) (i : Nat) (u : Value) : Bs w (W.setCell ⟨g, i, none⟩ u) l :=
  ⟨h.1.setCell (p := ⟨g, i, none⟩) hw u, fun p hp => (h.2 p hp).far (p := ⟨g, i, none⟩) (hl p hp) u⟩
/-- a store into the block that the list names first -/
theorem Bs.set_ {g : Nat} {t : TypeId} {cs : Array Value} (h : Bs w W ((g, t, cs) :: l)) (hw : w.heap.size ≤ g) (hl : ∀ p ∈ l, p.1 ≠ g) (i : Nat) (u : Value) : Bs w (W.setCell ⟨g, i, none⟩ u) ((g, t, cs.setIfInBounds i u) :: l) :=
  (h.tail.store hw hl i u).push (h.head.set_ i u)
end

theorem heap_new3 (w : World) (A B C : Obj) : (((w.alloc A).alloc B).alloc C).heap[w.heap.size + 1 + 1]? = some C := by
  have := heap_alloc_new ((w.alloc A).alloc B) C
  simpa using this
theorem Bs.grown {w W W' : World} {l : List (Nat × TypeId × Array Value)} {row : Option Nat} (h : Bs w W l) (hg : W.grownBy W' row) (hr : ∀ k, row = some k → w.heap.size ≤ k) (hl : ∀ p ∈ l, row ≠ some p.1) : Bs w W' l :=
  ⟨h.1.grown hg h.1.size hr, fun p hp => (h.2 p hp).grown hg (hl p hp).symm⟩

/-- old memory is as it was; a list of the call's own; some other blocks of the call's own known whole -/
def Os (e : TypeId) (size : Nat) (w W : World) (v : Value) (n : Nat) (xs : List Value) (l : List (Nat × TypeId × Array Value)) : Prop :=
  W.ownsRow w.heap.size e size v n xs ∧ Bs w W l ∧ ∀ p ∈ l, v.ownBlock ≠ some p.1
section
variable {e : TypeId} {size : Nat} {w W W' : World} {v : Value} {n : Nat} {xs : List Value} {l : List (Nat × TypeId × Array Value)}
theorem Os.start (h : Bs w W l) : Os e size w W (.slice none 0 0) 0 [] l := ⟨World.ownsRow_nil _ _ _ _, h, fun p _ hp => by simp [Value.ownBlock] at hp⟩
theorem Os.below (h : Os e size w W v n xs l) (k : Below W.heap.size W W') : Os e size w W' v n xs l := ⟨own_below h.1 k, h.2.1.below k, h.2.2⟩
theorem Os.drew (h : Os e size w W v n xs l) : Os e size w W.drew v n xs l := h.below (below_drewN (Below.refl _ _) 1)
theorem Os.drewN (h : Os e size w W v n xs l) (k : Nat) : Os e size w (W.drewN k) v n xs l := h.below (below_drewN (Below.refl _ _) k)
theorem Os.alloc (h : Os e size w W v n xs l) (o : Obj) : Os e size w (W.alloc o) v n xs l := h.below ((Below.refl _ _).alloc (Nat.le_refl _) o)
theorem Os.add (h : Os e size w W v n xs l) (cs : Array Value) (t : TypeId) : Os e size w (W.alloc (.cells cs t)) v n xs ((W.heap.size, t, cs) :: l) := by
  have h' := h.alloc (.cells cs t)
  refine ⟨h'.1, h.2.1.add cs t, fun p hp => ?_⟩
  rcases List.mem_cons.1 hp with rfl | hp
  · intro hq
    have := (h.1.lt _ hq).2
    simp only at this
    omega
  · exact h.2.2 p hp
theorem Os.tail {a : Nat × TypeId × Array Value} (h : Os e size w W v n xs (a :: l)) : Os e size w W v n xs l := ⟨h.1, h.2.1.tail, fun p hp => h.2.2 p (List.mem_cons_of_mem _ hp)⟩
theorem Os.head {g : Nat} {t : TypeId} {cs : Array Value} (h : Os e size w W v n xs ((g, t, cs) :: l)) : Blk W g t cs := h.2.1.head
/-- a store into the block that the list names first -/
theorem Os.set_ {g : Nat} {t : TypeId} {cs : Array Value} (h : Os e size w W v n xs ((g, t, cs) :: l)) (hw : w.heap.size ≤ g) (hl : ∀ p ∈ l, p.1 ≠ g) (i : Nat) (u : Value) : Os e size w (W.setCell ⟨g, i, none⟩ u) v n xs ((g, t, cs.setIfInBounds i u) :: l) := by
  refine ⟨?_, h.2.1.set_ hw hl i u, fun p hp => ?_⟩
  · refine h.1.kept (row := some g) ⟨rfl, rfl, rfl, by simp [World.setCell], fun k _ hk => Below.heap_setCell W ⟨g, i, none⟩ u k (fun e => hk (by rw [e]))⟩ ?_
    exact .inr (h.2.2 (g, t, cs) (List.mem_cons_self ..))
  · rcases List.mem_cons.1 hp with rfl | hp
    · exact h.2.2 (g, t, cs) (List.mem_cons_self ..)
    · exact h.2.2 p (List.mem_cons_of_mem _ hp)
/-- behind an append -/
theorem Os.append {v' : Value} {n' : Nat} {xs' : List Value} (h : Os e size w W v n xs l) (ho : W'.ownsRow w.heap.size e size v' n' xs') (hg : W.grownBy W' v.ownBlock) (hv : v'.ownBlock = v.ownBlock ∨ v'.ownBlock = some W.heap.size) : Os e size w W' v' n' xs' l := by
  refine ⟨ho, h.2.1.grown hg (fun k hk => (h.1.lt k hk).1) (fun p hp => h.2.2 p hp), fun p hp => ?_⟩
  rcases hv with hv | hv
  · rw [hv]; exact h.2.2 p hp
  · rw [hv]
    intro hq
    injection hq with hq
    have := (h.2.1.2 p hp).lt
    omega
end
end Go.Proofs.YthbcogekfdllmaaGreatDoor
/-
  marathon.timetable and splitref2.PlacesOf by contracts: both answer placesF. (Printed by gen_slot5.py.)
-/
namespace Go.Proofs.YthbcogekfdllmaaGreatDoor
open Go Go.RowKit
attribute [local go_sem ↓] Go.wp_at_zero Go.wp_at_succ

theorem info_plc : (Tryz.prog.info? 71).map (fun i => (i.zero, i.size, i.bytes)) = some (some (.agg #[.string ⟨#[]⟩, .int .i64 0, .int .i64 0, .int .i64 0]), 4, 40) := by kernel_rfl
/-- places in new memory -/
def PlcsS (l : List Plc) (w : World) (e : Ending) (w' : World) : Prop :=
  ∃ v, e = .returned v ∧ w'.ownsRow w.heap.size 71 4 v l.length (l.flatMap plcC) ∧ Below w.heap.size w w'

set_option maxRecDepth 100000 in
set_option maxHeartbeats 1000000 in
theorem timetable_calls (b : Nat) (A : Option Addr) (n c : Nat) (xs : List Slt) (f : Int) (w : World) (hr : Slts w b A n c xs) (hn : n ≤ 1000) (hf : -4398046511104 ≤ f ∧ f ≤ 4398046511104) :
    Calls Tryz.prog 83 #[.slice A n c, .int .i64 f] w (PlcsS (placesF f xs) w) := by
  obtain ⟨hl, hnc, hcm, hcells⟩ := hr.rd.cells sltC_len (by omega)
  obtain ⟨i0, hi, hz0, hz1, hz2⟩ := info_parts info_plc
  unfold maxLen at hcm
  have hsm := hr.sml
  have HBD := Lib.hid (fromAt_bd hsm hf)
  have HSM := Lib.hid hsm
  have HL := Lib.hid hl
  have HC := Lib.hid hcells
  have H0 : Hid (f = fromAt f xs 0) := rfl
  clear hcells hl hr hsm hf
  go_enter Tryz.func83, Tryz.ntmps83
  go_wp2_with fail
  go_loopw [1, 5, 11] (fun f1 v i wr => ∃ k : Nat, k ≤ n ∧ i = .int .i64 k ∧ f1 = .int .i64 (fromAt f xs k) ∧ Os 71 4 w wr v (placesTo f xs k).length ((placesTo f xs k).flatMap plcC) []) (fun _ _ i _ => n - (intOf i).toNat)
  case atStart => exact ⟨0, Nat.zero_le _, rfl, rfl, Os.start (Bs.start w)⟩
  case round =>
    obtain ⟨k, hk, rfl, rfl, hO⟩ := hrel
    have hbr := hO.2.1.1
    by_cases hlt : k < n
    · have hkr : k < xs.length := by rw [HL.out]; exact hlt
      obtain ⟨g, o, hA, _, hcs⟩ := HC.out (by omega)
      subst hA
      have hpl := placesTo_len f xs k (by omega)
      have hbd := HBD.out k (by omega)
      have hst := placesTo_step f xs k hkr
      have hfs := fromAt_step f xs k hkr
      have hxs := HSM.out _ (List.getElem_mem hkr)
      obtain ⟨x, hx⟩ : ∃ x, xs[k] = x := ⟨_, rfl⟩
      have c0 := below_cell hbr (hcs k hkr 0 (by omega))
      have c1 := below_cell hbr (hcs k hkr 1 (by omega))
      have c2 := below_cell hbr (hcs k hkr 2 (by omega))
      have c3 := below_cell hbr (hcs k hkr 3 (by omega))
      have c4 := below_cell hbr (hcs k hkr 4 (by omega))
      rw [hx] at c0 c1 c2 c3 c4 hst hfs hxs
      obtain ⟨s, t, ha, hc, hh, su, lo⟩ := x
      simp only [Nat.add_zero] at c0
      simp only at hxs hfs
      obtain ⟨F, hF⟩ : ∃ F, fromAt f xs k = F := ⟨_, rfl⟩
      rw [hF] at hfs hst hbd ⊢
      obtain ⟨⟨u1, u2⟩, u3', u4'⟩ := hxs
      obtain ⟨d1, d2⟩ := hbd
      have HST := Lib.hid hst
      have HFS := Lib.hid hfs
      have HPL := Lib.hid hpl
      have hlz := hbr.size
      have hO1 := ((hO.add #[.string s, .string t, .slice ha hh.length hc, .int .i64 su, .int .i64 lo] 64).tail).add #[.string s, .int .i64 F, .int .i64 (F + su), .int .i64 (F + su + lo)] 71
      simp only [size1] at hO1
      clear hcs hx hst hfs hF H0 hpl
      go_wp2_with (first
        | (at_builtin; refine wpList_append_own_at _ rfl _ _ 66 rfl w.heap.size 71 i0 (.agg #[.string ⟨#[]⟩, .int .i64 0, .int .i64 0, .int .i64 0]) 4 40 Tryz.underlying66 hi hz0 hz1 hz2 rfl (by decide) _ _ _ rfl (hO1.alloc _).1 ⟨wr.heap.size + 1 + 1, 0, none⟩ 1 1 [.string s, .int .i64 F, .int .i64 (F + su), .int .i64 (F + su + lo)] rfl rfl (World.news_of_block (heap_new3 _ _ _ _)) (by simp [Value.oneCell']) (by rw [HPL.out]; unfold maxLen; omega) (by rw [HPL.out]; omega) (by simp; omega) ?_; intro v' w5 hown' hgrow _ hblk; have hO2 := (hO1.alloc _).append hown' hgrow hblk; clear hown' hgrow hblk; have e3 := hO2.head.cell 3))
      have hO3 : Os 71 4 w w5 v' (placesTo f xs (k + 1)).length ((placesTo f xs (k + 1)).flatMap plcC) [] := by
        rw [HST.out, flat_snoc, List.length_append]
        exact hO2.tail
      have HF1 : Hid (F + su + lo = fromAt f xs (k + 1)) := HFS.out.symm
      clear hO hO1 hO2
      go_wp2
      go_roundw
      case rel => exact ⟨k + 1, by omega, by go_num, by rw [HF1.out], hO3⟩
      case measure => simp [intOf]; omega
    · obtain rfl : k = n := by omega
      have HS : Hid (placesF f xs = placesTo f xs k) := by unfold placesF; rw [HL.out]; exact Lib.hid rfl
      go_wp2_with fail
      go_ret
      exact ⟨_, rfl, by rw [HS.out]; exact hO.1, hbr⟩

end Go.Proofs.YthbcogekfdllmaaGreatDoor
/-
  marathon.end, splitref2.endOf, both Moment, fromFault and FromFault by contracts. (Printed by gen_slot6.py.)
-/
namespace Go.Proofs.YthbcogekfdllmaaGreatDoor
open Go Go.RowKit

set_option maxRecDepth 100000 in
theorem end_calls (b : Nat) (A : Option Addr) (n c : Nat) (l : List Plc) (f : Int) (w : World) (hr : Rd w b 4 (.slice A n c) n (l.flatMap plcC)) :
    Calls Tryz.prog 145 #[.slice A n c, .int .i64 f] w (QRet (.int .i64 (endP f l)) w) := by
  obtain ⟨hl, hnc, hcm, hcells⟩ := hr.cells plcC_len (by omega)
  unfold maxLen at hcm
  by_cases h0 : n = 0
  · subst h0
    have hx : l = [] := List.eq_nil_of_length_eq_zero hl
    subst hx
    clear hcells
    go_enter Tryz.func145, Tryz.ntmps145
    go_wp2_with fail
    go_ret
    exact ⟨rfl, 0, rfl⟩
  · obtain ⟨g, o, hA, _, hcs⟩ := hcells (by omega)
    obtain ⟨q, rfl⟩ : ∃ q, n = q + 1 := ⟨n - 1, by omega⟩
    have hlast := endP_last f l (by omega)
    have hq : l.length - 1 = q := by omega
    simp only [hq] at hlast
    have c3 := hcs q (by omega) 3 (by omega)
    have HE : Hid (endP f l = (l[q]'(by omega)).2.2.2) := hlast
    obtain ⟨z, hz⟩ : ∃ z, l[q]'(by omega) = z := ⟨_, rfl⟩
    rw [hz] at HE c3
    obtain ⟨z0, z1, z2, z3⟩ := z
    replace c3 : w.cell? ⟨g, o + q * 4 + 3, none⟩ = some (.int .i64 z3) := c3
    have hq0 : (0 : Int) ≤ (q : Int) := by omega
    have hnn : ((((q + 1 : Nat) : Int)) == 0) = false := by rw [beq_eq_false_iff_ne]; omega
    have hq1 : (q : Int) < ((q + 1 : Nat) : Int) := by omega
    subst hA
    clear hcs hcells hlast hz hq hl hr
    go_enter Tryz.func145, Tryz.ntmps145
    go_wp2_with fail
    go_ret
    exact ⟨ret_int HE.out.symm, 0, rfl⟩

theorem moment_calls (f : Int) (w : World) : Calls Tryz.prog 110 #[.int .i64 f] w fun e w' => e = .returned (.bool (momB f)) ∧ w = w' := by
  have HM : Hid ((!outB f 0 345686399999) = momB f) := rfl
  go_enter Tryz.func110, Tryz.ntmps110
  go_wp2_with fail
  refine (out_calls _ _ _ _).mono ?_
  rintro e w1 ⟨rfl, rfl⟩
  go_wp2_with fail
  go_ret
  exact ⟨ret_bool HM.out, rfl⟩
set_option maxRecDepth 100000 in
theorem fromFault_calls (b : Nat) (A : Option Addr) (n c : Nat) (xs : List Slt) (f : Int) (w : World) (hr : Slts w b A n c xs) (hn : n ≤ 1000) (hf : -4398046511104 ≤ f ∧ f ≤ 4398046511104) (hb : b < w.heap.size) :
    Calls Tryz.prog 81 #[.slice A n c, .int .i64 f] w (BRet (.int .i64 (fromF f xs)) w) := by
  obtain ⟨M, hM⟩ : ∃ M, momB f = M := ⟨_, rfl⟩
  obtain ⟨E, hE⟩ : ∃ E, endP f (placesF f xs) = E := ⟨_, rfl⟩
  have hF : fromF f xs = if M = true then if 345686400000 < E then 1 else 0 else 1 := by rw [← hM, ← hE]; rfl
  have HM := Lib.hid hM
  have HE := Lib.hid hE
  cases M
  · have HS := Lib.hid (hF.trans (if_neg (by simp)))
    clear hM hE hF
    go_enter Tryz.func81, Tryz.ntmps81
    go_wp2_with fail
    refine (moment_calls f _).mono ?_
    rintro e w1 ⟨rfl, rfl⟩
    rw [HM.out]
    go_wp2_with fail
    go_ret
    exact ⟨ret_int HS.out.symm, Below.refl _ _⟩
  · have hF1 := hF.trans (if_pos rfl)
    by_cases hgt : 345686400000 < E
    · have HS := Lib.hid (hF1.trans (if_pos hgt))
      clear hM hE hF hF1
      go_enter Tryz.func81, Tryz.ntmps81
      go_wp2_with fail
      refine (moment_calls f _).mono ?_
      rintro e w1 ⟨rfl, rfl⟩
      rw [HM.out]
      go_wp2_with fail
      refine (timetable_calls b A n c xs f _ hr hn hf).mono ?_
      rintro e w1 ⟨v, rfl, hown, hb1⟩
      obtain ⟨A2, c2, hv⟩ := own_form hown
      subst hv
      go_wp2_with fail
      refine (end_calls b A2 _ c2 (placesF f xs) f _ (Rd.own hown hb)).mono ?_
      rintro e w2 ⟨rfl, nq, rfl⟩
      rw [HE.out]
      go_wp2_with fail
      go_ret
      exact ⟨ret_int HS.out.symm, below_drewN hb1 _⟩
    · have HS := Lib.hid (hF1.trans (if_neg hgt))
      clear hM hE hF hF1
      go_enter Tryz.func81, Tryz.ntmps81
      go_wp2_with fail
      refine (moment_calls f _).mono ?_
      rintro e w1 ⟨rfl, rfl⟩
      rw [HM.out]
      go_wp2_with fail
      refine (timetable_calls b A n c xs f _ hr hn hf).mono ?_
      rintro e w1 ⟨v, rfl, hown, hb1⟩
      obtain ⟨A2, c2, hv⟩ := own_form hown
      subst hv
      go_wp2_with fail
      refine (end_calls b A2 _ c2 (placesF f xs) f _ (Rd.own hown hb)).mono ?_
      rintro e w2 ⟨rfl, nq, rfl⟩
      rw [HE.out]
      go_wp2_with fail
      go_ret
      exact ⟨ret_int HS.out.symm, below_drewN hb1 _⟩

end Go.Proofs.YthbcogekfdllmaaGreatDoor
