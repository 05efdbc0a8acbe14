/-
  slices.ContainsFunc of rows at two laws' closures. (Printed by gen_rowhas.py.)
-/
import Derived.Test.YtapgnaimbgjcnaaGreatDoorZSortRun0
import Derived.Test.YtapgnaimbgjcnaaGreatDoorZSlot3
import Derived.Test.YtapgnaimbgjcnaaGreatDoorZSlot1
import Derived.Test.YtapgnaimbgjcnaaGreatDoorZBid3
import Derived.Deep.DeepCutAuto
import Derived.Test.YtapgnaimbgjcnaaGreatDoorZBase
import Derived.RegionTactic
import Derived.Test.YtapgnaimbgjcnaaGreatDoorZScmp
namespace Go.Proofs.YtapgnaimbgjcnaaGreatDoor
open Go Go.RowKit
attribute [local go_sem ↓] Go.wp_at_zero Go.wp_at_succ
def banP (r x : Brw) : Bool := (x.id.toList == r.id.toList) && (x.time == r.time)
set_option maxRecDepth 100000 in
theorem ban1_calls (gb : Nat) (r x : Brw) (w : World) (hg : Blk w gb 80 #[.int .i64 r.rank, .int .i64 r.time, .string r.id, .string r.who, .int .i64 r.date]) :
 Calls Tryz.prog 44 #[.agg #[.int .i64 x.rank, .int .i64 x.time, .string x.id, .string x.who, .int .i64 x.date], .pointer (some ⟨gb, 0, none⟩)] w (BRet (.bool (banP r x)) w) := by
 have hb : Below w.heap.size w (w.alloc (.cells #[.int .i64 x.rank, .int .i64 x.time, .string x.id, .string x.who, .int .i64 x.date] 80)) := (Below.refl _ _).alloc (Nat.le_refl _) _
 have g1 := hg.cell 1
 have g2 := hg.cell 2
 have gl := hg.lt
 clear hg
 obtain ⟨a0, a1, a2, a3, a4⟩ := x
 obtain ⟨b0, b1, b2, b3, b4⟩ := r
 unfold banP
 simp only at hb g1 g2 ⊢
 replace g1 : w.cell? ⟨gb, 1, none⟩ = some (.int .i64 b1) := g1
 replace g2 : w.cell? ⟨gb, 2, none⟩ = some (.string b2) := g2
 obtain ⟨Q, hQ⟩ : ∃ Q, (a2.toList == b2.toList) = Q := ⟨_, rfl⟩
 obtain ⟨R, hR⟩ : ∃ R, (a1 == b1) = R := ⟨_, rfl⟩
 rw [hQ, hR]
 cases Q
 · rw [Bool.false_and]
   go_enter Tryz.func44, Tryz.ntmps44
   go_wp2_with fail
   go_ret
   exact ⟨rfl, hb⟩
 · rw [Bool.true_and]
   go_enter Tryz.func44, Tryz.ntmps44
   go_wp2_with fail
   go_ret
   exact ⟨rfl, hb⟩
set_option maxRecDepth 100000 in
theorem hasBan_calls (b gb : Nat) (r : Brw) (A2 : Option Addr) (m c2 : Nat) (hs : List Brw) (w : World) (hg : Blk w gb 80 #[.int .i64 r.rank, .int .i64 r.time, .string r.id, .string r.who, .int .i64 r.date]) (hr2 : Rd w b 5 (.slice A2 m c2) m (hs.flatMap brwC)) :
 Calls Tryz.prog 43 #[.slice A2 m c2, .func (.func 44) #[] #[.pointer (some ⟨gb, 0, none⟩)]] w (BRet (.bool (hs.any (fun x : Brw => banP r x))) w) := by
 obtain ⟨hl, hnc, hcm, hcells⟩ := hr2.cells brwC_len (by omega)
 unfold maxLen at hcm
 have HB : Hid (hs.any (fun x : Brw => banP r x) = hs.any (fun x : Brw => banP r x)) := rfl
 rw [HB.out]
 obtain ⟨p, hpp⟩ : ∃ p : Brw → Bool, (fun x : Brw => banP r x) = p := ⟨_, rfl⟩
 have HCC : Hid (∀ W (x : Brw), Below w.heap.size w W → Calls Tryz.prog 44 #[.agg #[.int .i64 x.rank, .int .i64 x.time, .string x.id, .string x.who, .int .i64 x.date], .pointer (some ⟨gb, 0, none⟩)] W (BRet (.bool (p x)) W)) := fun W x hW => by
  rw [← hpp]
  exact ban1_calls gb r x W (hg.below hW)
 have HL := Lib.hid hl
 have HCL := Lib.hid hcells
 rw [hpp]
 have HM := Lib.hid (ixOf_mem p hs)
 clear hcells hl hr2 hg hpp HB
 go_enter Tryz.func43, Tryz.ntmps43
 go_wp2
 go_loopw [8] (fun i wr => ∃ k : Nat, k ≤ m ∧ i = .int .i64 k ∧ Hid (∀ i (_ : i < k) (hi' : i < hs.length), p hs[i] = false) ∧ Below w.heap.size w wr) (fun i _ => m - (intOf i).toNat)
 case atStart => exact ⟨0, Nat.zero_le _, rfl, (fun i hi => absurd hi (by omega)), Below.refl _ _⟩
 case round =>
  obtain ⟨k, hk, rfl, HF, hbr⟩ := hrel
  by_cases hlt : k < m
  · have hkr : k < hs.length := by rw [HL.out]; exact hlt
    obtain ⟨g, o, hA, _, hcs⟩ := HCL.out (by omega)
    subst hA
    have c0 := below_cell hbr (hcs k hkr 0 (by omega))
    have c1 := below_cell hbr (hcs k hkr 1 (by omega))
    have c2 := below_cell hbr (hcs k hkr 2 (by omega))
    have c3 := below_cell hbr (hcs k hkr 3 (by omega))
    have c4 := below_cell hbr (hcs k hkr 4 (by omega))
    obtain ⟨s, hs'⟩ : ∃ s, hs[k] = s := ⟨_, rfl⟩
    rw [hs'] at c0 c1 c2 c3 c4
    replace c0 : wr.cell? ⟨g, o + k * 5, none⟩ = some (.int .i64 s.rank) := c0
    replace c1 : wr.cell? ⟨g, o + k * 5 + 1, none⟩ = some (.int .i64 s.time) := c1
    replace c2 : wr.cell? ⟨g, o + k * 5 + 2, none⟩ = some (.string s.id) := c2
    replace c3 : wr.cell? ⟨g, o + k * 5 + 3, none⟩ = some (.string s.who) := c3
    replace c4 : wr.cell? ⟨g, o + k * 5 + 4, none⟩ = some (.int .i64 s.date) := c4
    have HK := Lib.hid (HCC.out wr s hbr)
    clear hcs
    cases hp : p s
    · rw [hp] at HK
      have HF2 : Hid (∀ i (_ : i < k + 1) (hi' : i < hs.length), p hs[i] = false) := by
       intro i hi hi'
       by_cases hik : i = k
       · subst hik; rw [hs']; exact hp
       · exact HF.out i (by omega) hi'
      clear hp hs'
      go_wp2_with (go_at_call 44; refine HK.out.mono ?_; rintro e w2 ⟨rfl, hb2⟩)
      have hb3 := below_call hbr hb2 (Nat.le_refl _)
      go_roundw
      case rel => exact ⟨k + 1, by omega, by go_num, HF2, hb3⟩
      case measure => simp [intOf]; omega
    · rw [hp] at HK
      have HR : Hid (ixOf p hs = k) := ixOf_at _ hs k hkr (fun i hi => HF.out i hi (by omega)) (by rw [hs']; exact hp)
      have HA : Hid (hs.any p = true) := by
       have := HM.out
       rw [HR.out] at this
       rw [← this]
       exact Lib.hid (decide_eq_true (by omega))
      clear hp hs'
      go_wp2_with (go_at_call 44; refine HK.out.mono ?_; rintro e w2 ⟨rfl, hb2⟩)
      have hb3 := below_call hbr hb2 (Nat.le_refl _)
      go_ret
      exact ⟨ret_bool HA.out.symm, hb3⟩
  · obtain rfl : k = m := by omega
    have HR : Hid (ixOf p hs = -1) := ixOf_no _ hs (fun i hi => HF.out i (by rw [← HL.out]; exact hi) hi)
    have HA : Hid (hs.any p = false) := by
     have := HM.out
     rw [HR.out] at this
     rw [← this]
     exact Lib.hid rfl
    go_wp2
    go_ret
    exact ⟨ret_bool HA.out.symm, hbr⟩
end Go.Proofs.YtapgnaimbgjcnaaGreatDoor
/-
  slices.Clone of events by a contract.
-/
namespace Go.Proofs.YtapgnaimbgjcnaaGreatDoor
open Go Go.RowKit
attribute [local go_sem ↓] Go.wp_at_zero Go.wp_at_succ
theorem info_ev : (Tryz.prog.info? 78).map (fun i => (i.zero, i.size, i.bytes)) = some (some (.agg #[.int .i64 0, .int .i64 0, .string ⟨#[]⟩, .string ⟨#[]⟩, .string ⟨#[]⟩, .string ⟨#[]⟩, .int .i64 0, .int .i64 0]), 8, 96) := by kernel_rfl
set_option maxRecDepth 100000 in
theorem cloneEv_calls (b : Nat) (A : Option Addr) (n c : Nat) (xs : List Value) (w : World) (hr : Rd w b 8 (.slice A n c) n xs) (h1 : ∀ u ∈ xs, u.oneCell' = true) (hn : n ≤ 100000) :
 Calls Tryz.prog 39 #[.slice A n c] w fun e w' => ∃ v, e = .returned v ∧ w'.ownsRow w.heap.size 78 8 v n xs ∧ Below w.heap.size w w' := by
 obtain ⟨i0, hi, hz0, hz1, hz2⟩ := info_parts info_ev
 have q29 : ∀ (w : World) (a : Option Addr) (n c n' c' : Nat), (binOp .eql 26 (.slice a n c) (.slice none n' c')).run Tryz.prog w = .ok (.bool a.isNone) w := fun w a n c n' c' => Lib.run_eql_slice_nil w _ _ a n c n' c' Tryz.underlying26
 obtain ⟨A', c', e1, e2, e3, e4, e5, e6⟩ := hr
 injection e1 with ea eb ec
 subst ea ec
 cases A with
 | none =>
   obtain ⟨rfl, rfl⟩ := e5 rfl
   have hx : xs = [] := List.eq_nil_of_length_eq_zero (by simpa using e4)
   subst hx
   clear e6
   go_enter Tryz.func39, Tryz.ntmps39
   go_wp2
   go_ret
   exact ⟨_, rfl, World.ownsRow_nil _ _ _ _, Below.refl _ _⟩
 | some a =>
   have hcells : ∀ j u, xs[j]? = some u → w.cell? (a.add j) = some u := by
    intro j u hu
    have hpos : 0 < n := by
     rcases Nat.eq_zero_or_pos n with h | h
     · subst h
       have hx : xs = [] := List.eq_nil_of_length_eq_zero (by simpa using e4)
       subst hx
       simp at hu
     · exact h
    obtain ⟨g, o, f1, _, f3⟩ := e6 hpos
    injection f1 with f1
    subst f1
    have hadd : (⟨g, o, none⟩ : Addr).add j = ⟨g, o + j, none⟩ := by unfold Addr.add; split <;> simp_all
    rw [hadd]
    exact f3 j u hu
   have hcells2 : ∀ ob : Obj, ∀ j u, xs[j]? = some u → (w.alloc ob).cell? (a.add j) = some u := fun ob j u hu =>
    (World.cell?_alloc_lt w ob (a.add j) (World.block_lt_of_cell? w _ (hcells j u hu))).trans (hcells j u hu)
   clear e6 hcells
   go_enter Tryz.func39, Tryz.ntmps39
   go_wp2_with (first
    | (at_builtin; refine wpList_append_own _ rfl _ _ 26 rfl w.heap.size 78 i0 (.agg #[.int .i64 0, .int .i64 0, .string ⟨#[]⟩, .string ⟨#[]⟩, .string ⟨#[]⟩, .string ⟨#[]⟩, .int .i64 0, .int .i64 0]) 8 96 Tryz.underlying26 hi hz0 hz1 hz2 rfl (by decide) _ 0 [] rfl (World.ownsRow_lit (base := w.heap.size) w #[] 0 (Nat.le_refl _) (by decide) rfl) a n c xs rfl (by simpa using e4) (hcells2 _) h1 (by unfold maxLen; omega) (by omega) (by simp) ?_; intro v' w1 hown' hgrow hnil))
   go_ret
   refine ⟨_, rfl, by simpa using hown', ((Below.refl _ _).alloc (Nat.le_refl _) _).grown hgrow (by simp) (fun q hq => ?_)⟩
   have h2 : some w.heap.size = some q := hq
   injection h2 with h2
   omega
end Go.Proofs.YtapgnaimbgjcnaaGreatDoor
