/-
  slices.Clone of strings, marathon.needed and splitref2.people by contracts. (Printed by gen_slot4.py.)
-/
import Derived.Test.YtaendemgkabdfaaGreatDoorZSlot1
import Derived.Test.YtaendemgkabdfaaGreatDoorZRatMake
import Derived.Lib.SliceRun
import Derived.Laws.AppendOwnNone
namespace Go.Proofs.YtaendemgkabdfaaGreatDoor
open Go Go.RowKit
attribute [local go_sem ↓] Go.wp_at_zero Go.wp_at_succ

theorem info_str : (Tryz.prog.info? 9).map (fun i => (i.zero, i.size, i.bytes)) = some (some (.string ⟨#[]⟩), 1, 16) := by kernel_rfl
theorem strsV_one (l : List ByteArray) : ∀ u ∈ strsV l, u.oneCell' = true := by
  intro u hu
  obtain ⟨s, _, rfl⟩ := List.mem_map.1 hu
  rfl
theorem one1 {x : Value} (hx : x.oneCell' = true) : ∀ u ∈ [x], u.oneCell' = true := by
  intro u hu
  simp at hu
  subst hu
  exact hx
set_option maxRecDepth 100000 in
theorem cloneS_calls (b : Nat) (A : Option Addr) (n c : Nat) (xs : List Value) (w : World) (hr : Rd w b 1 (.slice A n c) n xs) (h1 : ∀ u ∈ xs, u.oneCell' = true) (hn : n ≤ 100000) :
    Calls Tryz.prog 54 #[.slice A n c] w fun e w' => ∃ v, e = .returned v ∧ w'.ownsRow w.heap.size 9 1 v n xs ∧ Below w.heap.size w w' := by
  obtain ⟨i0, hi, hz0, hz1, hz2⟩ := info_parts info_str
  have q29 : ∀ (w : World) (a : Option Addr) (n c n' c' : Nat), (binOp .eql 50 (.slice a n c) (.slice none n' c')).run Tryz.prog w = .ok (.bool a.isNone) w := fun w a n c n' c' => Lib.run_eql_slice_nil w _ _ a n c n' c' Tryz.underlying50
  obtain ⟨A', c', e1, e2, e3, e4, e5, e6⟩ := hr
  injection e1 with ea eb ec
  subst ea ec
  cases A with
  | none =>
    obtain ⟨rfl, rfl⟩ := e5 rfl
    have hx : xs = [] := List.eq_nil_of_length_eq_zero (by simpa using e4)
    subst hx
    clear e6
    go_enter Tryz.func54, Tryz.ntmps54
    go_wp2
    go_ret
    exact ⟨_, rfl, World.ownsRow_nil _ _ _ _, Below.refl _ _⟩
  | some a =>
    have hcells : ∀ j u, xs[j]? = some u → w.cell? (a.add j) = some u := by
      intro j u hu
      have hpos : 0 < n := by
        rcases Nat.eq_zero_or_pos n with h | h
        · subst h
          have hx : xs = [] := List.eq_nil_of_length_eq_zero (by simpa using e4)
          subst hx
          simp at hu
        · exact h
      obtain ⟨g, o, f1, _, f3⟩ := e6 hpos
      injection f1 with f1
      subst f1
      have hadd : (⟨g, o, none⟩ : Addr).add j = ⟨g, o + j, none⟩ := by unfold Addr.add; split <;> simp_all
      rw [hadd]
      exact f3 j u hu
    have hcells2 : ∀ ob : Obj, ∀ j u, xs[j]? = some u → (w.alloc ob).cell? (a.add j) = some u := fun ob j u hu =>
      (World.cell?_alloc_lt w ob (a.add j) (World.block_lt_of_cell? w _ (hcells j u hu))).trans (hcells j u hu)
    clear e6 hcells
    go_enter Tryz.func54, Tryz.ntmps54
    go_wp2_with (first
      | (at_builtin; refine wpList_append_own _ rfl _ _ 50 rfl w.heap.size 9 i0 (.string ⟨#[]⟩) 1 16 Tryz.underlying50 hi hz0 hz1 hz2 rfl (by decide) _ 0 [] rfl (World.ownsRow_lit (base := w.heap.size) w #[] 0 (Nat.le_refl _) (by decide) rfl) a n c xs rfl (by omega) (hcells2 _) h1 (by unfold maxLen; omega) (by omega) (by simp) ?_; intro v' w1 hown' hgrow hnil))
    go_ret
    refine ⟨_, rfl, by simpa using hown', ((Below.refl _ _).alloc (Nat.le_refl _) _).grown hgrow (by simp) (fun q hq => ?_)⟩
    have h2 : some w.heap.size = some q := hq
    injection h2 with h2
    omega

/-- names in new memory -/
def StrsS (l : List ByteArray) (w : World) (e : Ending) (w' : World) : Prop :=
  ∃ v, e = .returned v ∧ w'.ownsRow w.heap.size 9 1 v l.length (strsV l) ∧ Below w.heap.size w w'
theorem own_strs {w : World} {base n : Nat} {v : Value} {l : List ByteArray} {xs : List Value} (h : w.ownsRow base 9 1 v n xs) (hn : n = l.length) (hx : xs = strsV l) : w.ownsRow base 9 1 v l.length (strsV l) := by subst hn hx; exact h

end Go.Proofs.YtaendemgkabdfaaGreatDoor
