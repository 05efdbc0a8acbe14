/-
  slices.Clone and slices.Delete of slots; slices.Compare of strings.
-/
import Derived.Test.YtejadhehmcifoaaGreatDoorZOrdPure
import Derived.Test.YtejadhehmcifoaaGreatDoorZOwnSet
import Derived.Test.YtejadhehmcifoaaGreatDoorZSlot12
import Derived.Deep.MidRow
import Derived.Deep.RegionLaw
import Derived.Deep.RegionHeld3
namespace Go.Proofs.YtejadhehmcifoaaGreatDoor
open Go Go.RowKit
attribute [local go_sem ↓] Go.wp_at_zero Go.wp_at_succ

theorem sltC_one (ys : List Slt) : ∀ u ∈ ys.flatMap sltC, u.oneCell' = true := by
  intro u hu
  obtain ⟨y, _, hy⟩ := List.mem_flatMap.1 hu
  simp [sltC] at hy
  rcases hy with rfl | rfl | rfl | rfl | rfl <;> rfl
abbrev sltL (x : Slt) : Array Value := #[.string x.key, .string x.who, .slice x.ha x.hosts.length x.hc, .int .i64 x.setup, .int .i64 x.long]
/-- slots in a row of one's own -/
abbrev rSl (base : Nat) (A : Option Addr) (n c : Nat) (xs : List Slt) : Rsc := rOwn base 47 5 (.slice A n c) n (xs.flatMap sltC)
set_option maxRecDepth 100000 in
theorem cloneSlt_calls (b : Nat) (A : Option Addr) (n c : Nat) (xs : List Value) (w : World) (hr : Rd w b 5 (.slice A n c) n xs) (h1 : ∀ u ∈ xs, u.oneCell' = true) (hn : n ≤ 100000) :
    Calls Tryz.prog 32 #[.slice A n c] w fun e w' => ∃ v, e = .returned v ∧ w'.ownsRow w.heap.size 47 5 v n xs ∧ Below w.heap.size w w' := by
  obtain ⟨i0, hi, hz0, hz1, hz2⟩ := info_parts info_slt
  have q29 : ∀ (w : World) (a : Option Addr) (n c n' c' : Nat), (binOp .eql 36 (.slice a n c) (.slice none n' c')).run Tryz.prog w = .ok (.bool a.isNone) w := fun w a n c n' c' => Lib.run_eql_slice_nil w _ _ a n c n' c' Tryz.underlying36
  obtain ⟨A', c', e1, e2, e3, e4, e5, e6⟩ := hr
  injection e1 with ea eb ec
  subst ea ec
  cases A with
  | none =>
    obtain ⟨rfl, rfl⟩ := e5 rfl
    have hx : xs = [] := List.eq_nil_of_length_eq_zero (by simpa using e4)
    subst hx
    clear e6
    go_enter Tryz.func32, Tryz.ntmps32
    go_wp2
    go_ret
    exact ⟨_, rfl, World.ownsRow_nil _ _ _ _, Below.refl _ _⟩
  | some a =>
    have hcells : ∀ j u, xs[j]? = some u → w.cell? (a.add j) = some u := by
      intro j u hu
      have hpos : 0 < n := by
        rcases Nat.eq_zero_or_pos n with h | h
        · subst h
          have hx : xs = [] := List.eq_nil_of_length_eq_zero (by simpa using e4)
          subst hx
          simp at hu
        · exact h
      obtain ⟨g, o, f1, _, f3⟩ := e6 hpos
      injection f1 with f1
      subst f1
      have hadd : (⟨g, o, none⟩ : Addr).add j = ⟨g, o + j, none⟩ := by unfold Addr.add; split <;> simp_all
      rw [hadd]
      exact f3 j u hu
    have hcells2 : ∀ ob : Obj, ∀ j u, xs[j]? = some u → (w.alloc ob).cell? (a.add j) = some u := fun ob j u hu =>
      (World.cell?_alloc_lt w ob (a.add j) (World.block_lt_of_cell? w _ (hcells j u hu))).trans (hcells j u hu)
    clear e6 hcells
    go_enter Tryz.func32, Tryz.ntmps32
    go_wp2_with (first
      | (at_builtin; refine wpList_append_own _ rfl _ _ 36 rfl w.heap.size 47 i0 (.agg #[.string ⟨#[]⟩, .string ⟨#[]⟩, .slice none 0 0, .int .i64 0, .int .i64 0]) 5 72 Tryz.underlying36 hi hz0 hz1 hz2 rfl (by decide) _ 0 [] rfl (World.ownsRow_lit (base := w.heap.size) w #[] 0 (Nat.le_refl _) (by decide) rfl) a n c xs rfl (by simpa using e4) (hcells2 _) h1 (by unfold maxLen; omega) (by omega) (by simp) ?_; intro v' w1 hown' hgrow hnil))
    go_ret
    refine ⟨_, rfl, by simpa using hown', ((Below.refl _ _).alloc (Nat.le_refl _) _).grown hgrow (by simp) (fun q hq => ?_)⟩
    have h2 : some w.heap.size = some q := hq
    injection h2 with h2
    omega

theorem run_clear_slt (w : World) (b o n c : Nat) (hn : 0 < n) (hc : ∀ j, j < n * 5 → (w.cell? ⟨b, o + j, none⟩).isSome = true) (hf : ∀ j, j < n * 5 → w.frozen? ⟨b, o + j, none⟩ = false) :
    ∃ vs : List Value, (∀ ty, (Builtin.clear_ #[36] ty #[.slice (some ⟨b, o, none⟩) n c]).run Tryz.prog w = .ok (.tuple #[]) (w.setCells b o vs)) ∧ vs.length = n * 5 := by
  have hv : ∀ w, (zeroValue 47).run Tryz.prog w = .ok (.agg #[.string ⟨#[]⟩, .string ⟨#[]⟩, .slice none 0 0, .int .i64 0, .int .i64 0]) w := fun w => by kernel_rfl
  obtain ⟨vs, hvs⟩ : ∃ vs, (Builtin.zeroCells #[.string ⟨#[]⟩, .string ⟨#[]⟩, .slice none 0 0, .int .i64 0, .int .i64 0] n).toList = vs := ⟨_, rfl⟩
  have hlen : vs.length = n * 5 := by rw [← hvs]; simp [Builtin.zeroCells]
  have h1 : ∀ v ∈ vs, v.oneCell' = true := by
    intro v hv
    rw [← hvs] at hv
    simp [Builtin.zeroCells] at hv
    obtain ⟨i, _, rfl⟩ := hv
    rcases (show i % 5 = 0 ∨ i % 5 = 1 ∨ i % 5 = 2 ∨ i % 5 = 3 ∨ i % 5 = 4 by omega) with h | h | h | h | h <;> simp [h] <;> rfl
  have hst := run_storeCells_cells (P := Tryz.prog) b o vs 0 w (by simpa [hlen] using hc) (by simpa [hlen] using hf) h1
  simp only [Nat.add_zero] at hst
  refine ⟨vs, fun ty => ?_, hlen⟩
  obtain ⟨m, rfl⟩ : ∃ m, n = m + 1 := ⟨n - 1, by omega⟩
  simp [Builtin.clear_, run_underlying Tryz.underlying36, hv, Value.cells, hvs, hst, Result.andThen]

/-- the cells of the slots behind slot i, one place on -/
theorem erase_flat (xs : List Slt) (i : Nat) (hi : i < xs.length) (zs : List Value) (hz : zs.length = 5) :
    ((setL (setL (xs.flatMap sltC) (i * 5) ((xs.drop (i + 1)).flatMap sltC)) ((xs.length - 1) * 5) zs).take ((xs.length - 1) * 5)) = (xs.eraseIdx i).flatMap sltC := by
  have lT : ((xs.take i).flatMap sltC).length = i * 5 := by rw [flat_len sltC 5 sltC_len, List.length_take, Nat.min_eq_left (by omega)]
  have lM : ((xs.drop (i + 1)).flatMap sltC).length = (xs.length - (i + 1)) * 5 := by rw [flat_len sltC 5 sltC_len, List.length_drop]
  obtain ⟨M, hM⟩ : ∃ M, (xs.drop (i + 1)).flatMap sltC = M := ⟨_, rfl⟩
  obtain ⟨T, hT⟩ : ∃ T, (xs.take i).flatMap sltC = T := ⟨_, rfl⟩
  have e0 : xs.flatMap sltC = T ++ (xs.drop i).flatMap sltC := by rw [← hT, ← List.flatMap_append, List.take_append_drop]
  obtain ⟨D, hD⟩ : ∃ D, (xs.drop i).flatMap sltC = D := ⟨_, rfl⟩
  have lD : D.length = (xs.length - i) * 5 := by rw [← hD, flat_len sltC 5 sltC_len, List.length_drop]
  rw [hM] at lM ⊢
  rw [hT] at lT
  rw [hD] at e0
  have e1 : D = D.take M.length ++ D.drop M.length := (List.take_append_drop _ _).symm
  have e2 : setL (xs.flatMap sltC) (i * 5) M = T ++ M ++ D.drop M.length := by
    rw [e0, e1, ← List.append_assoc, ← lT]
    rw [setL_app M T _ _ (by rw [List.length_take, lD, lM]; omega)]
    rw [List.drop_append_of_le_length (by rw [List.length_take]; omega)]
    simp
  have e3 : (T ++ M).length = (xs.length - 1) * 5 := by rw [List.length_append, lT, lM, ← Nat.add_mul]; congr 1; omega
  have e4 : setL (T ++ M ++ D.drop M.length) (T ++ M).length zs = T ++ M ++ zs ++ [] := by
    have := setL_app zs (T ++ M) (D.drop M.length) [] (by rw [List.length_drop, lD, lM, hz, ← Nat.sub_mul]; congr 1; omega)
    rw [List.append_nil] at this
    exact this
  rw [e2, ← e3, e4, List.append_nil, List.take_left]
  rw [List.eraseIdx_eq_take_drop_succ, List.flatMap_append, hT, hM]

set_option maxRecDepth 1000000 in
set_option maxHeartbeats 2000000 in
theorem delSlt_calls (w0 w : World) (l : List Rsc) (g n c i : Nat) (xs : List Slt) (hS : Sq w0 w (rSl w0.heap.size (some ⟨g, 0, none⟩) n c xs :: l)) (hi : i < n) (hn : n ≤ 1000) :
    Calls Tryz.prog 59 #[.slice (some ⟨g, 0, none⟩) n c, .int .i64 i, .int .i64 ((i : Int) + 1)] w fun e w' => e = .returned (.slice (some ⟨g, 0, none⟩) (n - 1) c) ∧ Sq w0 w' (rSl w0.heap.size (some ⟨g, 0, none⟩) (n - 1) c (xs.eraseIdx i) :: l) := by
  obtain ⟨i0, hi0, hz0, hz1, hz2⟩ := info_parts info_slt
  have hown : w.ownsRow w0.heap.size 47 5 (.slice (some ⟨g, 0, none⟩) n c) n (xs.flatMap sltC) := hS.head
  obtain ⟨hnc, hcm⟩ := own_cap hown
  unfold maxLen at hcm
  have hl : xs.length = n := by have := hown.1; rw [flat_len sltC 5 sltC_len] at this; omega
  have hcell : ∀ (W : World) (ys : List Value), Sq w0 W (rOwn w0.heap.size 47 5 (.slice (some ⟨g, 0, none⟩) n c) n ys :: l) → ∀ j, j < n * 5 → (W.cell? ⟨g, j, none⟩).isSome = true ∧ W.frozen? ⟨g, j, none⟩ = false := fun W ys h j hj => by
    have ho : W.ownsRow w0.heap.size 47 5 (.slice (some ⟨g, 0, none⟩) n c) n ys := h.head
    refine ⟨?_, ho.frozenAt _⟩
    rw [ho.cellAt j hj]
    have : j < ys.length := by rw [ho.1]; exact hj
    rw [List.getElem?_eq_getElem this]; rfl
  obtain ⟨M, hM⟩ : ∃ M, (xs.drop (i + 1)).flatMap sltC = M := ⟨_, rfl⟩
  have lM : M.length = (n - (i + 1)) * 5 := by rw [← hM, flat_len sltC 5 sltC_len, List.length_drop, hl]
  obtain ⟨A, hA, hnews⟩ : ∃ A : Addr, (if c = i + 1 then some (⟨g, 0, none⟩ : Addr) else some ⟨g, (i + 1) * 5, none⟩) = some A ∧ Hid (∀ j u, M[j]? = some u → w.drew.cell? (A.add j) = some u) := by
    by_cases h : c = i + 1
    · refine ⟨⟨g, 0, none⟩, by simp [h], fun j u hu => ?_⟩
      have h0 : M.length = 0 := by rw [lM]; omega
      rw [List.length_eq_zero_iff.1 h0] at hu
      simp at hu
    · refine ⟨⟨g, (i + 1) * 5, none⟩, by simp [h], fun j u hu => ?_⟩
      have hj : j < (n - (i + 1)) * 5 := by
        have := (List.getElem?_eq_some_iff.1 hu).1
        rwa [lM] at this
      rw [Addr.add_lit]
      have hx := hown.cellAt ((i + 1) * 5 + j) (by omega)
      show w.cell? _ = _
      rw [hx]
      have e : xs.flatMap sltC = (xs.take (i + 1)).flatMap sltC ++ M := by rw [← hM, ← List.flatMap_append, List.take_append_drop]
      have lT : ((xs.take (i + 1)).flatMap sltC).length = (i + 1) * 5 := by rw [flat_len sltC 5 sltC_len, List.length_take, Nat.min_eq_left (by omega)]
      rw [e, List.getElem?_append_right (by omega), lT, Nat.add_sub_cancel_left]
      exact hu
  have s1 : Hid (M.length = (n - (i + 1)) * 5) := lM
  have s2 : Hid (∀ u ∈ M, u.oneCell' = true) := by rw [← hM]; exact sltC_one _
  have s3 : Hid (∀ j, j < M.length → (w.drew.cell? ⟨g, 0 + i * 5 + j, none⟩).isSome = true ∧ w.drew.frozen? ⟨g, 0 + i * 5 + j, none⟩ = false) := by
    intro j hj
    rw [lM] at hj
    exact hcell w _ hS (0 + i * 5 + j) (by omega)
  have hS2 : Sq w0 (w.drew.setCells g (0 + i * 5) M) (rOwn w0.heap.size 47 5 (.slice (some ⟨g, 0, none⟩) n c) n (setL (xs.flatMap sltC) (0 + i * 5) M) :: l) := Sq.setL M (0 + i * 5) w.drew _ hS.drew
  obtain ⟨W, hW⟩ : ∃ W, w.drew.setCells g (0 + i * 5) M = W := ⟨_, rfl⟩
  rw [hW] at hS2
  obtain ⟨vs, hcl, hvl⟩ := run_clear_slt W g ((n - 1) * 5) (n - (n - 1)) (c - (n - 1)) (by omega) (fun j hj => (hcell W _ hS2 ((n - 1) * 5 + j) (by omega)).1) (fun j hj => (hcell W _ hS2 ((n - 1) * 5 + j) (by omega)).2)
  have hF : Sq w0 (W.setCells g ((n - 1) * 5) vs) (rSl w0.heap.size (some ⟨g, 0, none⟩) (n - 1) c (xs.eraseIdx i) :: l) := by
    have h := (Sq.setL vs ((n - 1) * 5) W _ hS2).short (k := n - 1) (by omega)
    rw [Nat.zero_add, ← hM, ← hl, erase_flat xs i (by omega) vs (by rw [hvl]; omega)] at h
    rw [← hl]
    exact h
  have HF := Lib.hid hF
  rw [Nat.zero_add] at hW
  have hcn : ¬ c = n - 1 := by omega
  have hic : i ≤ c := by omega
  have hp0 : (0 : Int) ≤ (i : Int) + 1 := by omega
  have hp1 : (i : Int) + 1 ≤ (n : Int) := by omega
  have hp2 : ((i : Int) + 1).toNat = i + 1 := by omega
  have hne : ((i : Int) == (i : Int) + 1) = false := by rw [beq_eq_false_iff_ne]; omega
  have hi1 : (i : Int) ≤ (n : Int) := by omega
  have hi2 : (i : Int) ≤ (i : Int) + 1 := by omega
  have hnn : i + (n - (i + 1)) = n - 1 := by omega
  clear hown hcell lM hS hS2 hvl hF
  go_enter Tryz.func59, Tryz.ntmps59
  go_wp2_with fail
  go_region_law (refine step_append_room rfl (.tmp 22) (.tmp 25) 36 rfl 47 i0 5 Tryz.underlying36 hi0 hz1 g 0 i c (by simp [Act.eval, Act.put]) A (n - (i + 1)) (c - (i + 1)) M (by simp [Act.eval, Act.put]) s1.out hnews.out s2.out (by omega) s3.out ?_)
  clear hW
  go_wp2_with fail
  go_ret
  exact ⟨rfl, HF.out⟩

theorem cmpL_val : ∀ a b : List UInt8, Lib.compareBytes a b = if Op.bytesLess a b = true then -1 else if (a == b) = true then 0 else 1
  | [], [] => rfl
  | [], _ :: _ => rfl
  | _ :: _, [] => rfl
  | a :: p, b :: q => by
    have ih := cmpL_val p q
    unfold Lib.compareBytes Op.bytesLess
    by_cases h1 : a < b
    · simp [h1]
    · by_cases h2 : b < a
      · have hne : ¬ a = b := fun e => by subst e; exact h1 h2
        simp [h1, h2, hne]
      · have he : a = b := UInt8.le_antisymm (UInt8.not_lt.1 h2) (UInt8.not_lt.1 h1)
        subst he
        rw [if_neg h1, if_neg h1, ih]
        simp [h1]
theorem cmpS_val (a b : ByteArray) : cmpS a b = if Op.bytesLess a.toList b.toList = true then -1 else if (a.toList == b.toList) = true then 0 else 1 := by
  unfold cmpS
  rw [cmpL_val, Lib.toList_data, Lib.toList_data]
end Go.Proofs.YtejadhehmcifoaaGreatDoor
