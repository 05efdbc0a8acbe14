/-
  Cells stored into a row of the call's own; a shorter slice of it; append to a slice without room. No Go text is named here.
-/
import Derived.Test.YthbcogekfdllmaaGreatDoorZBs
import Derived.ArgAppend
import Derived.RegionTactic
import Derived.Test.YthbcogekfdllmaaGreatDoorZLow
import Derived.Deep.MidRow
import Derived.Deep.RegionLaw
import Derived.Deep.RegionHeld3
namespace Go.Proofs.YthbcogekfdllmaaGreatDoor
open Go Go.RowKit

theorem own_short {w : World} {base : Nat} {e : TypeId} {size n k c : Nat} {A : Option Addr} {xs : List Value} (h : w.ownsRow base e size (.slice A n c) n xs) (hk : k ≤ n) (hA : A ≠ none) : w.ownsRow base e size (.slice A k c) k (xs.take (k * size)) := by
  have h1 := h.1
  refine ⟨?_, ?_⟩
  · rw [List.length_take, h1]
    exact Nat.min_eq_left (Nat.mul_le_mul_right _ hk)
  · rcases h.2 with ⟨he, _⟩ | ⟨g, cap, cur, he, hb, hg, h2, h3, h4, h5⟩
    · injection he with he _ _
      exact absurd he hA
    · injection he with he1 he2 he3
      subst he1 he3
      refine .inr ⟨g, c, cur, rfl, hb, hg, Nat.le_trans hk h2, h3, h4, ?_⟩
      rw [← h5, List.take_take, Nat.min_eq_left (Nat.mul_le_mul_right _ hk)]

def setL : List Value → Nat → List Value → List Value
  | xs, _, [] => xs
  | xs, o, v :: vs => setL (xs.set o v) (o + 1) vs
theorem setL_app : ∀ (vs a b c : List Value), b.length = vs.length → setL (a ++ b ++ c) a.length vs = a ++ vs ++ c
  | [], a, b, c, h => by
    have : b = [] := List.eq_nil_of_length_eq_zero h
    subst this
    rfl
  | v :: vs, a, [], c, h => by simp at h
  | v :: vs, a, x :: b, c, h => by
    have ih := setL_app vs (a ++ [v]) b c (by simpa using h)
    rw [setL, List.append_assoc, List.set_append_right _ _ (Nat.le_refl _), Nat.sub_self, List.cons_append, List.set_cons_zero]
    have e1 : a ++ v :: (b ++ c) = a ++ [v] ++ b ++ c := by simp
    have e2 : a.length + 1 = (a ++ [v]).length := by simp
    rw [e1, e2, ih]
    simp
section
variable {w W : World} {l : List Rsc}
theorem Sq.setL {base : Nat} {e : TypeId} {size n g c : Nat} : ∀ (vs : List Value) (o : Nat) (W : World) (xs : List Value), Sq w W (rOwn base e size (.slice (some ⟨g, 0, none⟩) n c) n xs :: l) → Sq w (W.setCells g o vs) (rOwn base e size (.slice (some ⟨g, 0, none⟩) n c) n (Go.Proofs.YthbcogekfdllmaaGreatDoor.setL xs o vs) :: l)
  | [], _, _, _, h => h
  | v :: vs, o, W, xs, h => by
    have ho : W.ownsRow base e size (.slice (some ⟨g, 0, none⟩) n c) n xs := h.head
    exact Sq.setL vs (o + 1) _ _ (h.store_ (g := g) rfl o v (r' := rOwn base e size (.slice (some ⟨g, 0, none⟩) n c) n (xs.set o v)) (ho.stored o v).1 (rOwn_ok _ _ _ _ _ _) (fun _ hk => hk))
theorem Sq.short {base : Nat} {e : TypeId} {size n k g c : Nat} {xs : List Value} (h : Sq w W (rOwn base e size (.slice (some ⟨g, 0, none⟩) n c) n xs :: l)) (hk : k ≤ n) : Sq w W (rOwn base e size (.slice (some ⟨g, 0, none⟩) k c) k (xs.take (k * size)) :: l) :=
  h.turn (row := none) (World.grownBy.refl W _) (fun _ hk => by cases hk) (own_short h.head hk (by simp)) (rOwn_ok _ _ _ _ _ _) (fun q hq => ⟨.inl hq, (h.hp.new _ (List.mem_cons_self ..) q hq).2⟩)
end

/-- append to a slice that has no room: new memory -/
theorem run_app_full {P : Program} (w : World) (t ty e : TypeId) (i : TypeInfo) (z : Value) (size bytes : Nat) (ht : P.underlying t = some (.slice e)) (hi : P.info? e = some i) (hz : i.zero = some z)
    (hsize : i.size = size) (hby : i.bytes = bytes) (hzs : z.cells.size = size) (hsz : 0 < size)
    (b n : Nat) (A : Option Addr) (c : Nat) (xs : List Value) (hr : Rd w b size (.slice A n c) n xs)
    (a : Addr) (m c2 : Nat) (news : List Value) (hl : news.length = m * size) (hnews : ∀ j u, news[j]? = some u → w.cell? (a.add j) = some u) (h1 : ∀ u ∈ news, u.oneCell' = true)
    (hm : 0 < m) (h63 : n + m ≤ maxLen) (hbytes : (n + m) * bytes ≤ 140737488355328) :
    ∃ v' w', (Builtin.append_ #[t, t] ty #[.slice A n n, .slice (some a) m c2]).run P w = .ok v' w' ∧ w'.ownsRow w.heap.size e size v' (n + m) (xs ++ news) ∧ Below w.heap.size w w' := by
  obtain ⟨A', c', e1, e2, e3, e4, e5, e6⟩ := hr
  injection e1 with ea eb ec
  subst ea ec
  cases A with
  | none =>
    obtain ⟨rfl, rfl⟩ := e5 rfl
    have hx : xs = [] := List.eq_nil_of_length_eq_zero (by simpa using e4)
    subst hx
    obtain ⟨v', w', hrun, h2, h3, _, h5⟩ := run_append_own_at (P := P) w w.heap.size t ty e i z size bytes ht hi hz hsize hby hzs hsz (.slice none 0 0) 0 [] (World.ownsRow_nil _ _ _ _) a m c2 news hl hnews h1 h63 hbytes (Nat.le_refl _)
    exact ⟨v', w', hrun, h2, ⟨h3.os, h3.tape, h3.output, h3.size, fun k hk => h3.block k hk (by simp [Value.ownBlock])⟩⟩
  | some ad =>
    have hcells : ∀ j u, xs[j]? = some u → w.cell? (ad.add j) = some u := by
      intro j u hu
      have hpos : 0 < n := by
        rcases Nat.eq_zero_or_pos n with h | h
        · subst h
          have hx : xs = [] := List.eq_nil_of_length_eq_zero (by simpa using e4)
          subst hx
          simp at hu
        · exact h
      obtain ⟨g, o, f1, _, f3⟩ := e6 hpos
      injection f1 with f1
      subst f1
      have hadd : (⟨g, o, none⟩ : Addr).add j = ⟨g, o + j, none⟩ := by unfold Addr.add; split <;> simp_all
      rw [hadd]
      exact f3 j u hu
    obtain ⟨v', w', hrun, h2, h3⟩ := run_append_arg_grows (P := P) w t ty e i z size bytes ht hi hz hsize hby hzs hsz ad n n xs e4 hcells a m c2 news hl hnews (by omega) h63 hbytes
    exact ⟨v', w', hrun, h2, ⟨h3.os, h3.tape, h3.output, h3.size, fun k hk => h3.block k hk (by simp)⟩⟩
theorem step_app_full {P : Program} {w : World} {ops : Array Oper} {o : Oper} {a : Act} {K : Act → World → Prop} {Q : Exit → Act → World → Prop} {E : Prop} (hgd : o.guard = none) (s x : Operand) (t : TypeId)
    (ho : o.op = .call { callee := .builtin .append, args := #[s, x], argTypes := #[t, t] })
    (e : TypeId) (i : TypeInfo) (z : Value) (size bytes : Nat) (ht : P.underlying t = some (.slice e)) (hi : P.info? e = some i) (hz : i.zero = some z)
    (hsize : i.size = size) (hby : i.bytes = bytes) (hzs : z.cells.size = size) (hsz : 0 < size)
    (b n : Nat) (A : Option Addr) (c : Nat) (xs : List Value) (hr : Rd w b size (.slice A n c) n xs) (hs : a.eval s = .slice A n n)
    (ad : Addr) (m c2 : Nat) (news : List Value) (hx : a.eval x = .slice (some ad) m c2) (hl : news.length = m * size) (hnews : ∀ j u, news[j]? = some u → w.cell? (ad.add j) = some u) (h1 : ∀ u ∈ news, u.oneCell' = true)
    (hm : 0 < m) (h63 : n + m ≤ maxLen) (hbytes : (n + m) * bytes ≤ 140737488355328)
    (h : ∀ v' w', w'.ownsRow w.heap.size e size v' (n + m) (xs ++ news) → Below w.heap.size w w' → K (a.put o.dst v') w') :
    if Region.wanted o (yielded ops a.tmps) = true then Oper.wp P o a w K Q else E := by
  have hw : Region.wanted o (yielded ops a.tmps) = true := by simp [Region.wanted, hgd]
  rw [if_pos hw]
  obtain ⟨v', w', hrun, h2, h3⟩ := run_app_full (P := P) w t o.type e i z size bytes ht hi hz hsize hby hzs hsz b n A c xs hr ad m c2 news hl hnews h1 hm h63 hbytes
  unfold Oper.wp execOp
  simp only [ho, resolve, invoke, builtin, Sem.run_bind, Sem.run_pure, Result.andThen_ok, List.map_toArray, List.map_cons, List.map_nil, hs, hx, hrun]
  exact h v' w' h2 h3
end Go.Proofs.YthbcogekfdllmaaGreatDoor
/-
  slices.Clone and slices.Delete of slots; slices.Compare of strings.
-/
namespace Go.Proofs.YthbcogekfdllmaaGreatDoor
open Go Go.RowKit
attribute [local go_sem ↓] Go.wp_at_zero Go.wp_at_succ

theorem sltC_one (ys : List Slt) : ∀ u ∈ ys.flatMap sltC, u.oneCell' = true := by
  intro u hu
  obtain ⟨y, _, hy⟩ := List.mem_flatMap.1 hu
  simp [sltC] at hy
  rcases hy with rfl | rfl | rfl | rfl | rfl <;> rfl
/-- slots in a row of one's own -/
abbrev rSl (base : Nat) (A : Option Addr) (n c : Nat) (xs : List Slt) : Rsc := rOwn base 64 5 (.slice A n c) n (xs.flatMap sltC)
set_option maxRecDepth 100000 in
theorem cloneSlt_calls (b : Nat) (A : Option Addr) (n c : Nat) (xs : List Value) (w : World) (hr : Rd w b 5 (.slice A n c) n xs) (h1 : ∀ u ∈ xs, u.oneCell' = true) (hn : n ≤ 100000) :
    Calls Tryz.prog 67 #[.slice A n c] w fun e w' => ∃ v, e = .returned v ∧ w'.ownsRow w.heap.size 64 5 v n xs ∧ Below w.heap.size w w' := by
  obtain ⟨i0, hi, hz0, hz1, hz2⟩ := info_parts info_slt
  have q29 : ∀ (w : World) (a : Option Addr) (n c n' c' : Nat), (binOp .eql 49 (.slice a n c) (.slice none n' c')).run Tryz.prog w = .ok (.bool a.isNone) w := fun w a n c n' c' => Lib.run_eql_slice_nil w _ _ a n c n' c' Tryz.underlying49
  obtain ⟨A', c', e1, e2, e3, e4, e5, e6⟩ := hr
  injection e1 with ea eb ec
  subst ea ec
  cases A with
  | none =>
    obtain ⟨rfl, rfl⟩ := e5 rfl
    have hx : xs = [] := List.eq_nil_of_length_eq_zero (by simpa using e4)
    subst hx
    clear e6
    go_enter Tryz.func67, Tryz.ntmps67
    go_wp2
    go_ret
    exact ⟨_, rfl, World.ownsRow_nil _ _ _ _, Below.refl _ _⟩
  | some a =>
    have hcells : ∀ j u, xs[j]? = some u → w.cell? (a.add j) = some u := by
      intro j u hu
      have hpos : 0 < n := by
        rcases Nat.eq_zero_or_pos n with h | h
        · subst h
          have hx : xs = [] := List.eq_nil_of_length_eq_zero (by simpa using e4)
          subst hx
          simp at hu
        · exact h
      obtain ⟨g, o, f1, _, f3⟩ := e6 hpos
      injection f1 with f1
      subst f1
      have hadd : (⟨g, o, none⟩ : Addr).add j = ⟨g, o + j, none⟩ := by unfold Addr.add; split <;> simp_all
      rw [hadd]
      exact f3 j u hu
    have hcells2 : ∀ ob : Obj, ∀ j u, xs[j]? = some u → (w.alloc ob).cell? (a.add j) = some u := fun ob j u hu =>
      (World.cell?_alloc_lt w ob (a.add j) (World.block_lt_of_cell? w _ (hcells j u hu))).trans (hcells j u hu)
    clear e6 hcells
    go_enter Tryz.func67, Tryz.ntmps67
    go_wp2_with (first
      | (at_builtin; refine wpList_append_own _ rfl _ _ 49 rfl w.heap.size 64 i0 (.agg #[.string ⟨#[]⟩, .string ⟨#[]⟩, .slice none 0 0, .int .i64 0, .int .i64 0]) 5 72 Tryz.underlying49 hi hz0 hz1 hz2 rfl (by decide) _ 0 [] rfl (World.ownsRow_lit (base := w.heap.size) w #[] 0 (Nat.le_refl _) (by decide) rfl) a n c xs rfl (by simpa using e4) (hcells2 _) h1 (by unfold maxLen; omega) (by omega) (by simp) ?_; intro v' w1 hown' hgrow hnil))
    go_ret
    refine ⟨_, rfl, by simpa using hown', ((Below.refl _ _).alloc (Nat.le_refl _) _).grown hgrow (by simp) (fun q hq => ?_)⟩
    have h2 : some w.heap.size = some q := hq
    injection h2 with h2
    omega

theorem run_clear_slt (w : World) (b o n c : Nat) (hn : 0 < n) (hc : ∀ j, j < n * 5 → (w.cell? ⟨b, o + j, none⟩).isSome = true) (hf : ∀ j, j < n * 5 → w.frozen? ⟨b, o + j, none⟩ = false) :
    ∃ vs : List Value, (∀ ty, (Builtin.clear_ #[49] ty #[.slice (some ⟨b, o, none⟩) n c]).run Tryz.prog w = .ok (.tuple #[]) (w.setCells b o vs)) ∧ vs.length = n * 5 := by
  have hv : ∀ w, (zeroValue 64).run Tryz.prog w = .ok (.agg #[.string ⟨#[]⟩, .string ⟨#[]⟩, .slice none 0 0, .int .i64 0, .int .i64 0]) w := fun w => by kernel_rfl
  obtain ⟨vs, hvs⟩ : ∃ vs, (Builtin.zeroCells #[.string ⟨#[]⟩, .string ⟨#[]⟩, .slice none 0 0, .int .i64 0, .int .i64 0] n).toList = vs := ⟨_, rfl⟩
  have hlen : vs.length = n * 5 := by rw [← hvs]; simp [Builtin.zeroCells]
  have h1 : ∀ v ∈ vs, v.oneCell' = true := by
    intro v hv
    rw [← hvs] at hv
    simp [Builtin.zeroCells] at hv
    obtain ⟨i, _, rfl⟩ := hv
    rcases (show i % 5 = 0 ∨ i % 5 = 1 ∨ i % 5 = 2 ∨ i % 5 = 3 ∨ i % 5 = 4 by omega) with h | h | h | h | h <;> simp [h] <;> rfl
  have hst := run_storeCells_cells (P := Tryz.prog) b o vs 0 w (by simpa [hlen] using hc) (by simpa [hlen] using hf) h1
  simp only [Nat.add_zero] at hst
  refine ⟨vs, fun ty => ?_, hlen⟩
  obtain ⟨m, rfl⟩ : ∃ m, n = m + 1 := ⟨n - 1, by omega⟩
  simp [Builtin.clear_, run_underlying Tryz.underlying49, hv, Value.cells, hvs, hst, Result.andThen]

/-- the cells of the slots behind slot i, one place on -/
theorem erase_flat (xs : List Slt) (i : Nat) (hi : i < xs.length) (zs : List Value) (hz : zs.length = 5) :
    ((setL (setL (xs.flatMap sltC) (i * 5) ((xs.drop (i + 1)).flatMap sltC)) ((xs.length - 1) * 5) zs).take ((xs.length - 1) * 5)) = (xs.eraseIdx i).flatMap sltC := by
  have lT : ((xs.take i).flatMap sltC).length = i * 5 := by rw [flat_len sltC 5 sltC_len, List.length_take, Nat.min_eq_left (by omega)]
  have lM : ((xs.drop (i + 1)).flatMap sltC).length = (xs.length - (i + 1)) * 5 := by rw [flat_len sltC 5 sltC_len, List.length_drop]
  obtain ⟨M, hM⟩ : ∃ M, (xs.drop (i + 1)).flatMap sltC = M := ⟨_, rfl⟩
  obtain ⟨T, hT⟩ : ∃ T, (xs.take i).flatMap sltC = T := ⟨_, rfl⟩
  have e0 : xs.flatMap sltC = T ++ (xs.drop i).flatMap sltC := by rw [← hT, ← List.flatMap_append, List.take_append_drop]
  obtain ⟨D, hD⟩ : ∃ D, (xs.drop i).flatMap sltC = D := ⟨_, rfl⟩
  have lD : D.length = (xs.length - i) * 5 := by rw [← hD, flat_len sltC 5 sltC_len, List.length_drop]
  rw [hM] at lM ⊢
  rw [hT] at lT
  rw [hD] at e0
  have e1 : D = D.take M.length ++ D.drop M.length := (List.take_append_drop _ _).symm
  have e2 : setL (xs.flatMap sltC) (i * 5) M = T ++ M ++ D.drop M.length := by
    rw [e0, e1, ← List.append_assoc, ← lT]
    rw [setL_app M T _ _ (by rw [List.length_take, lD, lM]; omega)]
    rw [List.drop_append_of_le_length (by rw [List.length_take]; omega)]
    simp
  have e3 : (T ++ M).length = (xs.length - 1) * 5 := by rw [List.length_append, lT, lM, ← Nat.add_mul]; congr 1; omega
  have e4 : setL (T ++ M ++ D.drop M.length) (T ++ M).length zs = T ++ M ++ zs ++ [] := by
    have := setL_app zs (T ++ M) (D.drop M.length) [] (by rw [List.length_drop, lD, lM, hz, ← Nat.sub_mul]; congr 1; omega)
    rw [List.append_nil] at this
    exact this
  rw [e2, ← e3, e4, List.append_nil, List.take_left]
  rw [List.eraseIdx_eq_take_drop_succ, List.flatMap_append, hT, hM]

set_option maxRecDepth 1000000 in
set_option maxHeartbeats 2000000 in
theorem delSlt_calls (w0 w : World) (l : List Rsc) (g n c i : Nat) (xs : List Slt) (hS : Sq w0 w (rSl w0.heap.size (some ⟨g, 0, none⟩) n c xs :: l)) (hi : i < n) (hn : n ≤ 1000) :
    Calls Tryz.prog 129 #[.slice (some ⟨g, 0, none⟩) n c, .int .i64 i, .int .i64 ((i : Int) + 1)] w fun e w' => e = .returned (.slice (some ⟨g, 0, none⟩) (n - 1) c) ∧ Sq w0 w' (rSl w0.heap.size (some ⟨g, 0, none⟩) (n - 1) c (xs.eraseIdx i) :: l) := by
  obtain ⟨i0, hi0, hz0, hz1, hz2⟩ := info_parts info_slt
  have hown : w.ownsRow w0.heap.size 64 5 (.slice (some ⟨g, 0, none⟩) n c) n (xs.flatMap sltC) := hS.head
  obtain ⟨hnc, hcm⟩ := own_cap hown
  unfold maxLen at hcm
  have hl : xs.length = n := by have := hown.1; rw [flat_len sltC 5 sltC_len] at this; omega
  have hcell : ∀ (W : World) (ys : List Value), Sq w0 W (rOwn w0.heap.size 64 5 (.slice (some ⟨g, 0, none⟩) n c) n ys :: l) → ∀ j, j < n * 5 → (W.cell? ⟨g, j, none⟩).isSome = true ∧ W.frozen? ⟨g, j, none⟩ = false := fun W ys h j hj => by
    have ho : W.ownsRow w0.heap.size 64 5 (.slice (some ⟨g, 0, none⟩) n c) n ys := h.head
    refine ⟨?_, ho.frozenAt _⟩
    rw [ho.cellAt j hj]
    have : j < ys.length := by rw [ho.1]; exact hj
    rw [List.getElem?_eq_getElem this]; rfl
  obtain ⟨M, hM⟩ : ∃ M, (xs.drop (i + 1)).flatMap sltC = M := ⟨_, rfl⟩
  have lM : M.length = (n - (i + 1)) * 5 := by rw [← hM, flat_len sltC 5 sltC_len, List.length_drop, hl]
  obtain ⟨A, hA, hnews⟩ : ∃ A : Addr, (if c = i + 1 then some (⟨g, 0, none⟩ : Addr) else some ⟨g, (i + 1) * 5, none⟩) = some A ∧ Hid (∀ j u, M[j]? = some u → w.drew.cell? (A.add j) = some u) := by
    by_cases h : c = i + 1
    · refine ⟨⟨g, 0, none⟩, by simp [h], fun j u hu => ?_⟩
      have h0 : M.length = 0 := by rw [lM]; omega
      rw [List.length_eq_zero_iff.1 h0] at hu
      simp at hu
    · refine ⟨⟨g, (i + 1) * 5, none⟩, by simp [h], fun j u hu => ?_⟩
      have hj : j < (n - (i + 1)) * 5 := by
        have := (List.getElem?_eq_some_iff.1 hu).1
        rwa [lM] at this
      rw [Addr.add_lit]
      have hx := hown.cellAt ((i + 1) * 5 + j) (by omega)
      show w.cell? _ = _
      rw [hx]
      have e : xs.flatMap sltC = (xs.take (i + 1)).flatMap sltC ++ M := by rw [← hM, ← List.flatMap_append, List.take_append_drop]
      have lT : ((xs.take (i + 1)).flatMap sltC).length = (i + 1) * 5 := by rw [flat_len sltC 5 sltC_len, List.length_take, Nat.min_eq_left (by omega)]
      rw [e, List.getElem?_append_right (by omega), lT, Nat.add_sub_cancel_left]
      exact hu
  have s1 : Hid (M.length = (n - (i + 1)) * 5) := lM
  have s2 : Hid (∀ u ∈ M, u.oneCell' = true) := by rw [← hM]; exact sltC_one _
  have s3 : Hid (∀ j, j < M.length → (w.drew.cell? ⟨g, 0 + i * 5 + j, none⟩).isSome = true ∧ w.drew.frozen? ⟨g, 0 + i * 5 + j, none⟩ = false) := by
    intro j hj
    rw [lM] at hj
    exact hcell w _ hS (0 + i * 5 + j) (by omega)
  have hS2 : Sq w0 (w.drew.setCells g (0 + i * 5) M) (rOwn w0.heap.size 64 5 (.slice (some ⟨g, 0, none⟩) n c) n (setL (xs.flatMap sltC) (0 + i * 5) M) :: l) := Sq.setL M (0 + i * 5) w.drew _ hS.drew
  obtain ⟨W, hW⟩ : ∃ W, w.drew.setCells g (0 + i * 5) M = W := ⟨_, rfl⟩
  rw [hW] at hS2
  obtain ⟨vs, hcl, hvl⟩ := run_clear_slt W g ((n - 1) * 5) (n - (n - 1)) (c - (n - 1)) (by omega) (fun j hj => (hcell W _ hS2 ((n - 1) * 5 + j) (by omega)).1) (fun j hj => (hcell W _ hS2 ((n - 1) * 5 + j) (by omega)).2)
  have hF : Sq w0 (W.setCells g ((n - 1) * 5) vs) (rSl w0.heap.size (some ⟨g, 0, none⟩) (n - 1) c (xs.eraseIdx i) :: l) := by
    have h := (Sq.setL vs ((n - 1) * 5) W _ hS2).short (k := n - 1) (by omega)
    rw [Nat.zero_add, ← hM, ← hl, erase_flat xs i (by omega) vs (by rw [hvl]; omega)] at h
    rw [← hl]
    exact h
  have HF := Lib.hid hF
  rw [Nat.zero_add] at hW
  have hcn : ¬ c = n - 1 := by omega
  have hic : i ≤ c := by omega
  have hp0 : (0 : Int) ≤ (i : Int) + 1 := by omega
  have hp1 : (i : Int) + 1 ≤ (n : Int) := by omega
  have hp2 : ((i : Int) + 1).toNat = i + 1 := by omega
  have hne : ((i : Int) == (i : Int) + 1) = false := by rw [beq_eq_false_iff_ne]; omega
  have hi1 : (i : Int) ≤ (n : Int) := by omega
  have hi2 : (i : Int) ≤ (i : Int) + 1 := by omega
  have hnn : i + (n - (i + 1)) = n - 1 := by omega
  clear hown hcell lM hS hS2 hvl hF
  go_enter Tryz.func129, Tryz.ntmps129
  go_wp2_with fail
  go_region_law (refine step_append_room rfl (.tmp 22) (.tmp 25) 49 rfl 64 i0 5 Tryz.underlying49 hi0 hz1 g 0 i c (by simp [Act.eval, Act.put]) A (n - (i + 1)) (c - (i + 1)) M (by simp [Act.eval, Act.put]) s1.out hnews.out s2.out (by omega) s3.out ?_)
  clear hW
  go_wp2_with fail
  go_ret
  exact ⟨rfl, HF.out⟩

end Go.Proofs.YthbcogekfdllmaaGreatDoor
