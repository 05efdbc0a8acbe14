/-
  The law's words for errors of names and moments, and the stream's moment of a board.
-/
import Derived.Test.YtebaaoacmmhppaaGreatZLawStart
import Derived.Deep.DeepCutAuto
import Derived.Test.YtebaaoacmmhppaaGreatZRatMake4
import Derived.Test.YtebaaoacmmhppaaGreatZSlotPure
import Derived.Test.YtebaaoacmmhppaaGreatZEv1W
import Derived.Test.YtebaaoacmmhppaaGreatZStrX
import Derived.Shelf.SlGeneric
import Derived.Shelf.Spec.SlicesGrow
import Derived.Test.YtebaaoacmmhppaaGreatProg
import Derived.Test.YtebaaoacmmhppaaGreatZBase
import Derived.RegionTactic
namespace Go.Proofs.YtebaaoacmmhppaaGreat
open Go Go.RowKit

def moB (u : Int) : Int := if momB u = true then 0 else 1
theorem errsB_calls (l : List Int) (E : Int) (n : Nat) (hl : l.length = n) (hE : firstE l = E) (hn : n ≤ 10) (W : World) : Calls Tryz.prog 15 #[.slice (some ⟨W.heap.size, 0, none⟩) n n] (W.alloc (.cells (l.map (Value.int .i64)).toArray 33)) (fun e w' => e = .returned (.int .i64 E) ∧ Below W.heap.size W w') := by
  subst hl hE
  have h := errs_calls (W.heap.size + 5) _ l.length l.length l _ (Rd.lit W (W.heap.size + 5) 1 l.length (l.map (Value.int .i64)).toArray 33 (by omega) (by unfold maxLen; omega) (by simp))
  refine h.mono ?_
  rintro e w' ⟨he, nq, rfl⟩
  exact ⟨he, below_drewN ((Below.refl _ _).alloc (Nat.le_refl _) _) nq⟩
theorem momentFaultB_calls (u : Int) (w : World) : Calls Tryz.prog 17 #[.int .i64 u] w fun e w' => e = .returned (.int .i64 (moB u)) ∧ Below w.heap.size w w' :=
  (momentFault_calls u w).mono (fun _ _ ⟨he, hw⟩ => ⟨he, hw ▸ Below.refl _ _⟩)
def btX : List Int := [5, 15, 20, 30, 60, 60, 100, -1]
theorem boardTime_calls {zs : ZsT} {w W : World} {b p : Nat} {l : List Rsc} (h : SpX zs w b p W l) (hp : p ≤ 1000000) :
    Calls Tryz.prog 8 #[.pointer (some ⟨b, 0, none⟩)] W (fun e w' => ∃ q : Int, e = .returned (.int .i64 q) ∧ Hid (pkX zs p btX = q) ∧ -1 ≤ q ∧ q ≤ 100 ∧ SpX zs w b (p + 1) w' l) := by
  have HP := Lib.hid (spE_pickL h btX (-1) 100 #[.int .i64 5, .int .i64 15, .int .i64 20, .int .i64 30, .int .i64 60, .int .i64 60, .int .i64 100, .int .i64 (-1)] 3 8 rfl (by decide) (by decide) rfl (by decide) (by decide) hp)
  go_enter Tryz.func8, Tryz.ntmps8
  go_wp2_with fail
  refine HP.out.mono ?_
  rintro e w2 ⟨q, rfl, h1, h2, h3, h4⟩
  go_wp2_with fail
  go_ret
  exact ⟨q, rfl, h1, h2, h3, h4⟩
end Go.Proofs.YtebaaoacmmhppaaGreat
/-
  DERIVED: THE SHELF's CONTRACTS AT THIS DUMP, IN PLAIN WORDS (tools/lay-plain.mjs out of 'TryzShelf.lean', which tools/lay-shelf.mjs wrote): THE SAME DECLARATIONS UNDER THE SAME NAMES: 'import', 'namespace', 'open', 'def', 'theorem' AND NOTHING ELSE: no command of the shelf's: FOR A HAND-IN. Each laying: the table of numbers ('.._ren') and one theorem, a field a fact of the dump's own or the kernel's comparison; each contract: ONE APPLICATION.
-/
namespace Go.Proofs
open Go.Shelf
def Tryz.growEv_ren : Go.Shelf.Ren := ⟨fun | 4 => 97 | n => n, fun | 22 => 26 | 25 => 62 | 3 => 3 | 4 => 4 | 9 => 9 | 20 => 20 | 0 => 0 | n => n, fun | n => n⟩
theorem Tryz.growEv : Go.Proofs.Lays8.n4 Tryz.prog Tryz.growEv_ren := {
  mixed := by kernel_rfl
  f4 := ⟨Tryz.f97.name, by decide, Tryz.func97.trans (congrArg some (by kernel_rfl))⟩
  t0 := Tryz.underlying0
  a0 := Tryz.isAgg0
  z0 := Tryz.sizeOf0
  v0 := Tryz.zeroValue0
  t3 := Tryz.underlying3
  a3 := Tryz.isAgg3
  z3 := Tryz.sizeOf3
  v3 := Tryz.zeroValue3
  t4 := Tryz.underlying4
  a4 := Tryz.isAgg4
  z4 := Tryz.sizeOf4
  v4 := Tryz.zeroValue4
  t9 := Tryz.underlying9
  a9 := Tryz.isAgg9
  z9 := Tryz.sizeOf9
  v9 := Tryz.zeroValue9
  t20 := Tryz.underlying20
  a20 := Tryz.isAgg20
  z20 := Tryz.sizeOf20
  v20 := Tryz.zeroValue20
  t22 := Tryz.underlying26
  a22 := Tryz.isAgg26
  z22 := Tryz.sizeOf26
  v22 := Tryz.zeroValue26 }
end Go.Proofs
/-
  append of a slice that reads as a list (nil, empty or not) onto a row of the call's own. No Go text is named here.
-/
namespace Go.Proofs.YtebaaoacmmhppaaGreat
open Go Go.RowKit
variable {P : Program} (w : World)

theorem run_app_nil (base : Nat) (t ty e : TypeId) (i : TypeInfo) (size : Nat) (ht : P.underlying t = some (.slice e)) (hi : P.info? e = some i)
    (v : Value) (n : Nat) (xs : List Value) (hown : w.ownsRow base e size v n xs) (c : Nat) : (Builtin.append_ #[t, t] ty #[v, .slice none 0 c]).run P w = .ok v w := by
  rcases hown.2 with ⟨rfl, rfl⟩ | ⟨g, cap, cur, rfl, _, _, hnc, _⟩
  · simp [Builtin.append_, run_underlying ht, sizeOf, typeInfo, hi, Builtin.lenOf, Builtin.firstCells]
  · simp [Builtin.append_, run_underlying ht, sizeOf, typeInfo, hi, Builtin.lenOf, Builtin.firstCells, hnc, storeCells]
theorem run_app_rd (base : Nat) (t ty e : TypeId) (i : TypeInfo) (z : Value) (size bytes : Nat) (ht : P.underlying t = some (.slice e)) (hi : P.info? e = some i) (hz : i.zero = some z)
    (hsize : i.size = size) (hby : i.bytes = bytes) (hzs : z.cells.size = size) (hsz : 0 < size)
    (v : Value) (n : Nat) (xs : List Value) (hown : w.ownsRow base e size v n xs)
    (b : Nat) (A : Option Addr) (m c : Nat) (news : List Value) (hr : Rd w b size (.slice A m c) m news) (h1 : ∀ u ∈ news, u.oneCell' = true)
    (h63 : n + m ≤ maxLen) (hbytes : (n + m) * bytes ≤ 140737488355328) (hbase : base ≤ w.heap.size) :
    ∃ v' w', (Builtin.append_ #[t, t] ty #[v, .slice A m c]).run P w = .ok v' w' ∧ w'.ownsRow base e size v' (n + m) (xs ++ news) ∧ w.grownBy w' v.ownBlock ∧
      (v'.ownBlock = v.ownBlock ∨ v'.ownBlock = some w.heap.size) := by
  obtain ⟨A', c', e1, e2, e3, e4, e5, e6⟩ := hr
  injection e1 with ea eb ec
  subst ea ec
  cases A with
  | none =>
    obtain ⟨rfl, rfl⟩ := e5 rfl
    have hn : news = [] := List.eq_nil_of_length_eq_zero (by simpa using e4)
    subst hn
    exact ⟨v, w, run_app_nil w base t ty e i size ht hi v n xs hown 0, by simpa using hown, World.grownBy.refl w _, .inl rfl⟩
  | some ad =>
    have hcells : ∀ j u, news[j]? = some u → w.cell? (ad.add j) = some u := by
      intro j u hu
      rcases Nat.eq_zero_or_pos m with h0 | h0
      · subst h0
        have hn : news = [] := List.eq_nil_of_length_eq_zero (by simpa using e4)
        subst hn
        simp at hu
      · obtain ⟨g, o, f1, _, f3⟩ := e6 h0
        injection f1 with f1
        subst f1
        have hadd : (⟨g, o, none⟩ : Addr).add j = ⟨g, o + j, none⟩ := by unfold Addr.add; split <;> simp_all
        rw [hadd]
        exact f3 j u hu
    obtain ⟨v', w', hrun, h2, h3, _, h5⟩ := run_append_own_at (P := P) w base t ty e i z size bytes ht hi hz hsize hby hzs hsz v n xs hown ad m c news e4 hcells h1 h63 hbytes hbase
    exact ⟨v', w', hrun, h2, h3, h5⟩
theorem wp_app_rd {o : Oper} {a : Act} {K : Act → World → Prop} {Q : Exit → Act → World → Prop} (s x : Operand) (t : TypeId)
    (ho : o.op = .call { callee := .builtin .append, args := #[s, x], argTypes := #[t, t] })
    (base : Nat) (e : TypeId) (i : TypeInfo) (z : Value) (size bytes : Nat) (ht : P.underlying t = some (.slice e)) (hi : P.info? e = some i) (hz : i.zero = some z)
    (hsize : i.size = size) (hby : i.bytes = bytes) (hzs : z.cells.size = size) (hsz : 0 < size)
    (v : Value) (n : Nat) (xs : List Value) (hs : a.eval s = v) (hown : w.ownsRow base e size v n xs)
    (b : Nat) (A : Option Addr) (m c : Nat) (news : List Value) (hx : a.eval x = .slice A m c) (hr : Rd w b size (.slice A m c) m news) (h1 : ∀ u ∈ news, u.oneCell' = true)
    (h63 : n + m ≤ maxLen) (hbytes : (n + m) * bytes ≤ 140737488355328) (hbase : base ≤ w.heap.size)
    (h : ∀ v' w', w'.ownsRow base e size v' (n + m) (xs ++ news) → w.grownBy w' v.ownBlock → (v'.ownBlock = v.ownBlock ∨ v'.ownBlock = some w.heap.size) → K (a.put o.dst v') w') : o.wp P a w K Q := by
  obtain ⟨v', w', hrun, h2, h3, h4⟩ := run_app_rd (P := P) w base t o.type e i z size bytes ht hi hz hsize hby hzs hsz v n xs hown b A m c news hr h1 h63 hbytes hbase
  unfold Oper.wp execOp
  simp only [ho, resolve, invoke, builtin, Sem.run_bind, Sem.run_pure, Result.andThen_ok, List.map_toArray, List.map_cons, List.map_nil, hs, hx, hrun]
  exact h v' w' h2 h3 h4
theorem wpList_app_rd {ops : Array Oper} {rest : List Oper} {o : Oper} {a : Act} {Q : Exit → Act → World → Prop} (hgd : o.guard = none) (s x : Operand) (t : TypeId)
    (ho : o.op = .call { callee := .builtin .append, args := #[s, x], argTypes := #[t, t] })
    (base : Nat) (e : TypeId) (i : TypeInfo) (z : Value) (size bytes : Nat) (ht : P.underlying t = some (.slice e)) (hi : P.info? e = some i) (hz : i.zero = some z)
    (hsize : i.size = size) (hby : i.bytes = bytes) (hzs : z.cells.size = size) (hsz : 0 < size)
    (v : Value) (n : Nat) (xs : List Value) (hs : a.eval s = v) (hown : w.ownsRow base e size v n xs)
    (b : Nat) (A : Option Addr) (m c : Nat) (news : List Value) (hx : a.eval x = .slice A m c) (hr : Rd w b size (.slice A m c) m news) (h1 : ∀ u ∈ news, u.oneCell' = true)
    (h63 : n + m ≤ maxLen) (hbytes : (n + m) * bytes ≤ 140737488355328) (hbase : base ≤ w.heap.size)
    (h : ∀ v' w', w'.ownsRow base e size v' (n + m) (xs ++ news) → w.grownBy w' v.ownBlock → (v'.ownBlock = v.ownBlock ∨ v'.ownBlock = some w.heap.size) → wpList P ops Q rest (a.put o.dst v') w') : wpList P ops Q (o :: rest) a w :=
  wpList_plain hgd fun _ hK => wp_app_rd w s x t ho base e i z size bytes ht hi hz hsize hby hzs hsz v n xs hs hown b A m c news hx hr h1 h63 hbytes hbase fun v' w' h2 h3 h4 => hK _ _ (h v' w' h2 h3 h4)
end Go.Proofs.YtebaaoacmmhppaaGreat
/-
  slices.Clone, slices.Grow and slices.Concat of events by contracts. (Printed by gen_evcat.py.)
-/
namespace Go.Proofs.YtebaaoacmmhppaaGreat
open Go Go.RowKit
attribute [local go_sem ↓] Go.wp_at_zero Go.wp_at_succ

theorem info_ev : (Tryz.prog.info? 62).map (fun i => (i.zero, i.size, i.bytes)) = some (some (.agg #[.int .i64 0, .int .i64 0, .string ⟨#[]⟩, .string ⟨#[]⟩, .string ⟨#[]⟩, .string ⟨#[]⟩, .int .i64 0, .int .i64 0]), 8, 96) := by kernel_rfl
set_option maxRecDepth 100000 in
theorem cloneEv_calls (b : Nat) (A : Option Addr) (n c : Nat) (xs : List Value) (w : World) (hr : Rd w b 8 (.slice A n c) n xs) (h1 : ∀ u ∈ xs, u.oneCell' = true) (hn : n ≤ 100000) :
    Calls Tryz.prog 27 #[.slice A n c] w fun e w' => ∃ v, e = .returned v ∧ w'.ownsRow w.heap.size 62 8 v n xs ∧ Below w.heap.size w w' := by
  obtain ⟨i0, hi, hz0, hz1, hz2⟩ := info_parts info_ev
  have q29 : ∀ (w : World) (a : Option Addr) (n c n' c' : Nat), (binOp .eql 26 (.slice a n c) (.slice none n' c')).run Tryz.prog w = .ok (.bool a.isNone) w := fun w a n c n' c' => Lib.run_eql_slice_nil w _ _ a n c n' c' Tryz.underlying26
  obtain ⟨A', c', e1, e2, e3, e4, e5, e6⟩ := hr
  injection e1 with ea eb ec
  subst ea ec
  cases A with
  | none =>
    obtain ⟨rfl, rfl⟩ := e5 rfl
    have hx : xs = [] := List.eq_nil_of_length_eq_zero (by simpa using e4)
    subst hx
    clear e6
    go_enter Tryz.func27, Tryz.ntmps27
    go_wp2
    go_ret
    exact ⟨_, rfl, World.ownsRow_nil _ _ _ _, Below.refl _ _⟩
  | some a =>
    have hcells : ∀ j u, xs[j]? = some u → w.cell? (a.add j) = some u := by
      intro j u hu
      have hpos : 0 < n := by
        rcases Nat.eq_zero_or_pos n with h | h
        · subst h
          have hx : xs = [] := List.eq_nil_of_length_eq_zero (by simpa using e4)
          subst hx
          simp at hu
        · exact h
      obtain ⟨g, o, f1, _, f3⟩ := e6 hpos
      injection f1 with f1
      subst f1
      have hadd : (⟨g, o, none⟩ : Addr).add j = ⟨g, o + j, none⟩ := by unfold Addr.add; split <;> simp_all
      rw [hadd]
      exact f3 j u hu
    have hcells2 : ∀ ob : Obj, ∀ j u, xs[j]? = some u → (w.alloc ob).cell? (a.add j) = some u := fun ob j u hu =>
      (World.cell?_alloc_lt w ob (a.add j) (World.block_lt_of_cell? w _ (hcells j u hu))).trans (hcells j u hu)
    clear e6 hcells
    go_enter Tryz.func27, Tryz.ntmps27
    go_wp2_with (first
      | (at_builtin; refine wpList_append_own _ rfl _ _ 26 rfl w.heap.size 62 i0 (.agg #[.int .i64 0, .int .i64 0, .string ⟨#[]⟩, .string ⟨#[]⟩, .string ⟨#[]⟩, .string ⟨#[]⟩, .int .i64 0, .int .i64 0]) 8 96 Tryz.underlying26 hi hz0 hz1 hz2 rfl (by decide) _ 0 [] rfl (World.ownsRow_lit (base := w.heap.size) w #[] 0 (Nat.le_refl _) (by decide) rfl) a n c xs rfl (by simpa using e4) (hcells2 _) h1 (by unfold maxLen; omega) (by omega) (by simp) ?_; intro v' w1 hown' hgrow hnil))
    go_ret
    refine ⟨_, rfl, by simpa using hown', ((Below.refl _ _).alloc (Nat.le_refl _) _).grown hgrow (by simp) (fun q hq => ?_)⟩
    have h2 : some w.heap.size = some q := hq
    injection h2 with h2
    omega
theorem growEv_calls (n : Nat) (w : World) (hn : n ≤ 100000) :
    Calls Tryz.prog 97 #[.slice none 0 0, .int .i64 n] w fun e w' => ∃ v, e = .returned v ∧ w'.ownsRow w.heap.size 62 8 v 0 [] ∧ Below w.heap.size w w' := by
  obtain ⟨i0, hi, hz0, hz1, hz2⟩ := info_parts info_ev
  rcases Nat.eq_zero_or_pos n with h0 | h0
  · subst h0
    refine Calls.mono (Any8.slices_Grow_room Tryz.growEv none 0 0 0 w (by omega) (by omega) (by omega) (by omega)) ?_
    rintro e w' ⟨rfl, rfl⟩
    exact ⟨_, rfl, World.ownsRow_nil _ _ _ _, Below.refl _ _⟩
  · refine Calls.mono (Any8.slices_Grow_grow Tryz.growEv i0 _ hi hz0 (by omega) none 0 0 n [] w (by omega) (by omega) (by rw [hz2]; omega) (by omega) (by simp) (fun _ => rfl) (fun a h => by cases h)) ?_
    rintro e w' ⟨rfl, rfl⟩
    refine ⟨_, rfl, ⟨by simp, .inr ⟨w.heap.size, _, _, rfl, Nat.le_refl _, heap_alloc_new w.drew _, Nat.zero_le _, grownCap_le_maxLen _ _ _ _ (by unfold maxLen; omega), ?_, by simp⟩⟩, (Below.refl _ _).drew.alloc (by simp) _⟩
    have hg := grownCap_ge w (0 + n) 0 62
    show (_ : Array Value).size = _
    rw [Array.size_append, Array.size_append, size_zeroCells, size_zeroCells]
    show 0 + (0 + n - 0) * 8 + (grownCap w (0 + n) 0 62 - (0 + n)) * 8 = grownCap w (0 + n) 0 62 * 8
    omega

def szE2 (n1 n2 : Nat) : Nat → Nat
  | 0 => 0
  | 1 => n1
  | _ => n1 + n2
def csE2 (xs ys : List Value) : Nat → List Value
  | 0 => []
  | 1 => xs
  | _ => xs ++ ys
set_option maxRecDepth 100000 in
set_option maxHeartbeats 1000000 in
theorem concatEv_calls (b g : Nat) (A1 A2 : Option Addr) (n1 c1 n2 c2 : Nat) (xs ys : List Value) (w : World) (hB : Blk w g 26 #[.slice A1 n1 c1, .slice A2 n2 c2]) (h1 : Rd w b 8 (.slice A1 n1 c1) n1 xs) (h2 : Rd w b 8 (.slice A2 n2 c2) n2 ys)
    (hx : ∀ u ∈ xs, u.oneCell' = true) (hy : ∀ u ∈ ys, u.oneCell' = true) (hn1 : n1 ≤ 10000) (hn2 : n2 ≤ 10000) :
    Calls Tryz.prog 68 #[.slice (some ⟨g, 0, none⟩) 2 2] w fun e w' => ∃ v, e = .returned v ∧ w'.ownsRow w.heap.size 62 8 v (n1 + n2) (xs ++ ys) ∧ Below w.heap.size w w' := by
  obtain ⟨i0, hi, hz0, hz1, hz2⟩ := info_parts info_ev
  have e0 := hB.cell 0
  have e1 := hB.cell 1
  replace e0 : w.cell? ⟨g, 0, none⟩ = some (.slice A1 n1 c1) := e0
  replace e1 : w.cell? ⟨g, 1, none⟩ = some (.slice A2 n2 c2) := e1
  have hgl := hB.lt
  have HG := Lib.hid (fun n W h => growEv_calls n W h)
  have HB := Lib.hid hB
  have H1 := Lib.hid h1
  have H2 := Lib.hid h2
  clear hB h1 h2
  go_enter Tryz.func68, Tryz.ntmps68
  go_wp2_with fail
  go_loop [3, 11] (fun s i => ∃ k : Nat, k ≤ 2 ∧ i = .int .i64 k ∧ s = .int .i64 (szE2 n1 n2 k : Nat)) (fun _ i => 2 - (intOf i).toNat)
  case atStart => exact ⟨0, by omega, rfl, rfl⟩
  case round =>
    obtain ⟨k, hk, rfl, rfl⟩ := hrel
    rcases (show k = 0 ∨ k = 1 ∨ k = 2 by omega) with rfl | rfl | rfl
    · have hsz : ((szE2 n1 n2 0 : Nat) : Int) = 0 := rfl
      rw [hsz]
      go_wp2_with fail
      go_round
      case rel => exact ⟨1, by omega, by go_num, by show _ = Value.int .i64 ((n1 : Nat) : Int); go_num⟩
      case measure => simp [intOf]
    · have hsz : ((szE2 n1 n2 1 : Nat) : Int) = (n1 : Int) := rfl
      rw [hsz]
      go_wp2_with fail
      go_round
      case rel => exact ⟨2, by omega, by go_num, by show _ = Value.int .i64 ((n1 + n2 : Nat) : Int); go_num⟩
      case measure => simp [intOf]
    · have hsz : ((szE2 n1 n2 2 : Nat) : Int) = ((n1 + n2 : Nat) : Int) := rfl
      rw [hsz]
      clear hsz
      have HGG := Lib.hid (HG.out (n1 + n2) w (by omega))
      clear hk
      obtain ⟨N, hN⟩ : ∃ N, n1 + n2 = N := ⟨_, rfl⟩
      have HN := Lib.hid hN
      rw [hN] at HGG ⊢
      clear hN
      go_wp2_with fail
      refine HGG.out.mono ?_
      rintro e w1 ⟨v, rfl, hown, hb1⟩
      have hS1 : Sq w w1 [rOwn w.heap.size 62 8 v 0 []] := ((Sq.start w).ownB hb1 hown)
      clear hown hb1
      go_wp2_with fail
      go_loopw [6, 27] (fun s i wr => ∃ (k : Nat) (v : Value), k ≤ 2 ∧ i = .int .i64 k ∧ s = v ∧ Sq w wr [rOwn w.heap.size 62 8 v (szE2 n1 n2 k) (csE2 xs ys k)]) (fun _ i _ => 2 - (intOf i).toNat)
      case atStart => exact ⟨0, v, by omega, rfl, rfl, hS1⟩
      case round =>
        clear hS1
        obtain ⟨k, v, hk, rfl, hv, hS⟩ := hrel
        subst hv
        have d0 := below_cell hS.below e0
        have d1 := below_cell hS.below e1
        have hown := hS.head
        have hbase := hS.size
        rcases (show k = 0 ∨ k = 1 ∨ k = 2 by omega) with rfl | rfl | rfl
        · have R1 := H1.out.below hS.below
          replace hown : wr.ownsRow w.heap.size 62 8 u6 0 [] := hown
          go_wp2_with (first
            | (at_builtin; go_loud (refine wpList_app_rd _ rfl (.tmp 31) (.tmp 32) 26 rfl w.heap.size 62 i0 (.agg #[.int .i64 0, .int .i64 0, .string ⟨#[]⟩, .string ⟨#[]⟩, .string ⟨#[]⟩, .string ⟨#[]⟩, .int .i64 0, .int .i64 0]) 8 96 Tryz.underlying26 hi hz0 hz1 hz2 rfl (by decide) u6 0 [] rfl hown b A1 n1 c1 xs rfl R1 hx (by unfold maxLen; omega) (by omega) hbase ?_); intro v' w2 hown' hgrow hat))
          have hS2 := hS.append hown' hgrow hat
          rw [Nat.zero_add] at hS2
          go_wp2_with fail
          go_roundw
          case rel => exact ⟨1, v', by omega, by go_num, rfl, hS2⟩
          case measure => simp [intOf]
        · have R1 := H2.out.below hS.below
          replace hown : wr.ownsRow w.heap.size 62 8 u6 n1 xs := hown
          go_wp2_with (first
            | (at_builtin; refine wpList_app_rd _ rfl (.tmp 31) (.tmp 32) 26 rfl w.heap.size 62 i0 (.agg #[.int .i64 0, .int .i64 0, .string ⟨#[]⟩, .string ⟨#[]⟩, .string ⟨#[]⟩, .string ⟨#[]⟩, .int .i64 0, .int .i64 0]) 8 96 Tryz.underlying26 hi hz0 hz1 hz2 rfl (by decide) u6 n1 xs rfl hown b A2 n2 c2 ys rfl R1 hy (by unfold maxLen; omega) (by omega) hbase ?_; intro v' w2 hown' hgrow hat))
          have hS2 := hS.append hown' hgrow hat
          go_wp2_with fail
          go_roundw
          case rel => exact ⟨2, v', by omega, by go_num, rfl, hS2⟩
          case measure => simp [intOf]
        · have HF : Hid (wr.ownsRow w.heap.size 62 8 u6 (n1 + n2) (xs ++ ys)) := hown
          have HB2 := Lib.hid hS.below
          clear hown hS
          go_wp2_with fail
          go_ret
          exact ⟨_, rfl, by rw [← HN.out]; exact HF.out, HB2.out⟩
end Go.Proofs.YtebaaoacmmhppaaGreat
