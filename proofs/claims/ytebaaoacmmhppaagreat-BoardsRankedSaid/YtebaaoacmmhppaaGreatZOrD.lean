/-
  splitclock/board.Beaten$1 by its contract. (Printed by gen_or2.py.)
-/
import Derived.Test.YtebaaoacmmhppaaGreatZSortMem
import Derived.Test.YtebaaoacmmhppaaGreatZBtQ
import Derived.Deep.RegionHeld3
import Derived.Deep.DeepCutAuto
import Derived.Test.YtebaaoacmmhppaaGreatZMapR
import Derived.Test.YtebaaoacmmhppaaGreatZEvK
namespace Go.Proofs.YtebaaoacmmhppaaGreat
open Go Go.RowKit Go.Sort

set_option maxRecDepth 100000 in
set_option maxHeartbeats 4000000 in
theorem byDate_calls (g1 g2 : Nat) (x y : Bev) (w : World) (hc : ∀ V, Below w.heap.size w V → V.cell? ⟨g1, 2, none⟩ = some (.string x.id) ∧ V.cell? ⟨g1, 7, none⟩ = some (.int .i64 x.date) ∧ V.cell? ⟨g2, 2, none⟩ = some (.string y.id) ∧ V.cell? ⟨g2, 7, none⟩ = some (.int .i64 y.date)) :
    Calls Tryz.prog 50 #[.pointer (some ⟨g1, 0, none⟩), .pointer (some ⟨g2, 0, none⟩)] w (GrwT (.int .i64 (cmpD x y)) w) := by
  have HC := Lib.hid hc
  have HE := cmpD_or x y
  obtain ⟨O, hO⟩ : ∃ z, cmpD x y = z := ⟨_, rfl⟩
  rw [hO] at HE ⊢
  obtain ⟨a1, k1, i1, w1, b1, c1, t1, d1⟩ := x
  obtain ⟨a2, k2, i2, w2, b2, c2, t2, d2⟩ := y
  simp only at HE HC
  have H2 := Lib.hid (fun W => cmpInt_calls d1 d2 W)
  have H3 := Lib.hid (fun W => strCmp_calls i1 i2 W)
  obtain ⟨x2, hx2⟩ : ∃ z, cmpI d1 d2 = z := ⟨_, rfl⟩
  obtain ⟨x3, hx3⟩ : ∃ z, cmpS i1 i2 = z := ⟨_, rfl⟩
  rw [hx2] at H2
  rw [hx3] at H3
  rw [hx2, hx3] at HE
  have S0 : Below w.heap.size w w := Below.refl _ _
  have S1 : Below w.heap.size w w.drew := below_drewN S0 1
  have HBO : Blk (w.alloc (.cells #[.int .i64 x2, .int .i64 x3] 3)).drew w.heap.size 3 #[.int .i64 x2, .int .i64 x3] := Blk.new w _ _
  have SA : Below w.heap.size w (w.alloc (.cells #[.int .i64 x2, .int .i64 x3] 3)).drew := below_drewN ((Below.refl _ _).alloc (Nat.le_refl _) _) 1
  have HO2 : Hid (Calls Tryz.prog 51 #[.slice (some ⟨w.heap.size, 0, none⟩) 2 2] (w.alloc (.cells #[.int .i64 x2, .int .i64 x3] 3)).drew (fun e w' => e = .returned (.int .i64 O) ∧ Below w.heap.size w w' ∧ ∃ q os', w' = grow (w.drewN q) os')) := Lib.hid (by
    have hr := blkRd (b := w.heap.size + 1) 1 2 HBO (by omega) (by unfold maxLen; omega) rfl
    have h := orN_calls (w.heap.size + 1) _ 2 2 [x2, x3] _ hr
    rw [HE] at h
    refine h.mono ?_
    rintro e w' ⟨he, nq, rfl⟩
    exact ⟨he, below_call SA (below_drewN (Below.refl _ _) nq) (Nat.le_refl _), grw_oneD w _ nq⟩)
  clear HBO hO hx2 hx3 HE hc
  go_enter Tryz.func50, Tryz.ntmps50
  go_upto_region 1 with (fail)
  obtain ⟨k0, k1', k2', k3⟩ := HC.out _ S0
  go_region_held3 (fun V => V.cell? ⟨g1, 2, none⟩ = some (.string i1) ∧ V.cell? ⟨g1, 7, none⟩ = some (.int .i64 d1) ∧ V.cell? ⟨g2, 2, none⟩ = some (.string i2) ∧ V.cell? ⟨g2, 7, none⟩ = some (.int .i64 d2))
    (first | with_reducible exact HC.out _ S1 | with_reducible exact HC.out _ SA | exact HC.out _ SA | with_reducible exact HC.out _ S9)
    (first
      | (go_at_call 52; ((with_reducible refine (H2.out _).mono ?_); rintro e w4 ⟨rfl, rfl⟩))
      | (go_at_call 53; ((with_reducible refine (H3.out _).mono ?_); rintro e w5 ⟨rfl, rfl⟩))
      | (go_at_call 51; ((with_reducible refine HO2.out.mono ?_); rintro e w9 ⟨rfl, S9, HG⟩)))
  all_goals
    go_wp2_with fail
    go_ret
    exact ⟨rfl, HG⟩
end Go.Proofs.YtebaaoacmmhppaaGreat
/-
  slices.SortFunc at elements of one cell behind the first ones of a row: what lies before them stays. No Go text is named here.
-/
namespace Go.Proofs.YtebaaoacmmhppaaGreat
open Go Go.RowKit Go.Sort

theorem sortO_heap {α : Type} [Inhabited α] (enc : α → Value) (w : World) (blk off m : Nat) (dk : Array α) (os : Array Obj) (i : Nat) (hi : i < w.heap.size) :
    (sortWorld enc w blk off m dk os).heap[i]? = (mapBlock w blk (putCells enc off dk)).heap[i]? := by
  have e : (sortWorld enc w blk off m dk os).heap = (mapBlock w blk (putCells enc off dk)).heap ++ os := rfl
  rw [e, Array.getElem?_append_left (by rw [mapBlock_size]; exact hi)]
theorem sortO_grown {α : Type} [Inhabited α] (enc : α → Value) (w : World) (blk off m : Nat) (dk : Array α) (os : Array Obj) : w.grownBy (sortWorld enc w blk off m dk os) (some blk) := by
  refine ⟨rfl, rfl, rfl, ?_, fun i hi hn => ?_⟩
  · have e : (sortWorld enc w blk off m dk os).heap = (mapBlock w blk (putCells enc off dk)).heap ++ os := rfl
    rw [e, Array.size_append, mapBlock_size]
    omega
  · rw [sortO_heap enc w blk off m dk os i hi, mapBlock_heap _ _ _ _ (fun e => hn (by rw [e]))]
theorem sortO_but {α : Type} [Inhabited α] (enc : α → Value) (w : World) (blk off m : Nat) (dk : Array α) (os : Array Obj) : ButG blk w (sortWorld enc w blk off m dk os) :=
  ⟨(sortO_grown enc w blk off m dk os).size, fun i hi hn => (sortO_grown enc w blk off m dk os).block i hi (fun e => hn (Option.some.inj e))⟩
theorem sortO_own {α : Type} [Inhabited α] (enc : α → Value) {w : World} {base blk n cap off : Nat} {e : TypeId} {pre xs : List Value} (h : w.ownsRow base e 1 (.slice (some ⟨blk, 0, none⟩) n cap) n (pre ++ xs)) (hp : pre.length = off) (m : Nat) (dk : Array α) (hd : off + dk.size = n) (os : Array Obj) :
    (sortWorld enc w blk off m dk os).ownsRow base e 1 (.slice (some ⟨blk, 0, none⟩) n cap) n (pre ++ dk.toList.map enc) := by
  have hlt := (h.lt blk rfl).2
  refine ⟨by rw [List.length_append, List.length_map, hp]; simp; omega, ?_⟩
  rcases h.2 with ⟨he, _⟩ | ⟨g, cap', cur, he, hb, hg, h1, h2, h3, h4⟩
  · cases he
  · injection he with he1 he2 he3
    injection he1 with he1
    injection he1 with he1
    subst he1 he3
    refine .inr ⟨blk, cap, putCells enc off dk cur, rfl, hb, ?_, h1, h2, ?_, ?_⟩
    · rw [sortO_heap enc w blk off m dk os blk hlt, mapBlock_at w blk _ hg]
    · unfold putCells; rw [Array.size_mapIdx, h3]
    · rw [Nat.mul_one] at h3 h4 ⊢
      refine List.ext_getElem? fun j => ?_
      rcases Nat.lt_or_ge j n with hj | hj
      · rw [List.getElem?_take_of_lt hj, Array.getElem?_toList]
        unfold putCells
        rw [Array.getElem?_mapIdx, Array.getElem?_eq_getElem (by omega)]
        simp only [Option.map_some]
        rcases Nat.lt_or_ge j off with ho | ho
        · rw [if_neg (by omega), List.getElem?_append_left (by omega)]
          have := congrArg (fun l => l[j]?) h4
          simp only [List.getElem?_take_of_lt hj, Array.getElem?_toList] at this
          rw [Array.getElem?_eq_getElem (by omega), List.getElem?_append_left (by omega)] at this
          exact this
        · rw [if_pos ⟨ho, by omega⟩, List.getElem?_append_right (by omega), hp, List.getElem?_map, Array.getElem?_toList, Array.getElem?_eq_getElem (by omega), getElem!_pos dk (j - off) (by omega)]
          rfl
      · rw [List.getElem?_eq_none (by rw [List.length_take]; omega), List.getElem?_eq_none (by rw [List.length_append, List.length_map, hp]; simp; omega)]
theorem flat_one {α : Type} (enc : α → Value) (l : List α) : l.flatMap (fun x => [enc x]) = l.map enc := by
  induction l with
  | nil => rfl
  | cons a l ih => simp [ih]
/-- sorted elements in the place of the elements, behind the first ones -/
def SrtO {α : Type} (w0 : World) (e : TypeId) (enc : α → Value) (g n c : Nat) (pre xs : List α) (cf : α → α → Int) (l : List Rsc) (en : Ending) (w' : World) : Prop :=
  en = .returned (.tuple #[]) ∧ ∃ ys : List α, ys.Perm xs ∧ ys.Pairwise (fun a b => 0 ≤ cf b a) ∧ Sq w0 w' (rOwn w0.heap.size e 1 (.slice (some ⟨g, 0, none⟩) n c) n ((pre ++ ys).flatMap (fun x => [enc x])) :: l)
section
variable {α : Type} {P : α → Prop} [Inhabited {x : α // P x}] {enc : α → Value}
theorem srtO_calls {ρ : Shelf.Ren} (L : SlLaysF.n6 Tryz.prog ρ) (h1 : ∀ x, (enc x).oneCell' = true)
    (cf : α → α → Int) (hO : Ord3 cf) (f : Nat) (cb : Array Value) (eg : ∀ args w, (callFunc f args).run Tryz.prog w = .ok (.enter f args) w) {e : TypeId} (w0 w : World) (g n c off q : Nat) (pre xs : List α) (l : List Rsc) (hp : pre.length = off) (hq : xs.length = q) (hxs : ∀ x ∈ xs, P x) (hn : n ≤ 100000)
    (hc : ∀ (x y : α) (W : World), P x → P y → ButG g w W → Calls Tryz.prog f (#[enc x, enc y] ++ cb) W (GrwT (.int .i64 (cf x y)) W))
    (hS : Sq w0 w (rOwn w0.heap.size e 1 (.slice (some ⟨g, 0, none⟩) n c) n ((pre ++ xs).flatMap (fun x => [enc x])) :: l)) :
    Calls Tryz.prog (ρ.f 6) #[.slice (some ⟨g, off, none⟩) q (c - off : Nat), .func (.func f) #[] cb] w (SrtO w0 e enc g n c pre xs cf l) := by
  obtain ⟨ds, rfl⟩ := sub_list xs hxs
  rw [List.length_map] at hq
  have hown : w.ownsRow w0.heap.size e 1 (.slice (some ⟨g, 0, none⟩) n c) n ((pre ++ ds.map (·.1)).flatMap (fun x => [enc x])) := hS.head
  have hlen : ds.toArray.size = q := by simpa using hq
  have hnn : off + q = n := by
    have := hown.1
    rw [flat_one, List.length_map, List.length_append, List.length_map] at this
    omega
  have hH : Holds (fun x : {x : α // P x} => enc x.1) w g off ds.toArray := fun j hj => by
    have hj2 : j < ds.length := by simpa using hj
    have h := own_cell (fun x => [enc x]) 1 (fun _ => rfl) hown (off + j) 0 (by rw [List.length_append, List.length_map]; omega) (by omega) (by omega)
    rw [Nat.mul_one, Nat.add_zero] at h
    rw [getElem!_pos ds.toArray j hj]
    have e1 : (pre ++ ds.map (·.1))[off + j]'(by rw [List.length_append, List.length_map]; omega) = ds[j].1 := by
      rw [List.getElem_append_right (by omega)]
      simp [hp]
    rw [e1] at h
    exact ⟨by simpa using h, hown.frozenAt _⟩
  have hO2 : SWO (ltOf fun x y : {x : α // P x} => cf x.1 y.1) := Ord3.swo ⟨fun x y => hO.neg x.1 y.1, fun x y z => hO.trans x.1 y.1 z.1⟩
  have h := Any.slices_SortFunc L (fun x : {x : α // P x} => enc x.1) (fun x => h1 x.1) (fun x y => cf x.1 y.1) hO2 f cb g off (c - off) ds.toArray w eg
    (fun m os dk _ x y => hc x.1 y.1 _ x.2 y.2 (sortO_but (fun x : {x : α // P x} => enc x.1) w g off m dk os)) hH (hown.lt g rfl).2 (by rw [hlen]; omega)
  rw [hlen] at h
  refine Calls.mono h ?_
  rintro en w' ⟨rfl, d', m, os, hp2, hs, rfl⟩
  have hd : d'.size = q := by rw [hp2.1, hlen]
  have hp3 : d'.toList.Perm ds := by
    obtain ⟨h1, _, h3⟩ := hp2
    have e1 : d'.extract 0 q = d' := by rw [← hd]; exact Array.extract_size
    have e2 : ds.toArray.extract 0 q = ds.toArray := by rw [← hlen]; exact Array.extract_size
    rw [e1, e2] at h3
    simpa using h3
  refine ⟨rfl, d'.toList.map (·.1), hp3.map _, ?_, ?_⟩
  · rw [List.pairwise_map, List.pairwise_iff_getElem]
    intro i j hi hj hij
    have hi' : i < d'.size := by simpa using hi
    have hj' : j < d'.size := by simpa using hj
    have := hs i j (Nat.zero_le _) hij (by omega)
    rw [getElem!_pos d' j hj', getElem!_pos d' i hi'] at this
    exact Int.not_lt.1 (of_decide_eq_false this)
  · refine hS.turn (sortO_grown (fun x : {x : α // P x} => enc x.1) w g off m d' os) (fun q hq => by injection hq with hq; subst hq; rfl) ?_ (rOwn_ok _ _ _ _ _ _) (fun q hq => ?_)
    · show World.ownsRow _ _ _ _ _ _ _
      rw [flat_one, List.map_append] at hown ⊢
      have h := sortO_own (off := off) (fun x : {x : α // P x} => enc x.1) hown (by rw [List.length_map]; exact hp) m d' (by rw [hd]; exact hnn) os
      rw [List.map_map]
      exact h
    · have hq : some g = some q := hq
      injection hq with hq
      subst hq
      refine ⟨.inl rfl, ?_⟩
      have := (sortO_grown (fun x : {x : α // P x} => enc x.1) w g off m d' os).size
      have := (hown.lt g rfl).2
      omega
end
end Go.Proofs.YtebaaoacmmhppaaGreat
/-
  board.Beaten by its contract.
-/
namespace Go.Proofs.YtebaaoacmmhppaaGreat
open Go Go.RowKit Go.Sort
attribute [local go_sem ↓] Go.wp_at_zero Go.wp_at_succ

theorem ord3_ptvD : Ord3 (fun x y : Ptv => cmpD x.2 y.2) := ⟨fun x y => ord3_cmpD.neg x.2 y.2, fun x y z => ord3_cmpD.trans x.2 y.2 z.2⟩
theorem sortBtn_calls (w0 w : World) (g n c off q : Nat) (pre xs : List Ptv) (l : List Rsc) (hp : pre.length = off) (hq : xs.length = q) (hn : n ≤ 100000) (hx : ∀ x ∈ xs, RunAt w x ∧ x.1 < w.heap.size ∧ x.1 ≠ g) (h0 : 0 < xs.length) (hS : Sq w0 w (rOwn w0.heap.size 85 1 (.slice (some ⟨g, 0, none⟩) n c) n ((pre ++ xs).flatMap (fun x => [ptvV x])) :: l)) :
    Calls Tryz.prog 49 #[.slice (some ⟨g, off, none⟩) q (c - off : Nat), .func (.func 50) #[] #[]] w (SrtO w0 85 ptvV g n c pre xs (fun x y => cmpD x.2 y.2) l) := by
  have hne : Nonempty {x : Ptv // RunAt w x ∧ x.1 < w.heap.size ∧ x.1 ≠ g} := by
    cases xs with
    | nil => cases h0
    | cons a r => exact ⟨⟨a, hx a (List.mem_cons_self ..)⟩⟩
  have hin : Inhabited {x : Ptv // RunAt w x ∧ x.1 < w.heap.size ∧ x.1 ≠ g} := Classical.inhabited_of_nonempty hne
  exact srtO_calls (P := fun x : Ptv => RunAt w x ∧ x.1 < w.heap.size ∧ x.1 ≠ g) (enc := ptvV) Tryz.sortRun (fun _ => rfl) (fun x y => cmpD x.2 y.2) ord3_ptvD 50 #[] (enters_of Tryz.func50 (by kernel_rfl) rfl) w0 w g n c off q pre xs l hp hq hx hn
    (fun x y W hx hy hW => byDate_calls x.1 y.1 x.2 y.2 W (fun V hV => by
      have e1 := (hV.block x.1 (by have := hW.1; have := hx.2.1; omega)).trans (hW.2 x.1 hx.2.1 hx.2.2)
      have e2 := (hV.block y.1 (by have := hW.1; have := hy.2.1; omega)).trans (hW.2 y.1 hy.2.1 hy.2.2)
      obtain ⟨a1, a2, a3⟩ := hx.1 V e1
      obtain ⟨b1, b2, b3⟩ := hy.1 V e2
      exact ⟨a1, a3, b1, b3⟩)) hS
theorem sortBtn_none (w : World) (A : Option Addr) (c : Nat) :
    Calls Tryz.prog 49 #[.slice A 0 c, .func (.func 50) #[] #[]] w fun e w' => e = .returned (.tuple #[]) ∧ w' = w :=
  AnyF.slices_SortFunc_none Tryz.sortRun0 A c _ w
/-- the ids that are answered -/
def BtIs (l : List Bev) (cat who : ByteArray) (u F : Int) (ids : List ByteArray) : Prop :=
  (F = 0 → ∃ (ys ps : List Bev), SbdR (folE l u).1 cat ys ∧ ps.Perm (ownB ys who).tail ∧ ps.Pairwise (fun a b => 0 ≤ cmpD b a) ∧ ids = ps.map (·.id)) ∧ (F ≠ 0 → ids = [])
theorem btIs_no {l : List Bev} {cat who : ByteArray} {u F : Int} (h : F ≠ 0) : BtIs l cat who u F [] := ⟨fun h2 => absurd h2 h, fun _ => rfl⟩
/-- what Beaten answers -/
def BtnR (l : List Bev) (cat who : ByteArray) (u F : Int) (w : World) (e : Ending) (w' : World) : Prop :=
  ∃ (A : Option Addr) (c : Nat) (ids : List ByteArray), BtIs l cat who u F ids ∧ e = .returned (.tuple #[.slice A ids.length c, .int .i64 F]) ∧ Sq w w' [rOwn w.heap.size 9 1 (.slice A ids.length c) ids.length (strsV ids)]
def whoP (who : ByteArray) (p : Ptv) : Bool := whoB who p.2
theorem flt_step (ps : List Ptv) (k : Nat) (hk : k < ps.length) (who : ByteArray) : (ps.take (k + 1)).filter (whoP who) = (ps.take k).filter (whoP who) ++ (if (ps[k].2.who.toList == who.toList) = true then [ps[k]] else []) := by
  rw [List.take_succ_eq_append_getElem hk, List.filter_append]
  congr 1
  have e : (ps[k].2.who.toList == who.toList) = whoP who ps[k] := eqS_decB _ _
  rw [e]
  by_cases h : whoP who ps[k] = true
  · rw [if_pos h, List.filter_cons_of_pos h, List.filter_nil]
  · rw [if_neg h, List.filter_cons_of_neg h, List.filter_nil]
theorem flt_map (ps : List Ptv) (who : ByteArray) : (ps.filter (whoP who)).map (·.2) = ownB (ps.map (·.2)) who := by
  unfold ownB
  rw [List.filter_map]
  rfl
theorem strsV_snoc (l : List ByteArray) (s : ByteArray) : strsV (l ++ [s]) = strsV l ++ [.string s] := by unfold strsV; rw [List.map_append]; rfl
set_option maxRecDepth 100000 in
set_option maxHeartbeats 8000000 in
theorem beaten_calls (b : Nat) (A : Option Addr) (n c : Nat) (l : List Bev) (u : Int) (cat who : ByteArray) (w : World) (hb : b < w.heap.size) (hr : Bevs w b A n c l) (hn : n ≤ 3000) (hc : cat.size ≤ 1000000) (hw : who.size ≤ 1000000) :
    Calls Tryz.prog 12 #[.slice A n c, .string cat, .string who, .int .i64 u] w (BtnR l cat who u (catF l [cat, who] u) w) := by
  obtain ⟨i0, hi, hz0, hz1, hz2⟩ := info_parts info_runp
  obtain ⟨j0, hj, hy0, hy1, hy2⟩ := info_parts info_str
  obtain ⟨g8, hg8⟩ : ∃ z, z = w.heap.size := ⟨_, rfl⟩
  obtain ⟨W0, hW0, hS0⟩ : ∃ W, W = w.alloc (.cells #[.string cat, .string who] 9) ∧ Sq w W [rBlk g8 9 #[.string cat, .string who]] := ⟨_, rfl, by
    rw [hg8]
    exact (Sq.start w).add #[.string cat, .string who] 9⟩
  have hrl := blkRd (b := b) 1 2 (hS0.head : Blk _ g8 _ _) (by omega) (by unfold maxLen; omega) rfl
  have HC := Lib.hid (categoryFault_calls b A (some ⟨g8, 0, none⟩) n c 2 2 l [cat, who] u W0 (hr.below hS0.below) hrl (by intro s hs; simp at hs; rcases hs with rfl | rfl <;> assumption))
  have HS0 := Lib.hid hS0.bare
  have HR := Lib.hid hr.rd
  obtain ⟨hl, _, _, _⟩ := hr.rd.cells bevC_len (by omega)
  have HL : Hid (l.length ≤ 3000) := Lib.hid (by omega)
  obtain ⟨F, hF⟩ : ∃ F, catF l [cat, who] u = F := ⟨_, rfl⟩
  rw [hF] at HC ⊢
  have HE : Hid (F = 0 → ∀ x ∈ l, EvK x) := Lib.hid (fun h => evK_all (catF_ok (hF.trans h)))
  clear hr hS0 hrl hc hw hF hl
  by_cases h0 : F = 0
  · subst h0
    have HE0 := Lib.hid (HE.out rfl)
    clear HE
    have HKD : Hid (KD (folE l u).1) := Lib.hid (by
      have h := KD.fol l u HE0.out l.length (Nat.le_refl _)
      rwa [List.take_length] at h)
    go_enter Tryz.func12, Tryz.ntmps12
    go_wp2_with fail
    rw [← hg8, ← hW0]
    clear hg8 hW0
    refine HC.out.mono ?_
    rintro e w1 ⟨rfl, hb1⟩
    have hS1 := HS0.out.callB hb1
    have HAT := Lib.hid (atD_calls b A n c l u w1 (hS1.rd HR.out) HE0.out hn)
    have HS1 := Lib.hid hS1
    clear hS1 hb1 HC HS0
    go_wp2_with fail
    refine HAT.out.mono ?_
    rintro e w2 ⟨gd, m1, m2, n1, n2, L, rfl, h1, h2, h3, h4, h5⟩
    have hz : (folE l u).1.rn.length ≤ 3000 := by
      have h := (fol_cnt l u l.length (Nat.le_refl _)).1
      rw [List.take_length] at h
      have := HL.out
      omega
    have hS2 := HS1.out.merge h5
    rw [List.append_nil] at hS2
    have HOB := Lib.hid (onBoardD_calls gd m1 m2 n1 n2 L _ [] cat w w2 h2 h1 hz hS2)
    have HZ := Lib.hid hz
    clear hS2 h1 h2 h3 h4 h5 hz HS1 HAT HR
    go_wp2_with fail
    refine HOB.out.mono ?_
    rintro e w3 ⟨A3, c3, ps, rfl, hY, hPL, hS3⟩
    have HY := Lib.hid hY
    have HPL := Lib.hid hPL
    obtain ⟨m, hm⟩ : ∃ m, ps.length = m := ⟨_, rfl⟩
    have hS4 := hS3.nil w.heap.size 85 1
    rw [hm] at hS4 ⊢
    have HM := Lib.hid hm
    have HAP : Hid (0 < m → ∃ g, A3 = some ⟨g, 0, none⟩) := Lib.hid (fun h0 => own_ptr (hS4.nth 1 rfl : World.ownsRow _ _ _ _ _ _ _) h0)
    have HMZ : Hid (m ≤ 3000) := Lib.hid (by have h1 := HL.out; have h2 := sbd_len hY; rw [List.length_map] at h2; omega)
    clear hS3 hY hPL hm HOB
    go_wp2_with fail
    go_loopw [11, 32] (fun s11 s32 wr => ∃ (k : Nat) (A : Option Addr) (c : Nat) (qs : List Ptv), k ≤ m ∧ s32 = .int .i64 k ∧ qs.length ≤ k ∧ s11 = .slice A qs.length c ∧ Hid ((ps.take k).filter (whoP who) = qs) ∧ Sq w wr (rOwn w.heap.size 85 1 (.slice A qs.length c) qs.length (qs.flatMap (fun x => [ptvV x])) :: rOwn w.heap.size 85 1 (.slice A3 m c3) m (ps.flatMap (fun x => [ptvV x])) :: dskL gd m1 n1 m2 n2 L (folE l u).1 [])) (fun _ s32 _ => m - (intOf s32).toNat)
    case atStart => exact ⟨0, none, 0, [], Nat.zero_le _, rfl, Nat.le_refl _, rfl, Lib.hid rfl, hS4⟩
    case round =>
      clear hS4
      obtain ⟨k, A4, c4, qs, hk, rfl, hqk, rfl, HQ, hS⟩ := hrel
      obtain ⟨wo, hwo⟩ : ∃ z, z = wr := ⟨_, rfl⟩
      subst hwo
      have hmz := HMZ.out
      by_cases hlt : k < m
      · obtain ⟨gP, hgP⟩ := HAP.out (by omega)
        subst hgP
        have hkp : k < ps.length := by rw [HM.out]; exact hlt
        have hcp := own_cell (fun x => [ptvV x]) 1 (fun _ => rfl) (hS.nth 1 rfl : World.ownsRow _ _ _ _ _ _ _) k 0 hkp hlt (by omega)
        rw [Nat.mul_one, Nat.add_zero] at hcp
        have HST := Lib.hid (flt_step ps k hkp who)
        obtain ⟨⟨g, at_, kd, id, whx, by1, ct, tm, dt⟩, hx⟩ : ∃ x, ps[k] = x := ⟨_, rfl⟩
        obtain ⟨kk, hmem⟩ := HPL.out ps[k] (List.getElem_mem hkp)
        rw [hx] at hcp hmem HST
        replace hcp : wo.cell? ⟨gP, k, none⟩ = some (.pointer (some ⟨g, 0, none⟩)) := hcp
        have b3 : wo.cell? ⟨g, 3, none⟩ = some (.string whx) := by
          have h := hS
          unfold dskL at h
          have hb : Blk wo g 87 #[.int .i64 at_, .int .i64 kd, .string id, .string whx, .string by1, .string ct, .int .i64 tm, .int .i64 dt, .string (hwV kk)] := (show ∀ a ∈ L, (rRun a).P wo from h.nth 5 rfl) _ hmem
          exact hb.cell 3
        rw [HQ.out] at HST
        simp only at HST
        have hk0 : (0 : Int) ≤ (k : Int) := by omega
        have hk1 : (k : Int) < (m : Int) := by omega
        obtain ⟨B, hB⟩ : ∃ B, (whx.toList == who.toList) = B := ⟨_, rfl⟩
        rw [hB] at HST
        clear hx hkp
        cases B
        · rw [if_neg (by decide), List.append_nil] at HST
          go_wp2_with fail
          go_roundw
          case rel => exact ⟨k + 1, A4, c4, qs, by omega, by go_num, by omega, rfl, HST, hS⟩
          case measure => simp [intOf]; omega
        · rw [if_pos rfl] at HST
          have HO5 : wo.ownsRow w.heap.size 85 1 (.slice A4 qs.length c4) qs.length (qs.flatMap (fun x => [ptvV x])) := hS.head
          have hsz := hS.size
          go_wp2_with (first
            | (at_builtin; refine wpList_append_own_at _ rfl _ _ 83 rfl w.heap.size 85 i0 (.pointer none) 1 8 Tryz.underlying83 hi hz0 hz1 hz2 rfl (by decide) _ _ _ rfl (HO5.alloc _) ⟨wo.heap.size, 0, none⟩ 1 1 [.pointer (some ⟨g, 0, none⟩)] rfl rfl (World.news_of_block (heap_alloc_new _ _)) (by intro u hu; simp only [List.mem_cons, List.not_mem_nil, or_false] at hu; rcases hu with rfl; rfl) (by unfold maxLen; omega) (by omega) (by simp; omega) ?_; intro v' w11 hown' hgrow _ hblk; have hS9 := (hS.alloc _).append hown' hgrow hblk; obtain ⟨A8, c8, hv8⟩ := own_form hown'; subst hv8; clear hown' hgrow hblk))
          go_roundw
          case rel => exact ⟨k + 1, A8, c8, qs ++ [(g, ⟨at_, kd, id, whx, by1, ct, tm, dt⟩)], by omega, by go_num, by rw [List.length_append]; simp; omega, by rw [List.length_append]; rfl, HST, by rw [List.flatMap_append, List.length_append]; exact hS9⟩
          case measure => simp [intOf]; omega
      · obtain rfl : k = m := by omega
        have HQ2 : Hid (ps.filter (whoP who) = qs) := Lib.hid (by
          have h := HQ.out
          rwa [List.take_of_length_le (by rw [HM.out]; exact Nat.le_refl _)] at h)
        have HOW : Hid (ownB (ps.map (·.2)) who = qs.map (·.2)) := Lib.hid (by rw [← flt_map, HQ2.out])
        have hPQ : ∀ x ∈ qs, ∃ kk, (x.1, (x.2, kk)) ∈ L := fun x hx => HPL.out x (by
          have := HQ2.out
          rw [← this] at hx
          exact (List.mem_filter.1 hx).1)
        have hS5 := hS.drop 1 rfl rfl
        clear hS HQ
        obtain ⟨N, hN⟩ : ∃ N, qs.length = N := ⟨_, rfl⟩
        have HN := Lib.hid hN
        rw [hN] at hS5 hqk ⊢
        by_cases hN0 : N = 0
        · have HF : Hid (BtnR l cat who u 0 w (.returned (.tuple #[.slice none 0 0, .int .i64 0])) wo) := Lib.hid ⟨none, 0, [], ⟨fun _ => ⟨ps.map (·.2), [], HY.out, by
            rw [HOW.out, List.length_eq_zero_iff.1 (hN.trans hN0)]
            exact List.Perm.refl _, List.Pairwise.nil, rfl⟩, fun h => absurd rfl h⟩, rfl, (hS5.bare).nil _ _ _⟩
          subst hN0
          clear hS5 hN HN HOW HQ2 hPQ
          go_wp2_with fail
          go_ret2
          exact HF.out
        · obtain ⟨gO, hgO⟩ := own_ptr (hS5.head : World.ownsRow _ _ _ _ _ _ _) (by omega)
          subst hgO
          have hcap : N ≤ c4 := by
            have hown : wo.ownsRow w.heap.size 85 1 (.slice (some ⟨gO, 0, none⟩) N c4) N (qs.flatMap (fun x => [ptvV x])) := hS5.head
            rcases hown.2 with ⟨he, hx⟩ | ⟨g, cap, cur, he, _, _, h1, _⟩
            · cases he
            · injection he with _ _ he; omega
          obtain ⟨a, t, rfl⟩ : ∃ a t, qs = a :: t := by
            cases qs with
            | nil => exact absurd hN.symm (by simpa using hN0)
            | cons a t => exact ⟨a, t, rfl⟩
          have htl : t.length = N - 1 := by rw [← hN]; simp
          have hN1 : (1 : Int) ≤ (N : Int) := by omega
          have hNc : (N : Int) ≤ (c4 : Int) := by omega
          have hNe : ¬ (N : Int) = 0 := by omega
          clear hN
          by_cases hN2 : N = 1
          · subst hN2
            have ht0 : t = [] := List.length_eq_zero_iff.1 (by omega)
            subst ht0
            have HF : Hid (∀ (W : World), Sq w W [] → BtnR l cat who u 0 w (.returned (.tuple #[.slice none 0 0, .int .i64 0])) W) := Lib.hid (fun W hW => ⟨none, 0, [], ⟨fun _ => ⟨ps.map (·.2), [], HY.out, by
              rw [HOW.out]
              exact List.Perm.refl _, List.Pairwise.nil, rfl⟩, fun h => absurd rfl h⟩, rfl, hW.nil _ _ _⟩)
            have HSB := Lib.hid hS5.bare
            clear hS5 HN HOW HQ2 hPQ htl
            go_upto_region 14 with (fail)
            generalize (if c4 = 1 then some (⟨gO, 0, none⟩ : Addr) else some ⟨gO, 1, none⟩) = A9
            go_wp2_with fail
            refine (sortBtn_none wo A9 (c4 - 1)).mono ?_
            rintro e w5 ⟨rfl, rfl⟩
            go_wp2_with fail
            go_loopw [14, 57] (fun s14 s57 wr => s57 = .int .i64 0 ∧ s14 = .slice none 0 0 ∧ Sq w wr []) (fun _ s57 _ => 1 - (intOf s57).toNat)
            case atStart => exact ⟨rfl, rfl, HSB.out⟩
            case round =>
              obtain ⟨rfl, rfl, hS6⟩ := hrel
              have HS6 := Lib.hid (HF.out _ hS6)
              clear hS6
              go_wp2_with fail
              go_ret2
              exact HS6.out
          · have hc1 : ¬ c4 = 1 := by omega
            obtain ⟨M, hM⟩ : ∃ M, N - 1 = M := ⟨_, rfl⟩
            have hM1 : 0 < M := by omega
            have hMz : M ≤ 3000 := by omega
            have hruns : ∀ x ∈ t, RunAt wo x ∧ x.1 < wo.heap.size ∧ x.1 ≠ gO := fun x hx => by
              obtain ⟨kk, hk⟩ := hPQ x (List.mem_cons_of_mem _ hx)
              have h := hS5
              unfold dskL at h
              have hall : ∀ a ∈ L, (rRun a).P wo := h.nth 4 rfl
              have hb : Blk wo x.1 87 (runC (x.2, kk)).toArray := hall _ hk
              refine ⟨fun V hV => ?_, hb.lt, fun e => ?_⟩
              · have hb2 : Blk V x.1 87 (runC (x.2, kk)).toArray := Eq.trans hV hb
                exact ⟨hb2.cell 2, hb2.cell 6, hb2.cell 7⟩
              · have h1 := (List.pairwise_cons.1 h.hp.apart).1 (rAll rRun L) (by simp)
                exact h1 gO rfl ⟨_, hk, e.symm⟩
            have HC := Lib.hid (sortBtn_calls w wo gO N c4 1 M [a] t _ rfl (htl.trans hM) (by omega) hruns (by omega) hS5)
            have HTM : Hid (t.length = M) := Lib.hid (htl.trans hM)
            have HPQ := Lib.hid hPQ
            clear hruns hS5 hPQ htl HQ2 HN
            go_upto_region 14 with (fail)
            clear hM hN1 hNc hNe hN0 hN2 hcap hqk
            go_wp2_with fail
            refine HC.out.mono ?_
            rintro e w5 ⟨rfl, zs, hp, hso, hT⟩
            have HP := Lib.hid hp
            have HSO := Lib.hid hso
            have HZM : Hid (zs.length = M) := Lib.hid (hp.length_eq.trans HTM.out)
            have hT2 := hT.nil w.heap.size 9 1
            clear hp hso hT HC
            go_wp2_with fail
            go_loopw [14, 57] (fun s14 s57 wr => ∃ (j : Nat) (A : Option Addr) (c : Nat), j ≤ M ∧ s57 = .int .i64 j ∧ s14 = .slice A j c ∧ Sq w wr (rOwn w.heap.size 9 1 (.slice A j c) j (strsV ((zs.take j).map (·.2.id))) :: rOwn w.heap.size 85 1 (.slice (some ⟨gO, 0, none⟩) N c4) N (([a] ++ zs).flatMap (fun x => [ptvV x])) :: dskL gd m1 n1 m2 n2 L (folE l u).1 [])) (fun _ s57 _ => M - (intOf s57).toNat)
            case atStart => exact ⟨0, none, 0, Nat.zero_le _, rfl, rfl, hT2⟩
            case round =>
              clear hT2
              obtain ⟨j, A7, c7, hj7, rfl, rfl, hS⟩ := hrel
              obtain ⟨wq, hwq⟩ : ∃ z, z = wr := ⟨_, rfl⟩
              subst hwq
              by_cases hlt2 : j < M
              · have hjp : j < zs.length := by rw [HZM.out]; exact hlt2
                have hown : wq.ownsRow w.heap.size 85 1 (.slice (some ⟨gO, 0, none⟩) N c4) N (([a] ++ zs).flatMap (fun x => [ptvV x])) := hS.nth 1 rfl
                have hNj : 1 + j < N := by
                  have := hown.1
                  rw [flat_one, List.length_map, List.length_append] at this
                  simp at this
                  omega
                have hcp := own_cell (fun x => [ptvV x]) 1 (fun _ => rfl) hown (1 + j) 0 (by rw [List.length_append]; simp; omega) hNj (by omega)
                rw [Nat.mul_one, Nat.add_zero] at hcp
                have e1 : ([a] ++ zs)[1 + j]'(by rw [List.length_append]; simp; omega) = zs[j] := by
                  rw [List.getElem_append_right (by simp)]
                  simp
                rw [e1] at hcp
                obtain ⟨kk, hmem⟩ := HPQ.out zs[j] (List.mem_cons_of_mem _ (HP.out.mem_iff.1 (List.getElem_mem hjp)))
                have HTK : Hid ((zs.take (j + 1)).map (·.2.id) = (zs.take j).map (·.2.id) ++ [zs[j].2.id]) := Lib.hid (by
                  rw [List.take_succ_eq_append_getElem hjp, List.map_append]
                  rfl)
                obtain ⟨⟨g, at_, kd, id, whx, by1, ct, tm, dt⟩, hx⟩ : ∃ x, zs[j] = x := ⟨_, rfl⟩
                rw [hx] at hcp hmem HTK
                replace hcp : wq.cell? ⟨gO, 1 + j, none⟩ = some (.pointer (some ⟨g, 0, none⟩)) := hcp
                have b2 : wq.cell? ⟨g, 2, none⟩ = some (.string id) := by
                  have h := hS
                  unfold dskL at h
                  have hb : Blk wq g 87 #[.int .i64 at_, .int .i64 kd, .string id, .string whx, .string by1, .string ct, .int .i64 tm, .int .i64 dt, .string (hwV kk)] := (show ∀ a ∈ L, (rRun a).P wq from h.nth 5 rfl) _ hmem
                  exact hb.cell 2
                simp only at HTK
                have HO5 : wq.ownsRow w.heap.size 9 1 (.slice A7 j c7) j (strsV ((zs.take j).map (·.2.id))) := hS.head
                have hsz := hS.size
                have hj0 : (0 : Int) ≤ (j : Int) := by omega
                have hj1 : (j : Int) < (M : Int) := by omega
                clear hx e1 hown hjp hNj
                go_wp2_with (first
                  | (at_builtin; refine wpList_append_own_at _ rfl _ _ 40 rfl w.heap.size 9 j0 (.string ⟨#[]⟩) 1 16 Tryz.underlying40 hj hy0 hy1 hy2 rfl (by decide) _ _ _ rfl (HO5.alloc _) ⟨wq.heap.size, 0, none⟩ 1 1 [.string id] rfl rfl (World.news_of_block (heap_alloc_new _ _)) (by intro u hu; simp only [List.mem_cons, List.not_mem_nil, or_false] at hu; rcases hu with rfl; rfl) (by unfold maxLen; omega) (by omega) (by simp; omega) ?_; intro v' w11 hown' hgrow _ hblk; have hS9 := (hS.alloc _).append hown' hgrow hblk; obtain ⟨A8, c8, hv8⟩ := own_form hown'; subst hv8; clear hown' hgrow hblk))
                go_roundw
                case rel => exact ⟨j + 1, A8, c8, by omega, by go_num, rfl, by rw [HTK.out, strsV_snoc]; exact hS9⟩
                case measure => simp [intOf]; omega
              · obtain rfl : j = M := by omega
                have HF : Hid (BtnR l cat who u 0 w (.returned (.tuple #[.slice A7 j c7, .int .i64 0])) wq) := Lib.hid (by
                  have hT3 := (hS.drop 1 rfl rfl)
                  have hT4 : Sq w wq [rOwn w.heap.size 9 1 (.slice A7 j c7) j (strsV ((zs.take j).map (·.2.id)))] := by
                    unfold dskL at hT3
                    exact (((hT3.drop 4 rfl rfl).drop 3 rfl rfl).drop 2 rfl rfl).drop 1 rfl rfl
                  have el : ((zs.map (·.2)).map (·.id)).length = j := by rw [List.length_map, List.length_map]; exact HZM.out
                  have et : (zs.take j).map (·.2.id) = (zs.map (·.2)).map (·.id) := by
                    rw [List.take_of_length_le (by rw [HZM.out]; exact Nat.le_refl _), List.map_map]
                    rfl
                  rw [et] at hT4
                  refine ⟨A7, c7, (zs.map (·.2)).map (·.id), ⟨fun _ => ⟨ps.map (·.2), zs.map (·.2), HY.out, ?_, ?_, rfl⟩, fun h => absurd rfl h⟩, by rw [el], ?_⟩
                  · rw [HOW.out]
                    exact HP.out.map _
                  · rw [List.pairwise_map]
                    exact HSO.out
                  · rw [el]
                    exact hT4)
                clear hS
                go_wp2_with fail
                go_ret2
                exact HF.out
  · have hne : (F != 0) = true := by rw [bne_iff_ne]; exact h0
    go_enter Tryz.func12, Tryz.ntmps12
    go_wp2_with fail
    rw [← hg8, ← hW0]
    clear hg8 hW0
    refine HC.out.mono ?_
    rintro e w1 ⟨rfl, hb1⟩
    have HF : Hid (BtnR l cat who u F w (.returned (.tuple #[.slice none 0 0, .int .i64 F])) w1) := Lib.hid ⟨none, 0, [], btIs_no h0, rfl, ((HS0.out.callB hb1).bare).nil _ _ _⟩
    clear HC HS0 hb1
    go_wp2_with fail
    go_ret2
    exact HF.out
end Go.Proofs.YtebaaoacmmhppaaGreat
