/-
  DERIVED: THE SHELF's CONTRACTS AT THIS DUMP, IN PLAIN WORDS (tools/lay-plain.mjs out of 'TryzShelf.lean', which tools/lay-shelf.mjs wrote): THE SAME DECLARATIONS UNDER THE SAME NAMES: 'import', 'namespace', 'open', 'def', 'theorem' AND NOTHING ELSE: no command of the shelf's: FOR A HAND-IN. Each laying: the table of numbers ('.._ren') and one theorem, a field a fact of the dump's own or the kernel's comparison; each contract: ONE APPLICATION.
-/
import Derived.Shelf.SlGeneric
import Derived.Shelf.SlSortCmp.WholeK
import Derived.Test.YthbcogekfdllmaaGreatDoorProg
import Derived.Test.YthbcogekfdllmaaGreatDoorZSepX
import Derived.Shelf.GgSortFunc.InsertionK
import Derived.Test.YthbcogekfdllmaaGreatDoorZScmp
import Derived.Test.YthbcogekfdllmaaGreatDoorZBs
import Derived.Deep.DeepCutAuto
import Derived.Shelf.SlSortCmp.NoneTotal
import Derived.Test.YthbcogekfdllmaaGreatDoorZCntS
import Derived.Test.YthbcogekfdllmaaGreatDoorZRule2
import Derived.Test.YthbcogekfdllmaaGreatDoorZClk
import Derived.Deep.RegionHeld3
import Derived.Lib.ItoaLen
namespace Go.Proofs
open Go.Shelf
def Tryz.sortPr_ren : Go.Shelf.Ren := ⟨fun | 6 => 91 | 15 => 127 | 14 => 148 | 28 => 179 | 29 => 180 | 20 => 187 | 21 => 188 | 22 => 189 | 23 => 190 | 24 => 191 | 25 => 192 | 26 => 193 | 27 => 194 | 46 => 230 | 47 => 221 | 48 => 222 | 49 => 231 | 50 => 232 | 57 => 253 | n => n, fun | 22 => 45 | 24 => 75 | 25 => 174 | 3 => 3 | 39 => 210 | 0 => 0 | 53 => 265 | 55 => 267 | 4 => 4 | 46 => 259 | 45 => 258 | 50 => 195 | 5 => 5 | 9 => 9 | 66 => 295 | 70 => 299 | 76 => 313 | 77 => 314 | n => n, fun | n => n⟩
theorem Tryz.sortPr : Go.Proofs.SlLaysF0.n6 Tryz.prog Tryz.sortPr_ren := {
  mixed := by kernel_rfl
  f6 := ⟨Tryz.f91.name, by decide, Tryz.func91.trans (congrArg some (by kernel_rfl))⟩
  f14 := ⟨Tryz.f148.name, by decide, Tryz.func148.trans (congrArg some (by kernel_rfl))⟩
  f15 := Tryz.func127.trans (congrArg some (by kernel_rfl))
  f20 := ⟨Tryz.f187.name, by decide, Tryz.func187.trans (congrArg some (by kernel_rfl))⟩
  f21 := ⟨Tryz.f188.name, by decide, Tryz.func188.trans (congrArg some (by kernel_rfl))⟩
  f22 := ⟨Tryz.f189.name, by decide, Tryz.func189.trans (congrArg some (by kernel_rfl))⟩
  f23 := ⟨Tryz.f190.name, by decide, Tryz.func190.trans (congrArg some (by kernel_rfl))⟩
  f24 := ⟨Tryz.f191.name, by decide, Tryz.func191.trans (congrArg some (by kernel_rfl))⟩
  f25 := ⟨Tryz.f192.name, by decide, Tryz.func192.trans (congrArg some (by kernel_rfl))⟩
  f26 := ⟨Tryz.f193.name, by decide, Tryz.func193.trans (congrArg some (by kernel_rfl))⟩
  f27 := ⟨Tryz.f194.name, by decide, Tryz.func194.trans (congrArg some (by kernel_rfl))⟩
  f28 := Tryz.func179.trans (congrArg some (by kernel_rfl))
  f29 := Tryz.func180.trans (congrArg some (by kernel_rfl))
  f46 := ⟨Tryz.f230.name, by decide, Tryz.func230.trans (congrArg some (by kernel_rfl))⟩
  f47 := Tryz.func221.trans (congrArg some (by kernel_rfl))
  f48 := Tryz.func222.trans (congrArg some (by kernel_rfl))
  f49 := ⟨Tryz.f231.name, by decide, Tryz.func231.trans (congrArg some (by kernel_rfl))⟩
  f50 := ⟨Tryz.f232.name, by decide, Tryz.func232.trans (congrArg some (by kernel_rfl))⟩
  f57 := ⟨Tryz.f253.name, by decide, Tryz.func253.trans (congrArg some (by kernel_rfl))⟩
  t0 := Tryz.underlying0
  a0 := Tryz.isAgg0
  z0 := Tryz.sizeOf0
  v0 := Tryz.zeroValue0
  t3 := Tryz.underlying3
  a3 := Tryz.isAgg3
  z3 := Tryz.sizeOf3
  v3 := Tryz.zeroValue3
  t4 := Tryz.underlying4
  a4 := Tryz.isAgg4
  z4 := Tryz.sizeOf4
  v4 := Tryz.zeroValue4
  t5 := Tryz.underlying5
  a5 := Tryz.isAgg5
  z5 := Tryz.sizeOf5
  v5 := Tryz.zeroValue5
  t9 := Tryz.underlying9
  a9 := Tryz.isAgg9
  z9 := Tryz.sizeOf9
  v9 := Tryz.zeroValue9
  t22 := Tryz.underlying45
  a22 := Tryz.isAgg45
  z22 := Tryz.sizeOf45
  v22 := Tryz.zeroValue45
  t25 := Tryz.underlying174
  a25 := Tryz.isAgg174
  z25 := Tryz.sizeOf174
  v25 := Tryz.zeroValue174
  t39 := Tryz.underlying210
  a39 := Tryz.isAgg210
  z39 := Tryz.sizeOf210
  v39 := Tryz.zeroValue210
  t45 := Tryz.underlying258
  a45 := Tryz.isAgg258
  z45 := Tryz.sizeOf258
  v45 := Tryz.zeroValue258
  t46 := Tryz.underlying259
  a46 := Tryz.isAgg259
  z46 := Tryz.sizeOf259
  v46 := Tryz.zeroValue259
  t50 := Tryz.underlying195
  a50 := Tryz.isAgg195
  z50 := Tryz.sizeOf195
  v50 := Tryz.zeroValue195
  t53 := Tryz.underlying265
  a53 := Tryz.isAgg265
  z53 := Tryz.sizeOf265
  v53 := Tryz.zeroValue265
  t55 := Tryz.underlying267
  a55 := Tryz.isAgg267
  z55 := Tryz.sizeOf267
  v55 := Tryz.zeroValue267
  t66 := Tryz.underlying295
  a66 := Tryz.isAgg295
  z66 := Tryz.sizeOf295
  v66 := Tryz.zeroValue295
  t70 := Tryz.underlying299
  a70 := Tryz.isAgg299
  z70 := Tryz.sizeOf299
  v70 := Tryz.zeroValue299
  t76 := Tryz.underlying313
  a76 := Tryz.isAgg313
  z76 := Tryz.sizeOf313
  v76 := Tryz.zeroValue313
  t77 := Tryz.underlying314
  a77 := Tryz.isAgg314
  z77 := Tryz.sizeOf314
  v77 := Tryz.zeroValue314 }
end Go.Proofs
/-
  Memory behind slices.SortFunc at structs: the row alone is turned. No Go text is named here.
-/
namespace Go.Proofs.YthbcogekfdllmaaGreatDoor
open Go Go.RowKit Go.Sort

theorem mapBlock_heap (w : World) (blk : Nat) (f : Array Value → Array Value) (k : Nat) (h : k ≠ blk) : (mapBlock w blk f).heap[k]? = w.heap[k]? := by
  unfold mapBlock
  simp only [Array.getElem?_modify]
  rw [if_neg (fun e => h e.symm)]
theorem mapBlock_size (w : World) (blk : Nat) (f : Array Value → Array Value) : (mapBlock w blk f).heap.size = w.heap.size := by
  unfold mapBlock
  simp
theorem mapBlock_at (w : World) (blk : Nat) (f : Array Value → Array Value) {c : Array Value} {e : TypeId} {fr : Nat × Nat} (h : w.heap[blk]? = some (.cells c e fr)) : (mapBlock w blk f).heap[blk]? = some (.cells (f c) e fr) := by
  unfold mapBlock
  simp only [Array.getElem?_modify]
  rw [if_pos trivial, h]
  rfl
theorem sortW_heap {α : Type} [Inhabited α] (enc : α → List Value) (k : Nat) (w : World) (blk m : Nat) (dk : Array α) (os : Array Obj) (i : Nat) (hi : i < w.heap.size) :
    (sortWorldK enc k w blk 0 m dk os).heap[i]? = (mapBlock w blk (putCells id 0 (flatK enc k dk))).heap[i]? := by
  have e : (sortWorldK enc k w blk 0 m dk os).heap = (mapBlock w blk (putCells id 0 (flatK enc k dk))).heap ++ os := rfl
  rw [e, Array.getElem?_append_left (by rw [mapBlock_size]; exact hi)]
theorem sortW_grown {α : Type} [Inhabited α] (enc : α → List Value) (k : Nat) (w : World) (blk m : Nat) (dk : Array α) (os : Array Obj) : w.grownBy (sortWorldK enc k w blk 0 m dk os) (some blk) := by
  refine ⟨rfl, rfl, rfl, ?_, fun i hi hn => ?_⟩
  · have e : (sortWorldK enc k w blk 0 m dk os).heap = (mapBlock w blk (putCells id 0 (flatK enc k dk))).heap ++ os := rfl
    rw [e, Array.size_append, mapBlock_size]
    omega
  · rw [sortW_heap enc k w blk m dk os i hi, mapBlock_heap _ _ _ _ (fun e => hn (by rw [e]))]
theorem sortW_own {α : Type} [Inhabited α] (enc : α → List Value) (k : Nat) (hk : ∀ x, (enc x).length = k) (h0 : 0 < k) {w : World} {base blk n cap : Nat} {e : TypeId} {xs : List Value} (h : w.ownsRow base e k (.slice (some ⟨blk, 0, none⟩) n cap) n xs) (m : Nat) (dk : Array α) (hd : dk.size = n) (os : Array Obj) :
    (sortWorldK enc k w blk 0 m dk os).ownsRow base e k (.slice (some ⟨blk, 0, none⟩) n cap) n (dk.toList.flatMap enc) := by
  have hlt := (h.lt blk rfl).2
  refine ⟨by rw [flat_len enc k hk, Array.length_toList, hd], ?_⟩
  rcases h.2 with ⟨he, _⟩ | ⟨g, cap', cur, he, hb, hg, h1, h2, h3, h4⟩
  · cases he
  · injection he with he1 he2 he3
    injection he1 with he1
    injection he1 with he1
    subst he1 he3
    refine .inr ⟨blk, cap, putCells id 0 (flatK enc k dk) cur, rfl, hb, ?_, h1, h2, ?_, ?_⟩
    · rw [sortW_heap enc k w blk m dk os blk hlt, mapBlock_at w blk _ hg]
    · unfold putCells; rw [Array.size_mapIdx, h3]
    · have hnk : n * k ≤ cap * k := Nat.mul_le_mul_right _ h1
      refine List.ext_getElem? fun j => ?_
      rcases Nat.lt_or_ge j (n * k) with hj | hj
      · rw [List.getElem?_take_of_lt hj, Array.getElem?_toList]
        unfold putCells
        rw [Array.getElem?_mapIdx, Array.getElem?_eq_getElem (by omega)]
        simp only [Option.map_some, size_flatK]
        rw [if_pos ⟨Nat.zero_le _, by rw [hd]; omega⟩, Nat.sub_zero, get_flatK enc k dk j (by rw [hd]; exact hj)]
        have hq : j / k < dk.size := by rw [hd]; exact (Nat.div_lt_iff_lt_mul h0).2 hj
        have hr : j % k < k := Nat.mod_lt _ h0
        have hfl := flat_get enc k hk dk.toList (j / k) (j % k) (by simpa using hq) hr
        rw [Nat.div_add_mod' j k] at hfl
        rw [hfl, getElem!_pos dk _ hq, Array.getElem_toList]
        have hlen : j % k < (enc dk[j / k]).length := by rw [hk]; exact hr
        rw [List.getElem?_eq_getElem hlen, getElem!_pos (enc dk[j / k]) (j % k) hlen]
        rfl
      · rw [List.getElem?_eq_none (by rw [List.length_take, Array.length_toList]; omega), List.getElem?_eq_none (by rw [flat_len enc k hk, Array.length_toList, hd]; exact hj)]
theorem holdsK_own {α : Type} [Inhabited α] (enc : α → List Value) (k : Nat) (hk : ∀ x, (enc x).length = k) (h0 : 0 < k) {w : World} {base blk n cap : Nat} {e : TypeId} (dk : Array α) (h : w.ownsRow base e k (.slice (some ⟨blk, 0, none⟩) n cap) n (dk.toList.flatMap enc)) : HoldsK enc k w blk 0 dk := by
  have hl : dk.size = n := by
    have := h.1
    rw [flat_len enc k hk, Array.length_toList] at this
    exact Nat.eq_of_mul_eq_mul_right h0 this
  intro j hj
  rw [size_flatK] at hj
  have hq : j / k < dk.size := (Nat.div_lt_iff_lt_mul h0).2 hj
  have hr : j % k < k := Nat.mod_lt _ h0
  have hc := own_cell enc k hk h (j / k) (j % k) (by simpa using hq) (by omega) hr
  rw [Nat.div_add_mod' j k, Array.getElem_toList] at hc
  rw [Nat.zero_add, get_flatK enc k dk j hj, getElem!_pos dk _ hq]
  have hlen : j % k < (enc dk[j / k]).length := by rw [hk]; exact hr
  rw [List.getElem?_eq_getElem hlen] at hc
  rw [hc, getElem!_pos (enc dk[j / k]) (j % k) hlen]
  exact ⟨rfl, h.frozenAt _⟩
end Go.Proofs.YthbcogekfdllmaaGreatDoor
/-
  byGift and giftOrder by contracts.
-/
namespace Go.Proofs.YthbcogekfdllmaaGreatDoor
open Go Go.RowKit

theorem strCmp_calls (a b : ByteArray) (w : World) : Calls Tryz.prog 70 #[.string a, .string b] w fun e w' => e = .returned (.int .i64 (cmpS a b)) ∧ w = w' :=
  (Tryz.strings_Compare a b w).mono (fun _ _ h => ⟨h.1, h.2.symm⟩)
end Go.Proofs.YthbcogekfdllmaaGreatDoor
/-
  slices.SortFunc of pairs by their names. (Printed by gen_spl2.py.)
-/
namespace Go.Proofs.YthbcogekfdllmaaGreatDoor
open Go Go.RowKit Go.Sort

abbrev prL (x : Pr) : Array Value := #[.string x.1, .string x.2]
def ordPr (x y : Pr) : Int := cmpS x.1 y.1
theorem prC_one (x : Pr) : ∀ v ∈ prC x, v.oneCell' = true := by
  intro v hv
  simp [prC] at hv
  rcases hv with rfl | rfl <;> rfl
theorem grewP (w : World) (o o2 : Obj) (n : Nat) : ∃ q os', ((w.alloc o).alloc o2).drewN n = grow (w.drewN q) os' := ⟨n, #[o, o2], by rw [alloc_eq_grow, alloc_eq_grow, grow_grow]; rfl⟩
theorem swo_pr : SWO (ltOf ordPr) where
  irrefl x := decide_eq_false (cmpS_irr x.1)
  trans x y z h1 h2 := by
    have h1 : cmpS x.1 y.1 < 0 := of_decide_eq_true h1
    have h2 : cmpS y.1 z.1 < 0 := of_decide_eq_true h2
    rw [cmpS_ltG] at h1 h2
    exact decide_eq_true ((cmpS_ltG _ _).2 (h2.trans h1))
  ntrans x y z h1 h2 := by
    have h1 : ¬ cmpS x.1 y.1 < 0 := of_decide_eq_false h1
    have h2 : ¬ cmpS y.1 z.1 < 0 := of_decide_eq_false h2
    have h3 : ¬ cmpS x.1 z.1 < 0 := by
      rw [cmpS_ltG] at h1 h2 ⊢
      unfold gtS at *
      intro h0
      have e1 : leS y.1 x.1 = true := by cases h : leS y.1 x.1; exact absurd h h1; rfl
      have e2 : leS z.1 y.1 = true := by cases h : leS z.1 y.1; exact absurd h h2; rfl
      rw [leS_trans e2 e1] at h0
      cases h0
    exact decide_eq_false h3
/-- the pairs, in memory of the call's own -/
def rPr (base : Nat) (A : Option Addr) (n c : Nat) (ps : List Pr) : Rsc := rOwn base 75 2 (.slice A n c) n (ps.flatMap prC)

set_option maxRecDepth 100000 in
theorem ordSp_calls (x y : Pr) (w : World) :
    Calls Tryz.prog 92 #[.agg (prL x), .agg (prL y)] w fun e w' => e = .returned (.int .i64 (ordPr x y)) ∧ ∃ q os', w' = grow (w.drewN q) os' := by
  have HG := Lib.hid (grewP w (.cells (prL x) 75) (.cells (prL y) 75) 0)
  have HC := Lib.hid (fun W => strCmp_calls x.1 y.1 W)
  obtain ⟨C, hC⟩ : ∃ C, ordPr x y = C := ⟨_, rfl⟩
  have hC' : cmpS x.1 y.1 = C := hC
  rw [hC'] at HC
  rw [hC]
  clear hC hC'
  go_enter Tryz.func92, Tryz.ntmps92
  go_wp2_with fail
  refine (HC.out _).mono ?_
  rintro e w1 ⟨rfl, rfl⟩
  go_wp2_with fail
  go_ret
  exact ⟨rfl, HG.out⟩
set_option maxRecDepth 100000 in
theorem sortSp_calls (w0 w : World) (l : List Rsc) (g n c : Nat) (xs : List Pr) (hn : n ≤ 100000) (hS : Sq w0 w (rPr w0.heap.size (some ⟨g, 0, none⟩) n c xs :: l)) :
    Calls Tryz.prog 91 #[.slice (some ⟨g, 0, none⟩) n c, .func (.func 92) #[] #[]] w fun e w' =>
      e = .returned (.tuple #[]) ∧ ∃ ys : List Pr, ys.Perm xs ∧ ys.Pairwise (fun a b => ¬ cmpS b.1 a.1 < 0) ∧ Sq w0 w' (rPr w0.heap.size (some ⟨g, 0, none⟩) n c ys :: l) := by
  have hown : w.ownsRow w0.heap.size 75 2 (.slice (some ⟨g, 0, none⟩) n c) n (xs.flatMap prC) := hS.head
  have hlen : xs.toArray.size = n := by
    have := hown.1
    rw [flat_len prC 2 prC_len] at this
    simp
    omega
  have hH : HoldsK prC 2 w g 0 xs.toArray := holdsK_own prC 2 prC_len (by decide) xs.toArray (by simpa using hown)
  have h := AnyQ.slices_SortFunc Tryz.sortPr 2 Tryz.isAgg75 Tryz.sizeOf75 prC prC_len (fun x v hv => prC_one x v hv) ordPr swo_pr 92 #[] g 0 c xs.toArray w (enters_of Tryz.func92 (by kernel_rfl) rfl)
    (fun m os dk _ x y => ordSp_calls x y _) hH (hown.lt g rfl).2 (by rw [hlen]; omega)
  rw [hlen] at h
  refine Calls.mono h ?_
  rintro e w' ⟨rfl, d', m, os, hp, hs, rfl⟩
  have hp2 : d'.toList.Perm xs := by
    obtain ⟨h1, _, h3⟩ := hp
    have e1 : d'.extract 0 n = d' := by
      have : d'.size = n := by rw [h1, hlen]
      rw [← this]; exact Array.extract_size
    have e2 : xs.toArray.extract 0 n = xs.toArray := by rw [← hlen]; exact Array.extract_size
    rw [e1, e2] at h3
    simpa using h3
  have hd : d'.size = n := by rw [hp.1, hlen]
  refine ⟨rfl, d'.toList, hp2, ?_, ?_⟩
  · rw [List.pairwise_iff_getElem]
    intro i j hi hj hij
    have hi' : i < d'.size := by simpa using hi
    have hj' : j < d'.size := by simpa using hj
    have := hs i j (Nat.zero_le _) hij (by omega)
    rw [getElem!_pos d' j hj', getElem!_pos d' i hi'] at this
    have h2 : ¬ cmpS d'[j].1 d'[i].1 < 0 := of_decide_eq_false this
    simpa using h2
  · refine hS.turn (sortW_grown prC 2 w g m d' os) (fun k hk => by injection hk with hk; subst hk; rfl) ?_ (rOwn_ok _ _ _ _ _ _) (fun k hk => ?_)
    · exact sortW_own prC 2 prC_len (by decide) hown m d' hd os
    · have hk : some g = some k := hk
      injection hk with hk
      subst hk
      refine ⟨.inl rfl, ?_⟩
      have := (sortW_grown prC 2 w g m d' os).size
      have := (hown.lt g rfl).2
      omega

theorem sortPr_nil (f : Nat) (w : World) (A : Option Addr) (c : Nat) :
    Calls Tryz.prog 91 #[.slice A 0 c, .func (.func f) #[] #[]] w fun e w' => e = .returned (.tuple #[]) ∧ w' = w :=
  AnyF.slices_SortFunc_none Tryz.sortPr A c _ w
end Go.Proofs.YthbcogekfdllmaaGreatDoor
/-
  rule.Split and the reference's SplitOf by contracts. (Printed by gen_spl3.py.)
-/
namespace Go.Proofs.YthbcogekfdllmaaGreatDoor
open Go Go.RowKit
attribute [local go_sem ↓] Go.wp_at_zero Go.wp_at_succ

theorem zero_intC (w : World) : (zeroValue 3).run Tryz.prog w = .ok (.int .i64 0) w := by kernel_rfl
theorem c_look {W : World} {g N : Nat} {vs : List ByteArray} (h : MapS W 9 g N (mapC vs)) {s : ByteArray} (hs : s.size ≤ 100000) :
    (Instr.lookup 169 (.map (some g)) (.string s) false).run Tryz.prog W = .ok (.int .i64 (occ s vs : Int)) W := by
  have := h.look Tryz.underlying9 Tryz.underlying169 (zero_intC W) (s := s) (by unfold maxLen; omega)
  rw [mapC_get] at this
  exact this
theorem c_put {w W : World} {l : List Rsc} {g N : Nat} {vs : List ByteArray} (hS : Sq w W (rMap 9 g N (mapC vs) :: l)) (hN : N ≤ 200000) {s : ByteArray} (hs : s.size ≤ 100000) :
    ∃ W', (Instr.mapUpdate 169 (.map (some g)) (.string s) (.int .i64 ((occ s vs : Int) + 1))).run Tryz.prog W = .ok () W' ∧ Sq w W' (rMap 9 g (N + 1) (mapC (vs ++ [s])) :: l) := by
  have h : MapS W 9 g N (mapC vs) := hS.head
  obtain ⟨W', h1, h2, h3⟩ := h.update Tryz.underlying9 Tryz.underlying169 (by unfold maxLen; omega) (s := s) (by unfold maxLen; omega) (.int .i64 ((occ s vs : Int) + 1))
  rw [mapC_upd] at h2
  exact ⟨W', h1, hS.mapSet h2 h3⟩
/-- no more keys than values -/
theorem seen_le : ∀ (seen vs : List ByteArray), seen.Nodup → (∀ s ∈ seen, s ∈ vs) → seen.length ≤ vs.length
  | [], _, _, _ => Nat.zero_le _
  | s :: t, vs, hn, hm => by
    rw [List.nodup_cons] at hn
    have hs := hm s (List.mem_cons_self ..)
    have ih := seen_le t (vs.filter (fun x => decide (x ≠ s))) hn.2 (fun x hx => List.mem_filter.2 ⟨hm x (List.mem_cons_of_mem _ hx), by
      rw [decide_eq_true_eq]
      intro e
      subst e
      exact hn.1 hx⟩)
    have hlt := (List.length_filter_lt_length_iff_exists (p := fun x => decide (x ≠ s)) (l := vs)).2 ⟨s, hs, by simp⟩
    rw [List.length_cons]
    omega
theorem out_snoc (vs seen : List ByteArray) (s : ByteArray) : ((seen ++ [s]).map (cntP vs)).flatMap prC = (seen.map (cntP vs)).flatMap prC ++ [.string s, .string ⟨(Lib.itoa (occ s vs : Int)).toArray⟩] := by
  rw [List.map_append, List.flatMap_append]; simp [prC, cntP]
/-- what a split answers: E its error -/
def SpoR (vs : List ByteArray) (E : Int) (w w' : World) (v : Value) : Prop :=
  ∃ ys : List Pr, (E = 0 → SplitP vs ys) ∧ (E ≠ 0 → ys = []) ∧ w'.ownsRow w.heap.size 75 2 v ys.length (ys.flatMap prC) ∧ Below w.heap.size w w'
def splE (xs : List Rn) (f : ByteArray) : Int := if runsF xs = 0 then if nameB f = true then 0 else 5 else runsF xs
def valsV (f : ByteArray) (xs : List Rn) : List ByteArray := xs.map (fun x => fieldV f x.fs)
theorem valsV_take {f : ByteArray} {xs : List Rn} {k : Nat} (hk : k < xs.length) : valsV f (xs.take (k + 1)) = valsV f (xs.take k) ++ [fieldV f xs[k].fs] := by
  unfold valsV
  rw [List.take_succ_eq_append_getElem hk, List.map_append]; rfl
theorem fieldV_le {f : ByteArray} : ∀ {fs : List Pr}, (∀ p ∈ fs, p.2.size ≤ 1000) → (fieldV f fs).size ≤ 1000
  | [], _ => Nat.zero_le _
  | p :: ps, h => by
    rw [fieldV]
    split
    · exact h p (List.mem_cons_self ..)
    · exact fieldV_le (fun q hq => h q (List.mem_cons_of_mem _ hq))

set_option maxRecDepth 100000 in
set_option maxHeartbeats 4000000 in
theorem splitRun_calls (b : Nat) (A : Option Addr) (n c : Nat) (xs : List Rn) (f : ByteArray) (w : World) (hr : Rns w b A n c xs) (hb : b < w.heap.size) (ht : Tab w) (hn : n ≤ 1000) (hf : f.size ≤ 1000) (hz : RnZs xs) :
    Calls Tryz.prog 37 #[.slice A n c, .string f] w (fun e w' => ∃ v, e = .returned (.tuple #[v, .int .i64 (splE xs f)]) ∧ SpoR (valsV f xs) (splE xs f) w w' v) := by
  have HCK := Lib.hid (checkRuns_calls b A n c xs w hr hb)
  obtain ⟨i0, hi, hi0, hi1, hi2⟩ := info_parts info_prR
  by_cases hF : runsF xs = 0
  · rw [hF] at HCK
    have HNM := Lib.hid (fun W => isName_calls f W (by omega))
    cases hB : nameB f
    · have hE : splE xs f = 5 := by unfold splE; rw [if_pos hF, hB]; rfl
      rw [hE]
      rw [hB] at HNM
      clear hF hB hE hr hz
      go_enter Tryz.func37, Tryz.ntmps37
      go_wp2_with (first
        | (go_at_call 87; refine HCK.out.mono ?_; rintro e w1 ⟨rfl, hb1⟩)
        | (go_at_call 88; refine (HNM.out _).mono ?_; rintro e w2 ⟨rfl, hb2⟩))
      go_ret2
      exact ⟨_, rfl, [], (fun h => by cases h), (fun _ => rfl), World.ownsRow_nil _ _ _ _, below_call hb1 hb2 (Nat.le_refl _)⟩
    · have hE : splE xs f = 0 := by unfold splE; rw [if_pos hF, hB]; rfl
      rw [hE]
      rw [hB] at HNM
      obtain ⟨hl, hnc, hcm, hcells⟩ := hr.rd.cells rnC_len (by omega)
      have HL := Lib.hid hl
      have HCL := Lib.hid hcells
      have HRD := Lib.hid hr.ok
      have HZ := Lib.hid hz
      obtain ⟨vs, hvs⟩ : ∃ vs, vs = valsV f xs := ⟨_, rfl⟩
      have hvl : vs.length = n := by rw [hvs]; unfold valsV; rw [List.length_map, hl]
      have HVS := Lib.hid hvs
      have HVZ : Hid (∀ s ∈ vs, s.size ≤ maxLen) := Lib.hid (fun s hs => by
        rw [hvs] at hs
        obtain ⟨x, hx, rfl⟩ := List.mem_map.1 hs
        have := fieldV_le (f := f) (fun p hp => ((hz x hx).hf p hp).2)
        unfold maxLen; omega)
      rw [← hvs]
      have hmm := @run_makeMap Tryz.prog
      clear hF hB hE hr hz hcells hl hvs
      go_enter Tryz.func37, Tryz.ntmps37
      go_wp2_with (first
        | (go_at_call 87; refine HCK.out.mono ?_; rintro e w1 ⟨rfl, hb1⟩)
        | (go_at_call 88; refine (HNM.out _).mono ?_; rintro e w2 ⟨rfl, hb2⟩; have hS0 := (((Sq.start w).callB hb1).callB hb2).addMap 9))
      obtain ⟨mb, hmb⟩ : ∃ mb, mb = w2.heap.size := ⟨_, rfl⟩
      rw [← hmb] at hS0 ⊢
      clear hmm hb1 hb2 hmb
      go_loopw [25] (fun i wr => ∃ k : Nat, k ≤ n ∧ i = .int .i64 k ∧ Sq w wr [rMap 9 mb k (mapC (valsV f (xs.take k)))]) (fun i _ => n - (intOf i).toNat)
      case atStart => exact ⟨0, Nat.zero_le _, rfl, hS0⟩
      case round =>
        clear hS0
        obtain ⟨k, hk, rfl, hS⟩ := hrel
        by_cases hlt : k < n
        · have hkr : k < xs.length := by rw [HL.out]; exact hlt
          obtain ⟨g, o, hA, _, hcs⟩ := HCL.out (by omega)
          subst hA
          have c4 := below_cell hS.below (hcs k hkr 4 (by omega))
          have hrd := (HRD.out _ (List.getElem_mem hkr)).rd.below hS.below
          have hfz := fieldV_le (f := f) (fun p hp => ((HZ.out _ (List.getElem_mem hkr)).hf p hp).2)
          have HTK := Lib.hid (valsV_take (f := f) hkr)
          have HFD := Lib.hid (field_calls b g (o + k * 5) xs[k].fa xs[k].fs.length xs[k].fc xs[k].fs f wr c4 hrd)
          obtain ⟨s, hs⟩ : ∃ s, s = fieldV f xs[k].fs := ⟨_, rfl⟩
          obtain ⟨fh, hfh⟩ : ∃ fh, fh = fieldH f xs[k].fs := ⟨_, rfl⟩
          rw [← hs] at hfz HTK
          have HFE : Hid (Calls Tryz.prog 89 #[.pointer (some ⟨g, o + k * 5, none⟩), .string f] wr (BRet (.tuple #[.string s, .bool fh]) wr)) := by rw [hs, hfh]; exact HFD
          have hk0 : (0 : Int) ≤ (k : Int) := by omega
          have hk1 : (k : Int) < (n : Int) := by omega
          clear hs hfh HFD hcs c4 hrd
          go_wp2_with (first
            | (go_at_call 89; refine HFE.out.mono ?_; rintro e w3 ⟨rfl, hb3⟩; have hS3 := hS.callB hb3; have hlk := c_look (show MapS w3 9 mb k (mapC (valsV f (xs.take k))) from hS3.head) (s := s) (by omega); have hput := c_put hS3 (by omega) (s := s) (by omega); have hoc := occ_le s (valsV f (xs.take k)); have hvk : (valsV f (xs.take k)).length ≤ n := (by unfold valsV; rw [List.length_map, List.length_take]; omega); obtain ⟨q, hq⟩ : ∃ q, q = occ s (valsV f (xs.take k)) := ⟨_, rfl⟩; rw [← hq] at hlk hput hoc; clear hq; obtain ⟨w5, hput, hS5⟩ := hput))
          rw [← HTK.out] at hS5
          go_roundw
          case rel => exact ⟨k + 1, by omega, by go_num, hS5⟩
          case measure => simp [intOf]; omega
        · obtain rfl : k = n := by omega
          have e9 : xs.take k = xs := List.take_of_length_le (by rw [HL.out]; exact Nat.le_refl _)
          rw [e9, ← HVS.out] at hS
          have HMP : MapS wr 9 mb k (mapC vs) := hS.head
          have HRET : Hid (∀ v W (ys : List Pr), SplitP vs ys → W.ownsRow w.heap.size 75 2 v ys.length (ys.flatMap prC) → Below w.heap.size w W → ∃ v', Ending.returned (.tuple #[v, .int .i64 0]) = .returned (.tuple #[v', .int .i64 0]) ∧ SpoR vs 0 w W v') :=
            Lib.hid (fun v W ys h1 h2 h3 => ⟨v, rfl, ys, fun _ => h1, fun h => (h rfl).elim, h2, h3⟩)
          clear e9
          go_wp2_with (first
            | (at_range; refine wpList_range_map _ rfl _ 169 rfl 9 3 Tryz.underlying9 Tryz.underlying169 mb k (mapC vs) rfl HMP ?_; intro w0 cnt0 hr0 hg0 hs0))
          go_frame
          have hS0 := (hS.rngStart hr0 hg0).nil w.heap.size 75 2
          obtain ⟨r, hr⟩ : ∃ r, r = wr.heap.size := ⟨_, rfl⟩
          rw [← hr] at hS0 ⊢
          clear hS hr0 hg0 hs0 HMP hr
          go_loopw [11] (fun v wq => ∃ (A : Option Addr) (c : Nat) (seen : List ByteArray) (cnt : Nat), v = .slice A seen.length c ∧ Hid (∀ s ∈ seen, s ∈ vs) ∧ Sq w wq [rOwn w.heap.size 75 2 (.slice A seen.length c) seen.length ((seen.map (cntP vs)).flatMap prC), rRng 9 mb r k (mapC vs) seen cnt]) (fun _ wq => wq.rangeLeft mb r)
          case atStart => exact ⟨none, 0, [], cnt0, rfl, Lib.hid (fun s hs => by cases hs), hS0⟩
          case round =>
            clear hS0
            obtain ⟨A, c, seen, cnt, rfl, HM, hS⟩ := hrel
            have hrg : RngS wr 9 mb r k (mapC vs) seen cnt := hS.nth 1 rfl
            have hlen : seen.length ≤ vs.length := seen_le seen vs hrg.nodup HM.out
            obtain ⟨m, hm⟩ : ∃ m, m = seen.length := ⟨_, rfl⟩
            have HML := Lib.hid hm
            rw [← hm] at hS hlen ⊢
            clear hm
            go_wp2_with (first
              | (at_next; refine wpList_next_map _ rfl _ rfl 9 Tryz.underlying9 mb r k (mapC vs) seen cnt rfl hrg ?_ ?_))
            · intro hdone
              have HPM : Hid (∀ s, s ∈ seen ↔ s ∈ vs) := Lib.hid (fun s => ⟨HM.out s, fun hs => (hdone s (HVZ.out s hs)).1 ((mapC_is vs s).2 hs)⟩)
              have HND := Lib.hid hrg.nodup
              have hS1 : Sq w wr [rPr w.heap.size A m c (seen.map (cntP vs))] := hS.drop 1 rfl rfl
              clear hS hrg hdone
              by_cases hm0 : m = 0
              · subst hm0
                have hs0 : seen = [] := List.length_eq_zero_iff.1 HML.out.symm
                subst hs0
                have HSO := Lib.hid (fun W => sortPr_nil 92 W A c)
                go_wp2_with (first | (go_at_call 91; refine (HSO.out _).mono ?_; rintro e w5 ⟨rfl, rfl⟩))
                go_ret2
                exact HRET.out _ _ [] (SplitP.of (seen := []) HND.out HPM.out (List.Perm.refl _) List.Pairwise.nil) hS1.head hS1.below
              · obtain ⟨g, cap, hA, _, _⟩ := World.ownsRow.form (show wr.ownsRow w.heap.size 75 2 (.slice A m c) m _ from hS1.head) (by omega)
                injection hA with hA _ hc
                subst hA
                subst hc
                have HSO := Lib.hid (sortSp_calls w wr [] g m _ (seen.map (cntP vs)) (by omega) hS1)
                clear hS1
                go_wp2_with (first | (go_at_call 91; refine HSO.out.mono ?_; rintro e w5 ⟨rfl, ys, hp, hu, hS5⟩))
                go_ret2
                have hy : ys.length = m := by rw [hp.length_eq, List.length_map, HML.out]
                exact HRET.out _ _ ys (SplitP.of HND.out HPM.out hp (hu.imp (fun h => Int.not_lt.2 h))) (by rw [hy]; exact hS5.head) hS5.below
            · intro s v w2 cnt2 hnew hsl hf hrg2 hlt2 hg2 hs2 hen
              obtain ⟨hsv, rfl⟩ := mapC_some hf
              have hS2 := ((hS.front 1 rfl rfl).rngStep hrg2 hg2)
              have HIT := Lib.hid (itoa_calls (occ s vs : Int) (by omega) (by have := occ_le s vs; omega) w2 (ht.below hS2.below))
              obtain ⟨tx, htx⟩ : ∃ tx : ByteArray, tx = ⟨(Lib.itoa (occ s vs : Int)).toArray⟩ := ⟨_, rfl⟩
              rw [← htx] at HIT
              have HOS : Hid (((seen ++ [s]).map (cntP vs)).flatMap prC = (seen.map (cntP vs)).flatMap prC ++ [.string s, .string tx]) := by
                rw [htx]; exact Lib.hid (out_snoc vs seen s)
              have HM2 : Hid (∀ x ∈ seen ++ [s], x ∈ vs) := Lib.hid (fun x hx => by
                rcases List.mem_append.1 hx with hx | hx
                · exact HM.out x hx
                · simp at hx; subst hx; exact hsv)
              have hl2 : wr.rangeLeft mb r = cnt := hrg.left
              clear hS hrg hrg2 hg2 hs2 htx hf hnew hsv HM
              go_wp2_with (first
                | (go_at_call 90; refine HIT.out.mono ?_; rintro e w3 ⟨rfl, hb3⟩; have hS3 := (hS2.callB hb3).front 1 rfl rfl; have HO : World.ownsRow _ w.heap.size 75 2 (.slice A m c) m _ := hS3.nth 0 rfl; have hz3 := hS3.size)
                | (at_builtin; refine wpList_append_own_at _ rfl _ _ 45 rfl w.heap.size 75 i0 (.agg #[.string ⟨#[]⟩, .string ⟨#[]⟩]) 2 32 Tryz.underlying45 hi hi0 hi1 hi2 rfl (by decide) _ _ _ rfl (HO.alloc _) ⟨w3.heap.size, 0, none⟩ 1 1 [.string s, .string tx] rfl rfl (World.news_of_block (heap_alloc_new _ _)) (one2r rfl rfl) (by unfold maxLen; omega) (by omega) (by simp; omega) ?_; intro v' w8 hown' hgrow _ hblk; have hS8 := (hS3.alloc _).append hown' hgrow hblk; obtain ⟨A8, c8, hv8⟩ := own_form hown'; subst hv8; clear hown' hgrow hblk HO))
              have e1 : m + 1 = (seen ++ [s]).length := by rw [List.length_append, ← HML.out]; rfl
              have hr8 : RngS w8 9 mb r k (mapC vs) (seen ++ [s]) cnt2 := hS8.nth 1 rfl
              go_roundw
              case rel => exact ⟨A8, c8, seen ++ [s], cnt2, by rw [e1], HM2, by rw [HOS.out, ← e1]; exact hS8⟩
              case measure => rw [hr8.left, hl2]; exact hlt2
  · have hE : splE xs f = runsF xs := by unfold splE; rw [if_neg hF]
    rw [hE]
    obtain ⟨F, hFv⟩ : ∃ F, F = runsF xs := ⟨_, rfl⟩
    rw [← hFv] at HCK hF ⊢
    have hFb : (F != 0) = true := by rw [bne_iff_ne]; exact hF
    clear hFv hE hr hz
    go_enter Tryz.func37, Tryz.ntmps37
    go_wp2_with (first | (go_at_call 87; refine HCK.out.mono ?_; rintro e w1 ⟨rfl, hb1⟩))
    go_ret2
    exact ⟨_, rfl, [], (fun h => (hF h).elim), (fun _ => rfl), World.ownsRow_nil _ _ _ _, hb1⟩

end Go.Proofs.YthbcogekfdllmaaGreatDoor
