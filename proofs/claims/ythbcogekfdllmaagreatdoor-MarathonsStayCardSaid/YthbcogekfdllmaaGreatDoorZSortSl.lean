/-
  DERIVED: THE SHELF's CONTRACTS AT THIS DUMP, IN PLAIN WORDS (tools/lay-plain.mjs out of 'TryzShelf.lean', which tools/lay-shelf.mjs wrote): THE SAME DECLARATIONS UNDER THE SAME NAMES: 'import', 'namespace', 'open', 'def', 'theorem' AND NOTHING ELSE: no command of the shelf's: FOR A HAND-IN. Each laying: the table of numbers ('.._ren') and one theorem, a field a fact of the dump's own or the kernel's comparison; each contract: ONE APPLICATION.
-/
import Derived.Shelf.SlGeneric
import Derived.Shelf.SlSortCmp.WholeK
import Derived.Test.YthbcogekfdllmaaGreatDoorProg
import Derived.Test.YthbcogekfdllmaaGreatDoorZBs
import Derived.Shelf.GgSortFunc.InsertionK
import Derived.Test.YthbcogekfdllmaaGreatDoorZSpoil2
import Derived.Deep.DeepCutAuto
import Derived.Test.YthbcogekfdllmaaGreatDoorZOwnSet
import Derived.Shelf.SlSortCmp.NoneTotal
namespace Go.Proofs
open Go.Shelf
def Tryz.sortSl_ren : Go.Shelf.Ren := ⟨fun | 6 => 68 | 15 => 127 | 14 => 126 | 28 => 179 | 29 => 180 | 20 => 171 | 21 => 172 | 22 => 173 | 23 => 174 | 24 => 175 | 25 => 176 | 26 => 177 | 27 => 178 | 46 => 220 | 47 => 221 | 48 => 222 | 49 => 223 | 50 => 224 | 57 => 248 | n => n, fun | 22 => 49 | 24 => 64 | 25 => 146 | 3 => 3 | 39 => 210 | 0 => 0 | 53 => 265 | 55 => 267 | 4 => 4 | 46 => 259 | 45 => 258 | 50 => 195 | 5 => 5 | 9 => 9 | 66 => 295 | 70 => 299 | 76 => 313 | 77 => 314 | n => n, fun | n => n⟩
theorem Tryz.sortSl : Go.Proofs.SlLaysF0.n6 Tryz.prog Tryz.sortSl_ren := {
  mixed := by kernel_rfl
  f6 := ⟨Tryz.f68.name, by decide, Tryz.func68.trans (congrArg some (by kernel_rfl))⟩
  f14 := ⟨Tryz.f126.name, by decide, Tryz.func126.trans (congrArg some (by kernel_rfl))⟩
  f15 := Tryz.func127.trans (congrArg some (by kernel_rfl))
  f20 := ⟨Tryz.f171.name, by decide, Tryz.func171.trans (congrArg some (by kernel_rfl))⟩
  f21 := ⟨Tryz.f172.name, by decide, Tryz.func172.trans (congrArg some (by kernel_rfl))⟩
  f22 := ⟨Tryz.f173.name, by decide, Tryz.func173.trans (congrArg some (by kernel_rfl))⟩
  f23 := ⟨Tryz.f174.name, by decide, Tryz.func174.trans (congrArg some (by kernel_rfl))⟩
  f24 := ⟨Tryz.f175.name, by decide, Tryz.func175.trans (congrArg some (by kernel_rfl))⟩
  f25 := ⟨Tryz.f176.name, by decide, Tryz.func176.trans (congrArg some (by kernel_rfl))⟩
  f26 := ⟨Tryz.f177.name, by decide, Tryz.func177.trans (congrArg some (by kernel_rfl))⟩
  f27 := ⟨Tryz.f178.name, by decide, Tryz.func178.trans (congrArg some (by kernel_rfl))⟩
  f28 := Tryz.func179.trans (congrArg some (by kernel_rfl))
  f29 := Tryz.func180.trans (congrArg some (by kernel_rfl))
  f46 := ⟨Tryz.f220.name, by decide, Tryz.func220.trans (congrArg some (by kernel_rfl))⟩
  f47 := Tryz.func221.trans (congrArg some (by kernel_rfl))
  f48 := Tryz.func222.trans (congrArg some (by kernel_rfl))
  f49 := ⟨Tryz.f223.name, by decide, Tryz.func223.trans (congrArg some (by kernel_rfl))⟩
  f50 := ⟨Tryz.f224.name, by decide, Tryz.func224.trans (congrArg some (by kernel_rfl))⟩
  f57 := ⟨Tryz.f248.name, by decide, Tryz.func248.trans (congrArg some (by kernel_rfl))⟩
  t0 := Tryz.underlying0
  a0 := Tryz.isAgg0
  z0 := Tryz.sizeOf0
  v0 := Tryz.zeroValue0
  t3 := Tryz.underlying3
  a3 := Tryz.isAgg3
  z3 := Tryz.sizeOf3
  v3 := Tryz.zeroValue3
  t4 := Tryz.underlying4
  a4 := Tryz.isAgg4
  z4 := Tryz.sizeOf4
  v4 := Tryz.zeroValue4
  t5 := Tryz.underlying5
  a5 := Tryz.isAgg5
  z5 := Tryz.sizeOf5
  v5 := Tryz.zeroValue5
  t9 := Tryz.underlying9
  a9 := Tryz.isAgg9
  z9 := Tryz.sizeOf9
  v9 := Tryz.zeroValue9
  t22 := Tryz.underlying49
  a22 := Tryz.isAgg49
  z22 := Tryz.sizeOf49
  v22 := Tryz.zeroValue49
  t25 := Tryz.underlying146
  a25 := Tryz.isAgg146
  z25 := Tryz.sizeOf146
  v25 := Tryz.zeroValue146
  t39 := Tryz.underlying210
  a39 := Tryz.isAgg210
  z39 := Tryz.sizeOf210
  v39 := Tryz.zeroValue210
  t45 := Tryz.underlying258
  a45 := Tryz.isAgg258
  z45 := Tryz.sizeOf258
  v45 := Tryz.zeroValue258
  t46 := Tryz.underlying259
  a46 := Tryz.isAgg259
  z46 := Tryz.sizeOf259
  v46 := Tryz.zeroValue259
  t50 := Tryz.underlying195
  a50 := Tryz.isAgg195
  z50 := Tryz.sizeOf195
  v50 := Tryz.zeroValue195
  t53 := Tryz.underlying265
  a53 := Tryz.isAgg265
  z53 := Tryz.sizeOf265
  v53 := Tryz.zeroValue265
  t55 := Tryz.underlying267
  a55 := Tryz.isAgg267
  z55 := Tryz.sizeOf267
  v55 := Tryz.zeroValue267
  t66 := Tryz.underlying295
  a66 := Tryz.isAgg295
  z66 := Tryz.sizeOf295
  v66 := Tryz.zeroValue295
  t70 := Tryz.underlying299
  a70 := Tryz.isAgg299
  z70 := Tryz.sizeOf299
  v70 := Tryz.zeroValue299
  t76 := Tryz.underlying313
  a76 := Tryz.isAgg313
  z76 := Tryz.sizeOf313
  v76 := Tryz.zeroValue313
  t77 := Tryz.underlying314
  a77 := Tryz.isAgg314
  z77 := Tryz.sizeOf314
  v77 := Tryz.zeroValue314 }
end Go.Proofs
/-
  Memory behind slices.SortFunc at structs: the row alone is turned. No Go text is named here.
-/
namespace Go.Proofs.YthbcogekfdllmaaGreatDoor
open Go Go.RowKit Go.Sort

theorem mapBlock_heap (w : World) (blk : Nat) (f : Array Value → Array Value) (k : Nat) (h : k ≠ blk) : (mapBlock w blk f).heap[k]? = w.heap[k]? := by
  unfold mapBlock
  simp only [Array.getElem?_modify]
  rw [if_neg (fun e => h e.symm)]
theorem mapBlock_size (w : World) (blk : Nat) (f : Array Value → Array Value) : (mapBlock w blk f).heap.size = w.heap.size := by
  unfold mapBlock
  simp
theorem mapBlock_at (w : World) (blk : Nat) (f : Array Value → Array Value) {c : Array Value} {e : TypeId} {fr : Nat × Nat} (h : w.heap[blk]? = some (.cells c e fr)) : (mapBlock w blk f).heap[blk]? = some (.cells (f c) e fr) := by
  unfold mapBlock
  simp only [Array.getElem?_modify]
  rw [if_pos trivial, h]
  rfl
theorem sortW_heap {α : Type} [Inhabited α] (enc : α → List Value) (k : Nat) (w : World) (blk m : Nat) (dk : Array α) (os : Array Obj) (i : Nat) (hi : i < w.heap.size) :
    (sortWorldK enc k w blk 0 m dk os).heap[i]? = (mapBlock w blk (putCells id 0 (flatK enc k dk))).heap[i]? := by
  have e : (sortWorldK enc k w blk 0 m dk os).heap = (mapBlock w blk (putCells id 0 (flatK enc k dk))).heap ++ os := rfl
  rw [e, Array.getElem?_append_left (by rw [mapBlock_size]; exact hi)]
theorem sortW_grown {α : Type} [Inhabited α] (enc : α → List Value) (k : Nat) (w : World) (blk m : Nat) (dk : Array α) (os : Array Obj) : w.grownBy (sortWorldK enc k w blk 0 m dk os) (some blk) := by
  refine ⟨rfl, rfl, rfl, ?_, fun i hi hn => ?_⟩
  · have e : (sortWorldK enc k w blk 0 m dk os).heap = (mapBlock w blk (putCells id 0 (flatK enc k dk))).heap ++ os := rfl
    rw [e, Array.size_append, mapBlock_size]
    omega
  · rw [sortW_heap enc k w blk m dk os i hi, mapBlock_heap _ _ _ _ (fun e => hn (by rw [e]))]
theorem sortW_own {α : Type} [Inhabited α] (enc : α → List Value) (k : Nat) (hk : ∀ x, (enc x).length = k) (h0 : 0 < k) {w : World} {base blk n cap : Nat} {e : TypeId} {xs : List Value} (h : w.ownsRow base e k (.slice (some ⟨blk, 0, none⟩) n cap) n xs) (m : Nat) (dk : Array α) (hd : dk.size = n) (os : Array Obj) :
    (sortWorldK enc k w blk 0 m dk os).ownsRow base e k (.slice (some ⟨blk, 0, none⟩) n cap) n (dk.toList.flatMap enc) := by
  have hlt := (h.lt blk rfl).2
  refine ⟨by rw [flat_len enc k hk, Array.length_toList, hd], ?_⟩
  rcases h.2 with ⟨he, _⟩ | ⟨g, cap', cur, he, hb, hg, h1, h2, h3, h4⟩
  · cases he
  · injection he with he1 he2 he3
    injection he1 with he1
    injection he1 with he1
    subst he1 he3
    refine .inr ⟨blk, cap, putCells id 0 (flatK enc k dk) cur, rfl, hb, ?_, h1, h2, ?_, ?_⟩
    · rw [sortW_heap enc k w blk m dk os blk hlt, mapBlock_at w blk _ hg]
    · unfold putCells; rw [Array.size_mapIdx, h3]
    · have hnk : n * k ≤ cap * k := Nat.mul_le_mul_right _ h1
      refine List.ext_getElem? fun j => ?_
      rcases Nat.lt_or_ge j (n * k) with hj | hj
      · rw [List.getElem?_take_of_lt hj, Array.getElem?_toList]
        unfold putCells
        rw [Array.getElem?_mapIdx, Array.getElem?_eq_getElem (by omega)]
        simp only [Option.map_some, size_flatK]
        rw [if_pos ⟨Nat.zero_le _, by rw [hd]; omega⟩, Nat.sub_zero, get_flatK enc k dk j (by rw [hd]; exact hj)]
        have hq : j / k < dk.size := by rw [hd]; exact (Nat.div_lt_iff_lt_mul h0).2 hj
        have hr : j % k < k := Nat.mod_lt _ h0
        have hfl := flat_get enc k hk dk.toList (j / k) (j % k) (by simpa using hq) hr
        rw [Nat.div_add_mod' j k] at hfl
        rw [hfl, getElem!_pos dk _ hq, Array.getElem_toList]
        have hlen : j % k < (enc dk[j / k]).length := by rw [hk]; exact hr
        rw [List.getElem?_eq_getElem hlen, getElem!_pos (enc dk[j / k]) (j % k) hlen]
        rfl
      · rw [List.getElem?_eq_none (by rw [List.length_take, Array.length_toList]; omega), List.getElem?_eq_none (by rw [flat_len enc k hk, Array.length_toList, hd]; exact hj)]
theorem holdsK_own {α : Type} [Inhabited α] (enc : α → List Value) (k : Nat) (hk : ∀ x, (enc x).length = k) (h0 : 0 < k) {w : World} {base blk n cap : Nat} {e : TypeId} (dk : Array α) (h : w.ownsRow base e k (.slice (some ⟨blk, 0, none⟩) n cap) n (dk.toList.flatMap enc)) : HoldsK enc k w blk 0 dk := by
  have hl : dk.size = n := by
    have := h.1
    rw [flat_len enc k hk, Array.length_toList] at this
    exact Nat.eq_of_mul_eq_mul_right h0 this
  intro j hj
  rw [size_flatK] at hj
  have hq : j / k < dk.size := (Nat.div_lt_iff_lt_mul h0).2 hj
  have hr : j % k < k := Nat.mod_lt _ h0
  have hc := own_cell enc k hk h (j / k) (j % k) (by simpa using hq) (by omega) hr
  rw [Nat.div_add_mod' j k, Array.getElem_toList] at hc
  rw [Nat.zero_add, get_flatK enc k dk j hj, getElem!_pos dk _ hq]
  have hlen : j % k < (enc dk[j / k]).length := by rw [hk]; exact hr
  rw [List.getElem?_eq_getElem hlen] at hc
  rw [hc, getElem!_pos (enc dk[j / k]) (j % k) hlen]
  exact ⟨rfl, h.frozenAt _⟩
end Go.Proofs.YthbcogekfdllmaaGreatDoor
/-
  byGift and giftOrder by contracts.
-/
namespace Go.Proofs.YthbcogekfdllmaaGreatDoor
open Go Go.RowKit

theorem strCmp_calls (a b : ByteArray) (w : World) : Calls Tryz.prog 70 #[.string a, .string b] w fun e w' => e = .returned (.int .i64 (cmpS a b)) ∧ w = w' :=
  (Tryz.strings_Compare a b w).mono (fun _ _ h => ⟨h.1, h.2.symm⟩)
set_option maxRecDepth 100000 in
set_option maxHeartbeats 1000000 in
theorem byGift_calls (x y : Gf) (w : World) :
    Calls Tryz.prog 184 #[.agg #[.string x.id, .int .i64 x.at_, .int .i64 x.cents, .string x.bid, .string x.option], .agg #[.string y.id, .int .i64 y.at_, .int .i64 y.cents, .string y.bid, .string y.option]] w (BRet (.int .i64 (ordP x y)) w) := by
  have hS := ((Sq.start w).add #[.string x.id, .int .i64 x.at_, .int .i64 x.cents, .string x.bid, .string x.option] 88).add #[.string y.id, .int .i64 y.at_, .int .i64 y.cents, .string y.bid, .string y.option] 88
  obtain ⟨xi, xa, xc, xb, xo⟩ := x
  obtain ⟨yi, ya, yc, yb, yo⟩ := y
  simp only at hS ⊢
  have HI := Lib.hid (fun W => cmpInt_calls xa ya W)
  have HC := Lib.hid (fun W => strCmp_calls xi yi W)
  have HP : Hid (ordP ⟨xi, xa, xc, xb, xo⟩ ⟨yi, ya, yc, yb, yo⟩ = firstE [cmpI xa ya, cmpS xi yi]) := rfl
  rw [HP.out]
  obtain ⟨I, hI⟩ : ∃ I, cmpI xa ya = I := ⟨_, rfl⟩
  obtain ⟨C, hC⟩ : ∃ C, cmpS xi yi = C := ⟨_, rfl⟩
  rw [hI] at HI ⊢
  rw [hC] at HC ⊢
  have HO := Lib.hid (fun g W h => or2_calls I C g W h)
  rw [World.size_alloc] at hS
  have HCELL : Hid (∀ W, Sq w W [rBlk (w.heap.size + 1) 88 #[.string yi, .int .i64 ya, .int .i64 yc, .string yb, .string yo], rBlk w.heap.size 88 #[.string xi, .int .i64 xa, .int .i64 xc, .string xb, .string xo]] → W.cell? ⟨w.heap.size, 0, none⟩ = some (.string xi) ∧ W.cell? ⟨w.heap.size, 1, none⟩ = some (.int .i64 xa) ∧ W.cell? ⟨w.heap.size + 1, 0, none⟩ = some (.string yi) ∧ W.cell? ⟨w.heap.size + 1, 1, none⟩ = some (.int .i64 ya)) := fun W h => by
    have h1 : Blk W (w.heap.size + 1) 88 #[.string yi, .int .i64 ya, .int .i64 yc, .string yb, .string yo] := h.nth 0 rfl
    have h2 : Blk W w.heap.size 88 #[.string xi, .int .i64 xa, .int .i64 xc, .string xb, .string xo] := h.nth 1 rfl
    exact ⟨h2.cell 0, h2.cell 1, h1.cell 0, h1.cell 1⟩
  have hd := hS.drew
  clear hI hC HP
  go_enter Tryz.func184, Tryz.ntmps184
  go_upto_region 1 with (fail)
  obtain ⟨W0, hW0⟩ : ∃ W0, W0 = (w.alloc (.cells #[.string xi, .int .i64 xa, .int .i64 xc, .string xb, .string xo] 88)).alloc (.cells #[.string yi, .int .i64 ya, .int .i64 yc, .string yb, .string yo] 88) := ⟨_, rfl⟩
  rw [← hW0] at hd hS ⊢
  obtain ⟨k0, k1, k2, k3⟩ := HCELL.out W0 hS
  clear hW0
  have HBO : Hid (Blk (W0.alloc (.cells #[.int .i64 I, .int .i64 C] 3)).drew W0.heap.size 3 #[.int .i64 I, .int .i64 C]) := Blk.new W0 _ _
  have hda := (hS.alloc (.cells #[.int .i64 I, .int .i64 C] 3)).drew
  go_region_held3 (fun W => W.cell? ⟨w.heap.size, 0, none⟩ = some (.string xi) ∧ W.cell? ⟨w.heap.size, 1, none⟩ = some (.int .i64 xa) ∧ W.cell? ⟨w.heap.size + 1, 0, none⟩ = some (.string yi) ∧ W.cell? ⟨w.heap.size + 1, 1, none⟩ = some (.int .i64 ya))
    (first | exact HCELL.out _ hd | exact HCELL.out _ (hS.alloc _) | exact HCELL.out _ hda | exact HCELL.out _ (hda.drewN _) | go_keep)
    (first
      | (go_at_call 55; ((with_reducible refine (HI.out _).mono ?_); rintro e w4 ⟨rfl, rfl⟩))
      | (go_at_call 70; ((with_reducible refine (HC.out _).mono ?_); rintro e w5 ⟨rfl, rfl⟩))
      | (go_at_call 225; ((with_reducible refine (HO.out _ _ HBO.out).mono ?_); rintro e w6 ⟨rfl, nq, rfl⟩)))
  go_wp2_with fail
  go_ret
  exact ⟨rfl, ((hS.alloc _).drewN _).below⟩
end Go.Proofs.YthbcogekfdllmaaGreatDoor
/-
  slices.SortFunc of slots by their keys.
-/
namespace Go.Proofs.YthbcogekfdllmaaGreatDoor
open Go Go.RowKit Go.Sort

instance : Inhabited Slt := ⟨⟨⟨#[]⟩, ⟨#[]⟩, none, 0, [], 0, 0⟩⟩
def ordSl (x y : Slt) : Int := cmpS x.key y.key
theorem grewS (w : World) (o o2 : Obj) (n : Nat) : ∃ q os', ((w.alloc o).alloc o2).drewN n = grow (w.drewN q) os' := ⟨n, #[o, o2], by rw [alloc_eq_grow, alloc_eq_grow, grow_grow]; rfl⟩
theorem swo_sl : SWO (ltOf ordSl) where
  irrefl x := by simp [ltOf, ordSl, cmpS_self]
  trans x y z h1 h2 := by
    have h1 : cmpS x.key y.key < 0 := of_decide_eq_true h1
    have h2 : cmpS y.key z.key < 0 := of_decide_eq_true h2
    exact decide_eq_true (cmpS_trans h1 h2)
  ntrans x y z h1 h2 := by
    have h1 : ¬ cmpS x.key y.key < 0 := of_decide_eq_false h1
    have h2 : ¬ cmpS y.key z.key < 0 := of_decide_eq_false h2
    have h3 : ¬ cmpS x.key z.key < 0 := by
      intro h0
      by_cases he : cmpS x.key y.key = 0
      · rw [cmpS_zero he] at h0
        exact h2 h0
      · have h4 := (cmpS_flip y.key x.key).2 (by omega)
        exact h2 (cmpS_trans h4 h0)
    exact decide_eq_false h3
/-- keys do not fall -/
def KeyUpW (l : List Slt) : Prop := l.Pairwise (fun x y => ¬ cmpS y.key x.key < 0)
theorem KeyUpW.up {l : List Slt} (h : KeyUpW l) (hk : KeyOne l) : KeyUp l := by
  unfold KeyOne keysL List.Nodup at hk
  rw [List.pairwise_map] at hk
  unfold KeyUpW at h
  unfold KeyUp
  refine List.Pairwise.imp₂ (fun x y h1 h2 => ?_) h hk
  by_cases h0 : cmpS x.key y.key = 0
  · exact absurd (cmpS_zero h0) h2
  · have := (cmpS_flip y.key x.key)
    omega
set_option maxRecDepth 100000 in
theorem order1_calls (x y : Slt) (w : World) :
    Calls Tryz.prog 69 #[.agg (sltL x), .agg (sltL y)] w fun e w' => e = .returned (.int .i64 (ordSl x y)) ∧ ∃ q os', w' = grow (w.drewN q) os' := by
  have HG := Lib.hid (grewS w (.cells (sltL x) 64) (.cells (sltL y) 64) 0)
  have HC := Lib.hid (fun W => strCmp_calls x.key y.key W)
  obtain ⟨C, hC⟩ : ∃ C, ordSl x y = C := ⟨_, rfl⟩
  have hC' : cmpS x.key y.key = C := hC
  rw [hC'] at HC
  rw [hC]
  clear hC hC'
  go_enter Tryz.func69, Tryz.ntmps69
  go_wp2_with fail
  refine (HC.out _).mono ?_
  rintro e w1 ⟨rfl, rfl⟩
  go_wp2_with fail
  go_ret
  exact ⟨rfl, HG.out⟩
set_option maxRecDepth 100000 in
theorem sortSl_calls (w0 w : World) (l : List Rsc) (g n c : Nat) (xs : List Slt) (hn : n ≤ 100000) (hS : Sq w0 w (rSl w0.heap.size (some ⟨g, 0, none⟩) n c xs :: l)) :
    Calls Tryz.prog 68 #[.slice (some ⟨g, 0, none⟩) n c, .func (.func 69) #[] #[]] w fun e w' =>
      e = .returned (.tuple #[]) ∧ ∃ ys : List Slt, ys.Perm xs ∧ KeyUpW ys ∧ Sq w0 w' (rSl w0.heap.size (some ⟨g, 0, none⟩) n c ys :: l) := by
  have hown : w.ownsRow w0.heap.size 64 5 (.slice (some ⟨g, 0, none⟩) n c) n (xs.flatMap sltC) := hS.head
  have hlen : xs.toArray.size = n := by
    have := hown.1
    rw [flat_len sltC 5 sltC_len] at this
    simp
    omega
  have hH : HoldsK sltC 5 w g 0 xs.toArray := holdsK_own sltC 5 sltC_len (by decide) xs.toArray (by simpa using hown)
  have h := AnyQ.slices_SortFunc Tryz.sortSl 5 Tryz.isAgg64 Tryz.sizeOf64 sltC sltC_len (fun x v hv => sltC_one [x] v (by simpa using hv)) ordSl swo_sl 69 #[] g 0 c xs.toArray w (enters_of Tryz.func69 (by kernel_rfl) rfl)
    (fun m os dk _ x y => order1_calls x y _) hH (hown.lt g rfl).2 (by rw [hlen]; omega)
  rw [hlen] at h
  refine Calls.mono h ?_
  rintro e w' ⟨rfl, d', m, os, hp, hs, rfl⟩
  have hp2 : d'.toList.Perm xs := by
    obtain ⟨h1, _, h3⟩ := hp
    have e1 : d'.extract 0 n = d' := by
      have : d'.size = n := by rw [h1, hlen]
      rw [← this]; exact Array.extract_size
    have e2 : xs.toArray.extract 0 n = xs.toArray := by rw [← hlen]; exact Array.extract_size
    rw [e1, e2] at h3
    simpa using h3
  have hd : d'.size = n := by rw [hp.1, hlen]
  refine ⟨rfl, d'.toList, hp2, ?_, ?_⟩
  · unfold KeyUpW
    rw [List.pairwise_iff_getElem]
    intro i j hi hj hij
    have hi' : i < d'.size := by simpa using hi
    have hj' : j < d'.size := by simpa using hj
    have := hs i j (Nat.zero_le _) hij (by omega)
    rw [getElem!_pos d' j hj', getElem!_pos d' i hi'] at this
    have h2 : ¬ cmpS d'[j].key d'[i].key < 0 := of_decide_eq_false this
    simpa using h2
  · refine hS.turn (sortW_grown sltC 5 w g m d' os) (fun k hk => by injection hk with hk; subst hk; rfl) ?_ (rOwn_ok _ _ _ _ _ _) (fun k hk => ?_)
    · exact sortW_own sltC 5 sltC_len (by decide) hown m d' hd os
    · have hk : some g = some k := hk
      injection hk with hk
      subst hk
      refine ⟨.inl rfl, ?_⟩
      have := (sortW_grown sltC 5 w g m d' os).size
      have := (hown.lt g rfl).2
      omega
theorem sortSl_nil (f : Nat) (w : World) (A : Option Addr) (c : Nat) :
    Calls Tryz.prog 68 #[.slice A 0 c, .func (.func f) #[] #[]] w fun e w' => e = .returned (.tuple #[]) ∧ w' = w :=
  AnyF.slices_SortFunc_none Tryz.sortSl A c _ w
end Go.Proofs.YthbcogekfdllmaaGreatDoor
