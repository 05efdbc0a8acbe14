/-
  slices.SortFunc at elements of one cell, whatever they are. No Go text is named here.
-/
import Derived.Test.YtapgnaimbgjcnaaGreatDoorZSortMem
import Derived.Shelf.SlSortCmp.Whole1
import Derived.Shelf.SlGeneric
import Derived.Test.YtapgnaimbgjcnaaGreatDoorProg
import Derived.Shelf.SlSortCmp.WholeK
namespace Go.Proofs.YtapgnaimbgjcnaaGreatDoor
open Go Go.RowKit Go.Sort
theorem flat1 {α : Type} [Inhabited α] (enc : α → Value) (d : Array α) (j : Nat) (h : j < d.size) : (flatK (fun x => [enc x]) 1 d)[j]! = enc d[j]! := by
 rw [get_flatK _ _ _ _ (by omega), Nat.div_one, Nat.mod_one]
 rfl
theorem sortW1 {α : Type} [Inhabited α] (enc : α → Value) (w : World) (blk off m : Nat) (dk : Array α) (os : Array Obj) : sortWorld enc w blk off m dk os = sortWorldK (fun x => [enc x]) 1 w blk off m dk os := by
 unfold sortWorld sortWorldK putRowK putRow
 have e : putCells enc off dk = putCells id off (flatK (fun x => [enc x]) 1 dk) := by
  funext c
  unfold putCells
  congr 1
  funext k x
  rw [size_flatK, Nat.mul_one]
  by_cases h : off ≤ k ∧ k < off + dk.size
  · rw [if_pos h, if_pos h, flat1 enc dk _ (by omega)]
    rfl
  · rw [if_neg h, if_neg h]
 rw [e]
section
variable {α : Type} {P : α → Prop} [Inhabited {x : α // P x}] {enc : α → Value}
theorem srt1_calls {ρ : Shelf.Ren} (L : SlLaysF.n6 Tryz.prog ρ) (h1 : ∀ x, (enc x).oneCell' = true)
 (cf : α → α → Int) (hO : Ord3 cf) (f : Nat) (cb : Array Value) (eg : ∀ args w, (callFunc f args).run Tryz.prog w = .ok (.enter f args) w) {e : TypeId} (w0 w : World) (g n c : Nat) (xs : List α) (l : List Rsc) (hxs : ∀ x ∈ xs, P x) (hn : n ≤ 100000)
 (hc : ∀ (x y : α) (W : World), P x → P y → ButG g w W → Calls Tryz.prog f (#[enc x, enc y] ++ cb) W (GrwT (.int .i64 (cf x y)) W))
 (hS : Sq w0 w (rOwn w0.heap.size e 1 (.slice (some ⟨g, 0, none⟩) n c) n (xs.flatMap (fun x => [enc x])) :: l)) :
 Calls Tryz.prog (ρ.f 6) #[.slice (some ⟨g, 0, none⟩) n c, .func (.func f) #[] cb] w (SrtT w0 e 1 (fun x => [enc x]) g n c xs cf l) := by
 obtain ⟨ds, rfl⟩ := sub_list xs hxs
 have hown : w.ownsRow w0.heap.size e 1 (.slice (some ⟨g, 0, none⟩) n c) n (ds.flatMap (fun x => [enc x.1])) := by
  have := hS.head
  rw [← sub_flat (fun x => [enc x])] at this
  exact this
 have hlen : ds.toArray.size = n := by
  have := hown.1
  rw [flat_len (fun x : {x : α // P x} => [enc x.1]) 1 (fun _ => rfl)] at this
  have h2 : ds.length = n := by omega
  simpa using h2
 have hl2 : ds.length = n := by simpa using hlen
 have hK : HoldsK (fun x : {x : α // P x} => [enc x.1]) 1 w g 0 ds.toArray := holdsK_own _ 1 (fun _ => rfl) Nat.one_pos ds.toArray (by simpa using hown)
 have hH : Holds (fun x : {x : α // P x} => enc x.1) w g 0 ds.toArray := fun j hj => by
  have h := hK j (by rw [size_flatK]; omega)
  rw [flat1 (fun x : {x : α // P x} => enc x.1) ds.toArray j hj] at h
  exact h
 have hO2 : SWO (ltOf fun x y : {x : α // P x} => cf x.1 y.1) := Ord3.swo ⟨fun x y => hO.neg x.1 y.1, fun x y z => hO.trans x.1 y.1 z.1⟩
 have h := Any.slices_SortFunc L (fun x : {x : α // P x} => enc x.1) (fun x => h1 x.1) (fun x y => cf x.1 y.1) hO2 f cb g 0 c ds.toArray w eg
  (fun m os dk _ x y => by
   rw [sortW1]
   exact hc x.1 y.1 _ x.2 y.2 (sortW_but (fun x : {x : α // P x} => [enc x.1]) 1 w g m dk os)) hH (hown.lt g rfl).2 (by rw [hlen]; omega)
 rw [hlen] at h
 refine Calls.mono h ?_
 rintro en w' ⟨rfl, d', m, os, hp, hs, rfl⟩
 rw [sortW1]
 exact srt_out (enc := fun x => [enc x]) (k := 1) (fun _ => rfl) Nat.one_pos hl2 hp hs hS
end
end Go.Proofs.YtapgnaimbgjcnaaGreatDoor
/-
  DERIVED: THE SHELF's CONTRACTS AT THIS DUMP, IN PLAIN WORDS (tools/lay-plain.mjs out of 'TryzShelf.lean', which tools/lay-shelf.mjs wrote): THE SAME DECLARATIONS UNDER THE SAME NAMES: 'import', 'namespace', 'open', 'def', 'theorem' AND NOTHING ELSE: no command of the shelf's: FOR A HAND-IN. Each laying: the table of numbers ('.._ren') and one theorem, a field a fact of the dump's own or the kernel's comparison; each contract: ONE APPLICATION.
-/
namespace Go.Proofs
open Go.Shelf
def Tryz.sortRun_ren : Go.Shelf.Ren := ⟨fun | 6 => 113 | 15 => 129 | 14 => 159 | 28 => 175 | 29 => 176 | 20 => 206 | 21 => 207 | 22 => 208 | 23 => 209 | 24 => 210 | 25 => 211 | 26 => 212 | 27 => 213 | 46 => 253 | 47 => 231 | 48 => 232 | 49 => 254 | 50 => 255 | 57 => 280 | n => n, fun | 22 => 163 | 24 => 166 | 25 => 169 | 3 => 3 | 39 => 179 | 0 => 0 | 53 => 216 | 55 => 218 | 4 => 4 | 46 => 210 | 45 => 209 | 50 => 46 | 5 => 5 | 9 => 9 | 66 => 265 | 70 => 269 | 76 => 300 | 77 => 301 | n => n, fun | n => n⟩
theorem Tryz.sortRun : Go.Proofs.SlLaysF.n6 Tryz.prog Tryz.sortRun_ren := {
 mixed := by kernel_rfl
 f6 := ⟨Tryz.f113.name, by decide, Tryz.func113.trans (congrArg some (by kernel_rfl))⟩
 f14 := ⟨Tryz.f159.name, by decide, Tryz.func159.trans (congrArg some (by kernel_rfl))⟩
 f15 := Tryz.func129.trans (congrArg some (by kernel_rfl))
 f20 := ⟨Tryz.f206.name, by decide, Tryz.func206.trans (congrArg some (by kernel_rfl))⟩
 f21 := ⟨Tryz.f207.name, by decide, Tryz.func207.trans (congrArg some (by kernel_rfl))⟩
 f22 := ⟨Tryz.f208.name, by decide, Tryz.func208.trans (congrArg some (by kernel_rfl))⟩
 f23 := ⟨Tryz.f209.name, by decide, Tryz.func209.trans (congrArg some (by kernel_rfl))⟩
 f24 := ⟨Tryz.f210.name, by decide, Tryz.func210.trans (congrArg some (by kernel_rfl))⟩
 f25 := ⟨Tryz.f211.name, by decide, Tryz.func211.trans (congrArg some (by kernel_rfl))⟩
 f26 := ⟨Tryz.f212.name, by decide, Tryz.func212.trans (congrArg some (by kernel_rfl))⟩
 f27 := ⟨Tryz.f213.name, by decide, Tryz.func213.trans (congrArg some (by kernel_rfl))⟩
 f28 := Tryz.func175.trans (congrArg some (by kernel_rfl))
 f29 := Tryz.func176.trans (congrArg some (by kernel_rfl))
 f46 := ⟨Tryz.f253.name, by decide, Tryz.func253.trans (congrArg some (by kernel_rfl))⟩
 f47 := Tryz.func231.trans (congrArg some (by kernel_rfl))
 f48 := Tryz.func232.trans (congrArg some (by kernel_rfl))
 f49 := ⟨Tryz.f254.name, by decide, Tryz.func254.trans (congrArg some (by kernel_rfl))⟩
 f50 := ⟨Tryz.f255.name, by decide, Tryz.func255.trans (congrArg some (by kernel_rfl))⟩
 f57 := ⟨Tryz.f280.name, by decide, Tryz.func280.trans (congrArg some (by kernel_rfl))⟩
 t0 := Tryz.underlying0
 a0 := Tryz.isAgg0
 z0 := Tryz.sizeOf0
 v0 := Tryz.zeroValue0
 t3 := Tryz.underlying3
 a3 := Tryz.isAgg3
 z3 := Tryz.sizeOf3
 v3 := Tryz.zeroValue3
 t4 := Tryz.underlying4
 a4 := Tryz.isAgg4
 z4 := Tryz.sizeOf4
 v4 := Tryz.zeroValue4
 t5 := Tryz.underlying5
 a5 := Tryz.isAgg5
 z5 := Tryz.sizeOf5
 v5 := Tryz.zeroValue5
 t9 := Tryz.underlying9
 a9 := Tryz.isAgg9
 z9 := Tryz.sizeOf9
 v9 := Tryz.zeroValue9
 t22 := Tryz.underlying163
 a22 := Tryz.isAgg163
 z22 := Tryz.sizeOf163
 v22 := Tryz.zeroValue163
 a24 := Tryz.isAgg166
 z24 := Tryz.sizeOf166
 t25 := Tryz.underlying169
 a25 := Tryz.isAgg169
 z25 := Tryz.sizeOf169
 v25 := Tryz.zeroValue169
 t39 := Tryz.underlying179
 a39 := Tryz.isAgg179
 z39 := Tryz.sizeOf179
 v39 := Tryz.zeroValue179
 t45 := Tryz.underlying209
 a45 := Tryz.isAgg209
 z45 := Tryz.sizeOf209
 v45 := Tryz.zeroValue209
 t46 := Tryz.underlying210
 a46 := Tryz.isAgg210
 z46 := Tryz.sizeOf210
 v46 := Tryz.zeroValue210
 t50 := Tryz.underlying46
 a50 := Tryz.isAgg46
 z50 := Tryz.sizeOf46
 v50 := Tryz.zeroValue46
 t53 := Tryz.underlying216
 a53 := Tryz.isAgg216
 z53 := Tryz.sizeOf216
 v53 := Tryz.zeroValue216
 t55 := Tryz.underlying218
 a55 := Tryz.isAgg218
 z55 := Tryz.sizeOf218
 v55 := Tryz.zeroValue218
 t66 := Tryz.underlying265
 a66 := Tryz.isAgg265
 z66 := Tryz.sizeOf265
 v66 := Tryz.zeroValue265
 t70 := Tryz.underlying269
 a70 := Tryz.isAgg269
 z70 := Tryz.sizeOf269
 v70 := Tryz.zeroValue269
 t76 := Tryz.underlying300
 a76 := Tryz.isAgg300
 z76 := Tryz.sizeOf300
 v76 := Tryz.zeroValue300
 t77 := Tryz.underlying301
 a77 := Tryz.isAgg301
 z77 := Tryz.sizeOf301
 v77 := Tryz.zeroValue301 }
end Go.Proofs
/-
  DERIVED: THE SHELF's CONTRACTS AT THIS DUMP, IN PLAIN WORDS (tools/lay-plain.mjs out of 'TryzShelf.lean', which tools/lay-shelf.mjs wrote): THE SAME DECLARATIONS UNDER THE SAME NAMES: 'import', 'namespace', 'open', 'def', 'theorem' AND NOTHING ELSE: no command of the shelf's: FOR A HAND-IN. Each laying: the table of numbers ('.._ren') and one theorem, a field a fact of the dump's own or the kernel's comparison; each contract: ONE APPLICATION.
-/
namespace Go.Proofs
open Go.Shelf
def Tryz.sortRun0_ren : Go.Shelf.Ren := ⟨fun | 6 => 113 | 15 => 129 | 14 => 159 | 28 => 175 | 29 => 176 | 20 => 206 | 21 => 207 | 22 => 208 | 23 => 209 | 24 => 210 | 25 => 211 | 26 => 212 | 27 => 213 | 46 => 253 | 47 => 231 | 48 => 232 | 49 => 254 | 50 => 255 | 57 => 280 | n => n, fun | 22 => 163 | 24 => 166 | 25 => 169 | 3 => 3 | 39 => 179 | 0 => 0 | 53 => 216 | 55 => 218 | 4 => 4 | 46 => 210 | 45 => 209 | 50 => 46 | 5 => 5 | 9 => 9 | 66 => 265 | 70 => 269 | 76 => 300 | 77 => 301 | n => n, fun | n => n⟩
theorem Tryz.sortRun0 : Go.Proofs.SlLaysF0.n6 Tryz.prog Tryz.sortRun0_ren := {
 mixed := by kernel_rfl
 f6 := ⟨Tryz.f113.name, by decide, Tryz.func113.trans (congrArg some (by kernel_rfl))⟩
 f14 := ⟨Tryz.f159.name, by decide, Tryz.func159.trans (congrArg some (by kernel_rfl))⟩
 f15 := Tryz.func129.trans (congrArg some (by kernel_rfl))
 f20 := ⟨Tryz.f206.name, by decide, Tryz.func206.trans (congrArg some (by kernel_rfl))⟩
 f21 := ⟨Tryz.f207.name, by decide, Tryz.func207.trans (congrArg some (by kernel_rfl))⟩
 f22 := ⟨Tryz.f208.name, by decide, Tryz.func208.trans (congrArg some (by kernel_rfl))⟩
 f23 := ⟨Tryz.f209.name, by decide, Tryz.func209.trans (congrArg some (by kernel_rfl))⟩
 f24 := ⟨Tryz.f210.name, by decide, Tryz.func210.trans (congrArg some (by kernel_rfl))⟩
 f25 := ⟨Tryz.f211.name, by decide, Tryz.func211.trans (congrArg some (by kernel_rfl))⟩
 f26 := ⟨Tryz.f212.name, by decide, Tryz.func212.trans (congrArg some (by kernel_rfl))⟩
 f27 := ⟨Tryz.f213.name, by decide, Tryz.func213.trans (congrArg some (by kernel_rfl))⟩
 f28 := Tryz.func175.trans (congrArg some (by kernel_rfl))
 f29 := Tryz.func176.trans (congrArg some (by kernel_rfl))
 f46 := ⟨Tryz.f253.name, by decide, Tryz.func253.trans (congrArg some (by kernel_rfl))⟩
 f47 := Tryz.func231.trans (congrArg some (by kernel_rfl))
 f48 := Tryz.func232.trans (congrArg some (by kernel_rfl))
 f49 := ⟨Tryz.f254.name, by decide, Tryz.func254.trans (congrArg some (by kernel_rfl))⟩
 f50 := ⟨Tryz.f255.name, by decide, Tryz.func255.trans (congrArg some (by kernel_rfl))⟩
 f57 := ⟨Tryz.f280.name, by decide, Tryz.func280.trans (congrArg some (by kernel_rfl))⟩
 t0 := Tryz.underlying0
 a0 := Tryz.isAgg0
 z0 := Tryz.sizeOf0
 v0 := Tryz.zeroValue0
 t3 := Tryz.underlying3
 a3 := Tryz.isAgg3
 z3 := Tryz.sizeOf3
 v3 := Tryz.zeroValue3
 t4 := Tryz.underlying4
 a4 := Tryz.isAgg4
 z4 := Tryz.sizeOf4
 v4 := Tryz.zeroValue4
 t5 := Tryz.underlying5
 a5 := Tryz.isAgg5
 z5 := Tryz.sizeOf5
 v5 := Tryz.zeroValue5
 t9 := Tryz.underlying9
 a9 := Tryz.isAgg9
 z9 := Tryz.sizeOf9
 v9 := Tryz.zeroValue9
 t22 := Tryz.underlying163
 a22 := Tryz.isAgg163
 z22 := Tryz.sizeOf163
 v22 := Tryz.zeroValue163
 t25 := Tryz.underlying169
 a25 := Tryz.isAgg169
 z25 := Tryz.sizeOf169
 v25 := Tryz.zeroValue169
 t39 := Tryz.underlying179
 a39 := Tryz.isAgg179
 z39 := Tryz.sizeOf179
 v39 := Tryz.zeroValue179
 t45 := Tryz.underlying209
 a45 := Tryz.isAgg209
 z45 := Tryz.sizeOf209
 v45 := Tryz.zeroValue209
 t46 := Tryz.underlying210
 a46 := Tryz.isAgg210
 z46 := Tryz.sizeOf210
 v46 := Tryz.zeroValue210
 t50 := Tryz.underlying46
 a50 := Tryz.isAgg46
 z50 := Tryz.sizeOf46
 v50 := Tryz.zeroValue46
 t53 := Tryz.underlying216
 a53 := Tryz.isAgg216
 z53 := Tryz.sizeOf216
 v53 := Tryz.zeroValue216
 t55 := Tryz.underlying218
 a55 := Tryz.isAgg218
 z55 := Tryz.sizeOf218
 v55 := Tryz.zeroValue218
 t66 := Tryz.underlying265
 a66 := Tryz.isAgg265
 z66 := Tryz.sizeOf265
 v66 := Tryz.zeroValue265
 t70 := Tryz.underlying269
 a70 := Tryz.isAgg269
 z70 := Tryz.sizeOf269
 v70 := Tryz.zeroValue269
 t76 := Tryz.underlying300
 a76 := Tryz.isAgg300
 z76 := Tryz.sizeOf300
 v76 := Tryz.zeroValue300
 t77 := Tryz.underlying301
 a77 := Tryz.isAgg301
 z77 := Tryz.sizeOf301
 v77 := Tryz.zeroValue301 }
end Go.Proofs
