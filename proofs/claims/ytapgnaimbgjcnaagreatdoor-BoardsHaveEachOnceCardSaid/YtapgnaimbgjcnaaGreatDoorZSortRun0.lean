/-
  DERIVED: THE SHELF's CONTRACTS AT THIS DUMP, IN PLAIN WORDS (tools/lay-plain.mjs out of 'TryzShelf.lean', which tools/lay-shelf.mjs wrote): THE SAME DECLARATIONS UNDER THE SAME NAMES: 'import', 'namespace', 'open', 'def', 'theorem' AND NOTHING ELSE: no command of the shelf's: FOR A HAND-IN. Each laying: the table of numbers ('.._ren') and one theorem, a field a fact of the dump's own or the kernel's comparison; each contract: ONE APPLICATION.
-/
import Derived.Shelf.SlGeneric
import Derived.Shelf.SlSortCmp.WholeK
import Derived.Test.YtapgnaimbgjcnaaGreatDoorProg
import Derived.Test.YtapgnaimbgjcnaaGreatDoorZSlot3
import Derived.WideKeyEntry
import Derived.StringKeys
import Derived.Test.YtapgnaimbgjcnaaGreatDoorZSlotPure
import Derived.Test.YtapgnaimbgjcnaaGreatDoorZScmp
import Derived.Test.YtapgnaimbgjcnaaGreatDoorZSortMem
import Derived.Shelf.SlSortCmp.NoneTotal
namespace Go.Proofs
open Go.Shelf
def Tryz.sortRun0_ren : Go.Shelf.Ren := ⟨fun | 6 => 113 | 15 => 129 | 14 => 159 | 28 => 175 | 29 => 176 | 20 => 206 | 21 => 207 | 22 => 208 | 23 => 209 | 24 => 210 | 25 => 211 | 26 => 212 | 27 => 213 | 46 => 253 | 47 => 231 | 48 => 232 | 49 => 254 | 50 => 255 | 57 => 280 | n => n, fun | 22 => 163 | 24 => 166 | 25 => 169 | 3 => 3 | 39 => 179 | 0 => 0 | 53 => 216 | 55 => 218 | 4 => 4 | 46 => 210 | 45 => 209 | 50 => 46 | 5 => 5 | 9 => 9 | 66 => 265 | 70 => 269 | 76 => 300 | 77 => 301 | n => n, fun | n => n⟩
theorem Tryz.sortRun0 : Go.Proofs.SlLaysF0.n6 Tryz.prog Tryz.sortRun0_ren := {
 mixed := by kernel_rfl
 f6 := ⟨Tryz.f113.name, by decide, Tryz.func113.trans (congrArg some (by kernel_rfl))⟩
 f14 := ⟨Tryz.f159.name, by decide, Tryz.func159.trans (congrArg some (by kernel_rfl))⟩
 f15 := Tryz.func129.trans (congrArg some (by kernel_rfl))
 f20 := ⟨Tryz.f206.name, by decide, Tryz.func206.trans (congrArg some (by kernel_rfl))⟩
 f21 := ⟨Tryz.f207.name, by decide, Tryz.func207.trans (congrArg some (by kernel_rfl))⟩
 f22 := ⟨Tryz.f208.name, by decide, Tryz.func208.trans (congrArg some (by kernel_rfl))⟩
 f23 := ⟨Tryz.f209.name, by decide, Tryz.func209.trans (congrArg some (by kernel_rfl))⟩
 f24 := ⟨Tryz.f210.name, by decide, Tryz.func210.trans (congrArg some (by kernel_rfl))⟩
 f25 := ⟨Tryz.f211.name, by decide, Tryz.func211.trans (congrArg some (by kernel_rfl))⟩
 f26 := ⟨Tryz.f212.name, by decide, Tryz.func212.trans (congrArg some (by kernel_rfl))⟩
 f27 := ⟨Tryz.f213.name, by decide, Tryz.func213.trans (congrArg some (by kernel_rfl))⟩
 f28 := Tryz.func175.trans (congrArg some (by kernel_rfl))
 f29 := Tryz.func176.trans (congrArg some (by kernel_rfl))
 f46 := ⟨Tryz.f253.name, by decide, Tryz.func253.trans (congrArg some (by kernel_rfl))⟩
 f47 := Tryz.func231.trans (congrArg some (by kernel_rfl))
 f48 := Tryz.func232.trans (congrArg some (by kernel_rfl))
 f49 := ⟨Tryz.f254.name, by decide, Tryz.func254.trans (congrArg some (by kernel_rfl))⟩
 f50 := ⟨Tryz.f255.name, by decide, Tryz.func255.trans (congrArg some (by kernel_rfl))⟩
 f57 := ⟨Tryz.f280.name, by decide, Tryz.func280.trans (congrArg some (by kernel_rfl))⟩
 t0 := Tryz.underlying0
 a0 := Tryz.isAgg0
 z0 := Tryz.sizeOf0
 v0 := Tryz.zeroValue0
 t3 := Tryz.underlying3
 a3 := Tryz.isAgg3
 z3 := Tryz.sizeOf3
 v3 := Tryz.zeroValue3
 t4 := Tryz.underlying4
 a4 := Tryz.isAgg4
 z4 := Tryz.sizeOf4
 v4 := Tryz.zeroValue4
 t5 := Tryz.underlying5
 a5 := Tryz.isAgg5
 z5 := Tryz.sizeOf5
 v5 := Tryz.zeroValue5
 t9 := Tryz.underlying9
 a9 := Tryz.isAgg9
 z9 := Tryz.sizeOf9
 v9 := Tryz.zeroValue9
 t22 := Tryz.underlying163
 a22 := Tryz.isAgg163
 z22 := Tryz.sizeOf163
 v22 := Tryz.zeroValue163
 t25 := Tryz.underlying169
 a25 := Tryz.isAgg169
 z25 := Tryz.sizeOf169
 v25 := Tryz.zeroValue169
 t39 := Tryz.underlying179
 a39 := Tryz.isAgg179
 z39 := Tryz.sizeOf179
 v39 := Tryz.zeroValue179
 t45 := Tryz.underlying209
 a45 := Tryz.isAgg209
 z45 := Tryz.sizeOf209
 v45 := Tryz.zeroValue209
 t46 := Tryz.underlying210
 a46 := Tryz.isAgg210
 z46 := Tryz.sizeOf210
 v46 := Tryz.zeroValue210
 t50 := Tryz.underlying46
 a50 := Tryz.isAgg46
 z50 := Tryz.sizeOf46
 v50 := Tryz.zeroValue46
 t53 := Tryz.underlying216
 a53 := Tryz.isAgg216
 z53 := Tryz.sizeOf216
 v53 := Tryz.zeroValue216
 t55 := Tryz.underlying218
 a55 := Tryz.isAgg218
 z55 := Tryz.sizeOf218
 v55 := Tryz.zeroValue218
 t66 := Tryz.underlying265
 a66 := Tryz.isAgg265
 z66 := Tryz.sizeOf265
 v66 := Tryz.zeroValue265
 t70 := Tryz.underlying269
 a70 := Tryz.isAgg269
 z70 := Tryz.sizeOf269
 v70 := Tryz.zeroValue269
 t76 := Tryz.underlying300
 a76 := Tryz.isAgg300
 z76 := Tryz.sizeOf300
 v76 := Tryz.zeroValue300
 t77 := Tryz.underlying301
 a77 := Tryz.isAgg301
 z77 := Tryz.sizeOf301
 v77 := Tryz.zeroValue301 }
end Go.Proofs
/-
  A map with strings for keys, its keys named (KeysM); how many they are; a key struck. No Go text is named here.
-/
namespace Go.Proofs.YtapgnaimbgjcnaaGreatDoor
open Go Go.RowKit
open Go.Maps (Keyed)
theorem Sq.rngEnd {w W : World} {l : List Rsc} {kt : TypeId} {b r n : Nat} {f : ByteArray → Option Value} {seen : List ByteArray} {cnt : Nat} (h : Sq w W (rRng kt b r n f seen cnt :: l)) : Sq w W (rMap kt b n f :: l) :=
 ⟨h.below, h.hp.tail.cons (RngS.map h.hp.head) (rMap_ok _ _ _ _) (fun k hk => h.hp.new _ (List.mem_cons_self ..) k (.inl hk)) (fun s hs k hk hk2 => (List.pairwise_cons.1 h.hp.apart).1 s hs k (.inl hk) hk2)⟩
end Go.Proofs.YtapgnaimbgjcnaaGreatDoor
/-
  An assignment of several places of maps: an entry, then the store. No Go text is named here.
-/
namespace Go.Proofs.YtapgnaimbgjcnaaGreatDoor
open Go Go.RowKit
open Go.Maps (Keyed)
open Go.ChangeMaps Go.MapKept Go.WideShapes
theorem setBlock_grown {w : World} {b : Nat} {es es' : Array MapEntry} {clock clock' : Nat} (hb : w.heap[b]? = some (.map es clock)) : w.grownBy (setBlock w b (.map es' clock')) (some b) :=
 ⟨rfl, rfl, rfl, by simp [setBlock], fun i _ hi => heap_setBlock_other hb _ (fun e => hi (by rw [e]))⟩
theorem MapS.entry {w : World} {kt t e : TypeId} {b n : Nat} {f : ByteArray → Option Value} (h : MapS w kt b n f) (hk : Tryz.prog.underlying kt = some .string) (ht : Tryz.prog.underlying t = some (.map kt e)) {z : Value} (hz : ∀ u : World, (zeroValue e).run Tryz.prog u = .ok z u) (hn : n < maxLen) {s : ByteArray} (hs : s.size ≤ maxLen) :
 ∃ (v0 : Value) (st : Nat) (w1 : World), (Instr.mapEntry t (.map (some b)) (.string s)).run Tryz.prog w = .ok (.tuple #[v0, .int .i64 st]) w1 ∧ w.grownBy w1 (some b) ∧
  ∀ (w2 : World) (val : Value), w2.heap[b]? = w1.heap[b]? → ∃ w3, (Instr.entryStore t (.map (some b)) (.int .i64 st) val).run Tryz.prog w2 = .ok () w3 ∧ MapS w3 kt b (n + 1) (upd f s val) ∧ w2.grownBy w3 (some b) := by
 have h0 := h
 obtain ⟨D, ⟨es, clock, hb, F, hs0, hD⟩, h2⟩ := h
 obtain ⟨v0, st, es1, clock1, hrun, _, hst⟩ := Go.WideElems.entry_then_store (Go.WideMaps.string_law hk) ht hz hb F (keyOf_s hk hs)
 refine ⟨v0, st, _, hrun, setBlock_grown hb, fun w2 val hw2 => ?_⟩
 have hb1 : (setBlock w b (.map es1 clock1)).heap[b]? = some (.map es1 clock1) := heap_setBlock_same hb _
 rw [hb1] at hw2
 obtain ⟨es', clock', hs1, hs2⟩ := hst w2 val hw2
 obtain ⟨w', hu1, hu2, _⟩ := h0.update hk ht hn hs val
 rw [hs2] at hu1
 injection hu1 with _ hu1
 refine ⟨_, hs1, hu2.block ?_, setBlock_grown hw2⟩
 rw [heap_setBlock_same hw2, ← hu1, heap_setBlock_same hb]
end Go.Proofs.YtapgnaimbgjcnaaGreatDoor
/-
  What a slot says, wherever its hosts lie; faults go by that alone. (Split out of XMov1 and XOclPure.)
-/
namespace Go.Proofs.YtapgnaimbgjcnaaGreatDoor
open Go Go.RowKit
theorem Sq.snocR {w W : World} {l : List Rsc} {α : Type} {f : α → Rsc} {xs : List α} {a : α} (h : Sq w W (f a :: rAll f xs :: l)) (hf : ∀ a, (f a).Ok) : Sq w W (rAll f (xs ++ [a]) :: l) := by
 have h1 := h.hp.apart
 rw [List.pairwise_cons] at h1
 have h2 := List.pairwise_cons.1 h1.2
 refine ⟨h.below, ?_⟩
 refine Hp.cons h.hp.tail.tail ?_ (rAll_ok hf _) (fun g hg => ?_) (fun s hs g hg hg2 => ?_)
 · intro x hx
   rcases List.mem_append.1 hx with hx | hx
   · exact (h.nth 1 rfl : ∀ a ∈ xs, (f a).P W) x hx
   · simp at hx; subst hx; exact h.head
 · obtain ⟨x, hx, hg⟩ := hg
   rcases List.mem_append.1 hx with hx | hx
   · exact h.hp.new _ (List.mem_cons_of_mem _ (List.mem_cons_self ..)) g ⟨x, hx, hg⟩
   · simp at hx; subst hx; exact h.hp.new _ (List.mem_cons_self ..) g hg
 · obtain ⟨x, hx, hg⟩ := hg
   rcases List.mem_append.1 hx with hx | hx
   · exact h2.1 s hs g ⟨x, hx, hg⟩ hg2
   · simp at hx; subst hx; exact h1.1 s (List.mem_cons_of_mem _ hs) g hg hg2
theorem Sq.allNil {w W : World} {l : List Rsc} {α : Type} (h : Sq w W l) (f : α → Rsc) (hf : ∀ a, (f a).Ok) : Sq w W (rAll f [] :: l) :=
 ⟨h.below, h.hp.cons (by intro a ha; cases ha) (rAll_ok hf _) (fun g hg => by obtain ⟨a, ha, _⟩ := hg; cases ha) (fun s _ g hg => by obtain ⟨a, ha, _⟩ := hg; cases ha)⟩
end Go.Proofs.YtapgnaimbgjcnaaGreatDoor
/-
  The program's desk in memory: runs behind pointers, the banned ones; what a step makes of it. No walk.
-/
namespace Go.Proofs.YtapgnaimbgjcnaaGreatDoor
open Go Go.RowKit
def runC (r : Rcd) : List Value := [.int .i64 r.1.at_, .int .i64 r.1.kind, .string r.1.id, .string r.1.who, .string r.1.by_, .string r.1.cat, .int .i64 r.1.time, .int .i64 r.1.date, .string (hwV r.2)]
abbrev Rpt := Nat × Rcd
def rRun (x : Rpt) : Rsc := rBlk x.1 168 (runC x.2).toArray
theorem rRun_ok (x : Rpt) : (rRun x).Ok := rBlk_ok _ _ _
def ptOf (L : List Rpt) (s : ByteArray) : Option Rpt := L.find? (fun x => decide (x.2.1.id = s))
def ptF (L : List Rpt) : ByteArray → Option Value := fun s => (ptOf L s).map (fun x => .pointer (some ⟨x.1, 0, none⟩))
def bnF (D : Dsk) : ByteArray → Option Value := fun s => if inKB s D.bk = true then some (.bool (D.bn s)) else none
structure LD (L : List Rpt) (D : Dsk) : Prop where
 rn : L.map (·.2) = D.rn
 nd : (L.map (·.1)).Nodup
def dskL (gd m1 n1 m2 n2 : Nat) (L : List Rpt) (D : Dsk) (l : List Rsc) : List Rsc :=
 rBlk gd 183 #[.map (some m1), .map (some m2)] :: rMap 9 m1 n1 (ptF L) :: rMap 9 m2 n2 (bnF D) :: rAll rRun L :: l
theorem ptOf_rn {L : List Rpt} {D : Dsk} (h : LD L D) (s : ByteArray) : rnOf D s = (ptOf L s).map (·.2) := by
 unfold rnOf ptOf
 rw [← h.rn, List.find?_map]
 rfl
theorem ptOf_mem {L : List Rpt} {s : ByteArray} {x : Rpt} (h : ptOf L s = some x) : x ∈ L ∧ x.2.1.id = s :=
 ⟨List.mem_of_find?_eq_some h, by have := List.find?_some h; simpa using this⟩
theorem nodup_inj {α β : Type} {f : α → β} : ∀ {l : List α}, (l.map f).Nodup → ∀ x ∈ l, ∀ y ∈ l, f x = f y → x = y
 | [], _, x, hx, _, _, _ => by cases hx
 | a :: l, h, x, hx, y, hy, e => by
   rw [List.map_cons, List.nodup_cons] at h
   rcases List.mem_cons.1 hx with e1 | hx2 <;> rcases List.mem_cons.1 hy with e2 | hy2
   · rw [e1, e2]
   · exact absurd (List.mem_map.2 ⟨y, hy2, by rw [← e, e1]⟩) h.1
   · exact absurd (List.mem_map.2 ⟨x, hx2, by rw [e, e2]⟩) h.1
   · exact nodup_inj h.2 x hx2 y hy2 e
def turnL (L : List Rpt) (g c : Nat) : List Rpt := L.map (fun x => if x.1 = g then (x.1, (x.2.1, c)) else x)
theorem turnL_pt (L : List Rpt) (g c : Nat) : ptF (turnL L g c) = ptF L := by
 funext s
 unfold ptF ptOf turnL
 rw [List.find?_map, Option.map_map]
 have e1 : ((fun x : Rpt => decide (x.2.1.id = s)) ∘ fun x : Rpt => if x.1 = g then (x.1, (x.2.1, c)) else x) = fun x => decide (x.2.1.id = s) := by
  funext x
  simp only [Function.comp]
  split <;> rfl
 rw [e1]
 congr 1
 funext x
 simp only [Function.comp]
 split <;> rfl
theorem turnL_g (L : List Rpt) (g c : Nat) : (turnL L g c).map (·.1) = L.map (·.1) := by
 unfold turnL
 rw [List.map_map]
 refine List.map_congr_left (fun x _ => ?_)
 simp only [Function.comp]
 split <;> rfl
theorem LD.turn {L : List Rpt} {D : Dsk} (h : LD L D) (hK : KD D) {x : Rpt} {s : ByteArray} (hx : ptOf L s = some x) (c : Nat) : LD (turnL L x.1 c) (setR D s c) := by
 obtain ⟨hm, hi⟩ := ptOf_mem hx
 refine ⟨?_, by rw [turnL_g]; exact h.nd⟩
 show (turnL L x.1 c).map (·.2) = D.rn.map _
 rw [← h.rn]
 unfold turnL
 rw [List.map_map, List.map_map]
 refine List.map_congr_left (fun y hy => ?_)
 simp only [Function.comp]
 have hid : (L.map (fun z : Rpt => z.2.1.id)).Nodup := by
  have := hK.nd
  rw [← h.rn, List.map_map] at this
  exact this
 by_cases e : y.1 = x.1
 · have hyx : y = x := nodup_inj h.nd y hy x hm e
   subst hyx
   rw [if_pos rfl, if_pos hi]
 · rw [if_neg e, if_neg (fun e2 => e (by rw [nodup_inj hid y hy x hm (e2.trans hi.symm)]))]
theorem LD.add {L : List Rpt} {D : Dsk} (h : LD L D) (g : Nat) (x : Bev) (hg : ∀ y ∈ L, y.1 ≠ g) : LD (L ++ [(g, (x, 0))]) (addR D x) := by
 refine ⟨by rw [List.map_append, h.rn]; rfl, ?_⟩
 rw [List.map_append, List.nodup_append]
 refine ⟨h.nd, by simp, fun a ha b hb e => ?_⟩
 obtain ⟨y, hy, rfl⟩ := List.mem_map.1 ha
 simp at hb
 subst hb
 exact hg y hy e
theorem ptF_add (L : List Rpt) (g : Nat) (x : Bev) (hn : ptOf L x.id = none) : upd (ptF L) x.id (.pointer (some ⟨g, 0, none⟩)) = ptF (L ++ [(g, (x, 0))]) := by
 funext s
 unfold upd ptF ptOf
 rw [List.find?_append]
 by_cases e : s = x.id
 · subst e
   unfold ptOf at hn
   rw [if_pos rfl, hn]
   simp
 · rw [if_neg e]
   have h2 : List.find? (fun y : Rpt => decide (y.2.1.id = s)) [(g, (x, 0))] = none := by
    rw [List.find?_cons_of_neg (by simpa using fun e2 => e e2.symm)]
    rfl
   rw [h2, Option.or_none]
theorem bnF_set (D : Dsk) (s : ByteArray) (v : Bool) : upd (bnF D) s (.bool v) = bnF (setB D s v) := by
 funext t
 unfold upd bnF setB
 by_cases e : t = s
 · subst e
   have h : inKB t (if inKB t D.bk = true then D.bk else D.bk ++ [t]) = true := by
    rw [inKB_iff]
    split
    · rename_i h; exact inKB_iff.1 h
    · simp
   simp only [h, if_true]
 · rw [if_neg e]
   have h : inKB t (if inKB s D.bk = true then D.bk else D.bk ++ [s]) = inKB t D.bk := by
    split
    · rfl
    · unfold inKB
      rw [List.any_append, List.any_cons, List.any_nil, decide_eq_false (fun e2 : s = t => e e2.symm), Bool.or_false, Bool.or_false]
   simp only [h, if_neg e]
theorem bnF_get {D : Dsk} (hK : KD D) (s : ByteArray) : (bnF D s).getD (.bool false) = .bool (D.bn s) := by
 unfold bnF
 by_cases h : inKB s D.bk = true
 · rw [if_pos h]; rfl
 · rw [if_neg h]
   cases hb : D.bn s with
   | false => rfl
   | true => exact absurd (inKB_iff.2 (hK.bi s hb)) h
theorem Sq.runTurn {w0 W : World} {l : List Rsc} {L : List Rpt} (h : Sq w0 W (rAll rRun L :: l)) {x : Rpt} (hx : x ∈ L) (c : Nat) : Sq w0 (W.setCell ⟨x.1, 8, none⟩ (.string (hwV c))) (rAll rRun (turnL L x.1 c) :: l) := by
 have h1 : ∀ y ∈ L, (rRun y).P W := h.head
 refine h.store_ (g := x.1) ⟨x, hx, rfl⟩ 8 _ (fun y hy => ?_) (rAll_ok rRun_ok _) (fun k hk => ?_)
 · obtain ⟨z, hz, rfl⟩ := List.mem_map.1 hy
   have hz1 := h1 z hz
   by_cases e : z.1 = x.1
   · rw [if_pos e]
     have := Blk.set_ (show Blk W z.1 168 (runC z.2).toArray from hz1) 8 (.string (hwV c))
     rw [e] at this
     show Blk _ z.1 _ _
     rw [e]
     exact this
   · rw [if_neg e]
     exact Blk.far (show Blk W z.1 168 (runC z.2).toArray from hz1) (p := ⟨x.1, 8, none⟩) e _
 · obtain ⟨y, hy, hk⟩ := hk
   obtain ⟨z, hz, rfl⟩ := List.mem_map.1 hy
   refine ⟨z, hz, ?_⟩
   have hk : k = (if z.1 = x.1 then (z.1, (z.2.1, c)) else z).1 := hk
   show k = z.1
   rw [hk]
   split <;> rfl
def FolD (w0 : World) (gd m1 m2 n : Nat) (D : Dsk) (l : List Rsc) (o : Option Dsk) (e : Ending) (w' : World) : Prop :=
 ∃ (L : List Rpt) (n1 n2 : Nat), e = .returned (.bool o.isSome) ∧ LD L (o.getD D) ∧ n1 ≤ n + 1 ∧ n2 ≤ n + 1 ∧ Sq w0 w' (dskL gd m1 n1 m2 n2 L (o.getD D) l)
theorem map_put {w0 W : World} {l : List Rsc} {m n : Nat} {f : ByteArray → Option Value} {t e : TypeId} (ht : Tryz.prog.underlying t = some (.map 9 e)) (h : Sq w0 W (rMap 9 m n f :: l)) (hn : n < maxLen) {s : ByteArray} (hs : s.size ≤ maxLen) (v : Value) :
 ∃ W', (Instr.mapUpdate t (.map (some m)) (.string s) v).run Tryz.prog W = .ok () W' ∧ Sq w0 W' (rMap 9 m (n + 1) (upd f s v) :: l) := by
 obtain ⟨W', h1, h2, h3⟩ := MapS.update (show MapS W 9 m n f from h.head) Tryz.underlying9 ht hn hs v
 exact ⟨W', h1, h.mapSet h2 h3⟩
theorem stpE_turn {D : Dsk} {x : Bev} {r : Rcd} (hb : D.bn x.by_ = false) (hk : x.kind = 2 ∨ x.kind = 3 ∨ x.kind = 4) (hr : rnOf D x.id = some r) : stpE D x = (turnE x r).map (setR D x.id) := by
 unfold stpE
 rw [if_neg (by rw [hb]; decide), if_neg (by omega), if_neg (by omega), hr]
 simp only
 cases turnE x r <;> rfl
theorem stpE_turn0 {D : Dsk} {x : Bev} (hb : D.bn x.by_ = false) (hk : x.kind = 2 ∨ x.kind = 3 ∨ x.kind = 4) (hr : rnOf D x.id = none) : stpE D x = none := by
 unfold stpE
 rw [if_neg (by rw [hb]; decide), if_neg (by omega), if_neg (by omega), hr]
theorem stpE_ban {D : Dsk} {x : Bev} (hb : D.bn x.by_ = false) (hk : x.kind = 5 ∨ x.kind = 6) : stpE D x = if D.bn x.who = decide (x.kind = 5) then none else some (setB D x.who (decide (x.kind = 5))) := by
 unfold stpE
 rw [if_neg (by rw [hb]; decide), if_neg (by omega), if_pos hk]
theorem litH (c d : Nat) (hc : c ≤ 3) (hd : d ≤ 3) : ((hwV c).toList == (hwV d).data.toList) = decide (c = d) := by
 rw [Lib.toList_data]
 have hs : ∀ c, c ≤ 3 → ∀ d, d ≤ 3 → ((hwV c).data.toList == (hwV d).data.toList) = decide (c = d) := by decide
 exact hs c hc d hd
theorem zero_run (w : World) : (zeroValue 166).run Tryz.prog w = .ok (.pointer none) w := by kernel_rfl
theorem zero_bol (w : World) : (zeroValue 4).run Tryz.prog w = .ok (.bool false) w := by kernel_rfl
end Go.Proofs.YtapgnaimbgjcnaaGreatDoor
/-
  The reference's site in memory: events as they were sent, how they are, who is banned; what a step makes of it. No walk.
-/
namespace Go.Proofs.YtapgnaimbgjcnaaGreatDoor
open Go Go.RowKit
def evF (D : Dsk) : ByteArray → Option Value := fun s => (rnOf D s).map (fun r => .agg (bevC r.1).toArray)
def zBev : Bev := ⟨0, 0, ⟨#[]⟩, ⟨#[]⟩, ⟨#[]⟩, ⟨#[]⟩, 0, 0⟩
end Go.Proofs.YtapgnaimbgjcnaaGreatDoor
/-
  The runs on a board sorted, on both sides.
-/
namespace Go.Proofs.YtapgnaimbgjcnaaGreatDoor
open Go Go.RowKit Go.Sort
instance instBevT : Inhabited Bev := ⟨zBev⟩
instance instBevT2 : Inhabited {_x : Bev // True} := ⟨⟨zBev, trivial⟩⟩
abbrev Ptv := Nat × Bev
def ptvV (x : Ptv) : Value := .pointer (some ⟨x.1, 0, none⟩)
def RunAt (w : World) (x : Ptv) : Prop := ∀ V : World, (V.heap[x.1]? = w.heap[x.1]?) → V.cell? ⟨x.1, 2, none⟩ = some (.string x.2.id) ∧ V.cell? ⟨x.1, 6, none⟩ = some (.int .i64 x.2.time) ∧ V.cell? ⟨x.1, 7, none⟩ = some (.int .i64 x.2.date)
theorem ord3_ptv : Ord3 (fun x y : Ptv => cmpT x.2 y.2) := ⟨fun x y => ord3_cmpT.neg x.2 y.2, fun x y z => ord3_cmpT.trans x.2 y.2 z.2⟩
theorem sortRun_calls (w0 w : World) (g n c : Nat) (xs : List Ptv) (l : List Rsc) (hn : n ≤ 100000) (hx : ∀ x ∈ xs, RunAt w x ∧ x.1 < w.heap.size ∧ x.1 ≠ g) (h0 : 0 < xs.length) (hS : Sq w0 w (rOwn w0.heap.size 166 1 (.slice (some ⟨g, 0, none⟩) n c) n (xs.flatMap (fun x => [ptvV x])) :: l)) :
 Calls Tryz.prog 113 #[.slice (some ⟨g, 0, none⟩) n c, .func (.func 116) #[] #[]] w (SrtT w0 166 1 (fun x => [ptvV x]) g n c xs (fun x y => cmpT x.2 y.2) l) := by
 have hne : Nonempty {x : Ptv // RunAt w x ∧ x.1 < w.heap.size ∧ x.1 ≠ g} := by
  cases xs with
  | nil => cases h0
  | cons a r => exact ⟨⟨a, hx a (List.mem_cons_self ..)⟩⟩
 have hin : Inhabited {x : Ptv // RunAt w x ∧ x.1 < w.heap.size ∧ x.1 ≠ g} := Classical.inhabited_of_nonempty hne
 exact srt1_calls (P := fun x : Ptv => RunAt w x ∧ x.1 < w.heap.size ∧ x.1 ≠ g) (enc := ptvV) Tryz.sortRun (fun _ => rfl) (fun x y => cmpT x.2 y.2) ord3_ptv 116 #[] (enters_of Tryz.func116 (by kernel_rfl) rfl) w0 w g n c xs l hx hn
  (fun x y W hx hy hW => better_calls x.1 y.1 x.2 y.2 W (fun V hV => by
   have e1 := (hV.block x.1 (by have := hW.1; have := hx.2.1; omega)).trans (hW.2 x.1 hx.2.1 hx.2.2)
   have e2 := (hV.block y.1 (by have := hW.1; have := hy.2.1; omega)).trans (hW.2 y.1 hy.2.1 hy.2.2)
   obtain ⟨a1, a2, a3⟩ := hx.1 V e1
   obtain ⟨b1, b2, b3⟩ := hy.1 V e2
   exact ⟨a1, a2, a3, b1, b2, b3⟩)) hS
theorem sortRun_none (w : World) (A : Option Addr) (c : Nat) :
 Calls Tryz.prog 113 #[.slice A 0 c, .func (.func 116) #[] #[]] w fun e w' => e = .returned (.tuple #[]) ∧ w' = w :=
 AnyF.slices_SortFunc_none Tryz.sortRun0 A c _ w
end Go.Proofs.YtapgnaimbgjcnaaGreatDoor
/-
  The runs on a board, in plain words (brd), as a range over a map finds them. No walk.
-/
namespace Go.Proofs.YtapgnaimbgjcnaaGreatDoor
open Go Go.RowKit
def inB (D : Dsk) (cat : ByteArray) (r : Rcd) : Bool := (r.1.cat.toList == cat.toList) && ((hwV r.2).toList == [118, 101, 114, 105, 102, 105, 101, 100]) && !(D.bn r.1.who)
def brOne (D : Dsk) (cat s : ByteArray) : Option Bev := match rnOf D s with
 | some r => if inB D cat r = true then some r.1 else none
 | none => none
def brd (D : Dsk) (cat : ByteArray) : List Bev := (D.rn.filter (inB D cat)).map (·.1)
theorem nd_len {α : Type} [DecidableEq α] : ∀ (l1 l2 : List α), l1.Nodup → (∀ x ∈ l1, x ∈ l2) → l1.length ≤ l2.length
 | [], _, _, _ => Nat.zero_le _
 | a :: l1, l2, hn, hs => by
   have hn := List.nodup_cons.1 hn
   have ha := hs a (List.mem_cons_self ..)
   have h := nd_len l1 (l2.erase a) hn.2 (fun x hx => (List.mem_erase_of_ne (fun e => hn.1 (by rw [← e]; exact hx))).2 (hs x (List.mem_cons_of_mem _ hx)))
   rw [List.length_erase_of_mem ha] at h
   have : 0 < l2.length := List.length_pos_of_mem ha
   simp only [List.length_cons]
   omega
theorem find_self {α β : Type} [DecidableEq β] (f : α → β) : ∀ (l : List α) (r : α), (l.map f).Nodup → r ∈ l → l.find? (fun x => decide (f x = f r)) = some r
 | [], _, _, h => by cases h
 | a :: l, r, hn, h => by
   rw [List.map_cons, List.nodup_cons] at hn
   rcases List.mem_cons.1 h with h | h
   · subst h
     rw [List.find?_cons_of_pos (by simp)]
   · have hne : ¬ f a = f r := fun e => hn.1 (by rw [e]; exact List.mem_map.2 ⟨r, h, rfl⟩)
     rw [List.find?_cons_of_neg (by simpa using hne)]
     exact find_self f l r hn.2 h
theorem fm_filter {α β : Type} (p : α → Bool) (g : α → β) : ∀ l : List α, l.filterMap (fun r => if p r = true then some (g r) else none) = (l.filter p).map g
 | [] => rfl
 | a :: l => by
   by_cases h : p a = true
   · rw [List.filterMap_cons_some (by rw [if_pos h]), List.filter_cons_of_pos h, List.map_cons, fm_filter p g l]
   · rw [List.filterMap_cons_none (by rw [if_neg h]), List.filter_cons_of_neg h, fm_filter p g l]
theorem fm_congr {α β : Type} (f g : α → Option β) : ∀ l : List α, (∀ x ∈ l, f x = g x) → l.filterMap f = l.filterMap g
 | [], _ => rfl
 | a :: l, h => by
   have h1 := h a (List.mem_cons_self ..)
   have h2 := fm_congr f g l (fun x hx => h x (List.mem_cons_of_mem _ hx))
   rw [List.filterMap_cons, List.filterMap_cons, h1, h2]
theorem rnOf_self {D : Dsk} (hK : KD D) {r : Rcd} (h : r ∈ D.rn) : rnOf D r.1.id = some r := find_self (fun x : Rcd => x.1.id) D.rn r hK.nd h
theorem evF_some {D : Dsk} {s : ByteArray} : (evF D s).isSome = true ↔ ∃ r, rnOf D s = some r := by
 unfold evF
 cases h : rnOf D s with
 | none => simp
 | some r => simp
theorem seen_len {D : Dsk} {seen : List ByteArray} (hn : seen.Nodup) (hs : ∀ s ∈ seen, ∃ r, rnOf D s = some r) : seen.length ≤ D.rn.length := by
 have h := nd_len seen (D.rn.map (·.1.id)) hn (fun s hm => by
  obtain ⟨r, hr⟩ := hs s hm
  exact List.mem_map.2 ⟨r, (rnOf_mem hr).1, (rnOf_mem hr).2⟩)
 rwa [List.length_map] at h
theorem brd_perm {D : Dsk} (hK : KD D) (cat : ByteArray) {seen : List ByteArray} (hn : seen.Nodup) (hz : ∀ s ∈ seen, s.size ≤ maxLen) (hd : ∀ s : ByteArray, s.size ≤ maxLen → ((evF D s).isSome = true ↔ s ∈ seen)) : (seen.filterMap (brOne D cat)).Perm (brd D cat) := by
 have hp : seen.Perm (D.rn.map (·.1.id)) := (List.perm_ext_iff_of_nodup hn hK.nd).2 (fun s => by
  constructor
  · intro hs
    obtain ⟨r, hr⟩ := evF_some.1 ((hd s (hz s hs)).2 hs)
    exact List.mem_map.2 ⟨r, (rnOf_mem hr).1, (rnOf_mem hr).2⟩
  · intro hs
    obtain ⟨r, hr, rfl⟩ := List.mem_map.1 hs
    have := hK.iz r hr
    exact (hd _ (by unfold maxLen; omega)).1 (evF_some.2 ⟨r, rnOf_self hK hr⟩))
 have h := hp.filterMap (brOne D cat)
 rw [List.filterMap_map] at h
 have e : D.rn.filterMap (brOne D cat ∘ fun r => r.1.id) = brd D cat := by
  unfold brd
  rw [← fm_filter (inB D cat) (fun r : Rcd => r.1) D.rn]
  refine fm_congr _ _ _ (fun r hr => ?_)
  show brOne D cat r.1.id = _
  unfold brOne
  rw [rnOf_self hK hr]
 rwa [e] at h
def SbdR (D : Dsk) (cat : ByteArray) (ys : List Bev) : Prop := ys.Perm (brd D cat) ∧ ys.Pairwise (fun a b => 0 ≤ cmpT b a)
end Go.Proofs.YtapgnaimbgjcnaaGreatDoor
/-
  The rows of a board, in plain words: the program's ranks and the reference's are one. No walk.
-/
namespace Go.Proofs.YtapgnaimbgjcnaaGreatDoor
open Go Go.RowKit
structure Brw where
 rank : Int
 time : Int
 id : ByteArray
 who : ByteArray
 date : Int
def brwC (x : Brw) : List Value := [.int .i64 x.rank, .int .i64 x.time, .string x.id, .string x.who, .int .i64 x.date]
theorem brwC_len (x : Brw) : (brwC x).length = 5 := rfl
def rkT (p : List Bev) (t : Int) : Int := 1 + ((p.filter (fun o => decide (o.time < t))).length : Int)
def rowOf (p : List Bev) (r : Bev) : Brw := ⟨rkT p r.time, r.time, r.id, r.who, r.date⟩
def rkP (out : List Brw) (t : Int) : Int := match out.getLast? with
 | some o => if o.time = t then o.rank else (out.length : Int) + 1
 | none => (out.length : Int) + 1
def stR (out : List Brw) (x : Bev) : List Brw := out ++ [⟨rkP out x.time, x.time, x.id, x.who, x.date⟩]
theorem rkT_snoc (p : List Bev) (x : Bev) (t : Int) (h : t ≤ x.time) : rkT (p ++ [x]) t = rkT p t := by
 unfold rkT
 rw [List.filter_append, List.filter_cons_of_neg (by simpa using h), List.filter_nil, List.append_nil]
theorem rkP_eq (p : List Bev) (x : Bev) (hs : p.Pairwise (fun a b => a.time ≤ b.time)) (hx : ∀ a ∈ p, a.time ≤ x.time) : rkP (p.map (rowOf p)) x.time = rkT p x.time := by
 rcases List.eq_nil_or_concat p with rfl | ⟨q, y, rfl⟩
 · rfl
 · rw [List.concat_eq_append] at hs hx ⊢
   have hl : ((q ++ [y]).map (rowOf (q ++ [y]))).getLast? = some (rowOf (q ++ [y]) y) := by
    rw [List.map_append]
    exact List.getLast?_concat
   unfold rkP
   rw [hl]
   simp only
   by_cases e : y.time = x.time
   · rw [if_pos (show (rowOf (q ++ [y]) y).time = x.time from e)]
     show rkT (q ++ [y]) y.time = _
     rw [e]
   · rw [if_neg (show ¬ (rowOf (q ++ [y]) y).time = x.time from e)]
     have hy := hx y (by simp)
     have hq := (List.pairwise_append.1 hs).2.2
     unfold rkT
     rw [List.filter_eq_self.2 (fun a ha => by
      rcases List.mem_append.1 ha with ha | ha
      · have := hq a ha y (by simp)
        exact decide_eq_true (by omega)
      · simp at ha; subst ha; exact decide_eq_true (by omega)), List.length_map]
     omega
theorem stR_step (p : List Bev) (x : Bev) (hs : (p ++ [x]).Pairwise (fun a b => a.time ≤ b.time)) : stR (p.map (rowOf p)) x = (p ++ [x]).map (rowOf (p ++ [x])) := by
 obtain ⟨h1, _, h3⟩ := List.pairwise_append.1 hs
 have hx : ∀ a ∈ p, a.time ≤ x.time := fun a ha => h3 a ha x (by simp)
 unfold stR
 rw [List.map_append, rkP_eq p x h1 hx]
 congr 1
 · refine List.map_congr_left (fun a ha => ?_)
   unfold rowOf
   rw [rkT_snoc p x _ (hx a ha)]
 · show [_] = [rowOf (p ++ [x]) x]
   unfold rowOf
   rw [rkT_snoc p x _ (Int.le_refl _)]
theorem stR_all : ∀ (q p : List Bev), (p ++ q).Pairwise (fun a b => a.time ≤ b.time) → q.foldl stR (p.map (rowOf p)) = (p ++ q).map (rowOf (p ++ q))
 | [], p, _ => by rw [List.append_nil]; rfl
 | x :: q, p, h => by
   have e : p ++ x :: q = (p ++ [x]) ++ q := by simp
   rw [e] at h ⊢
   rw [List.foldl_cons, stR_step p x (List.pairwise_append.1 h).1]
   exact stR_all q (p ++ [x]) h
def stW (out : List Bev) (x : Bev) : List Bev := if out.any (fun o => decide (o.who = x.who)) = true then out else out ++ [x]
def bstW (l : List Bev) : List Bev := l.foldl stW []
def rowsB (l : List Bev) : List Brw := (bstW l).map (rowOf (bstW l))
theorem stW_sub (l : List Bev) : ∀ out, ∃ z, l.foldl stW out = out ++ z ∧ z.Sublist l := by
 induction l with
 | nil => exact fun out => ⟨[], by simp, List.Sublist.refl _⟩
 | cons x l ih =>
   intro out
   rw [List.foldl_cons]
   obtain ⟨z, h1, h2⟩ := ih (stW out x)
   unfold stW at h1 ⊢
   split at h1
   · rename_i h; rw [if_pos h]; exact ⟨z, h1, h2.cons x⟩
   · rename_i h; rw [if_neg h]; exact ⟨x :: z, by rw [h1]; simp, h2.cons_cons x⟩
theorem bstW_sub (l : List Bev) : (bstW l).Sublist l := by
 obtain ⟨z, h1, h2⟩ := stW_sub l []
 unfold bstW
 rw [h1, List.nil_append]
 exact h2
theorem cmpT_time {a b : Bev} (h : 0 ≤ cmpT b a) : a.time ≤ b.time := by
 unfold cmpT at h
 unfold cmpI at h
 by_cases h1 : a.time ≤ b.time
 · exact h1
 · rw [if_pos (by omega : b.time < a.time)] at h
   simp at h
theorem rowsB_fold {l : List Bev} (hs : l.Pairwise (fun a b => 0 ≤ cmpT b a)) : (bstW l).foldl stR [] = rowsB l :=
 stR_all (bstW l) [] ((hs.imp (fun h => cmpT_time h)).sublist (bstW_sub l))
theorem sbd_one {D : Dsk} {cat : ByteArray} (hK : KD D) {xs ys : List Bev} (h1 : SbdR D cat xs) (h2 : SbdR D cat ys) : xs = ys := by
 refine List.Perm.eq_of_pairwise (le := fun a b => 0 ≤ cmpT b a) ?_ h1.2 h2.2 (h1.1.trans h2.1.symm)
 intro a b ha hb hab hba
 have hz : cmpT a b = 0 := by
  have := ord3_cmpT.neg a b
  omega
 have hid : a.id = b.id := by
  unfold cmpT at hz
  split at hz
  · split at hz
    · exact cmpS_zero hz
    · rename_i h; exact absurd hz h
  · rename_i h; exact absurd hz h
 have hm : ∀ x ∈ brd D cat, ∃ r ∈ D.rn, r.1 = x := fun x hx => by
  obtain ⟨r, hr, rfl⟩ := List.mem_map.1 hx
  exact ⟨r, (List.mem_filter.1 hr).1, rfl⟩
 obtain ⟨r, hr, rfl⟩ := hm a (h1.1.mem_iff.1 ha)
 obtain ⟨q, hq, rfl⟩ := hm b (h2.1.mem_iff.1 hb)
 rw [nodup_inj hK.nd r hr q hq hid]
end Go.Proofs.YtapgnaimbgjcnaaGreatDoor
/-
  Places, beaten runs and would-be ranks in plain words: program and reference are one. No walk.
-/
namespace Go.Proofs.YtapgnaimbgjcnaaGreatDoor
open Go Go.RowKit
def plcB (rows : List Brw) (who : ByteArray) : Option Brw := rows.find? (fun r => decide (r.who = who))
def wldB (rows : List Brw) (t : Int) : Int := 1 + ((rows.filter (fun o => decide (o.time < t))).length : Int)
end Go.Proofs.YtapgnaimbgjcnaaGreatDoor
