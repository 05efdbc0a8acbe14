/-
  A map with strings for keys, its keys named (KeysM); how many they are; a key struck. No Go text is named here.
-/
import Derived.Test.YtapgnaimbgjcnaaGreatDoorZSlot3
import Derived.WideKeyEntry
import Derived.StringKeys
import Derived.Test.YtapgnaimbgjcnaaGreatDoorZSlotPure
import Derived.Test.YtapgnaimbgjcnaaGreatDoorZScmp
import Derived.Test.YtapgnaimbgjcnaaGreatDoorZSortMem
import Derived.Test.YtapgnaimbgjcnaaGreatDoorZSrt1
import Derived.Shelf.SlGeneric
import Derived.Shelf.SlSortCmp.WholeK
import Derived.Test.YtapgnaimbgjcnaaGreatDoorProg
import Derived.Shelf.SlSortCmp.NoneTotal
namespace Go.Proofs.YtapgnaimbgjcnaaGreatDoor
open Go Go.RowKit
open Go.Maps (Keyed)
structure KeysM (f : ByteArray → Option Value) (ks : List ByteArray) : Prop where
 nd : ks.Nodup
 sz : ∀ s ∈ ks, s.size ≤ maxLen
 iff : ∀ s : ByteArray, s.size ≤ maxLen → (s ∈ ks ↔ (f s).isSome = true)
theorem KeysM.nil : KeysM (fun _ => none) [] := ⟨List.nodup_nil, (by intro s hs; cases hs), fun s _ => by simp⟩
theorem KeysM.perm {f : ByteArray → Option Value} {ks ks' : List ByteArray} (h : KeysM f ks) (hp : ks.Perm ks') : KeysM f ks' :=
 ⟨hp.nodup_iff.1 h.nd, fun s hs => h.sz s (hp.mem_iff.2 hs), fun s hs => hp.mem_iff.symm.trans (h.iff s hs)⟩
theorem str_key {kt : TypeId} (hk : Tryz.prog.underlying kt = some .string) {key : Value} {kl : Lit} (h : keyOf Tryz.prog kt key = some kl) : ∃ s : ByteArray, key = .string s ∧ kl = kLit s ∧ s.size ≤ maxLen := by
 obtain ⟨x, h1, h2, h3⟩ := Maps.keyOf_str hk h
 refine ⟨⟨x.toArray⟩, h1, by rw [h2]; simp [kLit], ?_⟩
 show x.toArray.size ≤ maxLen
 simpa using h3
theorem keys_perm {w : World} {kt : TypeId} {b n : Nat} {D : DataW Value} {f : ByteArray → Option Value} {ks : List ByteArray} (hk : Tryz.prog.underlying kt = some .string) (h : w.ownsMap Tryz.prog kt tokR b n D)
 (hf : ∀ s : ByteArray, s.size ≤ maxLen → Maps.has D (kLit s) = (f s).isSome) (hK : KeysM f ks) : (ks.map (fun s => s.data.toList)).Perm (strKeys D) := by
 obtain ⟨es, rfl, hp, _⟩ := h.entries (Maps.string_keyed hk)
 obtain ⟨es', he, hkeys⟩ := h.keysOf
 injection he with he
 subst he
 have hks : ∀ p ∈ es, ∃ s : ByteArray, p.1 = kLit s ∧ s.size ≤ maxLen := fun p hp => by
  obtain ⟨key, hkey⟩ := hkeys p hp
  obtain ⟨s, _, h2, h3⟩ := str_key hk hkey
  exact ⟨s, h2, h3⟩
 refine perm_strKeys hp (fun p hp => by obtain ⟨s, h1, _⟩ := hks p hp; exact ⟨_, h1⟩) ?_ (fun x => ?_)
 · refine List.pairwise_map.2 (hK.nd.imp ?_)
   intro a b hne e
   exact hne (kLit_inj (congrArg Lit.string e))
 · constructor
   · intro hx
     obtain ⟨s, hs, rfl⟩ := List.mem_map.1 hx
     have := hf s (hK.sz s hs)
     rw [(hK.iff s (hK.sz s hs)).1 hs] at this
     exact this
   · intro hx
     have hx2 := hx
     rw [Maps.has_eq, List.any_eq_true] at hx2
     obtain ⟨p, hp2, he⟩ := hx2
     obtain ⟨s, h1, h2⟩ := hks p hp2
     have e := WideAt.sameKey_eq he
     rw [h1] at e
     unfold kLit at e
     injection e with e
     refine List.mem_map.2 ⟨s, (hK.iff s h2).2 ?_, e⟩
     rw [← hf s h2]
     unfold kLit
     rw [e]
     exact hx
theorem KeysM.seen {f : ByteArray → Option Value} {ks seen : List ByteArray} (h : KeysM f ks) (hn : seen.Nodup) (hm : ∀ s ∈ seen, s ∈ ks) (hd : ∀ s : ByteArray, s.size ≤ maxLen → ((f s).isSome = true ↔ s ∈ seen)) : seen.Perm ks :=
 (List.perm_ext_iff_of_nodup hn h.nd).2 (fun s => ⟨hm s, fun hs => (hd s (h.sz s hs)).1 ((h.iff s (h.sz s hs)).1 hs)⟩)
theorem Sq.rngEnd {w W : World} {l : List Rsc} {kt : TypeId} {b r n : Nat} {f : ByteArray → Option Value} {seen : List ByteArray} {cnt : Nat} (h : Sq w W (rRng kt b r n f seen cnt :: l)) : Sq w W (rMap kt b n f :: l) :=
 ⟨h.below, h.hp.tail.cons (RngS.map h.hp.head) (rMap_ok _ _ _ _) (fun k hk => h.hp.new _ (List.mem_cons_self ..) k (.inl hk)) (fun s hs k hk hk2 => (List.pairwise_cons.1 h.hp.apart).1 s hs k (.inl hk) hk2)⟩
end Go.Proofs.YtapgnaimbgjcnaaGreatDoor
/-
  An assignment of several places of maps: an entry, then the store. No Go text is named here.
-/
namespace Go.Proofs.YtapgnaimbgjcnaaGreatDoor
open Go Go.RowKit
open Go.Maps (Keyed)
open Go.ChangeMaps Go.MapKept Go.WideShapes
theorem setBlock_grown {w : World} {b : Nat} {es es' : Array MapEntry} {clock clock' : Nat} (hb : w.heap[b]? = some (.map es clock)) : w.grownBy (setBlock w b (.map es' clock')) (some b) :=
 ⟨rfl, rfl, rfl, by simp [setBlock], fun i _ hi => heap_setBlock_other hb _ (fun e => hi (by rw [e]))⟩
theorem MapS.entry {w : World} {kt t e : TypeId} {b n : Nat} {f : ByteArray → Option Value} (h : MapS w kt b n f) (hk : Tryz.prog.underlying kt = some .string) (ht : Tryz.prog.underlying t = some (.map kt e)) {z : Value} (hz : ∀ u : World, (zeroValue e).run Tryz.prog u = .ok z u) (hn : n < maxLen) {s : ByteArray} (hs : s.size ≤ maxLen) :
 ∃ (v0 : Value) (st : Nat) (w1 : World), (Instr.mapEntry t (.map (some b)) (.string s)).run Tryz.prog w = .ok (.tuple #[v0, .int .i64 st]) w1 ∧ w.grownBy w1 (some b) ∧
  ∀ (w2 : World) (val : Value), w2.heap[b]? = w1.heap[b]? → ∃ w3, (Instr.entryStore t (.map (some b)) (.int .i64 st) val).run Tryz.prog w2 = .ok () w3 ∧ MapS w3 kt b (n + 1) (upd f s val) ∧ w2.grownBy w3 (some b) := by
 have h0 := h
 obtain ⟨D, ⟨es, clock, hb, F, hs0, hD⟩, h2⟩ := h
 obtain ⟨v0, st, es1, clock1, hrun, _, hst⟩ := Go.WideElems.entry_then_store (Go.WideMaps.string_law hk) ht hz hb F (keyOf_s hk hs)
 refine ⟨v0, st, _, hrun, setBlock_grown hb, fun w2 val hw2 => ?_⟩
 have hb1 : (setBlock w b (.map es1 clock1)).heap[b]? = some (.map es1 clock1) := heap_setBlock_same hb _
 rw [hb1] at hw2
 obtain ⟨es', clock', hs1, hs2⟩ := hst w2 val hw2
 obtain ⟨w', hu1, hu2, _⟩ := h0.update hk ht hn hs val
 rw [hs2] at hu1
 injection hu1 with _ hu1
 refine ⟨_, hs1, hu2.block ?_, setBlock_grown hw2⟩
 rw [heap_setBlock_same hw2, ← hu1, heap_setBlock_same hb]
end Go.Proofs.YtapgnaimbgjcnaaGreatDoor
/-
  What a slot says, wherever its hosts lie; faults go by that alone. (Split out of XMov1 and XOclPure.)
-/
namespace Go.Proofs.YtapgnaimbgjcnaaGreatDoor
open Go Go.RowKit
theorem Sq.snocR {w W : World} {l : List Rsc} {α : Type} {f : α → Rsc} {xs : List α} {a : α} (h : Sq w W (f a :: rAll f xs :: l)) (hf : ∀ a, (f a).Ok) : Sq w W (rAll f (xs ++ [a]) :: l) := by
 have h1 := h.hp.apart
 rw [List.pairwise_cons] at h1
 have h2 := List.pairwise_cons.1 h1.2
 refine ⟨h.below, ?_⟩
 refine Hp.cons h.hp.tail.tail ?_ (rAll_ok hf _) (fun g hg => ?_) (fun s hs g hg hg2 => ?_)
 · intro x hx
   rcases List.mem_append.1 hx with hx | hx
   · exact (h.nth 1 rfl : ∀ a ∈ xs, (f a).P W) x hx
   · simp at hx; subst hx; exact h.head
 · obtain ⟨x, hx, hg⟩ := hg
   rcases List.mem_append.1 hx with hx | hx
   · exact h.hp.new _ (List.mem_cons_of_mem _ (List.mem_cons_self ..)) g ⟨x, hx, hg⟩
   · simp at hx; subst hx; exact h.hp.new _ (List.mem_cons_self ..) g hg
 · obtain ⟨x, hx, hg⟩ := hg
   rcases List.mem_append.1 hx with hx | hx
   · exact h2.1 s hs g ⟨x, hx, hg⟩ hg2
   · simp at hx; subst hx; exact h1.1 s (List.mem_cons_of_mem _ hs) g hg hg2
theorem Sq.allNil {w W : World} {l : List Rsc} {α : Type} (h : Sq w W l) (f : α → Rsc) (hf : ∀ a, (f a).Ok) : Sq w W (rAll f [] :: l) :=
 ⟨h.below, h.hp.cons (by intro a ha; cases ha) (rAll_ok hf _) (fun g hg => by obtain ⟨a, ha, _⟩ := hg; cases ha) (fun s _ g hg => by obtain ⟨a, ha, _⟩ := hg; cases ha)⟩
end Go.Proofs.YtapgnaimbgjcnaaGreatDoor
/-
  The program's desk in memory: runs behind pointers, the banned ones; what a step makes of it. No walk.
-/
namespace Go.Proofs.YtapgnaimbgjcnaaGreatDoor
open Go Go.RowKit
def runC (r : Rcd) : List Value := [.int .i64 r.1.at_, .int .i64 r.1.kind, .string r.1.id, .string r.1.who, .string r.1.by_, .string r.1.cat, .int .i64 r.1.time, .int .i64 r.1.date, .string (hwV r.2)]
abbrev Rpt := Nat × Rcd
def rRun (x : Rpt) : Rsc := rBlk x.1 168 (runC x.2).toArray
theorem rRun_ok (x : Rpt) : (rRun x).Ok := rBlk_ok _ _ _
def ptOf (L : List Rpt) (s : ByteArray) : Option Rpt := L.find? (fun x => decide (x.2.1.id = s))
def ptF (L : List Rpt) : ByteArray → Option Value := fun s => (ptOf L s).map (fun x => .pointer (some ⟨x.1, 0, none⟩))
def bnF (D : Dsk) : ByteArray → Option Value := fun s => if inKB s D.bk = true then some (.bool (D.bn s)) else none
structure LD (L : List Rpt) (D : Dsk) : Prop where
 rn : L.map (·.2) = D.rn
 nd : (L.map (·.1)).Nodup
def dskL (gd m1 n1 m2 n2 : Nat) (L : List Rpt) (D : Dsk) (l : List Rsc) : List Rsc :=
 rBlk gd 183 #[.map (some m1), .map (some m2)] :: rMap 9 m1 n1 (ptF L) :: rMap 9 m2 n2 (bnF D) :: rAll rRun L :: l
theorem ptOf_rn {L : List Rpt} {D : Dsk} (h : LD L D) (s : ByteArray) : rnOf D s = (ptOf L s).map (·.2) := by
 unfold rnOf ptOf
 rw [← h.rn, List.find?_map]
 rfl
theorem ptOf_mem {L : List Rpt} {s : ByteArray} {x : Rpt} (h : ptOf L s = some x) : x ∈ L ∧ x.2.1.id = s :=
 ⟨List.mem_of_find?_eq_some h, by have := List.find?_some h; simpa using this⟩
theorem nodup_inj {α β : Type} {f : α → β} : ∀ {l : List α}, (l.map f).Nodup → ∀ x ∈ l, ∀ y ∈ l, f x = f y → x = y
 | [], _, x, hx, _, _, _ => by cases hx
 | a :: l, h, x, hx, y, hy, e => by
   rw [List.map_cons, List.nodup_cons] at h
   rcases List.mem_cons.1 hx with e1 | hx2 <;> rcases List.mem_cons.1 hy with e2 | hy2
   · rw [e1, e2]
   · exact absurd (List.mem_map.2 ⟨y, hy2, by rw [← e, e1]⟩) h.1
   · exact absurd (List.mem_map.2 ⟨x, hx2, by rw [e, e2]⟩) h.1
   · exact nodup_inj h.2 x hx2 y hy2 e
def turnL (L : List Rpt) (g c : Nat) : List Rpt := L.map (fun x => if x.1 = g then (x.1, (x.2.1, c)) else x)
theorem turnL_pt (L : List Rpt) (g c : Nat) : ptF (turnL L g c) = ptF L := by
 funext s
 unfold ptF ptOf turnL
 rw [List.find?_map, Option.map_map]
 have e1 : ((fun x : Rpt => decide (x.2.1.id = s)) ∘ fun x : Rpt => if x.1 = g then (x.1, (x.2.1, c)) else x) = fun x => decide (x.2.1.id = s) := by
  funext x
  simp only [Function.comp]
  split <;> rfl
 rw [e1]
 congr 1
 funext x
 simp only [Function.comp]
 split <;> rfl
theorem turnL_g (L : List Rpt) (g c : Nat) : (turnL L g c).map (·.1) = L.map (·.1) := by
 unfold turnL
 rw [List.map_map]
 refine List.map_congr_left (fun x _ => ?_)
 simp only [Function.comp]
 split <;> rfl
theorem LD.turn {L : List Rpt} {D : Dsk} (h : LD L D) (hK : KD D) {x : Rpt} {s : ByteArray} (hx : ptOf L s = some x) (c : Nat) : LD (turnL L x.1 c) (setR D s c) := by
 obtain ⟨hm, hi⟩ := ptOf_mem hx
 refine ⟨?_, by rw [turnL_g]; exact h.nd⟩
 show (turnL L x.1 c).map (·.2) = D.rn.map _
 rw [← h.rn]
 unfold turnL
 rw [List.map_map, List.map_map]
 refine List.map_congr_left (fun y hy => ?_)
 simp only [Function.comp]
 have hid : (L.map (fun z : Rpt => z.2.1.id)).Nodup := by
  have := hK.nd
  rw [← h.rn, List.map_map] at this
  exact this
 by_cases e : y.1 = x.1
 · have hyx : y = x := nodup_inj h.nd y hy x hm e
   subst hyx
   rw [if_pos rfl, if_pos hi]
 · rw [if_neg e, if_neg (fun e2 => e (by rw [nodup_inj hid y hy x hm (e2.trans hi.symm)]))]
theorem LD.add {L : List Rpt} {D : Dsk} (h : LD L D) (g : Nat) (x : Bev) (hg : ∀ y ∈ L, y.1 ≠ g) : LD (L ++ [(g, (x, 0))]) (addR D x) := by
 refine ⟨by rw [List.map_append, h.rn]; rfl, ?_⟩
 rw [List.map_append, List.nodup_append]
 refine ⟨h.nd, by simp, fun a ha b hb e => ?_⟩
 obtain ⟨y, hy, rfl⟩ := List.mem_map.1 ha
 simp at hb
 subst hb
 exact hg y hy e
theorem ptF_add (L : List Rpt) (g : Nat) (x : Bev) (hn : ptOf L x.id = none) : upd (ptF L) x.id (.pointer (some ⟨g, 0, none⟩)) = ptF (L ++ [(g, (x, 0))]) := by
 funext s
 unfold upd ptF ptOf
 rw [List.find?_append]
 by_cases e : s = x.id
 · subst e
   unfold ptOf at hn
   rw [if_pos rfl, hn]
   simp
 · rw [if_neg e]
   have h2 : List.find? (fun y : Rpt => decide (y.2.1.id = s)) [(g, (x, 0))] = none := by
    rw [List.find?_cons_of_neg (by simpa using fun e2 => e e2.symm)]
    rfl
   rw [h2, Option.or_none]
theorem bnF_set (D : Dsk) (s : ByteArray) (v : Bool) : upd (bnF D) s (.bool v) = bnF (setB D s v) := by
 funext t
 unfold upd bnF setB
 by_cases e : t = s
 · subst e
   have h : inKB t (if inKB t D.bk = true then D.bk else D.bk ++ [t]) = true := by
    rw [inKB_iff]
    split
    · rename_i h; exact inKB_iff.1 h
    · simp
   simp only [h, if_true]
 · rw [if_neg e]
   have h : inKB t (if inKB s D.bk = true then D.bk else D.bk ++ [s]) = inKB t D.bk := by
    split
    · rfl
    · unfold inKB
      rw [List.any_append, List.any_cons, List.any_nil, decide_eq_false (fun e2 : s = t => e e2.symm), Bool.or_false, Bool.or_false]
   simp only [h, if_neg e]
theorem bnF_get {D : Dsk} (hK : KD D) (s : ByteArray) : (bnF D s).getD (.bool false) = .bool (D.bn s) := by
 unfold bnF
 by_cases h : inKB s D.bk = true
 · rw [if_pos h]; rfl
 · rw [if_neg h]
   cases hb : D.bn s with
   | false => rfl
   | true => exact absurd (inKB_iff.2 (hK.bi s hb)) h
theorem Sq.runTurn {w0 W : World} {l : List Rsc} {L : List Rpt} (h : Sq w0 W (rAll rRun L :: l)) {x : Rpt} (hx : x ∈ L) (c : Nat) : Sq w0 (W.setCell ⟨x.1, 8, none⟩ (.string (hwV c))) (rAll rRun (turnL L x.1 c) :: l) := by
 have h1 : ∀ y ∈ L, (rRun y).P W := h.head
 refine h.store_ (g := x.1) ⟨x, hx, rfl⟩ 8 _ (fun y hy => ?_) (rAll_ok rRun_ok _) (fun k hk => ?_)
 · obtain ⟨z, hz, rfl⟩ := List.mem_map.1 hy
   have hz1 := h1 z hz
   by_cases e : z.1 = x.1
   · rw [if_pos e]
     have := Blk.set_ (show Blk W z.1 168 (runC z.2).toArray from hz1) 8 (.string (hwV c))
     rw [e] at this
     show Blk _ z.1 _ _
     rw [e]
     exact this
   · rw [if_neg e]
     exact Blk.far (show Blk W z.1 168 (runC z.2).toArray from hz1) (p := ⟨x.1, 8, none⟩) e _
 · obtain ⟨y, hy, hk⟩ := hk
   obtain ⟨z, hz, rfl⟩ := List.mem_map.1 hy
   refine ⟨z, hz, ?_⟩
   have hk : k = (if z.1 = x.1 then (z.1, (z.2.1, c)) else z).1 := hk
   show k = z.1
   rw [hk]
   split <;> rfl
def FolD (w0 : World) (gd m1 m2 n : Nat) (D : Dsk) (l : List Rsc) (o : Option Dsk) (e : Ending) (w' : World) : Prop :=
 ∃ (L : List Rpt) (n1 n2 : Nat), e = .returned (.bool o.isSome) ∧ LD L (o.getD D) ∧ n1 ≤ n + 1 ∧ n2 ≤ n + 1 ∧ Sq w0 w' (dskL gd m1 n1 m2 n2 L (o.getD D) l)
theorem map_put {w0 W : World} {l : List Rsc} {m n : Nat} {f : ByteArray → Option Value} {t e : TypeId} (ht : Tryz.prog.underlying t = some (.map 9 e)) (h : Sq w0 W (rMap 9 m n f :: l)) (hn : n < maxLen) {s : ByteArray} (hs : s.size ≤ maxLen) (v : Value) :
 ∃ W', (Instr.mapUpdate t (.map (some m)) (.string s) v).run Tryz.prog W = .ok () W' ∧ Sq w0 W' (rMap 9 m (n + 1) (upd f s v) :: l) := by
 obtain ⟨W', h1, h2, h3⟩ := MapS.update (show MapS W 9 m n f from h.head) Tryz.underlying9 ht hn hs v
 exact ⟨W', h1, h.mapSet h2 h3⟩
theorem stpE_turn {D : Dsk} {x : Bev} {r : Rcd} (hb : D.bn x.by_ = false) (hk : x.kind = 2 ∨ x.kind = 3 ∨ x.kind = 4) (hr : rnOf D x.id = some r) : stpE D x = (turnE x r).map (setR D x.id) := by
 unfold stpE
 rw [if_neg (by rw [hb]; decide), if_neg (by omega), if_neg (by omega), hr]
 simp only
 cases turnE x r <;> rfl
theorem stpE_turn0 {D : Dsk} {x : Bev} (hb : D.bn x.by_ = false) (hk : x.kind = 2 ∨ x.kind = 3 ∨ x.kind = 4) (hr : rnOf D x.id = none) : stpE D x = none := by
 unfold stpE
 rw [if_neg (by rw [hb]; decide), if_neg (by omega), if_neg (by omega), hr]
theorem stpE_ban {D : Dsk} {x : Bev} (hb : D.bn x.by_ = false) (hk : x.kind = 5 ∨ x.kind = 6) : stpE D x = if D.bn x.who = decide (x.kind = 5) then none else some (setB D x.who (decide (x.kind = 5))) := by
 unfold stpE
 rw [if_neg (by rw [hb]; decide), if_neg (by omega), if_pos hk]
theorem litH (c d : Nat) (hc : c ≤ 3) (hd : d ≤ 3) : ((hwV c).toList == (hwV d).data.toList) = decide (c = d) := by
 rw [Lib.toList_data]
 have hs : ∀ c, c ≤ 3 → ∀ d, d ≤ 3 → ((hwV c).data.toList == (hwV d).data.toList) = decide (c = d) := by decide
 exact hs c hc d hd
theorem zero_run (w : World) : (zeroValue 166).run Tryz.prog w = .ok (.pointer none) w := by kernel_rfl
theorem zero_bol (w : World) : (zeroValue 4).run Tryz.prog w = .ok (.bool false) w := by kernel_rfl
end Go.Proofs.YtapgnaimbgjcnaaGreatDoor
/-
  The reference's site in memory: events as they were sent, how they are, who is banned; what a step makes of it. No walk.
-/
namespace Go.Proofs.YtapgnaimbgjcnaaGreatDoor
open Go Go.RowKit
def evF (D : Dsk) : ByteArray → Option Value := fun s => (rnOf D s).map (fun r => .agg (bevC r.1).toArray)
def zBev : Bev := ⟨0, 0, ⟨#[]⟩, ⟨#[]⟩, ⟨#[]⟩, ⟨#[]⟩, 0, 0⟩
end Go.Proofs.YtapgnaimbgjcnaaGreatDoor
/-
  The runs on a board sorted, on both sides.
-/
namespace Go.Proofs.YtapgnaimbgjcnaaGreatDoor
open Go Go.RowKit Go.Sort
instance instBevT : Inhabited Bev := ⟨zBev⟩
instance instBevT2 : Inhabited {_x : Bev // True} := ⟨⟨zBev, trivial⟩⟩
abbrev Ptv := Nat × Bev
def ptvV (x : Ptv) : Value := .pointer (some ⟨x.1, 0, none⟩)
def RunAt (w : World) (x : Ptv) : Prop := ∀ V : World, (V.heap[x.1]? = w.heap[x.1]?) → V.cell? ⟨x.1, 2, none⟩ = some (.string x.2.id) ∧ V.cell? ⟨x.1, 6, none⟩ = some (.int .i64 x.2.time) ∧ V.cell? ⟨x.1, 7, none⟩ = some (.int .i64 x.2.date)
theorem ord3_ptv : Ord3 (fun x y : Ptv => cmpT x.2 y.2) := ⟨fun x y => ord3_cmpT.neg x.2 y.2, fun x y z => ord3_cmpT.trans x.2 y.2 z.2⟩
theorem sortRun_calls (w0 w : World) (g n c : Nat) (xs : List Ptv) (l : List Rsc) (hn : n ≤ 100000) (hx : ∀ x ∈ xs, RunAt w x ∧ x.1 < w.heap.size ∧ x.1 ≠ g) (h0 : 0 < xs.length) (hS : Sq w0 w (rOwn w0.heap.size 166 1 (.slice (some ⟨g, 0, none⟩) n c) n (xs.flatMap (fun x => [ptvV x])) :: l)) :
 Calls Tryz.prog 113 #[.slice (some ⟨g, 0, none⟩) n c, .func (.func 116) #[] #[]] w (SrtT w0 166 1 (fun x => [ptvV x]) g n c xs (fun x y => cmpT x.2 y.2) l) := by
 have hne : Nonempty {x : Ptv // RunAt w x ∧ x.1 < w.heap.size ∧ x.1 ≠ g} := by
  cases xs with
  | nil => cases h0
  | cons a r => exact ⟨⟨a, hx a (List.mem_cons_self ..)⟩⟩
 have hin : Inhabited {x : Ptv // RunAt w x ∧ x.1 < w.heap.size ∧ x.1 ≠ g} := Classical.inhabited_of_nonempty hne
 exact srt1_calls (P := fun x : Ptv => RunAt w x ∧ x.1 < w.heap.size ∧ x.1 ≠ g) (enc := ptvV) Tryz.sortRun (fun _ => rfl) (fun x y => cmpT x.2 y.2) ord3_ptv 116 #[] (enters_of Tryz.func116 (by kernel_rfl) rfl) w0 w g n c xs l hx hn
  (fun x y W hx hy hW => better_calls x.1 y.1 x.2 y.2 W (fun V hV => by
   have e1 := (hV.block x.1 (by have := hW.1; have := hx.2.1; omega)).trans (hW.2 x.1 hx.2.1 hx.2.2)
   have e2 := (hV.block y.1 (by have := hW.1; have := hy.2.1; omega)).trans (hW.2 y.1 hy.2.1 hy.2.2)
   obtain ⟨a1, a2, a3⟩ := hx.1 V e1
   obtain ⟨b1, b2, b3⟩ := hy.1 V e2
   exact ⟨a1, a2, a3, b1, b2, b3⟩)) hS
theorem sortRun_none (w : World) (A : Option Addr) (c : Nat) :
 Calls Tryz.prog 113 #[.slice A 0 c, .func (.func 116) #[] #[]] w fun e w' => e = .returned (.tuple #[]) ∧ w' = w :=
 AnyF.slices_SortFunc_none Tryz.sortRun0 A c _ w
end Go.Proofs.YtapgnaimbgjcnaaGreatDoor
/-
  The runs on a board, in plain words (brd), as a range over a map finds them. No walk.
-/
namespace Go.Proofs.YtapgnaimbgjcnaaGreatDoor
open Go Go.RowKit
def inB (D : Dsk) (cat : ByteArray) (r : Rcd) : Bool := (r.1.cat.toList == cat.toList) && ((hwV r.2).toList == [118, 101, 114, 105, 102, 105, 101, 100]) && !(D.bn r.1.who)
def brOne (D : Dsk) (cat s : ByteArray) : Option Bev := match rnOf D s with
 | some r => if inB D cat r = true then some r.1 else none
 | none => none
def brd (D : Dsk) (cat : ByteArray) : List Bev := (D.rn.filter (inB D cat)).map (·.1)
theorem nd_len {α : Type} [DecidableEq α] : ∀ (l1 l2 : List α), l1.Nodup → (∀ x ∈ l1, x ∈ l2) → l1.length ≤ l2.length
 | [], _, _, _ => Nat.zero_le _
 | a :: l1, l2, hn, hs => by
   have hn := List.nodup_cons.1 hn
   have ha := hs a (List.mem_cons_self ..)
   have h := nd_len l1 (l2.erase a) hn.2 (fun x hx => (List.mem_erase_of_ne (fun e => hn.1 (by rw [← e]; exact hx))).2 (hs x (List.mem_cons_of_mem _ hx)))
   rw [List.length_erase_of_mem ha] at h
   have : 0 < l2.length := List.length_pos_of_mem ha
   simp only [List.length_cons]
   omega
theorem find_self {α β : Type} [DecidableEq β] (f : α → β) : ∀ (l : List α) (r : α), (l.map f).Nodup → r ∈ l → l.find? (fun x => decide (f x = f r)) = some r
 | [], _, _, h => by cases h
 | a :: l, r, hn, h => by
   rw [List.map_cons, List.nodup_cons] at hn
   rcases List.mem_cons.1 h with h | h
   · subst h
     rw [List.find?_cons_of_pos (by simp)]
   · have hne : ¬ f a = f r := fun e => hn.1 (by rw [e]; exact List.mem_map.2 ⟨r, h, rfl⟩)
     rw [List.find?_cons_of_neg (by simpa using hne)]
     exact find_self f l r hn.2 h
theorem fm_filter {α β : Type} (p : α → Bool) (g : α → β) : ∀ l : List α, l.filterMap (fun r => if p r = true then some (g r) else none) = (l.filter p).map g
 | [] => rfl
 | a :: l => by
   by_cases h : p a = true
   · rw [List.filterMap_cons_some (by rw [if_pos h]), List.filter_cons_of_pos h, List.map_cons, fm_filter p g l]
   · rw [List.filterMap_cons_none (by rw [if_neg h]), List.filter_cons_of_neg h, fm_filter p g l]
theorem fm_congr {α β : Type} (f g : α → Option β) : ∀ l : List α, (∀ x ∈ l, f x = g x) → l.filterMap f = l.filterMap g
 | [], _ => rfl
 | a :: l, h => by
   have h1 := h a (List.mem_cons_self ..)
   have h2 := fm_congr f g l (fun x hx => h x (List.mem_cons_of_mem _ hx))
   rw [List.filterMap_cons, List.filterMap_cons, h1, h2]
theorem rnOf_self {D : Dsk} (hK : KD D) {r : Rcd} (h : r ∈ D.rn) : rnOf D r.1.id = some r := find_self (fun x : Rcd => x.1.id) D.rn r hK.nd h
theorem evF_some {D : Dsk} {s : ByteArray} : (evF D s).isSome = true ↔ ∃ r, rnOf D s = some r := by
 unfold evF
 cases h : rnOf D s with
 | none => simp
 | some r => simp
theorem seen_len {D : Dsk} {seen : List ByteArray} (hn : seen.Nodup) (hs : ∀ s ∈ seen, ∃ r, rnOf D s = some r) : seen.length ≤ D.rn.length := by
 have h := nd_len seen (D.rn.map (·.1.id)) hn (fun s hm => by
  obtain ⟨r, hr⟩ := hs s hm
  exact List.mem_map.2 ⟨r, (rnOf_mem hr).1, (rnOf_mem hr).2⟩)
 rwa [List.length_map] at h
theorem brd_perm {D : Dsk} (hK : KD D) (cat : ByteArray) {seen : List ByteArray} (hn : seen.Nodup) (hz : ∀ s ∈ seen, s.size ≤ maxLen) (hd : ∀ s : ByteArray, s.size ≤ maxLen → ((evF D s).isSome = true ↔ s ∈ seen)) : (seen.filterMap (brOne D cat)).Perm (brd D cat) := by
 have hp : seen.Perm (D.rn.map (·.1.id)) := (List.perm_ext_iff_of_nodup hn hK.nd).2 (fun s => by
  constructor
  · intro hs
    obtain ⟨r, hr⟩ := evF_some.1 ((hd s (hz s hs)).2 hs)
    exact List.mem_map.2 ⟨r, (rnOf_mem hr).1, (rnOf_mem hr).2⟩
  · intro hs
    obtain ⟨r, hr, rfl⟩ := List.mem_map.1 hs
    have := hK.iz r hr
    exact (hd _ (by unfold maxLen; omega)).1 (evF_some.2 ⟨r, rnOf_self hK hr⟩))
 have h := hp.filterMap (brOne D cat)
 rw [List.filterMap_map] at h
 have e : D.rn.filterMap (brOne D cat ∘ fun r => r.1.id) = brd D cat := by
  unfold brd
  rw [← fm_filter (inB D cat) (fun r : Rcd => r.1) D.rn]
  refine fm_congr _ _ _ (fun r hr => ?_)
  show brOne D cat r.1.id = _
  unfold brOne
  rw [rnOf_self hK hr]
 rwa [e] at h
def SbdR (D : Dsk) (cat : ByteArray) (ys : List Bev) : Prop := ys.Perm (brd D cat) ∧ ys.Pairwise (fun a b => 0 ≤ cmpT b a)
end Go.Proofs.YtapgnaimbgjcnaaGreatDoor
/-
  Places, beaten runs and would-be ranks in plain words: program and reference are one. No walk.
-/
namespace Go.Proofs.YtapgnaimbgjcnaaGreatDoor
open Go Go.RowKit
theorem one_by {cf : Bev → Bev → Int} (hO : Ord3 cf) (hid : ∀ a b, cf a b = 0 → a.id = b.id) {D : Dsk} (hK : KD D) {xs ys : List Bev} (hm : ∀ x ∈ xs, ∃ r ∈ D.rn, r.1 = x) (hp : xs.Perm ys)
 (h1 : xs.Pairwise (fun a b => 0 ≤ cf b a)) (h2 : ys.Pairwise (fun a b => 0 ≤ cf b a)) : xs = ys := by
 refine List.Perm.eq_of_pairwise (le := fun a b => 0 ≤ cf b a) ?_ h1 h2 hp
 intro a b ha hb hab hba
 have hz : cf a b = 0 := by
  have := hO.neg a b
  omega
 obtain ⟨r, hr, rfl⟩ := hm a ha
 obtain ⟨q, hq, rfl⟩ := hm b (hp.mem_iff.2 hb)
 rw [nodup_inj hK.nd r hr q hq (hid _ _ hz)]
theorem brd_mem {D : Dsk} {cat : ByteArray} {x : Bev} (h : x ∈ brd D cat) : ∃ r ∈ D.rn, r.1 = x := by
 obtain ⟨r, hr, rfl⟩ := List.mem_map.1 h
 exact ⟨r, (List.mem_filter.1 hr).1, rfl⟩
theorem cmpI_ltX {a b : Int} : cmpI a b < 0 ↔ a < b := by
 unfold cmpI
 split
 · constructor <;> intro <;> omega
 · split <;> constructor <;> intro <;> omega
theorem cmpI_eqX {a b : Int} : cmpI a b = 0 ↔ a = b := by
 unfold cmpI
 split
 · constructor <;> intro <;> omega
 · split <;> constructor <;> intro <;> omega
def whoB (who : ByteArray) (o : Bev) : Bool := decide (o.who = who)
def ownB (l : List Bev) (who : ByteArray) : List Bev := l.filter (whoB who)
end Go.Proofs.YtapgnaimbgjcnaaGreatDoor
/-
  Records of a category in plain words: the program's and the reference's are one. No walk.
-/
namespace Go.Proofs.YtapgnaimbgjcnaaGreatDoor
open Go Go.RowKit
structure Rgn where
 id : ByteArray
 who : ByteArray
 time : Int
 from_ : Int
 to_ : Int
def rgnC (x : Rgn) : List Value := [.string x.id, .string x.who, .int .i64 x.time, .int .i64 x.from_, .int .i64 x.to_]
theorem rgnC_len (x : Rgn) : (rgnC x).length = 5 := rfl
def rgnOf (m : Int) (r : Bev) : Rgn := ⟨r.id, r.who, r.time, r.date, max m r.date⟩
def cmpH (x y : Bev) : Int := if cmpI x.date y.date = 0 then cmpT x y else cmpI x.date y.date
theorem ord3_cmpH : Ord3 cmpH := (ord3_int (fun x : Bev => x.date)).first ord3_cmpT
theorem cmpT_id (a b : Bev) (hz : cmpT a b = 0) : a.id = b.id := by
 unfold cmpT at hz
 split at hz
 · split at hz
   · exact cmpS_zero hz
   · rename_i h; exact absurd hz h
 · rename_i h; exact absurd hz h
theorem cmpH_id (a b : Bev) (h : cmpH a b = 0) : a.id = b.id := by
 unfold cmpH at h
 split at h
 · exact cmpT_id a b h
 · rename_i h2; exact absurd h h2
def stH (m : Int) (out : List Rgn) (r : Bev) : List Rgn := match out.getLast? with
 | some o => if o.time ≤ r.time then out else out.dropLast ++ [⟨o.id, o.who, o.time, o.from_, r.date⟩, rgnOf m r]
 | none => [rgnOf m r]
def hisF (m : Int) (l : List Bev) : List Rgn := l.foldl (stH m) []
def stK (out : List Bev) (r : Bev) : List Bev := match out.getLast? with
 | some o => if o.time ≤ r.time then out else out ++ [r]
 | none => [r]
def recs (l : List Bev) : List Bev := l.foldl stK []
def fixTo : List Rgn → List Rgn
 | a :: b :: t => ⟨a.id, a.who, a.time, a.from_, b.from_⟩ :: fixTo (b :: t)
 | l => l
theorem fixTo_snoc (b : Rgn) : ∀ (l : List Rgn) (o : Rgn), fixTo (l ++ [o, b]) = (fixTo (l ++ [o])).dropLast ++ [⟨o.id, o.who, o.time, o.from_, b.from_⟩, b]
 | [], o => rfl
 | [a], o => rfl
 | a :: c :: t, o => by
   have ih := fixTo_snoc b (c :: t) o
   show _ :: fixTo (c :: t ++ [o, b]) = _
   rw [ih]
   show _ = (_ :: fixTo (c :: t ++ [o])).dropLast ++ _
   have hne : fixTo (c :: t ++ [o]) ≠ [] := by
    cases t <;> simp [fixTo]
   rw [List.dropLast_cons_of_ne_nil hne]
   rfl
theorem fixTo_last : ∀ (l : List Rgn) (o : Rgn), (fixTo (l ++ [o])).getLast? = some o
 | [], o => rfl
 | [a], o => rfl
 | a :: c :: t, o => by
   have ih := fixTo_last (c :: t) o
   show (_ :: fixTo (c :: t ++ [o])).getLast? = _
   rw [List.getLast?_cons, ih]
   rfl
theorem stH_step (m : Int) (out : List Bev) (r : Bev) : stH m (fixTo (out.map (rgnOf m))) r = fixTo ((stK out r).map (rgnOf m)) := by
 rcases List.eq_nil_or_concat out with rfl | ⟨q, y, rfl⟩
 · rfl
 · rw [List.concat_eq_append]
   unfold stH stK
   rw [List.map_append, List.map_cons, List.map_nil, fixTo_last, List.getLast?_concat]
   simp only
   by_cases h : y.time ≤ r.time
   · rw [if_pos (show (rgnOf m y).time ≤ r.time from h), if_pos h, List.map_append, List.map_cons, List.map_nil]
   · rw [if_neg (show ¬ (rgnOf m y).time ≤ r.time from h), if_neg h, List.map_append, List.map_append, List.append_assoc]
     exact (fixTo_snoc (rgnOf m r) (q.map (rgnOf m)) (rgnOf m y)).symm
theorem his_recs (m : Int) : ∀ (l out : List Bev), l.foldl (stH m) (fixTo (out.map (rgnOf m))) = fixTo ((l.foldl stK out).map (rgnOf m))
 | [], _ => rfl
 | r :: l, out => by
   rw [List.foldl_cons, List.foldl_cons, stH_step]
   exact his_recs m l _
theorem hisF_eq (m : Int) (l : List Bev) : hisF m l = fixTo ((recs l).map (rgnOf m)) := his_recs m l []
def wrsH (o r : Bev) : Bool := (decide (o.date < r.date) && decide (o.time ≤ r.time)) || (decide (o.date = r.date) && !(sameBev o r) && (decide (o.time < r.time) || (decide (o.time = r.time) && decide (cmpS o.id r.id < 0))))
def keepH (all : List Bev) (r : Bev) : Bool := !(all.any (fun o => wrsH o r))
theorem sameBev_id {o r : Bev} (h : sameBev o r = true) : o.id = r.id := by
 unfold sameBev at h
 simp only [Bool.and_eq_true] at h
 have h1 := h.1.1.1.1.1.2
 unfold eqS at h1
 have h2 : o.id.data.toList = r.id.data.toList := by simpa [ByteArray.toList_eq] using h1
 exact ByteArray.ext (Array.toList_inj.1 h2)
theorem wrs_before {o r : Bev} (h : cmpH o r < 0) : wrsH o r = decide (o.time ≤ r.time) := by
 unfold cmpH at h
 unfold wrsH
 by_cases hd : cmpI o.date r.date = 0
 · rw [if_pos hd] at h
   have hd2 := cmpI_eqX.1 hd
   have hne : sameBev o r = false := by
    cases hh : sameBev o r with
    | false => rfl
    | true =>
      have hid := sameBev_id hh
      have hz : cmpT o r = 0 := by
       unfold sameBev at hh
       simp only [Bool.and_eq_true, decide_eq_true_eq] at hh
       unfold cmpT
       rw [if_pos (cmpI_eqX.2 hh.1.2), if_pos (cmpI_eqX.2 hd2), hid]
       have : cmpS r.id r.id = - cmpS r.id r.id := cmpS_neg r.id r.id
       omega
      omega
   have hlt : ¬ o.date < r.date := by omega
   simp only [hd2, hne]
   by_cases ht : cmpI o.time r.time = 0
   · have ht2 := cmpI_eqX.1 ht
     have hs : cmpS o.id r.id < 0 := by
      unfold cmpT at h
      rw [if_pos ht, if_pos hd] at h
      exact h
     simp [ht2, hs]
   · have h3 : cmpI o.time r.time < 0 := by
      unfold cmpT at h
      rw [if_neg ht] at h
      exact h
     have h4 := cmpI_ltX.1 h3
     have h5 : o.time ≤ r.time := by omega
     simp [h4, h5]
 · rw [if_neg hd] at h
   have h1 := cmpI_ltX.1 h
   have h2 : ¬ o.date = r.date := by omega
   simp [h1, h2]
theorem wrs_behind {o r : Bev} (h : cmpH r o < 0) : wrsH o r = false := by
 unfold cmpH at h
 unfold wrsH
 by_cases hd : cmpI r.date o.date = 0
 · rw [if_pos hd] at h
   have hd2 := cmpI_eqX.1 hd
   have hlt : ¬ o.date < r.date := by omega
   by_cases ht : cmpI r.time o.time = 0
   · have ht2 := cmpI_eqX.1 ht
     have hs : cmpS r.id o.id < 0 := by
      unfold cmpT at h
      rw [if_pos ht, if_pos hd] at h
      exact h
     have hn : cmpS o.id r.id = - cmpS r.id o.id := cmpS_neg r.id o.id
     have hs2 : ¬ cmpS o.id r.id < 0 := by omega
     have h4 : ¬ o.time < r.time := by omega
     simp [hlt, hs2, h4]
   · have h3 : cmpI r.time o.time < 0 := by
      unfold cmpT at h
      rw [if_neg ht] at h
      exact h
     have h4 := cmpI_ltX.1 h3
     have h5 : ¬ o.time < r.time := by omega
     have h6 : ¬ o.time = r.time := by omega
     simp [hlt, h5, h6]
 · rw [if_neg hd] at h
   have h1 := cmpI_ltX.1 h
   have h2 : ¬ o.date = r.date := by omega
   have h3 : ¬ o.date < r.date := by omega
   simp [h2, h3]
theorem wrs_self (r : Bev) : wrsH r r = false := by
 unfold wrsH
 have h1 : ¬ cmpS r.id r.id < 0 := by
  have : cmpS r.id r.id = - cmpS r.id r.id := cmpS_neg r.id r.id
  omega
 simp [h1]
def fastR (p : List Bev) (r : Bev) : Bool := !(p.any (fun o => decide (o.time ≤ r.time)))
def recsS : List Bev → List Bev → List Bev
 | _, [] => []
 | p, r :: l => if fastR p r = true then r :: recsS (p ++ [r]) l else recsS (p ++ [r]) l
theorem recs_low : ∀ (l p out : List Bev), (∀ r : Bev, fastR p r = match out.getLast? with | some o => !decide (o.time ≤ r.time) | none => true) → l.foldl stK out = out ++ recsS p l
 | [], p, out, _ => by rw [recsS, List.append_nil]; rfl
 | r :: l, p, out, h => by
   have hr := h r
   rw [List.foldl_cons, recsS]
   cases hl : out.getLast? with
   | none =>
     have ho : out = [] := List.getLast?_eq_none_iff.1 hl
     rw [hl] at hr
     have hr : fastR p r = true := hr
     rw [if_pos hr, ho]
     have e : stK [] r = [r] := rfl
     rw [e, recs_low l (p ++ [r]) [r] (fun x => ?_)]
     · rfl
     · have hx := h x
       rw [hl] at hx
       have hx : fastR p x = true := hx
       unfold fastR at hx ⊢
       rw [List.any_append]
       rw [Bool.not_eq_true'] at hx
       rw [hx]
       simp
   | some o =>
     rw [hl] at hr
     have hr : fastR p r = !decide (o.time ≤ r.time) := hr
     by_cases ht : o.time ≤ r.time
     · have hf : ¬ fastR p r = true := by rw [hr]; simp [ht]
       have e : stK out r = out := by unfold stK; rw [hl]; simp only; rw [if_pos ht]
       rw [if_neg hf, e]
       refine recs_low l (p ++ [r]) out (fun x => ?_)
       have hx := h x
       rw [hl] at hx ⊢
       have hx : fastR p x = !decide (o.time ≤ x.time) := hx
       show fastR (p ++ [r]) x = !decide (o.time ≤ x.time)
       unfold fastR at hx ⊢
       rw [List.any_append, Bool.not_or, hx]
       by_cases h5 : o.time ≤ x.time
       · simp [h5]
       · have h6 : ¬ r.time ≤ x.time := by omega
         simp [h6]
     · have hf : fastR p r = true := by rw [hr]; simp [ht]
       have e : stK out r = out ++ [r] := by unfold stK; rw [hl]; simp only; rw [if_neg ht]
       rw [if_pos hf, e, recs_low l (p ++ [r]) (out ++ [r]) (fun x => ?_)]
       · simp
       · have hx := h x
         rw [hl] at hx
         have hx : fastR p x = !decide (o.time ≤ x.time) := hx
         rw [List.getLast?_concat]
         show fastR (p ++ [r]) x = !decide (r.time ≤ x.time)
         unfold fastR at hx ⊢
         rw [List.any_append, Bool.not_or, hx]
         by_cases h5 : r.time ≤ x.time
         · simp [h5]
         · have h6 : ¬ o.time ≤ x.time := by omega
           simp [h5, h6]
theorem recs_eq (l : List Bev) : recs l = recsS [] l := by
 have h := recs_low l [] [] (fun r => rfl)
 rw [List.nil_append] at h
 exact h
theorem recsS_keep : ∀ (l p : List Bev), (p ++ l).Pairwise (fun a b => cmpH a b < 0) → recsS p l = l.filter (keepH (p ++ l))
 | [], _, _ => rfl
 | r :: l, p, h => by
   have e : p ++ r :: l = (p ++ [r]) ++ l := by simp
   have ih := recsS_keep l (p ++ [r]) (by rw [← e]; exact h)
   rw [recsS, ih, ← e]
   have hk : keepH (p ++ r :: l) r = fastR p r := by
    unfold keepH fastR
    congr 1
    rw [List.any_append, List.any_cons, wrs_self, Bool.false_or]
    obtain ⟨_, h2, h3⟩ := List.pairwise_append.1 h
    have h4 : l.any (fun o => wrsH o r) = false := by
     rw [List.any_eq_false]
     intro o ho
     rw [wrs_behind ((List.pairwise_cons.1 h2).1 o ho)]
     decide
    rw [h4, Bool.or_false]
    have hany : ∀ q : List Bev, (∀ o ∈ q, cmpH o r < 0) → q.any (fun o => wrsH o r) = q.any (fun o => decide (o.time ≤ r.time)) := by
     intro q
     induction q with
     | nil => intro _; rfl
     | cons a q ihq =>
       intro hq
       rw [List.any_cons, List.any_cons, wrs_before (hq a (List.mem_cons_self ..)), ihq (fun o ho => hq o (List.mem_cons_of_mem _ ho))]
    exact hany p (fun o ho => h3 o ho r (List.mem_cons_self ..))
   by_cases hf : fastR p r = true
   · rw [if_pos hf, List.filter_cons_of_pos (by rw [hk]; exact hf)]
   · rw [if_neg hf, List.filter_cons_of_neg (by rw [hk]; exact hf)]
def SbdH (D : Dsk) (cat : ByteArray) (ys : List Bev) : Prop := ys.Perm (brd D cat) ∧ ys.Pairwise (fun a b => 0 ≤ cmpH b a)
theorem sbdH_strict {D : Dsk} {cat : ByteArray} (hK : KD D) {xs : List Bev} (h : SbdH D cat xs) : xs.Pairwise (fun a b => cmpH a b < 0) := by
 have hn : (xs.map (·.id)).Nodup := by
  have h1 : ((brd D cat).map (·.id)).Nodup := by
   unfold brd
   rw [List.map_map]
   exact hK.nd.sublist (List.Sublist.map _ List.filter_sublist)
  exact (h.1.map (·.id)).nodup_iff.2 h1
 have hn2 : xs.Pairwise (fun a b => a.id ≠ b.id) := List.pairwise_map.1 hn
 refine (h.2.and hn2).imp (fun {a b} hab => ?_)
 have h1 := ord3_cmpH.neg a b
 have h2 : cmpH a b ≠ 0 := fun e => hab.2 (cmpH_id a b e)
 have := hab.1
 omega
theorem recs_dates {L : List Bev} (hs : L.Pairwise (fun a b => cmpH a b < 0)) : (L.filter (keepH L)).Pairwise (fun a b => a.date < b.date) := by
 have h1 := hs.sublist (List.filter_sublist (p := keepH L))
 refine List.Pairwise.imp_of_mem (fun {a b} ha hb hab => ?_) h1
 have ha := (List.mem_filter.1 ha).1
 have hb := (List.mem_filter.1 hb).2
 unfold keepH at hb
 rw [Bool.not_eq_true', List.any_eq_false] at hb
 have h2 := hb a ha
 rw [wrs_before hab] at h2
 have h2 : ¬ a.time ≤ b.time := by simpa using h2
 unfold cmpH at hab
 by_cases hd : cmpI a.date b.date = 0
 · rw [if_pos hd] at hab
   unfold cmpT at hab
   by_cases ht : cmpI a.time b.time = 0
   · have := cmpI_eqX.1 ht
     omega
   · rw [if_neg ht] at hab
     have := cmpI_ltX.1 hab
     omega
 · rw [if_neg hd] at hab
   exact cmpI_ltX.1 hab
end Go.Proofs.YtapgnaimbgjcnaaGreatDoor
