/-
  Ranks as the stream makes them, by a contract.
-/
import Derived.Test.YtapgnaimbgjcnaaGreatDoorZFlat
import Derived.Test.YtapgnaimbgjcnaaGreatDoorZBase
import Derived.Outline
import Derived.RegionTactic
import Derived.ChangeAlike
import Derived.BigRegion
import Derived.Deep.RegionLaw
import Derived.Deep.RegionWith
import Derived.Deep.DrawnRows
import Derived.Deep.DeepMust
import Derived.Test.YtapgnaimbgjcnaaGreatDoorZSlotPure
import Derived.Lib.SliceRun
import Derived.Laws.AppendOwnNone
import Derived.Deep.DeepCutAuto
import Derived.Deep.RegionHeld3
import Derived.Deep.QuietTactic
import Derived.Test.YtapgnaimbgjcnaaGreatDoorProg
import Derived.Maps.OwnSet
import Derived.Maps.OwnOps
import Derived.Maps.Views
import Derived.Maps.RangeWalk
import Derived.Sort.KeysCollected
namespace Go.Proofs.YtapgnaimbgjcnaaGreatDoor
open Go Go.RowKit
attribute [local go_sem ↓] Go.wp_at_zero Go.wp_at_succ
theorem size1 (w : World) (o : Obj) : (w.alloc o).heap.size = w.heap.size + 1 := by simp
end Go.Proofs.YtapgnaimbgjcnaaGreatDoor
/-
  slices.Clone of strings, marathon.needed and splitref2.people by contracts. (Printed by gen_slot4.py.)
-/
namespace Go.Proofs.YtapgnaimbgjcnaaGreatDoor
open Go Go.RowKit
attribute [local go_sem ↓] Go.wp_at_zero Go.wp_at_succ
theorem info_str : (Tryz.prog.info? 9).map (fun i => (i.zero, i.size, i.bytes)) = some (some (.string ⟨#[]⟩), 1, 16) := by kernel_rfl
theorem one1 {x : Value} (hx : x.oneCell' = true) : ∀ u ∈ [x], u.oneCell' = true := by
 intro u hu
 simp at hu
 subst hu
 exact hx
end Go.Proofs.YtapgnaimbgjcnaaGreatDoor
/-
  marathon.end, splitref2.endOf, both Moment, fromFault and FromFault by contracts. (Printed by gen_slot6.py.)
-/
namespace Go.Proofs.YtapgnaimbgjcnaaGreatDoor
open Go Go.RowKit
theorem moment_calls (f : Int) (w : World) : Calls Tryz.prog 105 #[.int .i64 f] w fun e w' => e = .returned (.bool (momB f)) ∧ w = w' := by
 have HM : Hid ((!outB f 0 345686399999) = momB f) := rfl
 go_enter Tryz.func105, Tryz.ntmps105
 go_wp2_with fail
 refine (out_calls _ _ _ _).mono ?_
 rintro e w1 ⟨rfl, rfl⟩
 go_wp2_with fail
 go_ret
 exact ⟨ret_bool HM.out, rfl⟩
theorem momentQ_calls (f : Int) (w : World) : Calls Tryz.prog 67 #[.int .i64 f] w fun e w' => e = .returned (.bool (momB f)) ∧ w = w' := by
 have HM : Hid ((!outB f 0 345686399999) = momB f) := rfl
 go_enter Tryz.func67, Tryz.ntmps67
 go_wp2_with fail
 refine (in_calls _ _ _ _).mono ?_
 rintro e w1 ⟨rfl, rfl⟩
 rw [HM.out]
 go_wp2_with fail
 go_ret
 exact ⟨rfl, rfl⟩
end Go.Proofs.YtapgnaimbgjcnaaGreatDoor
/-
  What is wrong with an event: board.eventFault by a contract. (Printed by gen_ev1.py.)
-/
namespace Go.Proofs.YtapgnaimbgjcnaaGreatDoor
open Go Go.RowKit
attribute [local go_sem ↓] Go.wp_at_zero Go.wp_at_succ
theorem uses_calls (w : World) : Calls Tryz.prog 178 #[] w fun e w' => e = .returned (.slice (some ⟨w.heap.size, 0, none⟩) 6 6) ∧ w' = w.alloc (.cells #[.string ⟨#[115, 101, 110, 116]⟩, .bool true, .bool true, .bool false, .bool true, .string ⟨#[118, 101, 114, 105, 102, 105, 101, 100]⟩, .bool true, .bool false, .bool true, .bool false, .string ⟨#[114, 101, 102, 117, 115, 101, 100]⟩, .bool true, .bool false, .bool true, .bool false, .string ⟨#[98, 97, 99, 107]⟩, .bool true, .bool true, .bool false, .bool false, .string ⟨#[98, 97, 110, 110, 101, 100]⟩, .bool false, .bool true, .bool true, .bool false, .string ⟨#[102, 114, 101, 101, 100]⟩, .bool false, .bool true, .bool true, .bool false] 221) := by
 go_enter Tryz.func178, Tryz.ntmps178
 go_wp2_with fail
 go_ret
 exact ⟨rfl, rfl⟩
theorem neq_bev (a1 k1 t1 d1 a2 k2 t2 d2 : Int) (i1 w1 b1 c1 i2 w2 b2 c2 : ByteArray) (w : World) : (binOp .neq 78 (.agg #[.int .i64 a1, .int .i64 k1, .string i1, .string w1, .string b1, .string c1, .int .i64 t1, .int .i64 d1]) (.agg #[.int .i64 a2, .int .i64 k2, .string i2, .string w2, .string b2, .string c2, .int .i64 t2, .int .i64 d2])).run Tryz.prog w = .ok (.bool (!sameBev ⟨a1, k1, i1, w1, b1, c1, t1, d1⟩ ⟨a2, k2, i2, w2, b2, c2, t2, d2⟩)) w := by
 simp only [sameBev, eqS]
 simp [go_sem]
 by_cases h1 : a1 = a2 <;> by_cases h2 : k1 = k2 <;> by_cases h3 : i1.toList = i2.toList <;> by_cases h4 : w1.toList = w2.toList <;> by_cases h5 : b1.toList = b2.toList <;> by_cases h6 : c1.toList = c2.toList <;> by_cases h7 : t1 = t2 <;> by_cases h8 : d1 = d2 <;> simp [h1, h2, h3, h4, h5, h6, h7, h8]
attribute [local go_sem ↓ high] neq_bev
theorem bevF_of (x : Bev) (ha : momB x.at_ = true) (hk : outB x.kind 1 6 = false) : bevF x = if bevK x = true then 5 else if (usS x.kind && (outB x.time 1 864000000 || outB x.date 0 x.at_)) = true then 1 else if sameBev x (bevU x) = true then 0 else 3 := by
 unfold bevF
 rw [if_pos ha, if_neg (by rw [hk]; decide)]
end Go.Proofs.YtapgnaimbgjcnaaGreatDoor
/-
  A map of the call's own with strings for keys, whatever its elements: MapS says what stands at each key. No Go text is named here.
-/
namespace Go.Proofs.YtapgnaimbgjcnaaGreatDoor
open Go Go.RowKit
open Go.Maps (Keyed)
def tokR (v : Value) : Option (DataW Value × List MemPlace) := some (.held v, [])
def kLit (s : ByteArray) : Lit := .string s.data.toList
theorem kLit_inj {s t : ByteArray} (h : kLit s = kLit t) : s = t := by
 unfold kLit at h
 injection h with h
 cases s; cases t
 congr
 exact Array.toList_inj.1 h
def MapS (w : World) (kt : TypeId) (b n : Nat) (f : ByteArray → Option Value) : Prop :=
 ∃ D : DataW Value, w.ownsMap Tryz.prog kt tokR b n D ∧ ∀ s : ByteArray, s.size ≤ maxLen → Maps.has D (kLit s) = (f s).isSome ∧ ∀ z : Value, D.atKey (kLit s) (.held z) = .held ((f s).getD z)
def upd (f : ByteArray → Option Value) (s : ByteArray) (v : Value) : ByteArray → Option Value := fun t => if t = s then some v else f t
theorem keyOf_s {kt : TypeId} (hk : Tryz.prog.underlying kt = some .string) {s : ByteArray} (hs : s.size ≤ maxLen) : keyOf Tryz.prog kt (.string s) = some (kLit s) := WideMaps.keyOf_string_mk hk hs
section
variable {w w' : World} {kt t e : TypeId} {b n : Nat} {f : ByteArray → Option Value}
theorem MapS.made (w : World) (kt : TypeId) : MapS (w.alloc (.map #[] 0)) kt w.heap.size 0 (fun _ => none) :=
 ⟨_, World.ownsMap_made w _ kt tokR, fun _ _ => ⟨rfl, fun _ => rfl⟩⟩
theorem MapS.mono (h : MapS w kt b n f) {n' : Nat} (hn : n ≤ n') : MapS w kt b n' f := by
 obtain ⟨D, h1, h2⟩ := h
 exact ⟨D, h1.mono hn, h2⟩
theorem MapS.lt (h : MapS w kt b n f) : b < w.heap.size := by
 obtain ⟨D, h1, _⟩ := h
 exact h1.lt
theorem MapS.block (h : MapS w kt b n f) (hb : w'.heap[b]? = w.heap[b]?) : MapS w' kt b n f := by
 obtain ⟨D, ⟨es, clock, h0, h1⟩, h2⟩ := h
 exact ⟨D, ⟨es, clock, hb.trans h0, h1⟩, h2⟩
theorem MapS.below (h : MapS w kt b n f) (hb : Below w.heap.size w w') : MapS w' kt b n f := h.block (hb.block b h.lt)
theorem tok_inv {v : Value} {z : DataW Value} {ps : List MemPlace} (h : tokR v = some (z, ps)) : z = .held v := by
 unfold tokR at h
 injection h with h
 exact (Prod.mk.inj h).1.symm
theorem MapS.look (h : MapS w kt b n f) (hk : Tryz.prog.underlying kt = some .string) (ht : Tryz.prog.underlying t = some (.map kt e)) {z : Value} (hz : (zeroValue e).run Tryz.prog w = .ok z w) {s : ByteArray} (hs : s.size ≤ maxLen) :
 (Instr.lookup t (.map (some b)) (.string s) false).run Tryz.prog w = .ok ((f s).getD z) w := by
 obtain ⟨D, h1, h2⟩ := h
 obtain ⟨v, ps, hrun, hv⟩ := h1.lookup (Maps.string_keyed hk) ht hz (zd := .held z) (zp := []) rfl (keyOf_s hk hs)
 have he : DataW.held ((f s).getD z) = DataW.held v := ((h2 s hs).2 z).symm.trans (tok_inv hv)
 have he2 : (f s).getD z = v := DataW.held.inj he
 rw [he2]
 exact hrun
theorem MapS.lookOk (h : MapS w kt b n f) (hk : Tryz.prog.underlying kt = some .string) (ht : Tryz.prog.underlying t = some (.map kt e)) {z : Value} (hz : (zeroValue e).run Tryz.prog w = .ok z w) {s : ByteArray} (hs : s.size ≤ maxLen) :
 (Instr.lookup t (.map (some b)) (.string s) true).run Tryz.prog w = .ok (.tuple #[(f s).getD z, .bool (f s).isSome]) w := by
 obtain ⟨D, h1, h2⟩ := h
 obtain ⟨v, ps, hrun, hv⟩ := h1.look_ok (Maps.string_keyed hk) ht hz (zd := .held z) (zp := []) rfl (keyOf_s hk hs)
 have he : DataW.held ((f s).getD z) = DataW.held v := ((h2 s hs).2 z).symm.trans (tok_inv hv)
 have he2 : (f s).getD z = v := DataW.held.inj he
 rw [he2, ← (h2 s hs).1]
 exact hrun
theorem MapS.update (h : MapS w kt b n f) (hk : Tryz.prog.underlying kt = some .string) (ht : Tryz.prog.underlying t = some (.map kt e)) (hn : n < maxLen) {s : ByteArray} (hs : s.size ≤ maxLen) (v : Value) :
 ∃ w', (Instr.mapUpdate t (.map (some b)) (.string s) v).run Tryz.prog w = .ok () w' ∧ MapS w' kt b (n + 1) (upd f s v) ∧ w.grownBy w' (some b) := by
 obtain ⟨D, h1, h2⟩ := h
 obtain ⟨w', hrun, h3, h4⟩ := h1.update (Maps.string_keyed hk) ht hn (keyOf_s hk hs) (val := v) (d := .held v) (ps := []) rfl
 refine ⟨w', hrun, ⟨_, h3, fun x hx => ?_⟩, h4⟩
 by_cases he : x = s
 · subst he
   have hm : Maps.IsMap D := h1.isMap
   simp only [upd, if_true]
   exact ⟨by rw [Maps.has_put_same hm (by trivial)]; rfl, fun z => by rw [Maps.atKey_put_same hm (by trivial)]; rfl⟩
 · have hne : kLit x ≠ kLit s := fun h => he (kLit_inj h)
   simp only [upd, if_neg he]
   exact ⟨by rw [Maps.has_put_other hne]; exact (h2 x hx).1, fun z => by rw [Maps.atKey_put_other hne]; exact (h2 x hx).2 z⟩
end
def rMap (kt : TypeId) (b n : Nat) (f : ByteArray → Option Value) : Rsc := ⟨fun W => MapS W kt b n f, fun k => k = b⟩
theorem rMap_ok (kt : TypeId) (b n : Nat) (f : ByteArray → Option Value) : (rMap kt b n f).Ok := fun _ _ h hp => hp.block (h b rfl)
theorem Sq.addMap {w W : World} {l : List Rsc} (h : Sq w W l) (kt : TypeId) : Sq w (W.alloc (.map #[] 0)) (rMap kt W.heap.size 0 (fun _ => none) :: l) :=
 h.new_ ((Below.refl _ _).alloc (Nat.le_refl _) _) (MapS.made W kt) (rMap_ok _ _ _ _) (fun g hg => by
  have hg : g = W.heap.size := hg
  subst hg
  exact ⟨Nat.le_refl _, by simp⟩)
theorem Sq.mapSet {w W W' : World} {l : List Rsc} {kt : TypeId} {g n n' : Nat} {f f' : ByteArray → Option Value} (h : Sq w W (rMap kt g n f :: l)) (hm : MapS W' kt g n' f') (hg : W.grownBy W' (some g)) : Sq w W' (rMap kt g n' f' :: l) :=
 h.turn hg (fun k hk => by injection hk with hk; exact hk.symm) hm (rMap_ok _ _ _ _) (fun k hk => by
  have hk : k = g := hk
  subst hk
  exact ⟨.inl rfl, hm.lt⟩)
end Go.Proofs.YtapgnaimbgjcnaaGreatDoor
/-
  A range over a map of the call's own with strings for keys (MapS): which keys have come. No Go text is named here.
-/
namespace Go.Proofs.YtapgnaimbgjcnaaGreatDoor
open Go Go.RowKit
open Go.Maps (Keyed)
def RngS (w : World) (kt : TypeId) (b r n : Nat) (f : ByteArray → Option Value) (seen : List ByteArray) (cnt : Nat) : Prop :=
 ∃ (D : DataW Value) (lf : Lit → Bool), w.ranges Tryz.prog kt tokR b r n D lf cnt ∧ Collected D lf (seen.map (·.data.toList)) ∧
  ∀ s : ByteArray, s.size ≤ maxLen → Maps.has D (kLit s) = (f s).isSome ∧ ∀ z : Value, D.atKey (kLit s) (.held z) = .held ((f s).getD z)
theorem ba_inj {s t : ByteArray} (h : s.data.toList = t.data.toList) : s = t := by
 cases s; cases t
 congr
 exact Array.toList_inj.1 h
theorem mem_bytes {l : List ByteArray} {s : ByteArray} : s.data.toList ∈ l.map (·.data.toList) ↔ s ∈ l := by
 rw [List.mem_map]
 constructor
 · rintro ⟨t, ht, he⟩
   rw [← ba_inj he]; exact ht
 · intro h; exact ⟨s, h, rfl⟩
section
variable {w w' : World} {kt t e : TypeId} {b r n : Nat} {f : ByteArray → Option Value} {seen : List ByteArray} {cnt : Nat}
theorem RngS.map (h : RngS w kt b r n f seen cnt) : MapS w kt b n f := by
 obtain ⟨D, lf, h1, _, h3⟩ := h
 exact ⟨D, h1.owns, h3⟩
theorem RngS.left (h : RngS w kt b r n f seen cnt) : w.rangeLeft b r = cnt := by
 obtain ⟨D, lf, h1, _, _⟩ := h
 exact h1.left_eq
theorem RngS.lt (h : RngS w kt b r n f seen cnt) : b < w.heap.size ∧ r < w.heap.size := by
 obtain ⟨D, lf, h1, _, h3⟩ := h
 exact ⟨h1.owns.lt, h1.lt⟩
theorem RngS.nodup (h : RngS w kt b r n f seen cnt) : seen.Nodup := by
 obtain ⟨D, lf, _, h2, _⟩ := h
 have := h2.1
 unfold List.Nodup at this ⊢
 rw [List.pairwise_map] at this
 exact this.imp (fun hne he => hne (by rw [he]))
theorem RngS.block (h : RngS w kt b r n f seen cnt) (hb : w'.heap[b]? = w.heap[b]?) (hr : w'.heap[r]? = w.heap[r]?) : RngS w' kt b r n f seen cnt := by
 obtain ⟨D, lf, ⟨es, clock, since, sn, c0, e1, e2, e3, e4, e5, e6⟩, h2⟩ := h
 exact ⟨D, lf, ⟨es, clock, since, sn, c0, hb.trans e1, e2, e3, e4, hr.trans e5, e6⟩, h2⟩
theorem MapS.range (h : MapS w kt b n f) (hk : Tryz.prog.underlying kt = some .string) (ht : Tryz.prog.underlying t = some (.map kt e)) :
 ∃ w', (Instr.range t (.map (some b))).run Tryz.prog w = .ok (.pointer (some ⟨w.heap.size, 0, none⟩)) w' ∧ (∃ cnt, RngS w' kt b w.heap.size n f [] cnt) ∧ w.grownBy w' none ∧ w'.heap.size = w.heap.size + 1 := by
 obtain ⟨D, h1, h2⟩ := h
 obtain ⟨w', e1, e2, e3, e4⟩ := h1.range (Maps.string_keyed hk) ht
 exact ⟨w', e1, ⟨_, D, _, e2, Collected.start D, h2⟩, e3, e4⟩
theorem RngS.next (h : RngS w kt b r n f seen cnt) (hk : Tryz.prog.underlying kt = some .string) (ty : TypeId) :
 ((∀ s : ByteArray, s.size ≤ maxLen → ((f s).isSome = true ↔ s ∈ seen)) ∧ (Instr.next (.pointer (some ⟨r, 0, none⟩)) false ty).run Tryz.prog w = .ok (.tuple #[.bool false]) w) ∨
 ∃ s v w' cnt', s ∉ seen ∧ s.size ≤ maxLen ∧ f s = some v ∧ RngS w' kt b r n f (seen ++ [s]) cnt' ∧ cnt' < cnt ∧ w.grownBy w' (some r) ∧ w'.heap.size = w.heap.size ∧
  (Instr.next (.pointer (some ⟨r, 0, none⟩)) false ty).run Tryz.prog w = .ok (.tuple #[.bool true, .string s, v]) w' ∧ (Instr.entry (.pointer (some ⟨r, 0, none⟩))).run Tryz.prog w' = .ok (.tuple #[.string s, v]) w' := by
 obtain ⟨D, lf, h1, h2, h3⟩ := h
 rcases h1.next (Maps.string_keyed hk) ty with ⟨h0, hl, hrun⟩ | ⟨key, v, kl, y, w', cnt', hkey, hlk, hv, hat, hrun, hrg, hlt, hgr, hsz, hen⟩
 · refine .inl ⟨fun s hs => ?_, hrun⟩
   rw [← mem_bytes, h2.2, hl, (show Maps.has D (.string s.data.toList) = (f s).isSome from (h3 s hs).1)]
   simp
 · right
   obtain ⟨x, rfl, rfl, hx⟩ := Maps.keyOf_str hk hkey
   obtain ⟨s, hs⟩ : ∃ s : ByteArray, s.data.toList = x := ⟨⟨x.toArray⟩, by simp⟩
   subst hs
   have hsl : s.size ≤ maxLen := by simpa using hx
   have hsv : Go.Proofs.encStr s.data.toList = .string s := by unfold Go.Proofs.encStr; cases s; simp
   rw [hsv] at hrun hen
   have hnew : s ∉ seen := fun hm => by
    have := ((h2.2 _).1 (mem_bytes.2 hm)).2
    rw [hlk] at this; cases this
   have hhas : Maps.has D (kLit s) = true := Maps.has_true_of_atKey hat
   have hy := tok_inv (z := y.1) (ps := y.2) hv
   have hf : f s = some v := by
    have h4 := (h3 s hsl).1
    rw [hhas] at h4
    obtain ⟨u, hu⟩ := Option.isSome_iff_exists.1 h4.symm
    have h5 := (h3 s hsl).2 v
    rw [hu] at h5
    have h6 := hat (.held v)
    have h7 : D.atKey (kLit s) (.held v) = .held v := h6.trans hy
    rw [h7] at h5
    rw [Option.getD_some] at h5
    rw [hu, DataW.held.inj h5]
   refine ⟨s, v, w', cnt', hnew, hsl, hf, ⟨D, _, hrg, ?_, h3⟩, hlt, hgr, hsz, hrun, hen⟩
   rw [List.map_append]
   exact h2.step hlk hat
end
section
variable {ops : Array Oper} {rest : List Oper} {o : Oper} {a : Act} {Q : Exit → Act → World → Prop}
theorem wpList_range_map (w : World) (hg : o.guard = none) (m : Operand) (t : TypeId) (hop : o.op = Op.range t m) (kt e : TypeId) (hk : Tryz.prog.underlying kt = some .string) (ht : Tryz.prog.underlying t = some (.map kt e)) (b n : Nat) (f : ByteArray → Option Value)
 (hm : a.eval m = .map (some b)) (hown : MapS w kt b n f)
 (hK : ∀ w' cnt, RngS w' kt b w.heap.size n f [] cnt → w.grownBy w' none → w'.heap.size = w.heap.size + 1 → wpList Tryz.prog ops Q rest (a.put o.dst (.pointer (some ⟨w.heap.size, 0, none⟩))) w') :
 wpList Tryz.prog ops Q (o :: rest) a w := by
 refine wpList_plain hg fun K' hK' => ?_
 obtain ⟨w', hrun, ⟨cnt, r1⟩, r2, r3⟩ := hown.range hk ht
 unfold Oper.wp
 simp [execOp, hop, hm, hrun, Result.andThen]
 exact hK' _ _ (hK w' cnt r1 r2 r3)
theorem wpList_next_map (w : World) (hg : o.guard = none) (it : Operand) (hop : o.op = Op.next it false) (kt : TypeId) (hk : Tryz.prog.underlying kt = some .string) (b r n : Nat) (f : ByteArray → Option Value) (seen : List ByteArray) (cnt : Nat)
 (hit : a.eval it = .pointer (some ⟨r, 0, none⟩)) (h : RngS w kt b r n f seen cnt)
 (hDone : (∀ s : ByteArray, s.size ≤ maxLen → ((f s).isSome = true ↔ s ∈ seen)) → wpList Tryz.prog ops Q rest (a.put o.dst (.tuple #[.bool false])) w)
 (hMore : ∀ (s : ByteArray) (v : Value) (w' : World) (cnt' : Nat), s ∉ seen → s.size ≤ maxLen → f s = some v → RngS w' kt b r n f (seen ++ [s]) cnt' → cnt' < cnt → w.grownBy w' (some r) → w'.heap.size = w.heap.size →
  (Instr.entry (.pointer (some ⟨r, 0, none⟩))).run Tryz.prog w' = .ok (.tuple #[.string s, v]) w' → wpList Tryz.prog ops Q rest (a.put o.dst (.tuple #[.bool true, .string s, v])) w') :
 wpList Tryz.prog ops Q (o :: rest) a w := by
 refine wpList_plain hg fun K' hK' => ?_
 unfold Oper.wp
 rcases h.next hk o.type with ⟨h0, hrun⟩ | ⟨s, v, w', cnt', h1, h2, h3, h4, h5, h6, h7, hrun, hen⟩
 · simp [execOp, hop, hit, hrun, Result.andThen]
   exact hK' _ _ (hDone h0)
 · simp [execOp, hop, hit, hrun, Result.andThen]
   exact hK' _ _ (hMore s v w' cnt' h1 h2 h3 h4 h5 h6 h7 hen)
end
def rRng (kt : TypeId) (b r n : Nat) (f : ByteArray → Option Value) (seen : List ByteArray) (cnt : Nat) : Rsc := ⟨fun W => RngS W kt b r n f seen cnt, fun k => k = b ∨ k = r⟩
theorem rRng_ok (kt : TypeId) (b r n : Nat) (f : ByteArray → Option Value) (seen : List ByteArray) (cnt : Nat) : (rRng kt b r n f seen cnt).Ok := fun _ _ h hp => hp.block (h b (.inl rfl)) (h r (.inr rfl))
theorem Sq.rngStart {w W W' : World} {l : List Rsc} {kt : TypeId} {b n : Nat} {f : ByteArray → Option Value} {cnt : Nat} (h : Sq w W (rMap kt b n f :: l)) (hr : RngS W' kt b W.heap.size n f [] cnt) (hg : W.grownBy W' none) : Sq w W' (rRng kt b W.heap.size n f [] cnt :: l) :=
 h.turn hg (fun k hk => by cases hk) hr (rRng_ok _ _ _ _ _ _ _) (fun k hk => by
  rcases hk with hk | hk
  · have hk : k = b := hk
    subst hk
    exact ⟨.inl rfl, hr.lt.1⟩
  · have hk : k = W.heap.size := hk
    subst hk
    exact ⟨.inr (Nat.le_refl _), hr.lt.2⟩)
theorem Sq.rngStep {w W W' : World} {l : List Rsc} {kt : TypeId} {b r n : Nat} {f : ByteArray → Option Value} {seen seen' : List ByteArray} {cnt cnt' : Nat} (h : Sq w W (rRng kt b r n f seen cnt :: l)) (hr : RngS W' kt b r n f seen' cnt') (hg : W.grownBy W' (some r)) : Sq w W' (rRng kt b r n f seen' cnt' :: l) :=
 h.turn hg (fun k hk => by injection hk with hk; exact .inr hk.symm) hr (rRng_ok _ _ _ _ _ _ _) (fun k hk => by
  rcases hk with hk | hk
  · have hk : k = b := hk
    subst hk
    exact ⟨.inl (.inl rfl), hr.lt.1⟩
  · have hk : k = r := hk
    subst hk
    exact ⟨.inl (.inr rfl), hr.lt.2⟩)
end Go.Proofs.YtapgnaimbgjcnaaGreatDoor
/-
  MomentFault of the reference.
-/
namespace Go.Proofs.YtapgnaimbgjcnaaGreatDoor
open Go Go.RowKit
theorem momentFault_calls (u : Int) (w : World) : Calls Tryz.prog 18 #[.int .i64 u] w fun e w' => e = .returned (.int .i64 (if momB u = true then 0 else 1)) ∧ w = w' := by
 have HM := Lib.hid (momentQ_calls u w)
 cases hm : momB u
 · rw [hm] at HM
   clear hm
   go_enter Tryz.func18, Tryz.ntmps18
   go_wp2_with fail
   refine HM.out.mono ?_
   rintro e w1 ⟨rfl, rfl⟩
   go_wp2_with fail
   go_ret
   exact ⟨rfl, rfl⟩
 · rw [hm] at HM
   clear hm
   go_enter Tryz.func18, Tryz.ntmps18
   go_wp2_with fail
   refine HM.out.mono ?_
   rintro e w1 ⟨rfl, rfl⟩
   go_wp2_with fail
   go_ret
   exact ⟨rfl, rfl⟩
end Go.Proofs.YtapgnaimbgjcnaaGreatDoor
/-
  What is wrong with an event, as the reference says it: names that have come. (Printed by gen_ev5.py.)
-/
namespace Go.Proofs.YtapgnaimbgjcnaaGreatDoor
open Go Go.RowKit
def OkN (s k : ByteArray) (b : Bool) : Prop := s = k → b = true
end Go.Proofs.YtapgnaimbgjcnaaGreatDoor
/-
  What is wrong with an event, as the reference says it, kind by kind: splitref2.EventFault. (Printed by gen_ev5.py.)
-/
namespace Go.Proofs.YtapgnaimbgjcnaaGreatDoor
open Go Go.RowKit
attribute [local go_sem ↓] Go.wp_at_zero Go.wp_at_succ
attribute [local go_sem ↓ high] neq_bev
set_option maxRecDepth 100000 in
set_option maxHeartbeats 4000000 in
theorem qevF1_calls (at_ : Int) (id who by_ cat : ByteArray) (ti da : Int) (w : World) (hx : BevW ⟨at_, 1, id, who, by_, cat, ti, da⟩) (ha : momB at_ = true) :
 Calls Tryz.prog 64 #[.agg #[.int .i64 at_, .int .i64 1, .string id, .string who, .string by_, .string cat, .int .i64 ti, .int .i64 da]] w (BRet (.int .i64 (bevF ⟨at_, 1, id, who, by_, cat, ti, da⟩)) w) := by
 have hE := bevF_of ⟨at_, 1, id, who, by_, cat, ti, da⟩ ha (by show outB 1 1 6 = false; decide)
 have hU : bevU ⟨at_, 1, id, who, by_, cat, ti, da⟩ = ⟨at_, 1, id, who, ⟨#[]⟩, cat, ti, da⟩ := by simp [bevU, usI, usW, usB, usS, noBev]
 have hKK : bevK ⟨at_, 1, id, who, by_, cat, ti, da⟩ = (!keyBv id || !keyBv who || !keyBv cat) := by simp [bevK, usI, usW, usB, usS]
 have hSS : usS 1 = true := by decide
 rw [hU, hKK] at hE
 simp only [hSS] at hE
 obtain ⟨E, hEE⟩ : ∃ z, bevF ⟨at_, 1, id, who, by_, cat, ti, da⟩ = z := ⟨_, rfl⟩
 rw [hEE] at hE ⊢
 obtain ⟨SM, hSM⟩ : ∃ z, sameBev ⟨at_, 1, id, who, by_, cat, ti, da⟩ ⟨at_, 1, id, who, ⟨#[]⟩, cat, ti, da⟩ = z := ⟨_, rfl⟩
 rw [hSM] at hE
 have HSM := Lib.hid hSM
 have HMO := Lib.hid (fun W => momentQ_calls at_ W)
 rw [ha] at HMO
 have HIN := Lib.hid (fun W => in_calls 1 1 6 W)
 have HOT := Lib.hid (fun W => in_calls ti 1 864000000 W)
 have HOD := Lib.hid (fun W => in_calls da 0 at_ W)
 obtain ⟨OT, hOT⟩ : ∃ z, outB ti 1 864000000 = z := ⟨_, rfl⟩
 obtain ⟨OD, hOD⟩ : ∃ z, outB da 0 at_ = z := ⟨_, rfl⟩
 rw [hOT] at HOT hE
 rw [hOD] at HOD hE
 clear hOT hOD
 have HKI := Lib.hid (fun W => keyQ_calls id W (by have := hx.hi; unfold maxLen; simp only at this; omega))
 obtain ⟨KI, hKI⟩ : ∃ z, keyBv id = z := ⟨_, rfl⟩
 unfold keyBv at hKI
 rw [hKI] at HKI
 rw [show keyBv id = KI from hKI] at hE
 have HKW := Lib.hid (fun W => keyQ_calls who W (by have := hx.hw; unfold maxLen; simp only at this; omega))
 obtain ⟨KW, hKW⟩ : ∃ z, keyBv who = z := ⟨_, rfl⟩
 unfold keyBv at hKW
 rw [hKW] at HKW
 rw [show keyBv who = KW from hKW] at hE
 have HKC := Lib.hid (fun W => keyQ_calls cat W (by have := hx.hc; unfold maxLen; simp only at this; omega))
 obtain ⟨KC, hKC⟩ : ∃ z, keyBv cat = z := ⟨_, rfl⟩
 unfold keyBv at hKC
 rw [hKC] at HKC
 rw [show keyBv cat = KC from hKC] at hE
 have hmm := @run_makeMap Tryz.prog
 have hS := (Sq.start w).add #[.int .i64 at_, .int .i64 1, .string id, .string who, .string by_, .string cat, .int .i64 ti, .int .i64 da] 78
 obtain ⟨W0, hW0⟩ : ∃ W, w.alloc (.cells #[.int .i64 at_, .int .i64 1, .string id, .string who, .string by_, .string cat, .int .i64 ti, .int .i64 da] 78) = W := ⟨_, rfl⟩
 have HW0 := Lib.hid hW0
 rw [hW0] at hS
 have hk0 : Blk W0 w.heap.size _ _ := hS.head
 have c0 := hk0.cell 0
 have c1 := hk0.cell 1
 clear ha hU hKK hSS hEE hW0 hSM hx hKI hKW hKC
 go_enter Tryz.func64, Tryz.ntmps64
 go_upto_region 1 with (fail)
 rw [HW0.out]
 go_upto_region 6 with (first | (go_at_call 67; refine (HMO.out _).mono ?_; rintro e w1 ⟨rfl, rfl⟩) | (go_at_call 86; refine (HIN.out _).mono ?_; rintro e w2 ⟨rfl, rfl⟩))
 have hA0 := ((hS.add #[.int .i64 at_, .int .i64 1, .string ⟨#[]⟩, .string ⟨#[]⟩, .string ⟨#[]⟩, .string ⟨#[]⟩, .int .i64 0, .int .i64 0] 78).addMap 9)
 have hA1 := ((hS.add #[.int .i64 at_, .int .i64 1, .string id, .string ⟨#[]⟩, .string ⟨#[]⟩, .string ⟨#[]⟩, .int .i64 0, .int .i64 0] 78).addMap 9)
 simp only [World.size_alloc] at hA0 hA1
 have e0 := (show Blk _ w.heap.size _ _ from hA0.nth 2 rfl).cell 2
 have e1 := (show Blk _ W0.heap.size _ _ from hA0.nth 1 rfl).cell 2
 have e2 := (show Blk _ W0.heap.size _ _ from hA0.nth 1 rfl).frozen 2
 have hmA : MapS _ _ _ _ _ := hA1.head
 obtain ⟨V0, hrun0, hm0, hg0⟩ := hmA.update Tryz.underlying9 Tryz.underlying172 (by unfold maxLen; omega) (s := ⟨#[105, 100]⟩) (by decide) (.pointer (some ⟨w.heap.size, 2, none⟩))
 have hB0 := hA1.mapSet hm0 hg0
 have kk0 := (show Blk _ w.heap.size _ _ from hB0.nth 2 rfl).cell 1
 clear hA0 hA1 hmA hm0 hg0
 go_upto_region 11 with (fail)
 clear e0 e1 e2 hrun0
 have e0 := (show Blk _ w.heap.size _ _ from hB0.nth 2 rfl).cell 3
 have e1 := (show Blk _ W0.heap.size _ _ from hB0.nth 1 rfl).cell 3
 have e2 := (show Blk _ W0.heap.size _ _ from hB0.nth 1 rfl).frozen 3
 have hC1 := (((hB0.front 1 rfl rfl).set_ 3 (.string who)).front 1 rfl rfl)
 have hmA : MapS _ _ _ _ _ := hC1.head
 obtain ⟨V1, hrun1, hm1, hg1⟩ := hmA.update Tryz.underlying9 Tryz.underlying172 (by unfold maxLen; omega) (s := ⟨#[119, 104, 111]⟩) (by decide) (.pointer (some ⟨w.heap.size, 3, none⟩))
 have hB1 := hC1.mapSet hm1 hg1
 have kk1 := (show Blk _ w.heap.size _ _ from hB1.nth 2 rfl).cell 1
 have mm1 := (show Blk _ w.heap.size _ _ from hC1.nth 2 rfl).cell 1
 clear hC1 hmA hm1 hg1 hB0
 go_upto_region 15 with (fail)
 clear e0 e1 e2 hrun1
 have e0 := (show Blk _ w.heap.size _ _ from hB1.nth 2 rfl).cell 5
 have e1 := (show Blk _ W0.heap.size _ _ from hB1.nth 1 rfl).cell 5
 have e2 := (show Blk _ W0.heap.size _ _ from hB1.nth 1 rfl).frozen 5
 have hC2 := (((hB1.front 1 rfl rfl).set_ 5 (.string cat)).front 1 rfl rfl)
 have hmA : MapS _ _ _ _ _ := hC2.head
 obtain ⟨V2, hrun2, hm2, hg2⟩ := hmA.update Tryz.underlying9 Tryz.underlying172 (by unfold maxLen; omega) (s := ⟨#[99, 97, 116, 101, 103, 111, 114, 121]⟩) (by decide) (.pointer (some ⟨w.heap.size, 5, none⟩))
 have hB2 := hC2.mapSet hm2 hg2
 have kk2 := (show Blk _ w.heap.size _ _ from hB2.nth 2 rfl).cell 1
 have mm2 := (show Blk _ w.heap.size _ _ from hC2.nth 2 rfl).cell 1
 clear hC2 hmA hm2 hg2 hB1
 go_upto_region 16 with (fail)
 have hD : Sq w V2 [rMap 9 (W0.heap.size + 1) 3 (upd (upd (upd (fun _ => none) ⟨#[105, 100]⟩ (.pointer (some ⟨w.heap.size, 2, none⟩))) ⟨#[119, 104, 111]⟩ (.pointer (some ⟨w.heap.size, 3, none⟩))) ⟨#[99, 97, 116, 101, 103, 111, 114, 121]⟩ (.pointer (some ⟨w.heap.size, 5, none⟩))), rBlk W0.heap.size 78 #[.int .i64 at_, .int .i64 1, .string id, .string who, .string ⟨#[]⟩, .string cat, .int .i64 0, .int .i64 0], rBlk w.heap.size 78 #[.int .i64 at_, .int .i64 1, .string id, .string who, .string by_, .string cat, .int .i64 ti, .int .i64 da]] := hB2
 have HC6 : Hid (∀ V u l, Sq w V [l, rBlk W0.heap.size 78 u, rBlk w.heap.size 78 #[.int .i64 at_, .int .i64 1, .string id, .string who, .string by_, .string cat, .int .i64 ti, .int .i64 da]] → V.cell? ⟨w.heap.size, 6, none⟩ = some (.int .i64 ti) ∧ V.cell? ⟨w.heap.size, 7, none⟩ = some (.int .i64 da)) := Lib.hid (fun V u l h => by
  have g := (show Blk V w.heap.size _ _ from h.nth 2 rfl)
  exact ⟨g.cell 6, g.cell 7⟩)
 have hD0 := hD.drew
 have hE6 := ((hD.front 1 rfl rfl).set_ 6 (.int .i64 ti)).front 1 rfl rfl
 have hE7 := ((hD.front 1 rfl rfl).set_ 7 (.int .i64 da)).front 1 rfl rfl
 have hD6 : Sq w (V2.setCell ⟨W0.heap.size, 6, none⟩ (.int .i64 ti)).drew [rMap 9 (W0.heap.size + 1) 3 (upd (upd (upd (fun _ => none) ⟨#[105, 100]⟩ (.pointer (some ⟨w.heap.size, 2, none⟩))) ⟨#[119, 104, 111]⟩ (.pointer (some ⟨w.heap.size, 3, none⟩))) ⟨#[99, 97, 116, 101, 103, 111, 114, 121]⟩ (.pointer (some ⟨w.heap.size, 5, none⟩))), rBlk W0.heap.size 78 #[.int .i64 at_, .int .i64 1, .string id, .string who, .string ⟨#[]⟩, .string cat, .int .i64 ti, .int .i64 0], rBlk w.heap.size 78 #[.int .i64 at_, .int .i64 1, .string id, .string who, .string by_, .string cat, .int .i64 ti, .int .i64 da]] := hE6.drew
 have hD7 : Sq w (V2.setCell ⟨W0.heap.size, 7, none⟩ (.int .i64 da)).drew [rMap 9 (W0.heap.size + 1) 3 (upd (upd (upd (fun _ => none) ⟨#[105, 100]⟩ (.pointer (some ⟨w.heap.size, 2, none⟩))) ⟨#[119, 104, 111]⟩ (.pointer (some ⟨w.heap.size, 3, none⟩))) ⟨#[99, 97, 116, 101, 103, 111, 114, 121]⟩ (.pointer (some ⟨w.heap.size, 5, none⟩))), rBlk W0.heap.size 78 #[.int .i64 at_, .int .i64 1, .string id, .string who, .string ⟨#[]⟩, .string cat, .int .i64 0, .int .i64 da], rBlk w.heap.size 78 #[.int .i64 at_, .int .i64 1, .string id, .string who, .string by_, .string cat, .int .i64 ti, .int .i64 da]] := hE7.drew
 have hD67 : Sq w ((V2.setCell ⟨W0.heap.size, 6, none⟩ (.int .i64 ti)).setCell ⟨W0.heap.size, 7, none⟩ (.int .i64 da)).drew [rMap 9 (W0.heap.size + 1) 3 (upd (upd (upd (fun _ => none) ⟨#[105, 100]⟩ (.pointer (some ⟨w.heap.size, 2, none⟩))) ⟨#[119, 104, 111]⟩ (.pointer (some ⟨w.heap.size, 3, none⟩))) ⟨#[99, 97, 116, 101, 103, 111, 114, 121]⟩ (.pointer (some ⟨w.heap.size, 5, none⟩))), rBlk W0.heap.size 78 #[.int .i64 at_, .int .i64 1, .string id, .string who, .string ⟨#[]⟩, .string cat, .int .i64 ti, .int .i64 da], rBlk w.heap.size 78 #[.int .i64 at_, .int .i64 1, .string id, .string who, .string by_, .string cat, .int .i64 ti, .int .i64 da]] := (((hE6.front 1 rfl rfl).set_ 7 (.int .i64 da)).front 1 rfl rfl).drew
 have hD76 : Sq w ((V2.setCell ⟨W0.heap.size, 7, none⟩ (.int .i64 da)).setCell ⟨W0.heap.size, 6, none⟩ (.int .i64 ti)).drew [rMap 9 (W0.heap.size + 1) 3 (upd (upd (upd (fun _ => none) ⟨#[105, 100]⟩ (.pointer (some ⟨w.heap.size, 2, none⟩))) ⟨#[119, 104, 111]⟩ (.pointer (some ⟨w.heap.size, 3, none⟩))) ⟨#[99, 97, 116, 101, 103, 111, 114, 121]⟩ (.pointer (some ⟨w.heap.size, 5, none⟩))), rBlk W0.heap.size 78 #[.int .i64 at_, .int .i64 1, .string id, .string who, .string ⟨#[]⟩, .string cat, .int .i64 ti, .int .i64 da], rBlk w.heap.size 78 #[.int .i64 at_, .int .i64 1, .string id, .string who, .string by_, .string cat, .int .i64 ti, .int .i64 da]] := (((hE7.front 1 rfl rfl).set_ 6 (.int .i64 ti)).front 1 rfl rfl).drew
 have u6 := (show Blk V2 W0.heap.size _ _ from hD.nth 1 rfl).cell 6
 have u7 := (show Blk V2 W0.heap.size _ _ from hD.nth 1 rfl).cell 7
 have v6 := (show Blk V2 W0.heap.size _ _ from hD.nth 1 rfl).frozen 6
 have v7 := (show Blk V2 W0.heap.size _ _ from hD.nth 1 rfl).frozen 7
 have r67 := (show Blk _ W0.heap.size _ _ from hD6.nth 1 rfl).cell 7
 have q67 := (show Blk _ W0.heap.size _ _ from hD6.nth 1 rfl).frozen 7
 have r76 := (show Blk _ W0.heap.size _ _ from hD7.nth 1 rfl).cell 6
 have q76 := (show Blk _ W0.heap.size _ _ from hD7.nth 1 rfl).frozen 6
 go_cut [] (fun V => Sq w V [rMap 9 (W0.heap.size + 1) 3 (upd (upd (upd (fun _ => none) ⟨#[105, 100]⟩ (.pointer (some ⟨w.heap.size, 2, none⟩))) ⟨#[119, 104, 111]⟩ (.pointer (some ⟨w.heap.size, 3, none⟩))) ⟨#[99, 97, 116, 101, 103, 111, 114, 121]⟩ (.pointer (some ⟨w.heap.size, 5, none⟩))), rBlk W0.heap.size 78 #[.int .i64 at_, .int .i64 1, .string id, .string who, .string ⟨#[]⟩, .string cat, .int .i64 ti, .int .i64 da], rBlk w.heap.size 78 #[.int .i64 at_, .int .i64 1, .string id, .string who, .string by_, .string cat, .int .i64 ti, .int .i64 da]])
 case first =>
  clear hE
  go_region_held3 (fun V => V.cell? ⟨w.heap.size, 6, none⟩ = some (.int .i64 ti) ∧ V.cell? ⟨w.heap.size, 7, none⟩ = some (.int .i64 da))
   (first | with_reducible exact HC6.out _ _ _ hD0 | with_reducible exact HC6.out _ _ _ hD6 | with_reducible exact HC6.out _ _ _ hD7 | with_reducible exact HC6.out _ _ _ hD67 | with_reducible exact HC6.out _ _ _ hD76)
   (fail)
  all_goals
   go_wp2_with fail
   go_meet
   first | exact hD67 | exact hD76
 obtain ⟨V9, hV9⟩ : ∃ z, z = wc := ⟨_, rfl⟩
 subst hV9
 clear hD hD0 hE6 hE7 hD6 hD7 hD67 hD76 u6 u7 v6 v7 r67 q67 r76 q76 HC6
 go_upto_region 17 with (fail)
 have hB : Sq w V9 [rMap 9 (W0.heap.size + 1) 3 (upd (upd (upd (fun _ => none) ⟨#[105, 100]⟩ (.pointer (some ⟨w.heap.size, 2, none⟩))) ⟨#[119, 104, 111]⟩ (.pointer (some ⟨w.heap.size, 3, none⟩))) ⟨#[99, 97, 116, 101, 103, 111, 114, 121]⟩ (.pointer (some ⟨w.heap.size, 5, none⟩))), rBlk W0.heap.size 78 #[.int .i64 at_, .int .i64 1, .string id, .string who, .string ⟨#[]⟩, .string cat, .int .i64 ti, .int .i64 da], rBlk w.heap.size 78 #[.int .i64 at_, .int .i64 1, .string id, .string who, .string by_, .string cat, .int .i64 ti, .int .i64 da]] := hcut
 have HINV : Hid (∀ s v, (upd (upd (upd (fun _ => none) ⟨#[105, 100]⟩ (.pointer (some ⟨w.heap.size, 2, none⟩))) ⟨#[119, 104, 111]⟩ (.pointer (some ⟨w.heap.size, 3, none⟩))) ⟨#[99, 97, 116, 101, 103, 111, 114, 121]⟩ (.pointer (some ⟨w.heap.size, 5, none⟩))) s = some v → (s = (⟨#[105, 100]⟩ : ByteArray) ∧ v = .pointer (some ⟨w.heap.size, 2, none⟩)) ∨ (s = (⟨#[119, 104, 111]⟩ : ByteArray) ∧ v = .pointer (some ⟨w.heap.size, 3, none⟩)) ∨ (s = (⟨#[99, 97, 116, 101, 103, 111, 114, 121]⟩ : ByteArray) ∧ v = .pointer (some ⟨w.heap.size, 5, none⟩))) := Lib.hid (fun s v h => by
  simp only [upd] at h
  repeat' split at h
  all_goals first
   | (cases h; done)
   | (rename_i h1; injection h with h; subst h h1; simp))
 have HSOME : Hid (((upd (upd (upd (fun _ => none) ⟨#[105, 100]⟩ (.pointer (some ⟨w.heap.size, 2, none⟩))) ⟨#[119, 104, 111]⟩ (.pointer (some ⟨w.heap.size, 3, none⟩))) ⟨#[99, 97, 116, 101, 103, 111, 114, 121]⟩ (.pointer (some ⟨w.heap.size, 5, none⟩))) ⟨#[105, 100]⟩).isSome = true ∧ ((upd (upd (upd (fun _ => none) ⟨#[105, 100]⟩ (.pointer (some ⟨w.heap.size, 2, none⟩))) ⟨#[119, 104, 111]⟩ (.pointer (some ⟨w.heap.size, 3, none⟩))) ⟨#[99, 97, 116, 101, 103, 111, 114, 121]⟩ (.pointer (some ⟨w.heap.size, 5, none⟩))) ⟨#[119, 104, 111]⟩).isSome = true ∧ ((upd (upd (upd (fun _ => none) ⟨#[105, 100]⟩ (.pointer (some ⟨w.heap.size, 2, none⟩))) ⟨#[119, 104, 111]⟩ (.pointer (some ⟨w.heap.size, 3, none⟩))) ⟨#[99, 97, 116, 101, 103, 111, 114, 121]⟩ (.pointer (some ⟨w.heap.size, 5, none⟩))) ⟨#[99, 97, 116, 101, 103, 111, 114, 121]⟩).isSome = true) := Lib.hid (by simp [upd])
 obtain ⟨f, hf⟩ : ∃ z, (upd (upd (upd (fun _ => none) ⟨#[105, 100]⟩ (.pointer (some ⟨w.heap.size, 2, none⟩))) ⟨#[119, 104, 111]⟩ (.pointer (some ⟨w.heap.size, 3, none⟩))) ⟨#[99, 97, 116, 101, 103, 111, 114, 121]⟩ (.pointer (some ⟨w.heap.size, 5, none⟩))) = z := ⟨_, rfl⟩
 rw [hf] at hB HINV HSOME
 obtain ⟨mb, hmb⟩ : ∃ z, W0.heap.size + 1 = z := ⟨_, rfl⟩
 rw [hmb] at hB ⊢
 obtain ⟨H1, hH1⟩ : ∃ z, W0.heap.size = z := ⟨_, rfl⟩
 rw [hH1] at hB ⊢
 clear hB2 hrun2 kk0 kk1 kk2 mm1 mm2 e0 e1 e2 c0 c1 hmb hH1 hf hk0 hmm HW0 HMO HIN
 have HMP : MapS V9 9 mb 3 f := hB.head
 go_wp2_with (first | (at_range; refine wpList_range_map _ rfl _ 172 rfl 9 173 Tryz.underlying9 Tryz.underlying172 mb 3 f rfl HMP ?_; intro w0 cnt0 hr0 hg0 hs0))
 go_frame
 have hS0 := hB.rngStart hr0 hg0
 obtain ⟨r, hr⟩ : ∃ r, r = V9.heap.size := ⟨_, rfl⟩
 rw [← hr] at hS0 ⊢
 clear hB hr0 hg0 hs0 HMP hr
 go_loopw [] (fun wq => ∃ (seen : List ByteArray) (cnt : Nat), Hid (∀ s ∈ seen, OkN s ⟨#[105, 100]⟩ KI ∧ OkN s ⟨#[119, 104, 111]⟩ KW ∧ OkN s ⟨#[99, 97, 116, 101, 103, 111, 114, 121]⟩ KC) ∧ Sq w wq [rRng 9 mb r 3 f seen cnt, rBlk H1 78 #[.int .i64 at_, .int .i64 1, .string id, .string who, .string ⟨#[]⟩, .string cat, .int .i64 ti, .int .i64 da], rBlk w.heap.size 78 #[.int .i64 at_, .int .i64 1, .string id, .string who, .string by_, .string cat, .int .i64 ti, .int .i64 da]]) (fun wq => wq.rangeLeft mb r)
 case atStart => exact ⟨[], cnt0, Lib.hid (fun s hs => by cases hs), hS0⟩
 case round =>
  clear hS0
  obtain ⟨seen, cnt, HM, hR⟩ := hrel
  have hrg : RngS wr 9 mb r 3 f seen cnt := hR.head
  go_wp2_with (first | (at_next; refine wpList_next_map _ rfl _ rfl 9 Tryz.underlying9 mb r 3 f seen cnt rfl hrg ?_ ?_))
  · intro hdone
    have hKI : KI = true := (HM.out _ ((hdone ⟨#[105, 100]⟩ (by decide)).1 HSOME.out.1)).1 rfl
    have hKW : KW = true := (HM.out _ ((hdone ⟨#[119, 104, 111]⟩ (by decide)).1 HSOME.out.2.1)).2.1 rfl
    have hKC : KC = true := (HM.out _ ((hdone ⟨#[99, 97, 116, 101, 103, 111, 114, 121]⟩ (by decide)).1 HSOME.out.2.2)).2.2 rfl
    subst hKI hKW hKC
    have hSM : sameBev ⟨at_, 1, id, who, by_, cat, ti, da⟩ ⟨at_, 1, id, who, ⟨#[]⟩, cat, ti, da⟩ = SM := HSM.out
    have x0 := (show Blk wr w.heap.size _ _ from hR.nth 2 rfl).cell 0
    have x1 := (show Blk wr w.heap.size _ _ from hR.nth 2 rfl).cell 1
    have x2 := (show Blk wr w.heap.size _ _ from hR.nth 2 rfl).cell 2
    have x3 := (show Blk wr w.heap.size _ _ from hR.nth 2 rfl).cell 3
    have x4 := (show Blk wr w.heap.size _ _ from hR.nth 2 rfl).cell 4
    have x5 := (show Blk wr w.heap.size _ _ from hR.nth 2 rfl).cell 5
    have x6 := (show Blk wr w.heap.size _ _ from hR.nth 2 rfl).cell 6
    have x7 := (show Blk wr w.heap.size _ _ from hR.nth 2 rfl).cell 7
    have y0 := (show Blk wr H1 _ _ from hR.nth 1 rfl).cell 0
    have y1 := (show Blk wr H1 _ _ from hR.nth 1 rfl).cell 1
    have y2 := (show Blk wr H1 _ _ from hR.nth 1 rfl).cell 2
    have y3 := (show Blk wr H1 _ _ from hR.nth 1 rfl).cell 3
    have y4 := (show Blk wr H1 _ _ from hR.nth 1 rfl).cell 4
    have y5 := (show Blk wr H1 _ _ from hR.nth 1 rfl).cell 5
    have y6 := (show Blk wr H1 _ _ from hR.nth 1 rfl).cell 6
    have y7 := (show Blk wr H1 _ _ from hR.nth 1 rfl).cell 7
    have HBE := Lib.hid hR.below
    clear hR hrg hdone HM HSOME HINV
    cases OT
    · cases OD
      · cases SM
        · replace hE : E = 3 := by rw [hE]; rfl
          subst hE
          go_wp2_with (first | (go_at_call 86; (with_reducible refine (HOT.out _).mono ?_); rintro e w5 ⟨rfl, rfl⟩) | (go_at_call 86; (with_reducible refine (HOD.out _).mono ?_); rintro e w6 ⟨rfl, rfl⟩))
          go_ret
          exact ⟨rfl, HBE.out⟩
        · replace hE : E = 0 := by rw [hE]; rfl
          subst hE
          go_wp2_with (first | (go_at_call 86; (with_reducible refine (HOT.out _).mono ?_); rintro e w5 ⟨rfl, rfl⟩) | (go_at_call 86; (with_reducible refine (HOD.out _).mono ?_); rintro e w6 ⟨rfl, rfl⟩))
          go_ret
          exact ⟨rfl, HBE.out⟩
      · replace hE : E = 1 := by rw [hE]; rfl
        clear hSM
        subst hE
        go_wp2_with (first | (go_at_call 86; (with_reducible refine (HOT.out _).mono ?_); rintro e w5 ⟨rfl, rfl⟩) | (go_at_call 86; (with_reducible refine (HOD.out _).mono ?_); rintro e w6 ⟨rfl, rfl⟩))
        go_ret
        exact ⟨rfl, HBE.out⟩
    · replace hE : E = 1 := by rw [hE]; rfl
      clear hSM
      subst hE
      go_wp2_with (first | (go_at_call 86; (with_reducible refine (HOT.out _).mono ?_); rintro e w5 ⟨rfl, rfl⟩) | (go_at_call 86; (with_reducible refine (HOD.out _).mono ?_); rintro e w6 ⟨rfl, rfl⟩))
      go_ret
      exact ⟨rfl, HBE.out⟩
  · intro s v w2 cnt2 hnew hsl hf hrg2 hlt2 hg2 hs2 hen
    have hl2 : wr.rangeLeft mb r = cnt := hrg.left
    have hR2 := hR.rngStep hrg2 hg2
    have hev : Blk w2 w.heap.size _ _ := hR2.nth 2 rfl
    rcases HINV.out s v hf with ⟨rfl, rfl⟩ | ⟨rfl, rfl⟩ | ⟨rfl, rfl⟩
    · have c0 := hev.cell 2
      have HM2 : Hid (KI = true → ∀ s ∈ seen ++ [(⟨#[105, 100]⟩ : ByteArray)], OkN s ⟨#[105, 100]⟩ KI ∧ OkN s ⟨#[119, 104, 111]⟩ KW ∧ OkN s ⟨#[99, 97, 116, 101, 103, 111, 114, 121]⟩ KC) := Lib.hid (fun hk s hs => by
       rcases List.mem_append.1 hs with hs | hs
       · exact HM.out s hs
       · obtain rfl := List.mem_singleton.1 hs
         simp [OkN, hk])
      clear hR hrg hrg2 hg2 hs2 hf hnew hev HM
      cases KI
      · have hEE : E = 5 := by rw [hE]; simp
        clear hE
        subst hEE
        go_wp2_with (first | (go_at_call 66; (with_reducible refine (HKI.out _).mono ?_); rintro e w5 ⟨rfl, rfl⟩))
        go_ret
        exact ⟨rfl, hR2.below⟩
      · have HM3 := Lib.hid (HM2.out rfl)
        go_wp2_with (first | (go_at_call 66; (with_reducible refine (HKI.out _).mono ?_); rintro e w5 ⟨rfl, rfl⟩))
        go_roundw
        case rel => exact ⟨_, _, _, _, _, _, _, _, _, _, _, ⟨_, cnt2, HM3, hR2⟩, rfl⟩
        case measure => rw [hl2]; exact Nat.lt_of_le_of_lt (Nat.le_of_eq (RngS.left hR2.head)) hlt2
    · have c0 := hev.cell 3
      have HM2 : Hid (KW = true → ∀ s ∈ seen ++ [(⟨#[119, 104, 111]⟩ : ByteArray)], OkN s ⟨#[105, 100]⟩ KI ∧ OkN s ⟨#[119, 104, 111]⟩ KW ∧ OkN s ⟨#[99, 97, 116, 101, 103, 111, 114, 121]⟩ KC) := Lib.hid (fun hk s hs => by
       rcases List.mem_append.1 hs with hs | hs
       · exact HM.out s hs
       · obtain rfl := List.mem_singleton.1 hs
         simp [OkN, hk])
      clear hR hrg hrg2 hg2 hs2 hf hnew hev HM
      cases KW
      · have hEE : E = 5 := by rw [hE]; simp
        clear hE
        subst hEE
        go_wp2_with (first | (go_at_call 66; (with_reducible refine (HKW.out _).mono ?_); rintro e w5 ⟨rfl, rfl⟩))
        go_ret
        exact ⟨rfl, hR2.below⟩
      · have HM3 := Lib.hid (HM2.out rfl)
        go_wp2_with (first | (go_at_call 66; (with_reducible refine (HKW.out _).mono ?_); rintro e w5 ⟨rfl, rfl⟩))
        go_roundw
        case rel => exact ⟨_, _, _, _, _, _, _, _, _, _, _, ⟨_, cnt2, HM3, hR2⟩, rfl⟩
        case measure => rw [hl2]; exact Nat.lt_of_le_of_lt (Nat.le_of_eq (RngS.left hR2.head)) hlt2
    · have c0 := hev.cell 5
      have HM2 : Hid (KC = true → ∀ s ∈ seen ++ [(⟨#[99, 97, 116, 101, 103, 111, 114, 121]⟩ : ByteArray)], OkN s ⟨#[105, 100]⟩ KI ∧ OkN s ⟨#[119, 104, 111]⟩ KW ∧ OkN s ⟨#[99, 97, 116, 101, 103, 111, 114, 121]⟩ KC) := Lib.hid (fun hk s hs => by
       rcases List.mem_append.1 hs with hs | hs
       · exact HM.out s hs
       · obtain rfl := List.mem_singleton.1 hs
         simp [OkN, hk])
      clear hR hrg hrg2 hg2 hs2 hf hnew hev HM
      cases KC
      · have hEE : E = 5 := by rw [hE]; simp
        clear hE
        subst hEE
        go_wp2_with (first | (go_at_call 66; (with_reducible refine (HKC.out _).mono ?_); rintro e w5 ⟨rfl, rfl⟩))
        go_ret
        exact ⟨rfl, hR2.below⟩
      · have HM3 := Lib.hid (HM2.out rfl)
        go_wp2_with (first | (go_at_call 66; (with_reducible refine (HKC.out _).mono ?_); rintro e w5 ⟨rfl, rfl⟩))
        go_roundw
        case rel => exact ⟨_, _, _, _, _, _, _, _, _, _, _, ⟨_, cnt2, HM3, hR2⟩, rfl⟩
        case measure => rw [hl2]; exact Nat.lt_of_le_of_lt (Nat.le_of_eq (RngS.left hR2.head)) hlt2
end Go.Proofs.YtapgnaimbgjcnaaGreatDoor
