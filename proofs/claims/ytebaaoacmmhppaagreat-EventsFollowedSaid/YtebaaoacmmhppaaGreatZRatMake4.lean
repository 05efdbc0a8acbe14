/-
  Ranks as the stream makes them, by a contract.
-/
import Derived.Test.YtebaaoacmmhppaaGreatZFlat
import Derived.Test.YtebaaoacmmhppaaGreatZBase
import Derived.Outline
import Derived.RegionTactic
import Derived.ChangeAlike
import Derived.BigRegion
import Derived.Deep.RegionLaw
import Derived.Deep.RegionWith
import Derived.Deep.DrawnRows
import Derived.Deep.DeepMust
import Derived.Test.YtebaaoacmmhppaaGreatZSlotPure
import Derived.Lib.SliceRun
import Derived.Laws.AppendOwnNone
import Derived.Deep.DeepCutAuto
import Derived.Deep.RegionHeld3
import Derived.Deep.QuietTactic
import Derived.Test.YtebaaoacmmhppaaGreatProg
import Derived.Maps.OwnSet
import Derived.Maps.OwnOps
import Derived.Maps.Views
import Derived.Maps.RangeWalk
import Derived.Sort.KeysCollected
namespace Go.Proofs.YtebaaoacmmhppaaGreat
open Go Go.RowKit
attribute [local go_sem ↓] Go.wp_at_zero Go.wp_at_succ

theorem size1 (w : World) (o : Obj) : (w.alloc o).heap.size = w.heap.size + 1 := by simp
end Go.Proofs.YtebaaoacmmhppaaGreat
/-
  slices.Clone of strings, marathon.needed and splitref2.people by contracts. (Printed by gen_slot4.py.)
-/
namespace Go.Proofs.YtebaaoacmmhppaaGreat
open Go Go.RowKit
attribute [local go_sem ↓] Go.wp_at_zero Go.wp_at_succ

theorem info_str : (Tryz.prog.info? 9).map (fun i => (i.zero, i.size, i.bytes)) = some (some (.string ⟨#[]⟩), 1, 16) := by kernel_rfl
theorem one1 {x : Value} (hx : x.oneCell' = true) : ∀ u ∈ [x], u.oneCell' = true := by
  intro u hu
  simp at hu
  subst hu
  exact hx
end Go.Proofs.YtebaaoacmmhppaaGreat
/-
  marathon.end, splitref2.endOf, both Moment, fromFault and FromFault by contracts. (Printed by gen_slot6.py.)
-/
namespace Go.Proofs.YtebaaoacmmhppaaGreat
open Go Go.RowKit

theorem moment_calls (f : Int) (w : World) : Calls Tryz.prog 56 #[.int .i64 f] w fun e w' => e = .returned (.bool (momB f)) ∧ w = w' := by
  have HM : Hid ((!outB f 0 345686399999) = momB f) := rfl
  go_enter Tryz.func56, Tryz.ntmps56
  go_wp2_with fail
  refine (out_calls _ _ _ _).mono ?_
  rintro e w1 ⟨rfl, rfl⟩
  go_wp2_with fail
  go_ret
  exact ⟨ret_bool HM.out, rfl⟩
theorem momentQ_calls (f : Int) (w : World) : Calls Tryz.prog 59 #[.int .i64 f] w fun e w' => e = .returned (.bool (momB f)) ∧ w = w' := by
  have HM : Hid ((!outB f 0 345686399999) = momB f) := rfl
  go_enter Tryz.func59, Tryz.ntmps59
  go_wp2_with fail
  refine (in_calls _ _ _ _).mono ?_
  rintro e w1 ⟨rfl, rfl⟩
  rw [HM.out]
  go_wp2_with fail
  go_ret
  exact ⟨rfl, rfl⟩

end Go.Proofs.YtebaaoacmmhppaaGreat
/-
  What is wrong with an event: board.eventFault by a contract. (Printed by gen_ev1.py.)
-/
namespace Go.Proofs.YtebaaoacmmhppaaGreat
open Go Go.RowKit
attribute [local go_sem ↓] Go.wp_at_zero Go.wp_at_succ

theorem uses_calls (w : World) : Calls Tryz.prog 100 #[] w fun e w' => e = .returned (.slice (some ⟨w.heap.size, 0, none⟩) 6 6) ∧ w' = w.alloc (.cells #[.string ⟨#[115, 101, 110, 116]⟩, .bool true, .bool true, .bool false, .bool true, .string ⟨#[118, 101, 114, 105, 102, 105, 101, 100]⟩, .bool true, .bool false, .bool true, .bool false, .string ⟨#[114, 101, 102, 117, 115, 101, 100]⟩, .bool true, .bool false, .bool true, .bool false, .string ⟨#[98, 97, 99, 107]⟩, .bool true, .bool true, .bool false, .bool false, .string ⟨#[98, 97, 110, 110, 101, 100]⟩, .bool false, .bool true, .bool true, .bool false, .string ⟨#[102, 114, 101, 101, 100]⟩, .bool false, .bool true, .bool true, .bool false] 129) := by
  go_enter Tryz.func100, Tryz.ntmps100
  go_wp2_with fail
  go_ret
  exact ⟨rfl, rfl⟩
theorem neq_bev (a1 k1 t1 d1 a2 k2 t2 d2 : Int) (i1 w1 b1 c1 i2 w2 b2 c2 : ByteArray) (w : World) : (binOp .neq 62 (.agg #[.int .i64 a1, .int .i64 k1, .string i1, .string w1, .string b1, .string c1, .int .i64 t1, .int .i64 d1]) (.agg #[.int .i64 a2, .int .i64 k2, .string i2, .string w2, .string b2, .string c2, .int .i64 t2, .int .i64 d2])).run Tryz.prog w = .ok (.bool (!sameBev ⟨a1, k1, i1, w1, b1, c1, t1, d1⟩ ⟨a2, k2, i2, w2, b2, c2, t2, d2⟩)) w := by
  simp only [sameBev, eqS]
  simp [go_sem]
  by_cases h1 : a1 = a2 <;> by_cases h2 : k1 = k2 <;> by_cases h3 : i1.toList = i2.toList <;> by_cases h4 : w1.toList = w2.toList <;> by_cases h5 : b1.toList = b2.toList <;> by_cases h6 : c1.toList = c2.toList <;> by_cases h7 : t1 = t2 <;> by_cases h8 : d1 = d2 <;> simp [h1, h2, h3, h4, h5, h6, h7, h8]
attribute [local go_sem ↓ high] neq_bev
theorem bevF_of (x : Bev) (ha : momB x.at_ = true) (hk : outB x.kind 1 6 = false) : bevF x = if bevK x = true then 5 else if (usS x.kind && (outB x.time 1 864000000 || outB x.date 0 x.at_)) = true then 1 else if sameBev x (bevU x) = true then 0 else 3 := by
  unfold bevF
  rw [if_pos ha, if_neg (by rw [hk]; decide)]
end Go.Proofs.YtebaaoacmmhppaaGreat
/-
  A map of the call's own with strings for keys, whatever its elements: MapS says what stands at each key. No Go text is named here.
-/
namespace Go.Proofs.YtebaaoacmmhppaaGreat
open Go Go.RowKit
open Go.Maps (Keyed)

/-- an element stands for itself -/
def tokR (v : Value) : Option (DataW Value × List MemPlace) := some (.held v, [])
def kLit (s : ByteArray) : Lit := .string s.data.toList
theorem kLit_inj {s t : ByteArray} (h : kLit s = kLit t) : s = t := by
  unfold kLit at h
  injection h with h
  cases s; cases t
  congr
  exact Array.toList_inj.1 h
/-- block b of w is a map from strings (type kt) with at most n entries; f s: what stands at s -/
def MapS (w : World) (kt : TypeId) (b n : Nat) (f : ByteArray → Option Value) : Prop :=
  ∃ D : DataW Value, w.ownsMap Tryz.prog kt tokR b n D ∧ ∀ s : ByteArray, s.size ≤ maxLen → Maps.has D (kLit s) = (f s).isSome ∧ ∀ z : Value, D.atKey (kLit s) (.held z) = .held ((f s).getD z)
def upd (f : ByteArray → Option Value) (s : ByteArray) (v : Value) : ByteArray → Option Value := fun t => if t = s then some v else f t
theorem keyOf_s {kt : TypeId} (hk : Tryz.prog.underlying kt = some .string) {s : ByteArray} (hs : s.size ≤ maxLen) : keyOf Tryz.prog kt (.string s) = some (kLit s) := WideMaps.keyOf_string_mk hk hs
section
variable {w w' : World} {kt t e : TypeId} {b n : Nat} {f : ByteArray → Option Value}
theorem MapS.made (w : World) (kt : TypeId) : MapS (w.alloc (.map #[] 0)) kt w.heap.size 0 (fun _ => none) :=
  ⟨_, World.ownsMap_made w _ kt tokR, fun _ _ => ⟨rfl, fun _ => rfl⟩⟩
theorem MapS.mono (h : MapS w kt b n f) {n' : Nat} (hn : n ≤ n') : MapS w kt b n' f := by
  obtain ⟨D, h1, h2⟩ := h
  exact ⟨D, h1.mono hn, h2⟩
theorem MapS.lt (h : MapS w kt b n f) : b < w.heap.size := by
  obtain ⟨D, h1, _⟩ := h
  exact h1.lt
theorem MapS.block (h : MapS w kt b n f) (hb : w'.heap[b]? = w.heap[b]?) : MapS w' kt b n f := by
  obtain ⟨D, ⟨es, clock, h0, h1⟩, h2⟩ := h
  exact ⟨D, ⟨es, clock, hb.trans h0, h1⟩, h2⟩
theorem MapS.below (h : MapS w kt b n f) (hb : Below w.heap.size w w') : MapS w' kt b n f := h.block (hb.block b h.lt)
theorem tok_inv {v : Value} {z : DataW Value} {ps : List MemPlace} (h : tokR v = some (z, ps)) : z = .held v := by
  unfold tokR at h
  injection h with h
  exact (Prod.mk.inj h).1.symm
/-- 'm[k]' -/
theorem MapS.look (h : MapS w kt b n f) (hk : Tryz.prog.underlying kt = some .string) (ht : Tryz.prog.underlying t = some (.map kt e)) {z : Value} (hz : (zeroValue e).run Tryz.prog w = .ok z w) {s : ByteArray} (hs : s.size ≤ maxLen) :
    (Instr.lookup t (.map (some b)) (.string s) false).run Tryz.prog w = .ok ((f s).getD z) w := by
  obtain ⟨D, h1, h2⟩ := h
  obtain ⟨v, ps, hrun, hv⟩ := h1.lookup (Maps.string_keyed hk) ht hz (zd := .held z) (zp := []) rfl (keyOf_s hk hs)
  have he : DataW.held ((f s).getD z) = DataW.held v := ((h2 s hs).2 z).symm.trans (tok_inv hv)
  have he2 : (f s).getD z = v := DataW.held.inj he
  rw [he2]
  exact hrun
/-- 'v, is := m[k]' -/
theorem MapS.lookOk (h : MapS w kt b n f) (hk : Tryz.prog.underlying kt = some .string) (ht : Tryz.prog.underlying t = some (.map kt e)) {z : Value} (hz : (zeroValue e).run Tryz.prog w = .ok z w) {s : ByteArray} (hs : s.size ≤ maxLen) :
    (Instr.lookup t (.map (some b)) (.string s) true).run Tryz.prog w = .ok (.tuple #[(f s).getD z, .bool (f s).isSome]) w := by
  obtain ⟨D, h1, h2⟩ := h
  obtain ⟨v, ps, hrun, hv⟩ := h1.look_ok (Maps.string_keyed hk) ht hz (zd := .held z) (zp := []) rfl (keyOf_s hk hs)
  have he : DataW.held ((f s).getD z) = DataW.held v := ((h2 s hs).2 z).symm.trans (tok_inv hv)
  have he2 : (f s).getD z = v := DataW.held.inj he
  rw [he2, ← (h2 s hs).1]
  exact hrun
theorem MapS.update (h : MapS w kt b n f) (hk : Tryz.prog.underlying kt = some .string) (ht : Tryz.prog.underlying t = some (.map kt e)) (hn : n < maxLen) {s : ByteArray} (hs : s.size ≤ maxLen) (v : Value) :
    ∃ w', (Instr.mapUpdate t (.map (some b)) (.string s) v).run Tryz.prog w = .ok () w' ∧ MapS w' kt b (n + 1) (upd f s v) ∧ w.grownBy w' (some b) := by
  obtain ⟨D, h1, h2⟩ := h
  obtain ⟨w', hrun, h3, h4⟩ := h1.update (Maps.string_keyed hk) ht hn (keyOf_s hk hs) (val := v) (d := .held v) (ps := []) rfl
  refine ⟨w', hrun, ⟨_, h3, fun x hx => ?_⟩, h4⟩
  by_cases he : x = s
  · subst he
    have hm : Maps.IsMap D := h1.isMap
    simp only [upd, if_true]
    exact ⟨by rw [Maps.has_put_same hm (by trivial)]; rfl, fun z => by rw [Maps.atKey_put_same hm (by trivial)]; rfl⟩
  · have hne : kLit x ≠ kLit s := fun h => he (kLit_inj h)
    simp only [upd, if_neg he]
    exact ⟨by rw [Maps.has_put_other hne]; exact (h2 x hx).1, fun z => by rw [Maps.atKey_put_other hne]; exact (h2 x hx).2 z⟩
end
/-- a map as a resource -/
def rMap (kt : TypeId) (b n : Nat) (f : ByteArray → Option Value) : Rsc := ⟨fun W => MapS W kt b n f, fun k => k = b⟩
theorem rMap_ok (kt : TypeId) (b n : Nat) (f : ByteArray → Option Value) : (rMap kt b n f).Ok := fun _ _ h hp => hp.block (h b rfl)
theorem Sq.addMap {w W : World} {l : List Rsc} (h : Sq w W l) (kt : TypeId) : Sq w (W.alloc (.map #[] 0)) (rMap kt W.heap.size 0 (fun _ => none) :: l) :=
  h.new_ ((Below.refl _ _).alloc (Nat.le_refl _) _) (MapS.made W kt) (rMap_ok _ _ _ _) (fun g hg => by
    have hg : g = W.heap.size := hg
    subst hg
    exact ⟨Nat.le_refl _, by simp⟩)
theorem Sq.mapSet {w W W' : World} {l : List Rsc} {kt : TypeId} {g n n' : Nat} {f f' : ByteArray → Option Value} (h : Sq w W (rMap kt g n f :: l)) (hm : MapS W' kt g n' f') (hg : W.grownBy W' (some g)) : Sq w W' (rMap kt g n' f' :: l) :=
  h.turn hg (fun k hk => by injection hk with hk; exact hk.symm) hm (rMap_ok _ _ _ _) (fun k hk => by
    have hk : k = g := hk
    subst hk
    exact ⟨.inl rfl, hm.lt⟩)
end Go.Proofs.YtebaaoacmmhppaaGreat
/-
  A range over a map of the call's own with strings for keys (MapS): which keys have come. No Go text is named here.
-/
namespace Go.Proofs.YtebaaoacmmhppaaGreat
open Go Go.RowKit
open Go.Maps (Keyed)

/-- a range over the map b is under way: r: its iterator; seen: the keys that have come; cnt: how many may still come -/
def RngS (w : World) (kt : TypeId) (b r n : Nat) (f : ByteArray → Option Value) (seen : List ByteArray) (cnt : Nat) : Prop :=
  ∃ (D : DataW Value) (lf : Lit → Bool), w.ranges Tryz.prog kt tokR b r n D lf cnt ∧ Collected D lf (seen.map (·.data.toList)) ∧
    ∀ s : ByteArray, s.size ≤ maxLen → Maps.has D (kLit s) = (f s).isSome ∧ ∀ z : Value, D.atKey (kLit s) (.held z) = .held ((f s).getD z)
theorem ba_inj {s t : ByteArray} (h : s.data.toList = t.data.toList) : s = t := by
  cases s; cases t
  congr
  exact Array.toList_inj.1 h
theorem mem_bytes {l : List ByteArray} {s : ByteArray} : s.data.toList ∈ l.map (·.data.toList) ↔ s ∈ l := by
  rw [List.mem_map]
  constructor
  · rintro ⟨t, ht, he⟩
    rw [← ba_inj he]; exact ht
  · intro h; exact ⟨s, h, rfl⟩
section
variable {w w' : World} {kt t e : TypeId} {b r n : Nat} {f : ByteArray → Option Value} {seen : List ByteArray} {cnt : Nat}
theorem RngS.map (h : RngS w kt b r n f seen cnt) : MapS w kt b n f := by
  obtain ⟨D, lf, h1, _, h3⟩ := h
  exact ⟨D, h1.owns, h3⟩
theorem RngS.left (h : RngS w kt b r n f seen cnt) : w.rangeLeft b r = cnt := by
  obtain ⟨D, lf, h1, _, _⟩ := h
  exact h1.left_eq
theorem RngS.lt (h : RngS w kt b r n f seen cnt) : b < w.heap.size ∧ r < w.heap.size := by
  obtain ⟨D, lf, h1, _, h3⟩ := h
  exact ⟨h1.owns.lt, h1.lt⟩
theorem RngS.nodup (h : RngS w kt b r n f seen cnt) : seen.Nodup := by
  obtain ⟨D, lf, _, h2, _⟩ := h
  have := h2.1
  unfold List.Nodup at this ⊢
  rw [List.pairwise_map] at this
  exact this.imp (fun hne he => hne (by rw [he]))
theorem RngS.block (h : RngS w kt b r n f seen cnt) (hb : w'.heap[b]? = w.heap[b]?) (hr : w'.heap[r]? = w.heap[r]?) : RngS w' kt b r n f seen cnt := by
  obtain ⟨D, lf, ⟨es, clock, since, sn, c0, e1, e2, e3, e4, e5, e6⟩, h2⟩ := h
  exact ⟨D, lf, ⟨es, clock, since, sn, c0, hb.trans e1, e2, e3, e4, hr.trans e5, e6⟩, h2⟩
/-- 'range m' -/
theorem MapS.range (h : MapS w kt b n f) (hk : Tryz.prog.underlying kt = some .string) (ht : Tryz.prog.underlying t = some (.map kt e)) :
    ∃ w', (Instr.range t (.map (some b))).run Tryz.prog w = .ok (.pointer (some ⟨w.heap.size, 0, none⟩)) w' ∧ (∃ cnt, RngS w' kt b w.heap.size n f [] cnt) ∧ w.grownBy w' none ∧ w'.heap.size = w.heap.size + 1 := by
  obtain ⟨D, h1, h2⟩ := h
  obtain ⟨w', e1, e2, e3, e4⟩ := h1.range (Maps.string_keyed hk) ht
  exact ⟨w', e1, ⟨_, D, _, e2, Collected.start D, h2⟩, e3, e4⟩
/-- the step -/
theorem RngS.next (h : RngS w kt b r n f seen cnt) (hk : Tryz.prog.underlying kt = some .string) (ty : TypeId) :
    ((∀ s : ByteArray, s.size ≤ maxLen → ((f s).isSome = true ↔ s ∈ seen)) ∧ (Instr.next (.pointer (some ⟨r, 0, none⟩)) false ty).run Tryz.prog w = .ok (.tuple #[.bool false]) w) ∨
    ∃ s v w' cnt', s ∉ seen ∧ s.size ≤ maxLen ∧ f s = some v ∧ RngS w' kt b r n f (seen ++ [s]) cnt' ∧ cnt' < cnt ∧ w.grownBy w' (some r) ∧ w'.heap.size = w.heap.size ∧
      (Instr.next (.pointer (some ⟨r, 0, none⟩)) false ty).run Tryz.prog w = .ok (.tuple #[.bool true, .string s, v]) w' ∧ (Instr.entry (.pointer (some ⟨r, 0, none⟩))).run Tryz.prog w' = .ok (.tuple #[.string s, v]) w' := by
  obtain ⟨D, lf, h1, h2, h3⟩ := h
  rcases h1.next (Maps.string_keyed hk) ty with ⟨h0, hl, hrun⟩ | ⟨key, v, kl, y, w', cnt', hkey, hlk, hv, hat, hrun, hrg, hlt, hgr, hsz, hen⟩
  · refine .inl ⟨fun s hs => ?_, hrun⟩
    rw [← mem_bytes, h2.2, hl, (show Maps.has D (.string s.data.toList) = (f s).isSome from (h3 s hs).1)]
    simp
  · right
    obtain ⟨x, rfl, rfl, hx⟩ := Maps.keyOf_str hk hkey
    obtain ⟨s, hs⟩ : ∃ s : ByteArray, s.data.toList = x := ⟨⟨x.toArray⟩, by simp⟩
    subst hs
    have hsl : s.size ≤ maxLen := by simpa using hx
    have hsv : Go.Proofs.encStr s.data.toList = .string s := by unfold Go.Proofs.encStr; cases s; simp
    rw [hsv] at hrun hen
    have hnew : s ∉ seen := fun hm => by
      have := ((h2.2 _).1 (mem_bytes.2 hm)).2
      rw [hlk] at this; cases this
    have hhas : Maps.has D (kLit s) = true := Maps.has_true_of_atKey hat
    have hy := tok_inv (z := y.1) (ps := y.2) hv
    have hf : f s = some v := by
      have h4 := (h3 s hsl).1
      rw [hhas] at h4
      obtain ⟨u, hu⟩ := Option.isSome_iff_exists.1 h4.symm
      have h5 := (h3 s hsl).2 v
      rw [hu] at h5
      have h6 := hat (.held v)
      have h7 : D.atKey (kLit s) (.held v) = .held v := h6.trans hy
      rw [h7] at h5
      rw [Option.getD_some] at h5
      rw [hu, DataW.held.inj h5]
    refine ⟨s, v, w', cnt', hnew, hsl, hf, ⟨D, _, hrg, ?_, h3⟩, hlt, hgr, hsz, hrun, hen⟩
    rw [List.map_append]
    exact h2.step hlk hat
end
section
variable {ops : Array Oper} {rest : List Oper} {o : Oper} {a : Act} {Q : Exit → Act → World → Prop}
/-- 'range m' at the operation -/
theorem wpList_range_map (w : World) (hg : o.guard = none) (m : Operand) (t : TypeId) (hop : o.op = Op.range t m) (kt e : TypeId) (hk : Tryz.prog.underlying kt = some .string) (ht : Tryz.prog.underlying t = some (.map kt e)) (b n : Nat) (f : ByteArray → Option Value)
    (hm : a.eval m = .map (some b)) (hown : MapS w kt b n f)
    (hK : ∀ w' cnt, RngS w' kt b w.heap.size n f [] cnt → w.grownBy w' none → w'.heap.size = w.heap.size + 1 → wpList Tryz.prog ops Q rest (a.put o.dst (.pointer (some ⟨w.heap.size, 0, none⟩))) w') :
    wpList Tryz.prog ops Q (o :: rest) a w := by
  refine wpList_plain hg fun K' hK' => ?_
  obtain ⟨w', hrun, ⟨cnt, r1⟩, r2, r3⟩ := hown.range hk ht
  unfold Oper.wp
  simp [execOp, hop, hm, hrun, Result.andThen]
  exact hK' _ _ (hK w' cnt r1 r2 r3)
/-- its step -/
theorem wpList_next_map (w : World) (hg : o.guard = none) (it : Operand) (hop : o.op = Op.next it false) (kt : TypeId) (hk : Tryz.prog.underlying kt = some .string) (b r n : Nat) (f : ByteArray → Option Value) (seen : List ByteArray) (cnt : Nat)
    (hit : a.eval it = .pointer (some ⟨r, 0, none⟩)) (h : RngS w kt b r n f seen cnt)
    (hDone : (∀ s : ByteArray, s.size ≤ maxLen → ((f s).isSome = true ↔ s ∈ seen)) → wpList Tryz.prog ops Q rest (a.put o.dst (.tuple #[.bool false])) w)
    (hMore : ∀ (s : ByteArray) (v : Value) (w' : World) (cnt' : Nat), s ∉ seen → s.size ≤ maxLen → f s = some v → RngS w' kt b r n f (seen ++ [s]) cnt' → cnt' < cnt → w.grownBy w' (some r) → w'.heap.size = w.heap.size →
      (Instr.entry (.pointer (some ⟨r, 0, none⟩))).run Tryz.prog w' = .ok (.tuple #[.string s, v]) w' → wpList Tryz.prog ops Q rest (a.put o.dst (.tuple #[.bool true, .string s, v])) w') :
    wpList Tryz.prog ops Q (o :: rest) a w := by
  refine wpList_plain hg fun K' hK' => ?_
  unfold Oper.wp
  rcases h.next hk o.type with ⟨h0, hrun⟩ | ⟨s, v, w', cnt', h1, h2, h3, h4, h5, h6, h7, hrun, hen⟩
  · simp [execOp, hop, hit, hrun, Result.andThen]
    exact hK' _ _ (hDone h0)
  · simp [execOp, hop, hit, hrun, Result.andThen]
    exact hK' _ _ (hMore s v w' cnt' h1 h2 h3 h4 h5 h6 h7 hen)
end
/-- a range as a resource: the map and its iterator -/
def rRng (kt : TypeId) (b r n : Nat) (f : ByteArray → Option Value) (seen : List ByteArray) (cnt : Nat) : Rsc := ⟨fun W => RngS W kt b r n f seen cnt, fun k => k = b ∨ k = r⟩
theorem rRng_ok (kt : TypeId) (b r n : Nat) (f : ByteArray → Option Value) (seen : List ByteArray) (cnt : Nat) : (rRng kt b r n f seen cnt).Ok := fun _ _ h hp => hp.block (h b (.inl rfl)) (h r (.inr rfl))
theorem Sq.rngStart {w W W' : World} {l : List Rsc} {kt : TypeId} {b n : Nat} {f : ByteArray → Option Value} {cnt : Nat} (h : Sq w W (rMap kt b n f :: l)) (hr : RngS W' kt b W.heap.size n f [] cnt) (hg : W.grownBy W' none) : Sq w W' (rRng kt b W.heap.size n f [] cnt :: l) :=
  h.turn hg (fun k hk => by cases hk) hr (rRng_ok _ _ _ _ _ _ _) (fun k hk => by
    rcases hk with hk | hk
    · have hk : k = b := hk
      subst hk
      exact ⟨.inl rfl, hr.lt.1⟩
    · have hk : k = W.heap.size := hk
      subst hk
      exact ⟨.inr (Nat.le_refl _), hr.lt.2⟩)
theorem Sq.rngStep {w W W' : World} {l : List Rsc} {kt : TypeId} {b r n : Nat} {f : ByteArray → Option Value} {seen seen' : List ByteArray} {cnt cnt' : Nat} (h : Sq w W (rRng kt b r n f seen cnt :: l)) (hr : RngS W' kt b r n f seen' cnt') (hg : W.grownBy W' (some r)) : Sq w W' (rRng kt b r n f seen' cnt' :: l) :=
  h.turn hg (fun k hk => by injection hk with hk; exact .inr hk.symm) hr (rRng_ok _ _ _ _ _ _ _) (fun k hk => by
    rcases hk with hk | hk
    · have hk : k = b := hk
      subst hk
      exact ⟨.inl (.inl rfl), hr.lt.1⟩
    · have hk : k = r := hk
      subst hk
      exact ⟨.inl (.inr rfl), hr.lt.2⟩)
end Go.Proofs.YtebaaoacmmhppaaGreat
/-
  MomentFault of the reference.
-/
namespace Go.Proofs.YtebaaoacmmhppaaGreat
open Go Go.RowKit

/-- the moment's own fault, of the reference -/
theorem momentFault_calls (u : Int) (w : World) : Calls Tryz.prog 17 #[.int .i64 u] w fun e w' => e = .returned (.int .i64 (if momB u = true then 0 else 1)) ∧ w = w' := by
  have HM := Lib.hid (momentQ_calls u w)
  cases hm : momB u
  · rw [hm] at HM
    clear hm
    go_enter Tryz.func17, Tryz.ntmps17
    go_wp2_with fail
    refine HM.out.mono ?_
    rintro e w1 ⟨rfl, rfl⟩
    go_wp2_with fail
    go_ret
    exact ⟨rfl, rfl⟩
  · rw [hm] at HM
    clear hm
    go_enter Tryz.func17, Tryz.ntmps17
    go_wp2_with fail
    refine HM.out.mono ?_
    rintro e w1 ⟨rfl, rfl⟩
    go_wp2_with fail
    go_ret
    exact ⟨rfl, rfl⟩
end Go.Proofs.YtebaaoacmmhppaaGreat
/-
  What is wrong with an event, as the reference says it: names that have come. (Printed by gen_ev5.py.)
-/
namespace Go.Proofs.YtebaaoacmmhppaaGreat
open Go Go.RowKit

/-- what is known of a name that has come -/
def OkN (s k : ByteArray) (b : Bool) : Prop := s = k → b = true
end Go.Proofs.YtebaaoacmmhppaaGreat
