/-
  A map of the call's own with strings for keys, whatever its elements: MapS says what stands at each key. No Go text is named here.
-/
import Derived.Test.YthbcogekfdllmaaGreatProg
import Derived.Test.YthbcogekfdllmaaGreatZSq
import Derived.Maps.OwnSet
import Derived.Maps.OwnOps
import Derived.Maps.Views
namespace Go.Proofs.YthbcogekfdllmaaGreat
open Go Go.RowKit
open Go.Maps (Keyed)

/-- an element stands for itself -/
def tokR (v : Value) : Option (DataW Value × List MemPlace) := some (.held v, [])
def kLit (s : ByteArray) : Lit := .string s.data.toList
theorem kLit_inj {s t : ByteArray} (h : kLit s = kLit t) : s = t := by
  unfold kLit at h
  injection h with h
  cases s; cases t
  congr
  exact Array.toList_inj.1 h
/-- block b of w is a map from strings (type kt) with at most n entries; f s: what stands at s -/
def MapS (w : World) (kt : TypeId) (b n : Nat) (f : ByteArray → Option Value) : Prop :=
  ∃ D : DataW Value, w.ownsMap Tryz.prog kt tokR b n D ∧ ∀ s : ByteArray, s.size ≤ maxLen → Maps.has D (kLit s) = (f s).isSome ∧ ∀ z : Value, D.atKey (kLit s) (.held z) = .held ((f s).getD z)
def upd (f : ByteArray → Option Value) (s : ByteArray) (v : Value) : ByteArray → Option Value := fun t => if t = s then some v else f t
theorem keyOf_s {kt : TypeId} (hk : Tryz.prog.underlying kt = some .string) {s : ByteArray} (hs : s.size ≤ maxLen) : keyOf Tryz.prog kt (.string s) = some (kLit s) := WideMaps.keyOf_string_mk hk hs
section
variable {w w' : World} {kt t e : TypeId} {b n : Nat} {f : ByteArray → Option Value}
theorem MapS.made (w : World) (kt : TypeId) : MapS (w.alloc (.map #[] 0)) kt w.heap.size 0 (fun _ => none) :=
  ⟨_, World.ownsMap_made w _ kt tokR, fun _ _ => ⟨rfl, fun _ => rfl⟩⟩
theorem MapS.mono (h : MapS w kt b n f) {n' : Nat} (hn : n ≤ n') : MapS w kt b n' f := by
  obtain ⟨D, h1, h2⟩ := h
  exact ⟨D, h1.mono hn, h2⟩
theorem MapS.lt (h : MapS w kt b n f) : b < w.heap.size := by
  obtain ⟨D, h1, _⟩ := h
  exact h1.lt
theorem MapS.block (h : MapS w kt b n f) (hb : w'.heap[b]? = w.heap[b]?) : MapS w' kt b n f := by
  obtain ⟨D, ⟨es, clock, h0, h1⟩, h2⟩ := h
  exact ⟨D, ⟨es, clock, hb.trans h0, h1⟩, h2⟩
theorem MapS.below (h : MapS w kt b n f) (hb : Below w.heap.size w w') : MapS w' kt b n f := h.block (hb.block b h.lt)
theorem tok_inv {v : Value} {z : DataW Value} {ps : List MemPlace} (h : tokR v = some (z, ps)) : z = .held v := by
  unfold tokR at h
  injection h with h
  exact (Prod.mk.inj h).1.symm
/-- 'm[k]' -/
theorem MapS.look (h : MapS w kt b n f) (hk : Tryz.prog.underlying kt = some .string) (ht : Tryz.prog.underlying t = some (.map kt e)) {z : Value} (hz : (zeroValue e).run Tryz.prog w = .ok z w) {s : ByteArray} (hs : s.size ≤ maxLen) :
    (Instr.lookup t (.map (some b)) (.string s) false).run Tryz.prog w = .ok ((f s).getD z) w := by
  obtain ⟨D, h1, h2⟩ := h
  obtain ⟨v, ps, hrun, hv⟩ := h1.lookup (Maps.string_keyed hk) ht hz (zd := .held z) (zp := []) rfl (keyOf_s hk hs)
  have he : DataW.held ((f s).getD z) = DataW.held v := ((h2 s hs).2 z).symm.trans (tok_inv hv)
  have he2 : (f s).getD z = v := DataW.held.inj he
  rw [he2]
  exact hrun
/-- 'v, is := m[k]' -/
theorem MapS.lookOk (h : MapS w kt b n f) (hk : Tryz.prog.underlying kt = some .string) (ht : Tryz.prog.underlying t = some (.map kt e)) {z : Value} (hz : (zeroValue e).run Tryz.prog w = .ok z w) {s : ByteArray} (hs : s.size ≤ maxLen) :
    (Instr.lookup t (.map (some b)) (.string s) true).run Tryz.prog w = .ok (.tuple #[(f s).getD z, .bool (f s).isSome]) w := by
  obtain ⟨D, h1, h2⟩ := h
  obtain ⟨v, ps, hrun, hv⟩ := h1.look_ok (Maps.string_keyed hk) ht hz (zd := .held z) (zp := []) rfl (keyOf_s hk hs)
  have he : DataW.held ((f s).getD z) = DataW.held v := ((h2 s hs).2 z).symm.trans (tok_inv hv)
  have he2 : (f s).getD z = v := DataW.held.inj he
  rw [he2, ← (h2 s hs).1]
  exact hrun
theorem MapS.update (h : MapS w kt b n f) (hk : Tryz.prog.underlying kt = some .string) (ht : Tryz.prog.underlying t = some (.map kt e)) (hn : n < maxLen) {s : ByteArray} (hs : s.size ≤ maxLen) (v : Value) :
    ∃ w', (Instr.mapUpdate t (.map (some b)) (.string s) v).run Tryz.prog w = .ok () w' ∧ MapS w' kt b (n + 1) (upd f s v) ∧ w.grownBy w' (some b) := by
  obtain ⟨D, h1, h2⟩ := h
  obtain ⟨w', hrun, h3, h4⟩ := h1.update (Maps.string_keyed hk) ht hn (keyOf_s hk hs) (val := v) (d := .held v) (ps := []) rfl
  refine ⟨w', hrun, ⟨_, h3, fun x hx => ?_⟩, h4⟩
  by_cases he : x = s
  · subst he
    have hm : Maps.IsMap D := h1.isMap
    simp only [upd, if_true]
    exact ⟨by rw [Maps.has_put_same hm (by trivial)]; rfl, fun z => by rw [Maps.atKey_put_same hm (by trivial)]; rfl⟩
  · have hne : kLit x ≠ kLit s := fun h => he (kLit_inj h)
    simp only [upd, if_neg he]
    exact ⟨by rw [Maps.has_put_other hne]; exact (h2 x hx).1, fun z => by rw [Maps.atKey_put_other hne]; exact (h2 x hx).2 z⟩
end
/-- a map as a resource -/
def rMap (kt : TypeId) (b n : Nat) (f : ByteArray → Option Value) : Rsc := ⟨fun W => MapS W kt b n f, fun k => k = b⟩
theorem rMap_ok (kt : TypeId) (b n : Nat) (f : ByteArray → Option Value) : (rMap kt b n f).Ok := fun _ _ h hp => hp.block (h b rfl)
theorem Sq.addMap {w W : World} {l : List Rsc} (h : Sq w W l) (kt : TypeId) : Sq w (W.alloc (.map #[] 0)) (rMap kt W.heap.size 0 (fun _ => none) :: l) :=
  h.new_ ((Below.refl _ _).alloc (Nat.le_refl _) _) (MapS.made W kt) (rMap_ok _ _ _ _) (fun g hg => by
    have hg : g = W.heap.size := hg
    subst hg
    exact ⟨Nat.le_refl _, by simp⟩)
theorem Sq.mapSet {w W W' : World} {l : List Rsc} {kt : TypeId} {g n n' : Nat} {f f' : ByteArray → Option Value} (h : Sq w W (rMap kt g n f :: l)) (hm : MapS W' kt g n' f') (hg : W.grownBy W' (some g)) : Sq w W' (rMap kt g n' f' :: l) :=
  h.turn hg (fun k hk => by injection hk with hk; exact hk.symm) hm (rMap_ok _ _ _ _) (fun k hk => by
    have hk : k = g := hk
    subst hk
    exact ⟨.inl rfl, hm.lt⟩)
end Go.Proofs.YthbcogekfdllmaaGreat
