/-
  A map with strings for keys, its keys named (KeysM); how many they are; a key struck. No Go text is named here.
-/
import Derived.Test.YthbcogekfdllmaaGreatDoorZMap
namespace Go.Proofs.YthbcogekfdllmaaGreatDoor
open Go Go.RowKit
open Go.Maps (Keyed)

/-- the keys of a map, each once -/
structure KeysM (f : ByteArray → Option Value) (ks : List ByteArray) : Prop where
  nd : ks.Nodup
  sz : ∀ s ∈ ks, s.size ≤ maxLen
  iff : ∀ s : ByteArray, s.size ≤ maxLen → (s ∈ ks ↔ (f s).isSome = true)
def delM (f : ByteArray → Option Value) (s : ByteArray) : ByteArray → Option Value := fun t => if t = s then none else f t
theorem KeysM.nil : KeysM (fun _ => none) [] := ⟨List.nodup_nil, (by intro s hs; cases hs), fun s _ => by simp⟩
theorem KeysM.perm {f : ByteArray → Option Value} {ks ks' : List ByteArray} (h : KeysM f ks) (hp : ks.Perm ks') : KeysM f ks' :=
  ⟨hp.nodup_iff.1 h.nd, fun s hs => h.sz s (hp.mem_iff.2 hs), fun s hs => hp.mem_iff.symm.trans (h.iff s hs)⟩
theorem KeysM.del {f : ByteArray → Option Value} {ks : List ByteArray} (h : KeysM f ks) (s : ByteArray) : KeysM (delM f s) (ks.filter (fun t => decide (t ≠ s))) := by
  refine ⟨h.nd.filter _, fun t ht => h.sz t (List.mem_filter.1 ht).1, fun t ht => ?_⟩
  by_cases e : t = s
  · subst e; simp [delM]
  · simp only [delM, List.mem_filter, ne_eq, e, not_false_eq_true, decide_true, and_true]; exact h.iff t ht
theorem str_key {kt : TypeId} (hk : Tryz.prog.underlying kt = some .string) {key : Value} {kl : Lit} (h : keyOf Tryz.prog kt key = some kl) : ∃ s : ByteArray, key = .string s ∧ kl = kLit s ∧ s.size ≤ maxLen := by
  obtain ⟨x, h1, h2, h3⟩ := Maps.keyOf_str hk h
  refine ⟨⟨x.toArray⟩, h1, by rw [h2]; simp [kLit], ?_⟩
  show x.toArray.size ≤ maxLen
  simpa using h3
/-- the keys of the datum -/
theorem keys_perm {w : World} {kt : TypeId} {b n : Nat} {D : DataW Value} {f : ByteArray → Option Value} {ks : List ByteArray} (hk : Tryz.prog.underlying kt = some .string) (h : w.ownsMap Tryz.prog kt tokR b n D)
    (hf : ∀ s : ByteArray, s.size ≤ maxLen → Maps.has D (kLit s) = (f s).isSome) (hK : KeysM f ks) : (ks.map (fun s => s.data.toList)).Perm (strKeys D) := by
  obtain ⟨es, rfl, hp, _⟩ := h.entries (Maps.string_keyed hk)
  obtain ⟨es', he, hkeys⟩ := h.keysOf
  injection he with he
  subst he
  have hks : ∀ p ∈ es, ∃ s : ByteArray, p.1 = kLit s ∧ s.size ≤ maxLen := fun p hp => by
    obtain ⟨key, hkey⟩ := hkeys p hp
    obtain ⟨s, _, h2, h3⟩ := str_key hk hkey
    exact ⟨s, h2, h3⟩
  refine perm_strKeys hp (fun p hp => by obtain ⟨s, h1, _⟩ := hks p hp; exact ⟨_, h1⟩) ?_ (fun x => ?_)
  · refine List.pairwise_map.2 (hK.nd.imp ?_)
    intro a b hne e
    exact hne (kLit_inj (congrArg Lit.string e))
  · constructor
    · intro hx
      obtain ⟨s, hs, rfl⟩ := List.mem_map.1 hx
      have := hf s (hK.sz s hs)
      rw [(hK.iff s (hK.sz s hs)).1 hs] at this
      exact this
    · intro hx
      have hx2 := hx
      rw [Maps.has_eq, List.any_eq_true] at hx2
      obtain ⟨p, hp2, he⟩ := hx2
      obtain ⟨s, h1, h2⟩ := hks p hp2
      have e := WideAt.sameKey_eq he
      rw [h1] at e
      unfold kLit at e
      injection e with e
      refine List.mem_map.2 ⟨s, (hK.iff s h2).2 ?_, e⟩
      rw [← hf s h2]
      unfold kLit
      rw [e]
      exact hx
theorem MapS.size_eq {w : World} {kt : TypeId} {b n : Nat} {f : ByteArray → Option Value} {ks : List ByteArray} (hk : Tryz.prog.underlying kt = some .string) (h : MapS w kt b n f) (hK : KeysM f ks) : ks.length ≤ n ∧
    ∀ t e ty, Tryz.prog.underlying t = some (.map kt e) → (Builtin.len_ #[t] ty #[.map (some b)]).run Tryz.prog w = .ok (.int .i64 (ks.length : Int)) w := by
  obtain ⟨D, h1, h2⟩ := h
  have hp := (keys_perm hk h1 (fun s hs => (h2 s hs).1) hK).length_eq
  rw [List.length_map] at hp
  have hz : Maps.size D = ks.length := by
    obtain ⟨es, rfl, _, _⟩ := h1.entries (Maps.string_keyed hk)
    rw [hp]
    show es.length = (es.map _).length
    rw [List.length_map]
  refine ⟨by rw [← hz]; exact h1.size_le, fun t e ty ht => ?_⟩
  have := h1.len ht ty
  rw [hz] at this
  exact this
/-- 'delete(m, k)' -/
theorem MapS.delete {w : World} {kt t e : TypeId} {b n : Nat} {f : ByteArray → Option Value} (h : MapS w kt b n f) (hk : Tryz.prog.underlying kt = some .string) (ht : Tryz.prog.underlying t = some (.map kt e)) {s : ByteArray} (hs : s.size ≤ maxLen) (ty : TypeId) :
    ∃ w', (Builtin.delete_ #[t, kt] ty #[.map (some b), .string s]).run Tryz.prog w = .ok (.tuple #[]) w' ∧ MapS w' kt b n (delM f s) ∧ w.grownBy w' (some b) := by
  obtain ⟨D, h1, h2⟩ := h
  obtain ⟨w', hrun, h3, h4⟩ := h1.drop (Maps.string_keyed hk) ht (keyOf_s hk hs) ty
  refine ⟨w', hrun, ⟨_, h3, fun x hx => ?_⟩, h4.grown⟩
  have hm : Maps.IsMap D := h1.isMap
  by_cases he : x = s
  · subst he
    simp only [delM, if_true]
    exact ⟨by rw [Maps.has_del_same]; rfl, fun z => by rw [Maps.atKey_del_same]; rfl⟩
  · have hne : kLit x ≠ kLit s := fun h => he (kLit_inj h)
    simp only [delM, if_neg he]
    exact ⟨by rw [Maps.has_del_other hne]; exact (h2 x hx).1, fun z => by rw [Maps.atKey_del_other hne]; exact (h2 x hx).2 z⟩

/-- what a range over a map has seen at its end -/
theorem KeysM.seen {f : ByteArray → Option Value} {ks seen : List ByteArray} (h : KeysM f ks) (hn : seen.Nodup) (hm : ∀ s ∈ seen, s ∈ ks) (hd : ∀ s : ByteArray, s.size ≤ maxLen → ((f s).isSome = true ↔ s ∈ seen)) : seen.Perm ks :=
  (List.perm_ext_iff_of_nodup hn h.nd).2 (fun s => ⟨hm s, fun hs => (hd s (h.sz s hs)).1 ((h.iff s (h.sz s hs)).1 hs)⟩)
theorem Sq.mapDel {w W W' : World} {l : List Rsc} {kt : TypeId} {g n : Nat} {f f' : ByteArray → Option Value} (h : Sq w W (rMap kt g n f :: l)) (hm : MapS W' kt g n f') (hg : W.grownBy W' (some g)) : Sq w W' (rMap kt g n f' :: l) := h.mapSet hm hg
/-- a range that is over: the map alone -/
theorem Sq.rngEnd {w W : World} {l : List Rsc} {kt : TypeId} {b r n : Nat} {f : ByteArray → Option Value} {seen : List ByteArray} {cnt : Nat} (h : Sq w W (rRng kt b r n f seen cnt :: l)) : Sq w W (rMap kt b n f :: l) :=
  ⟨h.below, h.hp.tail.cons (RngS.map h.hp.head) (rMap_ok _ _ _ _) (fun k hk => h.hp.new _ (List.mem_cons_self ..) k (.inl hk)) (fun s hs k hk hk2 => (List.pairwise_cons.1 h.hp.apart).1 s hs k (.inl hk) hk2)⟩
end Go.Proofs.YthbcogekfdllmaaGreatDoor
