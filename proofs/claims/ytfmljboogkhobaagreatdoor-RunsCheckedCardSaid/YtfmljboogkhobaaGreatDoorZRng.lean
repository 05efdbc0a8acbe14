/-
  A range over a map of the call's own with strings for keys (MapS): which keys have come. No Go text is named here.
-/
import Derived.Test.YtfmljboogkhobaaGreatDoorZMap
import Derived.Maps.RangeWalk
import Derived.Sort.KeysCollected
import Derived.Test.YtfmljboogkhobaaGreatDoorZRunPure
import Derived.Test.YtfmljboogkhobaaGreatDoorZBid2
import Derived.Test.YtfmljboogkhobaaGreatDoorZStrOrd
import Derived.Lib.ItoaLen
import Derived.Test.YtfmljboogkhobaaGreatDoorZRun1
namespace Go.Proofs.YtfmljboogkhobaaGreatDoor
open Go Go.RowKit
open Go.Maps (Keyed)

/-- a range over the map b is under way: r: its iterator; seen: the keys that have come; cnt: how many may still come -/
def RngS (w : World) (kt : TypeId) (b r n : Nat) (f : ByteArray → Option Value) (seen : List ByteArray) (cnt : Nat) : Prop :=
  ∃ (D : DataW Value) (lf : Lit → Bool), w.ranges Tryz.prog kt tokR b r n D lf cnt ∧ Collected D lf (seen.map (·.data.toList)) ∧
    ∀ s : ByteArray, s.size ≤ maxLen → Maps.has D (kLit s) = (f s).isSome ∧ ∀ z : Value, D.atKey (kLit s) (.held z) = .held ((f s).getD z)
theorem ba_inj {s t : ByteArray} (h : s.data.toList = t.data.toList) : s = t := by
  cases s; cases t
  congr
  exact Array.toList_inj.1 h
theorem mem_bytes {l : List ByteArray} {s : ByteArray} : s.data.toList ∈ l.map (·.data.toList) ↔ s ∈ l := by
  rw [List.mem_map]
  constructor
  · rintro ⟨t, ht, he⟩
    rw [← ba_inj he]; exact ht
  · intro h; exact ⟨s, h, rfl⟩
section
variable {w w' : World} {kt t e : TypeId} {b r n : Nat} {f : ByteArray → Option Value} {seen : List ByteArray} {cnt : Nat}
theorem RngS.map (h : RngS w kt b r n f seen cnt) : MapS w kt b n f := by
  obtain ⟨D, lf, h1, _, h3⟩ := h
  exact ⟨D, h1.owns, h3⟩
theorem RngS.left (h : RngS w kt b r n f seen cnt) : w.rangeLeft b r = cnt := by
  obtain ⟨D, lf, h1, _, _⟩ := h
  exact h1.left_eq
theorem RngS.lt (h : RngS w kt b r n f seen cnt) : b < w.heap.size ∧ r < w.heap.size := by
  obtain ⟨D, lf, h1, _, h3⟩ := h
  exact ⟨h1.owns.lt, h1.lt⟩
theorem RngS.nodup (h : RngS w kt b r n f seen cnt) : seen.Nodup := by
  obtain ⟨D, lf, _, h2, _⟩ := h
  have := h2.1
  unfold List.Nodup at this ⊢
  rw [List.pairwise_map] at this
  exact this.imp (fun hne he => hne (by rw [he]))
theorem RngS.block (h : RngS w kt b r n f seen cnt) (hb : w'.heap[b]? = w.heap[b]?) (hr : w'.heap[r]? = w.heap[r]?) : RngS w' kt b r n f seen cnt := by
  obtain ⟨D, lf, ⟨es, clock, since, sn, c0, e1, e2, e3, e4, e5, e6⟩, h2⟩ := h
  exact ⟨D, lf, ⟨es, clock, since, sn, c0, hb.trans e1, e2, e3, e4, hr.trans e5, e6⟩, h2⟩
/-- 'range m' -/
theorem MapS.range (h : MapS w kt b n f) (hk : Tryz.prog.underlying kt = some .string) (ht : Tryz.prog.underlying t = some (.map kt e)) :
    ∃ w', (Instr.range t (.map (some b))).run Tryz.prog w = .ok (.pointer (some ⟨w.heap.size, 0, none⟩)) w' ∧ (∃ cnt, RngS w' kt b w.heap.size n f [] cnt) ∧ w.grownBy w' none ∧ w'.heap.size = w.heap.size + 1 := by
  obtain ⟨D, h1, h2⟩ := h
  obtain ⟨w', e1, e2, e3, e4⟩ := h1.range (Maps.string_keyed hk) ht
  exact ⟨w', e1, ⟨_, D, _, e2, Collected.start D, h2⟩, e3, e4⟩
/-- the step -/
theorem RngS.next (h : RngS w kt b r n f seen cnt) (hk : Tryz.prog.underlying kt = some .string) (ty : TypeId) :
    ((∀ s : ByteArray, s.size ≤ maxLen → ((f s).isSome = true ↔ s ∈ seen)) ∧ (Instr.next (.pointer (some ⟨r, 0, none⟩)) false ty).run Tryz.prog w = .ok (.tuple #[.bool false]) w) ∨
    ∃ s v w' cnt', s ∉ seen ∧ s.size ≤ maxLen ∧ f s = some v ∧ RngS w' kt b r n f (seen ++ [s]) cnt' ∧ cnt' < cnt ∧ w.grownBy w' (some r) ∧ w'.heap.size = w.heap.size ∧
      (Instr.next (.pointer (some ⟨r, 0, none⟩)) false ty).run Tryz.prog w = .ok (.tuple #[.bool true, .string s, v]) w' ∧ (Instr.entry (.pointer (some ⟨r, 0, none⟩))).run Tryz.prog w' = .ok (.tuple #[.string s, v]) w' := by
  obtain ⟨D, lf, h1, h2, h3⟩ := h
  rcases h1.next (Maps.string_keyed hk) ty with ⟨h0, hl, hrun⟩ | ⟨key, v, kl, y, w', cnt', hkey, hlk, hv, hat, hrun, hrg, hlt, hgr, hsz, hen⟩
  · refine .inl ⟨fun s hs => ?_, hrun⟩
    rw [← mem_bytes, h2.2, hl, (show Maps.has D (.string s.data.toList) = (f s).isSome from (h3 s hs).1)]
    simp
  · right
    obtain ⟨x, rfl, rfl, hx⟩ := Maps.keyOf_str hk hkey
    obtain ⟨s, hs⟩ : ∃ s : ByteArray, s.data.toList = x := ⟨⟨x.toArray⟩, by simp⟩
    subst hs
    have hsl : s.size ≤ maxLen := by simpa using hx
    have hsv : Go.Proofs.encStr s.data.toList = .string s := by unfold Go.Proofs.encStr; cases s; simp
    rw [hsv] at hrun hen
    have hnew : s ∉ seen := fun hm => by
      have := ((h2.2 _).1 (mem_bytes.2 hm)).2
      rw [hlk] at this; cases this
    have hhas : Maps.has D (kLit s) = true := Maps.has_true_of_atKey hat
    have hy := tok_inv (z := y.1) (ps := y.2) hv
    have hf : f s = some v := by
      have h4 := (h3 s hsl).1
      rw [hhas] at h4
      obtain ⟨u, hu⟩ := Option.isSome_iff_exists.1 h4.symm
      have h5 := (h3 s hsl).2 v
      rw [hu] at h5
      have h6 := hat (.held v)
      have h7 : D.atKey (kLit s) (.held v) = .held v := h6.trans hy
      rw [h7] at h5
      rw [Option.getD_some] at h5
      rw [hu, DataW.held.inj h5]
    refine ⟨s, v, w', cnt', hnew, hsl, hf, ⟨D, _, hrg, ?_, h3⟩, hlt, hgr, hsz, hrun, hen⟩
    rw [List.map_append]
    exact h2.step hlk hat
end
section
variable {ops : Array Oper} {rest : List Oper} {o : Oper} {a : Act} {Q : Exit → Act → World → Prop}
/-- 'range m' at the operation -/
theorem wpList_range_map (w : World) (hg : o.guard = none) (m : Operand) (t : TypeId) (hop : o.op = Op.range t m) (kt e : TypeId) (hk : Tryz.prog.underlying kt = some .string) (ht : Tryz.prog.underlying t = some (.map kt e)) (b n : Nat) (f : ByteArray → Option Value)
    (hm : a.eval m = .map (some b)) (hown : MapS w kt b n f)
    (hK : ∀ w' cnt, RngS w' kt b w.heap.size n f [] cnt → w.grownBy w' none → w'.heap.size = w.heap.size + 1 → wpList Tryz.prog ops Q rest (a.put o.dst (.pointer (some ⟨w.heap.size, 0, none⟩))) w') :
    wpList Tryz.prog ops Q (o :: rest) a w := by
  refine wpList_plain hg fun K' hK' => ?_
  obtain ⟨w', hrun, ⟨cnt, r1⟩, r2, r3⟩ := hown.range hk ht
  unfold Oper.wp
  simp [execOp, hop, hm, hrun, Result.andThen]
  exact hK' _ _ (hK w' cnt r1 r2 r3)
/-- its step -/
theorem wpList_next_map (w : World) (hg : o.guard = none) (it : Operand) (hop : o.op = Op.next it false) (kt : TypeId) (hk : Tryz.prog.underlying kt = some .string) (b r n : Nat) (f : ByteArray → Option Value) (seen : List ByteArray) (cnt : Nat)
    (hit : a.eval it = .pointer (some ⟨r, 0, none⟩)) (h : RngS w kt b r n f seen cnt)
    (hDone : (∀ s : ByteArray, s.size ≤ maxLen → ((f s).isSome = true ↔ s ∈ seen)) → wpList Tryz.prog ops Q rest (a.put o.dst (.tuple #[.bool false])) w)
    (hMore : ∀ (s : ByteArray) (v : Value) (w' : World) (cnt' : Nat), s ∉ seen → s.size ≤ maxLen → f s = some v → RngS w' kt b r n f (seen ++ [s]) cnt' → cnt' < cnt → w.grownBy w' (some r) → w'.heap.size = w.heap.size →
      (Instr.entry (.pointer (some ⟨r, 0, none⟩))).run Tryz.prog w' = .ok (.tuple #[.string s, v]) w' → wpList Tryz.prog ops Q rest (a.put o.dst (.tuple #[.bool true, .string s, v])) w') :
    wpList Tryz.prog ops Q (o :: rest) a w := by
  refine wpList_plain hg fun K' hK' => ?_
  unfold Oper.wp
  rcases h.next hk o.type with ⟨h0, hrun⟩ | ⟨s, v, w', cnt', h1, h2, h3, h4, h5, h6, h7, hrun, hen⟩
  · simp [execOp, hop, hit, hrun, Result.andThen]
    exact hK' _ _ (hDone h0)
  · simp [execOp, hop, hit, hrun, Result.andThen]
    exact hK' _ _ (hMore s v w' cnt' h1 h2 h3 h4 h5 h6 h7 hen)
end
/-- a range as a resource: the map and its iterator -/
def rRng (kt : TypeId) (b r n : Nat) (f : ByteArray → Option Value) (seen : List ByteArray) (cnt : Nat) : Rsc := ⟨fun W => RngS W kt b r n f seen cnt, fun k => k = b ∨ k = r⟩
theorem rRng_ok (kt : TypeId) (b r n : Nat) (f : ByteArray → Option Value) (seen : List ByteArray) (cnt : Nat) : (rRng kt b r n f seen cnt).Ok := fun _ _ h hp => hp.block (h b (.inl rfl)) (h r (.inr rfl))
theorem Sq.rngStart {w W W' : World} {l : List Rsc} {kt : TypeId} {b n : Nat} {f : ByteArray → Option Value} {cnt : Nat} (h : Sq w W (rMap kt b n f :: l)) (hr : RngS W' kt b W.heap.size n f [] cnt) (hg : W.grownBy W' none) : Sq w W' (rRng kt b W.heap.size n f [] cnt :: l) :=
  h.turn hg (fun k hk => by cases hk) hr (rRng_ok _ _ _ _ _ _ _) (fun k hk => by
    rcases hk with hk | hk
    · have hk : k = b := hk
      subst hk
      exact ⟨.inl rfl, hr.lt.1⟩
    · have hk : k = W.heap.size := hk
      subst hk
      exact ⟨.inr (Nat.le_refl _), hr.lt.2⟩)
theorem Sq.rngStep {w W W' : World} {l : List Rsc} {kt : TypeId} {b r n : Nat} {f : ByteArray → Option Value} {seen seen' : List ByteArray} {cnt cnt' : Nat} (h : Sq w W (rRng kt b r n f seen cnt :: l)) (hr : RngS W' kt b r n f seen' cnt') (hg : W.grownBy W' (some r)) : Sq w W' (rRng kt b r n f seen' cnt' :: l) :=
  h.turn hg (fun k hk => by injection hk with hk; exact .inr hk.symm) hr (rRng_ok _ _ _ _ _ _ _) (fun k hk => by
    rcases hk with hk | hk
    · have hk : k = b := hk
      subst hk
      exact ⟨.inl (.inl rfl), hr.lt.1⟩
    · have hk : k = r := hk
      subst hk
      exact ⟨.inl (.inr rfl), hr.lt.2⟩)
end Go.Proofs.YtfmljboogkhobaaGreatDoor
/-
  How runs are split by a field, in plain words: counts by value, rising. No Go text is named here.
-/
namespace Go.Proofs.YtfmljboogkhobaaGreatDoor
open Go Go.RowKit

/-- the first value under a name -/
def fieldV (f : ByteArray) : List Pr → ByteArray
  | [] => ⟨#[]⟩
  | p :: ps => if p.1 = f then p.2 else fieldV f ps
def fieldH (f : ByteArray) : List Pr → Bool
  | [] => false
  | p :: ps => if p.1 = f then true else fieldH f ps
/-- the last -/
def fieldL (f acc : ByteArray) : List Pr → ByteArray
  | [] => acc
  | p :: ps => fieldL f (if p.1 = f then p.2 else acc) ps
theorem fldG_gt : ∀ (ps : List Pr) (last : ByteArray), fldG last ps = 0 → ∀ p ∈ ps, gtS p.1 last
  | [], _, _, p, hp => by cases hp
  | q :: ps, last, h, p, hp => by
    rw [fldG] at h
    split at h
    · cases h
    · split at h
      · cases h
      · split at h
        · cases h
        · rename_i _ _ h3
          have h3 : gtS q.1 last := by simpa [gtS] using h3
          rcases List.mem_cons.1 hp with rfl | hp
          · exact h3
          · exact (fldG_gt ps q.1 h p hp).trans h3
theorem fieldL_none (f : ByteArray) : ∀ (ps : List Pr) (acc : ByteArray), (∀ p ∈ ps, p.1 ≠ f) → fieldL f acc ps = acc
  | [], _, _ => rfl
  | p :: ps, acc, h => by
    rw [fieldL, if_neg (h p (List.mem_cons_self ..))]
    exact fieldL_none f ps acc (fun q hq => h q (List.mem_cons_of_mem _ hq))
theorem fieldL_eq (f : ByteArray) : ∀ (ps : List Pr) (last : ByteArray), fldG last ps = 0 → fieldL f ⟨#[]⟩ ps = fieldV f ps
  | [], _, _ => rfl
  | p :: ps, last, h => by
    have hg := fldG_gt (p :: ps) last h
    rw [fldG] at h
    split at h
    · cases h
    · split at h
      · cases h
      · split at h
        · cases h
        · rw [fieldL, fieldV]
          by_cases he : p.1 = f
          · rw [if_pos he, if_pos he]
            refine fieldL_none f ps _ (fun q hq hqf => ?_)
            have h1 := fldG_gt ps p.1 h q hq
            rw [hqf, ← he] at h1
            unfold gtS at h1
            rw [leS_self] at h1
            cases h1
          · rw [if_neg he, if_neg he]
            exact fieldL_eq f ps p.1 h
/-- how often a value comes -/
def occ (s : ByteArray) (vs : List ByteArray) : Nat := (vs.filter (fun t => decide (t = s))).length
theorem occ_snoc (s t : ByteArray) (vs : List ByteArray) : occ s (vs ++ [t]) = occ s vs + if t = s then 1 else 0 := by
  unfold occ
  rw [List.filter_append, List.length_append]
  congr 1
  rw [List.filter_cons]
  by_cases h : t = s
  · rw [if_pos (by simpa using h), if_pos h]; rfl
  · rw [if_neg (by simpa using h), if_neg h]; rfl
theorem occ_le (s : ByteArray) (vs : List ByteArray) : occ s vs ≤ vs.length := List.length_filter_le _ _
theorem occ_pos (s : ByteArray) (vs : List ByteArray) : occ s vs ≠ 0 ↔ s ∈ vs := by
  unfold occ
  rw [Ne, List.length_eq_zero_iff, List.filter_eq_nil_iff]
  constructor
  · intro h
    refine Classical.byContradiction (fun hn => h (fun t ht => ?_))
    rw [decide_eq_true_eq]
    intro he
    exact hn (he ▸ ht)
  · intro h hn
    exact hn s h (by simp)
/-- the map of counts -/
def mapC (vs : List ByteArray) : ByteArray → Option Value := fun s => if occ s vs = 0 then none else some (.int .i64 (occ s vs : Int))
theorem mapC_nil : mapC [] = fun _ => none := rfl
theorem mapC_get (vs : List ByteArray) (s : ByteArray) : (mapC vs s).getD (.int .i64 0) = .int .i64 (occ s vs : Int) := by
  unfold mapC
  by_cases h : occ s vs = 0
  · rw [if_pos h, h]; rfl
  · rw [if_neg h]; rfl
theorem mapC_upd (vs : List ByteArray) (s : ByteArray) : upd (mapC vs) s (.int .i64 ((occ s vs : Int) + 1)) = mapC (vs ++ [s]) := by
  funext t
  unfold upd mapC
  rw [occ_snoc]
  by_cases h : t = s
  · subst h
    rw [if_pos rfl, if_pos rfl, if_neg (by omega)]
    congr 2
  · rw [if_neg h, show (if s = t then 1 else 0) = 0 from if_neg (fun e => h e.symm), Nat.add_zero]
theorem mapC_some {vs : List ByteArray} {s : ByteArray} {v : Value} (h : mapC vs s = some v) : s ∈ vs ∧ v = .int .i64 (occ s vs : Int) := by
  unfold mapC at h
  split at h
  · cases h
  · rename_i h0
    injection h with h
    exact ⟨(occ_pos s vs).1 h0, h.symm⟩
theorem mapC_is (vs : List ByteArray) (s : ByteArray) : (mapC vs s).isSome = true ↔ s ∈ vs := by
  rw [← occ_pos]
  unfold mapC
  by_cases h : occ s vs = 0
  · rw [if_pos h]; simp [h]
  · rw [if_neg h]; simp [h]
/-- a pair: a value and its count -/
def cntP (vs : List ByteArray) (s : ByteArray) : Pr := (s, ⟨(Lib.itoa (occ s vs : Int)).toArray⟩)
/-- the answer: each value once with its count, rising -/
structure SplitP (vs : List ByteArray) (ys : List Pr) : Prop where
  up : ys.Pairwise (fun a b => cmpS a.1 b.1 < 0)
  ms : ∀ p, p ∈ ys ↔ p.1 ∈ vs ∧ p = cntP vs p.1
theorem cmpS_ltG (a b : ByteArray) : cmpS a b < 0 ↔ gtS b a := by
  have h := cmpS_ge b a
  unfold gtS
  rw [← h, decide_eq_false_iff_not]
  omega
theorem cmpS_irr (a : ByteArray) : ¬ cmpS a a < 0 := by
  rw [cmpS_ltG]
  unfold gtS
  rw [leS_self]
  decide
theorem cmpS_asym {a b : ByteArray} (h1 : cmpS a b < 0) (h2 : cmpS b a < 0) : False := by
  rw [cmpS_ltG] at h1 h2
  have h3 := leS_gt h1
  unfold gtS at h2
  rw [h3] at h2
  cases h2
theorem up_one : ∀ (l1 l2 : List Pr), l1.Pairwise (fun a b => cmpS a.1 b.1 < 0) → l2.Pairwise (fun a b => cmpS a.1 b.1 < 0) → (∀ p, p ∈ l1 ↔ p ∈ l2) → l1 = l2
  | [], [], _, _, _ => rfl
  | [], b :: t, _, _, h => by have := (h b).2 (List.mem_cons_self ..); cases this
  | a :: t, [], _, _, h => by have := (h a).1 (List.mem_cons_self ..); cases this
  | a :: t1, b :: t2, h1, h2, h => by
    rw [List.pairwise_cons] at h1 h2
    have hab : a = b := by
      rcases List.mem_cons.1 ((h a).1 (List.mem_cons_self ..)) with e | ha
      · exact e
      · rcases List.mem_cons.1 ((h b).2 (List.mem_cons_self ..)) with e | hb
        · exact e.symm
        · exact (cmpS_asym (h1.1 b hb) (h2.1 a ha)).elim
    subst hab
    congr 1
    refine up_one t1 t2 h1.2 h2.2 (fun p => ⟨fun hp => ?_, fun hp => ?_⟩)
    · rcases List.mem_cons.1 ((h p).1 (List.mem_cons_of_mem _ hp)) with e | hq
      · subst e; exact (cmpS_irr _ (h1.1 p hp)).elim
      · exact hq
    · rcases List.mem_cons.1 ((h p).2 (List.mem_cons_of_mem _ hp)) with e | hq
      · subst e; exact (cmpS_irr _ (h2.1 p hp)).elim
      · exact hq
theorem SplitP.one {vs : List ByteArray} {l1 l2 : List Pr} (h1 : SplitP vs l1) (h2 : SplitP vs l2) : l1 = l2 :=
  up_one l1 l2 h1.up h2.up (fun p => by rw [h1.ms, h2.ms])
/-- what a range over the map left, sorted -/
theorem SplitP.of {vs seen : List ByteArray} {ys : List Pr} (hn : seen.Nodup) (hm : ∀ s, s ∈ seen ↔ s ∈ vs) (hp : ys.Perm (seen.map (cntP vs))) (hu : ys.Pairwise (fun a b => ¬ cmpS b.1 a.1 < 0)) : SplitP vs ys := by
  have hms : ∀ p, p ∈ ys ↔ p.1 ∈ vs ∧ p = cntP vs p.1 := fun p => by
    rw [hp.mem_iff, List.mem_map]
    constructor
    · rintro ⟨s, hs, rfl⟩
      exact ⟨(hm s).1 hs, rfl⟩
    · rintro ⟨h1, h2⟩
      exact ⟨p.1, (hm _).2 h1, h2.symm⟩
  have hnn : (ys.map (·.1)).Nodup := by
    have h1 : (ys.map (·.1)).Perm seen := by
      have := hp.map (·.1)
      rw [List.map_map] at this
      have e : ((fun p : Pr => p.1) ∘ cntP vs) = id := by funext s; rfl
      rw [e, List.map_id] at this
      exact this
    exact h1.nodup_iff.2 hn
  unfold List.Nodup at hnn
  rw [List.pairwise_map] at hnn
  refine ⟨List.Pairwise.imp₂ (fun x y h1 h2 => ?_) hu hnn, hms⟩
  by_cases h0 : cmpS x.1 y.1 < 0
  · exact h0
  · exfalso
    rw [cmpS_ltG] at h0 h1
    have h3 : leS x.1 y.1 = true := by
      cases h : leS x.1 y.1
      · exact absurd h h1
      · rfl
    have h4 : leS y.1 x.1 = true := by
      cases h : leS y.1 x.1
      · exact absurd h h0
      · rfl
    exact h2 (leS_anti h3 h4)
end Go.Proofs.YtfmljboogkhobaaGreatDoor
/-
  rule.field by its contract.
-/
namespace Go.Proofs.YtfmljboogkhobaaGreatDoor
open Go Go.RowKit
attribute [local go_sem ↓] Go.wp_at_zero Go.wp_at_succ

theorem fieldV_drop {f : ByteArray} : ∀ (ps : List Pr) (k : Nat), k ≤ ps.length → (∀ j (hj : j < ps.length), j < k → ps[j].1 ≠ f) → fieldV f ps = fieldV f (ps.drop k) ∧ fieldH f ps = fieldH f (ps.drop k)
  | _, 0, _, _ => ⟨rfl, rfl⟩
  | [], k + 1, h, _ => by simp at h
  | p :: ps, k + 1, h, hn => by
    have h0 : p.1 ≠ f := hn 0 (by simp) (by omega)
    have ih := fieldV_drop ps k (by simp at h; omega) (fun j hj hjk => by have := hn (j + 1) (by simp; omega) (by omega); simpa using this)
    rw [fieldV, fieldH, if_neg h0, if_neg h0, List.drop_succ_cons]
    exact ih
set_option maxRecDepth 100000 in
theorem field_calls (b g o : Nat) (fa : Option Addr) (m fc : Nat) (fs : List Pr) (f : ByteArray) (w : World) (c4 : w.cell? ⟨g, o + 4, none⟩ = some (.slice fa m fc)) (hr : Rd w b 2 (.slice fa m fc) m (fs.flatMap prC)) :
    Calls Tryz.prog 71 #[.pointer (some ⟨g, o, none⟩), .string f] w (BRet (.tuple #[.string (fieldV f fs), .bool (fieldH f fs)]) w) := by
  obtain ⟨hl, hmc, hmm, hcells⟩ := hr.cells prC_len (by omega)
  unfold maxLen at hmm
  have HL := Lib.hid hl
  have HC := Lib.hid hcells
  clear hcells hl hr
  go_enter Tryz.func71, Tryz.ntmps71
  go_wp2_with fail
  go_loopw [13] (fun i wr => ∃ k : Nat, k ≤ m ∧ i = .int .i64 k ∧ Hid (∀ j (hj : j < fs.length), j < k → fs[j].1 ≠ f) ∧ Below w.heap.size w wr) (fun i _ => m - (intOf i).toNat)
  case atStart => exact ⟨0, Nat.zero_le _, rfl, Lib.hid (fun j hj h => by omega), Below.refl _ _⟩
  case round =>
    obtain ⟨k, hk, rfl, HN, hb⟩ := hrel
    have HD := Lib.hid (fieldV_drop fs k (by rw [HL.out]; exact hk) HN.out)
    by_cases hlt : k < m
    · have hkr : k < fs.length := by rw [HL.out]; exact hlt
      obtain ⟨q, o2, hA, _, hcs⟩ := HC.out (by omega)
      subst hA
      have d0 := below_cell hb (hcs k hkr 0 (by omega))
      have d1 := below_cell hb (hcs k hkr 1 (by omega))
      have HN2 : Hid (fs[k].1 ≠ f → ∀ j (hj : j < fs.length), j < k + 1 → fs[j].1 ≠ f) := Lib.hid (fun h j hj hjk => by
        by_cases he : j = k
        · subst he; exact h
        · exact HN.out j hj (by omega))
      have HV : Hid (fs[k].1 = f → fieldV f fs = fs[k].2 ∧ fieldH f fs = true) := Lib.hid (fun h => by
        rw [HD.out.1, HD.out.2, List.drop_eq_getElem_cons hkr, fieldV, fieldH, if_pos h, if_pos h]
        exact ⟨rfl, rfl⟩)
      obtain ⟨p, hp⟩ : ∃ p, p = fs[k] := ⟨_, rfl⟩
      rw [← hp] at d0 d1 HN2 HV
      obtain ⟨nm, vl⟩ := p
      replace d0 : wr.cell? ⟨q, o2 + k * 2, none⟩ = some (.string nm) := d0
      replace d1 : wr.cell? ⟨q, o2 + k * 2 + 1, none⟩ = some (.string vl) := d1
      have hbz := hb.alloc hb.size (.cells #[.string nm, .string vl] 58)
      have hk0 : (0 : Int) ≤ (k : Int) := by omega
      have hk1 : (k : Int) < (m : Int) := by omega
      clear hp hcs HN HD
      by_cases he : nm = f
      · subst he
        obtain ⟨e1, e2⟩ := HV.out rfl
        have heq : (nm.toList == nm.toList) = true := by simp
        clear HN2
        go_wp2_with fail
        go_ret2
        exact ⟨by first | rfl | (rw [e1, e2]; rfl), hbz⟩
      · have HN3 := Lib.hid (HN2.out he)
        have heq : (nm.toList == f.toList) = false := by
          rw [beq_eq_false_iff_ne]
          intro h
          exact he (by rw [Lib.toList_data, Lib.toList_data] at h; exact ba_inj h)
        clear HV
        go_wp2_with fail
        go_roundw
        case rel => exact ⟨k + 1, by omega, by go_num, HN3, hbz⟩
        case measure => simp [intOf]; omega
    · obtain rfl : k = m := by omega
      have e9 : fs.drop k = [] := List.drop_of_length_le (by rw [HL.out]; exact Nat.le_refl _)
      have HE := Lib.hid HD.out
      rw [e9] at HE
      clear e9 HD
      go_wp2_with fail
      go_ret2
      exact ⟨by first | (rw [HE.out.1, HE.out.2]; rfl) | rfl, hb⟩
end Go.Proofs.YtfmljboogkhobaaGreatDoor
