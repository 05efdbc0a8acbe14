/-
  append of a slice that reads as a list (nil, empty or not) onto a row of the call's own. No Go text is named here.
-/
import Derived.Test.YtfmljboogkhobaaGreatDoorZBase
import Derived.RegionTactic
import Derived.Test.YtfmljboogkhobaaGreatDoorZSep
import Derived.Shelf.GgSortFunc.InsertionK
namespace Go.Proofs.YtfmljboogkhobaaGreatDoor
open Go Go.RowKit
variable {P : Program} (w : World)

theorem run_app_nil (base : Nat) (t ty e : TypeId) (i : TypeInfo) (size : Nat) (ht : P.underlying t = some (.slice e)) (hi : P.info? e = some i)
    (v : Value) (n : Nat) (xs : List Value) (hown : w.ownsRow base e size v n xs) (c : Nat) : (Builtin.append_ #[t, t] ty #[v, .slice none 0 c]).run P w = .ok v w := by
  rcases hown.2 with ⟨rfl, rfl⟩ | ⟨g, cap, cur, rfl, _, _, hnc, _⟩
  · simp [Builtin.append_, run_underlying ht, sizeOf, typeInfo, hi, Builtin.lenOf, Builtin.firstCells]
  · simp [Builtin.append_, run_underlying ht, sizeOf, typeInfo, hi, Builtin.lenOf, Builtin.firstCells, hnc, storeCells]
theorem run_app_rd (base : Nat) (t ty e : TypeId) (i : TypeInfo) (z : Value) (size bytes : Nat) (ht : P.underlying t = some (.slice e)) (hi : P.info? e = some i) (hz : i.zero = some z)
    (hsize : i.size = size) (hby : i.bytes = bytes) (hzs : z.cells.size = size) (hsz : 0 < size)
    (v : Value) (n : Nat) (xs : List Value) (hown : w.ownsRow base e size v n xs)
    (b : Nat) (A : Option Addr) (m c : Nat) (news : List Value) (hr : Rd w b size (.slice A m c) m news) (h1 : ∀ u ∈ news, u.oneCell' = true)
    (h63 : n + m ≤ maxLen) (hbytes : (n + m) * bytes ≤ 140737488355328) (hbase : base ≤ w.heap.size) :
    ∃ v' w', (Builtin.append_ #[t, t] ty #[v, .slice A m c]).run P w = .ok v' w' ∧ w'.ownsRow base e size v' (n + m) (xs ++ news) ∧ w.grownBy w' v.ownBlock ∧
      (v'.ownBlock = v.ownBlock ∨ v'.ownBlock = some w.heap.size) := by
  obtain ⟨A', c', e1, e2, e3, e4, e5, e6⟩ := hr
  injection e1 with ea eb ec
  subst ea ec
  cases A with
  | none =>
    obtain ⟨rfl, rfl⟩ := e5 rfl
    have hn : news = [] := List.eq_nil_of_length_eq_zero (by simpa using e4)
    subst hn
    exact ⟨v, w, run_app_nil w base t ty e i size ht hi v n xs hown 0, by simpa using hown, World.grownBy.refl w _, .inl rfl⟩
  | some ad =>
    have hcells : ∀ j u, news[j]? = some u → w.cell? (ad.add j) = some u := by
      intro j u hu
      rcases Nat.eq_zero_or_pos m with h0 | h0
      · subst h0
        have hn : news = [] := List.eq_nil_of_length_eq_zero (by simpa using e4)
        subst hn
        simp at hu
      · obtain ⟨g, o, f1, _, f3⟩ := e6 h0
        injection f1 with f1
        subst f1
        have hadd : (⟨g, o, none⟩ : Addr).add j = ⟨g, o + j, none⟩ := by unfold Addr.add; split <;> simp_all
        rw [hadd]
        exact f3 j u hu
    obtain ⟨v', w', hrun, h2, h3, _, h5⟩ := run_append_own_at (P := P) w base t ty e i z size bytes ht hi hz hsize hby hzs hsz v n xs hown ad m c news e4 hcells h1 h63 hbytes hbase
    exact ⟨v', w', hrun, h2, h3, h5⟩
theorem wp_app_rd {o : Oper} {a : Act} {K : Act → World → Prop} {Q : Exit → Act → World → Prop} (s x : Operand) (t : TypeId)
    (ho : o.op = .call { callee := .builtin .append, args := #[s, x], argTypes := #[t, t] })
    (base : Nat) (e : TypeId) (i : TypeInfo) (z : Value) (size bytes : Nat) (ht : P.underlying t = some (.slice e)) (hi : P.info? e = some i) (hz : i.zero = some z)
    (hsize : i.size = size) (hby : i.bytes = bytes) (hzs : z.cells.size = size) (hsz : 0 < size)
    (v : Value) (n : Nat) (xs : List Value) (hs : a.eval s = v) (hown : w.ownsRow base e size v n xs)
    (b : Nat) (A : Option Addr) (m c : Nat) (news : List Value) (hx : a.eval x = .slice A m c) (hr : Rd w b size (.slice A m c) m news) (h1 : ∀ u ∈ news, u.oneCell' = true)
    (h63 : n + m ≤ maxLen) (hbytes : (n + m) * bytes ≤ 140737488355328) (hbase : base ≤ w.heap.size)
    (h : ∀ v' w', w'.ownsRow base e size v' (n + m) (xs ++ news) → w.grownBy w' v.ownBlock → (v'.ownBlock = v.ownBlock ∨ v'.ownBlock = some w.heap.size) → K (a.put o.dst v') w') : o.wp P a w K Q := by
  obtain ⟨v', w', hrun, h2, h3, h4⟩ := run_app_rd (P := P) w base t o.type e i z size bytes ht hi hz hsize hby hzs hsz v n xs hown b A m c news hr h1 h63 hbytes hbase
  unfold Oper.wp execOp
  simp only [ho, resolve, invoke, builtin, Sem.run_bind, Sem.run_pure, Result.andThen_ok, List.map_toArray, List.map_cons, List.map_nil, hs, hx, hrun]
  exact h v' w' h2 h3 h4
theorem wpList_app_rd {ops : Array Oper} {rest : List Oper} {o : Oper} {a : Act} {Q : Exit → Act → World → Prop} (hgd : o.guard = none) (s x : Operand) (t : TypeId)
    (ho : o.op = .call { callee := .builtin .append, args := #[s, x], argTypes := #[t, t] })
    (base : Nat) (e : TypeId) (i : TypeInfo) (z : Value) (size bytes : Nat) (ht : P.underlying t = some (.slice e)) (hi : P.info? e = some i) (hz : i.zero = some z)
    (hsize : i.size = size) (hby : i.bytes = bytes) (hzs : z.cells.size = size) (hsz : 0 < size)
    (v : Value) (n : Nat) (xs : List Value) (hs : a.eval s = v) (hown : w.ownsRow base e size v n xs)
    (b : Nat) (A : Option Addr) (m c : Nat) (news : List Value) (hx : a.eval x = .slice A m c) (hr : Rd w b size (.slice A m c) m news) (h1 : ∀ u ∈ news, u.oneCell' = true)
    (h63 : n + m ≤ maxLen) (hbytes : (n + m) * bytes ≤ 140737488355328) (hbase : base ≤ w.heap.size)
    (h : ∀ v' w', w'.ownsRow base e size v' (n + m) (xs ++ news) → w.grownBy w' v.ownBlock → (v'.ownBlock = v.ownBlock ∨ v'.ownBlock = some w.heap.size) → wpList P ops Q rest (a.put o.dst v') w') : wpList P ops Q (o :: rest) a w :=
  wpList_plain hgd fun _ hK => wp_app_rd w s x t ho base e i z size bytes ht hi hz hsize hby hzs hsz v n xs hs hown b A m c news hx hr h1 h63 hbytes hbase fun v' w' h2 h3 h4 => hK _ _ (h v' w' h2 h3 h4)
end Go.Proofs.YtfmljboogkhobaaGreatDoor
/-
  Memory behind slices.SortFunc at structs: the row alone is turned. No Go text is named here.
-/
namespace Go.Proofs.YtfmljboogkhobaaGreatDoor
open Go Go.RowKit Go.Sort

theorem mapBlock_heap (w : World) (blk : Nat) (f : Array Value → Array Value) (k : Nat) (h : k ≠ blk) : (mapBlock w blk f).heap[k]? = w.heap[k]? := by
  unfold mapBlock
  simp only [Array.getElem?_modify]
  rw [if_neg (fun e => h e.symm)]
theorem mapBlock_size (w : World) (blk : Nat) (f : Array Value → Array Value) : (mapBlock w blk f).heap.size = w.heap.size := by
  unfold mapBlock
  simp
theorem mapBlock_at (w : World) (blk : Nat) (f : Array Value → Array Value) {c : Array Value} {e : TypeId} {fr : Nat × Nat} (h : w.heap[blk]? = some (.cells c e fr)) : (mapBlock w blk f).heap[blk]? = some (.cells (f c) e fr) := by
  unfold mapBlock
  simp only [Array.getElem?_modify]
  rw [if_pos trivial, h]
  rfl
theorem sortW_heap {α : Type} [Inhabited α] (enc : α → List Value) (k : Nat) (w : World) (blk m : Nat) (dk : Array α) (os : Array Obj) (i : Nat) (hi : i < w.heap.size) :
    (sortWorldK enc k w blk 0 m dk os).heap[i]? = (mapBlock w blk (putCells id 0 (flatK enc k dk))).heap[i]? := by
  have e : (sortWorldK enc k w blk 0 m dk os).heap = (mapBlock w blk (putCells id 0 (flatK enc k dk))).heap ++ os := rfl
  rw [e, Array.getElem?_append_left (by rw [mapBlock_size]; exact hi)]
theorem sortW_grown {α : Type} [Inhabited α] (enc : α → List Value) (k : Nat) (w : World) (blk m : Nat) (dk : Array α) (os : Array Obj) : w.grownBy (sortWorldK enc k w blk 0 m dk os) (some blk) := by
  refine ⟨rfl, rfl, rfl, ?_, fun i hi hn => ?_⟩
  · have e : (sortWorldK enc k w blk 0 m dk os).heap = (mapBlock w blk (putCells id 0 (flatK enc k dk))).heap ++ os := rfl
    rw [e, Array.size_append, mapBlock_size]
    omega
  · rw [sortW_heap enc k w blk m dk os i hi, mapBlock_heap _ _ _ _ (fun e => hn (by rw [e]))]
theorem sortW_own {α : Type} [Inhabited α] (enc : α → List Value) (k : Nat) (hk : ∀ x, (enc x).length = k) (h0 : 0 < k) {w : World} {base blk n cap : Nat} {e : TypeId} {xs : List Value} (h : w.ownsRow base e k (.slice (some ⟨blk, 0, none⟩) n cap) n xs) (m : Nat) (dk : Array α) (hd : dk.size = n) (os : Array Obj) :
    (sortWorldK enc k w blk 0 m dk os).ownsRow base e k (.slice (some ⟨blk, 0, none⟩) n cap) n (dk.toList.flatMap enc) := by
  have hlt := (h.lt blk rfl).2
  refine ⟨by rw [flat_len enc k hk, Array.length_toList, hd], ?_⟩
  rcases h.2 with ⟨he, _⟩ | ⟨g, cap', cur, he, hb, hg, h1, h2, h3, h4⟩
  · cases he
  · injection he with he1 he2 he3
    injection he1 with he1
    injection he1 with he1
    subst he1 he3
    refine .inr ⟨blk, cap, putCells id 0 (flatK enc k dk) cur, rfl, hb, ?_, h1, h2, ?_, ?_⟩
    · rw [sortW_heap enc k w blk m dk os blk hlt, mapBlock_at w blk _ hg]
    · unfold putCells; rw [Array.size_mapIdx, h3]
    · have hnk : n * k ≤ cap * k := Nat.mul_le_mul_right _ h1
      refine List.ext_getElem? fun j => ?_
      rcases Nat.lt_or_ge j (n * k) with hj | hj
      · rw [List.getElem?_take_of_lt hj, Array.getElem?_toList]
        unfold putCells
        rw [Array.getElem?_mapIdx, Array.getElem?_eq_getElem (by omega)]
        simp only [Option.map_some, size_flatK]
        rw [if_pos ⟨Nat.zero_le _, by rw [hd]; omega⟩, Nat.sub_zero, get_flatK enc k dk j (by rw [hd]; exact hj)]
        have hq : j / k < dk.size := by rw [hd]; exact (Nat.div_lt_iff_lt_mul h0).2 hj
        have hr : j % k < k := Nat.mod_lt _ h0
        have hfl := flat_get enc k hk dk.toList (j / k) (j % k) (by simpa using hq) hr
        rw [Nat.div_add_mod' j k] at hfl
        rw [hfl, getElem!_pos dk _ hq, Array.getElem_toList]
        have hlen : j % k < (enc dk[j / k]).length := by rw [hk]; exact hr
        rw [List.getElem?_eq_getElem hlen, getElem!_pos (enc dk[j / k]) (j % k) hlen]
        rfl
      · rw [List.getElem?_eq_none (by rw [List.length_take, Array.length_toList]; omega), List.getElem?_eq_none (by rw [flat_len enc k hk, Array.length_toList, hd]; exact hj)]
theorem holdsK_own {α : Type} [Inhabited α] (enc : α → List Value) (k : Nat) (hk : ∀ x, (enc x).length = k) (h0 : 0 < k) {w : World} {base blk n cap : Nat} {e : TypeId} (dk : Array α) (h : w.ownsRow base e k (.slice (some ⟨blk, 0, none⟩) n cap) n (dk.toList.flatMap enc)) : HoldsK enc k w blk 0 dk := by
  have hl : dk.size = n := by
    have := h.1
    rw [flat_len enc k hk, Array.length_toList] at this
    exact Nat.eq_of_mul_eq_mul_right h0 this
  intro j hj
  rw [size_flatK] at hj
  have hq : j / k < dk.size := (Nat.div_lt_iff_lt_mul h0).2 hj
  have hr : j % k < k := Nat.mod_lt _ h0
  have hc := own_cell enc k hk h (j / k) (j % k) (by simpa using hq) (by omega) hr
  rw [Nat.div_add_mod' j k, Array.getElem_toList] at hc
  rw [Nat.zero_add, get_flatK enc k dk j hj, getElem!_pos dk _ hq]
  have hlen : j % k < (enc dk[j / k]).length := by rw [hk]; exact hr
  rw [List.getElem?_eq_getElem hlen] at hc
  rw [hc, getElem!_pos (enc dk[j / k]) (j % k) hlen]
  exact ⟨rfl, h.frozenAt _⟩
end Go.Proofs.YtfmljboogkhobaaGreatDoor
