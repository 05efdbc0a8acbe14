/-
  A round of a range over slices.Chunk that appends a game: what holds whatever order is drawn.
-/
import Derived.Test.YtejadhehmcifoaaGreatDoorZBrk2
import Derived.Test.YtejadhehmcifoaaGreatDoorZReg
namespace Go.Proofs.YtejadhehmcifoaaGreatDoor
open Go Go.RowKit Go.Shelf

theorem wpAnyIn_inv {F : Fence} {n : Nat} {P : Program} {md : Region.Mode} {ops : Array Oper} {Q : Exit → Act → World → Prop} {Inv : Array Bool → Act → World → Prop}
    (hstep : ∀ listed a w, Inv listed a w → (∀ fuel, listed.toList.count false ≤ fuel → wpAnyIn F n P md ops Q fuel listed a w) ∨
      (Region.ready md ops listed ≠ [] ∧ ∀ i ∈ Region.ready md ops listed, wpOpIn F n P ops Q i (fun a' w' => Inv (listed.setIfInBounds i true) a' w') a w)) :
    ∀ fuel listed a w, listed.toList.count false ≤ fuel → listed.size = ops.size → Inv listed a w → wpAnyIn F n P md ops Q fuel listed a w
  | 0, listed, a, w, hc, hs, h => by
    rcases hstep listed a w h with hd | ⟨hne, _⟩
    · exact hd 0 hc
    · exfalso
      obtain ⟨j, hj⟩ := List.exists_mem_of_ne_nil _ hne
      obtain ⟨h0, o, ho, _⟩ := mem_ready.1 hj
      have hlt : j < listed.size := by rw [hs]; exact (Array.getElem?_eq_some_iff.1 ho).1
      have hf : listed.toList[j]? = some false := by
        have : listed[j]? = some false := by
          rw [Array.getElem?_eq_getElem hlt] at *
          simp only [Array.getD_eq_getD_getElem?, Array.getElem?_eq_getElem hlt, Option.getD_some] at h0
          rw [h0]
        simpa using this
      have := count_set hf
      omega
  | fuel + 1, listed, a, w, hc, hs, h => by
    rcases hstep listed a w h with hd | ⟨hne, hall⟩
    · exact hd (fuel + 1) hc
    · refine ⟨fun h0 => absurd h0 hne, fun i hi => wpOpIn_mono (fun a' w' h' => ?_) (hall i hi)⟩
      obtain ⟨h0, o, ho, _⟩ := mem_ready.1 hi
      have hlt : i < listed.size := by rw [hs]; exact (Array.getElem?_eq_some_iff.1 ho).1
      have hf : listed.toList[i]? = some false := by
        have : listed[i]? = some false := by
          simp only [Array.getD_eq_getD_getElem?, Array.getElem?_eq_getElem hlt, Option.getD_some] at h0
          rw [Array.getElem?_eq_getElem hlt, h0]
        simpa using this
      have hcs := count_set hf
      refine wpAnyIn_inv hstep fuel _ a' w' ?_ (by simpa using hs) h'
      rw [Array.toList_setIfInBounds]
      omega

theorem own_isCells {W : World} {base : Nat} {e : TypeId} {size n : Nat} {v : Value} {xs : List Value} (h : W.ownsRow base e size v n xs) : ∀ j o, v.ownBlock = some j → W.heap[j]? = some o → o.isCells = true := by
  intro j o hj ho
  rcases h.2 with ⟨rfl, _⟩ | ⟨g, cap, cur, rfl, _, hgb, _⟩
  · simp [Value.ownBlock] at hj
  · obtain rfl : g = j := by simpa [Value.ownBlock] using hj
    rw [hgb] at ho
    cases ho
    rfl
section
variable {P : Program} {w : World}
theorem wpIn_app_rd {l n : Nat} {o : Oper} {a : Act} {K : Act → World → Prop} {Q : Exit → Act → World → Prop} (s x : Operand) (t : TypeId)
    (ho : o.op = .call { callee := .builtin .append, args := #[s, x], argTypes := #[t, t] })
    (base : Nat) (e : TypeId) (i : TypeInfo) (z : Value) (size bytes : Nat) (ht : P.underlying t = some (.slice e)) (hi : P.info? e = some i) (hz : i.zero = some z)
    (hsize : i.size = size) (hby : i.bytes = bytes) (hzs : z.cells.size = size) (hsz : 0 < size)
    (v : Value) (k : Nat) (xs : List Value) (hs : a.eval s = v) (hown : w.ownsRow base e size v k xs)
    (b : Nat) (A : Option Addr) (m c : Nat) (news : List Value) (hx : a.eval x = .slice A m c) (hr : Rd w b size (.slice A m c) m news) (h1 : ∀ u ∈ news, u.oneCell' = true)
    (h63 : k + m ≤ maxLen) (hbytes : (k + m) * bytes ≤ 140737488355328) (hbase : base ≤ w.heap.size)
    (h : ∀ v' w', w'.ownsRow base e size v' (k + m) (xs ++ news) → w.grownBy w' v.ownBlock → (v'.ownBlock = v.ownBlock ∨ v'.ownBlock = some w.heap.size) → K (a.put o.dst v') w') : o.wpIn (Fence.wide.inRound l) n P a w K Q := by
  obtain ⟨v', w', hrun, h2, h3, h4⟩ := run_app_rd (P := P) w base t o.type e i z size bytes ht hi hz hsize hby hzs hsz v k xs hown b A m c news hr h1 h63 hbytes hbase
  refine ⟨fun _ _ => trivial, ?_⟩
  have e1 : Oper.semAt (Fence.wide.inRound l).round a.eval o = execOp a.eval o := Oper.semAt_some l _ o (fun c hc => by rw [ho] at hc; cases hc)
  rw [e1]
  unfold execOp
  simp only [ho, resolve, invoke, builtin, Sem.run_bind, Sem.run_pure, Result.andThen_ok, List.map_toArray, List.map_cons, List.map_nil, hs, hx, hrun]
  exact h v' w' h2 h3 h4
end

/-- in the middle of a round: b0: the row is read; bl: the game is laid; ba: it is behind the row; bs: the row is put back -/
structure BSt (W0 : World) (n0 Bo : Nat) (v : Value) (k : Nat) (L : List Value) (s0 s1 : ByteArray) (b0 bl ba bs : Bool) (xl xa : Value) (V : World) : Prop where
  bx : Bx n0 Bo W0 V
  kp : KeepsFrom n0 W0 V
  og1 : ba = true → b0 = true
  og2 : bs = true → ba = true
  og3 : ba = true → bl = true
  p1 : ba = false → Boxed V Bo 28 v ∧ V.ownsRow n0 32 2 v k L
  p2 : bl = true → ba = false → ∃ gl, xl = .slice (some ⟨gl, 0, none⟩) 1 1 ∧ n0 ≤ gl ∧ Blk V gl 32 #[.string s0, .string s1]
  p3 : ba = true → bs = false → Boxed V Bo 28 v ∧ V.ownsRow n0 32 2 xa (k + 1) (L ++ [.string s0, .string s1])
  p4 : bs = true → Boxed V Bo 28 xa ∧ V.ownsRow n0 32 2 xa (k + 1) (L ++ [.string s0, .string s1])
section
variable {W0 V V' : World} {n0 Bo k : Nat} {v xl xa : Value} {L : List Value} {s0 s1 : ByteArray} {b0 bl ba bs : Bool}
theorem BSt.start (hv : Boxed W0 Bo 28 v) (hr : W0.ownsRow n0 32 2 v k L) : BSt W0 n0 Bo v k L s0 s1 false false false false xl xa W0.drew where
  bx := (Bx.refl _ _ _).drew
  kp := ⟨Nat.le_refl _, fun _ _ _ h _ => h⟩
  og1 := fun h => by cases h
  og2 := fun h => by cases h
  og3 := fun h => by cases h
  p1 := fun _ => ⟨hv, hr⟩
  p2 := fun h => by cases h
  p3 := fun h => by cases h
  p4 := fun h => by cases h
theorem BSt.ba0 (h : BSt W0 n0 Bo v k L s0 s1 false bl ba bs xl xa V) : ba = false := by
  cases ba
  · rfl
  · exact absurd (h.og1 rfl) (by decide)
theorem BSt.bal (h : BSt W0 n0 Bo v k L s0 s1 b0 false ba bs xl xa V) : ba = false := by
  cases ba
  · rfl
  · exact absurd (h.og3 rfl) (by decide)
theorem BSt.out0 (h : BSt W0 n0 Bo v k L s0 s1 false bl ba bs xl xa V) : V.cell? ⟨Bo, 0, none⟩ = some v := (h.p1 h.ba0).1.cell
theorem BSt.op0 (h : BSt W0 n0 Bo v k L s0 s1 false bl ba bs xl xa V) : BSt W0 n0 Bo v k L s0 s1 true bl ba bs xl xa V := { h with og1 := fun _ => rfl }
theorem BSt.opl (h : BSt W0 n0 Bo v k L s0 s1 b0 false ba bs xl xa V) (hn : n0 ≤ W0.heap.size) : BSt W0 n0 Bo v k L s0 s1 b0 true ba bs (.slice (some ⟨V.heap.size, 0, none⟩) 1 1) xa (V.alloc (.cells #[.string s0, .string s1] 32)) := by
  have hba := h.bal
  subst hba
  have hs := h.bx.size
  exact { bx := h.bx.alloc hn _, kp := h.kp.trans ((KeepsOthers.alloc _ _).from _), og1 := h.og1, og2 := h.og2, og3 := fun _ => rfl
          p1 := fun _ => ⟨(h.p1 rfl).1.alloc _, (h.p1 rfl).2.alloc _⟩
          p2 := fun _ _ => ⟨V.heap.size, rfl, by omega, heap_alloc_new _ _⟩
          p3 := fun h => by cases h
          p4 := fun h' => absurd (h.og2 h') (by decide) }
theorem BSt.opa (h : BSt W0 n0 Bo v k L s0 s1 true true false bs xl xa V) (hn : n0 ≤ W0.heap.size) {v' : Value} (ho : V'.ownsRow n0 32 2 v' (k + 1) (L ++ [.string s0, .string s1])) (hg : V.grownBy V' v.ownBlock) :
    BSt W0 n0 Bo v k L s0 s1 true true true bs xl v' V' := by
  obtain ⟨hb, hr⟩ := h.p1 rfl
  have hne := hb.not_row (by decide) hr
  have hbs : bs = false := by
    cases bs
    · rfl
    · exact absurd (h.og2 rfl) (by decide)
  subst hbs
  exact { bx := h.bx.grown hg hn (fun j hj => .inr (hr.lt j hj).1), kp := h.kp.trans ((KeepsOthers.of_grownBy hg (own_isCells hr)).from _), og1 := fun _ => rfl, og2 := fun _ => rfl, og3 := fun _ => rfl
          p1 := fun h => by cases h
          p2 := fun _ h => by cases h
          p3 := fun _ _ => ⟨hb.kept hg hne, ho⟩
          p4 := fun h => by cases h }
theorem BSt.ops (h : BSt W0 n0 Bo v k L s0 s1 true true true false xl xa V) : BSt W0 n0 Bo v k L s0 s1 true true true true xl xa (V.setCell ⟨Bo, 0, none⟩ xa) := by
  obtain ⟨hb, hr⟩ := h.p3 rfl rfl
  have hte := hb.not_row (by decide) hr
  exact { bx := h.bx.setCell (p := ⟨Bo, 0, none⟩) (.inl rfl) _, kp := h.kp.trans ((KeepsOthers.setCell _ _ _).from _), og1 := fun _ => rfl, og2 := fun _ => rfl, og3 := fun _ => rfl
          p1 := fun h => by cases h
          p2 := fun _ h => by cases h
          p3 := fun _ h => by cases h
          p4 := fun _ => ⟨hb.set xa, own_set hr (fun e => hte e.symm) 0 xa⟩ }
theorem BSt.app {l n : Nat} {ops : Array Oper} {o : Oper} {a : Act} {K : Act → World → Prop} {Q : Exit → Act → World → Prop} {E : Prop} (hgd : o.guard = none) (s y : Operand) (ho : o.op = .call { callee := .builtin .append, args := #[s, y], argTypes := #[28, 28] })
    (h : BSt W0 n0 Bo v k L s0 s1 true true false bs xl xa V) (b : Nat) (hb : b < n0) (hn : n0 ≤ W0.heap.size) (hk : k ≤ 1000) (hs : a.eval s = v) (hx : a.eval y = xl)
    (hK : ∀ v' V', BSt W0 n0 Bo v k L s0 s1 true true true bs xl v' V' → K (a.put o.dst v') V') :
    if Region.wanted o (yielded ops a.tmps) = true then Oper.wpIn (Fence.wide.inRound l) n Tryz.prog o a V K Q else E := by
  obtain ⟨i0, hi, hz0, hz1, hz2⟩ := info_parts info_gm
  have hw : Region.wanted o (yielded ops a.tmps) = true := by simp [Region.wanted, hgd]
  rw [if_pos hw]
  obtain ⟨gl, hgl, hge, hblk⟩ := h.p2 rfl rfl
  have hsz := h.bx.size
  have hr : Rd V b 2 (.slice (some ⟨gl, 0, none⟩) 1 1) 1 [.string s0, .string s1] := blkRd 2 1 hblk (by omega) (by decide) rfl
  refine wpIn_app_rd s y 28 ho n0 32 i0 (.agg #[.string ⟨#[]⟩, .string ⟨#[]⟩]) 2 32 Tryz.underlying28 hi hz0 hz1 hz2 rfl (by decide) v k L hs (h.p1 rfl).2 b _ 1 1 [.string s0, .string s1] (hx.trans hgl) hr (one2 rfl rfl) (by unfold maxLen; omega) (by omega) (by omega) ?_
  intro v' w' h1 h2 _
  exact hK v' w' (h.opa hn h1 h2)
end
end Go.Proofs.YtejadhehmcifoaaGreatDoor
