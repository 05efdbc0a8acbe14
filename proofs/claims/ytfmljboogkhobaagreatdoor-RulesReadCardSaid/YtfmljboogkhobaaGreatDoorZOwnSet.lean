/-
  Cells stored into a row of the call's own; a shorter slice of it; append to a slice without room. No Go text is named here.
-/
import Derived.Test.YtfmljboogkhobaaGreatDoorZSep
import Derived.ArgAppend
import Derived.RegionTactic
namespace Go.Proofs.YtfmljboogkhobaaGreatDoor
open Go Go.RowKit

theorem own_short {w : World} {base : Nat} {e : TypeId} {size n k c : Nat} {A : Option Addr} {xs : List Value} (h : w.ownsRow base e size (.slice A n c) n xs) (hk : k ≤ n) (hA : A ≠ none) : w.ownsRow base e size (.slice A k c) k (xs.take (k * size)) := by
  have h1 := h.1
  refine ⟨?_, ?_⟩
  · rw [List.length_take, h1]
    exact Nat.min_eq_left (Nat.mul_le_mul_right _ hk)
  · rcases h.2 with ⟨he, _⟩ | ⟨g, cap, cur, he, hb, hg, h2, h3, h4, h5⟩
    · injection he with he _ _
      exact absurd he hA
    · injection he with he1 he2 he3
      subst he1 he3
      refine .inr ⟨g, c, cur, rfl, hb, hg, Nat.le_trans hk h2, h3, h4, ?_⟩
      rw [← h5, List.take_take, Nat.min_eq_left (Nat.mul_le_mul_right _ hk)]

def setL : List Value → Nat → List Value → List Value
  | xs, _, [] => xs
  | xs, o, v :: vs => setL (xs.set o v) (o + 1) vs
theorem setL_len : ∀ (vs xs : List Value) (o : Nat), (setL xs o vs).length = xs.length
  | [], _, _ => rfl
  | v :: vs, xs, o => by rw [setL, setL_len vs, List.length_set]
theorem setL_app : ∀ (vs a b c : List Value), b.length = vs.length → setL (a ++ b ++ c) a.length vs = a ++ vs ++ c
  | [], a, b, c, h => by
    have : b = [] := List.eq_nil_of_length_eq_zero h
    subst this
    rfl
  | v :: vs, a, [], c, h => by simp at h
  | v :: vs, a, x :: b, c, h => by
    have ih := setL_app vs (a ++ [v]) b c (by simpa using h)
    rw [setL, List.append_assoc, List.set_append_right _ _ (Nat.le_refl _), Nat.sub_self, List.cons_append, List.set_cons_zero]
    have e1 : a ++ v :: (b ++ c) = a ++ [v] ++ b ++ c := by simp
    have e2 : a.length + 1 = (a ++ [v]).length := by simp
    rw [e1, e2, ih]
    simp
section
variable {w W : World} {l : List Rsc}
theorem Sq.setL {base : Nat} {e : TypeId} {size n g c : Nat} : ∀ (vs : List Value) (o : Nat) (W : World) (xs : List Value), Sq w W (rOwn base e size (.slice (some ⟨g, 0, none⟩) n c) n xs :: l) → Sq w (W.setCells g o vs) (rOwn base e size (.slice (some ⟨g, 0, none⟩) n c) n (Go.Proofs.YtfmljboogkhobaaGreatDoor.setL xs o vs) :: l)
  | [], _, _, _, h => h
  | v :: vs, o, W, xs, h => by
    have ho : W.ownsRow base e size (.slice (some ⟨g, 0, none⟩) n c) n xs := h.head
    exact Sq.setL vs (o + 1) _ _ (h.store_ (g := g) rfl o v (r' := rOwn base e size (.slice (some ⟨g, 0, none⟩) n c) n (xs.set o v)) (ho.stored o v).1 (rOwn_ok _ _ _ _ _ _) (fun _ hk => hk))
theorem Sq.short {base : Nat} {e : TypeId} {size n k g c : Nat} {xs : List Value} (h : Sq w W (rOwn base e size (.slice (some ⟨g, 0, none⟩) n c) n xs :: l)) (hk : k ≤ n) : Sq w W (rOwn base e size (.slice (some ⟨g, 0, none⟩) k c) k (xs.take (k * size)) :: l) :=
  h.turn (row := none) (World.grownBy.refl W _) (fun _ hk => by cases hk) (own_short h.head hk (by simp)) (rOwn_ok _ _ _ _ _ _) (fun q hq => ⟨.inl hq, (h.hp.new _ (List.mem_cons_self ..) q hq).2⟩)
end

/-- append to a slice that has no room: new memory -/
theorem run_app_full {P : Program} (w : World) (t ty e : TypeId) (i : TypeInfo) (z : Value) (size bytes : Nat) (ht : P.underlying t = some (.slice e)) (hi : P.info? e = some i) (hz : i.zero = some z)
    (hsize : i.size = size) (hby : i.bytes = bytes) (hzs : z.cells.size = size) (hsz : 0 < size)
    (b n : Nat) (A : Option Addr) (c : Nat) (xs : List Value) (hr : Rd w b size (.slice A n c) n xs)
    (a : Addr) (m c2 : Nat) (news : List Value) (hl : news.length = m * size) (hnews : ∀ j u, news[j]? = some u → w.cell? (a.add j) = some u) (h1 : ∀ u ∈ news, u.oneCell' = true)
    (hm : 0 < m) (h63 : n + m ≤ maxLen) (hbytes : (n + m) * bytes ≤ 140737488355328) :
    ∃ v' w', (Builtin.append_ #[t, t] ty #[.slice A n n, .slice (some a) m c2]).run P w = .ok v' w' ∧ w'.ownsRow w.heap.size e size v' (n + m) (xs ++ news) ∧ Below w.heap.size w w' := by
  obtain ⟨A', c', e1, e2, e3, e4, e5, e6⟩ := hr
  injection e1 with ea eb ec
  subst ea ec
  cases A with
  | none =>
    obtain ⟨rfl, rfl⟩ := e5 rfl
    have hx : xs = [] := List.eq_nil_of_length_eq_zero (by simpa using e4)
    subst hx
    obtain ⟨v', w', hrun, h2, h3, _, h5⟩ := run_append_own_at (P := P) w w.heap.size t ty e i z size bytes ht hi hz hsize hby hzs hsz (.slice none 0 0) 0 [] (World.ownsRow_nil _ _ _ _) a m c2 news hl hnews h1 h63 hbytes (Nat.le_refl _)
    exact ⟨v', w', hrun, h2, ⟨h3.os, h3.tape, h3.output, h3.size, fun k hk => h3.block k hk (by simp [Value.ownBlock])⟩⟩
  | some ad =>
    have hcells : ∀ j u, xs[j]? = some u → w.cell? (ad.add j) = some u := by
      intro j u hu
      have hpos : 0 < n := by
        rcases Nat.eq_zero_or_pos n with h | h
        · subst h
          have hx : xs = [] := List.eq_nil_of_length_eq_zero (by simpa using e4)
          subst hx
          simp at hu
        · exact h
      obtain ⟨g, o, f1, _, f3⟩ := e6 hpos
      injection f1 with f1
      subst f1
      have hadd : (⟨g, o, none⟩ : Addr).add j = ⟨g, o + j, none⟩ := by unfold Addr.add; split <;> simp_all
      rw [hadd]
      exact f3 j u hu
    obtain ⟨v', w', hrun, h2, h3⟩ := run_append_arg_grows (P := P) w t ty e i z size bytes ht hi hz hsize hby hzs hsz ad n n xs e4 hcells a m c2 news hl hnews (by omega) h63 hbytes
    exact ⟨v', w', hrun, h2, ⟨h3.os, h3.tape, h3.output, h3.size, fun k hk => h3.block k hk (by simp)⟩⟩
theorem step_app_full {P : Program} {w : World} {ops : Array Oper} {o : Oper} {a : Act} {K : Act → World → Prop} {Q : Exit → Act → World → Prop} {E : Prop} (hgd : o.guard = none) (s x : Operand) (t : TypeId)
    (ho : o.op = .call { callee := .builtin .append, args := #[s, x], argTypes := #[t, t] })
    (e : TypeId) (i : TypeInfo) (z : Value) (size bytes : Nat) (ht : P.underlying t = some (.slice e)) (hi : P.info? e = some i) (hz : i.zero = some z)
    (hsize : i.size = size) (hby : i.bytes = bytes) (hzs : z.cells.size = size) (hsz : 0 < size)
    (b n : Nat) (A : Option Addr) (c : Nat) (xs : List Value) (hr : Rd w b size (.slice A n c) n xs) (hs : a.eval s = .slice A n n)
    (ad : Addr) (m c2 : Nat) (news : List Value) (hx : a.eval x = .slice (some ad) m c2) (hl : news.length = m * size) (hnews : ∀ j u, news[j]? = some u → w.cell? (ad.add j) = some u) (h1 : ∀ u ∈ news, u.oneCell' = true)
    (hm : 0 < m) (h63 : n + m ≤ maxLen) (hbytes : (n + m) * bytes ≤ 140737488355328)
    (h : ∀ v' w', w'.ownsRow w.heap.size e size v' (n + m) (xs ++ news) → Below w.heap.size w w' → K (a.put o.dst v') w') :
    if Region.wanted o (yielded ops a.tmps) = true then Oper.wp P o a w K Q else E := by
  have hw : Region.wanted o (yielded ops a.tmps) = true := by simp [Region.wanted, hgd]
  rw [if_pos hw]
  obtain ⟨v', w', hrun, h2, h3⟩ := run_app_full (P := P) w t o.type e i z size bytes ht hi hz hsize hby hzs hsz b n A c xs hr ad m c2 news hl hnews h1 hm h63 hbytes
  unfold Oper.wp execOp
  simp only [ho, resolve, invoke, builtin, Sem.run_bind, Sem.run_pure, Result.andThen_ok, List.map_toArray, List.map_cons, List.map_nil, hs, hx, hrun]
  exact h v' w' h2 h3
end Go.Proofs.YtfmljboogkhobaaGreatDoor
