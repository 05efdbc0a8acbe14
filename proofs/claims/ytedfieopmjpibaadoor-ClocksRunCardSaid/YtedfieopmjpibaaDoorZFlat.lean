/-
  Slices of structs: their cells, a field that is stored; what quiet and memory-making calls answer. No Go text is named here.
-/
import Derived.Test.YtedfieopmjpibaaDoorZBase
namespace Go.Proofs.YtedfieopmjpibaaDoor
open Go Go.RowKit

theorem flat_get {α : Type} (f : α → List Value) (k : Nat) (hf : ∀ a, (f a).length = k) : ∀ (rs : List α) (i j : Nat) (hi : i < rs.length), j < k → (rs.flatMap f)[i * k + j]? = (f rs[i])[j]?
  | [], i, j, hi, _ => by simp at hi
  | r :: rs, 0, j, _, hj => by
    simp only [List.flatMap_cons, Nat.zero_mul, Nat.zero_add, List.getElem_cons_zero]
    rw [List.getElem?_append_left (by rw [hf]; exact hj)]
  | r :: rs, i + 1, j, hi, hj => by
    simp only [List.flatMap_cons, List.getElem_cons_succ]
    rw [List.getElem?_append_right (by rw [hf, Nat.add_mul]; omega), hf, show (i + 1) * k + j - k = i * k + j by rw [Nat.add_mul]; omega]
    exact flat_get f k hf rs i j (by simpa using hi) hj
theorem flat_len {α : Type} (f : α → List Value) (k : Nat) (hf : ∀ a, (f a).length = k) (rs : List α) : (rs.flatMap f).length = rs.length * k := by
  induction rs with
  | nil => simp
  | cons r rs ih => simp only [List.flatMap_cons, List.length_append, hf, ih, List.length_cons, Nat.add_mul]; omega
theorem flat_set {α : Type} (f : α → List Value) (k : Nat) (hf : ∀ a, (f a).length = k) (u : Value) : ∀ (rs : List α) (i j : Nat) (hi : i < rs.length) (r' : α), j < k → f r' = (f rs[i]).set j u → (rs.flatMap f).set (i * k + j) u = (rs.set i r').flatMap f
  | [], i, j, hi, _, _, _ => by simp at hi
  | r :: rs, 0, j, _, r', hj, h => by
    simp only [List.flatMap_cons, Nat.zero_mul, Nat.zero_add, List.set_cons_zero, List.getElem_cons_zero] at h ⊢
    rw [h, List.set_append_left _ _ (by rw [hf]; exact hj)]
  | r :: rs, i + 1, j, hi, r', hj, h => by
    simp only [List.flatMap_cons, List.set_cons_succ, List.getElem_cons_succ] at h ⊢
    rw [List.set_append_right _ _ (by rw [hf, Nat.add_mul]; omega), hf, show (i + 1) * k + j - k = i * k + j by rw [Nat.add_mul]; omega, flat_set f k hf u rs i j (by simpa using hi) r' hj h]
/-- a field of an owned struct is stored -/
theorem own_store {α : Type} {w : World} {base : Nat} {e : TypeId} {g cap : Nat} (f : α → List Value) (k : Nat) (hf : ∀ a, (f a).length = k) {rs : List α}
    (h : w.ownsRow base e k (.slice (some ⟨g, 0, none⟩) rs.length cap) rs.length (rs.flatMap f)) (i j : Nat) (hi : i < rs.length) (hj : j < k) (u : Value) (r' : α) (hr : f r' = (f rs[i]).set j u) :
    (w.setCell ⟨g, i * k + j, none⟩ u).ownsRow base e k (.slice (some ⟨g, 0, none⟩) (rs.set i r').length cap) (rs.set i r').length ((rs.set i r').flatMap f) := by
  have := (h.stored (i * k + j) u).1
  rw [flat_set f k hf u rs i j hi r' hj hr] at this
  rw [List.length_set]
  exact this
theorem own_cell {α : Type} {w : World} {base : Nat} {e : TypeId} {g cap n : Nat} (f : α → List Value) (k : Nat) (hf : ∀ a, (f a).length = k) {rs : List α}
    (h : w.ownsRow base e k (.slice (some ⟨g, 0, none⟩) n cap) n (rs.flatMap f)) (i j : Nat) (hi : i < rs.length) (hn : i < n) (hj : j < k) : w.cell? ⟨g, i * k + j, none⟩ = (f rs[i])[j]? := by
  rw [h.cellAt (i * k + j) (by
    calc i * k + j < i * k + k := by omega
      _ = (i + 1) * k := by rw [Nat.add_mul, Nat.one_mul]
      _ ≤ n * k := Nat.mul_le_mul_right _ hn), flat_get f k hf rs i j hi hj]
/-- the cells of a slice of structs -/
theorem Rd.cells {α : Type} {w : World} {b k n c : Nat} {A : Option Addr} {f : α → List Value} {rs : List α} (h : Rd w b k (.slice A n c) n (rs.flatMap f)) (hf : ∀ a, (f a).length = k) (hk : 0 < k) :
    rs.length = n ∧ n ≤ c ∧ c ≤ maxLen ∧ (0 < n → ∃ g o, A = some ⟨g, o, none⟩ ∧ g ≠ b ∧ ∀ i (hi : i < rs.length) j, j < k → w.cell? ⟨g, o + i * k + j, none⟩ = (f rs[i])[j]?) := by
  obtain ⟨A', c', e1, e2, e3, e4, e5, e6⟩ := h
  injection e1 with ea eb ec
  subst ea ec
  have hl : rs.length = n := by
    have := e4
    rw [flat_len f k hf] at this
    exact Nat.eq_of_mul_eq_mul_right hk this
  refine ⟨hl, e2, e3, fun hn => ?_⟩
  obtain ⟨g, o, f1, f2, f3⟩ := e6 hn
  refine ⟨g, o, f1, f2, fun i hi j hj => ?_⟩
  have hg := flat_get f k hf rs i j hi hj
  have hlt : j < (f rs[i]).length := by rw [hf]; exact hj
  rw [List.getElem?_eq_getElem hlt] at hg ⊢
  rw [Nat.add_assoc]
  exact f3 _ _ hg
theorem own_base {w : World} {base base' : Nat} {e : TypeId} {size n : Nat} {v : Value} {xs : List Value} (h : w.ownsRow base e size v n xs) (hb : base' ≤ base) : w.ownsRow base' e size v n xs := by
  refine ⟨h.1, ?_⟩
  rcases h.2 with h' | ⟨g, cap, cur, h1, h2, h3⟩
  · exact .inl h'
  · exact .inr ⟨g, cap, cur, h1, by omega, h3⟩
theorem mul_bd {x y X Y : Int} (h0 : -X ≤ x) (h1 : x ≤ X) (k0 : 0 ≤ y) (k1 : y ≤ Y) (hX : 0 ≤ X) : -(X * Y) ≤ x * y ∧ x * y ≤ X * Y := by
  have a1 := Int.mul_le_mul_of_nonneg_right h1 k0
  have a2 := Int.mul_le_mul_of_nonneg_left k1 hX
  have a3 := Int.mul_le_mul_of_nonneg_right h0 k0
  rw [Int.neg_mul] at a3
  omega
/-- the call returns v and at most draws -/
def QRet (v : Value) (w : World) (e : Ending) (w' : World) : Prop := e = .returned v ∧ ∃ n, w' = w.drewN n
/-- the call returns v and has made at most new memory -/
def BRet (v : Value) (w : World) (e : Ending) (w' : World) : Prop := e = .returned v ∧ Below w.heap.size w w'
theorem ret_int {k : IntKind} {a b : Int} (h : a = b) : Ending.returned (.int k a) = .returned (.int k b) := by rw [h]
end Go.Proofs.YtedfieopmjpibaaDoor
