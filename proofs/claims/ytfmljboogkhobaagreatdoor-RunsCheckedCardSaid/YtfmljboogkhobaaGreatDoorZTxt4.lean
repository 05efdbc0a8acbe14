/-
  Numbers that are written with blanks between: splitref2.Numbers by its contract.
-/
import Derived.Test.YtfmljboogkhobaaGreatDoorZTxt2
import Derived.Test.YtfmljboogkhobaaGreatDoorZSjoin
import Derived.Test.YtfmljboogkhobaaGreatDoorZSlotPure
import Derived.Test.YtfmljboogkhobaaGreatDoorZSlot4
import Derived.Lib.ItoaLen
import Derived.Lib.JoinLaws
namespace Go.Proofs.YtfmljboogkhobaaGreatDoor
open Go Go.RowKit TxtP

theorem ints_cellsN {w : World} {b n c : Nat} {A : Option Addr} {hs : List Int} (h : Rd w b 1 (.slice A n c) n (hs.map (Value.int .i64))) :
    hs.length = n ∧ n ≤ c ∧ c ≤ maxLen ∧ (0 < n → ∃ g o, A = some ⟨g, o, none⟩ ∧ g ≠ b ∧ ∀ i (hi : i < hs.length), w.cell? ⟨g, o + i, none⟩ = some (.int .i64 hs[i])) := by
  obtain ⟨A', c', e1, e2, e3, e4, e5, e6⟩ := h
  injection e1 with ea eb ec
  subst ea ec
  refine ⟨by simpa using e4, e2, e3, fun hn => ?_⟩
  obtain ⟨g, o, f1, f2, f3⟩ := e6 hn
  refine ⟨g, o, f1, f2, fun i hi => f3 i _ ?_⟩
  rw [List.getElem?_map, List.getElem?_eq_getElem hi]
  rfl
theorem flat_one {α β : Type} (f : α → β) : ∀ l : List α, l.flatMap (fun x => [f x]) = l.map f
  | [] => rfl
  | a :: t => by rw [List.flatMap_cons, flat_one f t]; rfl
def numsB (zs : List Int) : List ByteArray := zs.map (fun z => ⟨(Lib.itoa z).toArray⟩)
theorem numsB_data (zs : List Int) : (numsB zs).map (·.data.toList) = zs.map Lib.itoa := by
  unfold numsB
  rw [List.map_map]
  rfl
def joinN (zs : List Int) : ByteArray := ⟨(Lib.join (zs.map Lib.itoa) [32]).toArray⟩
theorem joinN_one (z : Int) : joinN [z] = ⟨(Lib.itoa z).toArray⟩ := by
  unfold joinN
  rw [List.map_cons, List.map_nil, Lib.join_one]
theorem join_len (sep : List UInt8) : ∀ xs : List (List UInt8), (∀ x ∈ xs, x.length ≤ 21) → (Lib.join xs sep).length ≤ xs.length * (21 + sep.length)
  | [], _ => by rw [Lib.join_nil]; exact Nat.zero_le _
  | x :: r, h => by
    rw [Lib.join_cons]
    have h1 : ∀ ys : List (List UInt8), (∀ y ∈ ys, y.length ≤ 21) → (Lib.joinTail sep ys).length ≤ ys.length * (21 + sep.length) := by
      intro ys
      induction ys with
      | nil => intro _; simp [Lib.joinTail]
      | cons y t ih =>
        intro hy
        have h2 := ih (fun z hz => hy z (List.mem_cons_of_mem _ hz))
        have h3 := hy y (List.mem_cons_self ..)
        unfold Lib.joinTail at h2 ⊢
        rw [List.map_cons, List.flatten_cons, List.length_append, List.length_append, List.length_cons, Nat.add_mul]
        omega
    have h2 := h1 r (fun z hz => h z (List.mem_cons_of_mem _ hz))
    have h3 := h x (List.mem_cons_self ..)
    rw [List.length_append, List.length_cons, Nat.add_mul]
    omega
end Go.Proofs.YtfmljboogkhobaaGreatDoor
