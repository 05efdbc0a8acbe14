/-
  What marathon.Drop chooses, in plain words. No Go text is named here.
-/
import Derived.Test.YtejadhehmcifoaaGreatDoorZBid2
import Derived.Test.YtejadhehmcifoaaGreatDoorZSlotPure
import Derived.IntWalk
namespace Go.Proofs.YtejadhehmcifoaaGreatDoor
open Go Go.RowKit

/-- is slot i left out by choice s? -/
def bitS (s i : Nat) : Bool := decide (s / 2 ^ i % 2 = 1)
theorem bitS_test (s i : Nat) : bitS s i = s.testBit i := by
  unfold bitS
  rw [Nat.testBit_eq_decide_div_mod_eq]
/-- who is left out among the first k -/
def idxS (s k : Nat) : List Nat := (List.range k).filter (bitS s)
theorem idxS_succ (s k : Nat) : idxS s (k + 1) = if bitS s k = true then idxS s k ++ [k] else idxS s k := by
  unfold idxS
  rw [List.range_succ, List.filter_append]
  cases hb : bitS s k <;> simp [hb]
theorem idxS_lt {s k i : Nat} (h : i ∈ idxS s k) : i < k ∧ bitS s i = true := by
  unfold idxS at h
  obtain ⟨h1, h2⟩ := List.mem_filter.1 h
  exact ⟨List.mem_range.1 h1, h2⟩
theorem idxS_mem {s k i : Nat} (h : i < k) (hb : bitS s i = true) : i ∈ idxS s k := by
  unfold idxS
  exact List.mem_filter.2 ⟨List.mem_range.2 h, hb⟩
theorem idxS_len (s k : Nat) : (idxS s k).length ≤ k := by
  unfold idxS
  have := List.length_filter_le (bitS s) (List.range k)
  simpa using this
def lngS (xs : List Slt) (s : Nat) : Nat → Int
  | 0 => 0
  | k + 1 => match xs[k]? with
    | none => lngS xs s k
    | some x => if bitS s k = true then lngS xs s k + x.long else lngS xs s k
def atS (xs : List Slt) (s : Nat) (f : Int) : Nat → Int
  | 0 => f
  | k + 1 => match xs[k]? with
    | none => atS xs s f k
    | some x => if bitS s k = true then atS xs s f k else atS xs s f k + (x.setup + x.long)
theorem lngS_step (xs : List Slt) (s k : Nat) (hk : k < xs.length) : lngS xs s (k + 1) = if bitS s k = true then lngS xs s k + xs[k].long else lngS xs s k := by
  rw [lngS, List.getElem?_eq_getElem hk]
theorem atS_step (xs : List Slt) (s : Nat) (f : Int) (k : Nat) (hk : k < xs.length) : atS xs s f (k + 1) = if bitS s k = true then atS xs s f k else atS xs s f k + (xs[k].setup + xs[k].long) := by
  rw [atS, List.getElem?_eq_getElem hk]
/-- lists of numbers, held against each other -/
def cmpLI : List Int → List Int → Int
  | [], [] => 0
  | [], _ :: _ => -1
  | _ :: _, [] => 1
  | a :: p, b :: q => if cmpI a b = 0 then cmpLI p q else cmpI a b
def ixV (s k : Nat) : List Int := (idxS s k).map Int.ofNat
theorem ixV_len (s k : Nat) : (ixV s k).length = (idxS s k).length := by simp [ixV]
theorem ixV_succ (s k : Nat) : ixV s (k + 1) = if bitS s k = true then ixV s k ++ [(k : Int)] else ixV s k := by
  unfold ixV
  rw [idxS_succ]
  cases hb : bitS s k <;> simp
/-- is choice a better than choice b? -/
def lesE (xs : List Slt) (n a b : Nat) : Int := firstE [cmpI (ixV a n).length (ixV b n).length, cmpI (lngS xs a n) (lngS xs b n), cmpLI (ixV a n) (ixV b n)]
def bstS (xs : List Slt) (f by_ : Int) (n : Nat) : Nat → Option Nat
  | 0 => none
  | k + 1 => if by_ < atS xs k f n then bstS xs f by_ n k else match bstS xs f by_ n k with
    | none => some k
    | some b => if lesE xs n k b < 0 then some k else some b
theorem les_le {xs : List Slt} {n a b : Nat} (h : lesE xs n a b < 0) : (idxS a n).length ≤ (idxS b n).length := by
  rw [← ixV_len, ← ixV_len]
  unfold lesE at h
  rw [firstE] at h
  by_cases h1 : ((ixV a n).length : Int) < (ixV b n).length
  · omega
  · by_cases h2 : ((ixV b n).length : Int) < (ixV a n).length
    · have e : cmpI (ixV a n).length (ixV b n).length = 1 := by unfold cmpI; rw [if_neg h1, if_pos h2]
      rw [e, if_neg (by decide)] at h
      exact absurd h (by decide)
    · omega
theorem les_ge {xs : List Slt} {n a b : Nat} (h : ¬ lesE xs n a b < 0) : (idxS b n).length ≤ (idxS a n).length := by
  rw [← ixV_len, ← ixV_len]
  unfold lesE at h
  rw [firstE] at h
  by_cases h1 : ((ixV a n).length : Int) < (ixV b n).length
  · have e : cmpI (ixV a n).length (ixV b n).length = -1 := by unfold cmpI; rw [if_pos h1]
    rw [e, if_neg (by decide)] at h
    exact absurd h (by decide)
  · omega
theorem bst_min {xs : List Slt} {f by_ : Int} {n : Nat} : ∀ k b, bstS xs f by_ n k = some b → b < k ∧ atS xs b f n ≤ by_ ∧ ∀ s, s < k → atS xs s f n ≤ by_ → (idxS b n).length ≤ (idxS s n).length
  | 0, b, h => by cases h
  | k + 1, b, h => by
    rw [bstS] at h
    by_cases h1 : by_ < atS xs k f n
    · rw [if_pos h1] at h
      obtain ⟨q1, q2, q3⟩ := bst_min k b h
      refine ⟨by omega, q2, fun s hs hs2 => ?_⟩
      by_cases he : s = k
      · subst he; omega
      · exact q3 s (by omega) hs2
    · rw [if_neg h1] at h
      cases hb : bstS xs f by_ n k with
      | none =>
        rw [hb] at h
        injection h with h
        subst h
        refine ⟨by omega, by omega, fun s hs hs2 => ?_⟩
        by_cases he : s = k
        · subst he; exact Nat.le_refl _
        · exfalso
          exact bst_none hb s (by omega) hs2
      | some c =>
        rw [hb] at h
        simp only at h
        obtain ⟨q1, q2, q3⟩ := bst_min k c hb
        split at h
        · rename_i hl
          injection h with h
          subst h
          refine ⟨by omega, by omega, fun s hs hs2 => ?_⟩
          by_cases he : s = k
          · subst he; exact Nat.le_refl _
          · exact Nat.le_trans (les_le hl) (q3 s (by omega) hs2)
        · rename_i hl
          injection h with h
          subst h
          refine ⟨by omega, q2, fun s hs hs2 => ?_⟩
          by_cases he : s = k
          · subst he; exact les_ge hl
          · exact q3 s (by omega) hs2
where
  bst_none {xs : List Slt} {f by_ : Int} {n k : Nat} (h : bstS xs f by_ n k = none) : ∀ s, s < k → ¬ atS xs s f n ≤ by_ := by
    induction k with
    | zero => intro s hs; omega
    | succ k ih =>
      intro s hs hle
      rw [bstS] at h
      by_cases h1 : by_ < atS xs k f n
      · rw [if_pos h1] at h
        by_cases he : s = k
        · subst he; omega
        · exact ih h s (by omega) hle
      · rw [if_neg h1] at h
        cases hb : bstS xs f by_ n k with
        | none => rw [hb] at h; cases h
        | some c =>
          rw [hb] at h
          simp only at h
          split at h <;> cases h
/-- some choice for each wish -/
theorem ex_set (p : Nat → Bool) : ∀ n, ∃ s, s < 2 ^ n ∧ ∀ j, j < n → bitS s j = p j
  | 0 => ⟨0, by decide, by intro j hj; omega⟩
  | n + 1 => by
    obtain ⟨s, hs, h⟩ := ex_set p n
    have h2 : 2 ^ (n + 1) = 2 ^ n + 2 ^ n := by rw [Nat.pow_succ]; omega
    cases hp : p n
    · refine ⟨s, by omega, fun j hj => ?_⟩
      by_cases he : j = n
      · subst he
        rw [hp, bitS_test, Nat.testBit_lt_two_pow hs]
      · exact h j (by omega)
    · refine ⟨2 ^ n + s, by omega, fun j hj => ?_⟩
      by_cases he : j = n
      · subst he
        rw [hp, bitS_test, Nat.testBit_two_pow_add_eq, Nat.testBit_lt_two_pow hs]
        rfl
      · rw [bitS_test, Nat.testBit_two_pow_add_gt (by omega), ← bitS_test]
        exact h j (by omega)
theorem atS_all {xs : List Slt} {s : Nat} {f : Int} : ∀ k, (∀ j, j < k → bitS s j = true) → atS xs s f k = f
  | 0, _ => rfl
  | k + 1, h => by
    rw [atS]
    have ih := atS_all (xs := xs) (f := f) k (fun j hj => h j (by omega))
    split
    · exact ih
    · rw [if_pos (h k (by omega))]; exact ih
theorem bst_ex {xs : List Slt} {f by_ : Int} (n : Nat) (h : f ≤ by_) : ∃ b, bstS xs f by_ n (2 ^ n) = some b := by
  cases hb : bstS xs f by_ n (2 ^ n) with
  | some b => exact ⟨b, rfl⟩
  | none =>
    exfalso
    obtain ⟨s, hs, hp⟩ := ex_set (fun _ => true) n
    exact bst_min.bst_none hb s hs (by rw [atS_all n hp]; exact h)
/-- the keys of those who are left out -/
def keysS (xs : List Slt) (l : List Nat) : List ByteArray := l.map (fun i => match xs[i]? with | some x => x.key | none => ⟨#[]⟩)
/-- slots' numbers are small -/
def SmlS (xs : List Slt) : Prop := ∀ x ∈ xs, (-2199023255552 ≤ x.setup ∧ x.setup ≤ 2199023255552) ∧ (-2199023255552 ≤ x.long ∧ x.long ≤ 2199023255552)
theorem lngS_bd {xs : List Slt} (h : SmlS xs) (s : Nat) : ∀ k, k ≤ xs.length → -2199023255552 * (k : Int) ≤ lngS xs s k ∧ lngS xs s k ≤ 2199023255552 * (k : Int)
  | 0, _ => by simp [lngS]
  | k + 1, hk => by
    have ih := lngS_bd h s k (by omega)
    have hx := h xs[k] (List.getElem_mem hk)
    rw [lngS_step xs s k hk]
    split <;> omega
theorem atS_bd {xs : List Slt} (h : SmlS xs) (s : Nat) (f : Int) : ∀ k, k ≤ xs.length → f - 4398046511104 * (k : Int) ≤ atS xs s f k ∧ atS xs s f k ≤ f + 4398046511104 * (k : Int)
  | 0, _ => by simp [atS]
  | k + 1, hk => by
    have ih := atS_bd h s f k (by omega)
    have hx := h xs[k] (List.getElem_mem hk)
    rw [atS_step xs s f k hk]
    split <;> omega
theorem bits_one (x : Nat) (hx : x < 9223372036854775808) : bits .and .i64 (x : Int) 1 = ((x % 2 : Nat) : Int) := by
  have h1 : (BitVec.ofInt 64 (x : Int)).toNat = x := by
    rw [BitVec.ofInt_natCast, BitVec.toNat_ofNat]; exact Nat.mod_eq_of_lt (by omega)
  have h2 : (BitVec.ofInt 64 (1 : Int)).toNat = 1 := by decide
  show IntKind.i64.wrap ((BitVec.ofInt 64 (x : Int) &&& BitVec.ofInt 64 (1 : Int)).toNat : Int) = _
  rw [BitVec.toNat_and, h1, h2, Nat.and_one_is_mod]
  exact IntWalk.i64_in _ (by omega)
theorem shr_nat (s i : Nat) : (s : Int) / 2 ^ i = ((s / 2 ^ i : Nat) : Int) := by
  rw [Int.natCast_ediv, Int.natCast_pow]; rfl
theorem bit_yes {s i : Nat} (hs : s < 9223372036854775808) (h : bitS s i = true) : bits .and .i64 ((s : Int) / 2 ^ i) 1 = 1 := by
  unfold bitS at h
  rw [shr_nat, bits_one _ (Nat.lt_of_le_of_lt (Nat.div_le_self _ _) hs), of_decide_eq_true h]
  rfl
theorem bit_no {s i : Nat} (hs : s < 9223372036854775808) (h : bitS s i = false) : bits .and .i64 ((s : Int) / 2 ^ i) 1 = 0 := by
  unfold bitS at h
  have h' := of_decide_eq_false h
  rw [shr_nat, bits_one _ (Nat.lt_of_le_of_lt (Nat.div_le_self _ _) hs), show s / 2 ^ i % 2 = 0 by omega]
  rfl
/-- what is wrong with what Drop is asked -/
def drpE (xs : List Slt) (f by_ : Int) : Int := if slotsF xs = 0 then if 16 < xs.length then 2 else if (!momB f || outB by_ f 345686400000) = true then 1 else 0 else slotsF xs
/-- what Drop answers -/
def keysO (xs : List Slt) (n : Nat) : Option Nat → List ByteArray
  | some b => keysS xs (idxS b n)
  | none => []
def drpL (xs : List Slt) (f by_ : Int) : List ByteArray := if drpE xs f by_ = 0 then keysO xs xs.length (bstS xs f by_ xs.length (2 ^ xs.length)) else []
end Go.Proofs.YtejadhehmcifoaaGreatDoor
/-
  cmp.Or of a list; slices.Compare of ints.
-/
namespace Go.Proofs.YtejadhehmcifoaaGreatDoor
open Go Go.RowKit

theorem cmpLI_step {xs ys : List Int} {k : Nat} (hk : k < xs.length) (hk2 : k < ys.length) : cmpLI (xs.drop k) (ys.drop k) = if cmpI xs[k] ys[k] = 0 then cmpLI (xs.drop (k + 1)) (ys.drop (k + 1)) else cmpI xs[k] ys[k] := by
  rw [List.drop_eq_getElem_cons hk, List.drop_eq_getElem_cons hk2, cmpLI]
end Go.Proofs.YtejadhehmcifoaaGreatDoor
