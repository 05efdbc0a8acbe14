/-
  What marathon.Drop chooses, in plain words. No Go text is named here.
-/
import Derived.Test.YtohhbkodfidfkaaGreatDoorZBid2
import Derived.Test.YtohhbkodfidfkaaGreatDoorZSlotPure
import Derived.IntWalk
import Derived.Test.YtohhbkodfidfkaaGreatDoorZSlotR
namespace Go.Proofs.YtohhbkodfidfkaaGreatDoor
open Go Go.RowKit

/-- is slot i left out by choice s? -/
def bitS (s i : Nat) : Bool := decide (s / 2 ^ i % 2 = 1)
theorem bitS_test (s i : Nat) : bitS s i = s.testBit i := by
  unfold bitS
  rw [Nat.testBit_eq_decide_div_mod_eq]
/-- who is left out among the first k -/
def idxS (s k : Nat) : List Nat := (List.range k).filter (bitS s)
theorem idxS_succ (s k : Nat) : idxS s (k + 1) = if bitS s k = true then idxS s k ++ [k] else idxS s k := by
  unfold idxS
  rw [List.range_succ, List.filter_append]
  cases hb : bitS s k <;> simp [hb]
theorem idxS_lt {s k i : Nat} (h : i ∈ idxS s k) : i < k ∧ bitS s i = true := by
  unfold idxS at h
  obtain ⟨h1, h2⟩ := List.mem_filter.1 h
  exact ⟨List.mem_range.1 h1, h2⟩
theorem idxS_mem {s k i : Nat} (h : i < k) (hb : bitS s i = true) : i ∈ idxS s k := by
  unfold idxS
  exact List.mem_filter.2 ⟨List.mem_range.2 h, hb⟩
theorem idxS_len (s k : Nat) : (idxS s k).length ≤ k := by
  unfold idxS
  have := List.length_filter_le (bitS s) (List.range k)
  simpa using this
def lngS (xs : List Slt) (s : Nat) : Nat → Int
  | 0 => 0
  | k + 1 => match xs[k]? with
    | none => lngS xs s k
    | some x => if bitS s k = true then lngS xs s k + x.long else lngS xs s k
def atS (xs : List Slt) (s : Nat) (f : Int) : Nat → Int
  | 0 => f
  | k + 1 => match xs[k]? with
    | none => atS xs s f k
    | some x => if bitS s k = true then atS xs s f k else atS xs s f k + (x.setup + x.long)
theorem lngS_step (xs : List Slt) (s k : Nat) (hk : k < xs.length) : lngS xs s (k + 1) = if bitS s k = true then lngS xs s k + xs[k].long else lngS xs s k := by
  rw [lngS, List.getElem?_eq_getElem hk]
theorem atS_step (xs : List Slt) (s : Nat) (f : Int) (k : Nat) (hk : k < xs.length) : atS xs s f (k + 1) = if bitS s k = true then atS xs s f k else atS xs s f k + (xs[k].setup + xs[k].long) := by
  rw [atS, List.getElem?_eq_getElem hk]
/-- lists of numbers, held against each other -/
def cmpLI : List Int → List Int → Int
  | [], [] => 0
  | [], _ :: _ => -1
  | _ :: _, [] => 1
  | a :: p, b :: q => if cmpI a b = 0 then cmpLI p q else cmpI a b
def ixV (s k : Nat) : List Int := (idxS s k).map Int.ofNat
theorem ixV_len (s k : Nat) : (ixV s k).length = (idxS s k).length := by simp [ixV]
theorem ixV_succ (s k : Nat) : ixV s (k + 1) = if bitS s k = true then ixV s k ++ [(k : Int)] else ixV s k := by
  unfold ixV
  rw [idxS_succ]
  cases hb : bitS s k <;> simp
/-- is choice a better than choice b? -/
def lesE (xs : List Slt) (n a b : Nat) : Int := firstE [cmpI (ixV a n).length (ixV b n).length, cmpI (lngS xs a n) (lngS xs b n), cmpLI (ixV a n) (ixV b n)]
def bstS (xs : List Slt) (f by_ : Int) (n : Nat) : Nat → Option Nat
  | 0 => none
  | k + 1 => if by_ < atS xs k f n then bstS xs f by_ n k else match bstS xs f by_ n k with
    | none => some k
    | some b => if lesE xs n k b < 0 then some k else some b
theorem les_le {xs : List Slt} {n a b : Nat} (h : lesE xs n a b < 0) : (idxS a n).length ≤ (idxS b n).length := by
  rw [← ixV_len, ← ixV_len]
  unfold lesE at h
  rw [firstE] at h
  by_cases h1 : ((ixV a n).length : Int) < (ixV b n).length
  · omega
  · by_cases h2 : ((ixV b n).length : Int) < (ixV a n).length
    · have e : cmpI (ixV a n).length (ixV b n).length = 1 := by unfold cmpI; rw [if_neg h1, if_pos h2]
      rw [e, if_neg (by decide)] at h
      exact absurd h (by decide)
    · omega
theorem les_ge {xs : List Slt} {n a b : Nat} (h : ¬ lesE xs n a b < 0) : (idxS b n).length ≤ (idxS a n).length := by
  rw [← ixV_len, ← ixV_len]
  unfold lesE at h
  rw [firstE] at h
  by_cases h1 : ((ixV a n).length : Int) < (ixV b n).length
  · have e : cmpI (ixV a n).length (ixV b n).length = -1 := by unfold cmpI; rw [if_pos h1]
    rw [e, if_neg (by decide)] at h
    exact absurd h (by decide)
  · omega
theorem bst_min {xs : List Slt} {f by_ : Int} {n : Nat} : ∀ k b, bstS xs f by_ n k = some b → b < k ∧ atS xs b f n ≤ by_ ∧ ∀ s, s < k → atS xs s f n ≤ by_ → (idxS b n).length ≤ (idxS s n).length
  | 0, b, h => by cases h
  | k + 1, b, h => by
    rw [bstS] at h
    by_cases h1 : by_ < atS xs k f n
    · rw [if_pos h1] at h
      obtain ⟨q1, q2, q3⟩ := bst_min k b h
      refine ⟨by omega, q2, fun s hs hs2 => ?_⟩
      by_cases he : s = k
      · subst he; omega
      · exact q3 s (by omega) hs2
    · rw [if_neg h1] at h
      cases hb : bstS xs f by_ n k with
      | none =>
        rw [hb] at h
        injection h with h
        subst h
        refine ⟨by omega, by omega, fun s hs hs2 => ?_⟩
        by_cases he : s = k
        · subst he; exact Nat.le_refl _
        · exfalso
          exact bst_none hb s (by omega) hs2
      | some c =>
        rw [hb] at h
        simp only at h
        obtain ⟨q1, q2, q3⟩ := bst_min k c hb
        split at h
        · rename_i hl
          injection h with h
          subst h
          refine ⟨by omega, by omega, fun s hs hs2 => ?_⟩
          by_cases he : s = k
          · subst he; exact Nat.le_refl _
          · exact Nat.le_trans (les_le hl) (q3 s (by omega) hs2)
        · rename_i hl
          injection h with h
          subst h
          refine ⟨by omega, q2, fun s hs hs2 => ?_⟩
          by_cases he : s = k
          · subst he; exact les_ge hl
          · exact q3 s (by omega) hs2
where
  bst_none {xs : List Slt} {f by_ : Int} {n k : Nat} (h : bstS xs f by_ n k = none) : ∀ s, s < k → ¬ atS xs s f n ≤ by_ := by
    induction k with
    | zero => intro s hs; omega
    | succ k ih =>
      intro s hs hle
      rw [bstS] at h
      by_cases h1 : by_ < atS xs k f n
      · rw [if_pos h1] at h
        by_cases he : s = k
        · subst he; omega
        · exact ih h s (by omega) hle
      · rw [if_neg h1] at h
        cases hb : bstS xs f by_ n k with
        | none => rw [hb] at h; cases h
        | some c =>
          rw [hb] at h
          simp only at h
          split at h <;> cases h
/-- some choice for each wish -/
theorem ex_set (p : Nat → Bool) : ∀ n, ∃ s, s < 2 ^ n ∧ ∀ j, j < n → bitS s j = p j
  | 0 => ⟨0, by decide, by intro j hj; omega⟩
  | n + 1 => by
    obtain ⟨s, hs, h⟩ := ex_set p n
    have h2 : 2 ^ (n + 1) = 2 ^ n + 2 ^ n := by rw [Nat.pow_succ]; omega
    cases hp : p n
    · refine ⟨s, by omega, fun j hj => ?_⟩
      by_cases he : j = n
      · subst he
        rw [hp, bitS_test, Nat.testBit_lt_two_pow hs]
      · exact h j (by omega)
    · refine ⟨2 ^ n + s, by omega, fun j hj => ?_⟩
      by_cases he : j = n
      · subst he
        rw [hp, bitS_test, Nat.testBit_two_pow_add_eq, Nat.testBit_lt_two_pow hs]
        rfl
      · rw [bitS_test, Nat.testBit_two_pow_add_gt (by omega), ← bitS_test]
        exact h j (by omega)
theorem atS_all {xs : List Slt} {s : Nat} {f : Int} : ∀ k, (∀ j, j < k → bitS s j = true) → atS xs s f k = f
  | 0, _ => rfl
  | k + 1, h => by
    rw [atS]
    have ih := atS_all (xs := xs) (f := f) k (fun j hj => h j (by omega))
    split
    · exact ih
    · rw [if_pos (h k (by omega))]; exact ih
theorem bst_ex {xs : List Slt} {f by_ : Int} (n : Nat) (h : f ≤ by_) : ∃ b, bstS xs f by_ n (2 ^ n) = some b := by
  cases hb : bstS xs f by_ n (2 ^ n) with
  | some b => exact ⟨b, rfl⟩
  | none =>
    exfalso
    obtain ⟨s, hs, hp⟩ := ex_set (fun _ => true) n
    exact bst_min.bst_none hb s hs (by rw [atS_all n hp]; exact h)
/-- the keys of those who are left out -/
def keysS (xs : List Slt) (l : List Nat) : List ByteArray := l.map (fun i => match xs[i]? with | some x => x.key | none => ⟨#[]⟩)
/-- slots' numbers are small -/
def SmlS (xs : List Slt) : Prop := ∀ x ∈ xs, (-2199023255552 ≤ x.setup ∧ x.setup ≤ 2199023255552) ∧ (-2199023255552 ≤ x.long ∧ x.long ≤ 2199023255552)
theorem lngS_bd {xs : List Slt} (h : SmlS xs) (s : Nat) : ∀ k, k ≤ xs.length → -2199023255552 * (k : Int) ≤ lngS xs s k ∧ lngS xs s k ≤ 2199023255552 * (k : Int)
  | 0, _ => by simp [lngS]
  | k + 1, hk => by
    have ih := lngS_bd h s k (by omega)
    have hx := h xs[k] (List.getElem_mem hk)
    rw [lngS_step xs s k hk]
    split <;> omega
theorem atS_bd {xs : List Slt} (h : SmlS xs) (s : Nat) (f : Int) : ∀ k, k ≤ xs.length → f - 4398046511104 * (k : Int) ≤ atS xs s f k ∧ atS xs s f k ≤ f + 4398046511104 * (k : Int)
  | 0, _ => by simp [atS]
  | k + 1, hk => by
    have ih := atS_bd h s f k (by omega)
    have hx := h xs[k] (List.getElem_mem hk)
    rw [atS_step xs s f k hk]
    split <;> omega
theorem bits_one (x : Nat) (hx : x < 9223372036854775808) : bits .and .i64 (x : Int) 1 = ((x % 2 : Nat) : Int) := by
  have h1 : (BitVec.ofInt 64 (x : Int)).toNat = x := by
    rw [BitVec.ofInt_natCast, BitVec.toNat_ofNat]; exact Nat.mod_eq_of_lt (by omega)
  have h2 : (BitVec.ofInt 64 (1 : Int)).toNat = 1 := by decide
  show IntKind.i64.wrap ((BitVec.ofInt 64 (x : Int) &&& BitVec.ofInt 64 (1 : Int)).toNat : Int) = _
  rw [BitVec.toNat_and, h1, h2, Nat.and_one_is_mod]
  exact IntWalk.i64_in _ (by omega)
theorem shr_nat (s i : Nat) : (s : Int) / 2 ^ i = ((s / 2 ^ i : Nat) : Int) := by
  rw [Int.natCast_ediv, Int.natCast_pow]; rfl
theorem bit_yes {s i : Nat} (hs : s < 9223372036854775808) (h : bitS s i = true) : bits .and .i64 ((s : Int) / 2 ^ i) 1 = 1 := by
  unfold bitS at h
  rw [shr_nat, bits_one _ (Nat.lt_of_le_of_lt (Nat.div_le_self _ _) hs), of_decide_eq_true h]
  rfl
theorem bit_no {s i : Nat} (hs : s < 9223372036854775808) (h : bitS s i = false) : bits .and .i64 ((s : Int) / 2 ^ i) 1 = 0 := by
  unfold bitS at h
  have h' := of_decide_eq_false h
  rw [shr_nat, bits_one _ (Nat.lt_of_le_of_lt (Nat.div_le_self _ _) hs), show s / 2 ^ i % 2 = 0 by omega]
  rfl
/-- what is wrong with what Drop is asked -/
def drpE (xs : List Slt) (f by_ : Int) : Int := if slotsF xs = 0 then if 16 < xs.length then 2 else if (!momB f || outB by_ f 345686400000) = true then 1 else 0 else slotsF xs
/-- what Drop answers -/
def keysO (xs : List Slt) (n : Nat) : Option Nat → List ByteArray
  | some b => keysS xs (idxS b n)
  | none => []
def drpL (xs : List Slt) (f by_ : Int) : List ByteArray := if drpE xs f by_ = 0 then keysO xs xs.length (bstS xs f by_ xs.length (2 ^ xs.length)) else []
end Go.Proofs.YtohhbkodfidfkaaGreatDoor
/-
  DroppedFits, in plain words. No Go text is named here.
-/
namespace Go.Proofs.YtohhbkodfidfkaaGreatDoor
open Go Go.RowKit

theorem rslD_ne {xs : List Slt} (h : RSlots xs) {i j : Nat} (hij : i < j) (hi : i < xs.length) (hj : j < xs.length) : xs[i].key ≠ xs[j].key := by
  have hp := keys5_pw.sublist h.sub
  have hx := (List.pairwise_iff_getElem.1 hp) i j (by rw [List.length_map]; exact hi) (by rw [List.length_map]; exact hj) hij
  simp only [List.getElem_map] at hx
  intro he
  rw [he, eqS_self] at hx
  exact absurd hx (by decide)
theorem rslD_ne' {xs : List Slt} (h : RSlots xs) {i j : Nat} (hi : i < xs.length) (hj : j < xs.length) (he : xs[i].key = xs[j].key) : i = j := by
  rcases Nat.lt_trichotomy i j with hlt | heq | hgt
  · exact absurd he (rslD_ne h hlt hi hj)
  · exact heq
  · exact absurd he.symm (rslD_ne h hgt hj hi)
/-- who is dropped is known by the key -/
theorem drp_mem {xs : List Slt} (h : RSlots xs) (q i : Nat) (hi : i < xs.length) : memS (keysS xs (idxS q xs.length)) xs[i].key = bitS q i := by
  cases hb : bitS q i
  · cases hm : memS (keysS xs (idxS q xs.length)) xs[i].key
    · rfl
    · exfalso
      rw [memS_iff] at hm
      unfold keysS at hm
      obtain ⟨j, hj, he⟩ := List.mem_map.1 hm
      obtain ⟨h1, h2⟩ := idxS_lt hj
      rw [List.getElem?_eq_getElem h1] at he
      have := rslD_ne' h h1 hi he
      subst this
      rw [h2] at hb
      exact absurd hb (by decide)
  · rw [memS_iff]
    unfold keysS
    exact List.mem_map.2 ⟨i, idxS_mem hi hb, by rw [List.getElem?_eq_getElem hi]⟩
theorem idxS_congr {s t : Nat} : ∀ k, (∀ j, j < k → bitS s j = bitS t j) → idxS s k = idxS t k
  | 0, _ => rfl
  | k + 1, h => by
    rw [idxS_succ, idxS_succ, idxS_congr k (fun j hj => h j (by omega)), h k (by omega)]
theorem idxS_less {s t i : Nat} (hs : bitS s i = true) (ht : bitS t i = false) : ∀ k, i < k → (∀ j, j < k → j ≠ i → bitS t j = bitS s j) → (idxS t k).length + 1 = (idxS s k).length
  | 0, h, _ => absurd h (by omega)
  | k + 1, h, he => by
    by_cases hk : i = k
    · subst hk
      rw [idxS_succ, idxS_succ, hs, ht, idxS_congr i (fun j hj => he j (by omega) (by omega))]
      simp
    · have ih := idxS_less hs ht k (by omega) (fun j hj hj2 => he j (by omega) hj2)
      rw [idxS_succ, idxS_succ, he k (by omega) (fun e => hk e.symm)]
      split
      · simp only [List.length_append, List.length_singleton]; omega
      · exact ih
theorem atS_congr {xs : List Slt} {s t : Nat} {f : Int} : ∀ k, k ≤ xs.length → (∀ j, j < k → bitS s j = bitS t j) → atS xs s f k = atS xs t f k
  | 0, _, _ => rfl
  | k + 1, hk, h => by
    rw [atS_step xs s f k hk, atS_step xs t f k hk, atS_congr k (by omega) (fun j hj => h j (by omega)), h k (by omega)]
theorem atS_more {xs : List Slt} {s t i : Nat} {f : Int} (hi : i < xs.length) (hs : bitS s i = true) (ht : bitS t i = false) : ∀ k, k ≤ xs.length → i < k → (∀ j, j < k → j ≠ i → bitS t j = bitS s j) → atS xs t f k = atS xs s f k + (xs[i].setup + xs[i].long)
  | 0, _, h, _ => absurd h (by omega)
  | k + 1, hkx, h, he => by
    by_cases hk : i = k
    · subst hk
      rw [atS_step xs s f i hkx, atS_step xs t f i hkx, hs, ht, atS_congr i (by omega) (fun j hj => he j (by omega) (by omega))]
      simp
    · have ih := atS_more (f := f) hi hs ht k (by omega) (by omega) (fun j hj hj2 => he j (by omega) hj2)
      rw [atS_step xs s f k hkx, atS_step xs t f k hkx, he k (by omega) (fun e => hk e.symm), ih]
      split <;> omega
/-- with one more that was dropped it ends too late -/
theorem drp_late {xs : List Slt} {f by_ : Int} {q i : Nat} (h : bstS xs f by_ xs.length (2 ^ xs.length) = some q) (hi : i < xs.length) (hb : bitS q i = true) : by_ < atS xs q f xs.length + xs[i].setup + xs[i].long := by
  obtain ⟨_, _, hmin⟩ := bst_min _ _ h
  obtain ⟨t, ht, hbt⟩ := ex_set (fun j => bitS q j && decide (j ≠ i)) xs.length
  have h1 : bitS t i = false := by rw [hbt i hi]; simp
  have h2 : ∀ j, j < xs.length → j ≠ i → bitS t j = bitS q j := fun j hj hj2 => by rw [hbt j hj]; simp [hj2]
  have hl := idxS_less hb h1 xs.length hi h2
  have ha := atS_more (f := f) hi hb h1 xs.length (Nat.le_refl _) hi h2
  by_cases hle : atS xs t f xs.length ≤ by_
  · have := hmin t ht hle
    omega
  · omega
theorem drp_zero {xs : List Slt} (h : RSlots xs) {by_ : Int} (h0 : 0 ≤ by_) (h1 : by_ ≤ 900) : drpE xs 0 by_ = 0 := by
  have hl := h.sub.length_le
  have h5 : keys5.length = 5 := rfl
  rw [List.length_map] at hl
  have o1 : outB by_ 0 345686400000 = false := by unfold outB; simp; omega
  have o2 : momB 0 = true := (momB_iff 0).2 ⟨by omega, by omega⟩
  unfold drpE
  rw [if_pos h.fault, if_neg (by omega), o1, o2]
  rfl
/-- what the law reads of Drop's answer -/
theorem drp_all {xs : List Slt} (h : RSlots xs) {by_ : Int} (h0 : 0 ≤ by_) (h1 : by_ ≤ 900) : ∃ q, drpL xs 0 by_ = keysS xs (idxS q xs.length) ∧ (keysS xs (idxS q xs.length)).length = (idxS q xs.length).length ∧ atS xs q 0 xs.length ≤ by_ ∧
    (∀ i (hi : i < xs.length), memS (keysS xs (idxS q xs.length)) xs[i].key = bitS q i) ∧ ∀ i (hi : i < xs.length), bitS q i = true → by_ < atS xs q 0 xs.length + xs[i].setup + xs[i].long := by
  obtain ⟨q, hq⟩ := bst_ex (xs := xs) (f := 0) (by_ := by_) xs.length h0
  refine ⟨q, ?_, by simp [keysS], (bst_min _ _ hq).2.1, fun i hi => drp_mem h q i hi, fun i hi hb => drp_late hq hi hb⟩
  unfold drpL
  rw [if_pos (drp_zero h h0 h1), hq]
  rfl
end Go.Proofs.YtohhbkodfidfkaaGreatDoor
/-
  cmp.Or of a list; slices.Compare of ints.
-/
namespace Go.Proofs.YtohhbkodfidfkaaGreatDoor
open Go Go.RowKit

set_option maxRecDepth 100000 in
theorem orN_calls (b : Nat) (A : Option Addr) (n c : Nat) (l : List Int) (w : World) (hr : Rd w b 1 (.slice A n c) n (l.map (Value.int .i64))) :
    Calls Tryz.prog 37 #[.slice A n c] w (QRet (.int .i64 (firstE l)) w) := by
  obtain ⟨A', c', e1, e2, e3, e4, e5, e6⟩ := hr
  injection e1 with ea eb ec
  subst ea ec
  unfold maxLen at e3
  have hl : l.length = n := by simpa using e4
  have HL := Lib.hid hl
  have HC := Lib.hid e6
  clear e4 e5 e6 hl
  go_enter Tryz.func37, Tryz.ntmps37
  go_wp2_with fail
  go_loop [8] (fun i => ∃ k : Nat, k ≤ n ∧ i = .int .i64 k ∧ Hid (firstE l = firstE (l.drop k))) (fun i => n - (intOf i).toNat)
  case atStart => exact ⟨0, Nat.zero_le _, rfl, rfl⟩
  case round =>
    obtain ⟨k, hk, rfl, HF⟩ := hrel
    by_cases hlt : k < n
    · have hkr : k < l.length := by rw [HL.out]; exact hlt
      obtain ⟨g, o, hA, _, hcs⟩ := HC.out (by omega)
      subst hA
      have hst := HF.out.trans (firstE_step l k hkr)
      have c0 := hcs k _ (by rw [List.getElem?_map, List.getElem?_eq_getElem hkr]; rfl)
      clear hcs
      obtain ⟨z, hz⟩ : ∃ z, l[k] = z := ⟨_, rfl⟩
      rw [hz] at c0 hst
      clear hz
      by_cases h0 : z = 0
      · subst h0
        rw [if_pos rfl] at hst
        have HS := Lib.hid hst
        clear hst
        go_wp2_with fail
        go_round
        case rel => exact ⟨k + 1, by omega, by go_num, HS⟩
        case measure => simp [intOf]; omega
      · rw [if_neg h0] at hst
        have HS := Lib.hid hst
        have hne : (z != 0) = true := by rw [bne_iff_ne]; exact h0
        clear hst
        go_wp2_with fail
        go_ret
        exact ⟨ret_int HS.out.symm, 0, rfl⟩
    · obtain rfl : k = n := by omega
      have HS := Lib.hid (HF.out.trans (by rw [List.drop_of_length_le (by rw [HL.out]; exact Nat.le_refl _)]; rfl : _ = (0 : Int)))
      go_wp2_with fail
      go_ret
      exact ⟨ret_int HS.out.symm, 0, rfl⟩


theorem cmpLI_step {xs ys : List Int} {k : Nat} (hk : k < xs.length) (hk2 : k < ys.length) : cmpLI (xs.drop k) (ys.drop k) = if cmpI xs[k] ys[k] = 0 then cmpLI (xs.drop (k + 1)) (ys.drop (k + 1)) else cmpI xs[k] ys[k] := by
  rw [List.drop_eq_getElem_cons hk, List.drop_eq_getElem_cons hk2, cmpLI]
set_option maxRecDepth 100000 in
theorem compareI_calls (b : Nat) (A A2 : Option Addr) (n c n2 c2 : Nat) (xs ys : List Int) (w : World) (hr : Rd w b 1 (.slice A n c) n (xs.map (Value.int .i64))) (hr2 : Rd w b 1 (.slice A2 n2 c2) n2 (ys.map (Value.int .i64))) :
    Calls Tryz.prog 39 #[.slice A n c, .slice A2 n2 c2] w fun e w' => e = .returned (.int .i64 (cmpLI xs ys)) ∧ w = w' := by
  obtain ⟨A', c', e1, e2, e3, e4, e5, e6⟩ := hr
  injection e1 with ea eb ec
  subst ea ec
  obtain ⟨B', d', q1, q2, q3, q4, q5, q6⟩ := hr2
  injection q1 with qa qb qc
  subst qa qc
  unfold maxLen at e3 q3
  have HL := Lib.hid (show xs.length = n by simpa using e4)
  have HL2 := Lib.hid (show ys.length = n2 by simpa using q4)
  have HC := Lib.hid e6
  have HC2 := Lib.hid q6
  have HI := Lib.hid (fun x y W => cmpInt_calls x y W)
  have H0 : Hid (cmpLI xs ys = cmpLI (xs.drop 0) (ys.drop 0)) := Lib.hid rfl
  clear e4 e5 e6 q4 q5 q6
  go_enter Tryz.func39, Tryz.ntmps39
  go_wp2_with fail
  go_loop [11] (fun i => ∃ k : Nat, k ≤ n ∧ k ≤ n2 ∧ i = .int .i64 k ∧ Hid (cmpLI xs ys = cmpLI (xs.drop k) (ys.drop k))) (fun i => n - (intOf i).toNat)
  case atStart => exact ⟨0, Nat.zero_le _, Nat.zero_le _, rfl, H0⟩
  case round =>
    clear H0
    obtain ⟨k, hk, hk2, rfl, HF⟩ := hrel
    by_cases hlt : k < n
    · have hkr : k < xs.length := by rw [HL.out]; exact hlt
      obtain ⟨g, o, hA, _, hcs⟩ := HC.out (by omega)
      subst hA
      have c0 := hcs k _ (by rw [List.getElem?_map, List.getElem?_eq_getElem hkr]; rfl)
      clear hcs
      by_cases hlt2 : k < n2
      · have hkr2 : k < ys.length := by rw [HL2.out]; exact hlt2
        obtain ⟨g2, o2, hA2, _, hcs2⟩ := HC2.out (by omega)
        subst hA2
        have d0 := hcs2 k _ (by rw [List.getElem?_map, List.getElem?_eq_getElem hkr2]; rfl)
        clear hcs2
        have hst := HF.out.trans (cmpLI_step hkr hkr2)
        obtain ⟨x, hx⟩ : ∃ z, xs[k] = z := ⟨_, rfl⟩
        obtain ⟨y, hy⟩ : ∃ z, ys[k] = z := ⟨_, rfl⟩
        rw [hx] at c0 hst
        rw [hy] at d0 hst
        obtain ⟨C, hC⟩ : ∃ C, cmpI x y = C := ⟨_, rfl⟩
        have HK := Lib.hid (HI.out x y w)
        rw [hC] at hst HK
        have hkl : ¬ n2 ≤ k := by omega
        have hk0 : (0 : Int) ≤ (k : Int) := by omega
        have hk1 : (k : Int) < (n : Int) := by omega
        have hk3 : (k : Int) < (n2 : Int) := by omega
        clear hx hy hC
        by_cases h0 : C = 0
        · subst h0
          have HS := Lib.hid (hst.trans (if_pos rfl))
          clear hst
          go_wp2_with fail
          refine HK.out.mono ?_
          rintro e w1 ⟨rfl, rfl⟩
          go_wp2_with fail
          go_round
          case rel => exact ⟨k + 1, by omega, by omega, by go_num, HS⟩
          case measure => simp [intOf]; omega
        · have HS := Lib.hid (hst.trans (if_neg h0))
          have hne : (C != 0) = true := by rw [bne_iff_ne]; exact h0
          clear hst h0
          go_wp2_with fail
          refine HK.out.mono ?_
          rintro e w1 ⟨rfl, rfl⟩
          go_wp2_with fail
          go_ret
          exact ⟨ret_int HS.out.symm, rfl⟩
      · have hkl : n2 ≤ k := by omega
        have HS : Hid (cmpLI xs ys = 1) := Lib.hid (by
          have e : ys.drop k = [] := List.drop_of_length_le (by rw [HL2.out]; omega)
          rw [HF.out, e, List.drop_eq_getElem_cons hkr]
          rfl)
        have hk0 : (0 : Int) ≤ (k : Int) := by omega
        have hk1 : (k : Int) < (n : Int) := by omega
        go_wp2_with fail
        go_ret
        exact ⟨ret_int HS.out.symm, rfl⟩
    · obtain rfl : k = n := by omega
      by_cases hlt2 : k < n2
      · have HS : Hid (cmpLI xs ys = -1) := Lib.hid (by
          rw [HF.out, List.drop_of_length_le (by rw [HL.out]; exact Nat.le_refl _), List.drop_eq_getElem_cons (by rw [HL2.out]; exact hlt2)]
          rfl)
        go_wp2_with fail
        go_ret
        exact ⟨ret_int HS.out.symm, rfl⟩
      · have hkl : ¬ k < n2 := hlt2
        have HS : Hid (cmpLI xs ys = 0) := Lib.hid (by
          rw [HF.out, List.drop_of_length_le (by rw [HL.out]; exact Nat.le_refl _), List.drop_of_length_le (by rw [HL2.out]; omega)]
          rfl)
        go_wp2_with fail
        go_ret
        exact ⟨ret_int HS.out.symm, rfl⟩
end Go.Proofs.YtohhbkodfidfkaaGreatDoor
