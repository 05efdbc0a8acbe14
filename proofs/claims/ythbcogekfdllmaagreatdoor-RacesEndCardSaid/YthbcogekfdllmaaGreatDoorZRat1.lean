/-
  thousandths, expected, First and errs by contracts.
-/
import Derived.Test.YthbcogekfdllmaaGreatDoorZKey2
import Derived.Test.YthbcogekfdllmaaGreatDoorZSlotPure
import Derived.Shelf.Small.Strs
import Derived.Shelf.LaysM
import Derived.Test.YthbcogekfdllmaaGreatDoorProg
import Derived.Test.YthbcogekfdllmaaGreatDoorZSq
import Derived.Deep.RegionHeld3
import Derived.Sort.Statements
import Derived.Shelf.SlSortCmp.Insertion
namespace Go.Proofs.YthbcogekfdllmaaGreatDoor
open Go Go.RowKit

/-- a right rating -/
structure RatOK (n d : Int) : Prop where
  d1 : 1 ≤ d
  d2 : d ≤ 1000
  dv : d * (1000 / d) = 1000
  g : Int.gcd n d = 1
  lo : -10000 * d ≤ n
  hi : n ≤ 10000 * d
/-- a rating in thousandths -/
def thou (n d : Int) : Int := n * (1000 / d)
theorem thou_bd {n d : Int} (h : RatOK n d) : -10000000 ≤ thou n d ∧ thou n d ≤ 10000000 ∧ 1 ≤ 1000 / d ∧ 1000 / d ≤ 1000 := by
  have hp : 0 < 1000 / d := by
    apply Classical.byContradiction
    intro hc
    have : d * (1000 / d) ≤ 0 := by
      have := Int.mul_le_mul_of_nonneg_left (show 1000 / d ≤ 0 by omega) (show 0 ≤ d by have := h.d1; omega)
      omega
    have := h.dv
    omega
  have h1 := Int.mul_le_mul_of_nonneg_right h.hi (show 0 ≤ 1000 / d by omega)
  have h2 := Int.mul_le_mul_of_nonneg_right h.lo (show 0 ≤ 1000 / d by omega)
  have e1 : 10000 * d * (1000 / d) = 10000 * (d * (1000 / d)) := Int.mul_assoc _ _ _
  have e2 : -10000 * d * (1000 / d) = -10000 * (d * (1000 / d)) := Int.mul_assoc _ _ _
  rw [e1, h.dv] at h1
  rw [e2, h.dv] at h2
  have h3 : 1000 / d ≤ 1000 := Int.ediv_le_self _ (by omega)
  unfold thou
  omega

theorem thousandths_calls (n d : Int) (w : World) (h : RatOK n d) :
    Calls Tryz.prog 124 #[.agg #[.int .i64 n, .int .i64 d]] w (BRet (.int .i64 (thou n d)) w) := by
  obtain ⟨t1, t2, t3, t4⟩ := thou_bd h
  have d1 := h.d1
  have d2 := h.d2
  obtain ⟨q, hq⟩ : ∃ q, 1000 / d = q := ⟨_, rfl⟩
  have ht : thou n d = n * q := by unfold thou; rw [hq]
  rw [hq] at t3 t4
  have HT := Lib.hid ht
  rw [ht] at t1 t2
  have HQ := Lib.hid hq
  clear ht
  go_enter Tryz.func124, Tryz.ntmps124
  go_wp2_with fail
  have hw : IntKind.i64.wrap (n * (1000 / d)) = n * q := by rw [hq]; exact IntWalk.i64_in _ ⟨by omega, by omega⟩
  go_quiet (fail)
  clear hw
  go_wp2
  go_ret
  exact ⟨ret_int HT.out.symm, below_drewN ((Below.refl _ _).alloc (Nat.le_refl _) _) _⟩

theorem expectedR_calls (A B : Int) (w : World) (a0 : -10000000 ≤ A) (a1 : A ≤ 10000000) (b0 : -10000000 ≤ B) (b1 : B ≤ 10000000) :
    Calls Tryz.prog 123 #[.int .i64 A, .int .i64 B] w (QRet (.int .i64 (RatP.expd A B)) w) := by
  have HE := Lib.hid (show RatP.expd A B = min 800000 (max 0 (400000 + A - B)) from rfl)
  go_enter Tryz.func123, Tryz.ntmps123
  go_wp2
  all_goals (go_ret; exact ⟨ret_int (by rw [HE.out]; try omega), 0, rfl⟩)

/-- the first that is not 0 -/
def firstE : List Int → Int
  | [] => 0
  | e :: l => if e = 0 then firstE l else e
theorem firstE_step (l : List Int) (k : Nat) (hk : k < l.length) : firstE (l.drop k) = if l[k] = 0 then firstE (l.drop (k + 1)) else l[k] := by
  rw [List.drop_eq_getElem_cons hk, firstE]

set_option maxRecDepth 100000 in
theorem first_calls (b : Nat) (A : Option Addr) (n c : Nat) (l : List Int) (w : World) (hr : Rd w b 1 (.slice A n c) n (l.map (Value.int .i64))) :
    Calls Tryz.prog 77 #[.slice A n c] w (QRet (.int .i64 (firstE l)) w) := by
  obtain ⟨A', c', e1, e2, e3, e4, e5, e6⟩ := hr
  injection e1 with ea eb ec
  subst ea ec
  unfold maxLen at e3
  have hl : l.length = n := by simpa using e4
  have HL := Lib.hid hl
  have HC := Lib.hid e6
  clear e4 e5 e6 hl
  go_enter Tryz.func77, Tryz.ntmps77
  go_wp2_with fail
  go_loop [7] (fun i => ∃ k : Nat, k ≤ n ∧ i = .int .i64 k ∧ Hid (firstE l = firstE (l.drop k))) (fun i => n - (intOf i).toNat)
  case atStart => exact ⟨0, Nat.zero_le _, rfl, rfl⟩
  case round =>
    obtain ⟨k, hk, rfl, HF⟩ := hrel
    by_cases hlt : k < n
    · have hkr : k < l.length := by rw [HL.out]; exact hlt
      obtain ⟨g, o, hA, _, hcs⟩ := HC.out (by omega)
      subst hA
      have hst := HF.out.trans (firstE_step l k hkr)
      have c0 := hcs k _ (by rw [List.getElem?_map, List.getElem?_eq_getElem hkr]; rfl)
      clear hcs
      obtain ⟨z, hz⟩ : ∃ z, l[k] = z := ⟨_, rfl⟩
      rw [hz] at c0 hst
      clear hz
      by_cases h0 : z = 0
      · subst h0
        rw [if_pos rfl] at hst
        have HS := Lib.hid hst
        clear hst
        go_wp2_with fail
        go_round
        case rel => exact ⟨k + 1, by omega, by go_num, HS⟩
        case measure => simp [intOf]; omega
      · rw [if_neg h0] at hst
        have HS := Lib.hid hst
        have hne : (z != 0) = true := by rw [bne_iff_ne]; exact h0
        clear hst
        go_wp2_with fail
        go_ret
        exact ⟨ret_int HS.out.symm, 0, rfl⟩
    · obtain rfl : k = n := by omega
      have HS := Lib.hid (HF.out.trans (by rw [List.drop_of_length_le (by rw [HL.out]; exact Nat.le_refl _)]; rfl : _ = (0 : Int)))
      go_wp2_with fail
      go_ret
      exact ⟨ret_int HS.out.symm, 0, rfl⟩

end Go.Proofs.YthbcogekfdllmaaGreatDoor
/-
  The order of gifts: cmp.Compare, cmp.Or, byGift and giftOrder by contracts.
-/
namespace Go.Proofs.YthbcogekfdllmaaGreatDoor
open Go Go.RowKit

def cmpI (x y : Int) : Int := if x < y then -1 else if y < x then 1 else 0
def cmpS (a b : ByteArray) : Int := Lib.compareBytes a.data.toList b.data.toList
theorem cmpL_le : ∀ a b : List UInt8, decide (Lib.compareBytes a b ≤ 0) = (Op.bytesLess a b || a == b)
  | [], [] => rfl
  | [], _ :: _ => rfl
  | _ :: _, [] => rfl
  | a :: p, b :: q => by
    have ih := cmpL_le p q
    unfold Lib.compareBytes Op.bytesLess
    by_cases h1 : a < b
    · simp [h1]
    · by_cases h2 : b < a
      · have hne : ¬ a = b := fun e => by subst e; exact h1 h2
        simp [h1, h2, hne]
      · have he : a = b := UInt8.le_antisymm (UInt8.not_lt.1 h2) (UInt8.not_lt.1 h1)
        subst he
        rw [if_neg h1, if_neg h1, ih]
        simp [h1]
theorem cmpL_ge : ∀ a b : List UInt8, decide (0 ≤ Lib.compareBytes b a) = (Op.bytesLess a b || a == b)
  | [], [] => rfl
  | [], _ :: _ => rfl
  | _ :: _, [] => rfl
  | a :: p, b :: q => by
    have ih := cmpL_ge p q
    unfold Lib.compareBytes Op.bytesLess
    by_cases h1 : a < b
    · have h2 : ¬ b < a := fun h2 => UInt8.lt_irrefl _ (UInt8.lt_trans h1 h2)
      simp [h1, h2]
    · by_cases h2 : b < a
      · have hne : ¬ a = b := fun e => by subst e; exact h1 h2
        simp [h1, h2, hne]
      · have he : a = b := UInt8.le_antisymm (UInt8.not_lt.1 h2) (UInt8.not_lt.1 h1)
        subst he
        rw [if_neg h1, if_neg h1, ih]
        simp [h1]
theorem cmpS_le (a b : ByteArray) : decide (cmpS a b ≤ 0) = leS a b := by
  unfold cmpS leS
  rw [cmpL_le, Lib.toList_data, Lib.toList_data]
theorem cmpS_ge (a b : ByteArray) : decide (0 ≤ cmpS b a) = leS a b := by
  unfold cmpS leS
  rw [cmpL_ge, Lib.toList_data, Lib.toList_data]
set_option maxRecDepth 100000 in
theorem isNaNI_calls (x : Int) (w : World) : Calls Tryz.prog 118 #[.int .i64 x] w fun e w' => e = .returned (.bool false) ∧ w = w' := by
  go_enter Tryz.func118, Tryz.ntmps118
  go_wp2_with fail
  go_ret
  exact ⟨ret_bool (by simp), rfl⟩
set_option maxRecDepth 100000 in
theorem cmpInt_calls (x y : Int) (w : World) : Calls Tryz.prog 55 #[.int .i64 x, .int .i64 y] w fun e w' => e = .returned (.int .i64 (cmpI x y)) ∧ w = w' := by
  by_cases h1 : x < y
  · have HS : Hid (cmpI x y = -1) := by unfold cmpI; rw [if_pos h1]; exact Lib.hid rfl
    go_enter Tryz.func55, Tryz.ntmps55
    go_wp2_with fail
    refine (isNaNI_calls _ _).mono ?_
    rintro e w1 ⟨rfl, rfl⟩
    go_wp2_with fail
    refine (isNaNI_calls _ _).mono ?_
    rintro e w1 ⟨rfl, rfl⟩
    go_wp2_with fail
    go_ret
    exact ⟨ret_int HS.out.symm, rfl⟩
  · by_cases h2 : y < x
    · have HS : Hid (cmpI x y = 1) := by unfold cmpI; rw [if_neg h1, if_pos h2]; exact Lib.hid rfl
      go_enter Tryz.func55, Tryz.ntmps55
      go_wp2_with fail
      refine (isNaNI_calls _ _).mono ?_
      rintro e w1 ⟨rfl, rfl⟩
      go_wp2_with fail
      refine (isNaNI_calls _ _).mono ?_
      rintro e w1 ⟨rfl, rfl⟩
      go_wp2_with fail
      go_ret
      exact ⟨ret_int HS.out.symm, rfl⟩
    · have HS : Hid (cmpI x y = 0) := by unfold cmpI; rw [if_neg h1, if_neg h2]; exact Lib.hid rfl
      go_enter Tryz.func55, Tryz.ntmps55
      go_wp2_with fail
      refine (isNaNI_calls _ _).mono ?_
      rintro e w1 ⟨rfl, rfl⟩
      go_wp2_with fail
      refine (isNaNI_calls _ _).mono ?_
      rintro e w1 ⟨rfl, rfl⟩
      go_wp2_with fail
      go_ret
      exact ⟨ret_int HS.out.symm, rfl⟩
end Go.Proofs.YthbcogekfdllmaaGreatDoor
/-
  Strings in order: transitive, total, antisymmetric. No Go text is named here.
-/
namespace Go.Proofs.YthbcogekfdllmaaGreatDoor
open Go Go.RowKit

theorem gt_trans : ∀ x y z : List UInt8, 0 < Lib.compareBytes x y → 0 < Lib.compareBytes y z → 0 < Lib.compareBytes x z
  | [], [], _, h, _ => by simp [Lib.compareBytes] at h
  | [], _ :: _, _, h, _ => by simp [Lib.compareBytes] at h
  | _ :: _, [], [], _, h => by simp [Lib.compareBytes] at h
  | _ :: _, [], _ :: _, _, h => by simp [Lib.compareBytes] at h
  | _ :: _, _ :: _, [], _, _ => by simp [Lib.compareBytes]
  | a :: p, b :: q, c :: r, h1, h2 => by
    have ih := gt_trans p q r
    unfold Lib.compareBytes at h1 h2 ⊢
    by_cases a1 : a < b
    · rw [if_pos a1] at h1; exact absurd h1 (by decide)
    by_cases b1 : b < c
    · rw [if_pos b1] at h2; exact absurd h2 (by decide)
    rw [if_neg a1] at h1
    rw [if_neg b1] at h2
    by_cases a2 : b < a
    · by_cases b2 : c < b
      · have hc := UInt8.lt_trans b2 a2
        rw [if_neg (fun h => UInt8.lt_irrefl _ (UInt8.lt_trans h hc)), if_pos hc]
        decide
      · have e : b = c := UInt8.le_antisymm (UInt8.not_lt.1 b2) (UInt8.not_lt.1 b1)
        subst e
        rw [if_neg a1, if_pos a2]
        decide
    · have e : a = b := UInt8.le_antisymm (UInt8.not_lt.1 a2) (UInt8.not_lt.1 a1)
      subst e
      by_cases b2 : c < a
      · rw [if_neg b1, if_pos b2]
        decide
      · have e : a = c := UInt8.le_antisymm (UInt8.not_lt.1 b2) (UInt8.not_lt.1 b1)
        subst e
        rw [if_neg a2] at h1
        rw [if_neg b2] at h2
        rw [if_neg b1, if_neg b2]
        exact ih h1 h2
theorem gt_irr : ∀ x : List UInt8, Lib.compareBytes x x = 0
  | [] => by simp [Lib.compareBytes]
  | a :: p => by
    unfold Lib.compareBytes
    rw [if_neg (UInt8.lt_irrefl a), if_neg (UInt8.lt_irrefl a)]
    exact gt_irr p
/-- one name behind another one -/
def gtS (a b : ByteArray) : Prop := leS a b = false
theorem gtS_iff (a b : ByteArray) : gtS a b ↔ 0 < cmpS a b := by
  unfold gtS
  rw [← cmpS_le]
  simp
theorem gtS.trans {a b c : ByteArray} (h1 : gtS a b) (h2 : gtS b c) : gtS a c :=
  (gtS_iff a c).2 (gt_trans _ _ _ ((gtS_iff a b).1 h1) ((gtS_iff b c).1 h2))
theorem cmpL_zero : ∀ a b : List UInt8, Lib.compareBytes a b = 0 → a = b
  | [], [], _ => rfl
  | [], _ :: _, h => by simp [Lib.compareBytes] at h
  | _ :: _, [], h => by simp [Lib.compareBytes] at h
  | a :: p, b :: q, h => by
    unfold Lib.compareBytes at h
    by_cases h1 : a < b
    · rw [if_pos h1] at h; exact absurd h (by decide)
    · by_cases h2 : b < a
      · rw [if_neg h1, if_pos h2] at h; exact absurd h (by decide)
      · rw [if_neg h1, if_neg h2] at h
        rw [cmpL_zero p q h, UInt8.le_antisymm (UInt8.not_lt.1 h2) (UInt8.not_lt.1 h1)]
theorem cmpS_zero {a b : ByteArray} (h : cmpS a b = 0) : a = b := by
  have := cmpL_zero _ _ h
  cases a; cases b
  congr
  exact Array.toList_inj.1 this
theorem leS_gt {a b : ByteArray} (h : gtS b a) : leS a b = true := by
  have := (gtS_iff b a).1 h
  rw [← cmpS_ge]
  simp
  omega
theorem leS_cases {a b : ByteArray} (h : leS a b = true) : gtS b a ∨ a = b := by
  rw [← cmpS_ge] at h
  have h : 0 ≤ cmpS b a := by simpa using h
  by_cases h0 : cmpS b a = 0
  · exact .inr (cmpS_zero h0).symm
  · exact .inl ((gtS_iff b a).2 (by omega))
theorem leS_self (a : ByteArray) : leS a a = true := by
  rw [← cmpS_ge]
  have := gt_irr a.data.toList
  simp [cmpS, this]
theorem leS_trans {a b c : ByteArray} (h1 : leS a b = true) (h2 : leS b c = true) : leS a c = true := by
  rcases leS_cases h1 with h1 | rfl
  · rcases leS_cases h2 with h2 | rfl
    · exact leS_gt (h2.trans h1)
    · exact leS_gt h1
  · exact h2
end Go.Proofs.YthbcogekfdllmaaGreatDoor
/-
  Three-way comparisons that hang together (Ord3): numbers, strings, one behind the other. No Go text is named here.
-/
namespace Go.Proofs.YthbcogekfdllmaaGreatDoor
open Go Go.RowKit

theorem cmpI_neg (a b : Int) : cmpI b a = - cmpI a b := by
  unfold cmpI
  split <;> split <;> (try split) <;> omega
theorem cmpL_neg : ∀ a b : List UInt8, Lib.compareBytes b a = - Lib.compareBytes a b
  | [], [] => by simp [Lib.compareBytes]
  | [], _ :: _ => by simp [Lib.compareBytes]
  | _ :: _, [] => by simp [Lib.compareBytes]
  | a :: p, b :: q => by
    have ih := cmpL_neg p q
    unfold Lib.compareBytes
    by_cases h1 : a < b
    · have h2 : ¬ b < a := fun h => UInt8.lt_irrefl _ (UInt8.lt_trans h1 h)
      simp [h1, h2]
    · by_cases h2 : b < a
      · simp [h1, h2]
      · simp [h1, h2, ih]
theorem cmpS_neg (a b : ByteArray) : cmpS b a = - cmpS a b := cmpL_neg _ _
/-- a three-way comparison that hangs together -/
structure Ord3 {α : Type} (f : α → α → Int) : Prop where
  neg : ∀ x y, f y x = - f x y
  trans : ∀ x y z, f x y ≤ 0 → f y z ≤ 0 → f x z ≤ 0
theorem Ord3.first {α : Type} {f g : α → α → Int} (hf : Ord3 f) (hg : Ord3 g) : Ord3 (fun x y => if f x y = 0 then g x y else f x y) where
  neg x y := by
    have h1 := hf.neg x y
    have h2 := hg.neg x y
    show (if f y x = 0 then g y x else f y x) = - (if f x y = 0 then g x y else f x y)
    by_cases h : f x y = 0
    · rw [if_pos h, if_pos (by omega), h2]
    · rw [if_neg h, if_neg (by omega), h1]
  trans x y z := by
    show (if f x y = 0 then g x y else f x y) ≤ 0 → (if f y z = 0 then g y z else f y z) ≤ 0 → (if f x z = 0 then g x z else f x z) ≤ 0
    intro h1 h2
    have a1 : f x y ≤ 0 := by split at h1 <;> omega
    have a2 : f y z ≤ 0 := by split at h2 <;> omega
    have a3 := hf.trans x y z a1 a2
    by_cases h : f x z = 0
    · have b1 := hf.neg x z
      have b2 := hf.trans y z x a2 (by omega)
      have b3 := hf.trans z x y (by omega) a1
      have c1 := hf.neg x y
      have c2 := hf.neg y z
      rw [if_pos (by omega)] at h1 h2
      rw [if_pos h]
      exact hg.trans x y z h1 h2
    · rw [if_neg h]
      exact a3
theorem ord3_int {α : Type} (p : α → Int) : Ord3 (fun x y => cmpI (p x) (p y)) := ⟨fun x y => cmpI_neg _ _, fun x y z => by
  show cmpI _ _ ≤ 0 → cmpI _ _ ≤ 0 → cmpI _ _ ≤ 0
  unfold cmpI
  intro h1 h2
  split at h1 <;> split at h2 <;> split <;> (try split at h1) <;> (try split at h2) <;> (try split) <;> omega⟩
theorem ord3_str {α : Type} (p : α → ByteArray) : Ord3 (fun x y => cmpS (p x) (p y)) := ⟨fun x y => cmpS_neg _ _, fun x y z h1 h2 => by
  have e1 := (cmpS_le (p x) (p y)).symm.trans (decide_eq_true h1)
  have e2 := (cmpS_le (p y) (p z)).symm.trans (decide_eq_true h2)
  exact of_decide_eq_true ((cmpS_le (p x) (p z)).trans (leS_trans e1 e2))⟩
theorem Ord3.swo {α : Type} {f : α → α → Int} (h : Ord3 f) : Go.Sort.SWO (ltOf f) where
  irrefl x := by
    have := h.neg x x
    exact decide_eq_false (by omega)
  trans x y z h1 h2 := by
    have h1 : f x y < 0 := of_decide_eq_true h1
    have h2 : f y z < 0 := of_decide_eq_true h2
    refine decide_eq_true ?_
    have a := h.trans x y z (by omega) (by omega)
    by_cases e : f x z = 0
    · have b := h.neg x z
      have c := h.neg x y
      have d := h.trans y z x (by omega) (by omega)
      have := h.neg y x
      omega
    · omega
  ntrans x y z h1 h2 := by
    have h1 : ¬ f x y < 0 := of_decide_eq_false h1
    have h2 : ¬ f y z < 0 := of_decide_eq_false h2
    refine decide_eq_false ?_
    have a := h.neg x y
    have b := h.neg y z
    have c := h.neg x z
    have d := h.trans z y x (by omega) (by omega)
    omega
end Go.Proofs.YthbcogekfdllmaaGreatDoor
