/-
  Pieces between bytes, numbers and lines in plain words. No Go text is named here.
-/
import Derived.Lib.Split
import Derived.Lib.SplitLaws
import Derived.Lib.IndexBytes
import Derived.Lib.AtoiErr
import Derived.Lib.AtoiBound
import Derived.Lib.ItoaMem
import Derived.Lib.SlicesS
namespace Go.Proofs.YtlkapcjofgpiiaaGreatDoor.TxtP
open Go

/-- the pieces between the bytes c -/
def spl (c : UInt8) : List UInt8 → List (List UInt8)
  | [] => [[]]
  | b :: r => if b = c then [] :: spl c r else match spl c r with
    | [] => [[b]]
    | p :: q => (b :: p) :: q
/-! numbers -/
theorem head_app {e : List UInt8} (he : e ≠ []) (y : List UInt8) : (e ++ y).head? = e.head? := by
  cases e with
  | nil => exact absurd rfl he
  | cons a t => rfl
theorem itoa_zero : Lib.itoa (-((0 : Nat) : Int)) = [48] := by
  have e : (-((0 : Nat) : Int)) = ((0 : Nat) : Int) := rfl
  rw [e, Lib.itoa_nonneg, Lib.decDigits, dif_pos (by omega)]
  rfl
def isDig (b : UInt8) : Bool := decide (48 ≤ b.toNat ∧ b.toNat ≤ 57)
theorem isDig_val {b : UInt8} (h : isDig b = true) : Lib.digitVal b = some (b.toNat - 48) := by
  unfold isDig at h
  rw [Lib.digitVal, if_pos (of_decide_eq_true h)]
theorem isDig_iff {b : UInt8} : isDig b = true ↔ 48 ≤ b.toNat ∧ b.toNat ≤ 57 := by
  unfold isDig; exact decide_eq_true_iff
/-- a number without its sign -/
def body : List UInt8 → List UInt8
  | [] => []
  | b :: r => if b = 45 then r else b :: r
def numB (l : List UInt8) (most : Nat) : Bool :=
  decide (body l ≠ []) && decide ((body l).length ≤ most) && !(decide ((body l).head? = some 48) && (decide (1 < (body l).length) || decide ((body l).length < l.length))) && (body l).all isDig
def numI (l : List UInt8) : Int := (Lib.atoi l).getD 0
def digV (l : List UInt8) : Nat := l.foldl (fun a b => a * 10 + (b.toNat - 48)) 0
theorem decFrom_fold : ∀ (l : List UInt8) (a : Nat), l.all isDig = true → Lib.decFrom a l = some (l.foldl (fun a b => a * 10 + (b.toNat - 48)) a)
  | [], _, _ => rfl
  | b :: r, a, h => by
    rw [List.all_cons, Bool.and_eq_true] at h
    rw [Lib.decFrom, isDig_val h.1, List.foldl_cons]
    exact decFrom_fold r _ h.2
theorem decNat_digs {l : List UInt8} (h0 : l ≠ []) (h : l.all isDig = true) : Lib.decNat l = some (digV l) := by
  rw [Lib.decNat, if_neg (by simpa using h0), decFrom_fold l 0 h]; rfl
theorem digV_snoc (l : List UInt8) (b : UInt8) : digV (l ++ [b]) = digV l * 10 + (b.toNat - 48) := by
  unfold digV; rw [List.foldl_append]; rfl
theorem fold_ge : ∀ (l : List UInt8) (a : Nat), a ≤ l.foldl (fun a b => a * 10 + (b.toNat - 48)) a
  | [], _ => Nat.le_refl _
  | b :: r, a => by
    rw [List.foldl_cons]
    exact Nat.le_trans (by omega) (fold_ge r _)
theorem digV_pos {l : List UInt8} (h0 : l ≠ []) (h : l.all isDig = true) (hh : l.head? ≠ some 48) : 0 < digV l := by
  cases l with
  | nil => exact absurd rfl h0
  | cons b r =>
    rw [List.all_cons, Bool.and_eq_true, isDig_iff] at h
    have hb : b.toNat ≠ 48 := by
      intro e
      apply hh
      rw [List.head?_cons]
      exact congrArg some (UInt8.toNat_inj.1 (by rw [e]; rfl))
    unfold digV
    rw [List.foldl_cons]
    exact Nat.lt_of_lt_of_le (by omega) (fold_ge r _)
theorem byte_dig {b : UInt8} (h : isDig b = true) : UInt8.ofNat (48 + (b.toNat - 48)) = b := by
  rw [isDig_iff] at h
  apply UInt8.toNat_inj.1
  rw [UInt8.toNat_ofNat']
  omega
/-- digits without a 0 ahead are what is written of their number -/
theorem digits_back : ∀ (n : Nat) (l : List UInt8), l.length = n → l ≠ [] → l.all isDig = true → (l.head? ≠ some 48 ∨ l.length = 1) → Lib.decDigits (digV l) = l
  | 0, l, hn, h0, _, _ => absurd (List.length_eq_zero_iff.1 hn) h0
  | n + 1, l, hn, h0, h, hh => by
    obtain ⟨e, b, rfl⟩ : ∃ e b, l = e ++ [b] := ⟨l.dropLast, l.getLast h0, (List.dropLast_concat_getLast h0).symm⟩
    rw [List.all_append, Bool.and_eq_true] at h
    have hb : isDig b = true := by simpa using h.2
    have hb' := isDig_iff.1 hb
    rw [digV_snoc]
    by_cases he : e = []
    · subst he
      have : digV [] = 0 := rfl
      rw [this, Lib.decDigits, dif_pos (by omega), Nat.zero_mul, Nat.zero_add, byte_dig hb]
      rfl
    · have hl : e.length = n := by simpa using hn
      have hpos : 0 < e.length := List.length_pos_iff.2 he
      have hhe : e.head? ≠ some 48 := by
        rcases hh with hh | hh
        · rwa [head_app he] at hh
        · rw [List.length_append, List.length_singleton] at hh; omega
      have hp := digV_pos he h.1 hhe
      have ih := digits_back n e hl he h.1 (Or.inl hhe)
      rw [Lib.decDigits, dif_neg (by omega)]
      have e1 : (digV e * 10 + (b.toNat - 48)) / 10 = digV e := by omega
      have e2 : (digV e * 10 + (b.toNat - 48)) % 10 = b.toNat - 48 := by omega
      rw [e1, e2, ih, byte_dig hb]
theorem decDigits_ne (n : Nat) : Lib.decDigits n ≠ [] := by
  rw [Lib.decDigits]
  split
  · simp
  · simp
theorem decDigits_head : ∀ n : Nat, 0 < n → (Lib.decDigits n).head? ≠ some 48
  | n, h => by
    rw [Lib.decDigits]
    split
    · intro e
      have e1 := Option.some.inj e
      have e2 : (UInt8.ofNat (48 + n)).toNat = 48 := by rw [e1]; rfl
      rw [UInt8.toNat_ofNat'] at e2
      omega
    · rw [head_app (decDigits_ne _)]
      exact decDigits_head (n / 10) (by omega)
termination_by n => n
decreasing_by omega
/-- digits are what is written of their number just if no 0 stands ahead -/
theorem digits_iff {l : List UInt8} (h0 : l ≠ []) (h : l.all isDig = true) : Lib.decDigits (digV l) = l ↔ ¬ (l.head? = some 48 ∧ 1 < l.length) := by
  have hpos : 0 < l.length := List.length_pos_iff.2 h0
  constructor
  · intro e ⟨hh, hl⟩
    by_cases hv : digV l = 0
    · rw [hv, Lib.decDigits, dif_pos (by omega)] at e
      rw [← e] at hl
      simp at hl
    · rw [← e] at hh
      exact decDigits_head _ (by omega) hh
  · intro hn
    refine digits_back _ l rfl h0 h ?_
    by_cases hh : l.head? = some 48
    · right
      have : ¬ 1 < l.length := fun hl => hn ⟨hh, hl⟩
      omega
    · exact Or.inl hh
theorem atoi_plain {b : UInt8} {r : List UInt8} (h : b ≠ 45) (hb : isDig b = true) : Lib.atoi (b :: r) = (Lib.decNat (b :: r)).map fun (m : Nat) => (m : Int) := by
  have h43 : b ≠ 43 := by
    intro e; subst e; exact absurd hb (by decide)
  rw [Lib.atoi, if_neg (by simpa using h), if_neg (by simpa using h43)]
theorem atoi_minus (r : List UInt8) : Lib.atoi (45 :: r) = (Lib.decNat r).map fun (m : Nat) => -(m : Int) := by
  rw [Lib.atoi, if_pos (by decide)]
/-- what a number with digits alone is -/
theorem atoi_body {l : List UInt8} (h0 : body l ≠ []) (h : (body l).all isDig = true) : Lib.atoi l = some (if (body l).length < l.length then -(digV (body l) : Int) else digV (body l)) := by
  cases l with
  | nil => exact absurd rfl h0
  | cons b r =>
    by_cases hb : b = 45
    · subst hb
      have e : body (45 :: r) = r := by simp [body]
      rw [e] at h0 h ⊢
      rw [atoi_minus, decNat_digs h0 h, if_pos (by simp)]
      rfl
    · have e : body (b :: r) = b :: r := by simp [body, hb]
      rw [e] at h0 h ⊢
      have hd : isDig b = true := by
        rw [List.all_cons, Bool.and_eq_true] at h; exact h.1
      rw [atoi_plain hb hd, decNat_digs h0 h, if_neg (by omega)]
      rfl
/-- a number comes back just if it is written without a 0 ahead, and is not -0 -/
theorem num_back {l : List UInt8} (h0 : body l ≠ []) (h : (body l).all isDig = true) : (Lib.itoa (numI l) = l) ↔ ¬ ((body l).head? = some 48 ∧ (1 < (body l).length ∨ (body l).length < l.length)) := by
  have ha := atoi_body h0 h
  unfold numI
  rw [ha, Option.getD_some]
  cases l with
  | nil => exact absurd rfl h0
  | cons b r =>
    by_cases hb : b = 45
    · subst hb
      have e : body (45 :: r) = r := by simp [body]
      rw [e] at h0 h ⊢
      rw [if_pos (by simp)]
      by_cases hh : r.head? = some 48
      · have : ¬ (Lib.itoa (-(digV r : Int)) = 45 :: r) := by
          intro e
          by_cases hv : digV r = 0
          · rw [hv, itoa_zero] at e
            exact absurd (List.cons.inj e).1 (by decide)
          · rw [Lib.itoa_neg _ (by omega)] at e
            have e2 := List.cons.inj e
            rw [← e2.2] at hh
            exact decDigits_head _ (by omega) hh
        constructor
        · intro e; exact absurd e this
        · intro hn; exact absurd ⟨hh, Or.inr (by simp)⟩ hn
      · have hp := digV_pos h0 h hh
        rw [Lib.itoa_neg _ (by omega), digits_back _ r rfl h0 h (Or.inl hh)]
        constructor
        · intro _ hc; exact hh hc.1
        · intro _; rfl
    · have e : body (b :: r) = b :: r := by simp [body, hb]
      rw [e] at h0 h ⊢
      rw [if_neg (by omega), Lib.itoa_nonneg, digits_iff h0 h]
      constructor
      · intro hn hc
        rcases hc with ⟨h1, h2 | h2⟩
        · exact hn ⟨h1, h2⟩
        · omega
      · intro hn hc
        exact hn ⟨hc.1, Or.inl hc.2⟩
theorem numB_iff {l : List UInt8} {most : Nat} : numB l most = true ↔ body l ≠ [] ∧ (body l).length ≤ most ∧ (body l).all isDig = true ∧ Lib.itoa (numI l) = l := by
  constructor
  · intro h
    unfold numB at h
    rw [Bool.and_eq_true, Bool.and_eq_true, Bool.and_eq_true] at h
    obtain ⟨⟨⟨h1, h2⟩, h3⟩, h4⟩ := h
    have h1 := of_decide_eq_true h1
    refine ⟨h1, of_decide_eq_true h2, h4, (num_back h1 h4).2 ?_⟩
    rintro ⟨ha, hb⟩
    rw [Bool.not_eq_true', Bool.and_eq_false_iff] at h3
    rcases h3 with h3 | h3
    · exact of_decide_eq_false h3 ha
    · rw [Bool.or_eq_false_iff] at h3
      rcases hb with hb | hb
      · exact of_decide_eq_false h3.1 hb
      · exact of_decide_eq_false h3.2 hb
  · rintro ⟨h1, h2, h4, h5⟩
    have h6 := (num_back h1 h4).1 h5
    unfold numB
    rw [Bool.and_eq_true, Bool.and_eq_true, Bool.and_eq_true]
    refine ⟨⟨⟨decide_eq_true h1, decide_eq_true h2⟩, ?_⟩, h4⟩
    rw [Bool.not_eq_true', Bool.and_eq_false_iff]
    by_cases ha : (body l).head? = some 48
    · right
      rw [Bool.or_eq_false_iff]
      exact ⟨decide_eq_false (fun hb => h6 ⟨ha, Or.inl hb⟩), decide_eq_false (fun hb => h6 ⟨ha, Or.inr hb⟩)⟩
    · exact Or.inl (decide_eq_false ha)
theorem body_len (l : List UInt8) : (body l).length ≤ l.length ∧ l.length ≤ (body l).length + 1 := by
  cases l with
  | nil => simp [body]
  | cons b r =>
    by_cases hb : b = 45
    · simp [body, hb]
    · simp [body, hb]
theorem numI_bound {l : List UInt8} (hl : l.length ≤ 18) : -1000000000000000000 < numI l ∧ numI l < 1000000000000000000 := by
  unfold numI
  cases h : Lib.atoi l with
  | none => exact ⟨by decide, by decide⟩
  | some n => exact Lib.atoi_bound h hl

/-! lines -/
end Go.Proofs.YtlkapcjofgpiiaaGreatDoor.TxtP
