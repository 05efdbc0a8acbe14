/-
  Pieces between bytes, numbers and lines in plain words. No Go text is named here.
-/
import Derived.Lib.Split
import Derived.Lib.SplitLaws
import Derived.Lib.IndexBytes
import Derived.Lib.AtoiErr
import Derived.Lib.AtoiBound
import Derived.Lib.ItoaMem
import Derived.Lib.SlicesS
namespace Go.Proofs.YthbcogekfdllmaaGreatDoor.TxtP
open Go

/-- the pieces between the bytes c -/
def spl (c : UInt8) : List UInt8 → List (List UInt8)
  | [] => [[]]
  | b :: r => if b = c then [] :: spl c r else match spl c r with
    | [] => [[b]]
    | p :: q => (b :: p) :: q
theorem spl_nil (c : UInt8) : spl c [] = [[]] := rfl
theorem spl_eq (c : UInt8) (r : List UInt8) : spl c (c :: r) = [] :: spl c r := by rw [spl, if_pos rfl]
theorem spl_ne {c b : UInt8} (h : b ≠ c) (r : List UInt8) (p : List UInt8) (q : List (List UInt8)) (hr : spl c r = p :: q) : spl c (b :: r) = (b :: p) :: q := by rw [spl, if_neg h, hr]
theorem spl_some (c : UInt8) : ∀ l, ∃ p q, spl c l = p :: q
  | [] => ⟨[], [], rfl⟩
  | b :: r => by
    by_cases h : b = c
    · subst h; exact ⟨[], spl b r, spl_eq b r⟩
    · obtain ⟨p, q, e⟩ := spl_some c r
      exact ⟨b :: p, q, spl_ne h r p q e⟩
theorem spl_len (c : UInt8) : ∀ l, (spl c l).length = l.count c + 1
  | [] => rfl
  | b :: r => by
    by_cases h : b = c
    · subst h; rw [spl_eq, List.length_cons, spl_len b r, List.count_cons_self]
    · obtain ⟨p, q, e⟩ := spl_some c r
      have := spl_len c r
      rw [spl_ne h r p q e, List.length_cons, List.count_cons_of_ne (by simpa using h), ← this, e, List.length_cons]
theorem spl_no {c : UInt8} : ∀ {l : List UInt8}, c ∉ l → spl c l = [l]
  | [], _ => rfl
  | b :: r, h => by
    rw [List.mem_cons, not_or] at h
    exact spl_ne (Ne.symm h.1) r r [] (spl_no h.2)
/-- a piece, the byte, and what follows -/
theorem spl_app {c : UInt8} : ∀ {p : List UInt8} (r : List UInt8), c ∉ p → spl c (p ++ c :: r) = p :: spl c r
  | [], r, _ => spl_eq c r
  | b :: t, r, h => by
    rw [List.mem_cons, not_or] at h
    exact spl_ne (Ne.symm h.1) _ t (spl c r) (spl_app r h.2)
/-- the pieces, with the byte between them -/
def joinC (c : UInt8) : List (List UInt8) → List UInt8
  | [] => []
  | [p] => p
  | p :: q :: r => p ++ c :: joinC c (q :: r)
theorem joinC_spl (c : UInt8) : ∀ l, joinC c (spl c l) = l
  | [] => rfl
  | b :: r => by
    have ih := joinC_spl c r
    obtain ⟨p, q, e⟩ := spl_some c r
    by_cases h : b = c
    · subst h
      rw [spl_eq, e]
      rw [e] at ih
      simp [joinC, ih]
    · rw [spl_ne h r p q e]
      rw [e] at ih
      cases q with
      | nil => simpa [joinC] using ih
      | cons x y => simpa [joinC] using ih
theorem spl_free (c : UInt8) : ∀ l, ∀ p ∈ spl c l, c ∉ p
  | [], p, hp => by simp [spl] at hp; subst hp; simp
  | b :: r, p, hp => by
    by_cases h : b = c
    · subst h
      rw [spl_eq, List.mem_cons] at hp
      rcases hp with rfl | hp
      · simp
      · exact spl_free b r p hp
    · obtain ⟨x, y, e⟩ := spl_some c r
      rw [spl_ne h r x y e, List.mem_cons] at hp
      have hx := spl_free c r
      rw [e] at hx
      rcases hp with rfl | hp
      · rw [List.mem_cons, not_or]
        exact ⟨Ne.symm h, hx x (by simp)⟩
      · exact hx p (by simp [hp])
/-- one more byte c at the end -/
theorem spl_snoc (c : UInt8) : ∀ l, spl c (l ++ [c]) = spl c l ++ [[]]
  | [] => by rw [List.nil_append, spl_eq]; rfl
  | b :: r => by
    have ih := spl_snoc c r
    obtain ⟨p, q, e⟩ := spl_some c r
    by_cases h : b = c
    · subst h
      rw [List.cons_append, spl_eq, spl_eq, ih, List.cons_append]
    · rw [e] at ih
      rw [List.cons_append, spl_ne h _ p (q ++ [[]]) ih, spl_ne h r p q e, List.cons_append]
/-- the last piece is empty just if the string is, or ends with c -/
theorem spl_last (c : UInt8) : ∀ l, (spl c l).getLast? = some [] → l ≠ [] → l.getLast? = some c
  | [], _, h => absurd rfl h
  | b :: r, hl, _ => by
    obtain ⟨p, q, e⟩ := spl_some c r
    have ih := spl_last c r
    by_cases h : b = c
    · subst h
      by_cases hr : r = []
      · subst hr; rfl
      · rw [spl_eq, e] at hl
        have : (spl b r).getLast? = some [] := by rw [e]; simpa using hl
        have := ih this hr
        rw [List.getLast?_cons, this]; rfl
    · rw [spl_ne h r p q e] at hl
      by_cases hq : q = []
      · subst hq; simp at hl
      · have h2 : (spl c r).getLast? = some [] := by
          rw [e]
          cases q with
          | nil => exact absurd rfl hq
          | cons x y => simpa using hl
        have hr : r ≠ [] := by
          intro e2; subst e2
          rw [spl_nil] at e
          simp at e
          exact hq e.2
        rw [List.getLast?_cons, ih h2 hr]; rfl
theorem index_at {c : UInt8} : ∀ {l : List UInt8} {p : List UInt8} (r : List UInt8), l = p ++ c :: r → c ∉ p → Lib.index l [c] = p.length
  | _, [], r, e, _ => by subst e; rw [Lib.index_one]; simp [Lib.indexByte]
  | _, b :: t, r, e, h => by
    subst e
    rw [List.mem_cons, not_or] at h
    have ih := index_at (c := c) r (rfl : t ++ c :: r = t ++ c :: r) h.2
    rw [Lib.index_one] at ih ⊢
    rw [List.cons_append, Lib.indexByte, ih, if_neg (by simpa using Ne.symm h.1)]
    simp
    try omega
/-- a string without the byte, or a first piece and what follows -/
theorem parts (c : UInt8) (l : List UInt8) : c ∉ l ∨ ∃ p r, l = p ++ c :: r ∧ c ∉ p := by
  by_cases h : c ∈ l
  · right
    induction l with
    | nil => cases h
    | cons b t ih =>
      by_cases e : b = c
      · subst e; exact ⟨[], t, rfl, by simp⟩
      · rw [List.mem_cons] at h
        rcases h with rfl | h
        · exact absurd rfl e
        · obtain ⟨p, r, e2, h2⟩ := ih h
          refine ⟨b :: p, r, by rw [e2]; rfl, ?_⟩
          rw [List.mem_cons, not_or]
          exact ⟨Ne.symm e, h2⟩
  · exact Or.inl h
theorem splitK_spl (c : UInt8) : ∀ (k : Nat) (l : List UInt8), l.count c = k → Lib.splitK [c] 0 k l = spl c l
  | 0, l, h => by rw [spl_no (List.count_eq_zero.1 h)]; rfl
  | k + 1, l, h => by
    rcases parts c l with hn | ⟨p, r, e, hp⟩
    · rw [List.count_eq_zero.2 hn] at h; cases h
    · have hi := index_at r e hp
      have hc : r.count c = k := by
        rw [e, List.count_append, List.count_eq_zero.2 hp, List.count_cons_self] at h
        omega
      rw [Lib.splitK, hi, if_neg (by simp)]
      subst e
      rw [spl_app r hp, ← splitK_spl c k r hc]
      simp
theorem splitB_spl (c : UInt8) (s : ByteArray) : (Lib.splitB ⟨#[c]⟩ 0 (Lib.countB s ⟨#[c]⟩) s).map (·.data.toList) = spl c s.data.toList := by
  rw [Lib.splitB_data]
  refine splitK_spl c _ _ ?_
  rw [← Lib.count_one]
theorem cut_at {c : UInt8} {l p r : List UInt8} (e : l = p ++ c :: r) (h : c ∉ p) : Lib.cut l [c] = (p, r, true) := by
  have hi := index_at r e h
  unfold Lib.cut
  rw [hi, if_pos (by omega)]
  subst e
  simp
/-! numbers -/
theorem head_app {e : List UInt8} (he : e ≠ []) (y : List UInt8) : (e ++ y).head? = e.head? := by
  cases e with
  | nil => exact absurd rfl he
  | cons a t => rfl
theorem itoa_zero : Lib.itoa (-((0 : Nat) : Int)) = [48] := by
  have e : (-((0 : Nat) : Int)) = ((0 : Nat) : Int) := rfl
  rw [e, Lib.itoa_nonneg, Lib.decDigits, dif_pos (by omega)]
  rfl
def isDig (b : UInt8) : Bool := decide (48 ≤ b.toNat ∧ b.toNat ≤ 57)
theorem isDig_val {b : UInt8} (h : isDig b = true) : Lib.digitVal b = some (b.toNat - 48) := by
  unfold isDig at h
  rw [Lib.digitVal, if_pos (of_decide_eq_true h)]
theorem isDig_iff {b : UInt8} : isDig b = true ↔ 48 ≤ b.toNat ∧ b.toNat ≤ 57 := by
  unfold isDig; exact decide_eq_true_iff
/-- a number without its sign -/
def body : List UInt8 → List UInt8
  | [] => []
  | b :: r => if b = 45 then r else b :: r
def numB (l : List UInt8) (most : Nat) : Bool :=
  decide (body l ≠ []) && decide ((body l).length ≤ most) && !(decide ((body l).head? = some 48) && (decide (1 < (body l).length) || decide ((body l).length < l.length))) && (body l).all isDig
def numI (l : List UInt8) : Int := (Lib.atoi l).getD 0
def digV (l : List UInt8) : Nat := l.foldl (fun a b => a * 10 + (b.toNat - 48)) 0
theorem decFrom_fold : ∀ (l : List UInt8) (a : Nat), l.all isDig = true → Lib.decFrom a l = some (l.foldl (fun a b => a * 10 + (b.toNat - 48)) a)
  | [], _, _ => rfl
  | b :: r, a, h => by
    rw [List.all_cons, Bool.and_eq_true] at h
    rw [Lib.decFrom, isDig_val h.1, List.foldl_cons]
    exact decFrom_fold r _ h.2
theorem decNat_digs {l : List UInt8} (h0 : l ≠ []) (h : l.all isDig = true) : Lib.decNat l = some (digV l) := by
  rw [Lib.decNat, if_neg (by simpa using h0), decFrom_fold l 0 h]; rfl
theorem digV_snoc (l : List UInt8) (b : UInt8) : digV (l ++ [b]) = digV l * 10 + (b.toNat - 48) := by
  unfold digV; rw [List.foldl_append]; rfl
theorem fold_ge : ∀ (l : List UInt8) (a : Nat), a ≤ l.foldl (fun a b => a * 10 + (b.toNat - 48)) a
  | [], _ => Nat.le_refl _
  | b :: r, a => by
    rw [List.foldl_cons]
    exact Nat.le_trans (by omega) (fold_ge r _)
theorem digV_pos {l : List UInt8} (h0 : l ≠ []) (h : l.all isDig = true) (hh : l.head? ≠ some 48) : 0 < digV l := by
  cases l with
  | nil => exact absurd rfl h0
  | cons b r =>
    rw [List.all_cons, Bool.and_eq_true, isDig_iff] at h
    have hb : b.toNat ≠ 48 := by
      intro e
      apply hh
      rw [List.head?_cons]
      exact congrArg some (UInt8.toNat_inj.1 (by rw [e]; rfl))
    unfold digV
    rw [List.foldl_cons]
    exact Nat.lt_of_lt_of_le (by omega) (fold_ge r _)
theorem byte_dig {b : UInt8} (h : isDig b = true) : UInt8.ofNat (48 + (b.toNat - 48)) = b := by
  rw [isDig_iff] at h
  apply UInt8.toNat_inj.1
  rw [UInt8.toNat_ofNat']
  omega
/-- digits without a 0 ahead are what is written of their number -/
theorem digits_back : ∀ (n : Nat) (l : List UInt8), l.length = n → l ≠ [] → l.all isDig = true → (l.head? ≠ some 48 ∨ l.length = 1) → Lib.decDigits (digV l) = l
  | 0, l, hn, h0, _, _ => absurd (List.length_eq_zero_iff.1 hn) h0
  | n + 1, l, hn, h0, h, hh => by
    obtain ⟨e, b, rfl⟩ : ∃ e b, l = e ++ [b] := ⟨l.dropLast, l.getLast h0, (List.dropLast_concat_getLast h0).symm⟩
    rw [List.all_append, Bool.and_eq_true] at h
    have hb : isDig b = true := by simpa using h.2
    have hb' := isDig_iff.1 hb
    rw [digV_snoc]
    by_cases he : e = []
    · subst he
      have : digV [] = 0 := rfl
      rw [this, Lib.decDigits, dif_pos (by omega), Nat.zero_mul, Nat.zero_add, byte_dig hb]
      rfl
    · have hl : e.length = n := by simpa using hn
      have hpos : 0 < e.length := List.length_pos_iff.2 he
      have hhe : e.head? ≠ some 48 := by
        rcases hh with hh | hh
        · rwa [head_app he] at hh
        · rw [List.length_append, List.length_singleton] at hh; omega
      have hp := digV_pos he h.1 hhe
      have ih := digits_back n e hl he h.1 (Or.inl hhe)
      rw [Lib.decDigits, dif_neg (by omega)]
      have e1 : (digV e * 10 + (b.toNat - 48)) / 10 = digV e := by omega
      have e2 : (digV e * 10 + (b.toNat - 48)) % 10 = b.toNat - 48 := by omega
      rw [e1, e2, ih, byte_dig hb]
theorem decDigits_ne (n : Nat) : Lib.decDigits n ≠ [] := by
  rw [Lib.decDigits]
  split
  · simp
  · simp
theorem decDigits_head : ∀ n : Nat, 0 < n → (Lib.decDigits n).head? ≠ some 48
  | n, h => by
    rw [Lib.decDigits]
    split
    · intro e
      have e1 := Option.some.inj e
      have e2 : (UInt8.ofNat (48 + n)).toNat = 48 := by rw [e1]; rfl
      rw [UInt8.toNat_ofNat'] at e2
      omega
    · rw [head_app (decDigits_ne _)]
      exact decDigits_head (n / 10) (by omega)
termination_by n => n
decreasing_by omega
/-- digits are what is written of their number just if no 0 stands ahead -/
theorem digits_iff {l : List UInt8} (h0 : l ≠ []) (h : l.all isDig = true) : Lib.decDigits (digV l) = l ↔ ¬ (l.head? = some 48 ∧ 1 < l.length) := by
  have hpos : 0 < l.length := List.length_pos_iff.2 h0
  constructor
  · intro e ⟨hh, hl⟩
    by_cases hv : digV l = 0
    · rw [hv, Lib.decDigits, dif_pos (by omega)] at e
      rw [← e] at hl
      simp at hl
    · rw [← e] at hh
      exact decDigits_head _ (by omega) hh
  · intro hn
    refine digits_back _ l rfl h0 h ?_
    by_cases hh : l.head? = some 48
    · right
      have : ¬ 1 < l.length := fun hl => hn ⟨hh, hl⟩
      omega
    · exact Or.inl hh
theorem atoi_plain {b : UInt8} {r : List UInt8} (h : b ≠ 45) (hb : isDig b = true) : Lib.atoi (b :: r) = (Lib.decNat (b :: r)).map fun (m : Nat) => (m : Int) := by
  have h43 : b ≠ 43 := by
    intro e; subst e; exact absurd hb (by decide)
  rw [Lib.atoi, if_neg (by simpa using h), if_neg (by simpa using h43)]
theorem atoi_minus (r : List UInt8) : Lib.atoi (45 :: r) = (Lib.decNat r).map fun (m : Nat) => -(m : Int) := by
  rw [Lib.atoi, if_pos (by decide)]
/-- what a number with digits alone is -/
theorem atoi_body {l : List UInt8} (h0 : body l ≠ []) (h : (body l).all isDig = true) : Lib.atoi l = some (if (body l).length < l.length then -(digV (body l) : Int) else digV (body l)) := by
  cases l with
  | nil => exact absurd rfl h0
  | cons b r =>
    by_cases hb : b = 45
    · subst hb
      have e : body (45 :: r) = r := by simp [body]
      rw [e] at h0 h ⊢
      rw [atoi_minus, decNat_digs h0 h, if_pos (by simp)]
      rfl
    · have e : body (b :: r) = b :: r := by simp [body, hb]
      rw [e] at h0 h ⊢
      have hd : isDig b = true := by
        rw [List.all_cons, Bool.and_eq_true] at h; exact h.1
      rw [atoi_plain hb hd, decNat_digs h0 h, if_neg (by omega)]
      rfl
/-- a number comes back just if it is written without a 0 ahead, and is not -0 -/
theorem num_back {l : List UInt8} (h0 : body l ≠ []) (h : (body l).all isDig = true) : (Lib.itoa (numI l) = l) ↔ ¬ ((body l).head? = some 48 ∧ (1 < (body l).length ∨ (body l).length < l.length)) := by
  have ha := atoi_body h0 h
  unfold numI
  rw [ha, Option.getD_some]
  cases l with
  | nil => exact absurd rfl h0
  | cons b r =>
    by_cases hb : b = 45
    · subst hb
      have e : body (45 :: r) = r := by simp [body]
      rw [e] at h0 h ⊢
      rw [if_pos (by simp)]
      by_cases hh : r.head? = some 48
      · have : ¬ (Lib.itoa (-(digV r : Int)) = 45 :: r) := by
          intro e
          by_cases hv : digV r = 0
          · rw [hv, itoa_zero] at e
            exact absurd (List.cons.inj e).1 (by decide)
          · rw [Lib.itoa_neg _ (by omega)] at e
            have e2 := List.cons.inj e
            rw [← e2.2] at hh
            exact decDigits_head _ (by omega) hh
        constructor
        · intro e; exact absurd e this
        · intro hn; exact absurd ⟨hh, Or.inr (by simp)⟩ hn
      · have hp := digV_pos h0 h hh
        rw [Lib.itoa_neg _ (by omega), digits_back _ r rfl h0 h (Or.inl hh)]
        constructor
        · intro _ hc; exact hh hc.1
        · intro _; rfl
    · have e : body (b :: r) = b :: r := by simp [body, hb]
      rw [e] at h0 h ⊢
      rw [if_neg (by omega), Lib.itoa_nonneg, digits_iff h0 h]
      constructor
      · intro hn hc
        rcases hc with ⟨h1, h2 | h2⟩
        · exact hn ⟨h1, h2⟩
        · omega
      · intro hn hc
        exact hn ⟨hc.1, Or.inl hc.2⟩
theorem numB_iff {l : List UInt8} {most : Nat} : numB l most = true ↔ body l ≠ [] ∧ (body l).length ≤ most ∧ (body l).all isDig = true ∧ Lib.itoa (numI l) = l := by
  constructor
  · intro h
    unfold numB at h
    rw [Bool.and_eq_true, Bool.and_eq_true, Bool.and_eq_true] at h
    obtain ⟨⟨⟨h1, h2⟩, h3⟩, h4⟩ := h
    have h1 := of_decide_eq_true h1
    refine ⟨h1, of_decide_eq_true h2, h4, (num_back h1 h4).2 ?_⟩
    rintro ⟨ha, hb⟩
    rw [Bool.not_eq_true', Bool.and_eq_false_iff] at h3
    rcases h3 with h3 | h3
    · exact of_decide_eq_false h3 ha
    · rw [Bool.or_eq_false_iff] at h3
      rcases hb with hb | hb
      · exact of_decide_eq_false h3.1 hb
      · exact of_decide_eq_false h3.2 hb
  · rintro ⟨h1, h2, h4, h5⟩
    have h6 := (num_back h1 h4).1 h5
    unfold numB
    rw [Bool.and_eq_true, Bool.and_eq_true, Bool.and_eq_true]
    refine ⟨⟨⟨decide_eq_true h1, decide_eq_true h2⟩, ?_⟩, h4⟩
    rw [Bool.not_eq_true', Bool.and_eq_false_iff]
    by_cases ha : (body l).head? = some 48
    · right
      rw [Bool.or_eq_false_iff]
      exact ⟨decide_eq_false (fun hb => h6 ⟨ha, Or.inl hb⟩), decide_eq_false (fun hb => h6 ⟨ha, Or.inr hb⟩)⟩
    · exact Or.inl (decide_eq_false ha)
theorem body_len (l : List UInt8) : (body l).length ≤ l.length ∧ l.length ≤ (body l).length + 1 := by
  cases l with
  | nil => simp [body]
  | cons b r =>
    by_cases hb : b = 45
    · simp [body, hb]
    · simp [body, hb]
theorem numI_bound {l : List UInt8} (hl : l.length ≤ 18) : -1000000000000000000 < numI l ∧ numI l < 1000000000000000000 := by
  unfold numI
  cases h : Lib.atoi l with
  | none => exact ⟨by decide, by decide⟩
  | some n => exact Lib.atoi_bound h hl

/-! lines -/
/-- the lines that are ended, and what follows the last one: the first line that is not taken, or that is not ended -/
def okN (f : List UInt8 → Bool) (M : List (List UInt8)) : Nat := (M.takeWhile f).length
theorem okN_at {f : List UInt8 → Bool} {M : List (List UInt8)} {k : Nat} (hk : k < M.length) (ha : ∀ i (_ : i < k) (h : i < M.length), f M[i] = true) (hn : f M[k] = false) : okN f M = k := by
  induction M generalizing k with
  | nil => simp at hk
  | cons a t ih =>
    unfold okN
    rw [List.takeWhile_cons]
    cases k with
    | zero =>
      rw [if_neg (by simpa using hn)]; rfl
    | succ k =>
      have h0 : f a = true := ha 0 (by omega) (by simp)
      rw [if_pos h0, List.length_cons]
      have := ih (k := k) (by simpa using hk) (fun i hi h => (ha (i + 1) (by omega) (by simpa using h) : f t[i] = true)) (by simpa using hn)
      unfold okN at this
      rw [this]
theorem okN_all {f : List UInt8 → Bool} {M : List (List UInt8)} (ha : ∀ i (h : i < M.length), f M[i] = true) : okN f M = M.length := by
  unfold okN
  induction M with
  | nil => rfl
  | cons a t ih =>
    have h0 : f a = true := ha 0 (by simp)
    rw [List.takeWhile_cons, if_pos h0, List.length_cons, List.length_cons, ih (fun i h => (ha (i + 1) (by simpa using h) : f t[i] = true))]
/-- the lines of a string that a line feed ends -/
def lnM (l : List UInt8) : List (List UInt8) := (spl 10 l).dropLast
/-- the string ends with a line feed, or is empty -/
def lnE (l : List UInt8) : Bool := decide ((spl 10 l).getLast? = some [])
/-- which line is not taken, and whether all are -/
def eachI (f : List UInt8 → Bool) (l : List UInt8) : Nat := if okN f (lnM l) < (lnM l).length then okN f (lnM l) else if lnE l = true then 0 else (lnM l).length
def eachB (f : List UInt8 → Bool) (l : List UInt8) : Bool := decide (okN f (lnM l) = (lnM l).length) && lnE l
theorem spl_form (l : List UInt8) : ∃ z, spl 10 l = lnM l ++ [z] ∧ (lnE l = true ↔ z = []) := by
  obtain ⟨p, q, e⟩ := spl_some 10 l
  have hne : spl 10 l ≠ [] := by rw [e]; simp
  refine ⟨(spl 10 l).getLast hne, (List.dropLast_concat_getLast hne).symm, ?_⟩
  unfold lnE
  rw [List.getLast?_eq_some_getLast hne]
  simp
/-- where the string ends with a line feed: the lines are the pieces of what is ahead of it -/
theorem ln_ends (l : List UInt8) : lnM (l ++ [10]) = spl 10 l ∧ lnE (l ++ [10]) = true := by
  unfold lnM lnE
  rw [spl_snoc]
  simp
/-- where it does not, the last piece is no line -/
theorem ln_open {l : List UInt8} (h0 : l ≠ []) (h : l.getLast? ≠ some 10) : ∃ z, spl 10 l = lnM l ++ [z] ∧ lnE l = false := by
  obtain ⟨z, hz, hb⟩ := spl_form l
  refine ⟨z, hz, ?_⟩
  cases he : lnE l with
  | false => rfl
  | true =>
    exfalso
    unfold lnE at he
    exact h (spl_last 10 l (of_decide_eq_true he) h0)
end Go.Proofs.YthbcogekfdllmaaGreatDoor.TxtP
