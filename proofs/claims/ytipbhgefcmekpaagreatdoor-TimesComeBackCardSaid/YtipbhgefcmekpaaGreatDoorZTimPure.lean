/-
  Times that are written and read, in plain words: what is read is what would be written so. No Go text is named here.
-/
import Derived.Test.YtipbhgefcmekpaaGreatDoorZTxtPure
namespace Go.Proofs.YtipbhgefcmekpaaGreatDoor.TxtP
open Go

def dec (n : Nat) : List UInt8 := Lib.decDigits n
/-- two digits -/
def dd (n : Nat) : List UInt8 := [UInt8.ofNat (48 + n / 10), UInt8.ofNat (48 + n % 10)]
theorem dec_small {n : Nat} (h : n < 10) : dec n = [UInt8.ofNat (48 + n)] := Lib.decDigits_one h
theorem dec_step {n : Nat} (h : 10 ≤ n) : dec n = dec (n / 10) ++ [UInt8.ofNat (48 + n % 10)] := by
  unfold dec
  rw [Lib.decDigits, dif_neg (by omega)]
theorem dd_eq {n : Nat} (h : n < 100) : dec (n / 10) ++ dec (n % 10) = dd n := by
  rw [dec_small (by omega), dec_small (by omega)]; rfl
theorem dd_eq2 {n : Nat} (h : n < 100) : (if n < 10 then (48 : UInt8) :: dec n else dec n) = dd n := by
  split
  · rename_i h1
    rw [dec_small h1]
    unfold dd
    rw [Nat.div_eq_of_lt h1, Nat.mod_eq_of_lt h1]
    rfl
  · rw [dec_step (by omega), dec_small (by omega)]; rfl
theorem ofNat_dig {n : Nat} (h : n < 10) : isDig (UInt8.ofNat (48 + n)) = true := by
  rw [isDig_iff, UInt8.toNat_ofNat']; omega
theorem ofNat_val {n : Nat} (h : n < 10) : (UInt8.ofNat (48 + n)).toNat - 48 = n := by
  rw [UInt8.toNat_ofNat']; omega
theorem digV_one (b : UInt8) : digV [b] = b.toNat - 48 := by
  unfold digV; simp
theorem digV_dec : ∀ n : Nat, digV (dec n) = n
  | n => by
    by_cases h : n < 10
    · rw [dec_small h, digV_one, ofNat_val h]
    · rw [dec_step (by omega), digV_snoc, digV_dec (n / 10), ofNat_val (by omega)]
      omega
termination_by n => n
decreasing_by omega
theorem dd_dig {n : Nat} (h : n < 100) : (dd n).all isDig = true := by
  unfold dd
  simp only [List.all_cons, List.all_nil, Bool.and_true, Bool.and_eq_true]
  exact ⟨ofNat_dig (by omega), ofNat_dig (by omega)⟩
theorem digV_dd {n : Nat} (h : n < 100) : digV (dd n) = n := by
  have e : dd n = [UInt8.ofNat (48 + n / 10)] ++ [UInt8.ofNat (48 + n % 10)] := rfl
  rw [e, digV_snoc, digV_one, ofNat_val (by omega), ofNat_val (by omega)]
  omega
theorem dig_lt {b : UInt8} (h : isDig b = true) : b.toNat - 48 < 10 := by
  rw [isDig_iff] at h; omega
theorem dd_back {x : List UInt8} (h : x.length = 2) (hd : x.all isDig = true) : dd (digV x) = x := by
  match x, h with
  | [a, b], _ =>
    simp only [List.all_cons, List.all_nil, Bool.and_true, Bool.and_eq_true] at hd
    have e : digV [a, b] = (a.toNat - 48) * 10 + (b.toNat - 48) := by
      have := digV_snoc [a] b
      rw [digV_one] at this
      exact this
    have h1 := dig_lt hd.1
    have h2 := dig_lt hd.2
    unfold dd
    rw [e]
    have e1 : ((a.toNat - 48) * 10 + (b.toNat - 48)) / 10 = a.toNat - 48 := by omega
    have e2 : ((a.toNat - 48) * 10 + (b.toNat - 48)) % 10 = b.toNat - 48 := by omega
    rw [e1, e2, byte_dig hd.1, byte_dig hd.2]
theorem no_colon {x : List UInt8} (h : x.all isDig = true) : (58 : UInt8) ∉ x := by
  intro hc
  rw [List.all_eq_true] at h
  exact absurd (h _ hc) (by decide)
/-- seconds, written -/
def wholeL (S : Nat) : List (List UInt8) := if 3600 ≤ S then [dec (S / 3600), dd (S / 60 % 60), dd (S % 60)] else if 60 ≤ S then [dec (S / 60), dd (S % 60)] else [dec S]
def wholeT (S : Nat) : List UInt8 := joinC 58 (wholeL S)
theorem wholeL_dig (S : Nat) : ∀ x ∈ wholeL S, x.all isDig = true := by
  intro x hx
  unfold wholeL at hx
  split at hx
  · simp at hx
    rcases hx with rfl | rfl | rfl
    · exact decDigits_dig _
    · exact dd_dig (by omega)
    · exact dd_dig (by omega)
  · split at hx
    · simp at hx
      rcases hx with rfl | rfl
      · exact decDigits_dig _
      · exact dd_dig (by omega)
    · simp at hx
      subst hx
      exact decDigits_dig _
theorem wholeL_ne (S : Nat) : ∃ p q, wholeL S = p :: q := by
  unfold wholeL
  split
  · exact ⟨_, _, rfl⟩
  · split <;> exact ⟨_, _, rfl⟩
theorem spl_whole (S : Nat) : spl 58 (wholeT S) = wholeL S := by
  obtain ⟨p, q, e⟩ := wholeL_ne S
  unfold wholeT
  rw [e]
  exact spl_join (fun x hx => no_colon (wholeL_dig S x (by rw [e]; exact hx)))
/-- a time of milliseconds, written with some decimals -/
def writeT (t d : Nat) : List UInt8 := wholeT (t / 1000) ++ (if d = 0 then [] else 46 :: ((dec (1000 + t % 1000)).drop 1).take d)
theorem dec4 {r : Nat} (h : r < 1000) : (dec (1000 + r)).drop 1 = [UInt8.ofNat (48 + r / 100), UInt8.ofNat (48 + r / 10 % 10), UInt8.ofNat (48 + r % 10)] := by
  have e1 : (1000 + r) / 10 = 100 + r / 10 := by omega
  have e2 : (1000 + r) % 10 = r % 10 := by omega
  have e3 : (100 + r / 10) / 10 = 10 + r / 100 := by omega
  have e4 : (100 + r / 10) % 10 = r / 10 % 10 := by omega
  have e5 : (10 + r / 100) / 10 = 1 := by omega
  have e6 : (10 + r / 100) % 10 = r / 100 := by omega
  rw [dec_step (by omega), e1, e2, dec_step (by omega), e3, e4, dec_step (by omega), e5, e6, dec_small (by omega)]
  rfl
theorem three_back {q : List UInt8} (h : q.length = 3) (hd : q.all isDig = true) : digV q < 1000 ∧ (dec (1000 + digV q)).drop 1 = q := by
  match q, h with
  | [a, b, c], _ =>
    simp only [List.all_cons, List.all_nil, Bool.and_true, Bool.and_eq_true] at hd
    have e : digV [a, b, c] = ((a.toNat - 48) * 10 + (b.toNat - 48)) * 10 + (c.toNat - 48) := by
      have h1 := digV_snoc [a, b] c
      have h2 := digV_snoc [a] b
      rw [digV_one] at h2
      have e1 : [a] ++ [b] = [a, b] := rfl
      have e2 : [a, b] ++ [c] = [a, b, c] := rfl
      rw [e1] at h2
      rw [e2, h2] at h1
      exact h1
    have h1 := dig_lt hd.1
    have h2 := dig_lt hd.2.1
    have h3 := dig_lt hd.2.2
    have hlt : digV [a, b, c] < 1000 := by rw [e]; omega
    refine ⟨hlt, ?_⟩
    rw [dec4 hlt, e]
    have e1 : (((a.toNat - 48) * 10 + (b.toNat - 48)) * 10 + (c.toNat - 48)) / 100 = a.toNat - 48 := by omega
    have e2 : (((a.toNat - 48) * 10 + (b.toNat - 48)) * 10 + (c.toNat - 48)) / 10 % 10 = b.toNat - 48 := by omega
    have e3 : (((a.toNat - 48) * 10 + (b.toNat - 48)) * 10 + (c.toNat - 48)) % 10 = c.toNat - 48 := by omega
    rw [e1, e2, e3, byte_dig hd.1, byte_dig hd.2.1, byte_dig hd.2.2]
/-- the milliseconds that a part spells -/
def frq (part : List UInt8) : List UInt8 := (part ++ [48, 48, 48]).take 3
def fracV (part : List UInt8) : Nat := digV (frq part)
theorem frq_len (part : List UInt8) : (frq part).length = 3 := by
  unfold frq
  rw [List.length_take, List.length_append]
  simp
theorem frq_dig {part : List UInt8} (h : part.all isDig = true) : (frq part).all isDig = true := by
  rw [List.all_eq_true] at h ⊢
  intro x hx
  have := List.mem_of_mem_take hx
  rcases List.mem_append.1 this with h1 | h1
  · exact h x h1
  · simp at h1; subst h1; decide
theorem frq_take {part : List UInt8} (h : part.length ≤ 3) : (frq part).take part.length = part := by
  unfold frq
  rw [List.take_take, Nat.min_eq_left h, List.take_append_of_le_length (Nat.le_refl _), List.take_length]
/-- is a fraction right? -/
def fracOk (pt : Bool) (part : List UInt8) : Bool := !pt || (decide (1 ≤ part.length ∧ part.length ≤ 3) && part.all isDig)
/-- the value of pieces -/
def foldV (p : List (List UInt8)) : Nat := p.foldl (fun a x => a * 60 + digV x) 0
/-- the program's conditions on the pieces -/
def headOk (x : List UInt8) (k : Nat) : Bool := numB x 5 && decide (0 ≤ numI x) && (decide (k = 3) || decide (numI x < 60)) && !(decide (1 < k) && decide (numI x = 0))
def tailOk (x : List UInt8) : Bool := decide (x.length = 2) && x.all isDig && decide (digV x < 60)
def progOk (p : List (List UInt8)) : Bool := match p with
  | [] => false
  | x :: r => headOk x (r.length + 1) && r.all tailOk
/-- the reference's -/
def refOk (p : List (List UInt8)) : Bool := p.all (fun x => decide (1 ≤ x.length ∧ x.length ≤ 5) && x.all isDig)
theorem head_plain {x : List UInt8} {most : Nat} (h : numB x most = true) (h0 : 0 ≤ numI x) : x ≠ [] ∧ x.length ≤ most ∧ x.all isDig = true ∧ numI x = digV x ∧ dec (digV x) = x := by
  obtain ⟨h1, h2, h3, h4⟩ := numB_iff.1 h
  have ha := atoi_body h1 h3
  have hi : numI x = if (body x).length < x.length then -(digV (body x) : Int) else digV (body x) := by unfold numI; rw [ha]; rfl
  by_cases hs : (body x).length < x.length
  · rw [if_pos hs] at hi
    have hz : digV (body x) = 0 := by omega
    rw [hi, hz, itoa_zero] at h4
    rw [← h4] at hs
    exact absurd hs (by decide)
  · have hb : body x = x := by
      cases x with
      | nil => exact absurd rfl h1
      | cons b r =>
        by_cases e : b = 45
        · simp [body, e] at hs
        · simp [body, e]
    rw [if_neg hs, hb] at hi
    rw [hb] at h1 h2 h3
    rw [hi, Lib.itoa_nonneg] at h4
    exact ⟨h1, h2, h3, hi, h4⟩
theorem plain_num {x : List UInt8} {most : Nat} (h0 : x ≠ []) (h1 : x.length ≤ most) (h2 : x.all isDig = true) (h3 : dec (digV x) = x) : numB x most = true ∧ numI x = digV x := by
  have hb : body x = x := by
    cases x with
    | nil => rfl
    | cons b r =>
      have e : b ≠ 45 := by
        intro e
        rw [List.all_cons, Bool.and_eq_true] at h2
        rw [e] at h2
        exact absurd h2.1 (by decide)
      simp [body, e]
  have ha := atoi_body (l := x) (by rw [hb]; exact h0) (by rw [hb]; exact h2)
  have hi : numI x = digV x := by
    unfold numI
    rw [ha, hb, if_neg (Nat.lt_irrefl _)]; rfl
  refine ⟨numB_iff.2 ⟨by rw [hb]; exact h0, by rw [hb]; exact h1, by rw [hb]; exact h2, ?_⟩, hi⟩
  rw [hi, Lib.itoa_nonneg]
  exact h3
theorem tail_iff {x : List UInt8} : tailOk x = true ↔ x.length = 2 ∧ x.all isDig = true ∧ digV x < 60 := by
  unfold tailOk
  rw [Bool.and_eq_true, Bool.and_eq_true, decide_eq_true_iff, decide_eq_true_iff, and_assoc]
theorem head_iff {x : List UInt8} {k : Nat} : headOk x k = true ↔ numB x 5 = true ∧ 0 ≤ numI x ∧ (k = 3 ∨ numI x < 60) ∧ ¬ (1 < k ∧ numI x = 0) := by
  unfold headOk
  simp only [Bool.and_eq_true, Bool.or_eq_true, decide_eq_true_iff, Bool.not_eq_true', Bool.and_eq_false_iff, decide_eq_false_iff_not]
  constructor
  · rintro ⟨⟨⟨h1, h2⟩, h3⟩, h4⟩
    exact ⟨h1, h2, h3, fun h => h4.elim (fun g => g h.1) (fun g => g h.2)⟩
  · rintro ⟨h1, h2, h3, h4⟩
    refine ⟨⟨⟨h1, h2⟩, h3⟩, ?_⟩
    by_cases hk : 1 < k
    · exact Or.inr (fun g => h4 ⟨hk, g⟩)
    · exact Or.inl hk
theorem dec_ne (n : Nat) : dec n ≠ [] := decDigits_ne n
/-- what the program takes is what would be written so -/
theorem prog_iff {p : List (List UInt8)} (h0 : p ≠ []) (h3 : p.length ≤ 3) : progOk p = true ↔ refOk p = true ∧ wholeL (foldV p) = p := by
  match p, h0, h3 with
  | [x], _, _ =>
    have hf : foldV [x] = digV x := by unfold foldV; simp
    rw [hf]
    show (headOk x 1 && true) = true ↔ _
    rw [Bool.and_true, head_iff]
    unfold refOk
    simp only [List.all_cons, List.all_nil, Bool.and_true, Bool.and_eq_true, decide_eq_true_iff]
    constructor
    · rintro ⟨h1, h2, h3, _⟩
      obtain ⟨a1, a2, a3, a4, a5⟩ := head_plain h1 h2
      have hlt : digV x < 60 := by omega
      refine ⟨⟨⟨List.length_pos_iff.2 a1, a2⟩, a3⟩, ?_⟩
      unfold wholeL
      rw [if_neg (by omega), if_neg (by omega), a5]
    · rintro ⟨⟨⟨g1, g2⟩, g3⟩, g4⟩
      unfold wholeL at g4
      split at g4
      · simp at g4
      · split at g4
        · simp at g4
        · have e := List.cons.inj g4
          obtain ⟨b1, b2⟩ := plain_num (most := 5) (List.length_pos_iff.1 g1) g2 g3 e.1
          exact ⟨b1, by omega, Or.inr (by omega), fun h => by omega⟩
  | [x, y], _, _ =>
    have hf : foldV [x, y] = digV x * 60 + digV y := by unfold foldV; simp
    rw [hf]
    show (headOk x 2 && (tailOk y && true)) = true ↔ _
    rw [Bool.and_true, Bool.and_eq_true, head_iff, tail_iff]
    unfold refOk
    simp only [List.all_cons, List.all_nil, Bool.and_true, Bool.and_eq_true, decide_eq_true_iff]
    constructor
    · rintro ⟨⟨h1, h2, h3, h4⟩, h5, h6, h7⟩
      obtain ⟨a1, a2, a3, a4, a5⟩ := head_plain h1 h2
      have hlt : digV x < 60 := by omega
      have hge : 1 ≤ digV x := by
        by_cases hz : digV x = 0
        · exact absurd ⟨by omega, by omega⟩ h4
        · omega
      refine ⟨⟨⟨⟨List.length_pos_iff.2 a1, a2⟩, a3⟩, ⟨by omega, by omega⟩, h6⟩, ?_⟩
      unfold wholeL
      have e1 : (digV x * 60 + digV y) / 60 = digV x := by omega
      have e2 : (digV x * 60 + digV y) % 60 = digV y := by omega
      rw [if_neg (by omega), if_pos (by omega), e1, e2, a5, dd_back h5 h6]
    · rintro ⟨⟨⟨⟨g1, g2⟩, g3⟩, ⟨g5, g6⟩, g7⟩, g4⟩
      unfold wholeL at g4
      split at g4
      · simp at g4
      · split at g4
        · have e := List.cons.inj g4
          have e2 := List.cons.inj e.2
          have v1 : digV x = (digV x * 60 + digV y) / 60 := by
            have := congrArg digV e.1
            rw [digV_dec] at this
            exact this.symm
          have v2 : digV y = (digV x * 60 + digV y) % 60 := by
            have := congrArg digV e2.1
            rw [digV_dd (by omega)] at this
            exact this.symm
          have hd : dec (digV x) = x := by rw [v1]; exact e.1
          obtain ⟨b1, b2⟩ := plain_num (most := 5) (List.length_pos_iff.1 g1) g2 g3 hd
          refine ⟨⟨b1, by omega, Or.inr (by omega), fun h => by omega⟩, ?_, g7, by omega⟩
          rw [← e2.1]; rfl
        · simp at g4
  | [x, y, z], _, _ =>
    have hf : foldV [x, y, z] = (digV x * 60 + digV y) * 60 + digV z := by unfold foldV; simp
    rw [hf]
    show (headOk x 3 && (tailOk y && (tailOk z && true))) = true ↔ _
    rw [Bool.and_true, Bool.and_eq_true, Bool.and_eq_true, head_iff, tail_iff, tail_iff]
    unfold refOk
    simp only [List.all_cons, List.all_nil, Bool.and_true, Bool.and_eq_true, decide_eq_true_iff]
    constructor
    · rintro ⟨⟨h1, h2, h3, h4⟩, ⟨h5, h6, h7⟩, h8, h9, h10⟩
      obtain ⟨a1, a2, a3, a4, a5⟩ := head_plain h1 h2
      have hge : 1 ≤ digV x := by
        by_cases hz : digV x = 0
        · exact absurd ⟨by omega, by omega⟩ h4
        · omega
      refine ⟨⟨⟨⟨List.length_pos_iff.2 a1, a2⟩, a3⟩, ⟨⟨by omega, by omega⟩, h6⟩, ⟨by omega, by omega⟩, h9⟩, ?_⟩
      unfold wholeL
      have e1 : ((digV x * 60 + digV y) * 60 + digV z) / 3600 = digV x := by omega
      have e2 : ((digV x * 60 + digV y) * 60 + digV z) / 60 % 60 = digV y := by omega
      have e3 : ((digV x * 60 + digV y) * 60 + digV z) % 60 = digV z := by omega
      rw [if_pos (by omega), e1, e2, e3, a5, dd_back h5 h6, dd_back h8 h9]
    · rintro ⟨⟨⟨⟨g1, g2⟩, g3⟩, ⟨⟨g5, g6⟩, g7⟩, ⟨g8, g9⟩, g10⟩, g4⟩
      unfold wholeL at g4
      split at g4
      · have e := List.cons.inj g4
        have e2 := List.cons.inj e.2
        have e3 := List.cons.inj e2.2
        have v1 : digV x = ((digV x * 60 + digV y) * 60 + digV z) / 3600 := by
          have := congrArg digV e.1
          rw [digV_dec] at this
          exact this.symm
        have v2 : digV y = ((digV x * 60 + digV y) * 60 + digV z) / 60 % 60 := by
          have := congrArg digV e2.1
          rw [digV_dd (by omega)] at this
          exact this.symm
        have v3 : digV z = ((digV x * 60 + digV y) * 60 + digV z) % 60 := by
          have := congrArg digV e3.1
          rw [digV_dd (by omega)] at this
          exact this.symm
        have hd : dec (digV x) = x := by rw [v1]; exact e.1
        obtain ⟨b1, b2⟩ := plain_num (most := 5) (List.length_pos_iff.1 g1) g2 g3 hd
        refine ⟨⟨b1, by omega, Or.inl (by trivial), fun h => by omega⟩, ⟨?_, g7, by omega⟩, ?_, g10, by omega⟩
        · rw [← e2.1]; rfl
        · rw [← e3.1]; rfl
      · split at g4 <;> simp at g4

/-! a whole time that is read -/
def cutL (l : List UInt8) : List UInt8 × List UInt8 × Bool := Lib.cut l [46]
theorem cutL_back (l : List UInt8) : l = (cutL l).1 ++ (if (cutL l).2.2 = true then 46 :: (cutL l).2.1 else []) ∧ ((cutL l).2.2 = false → (cutL l).2.1 = []) := by
  unfold cutL
  rcases parts 46 l with h | ⟨p, r, e, h⟩
  · rw [cut_no h]
    exact ⟨by simp, fun _ => rfl⟩
  · rw [cut_at e h]
    exact ⟨by simpa using e, fun h => by cases h⟩
/-- what a string reads as: the time, its decimals, the error -/
def parseOk (l : List UInt8) : Bool := fracOk (cutL l).2.2 (cutL l).2.1 && decide ((spl 58 (cutL l).1).length ≤ 3) && progOk (spl 58 (cutL l).1)
def parseN (l : List UInt8) : Nat := foldV (spl 58 (cutL l).1) * 1000 + fracV (cutL l).2.1
def parseE (l : List UInt8) : Int := if parseOk l = false then 9 else if 864000000 < parseN l then 1 else 0
def parseT (l : List UInt8) : Int := if parseE l = 0 then parseN l else 0
def parseD (l : List UInt8) : Int := if parseE l = 0 then (cutL l).2.1.length else 0
theorem parse_ref {l : List UInt8} (hf : fracOk (cutL l).2.2 (cutL l).2.1 = true) (h3 : (spl 58 (cutL l).1).length ≤ 3) :
    (refOk (spl 58 (cutL l).1) = true ∧ writeT (parseN l) (cutL l).2.1.length = l) ↔ progOk (spl 58 (cutL l).1) = true := by
  obtain ⟨p, q, hp⟩ := spl_some 58 (cutL l).1
  have hne : spl 58 (cutL l).1 ≠ [] := by rw [hp]; simp
  rw [prog_iff hne h3]
  obtain ⟨hl, hno⟩ := cutL_back l
  have hwh : joinC 58 (spl 58 (cutL l).1) = (cutL l).1 := joinC_spl 58 _
  have key : (writeT (parseN l) (cutL l).2.1.length = l) ↔ wholeT (foldV (spl 58 (cutL l).1)) = (cutL l).1 := by
    unfold parseN
    cases hpt : (cutL l).2.2 with
    | false =>
      rw [hpt] at hl
      have hz := hno hpt
      rw [if_neg (by decide), List.append_nil] at hl
      have hfr : fracV [] = 0 := by decide
      have hlen : ([] : List UInt8).length = 0 := rfl
      rw [hz, hfr, hlen]
      unfold writeT
      rw [if_pos rfl, List.append_nil]
      have e : (foldV (spl 58 (cutL l).1) * 1000 + 0) / 1000 = foldV (spl 58 (cutL l).1) := by omega
      rw [e]
      constructor
      · intro h; rw [h]; exact hl
      · intro h; rw [h]; exact hl.symm
    | true =>
      rw [hpt] at hl hf
      rw [if_pos rfl] at hl
      unfold fracOk at hf
      rw [Bool.not_true, Bool.false_or, Bool.and_eq_true, decide_eq_true_iff] at hf
      obtain ⟨⟨g1, g2⟩, g3⟩ := hf
      obtain ⟨hlt, hbk⟩ := three_back (frq_len (cutL l).2.1) (frq_dig g3)
      have hlt' : fracV (cutL l).2.1 < 1000 := hlt
      unfold writeT
      have e1 : (foldV (spl 58 (cutL l).1) * 1000 + fracV (cutL l).2.1) / 1000 = foldV (spl 58 (cutL l).1) := by omega
      have e2 : (foldV (spl 58 (cutL l).1) * 1000 + fracV (cutL l).2.1) % 1000 = fracV (cutL l).2.1 := by omega
      rw [e1, e2, if_neg (by omega)]
      have hbk' : (dec (1000 + fracV (cutL l).2.1)).drop 1 = frq (cutL l).2.1 := hbk
      rw [hbk', frq_take g2]
      constructor
      · intro h
        refine List.append_cancel_right (bs := 46 :: (cutL l).2.1) ?_
        rw [h]; exact hl
      · intro h
        rw [h]; exact hl.symm
  constructor
  · rintro ⟨h1, h2⟩
    refine ⟨h1, ?_⟩
    have h4 := key.1 h2
    have := spl_whole (foldV (spl 58 (cutL l).1))
    rw [h4] at this
    exact this.symm
  · rintro ⟨h1, h2⟩
    refine ⟨h1, key.2 ?_⟩
    unfold wholeT
    rw [h2]
    exact hwh
end Go.Proofs.YtipbhgefcmekpaaGreatDoor.TxtP
