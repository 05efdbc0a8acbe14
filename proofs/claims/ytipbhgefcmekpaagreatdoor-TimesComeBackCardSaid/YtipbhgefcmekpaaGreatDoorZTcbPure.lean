/-
  What is written is read as the time without what was cut, in plain words. No Go text is named here.
-/
import Derived.Test.YtipbhgefcmekpaaGreatDoorZTimPure
namespace Go.Proofs.YtipbhgefcmekpaaGreatDoor.TxtP
open Go

theorem dec_len : ∀ (k n : Nat), n < 10 ^ (k + 1) → (dec n).length ≤ k + 1
  | 0, n, h => by rw [dec_small (by omega)]; exact Nat.le_refl _
  | k + 1, n, h => by
    by_cases h10 : n < 10
    · rw [dec_small h10]; simp
    · rw [dec_step (by omega), List.length_append, List.length_singleton]
      have := dec_len k (n / 10) (by rw [Nat.pow_succ] at h; omega)
      omega
theorem dig_ne {c : UInt8} (hc : isDig c = false) {x : List UInt8} (h : x.all isDig = true) : c ∉ x := by
  intro hm
  rw [List.all_eq_true] at h
  rw [h _ hm] at hc
  cases hc
theorem join_free {c d : UInt8} (hcd : c ≠ d) : ∀ q : List (List UInt8), (∀ x ∈ q, c ∉ x) → c ∉ joinC d q
  | [], _ => by simp [joinC]
  | [p], h => by
    show c ∉ p
    exact h p (by simp)
  | p :: x :: r, h => by
    rw [joinC, List.mem_append, List.mem_cons]
    rintro (h1 | h1 | h1)
    · exact h p (by simp) h1
    · exact hcd h1
    · exact join_free hcd (x :: r) (fun y hy => h y (List.mem_cons_of_mem _ hy)) h1
theorem whole_nodot (S : Nat) : (46 : UInt8) ∉ wholeT S := join_free (by decide) _ (fun x hx => dig_ne (by decide) (wholeL_dig S x hx))
theorem fold_whole (S : Nat) : foldV (wholeL S) = S := by
  unfold wholeL
  split
  · unfold foldV
    simp only [List.foldl_cons, List.foldl_nil]
    rw [digV_dec, digV_dd (by omega), digV_dd (by omega)]
    omega
  · split
    · unfold foldV
      simp only [List.foldl_cons, List.foldl_nil]
      rw [digV_dec, digV_dd (by omega)]
      omega
    · unfold foldV
      simp only [List.foldl_cons, List.foldl_nil]
      rw [digV_dec]
      omega
theorem whole_ref {S : Nat} (h : S ≤ 1000000) : refOk (wholeL S) = true := by
  have h2 : ∀ n : Nat, n < 100000 → (decide (1 ≤ (dec n).length ∧ (dec n).length ≤ 5) && (dec n).all isDig) = true := by
    intro n hn
    have h3 := dec_len 4 n hn
    have h4 := List.length_pos_iff.2 (dec_ne n)
    rw [decide_eq_true ⟨by omega, by omega⟩, Bool.true_and]
    exact decDigits_dig n
  have h3 : ∀ n : Nat, n < 100 → (decide (1 ≤ (dd n).length ∧ (dd n).length ≤ 5) && (dd n).all isDig) = true := by
    intro n hn
    have e : (dd n).length = 2 := rfl
    rw [e, dd_dig hn]; rfl
  unfold refOk wholeL
  split
  · simp only [List.all_cons, List.all_nil, Bool.and_true]
    rw [h2 _ (by omega), h3 _ (by omega), h3 _ (by omega)]; rfl
  · split
    · simp only [List.all_cons, List.all_nil, Bool.and_true]
      rw [h2 _ (by omega), h3 _ (by omega)]; rfl
    · simp only [List.all_cons, List.all_nil, Bool.and_true]
      rw [h2 _ (by omega)]
theorem wholeL_len (S : Nat) : (wholeL S).length ≤ 3 := by
  unfold wholeL
  split
  · simp
  · split <;> simp
def unitD (d : Nat) : Nat := if d = 0 then 1000 else if d = 1 then 100 else if d = 2 then 10 else 1
def fr3 (r : Nat) : List UInt8 := [UInt8.ofNat (48 + r / 100), UInt8.ofNat (48 + r / 10 % 10), UInt8.ofNat (48 + r % 10)]
theorem cut_write (t d : Nat) : cutL (writeT t d) = (wholeT (t / 1000), if d = 0 then [] else (fr3 (t % 1000)).take d, decide (d ≠ 0)) := by
  unfold cutL writeT
  by_cases h0 : d = 0
  · rw [if_pos h0, if_pos h0, List.append_nil, cut_no (whole_nodot _), decide_eq_false (by simpa using h0)]
  · rw [if_neg h0, if_neg h0, cut_at rfl (whole_nodot _), dec4 (by omega), decide_eq_true h0]
    rfl
theorem digV_three (a b c : Nat) (ha : a < 10) (hb : b < 10) (hc : c < 10) : digV [UInt8.ofNat (48 + a), UInt8.ofNat (48 + b), UInt8.ofNat (48 + c)] = a * 100 + b * 10 + c := by
  have h1 := digV_snoc [UInt8.ofNat (48 + a), UInt8.ofNat (48 + b)] (UInt8.ofNat (48 + c))
  have h2 := digV_snoc [UInt8.ofNat (48 + a)] (UInt8.ofNat (48 + b))
  rw [digV_one, ofNat_val ha, ofNat_val hb] at h2
  have e1 : [UInt8.ofNat (48 + a)] ++ [UInt8.ofNat (48 + b)] = [UInt8.ofNat (48 + a), UInt8.ofNat (48 + b)] := rfl
  have e2 : [UInt8.ofNat (48 + a), UInt8.ofNat (48 + b)] ++ [UInt8.ofNat (48 + c)] = [UInt8.ofNat (48 + a), UInt8.ofNat (48 + b), UInt8.ofNat (48 + c)] := rfl
  rw [e1] at h2
  rw [e2, h2, ofNat_val hc] at h1
  rw [h1]; omega
theorem frac_take {r d : Nat} (hr : r < 1000) (hd : d ≤ 3) : fracV (if d = 0 then [] else (fr3 r).take d) = r - r % unitD d := by
  unfold fracV frq fr3 unitD
  have z : (48 : UInt8) = UInt8.ofNat (48 + 0) := rfl
  match d, hd with
  | 0, _ =>
    have e : digV ((([] : List UInt8) ++ [48, 48, 48]).take 3) = 0 := by decide
    rw [if_pos rfl, if_pos rfl, e]; omega
  | 1, _ =>
    rw [if_neg (by decide), if_neg (by decide), if_pos rfl]
    have e : (([UInt8.ofNat (48 + r / 100), UInt8.ofNat (48 + r / 10 % 10), UInt8.ofNat (48 + r % 10)].take 1 ++ [48, 48, 48]).take 3) = [UInt8.ofNat (48 + r / 100), UInt8.ofNat (48 + 0), UInt8.ofNat (48 + 0)] := rfl
    rw [e, digV_three _ _ _ (by omega) (by omega) (by omega)]; omega
  | 2, _ =>
    rw [if_neg (by decide), if_neg (by decide), if_neg (by decide), if_pos rfl]
    have e : (([UInt8.ofNat (48 + r / 100), UInt8.ofNat (48 + r / 10 % 10), UInt8.ofNat (48 + r % 10)].take 2 ++ [48, 48, 48]).take 3) = [UInt8.ofNat (48 + r / 100), UInt8.ofNat (48 + r / 10 % 10), UInt8.ofNat (48 + 0)] := rfl
    rw [e, digV_three _ _ _ (by omega) (by omega) (by omega)]; omega
  | 3, _ =>
    rw [if_neg (by decide), if_neg (by decide), if_neg (by decide), if_neg (by decide)]
    have e : (([UInt8.ofNat (48 + r / 100), UInt8.ofNat (48 + r / 10 % 10), UInt8.ofNat (48 + r % 10)].take 3 ++ [48, 48, 48]).take 3) = [UInt8.ofNat (48 + r / 100), UInt8.ofNat (48 + r / 10 % 10), UInt8.ofNat (48 + r % 10)] := rfl
    rw [e, digV_three _ _ _ (by omega) (by omega) (by omega)]; omega
theorem fr3_dig (r : Nat) (hr : r < 1000) : (fr3 r).all isDig = true := by
  unfold fr3
  simp only [List.all_cons, List.all_nil, Bool.and_true, Bool.and_eq_true]
  exact ⟨ofNat_dig (by omega), ofNat_dig (by omega), ofNat_dig (by omega)⟩
/-- what is written is read as the time without what was cut -/
theorem parse_write {t d : Nat} (ht : t ≤ 864000000) (hd : d ≤ 3) : parseE (writeT t d) = 0 ∧ parseT (writeT t d) = ((t - t % unitD d : Nat) : Int) ∧ parseD (writeT t d) = d := by
  have hcut := cut_write t d
  have hlen : (if d = 0 then ([] : List UInt8) else (fr3 (t % 1000)).take d).length = d := by
    by_cases h0 : d = 0
    · rw [if_pos h0, h0]; rfl
    · rw [if_neg h0, List.length_take]
      show min d 3 = d
      omega
  have hok : parseOk (writeT t d) = true := by
    unfold parseOk
    rw [hcut]
    simp only
    rw [spl_whole, Bool.and_eq_true, Bool.and_eq_true, decide_eq_true_iff]
    refine ⟨⟨?_, wholeL_len _⟩, ?_⟩
    · unfold fracOk
      by_cases h0 : d = 0
      · rw [decide_eq_false (by simpa using h0)]; rfl
      · rw [decide_eq_true h0, Bool.not_true, Bool.false_or, hlen, decide_eq_true ⟨by omega, hd⟩, Bool.true_and, if_neg h0, List.all_eq_true]
        intro x hx
        have := fr3_dig (t % 1000) (by omega)
        rw [List.all_eq_true] at this
        exact this x (List.mem_of_mem_take hx)
    · obtain ⟨p, q, e⟩ := wholeL_ne (t / 1000)
      refine (prog_iff (by rw [e]; simp) (wholeL_len _)).2 ⟨whole_ref (by omega), ?_⟩
      rw [fold_whole]
  have hn : parseN (writeT t d) = t - t % unitD d := by
    unfold parseN
    rw [hcut]
    simp only
    rw [spl_whole, fold_whole, frac_take (by omega) hd]
    unfold unitD
    split
    · omega
    · split
      · omega
      · split
        · omega
        · omega
  have hE : parseE (writeT t d) = 0 := by
    unfold parseE
    rw [if_neg (by rw [hok]; decide), if_neg (by rw [hn]; omega)]
  refine ⟨hE, ?_, ?_⟩
  · unfold parseT
    rw [if_pos hE, hn]
  · unfold parseD
    rw [if_pos hE, hcut]
    simp only
    rw [hlen]
end Go.Proofs.YtipbhgefcmekpaaGreatDoor.TxtP
