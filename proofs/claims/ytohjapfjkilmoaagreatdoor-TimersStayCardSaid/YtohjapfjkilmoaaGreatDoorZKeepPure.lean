/-
  Laws of clocks in plain words: a split that is undone at once, a reset, and the refused presses left out. No Go text is named here.
-/
import Derived.Test.YtohjapfjkilmoaaGreatDoorZPrs14
import Derived.Test.YtohjapfjkilmoaaGreatDoorZPrs13
namespace Go.Proofs.YtohjapfjkilmoaaGreatDoor
open Go Go.RowKit

/-! ### right presses have no fault -/
theorem prE_of {pv : Option Int} {p : Pz} (h1 : 0 ≤ p.1 ∧ p.1 ≤ 345686399999) (h2 : 1 ≤ p.2 ∧ p.2 ≤ 9) (h3 : pBeh pv p.1 = false) : prE pv p = 0 := by
  unfold prE
  rw [if_pos (by unfold momB outB; simp; omega), if_neg (by unfold outB; simp; omega), if_neg (by rw [h3]; decide)]
theorem prG_of : ∀ (l : List Pz) (pv : Option Int), (∀ p ∈ l, (0 ≤ p.1 ∧ p.1 ≤ 345686399999) ∧ (1 ≤ p.2 ∧ p.2 ≤ 9)) → (∀ i (h : i + 1 < l.length), l[i].1 ≤ l[i + 1].1) → (∀ (h : 0 < l.length), pBeh pv l[0].1 = false) → prG pv l = 0
  | [], _, _, _, _ => rfl
  | p :: l, pv, h1, h2, h3 => by
    obtain ⟨a1, a2⟩ := h1 p (List.mem_cons_self ..)
    rw [prG, if_pos (prE_of a1 a2 (h3 (by simp)))]
    refine prG_of l (some p.1) (fun q hq => h1 q (List.mem_cons_of_mem _ hq)) (fun i hi => ?_) (fun h => ?_)
    · have := h2 (i + 1) (by simp; omega)
      simpa using this
    · have := h2 0 (by simp; omega)
      unfold pBeh
      simp at this
      simpa using this
theorem PzOk.seg {l : List Pz} (h : PzOk l) (hm : l.length ≤ 2000) {n : Nat} (hn : 1 ≤ n ∧ n ≤ 100) : segF (n : Int) l = 0 := by
  unfold segF
  rw [if_neg (by unfold outB; simp; omega)]
  unfold prF
  rw [if_neg (by omega)]
  exact prG_of l none (fun p hp => ⟨h.at_ p hp, h.kind p hp⟩) h.order (fun _ => rfl)
theorem PzOk.atE {l : List Pz} (h : PzOk l) (hm : l.length ≤ 2000) {n : Nat} (hn : 1 ≤ n ∧ n ≤ 100) {u : Int} (hu : 0 ≤ u ∧ u ≤ 345686399999) : atE (n : Int) l u = 0 := by
  unfold Go.Proofs.YtohjapfjkilmoaaGreatDoor.atE
  rw [if_pos (h.seg hm hn), if_pos (by unfold momB outB; simp; omega)]
theorem PzOk.snoc {l : List Pz} (h : PzOk l) {p : Pz} (h1 : 0 ≤ p.1 ∧ p.1 ≤ 345686399999) (h2 : 1 ≤ p.2 ∧ p.2 ≤ 9) (h3 : ∀ q ∈ l, q.1 ≤ p.1) : PzOk (l ++ [p]) := by
  refine ⟨fun q hq => ?_, fun q hq => ?_, fun i hi => ?_⟩
  · rcases List.mem_append.1 hq with hq | hq
    · exact h.at_ q hq
    · simp at hq; subst hq; exact h1
  · rcases List.mem_append.1 hq with hq | hq
    · exact h.kind q hq
    · simp at hq; subst hq; exact h2
  · simp at hi
    by_cases he : i + 1 = l.length
    · rw [List.getElem_append_left (by omega), List.getElem_append_right (by omega)]
      have := h3 _ (List.getElem_mem (show i < l.length by omega))
      simp only [he, Nat.sub_self, List.getElem_cons_zero]
      omega
    · rw [List.getElem_append_left (by omega), List.getElem_append_left (by omega)]
      exact h.order i (by omega)
/-- each one is not before any other one that stands ahead of it -/
theorem PzOk.le {l : List Pz} (h : PzOk l) : ∀ j i (hi : i < l.length) (hj : j < l.length), i ≤ j → l[i].1 ≤ l[j].1
  | 0, i, hi, hj, hij => by
    obtain rfl : i = 0 := by omega
    exact Int.le_refl _
  | j + 1, i, hi, hj, hij => by
    rcases Nat.lt_or_ge i (j + 1) with hlt | hge
    · have := h.le j i hi (by omega) (by omega)
      have := h.order j hj
      omega
    · obtain rfl : i = j + 1 := by omega
      exact Int.le_refl _
theorem PzOk.last {l : List Pz} (h : PzOk l) (hl : 0 < l.length) : ∀ p ∈ l, p.1 ≤ (l[l.length - 1]'(by omega)).1 := by
  intro p hp
  obtain ⟨i, hi, rfl⟩ := List.getElem_of_mem hp
  exact h.le _ _ _ _ (by omega)

/-! ### clocks of lists -/
theorem fol_app (n : Nat) (u : Int) (l r : List Pz) : ∀ k, k ≤ l.length → folP n u (l ++ r) k = folP n u l k
  | 0, _ => rfl
  | k + 1, hk => by
    rw [folP_step n u (l ++ r) k (by simp; omega), folP_step n u l k (by omega), fol_app n u l r k (by omega), List.getElem_append_left (by omega)]
theorem fol_snoc (n : Nat) (u : Int) (l : List Pz) (p : Pz) : folP n u (l ++ [p]) (l ++ [p]).length =
    if p.1 ≤ u then (pressP n (folP n u l l.length).1 p, if refP n (advP (folP n u l l.length).1 p.1) p.2 = true then (folP n u l l.length).2 ++ [(l.length : Int)] else (folP n u l l.length).2) else folP n u l l.length := by
  have hx : (l ++ [p])[l.length]'(by simp) = p := by simp
  rw [show (l ++ [p]).length = l.length + 1 by simp, folP_step n u (l ++ [p]) l.length (by simp), hx, fol_app n u l [p] _ (Nat.le_refl _)]
theorem fol_all (n : Nat) (u u' : Int) (l : List Pz) : ∀ k, k ≤ l.length → (∀ i (h : i < l.length), i < k → (l[i].1 ≤ u ↔ l[i].1 ≤ u')) → folP n u l k = folP n u' l k
  | 0, _, _ => rfl
  | k + 1, hk, hu => by
    have ih := fol_all n u u' l k (by omega) (fun i h hi => hu i h (by omega))
    have hx := hu k (by omega) (by omega)
    rw [folP_step n u l k (by omega), folP_step n u' l k (by omega), ih]
    by_cases h : l[k].1 ≤ u
    · rw [if_pos h, if_pos (hx.1 h)]
    · rw [if_neg h, if_neg (fun e => h (hx.2 e))]
theorem adv_adv (c : Clk) (t t' : Int) : advP (advP c t) t' = advP c t' := by
  unfold advP
  by_cases h : c.phase = 1 ∨ c.phase = 3
  · cases c.loads
    · simp [h]; omega
    · simp [h]; omega
  · simp [h]

/-! ### a split that is undone at once -/
theorem undone_step (n : Nat) (s : Clk) (t : Int) (h : s.phase = 1) : ∃ e, advP (pressP n (pressP n s (t, 2)) (t + 5, 4)) (t + 10) = { advP s (t + 10) with end_ := e } := by
  have e1 : refP n (advP s t) 2 = false := by simp [refP, advP, h]
  have e2 : pressP n s (t, 2) = cutP n (advP s t) ((advP s t).real, (advP s t).game, false) := by
    unfold pressP
    rw [e1, if_neg (by decide)]
    rfl
  rw [e2]
  unfold cutP
  obtain ⟨c, hc⟩ : ∃ c : Cut, ((advP s t).real, (advP s t).game, false) = c := ⟨_, rfl⟩
  rw [hc]
  obtain ⟨ph, ld, at_, re, ga, cu, en, be, dn⟩ := s
  simp only at h
  subst h
  by_cases hn : cu.length + 1 = n
  · refine ⟨c, ?_⟩
    rw [if_pos (show (advP ⟨1, ld, at_, re, ga, cu, en, be, dn⟩ t).cuts.length + 1 = n from hn)]
    cases ld <;> simp [pressP, refP, doneP, advP] <;> omega
  · refine ⟨en, ?_⟩
    rw [if_neg (show ¬ (advP ⟨1, ld, at_, re, ga, cu, en, be, dn⟩ t).cuts.length + 1 = n from hn)]
    cases ld <;> simp [pressP, refP, doneP, advP] <;> omega
theorem ck_end {c d : Clk} {e : Cut} (h : c = { d with end_ := e }) (hp : d.phase = 1) : ckE c = ckE d ∧ ckV c = ckV d := by
  have ht : timesP c = timesP d := by subst h; simp [timesP, hp]
  have h1 : ckE c = ckE d := by unfold ckE; rw [ht]
  refine ⟨h1, ?_⟩
  unfold ckV
  rw [h1, ht]
  subst h
  rfl
theorem undone_at {n : Nat} {x : List Pz} {t : Int} (hx : ∀ p ∈ x, p.1 ≤ t) (hp : (atK n x t).phase = 1) :
    ckE (atK n (x ++ [(t, 2), (t + 5, 4)]) (t + 10)) = ckE (atK n x (t + 10)) ∧ ckV (atK n (x ++ [(t, 2), (t + 5, 4)]) (t + 10)) = ckV (atK n x (t + 10)) := by
  have hfa : folP n t x x.length = folP n (t + 10) x x.length := fol_all n t (t + 10) x _ (Nat.le_refl _) (fun i h _ => by have := hx _ (List.getElem_mem h); omega)
  have hp' : (folP n (t + 10) x x.length).1.phase = 1 := by rw [← hfa]; exact hp
  obtain ⟨e, he⟩ := undone_step n (folP n (t + 10) x x.length).1 t hp'
  have hk : atK n (x ++ [(t, 2), (t + 5, 4)]) (t + 10) = advP (pressP n (pressP n (folP n (t + 10) x x.length).1 (t, 2)) (t + 5, 4)) (t + 10) := by
    unfold atK
    rw [show x ++ [(t, 2), (t + 5, 4)] = (x ++ [(t, 2)]) ++ [(t + 5, 4)] by simp, fol_snoc, if_pos (by simp only; omega), fol_snoc, if_pos (by simp only; omega)]
  exact ck_end (e := e) (hk.trans he) hp'
theorem reset_at {n : Nat} {x : List Pz} {t : Int} (hp : (atK n x t).phase = 1) :
    ckE (atK n (x ++ [(t, 9)]) t) = 0 ∧ ckV (atK n (x ++ [(t, 9)]) t) = .agg #[.int .i64 0, .int .i64 0, .int .i64 0, .int .i64 0, .bool false] := by
  have hk : atK n (x ++ [(t, 9)]) t = advP (pressP n (folP n t x x.length).1 (t, 9)) t := by
    unfold atK
    rw [fol_snoc, if_pos (by simp only; omega)]
  rw [hk]
  have hp' : (folP n t x x.length).1.phase = 1 := hp
  obtain ⟨s, hs⟩ : ∃ s, (folP n t x x.length).1 = s := ⟨_, rfl⟩
  rw [hs] at hp' ⊢
  have e1 : refP n (advP s t) 9 = false := by simp [refP, advP, hp']
  have e2 : pressP n s (t, 9) = resetP (advP s t) := by
    unfold pressP
    rw [e1, if_neg (by decide)]
    rfl
  rw [e2]
  constructor
  · simp [ckE, timesP, advP, resetP]
  · simp [ckV, ckE, timesP, advP, resetP]

/-! ### the refused ones left out -/
/-- the first k presses without the refused ones -/
def keepP (n : Nat) (x : List Pz) : Nat → List Pz
  | 0 => []
  | k + 1 => match x[k]? with
    | none => keepP n x k
    | some p => if refP n (advP (folP n 345686400000 x k).1 p.1) p.2 = true then keepP n x k else keepP n x k ++ [p]
theorem keep_step (n : Nat) (x : List Pz) (k : Nat) (hk : k < x.length) : keepP n x (k + 1) = if refP n (advP (folP n 345686400000 x k).1 x[k].1) x[k].2 = true then keepP n x k else keepP n x k ++ [x[k]] := by
  rw [keepP, List.getElem?_eq_getElem hk]
theorem keep_mem (n : Nat) (x : List Pz) : ∀ k, k ≤ x.length → ∀ q ∈ keepP n x k, ∃ i, ∃ h : i < x.length, i < k ∧ q = x[i]
  | 0, _, q, hq => by cases hq
  | k + 1, hk, q, hq => by
    rw [keep_step n x k (by omega)] at hq
    split at hq
    · obtain ⟨i, h, hi, e⟩ := keep_mem n x k (by omega) q hq
      exact ⟨i, h, by omega, e⟩
    · rcases List.mem_append.1 hq with hq | hq
      · obtain ⟨i, h, hi, e⟩ := keep_mem n x k (by omega) q hq
        exact ⟨i, h, by omega, e⟩
      · simp at hq
        exact ⟨k, by omega, by omega, hq⟩
theorem keep_len (n : Nat) (x : List Pz) : ∀ k, k ≤ x.length → (keepP n x k).length ≤ k
  | 0, _ => by simp [keepP]
  | k + 1, hk => by
    have := keep_len n x k (by omega)
    rw [keep_step n x k (by omega)]
    split
    · omega
    · simp; omega
theorem keep_ok {n : Nat} {x : List Pz} (hx : PzOk x) : ∀ k, k ≤ x.length → PzOk (keepP n x k)
  | 0, _ => ⟨(by intro p hp; cases hp), (by intro p hp; cases hp), fun i h => absurd h (by simp [keepP])⟩
  | k + 1, hk => by
    have ih := keep_ok (n := n) hx k (by omega)
    have hlt : k < x.length := by omega
    rw [keep_step n x k hlt]
    split
    · exact ih
    · refine ih.snoc (hx.at_ _ (List.getElem_mem hlt)) (hx.kind _ (List.getElem_mem hlt)) (fun q hq => ?_)
      obtain ⟨i, h, hi, rfl⟩ := keep_mem n x k (by omega) q hq
      exact hx.le _ _ _ _ (by omega)
/-- the clock stands as it did, but for when it was told last; none of those that are left is refused -/
theorem keep_fol {n : Nat} {x : List Pz} (hx : PzOk x) (u : Int) : ∀ k, k ≤ x.length →
    (∀ t, advP (folP n u x k).1 t = advP (folP n u (keepP n x k) (keepP n x k).length).1 t) ∧ (folP n u (keepP n x k) (keepP n x k).length).2 = []
  | 0, _ => ⟨fun _ => rfl, rfl⟩
  | k + 1, hk => by
    have hlt : k < x.length := by omega
    obtain ⟨ih, ih2⟩ := keep_fol (n := n) hx u k (by omega)
    have hks := keep_step n x k hlt
    rw [folP_step n u x k hlt]
    by_cases hu : x[k].1 ≤ u
    · have hle : x[k].1 ≤ 345686400000 := by have := (hx.at_ _ (List.getElem_mem hlt)).2; omega
      have hfa : folP n 345686400000 x k = folP n u x k := fol_all n _ _ x k (by omega) (fun i h hi => by
        have := hx.le k i h hlt (by omega)
        omega)
      rw [hfa, ih x[k].1] at hks
      rw [if_pos hu]
      cases hr : refP n (advP (folP n u (keepP n x k) (keepP n x k).length).1 x[k].1) x[k].2
      · rw [hr, if_neg (by decide)] at hks
        rw [hks, fol_snoc, if_pos hu]
        simp only
        rw [hr, if_neg (by decide)]
        refine ⟨fun t => ?_, ih2⟩
        unfold pressP
        rw [ih x[k].1]
      · rw [hr, if_pos rfl] at hks
        rw [hks]
        refine ⟨fun t => ?_, ih2⟩
        unfold pressP
        simp only
        rw [ih x[k].1, hr, if_pos rfl, adv_adv]
    · rw [if_neg hu]
      cases hr : refP n (advP (folP n 345686400000 x k).1 x[k].1) x[k].2
      · rw [hr, if_neg (by decide)] at hks
        rw [hks, fol_snoc, if_neg hu]
        exact ⟨ih, ih2⟩
      · rw [hr, if_pos rfl] at hks
        rw [hks]
        exact ⟨ih, ih2⟩
theorem keep_at {n : Nat} {x : List Pz} (hx : PzOk x) (u : Int) : atK n (keepP n x x.length) u = atK n x u := ((keep_fol hx u x.length (Nat.le_refl _)).1 u).symm
theorem keep_ref {n : Nat} {x : List Pz} (hx : PzOk x) : refL (n : Int) (keepP n x x.length) = [] := by
  unfold refL
  split
  · exact (keep_fol hx _ x.length (Nat.le_refl _)).2
  · rfl
/-- the numbers of the refused ones: below k, and those that are refused -/
theorem ref_mem {n : Nat} {x : List Pz} (hx : PzOk x) : ∀ k, k ≤ x.length → ∀ z : Int, z ∈ (folP n 345686400000 x k).2 ↔ ∃ i, ∃ h : i < x.length, i < k ∧ z = (i : Int) ∧ refP n (advP (folP n 345686400000 x i).1 x[i].1) x[i].2 = true
  | 0, _, z => ⟨fun h => (by cases h), fun ⟨i, _, h, _⟩ => absurd h (by omega)⟩
  | k + 1, hk, z => by
    have hlt : k < x.length := by omega
    have ih := ref_mem (n := n) hx k (by omega) z
    rw [folP_step n _ x k hlt, if_pos (by have := (hx.at_ _ (List.getElem_mem hlt)).2; omega)]
    simp only
    constructor
    · intro h
      split at h
      · rename_i hr
        rcases List.mem_append.1 h with h | h
        · obtain ⟨i, hi, h1, h2, h3⟩ := ih.1 h
          exact ⟨i, hi, by omega, h2, h3⟩
        · simp at h
          exact ⟨k, hlt, by omega, h, hr⟩
      · obtain ⟨i, hi, h1, h2, h3⟩ := ih.1 h
        exact ⟨i, hi, by omega, h2, h3⟩
    · rintro ⟨i, hi, h1, h2, h3⟩
      by_cases hik : i = k
      · subst hik
        rw [if_pos h3, h2]
        simp
      · have := ih.2 ⟨i, hi, by omega, h2, h3⟩
        split
        · exact List.mem_append_left _ this
        · exact this
theorem ref_at {n : Nat} {x : List Pz} (hx : PzOk x) (hs : segF (n : Int) x = 0) (i : Nat) (hi : i < x.length) : decide ((i : Int) ∈ refL (n : Int) x) = refP n (advP (folP n 345686400000 x i).1 x[i].1) x[i].2 := by
  have h := ref_mem (n := n) hx x.length (Nat.le_refl _) (i : Int)
  have e : refL (n : Int) x = (folP n 345686400000 x x.length).2 := by unfold refL; rw [if_pos hs]; rfl
  rw [e]
  cases hr : refP n (advP (folP n 345686400000 x i).1 x[i].1) x[i].2
  · refine decide_eq_false (fun hc => ?_)
    obtain ⟨j, hj, _, h2, h3⟩ := h.1 hc
    obtain rfl : i = j := by omega
    rw [hr] at h3
    exact absurd h3 (by decide)
  · exact decide_eq_true (h.2 ⟨i, hi, hi, rfl, hr⟩)
end Go.Proofs.YtohjapfjkilmoaaGreatDoor
