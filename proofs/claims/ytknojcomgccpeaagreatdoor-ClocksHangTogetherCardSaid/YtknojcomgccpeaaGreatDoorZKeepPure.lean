/-
  Laws of clocks in plain words: a split that is undone at once, a reset, and the refused presses left out. No Go text is named here.
-/
import Derived.Test.YtknojcomgccpeaaGreatDoorZPrs14
import Derived.Test.YtknojcomgccpeaaGreatDoorZPrs13
import Derived.Test.YtknojcomgccpeaaGreatDoorZReady
import Derived.Test.YtknojcomgccpeaaGreatDoorZSep
namespace Go.Proofs.YtknojcomgccpeaaGreatDoor
open Go Go.RowKit

/-! ### right presses have no fault -/
theorem prE_of {pv : Option Int} {p : Pz} (h1 : 0 ≤ p.1 ∧ p.1 ≤ 345686399999) (h2 : 1 ≤ p.2 ∧ p.2 ≤ 9) (h3 : pBeh pv p.1 = false) : prE pv p = 0 := by
  unfold prE
  rw [if_pos (by unfold momB outB; simp; omega), if_neg (by unfold outB; simp; omega), if_neg (by rw [h3]; decide)]
theorem prG_of : ∀ (l : List Pz) (pv : Option Int), (∀ p ∈ l, (0 ≤ p.1 ∧ p.1 ≤ 345686399999) ∧ (1 ≤ p.2 ∧ p.2 ≤ 9)) → (∀ i (h : i + 1 < l.length), l[i].1 ≤ l[i + 1].1) → (∀ (h : 0 < l.length), pBeh pv l[0].1 = false) → prG pv l = 0
  | [], _, _, _, _ => rfl
  | p :: l, pv, h1, h2, h3 => by
    obtain ⟨a1, a2⟩ := h1 p (List.mem_cons_self ..)
    rw [prG, if_pos (prE_of a1 a2 (h3 (by simp)))]
    refine prG_of l (some p.1) (fun q hq => h1 q (List.mem_cons_of_mem _ hq)) (fun i hi => ?_) (fun h => ?_)
    · have := h2 (i + 1) (by simp; omega)
      simpa using this
    · have := h2 0 (by simp; omega)
      unfold pBeh
      simp at this
      simpa using this
theorem PzOk.seg {l : List Pz} (h : PzOk l) (hm : l.length ≤ 2000) {n : Nat} (hn : 1 ≤ n ∧ n ≤ 100) : segF (n : Int) l = 0 := by
  unfold segF
  rw [if_neg (by unfold outB; simp; omega)]
  unfold prF
  rw [if_neg (by omega)]
  exact prG_of l none (fun p hp => ⟨h.at_ p hp, h.kind p hp⟩) h.order (fun _ => rfl)
theorem PzOk.atE {l : List Pz} (h : PzOk l) (hm : l.length ≤ 2000) {n : Nat} (hn : 1 ≤ n ∧ n ≤ 100) {u : Int} (hu : 0 ≤ u ∧ u ≤ 345686399999) : atE (n : Int) l u = 0 := by
  unfold Go.Proofs.YtknojcomgccpeaaGreatDoor.atE
  rw [if_pos (h.seg hm hn), if_pos (by unfold momB outB; simp; omega)]
theorem PzOk.snoc {l : List Pz} (h : PzOk l) {p : Pz} (h1 : 0 ≤ p.1 ∧ p.1 ≤ 345686399999) (h2 : 1 ≤ p.2 ∧ p.2 ≤ 9) (h3 : ∀ q ∈ l, q.1 ≤ p.1) : PzOk (l ++ [p]) := by
  refine ⟨fun q hq => ?_, fun q hq => ?_, fun i hi => ?_⟩
  · rcases List.mem_append.1 hq with hq | hq
    · exact h.at_ q hq
    · simp at hq; subst hq; exact h1
  · rcases List.mem_append.1 hq with hq | hq
    · exact h.kind q hq
    · simp at hq; subst hq; exact h2
  · simp at hi
    by_cases he : i + 1 = l.length
    · rw [List.getElem_append_left (by omega), List.getElem_append_right (by omega)]
      have := h3 _ (List.getElem_mem (show i < l.length by omega))
      simp only [he, Nat.sub_self, List.getElem_cons_zero]
      omega
    · rw [List.getElem_append_left (by omega), List.getElem_append_left (by omega)]
      exact h.order i (by omega)
/-- each one is not before any other one that stands ahead of it -/
theorem PzOk.le {l : List Pz} (h : PzOk l) : ∀ j i (hi : i < l.length) (hj : j < l.length), i ≤ j → l[i].1 ≤ l[j].1
  | 0, i, hi, hj, hij => by
    obtain rfl : i = 0 := by omega
    exact Int.le_refl _
  | j + 1, i, hi, hj, hij => by
    rcases Nat.lt_or_ge i (j + 1) with hlt | hge
    · have := h.le j i hi (by omega) (by omega)
      have := h.order j hj
      omega
    · obtain rfl : i = j + 1 := by omega
      exact Int.le_refl _
theorem PzOk.last {l : List Pz} (h : PzOk l) (hl : 0 < l.length) : ∀ p ∈ l, p.1 ≤ (l[l.length - 1]'(by omega)).1 := by
  intro p hp
  obtain ⟨i, hi, rfl⟩ := List.getElem_of_mem hp
  exact h.le _ _ _ _ (by omega)

/-! ### clocks of lists -/
theorem fol_app (n : Nat) (u : Int) (l r : List Pz) : ∀ k, k ≤ l.length → folP n u (l ++ r) k = folP n u l k
  | 0, _ => rfl
  | k + 1, hk => by
    rw [folP_step n u (l ++ r) k (by simp; omega), folP_step n u l k (by omega), fol_app n u l r k (by omega), List.getElem_append_left (by omega)]
theorem fol_snoc (n : Nat) (u : Int) (l : List Pz) (p : Pz) : folP n u (l ++ [p]) (l ++ [p]).length =
    if p.1 ≤ u then (pressP n (folP n u l l.length).1 p, if refP n (advP (folP n u l l.length).1 p.1) p.2 = true then (folP n u l l.length).2 ++ [(l.length : Int)] else (folP n u l l.length).2) else folP n u l l.length := by
  have hx : (l ++ [p])[l.length]'(by simp) = p := by simp
  rw [show (l ++ [p]).length = l.length + 1 by simp, folP_step n u (l ++ [p]) l.length (by simp), hx, fol_app n u l [p] _ (Nat.le_refl _)]
theorem fol_all (n : Nat) (u u' : Int) (l : List Pz) : ∀ k, k ≤ l.length → (∀ i (h : i < l.length), i < k → (l[i].1 ≤ u ↔ l[i].1 ≤ u')) → folP n u l k = folP n u' l k
  | 0, _, _ => rfl
  | k + 1, hk, hu => by
    have ih := fol_all n u u' l k (by omega) (fun i h hi => hu i h (by omega))
    have hx := hu k (by omega) (by omega)
    rw [folP_step n u l k (by omega), folP_step n u' l k (by omega), ih]
    by_cases h : l[k].1 ≤ u
    · rw [if_pos h, if_pos (hx.1 h)]
    · rw [if_neg h, if_neg (fun e => h (hx.2 e))]
theorem adv_adv (c : Clk) (t t' : Int) : advP (advP c t) t' = advP c t' := by
  unfold advP
  by_cases h : c.phase = 1 ∨ c.phase = 3
  · cases c.loads
    · simp [h]; omega
    · simp [h]; omega
  · simp [h]

/-! ### a split that is undone at once -/
theorem undone_step (n : Nat) (s : Clk) (t : Int) (h : s.phase = 1) : ∃ e, advP (pressP n (pressP n s (t, 2)) (t + 5, 4)) (t + 10) = { advP s (t + 10) with end_ := e } := by
  have e1 : refP n (advP s t) 2 = false := by simp [refP, advP, h]
  have e2 : pressP n s (t, 2) = cutP n (advP s t) ((advP s t).real, (advP s t).game, false) := by
    unfold pressP
    rw [e1, if_neg (by decide)]
    rfl
  rw [e2]
  unfold cutP
  obtain ⟨c, hc⟩ : ∃ c : Cut, ((advP s t).real, (advP s t).game, false) = c := ⟨_, rfl⟩
  rw [hc]
  obtain ⟨ph, ld, at_, re, ga, cu, en, be, dn⟩ := s
  simp only at h
  subst h
  by_cases hn : cu.length + 1 = n
  · refine ⟨c, ?_⟩
    rw [if_pos (show (advP ⟨1, ld, at_, re, ga, cu, en, be, dn⟩ t).cuts.length + 1 = n from hn)]
    cases ld <;> simp [pressP, refP, doneP, advP] <;> omega
  · refine ⟨en, ?_⟩
    rw [if_neg (show ¬ (advP ⟨1, ld, at_, re, ga, cu, en, be, dn⟩ t).cuts.length + 1 = n from hn)]
    cases ld <;> simp [pressP, refP, doneP, advP] <;> omega
theorem ck_end {c d : Clk} {e : Cut} (h : c = { d with end_ := e }) (hp : d.phase = 1) : ckE c = ckE d ∧ ckV c = ckV d := by
  have ht : timesP c = timesP d := by subst h; simp [timesP, hp]
  have h1 : ckE c = ckE d := by unfold ckE; rw [ht]
  refine ⟨h1, ?_⟩
  unfold ckV
  rw [h1, ht]
  subst h
  rfl
theorem undone_at {n : Nat} {x : List Pz} {t : Int} (hx : ∀ p ∈ x, p.1 ≤ t) (hp : (atK n x t).phase = 1) :
    ckE (atK n (x ++ [(t, 2), (t + 5, 4)]) (t + 10)) = ckE (atK n x (t + 10)) ∧ ckV (atK n (x ++ [(t, 2), (t + 5, 4)]) (t + 10)) = ckV (atK n x (t + 10)) := by
  have hfa : folP n t x x.length = folP n (t + 10) x x.length := fol_all n t (t + 10) x _ (Nat.le_refl _) (fun i h _ => by have := hx _ (List.getElem_mem h); omega)
  have hp' : (folP n (t + 10) x x.length).1.phase = 1 := by rw [← hfa]; exact hp
  obtain ⟨e, he⟩ := undone_step n (folP n (t + 10) x x.length).1 t hp'
  have hk : atK n (x ++ [(t, 2), (t + 5, 4)]) (t + 10) = advP (pressP n (pressP n (folP n (t + 10) x x.length).1 (t, 2)) (t + 5, 4)) (t + 10) := by
    unfold atK
    rw [show x ++ [(t, 2), (t + 5, 4)] = (x ++ [(t, 2)]) ++ [(t + 5, 4)] by simp, fol_snoc, if_pos (by simp only; omega), fol_snoc, if_pos (by simp only; omega)]
  exact ck_end (e := e) (hk.trans he) hp'
theorem reset_at {n : Nat} {x : List Pz} {t : Int} (hp : (atK n x t).phase = 1) :
    ckE (atK n (x ++ [(t, 9)]) t) = 0 ∧ ckV (atK n (x ++ [(t, 9)]) t) = .agg #[.int .i64 0, .int .i64 0, .int .i64 0, .int .i64 0, .bool false] := by
  have hk : atK n (x ++ [(t, 9)]) t = advP (pressP n (folP n t x x.length).1 (t, 9)) t := by
    unfold atK
    rw [fol_snoc, if_pos (by simp only; omega)]
  rw [hk]
  have hp' : (folP n t x x.length).1.phase = 1 := hp
  obtain ⟨s, hs⟩ : ∃ s, (folP n t x x.length).1 = s := ⟨_, rfl⟩
  rw [hs] at hp' ⊢
  have e1 : refP n (advP s t) 9 = false := by simp [refP, advP, hp']
  have e2 : pressP n s (t, 9) = resetP (advP s t) := by
    unfold pressP
    rw [e1, if_neg (by decide)]
    rfl
  rw [e2]
  constructor
  · simp [ckE, timesP, advP, resetP]
  · simp [ckV, ckE, timesP, advP, resetP]

/-! ### the refused ones left out -/
/-- the first k presses without the refused ones -/
def keepP (n : Nat) (x : List Pz) : Nat → List Pz
  | 0 => []
  | k + 1 => match x[k]? with
    | none => keepP n x k
    | some p => if refP n (advP (folP n 345686400000 x k).1 p.1) p.2 = true then keepP n x k else keepP n x k ++ [p]
theorem keep_step (n : Nat) (x : List Pz) (k : Nat) (hk : k < x.length) : keepP n x (k + 1) = if refP n (advP (folP n 345686400000 x k).1 x[k].1) x[k].2 = true then keepP n x k else keepP n x k ++ [x[k]] := by
  rw [keepP, List.getElem?_eq_getElem hk]
theorem keep_mem (n : Nat) (x : List Pz) : ∀ k, k ≤ x.length → ∀ q ∈ keepP n x k, ∃ i, ∃ h : i < x.length, i < k ∧ q = x[i]
  | 0, _, q, hq => by cases hq
  | k + 1, hk, q, hq => by
    rw [keep_step n x k (by omega)] at hq
    split at hq
    · obtain ⟨i, h, hi, e⟩ := keep_mem n x k (by omega) q hq
      exact ⟨i, h, by omega, e⟩
    · rcases List.mem_append.1 hq with hq | hq
      · obtain ⟨i, h, hi, e⟩ := keep_mem n x k (by omega) q hq
        exact ⟨i, h, by omega, e⟩
      · simp at hq
        exact ⟨k, by omega, by omega, hq⟩
theorem keep_len (n : Nat) (x : List Pz) : ∀ k, k ≤ x.length → (keepP n x k).length ≤ k
  | 0, _ => by simp [keepP]
  | k + 1, hk => by
    have := keep_len n x k (by omega)
    rw [keep_step n x k (by omega)]
    split
    · omega
    · simp; omega
theorem keep_ok {n : Nat} {x : List Pz} (hx : PzOk x) : ∀ k, k ≤ x.length → PzOk (keepP n x k)
  | 0, _ => ⟨(by intro p hp; cases hp), (by intro p hp; cases hp), fun i h => absurd h (by simp [keepP])⟩
  | k + 1, hk => by
    have ih := keep_ok (n := n) hx k (by omega)
    have hlt : k < x.length := by omega
    rw [keep_step n x k hlt]
    split
    · exact ih
    · refine ih.snoc (hx.at_ _ (List.getElem_mem hlt)) (hx.kind _ (List.getElem_mem hlt)) (fun q hq => ?_)
      obtain ⟨i, h, hi, rfl⟩ := keep_mem n x k (by omega) q hq
      exact hx.le _ _ _ _ (by omega)
/-- the clock stands as it did, but for when it was told last; none of those that are left is refused -/
theorem keep_fol {n : Nat} {x : List Pz} (hx : PzOk x) (u : Int) : ∀ k, k ≤ x.length →
    (∀ t, advP (folP n u x k).1 t = advP (folP n u (keepP n x k) (keepP n x k).length).1 t) ∧ (folP n u (keepP n x k) (keepP n x k).length).2 = []
  | 0, _ => ⟨fun _ => rfl, rfl⟩
  | k + 1, hk => by
    have hlt : k < x.length := by omega
    obtain ⟨ih, ih2⟩ := keep_fol (n := n) hx u k (by omega)
    have hks := keep_step n x k hlt
    rw [folP_step n u x k hlt]
    by_cases hu : x[k].1 ≤ u
    · have hle : x[k].1 ≤ 345686400000 := by have := (hx.at_ _ (List.getElem_mem hlt)).2; omega
      have hfa : folP n 345686400000 x k = folP n u x k := fol_all n _ _ x k (by omega) (fun i h hi => by
        have := hx.le k i h hlt (by omega)
        omega)
      rw [hfa, ih x[k].1] at hks
      rw [if_pos hu]
      cases hr : refP n (advP (folP n u (keepP n x k) (keepP n x k).length).1 x[k].1) x[k].2
      · rw [hr, if_neg (by decide)] at hks
        rw [hks, fol_snoc, if_pos hu]
        simp only
        rw [hr, if_neg (by decide)]
        refine ⟨fun t => ?_, ih2⟩
        unfold pressP
        rw [ih x[k].1]
      · rw [hr, if_pos rfl] at hks
        rw [hks]
        refine ⟨fun t => ?_, ih2⟩
        unfold pressP
        simp only
        rw [ih x[k].1, hr, if_pos rfl, adv_adv]
    · rw [if_neg hu]
      cases hr : refP n (advP (folP n 345686400000 x k).1 x[k].1) x[k].2
      · rw [hr, if_neg (by decide)] at hks
        rw [hks, fol_snoc, if_neg hu]
        exact ⟨ih, ih2⟩
      · rw [hr, if_pos rfl] at hks
        rw [hks]
        exact ⟨ih, ih2⟩
theorem keep_at {n : Nat} {x : List Pz} (hx : PzOk x) (u : Int) : atK n (keepP n x x.length) u = atK n x u := ((keep_fol hx u x.length (Nat.le_refl _)).1 u).symm
theorem keep_ref {n : Nat} {x : List Pz} (hx : PzOk x) : refL (n : Int) (keepP n x x.length) = [] := by
  unfold refL
  split
  · exact (keep_fol hx _ x.length (Nat.le_refl _)).2
  · rfl
/-- the numbers of the refused ones: below k, and those that are refused -/
theorem ref_mem {n : Nat} {x : List Pz} (hx : PzOk x) : ∀ k, k ≤ x.length → ∀ z : Int, z ∈ (folP n 345686400000 x k).2 ↔ ∃ i, ∃ h : i < x.length, i < k ∧ z = (i : Int) ∧ refP n (advP (folP n 345686400000 x i).1 x[i].1) x[i].2 = true
  | 0, _, z => ⟨fun h => (by cases h), fun ⟨i, _, h, _⟩ => absurd h (by omega)⟩
  | k + 1, hk, z => by
    have hlt : k < x.length := by omega
    have ih := ref_mem (n := n) hx k (by omega) z
    rw [folP_step n _ x k hlt, if_pos (by have := (hx.at_ _ (List.getElem_mem hlt)).2; omega)]
    simp only
    constructor
    · intro h
      split at h
      · rename_i hr
        rcases List.mem_append.1 h with h | h
        · obtain ⟨i, hi, h1, h2, h3⟩ := ih.1 h
          exact ⟨i, hi, by omega, h2, h3⟩
        · simp at h
          exact ⟨k, hlt, by omega, h, hr⟩
      · obtain ⟨i, hi, h1, h2, h3⟩ := ih.1 h
        exact ⟨i, hi, by omega, h2, h3⟩
    · rintro ⟨i, hi, h1, h2, h3⟩
      by_cases hik : i = k
      · subst hik
        rw [if_pos h3, h2]
        simp
      · have := ih.2 ⟨i, hi, by omega, h2, h3⟩
        split
        · exact List.mem_append_left _ this
        · exact this
theorem ref_at {n : Nat} {x : List Pz} (hx : PzOk x) (hs : segF (n : Int) x = 0) (i : Nat) (hi : i < x.length) : decide ((i : Int) ∈ refL (n : Int) x) = refP n (advP (folP n 345686400000 x i).1 x[i].1) x[i].2 := by
  have h := ref_mem (n := n) hx x.length (Nat.le_refl _) (i : Int)
  have e : refL (n : Int) x = (folP n 345686400000 x x.length).2 := by unfold refL; rw [if_pos hs]; rfl
  rw [e]
  cases hr : refP n (advP (folP n 345686400000 x i).1 x[i].1) x[i].2
  · refine decide_eq_false (fun hc => ?_)
    obtain ⟨j, hj, _, h2, h3⟩ := h.1 hc
    obtain rfl : i = j := by omega
    rw [hr] at h3
    exact absurd h3 (by decide)
  · exact decide_eq_true (h.2 ⟨i, hi, hi, rfl, hr⟩)
end Go.Proofs.YtknojcomgccpeaaGreatDoor
/-
  Clocks hang together, in plain words. No Go text is named here.
-/
namespace Go.Proofs.YtknojcomgccpeaaGreatDoor
open Go Go.RowKit

/-- cuts that follow one another, none behind two times -/
structure CutsI (l : List Cut) (r g : Int) : Prop where
  skip : ∀ y ∈ l, y.2.2 = true → y.1 = 0 ∧ y.2.1 = 0
  take_ : ∀ y ∈ l, y.2.2 = false → 0 ≤ y.1 ∧ 0 ≤ y.2.1 ∧ y.2.1 ≤ y.1
  up : ∀ y ∈ l, y.1 ≤ r ∧ y.2.1 ≤ g
  order : l.Pairwise (fun a b => a.2.2 = false → b.2.2 = false → a.1 ≤ b.1 ∧ a.2.1 ≤ b.2.1)
theorem CutsI.nil (r g : Int) : CutsI [] r g := ⟨(by intro y hy; cases hy), (by intro y hy; cases hy), (by intro y hy; cases hy), List.Pairwise.nil⟩
theorem CutsI.more {l : List Cut} {r g r' g' : Int} (h : CutsI l r g) (hr : r ≤ r') (hg : g ≤ g') : CutsI l r' g' :=
  ⟨h.skip, h.take_, fun y hy => by have := h.up y hy; omega, h.order⟩
theorem CutsI.first {l : List Cut} {r g : Int} (h : CutsI l r g) (k : Nat) : CutsI (l.take k) r g :=
  ⟨fun y hy => h.skip y (List.mem_of_mem_take hy), fun y hy => h.take_ y (List.mem_of_mem_take hy), fun y hy => h.up y (List.mem_of_mem_take hy), h.order.sublist (List.take_sublist k l)⟩
theorem CutsI.snocT {l : List Cut} {r g : Int} (h : CutsI l r g) (h0 : 0 ≤ g) (h1 : g ≤ r) : CutsI (l ++ [(r, g, false)]) r g := by
  refine ⟨fun y hy => ?_, fun y hy => ?_, fun y hy => ?_, List.pairwise_append.2 ⟨h.order, List.pairwise_singleton _ _, fun a ha b hb => ?_⟩⟩
  · rcases List.mem_append.1 hy with hy | hy
    · exact h.skip y hy
    · simp at hy; subst hy; simp
  · rcases List.mem_append.1 hy with hy | hy
    · exact h.take_ y hy
    · simp at hy; subst hy; simp only; intro _; omega
  · rcases List.mem_append.1 hy with hy | hy
    · exact h.up y hy
    · simp at hy; subst hy; simp
  · simp at hb
    subst hb
    intro _ _
    exact h.up a ha
theorem CutsI.snocS {l : List Cut} {r g : Int} (h : CutsI l r g) (h0 : 0 ≤ g) (h1 : 0 ≤ r) : CutsI (l ++ [(0, 0, true)]) r g := by
  refine ⟨fun y hy => ?_, fun y hy => ?_, fun y hy => ?_, List.pairwise_append.2 ⟨h.order, List.pairwise_singleton _ _, fun a ha b hb => ?_⟩⟩
  · rcases List.mem_append.1 hy with hy | hy
    · exact h.skip y hy
    · simp at hy; subst hy; simp
  · rcases List.mem_append.1 hy with hy | hy
    · exact h.take_ y hy
    · simp at hy; subst hy; simp
  · rcases List.mem_append.1 hy with hy | hy
    · exact h.up y hy
    · simp at hy; subst hy; simp; omega
  · simp at hb
    subst hb
    intro _ hx
    exact absurd hx (by decide)
theorem cutG_of : ∀ (l : List Cut) (s : Int × Int), (∀ y ∈ l, y.2.2 = true → y.1 = 0 ∧ y.2.1 = 0) → (∀ y ∈ l, y.2.2 = false → 0 ≤ y.1 ∧ y.1 ≤ 864000000 ∧ 0 ≤ y.2.1 ∧ y.2.1 ≤ y.1 ∧ s.1 ≤ y.1 ∧ s.2 ≤ y.2.1) →
    l.Pairwise (fun a b => a.2.2 = false → b.2.2 = false → a.1 ≤ b.1 ∧ a.2.1 ≤ b.2.1) → cutG s l = 0
  | [], _, _, _, _ => rfl
  | c :: l, s, h1, h2, h3 => by
    have a1 := h1 c (List.mem_cons_self ..)
    have a2 := h2 c (List.mem_cons_self ..)
    obtain ⟨p1, p2⟩ := List.pairwise_cons.1 h3
    have h0 : cutE s.1 s.2 c = 0 := by
      unfold cutE
      cases hc : c.2.2
      · have := a2 hc
        rw [if_neg (by decide), if_neg (by omega), if_neg (by omega)]
      · have := a1 hc
        rw [if_pos rfl, if_neg (by omega)]
    rw [cutG, if_pos h0]
    refine cutG_of l _ (fun y hy => h1 y (List.mem_cons_of_mem _ hy)) (fun y hy hf => ?_) p2
    have b := h2 y (List.mem_cons_of_mem _ hy) hf
    unfold cutN
    cases hc : c.2.2
    · have q := p1 y hy hc hf
      rw [if_neg (by decide)]
      simp only
      omega
    · rw [if_pos rfl]
      exact b
theorem CutsI.ok {l : List Cut} {r g : Int} (h : CutsI l r g) (hl : l.length ≤ 100) (hb : longB l = false) : cutF l = 0 := by
  unfold cutF
  rw [if_neg (by omega)]
  refine cutG_of l (0, 0) h.skip (fun y hy hf => ?_) h.order
  have h1 := h.take_ y hy hf
  have h2 : ¬ 864000000 < y.1 := by
    intro hc
    have : longB l = true := List.any_eq_true.2 ⟨y, hy, by simpa using hc⟩
    rw [hb] at this
    exact absurd this (by decide)
  simp only
  omega

/-- how the parts of a clock hang together -/
structure HI (c : Clk) : Prop where
  bd : 0 ≤ c.game ∧ c.game ≤ c.real
  ready : c.phase = 0 → c.real = 0 ∧ c.game = 0 ∧ c.loads = false ∧ c.cuts = []
  cuts : CutsI c.cuts c.real c.game
  done : c.phase = 3 → CutsI c.cuts c.end_.1 c.end_.2.1 ∧ 0 ≤ c.end_.2.1 ∧ c.end_.2.1 ≤ c.end_.1
theorem HI.start : HI clk0 := ⟨⟨by decide, by decide⟩, fun _ => ⟨rfl, rfl, rfl, rfl⟩, CutsI.nil _ _, fun h => absurd h (by decide)⟩
theorem HI.adv {c : Clk} (h : HI c) {t : Int} (ht : c.at_ ≤ t) : HI (advP c t) := by
  obtain ⟨h1, h2, h3, h4⟩ := h
  have hr : c.real ≤ (advP c t).real ∧ c.game ≤ (advP c t).game ∧ (advP c t).game ≤ (advP c t).real := by
    unfold advP
    simp only
    by_cases hp : c.phase = 1 ∨ c.phase = 3
    · rw [if_pos hp, if_pos hp]
      split <;> omega
    · rw [if_neg hp, if_neg hp]
      omega
  refine ⟨by omega, fun hp => ?_, h3.more hr.1 hr.2.1, h4⟩
  have hp' : c.phase = 0 := hp
  obtain ⟨a1, a2, a3, a4⟩ := h2 hp'
  refine ⟨?_, ?_, a3, a4⟩
  · simp [advP, hp', a1]
  · simp [advP, hp', a2]
theorem HI.done_ {n : Nat} {c : Clk} (h : HI c) {k : Int} (hr : refP n c k = false) : HI (doneP n c k) := by
  obtain ⟨h1, h2, h3, h4⟩ := h
  unfold doneP
  unfold refP at hr
  by_cases k1 : k = 1
  · rw [if_pos k1]
    exact ⟨⟨by simp, by simp⟩, fun h => absurd h (by simp), CutsI.nil _ _, fun h => absurd h (by simp)⟩
  rw [if_neg k1] at hr ⊢
  by_cases k2 : k = 2
  · rw [if_pos k2] at hr ⊢
    have hp : c.phase = 1 := by simpa using hr
    unfold cutP
    split
    · exact ⟨h1, fun h => absurd h (by simp), h3.snocT h1.1 h1.2, fun _ => ⟨h3.snocT h1.1 h1.2, h1.1, h1.2⟩⟩
    · exact ⟨h1, fun h => absurd h (by simp [hp]), h3.snocT h1.1 h1.2, fun h => absurd h (by simp [hp])⟩
  rw [if_neg k2] at hr ⊢
  by_cases k3 : k = 3
  · rw [if_pos k3] at hr ⊢
    have hp : c.phase = 1 ∧ ¬ c.cuts.length + 1 = n := by simpa using hr
    unfold cutP
    rw [if_neg hp.2]
    exact ⟨h1, fun h => absurd h (by simp [hp.1]), h3.snocS h1.1 (by omega), fun h => absurd h (by simp [hp.1])⟩
  rw [if_neg k3] at hr ⊢
  by_cases k4 : k = 4
  · rw [if_pos k4] at hr ⊢
    have hp : ¬ c.phase = 0 := by
      intro e
      simp [e] at hr
    refine ⟨h1, fun h => ?_, h3.first _, fun h => ?_⟩
    · simp only at h
      split at h
      · omega
      · exact absurd h hp
    · simp only at h
      split at h
      · omega
      · rename_i e; exact absurd h e
  rw [if_neg k4] at hr ⊢
  by_cases k5 : k = 5
  · rw [if_pos k5]
    exact ⟨h1, fun h => absurd h (by simp), h3, fun h => absurd h (by simp)⟩
  rw [if_neg k5] at hr ⊢
  by_cases k6 : k = 6
  · rw [if_pos k6]
    exact ⟨h1, fun h => absurd h (by simp), h3, fun h => absurd h (by simp)⟩
  rw [if_neg k6] at hr ⊢
  by_cases k7 : k = 7
  · rw [if_pos k7] at hr ⊢
    have hp : c.phase = 1 := by simp at hr; exact hr.1
    exact ⟨h1, fun h => absurd h (by simp [hp]), h3, fun h => absurd h (by simp [hp])⟩
  rw [if_neg k7] at hr ⊢
  by_cases k8 : k = 8
  · rw [if_pos k8] at hr ⊢
    have hp : c.phase = 1 := by simp at hr; exact hr.1
    exact ⟨h1, fun h => absurd h (by simp [hp]), h3, fun h => absurd h (by simp [hp])⟩
  rw [if_neg k8]
  exact ⟨⟨by simp [resetP], by simp [resetP]⟩, fun _ => ⟨rfl, rfl, rfl, rfl⟩, CutsI.nil _ _, fun h => absurd h (by simp [resetP])⟩
theorem fol_at (n : Nat) (u : Int) (l : List Pz) (v : Int) (hv : 0 ≤ v) : ∀ k, k ≤ l.length → (∀ i (h : i < l.length), i < k → l[i].1 ≤ u → l[i].1 ≤ v) → (folP n u l k).1.at_ ≤ v
  | 0, _, _ => hv
  | k + 1, hk, hx => by
    have ih := fol_at n u l v hv k (by omega) (fun i h hi => hx i h (by omega))
    rw [folP_step n u l k (by omega)]
    by_cases h : l[k].1 ≤ u
    · rw [if_pos h]
      have := hx k (by omega) (by omega) h
      simp only
      unfold pressP
      split
      · exact this
      · rw [done_at]; exact this
    · rw [if_neg h]
      exact ih
theorem fol_HI (n : Nat) {l : List Pz} (hl : PzOk l) (u : Int) : ∀ k, k ≤ l.length → HI (folP n u l k).1
  | 0, _ => HI.start
  | k + 1, hk => by
    have hlt : k < l.length := by omega
    have ih := fol_HI n hl u k (by omega)
    have hat : (folP n u l k).1.at_ ≤ l[k].1 := fol_at n u l _ (hl.at_ _ (List.getElem_mem hlt)).1 k (by omega) (fun i h hi _ => hl.le k i h hlt (by omega))
    rw [folP_step n u l k hlt]
    split
    · simp only
      unfold pressP
      cases hr : refP n (advP (folP n u l k).1 l[k].1) l[k].2
      · rw [if_neg (by decide)]
        exact (ih.adv hat).done_ hr
      · rw [if_pos rfl]
        exact ih.adv hat
    · exact ih
theorem at_HI (n : Nat) {l : List Pz} (hl : PzOk l) {u : Int} (hu : 0 ≤ u) : HI (atK n l u) :=
  (fol_HI n hl u l.length (Nat.le_refl _)).adv (fol_at n u l u hu _ (Nat.le_refl _) (fun _ _ _ h => h))
/-- what the law asks of a clock and of its cuts -/
structure HangC (c : Clk) : Prop where
  le : (timesP c).2 ≤ (timesP c).1
  lo : 0 ≤ (timesP c).2
  ready : c.phase = 0 → (timesP c).1 = 0 ∧ (timesP c).2 = 0 ∧ c.cuts.length = 0 ∧ c.loads = false
  cuts : longB c.cuts = false → cutF c.cuts = 0
  up : ∀ y ∈ c.cuts, y.1 ≤ (timesP c).1 ∧ y.2.1 ≤ (timesP c).2
theorem at_hang (n : Nat) {l : List Pz} (hl : PzOk l) (hm : l.length ≤ 100) {u : Int} (hu : 0 ≤ u) : HangC (atK n l u) := by
  have h := at_HI n hl hu
  have hlen : (atK n l u).cuts.length ≤ 100 := by
    have := (fol_bd n u hl l.length (Nat.le_refl _)).1.cuts
    show (folP n u l l.length).1.cuts.length ≤ 100
    omega
  obtain ⟨h1, h2, h3, h4⟩ := h
  obtain ⟨c, hc⟩ : ∃ c, atK n l u = c := ⟨_, rfl⟩
  rw [hc] at h1 h2 h3 h4 hlen ⊢
  by_cases hp : c.phase = 3
  · obtain ⟨a1, a2, a3⟩ := h4 hp
    refine ⟨?_, ?_, fun h => by omega, fun hb => h3.ok hlen hb, ?_⟩
    · unfold timesP; rw [if_pos hp]; exact a3
    · unfold timesP; rw [if_pos hp]; exact a2
    · unfold timesP; rw [if_pos hp]; exact a1.up
  · refine ⟨?_, ?_, fun h => ?_, fun hb => h3.ok hlen hb, ?_⟩
    · unfold timesP; rw [if_neg hp]; exact h1.2
    · unfold timesP; rw [if_neg hp]; exact h1.1
    · obtain ⟨b1, b2, b3, b4⟩ := h2 h
      unfold timesP; rw [if_neg hp]
      exact ⟨b1, b2, by rw [b4]; rfl, b3⟩
    · unfold timesP; rw [if_neg hp]; exact h3.up
/-- one unit on, where nothing is pressed -/
theorem at_on (n : Nat) (l : List Pz) (u : Int) (hn : ∀ p ∈ l, p.1 ≠ u + 1) (hp : (atK n l u).phase = 1) :
    timesP (atK n l (u + 1)) = ((timesP (atK n l u)).1 + 1, if (atK n l u).loads = true then (timesP (atK n l u)).2 else (timesP (atK n l u)).2 + 1) := by
  have hfa : folP n u l l.length = folP n (u + 1) l l.length := fol_all n u (u + 1) l _ (Nat.le_refl _) (fun i h _ => by have := hn _ (List.getElem_mem h); omega)
  unfold atK at hp ⊢
  rw [← hfa]
  obtain ⟨s, hs⟩ : ∃ s, (folP n u l l.length).1 = s := ⟨_, rfl⟩
  rw [hs] at hp ⊢
  have hp' : s.phase = 1 := hp
  unfold timesP advP
  cases s.loads
  · simp [hp']
    omega
  · simp [hp']
    omega
end Go.Proofs.YtknojcomgccpeaaGreatDoor
/-
  What the laws of clocks ask of ClockAt and of Clone, by contracts that hold in whatever memory comes behind.
-/
namespace Go.Proofs.YtknojcomgccpeaaGreatDoor
open Go Go.RowKit

theorem one4p {x y z u : Value} (hx : x.oneCell' = true) (hy : y.oneCell' = true) (hz : z.oneCell' = true) (hu : u.oneCell' = true) : ∀ v ∈ [x, y, z, u], v.oneCell' = true := by
  intro v hv
  simp at hv
  rcases hv with rfl | rfl | rfl | rfl <;> assumption
theorem news_blk {w : World} {g : Nat} {t : TypeId} {cs : Array Value} (h : Blk w g t cs) : ∀ j u, cs.toList[j]? = some u → w.cell? ((⟨g, 0, none⟩ : Addr).add j) = some u := World.news_of_block h
/-- a clock's five parts -/
abbrev ckA (c0 c1 c2 c3 : Int) (c4 : Bool) : Value := .agg #[.int .i64 c0, .int .i64 c1, .int .i64 c2, .int .i64 c3, .bool c4]
theorem ck_cases (c : Clk) : ∃ c0 c1 c2 c3 c4, ckV c = ckA c0 c1 c2 c3 c4 ∧ (ckE c = 0 ∨ ckE c = 12) ∧ (ckE c = 0 → c0 = c.phase ∧ c1 = (timesP c).1 ∧ c2 = (timesP c).2 ∧ c3 = c.cuts.length ∧ c4 = c.loads) := by
  unfold ckV
  by_cases h : ckE c = 0
  · rw [if_pos h]
    exact ⟨_, _, _, _, _, rfl, .inl h, fun _ => ⟨rfl, rfl, rfl, rfl, rfl⟩⟩
  · rw [if_neg h]
    refine ⟨_, _, _, _, _, rfl, .inr ?_, fun e => absurd e h⟩
    unfold ckE at h ⊢
    split
    · rfl
    · rename_i hn; exact absurd (if_neg hn) h
theorem five {W : World} {g : Nat} {t : TypeId} {a b c d e : Value} (h : Blk W g t #[a, b, c, d, e]) : (W.cell? ⟨g, 0, none⟩ = some a ∧ W.cell? ⟨g, 1, none⟩ = some b ∧ W.cell? ⟨g, 2, none⟩ = some c ∧ W.cell? ⟨g, 3, none⟩ = some d ∧ W.cell? ⟨g, 4, none⟩ = some e) ∧
    W.frozen? ⟨g, 0, none⟩ = false ∧ W.frozen? ⟨g, 1, none⟩ = false ∧ W.frozen? ⟨g, 2, none⟩ = false ∧ W.frozen? ⟨g, 3, none⟩ = false ∧ W.frozen? ⟨g, 4, none⟩ = false :=
  ⟨⟨h.cell 0, h.cell 1, h.cell 2, h.cell 3, h.cell 4⟩, h.frozen 0, h.frozen 1, h.frozen 2, h.frozen 3, h.frozen 4⟩
/-- a clone of presses, beside what was there -/
theorem sq_clonePz {w W : World} {l : List Rsc} (hS : Sq w W l) (b : Nat) (A : Option Addr) (n c : Nat) (ps : List Pz) (hr : Rd w b 2 (.slice A n c) n (ps.flatMap pzC)) (hn : n ≤ 100000) :
    Calls Tryz.prog 17 #[.slice A n c] W fun e w' => ∃ A' c', e = .returned (.slice A' n c') ∧ Sq w w' (rOwn w.heap.size 46 2 (.slice A' n c') n (ps.flatMap pzC) :: l) := by
  refine (clonePz_calls b A n c _ W (hr.below hS.below) (pzC_one ps) hn).mono ?_
  rintro e w' ⟨v, rfl, ho, hb⟩
  obtain ⟨A', c', hv⟩ := own_form ho
  subst hv
  exact ⟨A', c', rfl, hS.ownB hb ho⟩
/-- an append to a clone: where the new ones lie does not matter -/
theorem flat_two (l : List Pz) (p q : Pz) : (l ++ [p, q]).flatMap pzC = l.flatMap pzC ++ [.int .i64 p.1, .int .i64 p.2, .int .i64 q.1, .int .i64 q.2] := by
  rw [List.flatMap_append]
  rfl
theorem flat_one (l : List Pz) (p : Pz) : (l ++ [p]).flatMap pzC = l.flatMap pzC ++ [.int .i64 p.1, .int .i64 p.2] := flat_pz l p
end Go.Proofs.YtknojcomgccpeaaGreatDoor
