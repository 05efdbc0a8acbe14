/-
  The ends of races in plain words: right steps; without the refused ones a race is the same; who raced, how many; ranks are those of times. No walk.
-/
import Derived.Test.YthbcogekfdllmaaGreatDoorZRfPure
import Derived.Test.YthbcogekfdllmaaGreatDoorZRfT
import Derived.Test.YthbcogekfdllmaaGreatDoorZResP
import Derived.Test.YthbcogekfdllmaaGreatDoorZRf8
import Derived.Test.YthbcogekfdllmaaGreatDoorZStp8
import Derived.Test.YthbcogekfdllmaaGreatDoorZMemI
namespace Go.Proofs.YthbcogekfdllmaaGreatDoor
open Go Go.RowKit

theorem nms6_key {x : ByteArray} (h : x ∈ nms6) (h0 : x.size ≠ 0) (h1 : x.size ≠ 1) : keyB x.data.toList = true := by
  simp only [nms6, List.mem_cons, List.not_mem_nil, or_false] at h
  rcases h with rfl | rfl | rfl | rfl | rfl | rfl
  · decide
  · decide
  · decide
  · decide
  · exact absurd rfl h0
  · exact absurd rfl h1
/-- a right step behind an earlier one -/
def StR (p : Stp) : Prop := (0 ≤ p.at_ ∧ p.at_ ≤ 345686399999) ∧ (1 ≤ p.kind ∧ p.kind ≤ 8) ∧ (p.kind = 5 ↔ p.who.size = 0) ∧ (p.kind ≠ 5 → keyB p.who.data.toList = true)
theorem stE_right {pv : Option Int} {p : Stp} (h : StR p) (hp : ∀ q, pv = some q → q ≤ p.at_) : stE pv p = 0 := by
  obtain ⟨⟨a1, a2⟩, ⟨b1, b2⟩, c, d⟩ := h
  unfold stE
  have h1 : momB p.at_ = true := by unfold momB outB; simp; omega
  have h2 : ¬ outB p.kind 1 8 = true := by unfold outB; simp; omega
  have h3 : ¬ pBeh pv p.at_ = true := by
    unfold pBeh
    cases hpv : pv with
    | none => simp
    | some q => have := hp q hpv; simp; omega
  rw [if_pos h1, if_neg h2]
  by_cases h5 : p.kind = 5
  · rw [if_pos h5, if_pos (c.1 h5), if_neg h3]
  · rw [if_neg h5, if_pos (d h5), if_neg h3]
theorem stG_right : ∀ (l : List Stp) (pv : Option Int), (∀ p ∈ l, StR p) → (∀ q, pv = some q → ∀ p ∈ l, q ≤ p.at_) → StSrt l → stG pv l = 0
  | [], _, _, _, _ => rfl
  | p :: l, pv, h, hp, hs => by
    obtain ⟨h1, h2⟩ := List.pairwise_cons.1 hs
    rw [stG, if_pos (stE_right (h p (List.mem_cons_self ..)) (fun q hq => hp q hq p (List.mem_cons_self ..)))]
    exact stG_right l _ (fun q hq => h q (List.mem_cons_of_mem _ hq)) (fun q hq x hx => by injection hq with hq; subst hq; exact h1 x hx) h2
theorem stF_right {l : List Stp} (h : ∀ p ∈ l, StR p) (hs : StSrt l) (hl : l.length ≤ 1000) : stF l = 0 := by
  unfold stF
  rw [if_neg (by omega)]
  exact stG_right l none h (fun q hq => by cases hq) hs
theorem RStp.right {l : List Stp} {a : Int} (h : RStp l a) (ha : a ≤ 345686399999) : (∀ p ∈ l, StR p) ∧ StSrt l :=
  ⟨fun p hp => ⟨by have := h.at_ p hp; omega, h.kind p hp, h.go_ p hp, fun h5 => nms6_key (h.nm p hp) (fun h0 => h5 ((h.go_ p hp).2 h0)) (h.n1 p hp)⟩, h.srt⟩
/-- without the refused ones -/
theorem wthS_sub (l : List Stp) (r : List Int) : ∀ k, k ≤ l.length → (wthS l r k).Sublist (l.take k)
  | 0, _ => by simp [wthS]
  | k + 1, h => by
    have ih := wthS_sub l r k (by omega)
    rw [wthS_step l r k (by omega), List.take_succ_eq_append_getElem (show k < l.length by omega)]
    split
    · exact ih.trans (List.sublist_append_left _ _)
    · exact ih.append (List.Sublist.refl _)
theorem bad_lt (l : List Stp) : ∀ k, k ≤ l.length → ∀ i ∈ (rfolS (l.take k)).2.2, 0 ≤ i ∧ i < (k : Int)
  | 0, _, i, hi => by simp [rfolS] at hi
  | k + 1, h, i, hi => by
    have ih := bad_lt l k (by omega)
    have hc := rfolS_cnt l k (by omega)
    rw [rfolS_step l k (by omega)] at hi
    unfold accS at hi
    split at hi
    · have := ih i hi; omega
    · rcases List.mem_append.1 hi with hi | hi
      · have := ih i hi; omega
      · simp at hi
        rw [hc] at hi
        omega
theorem bad_pre (l : List Stp) : ∀ k, k ≤ l.length → ∃ t, (rfolS l).2.2 = (rfolS (l.take k)).2.2 ++ t ∧ ∀ i ∈ t, (k : Int) ≤ i := by
  suffices H : ∀ j k, k + j = l.length → ∃ t, (rfolS l).2.2 = (rfolS (l.take k)).2.2 ++ t ∧ ∀ i ∈ t, (k : Int) ≤ i from fun k hk => H (l.length - k) k (by omega)
  intro j
  induction j with
  | zero => exact fun k hk => ⟨[], by rw [List.take_of_length_le (by omega), List.append_nil], (by intro i hi; cases hi)⟩
  | succ j ih =>
    intro k hk
    obtain ⟨t, h1, h2⟩ := ih (k + 1) (by omega)
    have hc := rfolS_cnt l k (by omega)
    rw [rfolS_step l k (by omega)] at h1
    unfold accS at h1
    split at h1
    · exact ⟨t, h1, fun i hi => by have := h2 i hi; omega⟩
    · refine ⟨_ :: t, by rw [h1, List.append_assoc]; rfl, fun i hi => ?_⟩
      rcases List.mem_cons.1 hi with rfl | hi
      · omega
      · have := h2 i hi; omega
theorem bad_at (l : List Stp) (k : Nat) (hk : k < l.length) : memI (rfolS l).2.2 k = (stpP (rfolS (l.take k)).1 l[k]).isNone := by
  obtain ⟨t, h1, h2⟩ := bad_pre l (k + 1) (by omega)
  have hl := bad_lt l k (by omega)
  have hc := rfolS_cnt l k (by omega)
  rw [memI_dec, h1, rfolS_step l k hk]
  unfold accS
  cases hs : stpP (rfolS (l.take k)).1 l[k] with
  | none =>
    simp only [Option.isNone_none, decide_eq_true_eq]
    rw [hc]
    simp
  | some F =>
    simp only [Option.isNone_some, decide_eq_false_iff_not]
    intro hm
    rcases List.mem_append.1 hm with hm | hm
    · have := hl _ hm; omega
    · have := h2 _ hm; omega
theorem wthS_fol (l : List Stp) : ∀ k, k ≤ l.length → rfolS (wthS l (rfolS l).2.2 k) = ((rfolS (l.take k)).1, (wthS l (rfolS l).2.2 k).length, [])
  | 0, _ => by simp [wthS, rfolS]
  | k + 1, h => by
    have ih := wthS_fol l k (by omega)
    have hb := bad_at l k (by omega)
    rw [wthS_step l _ k (by omega), hb, rfolS_step l k (by omega)]
    have e : rfolS (wthS l (rfolS l).2.2 k ++ [l[k]]) = accS stpP (rfolS (wthS l (rfolS l).2.2 k)) l[k] := by
      unfold rfolS
      rw [List.foldl_append]
      rfl
    cases hs : stpP (rfolS (l.take k)).1 l[k] with
    | none =>
      rw [if_pos (show (none : Option PF).isNone = true from rfl), ih, accS_none hs]
    | some F =>
      rw [if_neg (show ¬ (some F).isNone = true by simp), e, ih, accS_some (a := rfolS (l.take k)) hs]
      exact (accS_some (a := ((rfolS (l.take k)).1, (wthS l (rfolS l).2.2 k).length, [])) hs).trans (by rw [List.length_append]; rfl)
/-- a race's steps all lie ahead of its end -/
theorem untilS_all {u : Int} : ∀ {l : List Stp}, (∀ x ∈ l, x.at_ ≤ u) → untilS u l = l
  | [], _ => rfl
  | x :: l, h => by
    have ih := untilS_all (u := u) (l := l) (fun y hy => h y (List.mem_cons_of_mem _ hy))
    unfold untilS at ih ⊢
    rw [List.takeWhile_cons_of_pos (by simpa using h x (List.mem_cons_self ..)), ih]
/-- who started, are two at least -/
theorem ks2 {F F' : PF} {x : Stp} (h : F.st = true → 2 ≤ F.ks.length) (hs : stpP F x = some F') : F'.st = true → 2 ≤ F'.ks.length := by
  unfold stpP at hs
  split at hs
  · rename_i hst
    have h2 := h hst
    unfold aftP at hs
    split at hs
    · cases hs
    · split at hs
      · injection hs with hs; subst hs; exact fun _ => h2
      · split at hs
        · injection hs with hs; subst hs; exact fun _ => h2
        · split at hs
          · injection hs with hs; subst hs; exact fun _ => h2
          · cases hs
  · rename_i hst
    have hF : ∀ G : PF, G.st = F.st → G.st = true → 2 ≤ G.ks.length := fun G h1 h2 => absurd (h1.symm.trans h2) hst
    unfold befP at hs
    split at hs
    · split at hs
      · cases hs
      · injection hs with hs; subst hs; exact hF _ rfl
    · split at hs
      · split at hs
        · injection hs with hs; subst hs; exact hF _ rfl
        · cases hs
      · split at hs
        · split at hs
          · injection hs with hs; subst hs; exact hF _ rfl
          · cases hs
        · split at hs
          · split at hs
            · injection hs with hs; subst hs; exact hF _ rfl
            · cases hs
          · split at hs
            · split at hs
              · cases hs
              · rename_i h5; injection hs with hs; subst hs
                exact fun _ => by show 2 ≤ (rdyP F).length; omega
            · cases hs
theorem fol_ks2 : ∀ (l : List Stp) (a : PF × Nat × List Int), (a.1.st = true → 2 ≤ a.1.ks.length) → (l.foldl (accS stpP) a).1.st = true → 2 ≤ (l.foldl (accS stpP) a).1.ks.length
  | [], _, h => h
  | x :: l, a, h => by
    rw [List.foldl_cons]
    refine fol_ks2 l _ ?_
    cases hs : stpP a.1 x with
    | none => rw [accS_none hs]; exact h
    | some F => rw [accS_some hs]; exact ks2 h hs
theorem rfolP_ks2 (l : List Stp) (u : Int) : (rfolP l u).1.st = true → 2 ≤ (rfolP l u).1.ks.length := fol_ks2 _ _ (fun h => by cases h)
theorem countP_strict {α : Type} (p q : α → Bool) : ∀ (l : List α) (s : α), s ∈ l → (∀ o ∈ l, p o = true → q o = true) → q s = true → p s = false → l.countP p < l.countP q
  | x :: l, s, hm, hi, hq, hp => by
    rw [List.countP_cons, List.countP_cons]
    have hle : l.countP p ≤ l.countP q := List.countP_mono_left (fun o ho h => hi o (List.mem_cons_of_mem _ ho) h)
    rcases List.mem_cons.1 hm with rfl | hm
    · rw [hq, hp]; simp; omega
    · have ih := countP_strict p q l s hm (fun o ho => hi o (List.mem_cons_of_mem _ ho)) hq hp
      have hx := hi x (List.mem_cons_self ..)
      cases hpx : p x <;> cases hqx : q x
      · simpa using ih
      · simp; omega
      · rw [hx hpx] at hqx; cases hqx
      · simp; omega
theorem cfR_eq0 (d : ByteArray → Option Int) (xr xt yr yt : Int) (xn yn : ByteArray) (px py : Bool) (hx : (d xn).isSome = px) (hy : (d yn).isSome = py) :
    cfR d (xr, xn, xt) (yr, yn, yt) = if px = py then (if cmpI xt yt = 0 then cmpS xn yn else cmpI xt yt) else if px = true then -1 else 1 := by
  unfold cfR
  simp only [hx, hy]
  cases px <;> cases py <;> rfl
/-- ranks are those of times: what the law asks of each and the one ahead -/
def rnkB (p z : Res) : Bool := !((decide (p.2.2 = 0) && decide (0 < z.2.2)) || (decide (0 < z.2.2) && (decide (z.2.2 < p.2.2) || (decide (z.2.2 = p.2.2) != decide (z.1 = p.1)))))
theorem ResR.rnk {ks : List ByteArray} {d : ByteArray → Option Int} {a0 : Int} {ys : List Res} (h : ResR ks d a0 ys) (hpos : ∀ s a, d s = some a → a0 < a) (k : Nat) (hk : k + 1 < ys.length) : rnkB ys[k] ys[k + 1] = true := by
  have hup := List.pairwise_iff_getElem.1 h.up k (k + 1) (by omega) hk (by omega)
  obtain ⟨s, hs, e1⟩ := List.mem_map.1 (h.pm.mem_iff.1 (List.getElem_mem (show k < ys.length by omega)))
  obtain ⟨t, ht, e2⟩ := List.mem_map.1 (h.pm.mem_iff.1 (List.getElem_mem hk))
  rw [← e1, ← e2] at hup ⊢
  have hneg := (ord3_cfR d).neg (rsE ks d a0 s) (rsE ks d a0 t)
  unfold rnkB
  unfold rsE at hup ⊢
  simp only
  rcases Option.eq_none_or_eq_some (d t) with hdt | ⟨b, hdt⟩
  · simp [tmE, hdt]
  · have hb := hpos t b hdt
    rcases Option.eq_none_or_eq_some (d s) with hds | ⟨a, hds⟩
    · rw [cfR_eq0 d _ _ _ _ t s true false (by rw [hdt]; rfl) (by rw [hds]; rfl), if_neg (by decide), if_pos rfl] at hup
      exact absurd hup (by decide)
    · skip
      have ha := hpos s a hds
      rw [cfR_eq0 d _ _ _ _ t s true true (by rw [hdt]; rfl) (by rw [hds]; rfl), if_pos rfl] at hup
      have e3 : tmE d a0 s = a - a0 := by unfold tmE; rw [hds]
      have e4 : tmE d a0 t = b - a0 := by unfold tmE; rw [hdt]
      rw [e3, e4] at hup ⊢
      have hab : a ≤ b := by
        by_cases hc : cmpI (b - a0) (a - a0) = 0
        · have := cmpI_z hc; omega
        · rw [if_neg hc] at hup
          unfold cmpI at hup hc
          split at hup
          · omega
          · omega
      have hrk : decide (b - a0 = a - a0) = decide ((aheadE ks d (some b) : Int) + 1 = (aheadE ks d (some a) : Int) + 1) := by
        by_cases he : a = b
        · subst he; simp
        · have hlt : aheadE ks d (some a) < aheadE ks d (some b) := by
            unfold aheadE
            refine countP_strict _ _ ks s hs (fun o _ ho => ?_) ?_ ?_
            · cases hdo : d o with
              | none => rw [hdo] at ho; cases ho
              | some c =>
                rw [hdo] at ho
                have ho : decide (c < a) = true := ho
                have ho := of_decide_eq_true ho
                exact decide_eq_true (by omega)
            · rw [hds]; exact decide_eq_true (by omega)
            · rw [hds]; exact decide_eq_false (by omega)
          rw [decide_eq_false (by omega), decide_eq_false (by omega)]
      rw [hds, hdt, hrk, decide_eq_false (show ¬ a - a0 = 0 by omega), decide_eq_false (show ¬ b - a0 < a - a0 by omega)]
      simp
theorem fol_all {l : List Stp} (h : ∀ p ∈ l, StR p) : rfolP l 345686400000 = rfolS l ∧ rfolP l 345686399999 = rfolS l :=
  ⟨by unfold rfolP; rw [untilS_all (fun x hx => by have := (h x hx).1.2; omega)], by unfold rfolP; rw [untilS_all (fun x hx => (h x hx).1.2)]⟩
/-- the steps without the refused ones -/
def clnS (l : List Stp) : List Stp := wthS l (refS l) l.length
theorem cln_right {l : List Stp} (h : ∀ p ∈ l, StR p) (hs : StSrt l) (hl : l.length ≤ 1000) : stF (clnS l) = 0 ∧ (∀ p ∈ clnS l, StR p) ∧ (clnS l).length ≤ 1000 := by
  have hsub : (clnS l).Sublist l := by
    have := wthS_sub l (refS l) l.length (Nat.le_refl _)
    rw [List.take_length] at this
    exact this
  have h2 : ∀ p ∈ clnS l, StR p := fun p hp => h p (hsub.subset hp)
  have h3 : (clnS l).length ≤ 1000 := Nat.le_trans hsub.length_le hl
  exact ⟨stF_right h2 (List.Pairwise.sublist hsub hs) h3, h2, h3⟩
theorem cln_fol {l : List Stp} (h : ∀ p ∈ l, StR p) (hf : stF l = 0) (hy : ∀ p ∈ clnS l, StR p) : (rfolP (clnS l) 345686400000).1 = (rfolP l 345686400000).1 ∧ (rfolP (clnS l) 345686400000).2.2 = [] := by
  have hr : refS l = (rfolS l).2.2 := by unfold refS; rw [if_pos hf, (fol_all h).1]
  rw [(fol_all hy).1, (fol_all h).1]
  unfold clnS
  rw [hr, wthS_fol l l.length (Nat.le_refl _), List.take_length]
  exact ⟨rfl, rfl⟩
theorem cln_ref {l : List Stp} (h : ∀ p ∈ l, StR p) (hf : stF l = 0) (hy : ∀ p ∈ clnS l, StR p) (hfy : stF (clnS l) = 0) : refS (clnS l) = [] := by
  unfold refS
  rw [if_pos hfy]
  exact (cln_fol h hf hy).2
theorem cln_rsF {l : List Stp} (h : ∀ p ∈ l, StR p) (hf : stF l = 0) (hy : ∀ p ∈ clnS l, StR p) (hfy : stF (clnS l) = 0) : rsF (clnS l) = rsF l := by
  unfold rsF
  rw [if_pos hfy, if_pos hf, (cln_fol h hf hy).1]
theorem ren_st {l : List Stp} (hf : stF l = 0) : (srtB l = true ∧ rsF l = 0) ∨ (srtB l = false ∧ rsF l = 11) := by
  unfold srtB rsF
  rw [if_pos hf, if_pos hf]
  cases hs : (rfolP l 345686400000).1.st
  · exact .inr ⟨rfl, rfl⟩
  · exact .inl ⟨rfl, rfl⟩
theorem ren_mf {l : List Stp} (hf : stF l = 0) : mfS l 345686399999 = 0 := by
  unfold mfS
  rw [if_pos hf, if_pos (by decide)]
theorem ren_two {l : List Stp} (hf : stF l = 0) (hs : srtB l = true) : 2 ≤ (rfolP l 345686400000).1.ks.length := by
  unfold srtB at hs
  rw [if_pos hf] at hs
  exact rfolP_ks2 l _ hs
theorem ren_pos {l : List Stp} (hf : stF l = 0) : ∀ s a, dP (rfolP l 345686400000).1 s = some a → (rfolP l 345686400000).1.at0 < a := by
  intro s a h
  exact (rfolP_inv 345686400000 (stF_ok hf).1).1.dn s a (dP_some h)
end Go.Proofs.YthbcogekfdllmaaGreatDoor
