/-
  Races, both sides alike: what the program answers, the reference answers. No walk.
-/
import Derived.Test.YthbcogekfdllmaaGreatZRf8
import Derived.Test.YthbcogekfdllmaaGreatZQf6
namespace Go.Proofs.YthbcogekfdllmaaGreat
open Go Go.RowKit

theorem stE_prev {pv : Option Int} {p : Stp} (h : stE pv p = 0) : ∀ q, pv = some q → q ≤ p.at_ := by
  intro q hq
  have hb : pBeh pv p.at_ = true → False := fun hb => by
    unfold stE at h
    rw [if_pos hb] at h
    by_cases h1 : momB p.at_ = true
    · rw [if_pos h1] at h
      by_cases h2 : outB p.kind 1 8 = true
      · rw [if_pos h2] at h; exact absurd h (by decide)
      · rw [if_neg h2] at h
        by_cases h3 : p.kind = 5
        · rw [if_pos h3] at h
          by_cases h4 : p.who.size = 0
          · rw [if_pos h4] at h; exact absurd h (by decide)
          · rw [if_neg h4] at h; exact absurd h (by decide)
        · rw [if_neg h3] at h
          by_cases h4 : keyB p.who.data.toList = true
          · rw [if_pos h4] at h; exact absurd h (by decide)
          · rw [if_neg h4] at h; exact absurd h (by decide)
    · rw [if_neg h1] at h; exact absurd h (by decide)
  subst hq
  unfold pBeh at hb
  simp at hb
  exact hb
theorem stG_srt : ∀ (l : List Stp) (pv : Option Int), stG pv l = 0 → (∀ q, pv = some q → ∀ x ∈ l, q ≤ x.at_) ∧ StSrt l
  | [], _, _ => ⟨(fun _ _ x hx => by cases hx), List.Pairwise.nil⟩
  | p :: l, pv, h => by
    rw [stG] at h
    by_cases h0 : stE pv p = 0
    · rw [if_pos h0] at h
      obtain ⟨h1, h2⟩ := stG_srt l (some p.at_) h
      have h3 := stE_prev h0
      refine ⟨fun q hq x hx => ?_, List.pairwise_cons.2 ⟨fun x hx => h1 _ rfl x hx, h2⟩⟩
      rcases List.mem_cons.1 hx with rfl | hx
      · exact h3 q hq
      · exact Int.le_trans (h3 q hq) (h1 _ rfl x hx)
    · rw [if_neg h0] at h; exact absurd h h0
theorem stF_srt {l : List Stp} (h : stF l = 0) : StSrt l := by
  unfold stF at h
  by_cases hl : 1000 < l.length
  · rw [if_pos hl] at h; exact absurd h (by decide)
  · rw [if_neg hl] at h; exact (stG_srt l none h).2
theorem stF_rel {l : List Stp} (h : stF l = 0) (u : Int) : (∃ t, RF (rfolP l u).1 (rfolQ l u).1 t) ∧ (rfolP l u).2.2 = (rfolQ l u).2.2 :=
  rfolP_rel l u (stF_srt h) (fun x hx => ⟨((stF_ok h).1.at_ x hx).1, (stF_ok h).1.kind x hx⟩)
theorem alike_ref {l : List Stp} (h : stF l = 0) : refS l = (rfolQ l 345686400000).2.2 := by
  unfold refS
  rw [if_pos h]
  exact (stF_rel h _).2
theorem RF.stq {F : PF} {G : QF} {t : Int} (h : RF F G t) : F.st = decide (0 ≤ G.at0) := by
  cases hs : F.st with
  | true => have := h.on hs; exact (decide_eq_true (by omega)).symm
  | false => have := h.off hs; exact (decide_eq_false (by omega)).symm
theorem RF.atq {F : PF} {G : QF} {t : Int} (h : RF F G t) : F.at0 = max 0 G.at0 := by
  cases hs : F.st with
  | true => have := h.on hs; omega
  | false => have := h.off hs; omega
theorem alike_srtA {l : List Stp} (h : stF l = 0) : srtA l = max 0 (rfolQ l 345686400000).1.at0 := by
  unfold srtA
  rw [if_pos h]
  obtain ⟨⟨t, hr⟩, _⟩ := stF_rel h 345686400000
  exact hr.atq
theorem alike_srtB {l : List Stp} (h : stF l = 0) : srtB l = decide (0 ≤ (rfolQ l 345686400000).1.at0) := by
  unfold srtB
  rw [if_pos h]
  obtain ⟨⟨t, hr⟩, _⟩ := stF_rel h 345686400000
  exact hr.stq
theorem alike_rsF {l : List Stp} (h : stF l = 0) : rsF l = if (rfolQ l 345686400000).1.at0 < 0 then 11 else 0 := by
  unfold rsF
  rw [if_pos h]
  obtain ⟨⟨t, hr⟩, _⟩ := stF_rel h 345686400000
  rw [hr.stq]
  by_cases h0 : 0 ≤ (rfolQ l 345686400000).1.at0
  · rw [if_pos (decide_eq_true h0), if_neg (by omega)]
  · rw [if_neg (by simpa using h0), if_pos (by omega)]
theorem RF.nob {F : PF} {G : QF} {t : Int} (h : RF F G t) : nobP F = nobQ G := by
  unfold nobP nobQ
  rw [h.ks]
  congr 1
  funext s
  rw [h.hw]
theorem alike_ov {l : List Stp} {u : Int} (h : mfS l u = 0) : ovS l u = ovQ l u := by
  unfold ovS ovQ
  rw [if_pos h]
  obtain ⟨⟨t, hr⟩, _⟩ := stF_rel (mfS_ok h).1 u
  rw [hr.nob, hr.stq]
theorem alike_ent {l : List Stp} {u : Int} (h : mfS l u = 0) : hwP (rfolP l u).1 = (rfolQ l u).1.hw := by
  obtain ⟨⟨t, hr⟩, _⟩ := stF_rel (mfS_ok h).1 u
  funext s
  exact (hr.hw s).symm
theorem alike_res {l : List Stp} (h : stF l = 0) {x y : List Res} (hp : rsF l = 0 → ResR (rfolP l 345686400000).1.ks (dP (rfolP l 345686400000).1) (rfolP l 345686400000).1.at0 x) (hp0 : rsF l ≠ 0 → x = [])
    (hq : 0 ≤ (rfolQ l 345686400000).1.at0 → ResR (rfolQ l 345686400000).1.ks (dQ (rfolQ l 345686400000).1) (rfolQ l 345686400000).1.at0 y) (hq0 : (rfolQ l 345686400000).1.at0 < 0 → y = []) : x = y := by
  have hf := alike_rsF h
  obtain ⟨⟨t, hr⟩, _⟩ := stF_rel h 345686400000
  by_cases h0 : 0 ≤ (rfolQ l 345686400000).1.at0
  · rw [if_neg (by omega)] at hf
    have h1 := hp hf
    have h2 := hq h0
    have ha := hr.atq
    rw [show max 0 (rfolQ l 345686400000).1.at0 = (rfolQ l 345686400000).1.at0 by omega] at ha
    rw [← hr.ks, dQ_eq hr, ha] at h1
    exact h1.one h2
  · rw [if_pos (by omega)] at hf
    rw [hp0 (by rw [hf]; decide), hq0 (by omega)]
end Go.Proofs.YthbcogekfdllmaaGreat
