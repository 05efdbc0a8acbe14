/-
  The program's clock at a moment and the reference's attempt stand alike: plain words.
-/
import Derived.Test.YtedfieopmjpibaaDoorZPrs17
import Derived.Test.YtedfieopmjpibaaDoorZPrs12
namespace Go.Proofs.YtedfieopmjpibaaDoor
open Go Go.RowKit

theorem stop_gt {l : List Pz} (hl : PzOk l) {u : Int} {K : Nat} (h : Stop l u K) : ∀ j (hj : j < l.length), K ≤ j → u < l[j].1
  | j, hj, hK => by
    rcases Nat.lt_or_ge K j with hlt | hge
    · have ih := stop_gt hl h (j - 1) (by omega) (by omega)
      have ho := hl.order (j - 1) (by omega)
      have he : j - 1 + 1 = j := by omega
      simp only [he] at ho
      omega
    · obtain rfl : K = j := by omega
      exact h.end_ hj
  termination_by j => j
theorem fol_stop {n : Nat} {l : List Pz} (hl : PzOk l) {u : Int} {K : Nat} (h : Stop l u K) : ∀ j, K ≤ j → j ≤ l.length → folP n u l j = folP n u l K
  | 0, hK, _ => by rw [show K = 0 by omega]
  | j + 1, hK, hj => by
    rcases Nat.lt_or_ge K (j + 1) with hlt | hge
    · have h1 := stop_gt hl h j (by omega) (by omega)
      rw [folP_step n u l j (by omega), if_neg (by omega)]
      exact fol_stop hl h j (by omega) (by omega)
    · rw [show K = j + 1 by omega]
theorem at_rel {n : Nat} (hn : 1 ≤ n) {l : List Pz} (hl : PzOk l) {u : Int} (hu : 0 ≤ u) {K : Nat} (h : Stop l u K) : CRel n (atK n l u) (plaQ n l K).a := by
  have hp := fol_rel hn hl u K h.le (fun i hi hk => h.up i hi hk)
  have hat : (folP n u l K).1.at_ ≤ u := by
    cases K with
    | zero => rw [hp.at0 rfl]; exact hu
    | succ j =>
      have hj : j < l.length := by have := h.le; omega
      rw [hp.at_ j hj rfl]
      exact h.up j hj (by omega)
  unfold atK
  rw [fol_stop hl h l.length h.le (Nat.le_refl _)]
  exact hp.rel.adv u hat
theorem atK_at (n : Nat) (l : List Pz) (u : Int) : (atK n l u).at_ = u := rfl

/-- the one that ends the last segment is no skip -/
structure LK (n : Nat) (a : Option Att) : Prop where
  le : ∀ x, a = some x → x.ended.length ≤ n
  last : ∀ x, a = some x → x.ended.length = n → ∀ p, x.ended.getLast? = some p → p.2 ≠ 3
theorem LK.done {n : Nat} (hn : 1 ≤ n) {a : Option Att} (h : LK n a) {p : Pz} (_hk : 1 ≤ p.2 ∧ p.2 ≤ 9) (hr : refQ n a p.2 = false) : LK n (doneQ a p) := by
  unfold doneQ
  by_cases h1 : p.2 = 1
  · rw [if_pos h1]
    exact ⟨fun x hx => by injection hx with hx; subst hx; simp, fun x hx _ q hq => by injection hx with hx; subst hx; simp at hq⟩
  rw [if_neg h1]
  by_cases h23 : p.2 = 2 ∨ p.2 = 3
  · rw [if_pos h23]
    cases a with
    | none => exact ⟨fun x hx => by simp at hx, fun x hx => by simp at hx⟩
    | some y =>
      have hy := h.le y rfl
      have hph : phaseQ n (some y) = 1 := by
        unfold refQ at hr
        rcases h23 with e | e
        · simpa [e] using hr
        · simp [e] at hr
          exact hr.1
      have hne : y.ended.length ≠ n := by
        rcases phase_cases n y with ⟨k1, _⟩ | ⟨_, k2, _⟩ | ⟨k1, _⟩ <;> omega
      refine ⟨fun x hx => ?_, fun x hx hxn q hq => ?_⟩
      · simp at hx; subst hx; simp; omega
      · simp at hx; subst hx
        simp at hq hxn
        subst hq
        rcases h23 with e | e
        · omega
        · unfold refQ at hr
          simp [e] at hr
          omega
  rw [if_neg h23]
  by_cases h4 : p.2 = 4
  · rw [if_pos h4]
    cases a with
    | none => exact ⟨fun x hx => by simp at hx, fun x hx => by simp at hx⟩
    | some y =>
      have hy := h.le y rfl
      refine ⟨fun x hx => ?_, fun x hx hxn q hq => ?_⟩
      · simp at hx; subst hx; simp; omega
      · simp at hx; subst hx
        simp at hxn
        omega
  rw [if_neg h4]
  by_cases h58 : p.2 = 5 ∨ p.2 = 6 ∨ p.2 = 7 ∨ p.2 = 8
  · rw [if_pos h58]
    cases a with
    | none => exact ⟨fun x hx => by simp at hx, fun x hx => by simp at hx⟩
    | some y =>
      refine ⟨fun x hx => ?_, fun x hx hxn q hq => ?_⟩
      · simp at hx; subst hx; exact h.le y rfl
      · simp at hx; subst hx; exact h.last y rfl hxn q hq
  · rw [if_neg h58]
    exact ⟨fun x hx => by simp at hx, fun x hx => by simp at hx⟩
theorem pla_lk {n : Nat} (hn : 1 ≤ n) {l : List Pz} (hl : PzOk l) : ∀ k, k ≤ l.length → LK n (plaQ n l k).a
  | 0, _ => ⟨fun x hx => by simp [plaQ] at hx, fun x hx => by simp [plaQ] at hx⟩
  | k + 1, hk => by
    have hlt : k < l.length := by omega
    have ih := pla_lk hn hl k (by omega)
    have hkd := hl.kind _ (List.getElem_mem hlt)
    rw [plaQ_step n l k hlt]
    cases hr : refQ n (plaQ n l k).a l[k].2
    · rw [if_neg (by simp)]
      exact ih.done hn hkd hr
    · rw [if_pos rfl]
      exact ih

/-- all moments of an attempt are those of presses -/
theorem pla_atb (n : Nat) {l : List Pz} (hl : PzOk l) (hm : l.length ≤ 2000) (k : Nat) (hk : k ≤ l.length) : ∀ x, (plaQ n l k).a = some x → AtB x := by
  have hqb := pla_bd n l k hk
  suffices hs : ∀ j, j ≤ l.length → ∀ x, (plaQ n l j).a = some x → (0 ≤ x.start ∧ x.start ≤ 345686400000) ∧ (∀ p ∈ x.breaks, 0 ≤ p.1 ∧ p.1 ≤ 345686400000) ∧ (∀ p ∈ x.ended, 0 ≤ p.1 ∧ p.1 ≤ 345686400000) by
    intro x hx
    obtain ⟨h1, h2, h3⟩ := hs k hk x hx
    have := hqb.breaks x hx
    have := hqb.ended x hx
    exact ⟨h1, h2, h3, by omega, by omega⟩
  intro j
  induction j with
  | zero => intro _ x hx; simp [plaQ] at hx
  | succ j ih =>
    intro hj x hx
    have hlt : j < l.length := by omega
    have ih := ih (by omega)
    have hpb := hl.at_ _ (List.getElem_mem hlt)
    rw [plaQ_step n l j hlt] at hx
    obtain ⟨a, ha⟩ : ∃ a, (plaQ n l j).a = a := ⟨_, rfl⟩
    obtain ⟨p, hp⟩ : ∃ p, l[j] = p := ⟨_, rfl⟩
    rw [ha] at ih
    rw [hp] at hpb hx
    split at hx
    · rw [ha] at hx; exact ih x hx
    · simp only at hx
      rw [ha] at hx
      unfold doneQ at hx
      split at hx
      · injection hx with hx; subst hx; exact ⟨by simp only; omega, by simp, by simp⟩
      · split at hx
        · obtain ⟨y, hy, rfl⟩ := Option.map_eq_some_iff.1 hx
          obtain ⟨h1, h2, h3⟩ := ih y hy
          refine ⟨h1, h2, fun q hq => ?_⟩
          rcases List.mem_append.1 hq with hq | hq
          · exact h3 q hq
          · simp at hq; subst hq; omega
        · split at hx
          · obtain ⟨y, hy, rfl⟩ := Option.map_eq_some_iff.1 hx
            obtain ⟨h1, h2, h3⟩ := ih y hy
            exact ⟨h1, h2, fun q hq => h3 q (List.mem_of_mem_take hq)⟩
          · split at hx
            · obtain ⟨y, hy, rfl⟩ := Option.map_eq_some_iff.1 hx
              obtain ⟨h1, h2, h3⟩ := ih y hy
              refine ⟨h1, fun q hq => ?_, h3⟩
              rcases List.mem_append.1 hq with hq | hq
              · exact h2 q hq
              · simp at hq; subst hq; omega
            · cases hx

/-- the cuts stand alike -/
theorem cuts_alike {n : Nat} {c : Clk} {a : Option Att} (h : CRel n c a) : cutsQ a = c.cuts := by
  cases a with
  | none => exact (h.none_ rfl).1.symm
  | some x => exact (h.some_ x rfl).2.2.1.symm
/-- up to when an attempt's times are reckoned -/
def lastAt (n : Nat) (x : Att) (u : Int) : Int := if x.ended.length = n then (x.ended.getLastD (u, 0)).1 else u
theorem times_alike {n : Nat} (hn : 1 ≤ n) {c : Clk} {x : Att} (h : CRel n c (some x)) (hk : LK n (some x)) : timesP c = timesQ x.start x.breaks (lastAt n x c.at_) := by
  obtain ⟨h1, h2, h3, _, _, _, h7, h8⟩ := h.some_ x rfl
  have hp := h.phase
  unfold timesP lastAt
  by_cases hd : x.ended.length = n
  · have hp3 : c.phase = 3 := by rw [hp]; unfold phaseQ; simp [hd]
    rw [if_pos hp3, if_pos hd]
    have hne : x.ended ≠ [] := by intro e; rw [e] at hd; simp at hd; omega
    obtain ⟨p, hpl⟩ : ∃ p, x.ended.getLast? = some p := ⟨x.ended.getLast hne, List.getLast?_eq_some_getLast hne⟩
    have hl3 := hk.last x rfl hd p hpl
    have he := (h8 hd).2
    rw [h3, List.getLast?_map, hpl] at he
    simp at he
    rw [← he]
    unfold cutQ
    rw [if_neg hl3]
    have : (x.ended.getLastD (c.at_, 0)).1 = p.1 := by rw [List.getLastD_eq_getLast?, hpl]; rfl
    rw [this]
  · have hp3 : c.phase ≠ 3 := by
      rw [hp]
      rcases phase_cases n x with ⟨_, k2⟩ | ⟨k1, _⟩ | ⟨k1, _⟩ <;> omega
    rw [if_neg hp3, if_neg hd]
    exact h2
end Go.Proofs.YtedfieopmjpibaaDoor
