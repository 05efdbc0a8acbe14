/-
  EachCentOnce, in plain words. No Go text is named here.
-/
import Derived.Test.YtohhbkodfidfkaaGreatDoorZGft8
import Derived.Test.YtohhbkodfidfkaaGreatDoorZBid10
import Derived.Deep.MidRow
import Derived.Deep.RegionHeld3
import Derived.RegionTactic
import Derived.ChangeAlike
import Derived.BigRegion
import Derived.Outline
import Derived.Test.YtohhbkodfidfkaaGreatDoorZSortMem
import Derived.Deep.DeepCutAuto
namespace Go.Proofs.YtohhbkodfidfkaaGreatDoor
open Go Go.RowKit

/-! ### right gifts -/
def EltG (t : Gf → Int) (x : Gf) : Prop := keyB x.id.data.toList = true ∧ (!momB x.at_ || outB x.cents 1 1000000000) = false ∧ t x = 0
theorem giftE_iff (t : Gf → Int) (pv : Option Gf) (x : Gf) : giftE t pv x = 0 ↔ EltG t x ∧ lateG pv x = false := by
  unfold giftE EltG
  cases h1 : keyB x.id.data.toList
  · simp
  · cases h2 : (!momB x.at_ || outB x.cents 1 1000000000)
    · by_cases h3 : t x = 0
      · cases h4 : lateG pv x <;> simp [h3]
      · simp [h3]
    · simp
theorem beh_no {y x z : Gf} (h1 : behG y x = false) (h2 : behG x z = false) : behG y z = false := by
  cases h : behG y z
  · rfl
  · have := beh_trans (beh_total h2) h
    rw [h1] at this
    exact absurd this (by decide)
theorem giftsG_iff (t : Gf → Int) : ∀ (gs : List Gf) (pv : Option Gf), giftsG t pv gs = 0 ↔ (∀ x ∈ gs, EltG t x) ∧ (∀ x ∈ gs, lateG pv x = false) ∧ gs.Pairwise (fun x y => behG x y = false)
  | [], pv => by simp [giftsG]
  | x :: gs, pv => by
    have ih := giftsG_iff t gs (some x)
    have he := giftE_iff t pv x
    rw [giftsG]
    constructor
    · intro h
      by_cases h0 : giftE t pv x = 0
      · rw [if_pos h0, ih] at h
        obtain ⟨h1, h2, h3⟩ := h
        obtain ⟨h4, h5⟩ := he.1 h0
        refine ⟨fun z hz => ?_, fun z hz => ?_, List.pairwise_cons.2 ⟨fun z hz => h2 z hz, h3⟩⟩
        · rcases List.mem_cons.1 hz with rfl | hz
          · exact h4
          · exact h1 z hz
        · rcases List.mem_cons.1 hz with rfl | hz
          · exact h5
          · cases pv with
            | none => rfl
            | some y => exact beh_no h5 (h2 z hz)
      · rw [if_neg h0] at h
        exact absurd h h0
    · rintro ⟨h1, h2, h3⟩
      obtain ⟨h4, h5⟩ := List.pairwise_cons.1 h3
      rw [if_pos (he.2 ⟨h1 x (List.mem_cons_self ..), h2 x (List.mem_cons_self ..)⟩), ih]
      exact ⟨fun z hz => h1 z (List.mem_cons_of_mem _ hz), fun z hz => h4 z hz, h5⟩
theorem dupTo_uniq {gs : List Gf} (h : UniqG gs) : ∀ k, k ≤ gs.length → dupTo gs k = false
  | 0, _ => rfl
  | k + 1, hk => by
    rw [dupTo_step gs k hk, dupTo_uniq h k (by omega), Bool.false_or, List.any_eq_false]
    intro o ho
    obtain ⟨i, hi, rfl⟩ := List.mem_iff_getElem.1 ho
    rw [List.length_take] at hi
    rw [List.getElem_take]
    have := (List.pairwise_iff_getElem.1 h) i k (by omega) (by omega) (by omega)
    rw [this]
    decide
theorem giftsF_iff (t : Gf → Int) (gs : List Gf) : giftsF t gs = 0 ↔ gs.length ≤ 2000 ∧ (∀ x ∈ gs, EltG t x) ∧ gs.Pairwise (fun x y => behG x y = false) ∧ UniqG gs := by
  constructor
  · intro h
    have hu := (right_uniq h).2
    unfold giftsF at h
    by_cases h1 : 2000 < gs.length
    · rw [if_pos h1] at h; exact absurd h (by decide)
    · rw [if_neg h1] at h
      by_cases h2 : giftsG t none gs = 0
      · obtain ⟨h3, _, h5⟩ := (giftsG_iff t gs none).1 h2
        exact ⟨by omega, h3, h5, hu⟩
      · rw [if_neg h2] at h; exact absurd h h2
  · rintro ⟨h1, h2, h3, h4⟩
    unfold giftsF
    rw [if_neg (by omega), if_pos ((giftsG_iff t gs none).2 ⟨h2, fun _ _ => rfl, h3⟩), dupTo_uniq h4 _ (Nat.le_refl _)]
    rfl
/-- a part of right gifts is right -/
theorem giftsF_sub {t t' : Gf → Int} {gs p : List Gf} (h : giftsF t gs = 0) (hp : p.Sublist gs) (ht : ∀ x ∈ p, t' x = 0) : giftsF t' p = 0 := by
  obtain ⟨h1, h2, h3, h4⟩ := (giftsF_iff t gs).1 h
  refine (giftsF_iff t' p).2 ⟨Nat.le_trans hp.length_le h1, fun x hx => ?_, h3.sublist hp, List.Pairwise.sublist hp h4⟩
  obtain ⟨a, b, _⟩ := h2 x (hp.subset hx)
  exact ⟨a, b, ht x hx⟩
theorem right_srt {t : Gf → Int} {gs : List Gf} (h : giftsF t gs = 0) : SrtG gs := by
  obtain ⟨_, _, h3, _⟩ := (giftsF_iff t gs).1 h
  exact h3.imp (fun hxy => beh_total hxy)

/-! ### two parts merged are the whole -/
theorem mrgF_in {g : List Gf} (hu : UniqG g) : ∀ (r acc : List Gf), (∀ y ∈ acc, y ∈ g) → (∀ y ∈ r, y ∈ g) → ∃ a, mrgF acc r = some a ∧ ∀ y, y ∈ a ↔ y ∈ acc ∨ y ∈ r
  | [], acc, _, _ => ⟨acc, rfl, fun y => by simp⟩
  | x :: r, acc, ha, hr => by
    have hx := hr x (List.mem_cons_self ..)
    have hr' := fun y hy => hr y (List.mem_cons_of_mem _ hy)
    rw [mrgF]
    cases hf : findG acc x.id with
    | none =>
      have e : mrgG acc x = some (acc ++ [x]) := by unfold mrgG; rw [hf]
      rw [e]
      obtain ⟨a, h1, h2⟩ := mrgF_in hu r (acc ++ [x]) (fun y hy => by
        rcases List.mem_append.1 hy with hy | hy
        · exact ha y hy
        · rw [List.mem_singleton.1 hy]; exact hx) hr'
      refine ⟨a, h1, fun y => ?_⟩
      rw [h2, List.mem_append, List.mem_singleton, List.mem_cons, or_assoc]
    | some o =>
      have ho := findG_mem hf
      have hox : o = x := uniq_eq hu o (ha o ho) x hx (findG_id hf)
      subst hox
      have e : mrgG acc o = some acc := by
        unfold mrgG
        rw [hf]
        exact if_pos ((sameGf_iff o o).2 rfl)
      rw [e]
      obtain ⟨a, h1, h2⟩ := mrgF_in hu r acc ha hr'
      refine ⟨a, h1, fun y => ?_⟩
      rw [h2, List.mem_cons]
      constructor
      · rintro (h | h)
        · exact .inl h
        · exact .inr (.inr h)
      · rintro (h | h | h)
        · exact .inl h
        · exact .inl (h ▸ ho)
        · exact .inr h
theorem uniq_nodup {l : List Gf} (h : UniqG l) : l.Nodup := h.imp (fun hxy he => by rw [he, eqS_self] at hxy; exact absurd hxy (by decide))
theorem mrg_parts {t : Gf → Int} {g p q : List Gf} (h : giftsF t g = 0) (hp : p.Sublist g) (hq : q.Sublist g) (hpq : ∀ y ∈ g, y ∈ p ∨ y ∈ q) (hk : ∀ x ∈ g, keysT x = 0) :
    mergeE p q = 0 ∧ ∀ l, (∃ acc, mrgF [] (p ++ q) = some acc ∧ l.Perm acc ∧ SrtG l) → l = g := by
  obtain ⟨h1, _, _, h4⟩ := (giftsF_iff t g).1 h
  have e1 := giftsF_sub h hp (fun x hx => hk x (hp.subset hx))
  have e2 := giftsF_sub h hq (fun x hx => hk x (hq.subset hx))
  have hin : ∀ y ∈ p ++ q, y ∈ g := fun y hy => by
    rcases List.mem_append.1 hy with hy | hy
    · exact hp.subset hy
    · exact hq.subset hy
  obtain ⟨a, ha, hm⟩ := mrgF_in h4 (p ++ q) [] (fun y hy => by cases hy) hin
  have hua := mrgF_uniq (p ++ q) [] a List.Pairwise.nil ha
  have hperm : a.Perm g := by
    rw [List.perm_ext_iff_of_nodup (uniq_nodup hua) (uniq_nodup h4)]
    intro y
    rw [hm]
    constructor
    · rintro (hy | hy)
      · cases hy
      · exact hin y hy
    · intro hy
      exact .inr (List.mem_append.2 (hpq y hy))
  refine ⟨?_, ?_⟩
  · unfold mergeE
    rw [e1, e2, ha]
    simp only [firstE, mrgE]
    rw [if_pos (by decide), if_neg (by rw [hperm.length_eq]; omega)]
  · rintro l ⟨acc, hacc, hl, hs⟩
    rw [ha] at hacc
    injection hacc with hacc
    subst hacc
    exact srt_one h4 (hl.trans hperm) (List.Perm.refl _) hs (right_srt h)

/-! ### sums -/
def sm (p : Gf → Bool) (at_ : Int) : List Gf → Int
  | [] => 0
  | x :: l => (if p x = true ∧ x.at_ ≤ at_ then x.cents else 0) + sm p at_ l
theorem sm_append (p : Gf → Bool) (at_ : Int) (b : List Gf) : ∀ a, sm p at_ (a ++ b) = sm p at_ a + sm p at_ b
  | [] => by simp [sm]
  | x :: a => by rw [List.cons_append, sm, sm, sm_append p at_ b a]; omega
theorem sm_step (p : Gf → Bool) (at_ : Int) (l : List Gf) (k : Nat) (hk : k < l.length) : sm p at_ (l.take (k + 1)) = if p l[k] = true ∧ l[k].at_ ≤ at_ then sm p at_ (l.take k) + l[k].cents else sm p at_ (l.take k) := by
  rw [List.take_succ_eq_append_getElem hk, sm_append, sm, sm]
  split <;> omega
theorem sm_congr {p q : Gf → Bool} {at_ : Int} : ∀ {l : List Gf}, (∀ x ∈ l, p x = q x) → sm p at_ l = sm q at_ l
  | [], _ => rfl
  | x :: l, h => by rw [sm, sm, h x (List.mem_cons_self ..), sm_congr (fun y hy => h y (List.mem_cons_of_mem _ hy))]
theorem sm_filter (p q : Gf → Bool) (at_ : Int) : ∀ l : List Gf, sm p at_ (l.filter q) = sm (fun x => q x && p x) at_ l
  | [] => rfl
  | x :: l => by
    rw [List.filter_cons, sm]
    cases hq : q x
    · rw [if_neg (by decide), sm_filter p q at_ l]; simp
    · rw [if_pos rfl, sm, sm_filter p q at_ l]; simp
theorem sm_nonneg {p : Gf → Bool} {at_ : Int} : ∀ {l : List Gf}, (∀ x ∈ l, 0 ≤ x.cents) → 0 ≤ sm p at_ l
  | [], _ => by simp [sm]
  | x :: l, h => by
    have h1 := h x (List.mem_cons_self ..)
    have h2 := sm_nonneg (p := p) (at_ := at_) (fun y hy => h y (List.mem_cons_of_mem _ hy))
    rw [sm]
    split <;> omega
theorem sm_bd {p : Gf → Bool} {at_ : Int} : ∀ {l : List Gf}, (∀ x ∈ l, 0 ≤ x.cents ∧ x.cents ≤ 2199023255552) → 0 ≤ sm p at_ l ∧ sm p at_ l ≤ 2199023255552 * (l.length : Int)
  | [], _ => by simp [sm]
  | x :: l, h => by
    have h1 := h x (List.mem_cons_self ..)
    have h2 := sm_bd (p := p) (at_ := at_) (fun y hy => h y (List.mem_cons_of_mem _ hy))
    rw [sm, List.length_cons]
    split <;> omega
theorem totTo_sm (gs : List Gf) (at_ : Int) : ∀ k, k ≤ gs.length → totTo gs at_ k = sm (fun _ => true) at_ (gs.take k)
  | 0, _ => by simp [totTo, sm]
  | k + 1, hk => by
    rw [totTo_step gs at_ k hk, sm_step _ _ _ k hk, totTo_sm gs at_ k (by omega)]
    simp
theorem totTo_all (gs : List Gf) (at_ : Int) : totTo gs at_ gs.length = sm (fun _ => true) at_ gs := by
  rw [totTo_sm gs at_ _ (Nat.le_refl _), List.take_length]
theorem sm_own (key : ByteArray) (at_ : Int) (p : Gf → Bool) : ∀ l : List Gf, sm p at_ (ownG key at_ l) = sm (fun x => eqS x.bid key && p x) at_ l
  | [] => rfl
  | x :: l => by
    have ih := sm_own key at_ p l
    unfold ownG keepG at ih ⊢
    rw [List.filter_cons, sm]
    simp only [Bool.not_or, Bool.not_not] at ih ⊢
    cases hb : eqS x.bid key
    · simp [ih]
    · by_cases ha : x.at_ ≤ at_
      · have : ¬ at_ < x.at_ := by omega
        simp [this, ha, sm, ih]
      · have : at_ < x.at_ := by omega
        simp [this, ha, ih]
/-- all gifts of a list come in time -/
theorem sc_sm (o : ByteArray) (at_ : Int) (gs : List Gf) (h : ∀ x ∈ gs, x.at_ ≤ at_) : ∀ k, k ≤ gs.length → (optTo gs o k).1 = sm (fun x => eqS x.option o) at_ (gs.take k)
  | 0, _ => by simp [optTo, sm]
  | k + 1, hk => by
    have hx := h gs[k] (List.getElem_mem hk)
    rw [optTo_step gs o k hk, sm_step _ _ _ k hk]
    cases ho : eqS gs[k].option o
    · simp [sc_sm o at_ gs h k (by omega)]
    · simp [hx, sc_sm o at_ gs h k (by omega)]
theorem optQ_sm (o : ByteArray) (at_ : Int) (gs : List Gf) (h : ∀ x ∈ gs, x.at_ ≤ at_) : (optQ gs o).1 = sm (fun x => eqS x.option o) at_ gs := by
  unfold optQ
  rw [sc_sm o at_ gs h _ (Nat.le_refl _), List.take_length]
theorem optTo_no (o : ByteArray) (gs : List Gf) (h : ∀ x ∈ gs, eqS x.option o = false) : ∀ k, k ≤ gs.length → optTo gs o k = (0, -1)
  | 0, _ => rfl
  | k + 1, hk => by
    rw [optTo_step gs o k hk, h gs[k] (List.getElem_mem hk)]
    exact optTo_no o gs h k (by omega)
def stQ (B : BestQ) (p : Int × Int) (o : ByteArray) : BestQ := if betQ B p.1 p.2 = true then ⟨o, p.1, p.2⟩ else B
theorem stQ_zero {B : BestQ} (h : 0 ≤ B.most) (o : ByteArray) : stQ B (0, -1) o = B := by
  unfold stQ betQ
  have h1 : ¬ B.most < 0 := by omega
  simp [h1]
theorem stQ_most {B : BestQ} {p : Int × Int} (h : B.most = 0) (hp : 0 ≤ p.1) (o : ByteArray) : (stQ B p o).most = p.1 := by
  unfold stQ
  split
  · rfl
  · rename_i hb
    unfold betQ at hb
    simp only [Bool.or_eq_true, not_or, decide_eq_true_eq] at hb
    have := hb.1
    omega
theorem bestQ_three (g : List Gf) (a b c : ByteArray) : bestQ g [a, b, c] 3 = stQ (stQ (stQ ⟨⟨#[]⟩, 0, 0⟩ (optQ g a) a) (optQ g b) b) (optQ g c) c := rfl

/-! ### the law's two bids -/
def echA (g : Nat) : Bd := ⟨⟨#[98, 97]⟩, ⟨#[115, 97]⟩, 0, some ⟨g, 0, none⟩, 3, [⟨#[120]⟩, ⟨#[121]⟩, ⟨#[122]⟩]⟩
def echB : Bd := ⟨⟨#[98, 98]⟩, ⟨#[115, 97]⟩, 50, none, 0, []⟩
theorem echE_nil {o : ByteArray} (h : optE [] o = 0) : o = ⟨#[]⟩ := by
  unfold optE at h
  rw [if_pos rfl] at h
  cases he : eqS o ⟨#[]⟩
  · rw [he] at h; exact absurd h (by decide)
  · exact (eqS_iff _ _).1 he
theorem echE_mem {opts : List ByteArray} {o : ByteArray} (hne : opts ≠ []) (h : optE opts o = 0) : o ∈ opts := by
  unfold optE at h
  rw [if_neg hne] at h
  cases he : memS opts o
  · rw [he] at h; exact absurd h (by decide)
  · exact (memS_iff _ _).1 he
theorem named_cases {g : Nat} {x : Gf} (h : namedF [echA g, echB] x = 0) : (x.bid = ⟨#[]⟩ ∧ x.option = ⟨#[]⟩) ∨ (x.bid = ⟨#[98, 97]⟩ ∧ x.option ∈ [(⟨#[120]⟩ : ByteArray), ⟨#[121]⟩, ⟨#[122]⟩]) ∨ (x.bid = ⟨#[98, 98]⟩ ∧ x.option = ⟨#[]⟩) := by
  unfold namedF at h
  cases hb : eqS x.bid ⟨#[]⟩
  · rw [hb, if_neg (by decide)] at h
    rcases ixOf_split (fun y : Bd => eqS y.key x.bid) [echA g, echB] with ⟨h1, h2⟩ | ⟨k, hk, h1, h2, _⟩
    · unfold bidAt at h
      rw [h1] at h
      exact absurd (show (8 : Int) = 0 from h) (by decide)
    · have hk2 : k < 2 := hk
      unfold bidAt at h
      rw [h1] at h
      rcases (show k = 0 ∨ k = 1 by omega) with rfl | rfl
      · have e : x.bid = ⟨#[98, 97]⟩ := ((eqS_iff _ _).1 h2).symm
        refine .inr (.inl ⟨e, echE_mem (by simp) ?_⟩)
        exact h
      · have e : x.bid = ⟨#[98, 98]⟩ := ((eqS_iff _ _).1 h2).symm
        exact .inr (.inr ⟨e, echE_nil h⟩)
  · rw [hb, if_pos rfl] at h
    exact .inl ⟨(eqS_iff _ _).1 hb, echE_nil h⟩
theorem badS_nil : badS ⟨#[]⟩ = false := by decide +kernel
theorem badS_lits : badS ⟨#[98, 97]⟩ = false ∧ badS ⟨#[98, 98]⟩ = false ∧ badS ⟨#[120]⟩ = false ∧ badS ⟨#[121]⟩ = false ∧ badS ⟨#[122]⟩ = false := by decide +kernel
theorem ech_keys {g : Nat} {x : Gf} (h : namedF [echA g, echB] x = 0) : keysT x = 0 := by
  obtain ⟨b1, b2, b3, b4, b5⟩ := badS_lits
  unfold keysT
  rcases named_cases h with ⟨h1, h2⟩ | ⟨h1, h2⟩ | ⟨h1, h2⟩
  · rw [h1, h2, badS_nil]; rfl
  · rw [h1, b1]
    simp only [List.mem_cons, List.not_mem_nil, or_false] at h2
    rcases h2 with h2 | h2 | h2 <;> rw [h2]
    · rw [b3]; rfl
    · rw [b4]; rfl
    · rw [b5]; rfl
  · rw [h1, h2, b2, badS_nil]; rfl
theorem namedA {g : Nat} {x : Gf} (h1 : x.bid = ⟨#[98, 97]⟩) (h2 : x.option ∈ [(⟨#[120]⟩ : ByteArray), ⟨#[121]⟩, ⟨#[122]⟩]) : namedF [echA g] x = 0 := by
  unfold namedF
  rw [h1, show eqS ⟨#[98, 97]⟩ ⟨#[]⟩ = false by decide +kernel, if_neg (by decide)]
  have hi : bidAt [echA g] ⟨#[98, 97]⟩ = 0 := ixOf_at _ [echA g] 0 (show 0 < 1 by omega) (fun j hj => by omega) (eqS_self _)
  rw [hi]
  show (if (0 : Int) < 0 then (8 : Int) else optE [⟨#[120]⟩, ⟨#[121]⟩, ⟨#[122]⟩] x.option) = 0
  rw [if_neg (by decide)]
  unfold optE
  rw [if_neg (by simp), if_pos ((memS_iff _ _).2 h2)]
theorem namedB {x : Gf} (h1 : x.bid = ⟨#[98, 98]⟩) (h2 : x.option = ⟨#[]⟩) : namedF [echB] x = 0 := by
  unfold namedF
  rw [h1, show eqS ⟨#[98, 98]⟩ ⟨#[]⟩ = false by decide +kernel, if_neg (by decide)]
  have hi : bidAt [echB] ⟨#[98, 98]⟩ = 0 := ixOf_at _ [echB] 0 (by decide) (fun j hj => by omega) (eqS_self _)
  rw [hi]
  show (if (0 : Int) < 0 then (8 : Int) else optE [] x.option) = 0
  rw [if_neg (by decide), h2]
  unfold optE
  rw [if_pos rfl, if_pos (eqS_self _)]
/-- the gifts for an option; the gifts for the second bid -/
def ownO (o : ByteArray) (gs : List Gf) : List Gf := gs.filter (fun x => eqS x.option o)
def ownB (gs : List Gf) : List Gf := gs.filter (fun x => eqS x.bid ⟨#[98, 98]⟩)
theorem neqs : eqS ⟨#[]⟩ ⟨#[120]⟩ = false ∧ eqS ⟨#[]⟩ ⟨#[121]⟩ = false ∧ eqS ⟨#[]⟩ ⟨#[122]⟩ = false ∧ eqS ⟨#[120]⟩ ⟨#[121]⟩ = false ∧ eqS ⟨#[120]⟩ ⟨#[122]⟩ = false ∧ eqS ⟨#[121]⟩ ⟨#[120]⟩ = false ∧ eqS ⟨#[121]⟩ ⟨#[122]⟩ = false ∧ eqS ⟨#[122]⟩ ⟨#[120]⟩ = false ∧ eqS ⟨#[122]⟩ ⟨#[121]⟩ = false := by decide +kernel
theorem neqb : eqS ⟨#[]⟩ ⟨#[98, 97]⟩ = false ∧ eqS ⟨#[]⟩ ⟨#[98, 98]⟩ = false ∧ eqS ⟨#[98, 97]⟩ ⟨#[98, 98]⟩ = false ∧ eqS ⟨#[98, 98]⟩ ⟨#[98, 97]⟩ = false ∧ eqS ⟨#[98, 97]⟩ ⟨#[]⟩ = false ∧ eqS ⟨#[98, 98]⟩ ⟨#[]⟩ = false := by decide +kernel
theorem opt_bid {g : Nat} {x : Gf} {o : ByteArray} (h : namedF [echA g, echB] x = 0) (ho : o ∈ [(⟨#[120]⟩ : ByteArray), ⟨#[121]⟩, ⟨#[122]⟩]) (he : x.option = o) : x.bid = ⟨#[98, 97]⟩ := by
  rcases named_cases h with ⟨_, h2⟩ | ⟨h1, _⟩ | ⟨_, h2⟩
  · rw [← he, h2] at ho
    exact absurd ho (by simp)
  · exact h1
  · rw [← he, h2] at ho
    exact absurd ho (by simp)
theorem echA_key (g : Nat) : keyB (echA g).key.data.toList = true ∧ ∀ s ∈ (echA g).opts, s.toList.isEmpty = false := (show keyB (⟨#[98, 97]⟩ : ByteArray).data.toList = true ∧ ∀ s ∈ ([⟨#[120]⟩, ⟨#[121]⟩, ⟨#[122]⟩] : List ByteArray), s.toList.isEmpty = false by decide +kernel)
theorem echB_key : keyB echB.key.data.toList = true ∧ ∀ s ∈ echB.opts, s.toList.isEmpty = false := (show keyB (⟨#[98, 98]⟩ : ByteArray).data.toList = true ∧ ∀ s ∈ ([] : List ByteArray), s.toList.isEmpty = false by decide +kernel)
/-- what an option got -/
theorem ech_opt {g : Nat} {gs : List Gf} {at_ : Int} {o : ByteArray} (h : giftsF (namedF [echA g, echB]) gs = 0) (ha : momB at_ = true) (ho : o ∈ [(⟨#[120]⟩ : ByteArray), ⟨#[121]⟩, ⟨#[122]⟩]) :
    wonE (echA g) (ownO o gs) at_ = 0 ∧ (wonR (echA g) (ownO o gs) at_).2.1 = sm (fun x => eqS x.option o) at_ gs := by
  obtain ⟨_, hr, _, _⟩ := (giftsF_iff _ gs).1 h
  have hsub : (ownO o gs).Sublist gs := List.filter_sublist
  have hE : wonE (echA g) (ownO o gs) at_ = 0 := by
    unfold wonE
    rw [if_pos (giftsF_sub h hsub (fun x hx => ?_)), if_pos ha]
    have hx1 := List.mem_filter.1 hx
    have he := (eqS_iff _ _).1 hx1.2
    exact namedA (opt_bid (hr x hx1.1).2.2 ho he) (he ▸ ho)
  refine ⟨hE, ?_⟩
  rw [won_law (echA_key g).1 (echA_key g).2 hE]
  obtain ⟨G, hG⟩ : ∃ G, ownG ⟨#[98, 97]⟩ at_ (ownO o gs) = G := ⟨_, rfl⟩
  have hw : (wonQ (echA g) (ownO o gs) at_).2.1 = (bestQ (ownG ⟨#[98, 97]⟩ at_ (ownO o gs)) [⟨#[120]⟩, ⟨#[121]⟩, ⟨#[122]⟩] 3).most := by
    simp only [wonQ]
    rw [if_neg (by simp [echA])]
    rfl
  rw [hw]
  have hGat : ∀ x ∈ G, x.at_ ≤ at_ := fun x hx => by
    rw [← hG] at hx
    have := (List.mem_filter.1 hx).2
    unfold keepG at this
    simp only [Bool.not_eq_true', Bool.or_eq_false_iff, decide_eq_false_iff_not] at this
    omega
  have hGo : ∀ x ∈ G, x.option = o := fun x hx => by
    rw [← hG] at hx
    exact (eqS_iff _ _).1 (List.mem_filter.1 (List.mem_filter.1 hx).1).2
  have hGs : sm (fun x => eqS x.option o) at_ G = sm (fun x => eqS x.option o) at_ gs := by
    rw [← hG, sm_own]
    unfold ownO
    rw [sm_filter]
    refine sm_congr (fun x hx => ?_)
    cases he : eqS x.option o
    · simp
    · rw [opt_bid (hr x hx).2.2 ho ((eqS_iff _ _).1 he), eqS_self]; rfl
  have hGc : ∀ x ∈ G, 0 ≤ x.cents := fun x hx => by
    rw [← hG] at hx
    have := (gifts_right h x (hsub.subset (List.mem_filter.1 hx).1)).2
    omega
  have hq : 0 ≤ (optQ G o).1 := by rw [optQ_sm o at_ G hGat]; exact sm_nonneg hGc
  have hno : ∀ p, eqS o p = false → optQ G p = (0, -1) := fun p hp => optTo_no p G (fun x hx => by rw [hGo x hx]; exact hp) _ (Nat.le_refl _)
  obtain ⟨_, _, _, xy, xz, yx, yz, zx, zy⟩ := neqs
  rw [hG, bestQ_three, ← hGs, ← optQ_sm o at_ G hGat]
  simp only [List.mem_cons, List.not_mem_nil, or_false] at ho
  rcases ho with rfl | rfl | rfl
  · rw [hno _ xy, hno _ xz]
    have h1 := stQ_most (B := ⟨⟨#[]⟩, 0, 0⟩) rfl hq ⟨#[120]⟩
    have z := stQ_zero (B := stQ ⟨⟨#[]⟩, 0, 0⟩ (optQ G ⟨#[120]⟩) ⟨#[120]⟩) (by rw [h1]; exact hq)
    rw [z, z, h1]
  · have z0 := stQ_zero (B := (⟨⟨#[]⟩, 0, 0⟩ : BestQ)) (Int.le_refl 0)
    rw [hno _ yx, hno _ yz, z0]
    have h1 := stQ_most (B := ⟨⟨#[]⟩, 0, 0⟩) rfl hq ⟨#[121]⟩
    have z := stQ_zero (B := stQ ⟨⟨#[]⟩, 0, 0⟩ (optQ G ⟨#[121]⟩) ⟨#[121]⟩) (by rw [h1]; exact hq)
    rw [z, h1]
  · have z0 := stQ_zero (B := (⟨⟨#[]⟩, 0, 0⟩ : BestQ)) (Int.le_refl 0)
    rw [hno _ zx, hno _ zy, z0, z0]
    exact stQ_most (B := ⟨⟨#[]⟩, 0, 0⟩) rfl hq ⟨#[122]⟩
/-- what the second bid got -/
theorem ech_bid {g : Nat} {gs : List Gf} {at_ : Int} (h : giftsF (namedF [echA g, echB]) gs = 0) (ha : momB at_ = true) :
    wonE echB (ownB gs) at_ = 0 ∧ (wonR echB (ownB gs) at_).2.1 = sm (fun x => eqS x.bid ⟨#[98, 98]⟩) at_ gs ∧ (wonR echB (ownB gs) at_).2.2 = decide (50 ≤ (wonR echB (ownB gs) at_).2.1) := by
  obtain ⟨_, hr, _, _⟩ := (giftsF_iff _ gs).1 h
  have hsub : (ownB gs).Sublist gs := List.filter_sublist
  have hE : wonE echB (ownB gs) at_ = 0 := by
    unfold wonE
    rw [if_pos (giftsF_sub h hsub (fun x hx => ?_)), if_pos ha]
    have hx1 := List.mem_filter.1 hx
    have he := (eqS_iff _ _).1 hx1.2
    refine namedB he ?_
    rcases named_cases (hr x hx1.1).2.2 with ⟨h1, _⟩ | ⟨h1, _⟩ | ⟨_, h2⟩
    · rw [h1] at he; exact absurd he (by simp)
    · rw [h1] at he; exact absurd he (by simp)
    · exact h2
  refine ⟨hE, ?_⟩
  rw [won_law echB_key.1 echB_key.2 hE]
  have hs : totTo (ownG ⟨#[98, 98]⟩ at_ (ownB gs)) at_ (ownG ⟨#[98, 98]⟩ at_ (ownB gs)).length = sm (fun x => eqS x.bid ⟨#[98, 98]⟩) at_ gs := by
    rw [totTo_all, sm_own]
    unfold ownB
    rw [sm_filter]
    exact sm_congr (fun x _ => by simp)
  refine ⟨hs, rfl⟩
/-- every cent is counted once -/
theorem ech_sum {g : Nat} {gs : List Gf} {at_ : Int} (h : giftsF (namedF [echA g, echB]) gs = 0) :
    sm (fun x => eqS x.bid ⟨#[]⟩) at_ gs + sm (fun x => eqS x.option ⟨#[120]⟩) at_ gs + sm (fun x => eqS x.option ⟨#[121]⟩) at_ gs + sm (fun x => eqS x.option ⟨#[122]⟩) at_ gs + sm (fun x => eqS x.bid ⟨#[98, 98]⟩) at_ gs = totTo gs at_ gs.length := by
  rw [totTo_all]
  have hall : ∀ x ∈ gs, namedF [echA g, echB] x = 0 := fun x hx => (((giftsF_iff _ gs).1 h).2.1 x hx).2.2
  clear h
  induction gs with
  | nil => rfl
  | cons x gs ih =>
    have ih := ih (fun y hy => hall y (List.mem_cons_of_mem _ hy))
    obtain ⟨e1, e2, e3, xy, xz, yx, yz, zx, zy⟩ := neqs
    obtain ⟨f1, f2, f3, f4, f5, f6⟩ := neqb
    rw [sm, sm, sm, sm, sm, sm, ← ih]
    rcases named_cases (hall x (List.mem_cons_self ..)) with ⟨h1, h2⟩ | ⟨h1, h2⟩ | ⟨h1, h2⟩
    · rw [h1, h2, e1, e2, e3, f2, eqS_self]
      by_cases ha : x.at_ ≤ at_ <;> simp [ha] <;> omega
    · rw [h1, f5, f3]
      simp only [List.mem_cons, List.not_mem_nil, or_false] at h2
      rcases h2 with h2 | h2 | h2 <;> rw [h2]
      · rw [xy, xz, eqS_self]
        by_cases ha : x.at_ ≤ at_ <;> simp [ha] <;> omega
      · rw [yx, yz, eqS_self]
        by_cases ha : x.at_ ≤ at_ <;> simp [ha] <;> omega
      · rw [zx, zy, eqS_self]
        by_cases ha : x.at_ ≤ at_ <;> simp [ha] <;> omega
    · rw [h1, h2, e1, e2, e3, f6, eqS_self]
      by_cases ha : x.at_ ≤ at_ <;> simp [ha] <;> omega
end Go.Proofs.YtohhbkodfidfkaaGreatDoor
/-
  IndexFunc and DeleteFunc of gifts at the closures of EachCentOnce. (Printed by gen_ech1.py out of XBid10.)
-/
namespace Go.Proofs.YtohhbkodfidfkaaGreatDoor
open Go Go.RowKit
attribute [local go_sem ↓] Go.wp_at_zero Go.wp_at_succ

/-- what DeleteFunc leaves -/
def keptL (p : Gf → Bool) (ys : List Gf) : List Gf := ys.filter (fun x => !p x)
theorem keptL_step (p : Gf → Bool) (ys : List Gf) (j : Nat) (hj : j < ys.length) : keptL p (ys.take (j + 1)) = if p ys[j] = true then keptL p (ys.take j) else keptL p (ys.take j) ++ [ys[j]] := by
  unfold keptL
  rw [List.take_succ_eq_append_getElem hj, List.filter_append]
  cases h : p ys[j]
  · rw [if_neg (by decide), List.filter_cons, h]
    rfl
  · rw [if_pos rfl, List.filter_cons, h]
    simp
/-- what is kept of the first j, at the head of the row; behind j the row is as it was -/
structure DlP (p : Gf → Bool) (ys : List Gf) (i j : Nat) (zs : List Gf) : Prop where
  len : zs.length = ys.length
  cnt : (keptL p (ys.take j)).length = i
  lo : ∀ t, t < i → zs[t]? = (keptL p (ys.take j))[t]?
  hi : ∀ t, j ≤ t → zs[t]? = ys[t]?
theorem DlP.skip {p : Gf → Bool} {ys zs : List Gf} {i j : Nat} (h : DlP p ys i j zs) (hj : j < ys.length) (hp : p ys[j] = true) : DlP p ys i (j + 1) zs := by
  have e : keptL p (ys.take (j + 1)) = keptL p (ys.take j) := by rw [keptL_step p ys j hj, if_pos hp]
  exact ⟨h.len, by rw [e]; exact h.cnt, by rw [e]; exact h.lo, fun t ht => h.hi t (by omega)⟩
theorem DlP.keep {p : Gf → Bool} {ys zs : List Gf} {i j : Nat} (h : DlP p ys i j zs) (hj : j < ys.length) (hp : p ys[j] = false) (hij : i < j) : DlP p ys (i + 1) (j + 1) (zs.set i ys[j]) := by
  have e : keptL p (ys.take (j + 1)) = keptL p (ys.take j) ++ [ys[j]] := by rw [keptL_step p ys j hj, if_neg (by rw [hp]; decide)]
  refine ⟨by rw [List.length_set]; exact h.len, by rw [e, List.length_append, h.cnt]; rfl, fun t ht => ?_, fun t ht => ?_⟩
  · rw [e]
    by_cases hti : t = i
    · subst hti
      rw [List.getElem?_set_self (by rw [h.len]; omega), List.getElem?_append_right (by rw [h.cnt]; exact Nat.le_refl _), h.cnt, Nat.sub_self]
      rfl
    · rw [List.getElem?_set_ne (by omega), List.getElem?_append_left (by rw [h.cnt]; omega)]
      exact h.lo t (by omega)
  · rw [List.getElem?_set_ne (by omega)]
    exact h.hi t (by omega)
theorem keptL_all {p : Gf → Bool} {ys : List Gf} : ∀ k, k ≤ ys.length → (∀ i (_ : i < k) (hi : i < ys.length), p ys[i] = false) → keptL p (ys.take k) = ys.take k
  | 0, _, _ => rfl
  | k + 1, hk, h => by
    rw [keptL_step p ys k hk, if_neg (by rw [h k (by omega) hk]; decide), keptL_all k (by omega) (fun i hi hi' => h i (by omega) hi'), ← List.take_succ_eq_append_getElem]
set_option maxRecDepth 100000 in
theorem indexO_calls (b gO : Nat) (p : Gf → Bool) (A2 : Option Addr) (n c2 : Nat) (hs : List Gf) (w : World) (HCC0 : ∀ W (x : Gf), Below w.heap.size w W → Calls Tryz.prog 27 #[.agg #[.string x.id, .int .i64 x.at_, .int .i64 x.cents, .string x.bid, .string x.option], .pointer (some ⟨gO, 0, none⟩)] W (BRet (.bool (p x)) W)) (hr2 : Rd w b 5 (.slice A2 n c2) n (hs.flatMap gfC)) :
    Calls Tryz.prog 69 #[.slice A2 n c2, .func (.func 27) #[] #[.pointer (some ⟨gO, 0, none⟩)]] w (BRet (.int .i64 (ixOf p hs)) w) := by
  obtain ⟨hl, hnc, hcm, hcells⟩ := hr2.cells gfC_len (by omega)
  unfold maxLen at hcm
  have HCC := Lib.hid HCC0
  have HL := Lib.hid hl
  have HCL := Lib.hid hcells
  clear hcells hl hr2 HCC0
  go_enter Tryz.func69, Tryz.ntmps69
  go_wp2
  go_loopw [8] (fun i wr => ∃ k : Nat, k ≤ n ∧ i = .int .i64 k ∧ Hid (∀ i (_ : i < k) (hi' : i < hs.length), p hs[i] = false) ∧ Below w.heap.size w wr) (fun i _ => n - (intOf i).toNat)
  case atStart => exact ⟨0, Nat.zero_le _, rfl, (fun i hi => absurd hi (by omega)), Below.refl _ _⟩
  case round =>
    obtain ⟨k, hk, rfl, HF, hbr⟩ := hrel
    by_cases hlt : k < n
    · have hkr : k < hs.length := by rw [HL.out]; exact hlt
      obtain ⟨g, o, hA, _, hcs⟩ := HCL.out (by omega)
      subst hA
      have c0 := below_cell hbr (hcs k hkr 0 (by omega))
      have c1 := below_cell hbr (hcs k hkr 1 (by omega))
      have c2 := below_cell hbr (hcs k hkr 2 (by omega))
      have c3 := below_cell hbr (hcs k hkr 3 (by omega))
      have c4 := below_cell hbr (hcs k hkr 4 (by omega))
      obtain ⟨s, hs'⟩ : ∃ s, hs[k] = s := ⟨_, rfl⟩
      rw [hs'] at c0 c1 c2 c3 c4
      replace c0 : wr.cell? ⟨g, o + k * 5, none⟩ = some (.string s.id) := c0
      replace c1 : wr.cell? ⟨g, o + k * 5 + 1, none⟩ = some (.int .i64 s.at_) := c1
      replace c2 : wr.cell? ⟨g, o + k * 5 + 2, none⟩ = some (.int .i64 s.cents) := c2
      replace c3 : wr.cell? ⟨g, o + k * 5 + 3, none⟩ = some (.string s.bid) := c3
      replace c4 : wr.cell? ⟨g, o + k * 5 + 4, none⟩ = some (.string s.option) := c4
      have HK := Lib.hid (HCC.out wr s hbr)
      clear hcs
      cases hp : p s
      · rw [hp] at HK
        have HF2 : Hid (∀ i (_ : i < k + 1) (hi' : i < hs.length), p hs[i] = false) := by
          intro i hi hi'
          by_cases hik : i = k
          · subst hik; rw [hs']; exact hp
          · exact HF.out i (by omega) hi'
        clear hp hs'
        go_wp2_with (go_at_call 27; refine HK.out.mono ?_; rintro e w2 ⟨rfl, hb2⟩)
        have hb3 := below_call hbr hb2 (Nat.le_refl _)
        go_roundw
        case rel => exact ⟨k + 1, by omega, by go_num, HF2, hb3⟩
        case measure => simp [intOf]; omega
      · rw [hp] at HK
        have HR : Hid (ixOf p hs = k) := ixOf_at _ hs k hkr (fun i hi => HF.out i hi (by omega)) (by rw [hs']; exact hp)
        clear hp hs'
        go_wp2_with (go_at_call 27; refine HK.out.mono ?_; rintro e w2 ⟨rfl, hb2⟩)
        have hb3 := below_call hbr hb2 (Nat.le_refl _)
        go_ret
        exact ⟨ret_int HR.out.symm, hb3⟩
    · obtain rfl : k = n := by omega
      have HR : Hid (ixOf p hs = -1) := ixOf_no _ hs (fun i hi => HF.out i (by rw [← HL.out]; exact hi) hi)
      go_wp2
      go_ret
      exact ⟨ret_int HR.out.symm, hbr⟩
set_option maxRecDepth 100000 in
set_option maxHeartbeats 2000000 in
theorem deleteO_calls (w0 : World) (b gO : Nat) (p : Gf → Bool) (A : Option Addr) (n c : Nat) (ys : List Gf) (w : World) (hS : Sq w0 w [rOwn w0.heap.size 61 5 (.slice A n c) n (ys.flatMap gfC)]) (HCC0 : ∀ W (x : Gf), Below w0.heap.size w0 W → Calls Tryz.prog 27 #[.agg #[.string x.id, .int .i64 x.at_, .int .i64 x.cents, .string x.bid, .string x.option], .pointer (some ⟨gO, 0, none⟩)] W (BRet (.bool (p x)) W)) (hb : b < w0.heap.size) (hn : n ≤ 100000) :
    Calls Tryz.prog 25 #[.slice A n c, .func (.func 27) #[] #[.pointer (some ⟨gO, 0, none⟩)]] w (DelG w0 b (keptL p ys)) := by
  have hown : w.ownsRow w0.heap.size 61 5 (.slice A n c) n (ys.flatMap gfC) := hS.head
  have hrd : Rd w b 5 (.slice A n c) n (ys.flatMap gfC) := Rd.own hown hb
  have hl : ys.length = n := (hrd.cells gfC_len (by omega)).1
  have HIX := Lib.hid (indexO_calls b gO p A n c ys w (fun W x hW => HCC0 W x (below_call hS.below hW (Nat.le_refl _))) hrd)
  have hcap := own_cap hown
  obtain ⟨hc1, hc2⟩ := hcap
  unfold maxLen at hc2
  have HL := Lib.hid hl
  rcases ixOf_split (p) ys with ⟨h1, h2⟩ | ⟨k, hk, h1, h2, h3⟩
  · have hall : keptL p ys = ys := by
      have := keptL_all (p := p) (ys := ys) ys.length (Nat.le_refl _) (fun i _ hi => h2 i hi)
      rwa [List.take_length] at this
    rw [h1] at HIX
    rw [hall]
    have HS := Lib.hid hS
    have HR := Lib.hid hrd
    clear h1 h2 hall hS HCC0 hown hrd hl
    go_enter Tryz.func25, Tryz.ntmps25
    go_wp2_with fail
    refine HIX.out.mono ?_
    rintro e w1 ⟨rfl, hb1⟩
    go_wp2_with fail
    go_ret
    exact ⟨_, _, _, rfl, HL.out.symm, HR.out.below hb1, (HS.out.callB hb1).below⟩
  · rw [h1] at HIX
    have hkn : k < n := by rw [← hl]; exact hk
    obtain ⟨g, cap, hv, hg0, _⟩ := hown.form (by omega)
    injection hv with hA _ hcc
    subst hA hcc
    have hdl : DlP p ys k (k + 1) ys := by
      have e1 : keptL p (ys.take k) = ys.take k := keptL_all k (by omega) (fun i hi hi' => h3 i hi)
      have e2 : keptL p (ys.take (k + 1)) = ys.take k := by rw [keptL_step p ys k hk, if_pos h2, e1]
      refine ⟨rfl, by rw [e2, List.length_take]; omega, fun t ht => by rw [e2, List.getElem?_take_of_lt ht], fun _ _ => rfl⟩
    have HD := Lib.hid hdl
    have HCC := Lib.hid HCC0
    have HS := Lib.hid hS
    have hgg : w0.heap.size ≤ g := hg0
    clear h1 h2 h3 hS HCC0 hown hrd hl hdl hk hg0
    go_enter Tryz.func25, Tryz.ntmps25
    go_wp2_with fail
    refine HIX.out.mono ?_
    rintro e w1 ⟨rfl, hb1⟩
    have hS1 := HS.out.callB hb1
    have hkk : ((k : Int) == -1) = false := by rw [beq_eq_false_iff_ne]; omega
    clear hb1
    go_wp2_with fail
    clear hkk
    go_loopw [5, 6] (fun s5 s6 wr => ∃ (i j : Nat) (zs : List Gf), s5 = .int .i64 i ∧ s6 = .int .i64 j ∧ i < j ∧ j ≤ n ∧ Hid (DlP p ys i j zs) ∧ Sq w0 wr [rOwn w0.heap.size 61 5 (.slice (some ⟨g, 0, none⟩) n c) n (zs.flatMap gfC)]) (fun _ s6 _ => n - (intOf s6).toNat)
    case atStart => exact ⟨k, k + 1, ys, rfl, by go_num, by omega, by omega, HD, hS1⟩
    case round =>
      clear hS1 HD
      obtain ⟨i, j, zs, rfl, rfl, hij, hjn, HD, hS⟩ := hrel
      have hzl : zs.length = n := by rw [HD.out.len]; exact HL.out
      have hown : wr.ownsRow w0.heap.size 61 5 (.slice (some ⟨g, 0, none⟩) n c) n (zs.flatMap gfC) := hS.head
      have hgl : g < wr.heap.size := (hown.lt g rfl).2
      by_cases hlt : j < n
      · have hjr : j < ys.length := by rw [HL.out]; exact hlt
        have hjz : j < zs.length := by omega
        have hzy : zs[j] = ys[j] := by
          have := HD.out.hi j (Nat.le_refl _)
          rw [List.getElem?_eq_getElem hjz, List.getElem?_eq_getElem hjr] at this
          exact Option.some.inj this
        obtain ⟨y, hy⟩ : ∃ y, ys[j] = y := ⟨_, rfl⟩
        have c0 := own_cell gfC 5 gfC_len hown j 0 hjz hlt (by omega)
        have c1 := own_cell gfC 5 gfC_len hown j 1 hjz hlt (by omega)
        have c2 := own_cell gfC 5 gfC_len hown j 2 hjz hlt (by omega)
        have c3 := own_cell gfC 5 gfC_len hown j 3 hjz hlt (by omega)
        have c4 := own_cell gfC 5 gfC_len hown j 4 hjz hlt (by omega)
        rw [hzy, hy] at c0 c1 c2 c3 c4
        replace c0 : wr.cell? ⟨g, j * 5, none⟩ = some (.string y.id) := c0
        replace c1 : wr.cell? ⟨g, j * 5 + 1, none⟩ = some (.int .i64 y.at_) := c1
        replace c2 : wr.cell? ⟨g, j * 5 + 2, none⟩ = some (.int .i64 y.cents) := c2
        replace c3 : wr.cell? ⟨g, j * 5 + 3, none⟩ = some (.string y.bid) := c3
        replace c4 : wr.cell? ⟨g, j * 5 + 4, none⟩ = some (.string y.option) := c4
        have hSa := hS.add #[.string y.id, .int .i64 y.at_, .int .i64 y.cents, .string y.bid, .string y.option] 61
        have HK := Lib.hid (HCC.out _ y hSa.below)
        have hj0 : (0 : Int) ≤ (j : Int) := by omega
        have hj1 : (j : Int) < (n : Int) := by omega
        have hi0 : (0 : Int) ≤ (i : Int) := by omega
        have hi1 : (i : Int) < (n : Int) := by omega
        have HY : Hid (ys[j] = y) := hy
        cases hp : p y
        · have HD2 := Lib.hid (HD.out.keep hjr (by rw [hy]; exact hp) hij)
          rw [hp] at HK
          have hiz : i < zs.length := by omega
          clear hzy hown hS hp HD
          go_wp2_with fail
          refine HK.out.mono ?_
          rintro e w2 ⟨rfl, hb2⟩
          have hS2 := hSa.callB hb2
          have o2 : w2.ownsRow w0.heap.size 61 5 (.slice (some ⟨g, 0, none⟩) n c) n (zs.flatMap gfC) := hS2.nth 1 rfl
          have bx : Blk w2 wr.heap.size _ _ := hS2.nth 0 rfl
          have x0 := bx.cell 0
          have x1 := bx.cell 1
          have x2 := bx.cell 2
          have x3 := bx.cell 3
          have x4 := bx.cell 4
          have k0 : w2.cell? ⟨g, i * 5, none⟩ = some (.string zs[i].id) := own_cell gfC 5 gfC_len o2 i 0 hiz (by omega) (by omega)
          have k1 : w2.cell? ⟨g, i * 5 + 1, none⟩ = some (.int .i64 zs[i].at_) := own_cell gfC 5 gfC_len o2 i 1 hiz (by omega) (by omega)
          have k2 : w2.cell? ⟨g, i * 5 + 2, none⟩ = some (.int .i64 zs[i].cents) := own_cell gfC 5 gfC_len o2 i 2 hiz (by omega) (by omega)
          have k3 : w2.cell? ⟨g, i * 5 + 3, none⟩ = some (.string zs[i].bid) := own_cell gfC 5 gfC_len o2 i 3 hiz (by omega) (by omega)
          have k4 : w2.cell? ⟨g, i * 5 + 4, none⟩ = some (.string zs[i].option) := own_cell gfC 5 gfC_len o2 i 4 hiz (by omega) (by omega)
          have q3 : w2.frozen? ⟨g, i * 5 + 3, none⟩ = false := o2.frozenAt _
          have q4 : w2.frozen? ⟨g, i * 5 + 4, none⟩ = false := o2.frozenAt _
          have q0 : w2.frozen? ⟨g, i * 5, none⟩ = false := o2.frozenAt _
          have q1 : w2.frozen? ⟨g, i * 5 + 1, none⟩ = false := o2.frozenAt _
          have q2 : w2.frozen? ⟨g, i * 5 + 2, none⟩ = false := o2.frozenAt _
          have hS3 := gf_store y hS2.tail hzl (show i < n by omega)
          rw [hy] at HD2
          clear o2 bx hSa hb2 hy
          go_wp2_with fail
          go_roundw
          case rel => exact ⟨i + 1, j + 1, _, by go_num, by go_num, by omega, by omega, HD2, hS3⟩
          case measure => simp [intOf]; omega
        · have HD2 := Lib.hid (HD.out.skip hjr (by rw [hy]; exact hp))
          rw [hp] at HK
          clear hzy hy hown hS hp HD
          go_wp2_with fail
          refine HK.out.mono ?_
          rintro e w2 ⟨rfl, hb2⟩
          have hS2 := (hSa.callB hb2).tail
          go_wp2_with fail
          go_roundw
          case rel => exact ⟨i, j + 1, zs, rfl, by go_num, by omega, by omega, HD2, hS2⟩
          case measure => simp [intOf]; omega
      · obtain rfl : j = n := by omega
        obtain ⟨vs, hcl, hvl⟩ := run_clear_gf wr g (i * 5) (j - i) (c - i) (by omega) (fun t ht => by
          rw [hown.cellAt (i * 5 + t) (by omega)]
          have : i * 5 + t < (zs.flatMap gfC).length := by rw [flat_len gfC 5 gfC_len]; omega
          rw [List.getElem?_eq_getElem this]; rfl) (fun t ht => hown.frozenAt _)
        have hbf : Below w0.heap.size w0 (wr.setCells g (i * 5) vs) := below_setCells hgg vs _ _ hS.below
        have hT : keptL p (ys.take j) = keptL p ys := by rw [List.take_of_length_le (by rw [HL.out]; exact Nat.le_refl _)]
        have hlo := HD.out.lo
        have hcn := HD.out.cnt
        rw [hT] at hlo hcn
        have hrd : Rd (wr.setCells g (i * 5) vs) b 5 (.slice (some ⟨g, 0, none⟩) i c) i ((keptL p ys).flatMap gfC) := by
          refine ⟨_, c, rfl, by omega, by unfold maxLen; omega, by rw [flat_len gfC 5 gfC_len, hcn], (fun e => by cases e), fun _ => ⟨g, 0, rfl, by omega, fun t u hu => ?_⟩⟩
          have htl : t < i * 5 := by
            have := (List.getElem?_eq_some_iff.1 hu).1
            rw [flat_len gfC 5 gfC_len, hcn] at this
            exact this
          rw [Nat.zero_add, World.cell?_setCells_out g vs (i * 5) wr ⟨g, t, none⟩ (fun _ _ => Or.inl htl)]
          obtain ⟨q, r, hr3, rfl⟩ : ∃ q r, r < 5 ∧ t = q * 5 + r := ⟨t / 5, t % 5, Nat.mod_lt _ (by omega), by omega⟩
          have hqi : q < i := by omega
          have hqz : q < zs.length := by omega
          have hqu : q < (keptL p ys).length := by omega
          have hz := hlo q hqi
          rw [List.getElem?_eq_getElem hqz, List.getElem?_eq_getElem hqu] at hz
          rw [flat_get gfC 5 gfC_len _ q r hqu hr3] at hu
          rw [own_cell gfC 5 gfC_len hown q r hqz (by omega) hr3, Option.some.inj hz]
          exact hu
        have HF : Hid (DelG w0 b (keptL p ys) (.returned (.slice (some ⟨g, 0, none⟩) i c)) (wr.setCells g (i * 5) vs)) := ⟨_, _, _, rfl, hcn.symm, hrd, hbf⟩
        have hic : (i : Int) ≤ (j : Int) := by omega
        have hicc : (i : Int) ≤ (c : Int) := by omega
        have hi0 : (0 : Int) ≤ (i : Int) := by omega
        clear hT hlo hcn hrd hbf hown hS hvl
        go_wp2_with fail
        go_ret
        exact HF.out
set_option maxRecDepth 100000 in
theorem indexB_calls (b : Nat) (p : Gf → Bool) (A2 : Option Addr) (n c2 : Nat) (hs : List Gf) (w : World) (HCC0 : ∀ W (x : Gf), Below w.heap.size w W → Calls Tryz.prog 29 #[.agg #[.string x.id, .int .i64 x.at_, .int .i64 x.cents, .string x.bid, .string x.option]] W (BRet (.bool (p x)) W)) (hr2 : Rd w b 5 (.slice A2 n c2) n (hs.flatMap gfC)) :
    Calls Tryz.prog 69 #[.slice A2 n c2, .func (.func 29) #[] #[]] w (BRet (.int .i64 (ixOf p hs)) w) := by
  obtain ⟨hl, hnc, hcm, hcells⟩ := hr2.cells gfC_len (by omega)
  unfold maxLen at hcm
  have HCC := Lib.hid HCC0
  have HL := Lib.hid hl
  have HCL := Lib.hid hcells
  clear hcells hl hr2 HCC0
  go_enter Tryz.func69, Tryz.ntmps69
  go_wp2
  go_loopw [8] (fun i wr => ∃ k : Nat, k ≤ n ∧ i = .int .i64 k ∧ Hid (∀ i (_ : i < k) (hi' : i < hs.length), p hs[i] = false) ∧ Below w.heap.size w wr) (fun i _ => n - (intOf i).toNat)
  case atStart => exact ⟨0, Nat.zero_le _, rfl, (fun i hi => absurd hi (by omega)), Below.refl _ _⟩
  case round =>
    obtain ⟨k, hk, rfl, HF, hbr⟩ := hrel
    by_cases hlt : k < n
    · have hkr : k < hs.length := by rw [HL.out]; exact hlt
      obtain ⟨g, o, hA, _, hcs⟩ := HCL.out (by omega)
      subst hA
      have c0 := below_cell hbr (hcs k hkr 0 (by omega))
      have c1 := below_cell hbr (hcs k hkr 1 (by omega))
      have c2 := below_cell hbr (hcs k hkr 2 (by omega))
      have c3 := below_cell hbr (hcs k hkr 3 (by omega))
      have c4 := below_cell hbr (hcs k hkr 4 (by omega))
      obtain ⟨s, hs'⟩ : ∃ s, hs[k] = s := ⟨_, rfl⟩
      rw [hs'] at c0 c1 c2 c3 c4
      replace c0 : wr.cell? ⟨g, o + k * 5, none⟩ = some (.string s.id) := c0
      replace c1 : wr.cell? ⟨g, o + k * 5 + 1, none⟩ = some (.int .i64 s.at_) := c1
      replace c2 : wr.cell? ⟨g, o + k * 5 + 2, none⟩ = some (.int .i64 s.cents) := c2
      replace c3 : wr.cell? ⟨g, o + k * 5 + 3, none⟩ = some (.string s.bid) := c3
      replace c4 : wr.cell? ⟨g, o + k * 5 + 4, none⟩ = some (.string s.option) := c4
      have HK := Lib.hid (HCC.out wr s hbr)
      clear hcs
      cases hp : p s
      · rw [hp] at HK
        have HF2 : Hid (∀ i (_ : i < k + 1) (hi' : i < hs.length), p hs[i] = false) := by
          intro i hi hi'
          by_cases hik : i = k
          · subst hik; rw [hs']; exact hp
          · exact HF.out i (by omega) hi'
        clear hp hs'
        go_wp2_with (go_at_call 29; refine HK.out.mono ?_; rintro e w2 ⟨rfl, hb2⟩)
        have hb3 := below_call hbr hb2 (Nat.le_refl _)
        go_roundw
        case rel => exact ⟨k + 1, by omega, by go_num, HF2, hb3⟩
        case measure => simp [intOf]; omega
      · rw [hp] at HK
        have HR : Hid (ixOf p hs = k) := ixOf_at _ hs k hkr (fun i hi => HF.out i hi (by omega)) (by rw [hs']; exact hp)
        clear hp hs'
        go_wp2_with (go_at_call 29; refine HK.out.mono ?_; rintro e w2 ⟨rfl, hb2⟩)
        have hb3 := below_call hbr hb2 (Nat.le_refl _)
        go_ret
        exact ⟨ret_int HR.out.symm, hb3⟩
    · obtain rfl : k = n := by omega
      have HR : Hid (ixOf p hs = -1) := ixOf_no _ hs (fun i hi => HF.out i (by rw [← HL.out]; exact hi) hi)
      go_wp2
      go_ret
      exact ⟨ret_int HR.out.symm, hbr⟩
set_option maxRecDepth 100000 in
set_option maxHeartbeats 2000000 in
theorem deleteB_calls (w0 : World) (b : Nat) (p : Gf → Bool) (A : Option Addr) (n c : Nat) (ys : List Gf) (w : World) (hS : Sq w0 w [rOwn w0.heap.size 61 5 (.slice A n c) n (ys.flatMap gfC)]) (HCC0 : ∀ W (x : Gf), Below w0.heap.size w0 W → Calls Tryz.prog 29 #[.agg #[.string x.id, .int .i64 x.at_, .int .i64 x.cents, .string x.bid, .string x.option]] W (BRet (.bool (p x)) W)) (hb : b < w0.heap.size) (hn : n ≤ 100000) :
    Calls Tryz.prog 25 #[.slice A n c, .func (.func 29) #[] #[]] w (DelG w0 b (keptL p ys)) := by
  have hown : w.ownsRow w0.heap.size 61 5 (.slice A n c) n (ys.flatMap gfC) := hS.head
  have hrd : Rd w b 5 (.slice A n c) n (ys.flatMap gfC) := Rd.own hown hb
  have hl : ys.length = n := (hrd.cells gfC_len (by omega)).1
  have HIX := Lib.hid (indexB_calls b p A n c ys w (fun W x hW => HCC0 W x (below_call hS.below hW (Nat.le_refl _))) hrd)
  have hcap := own_cap hown
  obtain ⟨hc1, hc2⟩ := hcap
  unfold maxLen at hc2
  have HL := Lib.hid hl
  rcases ixOf_split (p) ys with ⟨h1, h2⟩ | ⟨k, hk, h1, h2, h3⟩
  · have hall : keptL p ys = ys := by
      have := keptL_all (p := p) (ys := ys) ys.length (Nat.le_refl _) (fun i _ hi => h2 i hi)
      rwa [List.take_length] at this
    rw [h1] at HIX
    rw [hall]
    have HS := Lib.hid hS
    have HR := Lib.hid hrd
    clear h1 h2 hall hS HCC0 hown hrd hl
    go_enter Tryz.func25, Tryz.ntmps25
    go_wp2_with fail
    refine HIX.out.mono ?_
    rintro e w1 ⟨rfl, hb1⟩
    go_wp2_with fail
    go_ret
    exact ⟨_, _, _, rfl, HL.out.symm, HR.out.below hb1, (HS.out.callB hb1).below⟩
  · rw [h1] at HIX
    have hkn : k < n := by rw [← hl]; exact hk
    obtain ⟨g, cap, hv, hg0, _⟩ := hown.form (by omega)
    injection hv with hA _ hcc
    subst hA hcc
    have hdl : DlP p ys k (k + 1) ys := by
      have e1 : keptL p (ys.take k) = ys.take k := keptL_all k (by omega) (fun i hi hi' => h3 i hi)
      have e2 : keptL p (ys.take (k + 1)) = ys.take k := by rw [keptL_step p ys k hk, if_pos h2, e1]
      refine ⟨rfl, by rw [e2, List.length_take]; omega, fun t ht => by rw [e2, List.getElem?_take_of_lt ht], fun _ _ => rfl⟩
    have HD := Lib.hid hdl
    have HCC := Lib.hid HCC0
    have HS := Lib.hid hS
    have hgg : w0.heap.size ≤ g := hg0
    clear h1 h2 h3 hS HCC0 hown hrd hl hdl hk hg0
    go_enter Tryz.func25, Tryz.ntmps25
    go_wp2_with fail
    refine HIX.out.mono ?_
    rintro e w1 ⟨rfl, hb1⟩
    have hS1 := HS.out.callB hb1
    have hkk : ((k : Int) == -1) = false := by rw [beq_eq_false_iff_ne]; omega
    clear hb1
    go_wp2_with fail
    clear hkk
    go_loopw [5, 6] (fun s5 s6 wr => ∃ (i j : Nat) (zs : List Gf), s5 = .int .i64 i ∧ s6 = .int .i64 j ∧ i < j ∧ j ≤ n ∧ Hid (DlP p ys i j zs) ∧ Sq w0 wr [rOwn w0.heap.size 61 5 (.slice (some ⟨g, 0, none⟩) n c) n (zs.flatMap gfC)]) (fun _ s6 _ => n - (intOf s6).toNat)
    case atStart => exact ⟨k, k + 1, ys, rfl, by go_num, by omega, by omega, HD, hS1⟩
    case round =>
      clear hS1 HD
      obtain ⟨i, j, zs, rfl, rfl, hij, hjn, HD, hS⟩ := hrel
      have hzl : zs.length = n := by rw [HD.out.len]; exact HL.out
      have hown : wr.ownsRow w0.heap.size 61 5 (.slice (some ⟨g, 0, none⟩) n c) n (zs.flatMap gfC) := hS.head
      have hgl : g < wr.heap.size := (hown.lt g rfl).2
      by_cases hlt : j < n
      · have hjr : j < ys.length := by rw [HL.out]; exact hlt
        have hjz : j < zs.length := by omega
        have hzy : zs[j] = ys[j] := by
          have := HD.out.hi j (Nat.le_refl _)
          rw [List.getElem?_eq_getElem hjz, List.getElem?_eq_getElem hjr] at this
          exact Option.some.inj this
        obtain ⟨y, hy⟩ : ∃ y, ys[j] = y := ⟨_, rfl⟩
        have c0 := own_cell gfC 5 gfC_len hown j 0 hjz hlt (by omega)
        have c1 := own_cell gfC 5 gfC_len hown j 1 hjz hlt (by omega)
        have c2 := own_cell gfC 5 gfC_len hown j 2 hjz hlt (by omega)
        have c3 := own_cell gfC 5 gfC_len hown j 3 hjz hlt (by omega)
        have c4 := own_cell gfC 5 gfC_len hown j 4 hjz hlt (by omega)
        rw [hzy, hy] at c0 c1 c2 c3 c4
        replace c0 : wr.cell? ⟨g, j * 5, none⟩ = some (.string y.id) := c0
        replace c1 : wr.cell? ⟨g, j * 5 + 1, none⟩ = some (.int .i64 y.at_) := c1
        replace c2 : wr.cell? ⟨g, j * 5 + 2, none⟩ = some (.int .i64 y.cents) := c2
        replace c3 : wr.cell? ⟨g, j * 5 + 3, none⟩ = some (.string y.bid) := c3
        replace c4 : wr.cell? ⟨g, j * 5 + 4, none⟩ = some (.string y.option) := c4
        have hSa := hS.add #[.string y.id, .int .i64 y.at_, .int .i64 y.cents, .string y.bid, .string y.option] 61
        have HK := Lib.hid (HCC.out _ y hSa.below)
        have hj0 : (0 : Int) ≤ (j : Int) := by omega
        have hj1 : (j : Int) < (n : Int) := by omega
        have hi0 : (0 : Int) ≤ (i : Int) := by omega
        have hi1 : (i : Int) < (n : Int) := by omega
        have HY : Hid (ys[j] = y) := hy
        cases hp : p y
        · have HD2 := Lib.hid (HD.out.keep hjr (by rw [hy]; exact hp) hij)
          rw [hp] at HK
          have hiz : i < zs.length := by omega
          clear hzy hown hS hp HD
          go_wp2_with fail
          refine HK.out.mono ?_
          rintro e w2 ⟨rfl, hb2⟩
          have hS2 := hSa.callB hb2
          have o2 : w2.ownsRow w0.heap.size 61 5 (.slice (some ⟨g, 0, none⟩) n c) n (zs.flatMap gfC) := hS2.nth 1 rfl
          have bx : Blk w2 wr.heap.size _ _ := hS2.nth 0 rfl
          have x0 := bx.cell 0
          have x1 := bx.cell 1
          have x2 := bx.cell 2
          have x3 := bx.cell 3
          have x4 := bx.cell 4
          have k0 : w2.cell? ⟨g, i * 5, none⟩ = some (.string zs[i].id) := own_cell gfC 5 gfC_len o2 i 0 hiz (by omega) (by omega)
          have k1 : w2.cell? ⟨g, i * 5 + 1, none⟩ = some (.int .i64 zs[i].at_) := own_cell gfC 5 gfC_len o2 i 1 hiz (by omega) (by omega)
          have k2 : w2.cell? ⟨g, i * 5 + 2, none⟩ = some (.int .i64 zs[i].cents) := own_cell gfC 5 gfC_len o2 i 2 hiz (by omega) (by omega)
          have k3 : w2.cell? ⟨g, i * 5 + 3, none⟩ = some (.string zs[i].bid) := own_cell gfC 5 gfC_len o2 i 3 hiz (by omega) (by omega)
          have k4 : w2.cell? ⟨g, i * 5 + 4, none⟩ = some (.string zs[i].option) := own_cell gfC 5 gfC_len o2 i 4 hiz (by omega) (by omega)
          have q3 : w2.frozen? ⟨g, i * 5 + 3, none⟩ = false := o2.frozenAt _
          have q4 : w2.frozen? ⟨g, i * 5 + 4, none⟩ = false := o2.frozenAt _
          have q0 : w2.frozen? ⟨g, i * 5, none⟩ = false := o2.frozenAt _
          have q1 : w2.frozen? ⟨g, i * 5 + 1, none⟩ = false := o2.frozenAt _
          have q2 : w2.frozen? ⟨g, i * 5 + 2, none⟩ = false := o2.frozenAt _
          have hS3 := gf_store y hS2.tail hzl (show i < n by omega)
          rw [hy] at HD2
          clear o2 bx hSa hb2 hy
          go_wp2_with fail
          go_roundw
          case rel => exact ⟨i + 1, j + 1, _, by go_num, by go_num, by omega, by omega, HD2, hS3⟩
          case measure => simp [intOf]; omega
        · have HD2 := Lib.hid (HD.out.skip hjr (by rw [hy]; exact hp))
          rw [hp] at HK
          clear hzy hy hown hS hp HD
          go_wp2_with fail
          refine HK.out.mono ?_
          rintro e w2 ⟨rfl, hb2⟩
          have hS2 := (hSa.callB hb2).tail
          go_wp2_with fail
          go_roundw
          case rel => exact ⟨i, j + 1, zs, rfl, by go_num, by omega, by omega, HD2, hS2⟩
          case measure => simp [intOf]; omega
      · obtain rfl : j = n := by omega
        obtain ⟨vs, hcl, hvl⟩ := run_clear_gf wr g (i * 5) (j - i) (c - i) (by omega) (fun t ht => by
          rw [hown.cellAt (i * 5 + t) (by omega)]
          have : i * 5 + t < (zs.flatMap gfC).length := by rw [flat_len gfC 5 gfC_len]; omega
          rw [List.getElem?_eq_getElem this]; rfl) (fun t ht => hown.frozenAt _)
        have hbf : Below w0.heap.size w0 (wr.setCells g (i * 5) vs) := below_setCells hgg vs _ _ hS.below
        have hT : keptL p (ys.take j) = keptL p ys := by rw [List.take_of_length_le (by rw [HL.out]; exact Nat.le_refl _)]
        have hlo := HD.out.lo
        have hcn := HD.out.cnt
        rw [hT] at hlo hcn
        have hrd : Rd (wr.setCells g (i * 5) vs) b 5 (.slice (some ⟨g, 0, none⟩) i c) i ((keptL p ys).flatMap gfC) := by
          refine ⟨_, c, rfl, by omega, by unfold maxLen; omega, by rw [flat_len gfC 5 gfC_len, hcn], (fun e => by cases e), fun _ => ⟨g, 0, rfl, by omega, fun t u hu => ?_⟩⟩
          have htl : t < i * 5 := by
            have := (List.getElem?_eq_some_iff.1 hu).1
            rw [flat_len gfC 5 gfC_len, hcn] at this
            exact this
          rw [Nat.zero_add, World.cell?_setCells_out g vs (i * 5) wr ⟨g, t, none⟩ (fun _ _ => Or.inl htl)]
          obtain ⟨q, r, hr3, rfl⟩ : ∃ q r, r < 5 ∧ t = q * 5 + r := ⟨t / 5, t % 5, Nat.mod_lt _ (by omega), by omega⟩
          have hqi : q < i := by omega
          have hqz : q < zs.length := by omega
          have hqu : q < (keptL p ys).length := by omega
          have hz := hlo q hqi
          rw [List.getElem?_eq_getElem hqz, List.getElem?_eq_getElem hqu] at hz
          rw [flat_get gfC 5 gfC_len _ q r hqu hr3] at hu
          rw [own_cell gfC 5 gfC_len hown q r hqz (by omega) hr3, Option.some.inj hz]
          exact hu
        have HF : Hid (DelG w0 b (keptL p ys) (.returned (.slice (some ⟨g, 0, none⟩) i c)) (wr.setCells g (i * 5) vs)) := ⟨_, _, _, rfl, hcn.symm, hrd, hbf⟩
        have hic : (i : Int) ≤ (j : Int) := by omega
        have hicc : (i : Int) ≤ (c : Int) := by omega
        have hi0 : (0 : Int) ≤ (i : Int) := by omega
        clear hT hlo hcn hrd hbf hown hS hvl
        go_wp2_with fail
        go_ret
        exact HF.out

set_option maxRecDepth 100000 in
theorem ech1_calls (gO : Nat) (o : ByteArray) (x : Gf) (w : World) (hg : Blk w gO 9 #[.string o]) :
    Calls Tryz.prog 27 #[.agg #[.string x.id, .int .i64 x.at_, .int .i64 x.cents, .string x.bid, .string x.option], .pointer (some ⟨gO, 0, none⟩)] w (BRet (.bool (!eqS x.option o)) w) := by
  have hb : Below w.heap.size w (w.alloc (.cells #[.string x.id, .int .i64 x.at_, .int .i64 x.cents, .string x.bid, .string x.option] 61)) := (Below.refl _ _).alloc (Nat.le_refl _) _
  have g0 := hg.cell 0
  have l0 := hg.lt
  obtain ⟨xi, xa, xc, xb, xo⟩ := x
  simp only at hb ⊢
  have HE : Hid (eqS xo o = (xo.toList == o.toList)) := rfl
  rw [HE.out]
  clear hg
  go_enter Tryz.func27, Tryz.ntmps27
  go_wp2_with fail
  go_ret
  exact ⟨rfl, hb⟩
set_option maxRecDepth 100000 in
theorem ech2_calls (x : Gf) (w : World) :
    Calls Tryz.prog 29 #[.agg #[.string x.id, .int .i64 x.at_, .int .i64 x.cents, .string x.bid, .string x.option]] w (BRet (.bool (!eqS x.bid ⟨#[98, 98]⟩)) w) := by
  have hb : Below w.heap.size w (w.alloc (.cells #[.string x.id, .int .i64 x.at_, .int .i64 x.cents, .string x.bid, .string x.option] 61)) := (Below.refl _ _).alloc (Nat.le_refl _) _
  obtain ⟨xi, xa, xc, xb, xo⟩ := x
  simp only at hb ⊢
  have HB : (⟨#[98, 98]⟩ : ByteArray).toList = [98, 98] := by decide +kernel
  have HE : Hid (eqS xb ⟨#[98, 98]⟩ = (xb.toList == [98, 98])) := Lib.hid (by unfold eqS; rw [HB])
  clear HB
  rw [HE.out]
  go_enter Tryz.func29, Tryz.ntmps29
  go_wp2_with fail
  go_ret
  exact ⟨rfl, hb⟩
theorem keepO (o : ByteArray) (gs : List Gf) : keptL (fun x => !eqS x.option o) gs = ownO o gs := by unfold keptL ownO; congr 1; funext x; simp
theorem keepB (gs : List Gf) : keptL (fun x => !eqS x.bid ⟨#[98, 98]⟩) gs = ownB gs := by unfold keptL ownB; congr 1; funext x; simp
end Go.Proofs.YtohhbkodfidfkaaGreatDoor
/-
  parts of gifts: two lists that together hold all.
-/
namespace Go.Proofs.YtohhbkodfidfkaaGreatDoor
open Go Go.RowKit
attribute [local go_sem ↓] Go.wp_at_zero Go.wp_at_succ

theorem Spm.append {w W W' : World} {b m : Nat} {r : List Rsc} {base : Nat} {e : TypeId} {size n n' : Nat} {v v' : Value} {xs xs' : List Value} (h : Spm w b m W (rOwn base e size v n xs :: r)) (ho : W'.ownsRow base e size v' n' xs') (hg : W.grownBy W' v.ownBlock) (hv : v'.ownBlock = v.ownBlock ∨ v'.ownBlock = some W.heap.size) : Spm w b m W' (rOwn base e size v' n' xs' :: r) := by
  obtain ⟨K, hK, h⟩ := h
  exact ⟨K, hK, h.append ho hg hv⟩
/-- gifts in a row of one's own, the length apart -/
abbrev rGn (base : Nat) (A : Option Addr) (n c : Nat) (gs : List Gf) : Rsc := rOwn base 61 5 (.slice A n c) n (gs.flatMap gfC)
abbrev gfL (y : Gf) : Array Value := #[.string y.id, .int .i64 y.at_, .int .i64 y.cents, .string y.bid, .string y.option]
section
variable {w V : World} {b m n c : Nat} {A : Option Addr} {gs : List Gf} {l : List Rsc} {y : Gf} {g : Nat}
theorem app_gf {o : Oper} {a : Act} {K : Act → World → Prop} {Q : Exit → Act → World → Prop} (s x : Operand) (ho : o.op = .call { callee := .builtin .append, args := #[s, x], argTypes := #[55, 55] })
    (hT : Spm w b m V (rGn w.heap.size A n c gs :: l)) (hn : n ≤ 1000) (i : Nat) (hg : (rGn w.heap.size A n c gs :: l)[i]? = some (rBlk g 61 (gfL y))) (hgb : w.heap.size ≤ g) (hs : a.eval s = .slice A n c) (hx : a.eval x = .slice (some ⟨g, 0, none⟩) 1 1)
    (h : ∀ A' c' V', Spm w b m V' (rGn w.heap.size A' (n + 1) c' (gs ++ [y]) :: l) → K (a.put o.dst (.slice A' (n + 1) c')) V') : o.wp Tryz.prog a V K Q := by
  obtain ⟨i0, hi, hz0, hz1, hz2⟩ := info_parts info_gf
  have hown : V.ownsRow w.heap.size 61 5 (.slice A n c) n (gs.flatMap gfC) := hT.nth 0 rfl
  have hb := hT.hb
  have hbl : Blk V g 61 (gfL y) := hT.nth i hg
  have hr : Rd V b 5 (.slice (some ⟨g, 0, none⟩) 1 1) 1 (gfC y) := blkRd 5 1 hbl (by omega) (by decide) rfl
  refine wp_app_rd V s x 55 ho w.heap.size 61 i0 (.agg #[.string ⟨#[]⟩, .int .i64 0, .int .i64 0, .string ⟨#[]⟩, .string ⟨#[]⟩]) 5 64 Tryz.underlying55 hi hz0 hz1 hz2 rfl (by decide) _ n _ hs hown b _ 1 1 (gfC y) hx hr ?_ (by unfold maxLen; omega) (by omega) hT.size ?_
  · intro u hu
    simp [gfC] at hu
    rcases hu with rfl | rfl | rfl | rfl | rfl <;> rfl
  · intro v' w' h1 h2 h3
    obtain ⟨A', c', rfl⟩ := own_form h1
    refine h A' c' w' ?_
    have := hT.append h1 h2 h3
    have he : gs.flatMap gfC ++ gfC y = (gs ++ [y]).flatMap gfC := by simp
    rw [he] at this
    exact this
theorem step_app_gf {ops : Array Oper} {o : Oper} {a : Act} {K : Act → World → Prop} {Q : Exit → Act → World → Prop} {E : Prop} (hgd : o.guard = none) (s x : Operand) (ho : o.op = .call { callee := .builtin .append, args := #[s, x], argTypes := #[55, 55] })
    (hT : Spm w b m V (rGn w.heap.size A n c gs :: l)) (hn : n ≤ 1000) (i : Nat) (hg : (rGn w.heap.size A n c gs :: l)[i]? = some (rBlk g 61 (gfL y))) (hgb : w.heap.size ≤ g) (hs : a.eval s = .slice A n c) (hx : a.eval x = .slice (some ⟨g, 0, none⟩) 1 1)
    (h : ∀ A' c' V', Spm w b m V' (rGn w.heap.size A' (n + 1) c' (gs ++ [y]) :: l) → K (a.put o.dst (.slice A' (n + 1) c')) V') :
    if Region.wanted o (yielded ops a.tmps) = true then Oper.wp Tryz.prog o a V K Q else E := by
  have hw : Region.wanted o (yielded ops a.tmps) = true := by simp [Region.wanted, hgd]
  rw [if_pos hw]
  exact app_gf s x ho hT hn i hg hgb hs hx h
theorem list_app_gf {ops : Array Oper} {rest : List Oper} {o : Oper} {a : Act} {Q : Exit → Act → World → Prop} (hgd : o.guard = none) (s x : Operand) (ho : o.op = .call { callee := .builtin .append, args := #[s, x], argTypes := #[55, 55] })
    (hT : Spm w b m V (rGn w.heap.size A n c gs :: l)) (hn : n ≤ 1000) (i : Nat) (hg : (rGn w.heap.size A n c gs :: l)[i]? = some (rBlk g 61 (gfL y))) (hgb : w.heap.size ≤ g) (hs : a.eval s = .slice A n c) (hx : a.eval x = .slice (some ⟨g, 0, none⟩) 1 1)
    (h : ∀ A' c' V', Spm w b m V' (rGn w.heap.size A' (n + 1) c' (gs ++ [y]) :: l) → wpList Tryz.prog ops Q rest (a.put o.dst (.slice A' (n + 1) c')) V') : wpList Tryz.prog ops Q (o :: rest) a V :=
  wpList_plain hgd fun _ hK => app_gf s x ho hT hn i hg hgb hs hx fun A' c' V' h' => hK _ _ (h A' c' V' h')
end
/-- what parts answers -/
def PartsS (w : World) (b : Nat) (gs : List Gf) (e : Ending) (w' : World) : Prop :=
  ∃ (A1 A2 : Option Addr) (n1 n2 c1 c2 m : Nat) (ps qs : List Gf), e = .returned (.tuple #[.slice A1 n1 c1, .slice A2 n2 c2]) ∧ ps.length = n1 ∧ qs.length = n2 ∧ ps.Sublist gs ∧ qs.Sublist gs ∧ (∀ y ∈ gs, y ∈ ps ∨ y ∈ qs) ∧ Spm w b m w' [rGn w.heap.size A1 n1 c1 ps, rGn w.heap.size A2 n2 c2 qs]
structure PartsR (gs : List Gf) (k n1 n2 : Nat) (ps qs : List Gf) : Prop where
  l1 : ps.length = n1
  l2 : qs.length = n2
  b1 : n1 ≤ k
  b2 : n2 ≤ k
  s1 : ps.Sublist (gs.take k)
  s2 : qs.Sublist (gs.take k)
  all : ∀ y ∈ gs.take k, y ∈ ps ∨ y ∈ qs
theorem PartsR.p {gs ps qs : List Gf} {k n1 n2 : Nat} (h : PartsR gs k n1 n2 ps qs) (hk : k < gs.length) : PartsR gs (k + 1) (n1 + 1) n2 (ps ++ [gs[k]]) qs := by
  have e := List.take_succ_eq_append_getElem hk
  refine ⟨by simp [h.l1], h.l2, by have := h.b1; omega, by have := h.b2; omega, by rw [e]; exact h.s1.append (List.Sublist.refl _), by rw [e]; exact h.s2.trans (List.sublist_append_left ..), fun y hy => ?_⟩
  rw [e] at hy
  rcases List.mem_append.1 hy with hy | hy
  · rcases h.all y hy with h1 | h1
    · exact .inl (List.mem_append_left _ h1)
    · exact .inr h1
  · exact .inl (List.mem_append_right _ hy)
theorem PartsR.q {gs ps qs : List Gf} {k n1 n2 : Nat} (h : PartsR gs k n1 n2 ps qs) (hk : k < gs.length) : PartsR gs (k + 1) n1 (n2 + 1) ps (qs ++ [gs[k]]) := by
  have e := List.take_succ_eq_append_getElem hk
  refine ⟨h.l1, by simp [h.l2], by have := h.b1; omega, by have := h.b2; omega, by rw [e]; exact h.s1.trans (List.sublist_append_left ..), by rw [e]; exact h.s2.append (List.Sublist.refl _), fun y hy => ?_⟩
  rw [e] at hy
  rcases List.mem_append.1 hy with hy | hy
  · rcases h.all y hy with h1 | h1
    · exact .inl h1
    · exact .inr (List.mem_append_left _ h1)
  · exact .inr (List.mem_append_right _ hy)
theorem PartsR.pq {gs ps qs : List Gf} {k n1 n2 : Nat} (h : PartsR gs k n1 n2 ps qs) (hk : k < gs.length) : PartsR gs (k + 1) (n1 + 1) (n2 + 1) (ps ++ [gs[k]]) (qs ++ [gs[k]]) := by
  have h1 := h.p hk
  have h2 := h.q hk
  exact ⟨h1.l1, h2.l2, h1.b1, h2.b2, h1.s1, h2.s2, fun y hy => by
    rcases h1.all y hy with h3 | h3
    · exact .inl h3
    · exact .inr (List.mem_append_left _ h3)⟩

set_option maxRecDepth 100000 in
set_option maxHeartbeats 4000000 in
theorem parts_calls (b : Nat) (A : Option Addr) (n c : Nat) (gs : List Gf) (w : World) (hr : Rd w b 5 (.slice A n c) n (gs.flatMap gfC)) (hS : Spm w b 12 w []) (hn : n ≤ 10) :
    Calls Tryz.prog 21 #[.pointer (some ⟨b, 0, none⟩), .slice A n c] w (PartsS w b gs) := by
  obtain ⟨hl, hnc, hcm, hcells⟩ := hr.cells gfC_len (by omega)
  unfold maxLen at hcm
  have HL := Lib.hid hl
  have HC := Lib.hid hcells
  have HR := Lib.hid hr
  have hS0 : Spm w b 12 w [rGn w.heap.size none 0 0 [], rGn w.heap.size none 0 0 []] := by
    obtain ⟨K, hK, h⟩ := hS
    exact ⟨K, hK, (h.nil w.heap.size 61 5).nil w.heap.size 61 5⟩
  have hP0 : Hid (PartsR gs 0 0 0 [] []) := Lib.hid ⟨rfl, rfl, Nat.le_refl _, Nat.le_refl _, List.nil_sublist _, List.nil_sublist _, fun y hy => by simp at hy⟩
  clear hl hcells hr hS
  go_enter Tryz.func21, Tryz.ntmps21
  go_wp2_with fail
  go_loopw [6, 7, 12] (fun u v i wr => ∃ (k n1 n2 c1 c2 : Nat) (A1 A2 : Option Addr) (ps qs : List Gf), k ≤ n ∧ i = .int .i64 k ∧ u = .slice A1 n1 c1 ∧ v = .slice A2 n2 c2 ∧ Hid (PartsR gs k n1 n2 ps qs) ∧ Spm w b (12 - k) wr [rGn w.heap.size A1 n1 c1 ps, rGn w.heap.size A2 n2 c2 qs]) (fun _ _ i _ => n - (intOf i).toNat)
  case atStart => exact ⟨0, 0, 0, 0, 0, none, none, [], [], Nat.zero_le _, rfl, rfl, rfl, hP0, hS0⟩
  case round =>
    clear hS0 hP0
    obtain ⟨k, n1, n2, c1, c2, A1, A2, ps, qs, hk, rfl, rfl, rfl, HP, hS⟩ := hrel
    by_cases hlt : k < n
    · have hkr : k < gs.length := by rw [HL.out]; exact hlt
      obtain ⟨g, o, hA, hgb, hcs⟩ := HC.out (by omega)
      subst hA
      have hn1 : n1 ≤ 1000 := by have := HP.out.b1; omega
      have hn2 : n2 ≤ 1000 := by have := HP.out.b2; omega
      have HP1 := Lib.hid (HP.out.p hkr)
      have HP2 := Lib.hid (HP.out.q hkr)
      have HP3 := Lib.hid (HP.out.pq hkr)
      have hrd := HR.out.bx hS.bx
      obtain ⟨_, _, _, hcs2⟩ := hrd.cells gfC_len (by omega)
      obtain ⟨g2, o2, hA2, _, hcs2⟩ := hcs2 (by omega)
      injection hA2 with hA2
      injection hA2 with hg2 ho2 _
      subst hg2 ho2
      have x0 := hcs2 k hkr 0 (by omega)
      have x1 := hcs2 k hkr 1 (by omega)
      have x2 := hcs2 k hkr 2 (by omega)
      have x3 := hcs2 k hkr 3 (by omega)
      have x4 := hcs2 k hkr 4 (by omega)
      obtain ⟨y, hy⟩ : ∃ y, gs[k] = y := ⟨_, rfl⟩
      rw [hy] at x0 x1 x2 x3 x4 HP1 HP2 HP3
      replace x0 : wr.cell? ⟨g, o + k * 5, none⟩ = some (.string y.id) := x0
      replace x1 : wr.cell? ⟨g, o + k * 5 + 1, none⟩ = some (.int .i64 y.at_) := x1
      replace x2 : wr.cell? ⟨g, o + k * 5 + 2, none⟩ = some (.int .i64 y.cents) := x2
      replace x3 : wr.cell? ⟨g, o + k * 5 + 3, none⟩ = some (.string y.bid) := x3
      replace x4 : wr.cell? ⟨g, o + k * 5 + 4, none⟩ = some (.string y.option) := x4
      have hsz := hS.size
      obtain ⟨mm, hmm⟩ : ∃ mm, 12 - k = mm + 1 := ⟨11 - k, by omega⟩
      have hmk : 12 - (k + 1) = mm := by omega
      have HMK := Lib.hid hmk
      rw [hmm] at hS
      obtain ⟨G, hG⟩ : ∃ G, wr.heap.size = G := ⟨_, rfl⟩
      have hS2 := hS.add (gfL y) 61
      rw [hG] at hS2 hsz
      have HN := Lib.hid (spm_next hS2 3 (by omega) (by omega))
      clear hcs hcs2 hrd hS hy hmm hmk
      go_wp2_with fail
      refine HN.out.mono ?_
      rintro e w4 ⟨vv, rfl, ⟨z, rfl, z0, z1⟩, hS4⟩
      clear hS2 HN
      have bx : Blk w4 G 61 (gfL y) := hS4.nth 0 rfl
      have t0 := bx.cell 0
      have t1 := bx.cell 1
      have t2 := bx.cell 2
      have t3 := bx.cell 3
      have t4 := bx.cell 4
      have lx := bx.lt
      replace t0 : w4.cell? ⟨G, 0, none⟩ = some (.string y.id) := t0
      replace t1 : w4.cell? ⟨G, 1, none⟩ = some (.int .i64 y.at_) := t1
      replace t2 : w4.cell? ⟨G, 2, none⟩ = some (.int .i64 y.cents) := t2
      replace t3 : w4.cell? ⟨G, 3, none⟩ = some (.string y.bid) := t3
      replace t4 : w4.cell? ⟨G, 4, none⟩ = some (.string y.option) := t4
      have hT := hS4.add (gfL y) 61
      have h4 : w.heap.size ≤ w4.heap.size := hS4.size
      clear bx
      by_cases hz0 : z = 0
      · subst hz0
        have hTp := hT.front 2 rfl rfl
        clear hT
        go_wp2_with (first
          | (at_builtin; refine list_app_gf rfl _ _ rfl hTp hn1 1 rfl h4 rfl rfl ?_; intro A' c' V' hV))
        have hV2 := (hV.drop 1 rfl rfl).drop 1 rfl rfl
        clear hV hTp
        go_wp2_with fail
        go_roundw
        case rel => exact ⟨k + 1, n1 + 1, n2, c', c2, A', A2, _, _, by omega, by go_num, rfl, rfl, HP1, by rw [HMK.out]; exact hV2⟩
        case measure => simp [intOf]; omega
      · by_cases hz1 : z = 1
        · subst hz1
          have hTp := hT.front 3 rfl rfl
          clear hT
          go_wp2_with (first
            | (at_builtin; refine list_app_gf rfl _ _ rfl hTp hn2 1 rfl h4 rfl rfl ?_; intro A' c' V' hV))
          have hV2 := ((hV.drop 1 rfl rfl).drop 1 rfl rfl).front 1 rfl rfl
          clear hV hTp
          go_wp2_with fail
          go_roundw
          case rel => exact ⟨k + 1, n1, n2 + 1, c1, c', A1, A', _, _, by omega, by go_num, rfl, rfl, HP2, by rw [HMK.out]; exact hV2⟩
          case measure => simp [intOf]; omega
        · obtain rfl : z = 2 := by omega
          clear hT
          have hD := hS4.drew
          have hz4 : w4.drew.heap.size = w4.heap.size := rfl
          have F1 := (hS4.add (gfL y) 61).drew
          have hzA : (w4.alloc (.cells (gfL y) 61)).heap.size = w4.heap.size + 1 := by simp
          have F2 := ((hS4.add (gfL y) 61).add (gfL y) 61).drew
          rw [hzA] at F2
          clear hzA
          have F1p := F1.front 2 rfl rfl
          have F1q := F1.front 3 rfl rfl
          have F2p := F2.front 3 rfl rfl
          have F2q := F2.front 4 rfl rfl
          have H4 : w.heap.size ≤ w4.heap.size + 1 := by omega
          have HCX : Hid (∀ (V : World) (l : List Rsc) (mm : Nat), Spm w b mm V l → ∀ i, l[i]? = some (rBlk G 61 (gfL y)) → V.cell? ⟨G, 0, none⟩ = some (.string y.id) ∧ V.cell? ⟨G, 1, none⟩ = some (.int .i64 y.at_) ∧ V.cell? ⟨G, 2, none⟩ = some (.int .i64 y.cents) ∧ V.cell? ⟨G, 3, none⟩ = some (.string y.bid) ∧ V.cell? ⟨G, 4, none⟩ = some (.string y.option)) := Lib.hid (fun V l mm h i hi => by
            have hb : Blk V G 61 (gfL y) := h.nth i hi
            exact ⟨hb.cell 0, hb.cell 1, hb.cell 2, hb.cell 3, hb.cell 4⟩)
          go_upto_region 6 with (fail)
          go_region_held3 (fun W => W.cell? ⟨G, 0, none⟩ = some (.string y.id) ∧ W.cell? ⟨G, 1, none⟩ = some (.int .i64 y.at_) ∧ W.cell? ⟨G, 2, none⟩ = some (.int .i64 y.cents) ∧ W.cell? ⟨G, 3, none⟩ = some (.string y.bid) ∧ W.cell? ⟨G, 4, none⟩ = some (.string y.option))
            (first | (with_reducible exact HCX.out _ _ _ hD 0 rfl) | (with_reducible exact HCX.out _ _ _ F1 1 rfl) | (with_reducible exact HCX.out _ _ _ F2 2 rfl) | (with_reducible exact HCX.out _ _ _ hV 2 rfl) | (with_reducible exact HCX.out _ _ _ hV 3 rfl) | (with_reducible exact HCX.out _ _ _ EA 4 rfl) | (with_reducible exact HCX.out _ _ _ hY 4 rfl) | go_keep)
            (first
              | ((with_reducible refine step_app_gf rfl (.tmp 18) (.tmp 20) rfl F1p hn1 1 rfl h4 rfl rfl ?_); intro A1' c1' V hV; have EA := (hV.add (gfL y) 61).front 4 rfl rfl; have hVs := hV.size)
              | ((with_reducible refine step_app_gf rfl (.tmp 22) (.tmp 24) rfl F1q hn2 1 rfl h4 rfl rfl ?_); intro A1' c1' V hV; have EA := (hV.add (gfL y) 61).front 4 rfl rfl; have hVs := hV.size)
              | ((with_reducible refine step_app_gf rfl (.tmp 18) (.tmp 20) rfl F2p hn1 1 rfl H4 rfl rfl ?_); intro A1' c1' V hV; have EB := hV.front 4 rfl rfl)
              | ((with_reducible refine step_app_gf rfl (.tmp 18) (.tmp 20) rfl F2p hn1 2 rfl h4 rfl rfl ?_); intro A1' c1' V hV; have EB := hV.front 4 rfl rfl)
              | ((with_reducible refine step_app_gf rfl (.tmp 22) (.tmp 24) rfl F2q hn2 1 rfl H4 rfl rfl ?_); intro A1' c1' V hV; have EB := hV.front 4 rfl rfl)
              | ((with_reducible refine step_app_gf rfl (.tmp 22) (.tmp 24) rfl F2q hn2 2 rfl h4 rfl rfl ?_); intro A1' c1' V hV; have EB := hV.front 4 rfl rfl)
              | ((with_reducible refine step_app_gf rfl (.tmp 22) (.tmp 24) rfl EA hn2 1 rfl hVs rfl rfl ?_); intro A2' c2' V5 hY; have hZ := (((hY.drop 1 rfl rfl).drop 2 rfl rfl).drop 2 rfl rfl).front 1 rfl rfl)
              | ((with_reducible refine step_app_gf rfl (.tmp 22) (.tmp 24) rfl EB hn2 2 rfl H4 rfl rfl ?_); intro A2' c2' V5 hY; have hZ := (((hY.drop 2 rfl rfl).drop 2 rfl rfl).drop 2 rfl rfl).front 1 rfl rfl)
              | ((with_reducible refine step_app_gf rfl (.tmp 22) (.tmp 24) rfl EB hn2 3 rfl h4 rfl rfl ?_); intro A2' c2' V5 hY; have hZ := (((hY.drop 2 rfl rfl).drop 2 rfl rfl).drop 2 rfl rfl).front 1 rfl rfl)
              | ((with_reducible refine step_app_gf rfl (.tmp 18) (.tmp 20) rfl EA hn1 1 rfl hVs rfl rfl ?_); intro A2' c2' V5 hY; have hZ := (((hY.drop 1 rfl rfl).drop 2 rfl rfl).drop 2 rfl rfl))
              | ((with_reducible refine step_app_gf rfl (.tmp 18) (.tmp 20) rfl EB hn1 2 rfl H4 rfl rfl ?_); intro A2' c2' V5 hY; have hZ := (((hY.drop 2 rfl rfl).drop 2 rfl rfl).drop 2 rfl rfl))
              | ((with_reducible refine step_app_gf rfl (.tmp 18) (.tmp 20) rfl EB hn1 3 rfl h4 rfl rfl ?_); intro A2' c2' V5 hY; have hZ := (((hY.drop 2 rfl rfl).drop 2 rfl rfl).drop 2 rfl rfl)))
          all_goals
            clear hD F1 F2 F1p F1q F2p F2q hS4
            go_wp2_with fail
            go_roundw
            case rel => exact ⟨k + 1, n1 + 1, n2 + 1, _, _, _, _, _, _, by omega, by go_num, rfl, rfl, HP3, by rw [HMK.out]; exact hZ⟩
            case measure => simp [intOf]; omega
    · obtain rfl : k = n := by omega
      have HF := Lib.hid (show ps.Sublist gs ∧ qs.Sublist gs ∧ ∀ y ∈ gs, y ∈ ps ∨ y ∈ qs by
        have h1 := HP.out.s1
        have h2 := HP.out.s2
        have h3 := HP.out.all
        rw [List.take_of_length_le (by rw [HL.out]; exact Nat.le_refl _)] at h1 h2 h3
        exact ⟨h1, h2, h3⟩)
      go_wp2_with fail
      refine bodyPost_ret (by simp [results, Tryz.results21, go_sem]) rfl ⟨A1, A2, n1, n2, c1, c2, _, ps, qs, rfl, HP.out.l1, HP.out.l2, HF.out.1, HF.out.2.1, HF.out.2.2, hS⟩
end Go.Proofs.YtohhbkodfidfkaaGreatDoor
