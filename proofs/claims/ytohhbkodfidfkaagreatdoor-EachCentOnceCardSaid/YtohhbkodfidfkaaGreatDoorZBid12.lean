/-
  What a bid has come to: program and reference alike, where bids and gifts are right. No Go text is named here.
-/
import Derived.Test.YtohhbkodfidfkaaGreatDoorZBid2
import Derived.Test.YtohhbkodfidfkaaGreatDoorZBid4
import Derived.Test.YtohhbkodfidfkaaGreatDoorZKey
import Derived.Test.YtohhbkodfidfkaaGreatDoorZLow
import Derived.Sort.LotA
import Derived.Shelf.SlSortCmp.Insertion
namespace Go.Proofs.YtohhbkodfidfkaaGreatDoor
open Go Go.RowKit

theorem gt_trans : ∀ x y z : List UInt8, 0 < Lib.compareBytes x y → 0 < Lib.compareBytes y z → 0 < Lib.compareBytes x z
  | [], [], _, h, _ => by simp [Lib.compareBytes] at h
  | [], _ :: _, _, h, _ => by simp [Lib.compareBytes] at h
  | _ :: _, [], [], _, h => by simp [Lib.compareBytes] at h
  | _ :: _, [], _ :: _, _, h => by simp [Lib.compareBytes] at h
  | _ :: _, _ :: _, [], _, _ => by simp [Lib.compareBytes]
  | a :: p, b :: q, c :: r, h1, h2 => by
    have ih := gt_trans p q r
    unfold Lib.compareBytes at h1 h2 ⊢
    by_cases a1 : a < b
    · rw [if_pos a1] at h1; exact absurd h1 (by decide)
    by_cases b1 : b < c
    · rw [if_pos b1] at h2; exact absurd h2 (by decide)
    rw [if_neg a1] at h1
    rw [if_neg b1] at h2
    by_cases a2 : b < a
    · by_cases b2 : c < b
      · have hc := UInt8.lt_trans b2 a2
        rw [if_neg (fun h => UInt8.lt_irrefl _ (UInt8.lt_trans h hc)), if_pos hc]
        decide
      · have e : b = c := UInt8.le_antisymm (UInt8.not_lt.1 b2) (UInt8.not_lt.1 b1)
        subst e
        rw [if_neg a1, if_pos a2]
        decide
    · have e : a = b := UInt8.le_antisymm (UInt8.not_lt.1 a2) (UInt8.not_lt.1 a1)
      subst e
      by_cases b2 : c < a
      · rw [if_neg b1, if_pos b2]
        decide
      · have e : a = c := UInt8.le_antisymm (UInt8.not_lt.1 b2) (UInt8.not_lt.1 b1)
        subst e
        rw [if_neg a2] at h1
        rw [if_neg b2] at h2
        rw [if_neg b1, if_neg b2]
        exact ih h1 h2
theorem gt_irr : ∀ x : List UInt8, Lib.compareBytes x x = 0
  | [] => by simp [Lib.compareBytes]
  | a :: p => by
    unfold Lib.compareBytes
    rw [if_neg (UInt8.lt_irrefl a), if_neg (UInt8.lt_irrefl a)]
    exact gt_irr p
/-- one name behind another one -/
def gtS (a b : ByteArray) : Prop := leS a b = false
theorem gtS_iff (a b : ByteArray) : gtS a b ↔ 0 < cmpS a b := by
  unfold gtS
  rw [← cmpS_le]
  simp
theorem gtS.trans {a b c : ByteArray} (h1 : gtS a b) (h2 : gtS b c) : gtS a c :=
  (gtS_iff a c).2 (gt_trans _ _ _ ((gtS_iff a b).1 h1) ((gtS_iff b c).1 h2))
theorem gtS.ne {a b : ByteArray} (h : gtS a b) : eqS b a = false := by
  cases he : eqS b a
  · rfl
  · have := (eqS_iff b a).1 he
    subst this
    have h2 := (gtS_iff _ _).1 h
    have h3 := gt_irr b.data.toList
    unfold cmpS at h2
    omega
theorem keyB_ne {s : ByteArray} (h : keyB s.data.toList = true) : s.toList.isEmpty = false := by
  refine isEmpty_f ?_
  rcases Nat.eq_zero_or_pos s.size with h0 | h0
  · have : keyB s.data.toList = false := keyB_size (by
      have hs : s.data.toList.length = s.size := by rw [Array.length_toList]; rfl
      omega)
    rw [h] at this
    exact absurd this (by decide)
  · exact h0
theorem rise_mem : ∀ (hs : List ByteArray) (last : ByteArray), riseG last hs = 0 → ∀ h ∈ hs, keyB h.data.toList = true
  | [], _, _ => by intro h hh; cases hh
  | x :: hs, last, h => by
    rw [riseG] at h
    cases hk : keyB x.data.toList
    · rw [if_pos hk] at h; exact absurd h (by decide)
    · rw [if_neg (by rw [hk]; decide)] at h
      split at h
      · exact absurd h (by decide)
      · intro y hy
        rcases List.mem_cons.1 hy with rfl | hy
        · exact hk
        · exact rise_mem hs x h y hy
/-- what is right of bids -/
structure BdR (xs : List Slt) (x : Bd) : Prop where
  key : keyB x.key.data.toList = true
  before : 0 ≤ findL xs x.before
  opts : ∀ s ∈ x.opts, s.toList.isEmpty = false
theorem bidE_opts {x : Bd} (h : bidE x = 0) : ∀ s ∈ x.opts, s.toList.isEmpty = false := by
  unfold bidE at h
  split at h
  · exact absurd h (by decide)
  · split at h
    · exact absurd h (by decide)
    · split at h
      · exact absurd h (by decide)
      · intro s hs
        exact keyB_ne (rise_mem _ _ h s hs)
theorem bidsG_all {xs : List Slt} : ∀ (bs : List Bd) (last : ByteArray), bidsG xs last bs = 0 → (∀ x ∈ bs, BdR xs x ∧ gtS x.key last) ∧ bs.Pairwise (fun a b => gtS b.key a.key)
  | [], _, _ => ⟨(by intro x hx; cases hx), List.Pairwise.nil⟩
  | x :: bs, last, h => by
    rw [bidsG] at h
    cases hk : keyB x.key.data.toList
    · rw [if_pos hk] at h; exact absurd h (by decide)
    rw [if_neg (by rw [hk]; decide)] at h
    cases hl : leS x.key last
    · rw [hl, if_neg (by decide)] at h
      by_cases hf : findL xs x.before < 0
      · rw [if_pos hf] at h; exact absurd h (by decide)
      rw [if_neg hf] at h
      by_cases hb : bidE x = 0
      · rw [if_pos hb] at h
        obtain ⟨i1, i2⟩ := bidsG_all bs x.key h
        refine ⟨fun y hy => ?_, List.pairwise_cons.2 ⟨fun y hy => (i1 y hy).2, i2⟩⟩
        rcases List.mem_cons.1 hy with rfl | hy
        · exact ⟨⟨hk, by omega, bidE_opts hb⟩, hl⟩
        · exact ⟨(i1 y hy).1, (i1 y hy).2.trans hl⟩
      · rw [if_neg hb] at h; exact absurd h hb
    · rw [hl, if_pos rfl] at h; exact absurd h (by decide)
theorem bids_right {xs : List Slt} {bs : List Bd} (h : bidsF xs bs = 0) : (∀ x ∈ bs, BdR xs x) ∧ ∀ i (hi : i < bs.length), bidAt bs bs[i].key = i := by
  unfold bidsF at h
  by_cases h0 : slotsF xs = 0
  · rw [if_pos h0] at h
    by_cases h1 : 200 < bs.length
    · rw [if_pos h1] at h; exact absurd h (by decide)
    · rw [if_neg h1] at h
      obtain ⟨a1, a2⟩ := bidsG_all bs _ h
      refine ⟨fun x hx => (a1 x hx).1, fun i hi => ?_⟩
      refine ixOf_at _ bs i hi (fun j hj => ?_) ((eqS_iff _ _).2 rfl)
      exact ((List.pairwise_iff_getElem.1 a2) j i (by omega) hi hj).ne
  · rw [if_neg h0] at h; exact absurd h h0
theorem giftsG_all {t : Gf → Int} : ∀ (gs : List Gf) (pv : Option Gf), giftsG t pv gs = 0 → ∀ x ∈ gs, t x = 0 ∧ 1 ≤ x.cents
  | [], _, _ => by intro x hx; cases hx
  | y :: gs, pv, h => by
    rw [giftsG] at h
    by_cases h0 : giftE t pv y = 0
    · rw [if_pos h0] at h
      intro x hx
      rcases List.mem_cons.1 hx with rfl | hx
      · unfold giftE at h0
        split at h0
        · exact absurd h0 (by decide)
        · split at h0
          · exact absurd h0 (by decide)
          · rename_i hc
            split at h0
            · rename_i ht
              refine ⟨ht, ?_⟩
              simp at hc
              have := of_outB hc.2
              omega
            · rename_i ht; exact absurd h0 ht
      · exact giftsG_all gs (some y) h x hx
    · rw [if_neg h0] at h; exact absurd h h0
theorem gifts_right {t : Gf → Int} {gs : List Gf} (h : giftsF t gs = 0) : ∀ x ∈ gs, t x = 0 ∧ 1 ≤ x.cents := by
  unfold giftsF at h
  split at h
  · exact absurd h (by decide)
  · split at h
    · rename_i h1
      exact giftsG_all gs none h1
    · rename_i h1; exact absurd h h1
/-- an option of a gift for a right bid -/
def OptR (y : Bd) (x : Gf) : Prop := (y.opts = [] → eqS x.option ⟨#[]⟩ = true) ∧ (y.opts ≠ [] → eqS x.option ⟨#[]⟩ = false)
theorem opt_right {xs : List Slt} {bs : List Bd} {gs : List Gf} (hb : bidsF xs bs = 0) (hg : giftsF (namedF bs) gs = 0) (i : Nat) (hi : i < bs.length) : ∀ x ∈ gs, eqS x.bid bs[i].key = true → OptR bs[i] x := by
  intro x hx he
  obtain ⟨b1, b2⟩ := bids_right hb
  have hr := b1 _ (List.getElem_mem hi)
  have hk : x.bid = bs[i].key := (eqS_iff _ _).1 he
  have hne : x.bid.toList.isEmpty = false := by rw [hk]; exact keyB_ne hr.key
  have hn := (gifts_right hg x hx).1
  rw [namedF_at hne (q := i) (by rw [hk]; exact b2 i hi) hi] at hn
  refine ⟨fun ho => ?_, fun ho => ?_⟩
  · rw [ho] at hn
    unfold optE at hn
    rw [if_pos rfl] at hn
    split at hn
    · assumption
    · exact absurd hn (by decide)
  · unfold optE at hn
    rw [if_neg ho] at hn
    cases hm : memS bs[i].opts x.option
    · rw [hm] at hn; exact absurd hn (by decide)
    · rw [eqS_nil]
      exact hr.opts _ ((memS_iff _ _).1 hm)

/-! ### sums -/
theorem optTo_pre (G : List Gf) (x : Gf) (o : ByteArray) : ∀ k, k ≤ G.length → optTo (G ++ [x]) o k = optTo G o k
  | 0, _ => rfl
  | k + 1, hk => by
    rw [optTo_step (G ++ [x]) o k (by simp; omega), optTo_step G o k (by omega), optTo_pre G x o k (by omega), List.getElem_append_left (by omega)]
theorem optQ_snoc (G : List Gf) (x : Gf) (o : ByteArray) : optQ (G ++ [x]) o = if eqS x.option o = true then ((optQ G o).1 + x.cents, (G.length : Int)) else optQ G o := by
  unfold optQ
  have hx : (G ++ [x])[G.length]'(by simp) = x := by simp
  rw [show (G ++ [x]).length = G.length + 1 by simp, optTo_step (G ++ [x]) o G.length (by simp), hx, optTo_pre G x o _ (Nat.le_refl _)]
theorem hit_keep (key : ByteArray) (before : Int) (x : Gf) : keepG key (before - 1) x = hitB key before x := by
  unfold keepG hitB
  by_cases h : x.at_ < before
  · have h2 : ¬ before - 1 < x.at_ := by omega
    cases eqS x.bid key <;> simp [h, h2]
  · have h2 : before - 1 < x.at_ := by omega
    cases eqS x.bid key <;> simp [h, h2]
theorem ownG_hit (key : ByteArray) (before : Int) (gs : List Gf) (k : Nat) (hk : k < gs.length) : ownG key (before - 1) (gs.take (k + 1)) = if hitB key before gs[k] = true then ownG key (before - 1) (gs.take k) ++ [gs[k]] else ownG key (before - 1) (gs.take k) := by
  unfold ownG
  rw [List.take_succ_eq_append_getElem hk, List.filter_append, List.filter_cons, hit_keep]
  cases hitB key before gs[k] <;> simp
/-- both counts stand alike -/
structure WR (G : List Gf) (k : Nat) (C L : ByteArray → Option Int) : Prop where
  sum : ∀ o, (C o).getD 0 = (optQ G o).1
  none_ : ∀ o, L o = none → (optQ G o).2 = -1 ∧ (optQ G o).1 = 0
  some_ : ∀ o v, L o = some v → 0 ≤ (optQ G o).2 ∧ (optQ G o).2 < G.length ∧ v < k ∧ 1 ≤ (optQ G o).1
  ord : ∀ o1 o2 v1 v2, L o1 = some v1 → L o2 = some v2 → (v1 < v2 ↔ (optQ G o1).2 < (optQ G o2).2)
theorem WR.start : WR [] 0 (fun _ => none) (fun _ => none) := ⟨fun _ => rfl, fun _ _ => ⟨rfl, rfl⟩, fun _ _ h => (by cases h), fun _ _ _ _ h _ => (by cases h)⟩
theorem WR.more {G : List Gf} {k : Nat} {C L : ByteArray → Option Int} (h : WR G k C L) : WR G (k + 1) C L :=
  ⟨h.sum, h.none_, fun o v hv => by have := h.some_ o v hv; omega, h.ord⟩
theorem WR.snoc {G : List Gf} {k : Nat} {C L : ByteArray → Option Int} (h : WR G k C L) (x : Gf) (hc : 1 ≤ x.cents) : WR (G ++ [x]) (k + 1) (updZ C x.option ((C x.option).getD 0 + x.cents)) (updZ L x.option k) := by
  have hsame : ∀ o, o = x.option → optQ (G ++ [x]) o = ((optQ G o).1 + x.cents, (G.length : Int)) := fun o ho => by
    rw [optQ_snoc, if_pos ((eqS_iff _ _).2 ho.symm)]
  have hoth : ∀ o, o ≠ x.option → optQ (G ++ [x]) o = optQ G o := fun o ho => by
    rw [optQ_snoc, if_neg (fun e => ho ((eqS_iff _ _).1 e).symm)]
  have hpos : ∀ o, 0 ≤ (optQ G o).1 := fun o => by
    cases hl : L o with
    | none => have := h.none_ o hl; omega
    | some v => have := h.some_ o v hl; omega
  refine ⟨fun o => ?_, fun o ho => ?_, fun o v ho => ?_, fun o1 o2 v1 v2 h1 h2 => ?_⟩
  · by_cases ho : o = x.option
    · rw [hsame o ho]
      subst ho
      simp only [updZ, if_true, Option.getD_some]
      rw [h.sum]
    · rw [hoth o ho]
      simp only [updZ, if_neg ho]
      exact h.sum o
  · by_cases hx : o = x.option
    · simp [updZ, hx] at ho
    · simp only [updZ, if_neg hx] at ho
      rw [hoth o hx]
      exact h.none_ o ho
  · by_cases hx : o = x.option
    · simp only [updZ, if_pos hx] at ho
      injection ho with ho
      have := hpos o
      rw [hsame o hx]
      simp only [List.length_append, List.length_cons, List.length_nil]
      omega
    · simp only [updZ, if_neg hx] at ho
      have := h.some_ o v ho
      rw [hoth o hx]
      simp only [List.length_append, List.length_cons, List.length_nil]
      omega
  · by_cases e1 : o1 = x.option
    · by_cases e2 : o2 = x.option
      · rw [e1] at h1 ⊢
        rw [e2] at h2 ⊢
        rw [h1] at h2
        injection h2 with h2
        omega
      · simp only [updZ, if_pos e1] at h1
        simp only [updZ, if_neg e2] at h2
        injection h1 with h1
        have := h.some_ o2 v2 h2
        rw [hsame o1 e1, hoth o2 e2]
        simp only
        omega
    · by_cases e2 : o2 = x.option
      · simp only [updZ, if_neg e1] at h1
        simp only [updZ, if_pos e2] at h2
        injection h2 with h2
        have := h.some_ o1 v1 h1
        rw [hsame o2 e2, hoth o1 e1]
        simp only
        omega
      · simp only [updZ, if_neg e1] at h1
        simp only [updZ, if_neg e2] at h2
        rw [hoth o1 e1, hoth o2 e2]
        exact h.ord o1 o2 v1 v2 h1 h2
theorem wr_all (key : ByteArray) (before : Int) {gs : List Gf} (hc : ∀ x ∈ gs, 1 ≤ x.cents) : ∀ k, k ≤ gs.length → WR (ownG key (before - 1) (gs.take k)) k (wonC key before gs k) (wonL key before gs k)
  | 0, _ => WR.start
  | k + 1, hk => by
    have ih := wr_all key before hc k (by omega)
    rw [wonC_step key before gs k hk, wonL_step key before gs k hk, ownG_hit key before gs k hk]
    cases hh : hitB key before gs[k]
    · rw [if_neg (by decide), if_neg (by decide), if_neg (by decide)]
      exact ih.more
    · rw [if_pos rfl, if_pos rfl, if_pos rfl]
      exact ih.snoc _ (hc _ (List.getElem_mem hk))
/-! ### the best one -/
theorem optQ_empty {G : List Gf} (h : ∀ x ∈ G, eqS x.option ⟨#[]⟩ = false) : ∀ k, k ≤ G.length → optTo G ⟨#[]⟩ k = (0, -1)
  | 0, _ => rfl
  | k + 1, hk => by
    rw [optTo_step G _ k hk, if_neg (by rw [h _ (List.getElem_mem hk)]; decide)]
    exact optQ_empty h k (by omega)
theorem tot_empty {G : List Gf} {at_ : Int} (h : ∀ x ∈ G, eqS x.option ⟨#[]⟩ = true ∧ x.at_ ≤ at_) : ∀ k, k ≤ G.length → (optTo G ⟨#[]⟩ k).1 = totTo G at_ k
  | 0, _ => rfl
  | k + 1, hk => by
    obtain ⟨h1, h2⟩ := h _ (List.getElem_mem (show k < G.length by omega))
    have ih := tot_empty h k (by omega)
    rw [optTo_step G _ k hk, if_pos h1, totTo_step G at_ k hk, if_pos h2]
    simp only
    rw [ih]
structure BR (G : List Gf) (L : ByteArray → Option Int) (B : ByteArray) (Q : BestQ) : Prop where
  name : B = Q.best
  nil_ : B.toList.isEmpty = true → Q.most = 0 ∧ Q.when = 0
  some_ : B.toList.isEmpty = false → Q.most = (optQ G B).1 ∧ 0 < Q.most ∧ Q.when = (optQ G B).2 ∧ (L B).isSome = true
theorem betB_at (C L : ByteArray → Int) (b s : ByteArray) {cs cb : Int} (h1 : C s = cs) (h2 : C b = cb) : betB C L b s = (decide (cb < cs) || (decide (0 < cs) && (decide (cs = cb) && decide (L s < L b)))) := by
  subst h1 h2
  rfl
theorem best_alike {G : List Gf} {k : Nat} {C L : ByteArray → Option Int} (hw : WR G k C L) (h0 : ∀ x ∈ G, eqS x.option ⟨#[]⟩ = false) {opts : List ByteArray} (hn : ∀ s ∈ opts, s.toList.isEmpty = false) : ∀ j, j ≤ opts.length → BR G L (bestTo (fun s => (C s).getD 0) (fun s => (L s).getD 0) opts j) (bestQ G opts j)
  | 0, _ => ⟨rfl, fun _ => ⟨rfl, rfl⟩, fun h => by
    have : (⟨#[]⟩ : ByteArray).toList.isEmpty = true := by rw [Lib.toList_data]; rfl
    rw [show bestTo (fun s => (C s).getD 0) (fun s => (L s).getD 0) opts 0 = ⟨#[]⟩ from rfl, this] at h
    exact absurd h (by decide)⟩
  | j + 1, hj => by
    have ih := best_alike hw h0 hn j (by omega)
    have hjr : j < opts.length := by omega
    have hsn := hn _ (List.getElem_mem hjr)
    rw [bestTo_step _ _ opts j hjr, bestQ_step G opts j hjr]
    obtain ⟨s, hs⟩ : ∃ s, opts[j] = s := ⟨_, rfl⟩
    rw [hs] at hsn ⊢
    obtain ⟨B, hB⟩ : ∃ B, bestTo (fun s => (C s).getD 0) (fun s => (L s).getD 0) opts j = B := ⟨_, rfl⟩
    obtain ⟨Q, hQ⟩ : ∃ Q, bestQ G opts j = Q := ⟨_, rfl⟩
    rw [hB, hQ] at ih
    rw [hB, hQ]
    clear hB hQ hs
    have hCs : (C s).getD 0 = (optQ G s).1 := hw.sum s
    have hC0 : (C ⟨#[]⟩).getD 0 = 0 := by rw [hw.sum, show optQ G ⟨#[]⟩ = (0, -1) from optQ_empty h0 _ (Nat.le_refl _)]
    have hbet : betB (fun s => (C s).getD 0) (fun s => (L s).getD 0) B s = betQ Q (optQ G s).1 (optQ G s).2 := by
      obtain ⟨cb, hcb⟩ : ∃ cb, (C B).getD 0 = cb := ⟨_, rfl⟩
      have hCB := hw.sum B
      rw [hcb] at hCB
      rw [betB_at (fun s => (C s).getD 0) (fun s => (L s).getD 0) B s hCs hcb]
      unfold betQ
      cases hB : B.toList.isEmpty
      · obtain ⟨i1, i2, i3, i4⟩ := ih.some_ hB
        rw [hCB, i1, i3]
        by_cases hp : 0 < (optQ G s).1
        · cases hl : L s with
          | none => have := (hw.none_ s hl).2; omega
          | some v =>
            obtain ⟨v2, hv2⟩ := Option.isSome_iff_exists.1 i4
            have ho := hw.ord s B v v2 hl hv2
            rw [hv2]
            simp only [Option.getD_some]
            by_cases hlt : v < v2
            · have := ho.1 hlt
              simp [hlt, this, hp]
              first | done | constructor <;> intro h <;> omega
            · have : ¬ (optQ G s).2 < (optQ G B).2 := fun e => hlt (ho.2 e)
              simp [hlt, this]
        · simp [hp]
      · have hBn : B = ⟨#[]⟩ := by
          have := (eqS_nil B).trans hB
          exact (eqS_iff _ _).1 this
        obtain ⟨i1, i2⟩ := ih.nil_ hB
        have hcb0 : cb = 0 := by rw [← hcb, hBn]; exact hC0
        rw [hcb0, i1, i2]
        by_cases hp : 0 < (optQ G s).1
        · simp [hp]
        · simp [hp]
    rw [hbet]
    cases hq : betQ Q (optQ G s).1 (optQ G s).2
    · rw [if_neg (by decide), if_neg (by decide)]
      exact ih
    · rw [if_pos rfl, if_pos rfl]
      have hmost : 0 ≤ Q.most := by
        cases hB : B.toList.isEmpty
        · have := (ih.some_ hB).2.1; omega
        · have := (ih.nil_ hB).1; omega
      have hpos : 0 < (optQ G s).1 := by
        unfold betQ at hq
        simp at hq
        omega
      refine ⟨rfl, fun h => ?_, fun _ => ⟨rfl, hpos, rfl, ?_⟩⟩
      · rw [hsn] at h; exact absurd h (by decide)
      · cases hl : L s with
        | none => have := (hw.none_ s hl).2; omega
        | some v => rfl
end Go.Proofs.YtohhbkodfidfkaaGreatDoor
/-
  What a bid has come to, cents too: program and reference alike. No Go text is named here.
-/
namespace Go.Proofs.YtohhbkodfidfkaaGreatDoor
open Go Go.RowKit

theorem won_same {x : Bd} {gs : List Gf} (hopt : ∀ y ∈ gs, eqS y.bid x.key = true → OptR x y) (hopts : ∀ s ∈ x.opts, s.toList.isEmpty = false) (hc : ∀ y ∈ gs, 1 ≤ y.cents) (t : Int) : wonP x gs t = wonQ x gs (t - 1) := by
  have hw := wr_all x.key t hc gs.length (Nat.le_refl _)
  rw [List.take_length] at hw
  obtain ⟨G, hG⟩ : ∃ G, ownG x.key (t - 1) gs = G := ⟨_, rfl⟩
  have hmem : ∀ y ∈ G, OptR x y ∧ y.at_ ≤ t - 1 := fun y hy => by
    rw [← hG] at hy
    unfold ownG at hy
    obtain ⟨h1, h2⟩ := List.mem_filter.1 hy
    unfold keepG at h2
    simp at h2
    exact ⟨hopt y h1 h2.2, by omega⟩
  unfold wonP wonQ
  rw [hG] at hw
  simp only [hG]
  by_cases ho : x.opts = []
  · rw [if_pos ho, if_pos ho]
    have h1 : ((wonC x.key t gs gs.length) ⟨#[]⟩).getD 0 = totTo G (t - 1) G.length := by
      rw [hw.sum]
      exact tot_empty (fun y hy => ⟨(hmem y hy).1.1 ho, (hmem y hy).2⟩) _ (Nat.le_refl _)
    simp only [h1]
  · rw [if_neg ho, if_neg ho]
    have h0 : ∀ y ∈ G, eqS y.option ⟨#[]⟩ = false := fun y hy => (hmem y hy).1.2 ho
    obtain ⟨n1, n2, n3⟩ := best_alike hw h0 hopts x.opts.length (Nat.le_refl _)
    obtain ⟨B, hB⟩ : ∃ B, bestTo (fun s => ((wonC x.key t gs gs.length) s).getD 0) (fun s => ((wonL x.key t gs gs.length) s).getD 0) x.opts x.opts.length = B := ⟨_, rfl⟩
    rw [hB] at n1 n2 n3 ⊢
    have hs := hw.sum B
    cases he : B.toList.isEmpty
    · have h3 := n3 he
      have h4 : eqS B ⟨#[]⟩ = false := (eqS_nil B).trans he
      rw [hs, ← h3.1, ← n1, h4]
      have := h3.2.1
      simp [this]
    · have h3 := n2 he
      have h4 : eqS B ⟨#[]⟩ = true := (eqS_nil B).trans he
      have hBn : B = ⟨#[]⟩ := (eqS_iff _ _).1 h4
      have hz : (optQ G B).1 = 0 := by rw [hBn, show optQ G ⟨#[]⟩ = (0, -1) from optQ_empty h0 _ (Nat.le_refl _)]
      rw [hs, hz, ← n1, h4, h3.1]
      simp
/-- gifts right for one bid alone -/
theorem opt_one {x : Bd} {gs : List Gf} (hk : keyB x.key.data.toList = true) (ho : ∀ s ∈ x.opts, s.toList.isEmpty = false) (hg : giftsF (namedF [x]) gs = 0) : ∀ y ∈ gs, eqS y.bid x.key = true → OptR x y := by
  intro y hy he
  have hb : y.bid = x.key := (eqS_iff _ _).1 he
  have hne : y.bid.toList.isEmpty = false := by rw [hb]; exact keyB_ne hk
  have hn := (gifts_right hg y hy).1
  have h0 : bidAt [x] y.bid = (0 : Nat) := ixOf_at _ [x] 0 (by simp) (by intro j hj; omega) ((eqS_iff _ _).2 hb.symm)
  rw [namedF_at hne (q := 0) h0 (by simp)] at hn
  refine ⟨fun h => ?_, fun h => ?_⟩
  · have hn2 : optE x.opts y.option = 0 := hn
    rw [h] at hn2
    unfold optE at hn2
    rw [if_pos rfl] at hn2
    split at hn2
    · assumption
    · exact absurd hn2 (by decide)
  · have hn2 : optE x.opts y.option = 0 := hn
    unfold optE at hn2
    rw [if_neg h] at hn2
    cases hm : memS x.opts y.option
    · rw [hm] at hn2; exact absurd hn2 (by decide)
    · rw [eqS_nil]
      exact ho _ ((memS_iff _ _).1 hm)
end Go.Proofs.YtohhbkodfidfkaaGreatDoor
/-
  The gifts of two lists, merged and sorted: plain words for MergeGifts and GiftsOf. No Go text is named here.
-/
namespace Go.Proofs.YtohhbkodfidfkaaGreatDoor
open Go Go.RowKit

/-! ### the order -/
theorem cmpL_zero : ∀ a b : List UInt8, Lib.compareBytes a b = 0 → a = b
  | [], [], _ => rfl
  | [], _ :: _, h => by simp [Lib.compareBytes] at h
  | _ :: _, [], h => by simp [Lib.compareBytes] at h
  | a :: p, b :: q, h => by
    unfold Lib.compareBytes at h
    by_cases h1 : a < b
    · rw [if_pos h1] at h; exact absurd h (by decide)
    · by_cases h2 : b < a
      · rw [if_neg h1, if_pos h2] at h; exact absurd h (by decide)
      · rw [if_neg h1, if_neg h2] at h
        rw [cmpL_zero p q h, UInt8.le_antisymm (UInt8.not_lt.1 h2) (UInt8.not_lt.1 h1)]
theorem cmpS_zero {a b : ByteArray} (h : cmpS a b = 0) : a = b := by
  have := cmpL_zero _ _ h
  cases a; cases b
  congr
  exact Array.toList_inj.1 this
theorem leS_gt {a b : ByteArray} (h : gtS b a) : leS a b = true := by
  have := (gtS_iff b a).1 h
  rw [← cmpS_ge]
  simp
  omega
theorem leS_cases {a b : ByteArray} (h : leS a b = true) : gtS b a ∨ a = b := by
  rw [← cmpS_ge] at h
  have h : 0 ≤ cmpS b a := by simpa using h
  by_cases h0 : cmpS b a = 0
  · exact .inr (cmpS_zero h0).symm
  · exact .inl ((gtS_iff b a).2 (by omega))
theorem leS_self (a : ByteArray) : leS a a = true := by
  rw [← cmpS_ge]
  have := gt_irr a.data.toList
  simp [cmpS, this]
theorem leS_trans {a b c : ByteArray} (h1 : leS a b = true) (h2 : leS b c = true) : leS a c = true := by
  rcases leS_cases h1 with h1 | rfl
  · rcases leS_cases h2 with h2 | rfl
    · exact leS_gt (h2.trans h1)
    · exact leS_gt h1
  · exact h2
theorem leS_anti {a b : ByteArray} (h1 : leS a b = true) (h2 : leS b a = true) : a = b := by
  rcases leS_cases h1 with h1 | h1
  · unfold gtS at h1
    rw [h1] at h2
    exact absurd h2 (by decide)
  · exact h1
theorem beh_iff (y x : Gf) : behG y x = true ↔ x.at_ < y.at_ ∨ (x.at_ = y.at_ ∧ leS x.id y.id = true) := by
  unfold behG
  simp
theorem beh_self (x : Gf) : behG x x = true := (beh_iff x x).2 (.inr ⟨rfl, leS_self _⟩)
theorem beh_trans {x y z : Gf} (h1 : behG y x = true) (h2 : behG z y = true) : behG z x = true := by
  rw [beh_iff] at h1 h2 ⊢
  rcases h1 with h1 | ⟨h1, h3⟩
  · rcases h2 with h2 | ⟨h2, h4⟩
    · exact .inl (by omega)
    · exact .inl (by omega)
  · rcases h2 with h2 | ⟨h2, h4⟩
    · exact .inl (by omega)
    · exact .inr ⟨by omega, leS_trans h3 h4⟩
theorem beh_total {x y : Gf} (h : behG y x = false) : behG x y = true := by
  have h' : ¬ behG y x = true := by rw [h]; decide
  rw [beh_iff] at h' ⊢
  by_cases h1 : y.at_ < x.at_
  · exact .inl h1
  · have h2 : ¬ x.at_ < y.at_ := fun h2 => h' (.inl h2)
    have h3 : x.at_ = y.at_ := by omega
    refine .inr ⟨h3.symm, ?_⟩
    cases h4 : leS x.id y.id
    · exact leS_gt h4
    · exact absurd (.inr ⟨h3, h4⟩) h'
theorem beh_anti {x y : Gf} (h1 : behG y x = true) (h2 : behG x y = true) : x.id = y.id := by
  rw [beh_iff] at h1 h2
  rcases h1 with h1 | ⟨h1, h3⟩
  · rcases h2 with h2 | ⟨h2, h4⟩ <;> omega
  · rcases h2 with h2 | ⟨h2, h4⟩
    · omega
    · exact leS_anti h3 h4
theorem ordP_ordQ (x y : Gf) : ordP x y = ordQ x y := by
  unfold ordP ordQ firstE cmpI
  by_cases h1 : x.at_ < y.at_
  · have h2 : x.at_ ≠ y.at_ := by omega
    rw [if_pos h1, if_pos h2, if_neg (by decide)]
  · by_cases h2 : y.at_ < x.at_
    · have h3 : x.at_ ≠ y.at_ := by omega
      rw [if_neg h1, if_pos h2, if_pos h3, if_neg (by decide)]
    · have h3 : ¬ x.at_ ≠ y.at_ := by omega
      rw [if_neg h1, if_neg h2, if_neg h3, if_pos rfl]
      unfold firstE
      split
      · simp_all [firstE]
      · rfl
theorem ltQ_beh (x y : Gf) : ltOf ordQ x y = !behG x y := by
  unfold ltOf
  rw [← ordQ_beh, ← decide_not]
  congr 1
  simp
theorem ltP_beh (x y : Gf) : ltOf ordP x y = !behG x y := by
  rw [← ltQ_beh]
  unfold ltOf
  rw [ordP_ordQ]

/-- gifts in their order -/
def SrtG (l : List Gf) : Prop := l.Pairwise (fun x y => behG y x = true)
/-- no id twice -/
def UniqG (l : List Gf) : Prop := l.Pairwise (fun x y => eqS x.id y.id = false)
theorem uniq_eq {l : List Gf} (h : UniqG l) : ∀ x ∈ l, ∀ y ∈ l, x.id = y.id → x = y := by
  induction l with
  | nil => intro x hx; cases hx
  | cons a l ih =>
    obtain ⟨h1, h2⟩ := List.pairwise_cons.1 h
    intro x hx y hy he
    rcases List.mem_cons.1 hx with hx1 | hx2
    · rcases List.mem_cons.1 hy with hy1 | hy2
      · rw [hx1, hy1]
      · have := h1 y hy2
        rw [← hx1, (eqS_iff _ _).2 he] at this
        exact absurd this (by decide)
    · rcases List.mem_cons.1 hy with hy1 | hy2
      · have := h1 x hx2
        rw [← hy1, (eqS_iff _ _).2 he.symm] at this
        exact absurd this (by decide)
      · exact ih h2 x hx2 y hy2 he
theorem srt_one {l1 l2 acc : List Gf} (hu : UniqG acc) (p1 : l1.Perm acc) (p2 : l2.Perm acc) (s1 : SrtG l1) (s2 : SrtG l2) : l1 = l2 := by
  refine List.Perm.eq_of_pairwise (le := fun x y => behG y x = true) ?_ s1 s2 (p1.trans p2.symm)
  intro x y hx hy h1 h2
  exact uniq_eq hu x (p1.mem_iff.1 hx) y (p2.mem_iff.1 hy) (beh_anti h1 h2)

/-! ### merging -/
/-- are two gifts one? -/
def sameGf (o x : Gf) : Bool := eqS o.id x.id && (decide (o.at_ = x.at_) && (decide (o.cents = x.cents) && (eqS o.bid x.bid && eqS o.option x.option)))
theorem sameGf_iff (o x : Gf) : sameGf o x = true ↔ o = x := by
  obtain ⟨a1, a2, a3, a4, a5⟩ := o
  obtain ⟨b1, b2, b3, b4, b5⟩ := x
  unfold sameGf
  simp only [Bool.and_eq_true, decide_eq_true_eq, eqS_iff]
  constructor
  · rintro ⟨rfl, rfl, rfl, rfl, rfl⟩; rfl
  · intro h
    injection h with h1 h2 h3 h4 h5
    exact ⟨h1, h2, h3, h4, h5⟩
def idIx (acc : List Gf) (id : ByteArray) : Int := ixOf (fun o => eqS o.id id) acc
def findG (acc : List Gf) (id : ByteArray) : Option Gf := acc.find? (fun o => eqS o.id id)
theorem findG_snoc (acc : List Gf) (x : Gf) (h : findG acc x.id = none) (id : ByteArray) : findG (acc ++ [x]) id = if id = x.id then some x else findG acc id := by
  unfold findG at *
  rw [List.find?_append]
  by_cases he : id = x.id
  · subst he
    rw [h, if_pos rfl]
    simp [eqS_self]
  · rw [if_neg he]
    have hne : eqS x.id id = false := eqS_ne (fun h => he h.symm)
    simp [hne]
theorem findG_id {acc : List Gf} {id : ByteArray} {o : Gf} (h : findG acc id = some o) : o.id = id := by
  unfold findG at h
  have := List.find?_some h
  exact (eqS_iff _ _).1 this
theorem findG_mem {acc : List Gf} {id : ByteArray} {o : Gf} (h : findG acc id = some o) : o ∈ acc := List.mem_of_find?_eq_some h
/-- the reference's way to find -/
theorem idIx_split (acc : List Gf) (id : ByteArray) : (idIx acc id = -1 ∧ findG acc id = none) ∨ (∃ k : Nat, ∃ hk : k < acc.length, idIx acc id = k ∧ findG acc id = some acc[k]) := by
  rcases ixOf_split (fun o : Gf => eqS o.id id) acc with ⟨h1, h2⟩ | ⟨k, hk, h1, h2, h3⟩
  · refine .inl ⟨h1, ?_⟩
    unfold findG
    rw [List.find?_eq_none]
    intro o ho
    obtain ⟨i, hi, rfl⟩ := List.mem_iff_getElem.1 ho
    rw [h2 i hi]
    decide
  · refine .inr ⟨k, hk, h1, ?_⟩
    unfold findG
    rw [List.find?_eq_some_iff_getElem]
    refine ⟨h2, k, hk, rfl, fun j hj => ?_⟩
    have := h3 j hj
    rw [this]
    rfl
/-- a gift more -/
def mrgG (acc : List Gf) (x : Gf) : Option (List Gf) := match findG acc x.id with
  | none => some (acc ++ [x])
  | some o => if sameGf o x = true then some acc else none
def mrgF : List Gf → List Gf → Option (List Gf)
  | acc, [] => some acc
  | acc, x :: r => match mrgG acc x with
    | none => none
    | some a => mrgF a r
theorem mrgF_append (v : List Gf) : ∀ (u acc : List Gf), mrgF acc (u ++ v) = match mrgF acc u with | none => none | some a => mrgF a v
  | [], acc => rfl
  | x :: u, acc => by
    rw [List.cons_append, mrgF, mrgF]
    cases mrgG acc x with
    | none => rfl
    | some a => exact mrgF_append v u a
theorem mrgF_step {acc0 xs acc : List Gf} {k : Nat} (hk : k < xs.length) (h : mrgF acc0 (xs.take k) = some acc) : mrgF acc0 (xs.take (k + 1)) = mrgG acc xs[k] := by
  rw [List.take_succ_eq_append_getElem hk, mrgF_append, h]
  show mrgF acc [xs[k]] = _
  rw [mrgF]
  cases mrgG acc xs[k] <;> rfl
theorem mrgF_no {acc0 xs : List Gf} {k : Nat} (h : mrgF acc0 (xs.take k) = none) : mrgF acc0 xs = none := by
  rw [← List.take_append_drop k xs, mrgF_append, h]
theorem mrgG_uniq {acc a : List Gf} {x : Gf} (hu : UniqG acc) (h : mrgG acc x = some a) : UniqG a := by
  unfold mrgG at h
  cases hf : findG acc x.id with
  | none =>
    rw [hf] at h
    injection h with h
    subst h
    refine List.pairwise_append.2 ⟨hu, List.pairwise_singleton _ _, fun o ho y hy => ?_⟩
    have hy : y = x := by simpa using hy
    subst hy
    unfold findG at hf
    rw [List.find?_eq_none] at hf
    have := hf o ho
    simpa using this
  | some o =>
    rw [hf] at h
    simp only at h
    split at h
    · injection h with h
      subst h
      exact hu
    · cases h
theorem mrgF_uniq : ∀ (r acc a : List Gf), UniqG acc → mrgF acc r = some a → UniqG a
  | [], acc, a, hu, h => by
    rw [mrgF] at h
    injection h with h
    subst h
    exact hu
  | x :: r, acc, a, hu, h => by
    rw [mrgF] at h
    cases hg : mrgG acc x with
    | none => rw [hg] at h; cases h
    | some c => rw [hg] at h; exact mrgF_uniq r c a (mrgG_uniq hu hg) h
theorem mrgG_mem {acc a : List Gf} {x : Gf} (h : mrgG acc x = some a) : (∀ y ∈ a, y ∈ acc ∨ y = x) ∧ a.length ≤ acc.length + 1 := by
  unfold mrgG at h
  split at h
  · injection h with h
    subst h
    exact ⟨fun y hy => by simpa using hy, by simp⟩
  · split at h
    · injection h with h
      subst h
      exact ⟨fun y hy => .inl hy, by omega⟩
    · cases h
theorem mrgF_mem : ∀ (r acc a : List Gf), mrgF acc r = some a → (∀ y ∈ a, y ∈ acc ∨ y ∈ r) ∧ a.length ≤ acc.length + r.length
  | [], acc, a, h => by
    rw [mrgF] at h
    injection h with h
    subst h
    exact ⟨fun y hy => .inl hy, by simp⟩
  | x :: r, acc, a, h => by
    rw [mrgF] at h
    cases hg : mrgG acc x with
    | none => rw [hg] at h; cases h
    | some c =>
      rw [hg] at h
      obtain ⟨h1, h2⟩ := mrgG_mem hg
      obtain ⟨h3, h4⟩ := mrgF_mem r c a h
      refine ⟨fun y hy => ?_, by simp; omega⟩
      rcases h3 y hy with h5 | h5
      · rcases h1 y h5 with h6 | h6
        · exact .inl h6
        · exact .inr (by rw [h6]; exact List.mem_cons_self ..)
      · exact .inr (List.mem_cons_of_mem _ h5)
theorem mrgF_dup (gs : List Gf) : ∀ k, k ≤ gs.length → dupTo gs k = false → mrgF [] (gs.take k) = some (gs.take k)
  | 0, _, _ => by simp [mrgF]
  | k + 1, hk, h => by
    have hk' : k < gs.length := hk
    rw [dupTo_step gs k hk'] at h
    obtain ⟨h1, h2⟩ := Bool.or_eq_false_iff.1 h
    have ih := mrgF_dup gs k (by omega) h1
    rw [mrgF_step hk' ih]
    have hf : findG (gs.take k) gs[k].id = none := by
      unfold findG
      rw [List.find?_eq_none]
      intro o ho
      have := List.any_eq_false.1 h2 o ho
      simpa using this
    unfold mrgG
    rw [hf, List.take_succ_eq_append_getElem hk']
/-- a right list by itself -/
theorem right_uniq {t : Gf → Int} {gs : List Gf} (h : giftsF t gs = 0) : mrgF [] gs = some gs ∧ UniqG gs := by
  have hd : dupTo gs gs.length = false := by
    unfold giftsF at h
    split at h
    · exact absurd h (by decide)
    · split at h
      · split at h
        · exact absurd h (by decide)
        · cases hd : dupTo gs gs.length <;> simp_all
      · exact absurd h (by assumption)
  have := mrgF_dup gs gs.length (Nat.le_refl _) hd
  rw [List.take_length] at this
  exact ⟨this, mrgF_uniq gs [] gs List.Pairwise.nil this⟩
theorem mrg_alike {t : Gf → Int} {gs : List Gf} (hs : List Gf) (h : giftsF t gs = 0) : mrgF [] (gs ++ hs) = mrgF gs hs := by
  rw [mrgF_append, (right_uniq h).1]
/-- what is wrong with two right lists together -/
def mrgE (r : Option (List Gf)) : Int := match r with
  | none => 13
  | some acc => if 2000 < acc.length then 2 else 0
end Go.Proofs.YtohhbkodfidfkaaGreatDoor
