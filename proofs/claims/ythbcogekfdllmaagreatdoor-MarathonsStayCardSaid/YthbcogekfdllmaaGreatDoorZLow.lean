/-
  Two laws that many texts want: cells set above a mark; where the first one lies. No Go text is named here.
-/
import Derived.Test.YthbcogekfdllmaaGreatDoorZBs
import Derived.Test.YthbcogekfdllmaaGreatDoorZLivePure
import Derived.Test.YthbcogekfdllmaaGreatDoorZSpoil2
import Derived.Test.YthbcogekfdllmaaGreatDoorZEqLv
namespace Go.Proofs.YthbcogekfdllmaaGreatDoor
open Go Go.RowKit

theorem ixOf_split {α : Type} (p : α → Bool) : ∀ l : List α, (ixOf p l = -1 ∧ ∀ i (hi : i < l.length), p l[i] = false) ∨ (∃ k : Nat, ∃ hk : k < l.length, ixOf p l = k ∧ p l[k] = true ∧ ∀ i (hi : i < k), p (l[i]'(Nat.lt_trans hi hk)) = false)
  | [] => .inl ⟨rfl, by intro i hi; simp at hi⟩
  | a :: l => by
    cases hp : p a
    · rcases ixOf_split p l with ⟨h1, h2⟩ | ⟨k, hk, h1, h2, h3⟩
      · refine .inl ⟨ixOf_no p _ (fun i hi => ?_), fun i hi => ?_⟩
        all_goals
          cases i with
          | zero => exact hp
          | succ i => exact h2 i (by simpa using hi)
      · refine .inr ⟨k + 1, by simpa using hk, ?_, by simpa using h2, ?_⟩
        · refine ixOf_at p (a :: l) (k + 1) (by simpa using hk) (fun i hi => ?_) (by simpa using h2)
          cases i with
          | zero => exact hp
          | succ i => exact h3 i (by omega)
        · intro i hi
          cases i with
          | zero => exact hp
          | succ i => exact h3 i (by omega)
    · exact .inr ⟨0, by simp, ixOf_at p (a :: l) 0 (by simp) (by intro i hi; omega) hp, hp, by intro i hi; omega⟩
end Go.Proofs.YthbcogekfdllmaaGreatDoor
/-
  The order with the fewest clashes: what program and reference choose, in plain words. No Go text is named here.
-/
namespace Go.Proofs.YthbcogekfdllmaaGreatDoor
open Go Go.RowKit

/-! ### lists of strings held against each other -/
def cmpLS : List ByteArray → List ByteArray → Int
  | [], [] => 0
  | [], _ :: _ => -1
  | _ :: _, [] => 1
  | a :: p, b :: q => if cmpS a b = 0 then cmpLS p q else cmpS a b
theorem cmpS_self (a : ByteArray) : cmpS a a = 0 := gt_irr a.data.toList
theorem cmpS_lt (a b : ByteArray) : cmpS a b < 0 ↔ gtS b a := by
  unfold gtS
  rw [← cmpS_ge]
  simp
theorem cmpS_flip (a b : ByteArray) : cmpS a b < 0 ↔ 0 < cmpS b a := by rw [cmpS_lt, gtS_iff]
theorem cmpS_trans {a b c : ByteArray} (h1 : cmpS a b < 0) (h2 : cmpS b c < 0) : cmpS a c < 0 := by
  rw [cmpS_lt] at *
  exact h2.trans h1
theorem cmpLS_self : ∀ p : List ByteArray, cmpLS p p = 0
  | [] => rfl
  | a :: p => by rw [cmpLS, if_pos (cmpS_self a)]; exact cmpLS_self p
theorem cmpLS_trans : ∀ {p q r : List ByteArray}, cmpLS p q < 0 → cmpLS q r < 0 → cmpLS p r < 0
  | [], [], _, h, _ => by simp [cmpLS] at h
  | [], _ :: _, [], _, h => by simp [cmpLS] at h
  | [], _ :: _, _ :: _, _, _ => by simp [cmpLS]
  | _ :: _, [], _, h, _ => by simp [cmpLS] at h
  | _ :: _, _ :: _, [], _, h => by simp [cmpLS] at h
  | a :: p, b :: q, c :: r, h1, h2 => by
    rw [cmpLS] at h1 h2 ⊢
    by_cases e1 : cmpS a b = 0
    · rw [if_pos e1] at h1
      have := cmpS_zero e1
      subst this
      by_cases e2 : cmpS a c = 0
      · rw [if_pos e2] at h2 ⊢
        exact cmpLS_trans h1 h2
      · rw [if_neg e2] at h2 ⊢
        exact h2
    · rw [if_neg e1] at h1
      by_cases e2 : cmpS b c = 0
      · have := cmpS_zero e2
        subst this
        rw [if_neg e1]
        exact h1
      · rw [if_neg e2] at h2
        have h3 := cmpS_trans h1 h2
        rw [if_neg (by omega)]
        exact h3
theorem cmpLS_asym {p q : List ByteArray} (h1 : cmpLS p q < 0) (h2 : cmpLS q p < 0) : False := by
  have h3 := cmpLS_trans h1 h2
  rw [cmpLS_self] at h3
  omega
theorem cmpLS_app : ∀ (t p q : List ByteArray), cmpLS (t ++ p) (t ++ q) = cmpLS p q
  | [], _, _ => rfl
  | a :: t, p, q => by
    rw [List.cons_append, List.cons_append, cmpLS, if_pos (cmpS_self a)]
    exact cmpLS_app t p q
/-! ### all orders -/
def keysL (p : List Slt) : List ByteArray := p.map (·.key)
theorem keysL_app (p q : List Slt) : keysL (p ++ q) = keysL p ++ keysL q := by simp [keysL]
theorem keysL_len (p : List Slt) : (keysL p).length = p.length := by simp [keysL]
/-- the program's: of what is left, behind what is taken -/
def permsO : Nat → List Slt → List Slt → List (List Slt)
  | 0, taken, _ => [taken]
  | n + 1, taken, left => (List.range (n + 1)).flatMap fun i => match left[i]? with
    | none => []
    | some x => permsO n (taken ++ [x]) (left.eraseIdx i)
/-- those of the first k rounds -/
def permsK (n : Nat) (taken left : List Slt) (k : Nat) : List (List Slt) := (List.range k).flatMap fun i => match left[i]? with
    | none => []
    | some x => permsO n (taken ++ [x]) (left.eraseIdx i)
theorem permsK_step (n : Nat) (taken left : List Slt) (k : Nat) (hk : k < left.length) : permsK n taken left (k + 1) = permsK n taken left k ++ permsO n (taken ++ [left[k]]) (left.eraseIdx k) := by
  unfold permsK
  rw [List.range_succ, List.flatMap_append]
  simp [List.getElem?_eq_getElem hk]
theorem erase_perm {α : Type} : ∀ (l : List α) (i : Nat) (h : i < l.length), (l[i] :: l.eraseIdx i).Perm l
  | a :: l, 0, _ => by simp
  | a :: l, i + 1, h => by
    have ih := erase_perm l i (by simpa using h)
    rw [List.eraseIdx_cons_succ, List.getElem_cons_succ]
    exact (List.Perm.swap a _ _).trans (ih.cons a)
theorem permsO_mem : ∀ (n : Nat) (taken left p : List Slt), left.length = n → (p ∈ permsO n taken left ↔ ∃ q, q.Perm left ∧ p = taken ++ q)
  | 0, taken, left, p, h => by
    have : left = [] := List.eq_nil_of_length_eq_zero h
    subst this
    simp [permsO]
  | n + 1, taken, left, p, h => by
    rw [permsO, List.mem_flatMap]
    constructor
    · rintro ⟨i, hi, hp⟩
      have hi : i < left.length := by rw [h]; exact List.mem_range.1 hi
      rw [List.getElem?_eq_getElem hi] at hp
      have hl : (left.eraseIdx i).length = n := by rw [List.length_eraseIdx_of_lt hi]; omega
      obtain ⟨q, hq, rfl⟩ := (permsO_mem n _ _ p hl).1 hp
      exact ⟨left[i] :: q, (hq.cons _).trans (erase_perm left i hi), by simp⟩
    · rintro ⟨q, hq, rfl⟩
      cases q with
      | nil => have := hq.length_eq; simp at this; omega
      | cons x q =>
        have hx : x ∈ left := hq.mem_iff.1 (List.mem_cons_self ..)
        obtain ⟨i, hi, rfl⟩ := List.getElem_of_mem hx
        refine ⟨i, List.mem_range.2 (by omega), ?_⟩
        rw [List.getElem?_eq_getElem hi]
        have hl : (left.eraseIdx i).length = n := by rw [List.length_eraseIdx_of_lt hi]; omega
        exact (permsO_mem n _ _ _ hl).2 ⟨q, List.Perm.cons_inv (hq.trans (erase_perm left i hi).symm), by simp⟩
/-- keys that rise -/
def KeyUp (l : List Slt) : Prop := l.Pairwise (fun x y => cmpS x.key y.key < 0)
def LexUp (P : List (List Slt)) : Prop := P.Pairwise (fun p q => cmpLS (keysL p) (keysL q) < 0)
theorem permsO_up : ∀ (n : Nat) (taken left : List Slt), left.length = n → KeyUp left → LexUp (permsO n taken left)
  | 0, taken, left, _, _ => List.pairwise_singleton _ _
  | n + 1, taken, left, h, hu => by
    rw [permsO]
    unfold LexUp
    rw [List.pairwise_flatMap]
    constructor
    · intro i hi
      have hi : i < left.length := by rw [h]; exact List.mem_range.1 hi
      rw [List.getElem?_eq_getElem hi]
      exact permsO_up n _ _ (by rw [List.length_eraseIdx_of_lt hi]; omega) (List.Pairwise.sublist (List.eraseIdx_sublist left i) hu)
    · rw [List.pairwise_iff_getElem]
      intro a b ha hb hab p hp q hq
      rw [List.length_range] at ha hb
      rw [List.getElem_range] at hp hq
      have hi : a < left.length := by omega
      have hj : b < left.length := by omega
      rw [List.getElem?_eq_getElem hi] at hp
      rw [List.getElem?_eq_getElem hj] at hq
      obtain ⟨p', _, rfl⟩ := (permsO_mem n _ _ p (by rw [List.length_eraseIdx_of_lt hi]; omega)).1 hp
      obtain ⟨q', _, rfl⟩ := (permsO_mem n _ _ q (by rw [List.length_eraseIdx_of_lt hj]; omega)).1 hq
      have hlt := List.pairwise_iff_getElem.1 hu a b hi hj hab
      rw [List.append_assoc, List.append_assoc, keysL_app taken ([left[a]] ++ p'), keysL_app taken ([left[b]] ++ q'), cmpLS_app]
      show cmpLS (left[a].key :: _) (left[b].key :: _) < 0
      rw [cmpLS, if_neg (by omega)]
      exact hlt
/-- the reference's: behind those that stand -/
def permsQ (xs : List Slt) : Nat → List Slt → List (List Slt)
  | 0, hv => [hv]
  | n + 1, hv => xs.flatMap fun x => if findL hv x.key < 0 then permsQ xs n (hv ++ [x]) else []
theorem findL_no (hv : List Slt) (k : ByteArray) : findL hv k < 0 ↔ ∀ x ∈ hv, x.key ≠ k := by
  unfold findL
  rcases ixOf_split (fun x : Slt => eqS x.key k) hv with ⟨h1, h2⟩ | ⟨j, hj, h1, h2, _⟩
  · rw [h1]
    refine ⟨fun _ x hx => ?_, fun _ => by decide⟩
    obtain ⟨i, hi, rfl⟩ := List.getElem_of_mem hx
    intro he
    have := h2 i hi
    rw [(eqS_iff _ _).2 he] at this
    cases this
  · rw [h1]
    refine ⟨fun h => by omega, fun h => absurd ((eqS_iff _ _).1 h2) (h _ (List.getElem_mem hj))⟩
/-- keys of one kind -/
def KeyOne (l : List Slt) : Prop := (keysL l).Nodup
theorem permsQ_mem (xs : List Slt) (hx : KeyOne xs) : ∀ (n : Nat) (hv rest q : List Slt), rest.length = n → (hv ++ rest).Perm xs → (q ∈ permsQ xs n hv ↔ ∃ r, r.Perm rest ∧ q = hv ++ r)
  | 0, hv, rest, q, hn, _ => by
    have : rest = [] := List.eq_nil_of_length_eq_zero hn
    subst this
    simp [permsQ]
  | n + 1, hv, rest, q, hn, hp => by
    have hno : KeyOne (hv ++ rest) := by
      unfold KeyOne keysL at *
      exact (hp.map _).nodup_iff.2 hx
    rw [permsQ, List.mem_flatMap]
    constructor
    · rintro ⟨x, hxm, hq⟩
      by_cases hf : findL hv x.key < 0
      · rw [if_pos hf] at hq
        have hxr : x ∈ rest := by
          rcases List.mem_append.1 (hp.mem_iff.2 hxm) with h | h
          · exact absurd rfl ((findL_no hv x.key).1 hf x h)
          · exact h
        obtain ⟨i, hi, rfl⟩ := List.getElem_of_mem hxr
        have hpe := erase_perm rest i hi
        obtain ⟨r, hr, rfl⟩ := (permsQ_mem xs hx n (hv ++ [rest[i]]) (rest.eraseIdx i) q (by rw [List.length_eraseIdx_of_lt hi]; omega) (by rw [List.append_assoc]; exact ((List.Perm.append_left hv hpe)).trans hp)).1 hq
        exact ⟨rest[i] :: r, (hr.cons _).trans hpe, by simp⟩
      · rw [if_neg hf] at hq
        cases hq
    · rintro ⟨r, hr, rfl⟩
      cases r with
      | nil => have := hr.length_eq; simp at this; omega
      | cons x r =>
        have hxr : x ∈ rest := hr.mem_iff.1 (List.mem_cons_self ..)
        obtain ⟨i, hi, rfl⟩ := List.getElem_of_mem hxr
        have hpe := erase_perm rest i hi
        refine ⟨rest[i], hp.mem_iff.1 (List.mem_append_right _ (List.getElem_mem hi)), ?_⟩
        have hf : findL hv rest[i].key < 0 := by
          rw [findL_no]
          intro y hy he
          unfold KeyOne at hno
          rw [keysL_app, List.nodup_append] at hno
          exact hno.2.2 y.key (List.mem_map_of_mem hy) rest[i].key (List.mem_map_of_mem (List.getElem_mem hi)) he
        rw [if_pos hf]
        exact (permsQ_mem xs hx n (hv ++ [rest[i]]) (rest.eraseIdx i) _ (by rw [List.length_eraseIdx_of_lt hi]; omega) (by rw [List.append_assoc]; exact ((List.Perm.append_left hv hpe)).trans hp)).2 ⟨r, List.Perm.cons_inv (hr.trans hpe.symm), by simp⟩

/-! ### the best -/
def clN_ (rest : Int) (p : List Slt) : Int := (clF p rest).length
/-- the program's: the best so far, and its clashes -/
def stepO (rest : Int) (s : List Slt × Int) (p : List Slt) : List Slt × Int := if s.2 < 0 ∨ clN_ rest p < s.2 then (p, clN_ rest p) else s
/-- the reference's: the keys of the best so far, and its clashes -/
def stepQ (rest : Int) (s : List ByteArray × Int) (p : List Slt) : List ByteArray × Int := if s.2 < 0 ∨ clN_ rest p < s.2 ∨ (clN_ rest p = s.2 ∧ cmpLS (keysL p) s.1 < 0) then (keysL p, clN_ rest p) else s
theorem clN_pos (rest : Int) (p : List Slt) : 0 ≤ clN_ rest p := by unfold clN_; omega
theorem bestO (rest : Int) : ∀ (P : List (List Slt)) (b : List Slt), LexUp P → (∀ p ∈ P, cmpLS (keysL b) (keysL p) < 0) →
    ∃ c, P.foldl (stepO rest) (b, clN_ rest b) = (c, clN_ rest c) ∧ c ∈ b :: P ∧ (c = b ∨ clN_ rest c < clN_ rest b) ∧ ∀ p ∈ b :: P, clN_ rest c < clN_ rest p ∨ (clN_ rest c = clN_ rest p ∧ (p = c ∨ cmpLS (keysL c) (keysL p) < 0))
  | [], b, _, _ => ⟨b, rfl, List.mem_cons_self .., .inl rfl, fun p hp => by rw [List.mem_singleton.1 hp]; exact .inr ⟨rfl, .inl rfl⟩⟩
  | p :: P, b, hu, hb => by
    have hu' := List.pairwise_cons.1 hu
    have hlt := hb p (List.mem_cons_self ..)
    rw [List.foldl_cons, stepO]
    have h0 := clN_pos rest b
    by_cases hn : clN_ rest p < clN_ rest b
    · rw [if_pos (.inr hn)]
      obtain ⟨c, h1, h2, h3, h4⟩ := bestO rest P p hu'.2 hu'.1
      have hc : clN_ rest c ≤ clN_ rest p := by
        rcases h3 with rfl | h3
        · exact Int.le_refl _
        · omega
      refine ⟨c, h1, List.mem_cons_of_mem _ h2, .inr (by omega), fun q hq => ?_⟩
      rcases List.mem_cons.1 hq with rfl | hq
      · exact .inl (by omega)
      · exact h4 q hq
    · rw [if_neg (by omega)]
      obtain ⟨c, h1, h2, h3, h4⟩ := bestO rest P b hu'.2 (fun q hq => hb q (List.mem_cons_of_mem _ hq))
      refine ⟨c, h1, ?_, h3, fun q hq => ?_⟩
      · rcases List.mem_cons.1 h2 with rfl | h2
        · exact List.mem_cons_self ..
        · exact List.mem_cons_of_mem _ (List.mem_cons_of_mem _ h2)
      · rcases List.mem_cons.1 hq with rfl | hq
        · exact h4 _ (List.mem_cons_self ..)
        · rcases List.mem_cons.1 hq with rfl | hq
          · rcases h3 with rfl | h3
            · by_cases he : clN_ rest c = clN_ rest q
              · exact .inr ⟨he, .inr hlt⟩
              · exact .inl (by omega)
            · exact .inl (by omega)
          · exact h4 q (List.mem_cons_of_mem _ hq)
theorem bestO_all (rest : Int) (P : List (List Slt)) (hu : LexUp P) (hne : P ≠ []) (s0 : List Slt) :
    ∃ c, P.foldl (stepO rest) (s0, -1) = (c, clN_ rest c) ∧ c ∈ P ∧ ∀ p ∈ P, clN_ rest c < clN_ rest p ∨ (clN_ rest c = clN_ rest p ∧ (p = c ∨ cmpLS (keysL c) (keysL p) < 0)) := by
  cases P with
  | nil => exact absurd rfl hne
  | cons p P =>
    have hu' := List.pairwise_cons.1 hu
    obtain ⟨c, h1, h2, _, h4⟩ := bestO rest P p hu'.2 hu'.1
    exact ⟨c, by rw [List.foldl_cons, stepO, if_pos (.inl (show (-1 : Int) < 0 by decide))]; exact h1, h2, h4⟩
theorem bstRQ (rest : Int) : ∀ (P : List (List Slt)) (b : List Slt),
    ∃ c, P.foldl (stepQ rest) (keysL b, clN_ rest b) = (keysL c, clN_ rest c) ∧ c ∈ b :: P ∧ (c = b ∨ clN_ rest c < clN_ rest b ∨ (clN_ rest c = clN_ rest b ∧ cmpLS (keysL c) (keysL b) < 0)) ∧ ∀ p ∈ b :: P, clN_ rest c < clN_ rest p ∨ (clN_ rest c = clN_ rest p ∧ ¬ cmpLS (keysL p) (keysL c) < 0)
  | [], b => ⟨b, rfl, List.mem_cons_self .., .inl rfl, fun p hp => by rw [List.mem_singleton.1 hp]; exact .inr ⟨rfl, by rw [cmpLS_self]; decide⟩⟩
  | p :: P, b => by
    rw [List.foldl_cons, stepQ]
    have h0 := clN_pos rest b
    by_cases hn : clN_ rest p < clN_ rest b ∨ (clN_ rest p = clN_ rest b ∧ cmpLS (keysL p) (keysL b) < 0)
    · rw [if_pos (.inr hn)]
      obtain ⟨c, h1, h2, h3, h4⟩ := bstRQ rest P p
      have hcb : clN_ rest c < clN_ rest b ∨ (clN_ rest c = clN_ rest b ∧ cmpLS (keysL c) (keysL b) < 0) := by
        rcases h3 with rfl | h3 | ⟨h3, h3'⟩
        · exact hn
        · rcases hn with hn | ⟨hn, _⟩
          · exact .inl (by omega)
          · exact .inl (by omega)
        · rcases hn with hn | ⟨hn, hn'⟩
          · exact .inl (by omega)
          · exact .inr ⟨by omega, cmpLS_trans h3' hn'⟩
      refine ⟨c, h1, List.mem_cons_of_mem _ h2, .inr hcb, fun q hq => ?_⟩
      rcases List.mem_cons.1 hq with rfl | hq
      · rcases hcb with h | ⟨h, h'⟩
        · exact .inl h
        · exact .inr ⟨h, fun h2 => cmpLS_asym h' h2⟩
      · exact h4 q hq
    · rw [if_neg (by rintro (h | h); omega; exact hn h)]
      obtain ⟨c, h1, h2, h3, h4⟩ := bstRQ rest P b
      refine ⟨c, h1, ?_, h3, fun q hq => ?_⟩
      · rcases List.mem_cons.1 h2 with rfl | h2
        · exact List.mem_cons_self ..
        · exact List.mem_cons_of_mem _ (List.mem_cons_of_mem _ h2)
      · rcases List.mem_cons.1 hq with rfl | hq
        · exact h4 _ (List.mem_cons_self ..)
        · rcases List.mem_cons.1 hq with rfl | hq
          · rcases h4 b (List.mem_cons_self ..) with h | ⟨h, h'⟩
            · exact .inl (by omega)
            · by_cases he : clN_ rest c < clN_ rest q
              · exact .inl he
              · refine .inr ⟨by omega, fun hlt => hn (.inr ⟨by omega, ?_⟩)⟩
                rcases h3 with rfl | h3 | ⟨_, h3⟩
                · exact hlt
                · omega
                · exact cmpLS_trans hlt h3
          · exact h4 q (List.mem_cons_of_mem _ hq)
theorem bestQ_all (rest : Int) (P : List (List Slt)) (hne : P ≠ []) (s0 : List ByteArray) :
    ∃ c, P.foldl (stepQ rest) (s0, -1) = (keysL c, clN_ rest c) ∧ c ∈ P ∧ ∀ p ∈ P, clN_ rest c < clN_ rest p ∨ (clN_ rest c = clN_ rest p ∧ ¬ cmpLS (keysL p) (keysL c) < 0) := by
  cases P with
  | nil => exact absurd rfl hne
  | cons p P =>
    obtain ⟨c, h1, h2, _, h4⟩ := bstRQ rest P p
    exact ⟨c, by rw [List.foldl_cons, stepQ, if_pos (.inl (show (-1 : Int) < 0 by decide))]; exact h1, h2, h4⟩
/-- what Order answers, of sorted slots -/
def bestP (rest : Int) (srt : List Slt) : List Slt × Int := (permsO srt.length [] srt).foldl (stepO rest) ([], -1)
def bestR (rest : Int) (xs : List Slt) : List ByteArray × Int := (permsQ xs xs.length []).foldl (stepQ rest) ([], -1)
theorem permsO_ne (srt : List Slt) : permsO srt.length [] srt ≠ [] := by
  intro h
  have := (permsO_mem srt.length [] srt srt rfl).2 ⟨srt, List.Perm.refl _, rfl⟩
  rw [h] at this
  cases this
theorem bestP_ok (rest : Int) (srt : List Slt) (hu : KeyUp srt) : ∃ c, bestP rest srt = (c, clN_ rest c) ∧ c.Perm srt ∧ ∀ p, p.Perm srt → clN_ rest c ≤ clN_ rest p := by
  obtain ⟨c, h1, h2, h3⟩ := bestO_all rest _ (permsO_up srt.length [] srt rfl hu) (permsO_ne srt) []
  obtain ⟨q, hq, rfl⟩ := (permsO_mem srt.length [] srt c rfl).1 h2
  refine ⟨_, h1, by simpa using hq, fun p hp => ?_⟩
  rcases h3 p ((permsO_mem srt.length [] srt p rfl).2 ⟨p, hp, rfl⟩) with h | ⟨h, _⟩
  · exact Int.le_of_lt h
  · exact Int.le_of_eq h
/-- both choose alike -/
theorem best_alike_ (rest : Int) (xs srt : List Slt) (hx : KeyOne xs) (hs : srt.Perm xs) (hu : KeyUp srt) : keysL (bestP rest srt).1 = (bestR rest xs).1 ∧ (bestP rest srt).2 = (bestR rest xs).2 := by
  obtain ⟨c, h1, h2, h3⟩ := bestO_all rest _ (permsO_up srt.length [] srt rfl hu) (permsO_ne srt) []
  have hq : ∀ q, q ∈ permsQ xs xs.length [] ↔ q.Perm xs := fun q => by
    rw [permsQ_mem xs hx xs.length [] xs q rfl (List.Perm.refl _)]
    simp
  have hp : ∀ p, p ∈ permsO srt.length [] srt ↔ p.Perm xs := fun p => by
    rw [permsO_mem srt.length [] srt p rfl]
    constructor
    · rintro ⟨q, hq, he⟩
      rw [he]
      simpa using hq.trans hs
    · intro h
      exact ⟨p, h.trans hs.symm, rfl⟩
  have hne : permsQ xs xs.length [] ≠ [] := by
    intro h
    have := (hq xs).2 (List.Perm.refl _)
    rw [h] at this
    cases this
  obtain ⟨d, k1, k2, k3⟩ := bestQ_all rest _ hne []
  unfold bestP bestR
  rw [h1, k1]
  have hdP := (hp d).2 ((hq d).1 k2)
  have hcQ := (hq c).2 ((hp c).1 h2)
  rcases h3 d hdP with h | ⟨h, h'⟩
  · rcases k3 c hcQ with k | ⟨k, _⟩
    · omega
    · omega
  · rcases k3 c hcQ with k | ⟨_, k'⟩
    · omega
    · rcases h' with rfl | h'
      · exact ⟨rfl, rfl⟩
      · exact absurd h' k'
end Go.Proofs.YthbcogekfdllmaaGreatDoor
