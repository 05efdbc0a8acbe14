/-
  OrdersClashLeast: the plain law: an order of all slots is no fault, is that order, and has the clashes that it has by its contents.
-/
import Derived.Test.YtejadhehmcifoaaGreatDoorZOrdPure
import Derived.Test.YtejadhehmcifoaaGreatDoorZMovPure
import Derived.Test.YtejadhehmcifoaaGreatDoorZSlotR
import Derived.Test.YtejadhehmcifoaaGreatDoorZSlot11
import Derived.Test.YtejadhehmcifoaaGreatDoorZMov1
namespace Go.Proofs.YtejadhehmcifoaaGreatDoor
open Go Go.RowKit

theorem right_perm {xs p : List Slt} (h : RSlots xs) (hp : p.Perm xs) : slotsF p = 0 := by
  have hl := h.sub.length_le
  have h5 : keys5.length = 5 := rfl
  rw [List.length_map] at hl
  have hpl := hp.length_eq
  unfold slotsF
  rw [if_neg (by omega)]
  refine slotsG_sub p [] (fun x hx => ⟨h.all x (hp.subset hx), keys5_key _ (h.sub.subset (List.mem_map_of_mem (hp.subset hx)))⟩) ?_
  have hs : ∀ {a b : ByteArray}, eqS a b = false → eqS b a = false := fun {a b} hab => by
    cases hba : eqS b a
    · rfl
    · have := (eqS_iff _ _).1 hba
      subst this
      rw [(eqS_iff _ _).2 rfl] at hab
      exact hab
  exact ((hp.map (·.key)).pairwise_iff hs).2 (keys5_pw.sublist h.sub)
theorem findL_at {xs : List Slt} (hx : KeyOne xs) {x : Slt} (hm : x ∈ xs) : ∃ i : Nat, findL xs x.key = (i : Int) ∧ xs[i]? = some x := by
  unfold findL
  rcases ixOf_split (fun y : Slt => eqS y.key x.key) xs with ⟨_, h⟩ | ⟨k, hk, h1, h2, _⟩
  · obtain ⟨i, hi, rfl⟩ := List.getElem_of_mem hm
    have := h i hi
    rw [(eqS_iff _ _).2 rfl] at this
    cases this
  · refine ⟨k, h1, ?_⟩
    rw [List.getElem?_eq_getElem hk]
    have hkey := (eqS_iff _ _).1 h2
    obtain ⟨i, hi, he⟩ := List.getElem_of_mem hm
    have hki : k = i := by
      have hpw := List.pairwise_iff_getElem.1 (show (xs.map (fun y : Slt => y.key)).Pairwise (fun a b => a ≠ b) from hx)
      rcases Nat.lt_trichotomy k i with h | h | h
      · exact absurd (by rw [List.getElem_map, List.getElem_map, hkey, he]) (hpw k i (by simpa using hk) (by simpa using hi) h)
      · exact h
      · exact absurd (by rw [List.getElem_map, List.getElem_map, hkey, he]) (hpw i k (by simpa using hi) (by simpa using hk) h)
    subst hki
    rw [he]
theorem movG_zero {xs : List Slt} (hx : KeyOne xs) : ∀ (p : List Slt) (dn : List ByteArray), (dn ++ keysL p).Nodup → (∀ x ∈ p, x ∈ xs) → movG xs dn (keysL p) = 0
  | [], _, _, _ => rfl
  | x :: p, dn, hn, hm => by
    obtain ⟨i, hi, _⟩ := findL_at hx (hm x (List.mem_cons_self ..))
    have hmem : memS dn x.key = false := by
      cases h : memS dn x.key
      · rfl
      · have := (memS_iff _ _).1 h
        rw [List.nodup_append] at hn
        exact absurd rfl (hn.2.2 _ this _ (by simp [keysL]))
    show movG xs dn (x.key :: keysL p) = 0
    rw [movG, if_neg (by rw [hi]; omega), if_neg (by rw [hmem]; decide)]
    refine movG_zero hx p (dn ++ [x.key]) ?_ (fun y hy => hm y (List.mem_cons_of_mem _ hy))
    rw [List.append_assoc]
    exact hn
theorem mov_perm {xs p : List Slt} (hx : KeyOne xs) (hp : p.Perm xs) : movE xs (keysL p) = 0 ∧ movL xs (keysL p) = p := by
  refine ⟨?_, ?_⟩
  · unfold movE
    rw [if_neg (by rw [keysL_len, hp.length_eq]; simp)]
    refine movG_zero hx p [] ?_ (fun x hx => hp.subset hx)
    rw [List.nil_append]
    exact ((hp.map (fun y : Slt => y.key)).nodup_iff).2 hx
  · have h : ∀ q : List Slt, (∀ x ∈ q, x ∈ xs) → movL xs (keysL q) = q := fun q => by
      induction q with
      | nil => intro _; rfl
      | cons x q ih =>
        intro hq
        obtain ⟨i, hi, hg⟩ := findL_at hx (hq x (List.mem_cons_self ..))
        have ih' := ih (fun y hy => hq y (List.mem_cons_of_mem _ hy))
        unfold movL keysL at ih' ⊢
        rw [List.map_cons, List.filterMap_cons, hi]
        simp only [Int.toNat_natCast, hg]
        rw [ih']
    exact h p (fun x hx => hp.subset hx)
theorem cnt_at {p q : List Slt} (h : p.map cntS = q.map cntS) (i : Nat) : (p[i]?).map cntS = (q[i]?).map cntS := by
  rw [← List.getElem?_map, ← List.getElem?_map, h]
theorem from_cnt : ∀ (p q : List Slt) (f : Int) (k : Nat), p.map cntS = q.map cntS → fromAt f p k = fromAt f q k
  | [], [], _, _, _ => rfl
  | [], _ :: _, _, _, h => by simp at h
  | _ :: _, [], _, _, h => by simp at h
  | x :: p, y :: q, f, 0, _ => rfl
  | x :: p, y :: q, f, k + 1, h => by
    simp only [List.map_cons, List.cons.injEq] at h
    obtain ⟨hxy, hpq⟩ := h
    simp only [cntS, Prod.mk.injEq] at hxy
    have ih := from_cnt p q (f + x.setup + x.long) k hpq
    unfold fromAt at ih ⊢
    rw [List.take_succ_cons, List.take_succ_cons, List.foldl_cons, List.foldl_cons, ih, hxy.2.2.2.1, hxy.2.2.2.2]
theorem clOne_cnt {p q : List Slt} (h : p.map cntS = q.map cntS) (rest : Int) (i k : Nat) : clOne p rest i k = clOne q rest i k := by
  have hi := cnt_at h i
  have hk := cnt_at h k
  unfold clOne
  rw [from_cnt p q 0 k h, from_cnt p q 0 (i + 1) h]
  cases hpi : p[i]? <;> cases hqi : q[i]? <;> rw [hpi, hqi] at hi <;> simp at hi ⊢
  rename_i x x'
  cases hpk : p[k]? <;> cases hqk : q[k]? <;> rw [hpk, hqk] at hk <;> simp at hk ⊢
  rename_i y y'
  simp only [cntS, Prod.mk.injEq] at hi hk
  obtain ⟨a1, a2, a3, _, _⟩ := hi
  obtain ⟨b1, b2, b3, _, _⟩ := hk
  have e : common x y = common x' y' := by unfold common needL; rw [a2, a3, b2, b3]
  rw [e, a1, b1]
theorem clF_cnt {p q : List Slt} (h : p.map cntS = q.map cntS) (rest : Int) : clF p rest = clF q rest := by
  have hl : p.length = q.length := by simpa using congrArg List.length h
  have e : clOne p rest = clOne q rest := by
    funext i k
    exact clOne_cnt h rest i k
  unfold clF clTo clR
  rw [e, hl]
theorem slotF_cnt {x y : Slt} (h : cntS x = cntS y) : slotF x = slotF y := by
  simp only [cntS, Prod.mk.injEq] at h
  obtain ⟨a1, a2, a3, a4, a5⟩ := h
  unfold slotF
  rw [a2, a3, a4, a5]
theorem findL_cnt : ∀ (p q : List Slt) (k : ByteArray), p.map cntS = q.map cntS → findL p k = findL q k
  | [], [], _, _ => rfl
  | [], _ :: _, _, h => by simp at h
  | _ :: _, [], _, h => by simp at h
  | x :: p, y :: q, k, h => by
    simp only [List.map_cons, List.cons.injEq] at h
    have ih := findL_cnt p q k h.2
    have hk : x.key = y.key := congrArg (·.1) h.1
    unfold findL at ih ⊢
    rw [ixOf, ixOf, ih, hk]
theorem slotsG_cnt : ∀ (p q pre pre' : List Slt), pre.map cntS = pre'.map cntS → p.map cntS = q.map cntS → slotsG pre p = slotsG pre' q
  | [], [], _, _, _, _ => rfl
  | [], _ :: _, _, _, _, h => by simp at h
  | _ :: _, [], _, _, _, h => by simp at h
  | x :: p, y :: q, pre, pre', hp, h => by
    simp only [List.map_cons, List.cons.injEq] at h
    have ih := slotsG_cnt p q (pre ++ [x]) (pre' ++ [y]) (by simp [hp, h.1]) h.2
    have hk : x.key = y.key := congrArg (·.1) h.1
    have hw : x.who = y.who := congrArg (·.2.1) h.1
    rw [slotsG, slotsG, ih, findL_cnt pre pre' x.key hp, slotF_cnt h.1, hk, hw]
theorem slotsF_cnt {p q : List Slt} (h : p.map cntS = q.map cntS) : slotsF p = slotsF q := by
  have hl : p.length = q.length := by simpa using congrArg List.length h
  unfold slotsF
  rw [hl, slotsG_cnt p q [] [] rfl h]
theorem clash_cnt {p q : List Slt} (h : p.map cntS = q.map cntS) (rest : Int) : clashE rest p = clashE rest q ∧ clashL rest p = clashL rest q := by
  have e : clashE rest p = clashE rest q := by unfold clashE; rw [slotsF_cnt h]
  refine ⟨e, ?_⟩
  unfold clashL
  rw [e, clF_cnt h rest]
/-- the slots that Moved answers, in memory -/
theorem slts_cnt {w W : World} {b n c : Nat} {A : Option Addr} {p ys : List Slt} {W0 : World} {l : List Rsc} (hS : Sq w W (rOwn w.heap.size 47 5 (.slice A n c) n (ys.flatMap sltC) :: rAll (hostR w.heap.size) ys :: l)) (hb : b < w.heap.size) (hc : ys.map cntS = p.map cntS) (hp : ∀ x ∈ p, SltOk W0 b x) : Slts W b A n c ys := by
  have h0 : W.ownsRow w.heap.size 47 5 (.slice A n c) n (ys.flatMap sltC) := hS.head
  have h1 : ∀ x ∈ ys, (hostR w.heap.size x).P W := hS.tail.head
  refine ⟨Rd.own h0 hb, fun x hx => ?_⟩
  obtain ⟨y, hy, he⟩ : ∃ y ∈ p, cntS y = cntS x := by
    have : cntS x ∈ p.map cntS := by rw [← hc]; exact List.mem_map_of_mem hx
    simpa using this
  have hk := hp y hy
  simp only [cntS, Prod.mk.injEq] at he
  obtain ⟨a1, a2, a3, a4, a5⟩ := he
  exact ⟨Rd.own (h1 x hx) hb, by rw [← a1]; exact hk.hk, by rw [← a2]; exact hk.hw, by rw [← a3]; exact hk.hh, by rw [← a3]; exact hk.hn, by rw [← a4]; exact hk.hs, by rw [← a5]; exact hk.hl⟩
end Go.Proofs.YtejadhehmcifoaaGreatDoor
