/-
  SlotsFollow in plain words: with nothing live, right slots are expected as in the timetable, and nothing is late.
-/
import Derived.Test.YtmngnmffmohhcaaGreatDoorZSlotR
import Derived.Test.YtmngnmffmohhcaaGreatDoorZLive8
import Derived.Test.YtmngnmffmohhcaaGreatDoorZSlot7
import Derived.Test.YtmngnmffmohhcaaGreatDoorZPrs14
namespace Go.Proofs.YtmngnmffmohhcaaGreatDoor
open Go Go.RowKit

theorem RSlots.len {xs : List Slt} (h : RSlots xs) : xs.length ≤ 5 := by
  have hl := h.sub.length_le
  rw [List.length_map] at hl
  exact hl
theorem rsl_from {xs : List Slt} (h : RSlots xs) {f : Int} (hf : 0 ≤ f ∧ f ≤ 1000) : ∀ k, k ≤ xs.length → 0 ≤ fromAt f xs k ∧ fromAt f xs k ≤ 1000 + 220 * (k : Int)
  | 0, _ => by simp [fromAt]; omega
  | k + 1, hk => by
    have ih := rsl_from h hf k (by omega)
    have hx := h.all _ (List.getElem_mem (show k < xs.length by omega))
    have h1 := hx.setup
    have h2 := hx.long
    rw [fromAt_step f xs k hk]
    omega
theorem rsl_ends {xs : List Slt} (h : RSlots xs) {f : Int} (hf : 0 ≤ f ∧ f ≤ 1000) : ∀ p ∈ placesF f xs, p.2.2.2 ≤ 10000 := by
  intro p hp
  obtain ⟨i, hi, rfl⟩ := List.getElem_of_mem hp
  unfold placesF at hi
  have hl := placesTo_len f xs xs.length (Nat.le_refl _)
  have hix : i < xs.length := by omega
  have hg := placesTo_get f xs xs.length (Nat.le_refl _) i hix hix
  have he : (placesF f xs)[i] = plcOf (fromAt f xs i) xs[i] := by
    rw [List.getElem?_eq_getElem hi] at hg
    injection hg
  rw [he]
  have hx := h.all _ (List.getElem_mem hix)
  have h1 := hx.setup
  have h2 := hx.long
  have h3 := rsl_from h hf i (by omega)
  have h5 := h.len
  show fromAt f xs i + xs[i].setup + xs[i].long ≤ 10000
  omega
theorem rsl_mom {f : Int} (hf : 0 ≤ f ∧ f ≤ 1000) : momB f = true := (momB_iff f).2 (by omega)
theorem rst_all (f : Int) (xs : List Slt) : ∀ k, k ≤ xs.length → rstTo (skipP show0) f xs k = (placesTo f xs k, fromAt f xs k)
  | 0, _ => rfl
  | k + 1, hk => by
    rw [rstTo_step _ _ _ k hk, rst_all f xs k (by omega), placesTo_step f xs k hk, fromAt_step f xs k hk]
    rfl
theorem rsl_exp {xs : List Slt} {f a : Int} (ha : a ≤ f) : expP xs f [] a = placesF f xs := by
  have hm : max f a = f := Int.max_eq_left ha
  show fstTo xs a [] 0 ++ (rstTo (skipP show0) (max f a) xs xs.length).1 = placesF f xs
  rw [hm, rst_all f xs _ (Nat.le_refl _)]
  rfl
theorem rsl_live {xs : List Slt} (h : RSlots xs) : liveF wrongP xs [] = 0 := by
  unfold liveF
  rw [if_pos h.fault, if_neg (by simp)]
  rfl
theorem rsl_knownE {xs : List Slt} (h : RSlots xs) {f a : Int} (hf : 0 ≤ f ∧ f ≤ 1000) (ha : 0 ≤ a ∧ a ≤ f) : knownE xs f [] a (expP xs f [] a) = 0 := by
  have hA : (placesF f xs).any (fun p => decide (345686400000 < p.2.2.2)) = false := by
    rw [List.any_eq_false]
    intro p hp
    have := rsl_ends h hf p hp
    simp
    omega
  unfold knownE
  rw [if_pos (rsl_live h), rsl_mom (f := a) (by omega), rsl_mom hf, rsl_exp ha.2, hA]
  rfl
theorem rsl_knownL {xs : List Slt} (h : RSlots xs) {f a : Int} (hf : 0 ≤ f ∧ f ≤ 1000) (ha : 0 ≤ a ∧ a ≤ f) : knownL xs f [] a = placesF f xs := by
  unfold knownL
  rw [if_pos (rsl_knownE h hf ha), rsl_exp ha.2]
theorem rsl_late {xs : List Slt} (h : RSlots xs) {f a : Int} (hf : 0 ≤ f ∧ f ≤ 1000) (ha : 0 ≤ a ∧ a ≤ f) : lateV xs f (knownL xs f [] a) = 0 := by
  rw [rsl_knownL h hf ha]
  unfold lateV
  split
  · rfl
  · omega
theorem rsl_tabE {xs : List Slt} (h : RSlots xs) {f : Int} (hf : 0 ≤ f ∧ f ≤ 1000) : tabE f xs = 0 := by
  have h1 := rsl_from h hf xs.length (Nat.le_refl _)
  have h5 := h.len
  have hF : fromF f xs = 0 := by
    unfold fromF placesF
    rw [if_pos (rsl_mom hf), endP_to f xs _ (Nat.le_refl _), if_neg (by omega)]
  unfold tabE
  rw [h.fault, hF]
  rfl
theorem rsl_tabL {xs : List Slt} (h : RSlots xs) {f : Int} (hf : 0 ≤ f ∧ f ≤ 1000) : tabL f xs = placesF f xs := by
  unfold tabL
  rw [if_pos (rsl_tabE h hf)]
end Go.Proofs.YtmngnmffmohhcaaGreatDoor
/-
  A marathon that is played just as expected, in plain words. No Go text is named here.
-/
namespace Go.Proofs.YtmngnmffmohhcaaGreatDoor
open Go Go.RowKit

/-- what is live when the first k slots are over -/
def topL (f : Int) (xs : List Slt) : Nat → List Lv
  | 0 => []
  | k + 1 => match xs[k]? with
    | none => topL f xs k
    | some x => topL f xs k ++ [(fromAt f xs k, 1, x.key), (fromAt f xs (k + 1), 2, x.key)]
theorem topL_step (f : Int) (xs : List Slt) (k : Nat) (hk : k < xs.length) : topL f xs (k + 1) = topL f xs k ++ [(fromAt f xs k, 1, xs[k].key), (fromAt f xs (k + 1), 2, xs[k].key)] := by
  rw [topL, List.getElem?_eq_getElem hk]
theorem topL_len (f : Int) (xs : List Slt) : ∀ k, k ≤ xs.length → (topL f xs k).length = 2 * k
  | 0, _ => rfl
  | k + 1, hk => by rw [topL_step f xs k (by omega), List.length_append, topL_len f xs k (by omega)]; rfl
/-- how all stand then -/
def topS (f : Int) (xs : List Slt) : Nat → ShowP
  | 0 => show0
  | k + 1 => match xs[k]? with
    | none => topS f xs k
    | some x => ⟨setSt (topS f xs k).st x.key ⟨true, true, false, fromAt f xs k, fromAt f xs (k + 1)⟩, (topS f xs k).order ++ [x.key], false⟩
theorem topS_step (f : Int) (xs : List Slt) (k : Nat) (hk : k < xs.length) : topS f xs (k + 1) = ⟨setSt (topS f xs k).st xs[k].key ⟨true, true, false, fromAt f xs k, fromAt f xs (k + 1)⟩, (topS f xs k).order ++ [xs[k].key], false⟩ := by
  rw [topS, List.getElem?_eq_getElem hk]
theorem rsl_ne {xs : List Slt} (h : RSlots xs) {i j : Nat} (hij : i < j) (hi : i < xs.length) (hj : j < xs.length) : xs[i].key ≠ xs[j].key := by
  have hp := keys5_pw.sublist h.sub
  have hx := (List.pairwise_iff_getElem.1 hp) i j (by rw [List.length_map]; exact hi) (by rw [List.length_map]; exact hj) hij
  simp only [List.getElem_map] at hx
  intro he
  rw [he, eqS_self] at hx
  exact absurd hx (by decide)
theorem rsl_ne' {xs : List Slt} (h : RSlots xs) {i j : Nat} (hij : i ≠ j) (hi : i < xs.length) (hj : j < xs.length) : xs[i].key ≠ xs[j].key := by
  rcases Nat.lt_or_gt_of_ne hij with hlt | hgt
  · exact rsl_ne h hlt hi hj
  · exact fun e => rsl_ne h hgt hj hi e.symm
theorem rsl_find {xs : List Slt} (h : RSlots xs) (i : Nat) (hi : i < xs.length) : findL xs xs[i].key = i :=
  ixOf_at _ xs i hi (fun j hj => eqS_ne (rsl_ne h hj (by omega) hi)) (eqS_self _)
theorem topS_on (f : Int) (xs : List Slt) : ∀ k, k ≤ xs.length → (topS f xs k).on = false
  | 0, _ => rfl
  | k + 1, hk => by rw [topS_step f xs k hk]
theorem topS_order (f : Int) (xs : List Slt) : ∀ k, k ≤ xs.length → (topS f xs k).order = (xs.take k).map (·.key)
  | 0, _ => rfl
  | k + 1, hk => by
    rw [topS_step f xs k hk, List.take_succ_eq_append_getElem hk, List.map_append, topS_order f xs k (by omega)]
    rfl
theorem topS_st {xs : List Slt} (h : RSlots xs) (f : Int) : ∀ k, k ≤ xs.length → ∀ i (hi : i < xs.length), (topS f xs k).st xs[i].key = if i < k then ⟨true, true, false, fromAt f xs i, fromAt f xs (i + 1)⟩ else stgD
  | 0, _, i, _ => by rw [if_neg (by omega)]; rfl
  | k + 1, hk, i, hi => by
    rw [topS_step f xs k hk]
    simp only
    by_cases he : i = k
    · subst he
      rw [setSt_same, if_pos (by omega)]
    · rw [setSt_other (rsl_ne' h he hi hk), topS_st h f k (by omega) i hi]
      by_cases hlt : i < k
      · rw [if_pos hlt, if_pos (by omega)]
      · rw [if_neg hlt, if_neg (by omega)]
theorem setSt_twice (st : ByteArray → Stg) (s : ByteArray) (a b : Stg) : setSt (setSt st s a) s b = setSt st s b := by
  funext t
  unfold setSt
  split <;> rfl
theorem step_began {S : ShowP} {a : Int} {key : ByteArray} (h : S.st key = stgD) (hon : S.on = false) : stepP S (a, 1, key) = some ⟨setSt S.st key ⟨true, false, false, a, 0⟩, S.order ++ [key], true⟩ := by
  unfold stepP
  simp only
  rw [h, hon]
  rfl
theorem step_ended {st : ByteArray → Stg} {o : List ByteArray} {a b : Int} {key : ByteArray} : stepP ⟨setSt st key ⟨true, false, false, a, 0⟩, o, true⟩ (b, 2, key) = some ⟨setSt st key ⟨true, true, false, a, b⟩, o, false⟩ := by
  unfold stepP
  simp only
  simp [setSt_same, setSt_twice]
theorem top_state {xs : List Slt} (h : RSlots xs) (f : Int) : ∀ k, k ≤ xs.length → stateP (topL f xs k) = topS f xs k
  | 0, _ => rfl
  | k + 1, hk => by
    have ih := top_state h f k (by omega)
    have hs := topS_st h f k (by omega) k hk
    rw [if_neg (by omega)] at hs
    rw [topL_step f xs k hk, show ∀ (a : List Lv) (b c : Lv), a ++ [b, c] = (a ++ [b]) ++ [c] by simp, stateP_snoc, stateP_snoc, ih, step_began hs (topS_on f xs k (by omega)), topS_step f xs k hk]
    simp only [Option.getD_some]
    rw [step_ended]
    rfl
theorem liveG_snoc (wrong : List Lv → Lv → Bool) (xs : List Slt) (y : Lv) : ∀ (l pre : List Lv), liveG wrong xs pre l = 0 → lvE xs (pre ++ l) y = 0 → wrong (pre ++ l) y = false → liveG wrong xs pre (l ++ [y]) = 0
  | [], pre, _, h1, h2 => by
    rw [List.append_nil] at h1 h2
    rw [List.nil_append, liveG, if_pos h1, h2]
    rfl
  | z :: l, pre, h, h1, h2 => by
    rw [liveG] at h
    by_cases h0 : lvE xs pre z = 0
    · rw [if_pos h0] at h
      cases hw : wrong pre z
      · rw [hw] at h
        simp only [Bool.false_eq_true, if_false] at h
        rw [List.cons_append, liveG, if_pos h0, hw]
        simp only [Bool.false_eq_true, if_false]
        exact liveG_snoc wrong xs y l (pre ++ [z]) h (by simpa using h1) (by simpa using h2)
      · rw [hw] at h; simp at h
    · rw [if_neg h0] at h; exact absurd h h0
/-- each moment is right -/
theorem top_lvE {xs : List Slt} (h : RSlots xs) {p : List Lv} {a kd : Int} {i : Nat} (hi : i < xs.length) (ha : 0 ≤ a ∧ a ≤ 345686399999) (hk : 1 ≤ kd ∧ kd ≤ 3) (hl : ∀ z ∈ p, z.1 ≤ a) : lvE xs p (a, kd, xs[i].key) = 0 := by
  unfold lvE
  have h1 : lateB p (a, kd, xs[i].key) = false := by
    unfold lateB
    cases hg : p.getLast? with
    | none => rfl
    | some z =>
      have := hl z (List.mem_of_getLast? hg)
      simp only [decide_eq_false_iff_not]
      omega
  simp only
  rw [if_pos ((momB_iff a).2 ha), if_neg (by unfold outB; simp; omega), rsl_find h i hi, if_neg (by omega), h1]
  rfl
theorem rsl_up {xs : List Slt} (h : RSlots xs) (f : Int) (k : Nat) (hk : k < xs.length) : fromAt f xs k + 50 ≤ fromAt f xs (k + 1) := by
  have hx := h.all _ (List.getElem_mem hk)
  have := hx.setup
  have := hx.long
  rw [fromAt_step f xs k hk]
  omega
theorem topL_up {xs : List Slt} (h : RSlots xs) (f : Int) : ∀ k, k ≤ xs.length → ∀ z ∈ topL f xs k, f ≤ z.1 ∧ z.1 ≤ fromAt f xs k
  | 0, _ => by intro z hz; cases hz
  | k + 1, hk => by
    intro z hz
    have hu := rsl_up h f k hk
    have hge : f ≤ fromAt f xs k := by
      clear hz hu
      induction k with
      | zero => exact Int.le_refl _
      | succ j ih =>
        have := ih (by omega)
        have := rsl_up h f j (by omega)
        omega
    rw [topL_step f xs k hk] at hz
    rcases List.mem_append.1 hz with hz | hz
    · have := topL_up h f k (by omega) z hz
      omega
    · simp at hz
      rcases hz with rfl | rfl <;> simp only <;> omega
theorem top_liveG {xs : List Slt} (h : RSlots xs) {f : Int} (hf : 0 ≤ f ∧ f ≤ 1000) : ∀ k, k ≤ xs.length → liveG wrongP xs [] (topL f xs k) = 0
  | 0, _ => rfl
  | k + 1, hk => by
    have ih := top_liveG h hf k (by omega)
    have h5 := h.len
    have hb0 := rsl_from h hf k (by omega)
    have hb1 := rsl_from h hf (k + 1) hk
    have hu := rsl_up h f k hk
    have hs := topS_st h f k (by omega) k hk
    rw [if_neg (by omega)] at hs
    have hup := topL_up h f k (by omega)
    have hst := top_state h f k (by omega)
    have hb := step_began (a := fromAt f xs k) hs (topS_on f xs k (by omega))
    have h1 : liveG wrongP xs [] (topL f xs k ++ [(fromAt f xs k, 1, xs[k].key)]) = 0 := by
      refine liveG_snoc _ _ _ _ _ ih ?_ ?_
      · rw [List.nil_append]
        exact top_lvE h hk (by omega) (by omega) (fun z hz => (hup z hz).2)
      · rw [List.nil_append]
        unfold wrongP
        rw [hst, hb]
        rfl
    rw [topL_step f xs k hk, show ∀ (a : List Lv) (b c : Lv), a ++ [b, c] = (a ++ [b]) ++ [c] by simp]
    refine liveG_snoc _ _ _ _ _ h1 ?_ ?_
    · rw [List.nil_append]
      refine top_lvE h hk (by omega) (by omega) (fun z hz => ?_)
      rcases List.mem_append.1 hz with hz | hz
      · have := (hup z hz).2; omega
      · simp at hz; subst hz; simp only; omega
    · rw [List.nil_append]
      unfold wrongP
      rw [stateP_snoc, hst, hb]
      simp only [Option.getD_some]
      rw [step_ended]
      rfl
theorem top_live {xs : List Slt} (h : RSlots xs) {f : Int} (hf : 0 ≤ f ∧ f ≤ 1000) {k : Nat} (hk : k ≤ xs.length) : liveF wrongP xs (topL f xs k) = 0 := by
  have hl := topL_len f xs k hk
  have h5 := h.len
  unfold liveF
  rw [if_pos h.fault, if_neg (by omega)]
  exact top_liveG h hf k hk
theorem top_upTo {xs : List Slt} (h : RSlots xs) {f : Int} {k : Nat} (hk : k ≤ xs.length) {u : Int} (hu : fromAt f xs k ≤ u) : upTo (topL f xs k) u = topL f xs k := by
  unfold upTo
  rw [List.filter_eq_self]
  intro z hz
  have := (topL_up h f k hk z hz).2
  simp
  omega
/-! ### what is expected -/
theorem top_ev {xs : List Slt} (h : RSlots xs) (f : Int) {k : Nat} (hk : k ≤ xs.length) : (evP (topS f xs k)).length = k ∧ ∀ i (hi : i < xs.length), i < k → (evP (topS f xs k))[i]? = some (xs[i].key, fromAt f xs i, true, fromAt f xs (i + 1)) := by
  have ho := topS_order f xs k hk
  refine ⟨by unfold evP; rw [List.length_map, ho, List.length_map, List.length_take]; omega, fun i hi hik => ?_⟩
  unfold evP
  rw [List.getElem?_map, ho, List.getElem?_map, List.getElem?_take, if_pos hik, List.getElem?_eq_getElem hi]
  simp only [Option.map_some]
  rw [topS_st h f k hk i hi, if_pos hik]
  rfl
theorem top_bpl {xs : List Slt} (h : RSlots xs) (f u : Int) (i : Nat) (hi : i < xs.length) : bplL xs u (xs[i].key, fromAt f xs i, true, fromAt f xs (i + 1)) = plcOf (fromAt f xs i) xs[i] := by
  rw [bplL_at xs u _ i (rsl_find h i hi) hi]
  have hx := (h.all _ (List.getElem_mem hi)).long
  unfold bplX plcOf
  simp only [if_true]
  rw [fromAt_step f xs i hi, Int.min_eq_left (by omega)]
theorem top_fst {xs : List Slt} (h : RSlots xs) (f u : Int) {k : Nat} (hk : k ≤ xs.length) : ∀ j, j ≤ k → fstTo xs u (evP (topS f xs k)) j = placesTo f xs j
  | 0, _ => rfl
  | j + 1, hj => by
    obtain ⟨hl, hg⟩ := top_ev h f hk
    have hjl : j < (evP (topS f xs k)).length := by omega
    have he : (evP (topS f xs k))[j] = (xs[j].key, fromAt f xs j, true, fromAt f xs (j + 1)) := by
      have := hg j (by omega) (by omega)
      rw [List.getElem?_eq_getElem hjl] at this
      injection this
    rw [fstTo_step xs u _ j hjl, top_fst h f u hk j (by omega), placesTo_step f xs j (by omega), he, top_bpl h f u j (by omega)]
theorem top_nxt {xs : List Slt} (h : RSlots xs) (f u : Int) {k : Nat} (hk : k ≤ xs.length) (hu : fromAt f xs k ≤ u) : nxtTo xs f u (evP (topS f xs k)) k = max f u ∨ nxtTo xs f u (evP (topS f xs k)) k = u := by
  cases k with
  | zero => exact .inl rfl
  | succ j =>
    obtain ⟨hl, hg⟩ := top_ev h f hk
    have hjl : j < (evP (topS f xs (j + 1))).length := by omega
    have he : (evP (topS f xs (j + 1)))[j] = (xs[j].key, fromAt f xs j, true, fromAt f xs (j + 1)) := by
      have := hg j (by omega) (by omega)
      rw [List.getElem?_eq_getElem hjl] at this
      injection this
    right
    rw [nxtTo_step xs f u _ j hjl, he, top_bpl h f u j (by omega)]
    unfold plcOf
    simp only
    rw [← fromAt_step f xs j (by omega)]
    exact Int.max_eq_left hu
theorem top_skip {xs : List Slt} (h : RSlots xs) (f : Int) {k : Nat} (hk : k ≤ xs.length) (i : Nat) (hi : i < xs.length) : skipP (topS f xs k) xs[i].key = decide (i < k) := by
  unfold skipP
  rw [topS_st h f k hk i hi]
  by_cases hlt : i < k
  · rw [if_pos hlt]; simp [hlt]
  · rw [if_neg hlt]; simp [hlt, stgD]
theorem top_rst {xs : List Slt} (h : RSlots xs) (f nx : Int) {k : Nat} (hk : k ≤ xs.length) : ∀ j, j ≤ xs.length → (j ≤ k → rstTo (skipP (topS f xs k)) nx xs j = ([], nx)) ∧
    (nx = fromAt f xs k → k ≤ j → placesTo f xs k ++ (rstTo (skipP (topS f xs k)) nx xs j).1 = placesTo f xs j ∧ (rstTo (skipP (topS f xs k)) nx xs j).2 = fromAt f xs j)
  | 0, _ => ⟨fun _ => rfl, fun hn hkj => by
    obtain rfl : k = 0 := by omega
    exact ⟨rfl, hn⟩⟩
  | j + 1, hj => by
    obtain ⟨h1, h2⟩ := top_rst h f nx hk j (by omega)
    have hlt : j < xs.length := by omega
    have hsk := top_skip h f hk j hlt
    rw [rstTo_step _ _ _ j hlt, hsk]
    refine ⟨fun hjk => ?_, fun hn hkj => ?_⟩
    · rw [if_pos (by simp; omega)]
      exact h1 (by omega)
    · by_cases hjk : j < k
      · obtain rfl : k = j + 1 := by omega
        rw [if_pos (by simp), h1 (by omega)]
        exact ⟨by simp, hn⟩
      · rw [if_neg (by simp; omega)]
        obtain ⟨a, b⟩ := h2 hn (by omega)
        rw [b]
        refine ⟨?_, ?_⟩
        · rw [placesTo_step f xs j hlt, ← a, List.append_assoc]
        · rw [fromAt_step f xs j hlt]
theorem top_exp {xs : List Slt} (h : RSlots xs) {f : Int} {k : Nat} (hk : k ≤ xs.length) {u : Int} (hu : fromAt f xs k ≤ u) (hfu : f ≤ u) (hx : u = fromAt f xs k ∨ k = xs.length) : expP xs f (topL f xs k) u = placesF f xs := by
  unfold expP
  rw [top_upTo h hk hu, top_state h f k hk]
  unfold expF
  obtain ⟨hl, _⟩ := top_ev h f hk
  rw [hl, top_fst h f u hk k (Nat.le_refl _)]
  have hn : nxtTo xs f u (evP (topS f xs k)) k = u := by
    rcases top_nxt h f u hk hu with e | e
    · rw [e]; exact Int.max_eq_right hfu
    · exact e
  rw [hn]
  rcases hx with hx | hx
  · exact ((top_rst h f u hk xs.length (Nat.le_refl _)).2 hx hk).1
  · rw [(top_rst h f u hk xs.length (Nat.le_refl _)).1 (by omega), hx]
    simp [placesF]
theorem top_knownE {xs : List Slt} (h : RSlots xs) {f : Int} (hf : 0 ≤ f ∧ f ≤ 1000) {k : Nat} (hk : k ≤ xs.length) {u : Int} (hu : fromAt f xs k ≤ u) (hfu : f ≤ u) (hu2 : u ≤ 345686399999) (hx : u = fromAt f xs k ∨ k = xs.length) : knownE xs f (topL f xs k) u (expP xs f (topL f xs k) u) = 0 := by
  have hA : (placesF f xs).any (fun p => decide (345686400000 < p.2.2.2)) = false := by
    rw [List.any_eq_false]
    intro p hp
    have := rsl_ends h hf p hp
    simp
    omega
  unfold knownE
  rw [if_pos (top_live h hf hk), (momB_iff u).2 (by omega), rsl_mom hf, top_exp h hk hu hfu hx, hA]
  rfl
theorem top_knownL {xs : List Slt} (h : RSlots xs) {f : Int} (hf : 0 ≤ f ∧ f ≤ 1000) {k : Nat} (hk : k ≤ xs.length) {u : Int} (hu : fromAt f xs k ≤ u) (hfu : f ≤ u) (hu2 : u ≤ 345686399999) (hx : u = fromAt f xs k ∨ k = xs.length) : knownL xs f (topL f xs k) u = placesF f xs := by
  unfold knownL
  rw [if_pos (top_knownE h hf hk hu hfu hu2 hx), top_exp h hk hu hfu hx]
theorem lateV_self (xs : List Slt) (f : Int) : lateV xs f (placesF f xs) = 0 := by
  unfold lateV
  split
  · rfl
  · omega
/-! ### the clock of one slot -/
theorem top_end {b e : Int} (h : b ≤ e) : (endP_ 1 [(b, 1), (e, 2)]).1.phase = 3 ∧ (endP_ 1 [(b, 1), (e, 2)]).1.end_.1 = e - b ∨ 345686400000 < e := by
  by_cases he : 345686400000 < e
  · exact .inr he
  · left
    unfold endP_
    have h1 : e ≤ 345686400000 := by omega
    have h2 : b ≤ 345686400000 := by omega
    simp [folP, pressP, refP, doneP, advP, cutP, clk0, h1, h2]
theorem top_fin {b e : Int} (h : b ≤ e) (he : e ≤ 345686400000) (hd : e - b ≤ 864000000) : fnE (endP_ 1 [(b, 1), (e, 2)]).1 = 0 ∧ fnB (endP_ 1 [(b, 1), (e, 2)]).1 = true ∧ (fnV (endP_ 1 [(b, 1), (e, 2)]).1).1 = e - b := by
  rcases top_end h with ⟨h1, h2⟩ | h1
  · have hB : fnB (endP_ 1 [(b, 1), (e, 2)]).1 = true := by unfold fnB; rw [h1, h2]; simp; omega
    refine ⟨?_, hB, ?_⟩
    · unfold fnE
      rw [if_pos h1, if_neg (by omega)]
    · unfold fnV
      rw [if_pos hB, h2]
  · omega
end Go.Proofs.YtmngnmffmohhcaaGreatDoor
