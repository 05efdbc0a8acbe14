/-
  The results of a race in plain words: what each one's is (rsE), their order (cfR); the program's list and the reference's are one. No walk.
-/
import Derived.Test.YthbcogekfdllmaaGreatDoorZRfPure
import Derived.Test.YthbcogekfdllmaaGreatDoorZRat1
import Derived.Test.YthbcogekfdllmaaGreatDoorZStab
import Derived.Test.YthbcogekfdllmaaGreatDoorZSlot3
namespace Go.Proofs.YthbcogekfdllmaaGreatDoor
open Go Go.RowKit

def aheadB : Option Int → Option Int → Bool
  | none, _ => false
  | some _, none => true
  | some b, some a => decide (b < a)
/-- of those in ks: how many finished ahead of x (none: of all who did not) -/
def aheadE (ks : List ByteArray) (d : ByteArray → Option Int) (x : Option Int) : Nat := ks.countP (fun o => aheadB (d o) x)
def tmE (d : ByteArray → Option Int) (a0 : Int) (s : ByteArray) : Int := match d s with
  | some a => a - a0
  | none => 0
/-- somebody's result -/
def rsE (ks : List ByteArray) (d : ByteArray → Option Int) (a0 : Int) (s : ByteArray) : Res := ((aheadE ks d (d s) : Int) + 1, s, tmE d a0 s)
/-- the order of results -/
def cfR (d : ByteArray → Option Int) (x y : Res) : Int := if cmpI (if (d x.2.1).isSome = true then 0 else 1) (if (d y.2.1).isSome = true then 0 else 1) = 0 then (if cmpI x.2.2 y.2.2 = 0 then cmpS x.2.1 y.2.1 else cmpI x.2.2 y.2.2) else cmpI (if (d x.2.1).isSome = true then 0 else 1) (if (d y.2.1).isSome = true then 0 else 1)
theorem ord3_cfR (d : ByteArray → Option Int) : Ord3 (cfR d) := (ord3_int (fun x : Res => if (d x.2.1).isSome = true then 0 else 1)).first ((ord3_int (fun x : Res => x.2.2)).first (ord3_str (fun x : Res => x.2.1)))
theorem cmpI_z {a b : Int} (h : cmpI a b = 0) : a = b := by
  unfold cmpI at h
  split at h
  · cases h
  · split at h
    · cases h
    · omega
theorem cfR_zero {d : ByteArray → Option Int} {x y : Res} (h : cfR d x y = 0) : x.2.1 = y.2.1 := by
  unfold cfR at h
  by_cases h1 : cmpI (if (d x.2.1).isSome = true then 0 else 1) (if (d y.2.1).isSome = true then 0 else 1) = 0
  · rw [if_pos h1] at h
    by_cases h2 : cmpI x.2.2 y.2.2 = 0
    · rw [if_pos h2] at h; exact cmpS_zero h
    · rw [if_neg h2] at h; exact absurd h h2
  · rw [if_neg h1] at h; exact absurd h h1
/-- the results: all of them, in order -/
structure ResR (ks : List ByteArray) (d : ByteArray → Option Int) (a0 : Int) (ys : List Res) : Prop where
  pm : ys.Perm (ks.map (rsE ks d a0))
  up : ys.Pairwise (fun a b => 0 ≤ cfR d b a)
theorem ResR.one {ks : List ByteArray} {d : ByteArray → Option Int} {a0 : Int} {l1 l2 : List Res} (h1 : ResR ks d a0 l1) (h2 : ResR ks d a0 l2) : l1 = l2 := by
  have hp := h1.pm.trans h2.pm.symm
  refine List.Perm.eq_of_pairwise (le := fun a b => 0 ≤ cfR d b a) (fun a b ha hb k1 k2 => ?_) h1.up h2.up hp
  have hn := (ord3_cfR d).neg a b
  have h0 := cfR_zero (show cfR d a b = 0 by omega)
  obtain ⟨s, _, rfl⟩ := List.mem_map.1 (h1.pm.mem_iff.1 ha)
  obtain ⟨t, _, rfl⟩ := List.mem_map.1 (h2.pm.mem_iff.1 hb)
  have h0 : s = t := h0
  rw [h0]
/-- those who finished, and those who did not -/
def dnL (d : ByteArray → Option Int) (a0 : Int) (kb : List ByteArray) : List Res := (kb.filter (fun s => (d s).isSome)).map (fun s => (0, s, tmE d a0 s))
def otL (d : ByteArray → Option Int) (kb : List ByteArray) : List Res := (kb.filter (fun s => !(d s).isSome)).map (fun s => (0, s, 0))
theorem dnL_take (d : ByteArray → Option Int) (a0 : Int) (kb : List ByteArray) (k : Nat) (hk : k < kb.length) : dnL d a0 (kb.take (k + 1)) = if (d kb[k]).isSome = true then dnL d a0 (kb.take k) ++ [(0, kb[k], tmE d a0 kb[k])] else dnL d a0 (kb.take k) := by
  unfold dnL
  rw [List.take_succ_eq_append_getElem hk, List.filter_append, List.map_append]
  by_cases h : (d kb[k]).isSome = true
  · rw [if_pos h]; simp [h]
  · rw [if_neg h]; simp [h]
theorem otL_take (d : ByteArray → Option Int) (kb : List ByteArray) (k : Nat) (hk : k < kb.length) : otL d (kb.take (k + 1)) = if (d kb[k]).isSome = true then otL d (kb.take k) else otL d (kb.take k) ++ [(0, kb[k], 0)] := by
  unfold otL
  rw [List.take_succ_eq_append_getElem hk, List.filter_append, List.map_append]
  by_cases h : (d kb[k]).isSome = true
  · rw [if_pos h, List.filter_cons, if_neg (by rw [h]; decide)]; simp
  · rw [if_neg h, List.filter_cons, if_pos (by rw [Bool.not_eq_true] at h; rw [h]; rfl)]; simp
/-- by time; ties by name -/
def cfT (x y : Res) : Int := cmpI x.2.2 y.2.2
def cfN (x y : Res) : Int := if cmpI x.2.2 y.2.2 = 0 then cmpS x.2.1 y.2.1 else cmpI x.2.2 y.2.2
theorem ord3_cfN : Ord3 cfN := (ord3_int (fun x : Res => x.2.2)).first (ord3_str (fun x : Res => x.2.1))
theorem cfN_tie {x y : Res} (h : cmpS x.2.1 y.2.1 < 0) : cfN y x < 0 ↔ cfT y x < 0 := by
  unfold cfN cfT
  have hn := cmpS_neg x.2.1 y.2.1
  by_cases h0 : cmpI y.2.2 x.2.2 = 0
  · rw [if_pos h0]; constructor <;> intro h1 <;> omega
  · rw [if_neg h0]
theorem dnL_up {d : ByteArray → Option Int} {a0 : Int} {kb : List ByteArray} (h : kb.Pairwise (fun a b => cmpS a b < 0)) : (dnL d a0 kb).Pairwise (fun u v => cfN v u < 0 ↔ cfT v u < 0) := by
  unfold dnL
  rw [List.pairwise_map]
  exact (h.filter _).imp (fun hab => cfN_tie hab)
/-- how many of a list have less than a time -/
def lessT (so : List Res) (t : Int) : Nat := so.countP (fun x => decide (x.2.2 < t))
/-- a list ranked -/
def rankL (so : List Res) : List Res := so.map (fun x => ((lessT so x.2.2 : Int) + 1, x.2.1, x.2.2))
def rankTo (so : List Res) (k : Nat) : List Res := (rankL so).take k ++ so.drop k
theorem rankL_len (so : List Res) : (rankL so).length = so.length := by unfold rankL; simp
theorem rankTo_len (so : List Res) (k : Nat) : (rankTo so k).length = so.length := by
  unfold rankTo
  rw [List.length_append, List.length_take, List.length_drop, rankL_len]
  omega
theorem rankL_at (so : List Res) (k : Nat) (hk : k < so.length) : (rankL so)[k]'(by rw [rankL_len]; exact hk) = ((lessT so so[k].2.2 : Int) + 1, so[k].2.1, so[k].2.2) := by unfold rankL; simp
theorem rankTo_at (so : List Res) (k j : Nat) (hj : j < so.length) : (rankTo so k)[j]'(by rw [rankTo_len]; exact hj) = if j < k then ((lessT so so[j].2.2 : Int) + 1, so[j].2.1, so[j].2.2) else so[j] := by
  unfold rankTo
  rw [List.getElem_append]
  by_cases h : j < k
  · rw [if_pos h, dif_pos (by rw [List.length_take, rankL_len]; omega), List.getElem_take, rankL_at so j hj]
  · rw [if_neg h, dif_neg (by rw [List.length_take, rankL_len]; omega), List.getElem_drop]
    congr 1
    rw [List.length_take, rankL_len]
    omega
theorem rankTo_step (so : List Res) (k : Nat) (hk : k < so.length) : rankTo so (k + 1) = (rankTo so k).set k ((lessT so so[k].2.2 : Int) + 1, so[k].2.1, so[k].2.2) := by
  refine List.ext_getElem (by rw [List.length_set, rankTo_len, rankTo_len]) (fun j h1 h2 => ?_)
  have hj : j < so.length := by rw [rankTo_len] at h1; exact h1
  rw [rankTo_at so (k + 1) j hj, List.getElem_set]
  by_cases e : k = j
  · subst e; rw [if_pos (by omega), if_pos rfl]
  · rw [if_neg e, rankTo_at so k j hj]
    by_cases h : j < k
    · rw [if_pos (by omega), if_pos h]
    · rw [if_neg (by omega), if_neg h]
theorem rankTo_all (so : List Res) : rankTo so so.length = rankL so := by
  unfold rankTo
  rw [List.drop_length, List.append_nil, List.take_of_length_le (by rw [rankL_len]; exact Nat.le_refl _)]
theorem rankTo_none (so : List Res) : rankTo so 0 = so := by unfold rankTo; simp
/-- in a list sorted by time -/
theorem lessT_at {so : List Res} (h : so.Pairwise (fun a b => a.2.2 ≤ b.2.2)) (k : Nat) (hk : k < so.length) (h0 : ∀ hp : 0 < k, so[k - 1].2.2 < so[k].2.2) : lessT so so[k].2.2 = k := by
  have hs := List.pairwise_iff_getElem.1 h
  have e : so = so.take k ++ so.drop k := (List.take_append_drop k so).symm
  unfold lessT
  obtain ⟨t, ht⟩ : ∃ t, t = so[k].2.2 := ⟨_, rfl⟩
  rw [← ht]
  rw [e, List.countP_append]
  have h1 : (so.take k).countP (fun x => decide (x.2.2 < t)) = k := by
    have h2 : (so.take k).length = k := by rw [List.length_take]; omega
    refine (List.countP_eq_length.2 ?_).trans h2
    intro x hx
    obtain ⟨j, hj, rfl⟩ := List.getElem_of_mem hx
    rw [List.getElem_take, decide_eq_true_eq, ht]
    rw [h2] at hj
    have h3 := h0 (by omega)
    rcases Nat.lt_or_ge j (k - 1) with h4 | h4
    · have := hs j (k - 1) (by omega) (by omega) h4; omega
    · have h5 : j = k - 1 := by omega
      subst h5
      exact h3
  have h2 : (so.drop k).countP (fun x => decide (x.2.2 < t)) = 0 := by
    rw [List.countP_eq_zero]
    intro x hx
    obtain ⟨j, hj, rfl⟩ := List.getElem_of_mem hx
    rw [List.getElem_drop, decide_eq_true_eq, ht]
    rw [List.length_drop] at hj
    rcases Nat.eq_zero_or_pos j with h4 | h4
    · subst h4; simp
    · have := hs k (k + j) hk (by omega) (by omega); omega
  omega
/-- the program's results -/
def resL (so : List Res) (d : ByteArray → Option Int) (kb : List ByteArray) : List Res := rankL so ++ (otL d kb).map (fun x => ((so.length : Int) + 1, x.2.1, x.2.2))
theorem countP_filter_map (d : ByteArray → Option Int) (a0 : Int) (ks : List ByteArray) (a : Int) : (dnL d a0 ks).countP (fun x => decide (x.2.2 < a - a0)) = aheadE ks d (some a) := by
  unfold dnL aheadE
  rw [List.countP_map, List.countP_filter]
  refine List.countP_congr (fun s _ => ?_)
  simp only [Function.comp]
  cases h : d s with
  | none => simp [aheadB]
  | some b => simp [tmE, h, aheadB]
theorem countP_done (d : ByteArray → Option Int) (a0 : Int) (ks : List ByteArray) : (dnL d a0 ks).length = aheadE ks d none := by
  unfold dnL aheadE
  rw [List.length_map, ← List.countP_eq_length_filter]
  refine List.countP_congr (fun s _ => ?_)
  cases h : d s with
  | none => simp [aheadB]
  | some b => simp [aheadB]
theorem resL_ok {ks kb : List ByteArray} {d : ByteArray → Option Int} {a0 : Int} {so : List Res} (hp : kb.Perm ks) (hu : kb.Pairwise (fun a b => cmpS a b < 0)) (hsp : so.Perm (dnL d a0 kb)) (hsu : so.Pairwise (fun a b => 0 ≤ cfN b a)) (_hpos : ∀ s a, d s = some a → a0 < a) :
    ResR ks d a0 (resL so d kb) := by
  have hless : ∀ a, lessT so (a - a0) = aheadE ks d (some a) := fun a => by
    unfold lessT
    rw [hsp.countP_eq, countP_filter_map]
    unfold aheadE
    exact hp.countP_eq _
  have hlen : so.length = aheadE ks d none := by
    rw [hsp.length_eq, countP_done]
    unfold aheadE
    exact hp.countP_eq _
  have hmem : ∀ x ∈ so, ∃ a, d x.2.1 = some a ∧ x = (0, x.2.1, a - a0) := fun x hx => by
    have hx2 := hsp.mem_iff.1 hx
    unfold dnL at hx2
    obtain ⟨s, hs, rfl⟩ := List.mem_map.1 hx2
    obtain ⟨a, ha⟩ := Option.isSome_iff_exists.1 (List.mem_filter.1 hs).2
    exact ⟨a, ha, by simp [tmE, ha]⟩
  have hot : ∀ x ∈ otL d kb, d x.2.1 = none ∧ x = (0, x.2.1, 0) := fun x hx => by
    unfold otL at hx
    obtain ⟨s, hs, rfl⟩ := List.mem_map.1 hx
    have := (List.mem_filter.1 hs).2
    refine ⟨?_, rfl⟩
    show d s = none
    cases h : d s with
    | none => rfl
    | some a => rw [h] at this; cases this
  have e1 : rankL so = so.map (fun x => rsE ks d a0 x.2.1) := by
    unfold rankL
    refine List.map_congr_left (fun x hx => ?_)
    obtain ⟨a, ha, hxe⟩ := hmem x hx
    rw [hxe]
    simp only
    unfold rsE tmE
    rw [ha, hless a]
  have e2 : (otL d kb).map (fun x => ((so.length : Int) + 1, x.2.1, x.2.2)) = (otL d kb).map (fun x => rsE ks d a0 x.2.1) := by
    refine List.map_congr_left (fun x hx => ?_)
    obtain ⟨ha, hxe⟩ := hot x hx
    rw [hxe]
    simp only
    unfold rsE tmE
    rw [ha, hlen]
  refine ⟨?_, ?_⟩
  · unfold resL
    rw [e1, e2]
    have h1 : (so.map (fun x => rsE ks d a0 x.2.1)).Perm ((kb.filter (fun s => (d s).isSome)).map (rsE ks d a0)) := by
      have := hsp.map (fun x : Res => rsE ks d a0 x.2.1)
      unfold dnL at this
      rw [List.map_map] at this
      exact this
    have h2 : (otL d kb).map (fun x => rsE ks d a0 x.2.1) = (kb.filter (fun s => !(d s).isSome)).map (rsE ks d a0) := by
      unfold otL
      rw [List.map_map]
      rfl
    rw [h2]
    refine (h1.append_right _).trans ?_
    rw [← List.map_append]
    exact ((List.filter_append_perm (fun s => (d s).isSome) kb).map _).trans (hp.map _)
  · unfold resL
    rw [e1, e2, List.pairwise_append]
    refine ⟨?_, ?_, ?_⟩
    · rw [List.pairwise_map]
      refine hsu.imp_of_mem ?_
      intro x y hx hy hxy
      obtain ⟨a, ha, hxe⟩ := hmem x hx
      obtain ⟨b, hb, hye⟩ := hmem y hy
      rw [hxe, hye] at hxy
      unfold cfN at hxy
      simp only at hxy
      unfold cfR rsE tmE
      simp only [ha, hb]
      simpa [cmpI] using hxy
    · rw [List.pairwise_map]
      unfold otL
      rw [List.pairwise_map]
      refine (hu.filter _).imp_of_mem ?_
      intro x y hx hy hxy
      have hn : ∀ s, s ∈ kb.filter (fun s => !(d s).isSome) → d s = none := fun s hs => by
        have := (List.mem_filter.1 hs).2
        cases h : d s with
        | none => rfl
        | some a => rw [h] at this; cases this
      have hneg := cmpS_neg x y
      unfold cfR rsE tmE
      simp only [hn x hx, hn y hy]
      simp [cmpI]
      omega
    · intro x hx y hy
      obtain ⟨x', hx', rfl⟩ := List.mem_map.1 hx
      obtain ⟨y', hy', rfl⟩ := List.mem_map.1 hy
      obtain ⟨a, ha, _⟩ := hmem x' hx'
      obtain ⟨hb, _⟩ := hot y' hy'
      unfold cfR rsE
      simp [ha, hb, cmpI]
end Go.Proofs.YthbcogekfdllmaaGreatDoor
