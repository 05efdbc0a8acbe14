/-
  Whether an atom and a tree hold for a run, by contracts: truth$1, (*node).holds.
-/
import Derived.Test.YthbcogekfdllmaaGreatDoorZTidPure
import Derived.Test.YthbcogekfdllmaaGreatDoorZRule6
import Derived.Test.YthbcogekfdllmaaGreatDoorZSepX
import Derived.ArgAppend
import Derived.RegionTactic
import Derived.Shelf.Lay
import Derived.Shelf.LaySoft
import Derived.Shelf.Strings.Builder1
import Derived.Shelf.Strings.Builder2
import Derived.Shelf.Strings.OnBuilder
import Derived.Shelf.Small.Bits
import Derived.Shelf.Small.Strs
import Derived.Shelf.Small.Wraps
import Derived.Shelf.Strings.BuilderF
import Derived.Shelf.Strconv.Atoi
import Derived.Shelf.LaysM
import Derived.Shelf.Strings.Search1
import Derived.Shelf.Strings.Search2
import Derived.Shelf.Strings.Search3
import Derived.Shelf.Strings.Cut
import Derived.Shelf.Strings.Count
import Derived.Shelf.Strings.Shaped
import Derived.Shelf.Strings.Prefix
import Derived.Shelf.Strings.Split
import Derived.Shelf.Strings.SplitShaped
import Derived.Shelf.Slices.Turned
import Derived.Test.YthbcogekfdllmaaGreatDoorProg
import Derived.Sort.Grow
import Derived.Sort.EncStr
import Derived.Sort.Walk0
import Derived.Lib.SlicesCompact
import Derived.Test.YthbcogekfdllmaaGreatDoorZCntS
import Derived.Deep.DeepCutAuto
import Derived.Test.YthbcogekfdllmaaGreatDoorZScmp
namespace Go.Proofs.YthbcogekfdllmaaGreatDoor
open Go Go.RowKit
attribute [local go_sem ↓] Go.wp_at_zero Go.wp_at_succ

/-- whether an atom holds for a run of a time and fields -/
def atP (tm : Int) (fs : List Pr) (a : Atm) : Bool :=
  if a.word = sTrue then true else if a.word = sHas then fieldH a.name fs else if a.word = sEq then fieldH a.name fs && decide (fieldV a.name fs = a.value)
  else if a.word = sLt then decide (tm ≠ 0) && decide (tm < a.n) else decide (a.n < tm)
/-- a run in memory, as truth's closure holds it -/
def RnA (w0 : World) (bx : Nat) (tm : Int) (fs : List Pr) : Prop := ∃ g o b fa m fc, w0.cell? ⟨bx, 0, none⟩ = some (.pointer (some ⟨g, o, none⟩)) ∧ w0.cell? ⟨g, o + 2, none⟩ = some (.int .i64 tm) ∧
  w0.cell? ⟨g, o + 4, none⟩ = some (.slice fa m fc) ∧ Rd w0 b 2 (.slice fa m fc) m (fs.flatMap prC)
theorem RnA.below {w0 W : World} {bx : Nat} {tm : Int} {fs : List Pr} (h : RnA w0 bx tm fs) (hb : Below w0.heap.size w0 W) : RnA W bx tm fs := by
  obtain ⟨g, o, b, fa, m, fc, h1, h2, h3, h4⟩ := h
  exact ⟨g, o, b, fa, m, fc, below_cell hb h1, below_cell hb h2, below_cell hb h3, h4.below hb⟩
set_option maxRecDepth 100000 in
set_option maxHeartbeats 1000000 in
theorem truth1_calls (bx : Nat) (tm : Int) (fs : List Pr) (a : Atm) (W : World) (h : RnA W bx tm fs) :
    Calls Tryz.prog 153 #[.agg #[.string a.word, .string a.name, .string a.value, .int .i64 a.n], .pointer (some ⟨bx, 0, none⟩)] W (BRet (.bool (atP tm fs a)) W) := by
  obtain ⟨g, o, b, fa, m, fc, h1, h2, h3, h4⟩ := h
  have HF : Hid (∀ V, Below W.heap.size W V → Calls Tryz.prog 89 #[.pointer (some ⟨g, o, none⟩), .string a.name] V (BRet (.tuple #[.string (fieldV a.name fs), .bool (fieldH a.name fs)]) V)) :=
    Lib.hid (fun V hV => field_calls b g o fa m fc fs a.name V (below_cell hV h3) (h4.below hV))
  obtain ⟨wd, nm, vl, n⟩ := a
  have e1 : (wd.toList == [116, 114, 117, 101]) = decide (wd = sTrue) := tokB wd [116, 114, 117, 101] sTrue rfl
  have e2 : (wd.toList == [104, 97, 115]) = decide (wd = sHas) := tokB wd [104, 97, 115] sHas rfl
  have e3 : (wd.toList == [61]) = decide (wd = sEq) := tokB wd [61] sEq rfl
  have e4 : (wd.toList == [60]) = decide (wd = sLt) := tokB wd [60] sLt rfl
  simp only at HF ⊢
  obtain ⟨fv, hfv⟩ : ∃ z, fieldV nm fs = z := ⟨_, rfl⟩
  obtain ⟨fh, hfh⟩ : ∃ z, fieldH nm fs = z := ⟨_, rfl⟩
  obtain ⟨q5, hq5⟩ : ∃ z : Bool, (fv.toList == vl.toList) = z := ⟨_, rfl⟩
  have hv5 : decide (fv = vl) = q5 := by
    rw [← hq5]
    by_cases hh : fv = vl
    · subst hh; simp
    · rw [decide_eq_false hh, eq_comm, beq_eq_false_iff_ne]
      intro e; exact hh (by rw [Lib.toList_data, Lib.toList_data] at e; exact ba_inj e)
  have HAT : Hid (atP tm fs ⟨wd, nm, vl, n⟩ = if decide (wd = sTrue) then true else if decide (wd = sHas) then fh else if decide (wd = sEq) then fh && q5 else if decide (wd = sLt) then decide (tm ≠ 0) && decide (tm < n) else decide (n < tm)) := Lib.hid (by
    unfold atP
    simp only [hfh, hfv, hv5, decide_eq_true_eq])
  obtain ⟨q1, hq1⟩ : ∃ z, decide (wd = sTrue) = z := ⟨_, rfl⟩
  obtain ⟨q2, hq2⟩ : ∃ z, decide (wd = sHas) = z := ⟨_, rfl⟩
  obtain ⟨q3, hq3⟩ : ∃ z, decide (wd = sEq) = z := ⟨_, rfl⟩
  obtain ⟨q4, hq4⟩ : ∃ z, decide (wd = sLt) = z := ⟨_, rfl⟩
  rw [hq1, hq2, hq3, hq4] at HAT
  rw [hq1] at e1
  rw [hq2] at e2
  rw [hq3] at e3
  rw [hq4] at e4
  rw [hfv, hfh] at HF
  obtain ⟨v9, hv9⟩ : ∃ z, atP tm fs ⟨wd, nm, vl, n⟩ = z := ⟨_, rfl⟩
  rw [hv9] at HAT ⊢
  clear hv9
  clear h4 h3 hq1 hq2 hq3 hq4 hv5 hfv hfh
  have hb := (Below.refl W.heap.size W).alloc (Nat.le_refl _) (.cells #[.string wd, .string nm, .string vl, .int .i64 n] 238)
  have HX : Hid (∀ V, Below W.heap.size W V → Below (W.alloc (.cells #[.string wd, .string nm, .string vl, .int .i64 n] 238)).heap.size (W.alloc (.cells #[.string wd, .string nm, .string vl, .int .i64 n] 238)) V → V.cell? ⟨bx, 0, none⟩ = some (.pointer (some ⟨g, o, none⟩)) ∧ V.cell? ⟨g, o + 2, none⟩ = some (.int .i64 tm) ∧ V.cell? ⟨W.heap.size, 0, none⟩ = some (.string wd) ∧ V.cell? ⟨W.heap.size, 1, none⟩ = some (.string nm) ∧ V.cell? ⟨W.heap.size, 2, none⟩ = some (.string vl) ∧ V.cell? ⟨W.heap.size, 3, none⟩ = some (.int .i64 n)) := Lib.hid (fun V hV hV2 => by
    have hS := ((Sq.start W).add #[.string wd, .string nm, .string vl, .int .i64 n] 238).head
    exact ⟨below_cell hV h1, below_cell hV h2, below_cell hV2 (Blk.cell hS 0), below_cell hV2 (Blk.cell hS 1), below_cell hV2 (Blk.cell hS 2), below_cell hV2 (Blk.cell hS 3)⟩)
  obtain ⟨b0, b1, b2, b3, b4, b5⟩ := HX.out _ hb (Below.refl _ _)
  have HC := Lib.hid (HF.out _ hb)
  clear HF h1 h2
  go_enter Tryz.func153, Tryz.ntmps153
  go_wp2_with fail
  refine HC.out.mono ?_
  rintro e w2 ⟨rfl, hb2⟩
  obtain ⟨d0, d1, d2, d3, d4, d5⟩ := HX.out w2 (below_call hb hb2 (Nat.le_refl _)) hb2
  have hbw := below_call hb hb2 (Nat.le_refl _)
  clear b0 b1 b2 b3 b4 b5 hb2
  cases q1
  · cases q2
    · cases q3
      · cases q4
        · by_cases hc : n < tm
          · have hcd : decide (n < tm) = true := decide_eq_true hc
            go_wp2_with fail
            go_quiet (fail)
            all_goals
              go_wp2_with fail
              go_ret
              exact ⟨by rw [HAT.out, hcd]; rfl, below_drewN hbw _⟩
          · have hcd : decide (n < tm) = false := decide_eq_false hc
            go_wp2_with fail
            go_quiet (fail)
            all_goals
              go_wp2_with fail
              go_ret
              exact ⟨by rw [HAT.out, hcd]; rfl, below_drewN hbw _⟩
        · by_cases h0 : tm = 0
          · have h0d : decide (tm ≠ 0) = false := by simp [h0]
            have h0b : (tm != 0) = false := by simp [h0]
            go_wp2_with fail
            go_quiet (fail)
            all_goals
              go_wp2_with fail
              go_ret
              exact ⟨by rw [HAT.out, h0d]; rfl, below_drewN hbw _⟩
          · have h0d : decide (tm ≠ 0) = true := by simp [h0]
            have h0b : (tm != 0) = true := by simp [h0]
            by_cases hc : tm < n
            · have hcd : decide (tm < n) = true := decide_eq_true hc
              go_wp2_with fail
              go_quiet (fail)
              all_goals
                go_wp2_with fail
                go_ret
                exact ⟨by rw [HAT.out, h0d, hcd]; rfl, below_drewN hbw _⟩
            · have hcd : decide (tm < n) = false := decide_eq_false hc
              go_wp2_with fail
              go_quiet (fail)
              all_goals
                go_wp2_with fail
                go_ret
                exact ⟨by rw [HAT.out, h0d, hcd]; rfl, below_drewN hbw _⟩
      · cases fh
        · go_wp2_with fail
          go_ret
          exact ⟨by rw [HAT.out]; rfl, hbw⟩
        · cases q5
          · go_wp2_with fail
            go_ret
            exact ⟨by rw [HAT.out]; rfl, hbw⟩
          · go_wp2_with fail
            go_ret
            exact ⟨by rw [HAT.out]; rfl, hbw⟩
    · go_wp2_with fail
      go_ret
      exact ⟨by rw [HAT.out]; rfl, hbw⟩
  · go_wp2_with fail
    go_ret
    exact ⟨by rw [HAT.out]; rfl, hbw⟩


def HolH (tm : Int) (fs : List Pr) (t : Nd) : Prop := ∀ w0 bx g lo hi W, NodeAt w0 lo hi g t → hi ≤ w0.heap.size → RnA w0 bx tm fs → Below w0.heap.size w0 W →
  Calls Tryz.prog 100 #[.pointer (some ⟨g, 0, none⟩), .func (.func 153) #[] #[.pointer (some ⟨bx, 0, none⟩)]] W (BRet (.bool (holF (atP tm fs) t)) W)
set_option maxRecDepth 100000 in
theorem holLeaf_calls (tm : Int) (fs : List Pr) (a : Atm) : HolH tm fs (.node 4 [] a) := by
  intro w0 bx g lo hi W hn hhi hr hb
  obtain ⟨v, gs, hB, hrow, _, _⟩ := hn.top
  obtain ⟨c0, c1, c2, c3, c4, c5⟩ := nodeC_cell hB
  have d0 := below_cell hb c0
  have d2 := below_cell hb c2
  have d3 := below_cell hb c3
  have d4 := below_cell hb c4
  have d5 := below_cell hb c5
  rw [hol_leaf]
  have HC := Lib.hid (truth1_calls bx tm fs a W (hr.below hb))
  obtain ⟨v9, hv9⟩ : ∃ z, atP tm fs a = z := ⟨_, rfl⟩
  rw [hv9] at HC ⊢
  clear hB hrow hn hr hb hv9 c0 c1 c2 c3 c4 c5
  go_enter Tryz.func100, Tryz.ntmps100
  go_wp2_with fail
  refine HC.out.mono ?_
  rintro e w2 ⟨rfl, hb2⟩
  go_wp2_with fail
  go_ret
  exact ⟨rfl, hb2⟩
set_option maxRecDepth 100000 in
theorem holNot_calls (tm : Int) (fs : List Pr) (k : Nd) (a : Atm) (IH : HolH tm fs k) : HolH tm fs (.node 3 [k] a) := by
  intro w0 bx g lo hi W hn hhi hr hb
  obtain ⟨v, gs, hB, hrow, hgs, hkids⟩ := hn.top
  obtain ⟨c0, c1, c2, c3, c4, c5⟩ := nodeC_cell hB
  obtain ⟨gk, ck, hv, hck, _⟩ := hrow.form (by simp)
  subst hv
  obtain ⟨g1, rfl⟩ : ∃ g1, gs = [g1] := by
    match gs, hgs with
    | [g1], _ => exact ⟨g1, rfl⟩
  have r0 : w0.cell? ⟨gk, 0, none⟩ = some (.pointer (some ⟨g1, 0, none⟩)) := by rw [hrow.cellAt 0 (by simp)]; rfl
  have d0 := below_cell hb c0
  have d1 := below_cell hb c1
  have e0 := below_cell hb r0
  rw [hol_not]
  have HC := Lib.hid (IH w0 bx g1 lo hi W (hkids 0 (by simp) (by simp)) hhi hr hb)
  obtain ⟨v9, hv9⟩ : ∃ z, holF (atP tm fs) k = z := ⟨_, rfl⟩
  rw [hv9] at HC ⊢
  clear hB hrow hn hr hb hv9 hkids hgs IH c0 c1 c2 c3 c4 c5 r0
  go_enter Tryz.func100, Tryz.ntmps100
  go_wp2_with fail
  refine HC.out.mono ?_
  rintro e w2 ⟨rfl, hb2⟩
  go_wp2_with fail
  go_ret
  exact ⟨rfl, hb2⟩
set_option maxRecDepth 100000 in
set_option maxHeartbeats 1000000 in
theorem holIn_calls (tm : Int) (fs : List Pr) (kind : Int) (o : Bool) (hko : (kind == 1) = o) (hk3 : (kind == 3) = false) (hk4 : (kind == 4) = false) (hk2 : (kind == 2) = !o) (ks : List Nd) (a : Atm) (hn1 : 1 ≤ ks.length) (IH : ∀ k ∈ ks, HolH tm fs k) : HolH tm fs (.node kind ks a) := by
  intro w0 bx g lo hi W hn hhi hr hb
  obtain ⟨v, gs, hB, hrow, hgs, hkids⟩ := hn.top
  obtain ⟨c0, c1, c2, c3, c4, c5⟩ := nodeC_cell hB
  obtain ⟨n, hnn⟩ : ∃ n, ks.length = n := ⟨_, rfl⟩
  rw [hnn] at hrow hgs hn1
  obtain ⟨gk, ck, hv, hck, _⟩ := hrow.form (by omega)
  subst hv
  obtain ⟨hcp1, hcp2⟩ := own_cap hrow
  unfold maxLen at hcp2
  have HRW : Hid (∀ i, i < n → ∀ (hi_ : i < gs.length), w0.cell? ⟨gk, i, none⟩ = some (ptrV gs[i])) := fun i hin hi_ => by
    rw [hrow.cellAt i (by omega), List.getElem?_map, List.getElem?_eq_getElem hi_]; rfl
  have HIH : Hid (∀ i (hi_ : i < gs.length) (hk : i < ks.length) V, Below w0.heap.size w0 V → Calls Tryz.prog 100 #[ptrV gs[i], .func (.func 153) #[] #[.pointer (some ⟨bx, 0, none⟩)]] V (BRet (.bool (holF (atP tm fs) ks[i])) V)) :=
    Lib.hid (fun i hi_ hk V hV => IH _ (List.getElem_mem hk) w0 bx gs[i] lo hi V (hkids i hi_ hk) hhi hr hV)
  have HN := Lib.hid hnn
  have HGS := Lib.hid hgs
  obtain ⟨v9, hv9⟩ : ∃ z, holF (atP tm fs) (.node kind ks a) = z := ⟨_, rfl⟩
  have HV1 : Hid (∀ (k : Nat) (hk : k < ks.length), holF (atP tm fs) ks[k] = o → v9 = o) := Lib.hid (fun k hk he => by
    rw [← hv9, holF_eq]
    have e3 : kind ≠ 3 := by simpa using hk3
    have e4 : kind ≠ 4 := by simpa using hk4
    rw [if_neg e4, if_neg e3]
    by_cases e1 : kind = 1
    · subst e1
      rw [if_pos rfl]
      obtain rfl : true = o := hko
      simp only [List.any_map, List.any_eq_true]
      exact ⟨_, List.getElem_mem hk, he⟩
    · rw [if_neg e1]
      obtain rfl : o = false := by rw [← hko]; simpa using e1
      simp only [List.all_map, List.all_eq_false]
      exact ⟨_, List.getElem_mem hk, by simp [he]⟩)
  have HV2 : Hid ((∀ (k : Nat) (hk : k < ks.length), holF (atP tm fs) ks[k] = !o) → v9 = !o) := Lib.hid (fun he => by
    have he : ∀ k ∈ ks, holF (atP tm fs) k = !o := fun k hk => by
      obtain ⟨i, hi, rfl⟩ := List.getElem_of_mem hk
      exact he i hi
    rw [← hv9, holF_eq]
    have e3 : kind ≠ 3 := by simpa using hk3
    have e4 : kind ≠ 4 := by simpa using hk4
    rw [if_neg e4, if_neg e3]
    by_cases e1 : kind = 1
    · subst e1
      rw [if_pos rfl]
      obtain rfl : true = o := hko
      rw [List.any_map]
      show _ = false
      rw [List.any_eq_false]
      intro x hx
      simp [he x hx]
    · rw [if_neg e1]
      obtain rfl : o = false := by rw [← hko]; simpa using e1
      simp only [List.all_map, List.all_eq_true, Bool.not_false]
      intro x hx
      simp [he x hx])
  rw [hv9]
  have d0 := below_cell hb c0
  have d1 := below_cell hb c1
  have HB := Lib.hid hb
  clear hB hrow hn hkids hgs hnn IH hv9 hb hr
  go_enter Tryz.func100, Tryz.ntmps100
  go_wp2_with fail
  go_loopw [35] (fun i wr => ∃ k : Nat, k ≤ n ∧ i = .int .i64 k ∧ Hid (Below w0.heap.size w0 wr) ∧ Hid (Below W.heap.size W wr) ∧ Hid (∀ j (hj : j < ks.length), j < k → holF (atP tm fs) ks[j] = !o)) (fun i _ => n - (intOf i).toNat)
  case atStart => exact ⟨0, Nat.zero_le _, rfl, HB, Lib.hid (Below.refl _ _), Lib.hid (fun j hj h => by omega)⟩
  case round =>
    clear d0 d1
    obtain ⟨k, hk, rfl, HB1, HB2, HF⟩ := hrel
    have d0 := below_cell HB1.out c0
    by_cases hlt : k < n
    · have hkg : k < gs.length := by rw [HGS.out]; exact hlt
      have hka : k < ks.length := by rw [HN.out]; exact hlt
      have e1 := below_cell HB1.out (HRW.out k hlt hkg)
      have hbd : Below w0.heap.size w0 wr.drew := below_drewN HB1.out 1
      have hbe : Below W.heap.size W wr.drew := below_drewN HB2.out 1
      have HC := Lib.hid (HIH.out k hkg hka wr.drew hbd)
      have HVV := Lib.hid (HV1.out k hka)
      have HFF : Hid (holF (atP tm fs) ks[k] = !o → ∀ j (hj : j < ks.length), j < k + 1 → holF (atP tm fs) ks[j] = !o) := Lib.hid (fun h j hj hjk => by
        by_cases he : j = k
        · subst he; exact h
        · exact HF.out j hj (by omega))
      obtain ⟨vk, hvk⟩ : ∃ z, holF (atP tm fs) ks[k] = z := ⟨_, rfl⟩
      rw [hvk] at HC HVV HFF
      have hk0 : (0 : Int) ≤ (k : Int) := by omega
      have hkn : (k : Int) < (n : Int) := by omega
      obtain ⟨G, hG⟩ : ∃ z, ptrV gs[k] = z := ⟨_, rfl⟩
      rw [hG] at HC e1
      clear hvk hG
      by_cases hq : vk = o
      · have HV0 := Lib.hid (HVV.out hq)
        subst hq
        clear HVV HFF
        cases vk
        · go_wp2_with fail
          go_region_law (go_simp; go_at_call 100; ((with_reducible refine HC.out.mono ?_); rintro e w3 ⟨rfl, hb3⟩; have hbf := below_call hbd hb3 (Nat.le_refl _); have e3 := below_cell hbf c0; have HBF := Lib.hid hbf; have HBG := Lib.hid (below_call hbe hb3 (Nat.le_refl _))))
          all_goals
            go_wp2_with fail
            go_ret
            exact ⟨by rw [HV0.out]; rfl, HBG.out⟩
        · go_wp2_with fail
          go_region_law (go_simp; go_at_call 100; ((with_reducible refine HC.out.mono ?_); rintro e w3 ⟨rfl, hb3⟩; have hbf := below_call hbd hb3 (Nat.le_refl _); have e3 := below_cell hbf c0; have HBF := Lib.hid hbf; have HBG := Lib.hid (below_call hbe hb3 (Nat.le_refl _))))
          all_goals
            go_wp2_with fail
            go_ret
            exact ⟨by rw [HV0.out]; rfl, HBG.out⟩
      · cases o
        · obtain rfl : vk = true := by cases vk; exact absurd rfl hq; rfl
          have HF0 := Lib.hid (HFF.out rfl)
          clear hq HVV HFF
          go_wp2_with fail
          go_region_law (go_simp; go_at_call 100; ((with_reducible refine HC.out.mono ?_); rintro e w3 ⟨rfl, hb3⟩; have hbf := below_call hbd hb3 (Nat.le_refl _); have e3 := below_cell hbf c0; have HBF := Lib.hid hbf; have HBG := Lib.hid (below_call hbe hb3 (Nat.le_refl _))))
          all_goals
            go_wp2_with fail
            go_roundw
            case rel => exact ⟨k + 1, hlt, by go_num, HBF, HBG, HF0⟩
            case measure => simp [intOf]; omega
        · obtain rfl : vk = false := by cases vk; rfl; exact absurd rfl hq
          have HF0 := Lib.hid (HFF.out rfl)
          clear hq HVV HFF
          go_wp2_with fail
          go_region_law (go_simp; go_at_call 100; ((with_reducible refine HC.out.mono ?_); rintro e w3 ⟨rfl, hb3⟩; have hbf := below_call hbd hb3 (Nat.le_refl _); have e3 := below_cell hbf c0; have HBF := Lib.hid hbf; have HBG := Lib.hid (below_call hbe hb3 (Nat.le_refl _))))
          all_goals
            go_wp2_with fail
            go_roundw
            case rel => exact ⟨k + 1, hlt, by go_num, HBF, HBG, HF0⟩
            case measure => simp [intOf]; omega
    · obtain rfl : k = n := by omega
      have HZ := Lib.hid (HV2.out (fun j hj => HF.out j hj (by rw [← HN.out]; exact hj)))
      go_wp2_with fail
      go_ret
      exact ⟨by rw [HZ.out]; rfl, HB2.out⟩
theorem hol_calls (tm : Int) (fs : List Pr) {num : ByteArray → Int × Bool} {t : Nd} (h : NdOk num t) : HolH tm fs t := by
  induction h with
  | atom a h => exact holLeaf_calls tm fs a
  | not k _ ih => exact holNot_calls tm fs k atm0 ih
  | or ks h2 _ ih => exact holIn_calls tm fs 1 true rfl rfl rfl rfl ks atm0 (by omega) ih
  | and ks h2 _ ih => exact holIn_calls tm fs 2 false rfl rfl rfl rfl ks atm0 (by omega) ih
end Go.Proofs.YthbcogekfdllmaaGreatDoor
