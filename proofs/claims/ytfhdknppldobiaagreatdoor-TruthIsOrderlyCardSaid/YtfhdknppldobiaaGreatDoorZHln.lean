/-
  Whether a rule's tree holds, at never's closure. (Printed by gen_twin.py out of XHld1.)
-/
import Derived.Test.YtfhdknppldobiaaGreatDoorZHld1
namespace Go.Proofs.YtfhdknppldobiaaGreatDoor
open Go Go.RowKit
attribute [local go_sem ↓] Go.wp_at_zero Go.wp_at_succ

/-- what never's closure answers of an atom, in any later world -/
def IsN (num : ByteArray → Int × Bool) (is : Atm → Bool) (bn bs : Nat) (w0 : World) : Prop := ∀ a W, AtmOk num a → Below w0.heap.size w0 W → Calls Tryz.prog 146 #[.agg #[.string a.word, .string a.name, .string a.value, .int .i64 a.n], .pointer (some ⟨bn, 0, none⟩), .pointer (some ⟨bs, 0, none⟩)] W (BRet (.bool (is a)) W)
def HolN (num : ByteArray → Int × Bool) (is : Atm → Bool) (t : Nd) : Prop := ∀ w0 bn bs g lo hi W, NodeAt w0 lo hi g t → hi ≤ w0.heap.size → IsN num is bn bs w0 → Below w0.heap.size w0 W →
  Calls Tryz.prog 79 #[.pointer (some ⟨g, 0, none⟩), .func (.func 146) #[] #[.pointer (some ⟨bn, 0, none⟩), .pointer (some ⟨bs, 0, none⟩)]] W (BRet (.bool (holF (is) t)) W)
set_option maxRecDepth 100000 in
theorem holnLeaf_calls {num : ByteArray → Int × Bool} (is : Atm → Bool) (a : Atm) (ha : AtmOk num a) : HolN num is (.node 4 [] a) := by
  intro w0 bn bs g lo hi W hn hhi hr hb
  obtain ⟨v, gs, hB, hrow, _, _⟩ := hn.top
  obtain ⟨c0, c1, c2, c3, c4, c5⟩ := nodeC_cell hB
  have d0 := below_cell hb c0
  have d2 := below_cell hb c2
  have d3 := below_cell hb c3
  have d4 := below_cell hb c4
  have d5 := below_cell hb c5
  rw [hol_leaf]
  have HC := Lib.hid (hr a W ha hb)
  obtain ⟨v9, hv9⟩ : ∃ z, is a = z := ⟨_, rfl⟩
  rw [hv9] at HC ⊢
  clear hB hrow hn hr hb hv9 c0 c1 c2 c3 c4 c5
  go_enter Tryz.func79, Tryz.ntmps79
  go_wp2_with fail
  refine HC.out.mono ?_
  rintro e w2 ⟨rfl, hb2⟩
  go_wp2_with fail
  go_ret
  exact ⟨rfl, hb2⟩
set_option maxRecDepth 100000 in
theorem holnNot_calls {num : ByteArray → Int × Bool} (is : Atm → Bool) (k : Nd) (a : Atm) (IH : HolN num is k) : HolN num is (.node 3 [k] a) := by
  intro w0 bn bs g lo hi W hn hhi hr hb
  obtain ⟨v, gs, hB, hrow, hgs, hkids⟩ := hn.top
  obtain ⟨c0, c1, c2, c3, c4, c5⟩ := nodeC_cell hB
  obtain ⟨gk, ck, hv, hck, _⟩ := hrow.form (by simp)
  subst hv
  obtain ⟨g1, rfl⟩ : ∃ g1, gs = [g1] := by
    match gs, hgs with
    | [g1], _ => exact ⟨g1, rfl⟩
  have r0 : w0.cell? ⟨gk, 0, none⟩ = some (.pointer (some ⟨g1, 0, none⟩)) := by rw [hrow.cellAt 0 (by simp)]; rfl
  have d0 := below_cell hb c0
  have d1 := below_cell hb c1
  have e0 := below_cell hb r0
  rw [hol_not]
  have HC := Lib.hid (IH w0 bn bs g1 lo hi W (hkids 0 (by simp) (by simp)) hhi hr hb)
  obtain ⟨v9, hv9⟩ : ∃ z, holF (is) k = z := ⟨_, rfl⟩
  rw [hv9] at HC ⊢
  clear hB hrow hn hr hb hv9 hkids hgs IH c0 c1 c2 c3 c4 c5 r0
  go_enter Tryz.func79, Tryz.ntmps79
  go_wp2_with fail
  refine HC.out.mono ?_
  rintro e w2 ⟨rfl, hb2⟩
  go_wp2_with fail
  go_ret
  exact ⟨rfl, hb2⟩
set_option maxRecDepth 100000 in
set_option maxHeartbeats 1000000 in
theorem holnIn_calls {num : ByteArray → Int × Bool} (is : Atm → Bool) (kind : Int) (o : Bool) (hko : (kind == 1) = o) (hk3 : (kind == 3) = false) (hk4 : (kind == 4) = false) (hk2 : (kind == 2) = !o) (ks : List Nd) (a : Atm) (hn1 : 1 ≤ ks.length) (IH : ∀ k ∈ ks, HolN num is k) : HolN num is (.node kind ks a) := by
  intro w0 bn bs g lo hi W hn hhi hr hb
  obtain ⟨v, gs, hB, hrow, hgs, hkids⟩ := hn.top
  obtain ⟨c0, c1, c2, c3, c4, c5⟩ := nodeC_cell hB
  obtain ⟨n, hnn⟩ : ∃ n, ks.length = n := ⟨_, rfl⟩
  rw [hnn] at hrow hgs hn1
  obtain ⟨gk, ck, hv, hck, _⟩ := hrow.form (by omega)
  subst hv
  obtain ⟨hcp1, hcp2⟩ := own_cap hrow
  unfold maxLen at hcp2
  have HRW : Hid (∀ i, i < n → ∀ (hi_ : i < gs.length), w0.cell? ⟨gk, i, none⟩ = some (ptrV gs[i])) := fun i hin hi_ => by
    rw [hrow.cellAt i (by omega), List.getElem?_map, List.getElem?_eq_getElem hi_]; rfl
  have HIH : Hid (∀ i (hi_ : i < gs.length) (hk : i < ks.length) V, Below w0.heap.size w0 V → Calls Tryz.prog 79 #[ptrV gs[i], .func (.func 146) #[] #[.pointer (some ⟨bn, 0, none⟩), .pointer (some ⟨bs, 0, none⟩)]] V (BRet (.bool (holF (is) ks[i])) V)) :=
    Lib.hid (fun i hi_ hk V hV => IH _ (List.getElem_mem hk) w0 bn bs gs[i] lo hi V (hkids i hi_ hk) hhi hr hV)
  have HN := Lib.hid hnn
  have HGS := Lib.hid hgs
  obtain ⟨v9, hv9⟩ : ∃ z, holF (is) (.node kind ks a) = z := ⟨_, rfl⟩
  have HV1 : Hid (∀ (k : Nat) (hk : k < ks.length), holF (is) ks[k] = o → v9 = o) := Lib.hid (fun k hk he => by
    rw [← hv9, holF_eq]
    have e3 : kind ≠ 3 := by simpa using hk3
    have e4 : kind ≠ 4 := by simpa using hk4
    rw [if_neg e4, if_neg e3]
    by_cases e1 : kind = 1
    · subst e1
      rw [if_pos rfl]
      obtain rfl : true = o := hko
      simp only [List.any_map, List.any_eq_true]
      exact ⟨_, List.getElem_mem hk, he⟩
    · rw [if_neg e1]
      obtain rfl : o = false := by rw [← hko]; simpa using e1
      simp only [List.all_map, List.all_eq_false]
      exact ⟨_, List.getElem_mem hk, by simp [he]⟩)
  have HV2 : Hid ((∀ (k : Nat) (hk : k < ks.length), holF (is) ks[k] = !o) → v9 = !o) := Lib.hid (fun he => by
    have he : ∀ k ∈ ks, holF (is) k = !o := fun k hk => by
      obtain ⟨i, hi, rfl⟩ := List.getElem_of_mem hk
      exact he i hi
    rw [← hv9, holF_eq]
    have e3 : kind ≠ 3 := by simpa using hk3
    have e4 : kind ≠ 4 := by simpa using hk4
    rw [if_neg e4, if_neg e3]
    by_cases e1 : kind = 1
    · subst e1
      rw [if_pos rfl]
      obtain rfl : true = o := hko
      rw [List.any_map]
      show _ = false
      rw [List.any_eq_false]
      intro x hx
      simp [he x hx]
    · rw [if_neg e1]
      obtain rfl : o = false := by rw [← hko]; simpa using e1
      simp only [List.all_map, List.all_eq_true, Bool.not_false]
      intro x hx
      simp [he x hx])
  rw [hv9]
  have d0 := below_cell hb c0
  have d1 := below_cell hb c1
  have HB := Lib.hid hb
  clear hB hrow hn hkids hgs hnn IH hv9 hb hr
  go_enter Tryz.func79, Tryz.ntmps79
  go_wp2_with fail
  go_loopw [35] (fun i wr => ∃ k : Nat, k ≤ n ∧ i = .int .i64 k ∧ Hid (Below w0.heap.size w0 wr) ∧ Hid (Below W.heap.size W wr) ∧ Hid (∀ j (hj : j < ks.length), j < k → holF (is) ks[j] = !o)) (fun i _ => n - (intOf i).toNat)
  case atStart => exact ⟨0, Nat.zero_le _, rfl, HB, Lib.hid (Below.refl _ _), Lib.hid (fun j hj h => by omega)⟩
  case round =>
    clear d0 d1
    obtain ⟨k, hk, rfl, HB1, HB2, HF⟩ := hrel
    have d0 := below_cell HB1.out c0
    by_cases hlt : k < n
    · have hkg : k < gs.length := by rw [HGS.out]; exact hlt
      have hka : k < ks.length := by rw [HN.out]; exact hlt
      have e1 := below_cell HB1.out (HRW.out k hlt hkg)
      have hbd : Below w0.heap.size w0 wr.drew := below_drewN HB1.out 1
      have hbe : Below W.heap.size W wr.drew := below_drewN HB2.out 1
      have HC := Lib.hid (HIH.out k hkg hka wr.drew hbd)
      have HVV := Lib.hid (HV1.out k hka)
      have HFF : Hid (holF (is) ks[k] = !o → ∀ j (hj : j < ks.length), j < k + 1 → holF (is) ks[j] = !o) := Lib.hid (fun h j hj hjk => by
        by_cases he : j = k
        · subst he; exact h
        · exact HF.out j hj (by omega))
      obtain ⟨vk, hvk⟩ : ∃ z, holF (is) ks[k] = z := ⟨_, rfl⟩
      rw [hvk] at HC HVV HFF
      have hk0 : (0 : Int) ≤ (k : Int) := by omega
      have hkn : (k : Int) < (n : Int) := by omega
      obtain ⟨G, hG⟩ : ∃ z, ptrV gs[k] = z := ⟨_, rfl⟩
      rw [hG] at HC e1
      clear hvk hG
      by_cases hq : vk = o
      · have HV0 := Lib.hid (HVV.out hq)
        subst hq
        clear HVV HFF
        cases vk
        · go_wp2_with fail
          go_region_law (go_simp; go_at_call 79; ((with_reducible refine HC.out.mono ?_); rintro e w3 ⟨rfl, hb3⟩; have hbf := below_call hbd hb3 (Nat.le_refl _); have e3 := below_cell hbf c0; have HBF := Lib.hid hbf; have HBG := Lib.hid (below_call hbe hb3 (Nat.le_refl _))))
          all_goals
            go_wp2_with fail
            go_ret
            exact ⟨by rw [HV0.out]; rfl, HBG.out⟩
        · go_wp2_with fail
          go_region_law (go_simp; go_at_call 79; ((with_reducible refine HC.out.mono ?_); rintro e w3 ⟨rfl, hb3⟩; have hbf := below_call hbd hb3 (Nat.le_refl _); have e3 := below_cell hbf c0; have HBF := Lib.hid hbf; have HBG := Lib.hid (below_call hbe hb3 (Nat.le_refl _))))
          all_goals
            go_wp2_with fail
            go_ret
            exact ⟨by rw [HV0.out]; rfl, HBG.out⟩
      · cases o
        · obtain rfl : vk = true := by cases vk; exact absurd rfl hq; rfl
          have HF0 := Lib.hid (HFF.out rfl)
          clear hq HVV HFF
          go_wp2_with fail
          go_region_law (go_simp; go_at_call 79; ((with_reducible refine HC.out.mono ?_); rintro e w3 ⟨rfl, hb3⟩; have hbf := below_call hbd hb3 (Nat.le_refl _); have e3 := below_cell hbf c0; have HBF := Lib.hid hbf; have HBG := Lib.hid (below_call hbe hb3 (Nat.le_refl _))))
          all_goals
            go_wp2_with fail
            go_roundw
            case rel => exact ⟨k + 1, hlt, by go_num, HBF, HBG, HF0⟩
            case measure => simp [intOf]; omega
        · obtain rfl : vk = false := by cases vk; rfl; exact absurd rfl hq
          have HF0 := Lib.hid (HFF.out rfl)
          clear hq HVV HFF
          go_wp2_with fail
          go_region_law (go_simp; go_at_call 79; ((with_reducible refine HC.out.mono ?_); rintro e w3 ⟨rfl, hb3⟩; have hbf := below_call hbd hb3 (Nat.le_refl _); have e3 := below_cell hbf c0; have HBF := Lib.hid hbf; have HBG := Lib.hid (below_call hbe hb3 (Nat.le_refl _))))
          all_goals
            go_wp2_with fail
            go_roundw
            case rel => exact ⟨k + 1, hlt, by go_num, HBF, HBG, HF0⟩
            case measure => simp [intOf]; omega
    · obtain rfl : k = n := by omega
      have HZ := Lib.hid (HV2.out (fun j hj => HF.out j hj (by rw [← HN.out]; exact hj)))
      go_wp2_with fail
      go_ret
      exact ⟨by rw [HZ.out]; rfl, HB2.out⟩
theorem holn_calls (is : Atm → Bool) {num : ByteArray → Int × Bool} {t : Nd} (h : NdOk num t) : HolN num is t := by
  induction h with
  | atom a h => exact holnLeaf_calls is a h
  | not k _ ih => exact holnNot_calls is k atm0 ih
  | or ks h2 _ ih => exact holnIn_calls is 1 true rfl rfl rfl rfl ks atm0 (by omega) ih
  | and ks h2 _ ih => exact holnIn_calls is 2 false rfl rfl rfl rfl ks atm0 (by omega) ih
end Go.Proofs.YtfhdknppldobiaaGreatDoor
