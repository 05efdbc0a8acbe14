/-
  The closures of clashes and ClashesOf, and slices.ContainsFunc over names with each, by contracts. (Printed by gen_slot8.py.)
-/
import Derived.Test.YtlfhommeomchoaaZSlot7
import Derived.Test.YtlfhommeomchoaaZSlotPure
namespace Go.Proofs.Ytlfhommeomchoaa
open Go Go.RowKit


set_option maxRecDepth 100000 in
theorem cloP_calls (b gx : Nat) (x : Slt) (s : ByteArray) (w : World) (hx : SltOk w b x) (hg : Blk w gx 121 #[.string x.key, .string x.who, .slice x.ha x.hosts.length x.hc, .int .i64 x.setup, .int .i64 x.long]) (hb : b < w.heap.size) :
    Calls Try.prog 126 #[.string s, .pointer (some ⟨gx, 0, none⟩)] w (BRet (.bool (memS (needL x) s)) w) := by
  have HN : Hid (∀ W, SltOk W b x → Calls Try.prog 103 #[.agg #[.string x.key, .string x.who, .slice x.ha x.hosts.length x.hc, .int .i64 x.setup, .int .i64 x.long]] W (StrsS (needL x) W)) := fun W h => needed_calls b x W h
  have HX := Lib.hid hx
  have c0 := hg.cell 0
  have c1 := hg.cell 1
  have c2 := hg.cell 2
  have c3 := hg.cell 3
  have c4 := hg.cell 4
  obtain ⟨L, hL⟩ : ∃ L, needL x = L := ⟨_, rfl⟩
  rw [hL] at HN ⊢
  clear hx hg hL
  go_enter Try.func126, Try.ntmps126
  go_wp2_with fail
  refine (HN.out _ HX.out).mono ?_
  rintro e w1 ⟨v, rfl, hown, hb1⟩
  obtain ⟨A2, cc, hv⟩ := own_form hown
  subst hv
  go_wp2_with fail
  refine (containsS_calls b A2 L.length cc L s _ (Rd.own hown hb)).mono ?_
  rintro e w2 ⟨rfl, nq, rfl⟩
  go_wp2_with fail
  go_ret
  exact ⟨rfl, below_drewN hb1 _⟩

set_option maxRecDepth 100000 in
theorem cloQ_calls (b gl gk : Nat) (A : Option Addr) (n c k : Nat) (xs : List Slt) (s : ByteArray) (w : World) (hr : Slts w b A n c xs) (hk : k < n) (hkx : k < xs.length) (hg : Blk w gl 63 #[.slice A n c]) (hgk : Blk w gk 3 #[.int .i64 k]) (hb : b < w.heap.size) :
    Calls Try.prog 100 #[.string s, .pointer (some ⟨gl, 0, none⟩), .pointer (some ⟨gk, 0, none⟩)] w (BRet (.bool (memS (peopL xs[k]) s)) w) := by
  obtain ⟨hl, hnc, hcm, hcells⟩ := hr.rd.cells sltC_len (by omega)
  unfold maxLen at hcm
  obtain ⟨g, o, hA, _, hcs⟩ := hcells (by omega)
  subst hA
  have hok := hr.ok _ (List.getElem_mem hkx)
  obtain ⟨x, hx⟩ : ∃ x, xs[k] = x := ⟨_, rfl⟩
  have c0 := hcs k hkx 0 (by omega)
  have c1 := hcs k hkx 1 (by omega)
  have c2 := hcs k hkx 2 (by omega)
  have c3 := hcs k hkx 3 (by omega)
  have c4 := hcs k hkx 4 (by omega)
  rw [hx] at c0 c1 c2 c3 c4 hok ⊢
  replace c0 : w.cell? ⟨g, o + k * 5, none⟩ = some (.string x.key) := c0
  replace c1 : w.cell? ⟨g, o + k * 5 + 1, none⟩ = some (.string x.who) := c1
  replace c2 : w.cell? ⟨g, o + k * 5 + 2, none⟩ = some (.slice x.ha x.hosts.length x.hc) := c2
  replace c3 : w.cell? ⟨g, o + k * 5 + 3, none⟩ = some (.int .i64 x.setup) := c3
  replace c4 : w.cell? ⟨g, o + k * 5 + 4, none⟩ = some (.int .i64 x.long) := c4
  have HN : Hid (∀ W, SltOk W b x → b < W.heap.size → Calls Try.prog 99 #[.agg #[.string x.key, .string x.who, .slice x.ha x.hosts.length x.hc, .int .i64 x.setup, .int .i64 x.long]] W (StrsS (peopL x) W)) := fun W h hb => people_calls b x W h hb
  have HX := Lib.hid hok
  have l0 := hg.cell 0
  have k0 := hgk.cell 0
  have hkn0 : (0 : Int) ≤ (k : Int) := by omega
  have hkn1 : (k : Int) < (n : Int) := by omega
  obtain ⟨L, hL⟩ : ∃ L, peopL x = L := ⟨_, rfl⟩
  rw [hL] at HN ⊢
  clear hok hg hgk hL hr hcells hcs hx hl
  go_enter Try.func100, Try.ntmps100
  go_wp2_with fail
  refine (HN.out _ HX.out hb).mono ?_
  rintro e w1 ⟨v, rfl, hown, hb1⟩
  obtain ⟨A2, cc, hv⟩ := own_form hown
  subst hv
  go_wp2_with fail
  refine (containsS_calls b A2 L.length cc L s _ (Rd.own hown hb)).mono ?_
  rintro e w2 ⟨rfl, nq, rfl⟩
  go_wp2_with fail
  go_ret
  exact ⟨rfl, below_drewN hb1 _⟩

set_option maxRecDepth 100000 in
theorem contP_calls (b : Nat) (gx : Nat) (A2 : Option Addr) (m c2 : Nat) (hs : List ByteArray) (p : ByteArray → Bool) (w : World) (hr2 : Rd w b 1 (.slice A2 m c2) m (strsV hs))
    (HC : ∀ W s, Below w.heap.size w W → Calls Try.prog 126 #[.string s, .pointer (some ⟨gx, 0, none⟩)] W (BRet (.bool (p s)) W)) :
    Calls Try.prog 98 #[.slice A2 m c2, .func (.func 126) #[] #[.pointer (some ⟨gx, 0, none⟩)]] w (BRet (.bool (hs.any p)) w) := by
  obtain ⟨hl, hnc, hcm, hcells⟩ := strs_cells hr2
  unfold maxLen at hcm
  have HL := Lib.hid hl
  have HCL := Lib.hid hcells
  have HCC := Lib.hid HC
  have HM := Lib.hid (ixOf_mem p hs)
  clear hcells hl hr2 HC
  go_enter Try.func98, Try.ntmps98
  go_wp2
  go_loopw [8] (fun i wr => ∃ k : Nat, k ≤ m ∧ i = .int .i64 k ∧ Hid (∀ i (_ : i < k) (hi' : i < hs.length), p hs[i] = false) ∧ Below w.heap.size w wr) (fun i _ => m - (intOf i).toNat)
  case atStart => exact ⟨0, Nat.zero_le _, rfl, (fun i hi => absurd hi (by omega)), Below.refl _ _⟩
  case round =>
    obtain ⟨k, hk, rfl, HF, hbr⟩ := hrel
    by_cases hlt : k < m
    · have hkr : k < hs.length := by rw [HL.out]; exact hlt
      obtain ⟨g, o, hA, _, hcs⟩ := HCL.out (by omega)
      subst hA
      have c0 := below_cell hbr (hcs k hkr)
      obtain ⟨s, hs'⟩ : ∃ s, hs[k] = s := ⟨_, rfl⟩
      rw [hs'] at c0
      have HK := Lib.hid (HCC.out wr s hbr)
      clear hcs
      cases hp : p s
      · rw [hp] at HK
        have HF2 : Hid (∀ i (_ : i < k + 1) (hi' : i < hs.length), p hs[i] = false) := by
          intro i hi hi'
          by_cases hik : i = k
          · subst hik; rw [hs']; exact hp
          · exact HF.out i (by omega) hi'
        clear hp hs'
        go_wp2_with (go_at_call 126; refine HK.out.mono ?_; rintro e w2 ⟨rfl, hb2⟩)
        have hb3 := below_call hbr hb2 (Nat.le_refl _)
        go_roundw
        case rel => exact ⟨k + 1, by omega, by go_num, HF2, hb3⟩
        case measure => simp [intOf]; omega
      · rw [hp] at HK
        have HR : Hid (ixOf p hs = k) := ixOf_at _ hs k hkr (fun i hi => HF.out i hi (by omega)) (by rw [hs']; exact hp)
        have HA : Hid (hs.any p = true) := by
          have := HM.out
          rw [HR.out] at this
          rw [← this]
          exact Lib.hid (decide_eq_true (by omega))
        clear hp hs'
        go_wp2_with (go_at_call 126; refine HK.out.mono ?_; rintro e w2 ⟨rfl, hb2⟩)
        have hb3 := below_call hbr hb2 (Nat.le_refl _)
        go_ret
        exact ⟨ret_bool HA.out.symm, hb3⟩
    · obtain rfl : k = m := by omega
      have HR : Hid (ixOf p hs = -1) := ixOf_no _ hs (fun i hi => HF.out i (by rw [← HL.out]; exact hi) hi)
      have HA : Hid (hs.any p = false) := by
        have := HM.out
        rw [HR.out] at this
        rw [← this]
        exact Lib.hid rfl
      go_wp2
      go_ret
      exact ⟨ret_bool HA.out.symm, hbr⟩

set_option maxRecDepth 100000 in
theorem contQ_calls (b : Nat) (gl gk : Nat) (A2 : Option Addr) (m c2 : Nat) (hs : List ByteArray) (p : ByteArray → Bool) (w : World) (hr2 : Rd w b 1 (.slice A2 m c2) m (strsV hs))
    (HC : ∀ W s, Below w.heap.size w W → Calls Try.prog 100 #[.string s, .pointer (some ⟨gl, 0, none⟩), .pointer (some ⟨gk, 0, none⟩)] W (BRet (.bool (p s)) W)) :
    Calls Try.prog 98 #[.slice A2 m c2, .func (.func 100) #[] #[.pointer (some ⟨gl, 0, none⟩), .pointer (some ⟨gk, 0, none⟩)]] w (BRet (.bool (hs.any p)) w) := by
  obtain ⟨hl, hnc, hcm, hcells⟩ := strs_cells hr2
  unfold maxLen at hcm
  have HL := Lib.hid hl
  have HCL := Lib.hid hcells
  have HCC := Lib.hid HC
  have HM := Lib.hid (ixOf_mem p hs)
  clear hcells hl hr2 HC
  go_enter Try.func98, Try.ntmps98
  go_wp2
  go_loopw [8] (fun i wr => ∃ k : Nat, k ≤ m ∧ i = .int .i64 k ∧ Hid (∀ i (_ : i < k) (hi' : i < hs.length), p hs[i] = false) ∧ Below w.heap.size w wr) (fun i _ => m - (intOf i).toNat)
  case atStart => exact ⟨0, Nat.zero_le _, rfl, (fun i hi => absurd hi (by omega)), Below.refl _ _⟩
  case round =>
    obtain ⟨k, hk, rfl, HF, hbr⟩ := hrel
    by_cases hlt : k < m
    · have hkr : k < hs.length := by rw [HL.out]; exact hlt
      obtain ⟨g, o, hA, _, hcs⟩ := HCL.out (by omega)
      subst hA
      have c0 := below_cell hbr (hcs k hkr)
      obtain ⟨s, hs'⟩ : ∃ s, hs[k] = s := ⟨_, rfl⟩
      rw [hs'] at c0
      have HK := Lib.hid (HCC.out wr s hbr)
      clear hcs
      cases hp : p s
      · rw [hp] at HK
        have HF2 : Hid (∀ i (_ : i < k + 1) (hi' : i < hs.length), p hs[i] = false) := by
          intro i hi hi'
          by_cases hik : i = k
          · subst hik; rw [hs']; exact hp
          · exact HF.out i (by omega) hi'
        clear hp hs'
        go_wp2_with (go_at_call 100; refine HK.out.mono ?_; rintro e w2 ⟨rfl, hb2⟩)
        have hb3 := below_call hbr hb2 (Nat.le_refl _)
        go_roundw
        case rel => exact ⟨k + 1, by omega, by go_num, HF2, hb3⟩
        case measure => simp [intOf]; omega
      · rw [hp] at HK
        have HR : Hid (ixOf p hs = k) := ixOf_at _ hs k hkr (fun i hi => HF.out i hi (by omega)) (by rw [hs']; exact hp)
        have HA : Hid (hs.any p = true) := by
          have := HM.out
          rw [HR.out] at this
          rw [← this]
          exact Lib.hid (decide_eq_true (by omega))
        clear hp hs'
        go_wp2_with (go_at_call 100; refine HK.out.mono ?_; rintro e w2 ⟨rfl, hb2⟩)
        have hb3 := below_call hbr hb2 (Nat.le_refl _)
        go_ret
        exact ⟨ret_bool HA.out.symm, hb3⟩
    · obtain rfl : k = m := by omega
      have HR : Hid (ixOf p hs = -1) := ixOf_no _ hs (fun i hi => HF.out i (by rw [← HL.out]; exact hi) hi)
      have HA : Hid (hs.any p = false) := by
        have := HM.out
        rw [HR.out] at this
        rw [← this]
        exact Lib.hid rfl
      go_wp2
      go_ret
      exact ⟨ret_bool HA.out.symm, hbr⟩
end Go.Proofs.Ytlfhommeomchoaa
