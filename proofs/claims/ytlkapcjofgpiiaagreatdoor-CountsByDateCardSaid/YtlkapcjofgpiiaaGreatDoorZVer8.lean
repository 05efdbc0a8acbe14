/-
  The runs that are lost, as the reference says it: LostOf by a contract.
-/
import Derived.Test.YtlkapcjofgpiiaaGreatDoorZDelS
import Derived.Test.YtlkapcjofgpiiaaGreatDoorZVer2
import Derived.Deep.RegionHeld3
import Derived.BigRegion
import Derived.Deep.DrawnRows
import Derived.Test.YtlkapcjofgpiiaaGreatDoorZSq
import Derived.Test.YtlkapcjofgpiiaaGreatDoorZOwnSet
import Derived.Shelf.Strings.Builder1
import Derived.Shelf.Strings.Builder2
import Derived.Shelf.Strings.OnBuilder
import Derived.Shelf.Small.Strs
import Derived.Shelf.Strings.BuilderF
import Derived.Shelf.Strconv.Atoi
import Derived.Shelf.LaysM
import Derived.Shelf.Strings.Search1
import Derived.Shelf.Strings.Search2
import Derived.Shelf.Strings.Search3
import Derived.Shelf.Strings.Count
import Derived.Shelf.Strings.Shaped
import Derived.Shelf.Strings.Prefix
import Derived.Shelf.Strings.Split
import Derived.Shelf.Strings.SplitShaped
import Derived.Shelf.Slices.Turned
import Derived.Shelf.Slices.CompactS
import Derived.Test.YtlkapcjofgpiiaaGreatDoorProg
import Derived.Sort.Grow
import Derived.Test.YtlkapcjofgpiiaaGreatDoorZTid
import Derived.Test.YtlkapcjofgpiiaaGreatDoorZRatMake4
import Derived.Test.YtlkapcjofgpiiaaGreatDoorZVer7
import Derived.Test.YtlkapcjofgpiiaaGreatDoorZSlot1
import Derived.Deep.DeepCutAuto
namespace Go.Proofs.YtlkapcjofgpiiaaGreatDoor
open Go Go.RowKit TxtP
attribute [local go_sem ↓] Go.wp_at_zero Go.wp_at_succ

theorem mem_cnt (vs : List Vr) (x : Rn) (cat : ByteArray) (h : hasC vs cat = true) : memS (cntL vs x) cat = cntV vs cat x := by
  have inj : ∀ a b : ByteArray, a.toList = b.toList → a = b := fun a b h => by
    rw [← mkB_toList a, h, mkB_toList]
  have hc : cat ∈ catL vs := by
    rw [catL_mem]
    unfold hasC at h
    obtain ⟨v, hv, he⟩ := List.any_eq_true.1 h
    exact ⟨v, hv, inj _ _ (by simpa using he)⟩
  rw [cnt_cat, Bool.eq_iff_iff]
  unfold memS kptS eqS
  rw [List.any_eq_true]
  constructor
  · rintro ⟨y, hy, he⟩
    obtain ⟨_, hy2⟩ := List.mem_filter.1 hy
    have : cat = y := inj _ _ (by simpa using he)
    subst this
    simpa using hy2
  · intro hcv
    exact ⟨cat, List.mem_filter.2 ⟨hc, by simp [hcv]⟩, by simp⟩
end Go.Proofs.YtlkapcjofgpiiaaGreatDoor
/-
  CountsByDate in plain words: what a run counts for is told by the rule at its date; what is lost counted. No Go text is walked here.
-/
namespace Go.Proofs.YtlkapcjofgpiiaaGreatDoor
open Go Go.RowKit TxtP

theorem rulA_has : ∀ (vs : List Vr) (c : ByteArray) (t : Int) (out : ByteArray), rulA vs c t out = out ∨ hasC vs c = true
  | [], _, _, _ => .inl rfl
  | v :: vs, c, t, out => by
    rw [rulA]
    by_cases h : (v.c.toList == c.toList && decide (v.f ≤ t)) = true
    · refine .inr ?_
      rw [Bool.and_eq_true] at h
      unfold hasC
      rw [List.any_cons, h.1, Bool.true_or]
    · rw [if_neg h]
      rcases rulA_has vs c t out with h1 | h1
      · exact .inl h1
      · refine .inr ?_
        unfold hasC at h1 ⊢
        rw [List.any_cons, h1, Bool.or_true]
theorem cntV_has {vs : List Vr} {c : ByteArray} {x : Rn} (h : cntV vs c x = true) : hasC vs c = true := by
  unfold cntV at h
  rw [Bool.and_eq_true] at h
  rcases rulA_has vs c x.date ⟨#[]⟩ with h1 | h1
  · have h2 := h.1
    unfold rulAt at h2
    rw [h1, isE_nil] at h2
    cases h2
  · exact h1
theorem mem_cntA (vs : List Vr) (x : Rn) (c : ByteArray) : memS (cntL vs x) c = cntV vs c x := by
  cases h : cntV vs c x
  · cases hh : hasC vs c
    · rw [Bool.eq_false_iff]
      intro hm
      have hc := (memS_iff _ _).1 hm
      rw [cnt_cat] at hc
      obtain ⟨v, hv, rfl⟩ := (catL_mem vs c).1 (List.mem_filter.1 hc).1
      unfold hasC at hh
      rw [List.any_eq_false] at hh
      exact hh v hv (by simp)
    · rw [mem_cnt vs x c hh, h]
  · rw [mem_cnt vs x c (cntV_has h), h]
theorem leS_tot {a b : ByteArray} (h : leS a b = false) : leS b a = true := by
  unfold leS at *
  rcases bl_tri a b with ⟨h1, _, _⟩ | ⟨_, h2, _⟩ | ⟨_, _, h3⟩
  · rw [h1] at h; cases h
  · rw [h2, Bool.or_true] at h; cases h
  · rw [h3]; rfl
theorem runsG_ord : ∀ (xs : List Rn) (last : ByteArray), runsG last xs = 0 → (∀ x ∈ xs, leS x.id last = false) ∧ xs.Pairwise (fun a b => leS b.id a.id = false)
  | [], _, _ => ⟨fun x hx => (by cases hx), List.Pairwise.nil⟩
  | y :: ys, last, h => by
    rw [runsG] at h
    by_cases h1 : runF y = 0
    · rw [if_pos h1] at h
      by_cases h2 : leS y.id last = true
      · rw [if_pos h2] at h; cases h
      · rw [if_neg h2] at h
        have h2 : leS y.id last = false := by simpa using h2
        obtain ⟨ih1, ih2⟩ := runsG_ord ys _ h
        refine ⟨fun x hx => ?_, List.Pairwise.cons ih1 ih2⟩
        rcases List.mem_cons.1 hx with rfl | hx
        · exact h2
        · rw [Bool.eq_false_iff]
          intro hle
          have := ih1 x hx
          rw [leS_trans hle (leS_tot h2)] at this
          cases this
    · rw [if_neg h1] at h; exact absurd h h1
theorem lost_at (vs : List Vr) (xs : List Rn) (c id : ByteArray) (h : runsF xs = 0) (hm : id ∈ lostL vs xs c) : ∃ (k : Nat) (hk : k < xs.length), ixOf (fun y : Rn => y.id.toList == id.toList) xs = k ∧ cntV vs c xs[k] = true := by
  unfold lostL at hm
  obtain ⟨x, hx, hm⟩ := List.mem_flatMap.1 hm
  split at hm
  · rename_i hb
    rw [Bool.and_eq_true] at hb
    obtain rfl : id = x.id := by simpa using hm
    obtain ⟨k, hk, rfl⟩ := List.getElem_of_mem hx
    refine ⟨k, hk, ?_, hb.1⟩
    have hp := (runsG_ord xs ⟨#[]⟩ (by unfold runsF at h; split at h; cases h; exact h)).2
    refine ixOf_at _ xs k hk (fun i hi => ?_) (by simp)
    have := List.pairwise_iff_getElem.1 hp i k (by omega) hk hi
    rw [beq_eq_false_iff_ne]
    intro e
    unfold leS at this
    rw [e, beq_self_eq_true, Bool.or_true] at this
    cases this
  · cases hm
/-- what Lost says of a right category -/
theorem lostE_right {vs : List Vr} {xs : List Rn} {c : ByteArray} (hv : versF vs = 0) (hk : keyB c.data.toList = true) (h : runsF xs = 0) : lostE vs xs c = if hasC vs c = true then 0 else 8 := by
  unfold lostE
  rw [if_pos hv, if_pos hk, if_pos h]
theorem cntE_right {vs : List Vr} {x : Rn} (hv : versF vs = 0) (h : runF x = 0) : cntE vs x = 0 := by
  unfold cntE
  rw [if_pos hv, h]
theorem runF_date {x : Rn} (h : runF x = 0) : momB x.date = true := by
  unfold runF at h
  split at h
  · split at h
    · cases h
    · rename_i h2
      simp only [Bool.or_eq_true, not_or] at h2
      simpa using h2.2
  · cases h
theorem rlE_right {vs : List Vr} {c : ByteArray} {t : Int} (hv : versF vs = 0) (hk : keyB c.data.toList = true) (ht : momB t = true) : rlE vs c t = 0 := by
  unfold rlE
  rw [if_pos hv, if_pos hk, if_pos ht]
end Go.Proofs.YtlkapcjofgpiiaaGreatDoor
/-
  slices.IndexFunc of runs at the law's closure by a contract. (Printed by gen_cbd1.py.)
-/
namespace Go.Proofs.YtlkapcjofgpiiaaGreatDoor
open Go Go.RowKit

set_option maxRecDepth 100000 in
theorem ixRun1_calls (gb : Nat) (id : ByteArray) (x : Rn) (w : World) (hg : Blk w gb 9 #[.string id]) :
    Calls Tryz.prog 16 #[.agg #[.string x.id, .string x.who, .int .i64 x.time, .int .i64 x.date, .slice x.fa x.fs.length x.fc], .pointer (some ⟨gb, 0, none⟩)] w (BRet (.bool (x.id.toList == id.toList)) w) := by
  have hb : Below w.heap.size w (w.alloc (.cells #[.string x.id, .string x.who, .int .i64 x.time, .int .i64 x.date, .slice x.fa x.fs.length x.fc] 36)) := (Below.refl _ _).alloc (Nat.le_refl _) _
  have g0 := hg.cell 0
  have gl := hg.lt
  obtain ⟨xi, xw, xt, xd, xfa, xfc, xfs⟩ := x
  simp only at hb ⊢
  obtain ⟨m, hm⟩ : ∃ m, xfs.length = m := ⟨_, rfl⟩
  rw [hm] at hb ⊢
  clear hg hm
  go_enter Tryz.func16, Tryz.ntmps16
  go_wp2_with fail
  go_ret
  exact ⟨rfl, hb⟩
set_option maxRecDepth 100000 in
theorem ixRun_calls (b gb : Nat) (id : ByteArray) (A2 : Option Addr) (m c2 : Nat) (hs : List Rn) (w : World) (hg : Blk w gb 9 #[.string id]) (hr2 : Rd w b 5 (.slice A2 m c2) m (hs.flatMap rnC)) :
    Calls Tryz.prog 15 #[.slice A2 m c2, .func (.func 16) #[] #[.pointer (some ⟨gb, 0, none⟩)]] w (BRet (.int .i64 (ixOf (fun y : Rn => y.id.toList == id.toList) hs)) w) := by
  obtain ⟨hl, hnc, hcm, hcells⟩ := hr2.cells rnC_len (by omega)
  unfold maxLen at hcm
  obtain ⟨p, hpp⟩ : ∃ p : Rn → Bool, (fun y : Rn => y.id.toList == id.toList) = p := ⟨_, rfl⟩
  have HCC : Hid (∀ W (x : Rn), Below w.heap.size w W → Calls Tryz.prog 16 #[.agg #[.string x.id, .string x.who, .int .i64 x.time, .int .i64 x.date, .slice x.fa x.fs.length x.fc], .pointer (some ⟨gb, 0, none⟩)] W (BRet (.bool (p x)) W)) := fun W x hW => by
    rw [← hpp]
    exact ixRun1_calls gb id x W (hg.below hW)
  have HL := Lib.hid hl
  have HCL := Lib.hid hcells
  rw [hpp]
  clear hcells hl hr2 hg hpp
  go_enter Tryz.func15, Tryz.ntmps15
  go_wp2
  go_loopw [8] (fun i wr => ∃ k : Nat, k ≤ m ∧ i = .int .i64 k ∧ Hid (∀ i (_ : i < k) (hi' : i < hs.length), p hs[i] = false) ∧ Below w.heap.size w wr) (fun i _ => m - (intOf i).toNat)
  case atStart => exact ⟨0, Nat.zero_le _, rfl, (fun i hi => absurd hi (by omega)), Below.refl _ _⟩
  case round =>
    obtain ⟨k, hk, rfl, HF, hbr⟩ := hrel
    by_cases hlt : k < m
    · have hkr : k < hs.length := by rw [HL.out]; exact hlt
      obtain ⟨g, o, hA, _, hcs⟩ := HCL.out (by omega)
      subst hA
      have c0 := below_cell hbr (hcs k hkr 0 (by omega))
      have c1 := below_cell hbr (hcs k hkr 1 (by omega))
      have c2 := below_cell hbr (hcs k hkr 2 (by omega))
      have c3 := below_cell hbr (hcs k hkr 3 (by omega))
      have c4 := below_cell hbr (hcs k hkr 4 (by omega))
      obtain ⟨s, hs'⟩ : ∃ s, hs[k] = s := ⟨_, rfl⟩
      rw [hs'] at c0 c1 c2 c3 c4
      replace c0 : wr.cell? ⟨g, o + k * 5, none⟩ = some (.string s.id) := c0
      replace c1 : wr.cell? ⟨g, o + k * 5 + 1, none⟩ = some (.string s.who) := c1
      replace c2 : wr.cell? ⟨g, o + k * 5 + 2, none⟩ = some (.int .i64 s.time) := c2
      replace c3 : wr.cell? ⟨g, o + k * 5 + 3, none⟩ = some (.int .i64 s.date) := c3
      replace c4 : wr.cell? ⟨g, o + k * 5 + 4, none⟩ = some (.slice s.fa s.fs.length s.fc) := c4
      have HK := Lib.hid (HCC.out wr s hbr)
      clear hcs
      cases hp : p s
      · rw [hp] at HK
        have HF2 : Hid (∀ i (_ : i < k + 1) (hi' : i < hs.length), p hs[i] = false) := by
          intro i hi hi'
          by_cases hik : i = k
          · subst hik; rw [hs']; exact hp
          · exact HF.out i (by omega) hi'
        clear hp hs'
        go_wp2_with (go_at_call 16; refine HK.out.mono ?_; rintro e w2 ⟨rfl, hb2⟩)
        have hb3 := below_call hbr hb2 (Nat.le_refl _)
        go_roundw
        case rel => exact ⟨k + 1, by omega, by go_num, HF2, hb3⟩
        case measure => simp [intOf]; omega
      · rw [hp] at HK
        have HR : Hid (ixOf p hs = k) := ixOf_at _ hs k hkr (fun i hi => HF.out i hi (by omega)) (by rw [hs']; exact hp)
        clear hp hs'
        go_wp2_with (go_at_call 16; refine HK.out.mono ?_; rintro e w2 ⟨rfl, hb2⟩)
        have hb3 := below_call hbr hb2 (Nat.le_refl _)
        go_ret
        exact ⟨ret_int HR.out.symm, hb3⟩
    · obtain rfl : k = m := by omega
      have HR : Hid (ixOf p hs = -1) := ixOf_no _ hs (fun i hi => HF.out i (by rw [← HL.out]; exact hi) hi)
      go_wp2
      go_ret
      exact ⟨ret_int HR.out.symm, hbr⟩
end Go.Proofs.YtlkapcjofgpiiaaGreatDoor
