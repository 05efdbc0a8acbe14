/-
  Two laws that many texts want: cells set above a mark; where the first one lies. No Go text is named here.
-/
import Derived.Test.YtlkapcjofgpiiaaGreatDoorZSq
import Derived.Test.YtlkapcjofgpiiaaGreatDoorZSlotPure
import Derived.Test.YtlkapcjofgpiiaaGreatDoorZSlot1
import Derived.Deep.DeepCutAuto
import Derived.Deep.MidRow
import Derived.Test.YtlkapcjofgpiiaaGreatDoorZHdq3
import Derived.Test.YtlkapcjofgpiiaaGreatDoorZVer2
namespace Go.Proofs.YtlkapcjofgpiiaaGreatDoor
open Go Go.RowKit

theorem ixOf_split {α : Type} (p : α → Bool) : ∀ l : List α, (ixOf p l = -1 ∧ ∀ i (hi : i < l.length), p l[i] = false) ∨ (∃ k : Nat, ∃ hk : k < l.length, ixOf p l = k ∧ p l[k] = true ∧ ∀ i (hi : i < k), p (l[i]'(Nat.lt_trans hi hk)) = false)
  | [] => .inl ⟨rfl, by intro i hi; simp at hi⟩
  | a :: l => by
    cases hp : p a
    · rcases ixOf_split p l with ⟨h1, h2⟩ | ⟨k, hk, h1, h2, h3⟩
      · refine .inl ⟨ixOf_no p _ (fun i hi => ?_), fun i hi => ?_⟩
        all_goals
          cases i with
          | zero => exact hp
          | succ i => exact h2 i (by simpa using hi)
      · refine .inr ⟨k + 1, by simpa using hk, ?_, by simpa using h2, ?_⟩
        · refine ixOf_at p (a :: l) (k + 1) (by simpa using hk) (fun i hi => ?_) (by simpa using h2)
          cases i with
          | zero => exact hp
          | succ i => exact h3 i (by omega)
        · intro i hi
          cases i with
          | zero => exact hp
          | succ i => exact h3 i (by omega)
    · exact .inr ⟨0, by simp, ixOf_at p (a :: l) 0 (by simp) (by intro i hi; omega) hp, hp, by intro i hi; omega⟩
end Go.Proofs.YtlkapcjofgpiiaaGreatDoor
/-
  What slices.DeleteFunc of strings leaves, and the laws of a row of strings that it asks for. (Printed by gen_dels.py.)
-/
namespace Go.Proofs.YtlkapcjofgpiiaaGreatDoor
open Go Go.RowKit

def s1C (x : ByteArray) : List Value := [.string x]
theorem s1C_len : ∀ x, (s1C x).length = 1 := fun _ => rfl
theorem strsV_flat : ∀ (ys : List ByteArray), strsV ys = ys.flatMap s1C
  | [] => rfl
  | y :: ys => by
    rw [List.flatMap_cons, ← strsV_flat ys]
    rfl
def kptS (p : ByteArray → Bool) (ys : List ByteArray) : List ByteArray := ys.filter (fun x => !p x)
theorem kptS_step (p : ByteArray → Bool) (ys : List ByteArray) (j : Nat) (hj : j < ys.length) : kptS p (ys.take (j + 1)) = if p ys[j] = true then kptS p (ys.take j) else kptS p (ys.take j) ++ [ys[j]] := by
  unfold kptS
  rw [List.take_succ_eq_append_getElem hj, List.filter_append]
  cases h : p ys[j]
  · rw [if_neg (by decide), List.filter_cons, h]
    rfl
  · rw [if_pos rfl, List.filter_cons, h]
    simp
structure DlS (p : ByteArray → Bool) (ys : List ByteArray) (i j : Nat) (zs : List ByteArray) : Prop where
  len : zs.length = ys.length
  cnt : (kptS p (ys.take j)).length = i
  lo : ∀ t, t < i → zs[t]? = (kptS p (ys.take j))[t]?
  hi : ∀ t, j ≤ t → zs[t]? = ys[t]?
theorem DlS.skip {p : ByteArray → Bool} {ys zs : List ByteArray} {i j : Nat} (h : DlS p ys i j zs) (hj : j < ys.length) (hp : p ys[j] = true) : DlS p ys i (j + 1) zs := by
  have e : kptS p (ys.take (j + 1)) = kptS p (ys.take j) := by rw [kptS_step p ys j hj, if_pos hp]
  exact ⟨h.len, by rw [e]; exact h.cnt, by rw [e]; exact h.lo, fun t ht => h.hi t (by omega)⟩
theorem DlS.keep {p : ByteArray → Bool} {ys zs : List ByteArray} {i j : Nat} (h : DlS p ys i j zs) (hj : j < ys.length) (hp : p ys[j] = false) (hij : i < j) : DlS p ys (i + 1) (j + 1) (zs.set i ys[j]) := by
  have e : kptS p (ys.take (j + 1)) = kptS p (ys.take j) ++ [ys[j]] := by rw [kptS_step p ys j hj, if_neg (by rw [hp]; decide)]
  refine ⟨by rw [List.length_set]; exact h.len, by rw [e, List.length_append, h.cnt]; rfl, fun t ht => ?_, fun t ht => ?_⟩
  · rw [e]
    by_cases hti : t = i
    · subst hti
      rw [List.getElem?_set_self (by rw [h.len]; omega), List.getElem?_append_right (by rw [h.cnt]; exact Nat.le_refl _), h.cnt, Nat.sub_self]
      rfl
    · rw [List.getElem?_set_ne (by omega), List.getElem?_append_left (by rw [h.cnt]; omega)]
      exact h.lo t (by omega)
  · rw [List.getElem?_set_ne (by omega)]
    exact h.hi t (by omega)
theorem kptS_all {p : ByteArray → Bool} {ys : List ByteArray} : ∀ k, k ≤ ys.length → (∀ i (_ : i < k) (hi : i < ys.length), p ys[i] = false) → kptS p (ys.take k) = ys.take k
  | 0, _, _ => rfl
  | k + 1, hk, h => by
    rw [kptS_step p ys k hk, if_neg (by rw [h k (by omega) hk]; decide), kptS_all k (by omega) (fun i hi hi' => h i (by omega) hi'), ← List.take_succ_eq_append_getElem]
theorem s_store {w0 W : World} {L : List Rsc} {g n c i : Nat} {zs : List ByteArray} (y : ByteArray) (h : Sq w0 W (rOwn w0.heap.size 9 1 (.slice (some ⟨g, 0, none⟩) n c) n (zs.flatMap s1C) :: L)) (hn : zs.length = n) (hi : i < n) :
    Sq w0 (W.setCell ⟨g, i, none⟩ (.string y)) (rOwn w0.heap.size 9 1 (.slice (some ⟨g, 0, none⟩) n c) n ((zs.set i y).flatMap s1C) :: L) := by
  subst hn
  have h1 := h.field s1C 1 s1C_len i 0 hi (by omega) (.string y) y rfl
  rw [List.length_set, Nat.mul_one, Nat.add_zero] at h1
  exact h1
theorem run_clear_s (w : World) (b o n c : Nat) (hn : 0 < n) (hc : ∀ j, j < n → (w.cell? ⟨b, o + j, none⟩).isSome = true) (hf : ∀ j, j < n → w.frozen? ⟨b, o + j, none⟩ = false) :
    ∃ vs : List Value, (∀ ty, (Builtin.clear_ #[37] ty #[.slice (some ⟨b, o, none⟩) n c]).run Tryz.prog w = .ok (.tuple #[]) (w.setCells b o vs)) ∧ vs.length = n := by
  have hv : ∀ w, (zeroValue 9).run Tryz.prog w = .ok (.string ⟨#[]⟩) w := fun w => by kernel_rfl
  obtain ⟨vs, hvs⟩ : ∃ vs, (Builtin.zeroCells #[.string ⟨#[]⟩] n).toList = vs := ⟨_, rfl⟩
  have hlen : vs.length = n := by rw [← hvs]; simp [Builtin.zeroCells]
  have h1 : ∀ v ∈ vs, v.oneCell' = true := by
    intro v hv
    rw [← hvs] at hv
    simp [Builtin.zeroCells] at hv
    obtain ⟨i, _, rfl⟩ := hv
    rw [show i % 1 = 0 by omega]
    rfl
  have hst := run_storeCells_cells (P := Tryz.prog) b o vs 0 w (by simpa [hlen] using hc) (by simpa [hlen] using hf) h1
  simp only [Nat.add_zero] at hst
  refine ⟨vs, fun ty => ?_, hlen⟩
  obtain ⟨m, rfl⟩ : ∃ m, n = m + 1 := ⟨n - 1, by omega⟩
  simp [Builtin.clear_, run_underlying Tryz.underlying37, hv, Value.cells, hvs, hst, Result.andThen]
theorem grown_setCells (g : Nat) : ∀ (vs : List Value) (o : Nat) (W : World), W.grownBy (W.setCells g o vs) (some g)
  | [], o, W => ⟨rfl, rfl, rfl, Nat.le_refl _, fun _ _ _ => rfl⟩
  | v :: vs, o, W => by
    have h1 : W.grownBy (W.setCell ⟨g, o, none⟩ v) (some g) := ⟨rfl, rfl, rfl, by simp [World.setCell], fun k _ hk => Below.heap_setCell W ⟨g, o, none⟩ v k (fun e => hk (by rw [e]))⟩
    have h2 := grown_setCells g vs (o + 1) (W.setCell ⟨g, o, none⟩ v)
    exact ⟨h2.os.trans h1.os, h2.tape.trans h1.tape, h2.output.trans h1.output, Nat.le_trans h1.size h2.size, fun k hk hn => (h2.block k (Nat.lt_of_lt_of_le hk h1.size) hn).trans (h1.block k hk hn)⟩
/-- a row of one's own that is no longer asked for -/
def rGone (g : Nat) : Rsc := ⟨fun _ => True, fun k => k = g⟩
theorem Sq.clear_ {w0 W W' : World} {L : List Rsc} {e : TypeId} {g n c : Nat} {xs : List Value} (h : Sq w0 W (rOwn w0.heap.size e 1 (.slice (some ⟨g, 0, none⟩) n c) n xs :: L)) (hg : W.grownBy W' (some g)) : Sq w0 W' L := by
  have hlt := h.hp.new _ (List.mem_cons_self ..) g rfl
  exact (h.turn (row := some g) (r' := rGone g) hg (fun k hk => hk) trivial (fun _ _ _ _ => trivial) (fun k hk => by
    obtain rfl : k = g := hk
    exact ⟨.inl rfl, Nat.lt_of_lt_of_le hlt.2 hg.size⟩)).tail
/-- what DeleteFunc answers -/
def DelSq (w0 : World) (b : Nat) (ys : List ByteArray) (L : List Rsc) (e : Ending) (w' : World) : Prop :=
  ∃ A' m c', e = .returned (.slice A' m c') ∧ m = ys.length ∧ Rd w' b 1 (.slice A' m c') m (strsV ys) ∧ Sq w0 w' L
theorem DelSq.st {w0 w' : World} {b : Nat} {ys : List ByteArray} {L : List Rsc} {e : Ending} (h : DelSq w0 b ys L e w') : ∃ A' m c', e = .returned (.slice A' m c') ∧ m = ys.length ∧ Rd w' b 1 (.slice A' m c') m (strsV ys) ∧ Below w0.heap.size w0 w' := by
  obtain ⟨A', m, c', h1, h2, h3, h4⟩ := h
  exact ⟨A', m, c', h1, h2, h3, h4.below⟩
end Go.Proofs.YtlkapcjofgpiiaaGreatDoor
/-
  The categories of versions, each once, of which those stay that a run counts for: the program's answer and the reference's are one. No Go text is walked here.
-/
namespace Go.Proofs.YtlkapcjofgpiiaaGreatDoor
open Go Go.RowKit TxtP

def mkB (l : List UInt8) : ByteArray := ⟨l.toArray⟩
theorem mkB_toList (c : ByteArray) : mkB c.toList = c := by
  rw [Lib.toList_data]
  cases c
  simp [mkB]
/-- all categories of versions, each once (the reference's) -/
def catA (vs : List Vr) : List (List UInt8) := Lib.compact (vs.map fun v => v.c.toList)
def catL (vs : List Vr) : List ByteArray := (catA vs).map mkB
theorem cat_upto (vs : List Vr) (x : Rn) : ∀ m, m ≤ vs.length →
    cntL vs x = (((Lib.compactUpTo (vs.map fun v => v.c.toList).toArray m).map mkB).filter fun c => cntV vs c x) ++ cntG vs x (lastV vs m) (vs.drop m)
  | 0, _ => by simp [Lib.compactUpTo, cntL, lastV]
  | m + 1, hm => by
    rw [cat_upto vs x m (by omega), cntG_step vs x vs m hm, Lib.compactUpTo_succ, List.map_append, List.filter_append, List.append_assoc]
    congr 1
    congr 1
    have g0 : (vs.map fun v => v.c.toList).toArray[m]! = vs[m].c.toList := by
      rw [getElem!_pos _ _ (by simp; omega)]
      simp
    have hk : Lib.keeps (vs.map fun v => v.c.toList).toArray m = fstO (lastV vs m) vs[m] := by
      unfold Lib.keeps
      cases m with
      | zero => simp [lastV, fstO]
      | succ j =>
        have hj : j < vs.length := by omega
        have g1 : (vs.map fun v => v.c.toList).toArray[j]! = vs[j].c.toList := by
          rw [getElem!_pos _ _ (by simp; omega)]
          simp
        rw [g0, Nat.add_sub_cancel, g1]
        simp [lastV, hj, fstO]
        by_cases h : vs[j].c.toList = vs[j + 1].c.toList
        · simp [h]
        · have h2 : ¬ vs[j + 1].c.toList = vs[j].c.toList := fun e => h e.symm
          simp [h, h2]
    rw [hk, g0]
    cases h1 : fstO (lastV vs m) vs[m]
    · simp
    · cases h2 : cntV vs vs[m].c x <;> simp [mkB_toList, h2]
/-- what Counts answers is what CountsFor answers -/
theorem cnt_cat (vs : List Vr) (x : Rn) : cntL vs x = kptS (fun c => !cntV vs c x) (catL vs) := by
  rw [cat_upto vs x vs.length (Nat.le_refl _), List.drop_length]
  unfold kptS catL catA Lib.compact
  rw [List.length_map]
  simp [cntG]
theorem catA_upto (vs : List Vr) : ∀ m, m ≤ vs.length → ∀ l, l ∈ Lib.compactUpTo (vs.map fun v => v.c.toList).toArray m ↔ ∃ v ∈ vs.take m, v.c.toList = l
  | 0, _ => by simp [Lib.compactUpTo]
  | m + 1, hm => fun l => by
    have ih := catA_upto vs m (by omega) l
    have g0 : (vs.map fun v => v.c.toList).toArray[m]! = vs[m].c.toList := by
      rw [getElem!_pos _ _ (by simp; omega)]
      simp
    rw [Lib.compactUpTo_succ, List.mem_append, ih, List.take_succ_eq_append_getElem hm]
    by_cases hk : Lib.keeps (vs.map fun v => v.c.toList).toArray m = true
    · rw [if_pos hk, g0]
      simp only [List.mem_append, List.mem_singleton]
      constructor
      · rintro (⟨v, hv, h⟩ | h)
        · exact ⟨v, .inl hv, h⟩
        · exact ⟨vs[m], .inr rfl, h.symm⟩
      · rintro ⟨v, hv | rfl, h⟩
        · exact .inl ⟨v, hv, h⟩
        · exact .inr h.symm
    · rw [if_neg hk]
      simp only [List.mem_append, List.mem_singleton, List.not_mem_nil, or_false]
      constructor
      · rintro ⟨v, hv, h⟩
        exact ⟨v, .inl hv, h⟩
      · rintro ⟨v, hv | rfl, h⟩
        · exact ⟨v, hv, h⟩
        · unfold Lib.keeps at hk
          rw [decide_eq_true_eq] at hk
          cases m with
          | zero => exact absurd (.inl rfl) hk
          | succ j =>
            have hj : j < vs.length := by omega
            have g1 : (vs.map fun v => v.c.toList).toArray[j]! = vs[j].c.toList := by
              rw [getElem!_pos _ _ (by simp; omega)]
              simp
            rw [g0, Nat.add_sub_cancel, g1] at hk
            have he : vs[j + 1].c.toList = vs[j].c.toList := Decidable.byContradiction fun h => hk (.inr h)
            refine ⟨vs[j], ?_, by rw [← he, h]⟩
            rw [List.take_succ_eq_append_getElem hj]
            exact List.mem_append.2 (.inr (List.mem_singleton.2 rfl))
theorem catL_mem (vs : List Vr) (c : ByteArray) : c ∈ catL vs ↔ ∃ v ∈ vs, v.c = c := by
  unfold catL catA Lib.compact
  rw [List.length_map, List.mem_map]
  constructor
  · rintro ⟨l, hl, rfl⟩
    obtain ⟨v, hv, rfl⟩ := (catA_upto vs vs.length (Nat.le_refl _) l).1 hl
    rw [List.take_length] at hv
    exact ⟨v, hv, (mkB_toList _).symm⟩
  · rintro ⟨v, hv, rfl⟩
    exact ⟨v.c.toList, (catA_upto vs vs.length (Nat.le_refl _) _).2 ⟨v, by rw [List.take_length]; exact hv, rfl⟩, mkB_toList _⟩
theorem cat_len (vs : List Vr) : (catL vs).length ≤ vs.length := by
  unfold catL catA Lib.compact Lib.compactUpTo
  rw [List.length_map, List.length_map]
  refine Nat.le_trans (List.length_filter_le _ _) ?_
  rw [List.length_range, List.length_map]
  exact Nat.le_refl _
def endT : Int := 345686400000
/-- what is lost: runs that count, but not by the last rule -/
def lostL (vs : List Vr) (xs : List Rn) (c : ByteArray) : List ByteArray :=
  xs.flatMap fun x => if (cntV vs c x && !(!isE (rulAt vs c endT) && hldV numF (rulAt vs c endT) x)) = true then [x.id] else []
/-- is there a version of this category? -/
def hasC (vs : List Vr) (c : ByteArray) : Bool := vs.any fun v => v.c.toList == c.toList
def lostE (vs : List Vr) (xs : List Rn) (c : ByteArray) : Int :=
  if versF vs = 0 then if keyB c.data.toList = true then if runsF xs = 0 then if hasC vs c = true then 0 else 8 else runsF xs else 5 else versF vs
end Go.Proofs.YtlkapcjofgpiiaaGreatDoor
/-
  slices.ContainsFunc of versions at the law's closure, by a contract. (Printed by gen_ver5.py.)
-/
namespace Go.Proofs.YtlkapcjofgpiiaaGreatDoor
open Go Go.RowKit

set_option maxRecDepth 100000 in
theorem hasW1_calls (gb : Nat) (cat : ByteArray) (v : Vr) (w : World) (hg : Blk w gb 9 #[.string cat]) :
    Calls Tryz.prog 26 #[.agg #[.string v.c, .int .i64 v.f, .string v.r], .pointer (some ⟨gb, 0, none⟩)] w (BRet (.bool (v.c.toList == cat.toList)) w) := by
  have hb : Below w.heap.size w (w.alloc (.cells #[.string v.c, .int .i64 v.f, .string v.r] 59)) := (Below.refl _ _).alloc (Nat.le_refl _) _
  have g0 := hg.cell 0
  have gl := hg.lt
  clear hg
  go_enter Tryz.func26, Tryz.ntmps26
  go_wp2_with fail
  go_ret
  exact ⟨rfl, hb⟩
set_option maxRecDepth 100000 in
theorem hasW_calls (b gb : Nat) (cat : ByteArray) (A2 : Option Addr) (m c2 : Nat) (hs : List Vr) (w : World) (hg : Blk w gb 9 #[.string cat]) (hr2 : Rd w b 3 (.slice A2 m c2) m (hs.flatMap vrC)) :
    Calls Tryz.prog 25 #[.slice A2 m c2, .func (.func 26) #[] #[.pointer (some ⟨gb, 0, none⟩)]] w (BRet (.bool (hasC hs cat)) w) := by
  obtain ⟨hl, hnc, hcm, hcells⟩ := hr2.cells vrC_len (by omega)
  unfold maxLen at hcm
  have HB : Hid (hasC hs cat = hs.any (fun x : Vr => x.c.toList == cat.toList)) := rfl
  rw [HB.out]
  obtain ⟨p, hpp⟩ : ∃ p : Vr → Bool, (fun x : Vr => x.c.toList == cat.toList) = p := ⟨_, rfl⟩
  have HCC : Hid (∀ W (x : Vr), Below w.heap.size w W → Calls Tryz.prog 26 #[.agg #[.string x.c, .int .i64 x.f, .string x.r], .pointer (some ⟨gb, 0, none⟩)] W (BRet (.bool (p x)) W)) := fun W x hW => by
    rw [← hpp]
    exact hasW1_calls gb cat x W (hg.below hW)
  have HL := Lib.hid hl
  have HCL := Lib.hid hcells
  rw [hpp]
  have HM := Lib.hid (ixOf_mem p hs)
  clear hcells hl hr2 hg hpp HB
  go_enter Tryz.func25, Tryz.ntmps25
  go_wp2
  go_loopw [8] (fun i wr => ∃ k : Nat, k ≤ m ∧ i = .int .i64 k ∧ Hid (∀ i (_ : i < k) (hi' : i < hs.length), p hs[i] = false) ∧ Below w.heap.size w wr) (fun i _ => m - (intOf i).toNat)
  case atStart => exact ⟨0, Nat.zero_le _, rfl, (fun i hi => absurd hi (by omega)), Below.refl _ _⟩
  case round =>
    obtain ⟨k, hk, rfl, HF, hbr⟩ := hrel
    by_cases hlt : k < m
    · have hkr : k < hs.length := by rw [HL.out]; exact hlt
      obtain ⟨g, o, hA, _, hcs⟩ := HCL.out (by omega)
      subst hA
      have c0 := below_cell hbr (hcs k hkr 0 (by omega))
      have c1 := below_cell hbr (hcs k hkr 1 (by omega))
      have c2 := below_cell hbr (hcs k hkr 2 (by omega))
      obtain ⟨s, hs'⟩ : ∃ s, hs[k] = s := ⟨_, rfl⟩
      rw [hs'] at c0 c1 c2
      replace c0 : wr.cell? ⟨g, o + k * 3, none⟩ = some (.string s.c) := c0
      replace c1 : wr.cell? ⟨g, o + k * 3 + 1, none⟩ = some (.int .i64 s.f) := c1
      replace c2 : wr.cell? ⟨g, o + k * 3 + 2, none⟩ = some (.string s.r) := c2
      have HK := Lib.hid (HCC.out wr s hbr)
      clear hcs
      cases hp : p s
      · rw [hp] at HK
        have HF2 : Hid (∀ i (_ : i < k + 1) (hi' : i < hs.length), p hs[i] = false) := by
          intro i hi hi'
          by_cases hik : i = k
          · subst hik; rw [hs']; exact hp
          · exact HF.out i (by omega) hi'
        clear hp hs'
        go_wp2_with (go_at_call 26; refine HK.out.mono ?_; rintro e w2 ⟨rfl, hb2⟩)
        have hb3 := below_call hbr hb2 (Nat.le_refl _)
        go_roundw
        case rel => exact ⟨k + 1, by omega, by go_num, HF2, hb3⟩
        case measure => simp [intOf]; omega
      · rw [hp] at HK
        have HR : Hid (ixOf p hs = k) := ixOf_at _ hs k hkr (fun i hi => HF.out i hi (by omega)) (by rw [hs']; exact hp)
        have HA : Hid (hs.any p = true) := by
          have := HM.out
          rw [HR.out] at this
          rw [← this]
          exact Lib.hid (decide_eq_true (by omega))
        clear hp hs'
        go_wp2_with (go_at_call 26; refine HK.out.mono ?_; rintro e w2 ⟨rfl, hb2⟩)
        have hb3 := below_call hbr hb2 (Nat.le_refl _)
        go_ret
        exact ⟨ret_bool HA.out.symm, hb3⟩
    · obtain rfl : k = m := by omega
      have HR : Hid (ixOf p hs = -1) := ixOf_no _ hs (fun i hi => HF.out i (by rw [← HL.out]; exact hi) hi)
      have HA : Hid (hs.any p = false) := by
        have := HM.out
        rw [HR.out] at this
        rw [← this]
        exact Lib.hid rfl
      go_wp2
      go_ret
      exact ⟨ret_bool HA.out.symm, hbr⟩
end Go.Proofs.YtlkapcjofgpiiaaGreatDoor
/-
  slices.ContainsFunc of versions at rule.Lost's closure, by a contract. (Printed by gen_ver5.py.)
-/
namespace Go.Proofs.YtlkapcjofgpiiaaGreatDoor
open Go Go.RowKit

set_option maxRecDepth 100000 in
theorem hasL1_calls (gb : Nat) (cat : ByteArray) (v : Vr) (w : World) (hg : Blk w gb 9 #[.string cat]) :
    Calls Tryz.prog 56 #[.agg #[.string v.c, .int .i64 v.f, .string v.r], .pointer (some ⟨gb, 0, none⟩)] w (BRet (.bool (v.c.toList == cat.toList)) w) := by
  have hb : Below w.heap.size w (w.alloc (.cells #[.string v.c, .int .i64 v.f, .string v.r] 59)) := (Below.refl _ _).alloc (Nat.le_refl _) _
  have g0 := hg.cell 0
  have gl := hg.lt
  clear hg
  go_enter Tryz.func56, Tryz.ntmps56
  go_wp2_with fail
  go_ret
  exact ⟨rfl, hb⟩
set_option maxRecDepth 100000 in
theorem hasL_calls (b gb : Nat) (cat : ByteArray) (A2 : Option Addr) (m c2 : Nat) (hs : List Vr) (w : World) (hg : Blk w gb 9 #[.string cat]) (hr2 : Rd w b 3 (.slice A2 m c2) m (hs.flatMap vrC)) :
    Calls Tryz.prog 25 #[.slice A2 m c2, .func (.func 56) #[] #[.pointer (some ⟨gb, 0, none⟩)]] w (BRet (.bool (hasC hs cat)) w) := by
  obtain ⟨hl, hnc, hcm, hcells⟩ := hr2.cells vrC_len (by omega)
  unfold maxLen at hcm
  have HB : Hid (hasC hs cat = hs.any (fun x : Vr => x.c.toList == cat.toList)) := rfl
  rw [HB.out]
  obtain ⟨p, hpp⟩ : ∃ p : Vr → Bool, (fun x : Vr => x.c.toList == cat.toList) = p := ⟨_, rfl⟩
  have HCC : Hid (∀ W (x : Vr), Below w.heap.size w W → Calls Tryz.prog 56 #[.agg #[.string x.c, .int .i64 x.f, .string x.r], .pointer (some ⟨gb, 0, none⟩)] W (BRet (.bool (p x)) W)) := fun W x hW => by
    rw [← hpp]
    exact hasL1_calls gb cat x W (hg.below hW)
  have HL := Lib.hid hl
  have HCL := Lib.hid hcells
  rw [hpp]
  have HM := Lib.hid (ixOf_mem p hs)
  clear hcells hl hr2 hg hpp HB
  go_enter Tryz.func25, Tryz.ntmps25
  go_wp2
  go_loopw [8] (fun i wr => ∃ k : Nat, k ≤ m ∧ i = .int .i64 k ∧ Hid (∀ i (_ : i < k) (hi' : i < hs.length), p hs[i] = false) ∧ Below w.heap.size w wr) (fun i _ => m - (intOf i).toNat)
  case atStart => exact ⟨0, Nat.zero_le _, rfl, (fun i hi => absurd hi (by omega)), Below.refl _ _⟩
  case round =>
    obtain ⟨k, hk, rfl, HF, hbr⟩ := hrel
    by_cases hlt : k < m
    · have hkr : k < hs.length := by rw [HL.out]; exact hlt
      obtain ⟨g, o, hA, _, hcs⟩ := HCL.out (by omega)
      subst hA
      have c0 := below_cell hbr (hcs k hkr 0 (by omega))
      have c1 := below_cell hbr (hcs k hkr 1 (by omega))
      have c2 := below_cell hbr (hcs k hkr 2 (by omega))
      obtain ⟨s, hs'⟩ : ∃ s, hs[k] = s := ⟨_, rfl⟩
      rw [hs'] at c0 c1 c2
      replace c0 : wr.cell? ⟨g, o + k * 3, none⟩ = some (.string s.c) := c0
      replace c1 : wr.cell? ⟨g, o + k * 3 + 1, none⟩ = some (.int .i64 s.f) := c1
      replace c2 : wr.cell? ⟨g, o + k * 3 + 2, none⟩ = some (.string s.r) := c2
      have HK := Lib.hid (HCC.out wr s hbr)
      clear hcs
      cases hp : p s
      · rw [hp] at HK
        have HF2 : Hid (∀ i (_ : i < k + 1) (hi' : i < hs.length), p hs[i] = false) := by
          intro i hi hi'
          by_cases hik : i = k
          · subst hik; rw [hs']; exact hp
          · exact HF.out i (by omega) hi'
        clear hp hs'
        go_wp2_with (go_at_call 56; refine HK.out.mono ?_; rintro e w2 ⟨rfl, hb2⟩)
        have hb3 := below_call hbr hb2 (Nat.le_refl _)
        go_roundw
        case rel => exact ⟨k + 1, by omega, by go_num, HF2, hb3⟩
        case measure => simp [intOf]; omega
      · rw [hp] at HK
        have HR : Hid (ixOf p hs = k) := ixOf_at _ hs k hkr (fun i hi => HF.out i hi (by omega)) (by rw [hs']; exact hp)
        have HA : Hid (hs.any p = true) := by
          have := HM.out
          rw [HR.out] at this
          rw [← this]
          exact Lib.hid (decide_eq_true (by omega))
        clear hp hs'
        go_wp2_with (go_at_call 56; refine HK.out.mono ?_; rintro e w2 ⟨rfl, hb2⟩)
        have hb3 := below_call hbr hb2 (Nat.le_refl _)
        go_ret
        exact ⟨ret_bool HA.out.symm, hb3⟩
    · obtain rfl : k = m := by omega
      have HR : Hid (ixOf p hs = -1) := ixOf_no _ hs (fun i hi => HF.out i (by rw [← HL.out]; exact hi) hi)
      have HA : Hid (hs.any p = false) := by
        have := HM.out
        rw [HR.out] at this
        rw [← this]
        exact Lib.hid rfl
      go_wp2
      go_ret
      exact ⟨ret_bool HA.out.symm, hbr⟩
end Go.Proofs.YtlkapcjofgpiiaaGreatDoor
