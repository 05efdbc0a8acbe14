/-
  Two laws that many texts want: cells set above a mark; where the first one lies. No Go text is named here.
-/
import Derived.Test.YtfhdknppldobiaaGreatDoorZSq
import Derived.Test.YtfhdknppldobiaaGreatDoorZSlotPure
import Derived.Deep.DeepCutAuto
import Derived.Deep.MidRow
import Derived.Deep.RegionHeld3
import Derived.BigRegion
import Derived.Deep.DrawnRows
namespace Go.Proofs.YtfhdknppldobiaaGreatDoor
open Go Go.RowKit

theorem ixOf_split {α : Type} (p : α → Bool) : ∀ l : List α, (ixOf p l = -1 ∧ ∀ i (hi : i < l.length), p l[i] = false) ∨ (∃ k : Nat, ∃ hk : k < l.length, ixOf p l = k ∧ p l[k] = true ∧ ∀ i (hi : i < k), p (l[i]'(Nat.lt_trans hi hk)) = false)
  | [] => .inl ⟨rfl, by intro i hi; simp at hi⟩
  | a :: l => by
    cases hp : p a
    · rcases ixOf_split p l with ⟨h1, h2⟩ | ⟨k, hk, h1, h2, h3⟩
      · refine .inl ⟨ixOf_no p _ (fun i hi => ?_), fun i hi => ?_⟩
        all_goals
          cases i with
          | zero => exact hp
          | succ i => exact h2 i (by simpa using hi)
      · refine .inr ⟨k + 1, by simpa using hk, ?_, by simpa using h2, ?_⟩
        · refine ixOf_at p (a :: l) (k + 1) (by simpa using hk) (fun i hi => ?_) (by simpa using h2)
          cases i with
          | zero => exact hp
          | succ i => exact h3 i (by omega)
        · intro i hi
          cases i with
          | zero => exact hp
          | succ i => exact h3 i (by omega)
    · exact .inr ⟨0, by simp, ixOf_at p (a :: l) 0 (by simp) (by intro i hi; omega) hp, hp, by intro i hi; omega⟩
end Go.Proofs.YtfhdknppldobiaaGreatDoor
/-
  What slices.DeleteFunc of strings leaves, and the laws of a row of strings that it asks for. (Printed by gen_dels.py.)
-/
namespace Go.Proofs.YtfhdknppldobiaaGreatDoor
open Go Go.RowKit

def s1C (x : ByteArray) : List Value := [.string x]
theorem s1C_len : ∀ x, (s1C x).length = 1 := fun _ => rfl
theorem strsV_flat : ∀ (ys : List ByteArray), strsV ys = ys.flatMap s1C
  | [] => rfl
  | y :: ys => by
    rw [List.flatMap_cons, ← strsV_flat ys]
    rfl
def kptS (p : ByteArray → Bool) (ys : List ByteArray) : List ByteArray := ys.filter (fun x => !p x)
theorem kptS_step (p : ByteArray → Bool) (ys : List ByteArray) (j : Nat) (hj : j < ys.length) : kptS p (ys.take (j + 1)) = if p ys[j] = true then kptS p (ys.take j) else kptS p (ys.take j) ++ [ys[j]] := by
  unfold kptS
  rw [List.take_succ_eq_append_getElem hj, List.filter_append]
  cases h : p ys[j]
  · rw [if_neg (by decide), List.filter_cons, h]
    rfl
  · rw [if_pos rfl, List.filter_cons, h]
    simp
structure DlS (p : ByteArray → Bool) (ys : List ByteArray) (i j : Nat) (zs : List ByteArray) : Prop where
  len : zs.length = ys.length
  cnt : (kptS p (ys.take j)).length = i
  lo : ∀ t, t < i → zs[t]? = (kptS p (ys.take j))[t]?
  hi : ∀ t, j ≤ t → zs[t]? = ys[t]?
theorem DlS.skip {p : ByteArray → Bool} {ys zs : List ByteArray} {i j : Nat} (h : DlS p ys i j zs) (hj : j < ys.length) (hp : p ys[j] = true) : DlS p ys i (j + 1) zs := by
  have e : kptS p (ys.take (j + 1)) = kptS p (ys.take j) := by rw [kptS_step p ys j hj, if_pos hp]
  exact ⟨h.len, by rw [e]; exact h.cnt, by rw [e]; exact h.lo, fun t ht => h.hi t (by omega)⟩
theorem DlS.keep {p : ByteArray → Bool} {ys zs : List ByteArray} {i j : Nat} (h : DlS p ys i j zs) (hj : j < ys.length) (hp : p ys[j] = false) (hij : i < j) : DlS p ys (i + 1) (j + 1) (zs.set i ys[j]) := by
  have e : kptS p (ys.take (j + 1)) = kptS p (ys.take j) ++ [ys[j]] := by rw [kptS_step p ys j hj, if_neg (by rw [hp]; decide)]
  refine ⟨by rw [List.length_set]; exact h.len, by rw [e, List.length_append, h.cnt]; rfl, fun t ht => ?_, fun t ht => ?_⟩
  · rw [e]
    by_cases hti : t = i
    · subst hti
      rw [List.getElem?_set_self (by rw [h.len]; omega), List.getElem?_append_right (by rw [h.cnt]; exact Nat.le_refl _), h.cnt, Nat.sub_self]
      rfl
    · rw [List.getElem?_set_ne (by omega), List.getElem?_append_left (by rw [h.cnt]; omega)]
      exact h.lo t (by omega)
  · rw [List.getElem?_set_ne (by omega)]
    exact h.hi t (by omega)
theorem kptS_all {p : ByteArray → Bool} {ys : List ByteArray} : ∀ k, k ≤ ys.length → (∀ i (_ : i < k) (hi : i < ys.length), p ys[i] = false) → kptS p (ys.take k) = ys.take k
  | 0, _, _ => rfl
  | k + 1, hk, h => by
    rw [kptS_step p ys k hk, if_neg (by rw [h k (by omega) hk]; decide), kptS_all k (by omega) (fun i hi hi' => h i (by omega) hi'), ← List.take_succ_eq_append_getElem]
theorem s_store {w0 W : World} {L : List Rsc} {g n c i : Nat} {zs : List ByteArray} (y : ByteArray) (h : Sq w0 W (rOwn w0.heap.size 9 1 (.slice (some ⟨g, 0, none⟩) n c) n (zs.flatMap s1C) :: L)) (hn : zs.length = n) (hi : i < n) :
    Sq w0 (W.setCell ⟨g, i, none⟩ (.string y)) (rOwn w0.heap.size 9 1 (.slice (some ⟨g, 0, none⟩) n c) n ((zs.set i y).flatMap s1C) :: L) := by
  subst hn
  have h1 := h.field s1C 1 s1C_len i 0 hi (by omega) (.string y) y rfl
  rw [List.length_set, Nat.mul_one, Nat.add_zero] at h1
  exact h1
theorem run_clear_s (w : World) (b o n c : Nat) (hn : 0 < n) (hc : ∀ j, j < n → (w.cell? ⟨b, o + j, none⟩).isSome = true) (hf : ∀ j, j < n → w.frozen? ⟨b, o + j, none⟩ = false) :
    ∃ vs : List Value, (∀ ty, (Builtin.clear_ #[37] ty #[.slice (some ⟨b, o, none⟩) n c]).run Tryz.prog w = .ok (.tuple #[]) (w.setCells b o vs)) ∧ vs.length = n := by
  have hv : ∀ w, (zeroValue 9).run Tryz.prog w = .ok (.string ⟨#[]⟩) w := fun w => by kernel_rfl
  obtain ⟨vs, hvs⟩ : ∃ vs, (Builtin.zeroCells #[.string ⟨#[]⟩] n).toList = vs := ⟨_, rfl⟩
  have hlen : vs.length = n := by rw [← hvs]; simp [Builtin.zeroCells]
  have h1 : ∀ v ∈ vs, v.oneCell' = true := by
    intro v hv
    rw [← hvs] at hv
    simp [Builtin.zeroCells] at hv
    obtain ⟨i, _, rfl⟩ := hv
    rw [show i % 1 = 0 by omega]
    rfl
  have hst := run_storeCells_cells (P := Tryz.prog) b o vs 0 w (by simpa [hlen] using hc) (by simpa [hlen] using hf) h1
  simp only [Nat.add_zero] at hst
  refine ⟨vs, fun ty => ?_, hlen⟩
  obtain ⟨m, rfl⟩ : ∃ m, n = m + 1 := ⟨n - 1, by omega⟩
  simp [Builtin.clear_, run_underlying Tryz.underlying37, hv, Value.cells, hvs, hst, Result.andThen]
theorem grown_setCells (g : Nat) : ∀ (vs : List Value) (o : Nat) (W : World), W.grownBy (W.setCells g o vs) (some g)
  | [], o, W => ⟨rfl, rfl, rfl, Nat.le_refl _, fun _ _ _ => rfl⟩
  | v :: vs, o, W => by
    have h1 : W.grownBy (W.setCell ⟨g, o, none⟩ v) (some g) := ⟨rfl, rfl, rfl, by simp [World.setCell], fun k _ hk => Below.heap_setCell W ⟨g, o, none⟩ v k (fun e => hk (by rw [e]))⟩
    have h2 := grown_setCells g vs (o + 1) (W.setCell ⟨g, o, none⟩ v)
    exact ⟨h2.os.trans h1.os, h2.tape.trans h1.tape, h2.output.trans h1.output, Nat.le_trans h1.size h2.size, fun k hk hn => (h2.block k (Nat.lt_of_lt_of_le hk h1.size) hn).trans (h1.block k hk hn)⟩
/-- a row of one's own that is no longer asked for -/
def rGone (g : Nat) : Rsc := ⟨fun _ => True, fun k => k = g⟩
theorem Sq.clear_ {w0 W W' : World} {L : List Rsc} {e : TypeId} {g n c : Nat} {xs : List Value} (h : Sq w0 W (rOwn w0.heap.size e 1 (.slice (some ⟨g, 0, none⟩) n c) n xs :: L)) (hg : W.grownBy W' (some g)) : Sq w0 W' L := by
  have hlt := h.hp.new _ (List.mem_cons_self ..) g rfl
  exact (h.turn (row := some g) (r' := rGone g) hg (fun k hk => hk) trivial (fun _ _ _ _ => trivial) (fun k hk => by
    obtain rfl : k = g := hk
    exact ⟨.inl rfl, Nat.lt_of_lt_of_le hlt.2 hg.size⟩)).tail
/-- what DeleteFunc answers -/
def DelSq (w0 : World) (b : Nat) (ys : List ByteArray) (L : List Rsc) (e : Ending) (w' : World) : Prop :=
  ∃ A' m c', e = .returned (.slice A' m c') ∧ m = ys.length ∧ Rd w' b 1 (.slice A' m c') m (strsV ys) ∧ Sq w0 w' L
theorem DelSq.st {w0 w' : World} {b : Nat} {ys : List ByteArray} {L : List Rsc} {e : Ending} (h : DelSq w0 b ys L e w') : ∃ A' m c', e = .returned (.slice A' m c') ∧ m = ys.length ∧ Rd w' b 1 (.slice A' m c') m (strsV ys) ∧ Below w0.heap.size w0 w' := by
  obtain ⟨A', m, c', h1, h2, h3, h4⟩ := h
  exact ⟨A', m, c', h1, h2, h3, h4.below⟩
/-- what DeleteFunc answers -/
def DelSt (w0 : World) (b : Nat) (ys : List ByteArray) (e : Ending) (w' : World) : Prop :=
  ∃ A' m c', e = .returned (.slice A' m c') ∧ m = ys.length ∧ Rd w' b 1 (.slice A' m c') m (strsV ys) ∧ Below w0.heap.size w0 w'
end Go.Proofs.YtfhdknppldobiaaGreatDoor
/-
  slices.IndexFunc and DeleteFunc of strings at free's closure by contracts. (Printed by gen_dels.py.)
-/
namespace Go.Proofs.YtfhdknppldobiaaGreatDoor
open Go Go.RowKit
attribute [local go_sem ↓] Go.wp_at_zero Go.wp_at_succ

set_option maxRecDepth 100000 in
theorem indexFF_calls (b : Nat) (p : ByteArray → Bool) (A2 : Option Addr) (n c2 : Nat) (hs : List ByteArray) (w : World) (HCC0 : ∀ W (x : ByteArray), x ∈ hs → Below w.heap.size w W → Calls Tryz.prog 150 #[.string x] W (BRet (.bool (p x)) W)) (hr2 : Rd w b 1 (.slice A2 n c2) n (strsV hs)) :
    Calls Tryz.prog 144 #[.slice A2 n c2, .func (.func 150) #[] #[]] w (BRet (.int .i64 (ixOf p hs)) w) := by
  obtain ⟨hl, hnc, hcm, hcells⟩ := strs_cells hr2
  unfold maxLen at hcm
  have HCC := Lib.hid HCC0
  have HL := Lib.hid hl
  have HCL := Lib.hid hcells
  clear hcells hl hr2 HCC0
  go_enter Tryz.func144, Tryz.ntmps144
  go_wp2
  go_loopw [8] (fun i wr => ∃ k : Nat, k ≤ n ∧ i = .int .i64 k ∧ Hid (∀ i (_ : i < k) (hi' : i < hs.length), p hs[i] = false) ∧ Below w.heap.size w wr) (fun i _ => n - (intOf i).toNat)
  case atStart => exact ⟨0, Nat.zero_le _, rfl, (fun i hi => absurd hi (by omega)), Below.refl _ _⟩
  case round =>
    obtain ⟨k, hk, rfl, HF, hbr⟩ := hrel
    by_cases hlt : k < n
    · have hkr : k < hs.length := by rw [HL.out]; exact hlt
      obtain ⟨g, o, hA, _, hcs⟩ := HCL.out (by omega)
      subst hA
      have c0 := below_cell hbr (hcs k hkr)
      have HK0 := HCC.out wr hs[k] (List.getElem_mem hkr) hbr
      obtain ⟨s, hs'⟩ : ∃ s, hs[k] = s := ⟨_, rfl⟩
      rw [hs'] at c0 HK0
      have HK := Lib.hid HK0
      clear hcs HK0
      cases hp : p s
      · rw [hp] at HK
        have HF2 : Hid (∀ i (_ : i < k + 1) (hi' : i < hs.length), p hs[i] = false) := by
          intro i hi hi'
          by_cases hik : i = k
          · subst hik; rw [hs']; exact hp
          · exact HF.out i (by omega) hi'
        clear hp hs'
        go_wp2_with (go_at_call 150; refine HK.out.mono ?_; rintro e w2 ⟨rfl, hb2⟩)
        have hb3 := below_call hbr hb2 (Nat.le_refl _)
        go_roundw
        case rel => exact ⟨k + 1, by omega, by go_num, HF2, hb3⟩
        case measure => simp [intOf]; omega
      · rw [hp] at HK
        have HR : Hid (ixOf p hs = k) := ixOf_at _ hs k hkr (fun i hi => HF.out i hi (by omega)) (by rw [hs']; exact hp)
        clear hp hs'
        go_wp2_with (go_at_call 150; refine HK.out.mono ?_; rintro e w2 ⟨rfl, hb2⟩)
        have hb3 := below_call hbr hb2 (Nat.le_refl _)
        go_ret
        exact ⟨ret_int HR.out.symm, hb3⟩
    · obtain rfl : k = n := by omega
      have HR : Hid (ixOf p hs = -1) := ixOf_no _ hs (fun i hi => HF.out i (by rw [← HL.out]; exact hi) hi)
      go_wp2
      go_ret
      exact ⟨ret_int HR.out.symm, hbr⟩
set_option maxRecDepth 100000 in
set_option maxHeartbeats 2000000 in
theorem deleteF_calls (w0 : World) (b : Nat) (p : ByteArray → Bool) (A : Option Addr) (n c : Nat) (ys : List ByteArray) (L : List Rsc) (w : World) (hS : Sq w0 w (rOwn w0.heap.size 9 1 (.slice A n c) n (strsV ys) :: L)) (HCC0 : ∀ W (x : ByteArray), x ∈ ys → Below w0.heap.size w0 W → Calls Tryz.prog 150 #[.string x] W (BRet (.bool (p x)) W)) (hb : ∀ k, (Value.slice A n c).ownBlock = some k → k ≠ b) (hn : n ≤ 100000) :
    Calls Tryz.prog 90 #[.slice A n c, .func (.func 150) #[] #[]] w (DelSq w0 b (kptS p ys) L) := by
  have hrd : Rd w b 1 (.slice A n c) n (strsV ys) := Rd.of_own hS.head hb
  have HIX := Lib.hid (indexFF_calls b p A n c ys w (fun W x hx hW => HCC0 W x hx (below_call hS.below hW (Nat.le_refl _))) hrd)
  rw [strsV_flat] at hS
  have hown : w.ownsRow w0.heap.size 9 1 (.slice A n c) n (ys.flatMap s1C) := hS.head
  have hl : ys.length = n := (strs_cells hrd).1
  have hcap := own_cap hown
  obtain ⟨hc1, hc2⟩ := hcap
  unfold maxLen at hc2
  have HL := Lib.hid hl
  rcases ixOf_split p ys with ⟨h1, h2⟩ | ⟨k, hk, h1, h2, h3⟩
  · have hall : kptS p ys = ys := by
      have := kptS_all (p := p) (ys := ys) ys.length (Nat.le_refl _) (fun i _ hi => h2 i hi)
      rwa [List.take_length] at this
    rw [h1] at HIX
    rw [hall]
    have HS := Lib.hid hS
    have HR := Lib.hid hrd
    clear h1 h2 hall hS HCC0 hown hrd hl hb
    go_enter Tryz.func90, Tryz.ntmps90
    go_wp2_with fail
    refine HIX.out.mono ?_
    rintro e w1 ⟨rfl, hb1⟩
    go_wp2_with fail
    go_ret
    exact ⟨_, _, _, rfl, HL.out.symm, HR.out.below hb1, (HS.out.callB hb1).tail⟩
  · rw [h1] at HIX
    have hkn : k < n := by rw [← hl]; exact hk
    obtain ⟨g, cap, hv, hg0, _⟩ := hown.form (by omega)
    injection hv with hA _ hcc
    subst hA hcc
    have hdl : DlS p ys k (k + 1) ys := by
      have e1 : kptS p (ys.take k) = ys.take k := kptS_all k (by omega) (fun i hi hi' => h3 i hi)
      have e2 : kptS p (ys.take (k + 1)) = ys.take k := by rw [kptS_step p ys k hk, if_pos h2, e1]
      refine ⟨rfl, by rw [e2, List.length_take]; omega, fun t ht => by rw [e2, List.getElem?_take_of_lt ht], fun _ _ => rfl⟩
    have HD := Lib.hid hdl
    have HCC := Lib.hid HCC0
    have HS := Lib.hid hS
    have hgg : w0.heap.size ≤ g := hg0
    have hgb : g ≠ b := hb g rfl
    clear h1 h2 h3 hS HCC0 hown hrd hl hdl hk hg0 hb
    go_enter Tryz.func90, Tryz.ntmps90
    go_wp2_with fail
    refine HIX.out.mono ?_
    rintro e w1 ⟨rfl, hb1⟩
    have hS1 := HS.out.callB hb1
    have hkk : ((k : Int) == -1) = false := by rw [beq_eq_false_iff_ne]; omega
    clear hb1
    go_wp2_with fail
    clear hkk
    go_loopw [5, 6] (fun s5 s6 wr => ∃ (i j : Nat) (zs : List ByteArray), s5 = .int .i64 i ∧ s6 = .int .i64 j ∧ i < j ∧ j ≤ n ∧ Hid (DlS p ys i j zs) ∧ Sq w0 wr (rOwn w0.heap.size 9 1 (.slice (some ⟨g, 0, none⟩) n c) n (zs.flatMap s1C) :: L)) (fun _ s6 _ => n - (intOf s6).toNat)
    case atStart => exact ⟨k, k + 1, ys, rfl, by go_num, by omega, by omega, HD, hS1⟩
    case round =>
      clear hS1 HD
      obtain ⟨i, j, zs, rfl, rfl, hij, hjn, HD, hS⟩ := hrel
      have hzl : zs.length = n := by rw [HD.out.len]; exact HL.out
      have hown : wr.ownsRow w0.heap.size 9 1 (.slice (some ⟨g, 0, none⟩) n c) n (zs.flatMap s1C) := hS.head
      have hgl : g < wr.heap.size := (hown.lt g rfl).2
      by_cases hlt : j < n
      · have hjr : j < ys.length := by rw [HL.out]; exact hlt
        have hjz : j < zs.length := by omega
        have hzy : zs[j] = ys[j] := by
          have := HD.out.hi j (Nat.le_refl _)
          rw [List.getElem?_eq_getElem hjz, List.getElem?_eq_getElem hjr] at this
          exact Option.some.inj this
        have hmem : ys[j] ∈ ys := List.getElem_mem hjr
        obtain ⟨y, hy⟩ : ∃ y, ys[j] = y := ⟨_, rfl⟩
        have c0 := own_cell s1C 1 s1C_len hown j 0 hjz hlt (by omega)
        rw [hzy, hy, Nat.mul_one, Nat.add_zero] at c0
        replace c0 : wr.cell? ⟨g, j, none⟩ = some (.string y) := c0
        rw [hy] at hmem
        have HK := Lib.hid (HCC.out _ y hmem hS.below)
        have hj0 : (0 : Int) ≤ (j : Int) := by omega
        have hj1 : (j : Int) < (n : Int) := by omega
        have hi0 : (0 : Int) ≤ (i : Int) := by omega
        have hi1 : (i : Int) < (n : Int) := by omega
        have HY : Hid (ys[j] = y) := hy
        cases hp : p y
        · have HD2 := Lib.hid (HD.out.keep hjr (by rw [hy]; exact hp) hij)
          rw [hp] at HK
          have hiz : i < zs.length := by omega
          have HSS := Lib.hid hS
          clear hzy hown hS hp HD hmem
          go_wp2_with fail
          refine HK.out.mono ?_
          rintro e w2 ⟨rfl, hb2⟩
          have hS2 := HSS.out.callB hb2
          have o2 : w2.ownsRow w0.heap.size 9 1 (.slice (some ⟨g, 0, none⟩) n c) n (zs.flatMap s1C) := hS2.head
          have k0 := own_cell s1C 1 s1C_len o2 i 0 hiz (by omega) (by omega)
          rw [Nat.mul_one, Nat.add_zero] at k0
          replace k0 : w2.cell? ⟨g, i, none⟩ = some (.string zs[i]) := k0
          have q0 : w2.frozen? ⟨g, i, none⟩ = false := o2.frozenAt _
          have hS3 := s_store y hS2 hzl (show i < n by omega)
          rw [hy] at HD2
          clear o2 hb2 hy HSS hS2
          go_wp2_with fail
          go_roundw
          case rel => exact ⟨i + 1, j + 1, _, by go_num, by go_num, by omega, by omega, HD2, hS3⟩
          case measure => simp [intOf]; omega
        · have HD2 := Lib.hid (HD.out.skip hjr (by rw [hy]; exact hp))
          rw [hp] at HK
          have HSS := Lib.hid hS
          clear hzy hy hown hS hp HD hmem
          go_wp2_with fail
          refine HK.out.mono ?_
          rintro e w2 ⟨rfl, hb2⟩
          have hS2 := HSS.out.callB hb2
          go_wp2_with fail
          go_roundw
          case rel => exact ⟨i, j + 1, zs, rfl, by go_num, by omega, by omega, HD2, hS2⟩
          case measure => simp [intOf]; omega
      · obtain rfl : j = n := by omega
        obtain ⟨vs, hcl, hvl⟩ := run_clear_s wr g i (j - i) (c - i) (by omega) (fun t ht => by
          rw [hown.cellAt (i + t) (by omega)]
          have : i + t < (zs.flatMap s1C).length := by rw [flat_len s1C 1 s1C_len]; omega
          rw [List.getElem?_eq_getElem this]; rfl) (fun t ht => hown.frozenAt _)
        have hbf : Sq w0 (wr.setCells g i vs) L := hS.clear_ (grown_setCells g vs i wr)
        have hT : kptS p (ys.take j) = kptS p ys := by rw [List.take_of_length_le (by rw [HL.out]; exact Nat.le_refl _)]
        have hlo := HD.out.lo
        have hcn := HD.out.cnt
        rw [hT] at hlo hcn
        have hrd : Rd (wr.setCells g i vs) b 1 (.slice (some ⟨g, 0, none⟩) i c) i (strsV (kptS p ys)) := by
          rw [strsV_flat]
          refine ⟨_, c, rfl, by omega, by unfold maxLen; omega, by rw [flat_len s1C 1 s1C_len, hcn], (fun e => by cases e), fun _ => ⟨g, 0, rfl, hgb, fun t u hu => ?_⟩⟩
          have htl : t < i := by
            have := (List.getElem?_eq_some_iff.1 hu).1
            rw [flat_len s1C 1 s1C_len, hcn] at this
            omega
          rw [Nat.zero_add, World.cell?_setCells_out g vs i wr ⟨g, t, none⟩ (fun _ _ => Or.inl htl)]
          have hqz : t < zs.length := by omega
          have hqu : t < (kptS p ys).length := by omega
          have hz := hlo t htl
          rw [List.getElem?_eq_getElem hqz, List.getElem?_eq_getElem hqu] at hz
          have hf := flat_get s1C 1 s1C_len (kptS p ys) t 0 hqu (by omega)
          have ho := own_cell s1C 1 s1C_len hown t 0 hqz (by omega) (by omega)
          rw [Nat.mul_one, Nat.add_zero] at hf ho
          rw [hf] at hu
          rw [ho, Option.some.inj hz]
          exact hu
        have HF : Hid (DelSq w0 b (kptS p ys) L (.returned (.slice (some ⟨g, 0, none⟩) i c)) (wr.setCells g i vs)) := ⟨_, _, _, rfl, hcn.symm, hrd, hbf⟩
        have hic : (i : Int) ≤ (j : Int) := by omega
        have hicc : (i : Int) ≤ (c : Int) := by omega
        have hi0 : (0 : Int) ≤ (i : Int) := by omega
        clear hT hlo hcn hrd hbf hown hS hvl
        go_wp2_with fail
        go_ret
        exact HF.out
end Go.Proofs.YtfhdknppldobiaaGreatDoor
