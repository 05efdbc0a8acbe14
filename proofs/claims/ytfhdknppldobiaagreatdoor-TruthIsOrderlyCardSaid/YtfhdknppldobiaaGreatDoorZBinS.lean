/-
  slices.BinarySearch of sorted strings by a contract.
-/
import Derived.Test.YtfhdknppldobiaaGreatDoorZSlot1
import Derived.Test.YtfhdknppldobiaaGreatDoorZTidPure
import Derived.Test.YtfhdknppldobiaaGreatDoorZRng
import Derived.Deep.DeepCutAuto
import Derived.Sort.Walk0
import Derived.Test.YtfhdknppldobiaaGreatDoorZSlotPure
import Derived.IntWalk
import Derived.Test.YtfhdknppldobiaaGreatDoorZSrt
import Derived.Test.YtfhdknppldobiaaGreatDoorZHln
import Derived.Test.YtfhdknppldobiaaGreatDoorZLow
import Derived.Test.YtfhdknppldobiaaGreatDoorZRule6
import Derived.Test.YtfhdknppldobiaaGreatDoorZRst1
import Derived.Test.YtfhdknppldobiaaGreatDoorZChkPure2
import Derived.Test.YtfhdknppldobiaaGreatDoorZRule1
import Derived.Test.YtfhdknppldobiaaGreatDoorZRun1
import Derived.Test.YtfhdknppldobiaaGreatDoorZRatMake4
import Derived.Test.YtfhdknppldobiaaGreatDoorZRule3
import Derived.Test.YtfhdknppldobiaaGreatDoorZClk
import Derived.Deep.CutBlock
import Derived.Deep.RegionHeld3
namespace Go.Proofs.YtfhdknppldobiaaGreatDoor
open Go Go.RowKit

/-- strings that rise -/
def RisS (hs : List ByteArray) : Prop := hs.Pairwise fun a b => Op.bytesLess a.toList b.toList = true
theorem bl_irr (a : ByteArray) : Op.bytesLess a.toList a.toList = false := by
  rw [bytesLess_eq]
  exact decide_eq_false (List.lt_irrefl _)
theorem bl_tr {a b c : ByteArray} (h1 : Op.bytesLess a.toList b.toList = true) (h2 : Op.bytesLess b.toList c.toList = true) : Op.bytesLess a.toList c.toList = true := by
  rw [bytesLess_eq] at h1 h2 ⊢
  exact decide_eq_true (List.lt_trans (of_decide_eq_true h1) (of_decide_eq_true h2))
theorem RisS.lt {hs : List ByteArray} (h : RisS hs) {i j : Nat} (hij : i < j) (hj : j < hs.length) : Op.bytesLess (hs[i]'(by omega)).toList hs[j].toList = true := List.pairwise_iff_getElem.1 h i j (by omega) hj hij
theorem ris_of {l : List BL} (h : l.Pairwise (fun a b => a ≤ b ∧ a ≠ b)) : RisS (l.map fun x => (⟨x.toArray⟩ : ByteArray)) := by
  unfold RisS
  rw [List.pairwise_map]
  refine h.imp ?_
  rintro a b ⟨h1, h2⟩
  rw [bytesLess_eq, Lib.toList_data, Lib.toList_data]
  show decide (a.toArray.toList < b.toArray.toList) = true
  rw [List.toList_toArray, List.toList_toArray]
  exact decide_eq_true (Decidable.byContradiction fun h => h2 (List.le_antisymm h1 (List.not_lt.1 h)))
/-- where a string is found -/
theorem bin_found {hs : List ByteArray} (h : RisS hs) {x : ByteArray} {k : Nat} (hk : k < hs.length) (hx : hs[k] = x) : ixOf (eqS x) hs = k := by
  refine ixOf_at _ hs k hk (fun i hi => ?_) (by unfold eqS; rw [hx]; simp)
  have := h.lt hi hk
  unfold eqS
  rw [beq_eq_false_iff_ne]
  intro e
  have e2 : x = hs[i]'(by omega) := by rw [Lib.toList_data, Lib.toList_data] at e; exact ba_inj e
  rw [← e2, hx, bl_irr] at this
  cases this
theorem bin_none {hs : List ByteArray} (h : RisS hs) {x : ByteArray} {k : Nat} (hlo : ∀ t (_ : t < k) (ht : t < hs.length), Op.bytesLess hs[t].toList x.toList = true) (hhi : ∀ t (_ : k ≤ t) (ht : t < hs.length), Op.bytesLess hs[t].toList x.toList = false) (hx : ∀ ht : k < hs.length, hs[k] ≠ x) : memS hs x = false := by
  unfold memS
  rw [List.any_eq_false]
  intro y hy
  obtain ⟨t, ht, rfl⟩ := List.getElem_of_mem hy
  unfold eqS
  intro e
  have e := eq_of_beq e
  have e2 : x = hs[t] := by rw [Lib.toList_data, Lib.toList_data] at e; exact ba_inj e
  by_cases htk : t < k
  · have := hlo t htk ht
    rw [← e2, bl_irr] at this
    cases this
  · by_cases hte : t = k
    · subst hte
      exact hx ht e2.symm
    · have h1 := h.lt (show k < t by omega) ht
      have h2 := hhi k (Nat.le_refl _) (by omega)
      rw [← e2, h2] at h1
      cases h1
set_option maxRecDepth 100000 in
theorem isNaNc_calls (x : ByteArray) (w : World) : Calls Tryz.prog 233 #[.string x] w fun e w' => e = .returned (.bool false) ∧ w' = w := by
  go_enter Tryz.func233, Tryz.ntmps233
  go_wp2_with fail
  go_ret
  exact ⟨by simp, rfl⟩
set_option maxRecDepth 100000 in
theorem isNaNs_calls (x : ByteArray) (w : World) : Calls Tryz.prog 187 #[.string x] w fun e w' => e = .returned (.bool false) ∧ w' = w := by
  go_enter Tryz.func187, Tryz.ntmps187
  go_wp2_with fail
  go_ret
  exact ⟨by simp, rfl⟩
set_option maxRecDepth 100000 in
theorem less_calls (x y : ByteArray) (w : World) : Calls Tryz.prog 186 #[.string x, .string y] w fun e w' => e = .returned (.bool (Op.bytesLess x.toList y.toList)) ∧ w' = w := by
  go_enter Tryz.func186, Tryz.ntmps186
  go_wp2_with (first | (go_at_call 233; refine (isNaNc_calls _ _).mono ?_; rintro e w1 ⟨rfl, rfl⟩))
  go_ret
  exact ⟨rfl, rfl⟩
/-- what BinarySearch answers -/
def BinR (hs : List ByteArray) (x : ByteArray) (n : Nat) (w : World) (e : Ending) (w' : World) : Prop :=
  ∃ i : Nat, e = .returned (.tuple #[.int .i64 i, .bool (memS hs x)]) ∧ (memS hs x = true → ixOf (eqS x) hs = i) ∧ i ≤ n ∧ ∃ nq, w' = w.drewN nq
set_option maxRecDepth 100000 in
set_option maxHeartbeats 1000000 in
theorem binS_calls (b : Nat) (A : Option Addr) (n c : Nat) (hs : List ByteArray) (x : ByteArray) (w : World) (hr : Rd w b 1 (.slice A n c) n (strsV hs)) (hso : RisS hs) (hn0 : n ≤ 1000000) :
    Calls Tryz.prog 147 #[.slice A n c, .string x] w (BinR hs x n w) := by
  obtain ⟨hl, hnc, hcm, hcells⟩ := strs_cells hr
  unfold maxLen at hcm
  have HL := Lib.hid hl
  have HC := Lib.hid hcells
  have HSO := Lib.hid hso
  clear hcells hl hr hso
  go_enter Tryz.func147, Tryz.ntmps147
  go_wp2_with fail
  go_loopw [7, 8] (fun s7 s8 wr => ∃ lo hi nq : Nat, s7 = .int .i64 lo ∧ s8 = .int .i64 hi ∧ lo ≤ hi ∧ hi ≤ n ∧ wr = w.drewN nq ∧ Hid (∀ t (_ : t < lo) (ht : t < hs.length), Op.bytesLess hs[t].toList x.toList = true) ∧ Hid (∀ t (_ : hi ≤ t) (ht : t < hs.length), Op.bytesLess hs[t].toList x.toList = false)) (fun s7 s8 _ => (intOf s8).toNat - (intOf s7).toNat)
  case atStart => exact ⟨0, n, 0, rfl, rfl, Nat.zero_le _, Nat.le_refl _, rfl, Lib.hid (fun t h _ => by omega), Lib.hid (fun t h ht => by rw [HL.out] at ht; omega)⟩
  case round =>
    obtain ⟨lo, hi, nq, rfl, rfl, hlh, hin, rfl, H1, H2⟩ := hrel
    by_cases hlt : lo < hi
    · have hmr : (lo + hi) / 2 < hs.length := by rw [HL.out]; omega
      obtain ⟨g, o, hA, _, hcs⟩ := HC.out (by omega)
      subst hA
      have c0 : (w.drewN nq).cell? ⟨g, o + (lo + hi) / 2, none⟩ = some (.string hs[(lo + hi) / 2]) := hcs _ hmr
      have HT : Hid (Op.bytesLess hs[(lo + hi) / 2].toList x.toList = true → ∀ t (_ : t < (lo + hi) / 2 + 1) (ht : t < hs.length), Op.bytesLess hs[t].toList x.toList = true) := Lib.hid (fun h t ht1 ht => by
        by_cases he : t = (lo + hi) / 2
        · subst he; exact h
        · exact bl_tr (HSO.out.lt (show t < (lo + hi) / 2 by omega) hmr) h)
      have HU : Hid (Op.bytesLess hs[(lo + hi) / 2].toList x.toList = false → ∀ t (_ : (lo + hi) / 2 ≤ t) (ht : t < hs.length), Op.bytesLess hs[t].toList x.toList = false) := Lib.hid (fun h t ht1 ht => by
        by_cases he : t = (lo + hi) / 2
        · subst he; exact h
        · have h3 := HSO.out.lt (show (lo + hi) / 2 < t by omega) ht
          cases h4 : Op.bytesLess hs[t].toList x.toList
          · rfl
          · rw [bl_tr h3 h4] at h
            cases h)
      obtain ⟨s, hs'⟩ : ∃ s, hs[(lo + hi) / 2] = s := ⟨_, rfl⟩
      rw [hs'] at c0 HT HU
      clear hs' hcs
      cases hq : Op.bytesLess s.toList x.toList
      · have HU2 := Lib.hid (HU.out hq)
        clear HT HU
        go_wp2_with (first | (go_at_call 186; refine (less_calls _ _ _).mono ?_; rintro e w1 ⟨rfl, rfl⟩))
        go_roundw
        case rel => exact ⟨lo, (lo + hi) / 2, _, rfl, by rw [show ((lo : Int) + (hi : Int)) / 2 = (((lo + hi) / 2 : Nat) : Int) by omega], by omega, by omega, rfl, H1, HU2⟩
        case measure => simp [intOf]; omega
      · have HT2 := Lib.hid (HT.out hq)
        clear HT HU
        go_wp2_with (first | (go_at_call 186; refine (less_calls _ _ _).mono ?_; rintro e w1 ⟨rfl, rfl⟩))
        go_roundw
        case rel => exact ⟨(lo + hi) / 2 + 1, hi, _, by rw [show ((lo : Int) + (hi : Int)) / 2 + 1 = (((lo + hi) / 2 + 1 : Nat) : Int) by omega], rfl, by omega, hin, rfl, HT2, H2⟩
        case measure => simp [intOf]; omega
    · obtain rfl : lo = hi := by omega
      by_cases hn : lo < n
      · have hmr : lo < hs.length := by rw [HL.out]; omega
        obtain ⟨g, o, hA, _, hcs⟩ := HC.out (by omega)
        subst hA
        have c0 : (w.drewN nq).cell? ⟨g, o + lo, none⟩ = some (.string hs[lo]) := hcs _ hmr
        have HF : Hid (hs[lo] = x → ixOf (eqS x) hs = lo ∧ memS hs x = true) := Lib.hid (fun h => ⟨bin_found HSO.out hmr h, by unfold memS; rw [List.any_eq_true]; exact ⟨_, List.getElem_mem hmr, by unfold eqS; rw [h]; simp⟩⟩)
        have HG : Hid (hs[lo] ≠ x → memS hs x = false) := Lib.hid (fun h => bin_none HSO.out H1.out H2.out (fun _ => h))
        obtain ⟨s, hs'⟩ : ∃ s, hs[lo] = s := ⟨_, rfl⟩
        rw [hs'] at c0 HF HG
        clear hs' hcs H1 H2
        by_cases hsx : s = x
        · obtain ⟨f1, f2⟩ := HF.out hsx
          have HF1 := Lib.hid f1
          have HF2 := Lib.hid f2
          have hq : (s.toList == x.toList) = true := by rw [hsx]; simp
          clear HF HG f1 f2 hsx
          go_wp2_with fail
          go_ret2
          exact ⟨lo, by (rw [HF2.out]; first | rfl | simp), fun _ => HF1.out, hin, _, rfl⟩
        · have HF2 := Lib.hid (HG.out hsx)
          have hq : (s.toList == x.toList) = false := by
            rw [beq_eq_false_iff_ne]
            intro e; exact hsx (by rw [Lib.toList_data, Lib.toList_data] at e; exact ba_inj e)
          clear HF HG hsx
          go_wp2_with (first | (go_at_call 187; refine (isNaNs_calls _ _).mono ?_; rintro e w1 ⟨rfl, rfl⟩))
          go_ret2
          exact ⟨lo, by (rw [HF2.out]; first | rfl | simp), fun h => by (rw [HF2.out] at h; cases h), hin, _, rfl⟩
      · have HF2 := Lib.hid (bin_none HSO.out H1.out H2.out (fun ht => absurd ht (by rw [HL.out]; omega)))
        clear H1 H2
        go_wp2_with fail
        go_ret2
        exact ⟨lo, by (rw [HF2.out]; first | rfl | simp), fun h => by (rw [HF2.out] at h; cases h), hin, _, rfl⟩
end Go.Proofs.YtfhdknppldobiaaGreatDoor
/-
  What marathon.Drop chooses, in plain words. No Go text is named here.
-/
namespace Go.Proofs.YtfhdknppldobiaaGreatDoor
open Go Go.RowKit

/-- is slot i left out by choice s? -/
def bitS (s i : Nat) : Bool := decide (s / 2 ^ i % 2 = 1)
theorem bitS_test (s i : Nat) : bitS s i = s.testBit i := by
  unfold bitS
  rw [Nat.testBit_eq_decide_div_mod_eq]
/-- some choice for each wish -/
theorem ex_set (p : Nat → Bool) : ∀ n, ∃ s, s < 2 ^ n ∧ ∀ j, j < n → bitS s j = p j
  | 0 => ⟨0, by decide, by intro j hj; omega⟩
  | n + 1 => by
    obtain ⟨s, hs, h⟩ := ex_set p n
    have h2 : 2 ^ (n + 1) = 2 ^ n + 2 ^ n := by rw [Nat.pow_succ]; omega
    cases hp : p n
    · refine ⟨s, by omega, fun j hj => ?_⟩
      by_cases he : j = n
      · subst he
        rw [hp, bitS_test, Nat.testBit_lt_two_pow hs]
      · exact h j (by omega)
    · refine ⟨2 ^ n + s, by omega, fun j hj => ?_⟩
      by_cases he : j = n
      · subst he
        rw [hp, bitS_test, Nat.testBit_two_pow_add_eq, Nat.testBit_lt_two_pow hs]
        rfl
      · rw [bitS_test, Nat.testBit_two_pow_add_gt (by omega), ← bitS_test]
        exact h j (by omega)
theorem bits_one (x : Nat) (hx : x < 9223372036854775808) : bits .and .i64 (x : Int) 1 = ((x % 2 : Nat) : Int) := by
  have h1 : (BitVec.ofInt 64 (x : Int)).toNat = x := by
    rw [BitVec.ofInt_natCast, BitVec.toNat_ofNat]; exact Nat.mod_eq_of_lt (by omega)
  have h2 : (BitVec.ofInt 64 (1 : Int)).toNat = 1 := by decide
  show IntKind.i64.wrap ((BitVec.ofInt 64 (x : Int) &&& BitVec.ofInt 64 (1 : Int)).toNat : Int) = _
  rw [BitVec.toNat_and, h1, h2, Nat.and_one_is_mod]
  exact IntWalk.i64_in _ (by omega)
theorem shr_nat (s i : Nat) : (s : Int) / 2 ^ i = ((s / 2 ^ i : Nat) : Int) := by
  rw [Int.natCast_ediv, Int.natCast_pow]; rfl
theorem bit_yes {s i : Nat} (hs : s < 9223372036854775808) (h : bitS s i = true) : bits .and .i64 ((s : Int) / 2 ^ i) 1 = 1 := by
  unfold bitS at h
  rw [shr_nat, bits_one _ (Nat.lt_of_le_of_lt (Nat.div_le_self _ _) hs), of_decide_eq_true h]
  rfl
theorem bit_no {s i : Nat} (hs : s < 9223372036854775808) (h : bitS s i = false) : bits .and .i64 ((s : Int) / 2 ^ i) 1 = 0 := by
  unfold bitS at h
  have h' := of_decide_eq_false h
  rw [shr_nat, bits_one _ (Nat.lt_of_le_of_lt (Nat.div_le_self _ _) hs), show s / 2 ^ i % 2 = 0 by omega]
  rfl
end Go.Proofs.YtfhdknppldobiaaGreatDoor
/-
  The closures that ask a choice of atoms: EachChoice's and never's, by contracts.
-/
namespace Go.Proofs.YtfhdknppldobiaaGreatDoor
open Go Go.RowKit TxtP
attribute [local go_sem ↓] Go.wp_at_zero Go.wp_at_succ

/-- whether an atom holds by a choice -/
def isM (ns : List ByteArray) (m : Nat) (s : ByteArray) : Bool := if ixOf (eqS s) ns < 0 then true else bitS m (ixOf (eqS s) ns).toNat
theorem ixOf_lo {α : Type} (p : α → Bool) (l : List α) : -1 ≤ ixOf p l ∧ (ixOf p l : Int) < l.length := by
  rcases ixOf_split p l with ⟨h, _⟩ | ⟨k, hk, h, _⟩
  · rw [h]; omega
  · rw [h]; omega
/-- a choice in memory: the atoms, and the number -/
structure ChM (W : World) (b g5 g6 : Nat) (ns : List ByteArray) (m : Nat) (A : Option Addr) (n c : Nat) : Prop where
  c5 : W.cell? ⟨g5, 0, none⟩ = some (.slice A n c)
  c6 : W.cell? ⟨g6, 0, none⟩ = some (.int .i64 m)
  rd : Rd W b 1 (.slice A n c) n (strsV ns)
theorem ChM.below {W V : World} {b g5 g6 m n c : Nat} {ns : List ByteArray} {A : Option Addr} (h : ChM W b g5 g6 ns m A n c) (hb : Below W.heap.size W V) : ChM V b g5 g6 ns m A n c := ⟨below_cell hb h.c5, below_cell hb h.c6, h.rd.below hb⟩
set_option maxRecDepth 100000 in
set_option maxHeartbeats 1000000 in
theorem nev2_calls (b gn gs : Nat) (ns : List ByteArray) (m : Nat) (A : Option Addr) (n c : Nat) (a : Atm) (W : World) (h : ChM W b gn gs ns m A n c) (hm : m < 1000000) (hn : n ≤ 20) (hso : RisS ns) (ha : AtmOk numF a) :
    Calls Tryz.prog 146 #[.agg #[.string a.word, .string a.name, .string a.value, .int .i64 a.n], .pointer (some ⟨gn, 0, none⟩), .pointer (some ⟨gs, 0, none⟩)] W (BRet (.bool (isM ns m (txtA a))) W) := by
  have hSb := (Sq.start W).add #[.string a.word, .string a.name, .string a.value, .int .i64 a.n] 175
  have hB := hSb.below
  have hbk : Blk _ W.heap.size _ _ := hSb.head
  have HTX : Hid (∀ V, Below (W.alloc (.cells #[.string a.word, .string a.name, .string a.value, .int .i64 a.n] 175)).heap.size (W.alloc (.cells #[.string a.word, .string a.name, .string a.value, .int .i64 a.n] 175)) V → Calls Tryz.prog 148 #[.agg #[.string a.word, .string a.name, .string a.value, .int .i64 a.n]] V (fun e w' => e = .returned (.string (txtA a)) ∧ Below (W.alloc (.cells #[.string a.word, .string a.name, .string a.value, .int .i64 a.n] 175)).heap.size (W.alloc (.cells #[.string a.word, .string a.name, .string a.value, .int .i64 a.n] 175)) w')) := Lib.hid (fun V hV => by
    have h1 := text_calls a V (atm_sizes numF_z ha)
    rw [textF_eq] at h1
    exact h1.mono (fun e w' h2 => ⟨h2.1, below_call hV h2.2 (Nat.le_refl _)⟩))
  have HBS : Hid (∀ V, Below (W.alloc (.cells #[.string a.word, .string a.name, .string a.value, .int .i64 a.n] 175)).heap.size (W.alloc (.cells #[.string a.word, .string a.name, .string a.value, .int .i64 a.n] 175)) V → Calls Tryz.prog 147 #[.slice A n c, .string (txtA a)] V (fun e w' => ∃ i : Nat, e = .returned (.tuple #[.int .i64 i, .bool (memS ns (txtA a))]) ∧ (memS ns (txtA a) = true → ixOf (eqS (txtA a)) ns = i) ∧ i ≤ n ∧ Below (W.alloc (.cells #[.string a.word, .string a.name, .string a.value, .int .i64 a.n] 175)).heap.size (W.alloc (.cells #[.string a.word, .string a.name, .string a.value, .int .i64 a.n] 175)) w')) := Lib.hid (fun V hV =>
    (binS_calls b A n c ns (txtA a) V ((h.rd.below hB).below hV) hso (by omega)).mono (fun e w' ⟨i, h1, h2, h3, nq, h4⟩ => ⟨i, h1, h2, h3, by rw [h4]; exact below_drewN hV nq⟩))
  have HCL : Hid (∀ V, Below (W.alloc (.cells #[.string a.word, .string a.name, .string a.value, .int .i64 a.n] 175)).heap.size (W.alloc (.cells #[.string a.word, .string a.name, .string a.value, .int .i64 a.n] 175)) V → V.cell? ⟨gn, 0, none⟩ = some (.slice A n c) ∧ V.cell? ⟨W.heap.size, 0, none⟩ = some (.string a.word) ∧ V.cell? ⟨W.heap.size, 1, none⟩ = some (.string a.name) ∧ V.cell? ⟨W.heap.size, 2, none⟩ = some (.string a.value) ∧ V.cell? ⟨W.heap.size, 3, none⟩ = some (.int .i64 a.n)) := Lib.hid (fun V hV => by
    have hk := Blk.below hbk hV
    exact ⟨below_cell hV (below_cell hB h.c5), hk.cell 0, hk.cell 1, hk.cell 2, hk.cell 3⟩)
  have HCS : Hid (∀ V, Below (W.alloc (.cells #[.string a.word, .string a.name, .string a.value, .int .i64 a.n] 175)).heap.size (W.alloc (.cells #[.string a.word, .string a.name, .string a.value, .int .i64 a.n] 175)) V → V.cell? ⟨gs, 0, none⟩ = some (.int .i64 m)) := Lib.hid (fun V hV => below_cell hV (below_cell hB h.c6))
  have hl := (strs_cells h.rd).1
  have hlo := ixOf_lo (eqS (txtA a)) ns
  have hmm := ixOf_mem (eqS (txtA a)) ns
  have hm63 : m < 9223372036854775808 := by omega
  have HM : Hid (isM ns m (txtA a) = if ixOf (eqS (txtA a)) ns < 0 then true else bitS m (ixOf (eqS (txtA a)) ns).toNat) := Lib.hid rfl
  obtain ⟨me, hme⟩ : ∃ q, memS ns (txtA a) = q := ⟨_, rfl⟩
  obtain ⟨q, hq⟩ : ∃ q, ixOf (eqS (txtA a)) ns = q := ⟨_, rfl⟩
  obtain ⟨v9, hv9⟩ : ∃ v, isM ns m (txtA a) = v := ⟨_, rfl⟩
  obtain ⟨tx, htx⟩ : ∃ v, txtA a = v := ⟨_, rfl⟩
  have hme2 : decide (0 ≤ q) = me := by rw [← hq, ← hme]; exact hmm
  rw [hq, hme] at HBS
  rw [hq, hv9] at HM
  rw [hq, hl] at hlo
  rw [hv9]
  rw [htx] at HTX HBS
  have HBB := Lib.hid hB
  obtain ⟨wd, nm, vl, an⟩ := a
  simp only at HTX HBS HCL HCS HBB ⊢
  have hz1 : (W.alloc (.cells #[.string wd, .string nm, .string vl, .int .i64 an] 175)).heap.size = W.heap.size + 1 := by simp
  clear h hSb hbk hB hso ha hq hv9 htx hme hmm hl
  go_enter Tryz.func146, Tryz.ntmps146
  go_upto_region 1 with (fail)
  obtain ⟨V0, hV0⟩ : ∃ V0, V0 = W.alloc (.cells #[.string wd, .string nm, .string vl, .int .i64 an] 175) := ⟨_, rfl⟩
  rw [← hV0] at HTX HBS HCL HCS HBB ⊢
  clear hV0 hz1
  have S0 : Below V0.heap.size V0 V0 := Below.refl _ _
  have S1 : Below V0.heap.size V0 V0.drew := below_drewN S0 1
  obtain ⟨k0, k1, k2, k3, k4⟩ := HCL.out _ S0
  go_wp2_with fail
  go_region_held3 (fun V => V.cell? ⟨gn, 0, none⟩ = some (.slice A n c) ∧ V.cell? ⟨W.heap.size, 0, none⟩ = some (.string wd) ∧ V.cell? ⟨W.heap.size, 1, none⟩ = some (.string nm) ∧ V.cell? ⟨W.heap.size, 2, none⟩ = some (.string vl) ∧ V.cell? ⟨W.heap.size, 3, none⟩ = some (.int .i64 an))
    (first | with_reducible exact HCL.out _ S1 | with_reducible exact HCL.out _ S2 | with_reducible exact HCL.out _ S3)
    (first
      | (go_at_call 148; ((with_reducible refine (HTX.out _ S1).mono ?_); rintro e w2 ⟨rfl, S2⟩))
      | (go_at_call 147; ((with_reducible refine (HBS.out _ S2).mono ?_); rintro e w3 ⟨ix, rfl, hix, hxn, S3⟩)))
  have d6 := HCS.out _ S3
  have hfin := below_call HBB.out S3 (Nat.le_refl _)
  clear HTX HBS HCL HCS
  cases me
  · have hq0 : q < 0 := by
      have := of_decide_eq_false hme2
      omega
    have HR : Hid (v9 = true) := Lib.hid (by rw [HM.out, if_pos hq0])
    clear HM hlo hix hme2 hq0
    go_wp2_with fail
    go_ret
    exact ⟨by rw [HR.out]; rfl, hfin⟩
  · have hq0 := of_decide_eq_true hme2
    have hqi : q = (ix : Int) := hix rfl
    subst hqi
    have hkn : ix < 64 := by omega
    have HR : Hid (v9 = bitS m ix) := Lib.hid (by rw [HM.out, if_neg (by omega), Int.toNat_natCast])
    clear HM hlo hix hme2 hq0
    cases hbit : bitS m ix
    · have hbv := bit_no hm63 hbit
      have HR2 : Hid (v9 = false) := Lib.hid (by rw [HR.out, hbit])
      clear hbit HR
      go_wp2_with fail
      go_ret
      exact ⟨by rw [HR2.out]; rfl, hfin⟩
    · have hbv := bit_yes hm63 hbit
      have HR2 : Hid (v9 = true) := Lib.hid (by rw [HR.out, hbit])
      clear hbit HR
      go_wp2_with fail
      go_ret
      exact ⟨by rw [HR2.out]; rfl, hfin⟩
end Go.Proofs.YtfhdknppldobiaaGreatDoor
