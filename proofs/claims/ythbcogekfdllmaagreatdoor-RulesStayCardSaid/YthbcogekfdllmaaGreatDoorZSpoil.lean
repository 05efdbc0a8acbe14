/-
  spoil of strings, pairs, places and slots by contracts: they turn their rows alone. (Turned out of XTst4 by gen_spoil.py's lines.)
-/
import Derived.Test.YthbcogekfdllmaaGreatDoorZRatMake4
import Derived.Test.YthbcogekfdllmaaGreatDoorZBs
import Derived.Test.YthbcogekfdllmaaGreatDoorZSlotPure
import Derived.Test.YthbcogekfdllmaaGreatDoorZCntS
namespace Go.Proofs.YthbcogekfdllmaaGreatDoor
open Go Go.RowKit
attribute [local go_sem ↓] Go.wp_at_zero Go.wp_at_succ

def SpoilM (base : Nat) (w : World) (e : Ending) (w' : World) : Prop := e = .returned (.tuple #[]) ∧ Below base w w'
theorem below_setM {B : Nat} {w w' : World} (h : Below B w w') {g i : Nat} (hg : B ≤ g) (u : Value) : Below B w (w'.setCell ⟨g, i, none⟩ u) :=
  ⟨h.os, h.tape, h.output, by have := h.size; simpa [World.setCell] using this, fun k hk => (Below.heap_setCell w' ⟨g, i, none⟩ u k (by show k ≠ g; omega)).trans (h.block k hk)⟩
/-- what holds still when cells of a block are turned into empty strings -/
def KeepsS (A : Option Addr) (w w' : World) : Prop := ∀ P : World → Prop, (∀ V g i, A = some ⟨g, 0, none⟩ → P V → P (V.setCell ⟨g, i, none⟩ (.string ⟨#[]⟩))) → P w → P w'
theorem KeepsS.refl (A : Option Addr) (w : World) : KeepsS A w w := fun _ _ h => h
theorem KeepsS.set {w w' : World} {g : Nat} (h : KeepsS (some ⟨g, 0, none⟩) w w') (i : Nat) : KeepsS (some ⟨g, 0, none⟩) w (w'.setCell ⟨g, i, none⟩ (.string ⟨#[]⟩)) := fun P hP h0 => hP _ g i rfl (h P hP h0)
theorem strsV_flatS (l : List ByteArray) : strsV l = l.flatMap (fun x => [Value.string x]) := by
  unfold strsV
  induction l with
  | nil => rfl
  | cons a t ih => rw [List.flatMap_cons, List.map_cons, ih]; rfl
set_option maxRecDepth 100000 in
theorem spoilStr_calls (base n : Nat) (A : Option Addr) (c : Nat) (l : List ByteArray) (w : World) (ho : w.ownsRow base 9 1 (.slice A n c) n (strsV l)) (hl : l.length = n) :
    Calls Tryz.prog 22 #[.slice A n c] w (fun e w' => e = .returned (.tuple #[]) ∧ KeepsS A w w') := by
  have hcap := own_cap ho
  unfold maxLen at hcap
  have ho' : w.ownsRow base 9 1 (.slice A n c) n (l.flatMap (fun x => [Value.string x])) := by
    rw [← strsV_flatS]
    exact ho
  have hF := Lib.hid hl
  clear ho hl
  go_enter Tryz.func22, Tryz.ntmps22
  go_wp2_with fail
  go_loopw [6] (fun i wr => ∃ (k : Nat) (ys : List ByteArray), k ≤ n ∧ i = .int .i64 k ∧ Hid (ys.length = n) ∧ Hid (KeepsS A w wr) ∧ wr.ownsRow base 9 1 (.slice A n c) n (ys.flatMap (fun x => [Value.string x]))) (fun i _ => n - (intOf i).toNat)
  case atStart => exact ⟨0, l, Nat.zero_le _, rfl, hF, Lib.hid (KeepsS.refl _ _), ho'⟩
  case round =>
    clear ho'
    obtain ⟨k, ys, hk, rfl, HL, HB, ho⟩ := hrel
    by_cases hlt : k < n
    · obtain ⟨g, cap, hv, hg, _⟩ := ho.form (by omega)
      injection hv with hA _ hc
      subst hA hc
      have hky : k < ys.length := by rw [HL.out]; exact hlt
      have x0 := own_cell (fun x => [Value.string x]) 1 (fun _ => rfl) ho k 0 hky (by omega) (by omega)
      rw [Nat.mul_one, Nat.add_zero] at x0
      replace x0 : wr.cell? ⟨g, k, none⟩ = some (.string ys[k]) := x0
      have f0 := ho.frozenAt k
      have hst := own_store (fun x => [Value.string x]) 1 (fun _ => rfl) (by rw [HL.out]; exact ho) k 0 hky (by omega) (.string ⟨#[]⟩) ⟨#[]⟩ rfl
      rw [List.length_set, HL.out, Nat.mul_one, Nat.add_zero] at hst
      have HB2 : Hid (KeepsS (some ⟨g, 0, none⟩) w (wr.setCell ⟨g, k, none⟩ (.string ⟨#[]⟩))) := Lib.hid (HB.out.set k)
      have HL2 : Hid ((ys.set k ⟨#[]⟩).length = n) := by show _ = _; rw [List.length_set]; exact HL.out
      have hk0 : (0 : Int) ≤ (k : Int) := by omega
      have hk1 : (k : Int) < (n : Int) := by omega
      clear ho HB
      go_wp2_with fail
      go_roundw
      case rel => exact ⟨k + 1, _, by omega, by go_num, HL2, HB2, hst⟩
      case measure => simp [intOf]; omega
    · obtain rfl : k = n := by omega
      go_wp2_with fail
      go_end0
      exact ⟨rfl, HB.out⟩
set_option maxRecDepth 100000 in
set_option maxHeartbeats 1000000 in
theorem spoilPr_calls (base n : Nat) (A : Option Addr) (c : Nat) (l : List Pr) (w : World) (ho : w.ownsRow base 75 2 (.slice A n c) n (l.flatMap prC)) (hl : l.length = n) (hb : base ≤ w.heap.size) :
    Calls Tryz.prog 27 #[.slice A n c] w (SpoilM base w) := by
  have hcap := own_cap ho
  unfold maxLen at hcap
  have hz := (Blk.new w 75 #[.string ⟨#[]⟩, .string ⟨#[]⟩])
  have hB0 : Below base w (w.alloc (.cells #[.string ⟨#[]⟩, .string ⟨#[]⟩] 75)) := (Below.refl _ _).alloc hb _
  have hgz : ∀ g, (Value.slice A n c).ownBlock = some g → g < w.heap.size := fun g hg => (ho.lt g hg).2
  have ho' := ho.alloc (.cells #[.string ⟨#[]⟩, .string ⟨#[]⟩] 75)
  obtain ⟨gz, hgz2⟩ : ∃ gz, w.heap.size = gz := ⟨_, rfl⟩
  rw [hgz2] at hz hgz
  have hF := Lib.hid hl
  have HB0 := Lib.hid hB0
  clear hl ho hB0 hb
  go_enter Tryz.func27, Tryz.ntmps27
  go_wp2_with fail
  go_loopw [6] (fun i wr => ∃ (k : Nat) (ys : List Pr), k ≤ n ∧ i = .int .i64 k ∧ Hid (ys.length = n) ∧ Hid (Below base w wr) ∧ Blk wr gz 75 #[.string ⟨#[]⟩, .string ⟨#[]⟩] ∧ wr.ownsRow base 75 2 (.slice A n c) n (ys.flatMap prC)) (fun i _ => n - (intOf i).toNat)
  case atStart => exact ⟨0, l, Nat.zero_le _, rfl, hF, HB0, hz, ho'⟩
  case round =>
    clear ho' hz hgz2
    obtain ⟨k, ys, hk, rfl, HL, HB, B, ho⟩ := hrel
    by_cases hlt : k < n
    · obtain ⟨g, cap, hv, hg, _⟩ := ho.form (by omega)
      injection hv with hA _ hc
      subst hA hc
      have hne : gz ≠ g := by have := hgz g rfl; omega
      have hky : k < ys.length := by rw [HL.out]; exact hlt
      obtain ⟨y, hy⟩ : ∃ y, ys[k] = y := ⟨_, rfl⟩
      have x0 := own_cell prC 2 prC_len ho k 0 hky (by omega) (by omega)
      rw [hy] at x0
      replace x0 : wr.cell? ⟨g, k * 2, none⟩ = some (.string y.1) := x0
      have x1 := own_cell prC 2 prC_len ho k 1 hky (by omega) (by omega)
      rw [hy] at x1
      replace x1 : wr.cell? ⟨g, k * 2 + 1, none⟩ = some (.string y.2) := x1
      have f0 := ho.frozenAt (k * 2)
      have f1 := ho.frozenAt (k * 2 + 1)
      have z0 := B.cell 0
      have z1 := B.cell 1
      have hk0 : (0 : Int) ≤ (k : Int) := by omega
      have hk1 : (k : Int) < (n : Int) := by omega
      have s0 := own_store prC 2 prC_len (by rw [HL.out]; exact ho) k 0 hky (by omega) (.string ⟨#[]⟩) (⟨#[]⟩, y.2) (by rw [hy]; rfl)
      have hk_0 : k < (ys.set k (⟨#[]⟩, y.2)).length := by simp only [List.length_set]; exact hky
      have s1 := own_store prC 2 prC_len s0 k 1 hk_0 (by omega) (.string ⟨#[]⟩) (⟨#[]⟩, ⟨#[]⟩) (by simp [prC])
      have hk_1 : k < ((ys.set k (⟨#[]⟩, y.2)).set k (⟨#[]⟩, ⟨#[]⟩)).length := by simp only [List.length_set]; exact hky
      have HL2 : Hid (((ys.set k (⟨#[]⟩, y.2)).set k (⟨#[]⟩, ⟨#[]⟩)).length = n) := by show _ = _; simp only [List.length_set]; exact HL.out
      rw [HL2.out] at s1
      have HB2 : Hid (Below base w ((wr.setCell ⟨g, k * 2 + 0, none⟩ (.string ⟨#[]⟩)).setCell ⟨g, k * 2 + 1, none⟩ (.string ⟨#[]⟩))) := below_setM (below_setM (HB.out) hg _) hg _
      have B2 := ((B.far (p := ⟨g, k * 2 + 0, none⟩) hne (.string ⟨#[]⟩)).far (p := ⟨g, k * 2 + 1, none⟩) hne (.string ⟨#[]⟩))
      clear ho HB B s0 hy
      go_wp2_with fail
      go_roundw
      case rel => exact ⟨k + 1, _, by omega, by go_num, HL2, HB2, B2, s1⟩
      case measure => simp [intOf]; omega
    · obtain rfl : k = n := by omega
      go_wp2_with fail
      go_end0
      exact ⟨rfl, HB.out⟩
end Go.Proofs.YthbcogekfdllmaaGreatDoor
/-
  spoil of pairs told with what holds still; the fields of new runs turned into empty pairs, one run after the other: the runs' row and the rest of memory stay.
-/
namespace Go.Proofs.YthbcogekfdllmaaGreatDoor
open Go Go.RowKit
attribute [local go_sem ↓] Go.wp_at_zero Go.wp_at_succ

/-- what holds still when cells of a block are turned into empty strings, and blocks are laid -/
def KeepsP (A : Option Addr) (w w' : World) : Prop := ∀ P : World → Prop, (∀ V g i, A = some ⟨g, 0, none⟩ → P V → P (V.setCell ⟨g, i, none⟩ (.string ⟨#[]⟩))) → (∀ V o, P V → P (V.alloc o)) → P w → P w'
theorem KeepsP.refl (A : Option Addr) (w : World) : KeepsP A w w := fun _ _ _ h => h
theorem KeepsP.set {w w' : World} {g : Nat} (h : KeepsP (some ⟨g, 0, none⟩) w w') (i : Nat) : KeepsP (some ⟨g, 0, none⟩) w (w'.setCell ⟨g, i, none⟩ (.string ⟨#[]⟩)) := fun P hP hA h0 => hP _ g i rfl (h P hP hA h0)
theorem KeepsP.alloc {A : Option Addr} {w w' : World} (h : KeepsP A w w') (o : Obj) : KeepsP A w (w'.alloc o) := fun P hP hA h0 => hA _ o (h P hP hA h0)
set_option maxRecDepth 100000 in
set_option maxHeartbeats 1000000 in
theorem spoilPrK_calls (base n : Nat) (A : Option Addr) (c : Nat) (l : List Pr) (w : World) (ho : w.ownsRow base 75 2 (.slice A n c) n (l.flatMap prC)) (hl : l.length = n) :
    Calls Tryz.prog 27 #[.slice A n c] w (fun e w' => e = .returned (.tuple #[]) ∧ KeepsP A w w') := by
  have hcap := own_cap ho
  unfold maxLen at hcap
  have hz := (Blk.new w 75 #[.string ⟨#[]⟩, .string ⟨#[]⟩])
  have hB0 : KeepsP A w (w.alloc (.cells #[.string ⟨#[]⟩, .string ⟨#[]⟩] 75)) := (KeepsP.refl _ _).alloc _
  have hgz : ∀ g, (Value.slice A n c).ownBlock = some g → g < w.heap.size := fun g hg => (ho.lt g hg).2
  have ho' := ho.alloc (.cells #[.string ⟨#[]⟩, .string ⟨#[]⟩] 75)
  obtain ⟨gz, hgz2⟩ : ∃ gz, w.heap.size = gz := ⟨_, rfl⟩
  rw [hgz2] at hz hgz
  have hF := Lib.hid hl
  have HB0 := Lib.hid hB0
  clear hl ho hB0
  go_enter Tryz.func27, Tryz.ntmps27
  go_wp2_with fail
  go_loopw [6] (fun i wr => ∃ (k : Nat) (ys : List Pr), k ≤ n ∧ i = .int .i64 k ∧ Hid (ys.length = n) ∧ Hid (KeepsP A w wr) ∧ Blk wr gz 75 #[.string ⟨#[]⟩, .string ⟨#[]⟩] ∧ wr.ownsRow base 75 2 (.slice A n c) n (ys.flatMap prC)) (fun i _ => n - (intOf i).toNat)
  case atStart => exact ⟨0, l, Nat.zero_le _, rfl, hF, HB0, hz, ho'⟩
  case round =>
    clear ho' hz hgz2
    obtain ⟨k, ys, hk, rfl, HL, HB, B, ho⟩ := hrel
    by_cases hlt : k < n
    · obtain ⟨g, cap, hv, hg, _⟩ := ho.form (by omega)
      injection hv with hA _ hc
      subst hA hc
      have hne : gz ≠ g := by have := hgz g rfl; omega
      have hky : k < ys.length := by rw [HL.out]; exact hlt
      obtain ⟨y, hy⟩ : ∃ y, ys[k] = y := ⟨_, rfl⟩
      have x0 := own_cell prC 2 prC_len ho k 0 hky (by omega) (by omega)
      rw [hy] at x0
      replace x0 : wr.cell? ⟨g, k * 2, none⟩ = some (.string y.1) := x0
      have x1 := own_cell prC 2 prC_len ho k 1 hky (by omega) (by omega)
      rw [hy] at x1
      replace x1 : wr.cell? ⟨g, k * 2 + 1, none⟩ = some (.string y.2) := x1
      have f0 := ho.frozenAt (k * 2)
      have f1 := ho.frozenAt (k * 2 + 1)
      have z0 := B.cell 0
      have z1 := B.cell 1
      have hk0 : (0 : Int) ≤ (k : Int) := by omega
      have hk1 : (k : Int) < (n : Int) := by omega
      have s0 := own_store prC 2 prC_len (by rw [HL.out]; exact ho) k 0 hky (by omega) (.string ⟨#[]⟩) (⟨#[]⟩, y.2) (by rw [hy]; rfl)
      have hk_0 : k < (ys.set k (⟨#[]⟩, y.2)).length := by simp only [List.length_set]; exact hky
      have s1 := own_store prC 2 prC_len s0 k 1 hk_0 (by omega) (.string ⟨#[]⟩) (⟨#[]⟩, ⟨#[]⟩) (by simp [prC])
      have hk_1 : k < ((ys.set k (⟨#[]⟩, y.2)).set k (⟨#[]⟩, ⟨#[]⟩)).length := by simp only [List.length_set]; exact hky
      have HL2 : Hid (((ys.set k (⟨#[]⟩, y.2)).set k (⟨#[]⟩, ⟨#[]⟩)).length = n) := by show _ = _; simp only [List.length_set]; exact HL.out
      rw [HL2.out] at s1
      have HB2 : Hid (KeepsP (some ⟨g, 0, none⟩) w ((wr.setCell ⟨g, k * 2 + 0, none⟩ (.string ⟨#[]⟩)).setCell ⟨g, k * 2 + 1, none⟩ (.string ⟨#[]⟩))) := Lib.hid ((HB.out.set _).set _)
      have B2 := ((B.far (p := ⟨g, k * 2 + 0, none⟩) hne (.string ⟨#[]⟩)).far (p := ⟨g, k * 2 + 1, none⟩) hne (.string ⟨#[]⟩))
      clear ho HB B s0 hy
      go_wp2_with fail
      go_roundw
      case rel => exact ⟨k + 1, _, by omega, by go_num, HL2, HB2, B2, s1⟩
      case measure => simp [intOf]; omega
    · obtain rfl : k = n := by omega
      go_wp2_with fail
      go_end0
      exact ⟨rfl, HB.out⟩
/-- a row of pairs, whichever -/
def PrRow (W : World) (base : Nat) (v : Value) (n : Nat) : Prop := ∃ hs : List ByteArray, hs.length = 2 * n ∧ W.ownsRow base 75 2 v n (strsV hs)
theorem prs_strs : ∀ (l : List Pr), l.flatMap prC = strsV (l.flatMap (fun p => [p.1, p.2]))
  | [] => rfl
  | p :: l => by
    show prC p ++ l.flatMap prC = strsV ([p.1, p.2] ++ l.flatMap (fun p => [p.1, p.2]))
    rw [prs_strs l]
    unfold strsV
    rw [List.map_append]
    rfl
theorem strs_prs : ∀ (n : Nat) (hs : List ByteArray), hs.length = 2 * n → ∃ l : List Pr, l.length = n ∧ strsV hs = l.flatMap prC
  | 0, hs, h => ⟨[], rfl, by have : hs = [] := List.length_eq_zero_iff.1 (by omega); subst this; rfl⟩
  | n + 1, hs, h => by
    match hs, h with
    | a :: c :: t, h =>
      obtain ⟨l, h1, h2⟩ := strs_prs n t (by simp at h; omega)
      refine ⟨(a, c) :: l, by simp [h1], ?_⟩
      show [Value.string a, Value.string c] ++ strsV t = prC (a, c) ++ l.flatMap prC
      rw [h2]
      rfl
    | [_], h => simp at h; omega
    | [], h => simp at h
theorem strsVP_set (hs : List ByteArray) (i : Nat) (s : ByteArray) : (strsV hs).set i (.string s) = strsV (hs.set i s) := by unfold strsV; rw [List.map_set]
theorem PrRow.of {W : World} {base n : Nat} {v : Value} {l : List Pr} (h : W.ownsRow base 75 2 v n (l.flatMap prC)) (hl : l.length = n) : PrRow W base v n := by
  rw [prs_strs] at h
  refine ⟨_, ?_, h⟩
  subst hl
  clear h
  induction l with
  | nil => rfl
  | cons p l ih => rw [List.flatMap_cons, List.length_append, ih]; simp; omega
theorem PrRow.prs {W : World} {base n : Nat} {v : Value} (h : PrRow W base v n) : ∃ l : List Pr, l.length = n ∧ W.ownsRow base 75 2 v n (l.flatMap prC) := by
  obtain ⟨hs, hl, ho⟩ := h
  obtain ⟨l, h1, h2⟩ := strs_prs n hs hl
  rw [h2] at ho
  exact ⟨l, h1, ho⟩
theorem PrRow.set {W : World} {base n g : Nat} {v : Value} (h : PrRow W base v n) (i : Nat) (s : ByteArray) : PrRow (W.setCell ⟨g, i, none⟩ (.string s)) base v n := by
  obtain ⟨hs, hl, ho⟩ := h
  by_cases hv : v.ownBlock = some g
  · rcases ho.2 with ⟨h1, _⟩ | ⟨g2, cap, cur, h1, _⟩
    · subst h1; cases hv
    · subst h1
      have hg : g2 = g := by injection hv
      subst hg
      have h2 := (ho.stored i (.string s)).1
      rw [strsVP_set] at h2
      exact ⟨hs.set i s, by rw [List.length_set]; exact hl, h2⟩
  · exact ⟨hs, hl, ownsRow_setCell_other ho hv _⟩
theorem PrRow.alloc {W : World} {base n : Nat} {v : Value} (h : PrRow W base v n) (o : Obj) : PrRow (W.alloc o) base v n := by
  obtain ⟨hs, hl, ho⟩ := h
  exact ⟨hs, hl, ho.alloc o⟩
/-- what holds between the rounds -/
structure FldI (M : Nat) (w : World) (v : Value) (ys : List Rn) (W : World) : Prop where
  bel : Below M w W
  sz : M ≤ W.heap.size
  row : W.ownsRow M 101 5 v ys.length (ys.flatMap rnC)
  fld : ∀ x ∈ ys, PrRow W M (.slice x.fa x.fs.length x.fc) x.fs.length
theorem FldI.keeps {M : Nat} {w W W' : World} {v : Value} {ys : List Rn} (h : FldI M w v ys W) {x : Rn} (hx : x ∈ ys) (hap : ∀ x ∈ ys, ∀ g, (Value.slice x.fa x.fs.length x.fc).ownBlock = some g → M ≤ g ∧ v.ownBlock ≠ some g) (hk : KeepsP x.fa W W') : FldI M w v ys W' :=
  hk (FldI M w v ys) (fun V g i hA hV => by
    obtain ⟨h1, h2⟩ := hap x hx g (by rw [hA]; rfl)
    exact ⟨below_setM hV.bel h1 _, by simpa [World.setCell] using hV.sz, ownsRow_setCell_other hV.row h2 _, fun y hy => (hV.fld y hy).set i _⟩)
    (fun V o hV => ⟨hV.bel.alloc hV.sz o, by have := hV.sz; simp; omega, hV.row.alloc o, fun y hy => (hV.fld y hy).alloc o⟩) h
/-- of what Read makes -/
theorem fldI_start {w W : World} {v : Value} {ys : List Rn} (h : Sq w W [rOwn w.heap.size 101 5 v ys.length (ys.flatMap rnC), rAll (fldR w.heap.size) ys]) :
    FldI w.heap.size w v ys W ∧ ∀ x ∈ ys, ∀ g, (Value.slice x.fa x.fs.length x.fc).ownBlock = some g → w.heap.size ≤ g ∧ v.ownBlock ≠ some g := by
  have h1 : W.ownsRow w.heap.size 101 5 v ys.length (ys.flatMap rnC) := h.head
  have h2 : ∀ x ∈ ys, (fldR w.heap.size x).P W := h.tail.head
  refine ⟨⟨h.below, h.below.size, h1, fun x hx => PrRow.of (h2 x hx) rfl⟩, fun x hx g hg => ⟨(h.tail.hp.new _ (List.mem_cons_self ..) g ⟨x, hx, hg⟩).1, fun hv => ?_⟩⟩
  exact (List.pairwise_cons.1 h.hp.apart).1 _ (List.mem_cons_self ..) g hv ⟨x, hx, hg⟩
end Go.Proofs.YthbcogekfdllmaaGreatDoor
