/-
  A strings.Builder as it is written: WriteString, Len, String by contracts; other blocks stay. (Split out of XStp6.)
-/
import Derived.Test.YthbcogekfdllmaaGreatDoorZTxt2
import Derived.Test.YthbcogekfdllmaaGreatDoorZSjoin
import Derived.Shelf.Strings.BuilderK
import Derived.Shelf.Strings.BuilderF
import Derived.Test.YthbcogekfdllmaaGreatDoorZCntS
import Derived.Test.YthbcogekfdllmaaGreatDoorZRule2
import Derived.Test.YthbcogekfdllmaaGreatDoorZSumS
import Derived.Test.YthbcogekfdllmaaGreatDoorZRatMake4
import Derived.Lib.ItoaLen
import Derived.Deep.DeepCutAuto
import Derived.Deep.RegionHeld3
namespace Go.Proofs.YthbcogekfdllmaaGreatDoor
open Go Go.RowKit TxtP

/-- a builder that String() may have read, below a call -/
theorem builderF_below {B b : Nat} {bs : List Value} {w w' : World} (h : Lib.IsBuilderF 189 5 B b bs w) (k : Below w.heap.size w w') : Lib.IsBuilderF 189 5 B b bs w' := by
  have gen : ∀ p, Lib.BuilderAtF 189 5 B b p bs w → Lib.BuilderAtF 189 5 B b p bs w' := by
    intro p hp
    obtain ⟨h1, v, h2, h3, h4⟩ := hp
    refine ⟨h1, v, (k.block b (Array.getElem?_eq_some_iff.1 h2).1).trans h2, ⟨h3.1, ?_⟩, h4⟩
    rcases h3.2 with hn | ⟨g, cap, cur, fz, rfl, hb, hgg, rest⟩
    · exact .inl hn
    · exact .inr ⟨g, cap, cur, fz, rfl, hb, (k.block g (Array.getElem?_eq_some_iff.1 hgg).1).trans hgg, rest⟩
  rcases h with h | h
  · exact Or.inl (gen _ h)
  · exact Or.inr (gen _ h)
theorem Blk.others {w w' : World} {g b : Nat} {t e : TypeId} {cs : Array Value} (h : Blk w g t cs) (k : Lib.OthersKept e (some b) w w') (hg : g ≠ b) (ht : t ≠ e) : Blk w' g t cs :=
  k g _ h (fun h2 => hg (Option.some.inj h2)) (fun c fz h2 => by injection h2 with _ h3 _; exact ht h3)
theorem scells_app (a b : List UInt8) : Lib.byteCells (a ++ b) = Lib.byteCells a ++ Lib.byteCells b := by simp [Lib.byteCells]
theorem writeStringF_calls (B b : Nat) (l : List UInt8) (s : ByteArray) (w : World) (h : Lib.IsBuilderF 189 5 B b (Lib.byteCells l) w) (hl : l.length + s.size ≤ 1000000) (hB : B ≤ w.heap.size) :
    Calls Tryz.prog 102 #[.pointer (some ⟨b, 0, none⟩), .string s] w fun e w' => e = .returned (.tuple #[.int .i64 s.size, .nilIface]) ∧ Lib.IsBuilderF 189 5 B b (Lib.byteCells (l ++ s.data.toList)) w' ∧ Below B w w' ∧ Lib.OthersKept 5 (some b) w w' := by
  refine (Any.Builder_WriteString_k { Tryz.lays156 with } Tryz.Builder_Extra_156 B b (Lib.byteCells l) s w h (by simp [Lib.byteCells]; omega) hB).mono ?_
  rintro e w' ⟨rfl, h1, h2, h3⟩
  refine ⟨rfl, Or.inr ?_, h2, h3⟩
  rw [scells_app]
  exact h1
theorem lenF_calls (B b : Nat) (l : List UInt8) (w : World) (h : Lib.IsBuilderF 189 5 B b (Lib.byteCells l) w) :
    Calls Tryz.prog 103 #[.pointer (some ⟨b, 0, none⟩)] w fun e w' => e = .returned (.int .i64 l.length) ∧ w = w' := by
  refine (Any.Builder_Len_f Tryz.lays170 B b (Lib.byteCells l) w h).mono ?_
  rintro e w' ⟨rfl, h2⟩
  exact ⟨by rw [Lib.byteCells_length], h2.symm⟩
theorem stringF_calls (B b : Nat) (l : List UInt8) (w : World) (h : Lib.IsBuilderF 189 5 B b (Lib.byteCells l) w) (hB : B ≤ w.heap.size) :
    Calls Tryz.prog 104 #[.pointer (some ⟨b, 0, none⟩)] w fun e w' => e = .returned (.string ⟨l.toArray⟩) ∧ Below B w w' :=
  (Any.Builder_String_any_k Tryz.lays169 Tryz.Builder_Extra_169 B b l w h hB).mono (fun _ _ h => ⟨h.1, h.2.2.1⟩)

end Go.Proofs.YthbcogekfdllmaaGreatDoor
/-
  Runs that are written: rule.Text by its contract.
-/
namespace Go.Proofs.YthbcogekfdllmaaGreatDoor
open Go Go.RowKit TxtP

/-- a run's line -/
def rnH (x : Rn) : List UInt8 := x.id.data.toList ++ [32] ++ x.who.data.toList ++ [32] ++ Lib.itoa x.time ++ [32] ++ Lib.itoa x.date
def fldT (p : Pr) : List UInt8 := [32] ++ p.1.data.toList ++ [61] ++ p.2.data.toList
def fldsT (ps : List Pr) : List UInt8 := ps.flatMap fldT
def rnT (x : Rn) : List UInt8 := rnH x ++ fldsT x.fs ++ [10]
def rnsT (xs : List Rn) : List UInt8 := xs.flatMap rnT
theorem fldsT_le {ps : List Pr} (h : ∀ p ∈ ps, p.1.size ≤ 1000 ∧ p.2.size ≤ 1000) : (fldsT ps).length ≤ 2002 * ps.length := by
  induction ps with
  | nil => simp [fldsT]
  | cons a t ih =>
    have h1 := ih (fun p hp => h p (List.mem_cons_of_mem _ hp))
    have h2 := h a (List.mem_cons_self ..)
    have e1 : a.1.data.toList.length = a.1.size := by simp
    have e2 : a.2.data.toList.length = a.2.size := by simp
    unfold fldsT at h1 ⊢
    rw [List.flatMap_cons, List.length_append, List.length_cons]
    unfold fldT
    simp only [List.length_append, List.length_singleton]
    unfold fldT at h1
    omega
theorem rnH_le {x : Rn} (h : RnZ x) : (rnH x).length ≤ 2050 := by
  have h3 := h.hi
  have h4 := h.hw
  have h5 := Lib.itoa_length_le x.time (by have := h.ht; omega) (by have := h.ht; omega)
  have h6 := Lib.itoa_length_le x.date (by have := h.hd; omega) (by have := h.hd; omega)
  have e1 : x.id.data.toList.length = x.id.size := by simp
  have e2 : x.who.data.toList.length = x.who.size := by simp
  unfold rnH
  simp only [List.length_append, List.length_singleton]
  omega
theorem rnT_le {x : Rn} (h : RnZ x) : (rnT x).length ≤ 10100 := by
  have h1 := rnH_le h
  have h2 := fldsT_le h.hf
  have h3 := h.hn
  unfold rnT
  simp only [List.length_append, List.length_singleton]
  omega
theorem rnsT_le {xs : List Rn} (h : RnZs xs) : (rnsT xs).length ≤ 10100 * xs.length := by
  induction xs with
  | nil => simp [rnsT]
  | cons a t ih =>
    have h1 := ih (fun p hp => h p (List.mem_cons_of_mem _ hp))
    have h2 := rnT_le (h a (List.mem_cons_self ..))
    unfold rnsT at h1 ⊢
    rw [List.flatMap_cons, List.length_append, List.length_cons]
    omega
theorem rnsT_take {l : List Rn} {k : Nat} (hk : k < l.length) : rnsT (l.take (k + 1)) = rnsT (l.take k) ++ rnT l[k] := by
  unfold rnsT
  rw [List.take_succ_eq_append_getElem hk, List.flatMap_append]
  simp only [List.flatMap_cons, List.flatMap_nil, List.append_nil]
theorem fldsT_take {l : List Pr} {k : Nat} (hk : k < l.length) : fldsT (l.take (k + 1)) = fldsT (l.take k) ++ fldT l[k] := by
  unfold fldsT
  rw [List.take_succ_eq_append_getElem hk, List.flatMap_append]
  simp only [List.flatMap_cons, List.flatMap_nil, List.append_nil]
theorem RnZs.take {xs : List Rn} (hz : RnZs xs) (k : Nat) : RnZs (xs.take k) := fun x hx => hz x (List.mem_of_mem_take hx)
/-- a run's head, added up -/
abbrev headR (id who tT dT : ByteArray) : ByteArray := sumS (sumS (sumS (sumS (sumS (sumS id ⟨#[32]⟩) who) ⟨#[32]⟩) tT) ⟨#[32]⟩) dT
structure AddR (id who tT dT : ByteArray) : Prop where
  a1 : AddOk id ⟨#[32]⟩
  a2 : AddOk (sumS id ⟨#[32]⟩) who
  a3 : AddOk (sumS (sumS id ⟨#[32]⟩) who) ⟨#[32]⟩
  a4 : AddOk (sumS (sumS (sumS id ⟨#[32]⟩) who) ⟨#[32]⟩) tT
  a5 : AddOk (sumS (sumS (sumS (sumS id ⟨#[32]⟩) who) ⟨#[32]⟩) tT) ⟨#[32]⟩
  a6 : AddOk (sumS (sumS (sumS (sumS (sumS id ⟨#[32]⟩) who) ⟨#[32]⟩) tT) ⟨#[32]⟩) dT
  sz : (headR id who tT dT).size ≤ 2050
theorem addR_of {id who tT dT : ByteArray} (h1 : id.size ≤ 1000) (h2 : who.size ≤ 1000) (h4 : tT.size ≤ 21) (h5 : dT.size ≤ 21) : AddR id who tT dT := by
  have e1 : (⟨#[32]⟩ : ByteArray).size = 1 := rfl
  constructor <;> (try unfold AddOk) <;> (try unfold headR) <;> simp only [sumS_size, e1] <;> omega
theorem headR_data (id who tT dT : ByteArray) : (headR id who tT dT).data.toList = id.data.toList ++ [32] ++ who.data.toList ++ [32] ++ tT.data.toList ++ [32] ++ dT.data.toList := by
  unfold headR
  simp only [sumS_data]
/-- a field, added up -/
abbrev fldS (nm vl : ByteArray) : ByteArray := sumS (sumS (sumS ⟨#[32]⟩ nm) ⟨#[61]⟩) vl
theorem fldS_data (nm vl : ByteArray) : (fldS nm vl).data.toList = fldT (nm, vl) := by
  unfold fldS fldT
  simp only [sumS_data]
def RnTxtR (l : List Rn) (w : World) (e : Ending) (w' : World) : Prop := BRet (.tuple #[.string (if runsF l = 0 then ⟨(rnsT l).toArray⟩ else ⟨#[]⟩), .int .i64 (runsF l)]) w e w'
attribute [local go_sem ↓ high] run_sumS
set_option maxRecDepth 100000 in
set_option maxHeartbeats 4000000 in
theorem runText_calls (b : Nat) (A : Option Addr) (n c : Nat) (l : List Rn) (w : World) (hr : Rns w b A n c l) (hb : b < w.heap.size) (ht : Tab w) (hn : n ≤ 10) (hz : RnZs l) :
    Calls Tryz.prog 39 #[.slice A n c] w (RnTxtR l w) := by
  have HCK := Lib.hid (checkRuns_calls b A n c l w hr hb)
  by_cases hF : runsF l = 0
  · obtain ⟨hl, hnc, hcm, hcells⟩ := hr.rd.cells rnC_len (by omega)
    rw [hF] at HCK
    have hle := rnsT_le hz
    have HR : Hid (∀ w', Below w.heap.size w w' → RnTxtR l w (.returned (.tuple #[.string ⟨(rnsT l).toArray⟩, .int .i64 0])) w') := by
      refine Lib.hid (fun w' h => ?_)
      unfold RnTxtR
      rw [if_pos hF, hF]
      exact ⟨rfl, h⟩
    have HZ := Lib.hid hz
    have HRD := Lib.hid hr.ok
    have HL := Lib.hid hl
    have HCL := Lib.hid hcells
    have hgt : (rnsT l).length ≤ 101000 := by omega
    clear hr hF hz hl hcells hle
    go_enter Tryz.func39, Tryz.ntmps39
    go_wp2_with (first | (go_at_call 87; refine HCK.out.mono ?_; rintro e w1 ⟨rfl, hb1⟩))
    obtain ⟨G, hG⟩ : ∃ G, w1.heap.size = G := ⟨_, rfl⟩
    have hGw : w.heap.size ≤ G := by rw [← hG]; exact hb1.size
    have hI0 : Lib.IsBuilderF 189 5 G G (Lib.byteCells (rnsT (l.take 0))) (w1.alloc (.cells #[.pointer none, .slice none 0 0] 189)) := by
      rw [← hG]; exact Lib.IsBuilderF.of (Lib.fresh_isBuilder _ _ w1)
    have hbA : Below w.heap.size w (w1.alloc (.cells #[.pointer none, .slice none 0 0] 189)) := hb1.alloc hb1.size _
    have hsA : G < (w1.alloc (.cells #[.pointer none, .slice none 0 0] 189)).heap.size := by rw [World.size_alloc, hG]; omega
    rw [hG]
    clear hb1 hG
    go_loopw [17] (fun i wr => ∃ k : Nat, k ≤ n ∧ i = .int .i64 k ∧ Hid (Lib.IsBuilderF 189 5 G G (Lib.byteCells (rnsT (l.take k))) wr) ∧ Below w.heap.size w wr ∧ G < wr.heap.size) (fun i _ => n - (intOf i).toNat)
    case atStart => exact ⟨0, Nat.zero_le _, rfl, Lib.hid hI0, hbA, hsA⟩
    case round =>
      clear hI0 hbA hsA
      obtain ⟨k, hk, rfl, HI, hbr, hsr⟩ := hrel
      by_cases hlt : k < n
      · have hkr : k < l.length := by rw [HL.out]; exact hlt
        obtain ⟨g, o, hA, _, hcs⟩ := HCL.out (by omega)
        subst hA
        have c0 := below_cell hbr (hcs k hkr 0 (by omega))
        have c1 := below_cell hbr (hcs k hkr 1 (by omega))
        have c2 := below_cell hbr (hcs k hkr 2 (by omega))
        have c3 := below_cell hbr (hcs k hkr 3 (by omega))
        have c4 := below_cell hbr (hcs k hkr 4 (by omega))
        have hxz := HZ.out _ (List.getElem_mem hkr)
        have hxr := (HRD.out _ (List.getElem_mem hkr)).rd.below hbr
        have hxw := (HRD.out _ (List.getElem_mem hkr)).rd
        have hlk : (rnsT (l.take k)).length ≤ 101000 := by
          have := rnsT_le (HZ.out.take k)
          rw [List.length_take] at this
          omega
        have htk := rnsT_take hkr
        obtain ⟨x, hx⟩ : ∃ x, x = l[k] := ⟨_, rfl⟩
        rw [← hx] at c0 c1 c2 c3 c4 hxz hxr hxw htk
        obtain ⟨id, who, ti, da, fa, fc, fs⟩ := x
        obtain ⟨m, hm⟩ : ∃ m, fs.length = m := ⟨_, rfl⟩
        replace c0 : wr.cell? ⟨g, o + k * 5, none⟩ = some (.string id) := c0
        replace c1 : wr.cell? ⟨g, o + k * 5 + 1, none⟩ = some (.string who) := c1
        replace c2 : wr.cell? ⟨g, o + k * 5 + 2, none⟩ = some (.int .i64 ti) := c2
        replace c3 : wr.cell? ⟨g, o + k * 5 + 3, none⟩ = some (.int .i64 da) := c3
        replace c4 : wr.cell? ⟨g, o + k * 5 + 4, none⟩ = some (.slice fa m fc) := by rw [← hm]; exact c4
        replace hxr : Rd wr b 2 (.slice fa m fc) m (fs.flatMap prC) := by rw [← hm]; exact hxr
        have HFC : Hid (∀ V, Below w.heap.size w V → Rd V b 2 (.slice fa m fc) m (fs.flatMap prC)) := by
          refine Lib.hid (fun V h => ?_)
          have := hxw.below h
          rw [← hm]; exact this
        have hti : -2199023255552 ≤ ti ∧ ti ≤ 2199023255552 := hxz.ht
        have hda : -2199023255552 ≤ da ∧ da ≤ 2199023255552 := hxz.hd
        have hfz : ∀ p ∈ fs, p.1.size ≤ 1000 ∧ p.2.size ≤ 1000 := hxz.hf
        have hm4 : m ≤ 4 := by rw [← hm]; exact hxz.hn
        obtain ⟨hml, hmc, hmm, hfcells⟩ := hxr.cells prC_len (by omega)
        unfold maxLen at hmm
        obtain ⟨tT, htT⟩ : ∃ t : ByteArray, t = ⟨(Lib.itoa ti).toArray⟩ := ⟨_, rfl⟩
        obtain ⟨dT, hdT⟩ : ∃ t : ByteArray, t = ⟨(Lib.itoa da).toArray⟩ := ⟨_, rfl⟩
        have hAR : AddR id who tT dT := by
          refine addR_of hxz.hi hxz.hw ?_ ?_
          · rw [htT, ba_size]; exact Lib.itoa_length_le ti (by omega) (by omega)
          · rw [hdT, ba_size]; exact Lib.itoa_length_le da (by omega) (by omega)
        obtain ⟨B0, hB0⟩ : ∃ B0, B0 = rnsT (l.take k) := ⟨_, rfl⟩
        obtain ⟨Q1, hQ1⟩ : ∃ Q1, Q1 = B0 ++ (headR id who tT dT).data.toList := ⟨_, rfl⟩
        rw [← hB0] at hlk htk HI
        have HLN : Hid (rnsT (l.take (k + 1)) = Q1 ++ fldsT fs ++ [10]) := by
          refine Lib.hid ?_
          rw [htk, hQ1, headR_data, htT, hdT]
          unfold rnT rnH
          simp only [List.append_assoc]
        have hq1 : Q1.length ≤ 104000 := by
          have h1 := hAR.sz
          have h2 : (headR id who tT dT).data.toList.length = (headR id who tT dT).size := by simp
          rw [hQ1, List.length_append]
          omega
        have HFL : Hid (∀ j, j ≤ fs.length → (fldsT (fs.take j)).length ≤ 9000) := by
          refine Lib.hid (fun j hj => ?_)
          have h1 := fldsT_le (ps := fs.take j) (fun p hp => hfz p (List.mem_of_mem_take hp))
          rw [List.length_take] at h1
          omega
        have HI1 : Hid (∀ V, Tab V → Calls Tryz.prog 90 #[.int .i64 ti] V (BRet (.string tT) V)) := by
          rw [htT]; exact Lib.hid (fun V h => itoa_calls ti (by omega) (by omega) V h)
        have HI2 : Hid (∀ V, Tab V → Calls Tryz.prog 90 #[.int .i64 da] V (BRet (.string dT) V)) := by
          rw [hdT]; exact Lib.hid (fun V h => itoa_calls da (by omega) (by omega) V h)
        obtain ⟨a1, a2, a3, a4, a5, a6, hsz⟩ := hAR
        have HML := Lib.hid hml
        have HFZ := Lib.hid hfz
        have HQ1 := Lib.hid hQ1
        clear hcs hx htT hdT hxz htk hm hB0 hQ1 hfcells hml hfz hxr hxw
        go_upto_region 8 with (fail)
        obtain ⟨V0, hV0, hbV, hkV, hIV, hsV, hHG, hrV⟩ : ∃ V0, V0 = wr.alloc (.cells #[.string id, .string who, .int .i64 ti, .int .i64 da, .slice fa m fc] 101) ∧ Below w.heap.size w V0 ∧ Blk V0 wr.heap.size 101 #[.string id, .string who, .int .i64 ti, .int .i64 da, .slice fa m fc] ∧ Lib.IsBuilderF 189 5 G G (Lib.byteCells B0) V0 ∧ G < V0.heap.size ∧ wr.heap.size ≠ G ∧ Below wr.heap.size wr V0 :=
          ⟨_, rfl, hbr.alloc hbr.size _, Blk.new _ _ _, builderF_below HI.out ((Below.refl _ _).alloc (Nat.le_refl _) _), by rw [World.size_alloc]; omega, by omega, (Below.refl _ _).alloc (Nat.le_refl _) _⟩
        rw [← hV0]
        obtain ⟨H, hH⟩ : ∃ H, H = wr.heap.size := ⟨_, rfl⟩
        rw [← hH] at hkV hHG ⊢
        clear hV0 hH HI c0 c1 c2 c3 c4
        have hbD := below_drewN hbV 1
        have hrD : Below wr.heap.size wr V0.drew := below_drewN hrV 1
        have htD : Tab V0.drew := ht.below hbD
        have hkD : Blk V0.drew H 101 #[.string id, .string who, .int .i64 ti, .int .i64 da, .slice fa m fc] := hkV
        have s0 : V0.cell? ⟨H, 0, none⟩ = some (.string id) ∧ V0.cell? ⟨H, 1, none⟩ = some (.string who) ∧ V0.cell? ⟨H, 2, none⟩ = some (.int .i64 ti) ∧ V0.cell? ⟨H, 3, none⟩ = some (.int .i64 da) := ⟨hkV.cell 0, hkV.cell 1, hkV.cell 2, hkV.cell 3⟩
        have SF : Hid (∀ V, Blk V H 101 #[.string id, .string who, .int .i64 ti, .int .i64 da, .slice fa m fc] → V.cell? ⟨H, 0, none⟩ = some (.string id) ∧ V.cell? ⟨H, 1, none⟩ = some (.string who) ∧ V.cell? ⟨H, 2, none⟩ = some (.int .i64 ti) ∧ V.cell? ⟨H, 3, none⟩ = some (.int .i64 da)) := Lib.hid (fun V h => ⟨h.cell 0, h.cell 1, h.cell 2, h.cell 3⟩)
        have hID : Lib.IsBuilderF 189 5 G G (Lib.byteCells B0) V0.drew := builderF_below hIV (below_drewN (Below.refl _ _) 1)
        have hsD : G < V0.drew.heap.size := hsV
        have HWS : Hid (∀ V, Lib.IsBuilderF 189 5 G G (Lib.byteCells B0) V → G ≤ V.heap.size → Blk V H 101 #[.string id, .string who, .int .i64 ti, .int .i64 da, .slice fa m fc] → Calls Tryz.prog 102 #[.pointer (some ⟨G, 0, none⟩), .string (headR id who tT dT)] V (fun e w' => e = .returned (.tuple #[.int .i64 (headR id who tT dT).size, .nilIface]) ∧ Hid (Lib.IsBuilderF 189 5 G G (Lib.byteCells Q1) w') ∧ Below G V w' ∧ Blk w' H 101 #[.string id, .string who, .int .i64 ti, .int .i64 da, .slice fa m fc])) := by
          refine Lib.hid (fun V h1 h2 h3 => (writeStringF_calls G G _ (headR id who tT dT) V h1 (by omega) h2).mono ?_)
          rintro e w' ⟨rfl, g1, g2, g3⟩
          exact ⟨rfl, by rw [HQ1.out]; exact Lib.hid g1, g2, h3.others g3 hHG (by decide)⟩
        clear hlk
        go_cut [] (fun V => ∃ V2 : World, V = V2 ∧ Hid (Lib.IsBuilderF 189 5 G G (Lib.byteCells Q1) V) ∧ Below w.heap.size w V ∧ G < V.heap.size ∧ Blk V H 101 #[.string id, .string who, .int .i64 ti, .int .i64 da, .slice fa m fc] ∧ Below wr.heap.size wr V0.drew)
        case first =>
          go_region_held3 (fun V => V.cell? ⟨H, 0, none⟩ = some (.string id) ∧ V.cell? ⟨H, 1, none⟩ = some (.string who) ∧ V.cell? ⟨H, 2, none⟩ = some (.int .i64 ti) ∧ V.cell? ⟨H, 3, none⟩ = some (.int .i64 da))
            (first | exact s0 | exact sA | exact sB | exact sE | go_keep)
            (first
              | (go_at_call 90; ((with_reducible refine (HI1.out _ htD).mono ?_); rintro e wA ⟨rfl, hbA⟩; have hkA := hkD.below hbA; have sA := SF.out _ hkA; have hIA := builderF_below hID hbA; have htA := htD.below hbA))
              | (go_at_call 90; ((with_reducible refine (HI2.out _ htA).mono ?_); rintro e wB ⟨rfl, hbB⟩; have hkB := hkA.below hbB; have sB := SF.out _ hkB; have hIB := builderF_below hIA hbB; have hzB := Nat.le_trans (Nat.le_trans (Nat.le_of_lt hsD) hbA.size) hbB.size))
              | (go_at_call 102; ((with_reducible refine (HWS.out _ hIB hzB hkB).mono ?_); rintro e wE ⟨rfl, HIE, hbE, hkE⟩; have sE := SF.out _ hkE)))
          all_goals
            have hb1 := below_call (below_call hbD hbA (Nat.le_refl _)) hbB (Nat.le_refl _)
            have hbX : Below w.heap.size w wE := hb1.trans (hbE.mono hGw)
            have hsX : G < wE.heap.size := by
              have h1 := hbA.size
              have h2 := hbB.size
              have h4 := hbE.size
              omega
            go_wp2_with fail
            go_meet
            exact ⟨_, rfl, HIE, hbX, hsX, hkE, hrD⟩
        case rest =>
          obtain ⟨V2, rfl, HIE, hbX, hsX, hkE, _⟩ := hcut
          have y4 := hkE.cell 4
          clear s0 SF hkD hkV hID hIV a1 a2 a3 a4 a5 a6 HI1 HI2 HWS hrV hrD
          have hI1 : Lib.IsBuilderF 189 5 G G (Lib.byteCells (Q1 ++ fldsT (fs.take 0))) wc := by
            have := HIE.out
            rw [show Q1 ++ fldsT (fs.take 0) = Q1 from by simp [fldsT]]
            exact this
          have HI2 := Lib.hid hI1
          clear hI1 HIE hkE
          go_wp2_with fail
          go_loopw [41] (fun i wr => ∃ j : Nat, j ≤ m ∧ i = .int .i64 j ∧ Hid (Lib.IsBuilderF 189 5 G G (Lib.byteCells (Q1 ++ fldsT (fs.take j))) wr) ∧ Below w.heap.size w wr ∧ G < wr.heap.size) (fun i _ => m - (intOf i).toNat)
          case atStart => exact ⟨0, Nat.zero_le _, rfl, HI2, hbX, hsX⟩
          case round =>
            clear HI2 hbX hsX y4 hbr hsr
            obtain ⟨j, hj, rfl, HJ, hbq, hsq⟩ := hrel
            by_cases hjm : j < m
            · have hjr : j < fs.length := by rw [HML.out]; exact hjm
              obtain ⟨_, _, _, hfc⟩ := (HFC.out _ hbq).cells prC_len (by omega)
              obtain ⟨g', o', hA', _, hcs⟩ := hfc (by omega)
              subst hA'
              have d0 := hcs j hjr 0 (by omega)
              have d1 := hcs j hjr 1 (by omega)
              have hpz := HFZ.out _ (List.getElem_mem hjr)
              have hlj := HFL.out j (Nat.le_of_lt hjr)
              have htj := fldsT_take hjr
              obtain ⟨p, hp⟩ : ∃ p, p = fs[j] := ⟨_, rfl⟩
              rw [← hp] at d0 d1 hpz htj
              obtain ⟨nm, vl⟩ := p
              replace d0 : wr.cell? ⟨g', o' + j * 2, none⟩ = some (.string nm) := d0
              replace d1 : wr.cell? ⟨g', o' + j * 2 + 1, none⟩ = some (.string vl) := d1
              obtain ⟨hp1, hp2⟩ : nm.size ≤ 1000 ∧ vl.size ≤ 1000 := hpz
              have z1 : (⟨#[32]⟩ : ByteArray).size = 1 := rfl
              have z2 : (⟨#[61]⟩ : ByteArray).size = 1 := rfl
              have e1 : AddOk ⟨#[32]⟩ nm := by unfold AddOk; omega
              have e2 : AddOk (sumS ⟨#[32]⟩ nm) ⟨#[61]⟩ := by unfold AddOk; simp only [sumS_size]; omega
              have e3 : AddOk (sumS (sumS ⟨#[32]⟩ nm) ⟨#[61]⟩) vl := by unfold AddOk; simp only [sumS_size]; omega
              have HQJ : Hid (Q1 ++ fldsT (fs.take (j + 1)) = (Q1 ++ fldsT (fs.take j)) ++ (fldS nm vl).data.toList) := Lib.hid (by rw [htj, fldS_data]; simp)
              have hql : (Q1 ++ fldsT (fs.take j)).length ≤ 113000 := by rw [List.length_append]; omega
              have hfs : (fldS nm vl).size ≤ 2010 := by unfold fldS; simp only [sumS_size]; omega
              obtain ⟨BJ, hBJ⟩ : ∃ BJ, BJ = Q1 ++ fldsT (fs.take j) := ⟨_, rfl⟩
              rw [← hBJ] at hql HQJ HJ
              have HWS : Hid (∀ V, Lib.IsBuilderF 189 5 G G (Lib.byteCells BJ) V → G ≤ V.heap.size → Calls Tryz.prog 102 #[.pointer (some ⟨G, 0, none⟩), .string (fldS nm vl)] V (fun e w' => e = .returned (.tuple #[.int .i64 (fldS nm vl).size, .nilIface]) ∧ Hid (Lib.IsBuilderF 189 5 G G (Lib.byteCells (Q1 ++ fldsT (fs.take (j + 1)))) w') ∧ Below G V w')) := by
                refine Lib.hid (fun V h1 h2 => (writeStringF_calls G G _ (fldS nm vl) V h1 (by omega) h2).mono ?_)
                rintro e w' ⟨rfl, q1, q2, q3⟩
                exact ⟨rfl, by rw [HQJ.out]; exact Lib.hid q1, q2⟩
              have hj0 : (0 : Int) ≤ (j : Int) := by omega
              have hjm2 : (j : Int) < (m : Int) := by omega
              clear hp htj hBJ hcs hfc
              go_wp2_with (first
                | (go_at_call 102; refine (HWS.out _ (builderF_below HJ.out ((Below.refl _ _).alloc (Nat.le_refl _) _)) (by rw [World.size_alloc]; omega)).mono ?_; rintro e w8 ⟨rfl, HI8, hb8⟩; have hz8 := hb8.size))
              rw [World.size_alloc] at hz8
              have hbz := (hbq.alloc hbq.size (.cells #[.string nm, .string vl] 75)).trans (hb8.mono hGw)
              go_roundw
              case rel => exact ⟨j + 1, by omega, by go_num, HI8, hbz, by omega⟩
              case measure => simp [intOf]; omega
            · obtain rfl : j = m := by omega
              have e9 : fs.take j = fs := List.take_of_length_le (by rw [HML.out]; exact Nat.le_refl _)
              have hlj := HFL.out j (by rw [HML.out]; exact Nat.le_refl _)
              rw [e9] at HJ hlj
              have hql : (Q1 ++ fldsT fs).length ≤ 113000 := by rw [List.length_append]; omega
              have HWS := Lib.hid (writeStringF_calls G G _ ⟨#[10]⟩ wr HJ.out (by have : (⟨#[10]⟩ : ByteArray).size = 1 := rfl; omega) (Nat.le_of_lt hsq))
              clear HJ e9
              go_wp2_with (first
                | (go_at_call 102; refine HWS.out.mono ?_; rintro e w8 ⟨rfl, q1, q2, q3⟩; have HI8 : Hid (Lib.IsBuilderF 189 5 G G (Lib.byteCells (rnsT (l.take (k + 1)))) w8) := (by rw [HLN.out]; exact Lib.hid q1); have hz8 := q2.size; have hbz := hbq.trans (q2.mono hGw); clear q1))
              go_roundw
              case rel => exact ⟨k + 1, by omega, by go_num, HI8, hbz, by omega⟩
              case measure => simp [intOf]; omega
      · obtain rfl : k = n := by omega
        have hIZ : Lib.IsBuilderF 189 5 G G (Lib.byteCells (rnsT l)) wr := by
          have := HI.out
          rwa [List.take_of_length_le (by rw [HL.out]; exact Nat.le_refl _)] at this
        have HLEN := Lib.hid (lenF_calls G G _ wr hIZ)
        have HSTR := Lib.hid (stringF_calls G G _ wr hIZ (by omega))
        obtain ⟨m, hm⟩ : ∃ m, m = (rnsT l).length := ⟨_, rfl⟩
        rw [← hm] at HLEN hgt
        clear HI hIZ hm
        go_wp2_with (first
          | (go_at_call 103; refine HLEN.out.mono ?_; rintro e w3 ⟨rfl, rfl⟩)
          | (go_at_call 104; refine HSTR.out.mono ?_; rintro e w4 ⟨rfl, hb4⟩))
        go_ret2
        exact HR.out _ (hbr.trans (hb4.mono hGw))
  · have HR : Hid (∀ w', Below w.heap.size w w' → RnTxtR l w (.returned (.tuple #[.string ⟨#[]⟩, .int .i64 (runsF l)])) w') := by
      refine Lib.hid (fun w' h => ?_)
      unfold RnTxtR
      rw [if_neg hF]
      exact ⟨rfl, h⟩
    obtain ⟨F, hFv⟩ : ∃ F, F = runsF l := ⟨_, rfl⟩
    rw [← hFv] at HCK HR hF
    have hFb : (F == 0) = false := by simpa using hF
    clear hFv hF hr hz
    go_enter Tryz.func39, Tryz.ntmps39
    go_wp2_with (first | (go_at_call 87; refine HCK.out.mono ?_; rintro e w1 ⟨rfl, hb1⟩))
    go_ret2
    exact HR.out _ hb1
end Go.Proofs.YthbcogekfdllmaaGreatDoor
