/-
  Slots that are written: marathon.Text by its contract.
-/
import Derived.Test.YtaendemgkabdfaaGreatDoorZSltPure
import Derived.Test.YtaendemgkabdfaaGreatDoorZBldF
import Derived.Test.YtaendemgkabdfaaGreatDoorZSumS
import Derived.Test.YtaendemgkabdfaaGreatDoorZSlot1
import Derived.Lib.ItoaLen
import Derived.Deep.DeepCutAuto
import Derived.Deep.RegionHeld3
namespace Go.Proofs.YtaendemgkabdfaaGreatDoor
open Go Go.RowKit TxtP

/-- a slot's line -/
def sltT (x : Slt) : List UInt8 := x.key.data.toList ++ [32] ++ x.who.data.toList ++ [32] ++ hostT x.hosts ++ [32] ++ Lib.itoa x.setup ++ [32] ++ Lib.itoa x.long ++ [10]
def sltsT (xs : List Slt) : List UInt8 := xs.flatMap sltT
theorem sltT_le {x : Slt} (h : SltZ 4 x) : (sltT x).length ≤ 6100 := by
  have h1 := hostT_le h.hh
  have h2 := h.hn
  have h3 := h.hk
  have h4 := h.hw
  have h5 := Lib.itoa_length_le x.setup (by have := h.hs; omega) (by have := h.hs; omega)
  have h6 := Lib.itoa_length_le x.long (by have := h.hl; omega) (by have := h.hl; omega)
  have h7 : x.hosts.length * (1000 + 1) ≤ 4 * (1000 + 1) := Nat.mul_le_mul_right _ h2
  have e1 : x.key.data.toList.length = x.key.size := by simp
  have e2 : x.who.data.toList.length = x.who.size := by simp
  unfold sltT
  simp only [List.length_append, List.length_singleton]
  omega
theorem sltsT_le {xs : List Slt} (h : SltZs 4 xs) : (sltsT xs).length ≤ 6100 * xs.length := by
  induction xs with
  | nil => simp [sltsT]
  | cons a t ih =>
    have h1 := ih (fun p hp => h p (List.mem_cons_of_mem _ hp))
    have h2 := sltT_le (h a (List.mem_cons_self ..))
    unfold sltsT at h1 ⊢
    rw [List.flatMap_cons, List.length_append, List.length_cons]
    omega
theorem sltsT_take {l : List Slt} {k : Nat} (hk : k < l.length) : sltsT (l.take (k + 1)) = sltsT (l.take k) ++ sltT l[k] := by
  unfold sltsT
  rw [List.take_succ_eq_append_getElem hk, List.flatMap_append]
  simp only [List.flatMap_cons, List.flatMap_nil, List.append_nil]
theorem SltZs.take {h : Nat} {xs : List Slt} (hz : SltZs h xs) (k : Nat) : SltZs h (xs.take k) := fun x hx => hz x (List.mem_of_mem_take hx)
/-- a slot's line, added up -/
abbrev lineL (key who hT sT lT : ByteArray) : ByteArray := sumS (sumS (sumS (sumS (sumS (sumS (sumS (sumS (sumS key ⟨#[32]⟩) who) ⟨#[32]⟩) hT) ⟨#[32]⟩) sT) ⟨#[32]⟩) lT) ⟨#[10]⟩
structure AddL (key who hT sT lT : ByteArray) : Prop where
  a1 : AddOk key ⟨#[32]⟩
  a2 : AddOk (sumS key ⟨#[32]⟩) who
  a3 : AddOk (sumS (sumS key ⟨#[32]⟩) who) ⟨#[32]⟩
  a4 : AddOk (sumS (sumS (sumS key ⟨#[32]⟩) who) ⟨#[32]⟩) hT
  a5 : AddOk (sumS (sumS (sumS (sumS key ⟨#[32]⟩) who) ⟨#[32]⟩) hT) ⟨#[32]⟩
  a6 : AddOk (sumS (sumS (sumS (sumS (sumS key ⟨#[32]⟩) who) ⟨#[32]⟩) hT) ⟨#[32]⟩) sT
  a7 : AddOk (sumS (sumS (sumS (sumS (sumS (sumS key ⟨#[32]⟩) who) ⟨#[32]⟩) hT) ⟨#[32]⟩) sT) ⟨#[32]⟩
  a8 : AddOk (sumS (sumS (sumS (sumS (sumS (sumS (sumS key ⟨#[32]⟩) who) ⟨#[32]⟩) hT) ⟨#[32]⟩) sT) ⟨#[32]⟩) lT
  a9 : AddOk (sumS (sumS (sumS (sumS (sumS (sumS (sumS (sumS key ⟨#[32]⟩) who) ⟨#[32]⟩) hT) ⟨#[32]⟩) sT) ⟨#[32]⟩) lT) ⟨#[10]⟩
  sz : (lineL key who hT sT lT).size ≤ 6100
theorem addL_of {key who hT sT lT : ByteArray} (h1 : key.size ≤ 1000) (h2 : who.size ≤ 1000) (h3 : hT.size ≤ 4010) (h4 : sT.size ≤ 21) (h5 : lT.size ≤ 21) : AddL key who hT sT lT := by
  have e1 : (⟨#[32]⟩ : ByteArray).size = 1 := rfl
  have e2 : (⟨#[10]⟩ : ByteArray).size = 1 := rfl
  constructor <;> (try unfold AddOk) <;> (try unfold lineL) <;> simp only [sumS_size, e1, e2] <;> omega
theorem lineL_data (key who hT sT lT : ByteArray) : (lineL key who hT sT lT).data.toList = key.data.toList ++ [32] ++ who.data.toList ++ [32] ++ hT.data.toList ++ [32] ++ sT.data.toList ++ [32] ++ lT.data.toList ++ [10] := by
  unfold lineL
  simp only [sumS_data]
def C5 (H : Nat) (a b c d e : Value) (V : World) : Prop := V.cell? ⟨H, 0, none⟩ = some a ∧ V.cell? ⟨H, 1, none⟩ = some b ∧ V.cell? ⟨H, 2, none⟩ = some c ∧ V.cell? ⟨H, 3, none⟩ = some d ∧ V.cell? ⟨H, 4, none⟩ = some e
theorem Blk.c5 {w : World} {g : Nat} {t : TypeId} {a b c d e : Value} (h : Blk w g t #[a, b, c, d, e]) :
    w.cell? ⟨g, 0, none⟩ = some a ∧ w.cell? ⟨g, 1, none⟩ = some b ∧ w.cell? ⟨g, 2, none⟩ = some c ∧ w.cell? ⟨g, 3, none⟩ = some d ∧ w.cell? ⟨g, 4, none⟩ = some e :=
  ⟨h.cell 0, h.cell 1, h.cell 2, h.cell 3, h.cell 4⟩

def SlTxtR (l : List Slt) (w : World) (e : Ending) (w' : World) : Prop := BRet (.tuple #[.string (if slotsF l = 0 then ⟨(sltsT l).toArray⟩ else ⟨#[]⟩), .int .i64 (slotsF l)]) w e w'
attribute [local go_sem ↓ high] run_sumS
set_option maxRecDepth 100000 in
set_option maxHeartbeats 4000000 in
theorem slotText_calls (b : Nat) (A : Option Addr) (n c : Nat) (l : List Slt) (w : World) (hr : Slts w b A n c l) (hb : b < w.heap.size) (ht : Tab w) (hn : n ≤ 10) (hz : SltZs 4 l) :
    Calls Tryz.prog 17 #[.slice A n c] w (SlTxtR l w) := by
  have HCK := Lib.hid (checkSlots_calls b A n c l w hr hb)
  by_cases hF : slotsF l = 0
  · obtain ⟨hl, hnc, hcm, hcells⟩ := hr.rd.cells sltC_len (by omega)
    rw [hF] at HCK
    have hle := sltsT_le hz
    have HR : Hid (∀ w', Below w.heap.size w w' → SlTxtR l w (.returned (.tuple #[.string ⟨(sltsT l).toArray⟩, .int .i64 0])) w') := by
      refine Lib.hid (fun w' h => ?_)
      unfold SlTxtR
      rw [if_pos hF, hF]
      exact ⟨rfl, h⟩
    have HZ := Lib.hid hz
    have HRD := Lib.hid hr.ok
    have HL := Lib.hid hl
    have HCL := Lib.hid hcells
    have hgt : (sltsT l).length ≤ 61000 := by omega
    clear hr hF hz hl hcells hle
    go_enter Tryz.func17, Tryz.ntmps17
    go_wp2_with (first | (go_at_call 55; refine HCK.out.mono ?_; rintro e w1 ⟨rfl, hb1⟩))
    obtain ⟨G, hG⟩ : ∃ G, w1.heap.size = G := ⟨_, rfl⟩
    have hGw : w.heap.size ≤ G := by rw [← hG]; exact hb1.size
    have hI0 : Lib.IsBuilderF 63 5 G G (Lib.byteCells (sltsT (l.take 0))) (w1.alloc (.cells #[.pointer none, .slice none 0 0] 63)) := by
      rw [← hG]; exact Lib.IsBuilderF.of (Lib.fresh_isBuilder _ _ w1)
    have hbA : Below w.heap.size w (w1.alloc (.cells #[.pointer none, .slice none 0 0] 63)) := hb1.alloc hb1.size _
    have hsA : G < (w1.alloc (.cells #[.pointer none, .slice none 0 0] 63)).heap.size := by rw [World.size_alloc, hG]; omega
    rw [hG]
    clear hb1 hG
    go_loopw [15] (fun i wr => ∃ k : Nat, k ≤ n ∧ i = .int .i64 k ∧ Hid (Lib.IsBuilderF 63 5 G G (Lib.byteCells (sltsT (l.take k))) wr) ∧ Below w.heap.size w wr ∧ G < wr.heap.size) (fun i _ => n - (intOf i).toNat)
    case atStart => exact ⟨0, Nat.zero_le _, rfl, Lib.hid hI0, hbA, hsA⟩
    case round =>
      clear hI0 hbA hsA
      obtain ⟨k, hk, rfl, HI, hbr, hsr⟩ := hrel
      by_cases hlt : k < n
      · have hkr : k < l.length := by rw [HL.out]; exact hlt
        obtain ⟨g, o, hA, _, hcs⟩ := HCL.out (by omega)
        subst hA
        have c0 := below_cell hbr (hcs k hkr 0 (by omega))
        have c1 := below_cell hbr (hcs k hkr 1 (by omega))
        have c2 := below_cell hbr (hcs k hkr 2 (by omega))
        have c3 := below_cell hbr (hcs k hkr 3 (by omega))
        have c4 := below_cell hbr (hcs k hkr 4 (by omega))
        have hxz := HZ.out _ (List.getElem_mem hkr)
        have hxr := (HRD.out _ (List.getElem_mem hkr)).rd.below hbr
        have hlk : (sltsT (l.take k)).length ≤ 61000 := by
          have := sltsT_le (HZ.out.take k)
          rw [List.length_take] at this
          omega
        have htk := sltsT_take hkr
        obtain ⟨x, hx⟩ : ∃ x, x = l[k] := ⟨_, rfl⟩
        rw [← hx] at c0 c1 c2 c3 c4 hxz hxr htk
        obtain ⟨key, who, ha, hc, hh, su, lo⟩ := x
        obtain ⟨m, hm⟩ : ∃ m, hh.length = m := ⟨_, rfl⟩
        replace c0 : wr.cell? ⟨g, o + k * 5, none⟩ = some (.string key) := c0
        replace c1 : wr.cell? ⟨g, o + k * 5 + 1, none⟩ = some (.string who) := c1
        replace c2 : wr.cell? ⟨g, o + k * 5 + 2, none⟩ = some (.slice ha m hc) := by rw [← hm]; exact c2
        replace c3 : wr.cell? ⟨g, o + k * 5 + 3, none⟩ = some (.int .i64 su) := c3
        replace c4 : wr.cell? ⟨g, o + k * 5 + 4, none⟩ = some (.int .i64 lo) := c4
        replace hxr : Rd wr b 1 (.slice ha m hc) m (strsV hh) := by rw [← hm]; exact hxr
        have hsu : -2199023255552 ≤ su ∧ su ≤ 2199023255552 := hxz.hs
        have hlo : -2199023255552 ≤ lo ∧ lo ≤ 2199023255552 := hxz.hl
        obtain ⟨hT, hhT⟩ : ∃ t : ByteArray, t = ⟨(hostT hh).toArray⟩ := ⟨_, rfl⟩
        obtain ⟨sT, hsT⟩ : ∃ t : ByteArray, t = ⟨(Lib.itoa su).toArray⟩ := ⟨_, rfl⟩
        obtain ⟨lT, hlT⟩ : ∃ t : ByteArray, t = ⟨(Lib.itoa lo).toArray⟩ := ⟨_, rfl⟩
        have hm4 : m ≤ 4 := by rw [← hm]; exact hxz.hn
        have hAL : AddL key who hT sT lT := by
          refine addL_of hxz.hk hxz.hw ?_ ?_ ?_
          · have h1 := hostT_le hxz.hh
            have h2 : hh.length * (1000 + 1) ≤ 4 * (1000 + 1) := Nat.mul_le_mul_right _ hxz.hn
            rw [hhT, ba_size]
            exact Nat.le_trans h1 (by show hh.length * (1000 + 1) + 1 ≤ 4010; omega)
          · rw [hsT, ba_size]; exact Lib.itoa_length_le su (by omega) (by omega)
          · rw [hlT, ba_size]; exact Lib.itoa_length_le lo (by omega) (by omega)
        have HLN : Hid (sltsT (l.take (k + 1)) = sltsT (l.take k) ++ (lineL key who hT sT lT).data.toList) := by
          refine Lib.hid ?_
          rw [htk, lineL_data, hhT, hsT, hlT]
          rfl
        have HCM : Hid (∀ V, Rd V b 1 (.slice ha m hc) m (strsV hh) → Calls Tryz.prog 56 #[.slice ha m hc] V (BRet (.string hT) V)) := by
          rw [hhT]; exact Lib.hid (fun V h => commas_calls b ha m hc hh V h hxz.hh (by omega))
        have HI1 : Hid (∀ V, Tab V → Calls Tryz.prog 34 #[.int .i64 su] V (BRet (.string sT) V)) := by
          rw [hsT]; exact Lib.hid (fun V h => itoa_calls su (by omega) (by omega) V h)
        have HI2 : Hid (∀ V, Tab V → Calls Tryz.prog 34 #[.int .i64 lo] V (BRet (.string lT) V)) := by
          rw [hlT]; exact Lib.hid (fun V h => itoa_calls lo (by omega) (by omega) V h)
        obtain ⟨a1, a2, a3, a4, a5, a6, a7, a8, a9, hsz⟩ := hAL
        clear hcs hx hhT hsT hlT hxz htk hm
        go_upto_region 8 with (fail)
        obtain ⟨V0, hV0, hbV, hkV, hIV, hsV, hHG, hrV⟩ : ∃ V0, V0 = wr.alloc (.cells #[.string key, .string who, .slice ha m hc, .int .i64 su, .int .i64 lo] 52) ∧ Below w.heap.size w V0 ∧ Blk V0 wr.heap.size 52 #[.string key, .string who, .slice ha m hc, .int .i64 su, .int .i64 lo] ∧ Lib.IsBuilderF 63 5 G G (Lib.byteCells (sltsT (l.take k))) V0 ∧ G < V0.heap.size ∧ wr.heap.size ≠ G ∧ Rd V0 b 1 (.slice ha m hc) m (strsV hh) :=
          ⟨_, rfl, hbr.alloc hbr.size _, Blk.new _ _ _, builderF_below HI.out ((Below.refl _ _).alloc (Nat.le_refl _) _), by rw [World.size_alloc]; omega, by omega, hxr.below ((Below.refl _ _).alloc (Nat.le_refl _) _)⟩
        rw [← hV0]
        obtain ⟨H, hH⟩ : ∃ H, H = wr.heap.size := ⟨_, rfl⟩
        rw [← hH] at hkV hHG ⊢
        clear hV0 hH HI hbr c0 c1 c2 c3 c4 hxr
        have hbD := below_drewN hbV 1
        have htD : Tab V0.drew := ht.below hbD
        have hkD : Blk V0.drew H 52 #[.string key, .string who, .slice ha m hc, .int .i64 su, .int .i64 lo] := hkV
        have hrD : Rd V0.drew b 1 (.slice ha m hc) m (strsV hh) := hrV.below (below_drewN (Below.refl _ _) 1)
        have s0 := hkV.c5
        have hID : Lib.IsBuilderF 63 5 G G (Lib.byteCells (sltsT (l.take k))) V0.drew := builderF_below hIV (below_drewN (Below.refl _ _) 1)
        have hsD : G < V0.drew.heap.size := hsV
        obtain ⟨VD, hVD⟩ : ∃ VD, VD = V0.drew := ⟨_, rfl⟩
        have HSW : Hid (∀ V, Below VD.heap.size VD V → G ≤ V.heap.size) := by
          rw [hVD]; exact Lib.hid (fun V h => Nat.le_trans (Nat.le_of_lt hsD) h.size)
        have HWS : Hid (∀ V, Lib.IsBuilderF 63 5 G G (Lib.byteCells (sltsT (l.take k))) V → G ≤ V.heap.size → Blk V H 52 #[.string key, .string who, .slice ha m hc, .int .i64 su, .int .i64 lo] → Calls Tryz.prog 33 #[.pointer (some ⟨G, 0, none⟩), .string (lineL key who hT sT lT)] V (fun e w' => e = .returned (.tuple #[.int .i64 (lineL key who hT sT lT).size, .nilIface]) ∧ Hid (Lib.IsBuilderF 63 5 G G (Lib.byteCells (sltsT (l.take (k + 1)))) w') ∧ Below G V w' ∧ Blk w' H 52 #[.string key, .string who, .slice ha m hc, .int .i64 su, .int .i64 lo])) := by
          refine Lib.hid (fun V h1 h2 h3 => (writeStringF_calls G G _ (lineL key who hT sT lT) V h1 (by omega) h2).mono ?_)
          rintro e w' ⟨rfl, g1, g2, g3⟩
          exact ⟨rfl, by rw [HLN.out]; exact Lib.hid g1, g2, h3.others g3 hHG (by decide)⟩
        go_region_held3 (fun V => V.cell? ⟨H, 0, none⟩ = some (.string key) ∧ V.cell? ⟨H, 1, none⟩ = some (.string who) ∧ V.cell? ⟨H, 2, none⟩ = some (.slice ha m hc) ∧ V.cell? ⟨H, 3, none⟩ = some (.int .i64 su) ∧ V.cell? ⟨H, 4, none⟩ = some (.int .i64 lo))
          (first | exact s0 | exact sC | exact sA | exact sB | exact sE | go_keep)
          (first
            | (go_at_call 56; ((with_reducible refine (HCM.out _ hrD).mono ?_); rintro e wC ⟨rfl, hbC⟩; have hkC := hkD.below hbC; have sC := hkC.c5; have hIC := builderF_below hID hbC; have htC := htD.below hbC))
            | (go_at_call 34; ((with_reducible refine (HI1.out _ htC).mono ?_); rintro e wA ⟨rfl, hbA⟩; have hkA := hkC.below hbA; have sA := hkA.c5; have hIA := builderF_below hIC hbA; have htA := htC.below hbA))
            | (go_at_call 34; ((with_reducible refine (HI2.out _ htA).mono ?_); rintro e wB ⟨rfl, hbB⟩; have hkB := hkA.below hbB; have sB := hkB.c5; have hIB := builderF_below hIA hbB; have hzB := Nat.le_trans (Nat.le_trans (Nat.le_trans (Nat.le_of_lt hsD) hbC.size) hbA.size) hbB.size))
            | (go_at_call 33; ((with_reducible refine (HWS.out _ hIB hzB hkB).mono ?_); rintro e wE ⟨rfl, HIE, hbE, hkE⟩; have sE := hkE.c5)))
        all_goals
          have hb1 := below_call (below_call (below_call hbD hbC (Nat.le_refl _)) hbA (Nat.le_refl _)) hbB (Nat.le_refl _)
          have hbX : Below w.heap.size w wE := hb1.trans (hbE.mono hGw)
          have hsX : G < wE.heap.size := by
            have h1 := hbA.size
            have h2 := hbB.size
            have h3 := hbC.size
            have h4 := hbE.size
            omega
          clear s0 sC sA sB sE hkE hkB hkA hkC hkD hkV hIB hIA hIC hID hIV a1 a2 a3 a4 a5 a6 a7 a8 a9 HCM HI1 HI2 HWS
          go_wp2
          go_roundw
          case rel => exact ⟨k + 1, by omega, by go_num, HIE, hbX, hsX⟩
          case measure => simp [intOf]; omega
      · obtain rfl : k = n := by omega
        have hIZ : Lib.IsBuilderF 63 5 G G (Lib.byteCells (sltsT l)) wr := by
          have := HI.out
          rwa [List.take_of_length_le (by rw [HL.out]; exact Nat.le_refl _)] at this
        have HLEN := Lib.hid (lenF_calls G G _ wr hIZ)
        have HSTR := Lib.hid (stringF_calls G G _ wr hIZ (by omega))
        obtain ⟨m, hm⟩ : ∃ m, m = (sltsT l).length := ⟨_, rfl⟩
        rw [← hm] at HLEN hgt
        clear HI hIZ hm
        go_wp2_with (first
          | (go_at_call 36; refine HLEN.out.mono ?_; rintro e w3 ⟨rfl, rfl⟩)
          | (go_at_call 37; refine HSTR.out.mono ?_; rintro e w4 ⟨rfl, hb4⟩))
        go_ret2
        exact HR.out _ (hbr.trans (hb4.mono hGw))
  · have HR : Hid (∀ w', Below w.heap.size w w' → SlTxtR l w (.returned (.tuple #[.string ⟨#[]⟩, .int .i64 (slotsF l)])) w') := by
      refine Lib.hid (fun w' h => ?_)
      unfold SlTxtR
      rw [if_neg hF]
      exact ⟨rfl, h⟩
    obtain ⟨F, hFv⟩ : ∃ F, F = slotsF l := ⟨_, rfl⟩
    rw [← hFv] at HCK HR hF
    have hFb : (F == 0) = false := by simpa using hF
    clear hFv hF hr hz
    go_enter Tryz.func17, Tryz.ntmps17
    go_wp2_with (first | (go_at_call 55; refine HCK.out.mono ?_; rintro e w1 ⟨rfl, hb1⟩))
    go_ret2
    exact HR.out _ hb1
end Go.Proofs.YtaendemgkabdfaaGreatDoor
