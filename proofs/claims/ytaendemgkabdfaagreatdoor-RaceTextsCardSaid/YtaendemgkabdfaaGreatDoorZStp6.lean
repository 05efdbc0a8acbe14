/-
  Steps that are written: race.Text by its contract.
-/
import Derived.Test.YtaendemgkabdfaaGreatDoorZStp3
import Derived.Test.YtaendemgkabdfaaGreatDoorZSumS
import Derived.Test.YtaendemgkabdfaaGreatDoorZBldF
import Derived.Lib.ItoaLen
namespace Go.Proofs.YtaendemgkabdfaaGreatDoor
open Go Go.RowKit TxtP

/-- a step's line -/
def slineH (p : Stp) : List UInt8 := Lib.itoa p.at_ ++ [32] ++ (swordsL.getD p.kind.toNat ⟨#[]⟩).data.toList
def slineW (p : Stp) : List UInt8 := if p.kind = 5 then [] else [32] ++ p.who.data.toList
def slineT (p : Stp) : List UInt8 := slineH p ++ slineW p ++ [10]
def slinesT (l : List Stp) : List UInt8 := l.flatMap slineT
theorem swords_small (k : Nat) : (swordsL.getD k ⟨#[]⟩).data.toList.length ≤ 10 := by
  have h : ∀ x ∈ swordsL, x.data.toList.length ≤ 10 := by decide
  rw [List.getD_eq_getElem?_getD]
  by_cases hk : k < swordsL.length
  · rw [List.getElem?_eq_getElem hk]
    exact h _ (List.getElem_mem hk)
  · rw [List.getElem?_eq_none (by omega)]
    exact Nat.zero_le _
theorem slineT_le {p : Stp} (h0 : 0 ≤ p.at_) (h1 : p.at_ ≤ 345686399999) (h2 : p.who.size ≤ 40) : (slineT p).length ≤ 80 := by
  have h3 := Lib.itoa_length_le p.at_ (by omega) (by omega)
  have h4 := swords_small p.kind.toNat
  have h5 : p.who.data.toList.length = p.who.size := by simp
  have h6 : (slineW p).length ≤ 41 := by
    unfold slineW
    split
    · simp
    · rw [List.length_append, h5, List.length_singleton]; omega
  unfold slineT slineH
  simp only [List.length_append, List.length_singleton]
  omega
theorem slinesT_le {l : List Stp} (h : StOk l) : (slinesT l).length ≤ 80 * l.length := by
  induction l with
  | nil => simp [slinesT]
  | cons a t ih =>
    have h1 := ih ⟨fun p hp => h.at_ p (List.mem_cons_of_mem _ hp), fun p hp => h.kind p (List.mem_cons_of_mem _ hp), fun p hp => h.who p (List.mem_cons_of_mem _ hp), fun p hp => h.go_ p (List.mem_cons_of_mem _ hp)⟩
    have h2 := slineT_le (h.at_ a (List.mem_cons_self ..)).1 (h.at_ a (List.mem_cons_self ..)).2 (h.who a (List.mem_cons_self ..))
    unfold slinesT at h1 ⊢
    rw [List.flatMap_cons, List.length_append, List.length_cons]
    omega
theorem slinesT_take {l : List Stp} {k : Nat} (hk : k < l.length) : slinesT (l.take (k + 1)) = slinesT (l.take k) ++ slineT l[k] := by
  rw [List.take_succ_eq_append_getElem hk]
  unfold slinesT
  rw [List.flatMap_append, List.flatMap_cons, List.flatMap_nil, List.append_nil]
theorem StOk.take {l : List Stp} (h : StOk l) (k : Nat) : StOk (l.take k) :=
  ⟨fun p hp => h.at_ p (List.mem_of_mem_take hp), fun p hp => h.kind p (List.mem_of_mem_take hp), fun p hp => h.who p (List.mem_of_mem_take hp), fun p hp => h.go_ p (List.mem_of_mem_take hp)⟩
theorem skinds_word {k : Int} (h : 1 ≤ k ∧ k ≤ 8) : (strCs skindsL)[(k - 1).toNat]? = some (.string (swordsL.getD k.toNat ⟨#[]⟩)) := by
  obtain ⟨m, hm⟩ : ∃ m : Nat, k = m := ⟨k.toNat, by omega⟩
  subst hm
  obtain ⟨j, rfl⟩ : ∃ j, m = j + 1 := ⟨m - 1, by omega⟩
  have h9 : skindsL.length = 8 := rfl
  have hj : j < skindsL.length := by omega
  have e1 : (((j + 1 : Nat) : Int) - 1).toNat = j := by omega
  have e2 : (((j + 1 : Nat) : Int)).toNat = j + 1 := by omega
  rw [e1, e2, strCs_at hj]
  unfold swordsL
  rw [List.getD_cons_succ, List.getD_eq_getElem?_getD, List.getElem?_eq_getElem hj]
  rfl
theorem swords_word {k : Int} (h : 1 ≤ k ∧ k ≤ 8) : (strCs swordsL)[k.toNat]? = some (.string (swordsL.getD k.toNat ⟨#[]⟩)) := by
  have h9 : swordsL.length = 9 := rfl
  have hj : k.toNat < swordsL.length := by omega
  rw [strCs_at hj, List.getD_eq_getElem?_getD, List.getElem?_eq_getElem hj]
  rfl
def STxtR (l : List Stp) (w : World) (e : Ending) (w' : World) : Prop := BRet (.tuple #[.string (if stF l = 0 then ⟨(slinesT l).toArray⟩ else ⟨#[]⟩), .int .i64 (stF l)]) w e w'
attribute [local go_sem ↓ high] run_sumS
/-- the head of a step's line, added up -/
abbrev headS (t k : ByteArray) : ByteArray := sumS (sumS t ⟨#[32]⟩) k
set_option maxRecDepth 100000 in
set_option maxHeartbeats 4000000 in
theorem raceText_calls (b : Nat) (A : Option Addr) (n c : Nat) (l : List Stp) (w : World) (hr : Rd w b 3 (.slice A n c) n (l.flatMap stC)) (ht : Tab w) (hn : n ≤ 100) (hz : ∀ s ∈ l, s.who.size ≤ 1000000) :
    Calls Tryz.prog 8 #[.slice A n c] w (STxtR l w) := by
  have HCK := Lib.hid (checkSteps_calls b A n c l w hr hz)
  by_cases hF : stF l = 0
  · have hok := (stF_ok hF).1
    obtain ⟨hl, hnc, hcm, hcells⟩ := hr.cells stC_len (by omega)
    rw [hF] at HCK
    have hle := slinesT_le hok
    have HR : Hid (∀ w', Below w.heap.size w w' → STxtR l w (.returned (.tuple #[.string ⟨(slinesT l).toArray⟩, .int .i64 0])) w') := by
      refine Lib.hid (fun w' h => ?_)
      unfold STxtR
      rw [if_pos hF, hF]
      exact ⟨rfl, h⟩
    have HOK := Lib.hid hok
    have HL := Lib.hid hl
    have HCL := Lib.hid hcells
    have hgt : (slinesT l).length ≤ 8000 := by omega
    clear hr hF hok hl hcells hle hz
    go_enter Tryz.func8, Tryz.ntmps8
    go_wp2_with (first | (go_at_call 32; refine HCK.out.mono ?_; rintro e w1 ⟨rfl, hb1⟩))
    have HB1 := Lib.hid hb1
    obtain ⟨G, hG⟩ : ∃ G, w1.heap.size = G := ⟨_, rfl⟩
    have hGw : w.heap.size ≤ G := by rw [← hG]; exact hb1.size
    have hI0 : Lib.IsBuilderF 63 5 G G (Lib.byteCells (slinesT (l.take 0))) (w1.alloc (.cells #[.pointer none, .slice none 0 0] 63)) := by
      rw [← hG]; exact Lib.IsBuilderF.of (Lib.fresh_isBuilder _ _ w1)
    have hbA : Below w.heap.size w (w1.alloc (.cells #[.pointer none, .slice none 0 0] 63)) := hb1.alloc hb1.size _
    have hsA : G < (w1.alloc (.cells #[.pointer none, .slice none 0 0] 63)).heap.size := by rw [World.size_alloc, hG]; omega
    rw [hG]
    clear hb1 hG
    go_loopw [15] (fun i wr => ∃ k : Nat, k ≤ n ∧ i = .int .i64 k ∧ Hid (Lib.IsBuilderF 63 5 G G (Lib.byteCells (slinesT (l.take k))) wr) ∧ Below w.heap.size w wr ∧ G < wr.heap.size) (fun i _ => n - (intOf i).toNat)
    case atStart => exact ⟨0, Nat.zero_le _, rfl, Lib.hid hI0, hbA, hsA⟩
    case round =>
      clear hI0 hbA hsA
      obtain ⟨k, hk, rfl, HI, hbr, hsr⟩ := hrel
      by_cases hlt : k < n
      · have hkr : k < l.length := by rw [HL.out]; exact hlt
        obtain ⟨g, o, hA, _, hcs⟩ := HCL.out (by omega)
        subst hA
        have c0 := below_cell hbr (hcs k hkr 0 (by omega))
        have c1 := below_cell hbr (hcs k hkr 1 (by omega))
        have c2 := below_cell hbr (hcs k hkr 2 (by omega))
        have hp1 := HOK.out.at_ _ (List.getElem_mem hkr)
        have hp2 := HOK.out.kind _ (List.getElem_mem hkr)
        have hp3 := HOK.out.who _ (List.getElem_mem hkr)
        have hp4 := HOK.out.go_ _ (List.getElem_mem hkr)
        obtain ⟨p, hp⟩ : ∃ p, p = l[k] := ⟨_, rfl⟩
        rw [← hp] at c0 c1 c2 hp1 hp2 hp3 hp4
        obtain ⟨at_, kd, x⟩ := p
        replace c0 : wr.cell? ⟨g, o + k * 3, none⟩ = some (.int .i64 at_) := c0
        replace c1 : wr.cell? ⟨g, o + k * 3 + 1, none⟩ = some (.int .i64 kd) := c1
        replace c2 : wr.cell? ⟨g, o + k * 3 + 2, none⟩ = some (.string x) := c2
        replace hp1 : 0 ≤ at_ ∧ at_ ≤ 345686399999 := hp1
        replace hp2 : 1 ≤ kd ∧ kd ≤ 8 := hp2
        replace hp3 : x.size ≤ 40 := hp3
        obtain ⟨t, ht1⟩ : ∃ t : ByteArray, t = ⟨(Lib.itoa at_).toArray⟩ := ⟨_, rfl⟩
        have hts : t.size ≤ 21 := by rw [ht1, ba_size]; exact Lib.itoa_length_le at_ (by omega) (by omega)
        obtain ⟨kw, hkw⟩ : ∃ kw, kw = swordsL.getD kd.toNat ⟨#[]⟩ := ⟨_, rfl⟩
        have hks : kw.size ≤ 10 := by have := swords_small kd.toNat; rw [← hkw] at this; simpa using this
        have hkc := skinds_word hp2
        rw [← hkw] at hkc
        have HLN : Hid (slinesT (l.take (k + 1)) = slinesT (l.take k) ++ (headS t kw).data.toList ++ (if kd = 5 then [] else (sumS ⟨#[32]⟩ x).data.toList) ++ [10]) := by
          refine Lib.hid ?_
          rw [slinesT_take hkr, ← hp]
          unfold slineT slineH slineW headS
          rw [sumS_data, sumS_data, sumS_data, ht1, hkw]
          simp only [List.append_assoc]
        have a1 : AddOk t ⟨#[32]⟩ := by show t.size + 1 ≤ 1000000; omega
        have a2 : AddOk (sumS t ⟨#[32]⟩) kw := by unfold AddOk; rw [sumS_size]; show t.size + 1 + kw.size ≤ 1000000; omega
        have a3 : AddOk ⟨#[32]⟩ x := by show 1 + x.size ≤ 1000000; omega
        have hls : (headS t kw).size ≤ 33 := by unfold headS; rw [sumS_size, sumS_size]; show t.size + 1 + kw.size ≤ 33; omega
        have hlk : (slinesT (l.take k)).length ≤ 8000 := by
          have := slinesT_le (HOK.out.take k)
          rw [List.length_take] at this
          omega
        have HIT : Hid (∀ V, Tab V → Calls Tryz.prog 34 #[.int .i64 at_] V (BRet (.string t) V)) := by
          rw [ht1]; exact Lib.hid (fun V h => itoa_calls at_ (by omega) (by omega) V h)
        have hk10 : IntKind.i64.wrap (kd - 1) = kd - 1 := IntWalk.i64_in _ (by omega)
        clear hcs hp hkw ht1 hts hks hp4
        go_upto_region 8 with (fail)
        obtain ⟨V0, hV0, hbV, hkV, hIV, hsV, hHG⟩ : ∃ V0, V0 = wr.alloc (.cells #[.int .i64 at_, .int .i64 kd, .string x] 39) ∧ Below w.heap.size w V0 ∧ Blk V0 wr.heap.size 39 #[.int .i64 at_, .int .i64 kd, .string x] ∧ Lib.IsBuilderF 63 5 G G (Lib.byteCells (slinesT (l.take k))) V0 ∧ G < V0.heap.size ∧ wr.heap.size ≠ G :=
          ⟨_, rfl, hbr.alloc hbr.size _, Blk.new _ _ _, builderF_below HI.out ((Below.refl _ _).alloc (Nat.le_refl _) _), by rw [World.size_alloc]; omega, by omega⟩
        rw [← hV0]
        obtain ⟨H, hH⟩ : ∃ H, H = wr.heap.size := ⟨_, rfl⟩
        rw [← hH] at hkV hHG ⊢
        clear hV0 hH HI hbr c0 c1 c2
        have hbD := below_drewN hbV 1
        have htD : Tab V0.drew := ht.below hbD
        have HKD : Hid (∀ V K, V.heap.size = K → Calls Tryz.prog 35 #[] V (fun e w' => e = .returned (.slice (some ⟨K, 0, none⟩) 8 8) ∧ Below V.heap.size V w' ∧ Blk w' K 9 (strCs skindsL))) := by
          refine Lib.hid (fun V K hK => ?_)
          rw [← hK]
          exact skinds_calls V
        have hid0 : (kd - 1).toNat < 8 := by omega
        have hid1 : 0 ≤ kd - 1 := by omega
        have hid2 : kd - 1 < 8 := by omega
        have dl0 : V0.cell? ⟨H, 0, none⟩ = some (.int .i64 at_) := hkV.cell 0
        have dl1 : V0.cell? ⟨H, 1, none⟩ = some (.int .i64 kd) := hkV.cell 1
        have hIV2 : Lib.IsBuilderF 63 5 G G (Lib.byteCells (slinesT (l.take k))) V0.drew := builderF_below hIV (below_drewN (Below.refl _ _) 1)
        have hkn : (kd - 1).toNat = kd.toNat - 1 := by omega
        rw [hkn] at hkc
        go_region_law (first
          | (go_simp; go_at_call 34; ((with_reducible refine (HIT.out _ htD).mono ?_); rintro e wA ⟨rfl, hbA⟩; have dA0 := below_cell hbA dl0; have dA1 := below_cell hbA dl1; have hIA := builderF_below hIV2 hbA))
          | (go_simp; go_at_call 35; ((with_reducible refine (HKD.out wA wA.heap.size rfl).mono ?_); rintro e wK ⟨rfl, hbK, hkK⟩; have dK0 := below_cell hbK dA0; have dK1 := below_cell hbK dA1; have ckK := (hkK.cell (kd.toNat - 1)).trans hkc; have hIK := builderF_below hIA hbK; have hsK : G ≤ wK.heap.size := by have h1 := hbA.size; have h2 := hbK.size; have h3 : V0.drew.heap.size = V0.heap.size := rfl; omega))
          | (go_simp; go_at_call 33; ((with_reducible refine (writeStringF_calls G G _ (headS t kw) wK hIK (by omega) hsK).mono ?_); rintro e wE ⟨rfl, hIE, hbE, hoE⟩)))
        all_goals
          have hkE : Blk wE H 39 #[.int .i64 at_, .int .i64 kd, .string x] := (((show Blk V0.drew H _ _ from hkV).below hbA).below hbK).others hoE hHG (by decide)
          obtain ⟨u0, u1, u2, _, _, _⟩ := hkE.three
          have hbX : Below w.heap.size w wE := (hbD.trans (hbA.mono (by have h3 : V0.drew.heap.size = V0.heap.size := rfl; have := hbV.size; omega))).trans ((hbK.mono (by have h1 := hbA.size; have h3 : V0.drew.heap.size = V0.heap.size := rfl; have := hbV.size; omega)).trans (hbE.mono hGw))
          have hsX : G < wE.heap.size := by
            have h1 := hbA.size
            have h2 := hbK.size
            have h4 := hbE.size
            have h3 : V0.drew.heap.size = V0.heap.size := rfl
            omega
          have hqs : (headS t kw).data.toList.length ≤ 33 := by have : (headS t kw).data.toList.length = (headS t kw).size := by simp
                                                                omega
          clear dA0 dA1 dK0 dK1 ckK hIK hIA hkK hIV2 hkV hIV dl0 dl1 a1 a2 hkc HKD HIT hbE hoE hbA hbK hbD hbV
          obtain ⟨Q1, hQ1⟩ : ∃ Q1, Q1 = slinesT (l.take k) ++ (headS t kw).data.toList := ⟨_, rfl⟩
          have hq1 : Q1.length ≤ 8100 := by rw [hQ1, List.length_append]; omega
          rw [← hQ1] at hIE HLN
          clear hQ1
          have HK1 : Hid (Q1.length + (⟨#[10]⟩ : ByteArray).size ≤ 1000000) := Lib.hid (by show Q1.length + 1 ≤ 1000000; omega)
          by_cases hk5 : kd = 5
          · subst hk5
            have HLN2 : Hid (slinesT (l.take (k + 1)) = Q1 ++ [10]) := Lib.hid (by rw [HLN.out, if_pos rfl, List.append_nil])
            clear HLN
            go_wp2_with (first
              | (go_at_call 33; ((with_reducible refine (writeStringF_calls G G Q1 ⟨#[10]⟩ wE hIE HK1.out (by omega)).mono ?_); rintro e wF ⟨rfl, hIF, hbF, _⟩)))
            have hsF := hbF.size
            have HIX : Hid (Lib.IsBuilderF 63 5 G G (Lib.byteCells (slinesT (l.take (k + 1)))) wF) := by
              rw [HLN2.out]; exact Lib.hid hIF
            go_roundw
            case rel => exact ⟨k + 1, by omega, by go_num, HIX, hbX.trans (hbF.mono hGw), by omega⟩
            case measure => simp [intOf]; omega
          · obtain ⟨Q2, hQ2⟩ : ∃ Q2, Q2 = Q1 ++ (sumS ⟨#[32]⟩ x).data.toList := ⟨_, rfl⟩
            have hxs : (sumS ⟨#[32]⟩ x).size ≤ 41 := by rw [sumS_size]; show 1 + x.size ≤ 41; omega
            have hxl : (sumS ⟨#[32]⟩ x).data.toList.length = (sumS ⟨#[32]⟩ x).size := by simp
            have hq2 : Q2.length ≤ 8200 := by rw [hQ2, List.length_append]; omega
            have HLN2 : Hid (slinesT (l.take (k + 1)) = Q2 ++ [10]) := Lib.hid (by rw [HLN.out, if_neg hk5, ← hQ2])
            have HQ2 := Lib.hid hQ2
            have HK2 : Hid (Q2.length + (⟨#[10]⟩ : ByteArray).size ≤ 1000000) := Lib.hid (by show Q2.length + 1 ≤ 1000000; omega)
            clear HLN hQ2 hxl
            go_wp2_with (first
              | (go_at_call 33; ((with_reducible refine (writeStringF_calls G G Q1 (sumS ⟨#[32]⟩ x) wE hIE (by omega) (by omega)).mono ?_); rintro e wF ⟨rfl, hIF, hbF, _⟩; rw [← HQ2.out] at hIF; have hsF := hbF.size))
              | (go_at_call 33; ((with_reducible refine (writeStringF_calls G G Q2 ⟨#[10]⟩ wF hIF HK2.out (by omega)).mono ?_); rintro e wJ ⟨rfl, hIJ, hbJ, _⟩)))
            have hsJ := hbJ.size
            have HIX : Hid (Lib.IsBuilderF 63 5 G G (Lib.byteCells (slinesT (l.take (k + 1)))) wJ) := by
              rw [HLN2.out]; exact Lib.hid hIJ
            go_roundw
            case rel => exact ⟨k + 1, by omega, by go_num, HIX, (hbX.trans (hbF.mono hGw)).trans (hbJ.mono hGw), by omega⟩
            case measure => simp [intOf]; omega
      · obtain rfl : k = n := by omega
        have hIZ : Lib.IsBuilderF 63 5 G G (Lib.byteCells (slinesT l)) wr := by
          have := HI.out
          rwa [List.take_of_length_le (by rw [HL.out]; exact Nat.le_refl _)] at this
        have HLEN := Lib.hid (lenF_calls G G _ wr hIZ)
        have HSTR := Lib.hid (stringF_calls G G _ wr hIZ (by omega))
        obtain ⟨m, hm⟩ : ∃ m, m = (slinesT l).length := ⟨_, rfl⟩
        rw [← hm] at HLEN hgt
        clear HI hIZ hm
        go_wp2_with (first
          | (go_at_call 36; refine HLEN.out.mono ?_; rintro e w3 ⟨rfl, rfl⟩)
          | (go_at_call 37; refine HSTR.out.mono ?_; rintro e w4 ⟨rfl, hb4⟩))
        go_ret2
        exact HR.out _ (hbr.trans (hb4.mono hGw))
  · have HR : Hid (∀ w', Below w.heap.size w w' → STxtR l w (.returned (.tuple #[.string ⟨#[]⟩, .int .i64 (stF l)])) w') := by
      refine Lib.hid (fun w' h => ?_)
      unfold STxtR
      rw [if_neg hF]
      exact ⟨rfl, h⟩
    obtain ⟨F, hFv⟩ : ∃ F, F = stF l := ⟨_, rfl⟩
    rw [← hFv] at HCK HR hF
    have hFb : (F == 0) = false := by simpa using hF
    clear hFv hr hF
    go_enter Tryz.func8, Tryz.ntmps8
    go_wp2_with (first | (go_at_call 32; refine HCK.out.mono ?_; rintro e w1 ⟨rfl, hb1⟩))
    go_ret2
    exact HR.out _ hb1
end Go.Proofs.YtaendemgkabdfaaGreatDoor
