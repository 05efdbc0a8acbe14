/-
  splitref2.LiveFault by a contract. (Printed by gen_live7.py.)
-/
import Derived.Test.YtknojcomgccpeaaZLive4
import Derived.Test.YtknojcomgccpeaaZLive1
namespace Go.Proofs.Ytknojcomgccpeaa
open Go Go.RowKit
attribute [local go_sem ↓] Go.wp_at_zero Go.wp_at_succ

theorem wrongQ_1 {xs : List Slt} {p : List Lv} {at_ : Int} {key : ByteArray} {s1 s2 : Int} {s3 OT : Bool} (h1 : (seenF p key).1 = s1) (_ : (seenF p key).2.1 = s2) (h3 : (seenF p key).2.2 = s3) (ho : xs.any (otherB p key) = OT) : wrongQ xs p (at_, 1, key) = (decide (0 ≤ s1) || s3 || OT) := by
  subst h1 h3 ho; rfl
theorem wrongQ_2 {xs : List Slt} {p : List Lv} {at_ : Int} {key : ByteArray} {s1 s2 : Int} {s3 : Bool} (h1 : (seenF p key).1 = s1) (h2 : (seenF p key).2.1 = s2) (_ : (seenF p key).2.2 = s3) : wrongQ xs p (at_, 2, key) = (!decide (0 ≤ s1) || decide (0 ≤ s2)) := by
  subst h1 h2
  have : decide ((seenF p key).1 < 0) = !decide (0 ≤ (seenF p key).1) := by by_cases h : 0 ≤ (seenF p key).1 <;> simp [h] <;> omega
  rw [← this]; rfl
theorem wrongQ_3 {xs : List Slt} {p : List Lv} {at_ : Int} {key : ByteArray} {s1 s2 : Int} {s3 : Bool} (h1 : (seenF p key).1 = s1) (_ : (seenF p key).2.1 = s2) (h3 : (seenF p key).2.2 = s3) : wrongQ xs p (at_, 3, key) = (decide (0 ≤ s1) || s3) := by
  subst h1 h3; rfl

set_option maxRecDepth 100000 in
set_option maxHeartbeats 4000000 in
theorem liveFault_calls (b : Nat) (A A2 : Option Addr) (n c m c2 : Nat) (xs : List Slt) (ys : List Lv) (w : World) (hr : Slts w b A n c xs) (hr2 : Rd w b 3 (.slice A2 m c2) m (ys.flatMap lvC)) (hys : ∀ y ∈ ys, LvOk y) (hb : b < w.heap.size) :
    Calls Try.prog 25 #[.slice A n c, .slice A2 m c2] w (BRet (.int .i64 (liveF (wrongQ xs) xs ys)) w) := by
  obtain ⟨hl2, hnc2, hcm2, hcells2⟩ := hr2.cells lvC_len (by omega)
  unfold maxLen at hcm2
  obtain ⟨E, hE⟩ : ∃ E, slotsF xs = E := ⟨_, rfl⟩
  have hF : liveF (wrongQ xs) xs ys = if E = 0 then if 400 < m then 2 else liveG (wrongQ xs) xs [] ys else E := by unfold liveF; rw [hE, hl2]
  have hbx : Below w.heap.size w (w.alloc (.cells #[.slice A2 m c2] 47)) := (Below.refl _ _).alloc (Nat.le_refl _) _
  have HCS : Hid (Calls Try.prog 35 #[.slice A n c] (w.alloc (.cells #[.slice A2 m c2] 47)) (fun e w' => e = .returned (.int .i64 E) ∧ Below w.heap.size w w' ∧ Blk w' w.heap.size 47 #[.slice A2 m c2])) := by
    have h := slotsFaultQ_calls b A n c xs _ (hr.below hbx) (by simp; omega)
    rw [hE] at h
    exact h.mono (fun e w' ⟨he, h1⟩ => ⟨he, below_call hbx h1 (Nat.le_refl _), (Blk.new w _ _).below h1⟩)
  have HL2 := Lib.hid hl2
  have HC2 := Lib.hid hcells2
  have HR := Lib.hid hr
  have HRR := Lib.hid hr2
  have HY := Lib.hid hys
  clear hr hcells2 hl2 hr2 hE hys hbx
  by_cases hz : E = 0
  · rw [if_pos hz] at hF
    subst hz
    by_cases hbig : 400 < m
    · have HF := Lib.hid (hF.trans (if_pos hbig))
      clear hF
      go_enter Try.func25, Try.ntmps25
      go_wp2_with fail
      refine HCS.out.mono ?_
      rintro e w1 ⟨rfl, hb1, hgx⟩
      have gx0 := hgx.cell 0
      go_wp2_with fail
      go_ret
      exact ⟨ret_int HF.out.symm, hb1⟩
    rw [if_neg hbig] at hF
    have HF : Hid (liveF (wrongQ xs) xs ys = liveG (wrongQ xs) xs (ys.take 0) (ys.drop 0)) := hF
    clear hF
    go_enter Try.func25, Try.ntmps25
    go_wp2_with fail
    refine HCS.out.mono ?_
    rintro e w1 ⟨rfl, hb1, hgx⟩
    have gx0 := hgx.cell 0
    replace gx0 : w1.cell? ⟨w.heap.size, 0, none⟩ = some (.slice A2 m c2) := gx0
    have HGX := Lib.hid hgx
    have HW1 := Lib.hid hb1
    have HRS := Lib.hid (HR.out.rd.below hb1)
    have HR1 := Lib.hid (HR.out.below hb1)
    have HR2 := Lib.hid (HRR.out.below hb1)
    have hw1z := hb1.size
    have hbw1 : b < w1.heap.size := by omega
    have hgxl : w.heap.size < w1.heap.size := hgx.lt
    clear hb1 hgx
    go_wp2_with fail
    go_loopw [21] (fun i wr => ∃ (k : Nat), k ≤ m ∧ i = .int .i64 k ∧ Hid (liveF (wrongQ xs) xs ys = liveG (wrongQ xs) xs (ys.take k) (ys.drop k)) ∧ Below w1.heap.size w1 wr) (fun i _ => m - (intOf i).toNat)
    case atStart => exact ⟨0, Nat.zero_le _, rfl, HF, Below.refl _ _⟩
    case round =>
      clear HF gx0
      obtain ⟨k, hk, rfl, HF, hbr⟩ := hrel
      by_cases hlt : k < m
      · have hkr : k < ys.length := by rw [HL2.out]; exact hlt
        obtain ⟨g, o, hA, _, hcs⟩ := HC2.out (by omega)
        subst hA
        have hbr0 : Below w.heap.size w wr := below_call HW1.out hbr (Nat.le_refl _)
        obtain ⟨y, hy⟩ : ∃ y, ys[k] = y := ⟨_, rfl⟩
        have c0 := below_cell hbr0 (hcs k hkr 0 (by omega))
        have c1 := below_cell hbr0 (hcs k hkr 1 (by omega))
        have cc2 := below_cell hbr0 (hcs k hkr 2 (by omega))
        have hok := HY.out _ (List.getElem_mem hkr)
        have HCP : Hid (∀ W, Below w.heap.size w W → ∀ i (hi : i < ys.length), W.cell? ⟨g, o + i * 3, none⟩ = some (.int .i64 ys[i].1)) := fun W hW i hi => below_cell hW (hcs i hi 0 (by omega))
        rw [hy] at c0 c1 cc2 hok
        obtain ⟨at_, kd, key⟩ := y
        replace c0 : wr.cell? ⟨g, o + k * 3, none⟩ = some (.int .i64 at_) := c0
        replace c1 : wr.cell? ⟨g, o + k * 3 + 1, none⟩ = some (.int .i64 kd) := c1
        replace cc2 : wr.cell? ⟨g, o + k * 3 + 2, none⟩ = some (.string key) := cc2
        obtain ⟨hat, hkb, hkz⟩ := hok
        simp only at hat hkb hkz
        have HKR := Lib.hid hkr
        have HBAD : Hid (∀ E : Int, lvE xs (ys.take k) (at_, kd, key) = E → E ≠ 0 → liveF (wrongQ xs) xs ys = E) := fun E h hE => by
          rw [← hy] at h
          rw [HF.out]; exact live_bad (hk := hkr) h hE
        have HWR0 : Hid (lvE xs (ys.take k) (at_, kd, key) = 0 → wrongQ xs (ys.take k) (at_, kd, key) = true → liveF (wrongQ xs) xs ys = 11) := fun h hE => by
          rw [← hy] at h hE
          rw [HF.out]; exact live_wrong (hk := hkr) h hE
        have HNX0 : Hid (lvE xs (ys.take k) (at_, kd, key) = 0 → wrongQ xs (ys.take k) (at_, kd, key) = false → liveF (wrongQ xs) xs ys = liveG (wrongQ xs) xs (ys.take (k + 1)) (ys.drop (k + 1))) := fun h hE => by
          rw [← hy] at h hE
          rw [HF.out]; exact live_next (hk := hkr) h hE
        obtain ⟨MB, hMB⟩ : ∃ B, momB at_ = B := ⟨_, rfl⟩
        obtain ⟨OB, hOB⟩ : ∃ B, outB kd 1 3 = B := ⟨_, rfl⟩
        obtain ⟨F1, hF1⟩ : ∃ F, findL xs key = F := ⟨_, rfl⟩
        have hSa := ((Sq.start wr).add #[.int .i64 k] 3).add #[.int .i64 at_, .int .i64 kd, .string key] 103
        simp only [size1] at hSa
        have HMC : Hid (∀ W, Calls Try.prog 70 #[.int .i64 at_] W (fun e w' => e = .returned (.bool MB) ∧ W = w')) := by rw [← hMB]; exact fun W => momentQ_calls at_ W
        have HOC : Hid (∀ W, Calls Try.prog 71 #[.int .i64 kd, .int .i64 1, .int .i64 3] W (fun e w' => e = .returned (.bool (!OB)) ∧ W = w')) := by rw [← hOB]; exact fun W => in_calls _ _ _ W
        have HFC : Hid (∀ W, Below wr.heap.size wr W → Calls Try.prog 72 #[.slice A n c, .string key] W (BRet (.int .i64 F1) W)) := by rw [← hF1]; exact fun W hW => findLQ_calls b A n c xs key W ((HRS.out.below hbr).below hW)
        have HM := Lib.hid hMB
        have HO := Lib.hid hOB
        have HFI := Lib.hid hF1
        have hbelow : Below w.heap.size w _ := below_call hbr0 hSa.below (Nat.le_refl _)
        clear hcs hy hMB hOB hF1
        cases MB
        · have HS := Lib.hid (HBAD.out 1 (lvE_1 HM.out) (by decide))
          go_wp2_with fail
          refine (HMC.out _).mono ?_
          rintro e w2 ⟨rfl, rfl⟩
          go_wp2_with fail
          go_ret
          exact ⟨ret_int HS.out.symm, hbelow⟩
        cases OB
        case true =>
          have HS := Lib.hid (HBAD.out 4 (lvE_4 HM.out HO.out) (by decide))
          go_wp2_with fail
          refine (HMC.out _).mono ?_
          rintro e w2 ⟨rfl, rfl⟩
          go_wp2_with fail
          refine (HOC.out _).mono ?_
          rintro e w2 ⟨rfl, rfl⟩
          go_wp2_with fail
          go_ret
          exact ⟨ret_int HS.out.symm, hbelow⟩
        have hkd := kd_of HO.out
        go_wp2_with fail
        refine (HMC.out _).mono ?_
        rintro e w2 ⟨rfl, rfl⟩
        go_wp2_with fail
        refine (HOC.out _).mono ?_
        rintro e w2 ⟨rfl, rfl⟩
        go_wp2_with fail
        refine (HFC.out _ hSa.below).mono ?_
        rintro e w3 ⟨rfl, hb3⟩
        have hSb := hSa.callB hb3
        have hbl3 : Below w.heap.size w w3 := below_call hbr0 hSb.below (Nat.le_refl _)
        have hbx : Blk w3 (wr.heap.size + 1) 103 #[.int .i64 at_, .int .i64 kd, .string key] := hSb.nth 0 rfl
        have hbi : Blk w3 wr.heap.size 3 #[.int .i64 k] := hSb.nth 1 rfl
        have x0 := hbx.cell 0
        have x1 := hbx.cell 1
        have x2 := hbx.cell 2
        have i0 := hbi.cell 0
        have gx3 : w3.cell? ⟨w.heap.size, 0, none⟩ = some (.slice (some ⟨g, o, none⟩) m c2) := ((HGX.out.below hbr).below hSb.below).cell 0
        replace i0 : w3.cell? ⟨wr.heap.size, 0, none⟩ = some (.int .i64 k) := i0
        have HX3 : Hid (∀ nq, (w3.drewN nq).cell? ⟨w.heap.size, 0, none⟩ = some (.slice (some ⟨g, o, none⟩) m c2)) := fun nq => gx3
        clear hbx hbi hSa hbelow hb3 HMC HOC HFC c0 c1 cc2
        by_cases hneg : F1 < 0
        · have HS := Lib.hid (HBAD.out 8 (lvE_8 HM.out HO.out (by rw [HFI.out]; exact hneg)) (by decide))
          clear x0 x1 x2 i0 gx3
          go_wp2_with fail
          go_ret
          exact ⟨ret_int HS.out.symm, hbl3⟩
        have HFN : Hid (0 ≤ findL xs key) := by rw [HFI.out]; exact Int.not_lt.1 hneg
        obtain ⟨LB, hLB⟩ : ∃ B, lateB (ys.take k) (at_, kd, key) = B := ⟨_, rfl⟩
        have HLB := Lib.hid hLB
        clear hLB
        go_wp2_with fail
        go_cut [42] (fun s42 W => s42 = .bool LB ∧ Sq wr W [rBlk (wr.heap.size + 1) 103 #[.int .i64 at_, .int .i64 kd, .string key], rBlk wr.heap.size 3 #[.int .i64 (k : Int)]])
        case first =>
          by_cases hk0 : k = 0
          · subst hk0
            have hlb : LB = false := by rw [← HLB.out]; rfl
            subst hlb
            go_quiet (fail)
            go_wp2_with fail
            go_meet
            exact ⟨rfl, hSb.drewN nq⟩
          · obtain ⟨q, rfl⟩ : ∃ q, k = q + 1 := ⟨k - 1, by omega⟩
            have hqr : q < ys.length := Nat.lt_of_succ_lt HKR.out
            have p0 := HCP.out w3 hbl3 q hqr
            obtain ⟨pa, hpa⟩ : ∃ a, (ys[q]'hqr).1 = a := ⟨_, rfl⟩
            have hpb : -2199023255552 ≤ pa ∧ pa ≤ 2199023255552 := by rw [← hpa]; exact (HY.out _ (List.getElem_mem _)).1
            rw [hpa] at p0
            have hlb : LB = decide (at_ < pa) := by rw [← HLB.out, lateB_succ _ _ q hqr, hpa]
            obtain ⟨hpb0, hpb1⟩ := hpb
            have hq0 : (0 : Int) ≤ (q : Int) := by omega
            have hqm : (q : Int) < (m : Int) := by omega
            have hqe : ((q + 1 : Nat) : Int) - 1 = (q : Int) := by omega
            clear hpa hk0
            by_cases hlate : at_ < pa
            · have hlt2 : LB = true := by rw [hlb]; exact decide_eq_true hlate
              subst hlt2
              clear hlb
              go_quiet (fail)
              go_wp2_with fail
              go_meet
              exact ⟨rfl, hSb.drewN nq⟩
            · have hlt2 : LB = false := by rw [hlb]; exact decide_eq_false hlate
              subst hlt2
              clear hlb
              go_quiet (fail)
              go_wp2_with fail
              go_meet
              exact ⟨rfl, hSb.drewN nq⟩
        case rest =>
          obtain ⟨rfl, hSd⟩ := hcut
          clear i0 gx3
          cases LB
          case true =>
            have HS := Lib.hid (HBAD.out 7 (lvE_7 HM.out HO.out (Int.not_lt.2 HFN.out) HLB.out) (by decide))
            have hbf := below_call hbr0 hSd.below (Nat.le_refl _)
            go_wp2_with fail
            go_ret
            exact ⟨ret_int HS.out.symm, hbf⟩
          have HZ := Lib.hid (lvE_0 HM.out HO.out (Int.not_lt.2 HFN.out) HLB.out)
          have HNX : Hid (wrongQ xs (ys.take k) (at_, kd, key) = false → liveF (wrongQ xs) xs ys = liveG (wrongQ xs) xs (ys.take (k + 1)) (ys.drop (k + 1))) := HNX0.out HZ.out
          have HWR : Hid (wrongQ xs (ys.take k) (at_, kd, key) = true → liveF (wrongQ xs) xs ys = 11) := HWR0.out HZ.out
          clear hSb x0 x1 x2
          obtain ⟨s1, hs1⟩ : ∃ s, (seenF (ys.take k) key).1 = s := ⟨_, rfl⟩
          obtain ⟨s2, hs2⟩ : ∃ s, (seenF (ys.take k) key).2.1 = s := ⟨_, rfl⟩
          obtain ⟨s3, hs3⟩ : ∃ s, (seenF (ys.take k) key).2.2 = s := ⟨_, rfl⟩
          obtain ⟨OT, hOT⟩ : ∃ B, xs.any (otherB (ys.take k) key) = B := ⟨_, rfl⟩
          have HS1 := Lib.hid hs1
          have HS2 := Lib.hid hs2
          have HS3 := Lib.hid hs3
          have HOT := Lib.hid hOT
          have hwr1 : Below w1.heap.size w1 wr := hbr
          have HSB : Hid (∀ W, Below wc.heap.size wc W → Calls Try.prog 73 #[.slice (some ⟨g, o, none⟩) k c2, .string key] W (fun e w' => e = .returned (.agg #[.int .i64 s1, .int .i64 s2, .bool s3]) ∧ Below W.heap.size W w')) := fun W hW => by
            have h := seenBy_calls b (some ⟨g, o, none⟩) k c2 (ys.take k) key W ((((HR2.out.take lvC_len (by omega) (Nat.le_of_lt hlt)).below hwr1).below hSd.below).below hW)
            unfold SeenS at h
            rw [hs1, hs2, hs3] at h
            exact h
          have HSP : Hid (∀ W, Below wc.heap.size wc W → W.cell? ⟨w.heap.size, 0, none⟩ = some (.slice (some ⟨g, o, none⟩) m c2) ∧ W.cell? ⟨wr.heap.size, 0, none⟩ = some (.int .i64 (k : Int)) ∧ W.cell? ⟨wr.heap.size + 1, 2, none⟩ = some (.string key)) := fun W hW => by
            have h6 : Blk wc wr.heap.size _ _ := hSd.nth 1 rfl
            have h7 : Blk wc (wr.heap.size + 1) _ _ := hSd.nth 0 rfl
            exact ⟨(((HGX.out.below hwr1).below hSd.below).below hW).cell 0, (h6.below hW).cell 0, (h7.below hW).cell 2⟩
          have hdr : Below wc.heap.size wc wc.drew := below_drewN (Below.refl _ _) 1
          have hdrA : Below wc.heap.size wc (wc.alloc (.cells #[.int .i64 0, .int .i64 0, .bool false] 124)).drew := below_drewN ((Below.refl _ _).alloc (Nat.le_refl _) _) 1
          have HZB : Hid (Blk (wc.alloc (.cells #[.int .i64 0, .int .i64 0, .bool false] 124)).drew wc.heap.size 124 #[.int .i64 0, .int .i64 0, .bool false]) := Blk.drew (Blk.new wc _ _)
          have HQ1 : Hid (∀ w2, Below wc.heap.size wc w2 → Sq wr (w2.alloc (.cells #[.int .i64 s1, .int .i64 s2, .bool s3] 124)) [rBlk w2.heap.size 124 #[.int .i64 s1, .int .i64 s2, .bool s3], rBlk (wr.heap.size + 1) 103 #[.int .i64 at_, .int .i64 kd, .string key], rBlk wr.heap.size 3 #[.int .i64 (k : Int)]]) := fun w2 h2 => (hSd.callB h2).add _ _
          have HQ2 : Hid (∀ w2, Below (wc.alloc (.cells #[.int .i64 0, .int .i64 0, .bool false] 124)).heap.size (wc.alloc (.cells #[.int .i64 0, .int .i64 0, .bool false] 124)).drew w2 → Sq wr (((w2.setCell ⟨wc.heap.size, 0, none⟩ (.int .i64 s1)).setCell ⟨wc.heap.size, 1, none⟩ (.int .i64 s2)).setCell ⟨wc.heap.size, 2, none⟩ (.bool s3)) [rBlk wc.heap.size 124 #[.int .i64 s1, .int .i64 s2, .bool s3], rBlk (wr.heap.size + 1) 103 #[.int .i64 at_, .int .i64 kd, .string key], rBlk wr.heap.size 3 #[.int .i64 (k : Int)]]) := fun w2 h2 =>
            ((((hSd.add #[.int .i64 0, .int .i64 0, .bool false] 124).drew.callB h2).set_ 0 (.int .i64 s1)).set_ 1 (.int .i64 s2)).set_ 2 (.bool s3)
          have HCF : Hid (∀ W g8, Sq wr W [rBlk g8 124 #[.int .i64 s1, .int .i64 s2, .bool s3], rBlk (wr.heap.size + 1) 103 #[.int .i64 at_, .int .i64 kd, .string key], rBlk wr.heap.size 3 #[.int .i64 (k : Int)]] → Calls Try.prog 74 #[.slice A n c, .func (.func 75) #[] #[.pointer (some ⟨w.heap.size, 0, none⟩), .pointer (some ⟨wr.heap.size, 0, none⟩), .pointer (some ⟨wr.heap.size + 1, 0, none⟩)]] W (fun e w' => e = .returned (.bool OT) ∧ Sq wr w' [rBlk g8 124 #[.int .i64 s1, .int .i64 s2, .bool s3], rBlk (wr.heap.size + 1) 103 #[.int .i64 at_, .int .i64 kd, .string key], rBlk wr.heap.size 3 #[.int .i64 (k : Int)]])) := fun W g8 h => by
            have h7 : Blk W (wr.heap.size + 1) 103 #[.int .i64 at_, .int .i64 kd, .string key] := h.nth 1 rfl
            have h6 : Blk W wr.heap.size 3 #[.int .i64 (k : Int)] := h.nth 2 rfl
            have hc := contL_calls b w.heap.size wr.heap.size (wr.heap.size + 1) A n c xs (otherB (ys.take k) key) W ((HRS.out.below hwr1).below h.below) (fun W2 x hW2 => cloL_calls b w.heap.size wr.heap.size (wr.heap.size + 1) (some ⟨g, o, none⟩) m c2 k ys (at_, kd, key) x W2 (((HR2.out.below hwr1).below h.below).below hW2) (Nat.le_of_lt hlt) (((HGX.out.below hwr1).below h.below).below hW2) (h6.below hW2) (h7.below hW2))
            rw [hOT] at hc
            exact hc.mono (fun e w' ⟨he, hb⟩ => ⟨he, h.callB hb⟩)
          clear hs1 hs2 hs3 hOT hSd
          have hk0i : (0 : Int) ≤ (k : Int) := by omega
          have hkci : (k : Int) ≤ (c2 : Int) := by omega
          go_wp2_with fail
          go_cut [8] (fun s8 W => ∃ g8, s8 = .pointer (some ⟨g8, 0, none⟩) ∧ Sq wr W [rBlk g8 124 #[.int .i64 s1, .int .i64 s2, .bool s3], rBlk (wr.heap.size + 1) 103 #[.int .i64 at_, .int .i64 kd, .string key], rBlk wr.heap.size 3 #[.int .i64 (k : Int)]])
          case first =>
            go_region_held3 (fun W => W.cell? ⟨w.heap.size, 0, none⟩ = some (.slice (some ⟨g, o, none⟩) m c2) ∧ W.cell? ⟨wr.heap.size, 0, none⟩ = some (.int .i64 (k : Int)) ∧ W.cell? ⟨wr.heap.size + 1, 2, none⟩ = some (.string key))
              (first | exact HSP.out _ hdr | exact HSP.out _ hdrA | exact HSP.out _ hb3 | exact HSP.out _ (hb3.alloc hb3.size _) | exact HSP.out _ (((hb3.setCell (p := ⟨wc.heap.size, 0, none⟩) (Nat.le_refl _) _).setCell (p := ⟨wc.heap.size, 1, none⟩) (Nat.le_refl _) _).setCell (p := ⟨wc.heap.size, 2, none⟩) (Nat.le_refl _) _) | go_keep)
              (first
                | (go_at_call 73; ((with_reducible refine (HSB.out _ hdr).mono ?_); rintro e w2 ⟨rfl, hb2⟩; have hb3 := below_call hdr hb2 (Nat.le_refl _)))
                | (go_at_call 73; ((with_reducible refine (HSB.out _ hdrA).mono ?_); rintro e w2 ⟨rfl, hb2⟩; have hb3 := below_call hdrA hb2 (Nat.le_refl _); have z0 := (HZB.out.below hb2).cell 0; have z1 := (HZB.out.below hb2).cell 1; have z2 := (HZB.out.below hb2).cell 2; have f0 := (HZB.out.below hb2).frozen 0; have f1 := (HZB.out.below hb2).frozen 1; have f2 := (HZB.out.below hb2).frozen 2; have hzl := (HZB.out.below hb2).lt)))
            all_goals (go_wp2_with fail; go_meet)
            all_goals first
              | exact ⟨_, rfl, HQ1.out _ hb3⟩
              | exact ⟨_, rfl, HQ2.out _ hb2⟩
          case rest =>
            obtain ⟨g8, rfl, hS8⟩ := hcut
            go_wp2_with fail
            refine (HCF.out _ _ hS8).mono ?_
            rintro e w5 ⟨rfl, hS5⟩
            have h8 : Blk w5 g8 124 #[.int .i64 s1, .int .i64 s2, .bool s3] := hS5.nth 0 rfl
            have h7 : Blk w5 (wr.heap.size + 1) 103 #[.int .i64 at_, .int .i64 kd, .string key] := hS5.nth 1 rfl
            have v0 := h8.cell 0
            have v1 := h8.cell 1
            have v2 := h8.cell 2
            have q1 := h7.cell 1
            have hfin : Below w1.heap.size w1 w5 := below_call hbr hS5.below (Nat.le_refl _)
            have hfinW : Below w.heap.size w w5 := below_call HW1.out hfin (Nat.le_refl _)
            clear h8 h7 hS5 hS8 HCF HSB HSP HQ1 HQ2 HZB
            rcases hkd with rfl | rfl | rfl
            · by_cases h1 : 0 ≤ s1
              · have HWB : Hid (wrongQ xs (ys.take k) (at_, 1, key) = true) := Lib.hid ((wrongQ_1 (xs := xs) HS1.out HS2.out HS3.out HOT.out).trans (by simp [h1]))

                have HS := Lib.hid (HWR.out HWB.out)
                go_wp2_with fail
                go_ret
                exact ⟨ret_int HS.out.symm, hfinW⟩
              · cases s3
                · cases OT
                  · have HWB : Hid (wrongQ xs (ys.take k) (at_, 1, key) = false) := Lib.hid ((wrongQ_1 (xs := xs) HS1.out HS2.out HS3.out HOT.out).trans (by simp [h1]))

                    have HS := Lib.hid (HNX.out HWB.out)
                    go_wp2_with fail
                    go_roundw
                    case rel => exact ⟨k + 1, by omega, by go_num, HS, hfin⟩
                    case measure => simp [intOf]; omega
                  · have HWB : Hid (wrongQ xs (ys.take k) (at_, 1, key) = true) := Lib.hid ((wrongQ_1 (xs := xs) HS1.out HS2.out HS3.out HOT.out).trans (by simp [h1]))

                    have HS := Lib.hid (HWR.out HWB.out)
                    go_wp2_with fail
                    go_ret
                    exact ⟨ret_int HS.out.symm, hfinW⟩
                · have HWB : Hid (wrongQ xs (ys.take k) (at_, 1, key) = true) := Lib.hid ((wrongQ_1 (xs := xs) HS1.out HS2.out HS3.out HOT.out).trans (by simp [h1]))

                  have HS := Lib.hid (HWR.out HWB.out)
                  go_wp2_with fail
                  go_ret
                  exact ⟨ret_int HS.out.symm, hfinW⟩
            · by_cases h1 : 0 ≤ s1
              · by_cases h2 : 0 ≤ s2
                · have HWB : Hid (wrongQ xs (ys.take k) (at_, 2, key) = true) := Lib.hid ((wrongQ_2 (xs := xs) HS1.out HS2.out HS3.out).trans (by simp [h1, h2]))

                  have HS := Lib.hid (HWR.out HWB.out)
                  go_wp2_with fail
                  go_ret
                  exact ⟨ret_int HS.out.symm, hfinW⟩
                · have HWB : Hid (wrongQ xs (ys.take k) (at_, 2, key) = false) := Lib.hid ((wrongQ_2 (xs := xs) HS1.out HS2.out HS3.out).trans (by simp [h1, h2]))

                  have HS := Lib.hid (HNX.out HWB.out)
                  go_wp2_with fail
                  go_roundw
                  case rel => exact ⟨k + 1, by omega, by go_num, HS, hfin⟩
                  case measure => simp [intOf]; omega
              · have HWB : Hid (wrongQ xs (ys.take k) (at_, 2, key) = true) := Lib.hid ((wrongQ_2 (xs := xs) HS1.out HS2.out HS3.out).trans (by simp [h1]))

                have HS := Lib.hid (HWR.out HWB.out)
                go_wp2_with fail
                go_ret
                exact ⟨ret_int HS.out.symm, hfinW⟩
            · by_cases h1 : 0 ≤ s1
              · have HWB : Hid (wrongQ xs (ys.take k) (at_, 3, key) = true) := Lib.hid ((wrongQ_3 (xs := xs) HS1.out HS2.out HS3.out).trans (by simp [h1]))

                have HS := Lib.hid (HWR.out HWB.out)
                go_wp2_with fail
                go_ret
                exact ⟨ret_int HS.out.symm, hfinW⟩
              · cases s3
                · have HWB : Hid (wrongQ xs (ys.take k) (at_, 3, key) = false) := Lib.hid ((wrongQ_3 (xs := xs) HS1.out HS2.out HS3.out).trans (by simp [h1]))

                  have HS := Lib.hid (HNX.out HWB.out)
                  go_wp2_with fail
                  go_roundw
                  case rel => exact ⟨k + 1, by omega, by go_num, HS, hfin⟩
                  case measure => simp [intOf]; omega
                · have HWB : Hid (wrongQ xs (ys.take k) (at_, 3, key) = true) := Lib.hid ((wrongQ_3 (xs := xs) HS1.out HS2.out HS3.out).trans (by simp [h1]))

                  have HS := Lib.hid (HWR.out HWB.out)
                  go_wp2_with fail
                  go_ret
                  exact ⟨ret_int HS.out.symm, hfinW⟩
      · obtain rfl : k = m := by omega
        have HS := Lib.hid (HF.out.trans (by rw [List.drop_of_length_le (by rw [HL2.out]; exact Nat.le_refl _)]; rfl : _ = (0 : Int)))
        have hbf := below_call HW1.out hbr (Nat.le_refl _)
        go_wp2_with fail
        go_ret
        exact ⟨ret_int HS.out.symm, hbf⟩
  · have HF := Lib.hid (hF.trans (if_neg hz))
    have hz' : (E != 0) = true := by rw [bne_iff_ne]; exact hz
    clear hF
    go_enter Try.func25, Try.ntmps25
    go_wp2_with fail
    refine HCS.out.mono ?_
    rintro e w1 ⟨rfl, hb1, hgx⟩
    go_wp2_with fail
    go_ret
    exact ⟨ret_int HF.out.symm, hb1⟩
end Go.Proofs.Ytknojcomgccpeaa
