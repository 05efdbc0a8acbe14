/-
  Steps that are written: the reference's StepLines by its contract.
-/
import Derived.Test.YtaendemgkabdfaaGreatDoorZStp6
import Derived.Test.YtaendemgkabdfaaGreatDoorZTxt4
namespace Go.Proofs.YtaendemgkabdfaaGreatDoor
open Go Go.RowKit TxtP
attribute [local go_sem ↓ high] run_sumS

set_option maxRecDepth 100000 in
set_option maxHeartbeats 4000000 in
theorem stepLines_calls (b : Nat) (A : Option Addr) (n c : Nat) (l : List Stp) (w : World) (hr : Rd w b 3 (.slice A n c) n (l.flatMap stC)) (hb : b < w.heap.size) (ht : Tab w) (hn : n ≤ 100) (hok : StOk l) :
    Calls Tryz.prog 10 #[.slice A n c] w (BRet (.string ⟨(slinesT l).toArray⟩) w) := by
  obtain ⟨hl, hnc, hcm, hcells⟩ := hr.cells stC_len (by omega)
  have hle := slinesT_le hok
  have HOK := Lib.hid hok
  have HL := Lib.hid hl
  have HCL := Lib.hid hcells
  have hgt : (slinesT l).length ≤ 8000 := by omega
  clear hr hok hl hcells hle
  go_enter Tryz.func10, Tryz.ntmps10
  go_wp2
  go_loopw [3, 8] (fun s i wr => ∃ (k : Nat) (x : ByteArray), k ≤ n ∧ s = .string x ∧ i = .int .i64 k ∧ Hid (x = ⟨(slinesT (l.take k)).toArray⟩) ∧ Below w.heap.size w wr) (fun _ i _ => n - (intOf i).toNat)
  case atStart => exact ⟨0, ⟨#[]⟩, Nat.zero_le _, rfl, rfl, Lib.hid rfl, Below.refl _ _⟩
  case round =>
    obtain ⟨k, X, hk, rfl, rfl, HX, hbr⟩ := hrel
    by_cases hlt : k < n
    · have hkr : k < l.length := by rw [HL.out]; exact hlt
      obtain ⟨g, o, hA, _, hcs⟩ := HCL.out (by omega)
      subst hA
      have c0 := below_cell hbr (hcs k hkr 0 (by omega))
      have c1 := below_cell hbr (hcs k hkr 1 (by omega))
      have c2 := below_cell hbr (hcs k hkr 2 (by omega))
      have hp1 := HOK.out.at_ _ (List.getElem_mem hkr)
      have hp2 := HOK.out.kind _ (List.getElem_mem hkr)
      have hp3 := HOK.out.who _ (List.getElem_mem hkr)
      have hp4 := HOK.out.go_ _ (List.getElem_mem hkr)
      obtain ⟨p, hp⟩ : ∃ p, p = l[k] := ⟨_, rfl⟩
      rw [← hp] at c0 c1 c2 hp1 hp2 hp3 hp4
      obtain ⟨at_, kd, x⟩ := p
      replace c0 : wr.cell? ⟨g, o + k * 3, none⟩ = some (.int .i64 at_) := c0
      replace c1 : wr.cell? ⟨g, o + k * 3 + 1, none⟩ = some (.int .i64 kd) := c1
      replace c2 : wr.cell? ⟨g, o + k * 3 + 2, none⟩ = some (.string x) := c2
      replace hp1 : 0 ≤ at_ ∧ at_ ≤ 345686399999 := hp1
      replace hp2 : 1 ≤ kd ∧ kd ≤ 8 := hp2
      replace hp3 : x.size ≤ 40 := hp3
      replace hp4 : kd = 5 ↔ x.size = 0 := hp4
      obtain ⟨t, ht1⟩ : ∃ t : ByteArray, t = ⟨(Lib.itoa at_).toArray⟩ := ⟨_, rfl⟩
      have hts : t.size ≤ 21 := by rw [ht1, ba_size]; exact Lib.itoa_length_le at_ (by omega) (by omega)
      obtain ⟨kw, hkw⟩ : ∃ kw, kw = swordsL.getD kd.toNat ⟨#[]⟩ := ⟨_, rfl⟩
      have hks : kw.size ≤ 10 := by have := swords_small kd.toNat; rw [← hkw] at this; simpa using this
      have hkc := swords_word hp2
      rw [← hkw] at hkc
      have hlk : X.size ≤ 8000 := by
        have h1 := slinesT_le (HOK.out.take k)
        rw [List.length_take] at h1
        rw [HX.out, ba_size]
        omega
      have HLN : Hid (slinesT (l.take (k + 1)) = X.data.toList ++ (headS t kw).data.toList ++ (if kd = 5 then [] else (sumS ⟨#[32]⟩ x).data.toList) ++ [10]) := by
        refine Lib.hid ?_
        rw [slinesT_take hkr, ← hp, HX.out, ba_list]
        unfold slineT slineH slineW headS
        rw [sumS_data, sumS_data, sumS_data, ht1, hkw]
        simp only [List.append_assoc]
      have a1 : AddOk t ⟨#[32]⟩ := by show t.size + 1 ≤ 1000000; omega
      have a2 : AddOk (sumS t ⟨#[32]⟩) kw := by unfold AddOk; rw [sumS_size]; show t.size + 1 + kw.size ≤ 1000000; omega
      have a3 : AddOk ⟨#[32]⟩ x := by show 1 + x.size ≤ 1000000; omega
      have a4 : AddOk X (sumS (sumS t ⟨#[32]⟩) kw) := by unfold AddOk; rw [sumS_size, sumS_size]; show X.size + (t.size + 1 + kw.size) ≤ 1000000; omega
      have a5 : AddOk (sumS X (sumS (sumS t ⟨#[32]⟩) kw)) ⟨#[10]⟩ := by unfold AddOk; rw [sumS_size, sumS_size, sumS_size]; show X.size + (t.size + 1 + kw.size) + 1 ≤ 1000000; omega
      have a6 : AddOk (sumS X (sumS (sumS t ⟨#[32]⟩) kw)) (sumS ⟨#[32]⟩ x) := by unfold AddOk; rw [sumS_size, sumS_size, sumS_size, sumS_size]; show X.size + (t.size + 1 + kw.size) + (1 + x.size) ≤ 1000000; omega
      have a7 : AddOk (sumS (sumS X (sumS (sumS t ⟨#[32]⟩) kw)) (sumS ⟨#[32]⟩ x)) ⟨#[10]⟩ := by unfold AddOk; rw [sumS_size, sumS_size, sumS_size, sumS_size, sumS_size]; show X.size + (t.size + 1 + kw.size) + (1 + x.size) + 1 ≤ 1000000; omega
      have HNU : Hid (∀ V, Tab V → b < V.heap.size → Calls Tryz.prog 41 #[.slice (some ⟨V.heap.size, 0, none⟩) 1 1] ((V.alloc (.cells #[.int .i64 at_] 3)).drew) (BRet (.string t) ((V.alloc (.cells #[.int .i64 at_] 3)).drew))) := by
        refine Lib.hid (fun V h hbV => ?_)
        have hrd : Rd ((V.alloc (.cells #[.int .i64 at_] 3)).drew) b 1 (.slice (some ⟨V.heap.size, 0, none⟩) 1 1) 1 ([at_].map (Value.int .i64)) := (Rd.lit V b 1 1 #[.int .i64 at_] _ (by omega) (by decide) rfl).below (below_drewN (Below.refl _ _) 1)
        have := numbers_calls b _ 1 1 [at_] _ hrd (fun z hz => by simp at hz; omega) (h.below (below_drewN ((Below.refl _ _).alloc (Nat.le_refl _) _) 1)) (by omega) (by omega)
        rw [joinN_one, ← ht1] at this
        exact this
      clear hcs hp hkw ht1 hts hks hlk
      go_upto_region 5 with (fail)
      obtain ⟨V0, hV0, hbV, hkV⟩ : ∃ V0, V0 = wr.alloc (.cells #[.int .i64 at_, .int .i64 kd, .string x] 39) ∧ Below w.heap.size w V0 ∧ Blk V0 wr.heap.size 39 #[.int .i64 at_, .int .i64 kd, .string x] :=
        ⟨_, rfl, hbr.alloc hbr.size _, Blk.new _ _ _⟩
      rw [← hV0]
      obtain ⟨H, hH⟩ : ∃ H, H = wr.heap.size := ⟨_, rfl⟩
      rw [← hH] at hkV ⊢
      clear hV0 hH hbr c0 c1 c2
      have dl0 : V0.cell? ⟨H, 0, none⟩ = some (.int .i64 at_) := hkV.cell 0
      have dl1 : V0.cell? ⟨H, 1, none⟩ = some (.int .i64 kd) := hkV.cell 1
      have hHlt : H < V0.heap.size := hkV.lt
      have e1 : (V0.alloc (.cells #[.int .i64 at_] 3)).cell? ⟨H, 1, none⟩ = some (.int .i64 kd) := below_cell ((Below.refl _ _).alloc (Nat.le_refl _) _) dl1
      have HNV := Lib.hid (HNU.out V0 (ht.below hbV) (Nat.lt_of_lt_of_le hb hbV.size))
      have HKD : Hid (∀ V K, V.heap.size = K → Calls Tryz.prog 42 #[] V (fun e w' => e = .returned (.slice (some ⟨K, 0, none⟩) 9 9) ∧ Below V.heap.size V w' ∧ Blk w' K 9 (strCs swordsL))) := by
        refine Lib.hid (fun V K hK => ?_)
        rw [← hK]
        exact stepWords_calls V
      have hid0 : kd.toNat < 9 := by omega
      have hid1 : 0 ≤ kd := by omega
      have hid2 : kd < 9 := by omega
      have hbL : Below w.heap.size w ((V0.alloc (.cells #[.int .i64 at_] 3)).drew) := below_drewN (hbV.alloc hbV.size _) 1
      have hkL : Blk ((V0.alloc (.cells #[.int .i64 at_] 3)).drew) H 39 #[.int .i64 at_, .int .i64 kd, .string x] := hkV.below (below_drewN ((Below.refl _ _).alloc (Nat.le_refl _) _) 1)
      go_region_law (first
        | (go_simp; go_at_call 41; ((with_reducible refine HNV.out.mono ?_); rintro e wA ⟨rfl, hbA⟩; have dA1 := below_cell hbA e1))
        | (go_simp; go_at_call 42; ((with_reducible refine (HKD.out wA wA.heap.size rfl).mono ?_); rintro e wK ⟨rfl, hbK, hkK⟩; have dK1 := below_cell hbK dA1; have ckK := (hkK.cell kd.toNat).trans hkc)))
      all_goals
        have hbX : Below w.heap.size w wK := below_call (below_call hbL hbA (Nat.le_refl _)) hbK (Nat.le_refl _)
        obtain ⟨_, u1, u2, _, _, _⟩ := ((hkL.below hbA).below hbK).three
        clear dA1 dK1 ckK hkK hkV hkL dl0 dl1 e1 a1 a2 a4 hkc HKD HNU HNV hbA hbK hbL hbV
        by_cases hk5 : kd = 5
        · have hx0 : x.size = 0 := hp4.1 hk5
          have he : x.toList = [] := by rw [Lib.toList_data]; exact nil_data hx0
          have heb : (x.toList == []) = true := by rw [he]; rfl
          have hee : x.toList.isEmpty = true := by rw [he]; rfl
          have HLN2 : Hid (sumS (sumS X (headS t kw)) ⟨#[10]⟩ = ⟨(slinesT (l.take (k + 1))).toArray⟩) := by
            refine Lib.hid ?_
            have h1 : (sumS (sumS X (headS t kw)) ⟨#[10]⟩).data.toList = slinesT (l.take (k + 1)) := by
              rw [HLN.out, if_pos hk5, List.append_nil, sumS_data, sumS_data]
            rw [← h1, ba_eta]
          clear HLN a6 a7 hx0 hp4 hk5
          go_wp2
          go_roundw
          case rel => exact ⟨k + 1, _, by omega, rfl, by go_num, HLN2, hbX⟩
          case measure => simp [intOf]; omega
        · have hx0 : ¬ x.size = 0 := fun h => hk5 (hp4.2 h)
          have he1 := isEmpty_f (s := x) (by omega)
          have he2 : (x.toList == []) = false := by rw [← he1]; cases x.toList <;> rfl
          have HLN2 : Hid (sumS (sumS (sumS X (headS t kw)) (sumS ⟨#[32]⟩ x)) ⟨#[10]⟩ = ⟨(slinesT (l.take (k + 1))).toArray⟩) := by
            refine Lib.hid ?_
            have h1 : (sumS (sumS (sumS X (headS t kw)) (sumS ⟨#[32]⟩ x)) ⟨#[10]⟩).data.toList = slinesT (l.take (k + 1)) := by
              rw [HLN.out, if_neg hk5, sumS_data, sumS_data, sumS_data]
            rw [← h1, ba_eta]
          clear HLN a5 hx0 hp4 hk5
          go_wp2
          go_roundw
          case rel => exact ⟨k + 1, _, by omega, rfl, by go_num, HLN2, hbX⟩
          case measure => simp [intOf]; omega
    · obtain rfl : k = n := by omega
      have HX2 : Hid (X = ⟨(slinesT l).toArray⟩) := by
        have := HX.out
        rw [List.take_of_length_le (by rw [HL.out]; exact Nat.le_refl _)] at this
        exact Lib.hid this
      go_wp2
      go_ret
      exact ⟨by rw [← HX2.out]; rfl, hbr⟩
end Go.Proofs.YtaendemgkabdfaaGreatDoor
