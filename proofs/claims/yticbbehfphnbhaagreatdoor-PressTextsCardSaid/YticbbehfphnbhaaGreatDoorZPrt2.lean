/-
  A press's line: the reference's closure by its contract.
-/
import Derived.Test.YticbbehfphnbhaaGreatDoorZPrt1
import Derived.Test.YticbbehfphnbhaaGreatDoorZAppAny
import Derived.RegionTactic
import Derived.ChangeAlike
import Derived.BigRegion
namespace Go.Proofs.YticbbehfphnbhaaGreatDoor
open Go Go.RowKit TxtP

def wordsL : List ByteArray := ⟨#[]⟩ :: kindsL
theorem pressWords_calls (w : World) : Calls Tryz.prog 50 #[] w (LitR wordsL w) := by
  have HR : Hid (∀ v : Value, v = .slice (some ⟨w.heap.size, 0, none⟩) 10 10 → LitR wordsL w (.returned v) (w.alloc (.cells (strCs wordsL) 9))) := by
    refine Lib.hid (fun v hv => ⟨by rw [hv]; rfl, (Below.refl _ _).alloc (Nat.le_refl _) _, Blk.new _ _ _⟩)
  go_enter Tryz.func50, Tryz.ntmps50
  go_wp2
  go_ret
  exact HR.out _ rfl
theorem idx_shift (x : ByteArray) : ∀ (zs : List ByteArray) (k : Nat), Lib.idxFromS zs x (k + 1) = if Lib.idxFromS zs x k < 0 then -1 else Lib.idxFromS zs x k + 1
  | [], k => by unfold Lib.idxFromS; rfl
  | z :: zs, k => by
    unfold Lib.idxFromS
    split
    · rw [if_neg (by omega)]; omega
    · exact idx_shift x zs (k + 1)
theorem idx_words {b : ByteArray} (h : ¬ b = ⟨#[]⟩) : Lib.idxOfS wordsL b = if Lib.idxOfS kindsL b < 0 then -1 else Lib.idxOfS kindsL b + 1 := by
  unfold wordsL Lib.idxOfS
  rw [Lib.idxFromS, if_neg (by intro h2; first | exact h h2.symm | exact h h2 | (simp at h2; first | exact h h2.symm | exact h h2)), idx_shift]

theorem Sq.blk {w0 W W' : World} {l : List Rsc} (h : Sq w0 W l) {g : Nat} {t : TypeId} {cs : Array Value} (k : Below W.heap.size W W') (hb : Blk W' g t cs) (hg : W.heap.size ≤ g) : Sq w0 W' (rBlk g t cs :: l) := by
  refine h.new_ (r := rBlk g t cs) k hb (rBlk_ok _ _ _) (fun g' hg' => ?_)
  have : g' = g := hg'
  subst this
  exact ⟨hg, Blk.lt hb⟩
/-- one more press -/
theorem step_app_pz {w0 V : World} {z k : Int} {L : List Rsc} {A : Option Addr} {n c : Nat} {ys : List Pz} {gl : Nat} {ops : Array Oper} {o : Oper} {a : Act} {K : Act → World → Prop} {Q : Exit → Act → World → Prop} {E : Prop} (hgd : o.guard = none) (s y : Operand) (ho : o.op = .call { callee := .builtin .append, args := #[s, y], argTypes := #[26, 26] })
    (hT : Sq w0 V (rBlk gl 39 #[.int .i64 z, .int .i64 k] :: rOwn w0.heap.size 39 2 (.slice A n c) n (ys.flatMap pzC) :: L)) (b : Nat) (hb : b < w0.heap.size) (hn : n ≤ 200000) (hs : a.eval s = .slice A n c) (hx : a.eval y = .slice (some ⟨gl, 0, none⟩) 1 1)
    (h : ∀ A' c' V', Sq w0 V' (rOwn w0.heap.size 39 2 (.slice A' (n + 1) c') (n + 1) (ys.flatMap pzC ++ [.int .i64 z, .int .i64 k]) :: L) → K (a.put o.dst (.slice A' (n + 1) c')) V') :
    if Region.wanted o (yielded ops a.tmps) = true then Oper.wp Tryz.prog o a V K Q else E := by
  obtain ⟨i0, hi, hz0, hz1, hz2⟩ := info_parts info_press
  have hw : Region.wanted o (yielded ops a.tmps) = true := by simp [Region.wanted, hgd]
  rw [if_pos hw]
  have hb' : Blk V gl 39 #[.int .i64 z, .int .i64 k] := hT.head
  have hS1 := hT.tail
  have hown : V.ownsRow w0.heap.size 39 2 (.slice A n c) n (ys.flatMap pzC) := hS1.head
  have hge : w0.heap.size ≤ gl := (hT.hp.new _ (List.mem_cons_self ..) gl rfl).1
  have hr : Rd V b 2 (.slice (some ⟨gl, 0, none⟩) 1 1) 1 [.int .i64 z, .int .i64 k] := blkRd 2 1 hb' (by omega) (by decide) rfl
  refine wp_app_rd V s y 26 ho w0.heap.size 39 i0 (.agg #[.int .i64 0, .int .i64 0]) 2 16 Tryz.underlying26 hi hz0 hz1 hz2 rfl (by decide) _ n _ hs hown b _ 1 1 [.int .i64 z, .int .i64 k] hx hr (one2p rfl rfl) (by unfold maxLen; omega) (by omega) hT.size ?_
  intro v' w' h1 h2 h3
  obtain ⟨A', c', rfl⟩ := own_form h1
  exact h A' c' w' (hS1.append h1 h2 h3)

set_option maxRecDepth 100000 in
set_option maxHeartbeats 2000000 in
theorem readQ_calls (w0 : World) (gO M : Nat) (hx : MxL w0) (ht : Tab w0) (hM : M ≤ 200000) : CloR w0 (QP w0 gO) 57 (.pointer (some ⟨gO, 0, none⟩)) fP M := by
  intro W done s L hS0 hs hdl
  have hmx : MxL W := hx.below hS0.below
  have htw : Tab W := ht.below hS0.below
  have HWD := Lib.hid (wordsQ_calls s W (by omega) hmx)
  have hbel := hS0.below
  have hle := pcs_le 32 s
  obtain ⟨A, c, hS⟩ := hS0.open_
  obtain ⟨b0, hb0⟩ : ∃ b0, b0 < w0.heap.size := by
    obtain ⟨m, hm⟩ := hx
    exact ⟨_, World.block_lt_of_cell? _ _ hm⟩
  clear hS0 hmx
  cases hw : wrdB s 2
  · have HF : Hid (fP s.data.toList = false) := by
      refine Lib.hid ?_
      unfold fP
      rw [ba_eta, hw, Bool.false_and]
    rw [wrd_split] at hw
    cases hq : wrdQ s
    · obtain ⟨n, hn⟩ : ∃ n, n = (pcs 32 s).length := ⟨_, rfl⟩
      have HW2 : Hid (Calls Tryz.prog 58 #[.string s] W (fun e w' => e = .returned (.tuple #[.slice (some ⟨W.heap.size, 0, none⟩) n n, .bool false]) ∧ Below W.heap.size W w')) := by
        refine Lib.hid (HWD.out.mono (fun e w' h => ⟨?_, h.2.1⟩))
        rw [h.1, hq, hn]
      rw [HF.out]
      clear HF hw HWD hn hq hle
      go_enter Tryz.func57, Tryz.ntmps57
      go_wp2_with (first | (go_at_call 58; refine HW2.out.mono ?_; rintro e w1 ⟨rfl, hb1⟩))
      go_ret
      exact ⟨rfl, (fun h => by cases h), below_call hbel hb1 (Nat.le_refl _)⟩
    · rw [hq, Bool.and_true] at hw
      obtain ⟨n, hn⟩ : ∃ n, n = (pcs 32 s).length := ⟨_, rfl⟩
      have HW2 : Hid (Calls Tryz.prog 58 #[.string s] W (fun e w' => e = .returned (.tuple #[.slice (some ⟨W.heap.size, 0, none⟩) n n, .bool true]) ∧ Below W.heap.size W w')) := by
        refine Lib.hid (HWD.out.mono (fun e w' h => ⟨?_, h.2.1⟩))
        rw [h.1, hq, hn]
      rw [← hn] at hw hle
      have hn2 : ((n : Int) != 2) = true := by
        have := of_decide_eq_false hw
        simp; omega
      rw [HF.out]
      clear HF hw HWD hn hq
      go_enter Tryz.func57, Tryz.ntmps57
      go_wp2_with (first | (go_at_call 58; refine HW2.out.mono ?_; rintro e w1 ⟨rfl, hb1⟩))
      go_ret
      exact ⟨rfl, (fun h => by cases h), below_call hbel hb1 (Nat.le_refl _)⟩
  · obtain ⟨a, b, hab, htw2⟩ := wrd_two hw
    have has : a.size ≤ 200000 := by have := pcs_size (c := 32) (s := s) (x := a) (by rw [hab]; simp); omega
    have hq : wrdQ s = true := by rw [wrd_split, Bool.and_eq_true] at hw; exact hw.2
    have hbe : ¬ b = ⟨#[]⟩ := by
      intro e
      unfold wrdQ at hq
      rw [hab, List.all_eq_true] at hq
      have := hq b (by simp)
      rw [e] at this
      cases this
    have HW2 : Hid (Calls Tryz.prog 58 #[.string s] W (fun e w' => e = .returned (.tuple #[.slice (some ⟨W.heap.size, 0, none⟩) 2 2, .bool true]) ∧ Below W.heap.size W w' ∧ Blk w' W.heap.size 9 #[.string a, .string b])) := by
      refine Lib.hid (HWD.out.mono (fun e w' h => ?_))
      obtain ⟨h1, h2, h3⟩ := h
      rw [hab] at h1 h3
      rw [hq] at h1
      exact ⟨h1, h2, h3⟩
    have HNU := Lib.hid (fun V (h : Tab V) => numberQ_calls a 15 (by decide) V (by unfold maxLen; omega) h)
    obtain ⟨i, hi⟩ : ∃ i, i = Lib.idxOfS wordsL b := ⟨_, rfl⟩
    have hib := idx_bd wordsL b
    have HIX := Lib.hid (fun g V => idx_lit wordsL b g V (by decide))
    have hiw := idx_words hbe
    have hfP : fP s.data.toList = (numB a.data.toList 15 && decide (0 < i)) := by
      unfold fP
      rw [ba_eta, hw, Bool.true_and, htw2]
      show (numB a.data.toList 15 && decide (0 ≤ Lib.idxOfS kindsL b)) = _
      rw [hi, hiw]
      congr 1
      split
      · rw [decide_eq_false (by omega), decide_eq_false (by omega)]
      · rw [decide_eq_true (by omega), decide_eq_true (by omega)]
    have hvP : 0 < i → vP s.data.toList = (numI a.data.toList, i) := by
      intro h0
      unfold vP
      rw [htw2]
      rw [hi, hiw] at h0 ⊢
      split
      · rename_i h; rw [if_pos h] at h0; omega
      · rw [Int.add_comm]
    rw [← hi] at hib HIX
    have hk9 : wordsL.length = 10 := rfl
    rw [hk9] at hib HIX
    have HKD : Hid (∀ V, Calls Tryz.prog 50 #[] V (fun e w' => e = .returned (.slice (some ⟨V.heap.size, 0, none⟩) 10 10) ∧ Below V.heap.size V w' ∧ Blk w' V.heap.size 9 (strCs wordsL))) := Lib.hid pressWords_calls
    obtain ⟨B, hB⟩ : ∃ B, B = numB a.data.toList 15 := ⟨_, rfl⟩
    have HNV : Hid (∀ V, Tab V → Calls Tryz.prog 59 #[.string a, .int .i64 15] V (fun e w' => ∃ z : Int, -1000000000000000000 < z ∧ z < 1000000000000000000 ∧ e = .returned (.tuple #[.int .i64 z, .bool B]) ∧ Hid (B = true → z = numI a.data.toList) ∧ Below V.heap.size V w')) := by
      refine Lib.hid (fun V h => (HNU.out V h).mono ?_)
      rintro e w' ⟨v, rfl, ⟨z, h1, h2, rfl, h3⟩, hb⟩
      exact ⟨z, h1, h2, by rw [hB], Lib.hid (fun h => h3 (by rw [← hB]; exact h)), hb⟩
    have HE : Hid (∀ z : Int, (B = true → z = numI a.data.toList) → fP s.data.toList = (B && decide (0 < i)) ∧ (B = true → 0 < i → vP s.data.toList = (z, i))) := by
      refine Lib.hid (fun z h => ⟨by rw [hfP, hB], fun h1 h0 => by rw [hvP h0, h h1]⟩)
    clear hw hab htw2 hi hvP hfP hk9 HWD hx hiw hbe HNU hq hB hle ht
    have hdl2 : done.length ≤ 200000 := by omega
    obtain ⟨i0, hi, hi0, hi1, hi2⟩ := info_parts info_press
    have hc1 := (hS.nth 1 rfl).cell 0
    obtain ⟨n, hn⟩ : ∃ n, n = done.length := ⟨_, rfl⟩
    rw [← hn] at hS hc1 hdl2
    have HSH : Hid (∀ V A' c' z, (B = true → z = numI a.data.toList) → B = true → 0 < i → Sq w0 V (rOwn w0.heap.size 39 2 (.slice A' (n + 1) c') (n + 1) ((done.map vP).flatMap pzC ++ [.int .i64 z, .int .i64 i]) :: rBlk gO 26 #[.slice A' (n + 1) c'] :: L) → StP w0 (QP w0 gO) (done ++ [s.data.toList]) V L) := by
      rw [hn]
      refine Lib.hid (fun V A' c' z hz hB h0 h => StP.shut (A := A') (c := c') ?_)
      rw [(HE.out z hz).2 hB h0]
      exact h
    have HLN : Hid ((done.map vP).length = n) := Lib.hid (by rw [List.length_map, hn])
    clear hn hdl
    go_enter Tryz.func57, Tryz.ntmps57
    go_wp2_with (first
      | (go_at_call 58; refine HW2.out.mono ?_; rintro e w1 ⟨rfl, hb1, hk1⟩; have d0 := hk1.cell 0; have d1 := hk1.cell 1; have hS1 := (hS.blk hb1 hk1 (Nat.le_refl _)).front 1 rfl rfl; have ht1 := htw.below hb1)
      | (go_at_call 59; refine (HNV.out _ ht1).mono ?_; rintro e w2 ⟨z, hz0, hz1, rfl, HZ, hb2⟩; have d1' := below_cell hb2 d1; have hS2 := hS1.callB hb2))
    replace d1' : w2.cell? ⟨W.heap.size, 1, none⟩ = some (.string b) := d1'
    have cb2 := (hS2.nth 2 rfl).cell 0
    replace cb2 : w2.cell? ⟨gO, 0, none⟩ = some (.slice A n c) := cb2
    clear hk1 d0 d1 hS1 hb1 hb2 hc1 ht1
    obtain ⟨G, hG⟩ : ∃ G, W.heap.size = G := ⟨_, rfl⟩
    rw [hG] at d1' ⊢
    obtain ⟨H2, hH2⟩ : ∃ H2, w2.heap.size = H2 := ⟨_, rfl⟩
    have HKD2 : Hid (Calls Tryz.prog 50 #[] w2.drew (fun e w' => e = .returned (.slice (some ⟨H2, 0, none⟩) 10 10) ∧ Below w2.drew.heap.size w2.drew w' ∧ Blk w' H2 9 (strCs wordsL))) := by
      rw [← hH2]; exact Lib.hid (HKD.out w2.drew)
    have dd : w2.drew.cell? ⟨G, 1, none⟩ = some (.string b) ∧ w2.drew.cell? ⟨gO, 0, none⟩ = some (.slice A n c) := ⟨d1', cb2⟩
    have hS2d := hS2.drew
    have hG8 : Hid (∀ V (r : Rsc), Sq w0 V (r :: rBlk W.heap.size 9 #[.string a, .string b] :: rBlk gO 26 #[.slice A n c] :: L) → V.cell? ⟨G, 1, none⟩ = some (.string b)) := by
      rw [← hG]
      exact Lib.hid (fun V r h => (h.nth 1 rfl).cell 1)
    clear d1' cb2 hS2 hS
    obtain ⟨dd1, dd2⟩ := dd
    have dl1 : w2.cell? ⟨G, 1, none⟩ = some (.string b) := dd1
    have dl2 : w2.cell? ⟨gO, 0, none⟩ = some (.slice A n c) := dd2
    clear dd1 dd2
    go_cut [] (fun V => ∃ (A8 : Option Addr) (c8 : Nat), Sq w0 V (rOwn w0.heap.size 39 2 (.slice A8 (n + 1) c8) (n + 1) ((done.map vP).flatMap pzC ++ [.int .i64 z, .int .i64 i]) :: rBlk gO 26 #[.slice A8 (n + 1) c8] :: L))
    case first =>
      clear HE HSH HLN HZ has HW2 HNV
      go_region_law (first
          | (go_simp; go_at_call 50; ((with_reducible refine HKD2.out.mono ?_); rintro e w3 ⟨rfl, hb3, hk3⟩; have hS3 := hS2d.callB hb3; have e31 : w3.cell? ⟨G, 1, none⟩ = some (.string b) := below_cell hb3 dl1; have e32 : w3.cell? ⟨gO, 0, none⟩ = some (.slice A n c) := below_cell hb3 dl2; have hT3 := hS3.add #[.int .i64 z, .int .i64 i] 39; have e42 : (w3.alloc (.cells #[.int .i64 z, .int .i64 i] 39)).cell? ⟨gO, 0, none⟩ = some (.slice A n c) := (hT3.nth 3 rfl).cell 0; have hz3 := hS3.size))
          | (go_simp; go_at_call 55; ((with_reducible refine (HIX.out _ _ hk3).mono ?_); rintro e w4 ⟨rfl, rfl⟩))
          | ((with_reducible refine step_app_pz rfl _ _ rfl hT3 b0 hb0 hdl2 rfl rfl ?_); intro A8 c8 w8 hS8; have cb8 : w8.cell? ⟨gO, 0, none⟩ = some (.slice A n c) := (hS8.nth 2 rfl).cell 0; have fb8 : w8.frozen? ⟨gO, 0, none⟩ = false := (hS8.nth 2 rfl).frozen 0; have hz8 := hS8.size))
      all_goals
        go_wp2_with fail
        go_meet
        exact ⟨A8, c8, (((hS8.drop 1 rfl rfl).front 1 rfl rfl).set_ 0 (.slice A8 (n + 1) c8)).front 1 rfl rfl⟩
    case rest =>
      obtain ⟨A8, c8, hS9⟩ := hcut
      clear dl1 dl2 hS2d HKD2 hH2 hG8 hG
      have cb9 : wc.cell? ⟨gO, 0, none⟩ = some (.slice A8 (n + 1) c8) := (hS9.nth 1 rfl).cell 0
      have hP9 : ((done.map vP).flatMap pzC ++ [.int .i64 z, .int .i64 i]) = (done.map vP ++ [(z, i)]).flatMap pzC := (flat_pz (done.map vP) (z, i)).symm
      have HO : wc.ownsRow w0.heap.size 39 2 (.slice A8 (n + 1) c8) (n + 1) ((done.map vP ++ [(z, i)]).flatMap pzC) := by
        rw [← hP9]; exact hS9.head
      obtain ⟨g8, cap8, hv8, _, _⟩ := HO.form (by omega)
      have hA8 : A8 = some ⟨g8, 0, none⟩ := by injection hv8
      have hcap := own_cap HO
      clear hv8
      subst hA8
      have x1 := own_cell pzC 2 pzC_len HO n 1 (by rw [List.length_append, HLN.out]; simp) (by omega) (by omega)
      have hzi : (done.map vP ++ [(z, i)])[n]'(by rw [List.length_append, HLN.out]; simp) = (z, i) := by
        have h1 := HLN.out
        subst h1
        simp
      rw [hzi] at x1
      replace x1 : wc.cell? ⟨g8, n * 2 + 1, none⟩ = some (.int .i64 i) := by first | exact x1 | simpa using x1
      clear hzi HO hP9
      have HFB := Lib.hid ((HE.out z HZ.out).1)
      have HSZ := Lib.hid (fun V A' c' => HSH.out V A' c' z HZ.out)
      have hS10 := hS9.below
      clear HE HSH HLN HZ hib hz0 hz1
      by_cases h0 : 0 < i
      · cases B
        · have HF : Hid (fP s.data.toList = false) := Lib.hid (by rw [HFB.out]; rfl)
          clear HFB HSZ
          go_wp2
          go_ret
          exact ⟨by rw [HF.out]; rfl, (fun h => by rw [HF.out] at h; cases h), hS10⟩
        · have HF : Hid (fP s.data.toList = true) := Lib.hid (by rw [HFB.out, decide_eq_true h0]; rfl)
          have HS := Lib.hid (HSZ.out _ _ _ rfl h0 hS9)
          clear HFB HSZ
          go_wp2
          go_ret
          exact ⟨by rw [HF.out]; first | rfl | exact ret_bool (decide_eq_true h0), fun _ => HS.out, hS10⟩
      · have HF : Hid (fP s.data.toList = false) := by
          refine Lib.hid ?_
          rw [HFB.out, decide_eq_false h0, Bool.and_false]
        clear HFB HSZ
        cases B
        · go_wp2
          go_ret
          exact ⟨by rw [HF.out]; first | rfl | exact ret_bool (decide_eq_false h0), (fun h => by rw [HF.out] at h; cases h), hS10⟩
        · go_wp2
          go_ret
          exact ⟨by rw [HF.out]; first | rfl | exact ret_bool (decide_eq_false h0), (fun h => by rw [HF.out] at h; cases h), hS10⟩
end Go.Proofs.YticbbehfphnbhaaGreatDoor
