/-
  A step's line: race.Read's closure by its contract.
-/
import Derived.Test.YtaendemgkabdfaaGreatDoorZStp2
import Derived.Test.YtaendemgkabdfaaGreatDoorZSjoin
namespace Go.Proofs.YtaendemgkabdfaaGreatDoor
open Go Go.RowKit TxtP

theorem info_step : (Tryz.prog.info? 39).map (fun i => (i.zero, i.size, i.bytes)) = some (some (.agg #[.int .i64 0, .int .i64 0, .string ⟨#[]⟩]), 3, 32) := by kernel_rfl
theorem one3s {x y z : Value} (hx : x.oneCell' = true) (hy : y.oneCell' = true) (hz : z.oneCell' = true) : ∀ u ∈ [x, y, z], u.oneCell' = true := by
  intro u hu
  simp only [List.mem_cons, List.not_mem_nil, or_false] at hu
  rcases hu with rfl | rfl | rfl <;> assumption
/-- what a reading of steps holds -/
def QT (w0 : World) (gO : Nat) (done : List (List UInt8)) (rs : List Rsc) : Prop :=
  ∃ A c, rs = [rOwn w0.heap.size 39 3 (.slice A done.length c) done.length ((done.map vT).flatMap stC), rBlk gO 26 #[.slice A done.length c]]
theorem StP.openT {w0 W : World} {gO : Nat} {done : List (List UInt8)} {L : List Rsc} (h : StP w0 (QT w0 gO) done W L) :
    ∃ A c, Sq w0 W (rOwn w0.heap.size 39 3 (.slice A done.length c) done.length ((done.map vT).flatMap stC) :: rBlk gO 26 #[.slice A done.length c] :: L) := by
  obtain ⟨rs, ⟨A, c, rfl⟩, hS⟩ := h
  exact ⟨A, c, hS⟩
theorem StP.shutT {w0 W : World} {gO : Nat} {done : List (List UInt8)} {L : List Rsc} {l : List UInt8} {A : Option Addr} {c : Nat} (h : Sq w0 W (rOwn w0.heap.size 39 3 (.slice A (done.length + 1) c) (done.length + 1) ((done.map vT).flatMap stC ++ stC (vT l)) :: rBlk gO 26 #[.slice A (done.length + 1) c] :: L)) :
    StP w0 (QT w0 gO) (done ++ [l]) W L := by
  refine ⟨_, ⟨A, c, rfl⟩, ?_⟩
  rw [List.length_append, List.length_singleton, List.map_append, List.flatMap_append]
  simpa using h

set_option maxRecDepth 100000 in
set_option maxHeartbeats 2000000 in
theorem readT_calls (w0 : World) (gO M : Nat) (hx : MxL w0) (hM : M ≤ 200000) : CloR w0 (QT w0 gO) 44 (.pointer (some ⟨gO, 0, none⟩)) fT M := by
  intro W done s L hS0 hs hdl
  have hmx : MxL W := hx.below hS0.below
  have HRS := Lib.hid (readStep_calls s W (by omega) hmx)
  obtain ⟨A, c, hS⟩ := hS0.openT
  clear hS0 hmx
  obtain ⟨n, hn⟩ : ∃ n, n = done.length := ⟨_, rfl⟩
  obtain ⟨FT, hFT⟩ : ∃ FT, FT = fT s.data.toList := ⟨_, rfl⟩
  have HR : Hid (Calls Tryz.prog 45 #[.string s] W (fun e w' => ∃ (z k : Int) (x : ByteArray), e = .returned (.tuple #[.agg #[.int .i64 z, .int .i64 k, .string x], .bool FT]) ∧ Hid (FT = true → vT s.data.toList = ⟨z, k, x⟩) ∧ Below W.heap.size W w')) := by
    refine Lib.hid (HRS.out.mono ?_)
    rintro e w' ⟨z, k, x, rfl, h2, h3⟩
    exact ⟨z, k, x, by rw [hFT], Lib.hid (by rw [hFT]; exact h2), h3⟩
  have HSH : Hid (∀ V A' c' z k x, FT = true → vT s.data.toList = ⟨z, k, x⟩ → Sq w0 V (rOwn w0.heap.size 39 3 (.slice A' (n + 1) c') (n + 1) ((done.map vT).flatMap stC ++ [.int .i64 z, .int .i64 k, .string x]) :: rBlk gO 26 #[.slice A' (n + 1) c'] :: L) → StP w0 (QT w0 gO) (done ++ [s.data.toList]) V L) := by
    rw [hn]
    refine Lib.hid (fun V A' c' z k x _ hv h => StP.shutT (A := A') (c := c') ?_)
    rw [hv]
    exact h
  have hdl2 : n ≤ 200000 := by omega
  rw [← hn] at hS
  rw [← hFT]
  have hlt : w0.heap.size ≤ W.heap.size := hS.size
  clear hn hFT HRS hdl hx hs
  obtain ⟨i0, hi, hi0, hi1, hi2⟩ := info_parts info_step
  go_enter Tryz.func44, Tryz.ntmps44
  go_upto_region 2 with (first | (go_at_call 45; refine HR.out.mono ?_; rintro e w1 ⟨z, k, x, rfl, HV, hb1⟩; have hS1 := hS.callB hb1))
  clear HR hS
  obtain ⟨g, hg⟩ : ∃ g, g = w1.heap.size := ⟨_, rfl⟩
  have hS2 := hS1.add #[.int .i64 z, .int .i64 k, .string x] 39
  rw [← hg] at hS2 ⊢
  obtain ⟨W2, hW2⟩ : ∃ W2, W2 = w1.alloc (.cells #[.int .i64 z, .int .i64 k, .string x] 39) := ⟨_, rfl⟩
  rw [← hW2] at hS2 ⊢
  clear hW2 hg hS1
  replace hS2 := hS2.front 1 rfl rfl
  replace hS2 := hS2.front 2 rfl rfl
  obtain ⟨p0, p1, p2, _, _, _⟩ := Blk.three (hS2.nth 2 rfl : Blk W2 g _ #[.int .i64 z, .int .i64 k, .string x])
  have cb : W2.cell? ⟨gO, 0, none⟩ = some (.slice A n c) := (hS2.nth 0 rfl : Blk W2 gO _ _).cell 0
  have HO : W2.ownsRow w0.heap.size 39 3 (.slice A n c) n ((done.map vT).flatMap stC) := hS2.nth 1 rfl
  have hz2 := hS2.size
  go_wp2_with (first
    | (at_builtin; refine wpList_append_own_at _ rfl _ _ 26 rfl w0.heap.size 39 i0 (.agg #[.int .i64 0, .int .i64 0, .string ⟨#[]⟩]) 3 32 Tryz.underlying26 hi hi0 hi1 hi2 rfl (by decide) _ _ _ rfl (HO.alloc _) ⟨W2.heap.size, 0, none⟩ 1 1 [.int .i64 z, .int .i64 k, .string x] rfl rfl (World.news_of_block (heap_alloc_new _ _)) (one3s rfl rfl rfl) (by unfold maxLen; omega) (by omega) (by simp; omega) ?_; intro v' w8 hown' hgrow _ hblk; have hS8 := ((hS2.front 1 rfl rfl).alloc _).append hown' hgrow hblk; obtain ⟨A8, c8, hv8⟩ := own_form hown'; subst hv8; have cb8 := (hS8.nth 1 rfl).cell 0; have fb8 := (hS8.nth 1 rfl).frozen 0; clear hown' hgrow hblk HO))
  go_ret
  have hS9 := ((((hS8.front 1 rfl rfl).set_ 0 (.slice A8 (n + 1) c8)).front 1 rfl rfl).drop 2 rfl rfl)
  exact ⟨rfl, fun h => HSH.out _ A8 c8 z k x h (HV.out h) hS9, hS9.below⟩
end Go.Proofs.YtaendemgkabdfaaGreatDoor
/-
  A step's line: the closure of the reference's StepsRead by its contract. (Printed by gen_stp4.py.)
-/
namespace Go.Proofs.YtaendemgkabdfaaGreatDoor
open Go Go.RowKit TxtP

theorem wrdQ_ne {s x : ByteArray} (h : wrdQ s = true) (hx : x ∈ pcs 32 s) : ¬ x = ⟨#[]⟩ := by
  intro e
  unfold wrdQ at h
  rw [List.all_eq_true] at h
  have := h x hx
  rw [e] at this
  cases this
theorem join_one (c : ByteArray) : (⟨(Lib.join ([c].map (·.data.toList)) (⟨#[]⟩ : ByteArray).data.toList).toArray⟩ : ByteArray) = c := by
  have : Lib.join ([c].map (·.data.toList)) (⟨#[]⟩ : ByteArray).data.toList = c.data.toList := by
    first | rfl | simp [Lib.join]
  exact (congrArg (fun l : List UInt8 => (⟨l.toArray⟩ : ByteArray)) this).trans (ba_eta c)

set_option maxRecDepth 100000 in
set_option maxHeartbeats 2000000 in
theorem readTQ_calls (w0 : World) (gO M : Nat) (hx : MxL w0) (ht : Tab w0) (hM : M ≤ 200000) : CloR w0 (QT w0 gO) 47 (.pointer (some ⟨gO, 0, none⟩)) fT M := by
  intro W done s L hS0 hs hdl
  have hmx : MxL W := hx.below hS0.below
  have htw : Tab W := ht.below hS0.below
  have HWD := Lib.hid (wordsQ_calls s W (by omega) hmx)
  obtain ⟨A, c, hS⟩ := hS0.openT
  have hbel := hS0.below
  clear hS0 hmx
  have hle := pcs_le 32 s
  have hp1 : 1 ≤ (pcs 32 s).length := by rw [pcs_len]; omega
  have ff : fT s.data.toList = (wrdQ s && fT3 (pcs 32 s)) := by unfold fT; rw [ba_eta]
  have vv : vT s.data.toList = vT3 (pcs 32 s) := by unfold vT; rw [ba_eta]
  obtain ⟨N, hN⟩ : ∃ N, N = (pcs 32 s).length := ⟨_, rfl⟩
  rw [← hN] at hle hp1
  have HW2 : Hid (Calls Tryz.prog 48 #[.string s] W (fun e w' => e = .returned (.tuple #[.slice (some ⟨W.heap.size, 0, none⟩) N N, .bool (wrdQ s)]) ∧ Below W.heap.size W w' ∧ Blk w' W.heap.size 9 (strCs (pcs 32 s)))) := by
    refine Lib.hid (HWD.out.mono (fun e w' h => ?_))
    obtain ⟨h1, h2, h3⟩ := h
    exact ⟨by rw [h1, hN], h2, h3⟩
  clear HWD
  cases hq : wrdQ s
  · have HF : Hid (fT s.data.toList = false) := Lib.hid (by rw [ff, hq]; rfl)
    rw [hq] at HW2
    rw [HF.out]
    clear HF ff vv hq hN hS
    go_enter Tryz.func47, Tryz.ntmps47
    go_wp2_with (first | (go_at_call 48; refine HW2.out.mono ?_; rintro e w1 ⟨rfl, hb1, _⟩))
    go_ret
    exact ⟨rfl, (fun h => by cases h), below_call hbel hb1 (Nat.le_refl _)⟩
  · rw [hq] at HW2
    by_cases hn2 : N < 2
    · have HF : Hid (fT s.data.toList = false) := Lib.hid (by rw [ff, hq, fT3_len (by omega)]; rfl)
      have hn2i : (N : Int) < 2 := by omega
      rw [HF.out]
      clear HF ff vv hq hN hS
      go_enter Tryz.func47, Tryz.ntmps47
      go_wp2_with (first | (go_at_call 48; refine HW2.out.mono ?_; rintro e w1 ⟨rfl, hb1, _⟩))
      go_ret
      exact ⟨rfl, (fun h => by cases h), below_call hbel hb1 (Nat.le_refl _)⟩
    · have hn2i : ¬ (N : Int) < 2 := by omega
      obtain ⟨a, b, r, hab⟩ : ∃ a b r, pcs 32 s = a :: b :: r := by
        match hp : pcs 32 s, hN with
        | [], h => simp at h; omega
        | [_], h => simp at h; omega
        | a :: b :: r, _ => exact ⟨a, b, r, rfl⟩
      have has : a.size ≤ 200000 := by have := pcs_size (c := 32) (s := s) (x := a) (by rw [hab]; simp); omega
      have hbe : ¬ b = ⟨#[]⟩ := wrdQ_ne hq (by rw [hab]; simp)
      have hsz : ∀ x ∈ r, x.size ≤ 200000 := by
        intro x hx2
        have := pcs_size (c := 32) (s := s) (x := x) (by rw [hab]; simp [hx2])
        omega
      have HNU := Lib.hid (fun V (h : Tab V) => numberQ_calls a 15 (by decide) V (by unfold maxLen; omega) h)
      obtain ⟨B, hB⟩ : ∃ B, B = numB a.data.toList 15 := ⟨_, rfl⟩
      have HNV : Hid (∀ V, Tab V → Calls Tryz.prog 49 #[.string a, .int .i64 15] V (fun e w' => ∃ z : Int, -1000000000000000000 < z ∧ z < 1000000000000000000 ∧ e = .returned (.tuple #[.int .i64 z, .bool B]) ∧ Hid (B = true → z = numI a.data.toList) ∧ Below V.heap.size V w')) := by
        refine Lib.hid (fun V h => (HNU.out V h).mono ?_)
        rintro e w' ⟨v, rfl, ⟨z, h1, h2, rfl, h3⟩, hb⟩
        exact ⟨z, h1, h2, by rw [hB], Lib.hid (fun h => h3 (by rw [← hB]; exact h)), hb⟩
      obtain ⟨j, hj⟩ : ∃ j, j = Lib.idxOfS swordsL b := ⟨_, rfl⟩
      have hjb := idx_bd swordsL b
      have hib := idx_bd skindsL b
      have HIX := Lib.hid (fun g V => idx_lit swordsL b g V (by decide))
      have hjw := idx_swords hbe
      rw [← hj] at hjb HIX hjw
      have hk9 : swordsL.length = 9 := rfl
      rw [hk9] at hjb HIX
      have hki : j < 1 ∧ Lib.idxOfS skindsL b < 0 ∨ 1 ≤ j ∧ Lib.idxOfS skindsL b = j - 1 := by
        by_cases h : Lib.idxOfS skindsL b < 0
        · rw [if_pos h] at hjw; exact .inl ⟨by omega, h⟩
        · rw [if_neg h] at hjw; exact .inr ⟨by omega, by omega⟩
      have HKD : Hid (∀ V, Calls Tryz.prog 42 #[] V (fun e w' => ∃ g, e = .returned (.slice (some ⟨g, 0, none⟩) 9 9) ∧ Below V.heap.size V w' ∧ Blk w' g 9 (strCs swordsL))) := by
        refine Lib.hid (fun V => (stepWords_calls V).mono ?_)
        rintro e w' ⟨rfl, h1, h2⟩
        exact ⟨_, rfl, h1, h2⟩
      have ffr : fT s.data.toList = fT3 (a :: b :: r) := by rw [ff, hq, Bool.true_and, hab]
      have vvr : vT s.data.toList = vT3 (a :: b :: r) := by rw [vv, hab]
      have HFno : Hid (j < 1 ∨ (j = 5 ∧ N ≠ 2) ∨ (j ≠ 5 ∧ N ≠ 3) → fT s.data.toList = false) := by
        refine Lib.hid (fun h => ?_)
        rw [ffr]
        rw [hab] at hN
        match r, hN with
        | [], hN =>
          have hN : N = 2 := hN
          show (numB a.data.toList 15 && (Lib.idxOfS skindsL b == 4)) = false
          have : (Lib.idxOfS skindsL b == 4) = false := by
            have : ¬ Lib.idxOfS skindsL b = 4 := by omega
            simpa using this
          rw [this, Bool.and_false]
        | [x], hN =>
          have hN : N = 3 := hN
          show (numB a.data.toList 15 && (decide (0 ≤ Lib.idxOfS skindsL b) && !(Lib.idxOfS skindsL b == 4))) = false
          rcases (show Lib.idxOfS skindsL b < 0 ∨ Lib.idxOfS skindsL b = 4 by omega) with h2 | h2
          · rw [decide_eq_false (by omega), Bool.false_and, Bool.and_false]
          · rw [h2]; simp
        | _ :: _ :: _, _ => rfl
      have HF2 : Hid (j = 5 → r = [] → fT s.data.toList = B ∧ ∀ z, z = numI a.data.toList → vT s.data.toList = ⟨z, j, ⟨#[]⟩⟩) := by
        refine Lib.hid (fun h h2 => ?_)
        subst h2
        rw [ffr, vvr]
        have e4 : Lib.idxOfS skindsL b = 4 := by omega
        constructor
        · show (numB a.data.toList 15 && (Lib.idxOfS skindsL b == 4)) = B
          rw [e4, hB]; simp
        · intro z hz
          show (⟨numI a.data.toList, 1 + Lib.idxOfS skindsL b, ⟨#[]⟩⟩ : Stp) = _
          rw [e4, hz, h]; rfl
      have HF3 : Hid (∀ x, 1 ≤ j → j ≠ 5 → r = [x] → fT s.data.toList = B ∧ ∀ z, z = numI a.data.toList → vT s.data.toList = ⟨z, j, x⟩) := by
        refine Lib.hid (fun x h0 h h2 => ?_)
        subst h2
        rw [ffr, vvr]
        have e4 : Lib.idxOfS skindsL b = j - 1 := by omega
        constructor
        · show (numB a.data.toList 15 && (decide (0 ≤ Lib.idxOfS skindsL b) && !(Lib.idxOfS skindsL b == 4))) = B
          have e5 : (Lib.idxOfS skindsL b == 4) = false := by
            have : ¬ Lib.idxOfS skindsL b = 4 := by omega
            simpa using this
          rw [e5, decide_eq_true (by omega), hB]; simp
        · intro z hz
          show (⟨numI a.data.toList, 1 + Lib.idxOfS skindsL b, x⟩ : Stp) = _
          rw [e4, hz, show 1 + (j - 1) = j by omega]
      rw [hab] at HW2
      have HRL : Hid (N = r.length + 2) := Lib.hid (by rw [hN, hab]; rfl)
      obtain ⟨n, hn⟩ : ∃ n, n = done.length := ⟨_, rfl⟩
      have hdl2 : n ≤ 200000 := by omega
      rw [← hn] at hS
      obtain ⟨G, hG⟩ : ∃ G, W.heap.size = G := ⟨_, rfl⟩
      obtain ⟨WS, hWS⟩ : ∃ WS, WS = strCs (a :: b :: r) := ⟨_, rfl⟩
      have e0 : WS[0]? = some (.string a) := by rw [hWS]; rfl
      have e1 : WS[1]? = some (.string b) := by rw [hWS]; rfl
      have HWc := Lib.hid hWS
      have HW3 : Hid (Calls Tryz.prog 48 #[.string s] W (fun e w' => e = .returned (.tuple #[.slice (some ⟨G, 0, none⟩) N N, .bool true]) ∧ Below W.heap.size W w' ∧ Blk w' G 9 WS)) := by
        refine Lib.hid (HW2.out.mono (fun e w' h => ?_))
        obtain ⟨h1, h2, h3⟩ := h
        rw [hG] at h1 h3
        rw [hWS]
        exact ⟨h1, h2, h3⟩
      clear HW2
      have HSH : Hid (∀ V A' c' z x, vT s.data.toList = ⟨z, j, x⟩ → Sq w0 V (rOwn w0.heap.size 39 3 (.slice A' (n + 1) c') (n + 1) ((done.map vT).flatMap stC ++ [.int .i64 z, .int .i64 j, .string x]) :: rBlk gO 26 #[.slice A' (n + 1) c'] :: L) → StP w0 (QT w0 gO) (done ++ [s.data.toList]) V L) := by
        rw [hn]
        refine Lib.hid (fun V A' c' z x hv h => StP.shutT (A := A') (c := c') ?_)
        rw [hv]
        exact h
      obtain ⟨ys, hys⟩ : ∃ ys, ys = done.map vT := ⟨_, rfl⟩
      rw [← hys] at hS HSH
      clear hn hys hdl hx ht hq hab hbe hB HNU hib hj hjw hki hk9 ff vv ffr vvr hN hWS hn2
      obtain ⟨i0, hi, hi0, hi1, hi2⟩ := info_parts info_step
      have hlt : w0.heap.size ≤ G := by rw [← hG]; exact hS.size
      go_enter Tryz.func47, Tryz.ntmps47
      go_upto_region 5 with (first
        | (go_at_call 48; refine HW3.out.mono ?_; rintro e w1 ⟨rfl, hb1, hk1⟩; have d0 : w1.cell? ⟨G, 0, none⟩ = some (.string a) := (hk1.cell 0).trans e0; have hS1 := hS.blk hb1 hk1 (Nat.le_of_eq hG); have ht1 := htw.below hb1)
        | (go_at_call 49; refine (HNV.out _ ht1).mono ?_; rintro e w2 ⟨z, hz0, hz1, rfl, HZ, hb2⟩; have hS2 := hS1.callB hb2))
      clear HW3 HNV hb1 hb2 hk1 d0 hS1 hS ht1 htw
      have d1 : w2.drew.cell? ⟨G, 1, none⟩ = some (.string b) := ((hS2.nth 0 rfl : Blk w2 G _ WS).cell 1).trans e1
      have hS2d := hS2.drew
      have hSA := (hS2.add #[.int .i64 0, .int .i64 0, .string ⟨#[]⟩] 39).drew
      have dA : (w2.alloc (.cells #[.int .i64 0, .int .i64 0, .string ⟨#[]⟩] 39)).drew.cell? ⟨G, 1, none⟩ = some (.string b) := ((hSA.nth 1 rfl : Blk _ G _ WS).cell 1).trans e1
      have HKd := Lib.hid (HKD.out w2.drew)
      have HKa := Lib.hid (HKD.out (w2.alloc (.cells #[.int .i64 0, .int .i64 0, .string ⟨#[]⟩] 39)).drew)
      clear HKD hS2
      go_cut [8] (fun s8 V => ∃ g, s8 = .pointer (some ⟨g, 0, none⟩) ∧ Sq w0 V (rBlk g 39 #[.int .i64 z, .int .i64 j, .string ⟨#[]⟩] :: rBlk G 9 WS :: rOwn w0.heap.size 39 3 (.slice A n c) n (ys.flatMap stC) :: rBlk gO 26 #[.slice A n c] :: L))
      case first =>
        have hN1 : (1 : Int) < (N : Int) := by omega
        clear HSH HF2 HF3 HFno HZ
        go_region_held3 (fun V => V.cell? ⟨G, 1, none⟩ = some (.string b))
          (first | exact d1 | exact dA | exact e11 | exact (((hS4.add _ _).nth 1 rfl : Blk _ G _ WS).cell 1).trans e1 | exact (((((hS4.set_ 0 _).set_ 1 _).set_ 2 _).nth 1 rfl : Blk _ G _ WS).cell 1).trans e1 | go_keep)
          (first
            | (go_at_call 42; ((with_reducible refine HKd.out.mono ?_); rintro e w4 ⟨g4, rfl, hb4, hk4⟩; have hS4 := hS2d.callB hb4; have e11 : w4.cell? ⟨G, 1, none⟩ = some (.string b) := ((hS4.nth 0 rfl : Blk _ G _ WS).cell 1).trans e1; have hk4a := hk4.below ((Below.refl w4.heap.size w4).alloc (Nat.le_refl _) (.cells #[.int .i64 0, .int .i64 0, .string ⟨#[]⟩] 39))))
            | (go_at_call 42; ((with_reducible refine HKa.out.mono ?_); rintro e w4 ⟨g4, rfl, hb4, hk4⟩; have hS4 := hSA.callB hb4; have e11 : w4.cell? ⟨G, 1, none⟩ = some (.string b) := ((hS4.nth 1 rfl : Blk _ G _ WS).cell 1).trans e1; have hk44 : Blk w4 _ _ #[.int .i64 0, .int .i64 0, .string ⟨#[]⟩] := hS4.nth 0 rfl; have y0 := hk44.cell 0; have y1 := hk44.cell 1; have y2 := hk44.cell 2; have f0 := hk44.frozen 0; have f1 := hk44.frozen 1; have f2 := hk44.frozen 2; have yl := hk44.lt))
            | (go_at_call 50; ((with_reducible refine (HIX.out _ _ hk4).mono ?_); rintro e w5 ⟨rfl, rfl⟩))
            | (go_at_call 50; ((with_reducible refine (HIX.out _ _ hk4a).mono ?_); rintro e w5 ⟨rfl, rfl⟩)))
        all_goals (go_wp2_with fail; go_meet)
        all_goals first
          | exact ⟨_, rfl, hS4.add _ _⟩
          | exact ⟨_, rfl, ((hS4.set_ 0 (.int .i64 z)).set_ 1 (.int .i64 j)).set_ 2 (.string ⟨#[]⟩)⟩
      case rest =>
        obtain ⟨g, rfl, hM⟩ := hcut
        clear d1 hS2d hSA HKd HKa HIX dA e0 e1
        obtain ⟨p0, p1, p2, q0, q1, q2⟩ := Blk.three (hM.nth 0 rfl : Blk wc g _ #[.int .i64 z, .int .i64 j, .string ⟨#[]⟩])
        by_cases hj5 : j = 5
        · subst hj5
          by_cases hn2 : N = 2
          · obtain rfl : r = [] := List.eq_nil_of_length_eq_zero (by have := HRL.out; omega)
            obtain ⟨HB, HV2⟩ := HF2.out rfl rfl
            have HFB := Lib.hid HB
            have HVV := Lib.hid (fun h => HV2 z (HZ.out h))
            have HSZ := Lib.hid (fun V A' c' (h : B = true) => HSH.out V A' c' z ⟨#[]⟩ (HVV.out h))
            clear HB HV2 HF2 HF3 HFno HSH HVV HZ
            subst hn2
            clear HRL hn2i hp1
            have HJ : Hid (∀ (a : Option Addr) (c : Nat) (V : World), Calls Tryz.prog 51 #[.slice a 0 c, .string ⟨#[]⟩] V (fun e w' => e = .returned (.string ⟨#[]⟩) ∧ V = w')) := Lib.hid (fun a c V => (Tryz.strings_Join_none a c ⟨#[]⟩ V).mono (fun _ _ h => ⟨h.1, h.2.symm⟩))
            go_upto_region 12 with (first | (go_at_call 51; refine (HJ.out _ _ _).mono ?_; rintro e w6 ⟨rfl, rfl⟩))
            have hM6 := hM.set_ 2 (.string ⟨#[]⟩)
            obtain ⟨W2, hW2⟩ : ∃ W2, W2 = wc.setCell ⟨g, 2, none⟩ (.string ⟨#[]⟩) := ⟨_, rfl⟩
            rw [← hW2] at hM6 ⊢
            clear hW2 hM p0 p1 p2 q0 q1 q2
            replace hM6 := hM6.front 3 rfl rfl
            replace hM6 := hM6.front 3 rfl rfl
            obtain ⟨p0, p1, p2, _, _, _⟩ := Blk.three (hM6.nth 2 rfl : Blk W2 g _ #[.int .i64 z, .int .i64 5, .string ⟨#[]⟩])
            have cb : W2.cell? ⟨gO, 0, none⟩ = some (.slice A n c) := (hM6.nth 1 rfl : Blk W2 gO _ _).cell 0
            have HO : W2.ownsRow w0.heap.size 39 3 (.slice A n c) n (ys.flatMap stC) := hM6.head
            have hz2 := hM6.size
            go_wp2_with (first
              | (at_builtin; refine wpList_append_own_at _ rfl _ _ 26 rfl w0.heap.size 39 i0 (.agg #[.int .i64 0, .int .i64 0, .string ⟨#[]⟩]) 3 32 Tryz.underlying26 hi hi0 hi1 hi2 rfl (by decide) _ _ _ rfl (HO.alloc _) ⟨W2.heap.size, 0, none⟩ 1 1 [.int .i64 z, .int .i64 5, .string ⟨#[]⟩] rfl rfl (World.news_of_block (heap_alloc_new _ _)) (one3s rfl rfl rfl) (by unfold maxLen; omega) (by omega) (by simp; omega) ?_; intro v' w8 hown' hgrow _ hblk; have hS8 := (hM6.alloc _).append hown' hgrow hblk; obtain ⟨A8, c8, hv8⟩ := own_form hown'; subst hv8; have cb8 := (hS8.nth 1 rfl).cell 0; have fb8 := (hS8.nth 1 rfl).frozen 0; clear hown' hgrow hblk HO))
            go_ret
            have hS9 := (((((hS8.front 1 rfl rfl).set_ 0 (.slice A8 (n + 1) c8)).front 1 rfl rfl).drop 2 rfl rfl).drop 2 rfl rfl)
            exact ⟨by rw [HFB.out]; rfl, fun h => HSZ.out _ A8 c8 (by rw [← HFB.out]; exact h) hS9, hS9.below⟩
          · have HF := Lib.hid (HFno.out (.inr (.inl ⟨rfl, hn2⟩)))
            have hni : ((N : Int) != 2) = true := by simp; omega
            clear HF2 HF3 HFno HSH HZ hn2
            go_wp2_with fail
            go_ret
            exact ⟨by rw [HF.out]; rfl, (fun h => by rw [HF.out] at h; cases h), hM.below⟩
        · by_cases hj1 : j < 1
          · have HF := Lib.hid (HFno.out (.inl hj1))
            clear HF2 HF3 HFno HSH HZ
            go_wp2_with fail
            go_ret
            exact ⟨by rw [HF.out]; rfl, (fun h => by rw [HF.out] at h; cases h), hM.below⟩
          · by_cases hn3 : N = 3
            · obtain ⟨x, rfl⟩ : ∃ x, r = [x] := by
                match r, HRL.out with
                | [x], _ => exact ⟨x, rfl⟩
                | [], h => simp at h; omega
                | _ :: _ :: _, h => simp at h; omega
              have hxs := hsz x (by simp)
              obtain ⟨HB, HV3⟩ := HF3.out x (by omega) hj5 rfl
              have HFB := Lib.hid HB
              have HVV := Lib.hid (fun h => HV3 z (HZ.out h))
              have HSZ := Lib.hid (fun V A' c' (h : B = true) => HSH.out V A' c' z x (HVV.out h))
              clear HB HV3 HF2 HF3 HFno HSH HVV HZ
              subst hn3
              clear HRL hn2i hp1
              have HJ : Hid (∀ V, Sq w0 V (rBlk g 39 #[.int .i64 z, .int .i64 j, .string ⟨#[]⟩] :: rBlk G 9 WS :: rOwn w0.heap.size 39 3 (.slice A n c) n (ys.flatMap stC) :: rBlk gO 26 #[.slice A n c] :: L) → Calls Tryz.prog 51 #[.slice (some ⟨G, 2, none⟩) 1 1, .string ⟨#[]⟩] V (fun e w' => e = .returned (.string x) ∧ Below V.heap.size V w')) := by
                refine Lib.hid (fun V h => ?_)
                have hk : Blk V G 9 WS := h.nth 1 rfl
                refine (Tryz.strings_Join G 2 1 [x] ⟨#[]⟩ V ?_ hk.lt (by show 1 ≤ _; decide) (by show 1 ≤ 1; decide) ?_).mono ?_
                · intro k y hy
                  match k, hy with
                  | 0, hy =>
                    injection hy with hy
                    subst hy
                    exact (hk.cell 2).trans (by rw [HWc.out]; rfl)
                  | k + 1, hy => simp at hy
                · have e := congrArg ByteArray.size (join_one x)
                  rw [ba_size] at e
                  rw [e]; omega
                · rintro e w' ⟨rfl, h2⟩
                  exact ⟨by rw [join_one], h2⟩
              go_upto_region 12 with (first | (go_at_call 51; refine (HJ.out _ hM).mono ?_; rintro e w6 ⟨rfl, hb6⟩; have hMw := hM.callB hb6; have k6 : Blk w6 g _ #[.int .i64 z, .int .i64 j, .string ⟨#[]⟩] := hMw.nth 0 rfl; have p26 := k6.cell 2; have q26 := k6.frozen 2))
              have hM6 := hMw.set_ 2 (.string x)
              obtain ⟨W2, hW2⟩ : ∃ W2, W2 = w6.setCell ⟨g, 2, none⟩ (.string x) := ⟨_, rfl⟩
              rw [← hW2] at hM6 ⊢
              clear hW2 hM p0 p1 p2 q0 q1 q2
              replace hM6 := hM6.front 3 rfl rfl
              replace hM6 := hM6.front 3 rfl rfl
              obtain ⟨p0, p1, p2, _, _, _⟩ := Blk.three (hM6.nth 2 rfl : Blk W2 g _ #[.int .i64 z, .int .i64 j, .string x])
              have cb : W2.cell? ⟨gO, 0, none⟩ = some (.slice A n c) := (hM6.nth 1 rfl : Blk W2 gO _ _).cell 0
              have HO : W2.ownsRow w0.heap.size 39 3 (.slice A n c) n (ys.flatMap stC) := hM6.head
              have hz2 := hM6.size
              go_wp2_with (first
                | (at_builtin; refine wpList_append_own_at _ rfl _ _ 26 rfl w0.heap.size 39 i0 (.agg #[.int .i64 0, .int .i64 0, .string ⟨#[]⟩]) 3 32 Tryz.underlying26 hi hi0 hi1 hi2 rfl (by decide) _ _ _ rfl (HO.alloc _) ⟨W2.heap.size, 0, none⟩ 1 1 [.int .i64 z, .int .i64 j, .string x] rfl rfl (World.news_of_block (heap_alloc_new _ _)) (one3s rfl rfl rfl) (by unfold maxLen; omega) (by omega) (by simp; omega) ?_; intro v' w8 hown' hgrow _ hblk; have hS8 := (hM6.alloc _).append hown' hgrow hblk; obtain ⟨A8, c8, hv8⟩ := own_form hown'; subst hv8; have cb8 := (hS8.nth 1 rfl).cell 0; have fb8 := (hS8.nth 1 rfl).frozen 0; clear hown' hgrow hblk HO))
              go_ret
              have hS9 := (((((hS8.front 1 rfl rfl).set_ 0 (.slice A8 (n + 1) c8)).front 1 rfl rfl).drop 2 rfl rfl).drop 2 rfl rfl)
              exact ⟨by rw [HFB.out]; rfl, fun h => HSZ.out _ A8 c8 (by rw [← HFB.out]; exact h) hS9, hS9.below⟩
            · have HF := Lib.hid (HFno.out (.inr (.inr ⟨hj5, hn3⟩)))
              have hni : ((N : Int) != 3) = true := by simp; omega
              clear HF2 HF3 HFno HSH HZ hn3
              go_wp2_with fail
              go_ret
              exact ⟨by rw [HF.out]; rfl, (fun h => by rw [HF.out] at h; cases h), hM.below⟩
end Go.Proofs.YtaendemgkabdfaaGreatDoor
