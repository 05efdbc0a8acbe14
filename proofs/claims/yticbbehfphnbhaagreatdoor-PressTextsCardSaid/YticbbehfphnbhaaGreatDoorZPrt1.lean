/-
  A press's line: timer.Read's closure by its contract.
-/
import Derived.Test.YticbbehfphnbhaaGreatDoorZTxt2
import Derived.Test.YticbbehfphnbhaaGreatDoorZPrsLow
import Derived.Test.YticbbehfphnbhaaGreatDoorZSlotPure
import Derived.Deep.DeepCutAuto
import Derived.Deep.RegionLaw
import Derived.Deep.RegionHeld3
import Derived.Deep.QuietTactic
import Derived.BigQuiet
namespace Go.Proofs.YticbbehfphnbhaaGreatDoor
open Go Go.RowKit TxtP

/-- the words for kinds -/
def kindsL : List ByteArray := [⟨#[115, 116, 97, 114, 116]⟩, ⟨#[115, 112, 108, 105, 116]⟩, ⟨#[115, 107, 105, 112]⟩, ⟨#[117, 110, 100, 111]⟩, ⟨#[112, 97, 117, 115, 101]⟩, ⟨#[114, 101, 115, 117, 109, 101]⟩, ⟨#[108, 111, 97, 100]⟩, ⟨#[108, 111, 97, 100, 101, 100]⟩, ⟨#[114, 101, 115, 101, 116]⟩]
def LitR (l : List ByteArray) (w : World) (e : Ending) (w' : World) : Prop := e = .returned (.slice (some ⟨w.heap.size, 0, none⟩) l.length l.length) ∧ Below w.heap.size w w' ∧ Blk w' w.heap.size 9 (strCs l)
theorem kinds_calls (w : World) : Calls Tryz.prog 44 #[] w (LitR kindsL w) := by
  have HR : Hid (∀ v : Value, v = .slice (some ⟨w.heap.size, 0, none⟩) 9 9 → LitR kindsL w (.returned v) (w.alloc (.cells (strCs kindsL) 9))) := by
    refine Lib.hid (fun v hv => ⟨by rw [hv]; rfl, (Below.refl _ _).alloc (Nat.le_refl _) _, Blk.new _ _ _⟩)
  go_enter Tryz.func44, Tryz.ntmps44
  go_wp2
  go_ret
  exact HR.out _ rfl
theorem idx_lit (l : List ByteArray) (x : ByteArray) (g : Nat) (W : World) (hl : l.length ≤ 9223372036854775807) (hk : Blk W g 9 (strCs l)) :
    Calls Tryz.prog 55 #[.slice (some ⟨g, 0, none⟩) l.length l.length, .string x] W fun e w' => e = .returned (.int .i64 (Lib.idxOfS l x)) ∧ W = w' := by
  refine (Tryz.slices_Index_string g 0 l.length l.length l x W (Nat.le_refl _) hl ?_).mono ?_
  · intro j hj
    rw [Nat.zero_add, hk.cell j, strCs_at hj, List.getD_eq_getElem?_getD, List.getElem?_eq_getElem hj]
    rfl
  · rintro e w1 ⟨rfl, rfl⟩
    rw [List.take_length]
    exact ⟨rfl, rfl⟩
theorem idx_bd (l : List ByteArray) (x : ByteArray) : -1 ≤ Lib.idxOfS l x ∧ Lib.idxOfS l x < l.length := by
  have gen : ∀ (l : List ByteArray) (i : Nat), -1 ≤ Lib.idxFromS l x i ∧ Lib.idxFromS l x i < ((l.length + i : Nat) : Int) := by
    intro l
    induction l with
    | nil => intro i; unfold Lib.idxFromS; omega
    | cons z zs ih =>
      intro i
      unfold Lib.idxFromS
      split
      · simp; omega
      · have := ih (i + 1)
        simp only [List.length_cons]
        omega
  have := gen l 0
  unfold Lib.idxOfS
  simpa using this

/-- a line's two words -/
def twoW (l : List UInt8) : ByteArray × ByteArray := ((pcs 32 ⟨l.toArray⟩).getD 0 ⟨#[]⟩, (pcs 32 ⟨l.toArray⟩).getD 1 ⟨#[]⟩)
/-- is a line a press? -/
def fP (l : List UInt8) : Bool := wrdB ⟨l.toArray⟩ 2 && (numB (twoW l).1.data.toList 15 && decide (0 ≤ Lib.idxOfS kindsL (twoW l).2))
/-- the press that a line is -/
def vP (l : List UInt8) : Pz := (numI (twoW l).1.data.toList, 1 + Lib.idxOfS kindsL (twoW l).2)
theorem ba_eta (s : ByteArray) : (⟨s.data.toList.toArray⟩ : ByteArray) = s := by cases s; simp
theorem wrd_two {s : ByteArray} (h : wrdB s 2 = true) : ∃ a b, pcs 32 s = [a, b] ∧ twoW s.data.toList = (a, b) := by
  unfold wrdB at h
  rw [Bool.and_eq_true] at h
  have hl := of_decide_eq_true h.1
  obtain ⟨a, b, hab⟩ : ∃ a b, pcs 32 s = [a, b] := by
    match pcs 32 s, hl with
    | [a, b], _ => exact ⟨a, b, rfl⟩
  refine ⟨a, b, hab, ?_⟩
  unfold twoW
  rw [ba_eta, hab]; rfl
/-- what the program's reading holds -/
def QP (w0 : World) (gO : Nat) (done : List (List UInt8)) (rs : List Rsc) : Prop :=
  ∃ A c, rs = [rOwn w0.heap.size 39 2 (.slice A done.length c) done.length ((done.map vP).flatMap pzC), rBlk gO 26 #[.slice A done.length c]]
theorem StP.open_ {w0 W : World} {gO : Nat} {done : List (List UInt8)} {L : List Rsc} (h : StP w0 (QP w0 gO) done W L) :
    ∃ A c, Sq w0 W (rOwn w0.heap.size 39 2 (.slice A done.length c) done.length ((done.map vP).flatMap pzC) :: rBlk gO 26 #[.slice A done.length c] :: L) := by
  obtain ⟨rs, ⟨A, c, rfl⟩, hS⟩ := h
  exact ⟨A, c, hS⟩
theorem StP.shut {w0 W : World} {gO : Nat} {done : List (List UInt8)} {L : List Rsc} {l : List UInt8} {A : Option Addr} {c : Nat} (h : Sq w0 W (rOwn w0.heap.size 39 2 (.slice A (done.length + 1) c) (done.length + 1) ((done.map vP).flatMap pzC ++ pzC (vP l)) :: rBlk gO 26 #[.slice A (done.length + 1) c] :: L)) :
    StP w0 (QP w0 gO) (done ++ [l]) W L := by
  refine ⟨_, ⟨A, c, rfl⟩, ?_⟩
  rw [List.length_append, List.length_singleton, List.map_append, List.flatMap_append]
  simpa using h

set_option maxRecDepth 100000 in
set_option maxHeartbeats 2000000 in
theorem readP_calls (w0 : World) (gO M : Nat) (hx : MxL w0) (hM : M ≤ 200000) : CloR w0 (QP w0 gO) 52 (.pointer (some ⟨gO, 0, none⟩)) fP M := by
  intro W done s L hS0 hs hdl
  have hmx : MxL W := hx.below hS0.below
  have HWD := Lib.hid (words_calls s 2 W (by omega) hmx)
  have hbel := hS0.below
  obtain ⟨A, c, hS⟩ := hS0.open_
  clear hS0 hmx
  cases hw : wrdB s 2
  · have HF : Hid (fP s.data.toList = false) := by
      refine Lib.hid ?_
      unfold fP
      rw [ba_eta, hw, Bool.false_and]
    have HW2 : Hid (Calls Tryz.prog 53 #[.string s, .int .i64 2] W (fun e w' => e = .returned (.tuple #[.slice none 0 0, .bool false]) ∧ Below W.heap.size W w')) :=
      Lib.hid (HWD.out.mono (fun e w' h => ⟨h.2.2 hw, h.1⟩))
    rw [HF.out]
    clear HF hw HWD
    go_enter Tryz.func52, Tryz.ntmps52
    go_wp2_with (first | (go_at_call 53; refine HW2.out.mono ?_; rintro e w1 ⟨rfl, hb1⟩))
    go_ret
    exact ⟨rfl, (fun h => by cases h), below_call hbel hb1 (Nat.le_refl _)⟩
  · obtain ⟨a, b, hab, htw⟩ := wrd_two hw
    have has : a.size ≤ 200000 := by have := pcs_size (c := 32) (s := s) (x := a) (by rw [hab]; simp); omega
    have HW2 : Hid (Calls Tryz.prog 53 #[.string s, .int .i64 2] W (fun e w' => e = .returned (.tuple #[.slice (some ⟨W.heap.size, 0, none⟩) 2 2, .bool true]) ∧ Below W.heap.size W w' ∧ Blk w' W.heap.size 9 #[.string a, .string b])) := by
      refine Lib.hid (HWD.out.mono (fun e w' h => ?_))
      have h2 := h.2.1 hw
      rw [hab] at h2
      exact ⟨h2.1, h.1, h2.2⟩
    have HNU := Lib.hid (fun V => number_calls a 15 (by decide) V (by unfold maxLen; omega))
    obtain ⟨i, hi⟩ : ∃ i, i = Lib.idxOfS kindsL b := ⟨_, rfl⟩
    have hib := idx_bd kindsL b
    have HIX := Lib.hid (fun g V => idx_lit kindsL b g V (by decide))
    have hvP : vP s.data.toList = (numI a.data.toList, 1 + i) := by unfold vP; rw [htw, hi]
    have hfP : fP s.data.toList = (numB a.data.toList 15 && decide (0 ≤ i)) := by unfold fP; rw [ba_eta, hw, Bool.true_and, htw, hi]
    rw [← hi] at hib HIX
    have hk9 : kindsL.length = 9 := rfl
    rw [hk9] at hib HIX
    have HKD : Hid (∀ V, Calls Tryz.prog 44 #[] V (fun e w' => e = .returned (.slice (some ⟨V.heap.size, 0, none⟩) 9 9) ∧ Below V.heap.size V w' ∧ Blk w' V.heap.size 9 (strCs kindsL))) := Lib.hid kinds_calls
    obtain ⟨z, B, hz0, hz1, hzR, hzB⟩ : ∃ (z : Int) (B : Bool), -1000000000000000000 < z ∧ z < 1000000000000000000 ∧ numR a.data.toList 15 = .tuple #[.int .i64 z, .bool B] ∧ (B = numB a.data.toList 15 ∧ (B = true → z = numI a.data.toList)) := by
      cases hb : numB a.data.toList 15
      · exact ⟨0, false, by decide, by decide, numR_no hb, rfl, fun h => by cases h⟩
      · have h1 := (numB_iff.1 hb)
        have h2 := body_len a.data.toList
        have h3 := numI_bound (l := a.data.toList) (by omega)
        exact ⟨_, true, h3.1, h3.2, numR_yes hb, rfl, fun _ => rfl⟩
    rw [hzR] at HNU
    have HE : Hid (fP s.data.toList = (B && decide (0 ≤ i)) ∧ (B = true → vP s.data.toList = (z, 1 + i))) := by
      refine Lib.hid ⟨by rw [hfP, hzB.1], fun h => by rw [hvP, hzB.2 h]⟩
    clear hw hab htw hi hvP hfP hk9 hzR hzB HWD hx
    have hdl2 : done.length ≤ 200000 := by omega
    obtain ⟨i0, hi, hi0, hi1, hi2⟩ := info_parts info_press
    have hc1 := (hS.nth 1 rfl).cell 0
    obtain ⟨n, hn⟩ : ∃ n, n = done.length := ⟨_, rfl⟩
    rw [← hn] at hS hc1 hdl2
    have HSH : Hid (∀ V A' c', B = true → Sq w0 V (rOwn w0.heap.size 39 2 (.slice A' (n + 1) c') (n + 1) ((done.map vP).flatMap pzC ++ [.int .i64 z, .int .i64 (1 + i)]) :: rBlk gO 26 #[.slice A' (n + 1) c'] :: L) → StP w0 (QP w0 gO) (done ++ [s.data.toList]) V L) := by
      rw [hn]
      refine Lib.hid (fun V A' c' hB h => StP.shut (A := A') (c := c') ?_)
      rw [HE.out.2 hB]
      exact h
    clear hn hdl
    go_enter Tryz.func52, Tryz.ntmps52
    go_wp2_with (first
      | (go_at_call 53; refine HW2.out.mono ?_; rintro e w1 ⟨rfl, hb1, hk1⟩; have d0 := hk1.cell 0; have d1 := hk1.cell 1; have hS1 := hS.callB hb1)
      | (go_at_call 54; refine (HNU.out _).mono ?_; rintro e w2 ⟨rfl, hb2⟩; have d1' := below_cell hb2 d1; have hS2 := hS1.callB hb2))
    replace d1' : w2.cell? ⟨W.heap.size, 1, none⟩ = some (.string b) := d1'
    clear hk1 d0 d1
    obtain ⟨G, hG⟩ : ∃ G, W.heap.size = G := ⟨_, rfl⟩
    rw [hG] at d1' ⊢
    obtain ⟨H2, hH2⟩ : ∃ H2, w2.heap.size = H2 := ⟨_, rfl⟩
    have HKD2 : Hid (Calls Tryz.prog 44 #[] w2.drew (fun e w' => e = .returned (.slice (some ⟨H2, 0, none⟩) 9 9) ∧ Below w2.drew.heap.size w2.drew w' ∧ Blk w' H2 9 (strCs kindsL))) := by
      rw [← hH2]; exact Lib.hid (HKD.out w2.drew)
    have dd : w2.drew.cell? ⟨G, 1, none⟩ = some (.string b) := d1'
    have hS2d := hS2.drew
    go_region_held3 (fun V => V.cell? ⟨G, 1, none⟩ = some (.string b))
      (first | exact d1'' | exact dd | go_keep)
      (first
        | (go_at_call 44; ((with_reducible refine HKD2.out.mono ?_); rintro e w3 ⟨rfl, hb3, hk3⟩; have d1'' := below_cell hb3 dd; have hS3 := hS2d.callB hb3))
        | (go_at_call 55; ((with_reducible refine (HIX.out _ _ hk3).mono ?_); rintro e w4 ⟨rfl, rfl⟩)))
    clear dd hS2d HKD2 hH2 d1' d1'' hS2 hS1 hS hb1 hb2 hb3 hk3 hc1
    have cb3 := (hS3.nth 1 rfl).cell 0
    replace cb3 : w3.cell? ⟨gO, 0, none⟩ = some (.slice A n c) := cb3
    have HO := hS3.head
    have hz3 := hS3.size
    have HBZ : Hid (∀ V A' c', B = true → 0 ≤ i → Sq w0 V (rOwn w0.heap.size 39 2 (.slice A' (n + 1) c') (n + 1) ((done.map vP).flatMap pzC ++ [.int .i64 z, .int .i64 (1 + i)]) :: rBlk gO 26 #[.slice A' (n + 1) c'] :: L) → fP s.data.toList = true ∧ StP w0 (QP w0 gO) (done ++ [s.data.toList]) V L) := by
      refine Lib.hid (fun V A' c' hB h0 h => ⟨?_, HSH.out V A' c' hB h⟩)
      rw [HE.out.1, hB, decide_eq_true h0]; rfl
    have HFL : Hid (¬ (B = true ∧ 0 ≤ i) → fP s.data.toList = false) := by
      refine Lib.hid (fun h => ?_)
      rw [HE.out.1]
      cases B with
      | false => rfl
      | true => rw [decide_eq_false (fun h2 => h ⟨rfl, h2⟩)]; rfl
    clear HE HSH hs
    by_cases h0 : 0 ≤ i
    · cases B
      · have HFF := Lib.hid (HFL.out (fun h => by cases h.1))
        clear HFL HBZ
        go_wp2_with (first
          | (at_builtin; refine wpList_append_own_at _ rfl _ _ 26 rfl w0.heap.size 39 i0 (.agg #[.int .i64 0, .int .i64 0]) 2 16 Tryz.underlying26 hi hi0 hi1 hi2 rfl (by decide) _ _ _ rfl (HO.alloc _) ⟨w3.heap.size, 0, none⟩ 1 1 [.int .i64 z, .int .i64 (1 + i)] rfl rfl (World.news_of_block (heap_alloc_new _ _)) (one2p rfl rfl) (by unfold maxLen; omega) (by omega) (by simp; omega) ?_; intro v' w8 hown' hgrow _ hblk; have hS8 := (hS3.alloc _).append hown' hgrow hblk; obtain ⟨A8, c8, hv8⟩ := own_form hown'; subst hv8; have cb8 := (hS8.nth 1 rfl).cell 0; have fb8 := (hS8.nth 1 rfl).frozen 0; clear hown' hgrow hblk HO))
        go_ret
        have hS9 := (((hS8.front 1 rfl rfl).set_ 0 (.slice A8 (n + 1) c8)).front 1 rfl rfl)
        exact ⟨by rw [HFF.out]; first | rfl | exact ret_bool (decide_eq_false (by omega)), (fun h => by rw [HFF.out] at h; cases h), hS9.below⟩
      · go_wp2_with (first
          | (at_builtin; refine wpList_append_own_at _ rfl _ _ 26 rfl w0.heap.size 39 i0 (.agg #[.int .i64 0, .int .i64 0]) 2 16 Tryz.underlying26 hi hi0 hi1 hi2 rfl (by decide) _ _ _ rfl (HO.alloc _) ⟨w3.heap.size, 0, none⟩ 1 1 [.int .i64 z, .int .i64 (1 + i)] rfl rfl (World.news_of_block (heap_alloc_new _ _)) (one2p rfl rfl) (by unfold maxLen; omega) (by omega) (by simp; omega) ?_; intro v' w8 hown' hgrow _ hblk; have hS8 := (hS3.alloc _).append hown' hgrow hblk; obtain ⟨A8, c8, hv8⟩ := own_form hown'; subst hv8; have cb8 := (hS8.nth 1 rfl).cell 0; have fb8 := (hS8.nth 1 rfl).frozen 0; clear hown' hgrow hblk HO))
        go_ret
        have hS9 := (((hS8.front 1 rfl rfl).set_ 0 (.slice A8 (n + 1) c8)).front 1 rfl rfl)
        obtain ⟨h1, h2⟩ := HBZ.out _ A8 c8 (by trivial) h0 hS9
        exact ⟨by rw [h1]; first | rfl | exact ret_bool (decide_eq_true h0), fun _ => h2, hS9.below⟩
    · have HFF := Lib.hid (HFL.out (fun h => h0 h.2))
      have h1 : i < 0 := by omega
      clear HFL HBZ h0
      cases B
      · go_wp2_with (first
          | (at_builtin; refine wpList_append_own_at _ rfl _ _ 26 rfl w0.heap.size 39 i0 (.agg #[.int .i64 0, .int .i64 0]) 2 16 Tryz.underlying26 hi hi0 hi1 hi2 rfl (by decide) _ _ _ rfl (HO.alloc _) ⟨w3.heap.size, 0, none⟩ 1 1 [.int .i64 z, .int .i64 (1 + i)] rfl rfl (World.news_of_block (heap_alloc_new _ _)) (one2p rfl rfl) (by unfold maxLen; omega) (by omega) (by simp; omega) ?_; intro v' w8 hown' hgrow _ hblk; have hS8 := (hS3.alloc _).append hown' hgrow hblk; obtain ⟨A8, c8, hv8⟩ := own_form hown'; subst hv8; have cb8 := (hS8.nth 1 rfl).cell 0; have fb8 := (hS8.nth 1 rfl).frozen 0; clear hown' hgrow hblk HO))
        go_ret
        have hS9 := (((hS8.front 1 rfl rfl).set_ 0 (.slice A8 (n + 1) c8)).front 1 rfl rfl)
        exact ⟨by rw [HFF.out]; first | rfl | exact ret_bool (decide_eq_false (by omega)), (fun h => by rw [HFF.out] at h; cases h), hS9.below⟩
      · go_wp2_with (first
          | (at_builtin; refine wpList_append_own_at _ rfl _ _ 26 rfl w0.heap.size 39 i0 (.agg #[.int .i64 0, .int .i64 0]) 2 16 Tryz.underlying26 hi hi0 hi1 hi2 rfl (by decide) _ _ _ rfl (HO.alloc _) ⟨w3.heap.size, 0, none⟩ 1 1 [.int .i64 z, .int .i64 (1 + i)] rfl rfl (World.news_of_block (heap_alloc_new _ _)) (one2p rfl rfl) (by unfold maxLen; omega) (by omega) (by simp; omega) ?_; intro v' w8 hown' hgrow _ hblk; have hS8 := (hS3.alloc _).append hown' hgrow hblk; obtain ⟨A8, c8, hv8⟩ := own_form hown'; subst hv8; have cb8 := (hS8.nth 1 rfl).cell 0; have fb8 := (hS8.nth 1 rfl).frozen 0; clear hown' hgrow hblk HO))
        go_ret
        have hS9 := (((hS8.front 1 rfl rfl).set_ 0 (.slice A8 (n + 1) c8)).front 1 rfl rfl)
        exact ⟨by rw [HFF.out]; first | rfl | exact ret_bool (decide_eq_false (by omega)), (fun h => by rw [HFF.out] at h; cases h), hS9.below⟩
end Go.Proofs.YticbbehfphnbhaaGreatDoor
