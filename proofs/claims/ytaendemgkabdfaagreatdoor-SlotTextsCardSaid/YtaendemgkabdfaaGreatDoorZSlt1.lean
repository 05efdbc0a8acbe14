/-
  A slot's line: marathon.Read's closure by its contract.
-/
import Derived.Test.YtaendemgkabdfaaGreatDoorZSltPure
import Derived.Test.YtaendemgkabdfaaGreatDoorZPrt2
import Derived.Test.YtaendemgkabdfaaGreatDoorZAppAny
import Derived.RegionTactic
import Derived.ChangeAlike
import Derived.BigRegion
import Derived.Deep.DeepCutAuto
import Derived.Deep.RegionLaw
import Derived.Deep.RegionHeld3
import Derived.Test.YtaendemgkabdfaaGreatDoorZSlot1
import Derived.BigQuiet
namespace Go.Proofs.YtaendemgkabdfaaGreatDoor
open Go Go.RowKit TxtP

/-- what a reading of slots holds -/
def QL (w0 : World) (gO : Nat) (done : List (List UInt8)) (rs : List Rsc) : Prop :=
  ∃ A c xs, xs.map cntS = done.map vL ∧ rs = [rOwn w0.heap.size 52 5 (.slice A done.length c) done.length (xs.flatMap sltC), rBlk gO 42 #[.slice A done.length c], rAll (hostR w0.heap.size) xs]
theorem StP.openL {w0 W : World} {gO : Nat} {done : List (List UInt8)} {L : List Rsc} (h : StP w0 (QL w0 gO) done W L) :
    ∃ A c xs, xs.map cntS = done.map vL ∧ Sq w0 W (rOwn w0.heap.size 52 5 (.slice A done.length c) done.length (xs.flatMap sltC) :: rBlk gO 42 #[.slice A done.length c] :: rAll (hostR w0.heap.size) xs :: L) := by
  obtain ⟨rs, ⟨A, c, xs, hx, rfl⟩, hS⟩ := h
  exact ⟨A, c, xs, hx, hS⟩
theorem StP.shutL {w0 W : World} {gO : Nat} {done : List (List UInt8)} {L : List Rsc} {l : List UInt8} {A : Option Addr} {c : Nat} {xs : List Slt} {x : Slt} (hx : xs.map cntS = done.map vL) (hl : cntS x = vL l)
    (h : Sq w0 W (rOwn w0.heap.size 52 5 (.slice A (done.length + 1) c) (done.length + 1) (xs.flatMap sltC ++ sltC x) :: rBlk gO 42 #[.slice A (done.length + 1) c] :: rAll (hostR w0.heap.size) (xs ++ [x]) :: L)) :
    StP w0 (QL w0 gO) (done ++ [l]) W L := by
  refine ⟨_, ⟨A, c, xs ++ [x], by rw [List.map_append, List.map_append, hx]; simp [hl], rfl⟩, ?_⟩
  rw [List.length_append, List.length_singleton, List.flatMap_append]
  simpa using h

set_option maxRecDepth 100000 in
set_option maxHeartbeats 4000000 in
theorem readL_calls (w0 : World) (gO M : Nat) (hx : MxL w0) (hM : M ≤ 200000) : CloR w0 (QL w0 gO) 61 (.pointer (some ⟨gO, 0, none⟩)) fL M := by
  intro W done s L hS0 hs hdl
  have hmx : MxL W := hx.below hS0.below
  have HWD := Lib.hid (words_calls s 5 W (by omega) hmx)
  have hbel := hS0.below
  obtain ⟨A, c, xs, hxs, hS⟩ := hS0.openL
  obtain ⟨b0, hb0⟩ : ∃ b0, b0 < w0.heap.size := by
    obtain ⟨m, hm⟩ := hx
    exact ⟨_, World.block_lt_of_cell? _ _ hm⟩
  have ff : fL s.data.toList = (wrdQ s && fL5 (pcs 32 s)) := by unfold fL; rw [ba_eta]
  have vv : vL s.data.toList = vL5 (pcs 32 s) := by unfold vL; rw [ba_eta]
  clear hS0
  cases hw : wrdB s 5
  · have HF : Hid (fL s.data.toList = false) := by
      refine Lib.hid ?_
      rw [wrd_split, Bool.and_eq_false_iff] at hw
      rw [ff]
      rcases hw with hw | hw
      · rw [fL5_len (of_decide_eq_false hw), Bool.and_false]
      · rw [hw, Bool.false_and]
    have HW2 : Hid (Calls Tryz.prog 62 #[.string s, .int .i64 5] W (fun e w' => e = .returned (.tuple #[.slice none 0 0, .bool false]) ∧ Below W.heap.size W w')) :=
      Lib.hid (HWD.out.mono (fun e w' h => ⟨h.2.2 hw, h.1⟩))
    rw [HF.out]
    clear HF hw HWD ff vv hxs hmx hx
    go_enter Tryz.func61, Tryz.ntmps61
    go_wp2_with (first | (go_at_call 62; refine HW2.out.mono ?_; rintro e w1 ⟨rfl, hb1⟩))
    go_ret
    exact ⟨rfl, (fun h => by cases h), below_call hbel hb1 (Nat.le_refl _)⟩
  · have hw2 := hw
    rw [wrd_split, Bool.and_eq_true] at hw2
    obtain ⟨a, b, p, d, e, hab⟩ := five_of (of_decide_eq_true hw2.1)
    have hsz : ∀ x ∈ [a, b, p, d, e], x.size ≤ 200000 := fun x hx => by rw [← hab] at hx; have := pcs_size hx; omega
    have HF : Hid (fL s.data.toList = (hstB p && nmsB [d, e] 15)) := Lib.hid (by rw [ff, hw2.2, Bool.true_and, hab]; rfl)
    have HV : Hid (vL s.data.toList = (a, b, hstL p, numI d.data.toList, numI e.data.toList)) := Lib.hid (by rw [vv, hab]; rfl)
    obtain ⟨G, hG⟩ : ∃ G, W.heap.size = G := ⟨_, rfl⟩
    have HW2 : Hid (Calls Tryz.prog 62 #[.string s, .int .i64 5] W (fun e' w' => e' = .returned (.tuple #[.slice (some ⟨G, 0, none⟩) 5 5, .bool true]) ∧ Below W.heap.size W w' ∧ Blk w' G 9 #[.string a, .string b, .string p, .string d, .string e])) := by
      refine Lib.hid (HWD.out.mono (fun e' w' h => ?_))
      obtain ⟨q1, q2⟩ := h.2.1 hw
      rw [hab, hG] at q2
      rw [hG] at q1
      exact ⟨q1, h.1, q2⟩
    have HRC := Lib.hid (fun V (h : Below w0.heap.size w0 V) => readCommas_calls p V (hsz p (by simp)) (hx.below h))
    have HNU : Hid (∀ V, Blk V G 9 #[.string a, .string b, .string p, .string d, .string e] → Calls Tryz.prog 64 #[.slice (some ⟨G, 3, none⟩) 2 2, .int .i64 15] V (NmR [d, e] 15 V)) := by
      refine Lib.hid (fun V h => ?_)
      refine numbersP_calls (G + 1) (some ⟨G, 3, none⟩) 2 2 15 [d, e] V ⟨_, _, rfl, Nat.le_refl _, by decide, rfl, (fun h => by cases h), fun _ => ⟨G, 3, rfl, by omega, fun j u hu => ?_⟩⟩ (by decide) (by omega) (fun x hx => by have := hsz x (by simp at hx ⊢; rcases hx with rfl | rfl <;> simp); omega)
      match j, hu with
      | 0, hu => exact (h.cell 3).trans hu
      | 1, hu => exact (h.cell 4).trans hu
      | j + 2, hu => simp [strsV] at hu
    obtain ⟨n, hn⟩ : ∃ n, n = done.length := ⟨_, rfl⟩
    have hdl2 : n ≤ 200000 := by omega
    rw [← hn] at hS
    have HSH : Hid (∀ V A' c' (x : Slt), cntS x = vL s.data.toList → Sq w0 V (rOwn w0.heap.size 52 5 (.slice A' (n + 1) c') (n + 1) (xs.flatMap sltC ++ sltC x) :: rBlk gO 42 #[.slice A' (n + 1) c'] :: rAll (hostR w0.heap.size) (xs ++ [x]) :: L) → StP w0 (QL w0 gO) (done ++ [s.data.toList]) V L) := by
      rw [hn]
      exact Lib.hid (fun V A' c' x hv h => StP.shutL hxs hv h)
    obtain ⟨H, hH⟩ : ∃ H, hstL p = H := ⟨_, rfl⟩
    rw [hH] at HV
    have hlG : w0.heap.size ≤ G := by rw [← hG]; exact hS.size
    obtain ⟨B1, hB1⟩ : ∃ B, hstB p = B := ⟨_, rfl⟩
    obtain ⟨B2, hB2⟩ : ∃ B, nmsB [d, e] 15 = B := ⟨_, rfl⟩
    rw [hB1, hB2] at HF
    have HRC2 : Hid (∀ V, Below w0.heap.size w0 V → Calls Tryz.prog 63 #[.string p] V (fun e' V' => Below V.heap.size V V' ∧ (B1 = true → ∃ A c, e' = .returned (.tuple #[.slice A H.length c, .bool true]) ∧ V'.ownsRow V.heap.size 9 1 (.slice A H.length c) H.length (strsV H)) ∧ (B1 = false → e' = .returned (.tuple #[.slice none 0 0, .bool false])))) := by
      rw [← hB1, ← hH]
      exact Lib.hid HRC.out
    have HNU2 : Hid (∀ V, Blk V G 9 #[.string a, .string b, .string p, .string d, .string e] → Calls Tryz.prog 64 #[.slice (some ⟨G, 3, none⟩) 2 2, .int .i64 15] V (fun e' V' => Below V.heap.size V V' ∧ (B2 = true → ∃ A c, e' = .returned (.tuple #[.slice A 2 c, .bool true]) ∧ V'.ownsRow V.heap.size 3 1 (.slice A 2 c) 2 [.int .i64 (numI d.data.toList), .int .i64 (numI e.data.toList)]) ∧ (B2 = false → e' = .returned (.tuple #[.slice none 0 0, .bool false])))) := by
      rw [← hB2]
      exact Lib.hid HNU.out
    obtain ⟨zd, hzd⟩ : ∃ z, numI d.data.toList = z := ⟨_, rfl⟩
    obtain ⟨ze, hze⟩ : ∃ z, numI e.data.toList = z := ⟨_, rfl⟩
    rw [hzd, hze] at HNU2 HV
    rw [HF.out]
    clear HWD ff vv hw hw2 hab hsz HRC HNU hxs hn hdl hx hmx hs hH hB1 hB2 hzd hze HF
    cases B1
    · have HRC3 : Hid (∀ V, Below w0.heap.size w0 V → Calls Tryz.prog 63 #[.string p] V (fun e' V' => e' = .returned (.tuple #[.slice none 0 0, .bool false]) ∧ Below V.heap.size V V')) := Lib.hid (fun V h => (HRC2.out V h).mono (fun e' V' h => ⟨h.2.2 rfl, h.1⟩))
      have HNU3 : Hid (∀ V, Blk V G 9 #[.string a, .string b, .string p, .string d, .string e] → Calls Tryz.prog 64 #[.slice (some ⟨G, 3, none⟩) 2 2, .int .i64 15] V (fun e' V' => ∃ A m c, e' = .returned (.tuple #[.slice A m c, .bool B2]) ∧ Below V.heap.size V V')) := by
        refine Lib.hid (fun V h => (HNU2.out V h).mono (fun e' V' h => ?_))
        cases B2
        · exact ⟨_, _, _, h.2.2 rfl, h.1⟩
        · obtain ⟨A', c', h1, _⟩ := h.2.1 rfl
          exact ⟨_, _, _, h1, h.1⟩
      clear HRC2 HNU2 HSH HV
      go_enter Tryz.func61, Tryz.ntmps61
      go_wp2_with (first
        | (go_at_call 62; refine HW2.out.mono ?_; rintro e' w1 ⟨rfl, hb1, hk1⟩; have d2 := hk1.cell 2; have hS1 := hS.blk hb1 hk1 (Nat.le_of_eq hG))
        | (go_at_call 63; refine (HRC3.out _ hS1.below).mono ?_; rintro e' w2 ⟨rfl, hb2⟩; have hS2 := hS1.callB hb2)
        | (go_at_call 64; refine (HNU3.out _ hS2.head).mono ?_; rintro e' w3 ⟨A3, m3, c3, rfl, hb3⟩; have hS3 := hS2.callB hb3))
      go_ret
      exact ⟨by simp, (fun h => by simp at h), hS3.below⟩
    have HRC3 : Hid (∀ V, Below w0.heap.size w0 V → Calls Tryz.prog 63 #[.string p] V (fun e' V' => ∃ A c, e' = .returned (.tuple #[.slice A H.length c, .bool true]) ∧ Below V.heap.size V V' ∧ V'.ownsRow V.heap.size 9 1 (.slice A H.length c) H.length (strsV H))) := by
      refine Lib.hid (fun V h => (HRC2.out V h).mono (fun e' V' h => ?_))
      obtain ⟨A', c', h1, h2⟩ := h.2.1 rfl
      exact ⟨A', c', h1, h.1, h2⟩
    clear HRC2
    cases B2
    · have HNU3 : Hid (∀ V, Blk V G 9 #[.string a, .string b, .string p, .string d, .string e] → Calls Tryz.prog 64 #[.slice (some ⟨G, 3, none⟩) 2 2, .int .i64 15] V (fun e' V' => e' = .returned (.tuple #[.slice none 0 0, .bool false]) ∧ Below V.heap.size V V')) := Lib.hid (fun V h => (HNU2.out V h).mono (fun e' V' h => ⟨h.2.2 rfl, h.1⟩))
      clear HNU2 HSH HV
      go_enter Tryz.func61, Tryz.ntmps61
      go_wp2_with (first
        | (go_at_call 62; refine HW2.out.mono ?_; rintro e' w1 ⟨rfl, hb1, hk1⟩; have d2 := hk1.cell 2; have hS1 := hS.blk hb1 hk1 (Nat.le_of_eq hG))
        | (go_at_call 63; refine (HRC3.out _ hS1.below).mono ?_; rintro e' w2 ⟨A2, c2, rfl, hb2, ho2⟩; have hS2 := hS1.callB hb2)
        | (go_at_call 64; refine (HNU3.out _ hS2.head).mono ?_; rintro e' w3 ⟨rfl, hb3⟩; have hS3 := hS2.callB hb3))
      go_ret
      exact ⟨by simp, (fun h => by simp at h), hS3.below⟩
    · have HNU3 : Hid (∀ V, Blk V G 9 #[.string a, .string b, .string p, .string d, .string e] → Calls Tryz.prog 64 #[.slice (some ⟨G, 3, none⟩) 2 2, .int .i64 15] V (fun e' V' => ∃ g c, e' = .returned (.tuple #[.slice (some ⟨g, 0, none⟩) 2 c, .bool true]) ∧ Below V.heap.size V V' ∧ V'.ownsRow V.heap.size 3 1 (.slice (some ⟨g, 0, none⟩) 2 c) 2 [.int .i64 zd, .int .i64 ze] ∧ V'.cell? ⟨g, 0, none⟩ = some (.int .i64 zd) ∧ V'.cell? ⟨g, 1, none⟩ = some (.int .i64 ze) ∧ 2 ≤ c)) := by
        refine Lib.hid (fun V h => (HNU2.out V h).mono (fun e' V' h => ?_))
        obtain ⟨A', c', h1, h2⟩ := h.2.1 rfl
        obtain ⟨g, cap, hv, _, _⟩ := h2.form (by omega)
        have hcap := own_cap h2
        injection hv with hA _ _
        subst hA
        have x0 := own_cell (fun z : Int => [Value.int .i64 z]) 1 (fun _ => rfl) (rs := [zd, ze]) h2 0 0 (by simp) (by omega) (by omega)
        have x1 := own_cell (fun z : Int => [Value.int .i64 z]) 1 (fun _ => rfl) (rs := [zd, ze]) h2 1 0 (by simp) (by omega) (by omega)
        exact ⟨g, c', h1, h.1, h2, x0, x1, hcap.1⟩
      clear HNU2
      go_enter Tryz.func61, Tryz.ntmps61
      go_upto_region 8 with (first
        | (go_at_call 62; refine HW2.out.mono ?_; rintro e' w1 ⟨rfl, hb1, hk1⟩; have d2 := hk1.cell 2; have hS1 := hS.blk hb1 hk1 (Nat.le_of_eq hG))
        | (go_at_call 63; refine (HRC3.out _ hS1.below).mono ?_; rintro e' w2 ⟨A2, c2, rfl, hb2, ho2⟩; have hS2 := hS1.ownB hb2 ho2)
        | (go_at_call 64; refine (HNU3.out _ (hS2.nth 1 rfl)).mono ?_; rintro e' w3 ⟨g3, c3, rfl, hb3, ho3, x0, x1, hc3⟩; have hS3 := hS2.ownB hb3 ho3))
      have hS4 := ((hS3.front 1 rfl rfl).front 4 rfl rfl).front 4 rfl rfl
      have d0 : w3.cell? ⟨G, 0, none⟩ = some (.string a) := (hS4.nth 4 rfl : Blk w3 G _ _).cell 0
      have d1 : w3.cell? ⟨G, 1, none⟩ = some (.string b) := (hS4.nth 4 rfl : Blk w3 G _ _).cell 1
      have cb : w3.cell? ⟨gO, 0, none⟩ = some (.slice A n c) := (hS4.nth 1 rfl : Blk w3 gO _ _).cell 0
      have hT := (hS4.add #[.string a, .string b, .slice A2 H.length c2, .int .i64 zd, .int .i64 ze] 52).drew
      have eT : (w3.alloc (.cells #[.string a, .string b, .slice A2 H.length c2, .int .i64 zd, .int .i64 ze] 52)).cell? ⟨gO, 0, none⟩ = some (.slice A n c) := (hT.nth 2 rfl : Blk _ gO _ _).cell 0
      have HPO : Hid (∀ V A8 c8, Sq w0 V (rOwn w0.heap.size 52 5 (.slice A8 (n + 1) c8) (n + 1) (xs.flatMap sltC ++ sltC ⟨a, b, A2, c2, H, zd, ze⟩) :: rBlk gO 42 #[.slice A n c] :: rOwn w0.heap.size 9 1 (.slice A2 H.length c2) H.length (strsV H) :: rOwn w0.heap.size 3 1 (.slice (some ⟨g3, 0, none⟩) 2 c3) 2 [.int .i64 zd, .int .i64 ze] :: rBlk G 9 #[.string a, .string b, .string p, .string d, .string e] :: rAll (hostR w0.heap.size) xs :: L) → StP w0 (QL w0 gO) (done ++ [s.data.toList]) (V.setCell ⟨gO, 0, none⟩ (.slice A8 (n + 1) c8)) L) := by
        refine Lib.hid (fun V A8 c8 h => HSH.out _ A8 c8 ⟨a, b, A2, c2, H, zd, ze⟩ HV.out.symm ?_)
        have h2 := ((h.front 1 rfl rfl).set_ 0 (.slice A8 (n + 1) c8)).drop 3 rfl rfl
        have h3 := (h2.drop 3 rfl rfl).front 2 rfl rfl
        have h4 := (h3.front 3 rfl rfl).front 1 rfl rfl
        have h5 : Sq w0 (V.setCell ⟨gO, 0, none⟩ (.slice A8 (n + 1) c8)) (hostR w0.heap.size ⟨a, b, A2, c2, H, zd, ze⟩ :: rAll (hostR w0.heap.size) xs :: rBlk gO 42 #[.slice A8 (n + 1) c8] :: rOwn w0.heap.size 52 5 (.slice A8 (n + 1) c8) (n + 1) (xs.flatMap sltC ++ sltC ⟨a, b, A2, c2, H, zd, ze⟩) :: L) := h4
        have h6 := h5.snocR (hostR_ok _)
        exact ((h6.front 2 rfl rfl).front 2 rfl rfl).front 1 rfl rfl
      clear HSH HV hS3 hS2 hS1 hS x0 x1 hk1 d2
      have HO4 : w3.ownsRow w0.heap.size 3 1 (.slice (some ⟨g3, 0, none⟩) 2 c3) 2 [.int .i64 zd, .int .i64 ze] := hS4.nth 3 rfl
      have x0 : w3.cell? ⟨g3, 0, none⟩ = some (.int .i64 zd) := own_cell (fun z : Int => [Value.int .i64 z]) 1 (fun _ => rfl) (rs := [zd, ze]) HO4 0 0 (by simp) (by omega) (by omega)
      have x1 : w3.cell? ⟨g3, 1, none⟩ = some (.int .i64 ze) := own_cell (fun z : Int => [Value.int .i64 z]) 1 (fun _ => rfl) (rs := [zd, ze]) HO4 1 0 (by simp) (by omega) (by omega)
      have SF : Hid (∀ V, V.ownsRow w0.heap.size 3 1 (.slice (some ⟨g3, 0, none⟩) 2 c3) 2 [.int .i64 zd, .int .i64 ze] → Blk V G 9 #[.string a, .string b, .string p, .string d, .string e] → V.cell? ⟨G, 0, none⟩ = some (.string a) ∧ V.cell? ⟨G, 1, none⟩ = some (.string b) ∧ V.cell? ⟨g3, 0, none⟩ = some (.int .i64 zd) ∧ V.cell? ⟨g3, 1, none⟩ = some (.int .i64 ze)) :=
        Lib.hid (fun V h k => ⟨k.cell 0, k.cell 1, own_cell (fun z : Int => [Value.int .i64 z]) 1 (fun _ => rfl) (rs := [zd, ze]) h 0 0 (by simp) (by omega) (by omega), own_cell (fun z : Int => [Value.int .i64 z]) 1 (fun _ => rfl) (rs := [zd, ze]) h 1 0 (by simp) (by omega) (by omega)⟩)
      clear HO4 hS4 hb1 hb2 hb3 ho2 ho3
      go_cut [] (fun V => StP w0 (QL w0 gO) (done ++ [s.data.toList]) V L)
      case first =>
        -- REGION (gen_slt1.py)
        refine wp_region_held_drew (S := fun V => V.cell? ⟨G, 0, none⟩ = some (.string a) ∧ V.cell? ⟨G, 1, none⟩ = some (.string b) ∧ V.cell? ⟨g3, 0, none⟩ = some (.int .i64 zd) ∧ V.cell? ⟨g3, 1, none⟩ = some (.int .i64 ze)) (by kernel_rfl) ⟨d0, d1, x0, x1⟩ (fun hHeld => ?_)
        refine wpAnyH_take (i := 1) (v := .slice (some ⟨G, 0, none⟩) 5 5) rfl (by kernel_rfl) (by kernel_rfl) (by kernel_rfl) (fun _ _ _ h => h) (Or.inl ⟨by rfl, fun V hV => ?_⟩) hHeld ?_
        · obtain ⟨_, _, _, _⟩ := hV; first | (go_simp; done) | (go_simp; rfl) | rfl
        simp only [Act.put]
        refine wpAnyH_take (i := 2) (v := .pointer (some ⟨G, 0, none⟩)) rfl (by kernel_rfl) (by kernel_rfl) (by kernel_rfl) (fun _ _ _ h => h) (Or.inl ⟨by rfl, fun V hV => ?_⟩) hHeld ?_
        · obtain ⟨_, _, _, _⟩ := hV; first | (go_simp; done) | (go_simp; rfl) | rfl
        simp only [Act.put]
        refine wpAnyH_take (i := 3) (v := .string a) rfl (by kernel_rfl) (by kernel_rfl) (by kernel_rfl) (fun _ _ _ h => h) (Or.inl ⟨by rfl, fun V hV => ?_⟩) hHeld ?_
        · obtain ⟨_, _, _, _⟩ := hV; first | (go_simp; done) | (go_simp; rfl) | rfl
        simp only [Act.put]
        refine wpAnyH_take (i := 4) (v := .slice (some ⟨G, 0, none⟩) 5 5) rfl (by kernel_rfl) (by kernel_rfl) (by kernel_rfl) (fun _ _ _ h => h) (Or.inl ⟨by rfl, fun V hV => ?_⟩) hHeld ?_
        · obtain ⟨_, _, _, _⟩ := hV; first | (go_simp; done) | (go_simp; rfl) | rfl
        simp only [Act.put]
        refine wpAnyH_take (i := 5) (v := .pointer (some ⟨G, 1, none⟩)) rfl (by kernel_rfl) (by kernel_rfl) (by kernel_rfl) (fun _ _ _ h => h) (Or.inl ⟨by rfl, fun V hV => ?_⟩) hHeld ?_
        · obtain ⟨_, _, _, _⟩ := hV; first | (go_simp; done) | (go_simp; rfl) | rfl
        simp only [Act.put]
        refine wpAnyH_take (i := 6) (v := .string b) rfl (by kernel_rfl) (by kernel_rfl) (by kernel_rfl) (fun _ _ _ h => h) (Or.inl ⟨by rfl, fun V hV => ?_⟩) hHeld ?_
        · obtain ⟨_, _, _, _⟩ := hV; first | (go_simp; done) | (go_simp; rfl) | rfl
        simp only [Act.put]
        refine wpAnyH_take (i := 7) (v := .slice A2 H.length c2) rfl (by kernel_rfl) (by kernel_rfl) (by kernel_rfl) (fun _ _ _ h => h) (Or.inl ⟨by rfl, fun V hV => ?_⟩) hHeld ?_
        · obtain ⟨_, _, _, _⟩ := hV; first | (go_simp; done) | (go_simp; rfl) | rfl
        simp only [Act.put]
        refine wpAnyH_take (i := 8) (v := .slice (some ⟨g3, 0, none⟩) 2 c3) rfl (by kernel_rfl) (by kernel_rfl) (by kernel_rfl) (fun _ _ _ h => h) (Or.inl ⟨by rfl, fun V hV => ?_⟩) hHeld ?_
        · obtain ⟨_, _, _, _⟩ := hV; first | (go_simp; done) | (go_simp; rfl) | rfl
        simp only [Act.put]
        refine wpAnyH_take (i := 9) (v := .pointer (some ⟨g3, 0, none⟩)) rfl (by kernel_rfl) (by kernel_rfl) (by kernel_rfl) (fun _ _ _ h => h) (Or.inl ⟨by rfl, fun V hV => ?_⟩) hHeld ?_
        · obtain ⟨_, _, _, _⟩ := hV; first | (go_simp; done) | (go_simp; rfl) | rfl
        simp only [Act.put]
        refine wpAnyH_take (i := 10) (v := .int .i64 zd) rfl (by kernel_rfl) (by kernel_rfl) (by kernel_rfl) (fun _ _ _ h => h) (Or.inl ⟨by rfl, fun V hV => ?_⟩) hHeld ?_
        · obtain ⟨_, _, _, _⟩ := hV; first | (go_simp; done) | (go_simp; rfl) | rfl
        simp only [Act.put]
        refine wpAnyH_take (i := 11) (v := .slice (some ⟨g3, 0, none⟩) 2 c3) rfl (by kernel_rfl) (by kernel_rfl) (by kernel_rfl) (fun _ _ _ h => h) (Or.inl ⟨by rfl, fun V hV => ?_⟩) hHeld ?_
        · obtain ⟨_, _, _, _⟩ := hV; first | (go_simp; done) | (go_simp; rfl) | rfl
        simp only [Act.put]
        refine wpAnyH_take (i := 12) (v := .pointer (some ⟨g3, 1, none⟩)) rfl (by kernel_rfl) (by kernel_rfl) (by kernel_rfl) (fun _ _ _ h => h) (Or.inl ⟨by rfl, fun V hV => ?_⟩) hHeld ?_
        · obtain ⟨_, _, _, _⟩ := hV; first | (go_simp; done) | (go_simp; rfl) | rfl
        simp only [Act.put]
        refine wpAnyH_take (i := 13) (v := .int .i64 ze) rfl (by kernel_rfl) (by kernel_rfl) (by kernel_rfl) (fun _ _ _ h => h) (Or.inl ⟨by rfl, fun V hV => ?_⟩) hHeld ?_
        · obtain ⟨_, _, _, _⟩ := hV; first | (go_simp; done) | (go_simp; rfl) | rfl
        simp only [Act.put]
        refine wpAnyH_take (i := 14) (v := .agg #[.string a, .string b, .slice A2 H.length c2, .int .i64 zd, .int .i64 ze]) rfl (by kernel_rfl) (by kernel_rfl) (by kernel_rfl) (fun _ _ _ h => h) (Or.inl ⟨by rfl, fun V hV => ?_⟩) hHeld ?_
        · obtain ⟨_, _, _, _⟩ := hV; first | (go_simp; done) | (go_simp; rfl) | rfl
        simp only [Act.put]
        refine wpAnyH_ready (rs := [0, 15]) (by kernel_rfl) (by simp) ?_
        refine AllReadyH.cons rfl (fun K hK => ?_) ?_
        · go_simp
          refine hK.out _ _ hHeld (fun hHeld => ?_)
          refine wpAnyH_ready (rs := [15]) (by kernel_rfl) (by simp) ?_
          refine AllReadyH.cons rfl (fun K hK => ?_) AllReadyH.nil
          go_simp
          refine hK.out _ _ (SF.out _ (hT.nth 4 rfl) (hT.nth 5 rfl)) (fun hHeld => ?_)
          refine wpAnyH_ready (rs := [16]) (by kernel_rfl) (by simp) ?_
          refine AllReadyH.cons rfl (fun K hK => ?_) AllReadyH.nil
          refine step_app_slt rfl _ _ rfl rfl (one5 rfl rfl rfl rfl rfl) hT b0 hb0 hdl2 rfl rfl (fun A8 c8 w8 hS8 => ?_)
          have cb8 : w8.cell? ⟨gO, 0, none⟩ = some (.slice A n c) := (hS8.nth 1 rfl : Blk w8 gO _ _).cell 0
          have fb8 : w8.frozen? ⟨gO, 0, none⟩ = false := (hS8.nth 1 rfl : Blk w8 gO _ _).frozen 0
          have hP8 := HPO.out _ _ _ hS8
          have hS9 := (hS8.front 1 rfl rfl).set_ 0 (.slice A8 (n + 1) c8)
          refine hK.out _ _ (SF.out _ (hS8.nth 3 rfl) (hS8.nth 4 rfl)) (fun hHeld => ?_)
          simp only [Act.put]
          refine wpAnyH_ready (rs := [17]) (by kernel_rfl) (by simp) ?_
          refine AllReadyH.cons rfl (fun K hK => ?_) AllReadyH.nil
          go_simp
          refine hK.out _ _ (SF.out _ (hS9.nth 3 rfl) (hS9.nth 4 rfl)) (fun hHeld => ?_)
          refine wpAnyH_done (by kernel_rfl) ?_ _
          go_wp2_with fail
          go_meet
          exact hP8
        refine AllReadyH.cons rfl (fun K hK => ?_) AllReadyH.nil
        go_simp
        refine hK.out _ _ (SF.out _ (hT.nth 4 rfl) (hT.nth 5 rfl)) (fun hHeld => ?_)
        refine wpAnyH_ready (rs := [0]) (by kernel_rfl) (by simp) ?_
        refine AllReadyH.cons rfl (fun K hK => ?_) AllReadyH.nil
        go_simp
        refine hK.out _ _ hHeld (fun hHeld => ?_)
        refine wpAnyH_ready (rs := [16]) (by kernel_rfl) (by simp) ?_
        refine AllReadyH.cons rfl (fun K hK => ?_) AllReadyH.nil
        refine step_app_slt rfl _ _ rfl rfl (one5 rfl rfl rfl rfl rfl) hT b0 hb0 hdl2 rfl rfl (fun A8 c8 w8 hS8 => ?_)
        have cb8 : w8.cell? ⟨gO, 0, none⟩ = some (.slice A n c) := (hS8.nth 1 rfl : Blk w8 gO _ _).cell 0
        have fb8 : w8.frozen? ⟨gO, 0, none⟩ = false := (hS8.nth 1 rfl : Blk w8 gO _ _).frozen 0
        have hP8 := HPO.out _ _ _ hS8
        have hS9 := (hS8.front 1 rfl rfl).set_ 0 (.slice A8 (n + 1) c8)
        refine hK.out _ _ (SF.out _ (hS8.nth 3 rfl) (hS8.nth 4 rfl)) (fun hHeld => ?_)
        simp only [Act.put]
        refine wpAnyH_ready (rs := [17]) (by kernel_rfl) (by simp) ?_
        refine AllReadyH.cons rfl (fun K hK => ?_) AllReadyH.nil
        go_simp
        refine hK.out _ _ (SF.out _ (hS9.nth 3 rfl) (hS9.nth 4 rfl)) (fun hHeld => ?_)
        refine wpAnyH_done (by kernel_rfl) ?_ _
        go_wp2_with fail
        go_meet
        exact hP8
      case rest =>
        have hb9 := hcut.below
        clear HPO hT eT cb d0 d1 x0 x1
        go_wp2_with fail
        go_ret
        exact ⟨rfl, fun _ => hcut, hb9⟩
end Go.Proofs.YtaendemgkabdfaaGreatDoor
/-
  A slot's line: the closure of splitref2.SlotsRead by its contract. (Printed by gen_slt2.py.)
-/
namespace Go.Proofs.YtaendemgkabdfaaGreatDoor
open Go Go.RowKit TxtP

theorem mem_empty (l : List ByteArray) : (!memS l ⟨#[]⟩) = l.all (fun x => !x.data.toList.isEmpty) := by
  cases h : l.all (fun x => !x.data.toList.isEmpty) with
  | true =>
    rw [List.all_eq_true] at h
    cases hc : memS l ⟨#[]⟩ with
    | false => rfl
    | true =>
      have := h _ ((memS_iff l _).1 hc)
      simp at this
  | false =>
    rw [List.all_eq_false] at h
    obtain ⟨x, hx, hn⟩ := h
    have he : x = ⟨#[]⟩ := by
      cases x with
      | mk d => simp at hn; simp [hn]
    rw [he] at hx
    rw [(memS_iff l _).2 hx]; rfl
theorem hst_mem (p : ByteArray) : hstB p = !memS (hstL p) ⟨#[]⟩ := by
  unfold hstB hstL
  by_cases h : p.data.toList = [45]
  · rw [if_pos h, decide_eq_true h, Bool.true_or]; rfl
  · rw [if_neg h, decide_eq_false h, Bool.false_or, mem_empty]
theorem Blk.five {w : World} {g : Nat} {t : TypeId} {a b c d e : Value} (h : Blk w g t #[a, b, c, d, e]) :
    w.cell? ⟨g, 0, none⟩ = some a ∧ w.cell? ⟨g, 1, none⟩ = some b ∧ w.cell? ⟨g, 2, none⟩ = some c ∧ w.cell? ⟨g, 3, none⟩ = some d ∧ w.cell? ⟨g, 4, none⟩ = some e ∧ w.frozen? ⟨g, 2, none⟩ = false :=
  ⟨h.cell 0, h.cell 1, h.cell 2, h.cell 3, h.cell 4, h.frozen 2⟩
set_option maxRecDepth 100000 in
set_option maxHeartbeats 4000000 in
theorem readLQ_calls (w0 : World) (gO M : Nat) (hx : MxL w0) (ht : Tab w0) (hM : M ≤ 200000) : CloR w0 (QL w0 gO) 65 (.pointer (some ⟨gO, 0, none⟩)) fL M := by
  intro W done s L hS0 hs hdl
  have hmx : MxL W := hx.below hS0.below
  have htw : Tab W := ht.below hS0.below
  have HWD := Lib.hid (wordsQ_calls s W (by omega) hmx)
  have hbel := hS0.below
  obtain ⟨A, c, xs, hxs, hS⟩ := hS0.openL
  obtain ⟨b0, hb0⟩ : ∃ b0, b0 < w0.heap.size := by
    obtain ⟨m, hm⟩ := hx
    exact ⟨_, World.block_lt_of_cell? _ _ hm⟩
  have ff : fL s.data.toList = (wrdQ s && fL5 (pcs 32 s)) := by unfold fL; rw [ba_eta]
  have vv : vL s.data.toList = vL5 (pcs 32 s) := by unfold vL; rw [ba_eta]
  have hle := pcs_le 32 s
  clear hS0
  cases hq : wrdQ s
  · obtain ⟨n, hn⟩ : ∃ n, n = (pcs 32 s).length := ⟨_, rfl⟩
    have HF : Hid (fL s.data.toList = false) := Lib.hid (by rw [ff, hq, Bool.false_and])
    have HW2 : Hid (Calls Tryz.prog 48 #[.string s] W (fun e w' => e = .returned (.tuple #[.slice (some ⟨W.heap.size, 0, none⟩) n n, .bool false]) ∧ Below W.heap.size W w')) := by
      refine Lib.hid (HWD.out.mono (fun e w' h => ⟨?_, h.2.1⟩))
      rw [h.1, hq, hn]
    rw [HF.out]
    clear HF hq HWD ff vv hxs hmx hx hn htw ht hle
    go_enter Tryz.func65, Tryz.ntmps65
    go_wp2_with (first | (go_at_call 48; refine HW2.out.mono ?_; rintro e w1 ⟨rfl, hb1⟩))
    go_ret
    exact ⟨rfl, (fun h => by cases h), below_call hbel hb1 (Nat.le_refl _)⟩
  by_cases h5 : (pcs 32 s).length = 5
  · obtain ⟨a, b, p, d, e, hab⟩ := five_of h5
    have hsz : ∀ x ∈ [a, b, p, d, e], x.size ≤ 200000 := fun x hx => by rw [← hab] at hx; have := pcs_size hx; omega
    have HF : Hid (fL s.data.toList = (nmsB [d, e] 15 && !memS (hstL p) ⟨#[]⟩)) := Lib.hid (by rw [ff, hq, Bool.true_and, hab, ← hst_mem, Bool.and_comm]; rfl)
    have HV : Hid (vL s.data.toList = (a, b, hstL p, numI d.data.toList, numI e.data.toList)) := Lib.hid (by rw [vv, hab]; rfl)
    obtain ⟨G, hG⟩ : ∃ G, W.heap.size = G := ⟨_, rfl⟩
    have HW2 : Hid (Calls Tryz.prog 48 #[.string s] W (fun e' w' => e' = .returned (.tuple #[.slice (some ⟨G, 0, none⟩) 5 5, .bool true]) ∧ Below W.heap.size W w' ∧ Blk w' G 9 #[.string a, .string b, .string p, .string d, .string e])) := by
      refine Lib.hid (HWD.out.mono (fun e' w' h => ?_))
      obtain ⟨q1, q2, q3⟩ := h
      rw [hq, hab, hG] at q1
      rw [hab, hG] at q3
      exact ⟨q1, q2, q3⟩
    have HNU : Hid (∀ V, Tab V → Blk V G 9 #[.string a, .string b, .string p, .string d, .string e] → Calls Tryz.prog 66 #[.slice (some ⟨G, 3, none⟩) 2 2, .int .i64 15] V (fun e' V' => ∃ g c z1 z2, e' = .returned (.tuple #[.slice (some ⟨g, 0, none⟩) 2 c, .bool (nmsB [d, e] 15)]) ∧ Hid (nmsB [d, e] 15 = true → z1 = numI d.data.toList ∧ z2 = numI e.data.toList) ∧ (-1000000000000000000 < z1 ∧ z1 < 1000000000000000000) ∧ (-1000000000000000000 < z2 ∧ z2 < 1000000000000000000) ∧ Below V.heap.size V V' ∧ V'.ownsRow V.heap.size 3 1 (.slice (some ⟨g, 0, none⟩) 2 c) 2 [.int .i64 z1, .int .i64 z2] ∧ 2 ≤ c)) := by
      refine Lib.hid (fun V hT h => ?_)
      refine (numbersIn_calls (G + 1) (some ⟨G, 3, none⟩) 2 2 15 [d, e] V ⟨_, _, rfl, Nat.le_refl _, by decide, rfl, (fun h => by cases h), fun _ => ⟨G, 3, rfl, by omega, fun j u hu => ?_⟩⟩ (by decide) (by omega) (fun x hx => by have := hsz x (by simp at hx ⊢; rcases hx with rfl | rfl <;> simp); omega) hT).mono ?_
      · match j, hu with
        | 0, hu => exact (h.cell 3).trans hu
        | 1, hu => exact (h.cell 4).trans hu
        | j + 2, hu => simp [strsV] at hu
      · rintro e' V' ⟨A', c', zs, rfl, hl, hv, hbd, ho, hb⟩
        match zs, hl with
        | [z1, z2], _ =>
          obtain ⟨g, cap, hvv, _, _⟩ := ho.form (by simp)
          have hcap := own_cap ho
          injection hvv with hA _ _
          subst hA
          refine ⟨g, c', z1, z2, rfl, Lib.hid (fun h => ?_), hbd z1 (by simp), hbd z2 (by simp), hb, ho, hcap.1⟩
          have := hv h
          unfold nmsL at this
          injection this with t1 t2
          injection t2 with t2 _
          exact ⟨t1, t2⟩
    have HSP := Lib.hid (fun V (h : Below w0.heap.size w0 V) => split_calls p 44 V (by have := hsz p (by simp); omega) (hx.below h))
    have hpl : (pcs 44 p).length ≤ 200001 := by have := pcs_le 44 p; have := hsz p (by simp); omega
    obtain ⟨n, hn⟩ : ∃ n, n = done.length := ⟨_, rfl⟩
    have hdl2 : n ≤ 200000 := by omega
    rw [← hn] at hS
    have HSH : Hid (∀ V A' c' (x : Slt), cntS x = vL s.data.toList → Sq w0 V (rOwn w0.heap.size 52 5 (.slice A' (n + 1) c') (n + 1) (xs.flatMap sltC ++ sltC x) :: rBlk gO 42 #[.slice A' (n + 1) c'] :: rAll (hostR w0.heap.size) (xs ++ [x]) :: L) → StP w0 (QL w0 gO) (done ++ [s.data.toList]) V L) := by
      rw [hn]
      exact Lib.hid (fun V A' c' x hv h => StP.shutL hxs hv h)
    have hlG : w0.heap.size ≤ G := by rw [← hG]; exact hS.size
    obtain ⟨B2, hB2⟩ : ∃ B, nmsB [d, e] 15 = B := ⟨_, rfl⟩
    rw [hB2] at HF HNU
    obtain ⟨zd, hzd⟩ : ∃ z, numI d.data.toList = z := ⟨_, rfl⟩
    obtain ⟨ze, hze⟩ : ∃ z, numI e.data.toList = z := ⟨_, rfl⟩
    rw [hzd, hze] at HNU HV
    have HFIN : Hid (∀ V A2 c2 (H : List ByteArray) A8 c8 z1 z2 (L2 : List Rsc), H = hstL p → (B2 = true → z1 = zd ∧ z2 = ze) → Sq w0 V (rOwn w0.heap.size 52 5 (.slice A8 (n + 1) c8) (n + 1) (xs.flatMap sltC ++ sltC ⟨a, b, A2, c2, H, z1, z2⟩) :: rBlk gO 42 #[.slice A8 (n + 1) c8] :: rOwn w0.heap.size 9 1 (.slice A2 H.length c2) H.length (strsV H) :: rAll (hostR w0.heap.size) xs :: L) → B2 = true → StP w0 (QL w0 gO) (done ++ [s.data.toList]) V L) := by
      refine Lib.hid (fun V A2 c2 H A8 c8 z1 z2 L2 hH hz h hb => HSH.out _ A8 c8 ⟨a, b, A2, c2, H, z1, z2⟩ ?_ ?_)
      · obtain ⟨rfl, rfl⟩ := hz hb
        rw [HV.out, hH]
        rfl
      · have h4 := (h.front 2 rfl rfl).front 3 rfl rfl
        have h5 : Sq w0 V (hostR w0.heap.size ⟨a, b, A2, c2, H, z1, z2⟩ :: rAll (hostR w0.heap.size) xs :: rOwn w0.heap.size 52 5 (.slice A8 (n + 1) c8) (n + 1) (xs.flatMap sltC ++ sltC ⟨a, b, A2, c2, H, z1, z2⟩) :: rBlk gO 42 #[.slice A8 (n + 1) c8] :: L) := h4.front 1 rfl rfl
        have h6 := h5.snocR (hostR_ok _)
        exact (h6.front 2 rfl rfl).front 2 rfl rfl
    clear HWD ff vv hab hsz hxs hn hdl hs hB2 hzd hze hq h5 hle HSH HV
    obtain ⟨i0, hi, hi0, hi1, hi2⟩ := info_parts info_slt
    by_cases h45 : p.data.toList = [45]
    · have HHL : Hid (([] : List ByteArray) = hstL p) := Lib.hid (by unfold hstL; rw [if_pos h45])
      have hp1 : p = ⟨#[45]⟩ := by
        have := congrArg (fun l : List UInt8 => (⟨l.toArray⟩ : ByteArray)) h45
        rw [ba_eta] at this
        exact this
      rw [← HHL.out] at HF
      have HHL2 := HHL
      clear h45 HSP hpl HHL
      have HHL := HHL2
      clear HHL2
      subst hp1
      rw [HF.out]
      clear HF
      go_enter Tryz.func65, Tryz.ntmps65
      go_upto_region 5 with (first
        | (go_at_call 48; refine HW2.out.mono ?_; rintro e' w1 ⟨rfl, hb1, hk1⟩; have hS1 := hS.blk hb1 hk1 (Nat.le_of_eq hG); have ht1 := htw.below hb1)
        | (go_at_call 66; refine (HNU.out _ ht1 hS1.head).mono ?_; rintro e' w3 ⟨g3, c3, z1, z2, rfl, HZ, hz1, hz2, hb3, ho3, hc3⟩; have hS3 := hS1.ownB hb3 ho3))
      clear hS1 hb1 hk1 hb3 hS ho3 ht1 htw HW2 HNU hG
      have HO3 : w3.ownsRow w0.heap.size 3 1 (.slice (some ⟨g3, 0, none⟩) 2 c3) 2 [.int .i64 z1, .int .i64 z2] := hS3.head
      have x0 : w3.cell? ⟨g3, 0, none⟩ = some (.int .i64 z1) := own_cell (fun z : Int => [Value.int .i64 z]) 1 (fun _ => rfl) (rs := [z1, z2]) HO3 0 0 (by simp) (by omega) (by omega)
      have x1 : w3.cell? ⟨g3, 1, none⟩ = some (.int .i64 z2) := own_cell (fun z : Int => [Value.int .i64 z]) 1 (fun _ => rfl) (rs := [z1, z2]) HO3 1 0 (by simp) (by omega) (by omega)
      have d0 : w3.cell? ⟨G, 0, none⟩ = some (.string a) := (hS3.nth 1 rfl : Blk w3 G _ _).cell 0
      have d1 : w3.cell? ⟨G, 1, none⟩ = some (.string b) := (hS3.nth 1 rfl : Blk w3 G _ _).cell 1
      have hS3d := hS3.drew
      have hSA := (hS3.add #[.string ⟨#[]⟩, .string ⟨#[]⟩, .slice none 0 0, .int .i64 0, .int .i64 0] 52).drew
      have SF : Hid (∀ V, V.ownsRow w0.heap.size 3 1 (.slice (some ⟨g3, 0, none⟩) 2 c3) 2 [.int .i64 z1, .int .i64 z2] → Blk V G 9 #[.string a, .string b, .string ⟨#[45]⟩, .string d, .string e] → V.cell? ⟨G, 0, none⟩ = some (.string a) ∧ V.cell? ⟨G, 1, none⟩ = some (.string b) ∧ V.cell? ⟨g3, 0, none⟩ = some (.int .i64 z1) ∧ V.cell? ⟨g3, 1, none⟩ = some (.int .i64 z2)) :=
        Lib.hid (fun V h k => ⟨k.cell 0, k.cell 1, own_cell (fun z : Int => [Value.int .i64 z]) 1 (fun _ => rfl) (rs := [z1, z2]) h 0 0 (by simp) (by omega) (by omega), own_cell (fun z : Int => [Value.int .i64 z]) 1 (fun _ => rfl) (rs := [z1, z2]) h 1 0 (by simp) (by omega) (by omega)⟩)
      have s0 := SF.out _ HO3 (hS3.nth 1 rfl)
      clear HO3 hS3
      go_cut [8] (fun s8 V => ∃ g, s8 = .pointer (some ⟨g, 0, none⟩) ∧ Sq w0 V (rBlk g 52 #[.string a, .string b, .slice none 0 0, .int .i64 z1, .int .i64 z2] :: rOwn w0.heap.size 3 1 (.slice (some ⟨g3, 0, none⟩) 2 c3) 2 [.int .i64 z1, .int .i64 z2] :: rBlk G 9 #[.string a, .string b, .string ⟨#[45]⟩, .string d, .string e] :: rOwn w0.heap.size 52 5 (.slice A n c) n (xs.flatMap sltC) :: rBlk gO 42 #[.slice A n c] :: rAll (hostR w0.heap.size) xs :: L))
      case first =>
        clear HFIN HZ
        go_region_held3 (fun V => V.cell? ⟨G, 0, none⟩ = some (.string a) ∧ V.cell? ⟨G, 1, none⟩ = some (.string b) ∧ V.cell? ⟨g3, 0, none⟩ = some (.int .i64 z1) ∧ V.cell? ⟨g3, 1, none⟩ = some (.int .i64 z2))
          (first | exact s0 | exact (SF.out _ (hSA.nth 1 rfl) (hSA.nth 2 rfl)) | exact (SF.out _ ((hS3d.add _ _).nth 1 rfl) ((hS3d.add _ _).nth 2 rfl)) | exact (SF.out _ ((((((hSA.set_ 0 _).set_ 1 _).set_ 2 _).set_ 3 _).set_ 4 _).nth 1 rfl) ((((((hSA.set_ 0 _).set_ 1 _).set_ 2 _).set_ 3 _).set_ 4 _).nth 2 rfl)) | go_keep)
          (fail)
        all_goals (go_wp2_with fail; go_meet)
        all_goals first
          | exact ⟨_, rfl, hS3d.add _ _⟩
          | exact ⟨_, rfl, ((((hSA.set_ 0 (.string a)).set_ 1 (.string b)).set_ 2 (.slice none 0 0)).set_ 3 (.int .i64 z1)).set_ 4 (.int .i64 z2)⟩
      case rest =>
        obtain ⟨g, rfl, hM⟩ := hcut
        clear d0 d1 x0 x1 hS3d hSA SF s0
        replace hM := hM.drop 1 rfl rfl
        have d2 : wc.cell? ⟨G, 2, none⟩ = some (.string ⟨#[45]⟩) := (hM.nth 1 rfl : Blk wc G _ _).cell 2
        obtain ⟨p0, p1, p2, p3, p4, q2⟩ := Blk.five (hM.nth 0 rfl : Blk wc g _ _)
        have hM6 := ((((hM.front 4 rfl rfl).nil w0.heap.size 9 1).front 5 rfl rfl).front 5 rfl rfl)
        obtain ⟨W6, hW6⟩ : ∃ W6, W6 = wc := ⟨_, rfl⟩
        rw [← hW6] at hM6 p0 p1 p2 p3 p4 d2 ⊢
        clear hW6 hM
        have cb : W6.cell? ⟨gO, 0, none⟩ = some (.slice A n c) := (hM6.nth 1 rfl : Blk W6 gO _ _).cell 0
        have HO : W6.ownsRow w0.heap.size 52 5 (.slice A n c) n (xs.flatMap sltC) := hM6.nth 0 rfl
        have hz6 := hM6.size
        go_upto_region 9 with (first
          | (at_builtin; refine wpList_append_own_at _ rfl _ _ 42 rfl w0.heap.size 52 i0 (.agg #[.string ⟨#[]⟩, .string ⟨#[]⟩, .slice none 0 0, .int .i64 0, .int .i64 0]) 5 72 Tryz.underlying42 hi hi0 hi1 hi2 rfl (by decide) _ _ _ rfl (HO.alloc _) ⟨W6.heap.size, 0, none⟩ 1 1 [.string a, .string b, .slice none 0 0, .int .i64 z1, .int .i64 z2] rfl rfl (World.news_of_block (heap_alloc_new _ _)) (one5 rfl rfl rfl rfl rfl) (by unfold maxLen; omega) (by omega) (by simp; omega) ?_; intro v' w8 hown' hgrow _ hblk; have hS8 := (hM6.alloc _).append hown' hgrow hblk; obtain ⟨A8, c8, hv8⟩ := own_form hown'; subst hv8; have cb8 := (hS8.nth 1 rfl : Blk w8 gO _ _).cell 0; have fb8 := (hS8.nth 1 rfl : Blk w8 gO _ _).frozen 0; clear hown' hgrow hblk HO))
        have hS9 := ((hS8.front 1 rfl rfl).set_ 0 (.slice A8 (n + 1) c8)).front 1 rfl rfl
        obtain ⟨W9, hW9⟩ : ∃ W9, W9 = w8.setCell ⟨gO, 0, none⟩ (.slice A8 (n + 1) c8) := ⟨_, rfl⟩
        rw [← hW9] at hS9 ⊢
        clear hW9 hS8 cb8 fb8 cb p0 p1 p2 p3 p4 hM6
        obtain ⟨_, _, p2, _, _, _⟩ := Blk.five (hS9.nth 4 rfl : Blk W9 g _ _)
        have HCO : Hid (Calls Tryz.prog 59 #[.slice none 0 0, .string ⟨#[]⟩] W9 (QRet (.bool (memS [] ⟨#[]⟩)) W9)) := Lib.hid (containsS_calls b0 none 0 0 [] ⟨#[]⟩ W9 (Rd.own (hS9.nth 2 rfl : W9.ownsRow w0.heap.size 9 1 (.slice none 0 0) 0 []) hb0))
        have HFN := Lib.hid (HFIN.out W9 none 0 [] A8 c8 z1 z2 [] HHL.out HZ.out ((hS9.drop 4 rfl rfl).drop 4 rfl rfl))
        have hb9 := hS9.below
        clear HFIN HHL hS9
        cases B2
        · go_wp2_with fail
          go_ret
          exact ⟨rfl, (fun h => by cases h), hb9⟩
        · go_wp2_with (first | (go_at_call 59; refine HCO.out.mono ?_; rintro e' wz ⟨rfl, nq, rfl⟩))
          go_ret
          exact ⟨rfl, fun _ => (HFN.out (by first | rfl | trivial)).callB (below_drewN (Below.refl _ _) nq), below_drewN hb9 nq⟩
    · have HHL : Hid (pcs 44 p = hstL p) := Lib.hid (by unfold hstL; rw [if_neg h45])
      have hne : (p.toList == [45]) = false := by
        rw [Lib.toList_data, beq_eq_false_iff_ne]
        exact h45
      rw [← HHL.out] at HF
      obtain ⟨H, hH⟩ : ∃ H, H = pcs 44 p := ⟨_, rfl⟩
      rw [← hH] at HF HHL HSP hpl
      have HS2 : Hid (∀ V, Below w0.heap.size w0 V → Calls Tryz.prog 67 #[.string p, .string ⟨#[44]⟩] V (fun e' V' => e' = .returned (.slice (some ⟨V.heap.size, 0, none⟩) H.length H.length) ∧ Below V.heap.size V V' ∧ V'.ownsRow V.heap.size 9 1 (.slice (some ⟨V.heap.size, 0, none⟩) H.length H.length) H.length (strsV H))) := by
        refine Lib.hid (fun V h => (HSP.out V h).mono (fun e' V' h2 => ⟨h2.1, h2.2.1, ?_⟩))
        have h3 := own_of_blk h2.2.2 (Nat.le_refl _) (strCs_size H) (by unfold maxLen; omega)
        rw [strCs_list] at h3
        exact h3
      clear h45 hH HSP
      rw [HF.out]
      clear HF
      go_enter Tryz.func65, Tryz.ntmps65
      go_upto_region 5 with (first
        | (go_at_call 48; refine HW2.out.mono ?_; rintro e' w1 ⟨rfl, hb1, hk1⟩; have hS1 := hS.blk hb1 hk1 (Nat.le_of_eq hG); have ht1 := htw.below hb1)
        | (go_at_call 66; refine (HNU.out _ ht1 hS1.head).mono ?_; rintro e' w3 ⟨g3, c3, z1, z2, rfl, HZ, hz1, hz2, hb3, ho3, hc3⟩; have hS3 := hS1.ownB hb3 ho3))
      clear hS1 hb1 hk1 hb3 hS ho3 ht1 htw HW2 HNU hG
      have HO3 : w3.ownsRow w0.heap.size 3 1 (.slice (some ⟨g3, 0, none⟩) 2 c3) 2 [.int .i64 z1, .int .i64 z2] := hS3.head
      have x0 : w3.cell? ⟨g3, 0, none⟩ = some (.int .i64 z1) := own_cell (fun z : Int => [Value.int .i64 z]) 1 (fun _ => rfl) (rs := [z1, z2]) HO3 0 0 (by simp) (by omega) (by omega)
      have x1 : w3.cell? ⟨g3, 1, none⟩ = some (.int .i64 z2) := own_cell (fun z : Int => [Value.int .i64 z]) 1 (fun _ => rfl) (rs := [z1, z2]) HO3 1 0 (by simp) (by omega) (by omega)
      have d0 : w3.cell? ⟨G, 0, none⟩ = some (.string a) := (hS3.nth 1 rfl : Blk w3 G _ _).cell 0
      have d1 : w3.cell? ⟨G, 1, none⟩ = some (.string b) := (hS3.nth 1 rfl : Blk w3 G _ _).cell 1
      have hS3d := hS3.drew
      have hSA := (hS3.add #[.string ⟨#[]⟩, .string ⟨#[]⟩, .slice none 0 0, .int .i64 0, .int .i64 0] 52).drew
      have SF : Hid (∀ V, V.ownsRow w0.heap.size 3 1 (.slice (some ⟨g3, 0, none⟩) 2 c3) 2 [.int .i64 z1, .int .i64 z2] → Blk V G 9 #[.string a, .string b, .string p, .string d, .string e] → V.cell? ⟨G, 0, none⟩ = some (.string a) ∧ V.cell? ⟨G, 1, none⟩ = some (.string b) ∧ V.cell? ⟨g3, 0, none⟩ = some (.int .i64 z1) ∧ V.cell? ⟨g3, 1, none⟩ = some (.int .i64 z2)) :=
        Lib.hid (fun V h k => ⟨k.cell 0, k.cell 1, own_cell (fun z : Int => [Value.int .i64 z]) 1 (fun _ => rfl) (rs := [z1, z2]) h 0 0 (by simp) (by omega) (by omega), own_cell (fun z : Int => [Value.int .i64 z]) 1 (fun _ => rfl) (rs := [z1, z2]) h 1 0 (by simp) (by omega) (by omega)⟩)
      have s0 := SF.out _ HO3 (hS3.nth 1 rfl)
      clear HO3 hS3
      go_cut [8] (fun s8 V => ∃ g, s8 = .pointer (some ⟨g, 0, none⟩) ∧ Sq w0 V (rBlk g 52 #[.string a, .string b, .slice none 0 0, .int .i64 z1, .int .i64 z2] :: rOwn w0.heap.size 3 1 (.slice (some ⟨g3, 0, none⟩) 2 c3) 2 [.int .i64 z1, .int .i64 z2] :: rBlk G 9 #[.string a, .string b, .string p, .string d, .string e] :: rOwn w0.heap.size 52 5 (.slice A n c) n (xs.flatMap sltC) :: rBlk gO 42 #[.slice A n c] :: rAll (hostR w0.heap.size) xs :: L))
      case first =>
        clear HFIN HZ
        go_region_held3 (fun V => V.cell? ⟨G, 0, none⟩ = some (.string a) ∧ V.cell? ⟨G, 1, none⟩ = some (.string b) ∧ V.cell? ⟨g3, 0, none⟩ = some (.int .i64 z1) ∧ V.cell? ⟨g3, 1, none⟩ = some (.int .i64 z2))
          (first | exact s0 | exact (SF.out _ (hSA.nth 1 rfl) (hSA.nth 2 rfl)) | exact (SF.out _ ((hS3d.add _ _).nth 1 rfl) ((hS3d.add _ _).nth 2 rfl)) | exact (SF.out _ ((((((hSA.set_ 0 _).set_ 1 _).set_ 2 _).set_ 3 _).set_ 4 _).nth 1 rfl) ((((((hSA.set_ 0 _).set_ 1 _).set_ 2 _).set_ 3 _).set_ 4 _).nth 2 rfl)) | go_keep)
          (fail)
        all_goals (go_wp2_with fail; go_meet)
        all_goals first
          | exact ⟨_, rfl, hS3d.add _ _⟩
          | exact ⟨_, rfl, ((((hSA.set_ 0 (.string a)).set_ 1 (.string b)).set_ 2 (.slice none 0 0)).set_ 3 (.int .i64 z1)).set_ 4 (.int .i64 z2)⟩
      case rest =>
        obtain ⟨g, rfl, hM⟩ := hcut
        clear d0 d1 x0 x1 hS3d hSA SF s0
        replace hM := hM.drop 1 rfl rfl
        have d2 : wc.cell? ⟨G, 2, none⟩ = some (.string p) := (hM.nth 1 rfl : Blk wc G _ _).cell 2
        obtain ⟨p0, p1, p2, p3, p4, q2⟩ := Blk.five (hM.nth 0 rfl : Blk wc g _ _)
        go_upto_region 8 with (first
          | (go_at_call 67; refine (HS2.out _ hM.below).mono ?_; rintro e' w5 ⟨rfl, hb5, hk5⟩; have hM5 := hM.ownB hb5 hk5; have k5 : Blk w5 g _ _ := hM5.nth 1 rfl; have p25 := k5.cell 2; have q25 := k5.frozen 2))
        obtain ⟨g5, hg5⟩ : ∃ g5, g5 = wc.heap.size := ⟨_, rfl⟩
        rw [← hg5] at hM5 ⊢
        clear hg5 hb5 hk5 k5 p25 q25 hM p0 p1 p2 p3 p4 q2 d2
        have hM5 := (hM5.front 1 rfl rfl).set_ 2 (.slice (some ⟨g5, 0, none⟩) H.length H.length)
        obtain ⟨W6, hW6⟩ : ∃ W6, W6 = w5.setCell ⟨g, 2, none⟩ (.slice (some ⟨g5, 0, none⟩) H.length H.length) := ⟨_, rfl⟩
        rw [← hW6] at hM5 ⊢
        clear hW6
        obtain ⟨p0, p1, p2, p3, p4, q2⟩ := Blk.five (hM5.nth 0 rfl : Blk W6 g _ #[.string a, .string b, .slice (some ⟨g5, 0, none⟩) H.length H.length, .int .i64 z1, .int .i64 z2])
        have hM6 := ((((hM5.front 5 rfl rfl).front 2 rfl rfl).front 5 rfl rfl).front 5 rfl rfl)
        have cb : W6.cell? ⟨gO, 0, none⟩ = some (.slice A n c) := (hM6.nth 1 rfl : Blk W6 gO _ _).cell 0
        have HO : W6.ownsRow w0.heap.size 52 5 (.slice A n c) n (xs.flatMap sltC) := hM6.nth 0 rfl
        have hz6 := hM6.size
        go_upto_region 9 with (first
          | (at_builtin; refine wpList_append_own_at _ rfl _ _ 42 rfl w0.heap.size 52 i0 (.agg #[.string ⟨#[]⟩, .string ⟨#[]⟩, .slice none 0 0, .int .i64 0, .int .i64 0]) 5 72 Tryz.underlying42 hi hi0 hi1 hi2 rfl (by decide) _ _ _ rfl (HO.alloc _) ⟨W6.heap.size, 0, none⟩ 1 1 [.string a, .string b, .slice (some ⟨g5, 0, none⟩) H.length H.length, .int .i64 z1, .int .i64 z2] rfl rfl (World.news_of_block (heap_alloc_new _ _)) (one5 rfl rfl rfl rfl rfl) (by unfold maxLen; omega) (by omega) (by simp; omega) ?_; intro v' w8 hown' hgrow _ hblk; have hS8 := (hM6.alloc _).append hown' hgrow hblk; obtain ⟨A8, c8, hv8⟩ := own_form hown'; subst hv8; have cb8 := (hS8.nth 1 rfl : Blk w8 gO _ _).cell 0; have fb8 := (hS8.nth 1 rfl : Blk w8 gO _ _).frozen 0; clear hown' hgrow hblk HO))
        have hS9 := ((hS8.front 1 rfl rfl).set_ 0 (.slice A8 (n + 1) c8)).front 1 rfl rfl
        obtain ⟨W9, hW9⟩ : ∃ W9, W9 = w8.setCell ⟨gO, 0, none⟩ (.slice A8 (n + 1) c8) := ⟨_, rfl⟩
        rw [← hW9] at hS9 ⊢
        clear hW9 hS8 cb8 fb8 cb p0 p1 p2 p3 p4 hM6
        obtain ⟨_, _, p2, _, _, _⟩ := Blk.five (hS9.nth 4 rfl : Blk W9 g _ _)
        have HCO : Hid (Calls Tryz.prog 59 #[.slice (some ⟨g5, 0, none⟩) H.length H.length, .string ⟨#[]⟩] W9 (QRet (.bool (memS H ⟨#[]⟩)) W9)) := Lib.hid (containsS_calls b0 (some ⟨g5, 0, none⟩) H.length H.length H ⟨#[]⟩ W9 (Rd.own (hS9.nth 2 rfl : W9.ownsRow w0.heap.size 9 1 (.slice (some ⟨g5, 0, none⟩) H.length H.length) H.length (strsV H)) hb0))
        have HFN := Lib.hid (HFIN.out W9 (some ⟨g5, 0, none⟩) H.length H A8 c8 z1 z2 [] HHL.out HZ.out ((hS9.drop 4 rfl rfl).drop 4 rfl rfl))
        have hb9 := hS9.below
        clear HFIN HHL hS9
        cases B2
        · go_wp2_with fail
          go_ret
          exact ⟨rfl, (fun h => by cases h), hb9⟩
        · go_wp2_with (first | (go_at_call 59; refine HCO.out.mono ?_; rintro e' wz ⟨rfl, nq, rfl⟩))
          go_ret
          exact ⟨rfl, fun _ => (HFN.out (by first | rfl | trivial)).callB (below_drewN (Below.refl _ _) nq), below_drewN hb9 nq⟩
  · obtain ⟨n, hn⟩ : ∃ n, n = (pcs 32 s).length := ⟨_, rfl⟩
    have HF : Hid (fL s.data.toList = false) := Lib.hid (by rw [ff, fL5_len h5, Bool.and_false])
    have HW2 : Hid (Calls Tryz.prog 48 #[.string s] W (fun e w' => e = .returned (.tuple #[.slice (some ⟨W.heap.size, 0, none⟩) n n, .bool true]) ∧ Below W.heap.size W w')) := by
      refine Lib.hid (HWD.out.mono (fun e w' h => ⟨?_, h.2.1⟩))
      rw [h.1, hq, hn]
    rw [← hn] at h5 hle
    have hn5 : ((n : Int) != 5) = true := by simp; omega
    rw [HF.out]
    clear HF hq HWD ff vv hxs hmx hx hn htw ht
    go_enter Tryz.func65, Tryz.ntmps65
    go_wp2_with (first | (go_at_call 48; refine HW2.out.mono ?_; rintro e w1 ⟨rfl, hb1⟩))
    go_ret
    exact ⟨rfl, (fun h => by cases h), below_call hbel hb1 (Nat.le_refl _)⟩
end Go.Proofs.YtaendemgkabdfaaGreatDoor
