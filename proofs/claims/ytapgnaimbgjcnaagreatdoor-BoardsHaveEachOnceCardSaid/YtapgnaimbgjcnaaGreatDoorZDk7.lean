/-
  board.follow with Refused's closure, and board.Refused by its contract. (Printed by gen_dk7.py.)
-/
import Derived.Test.YtapgnaimbgjcnaaGreatDoorZDk6
import Derived.Test.YtapgnaimbgjcnaaGreatDoorZDk5
namespace Go.Proofs.YtapgnaimbgjcnaaGreatDoor
open Go Go.RowKit
attribute [local go_sem ↓] Go.wp_at_zero Go.wp_at_succ
def RefD (l : List Bev) (u : Int) (gO : Nat) (w0 : World) (e : Ending) (w' : World) : Prop :=
 ∃ (gd : Nat) (A : Option Addr) (c : Nat), e = .returned (.pointer (some ⟨gd, 0, none⟩)) ∧ Sq w0 w' (RefL w0.heap.size gO (idxG 0 (folE l u).2) A c [])
set_option maxRecDepth 100000 in
set_option maxHeartbeats 4000000 in
theorem dfollowR_calls (b gO : Nat) (A : Option Addr) (n c : Nat) (l : List Bev) (u : Int) (w0 w : World) (hW : Sq w0 w (RefL w0.heap.size gO [] none 0 [])) (hu : ∀ x ∈ l, x.at_ ≤ u) (hr : Rd w0 b 8 (.slice A n c) n (l.flatMap bevC)) (hk : ∀ x ∈ l, EvK x) (hn : n ≤ 3000) :
 Calls Tryz.prog 83 #[.slice A n c, .int .i64 u, .func (.func 101) #[] #[.pointer (some ⟨gO, 0, none⟩)]] w (RefD l u gO w0) := by
 obtain ⟨hl, hnc, hcm, hcells⟩ := hr.cells bevC_len (by omega)
 unfold maxLen at hcm
 have HL := Lib.hid hl
 have HC := Lib.hid hcells
 have HKE := Lib.hid hk
 have HU := Lib.hid hu
 have hmm := @run_makeMap Tryz.prog
 obtain ⟨q, hq⟩ : ∃ q, q = w.heap.size := ⟨_, rfl⟩
 have hS0 : Sq w0 (((w.alloc (.map #[] 0)).alloc (.map #[] 0)).alloc (.cells #[.map (some q), .map (some (q + 1))] 183)) (dskL (q + 2) q 0 (q + 1) 0 [] dsk0 (RefL w0.heap.size gO [] none 0 [])) := by
  have h := (((hW.addMap 9).addMap 9).add #[.map (some w.heap.size), .map (some (w.heap.size + 1))] 183).allNil rRun rRun_ok
  simp only [size1] at h
  subst hq
  exact ((h.front 2 rfl rfl).front 3 rfl rfl).front 3 rfl rfl
 clear hcells hl hr hk hu hW
 go_enter Tryz.func83, Tryz.ntmps83
 go_wp2_with fail
 clear hmm
 rw [← hq]
 obtain ⟨W0, hW0⟩ : ∃ W0, W0 = ((w.alloc (.map #[] 0)).alloc (.map #[] 0)).alloc (.cells #[.map (some q), .map (some (q + 1))] 183) := ⟨_, rfl⟩
 rw [← hW0] at hS0 ⊢
 clear hW0 hq
 go_loopw [16] (fun s16 wr => ∃ (k n1 n2 : Nat) (L : List Rpt) (D : Dsk) (A3 : Option Addr) (cc3 : Nat) (BS : List Bool), k ≤ n ∧ s16 = .int .i64 k ∧ n1 ≤ k ∧ n2 ≤ k ∧ BS.length = k ∧ Hid (folE (l.take k) u = (D, BS)) ∧ Hid (LD L D) ∧ Sq w0 wr (dskL (q + 2) q n1 (q + 1) n2 L D (RefL w0.heap.size gO (idxG 0 BS) A3 cc3 []))) (fun s16 _ => n - (intOf s16).toNat)
 case atStart => exact ⟨0, 0, 0, [], dsk0, none, 0, [], Nat.zero_le _, rfl, Nat.le_refl _, Nat.le_refl _, rfl, Lib.hid (by rw [List.take_zero]; rfl), Lib.hid ⟨rfl, List.nodup_nil⟩, hS0⟩
 case round =>
  clear hS0
  obtain ⟨k, n1, n2, L, D, A3, cc3, BS, hk, rfl, hn1, hn2, hbs, HF, HLD, hS⟩ := hrel
  obtain ⟨wo, hwo⟩ : ∃ z, z = wr := ⟨_, rfl⟩
  subst hwo
  by_cases hlt : k < n
  · have hkr : k < l.length := by rw [HL.out]; exact hlt
    obtain ⟨g, o, hA, _, hcs⟩ := HC.out (by omega)
    subst hA
    obtain ⟨x, hx⟩ : ∃ x, l[k] = x := ⟨_, rfl⟩
    have c0 := below_cell hS.below (hcs k hkr 0 (by omega))
    have c1 := below_cell hS.below (hcs k hkr 1 (by omega))
    have c2 := below_cell hS.below (hcs k hkr 2 (by omega))
    have c3 := below_cell hS.below (hcs k hkr 3 (by omega))
    have c4 := below_cell hS.below (hcs k hkr 4 (by omega))
    have c5 := below_cell hS.below (hcs k hkr 5 (by omega))
    have c6 := below_cell hS.below (hcs k hkr 6 (by omega))
    have c7 := below_cell hS.below (hcs k hkr 7 (by omega))
    rw [hx] at c0 c1 c2 c3 c4 c5 c6 c7
    have hxk : EvK x := by rw [← hx]; exact HKE.out _ (List.getElem_mem hkr)
    have hstep : folE (l.take (k + 1)) u = accE u (folE (l.take k) u) x := by rw [folE_step l u k hkr, hx]
    have hF1 : (folE (l.take k) u).1 = D := by rw [HF.out]
    have hKD : KD D := by rw [← hF1]; exact KD.fol l u HKE.out k (by omega)
    have hle : x.at_ ≤ u := by rw [← hx]; exact HU.out _ (List.getElem_mem hkr)
    obtain ⟨at_, kd, id, who, by1, ct, tm, dt⟩ := x
    replace c0 : wo.cell? ⟨g, o + k * 8, none⟩ = some (.int .i64 at_) := c0
    replace c1 : wo.cell? ⟨g, o + k * 8 + 1, none⟩ = some (.int .i64 kd) := c1
    replace c2 : wo.cell? ⟨g, o + k * 8 + 2, none⟩ = some (.string id) := c2
    replace c3 : wo.cell? ⟨g, o + k * 8 + 3, none⟩ = some (.string who) := c3
    replace c4 : wo.cell? ⟨g, o + k * 8 + 4, none⟩ = some (.string by1) := c4
    replace c5 : wo.cell? ⟨g, o + k * 8 + 5, none⟩ = some (.string ct) := c5
    replace c6 : wo.cell? ⟨g, o + k * 8 + 6, none⟩ = some (.int .i64 tm) := c6
    replace c7 : wo.cell? ⟨g, o + k * 8 + 7, none⟩ = some (.int .i64 dt) := c7
    have hk0 : (0 : Int) ≤ (k : Int) := by omega
    have hk1 : (k : Int) < (n : Int) := by omega
    have hSa := hS.alloc (.cells #[.int .i64 at_, .int .i64 kd, .string id, .string who, .string by1, .string ct, .int .i64 tm, .int .i64 dt] 78)
    have HST := Lib.hid hstep
    simp only at hle
    clear hcs hx hstep
    have hSm := Lib.hid (show Sq w0 (wo.alloc (.cells #[.int .i64 at_, .int .i64 kd, .string id, .string who, .string by1, .string ct, .int .i64 tm, .int .i64 dt] 78)) (dskL (q + 2) q k (q + 1) k L D (RefL w0.heap.size gO (idxG 0 BS) A3 cc3 [])) from by
     unfold dskL at hSa ⊢
     have h1 := rMap_moreE (hSa.front 1 rfl rfl) hn1
     have h2 := rMap_moreE ((h1.front 1 rfl rfl).front 2 rfl rfl) hn2
     exact (h2.front 2 rfl rfl).front 2 rfl rfl)
    have HA := Lib.hid (folD_calls w0 (q + 2) q (q + 1) k D L _ ⟨at_, kd, id, who, by1, ct, tm, dt⟩ _ hSm.out hKD HLD.out (by omega) hxk)
    have HD2 : Hid (folE (l.take (k + 1)) u = ((stpE D ⟨at_, kd, id, who, by1, ct, tm, dt⟩).getD D, BS ++ [(stpE D ⟨at_, kd, id, who, by1, ct, tm, dt⟩).isSome])) := Lib.hid (by
     rw [HST.out]
     have hF := HF.out
     cases hs : stpE D ⟨at_, kd, id, who, by1, ct, tm, dt⟩ with
     | none => rw [accE_none hle (by rw [hF]; exact hs), hF]; rfl
     | some D' => rw [accE_some hle (by rw [hF]; exact hs), hF]; rfl)
    clear hS hSa hSm hKD hxk HST
    go_wp2_with fail
    refine HA.out.mono ?_
    rintro e w2 ⟨L2, n3, n4, rfl, hL2, hn3, hn4, hS2⟩
    have HL2 := Lib.hid hL2
    clear HA c0 c1 c2 c3 c4 c5 c6 c7 hL2
    obtain ⟨D2, hD2⟩ : ∃ D2, (stpE D ⟨at_, kd, id, who, by1, ct, tm, dt⟩).getD D = D2 := ⟨_, rfl⟩
    rw [hD2] at HL2 HD2 hS2
    obtain ⟨ok, hok⟩ : ∃ ok, (stpE D ⟨at_, kd, id, who, by1, ct, tm, dt⟩).isSome = ok := ⟨_, rfl⟩
    rw [hok] at HD2 ⊢
    clear hD2 hok
    go_wp2_with fail
    have hS3 : Sq w0 w2 (RefL w0.heap.size gO (idxG 0 BS) A3 cc3 (dskL (q + 2) q n3 (q + 1) n4 L2 D2 [])) := by
     have h := hS2
     unfold dskL RefL at h ⊢
     exact (h.front 5 rfl rfl).front 5 rfl rfl
    have hlen : (idxG 0 BS).length ≤ 100000 := by have := idxG_len BS 0; omega
    have HTO := Lib.hid (refOne_calls w0 w2 gO k ok (idxG 0 BS) A3 cc3 _ hlen hS3)
    have HIX : Hid (idxG 0 (BS ++ [ok]) = idxG 0 BS ++ (if ok = true then [] else [(k : Int)])) := Lib.hid (by rw [idxG_snoc, Nat.zero_add, hbs])
    clear hS2 hS3 hlen
    refine HTO.out.mono ?_
    rintro e w3 ⟨rfl, A4, c4, hS4⟩
    rw [← HIX.out] at hS4
    have hS5 : Sq w0 w3 (dskL (q + 2) q n3 (q + 1) n4 L2 D2 (RefL w0.heap.size gO (idxG 0 (BS ++ [ok])) A4 c4 [])) := by
     have h := hS4
     unfold dskL RefL at h ⊢
     exact (((h.front 5 rfl rfl).front 5 rfl rfl).front 5 rfl rfl).front 5 rfl rfl
    clear hS4
    go_wp2_with fail
    go_roundw
    case rel => exact ⟨k + 1, n3, n4, L2, D2, A4, c4, BS ++ [ok], by omega, by go_num, by omega, by omega, by rw [List.length_append, hbs]; rfl, HD2, HL2, hS5⟩
    case measure => simp [intOf]; omega
  · obtain rfl : k = n := by omega
    have HFI : Hid (RefD l u gO w0 (.returned (.pointer (some ⟨q + 2, 0, none⟩))) wo) := Lib.hid (by
     have e : l.take k = l := by rw [← HL.out]; exact List.take_length
     have hF := HF.out
     rw [e] at hF
     refine ⟨q + 2, A3, cc3, rfl, ?_⟩
     have h2 : (folE l u).2 = BS := by rw [hF]
     rw [h2]
     have h := hS
     unfold dskL RefL at h
     exact (((h.drop 3 rfl rfl).drop 2 rfl rfl).drop 1 rfl rfl).drop 0 rfl rfl)
    clear hS
    go_wp2_with fail
    go_ret
    exact HFI.out
end Go.Proofs.YtapgnaimbgjcnaaGreatDoor
/-
  board.Refused and splitref2.RefusedEvents by contracts.
-/
namespace Go.Proofs.YtapgnaimbgjcnaaGreatDoor
open Go Go.RowKit
attribute [local go_sem ↓] Go.wp_at_zero Go.wp_at_succ
def refI (l : List Bev) : List Int := idxG 0 (folE l 345686400000).2
def RfdR (l : List Bev) (F : Int) (w : World) (e : Ending) (w' : World) : Prop :=
 ∃ (A : Option Addr) (c : Nat) (R : List Int), (F = 0 → R = refI l) ∧ (F ≠ 0 → R = []) ∧ e = .returned (.tuple #[.slice A R.length c, .int .i64 F]) ∧ Sq w w' [rOwn w.heap.size 3 1 (.slice A R.length c) R.length (intsV R)]
theorem at_end {x : Bev} (h : bevF x = 0) : x.at_ ≤ 345686400000 := by
 have h1 := (bevF_ok h).1
 unfold momB outB at h1
 have c : decide (x.at_ < 0 ∨ 345686399999 < x.at_) = false := by simpa using h1
 have c := of_decide_eq_false c
 omega
set_option maxRecDepth 100000 in
set_option maxHeartbeats 4000000 in
theorem refused_calls (b : Nat) (A : Option Addr) (n c : Nat) (l : List Bev) (w : World) (hr : Bevs w b A n c l) (hn : n ≤ 3000) :
 Calls Tryz.prog 46 #[.slice A n c] w (RfdR l (bevsF l) w) := by
 have HC := Lib.hid (checkEvents_calls b A n c l w hr)
 have HR := Lib.hid hr.rd
 obtain ⟨F, hF⟩ : ∃ F, bevsF l = F := ⟨_, rfl⟩
 rw [hF] at HC ⊢
 have HE : Hid (F = 0 → (∀ x ∈ l, EvK x) ∧ ∀ x ∈ l, x.at_ ≤ 345686400000) := Lib.hid (fun h => ⟨evK_all (hF.trans h), fun x hx => at_end ((bevs_ok (hF.trans h)).1 x hx)⟩)
 clear hr hF
 by_cases h0 : F = 0
 · subst h0
   have HE0 := Lib.hid (HE.out rfl)
   clear HE
   go_enter Tryz.func46, Tryz.ntmps46
   go_wp2_with fail
   refine HC.out.mono ?_
   rintro e w1 ⟨rfl, hb1⟩
   obtain ⟨gO, hgO⟩ : ∃ z, z = w1.heap.size := ⟨_, rfl⟩
   obtain ⟨W2, hW2, hS2⟩ : ∃ W, W = w1.alloc (.cells #[.slice none 0 0] 22) ∧ Sq w W (RefL w.heap.size gO [] none 0 []) := ⟨_, rfl, by
    have h := ((Sq.start w).callB hb1).nil w.heap.size 3 1
    have h2 := h.add #[.slice none 0 0] 22
    rw [← hgO] at h2
    exact h2⟩
   have HFO := Lib.hid (dfollowR_calls b gO A n c l 345686400000 w W2 hS2 HE0.out.2 HR.out HE0.out.1 hn)
   clear hS2 hb1 HC
   go_wp2_with fail
   rw [← hgO, ← hW2]
   clear hgO hW2
   refine HFO.out.mono ?_
   rintro e w3 ⟨gd, A3, c3, rfl, hS3⟩
   have hrf : idxG 0 (folE l 345686400000).2 = refI l := rfl
   rw [hrf] at hS3
   unfold RefL at hS3
   have k0 := (hS3.head : Blk w3 gO _ _).cell 0
   have HF : Hid (RfdR l 0 w (.returned (.tuple #[.slice A3 (refI l).length c3, .int .i64 0])) w3) := Lib.hid ⟨A3, c3, refI l, fun _ => rfl, fun h => absurd rfl h, rfl, hS3.drop 0 rfl rfl⟩
   obtain ⟨q, hq⟩ : ∃ q, (refI l).length = q := ⟨_, rfl⟩
   rw [hq] at HF k0
   clear hS3 hrf hq HFO
   go_wp2_with fail
   go_ret2
   exact HF.out
 · have hne : (F != 0) = true := by rw [bne_iff_ne]; exact h0
   go_enter Tryz.func46, Tryz.ntmps46
   go_wp2_with fail
   refine HC.out.mono ?_
   rintro e w1 ⟨rfl, hb1⟩
   have HF : Hid (RfdR l F w (.returned (.tuple #[.slice none 0 0, .int .i64 F])) w1) := Lib.hid ⟨none, 0, [], fun h => absurd h h0, fun _ => rfl, rfl, ((Sq.start w).callB hb1).nil _ _ _⟩
   clear HC hb1
   go_wp2_with fail
   go_ret2
   exact HF.out
end Go.Proofs.YtapgnaimbgjcnaaGreatDoor
