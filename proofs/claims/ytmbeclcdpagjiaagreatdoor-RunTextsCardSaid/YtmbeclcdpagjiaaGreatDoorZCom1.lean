/-
  Words with commas between: base.ReadCommas by its contract.
-/
import Derived.Test.YtmbeclcdpagjiaaGreatDoorZTxt2
import Derived.Test.YtmbeclcdpagjiaaGreatDoorZPrt1
import Derived.Test.YtmbeclcdpagjiaaGreatDoorZSlotPure
import Derived.Test.YtmbeclcdpagjiaaGreatDoorZSlot4
namespace Go.Proofs.YtmbeclcdpagjiaaGreatDoor
open Go Go.RowKit TxtP

theorem own_of_blk {W : World} {base g n : Nat} {t : TypeId} {cs : Array Value} (h : Blk W g t cs) (hg : base ≤ g) (hc : cs.size = n) (hm : n ≤ maxLen) :
    W.ownsRow base t 1 (.slice (some ⟨g, 0, none⟩) n n) n cs.toList := by
  refine ⟨by rw [Array.length_toList]; omega, .inr ⟨g, n, cs, rfl, hg, h, Nat.le_refl _, hm, by omega, ?_⟩⟩
  rw [Nat.mul_one, ← hc, ← Array.length_toList, List.take_length]
theorem strCs_list (l : List ByteArray) : (strCs l).toList = strsV l := by simp [strCs, strsV]
/-- are these words with commas between, or none? -/
def hstB (s : ByteArray) : Bool := decide (s.data.toList = [45]) || (pcs 44 s).all (fun x => !x.data.toList.isEmpty)
def hstL (s : ByteArray) : List ByteArray := if s.data.toList = [45] then [] else pcs 44 s
def RcR (s : ByteArray) (w : World) (e : Ending) (w' : World) : Prop :=
  Below w.heap.size w w' ∧ (hstB s = true → ∃ A c, e = .returned (.tuple #[.slice A (hstL s).length c, .bool true]) ∧ w'.ownsRow w.heap.size 9 1 (.slice A (hstL s).length c) (hstL s).length (strsV (hstL s))) ∧
    (hstB s = false → e = .returned (.tuple #[.slice none 0 0, .bool false]))
theorem RcR.no {s : ByteArray} {w w' : World} (hb : Below w.heap.size w w') (h : hstB s = false) : RcR s w (.returned (.tuple #[.slice none 0 0, .bool false])) w' :=
  ⟨hb, fun h2 => by (rw [h] at h2; cases h2), fun _ => rfl⟩
theorem hst_empty {s x : ByteArray} (hs : ¬ s.data.toList = [45]) (h : x ∈ pcs 44 s) (h2 : x.data.toList = []) : hstB s = false := by
  unfold hstB
  rw [decide_eq_false hs, Bool.false_or, List.all_eq_false]
  exact ⟨x, h, by rw [h2]; decide⟩
theorem hst_all {s : ByteArray} (h : ∀ k (h : k < (pcs 44 s).length), (pcs 44 s)[k].size ≠ 0) : hstB s = true := by
  unfold hstB
  rw [Bool.or_eq_true]
  right
  rw [List.all_eq_true]
  intro x hx2
  obtain ⟨k, hk, rfl⟩ := List.getElem_of_mem hx2
  have := h k hk
  cases hd : (pcs 44 s)[k].data.toList with
  | nil => exact absurd (by have e : (pcs 44 s)[k].data.toList.length = 0 := by rw [hd]; rfl
                            simpa using e) this
  | cons a t => rfl
end Go.Proofs.YtmbeclcdpagjiaaGreatDoor
/-
  Several numbers that are read: base.Numbers and splitref2.NumbersIn by contracts.
-/
namespace Go.Proofs.YtmbeclcdpagjiaaGreatDoor
open Go Go.RowKit TxtP

theorem info_intN : (Tryz.prog.info? 3).map (fun i => (i.zero, i.size, i.bytes)) = some (some (.int .i64 0), 1, 8) := by kernel_rfl
def nmsB (ss : List ByteArray) (most : Nat) : Bool := ss.all (fun s => numB s.data.toList most)
def nmsL (ss : List ByteArray) : List Int := ss.map (fun s => numI s.data.toList)
theorem nmsB_snoc {ss : List ByteArray} {most k : Nat} (hk : k < ss.length) : nmsB (ss.take (k + 1)) most = (nmsB (ss.take k) most && numB ss[k].data.toList most) := by
  unfold nmsB
  rw [List.take_succ_eq_append_getElem hk, List.all_append]
  simp
theorem nmsB_at {ss : List ByteArray} {most k : Nat} (hk : k < ss.length) (h : numB ss[k].data.toList most = false) : nmsB ss most = false := by
  unfold nmsB
  rw [List.all_eq_false]
  exact ⟨ss[k], List.getElem_mem hk, by rw [h]; decide⟩
def NmR (ss : List ByteArray) (most : Nat) (w : World) (e : Ending) (w' : World) : Prop :=
  Below w.heap.size w w' ∧ (nmsB ss most = true → ∃ A c, e = .returned (.tuple #[.slice A ss.length c, .bool true]) ∧ w'.ownsRow w.heap.size 3 1 (.slice A ss.length c) ss.length ((nmsL ss).map (Value.int .i64))) ∧
    (nmsB ss most = false → e = .returned (.tuple #[.slice none 0 0, .bool false]))
theorem numR_form2 (a : ByteArray) (most : Nat) (hm : most ≤ 17) : ∃ (z : Int) (B : Bool), -1000000000000000000 < z ∧ z < 1000000000000000000 ∧ numR a.data.toList most = .tuple #[.int .i64 z, .bool B] ∧ B = numB a.data.toList most ∧ (B = true → z = numI a.data.toList) := by
  cases hb : numB a.data.toList most
  · exact ⟨0, false, by decide, by decide, numR_no hb, rfl, fun h => by cases h⟩
  · have h1 := (numB_iff.1 hb)
    have h2 := body_len a.data.toList
    have h3 := numI_bound (l := a.data.toList) (by omega)
    exact ⟨_, true, h3.1, h3.2, numR_yes hb, rfl, fun _ => rfl⟩
set_option maxRecDepth 100000 in
set_option maxHeartbeats 1000000 in
theorem numbersP_calls (b : Nat) (A : Option Addr) (n c most : Nat) (ss : List ByteArray) (w : World) (hr : Rd w b 1 (.slice A n c) n (strsV ss)) (hm : most ≤ 17) (hn : n ≤ 100000) (hz : ∀ s ∈ ss, s.size ≤ 1000000) :
    Calls Tryz.prog 94 #[.slice A n c, .int .i64 most] w (NmR ss most w) := by
  obtain ⟨hl, hnc, hcm, hcells⟩ := strs_cells hr
  unfold maxLen at hcm
  obtain ⟨j0, hj, hy0, hy1, hy2⟩ := info_parts info_intN
  have HL := Lib.hid hl
  have HCS := Lib.hid hcells
  have HZ := Lib.hid hz
  have HRN : Hid (nmsB ss most = false → ∀ w', Below w.heap.size w w' → NmR ss most w (.returned (.tuple #[.slice none 0 0, .bool false])) w') := by
    refine Lib.hid (fun h0 w' hb => ⟨hb, fun h => ?_, fun _ => rfl⟩)
    rw [h0] at h; cases h
  have HRY : Hid (nmsB ss most = true → ∀ A c w', Below w.heap.size w w' → w'.ownsRow w.heap.size 3 1 (.slice A n c) n ((nmsL ss).map (Value.int .i64)) → NmR ss most w (.returned (.tuple #[.slice A n c, .bool true])) w') := by
    subst hl
    refine Lib.hid (fun h0 A c w' hb ho => ⟨hb, fun _ => ⟨A, c, rfl, ho⟩, fun h => ?_⟩)
    rw [h0] at h; cases h
  have hS0 := (Sq.start w).nil w.heap.size 3 1
  clear hr hl hcells hz
  go_enter Tryz.func94, Tryz.ntmps94
  go_wp2_with fail
  go_loopw [6, 13] (fun v i wr => ∃ (k : Nat) (A1 : Option Addr) (c1 : Nat), k ≤ n ∧ i = .int .i64 k ∧ v = .slice A1 k c1 ∧ Hid (nmsB (ss.take k) most = true) ∧ Sq w wr [rOwn w.heap.size 3 1 (.slice A1 k c1) k ((nmsL (ss.take k)).map (Value.int .i64))]) (fun _ i _ => n - (intOf i).toNat)
  case atStart => exact ⟨0, none, 0, Nat.zero_le _, rfl, rfl, Lib.hid rfl, hS0⟩
  case round =>
    clear hS0
    obtain ⟨k, A1, c1, hk, rfl, rfl, HB, hS⟩ := hrel
    by_cases hlt : k < n
    · have hkz : k < ss.length := by rw [HL.out]; exact hlt
      obtain ⟨g, o, hA, _, hcs⟩ := HCS.out (by omega)
      subst hA
      have c0 := below_cell hS.below (hcs k hkz)
      have hzk := HZ.out _ (List.getElem_mem hkz)
      have HI : Hid (nmsL (ss.take (k + 1)) = nmsL (ss.take k) ++ [numI ss[k].data.toList]) := by
        refine Lib.hid ?_
        rw [List.take_succ_eq_append_getElem hkz]
        unfold nmsL
        rw [List.map_append]
        rfl
      have HB1 : Hid (nmsB (ss.take (k + 1)) most = (nmsB (ss.take k) most && numB ss[k].data.toList most)) := Lib.hid (nmsB_snoc hkz)
      have HB0 : Hid (numB ss[k].data.toList most = false → nmsB ss most = false) := Lib.hid (nmsB_at hkz)
      obtain ⟨x, hx⟩ : ∃ z, z = ss[k] := ⟨_, rfl⟩
      rw [← hx] at c0 hzk HI HB0 HB1
      have HNU := Lib.hid (fun V => number_calls x most hm V (by unfold maxLen; omega))
      obtain ⟨z, B, zb0, zb1, hzR, hzB, hzV⟩ := numR_form2 x most hm
      rw [hzR] at HNU
      rw [← hzB] at HB0 HB1
      have HZV := Lib.hid hzV
      clear hcs hx hzR hzB hzV
      cases B
      · have HR := Lib.hid (HRN.out (HB0.out rfl))
        go_wp2_with (first | (go_at_call 122; refine (HNU.out _).mono ?_; rintro e w2 ⟨rfl, hb2⟩))
        go_ret2
        exact HR.out _ (below_call hS.below hb2 (Nat.le_refl _))
      · have hzv := HZV.out rfl
        rw [← hzv] at HI
        clear hzv
        have HB2 : Hid (nmsB (ss.take (k + 1)) most = true) := Lib.hid (by rw [HB1.out, HB.out]; rfl)
        go_wp2_with (first
          | (go_at_call 122; refine (HNU.out _).mono ?_; rintro e w2 ⟨rfl, hb2⟩; have hS2 := hS.callB hb2; have HO := hS2.head; have hz2 := hS2.size)
          | (at_builtin; refine wpList_append_own_at _ rfl _ _ 22 rfl w.heap.size 3 j0 (.int .i64 0) 1 8 Tryz.underlying22 hj hy0 hy1 hy2 rfl (by decide) _ _ _ rfl (HO.alloc _) ⟨w2.heap.size, 0, none⟩ 1 1 [.int .i64 z] rfl rfl (World.news_of_block (heap_alloc_new _ _)) (one1 rfl) (by unfold maxLen; omega) (by omega) (by simp; omega) ?_; intro v' w8 hown' hgrow _ hblk; have hS8 := (hS2.alloc _).append hown' hgrow hblk; obtain ⟨A8, c8, hv8⟩ := own_form hown'; subst hv8; clear hown' hgrow hblk HO))
        have hS9 : Sq w w8 [rOwn w.heap.size 3 1 (.slice A8 (k + 1) c8) (k + 1) ((nmsL (ss.take (k + 1))).map (Value.int .i64))] := by
          rw [HI.out, List.map_append]
          exact hS8
        go_roundw
        case rel => exact ⟨k + 1, A8, c8, by omega, by go_num, rfl, HB2, hS9⟩
        case measure => simp [intOf]; omega
    · obtain rfl : k = n := by omega
      have hb := HB.out
      have ho : wr.ownsRow w.heap.size 3 1 (.slice A1 k c1) k ((nmsL (ss.take k)).map (Value.int .i64)) := hS.head
      rw [List.take_of_length_le (by rw [HL.out]; exact Nat.le_refl _)] at ho hb
      have HR := Lib.hid (HRY.out hb A1 c1 wr hS.below ho)
      clear ho hb
      go_wp2_with fail
      go_ret2
      exact HR.out
/-- what NumbersIn answers -/
def NiR (ss : List ByteArray) (most : Nat) (w : World) (e : Ending) (w' : World) : Prop :=
  ∃ A c zs, e = .returned (.tuple #[.slice A ss.length c, .bool (nmsB ss most)]) ∧ zs.length = ss.length ∧ (nmsB ss most = true → zs = nmsL ss) ∧ (∀ z ∈ zs, -1000000000000000000 < z ∧ z < 1000000000000000000) ∧ w'.ownsRow w.heap.size 3 1 (.slice A ss.length c) ss.length (zs.map (Value.int .i64)) ∧ Below w.heap.size w w'
set_option maxRecDepth 100000 in
set_option maxHeartbeats 1000000 in
theorem numbersIn_calls (b : Nat) (A : Option Addr) (n c most : Nat) (ss : List ByteArray) (w : World) (hr : Rd w b 1 (.slice A n c) n (strsV ss)) (hm : most ≤ 17) (hn : n ≤ 100000) (hz : ∀ s ∈ ss, s.size ≤ 1000000) (ht : Tab w) :
    Calls Tryz.prog 59 #[.slice A n c, .int .i64 most] w (NiR ss most w) := by
  obtain ⟨hl, hnc, hcm, hcells⟩ := strs_cells hr
  unfold maxLen at hcm
  obtain ⟨j0, hj, hy0, hy1, hy2⟩ := info_parts info_intN
  have HL := Lib.hid hl
  have HCS := Lib.hid hcells
  have HZ := Lib.hid hz
  have HRY : Hid (∀ A c w' (zs : List Int) (B : Bool), B = nmsB ss most → zs.length = n → (B = true → zs = nmsL ss) → (∀ z ∈ zs, -1000000000000000000 < z ∧ z < 1000000000000000000) → Below w.heap.size w w' → w'.ownsRow w.heap.size 3 1 (.slice A n c) n (zs.map (Value.int .i64)) → NiR ss most w (.returned (.tuple #[.slice A n c, .bool B])) w') := by
    subst hl
    refine Lib.hid (fun A c w' zs B hB h1 h2 h3 h4 h5 => ?_)
    subst hB
    exact ⟨A, c, zs, rfl, h1, h2, h3, h5, h4⟩
  have hS0 := (Sq.start w).nil w.heap.size 3 1
  have HT := Lib.hid ht
  clear hr hl hcells hz ht
  go_enter Tryz.func59, Tryz.ntmps59
  go_wp2_with fail
  go_loopw [6, 7, 14] (fun v B i wr => ∃ (k : Nat) (A1 : Option Addr) (c1 : Nat) (zs : List Int), k ≤ n ∧ i = .int .i64 k ∧ v = .slice A1 k c1 ∧ B = .bool (nmsB (ss.take k) most) ∧ zs.length = k ∧ Hid (nmsB (ss.take k) most = true → zs = nmsL (ss.take k)) ∧ Hid (∀ z ∈ zs, -1000000000000000000 < z ∧ z < 1000000000000000000) ∧ Sq w wr [rOwn w.heap.size 3 1 (.slice A1 k c1) k (zs.map (Value.int .i64))]) (fun _ _ i _ => n - (intOf i).toNat)
  case atStart => exact ⟨0, none, 0, [], Nat.zero_le _, rfl, rfl, rfl, rfl, Lib.hid (fun _ => rfl), Lib.hid (by intro z hz; cases hz), hS0⟩
  case round =>
    clear hS0
    obtain ⟨k, A1, c1, zs, hk, rfl, rfl, rfl, hzl, HV, HBD, hS⟩ := hrel
    by_cases hlt : k < n
    · have hkz : k < ss.length := by rw [HL.out]; exact hlt
      obtain ⟨g, o, hA, _, hcs⟩ := HCS.out (by omega)
      subst hA
      have c0 := below_cell hS.below (hcs k hkz)
      have hzk := HZ.out _ (List.getElem_mem hkz)
      have HI : Hid (nmsL (ss.take (k + 1)) = nmsL (ss.take k) ++ [numI ss[k].data.toList]) := by
        refine Lib.hid ?_
        rw [List.take_succ_eq_append_getElem hkz]
        unfold nmsL
        rw [List.map_append]
        rfl
      have HB1 : Hid (nmsB (ss.take (k + 1)) most = (nmsB (ss.take k) most && numB ss[k].data.toList most)) := Lib.hid (nmsB_snoc hkz)
      obtain ⟨x, hx⟩ : ∃ z, z = ss[k] := ⟨_, rfl⟩
      rw [← hx] at c0 hzk HI HB1
      have HNU := Lib.hid (fun V (h : Tab V) => numberQ_calls x most hm V (by unfold maxLen; omega) h)
      have htw := HT.out.below hS.below
      obtain ⟨B0, hB0⟩ : ∃ B, B = nmsB (ss.take k) most := ⟨_, rfl⟩
      obtain ⟨B1, hB1⟩ : ∃ B, B = numB x.data.toList most := ⟨_, rfl⟩
      rw [← hB0, ← hB1] at HB1
      rw [← hB0] at HV ⊢
      have HN : Hid (∀ e W W', NRet x.data.toList most W e W' → ∃ z : Int, e = .returned (.tuple #[.int .i64 z, .bool B1]) ∧ -1000000000000000000 < z ∧ z < 1000000000000000000 ∧ (B1 = true → z = numI x.data.toList) ∧ Below W.heap.size W W') := by
        refine Lib.hid ?_
        rintro e W W' ⟨v, rfl, ⟨z, h1, h2, rfl, h3⟩, hb⟩
        rw [hB1]
        exact ⟨z, rfl, h1, h2, h3, hb⟩
      have HNV : Hid (∀ V, Tab V → Calls Tryz.prog 87 #[.string x, .int .i64 most] V (fun e W' => ∃ z : Int, e = .returned (.tuple #[.int .i64 z, .bool B1]) ∧ -1000000000000000000 < z ∧ z < 1000000000000000000 ∧ (B1 = true → z = numI x.data.toList) ∧ Below V.heap.size V W')) :=
        Lib.hid (fun V h => (HNU.out V h).mono (fun e W' h => HN.out e V W' h))
      clear hcs hx hB0 hB1 HNU HN
      have HZL := Lib.hid hzl
      clear hzl
      cases B0
      · have HB9 : Hid (nmsB (ss.take (k + 1)) most = false) := Lib.hid (by rw [HB1.out]; rfl)
        go_wp2_with (first
          | (go_at_call 87; refine (HNV.out _ htw).mono ?_; rintro e w2 ⟨z, rfl, z0, z1, hzv, hb2⟩; have hS2 := hS.callB hb2; have HO := hS2.head; have hz2 := hS2.size; have HZV := Lib.hid hzv; clear hzv)
          | (at_builtin; refine wpList_append_own_at _ rfl _ _ 22 rfl w.heap.size 3 j0 (.int .i64 0) 1 8 Tryz.underlying22 hj hy0 hy1 hy2 rfl (by decide) _ _ _ rfl (HO.alloc _) ⟨w2.heap.size, 0, none⟩ 1 1 [.int .i64 z] rfl rfl (World.news_of_block (heap_alloc_new _ _)) (one1 rfl) (by unfold maxLen; omega) (by omega) (by simp; omega) ?_; intro v' w8 hown' hgrow _ hblk; have hS8 := (hS2.alloc _).append hown' hgrow hblk; obtain ⟨A8, c8, hv8⟩ := own_form hown'; subst hv8; clear hown' hgrow hblk HO))
        have hS9 : Sq w w8 [rOwn w.heap.size 3 1 (.slice A8 (k + 1) c8) (k + 1) ((zs ++ [z]).map (Value.int .i64))] := by
          rw [List.map_append]
          exact hS8
        have HV9 : Hid (nmsB (ss.take (k + 1)) most = true → zs ++ [z] = nmsL (ss.take (k + 1))) := by
          refine Lib.hid (fun h => ?_)
          rw [HB1.out, Bool.and_eq_true] at h
          rw [HI.out, HV.out (by first | exact h.1 | trivial), HZV.out h.2]
        have HBD9 : Hid (∀ y ∈ zs ++ [z], -1000000000000000000 < y ∧ y < 1000000000000000000) := by
          refine Lib.hid (fun y hy => ?_)
          rcases List.mem_append.1 hy with hy | hy
          · exact HBD.out y hy
          · simp at hy; subst hy; exact ⟨z0, z1⟩
        go_roundw
        case rel => exact ⟨k + 1, A8, c8, zs ++ [z], by omega, by go_num, rfl, by rw [HB9.out], by rw [List.length_append, HZL.out]; rfl, HV9, HBD9, hS9⟩
        case measure => simp [intOf]; omega
      · have HB9 : Hid (nmsB (ss.take (k + 1)) most = B1) := Lib.hid (by rw [HB1.out]; rfl)
        go_wp2_with (first
          | (go_at_call 87; refine (HNV.out _ htw).mono ?_; rintro e w2 ⟨z, rfl, z0, z1, hzv, hb2⟩; have hS2 := hS.callB hb2; have HO := hS2.head; have hz2 := hS2.size; have HZV := Lib.hid hzv; clear hzv)
          | (at_builtin; refine wpList_append_own_at _ rfl _ _ 22 rfl w.heap.size 3 j0 (.int .i64 0) 1 8 Tryz.underlying22 hj hy0 hy1 hy2 rfl (by decide) _ _ _ rfl (HO.alloc _) ⟨w2.heap.size, 0, none⟩ 1 1 [.int .i64 z] rfl rfl (World.news_of_block (heap_alloc_new _ _)) (one1 rfl) (by unfold maxLen; omega) (by omega) (by simp; omega) ?_; intro v' w8 hown' hgrow _ hblk; have hS8 := (hS2.alloc _).append hown' hgrow hblk; obtain ⟨A8, c8, hv8⟩ := own_form hown'; subst hv8; clear hown' hgrow hblk HO))
        have hS9 : Sq w w8 [rOwn w.heap.size 3 1 (.slice A8 (k + 1) c8) (k + 1) ((zs ++ [z]).map (Value.int .i64))] := by
          rw [List.map_append]
          exact hS8
        have HV9 : Hid (nmsB (ss.take (k + 1)) most = true → zs ++ [z] = nmsL (ss.take (k + 1))) := by
          refine Lib.hid (fun h => ?_)
          rw [HB1.out, Bool.and_eq_true] at h
          rw [HI.out, HV.out (by first | exact h.1 | trivial), HZV.out h.2]
        have HBD9 : Hid (∀ y ∈ zs ++ [z], -1000000000000000000 < y ∧ y < 1000000000000000000) := by
          refine Lib.hid (fun y hy => ?_)
          rcases List.mem_append.1 hy with hy | hy
          · exact HBD.out y hy
          · simp at hy; subst hy; exact ⟨z0, z1⟩
        go_roundw
        case rel => exact ⟨k + 1, A8, c8, zs ++ [z], by omega, by go_num, rfl, by rw [HB9.out], by rw [List.length_append, HZL.out]; rfl, HV9, HBD9, hS9⟩
        case measure => simp [intOf]; omega
    · obtain rfl : k = n := by omega
      have ho : wr.ownsRow w.heap.size 3 1 (.slice A1 k c1) k (zs.map (Value.int .i64)) := hS.head
      have e : ss.take k = ss := List.take_of_length_le (by rw [HL.out]; exact Nat.le_refl _)
      rw [e] at HV
      have HR := Lib.hid (HRY.out A1 c1 wr zs (nmsB (ss.take k) most) (by rw [e]) hzl (by rw [e]; exact HV.out) HBD.out hS.below ho)
      clear ho e HV
      go_wp2_with fail
      go_ret2
      exact HR.out
end Go.Proofs.YtmbeclcdpagjiaaGreatDoor
