/-
  Slots that are read: marathon.Read and splitref2.SlotsRead by contracts: both answer alike. (Printed by gen_slt3.py.)
-/
import Derived.Test.YtaendemgkabdfaaGreatDoorZSlt1
import Derived.Test.YtaendemgkabdfaaGreatDoorZEachSlot
import Derived.Test.YtaendemgkabdfaaGreatDoorZSlot1
namespace Go.Proofs.YtaendemgkabdfaaGreatDoor
open Go Go.RowKit TxtP

theorem okN_all_of {f : List UInt8 → Bool} : ∀ {M : List (List UInt8)}, okN f M = M.length → ∀ x ∈ M, f x = true
  | [], _, x, hx => by cases hx
  | a :: t, h, x, hx => by
    unfold okN at h
    rw [List.takeWhile_cons] at h
    by_cases ha : f a = true
    · rw [if_pos ha, List.length_cons, List.length_cons] at h
      rcases List.mem_cons.1 hx with rfl | hx
      · exact ha
      · exact okN_all_of (M := t) (by unfold okN; omega) x hx
    · rw [if_neg ha] at h
      simp at h
theorem fL_num {l : List UInt8} (h : fL l = true) : (-1000000000000000000 ≤ (vL l).2.2.2.1 ∧ (vL l).2.2.2.1 ≤ 1000000000000000000) ∧ (-1000000000000000000 ≤ (vL l).2.2.2.2 ∧ (vL l).2.2.2.2 ≤ 1000000000000000000) := by
  unfold fL at h
  rw [Bool.and_eq_true] at h
  by_cases h5 : (pcs 32 ⟨l.toArray⟩).length = 5
  · obtain ⟨a, b, c, d, e, he⟩ := five_of h5
    unfold vL
    rw [he] at h ⊢
    have h2 : (hstB c && nmsB [d, e] 15) = true := h.2
    rw [Bool.and_eq_true] at h2
    have h3 := h2.2
    unfold nmsB at h3
    rw [List.all_eq_true] at h3
    have nb : ∀ x : ByteArray, numB x.data.toList 15 = true → -1000000000000000000 ≤ numI x.data.toList ∧ numI x.data.toList ≤ 1000000000000000000 := by
      intro x hx
      have h1 := (numB_iff.1 hx)
      have h2 := body_len x.data.toList
      have h3 := numI_bound (l := x.data.toList) (by omega)
      omega
    exact ⟨nb d (h3 d (by simp)), nb e (h3 e (by simp))⟩
  · rw [fL5_len h5] at h
    cases h.2
structure CntW (m : Cnt) : Prop where
  hk : m.1.size ≤ 1000000
  hw : m.2.1.size ≤ 1000000
  hh : ∀ s ∈ m.2.2.1, s.size ≤ 1000000
  hn : m.2.2.1.length ≤ 1000000
  hs : -1000000000000000000 ≤ m.2.2.2.1 ∧ m.2.2.2.1 ≤ 1000000000000000000
  hl : -1000000000000000000 ≤ m.2.2.2.2 ∧ m.2.2.2.2 ≤ 1000000000000000000
theorem cntW_of {l : List UInt8} (hl : l.length ≤ 200000) (h : fL l = true) : CntW (vL l) := by
  obtain ⟨h1, h2, h3, h4⟩ := vL_le l hl
  obtain ⟨h5, h6⟩ := fL_num h
  exact ⟨by omega, by omega, fun s hs => Nat.le_trans (h3 s hs) (by decide), by omega, h5, h6⟩
theorem cntW_all {l : List UInt8} (hl : l.length ≤ 200000) (h : eachB fL l = true) : ∀ m ∈ (lnM l).map vL, CntW m := by
  intro m hm
  obtain ⟨p, hp, rfl⟩ := List.mem_map.1 hm
  unfold eachB at h
  rw [Bool.and_eq_true] at h
  refine cntW_of ?_ (okN_all_of (of_decide_eq_true h.1) p hp)
  exact Nat.le_trans (spl_le 10 l p (List.dropLast_subset _ hp)) hl
theorem sltsW_of {w W : World} {b n c : Nat} {A : Option Addr} {xs : List Slt} {L : List Rsc} {r : Rsc} {ms : List Cnt} (hS : Sq w W (rOwn w.heap.size 52 5 (.slice A n c) n (xs.flatMap sltC) :: r :: rAll (hostR w.heap.size) xs :: L)) (hb : b < w.heap.size) (hc : xs.map cntS = ms) (hm : ∀ m ∈ ms, CntW m) : SltsW W b A n c xs := by
  have ho : W.ownsRow w.heap.size 52 5 (.slice A n c) n (xs.flatMap sltC) := hS.head
  refine ⟨Rd.own ho hb, fun x hx => ?_⟩
  have hx2 : cntS x ∈ ms := by rw [← hc]; exact List.mem_map_of_mem hx
  obtain ⟨h1, h2, h3, h4, h5, h6⟩ := hm _ hx2
  have hr : W.ownsRow w.heap.size 9 1 (.slice x.ha x.hosts.length x.hc) x.hosts.length (strsV x.hosts) := (hS.nth 2 rfl : ∀ a ∈ xs, (hostR w.heap.size a).P W) x hx
  exact ⟨Rd.own hr hb, h1, h2, h3, h4, h5, h6⟩

set_option maxRecDepth 100000 in
set_option maxHeartbeats 2000000 in
theorem slotRead_calls (t : ByteArray) (w : World) (hx : MxL w) : Calls Tryz.prog 20 #[.string t] w (LRet t.data.toList w) := by
  have htl : t.data.toList.length = t.size := by simp
  by_cases hbig : 200000 < t.size
  · have HR : Hid (LRet t.data.toList w (.returned (.tuple #[.slice none 0 0, .int .i64 0, .int .i64 2])) w) := by
      have e1 : lrdE t.data.toList = 2 := by unfold lrdE; rw [if_pos (by omega)]
      have e2 : lrdI t.data.toList = 0 := by unfold lrdI; rw [if_pos (by omega)]
      have := LRet.no (l := t.data.toList) (w := w) (w' := w) (by rw [e1]; decide) (Below.refl _ _)
      rw [e1, e2] at this
      exact Lib.hid this
    clear htl hx
    go_enter Tryz.func20, Tryz.ntmps20
    go_wp2
    go_ret3
    exact HR.out
  · have hS0 : StP w (QL w w.heap.size) [] (w.alloc (.cells #[.slice none 0 0] 42)) [] := by
      refine ⟨_, ⟨none, 0, [], rfl, rfl⟩, ?_⟩
      exact ((((Sq.start w).allNil (hostR w.heap.size) (hostR_ok _)).add #[.slice none 0 0] 42).nil w.heap.size 52 5)
    have HEA := Lib.hid (eachSlot_calls w (QL w w.heap.size) fL w.heap.size t _ [] (by omega) hx hS0 (readL_calls w w.heap.size t.size hx (by omega)))
    have hlt : ∃ b0, b0 < w.heap.size := by
      obtain ⟨m, hm⟩ := hx
      exact ⟨_, World.block_lt_of_cell? _ _ hm⟩
    obtain ⟨b0, hb0⟩ := hlt
    clear hS0 hx
    cases hB : eachB fL t.data.toList
    · have HR : Hid (∀ w', Below w.heap.size w w' → LRet t.data.toList w (.returned (.tuple #[.slice none 0 0, .int .i64 (eachI fL t.data.toList), .int .i64 9])) w') := by
        have e1 : lrdE t.data.toList = 9 := by unfold lrdE; rw [if_neg (by omega), if_pos hB]
        have e2 : lrdI t.data.toList = eachI fL t.data.toList := by unfold lrdI; rw [if_neg (by omega), if_pos hB]
        refine Lib.hid (fun w' hb => ?_)
        have := LRet.no (l := t.data.toList) (w := w) (w' := w') (by rw [e1]; decide) hb
        rw [e1, e2] at this
        exact this
      have HEB : Hid (Calls Tryz.prog 43 #[.string t, .func (.func 61) #[] #[.pointer (some ⟨w.heap.size, 0, none⟩)]] (w.alloc (.cells #[.slice none 0 0] 42)) (fun e w' => e = .returned (.tuple #[.int .i64 (eachI fL t.data.toList), .bool false]) ∧ Below w.heap.size w w')) := by
        refine Lib.hid (HEA.out.mono ?_)
        rintro e w' ⟨rfl, _, h3⟩
        rw [hB]
        exact ⟨rfl, h3⟩
      clear HEA hB htl hb0
      obtain ⟨ei, hei⟩ : ∃ ei : Int, ei = eachI fL t.data.toList := ⟨_, rfl⟩
      rw [← hei] at HR HEB
      clear hei
      go_enter Tryz.func20, Tryz.ntmps20
      go_wp2_with (first | (go_at_call 43; refine HEB.out.mono ?_; rintro e w1 ⟨rfl, hb1⟩))
      go_ret3
      exact HR.out _ hb1
    · obtain ⟨P, hP⟩ : ∃ P, P = (lnM t.data.toList).map vL := ⟨_, rfl⟩
      obtain ⟨n, hn⟩ : ∃ n, n = (lnM t.data.toList).length := ⟨_, rfl⟩
      have hcw := cntW_all (l := t.data.toList) (by omega) hB
      rw [← hP] at hcw
      have hPn : P.length = n := by rw [hP, List.length_map, hn]
      obtain ⟨F, hF⟩ : ∃ F, F = slotsF (P.map cOf) := ⟨_, rfl⟩
      have HEB : Hid (Calls Tryz.prog 43 #[.string t, .func (.func 61) #[] #[.pointer (some ⟨w.heap.size, 0, none⟩)]] (w.alloc (.cells #[.slice none 0 0] 42)) (fun e w' => e = .returned (.tuple #[.int .i64 (eachI fL t.data.toList), .bool true]) ∧ ∃ A c xs, Hid (xs.map cntS = P) ∧ Hid (slotsF xs = F) ∧ Hid (SltsW w' b0 A n c xs) ∧ Sq w w' [rOwn w.heap.size 52 5 (.slice A n c) n (xs.flatMap sltC), rBlk w.heap.size 42 #[.slice A n c], rAll (hostR w.heap.size) xs])) := by
        refine Lib.hid (HEA.out.mono ?_)
        rintro e w' ⟨rfl, h2, _⟩
        refine ⟨by rw [hB], ?_⟩
        obtain ⟨A, c, xs, h3, h4⟩ := StP.openL (h2 hB)
        rw [← hn] at h4
        rw [← hP] at h3
        exact ⟨A, c, xs, Lib.hid h3, Lib.hid (by rw [hF]; exact slotsF_cnt (h3.trans (cnt_cOf P).symm)), Lib.hid (sltsW_of h4 hb0 h3 hcw), h4⟩
      have e1 : lrdE t.data.toList = F := by unfold lrdE; rw [if_neg (by omega), if_neg (by rw [hB]; decide), hF, hP]
      have e2 : lrdI t.data.toList = 0 := by unfold lrdI; rw [if_neg (by omega), if_neg (by rw [hB]; decide)]
      have HR : Hid (F ≠ 0 → ∀ w', Below w.heap.size w w' → LRet t.data.toList w (.returned (.tuple #[.slice none 0 0, .int .i64 0, .int .i64 F])) w') := by
        refine Lib.hid (fun hF0 w' hb => ?_)
        have := LRet.no (l := t.data.toList) (w := w) (w' := w') (by rw [e1]; exact hF0) hb
        rw [e1, e2] at this
        exact this
      have HY : Hid (F = 0 → ∀ w' A c xs, xs.map cntS = P → Sq w w' [rOwn w.heap.size 52 5 (.slice A n c) n (xs.flatMap sltC), rBlk w.heap.size 42 #[.slice A n c], rAll (hostR w.heap.size) xs] → LRet t.data.toList w (.returned (.tuple #[.slice A n c, .int .i64 0, .int .i64 F])) w') := by
        refine Lib.hid (fun hF0 w' A c xs hxs hS => ⟨.slice A n c, xs, by rw [e1, e2], ?_, ?_⟩)
        · unfold lrdL
          rw [if_pos (by rw [e1]; exact hF0), ← hP]
          exact hxs
        · have hl : xs.length = n := by rw [← hPn, ← hxs, List.length_map]
          rw [hl]
          exact hS.drop 1 rfl rfl
      have HCK : Hid (∀ W A c xs, slotsF xs = F → b0 < W.heap.size → SltsW W b0 A n c xs → Calls Tryz.prog 55 #[.slice A n c] W (BRet (.int .i64 F) W)) := by
        refine Lib.hid (fun W A c xs h hb h2 => ?_)
        have := checkSlotsW_calls b0 A n c xs W h2 hb
        rw [h] at this
        exact this
      obtain ⟨ei, hei⟩ : ∃ ei : Int, ei = eachI fL t.data.toList := ⟨_, rfl⟩
      rw [← hei] at HEB
      clear HEA hB htl e1 e2 hF hPn hP hn hei hcw
      by_cases hF0 : F = 0
      · have HY2 := Lib.hid (HY.out hF0)
        clear HR HY
        subst hF0
        go_enter Tryz.func20, Tryz.ntmps20
        go_wp2_with (first
          | (go_at_call 43; refine HEB.out.mono ?_; rintro e w1 ⟨rfl, A, c, xs, HX, HF, HW, hS1⟩; have c1 : w1.cell? ⟨w.heap.size, 0, none⟩ = some (.slice A n c) := (hS1.nth 1 rfl : Blk w1 w.heap.size _ _).cell 0; have hlt1 : b0 < w1.heap.size := Nat.lt_of_lt_of_le hb0 hS1.size)
          | (go_at_call 55; refine (HCK.out _ _ _ _ HF.out hlt1 HW.out).mono ?_; rintro e w2 ⟨rfl, hb2⟩; have c2 := below_cell hb2 c1; have hS2 := hS1.callB hb2))
        go_ret3
        exact HY2.out _ _ _ _ HX.out hS2
      · have HR2 := Lib.hid (HR.out hF0)
        have hFb : (F == 0) = false := by simpa using hF0
        clear HR HY hF0
        go_enter Tryz.func20, Tryz.ntmps20
        go_wp2_with (first
          | (go_at_call 43; refine HEB.out.mono ?_; rintro e w1 ⟨rfl, A, c, xs, HX, HF, HW, hS1⟩; have c1 : w1.cell? ⟨w.heap.size, 0, none⟩ = some (.slice A n c) := (hS1.nth 1 rfl : Blk w1 w.heap.size _ _).cell 0; have hlt1 : b0 < w1.heap.size := Nat.lt_of_lt_of_le hb0 hS1.size)
          | (go_at_call 55; refine (HCK.out _ _ _ _ HF.out hlt1 HW.out).mono ?_; rintro e w2 ⟨rfl, hb2⟩; have c2 := below_cell hb2 c1; have hS2 := hS1.callB hb2))
        go_ret3
        exact HR2.out _ hS2.below

set_option maxRecDepth 100000 in
set_option maxHeartbeats 2000000 in
theorem slotsRead_calls (t : ByteArray) (w : World) (hx : MxL w) (ht : Tab w) : Calls Tryz.prog 21 #[.string t] w (LRet t.data.toList w) := by
  have htl : t.data.toList.length = t.size := by simp
  by_cases hbig : 200000 < t.size
  · have HR : Hid (LRet t.data.toList w (.returned (.tuple #[.slice none 0 0, .int .i64 0, .int .i64 2])) w) := by
      have e1 : lrdE t.data.toList = 2 := by unfold lrdE; rw [if_pos (by omega)]
      have e2 : lrdI t.data.toList = 0 := by unfold lrdI; rw [if_pos (by omega)]
      have := LRet.no (l := t.data.toList) (w := w) (w' := w) (by rw [e1]; decide) (Below.refl _ _)
      rw [e1, e2] at this
      exact Lib.hid this
    clear htl hx
    go_enter Tryz.func21, Tryz.ntmps21
    go_wp2
    go_ret3
    exact HR.out
  · have hS0 : StP w (QL w w.heap.size) [] (w.alloc (.cells #[.slice none 0 0] 42)) [] := by
      refine ⟨_, ⟨none, 0, [], rfl, rfl⟩, ?_⟩
      exact ((((Sq.start w).allNil (hostR w.heap.size) (hostR_ok _)).add #[.slice none 0 0] 42).nil w.heap.size 52 5)
    have HEA := Lib.hid (linesSlot_calls w (QL w w.heap.size) fL w.heap.size t _ [] (by omega) hx hS0 (readLQ_calls w w.heap.size t.size hx ht (by omega)))
    have hlt : ∃ b0, b0 < w.heap.size := by
      obtain ⟨m, hm⟩ := hx
      exact ⟨_, World.block_lt_of_cell? _ _ hm⟩
    obtain ⟨b0, hb0⟩ := hlt
    clear hS0 hx
    cases hB : eachB fL t.data.toList
    · have HR : Hid (∀ w', Below w.heap.size w w' → LRet t.data.toList w (.returned (.tuple #[.slice none 0 0, .int .i64 (eachI fL t.data.toList), .int .i64 9])) w') := by
        have e1 : lrdE t.data.toList = 9 := by unfold lrdE; rw [if_neg (by omega), if_pos hB]
        have e2 : lrdI t.data.toList = eachI fL t.data.toList := by unfold lrdI; rw [if_neg (by omega), if_pos hB]
        refine Lib.hid (fun w' hb => ?_)
        have := LRet.no (l := t.data.toList) (w := w) (w' := w') (by rw [e1]; decide) hb
        rw [e1, e2] at this
        exact this
      have HEB : Hid (Calls Tryz.prog 46 #[.string t, .func (.func 65) #[] #[.pointer (some ⟨w.heap.size, 0, none⟩)]] (w.alloc (.cells #[.slice none 0 0] 42)) (fun e w' => e = .returned (.tuple #[.int .i64 (eachI fL t.data.toList), .bool false]) ∧ Below w.heap.size w w')) := by
        refine Lib.hid (HEA.out.mono ?_)
        rintro e w' ⟨rfl, _, h3⟩
        rw [hB]
        exact ⟨rfl, h3⟩
      clear HEA hB htl hb0
      obtain ⟨ei, hei⟩ : ∃ ei : Int, ei = eachI fL t.data.toList := ⟨_, rfl⟩
      rw [← hei] at HR HEB
      clear hei
      go_enter Tryz.func21, Tryz.ntmps21
      go_wp2_with (first | (go_at_call 46; refine HEB.out.mono ?_; rintro e w1 ⟨rfl, hb1⟩))
      go_ret3
      exact HR.out _ hb1
    · obtain ⟨P, hP⟩ : ∃ P, P = (lnM t.data.toList).map vL := ⟨_, rfl⟩
      obtain ⟨n, hn⟩ : ∃ n, n = (lnM t.data.toList).length := ⟨_, rfl⟩
      have hcw := cntW_all (l := t.data.toList) (by omega) hB
      rw [← hP] at hcw
      have hPn : P.length = n := by rw [hP, List.length_map, hn]
      obtain ⟨F, hF⟩ : ∃ F, F = slotsF (P.map cOf) := ⟨_, rfl⟩
      have HEB : Hid (Calls Tryz.prog 46 #[.string t, .func (.func 65) #[] #[.pointer (some ⟨w.heap.size, 0, none⟩)]] (w.alloc (.cells #[.slice none 0 0] 42)) (fun e w' => e = .returned (.tuple #[.int .i64 (eachI fL t.data.toList), .bool true]) ∧ ∃ A c xs, Hid (xs.map cntS = P) ∧ Hid (slotsF xs = F) ∧ Hid (SltsW w' b0 A n c xs) ∧ Sq w w' [rOwn w.heap.size 52 5 (.slice A n c) n (xs.flatMap sltC), rBlk w.heap.size 42 #[.slice A n c], rAll (hostR w.heap.size) xs])) := by
        refine Lib.hid (HEA.out.mono ?_)
        rintro e w' ⟨rfl, h2, _⟩
        refine ⟨by rw [hB], ?_⟩
        obtain ⟨A, c, xs, h3, h4⟩ := StP.openL (h2 hB)
        rw [← hn] at h4
        rw [← hP] at h3
        exact ⟨A, c, xs, Lib.hid h3, Lib.hid (by rw [hF]; exact slotsF_cnt (h3.trans (cnt_cOf P).symm)), Lib.hid (sltsW_of h4 hb0 h3 hcw), h4⟩
      have e1 : lrdE t.data.toList = F := by unfold lrdE; rw [if_neg (by omega), if_neg (by rw [hB]; decide), hF, hP]
      have e2 : lrdI t.data.toList = 0 := by unfold lrdI; rw [if_neg (by omega), if_neg (by rw [hB]; decide)]
      have HR : Hid (F ≠ 0 → ∀ w', Below w.heap.size w w' → LRet t.data.toList w (.returned (.tuple #[.slice none 0 0, .int .i64 0, .int .i64 F])) w') := by
        refine Lib.hid (fun hF0 w' hb => ?_)
        have := LRet.no (l := t.data.toList) (w := w) (w' := w') (by rw [e1]; exact hF0) hb
        rw [e1, e2] at this
        exact this
      have HY : Hid (F = 0 → ∀ w' A c xs, xs.map cntS = P → Sq w w' [rOwn w.heap.size 52 5 (.slice A n c) n (xs.flatMap sltC), rBlk w.heap.size 42 #[.slice A n c], rAll (hostR w.heap.size) xs] → LRet t.data.toList w (.returned (.tuple #[.slice A n c, .int .i64 0, .int .i64 F])) w') := by
        refine Lib.hid (fun hF0 w' A c xs hxs hS => ⟨.slice A n c, xs, by rw [e1, e2], ?_, ?_⟩)
        · unfold lrdL
          rw [if_pos (by rw [e1]; exact hF0), ← hP]
          exact hxs
        · have hl : xs.length = n := by rw [← hPn, ← hxs, List.length_map]
          rw [hl]
          exact hS.drop 1 rfl rfl
      have HCK : Hid (∀ W A c xs, slotsF xs = F → b0 < W.heap.size → SltsW W b0 A n c xs → Calls Tryz.prog 18 #[.slice A n c] W (BRet (.int .i64 F) W)) := by
        refine Lib.hid (fun W A c xs h hb h2 => ?_)
        have := slotsFaultWQ_calls b0 A n c xs W h2 hb
        rw [h] at this
        exact this
      obtain ⟨ei, hei⟩ : ∃ ei : Int, ei = eachI fL t.data.toList := ⟨_, rfl⟩
      rw [← hei] at HEB
      clear HEA hB htl e1 e2 hF hPn hP hn hei hcw
      by_cases hF0 : F = 0
      · have HY2 := Lib.hid (HY.out hF0)
        clear HR HY
        subst hF0
        go_enter Tryz.func21, Tryz.ntmps21
        go_wp2_with (first
          | (go_at_call 46; refine HEB.out.mono ?_; rintro e w1 ⟨rfl, A, c, xs, HX, HF, HW, hS1⟩; have c1 : w1.cell? ⟨w.heap.size, 0, none⟩ = some (.slice A n c) := (hS1.nth 1 rfl : Blk w1 w.heap.size _ _).cell 0; have hlt1 : b0 < w1.heap.size := Nat.lt_of_lt_of_le hb0 hS1.size)
          | (go_at_call 18; refine (HCK.out _ _ _ _ HF.out hlt1 HW.out).mono ?_; rintro e w2 ⟨rfl, hb2⟩; have c2 := below_cell hb2 c1; have hS2 := hS1.callB hb2))
        go_ret3
        exact HY2.out _ _ _ _ HX.out hS2
      · have HR2 := Lib.hid (HR.out hF0)
        have hFb : (F == 0) = false := by simpa using hF0
        clear HR HY hF0
        go_enter Tryz.func21, Tryz.ntmps21
        go_wp2_with (first
          | (go_at_call 46; refine HEB.out.mono ?_; rintro e w1 ⟨rfl, A, c, xs, HX, HF, HW, hS1⟩; have c1 : w1.cell? ⟨w.heap.size, 0, none⟩ = some (.slice A n c) := (hS1.nth 1 rfl : Blk w1 w.heap.size _ _).cell 0; have hlt1 : b0 < w1.heap.size := Nat.lt_of_lt_of_le hb0 hS1.size)
          | (go_at_call 18; refine (HCK.out _ _ _ _ HF.out hlt1 HW.out).mono ?_; rintro e w2 ⟨rfl, hb2⟩; have c2 := below_cell hb2 c1; have hS2 := hS1.callB hb2))
        go_ret3
        exact HR2.out _ hS2.below
end Go.Proofs.YtaendemgkabdfaaGreatDoor
