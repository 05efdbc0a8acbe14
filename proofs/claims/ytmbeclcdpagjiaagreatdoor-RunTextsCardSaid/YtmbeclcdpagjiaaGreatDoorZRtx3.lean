/-
  Runs that are read: rule.Read and splitref2.RunsRead by contracts: both answer alike. (Printed by gen_rtx3.py out of XSlt3.)
-/
import Derived.Test.YtmbeclcdpagjiaaGreatDoorZRtx1
import Derived.Test.YtmbeclcdpagjiaaGreatDoorZEachRun
import Derived.Test.YtmbeclcdpagjiaaGreatDoorZRun1
namespace Go.Proofs.YtmbeclcdpagjiaaGreatDoor
open Go Go.RowKit TxtP

structure CntRW (m : CntR) : Prop where
  hi : m.1.size ≤ 1000000
  hw : m.2.1.size ≤ 1000000
  hf : ∀ p ∈ m.2.2.2.2, p.1.size ≤ 1000000 ∧ p.2.size ≤ 1000000
  hn : m.2.2.2.2.length ≤ 1000000
theorem cntRW_all {l : List UInt8} (hl : l.length ≤ 200000) : ∀ m ∈ (lnM l).map vR, CntRW m := by
  intro m hm
  obtain ⟨p, hp, rfl⟩ := List.mem_map.1 hm
  obtain ⟨h1, h2, h3, h4⟩ := vR_le p (Nat.le_trans (spl_le 10 l p (List.dropLast_subset _ hp)) hl)
  exact ⟨by omega, by omega, fun q hq => by have := h3 q hq; omega, by omega⟩
theorem rns_of {w W : World} {b n c : Nat} {A : Option Addr} {xs : List Rn} {L : List Rsc} {r : Rsc} {ms : List CntR} (hS : Sq w W (rOwn w.heap.size 51 5 (.slice A n c) n (xs.flatMap rnC) :: r :: rAll (fldR w.heap.size) xs :: L)) (hb : b < w.heap.size) (hc : xs.map cntR = ms) (hm : ∀ m ∈ ms, CntRW m) : Rns W b A n c xs := by
  have ho : W.ownsRow w.heap.size 51 5 (.slice A n c) n (xs.flatMap rnC) := hS.head
  refine ⟨Rd.own ho hb, fun x hx => ?_⟩
  have hx2 : cntR x ∈ ms := by rw [← hc]; exact List.mem_map_of_mem hx
  obtain ⟨h1, h2, h3, h4⟩ := hm _ hx2
  have hr : W.ownsRow w.heap.size 64 2 (.slice x.fa x.fs.length x.fc) x.fs.length (x.fs.flatMap prC) := (hS.nth 2 rfl : ∀ a ∈ xs, (fldR w.heap.size a).P W) x hx
  exact ⟨Rd.own hr hb, h1, h2, h3, h4⟩

set_option maxRecDepth 100000 in
set_option maxHeartbeats 2000000 in
theorem runRead_calls (t : ByteArray) (w : World) (hx : MxL w) : Calls Tryz.prog 20 #[.string t] w (RRet t.data.toList w) := by
  have htl : t.data.toList.length = t.size := by simp
  by_cases hbig : 200000 < t.size
  · have HR : Hid (RRet t.data.toList w (.returned (.tuple #[.slice none 0 0, .int .i64 0, .int .i64 2])) w) := by
      have e1 : rrdE t.data.toList = 2 := by unfold rrdE; rw [if_pos (by omega)]
      have e2 : rrdI t.data.toList = 0 := by unfold rrdI; rw [if_pos (by omega)]
      have := RRet.no (l := t.data.toList) (w := w) (w' := w) (by rw [e1]; decide) (Below.refl _ _)
      rw [e1, e2] at this
      exact Lib.hid this
    clear htl hx
    go_enter Tryz.func20, Tryz.ntmps20
    go_wp2
    go_ret3
    exact HR.out
  · have hS0 : StP w (QR w w.heap.size) [] (w.alloc (.cells #[.slice none 0 0] 41)) [] := by
      refine ⟨_, ⟨none, 0, [], rfl, rfl⟩, ?_⟩
      exact ((((Sq.start w).allNil (fldR w.heap.size) (fldR_ok _)).add #[.slice none 0 0] 41).nil w.heap.size 51 5)
    have HEA := Lib.hid (eachRun_calls w (QR w w.heap.size) fR w.heap.size t _ [] (by omega) hx hS0 (readR_calls w w.heap.size t.size hx (by omega)))
    have hlt : ∃ b0, b0 < w.heap.size := by
      obtain ⟨m, hm⟩ := hx
      exact ⟨_, World.block_lt_of_cell? _ _ hm⟩
    obtain ⟨b0, hb0⟩ := hlt
    clear hS0 hx
    cases hB : eachB fR t.data.toList
    · have HR : Hid (∀ w', Below w.heap.size w w' → RRet t.data.toList w (.returned (.tuple #[.slice none 0 0, .int .i64 (eachI fR t.data.toList), .int .i64 9])) w') := by
        have e1 : rrdE t.data.toList = 9 := by unfold rrdE; rw [if_neg (by omega), if_pos hB]
        have e2 : rrdI t.data.toList = eachI fR t.data.toList := by unfold rrdI; rw [if_neg (by omega), if_pos hB]
        refine Lib.hid (fun w' hb => ?_)
        have := RRet.no (l := t.data.toList) (w := w) (w' := w') (by rw [e1]; decide) hb
        rw [e1, e2] at this
        exact this
      have HEB : Hid (Calls Tryz.prog 53 #[.string t, .func (.func 54) #[] #[.pointer (some ⟨w.heap.size, 0, none⟩)]] (w.alloc (.cells #[.slice none 0 0] 41)) (fun e w' => e = .returned (.tuple #[.int .i64 (eachI fR t.data.toList), .bool false]) ∧ Below w.heap.size w w')) := by
        refine Lib.hid (HEA.out.mono ?_)
        rintro e w' ⟨rfl, _, h3⟩
        rw [hB]
        exact ⟨rfl, h3⟩
      clear HEA hB htl hb0
      obtain ⟨ei, hei⟩ : ∃ ei : Int, ei = eachI fR t.data.toList := ⟨_, rfl⟩
      rw [← hei] at HR HEB
      clear hei
      go_enter Tryz.func20, Tryz.ntmps20
      go_wp2_with (first | (go_at_call 53; refine HEB.out.mono ?_; rintro e w1 ⟨rfl, hb1⟩))
      go_ret3
      exact HR.out _ hb1
    · obtain ⟨P, hP⟩ : ∃ P, P = (lnM t.data.toList).map vR := ⟨_, rfl⟩
      obtain ⟨n, hn⟩ : ∃ n, n = (lnM t.data.toList).length := ⟨_, rfl⟩
      have hcw := cntRW_all (l := t.data.toList) (by omega)
      rw [← hP] at hcw
      have hPn : P.length = n := by rw [hP, List.length_map, hn]
      obtain ⟨F, hF⟩ : ∃ F, F = runsF (P.map rOf) := ⟨_, rfl⟩
      have HEB : Hid (Calls Tryz.prog 53 #[.string t, .func (.func 54) #[] #[.pointer (some ⟨w.heap.size, 0, none⟩)]] (w.alloc (.cells #[.slice none 0 0] 41)) (fun e w' => e = .returned (.tuple #[.int .i64 (eachI fR t.data.toList), .bool true]) ∧ ∃ A c xs, Hid (xs.map cntR = P) ∧ Hid (runsF xs = F) ∧ Hid (Rns w' b0 A n c xs) ∧ Sq w w' [rOwn w.heap.size 51 5 (.slice A n c) n (xs.flatMap rnC), rBlk w.heap.size 41 #[.slice A n c], rAll (fldR w.heap.size) xs])) := by
        refine Lib.hid (HEA.out.mono ?_)
        rintro e w' ⟨rfl, h2, _⟩
        refine ⟨by rw [hB], ?_⟩
        obtain ⟨A, c, xs, h3, h4⟩ := StP.openR (h2 hB)
        rw [← hn] at h4
        rw [← hP] at h3
        exact ⟨A, c, xs, Lib.hid h3, Lib.hid (by rw [hF]; exact runsF_cnt (h3.trans (cnt_rOf P).symm)), Lib.hid (rns_of h4 hb0 h3 hcw), h4⟩
      have e1 : rrdE t.data.toList = F := by unfold rrdE; rw [if_neg (by omega), if_neg (by rw [hB]; decide), hF, hP]
      have e2 : rrdI t.data.toList = 0 := by unfold rrdI; rw [if_neg (by omega), if_neg (by rw [hB]; decide)]
      have HR : Hid (F ≠ 0 → ∀ w', Below w.heap.size w w' → RRet t.data.toList w (.returned (.tuple #[.slice none 0 0, .int .i64 0, .int .i64 F])) w') := by
        refine Lib.hid (fun hF0 w' hb => ?_)
        have := RRet.no (l := t.data.toList) (w := w) (w' := w') (by rw [e1]; exact hF0) hb
        rw [e1, e2] at this
        exact this
      have HY : Hid (F = 0 → ∀ w' A c xs, xs.map cntR = P → Sq w w' [rOwn w.heap.size 51 5 (.slice A n c) n (xs.flatMap rnC), rBlk w.heap.size 41 #[.slice A n c], rAll (fldR w.heap.size) xs] → RRet t.data.toList w (.returned (.tuple #[.slice A n c, .int .i64 0, .int .i64 F])) w') := by
        refine Lib.hid (fun hF0 w' A c xs hxs hS => ⟨.slice A n c, xs, by rw [e1, e2], ?_, ?_⟩)
        · unfold rrdL
          rw [if_pos (by rw [e1]; exact hF0), ← hP]
          exact hxs
        · have hl : xs.length = n := by rw [← hPn, ← hxs, List.length_map]
          rw [hl]
          exact hS.drop 1 rfl rfl
      have HCK : Hid (∀ W A c xs, runsF xs = F → b0 < W.heap.size → Rns W b0 A n c xs → Calls Tryz.prog 33 #[.slice A n c] W (BRet (.int .i64 F) W)) := by
        refine Lib.hid (fun W A c xs h hb h2 => ?_)
        have := checkRuns_calls b0 A n c xs W h2 hb
        rw [h] at this
        exact this
      obtain ⟨ei, hei⟩ : ∃ ei : Int, ei = eachI fR t.data.toList := ⟨_, rfl⟩
      rw [← hei] at HEB
      clear HEA hB htl e1 e2 hF hPn hP hn hei hcw
      by_cases hF0 : F = 0
      · have HY2 := Lib.hid (HY.out hF0)
        clear HR HY
        subst hF0
        go_enter Tryz.func20, Tryz.ntmps20
        go_wp2_with (first
          | (go_at_call 53; refine HEB.out.mono ?_; rintro e w1 ⟨rfl, A, c, xs, HX, HF, HW, hS1⟩; have c1 : w1.cell? ⟨w.heap.size, 0, none⟩ = some (.slice A n c) := (hS1.nth 1 rfl : Blk w1 w.heap.size _ _).cell 0; have hlt1 : b0 < w1.heap.size := Nat.lt_of_lt_of_le hb0 hS1.size)
          | (go_at_call 33; refine (HCK.out _ _ _ _ HF.out hlt1 HW.out).mono ?_; rintro e w2 ⟨rfl, hb2⟩; have c2 := below_cell hb2 c1; have hS2 := hS1.callB hb2))
        go_ret3
        exact HY2.out _ _ _ _ HX.out hS2
      · have HR2 := Lib.hid (HR.out hF0)
        have hFb : (F == 0) = false := by simpa using hF0
        clear HR HY hF0
        go_enter Tryz.func20, Tryz.ntmps20
        go_wp2_with (first
          | (go_at_call 53; refine HEB.out.mono ?_; rintro e w1 ⟨rfl, A, c, xs, HX, HF, HW, hS1⟩; have c1 : w1.cell? ⟨w.heap.size, 0, none⟩ = some (.slice A n c) := (hS1.nth 1 rfl : Blk w1 w.heap.size _ _).cell 0; have hlt1 : b0 < w1.heap.size := Nat.lt_of_lt_of_le hb0 hS1.size)
          | (go_at_call 33; refine (HCK.out _ _ _ _ HF.out hlt1 HW.out).mono ?_; rintro e w2 ⟨rfl, hb2⟩; have c2 := below_cell hb2 c1; have hS2 := hS1.callB hb2))
        go_ret3
        exact HR2.out _ hS2.below

set_option maxRecDepth 100000 in
set_option maxHeartbeats 2000000 in
theorem runsRead_calls (t : ByteArray) (w : World) (hx : MxL w) (ht : Tab w) : Calls Tryz.prog 21 #[.string t] w (RRet t.data.toList w) := by
  have htl : t.data.toList.length = t.size := by simp
  by_cases hbig : 200000 < t.size
  · have HR : Hid (RRet t.data.toList w (.returned (.tuple #[.slice none 0 0, .int .i64 0, .int .i64 2])) w) := by
      have e1 : rrdE t.data.toList = 2 := by unfold rrdE; rw [if_pos (by omega)]
      have e2 : rrdI t.data.toList = 0 := by unfold rrdI; rw [if_pos (by omega)]
      have := RRet.no (l := t.data.toList) (w := w) (w' := w) (by rw [e1]; decide) (Below.refl _ _)
      rw [e1, e2] at this
      exact Lib.hid this
    clear htl hx
    go_enter Tryz.func21, Tryz.ntmps21
    go_wp2
    go_ret3
    exact HR.out
  · have hS0 : StP w (QR w w.heap.size) [] (w.alloc (.cells #[.slice none 0 0] 41)) [] := by
      refine ⟨_, ⟨none, 0, [], rfl, rfl⟩, ?_⟩
      exact ((((Sq.start w).allNil (fldR w.heap.size) (fldR_ok _)).add #[.slice none 0 0] 41).nil w.heap.size 51 5)
    have HEA := Lib.hid (linesRun_calls w (QR w w.heap.size) fR w.heap.size t _ [] (by omega) hx hS0 (readRQ_calls w w.heap.size t.size hx ht (by omega)))
    have hlt : ∃ b0, b0 < w.heap.size := by
      obtain ⟨m, hm⟩ := hx
      exact ⟨_, World.block_lt_of_cell? _ _ hm⟩
    obtain ⟨b0, hb0⟩ := hlt
    clear hS0 hx
    cases hB : eachB fR t.data.toList
    · have HR : Hid (∀ w', Below w.heap.size w w' → RRet t.data.toList w (.returned (.tuple #[.slice none 0 0, .int .i64 (eachI fR t.data.toList), .int .i64 9])) w') := by
        have e1 : rrdE t.data.toList = 9 := by unfold rrdE; rw [if_neg (by omega), if_pos hB]
        have e2 : rrdI t.data.toList = eachI fR t.data.toList := by unfold rrdI; rw [if_neg (by omega), if_pos hB]
        refine Lib.hid (fun w' hb => ?_)
        have := RRet.no (l := t.data.toList) (w := w) (w' := w') (by rw [e1]; decide) hb
        rw [e1, e2] at this
        exact this
      have HEB : Hid (Calls Tryz.prog 56 #[.string t, .func (.func 57) #[] #[.pointer (some ⟨w.heap.size, 0, none⟩)]] (w.alloc (.cells #[.slice none 0 0] 41)) (fun e w' => e = .returned (.tuple #[.int .i64 (eachI fR t.data.toList), .bool false]) ∧ Below w.heap.size w w')) := by
        refine Lib.hid (HEA.out.mono ?_)
        rintro e w' ⟨rfl, _, h3⟩
        rw [hB]
        exact ⟨rfl, h3⟩
      clear HEA hB htl hb0
      obtain ⟨ei, hei⟩ : ∃ ei : Int, ei = eachI fR t.data.toList := ⟨_, rfl⟩
      rw [← hei] at HR HEB
      clear hei
      go_enter Tryz.func21, Tryz.ntmps21
      go_wp2_with (first | (go_at_call 56; refine HEB.out.mono ?_; rintro e w1 ⟨rfl, hb1⟩))
      go_ret3
      exact HR.out _ hb1
    · obtain ⟨P, hP⟩ : ∃ P, P = (lnM t.data.toList).map vR := ⟨_, rfl⟩
      obtain ⟨n, hn⟩ : ∃ n, n = (lnM t.data.toList).length := ⟨_, rfl⟩
      have hcw := cntRW_all (l := t.data.toList) (by omega)
      rw [← hP] at hcw
      have hPn : P.length = n := by rw [hP, List.length_map, hn]
      obtain ⟨F, hF⟩ : ∃ F, F = runsF (P.map rOf) := ⟨_, rfl⟩
      have HEB : Hid (Calls Tryz.prog 56 #[.string t, .func (.func 57) #[] #[.pointer (some ⟨w.heap.size, 0, none⟩)]] (w.alloc (.cells #[.slice none 0 0] 41)) (fun e w' => e = .returned (.tuple #[.int .i64 (eachI fR t.data.toList), .bool true]) ∧ ∃ A c xs, Hid (xs.map cntR = P) ∧ Hid (runsF xs = F) ∧ Hid (Rns w' b0 A n c xs) ∧ Sq w w' [rOwn w.heap.size 51 5 (.slice A n c) n (xs.flatMap rnC), rBlk w.heap.size 41 #[.slice A n c], rAll (fldR w.heap.size) xs])) := by
        refine Lib.hid (HEA.out.mono ?_)
        rintro e w' ⟨rfl, h2, _⟩
        refine ⟨by rw [hB], ?_⟩
        obtain ⟨A, c, xs, h3, h4⟩ := StP.openR (h2 hB)
        rw [← hn] at h4
        rw [← hP] at h3
        exact ⟨A, c, xs, Lib.hid h3, Lib.hid (by rw [hF]; exact runsF_cnt (h3.trans (cnt_rOf P).symm)), Lib.hid (rns_of h4 hb0 h3 hcw), h4⟩
      have e1 : rrdE t.data.toList = F := by unfold rrdE; rw [if_neg (by omega), if_neg (by rw [hB]; decide), hF, hP]
      have e2 : rrdI t.data.toList = 0 := by unfold rrdI; rw [if_neg (by omega), if_neg (by rw [hB]; decide)]
      have HR : Hid (F ≠ 0 → ∀ w', Below w.heap.size w w' → RRet t.data.toList w (.returned (.tuple #[.slice none 0 0, .int .i64 0, .int .i64 F])) w') := by
        refine Lib.hid (fun hF0 w' hb => ?_)
        have := RRet.no (l := t.data.toList) (w := w) (w' := w') (by rw [e1]; exact hF0) hb
        rw [e1, e2] at this
        exact this
      have HY : Hid (F = 0 → ∀ w' A c xs, xs.map cntR = P → Sq w w' [rOwn w.heap.size 51 5 (.slice A n c) n (xs.flatMap rnC), rBlk w.heap.size 41 #[.slice A n c], rAll (fldR w.heap.size) xs] → RRet t.data.toList w (.returned (.tuple #[.slice A n c, .int .i64 0, .int .i64 F])) w') := by
        refine Lib.hid (fun hF0 w' A c xs hxs hS => ⟨.slice A n c, xs, by rw [e1, e2], ?_, ?_⟩)
        · unfold rrdL
          rw [if_pos (by rw [e1]; exact hF0), ← hP]
          exact hxs
        · have hl : xs.length = n := by rw [← hPn, ← hxs, List.length_map]
          rw [hl]
          exact hS.drop 1 rfl rfl
      have HCK : Hid (∀ W A c xs, runsF xs = F → b0 < W.heap.size → Rns W b0 A n c xs → Calls Tryz.prog 18 #[.slice A n c] W (BRet (.int .i64 F) W)) := by
        refine Lib.hid (fun W A c xs h hb h2 => ?_)
        have := runsFaultQ_calls b0 A n c xs W h2 hb
        rw [h] at this
        exact this
      obtain ⟨ei, hei⟩ : ∃ ei : Int, ei = eachI fR t.data.toList := ⟨_, rfl⟩
      rw [← hei] at HEB
      clear HEA hB htl e1 e2 hF hPn hP hn hei hcw
      by_cases hF0 : F = 0
      · have HY2 := Lib.hid (HY.out hF0)
        clear HR HY
        subst hF0
        go_enter Tryz.func21, Tryz.ntmps21
        go_wp2_with (first
          | (go_at_call 56; refine HEB.out.mono ?_; rintro e w1 ⟨rfl, A, c, xs, HX, HF, HW, hS1⟩; have c1 : w1.cell? ⟨w.heap.size, 0, none⟩ = some (.slice A n c) := (hS1.nth 1 rfl : Blk w1 w.heap.size _ _).cell 0; have hlt1 : b0 < w1.heap.size := Nat.lt_of_lt_of_le hb0 hS1.size)
          | (go_at_call 18; refine (HCK.out _ _ _ _ HF.out hlt1 HW.out).mono ?_; rintro e w2 ⟨rfl, hb2⟩; have c2 := below_cell hb2 c1; have hS2 := hS1.callB hb2))
        go_ret3
        exact HY2.out _ _ _ _ HX.out hS2
      · have HR2 := Lib.hid (HR.out hF0)
        have hFb : (F == 0) = false := by simpa using hF0
        clear HR HY hF0
        go_enter Tryz.func21, Tryz.ntmps21
        go_wp2_with (first
          | (go_at_call 56; refine HEB.out.mono ?_; rintro e w1 ⟨rfl, A, c, xs, HX, HF, HW, hS1⟩; have c1 : w1.cell? ⟨w.heap.size, 0, none⟩ = some (.slice A n c) := (hS1.nth 1 rfl : Blk w1 w.heap.size _ _).cell 0; have hlt1 : b0 < w1.heap.size := Nat.lt_of_lt_of_le hb0 hS1.size)
          | (go_at_call 18; refine (HCK.out _ _ _ _ HF.out hlt1 HW.out).mono ?_; rintro e w2 ⟨rfl, hb2⟩; have c2 := below_cell hb2 c1; have hS2 := hS1.callB hb2))
        go_ret3
        exact HR2.out _ hS2.below
end Go.Proofs.YtmbeclcdpagjiaaGreatDoor
