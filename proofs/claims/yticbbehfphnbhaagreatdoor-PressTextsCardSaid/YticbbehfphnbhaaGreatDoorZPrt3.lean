/-
  Presses that are read: timer.Read and splitref2.PressesRead by contracts: both answer alike. (Printed by gen_prt3.py.)
-/
import Derived.Test.YticbbehfphnbhaaGreatDoorZPrt2
import Derived.Test.YticbbehfphnbhaaGreatDoorZEachPress
import Derived.Test.YticbbehfphnbhaaGreatDoorZPrs1
namespace Go.Proofs.YticbbehfphnbhaaGreatDoor
open Go Go.RowKit TxtP

/-- what a text reads as: its error, the line at fault, the presses -/
def rdE (l : List UInt8) : Int := if 200000 < l.length then 2 else if eachB fP l = false then 9 else prF ((lnM l).map vP)
def rdI (l : List UInt8) : Int := if 200000 < l.length then 0 else if eachB fP l = false then eachI fP l else 0
def rdL (l : List UInt8) : List Pz := if rdE l = 0 then (lnM l).map vP else []
def PRet (l : List UInt8) (w : World) (e : Ending) (w' : World) : Prop :=
  ∃ v, e = .returned (.tuple #[v, .int .i64 (rdI l), .int .i64 (rdE l)]) ∧ w'.ownsRow w.heap.size 39 2 v (rdL l).length ((rdL l).flatMap pzC) ∧ Below w.heap.size w w'
theorem PRet.no {l : List UInt8} {w w' : World} (hE : rdE l ≠ 0) (hb : Below w.heap.size w w') : PRet l w (.returned (.tuple #[.slice none 0 0, .int .i64 (rdI l), .int .i64 (rdE l)])) w' := by
  refine ⟨_, rfl, ?_, hb⟩
  unfold rdL
  rw [if_neg hE]
  exact World.ownsRow_nil _ _ _ _

set_option maxRecDepth 100000 in
set_option maxHeartbeats 2000000 in
theorem pressRead_calls (t : ByteArray) (w : World) (hx : MxL w) : Calls Tryz.prog 12 #[.string t] w (PRet t.data.toList w) := by
  have htl : t.data.toList.length = t.size := by simp
  by_cases hbig : 200000 < t.size
  · have HR : Hid (PRet t.data.toList w (.returned (.tuple #[.slice none 0 0, .int .i64 0, .int .i64 2])) w) := by
      have e1 : rdE t.data.toList = 2 := by unfold rdE; rw [if_pos (by omega)]
      have e2 : rdI t.data.toList = 0 := by unfold rdI; rw [if_pos (by omega)]
      have := PRet.no (l := t.data.toList) (w := w) (w' := w) (by rw [e1]; decide) (Below.refl _ _)
      rw [e1, e2] at this
      exact Lib.hid this
    clear htl hx
    go_enter Tryz.func12, Tryz.ntmps12
    go_wp2
    go_ret3
    exact HR.out
  · have hS0 : StP w (QP w w.heap.size) [] (w.alloc (.cells #[.slice none 0 0] 26)) [] := by
      refine ⟨_, ⟨none, 0, rfl⟩, ?_⟩
      exact ((Sq.start w).add #[.slice none 0 0] 26).nil w.heap.size 39 2
    have HEA := Lib.hid (eachPress_calls w (QP w w.heap.size) fP w.heap.size t _ [] (by omega) hx hS0 (readP_calls w w.heap.size t.size hx (by omega)))
    have hlt : ∃ b0, b0 < w.heap.size := by
      obtain ⟨m, hm⟩ := hx
      exact ⟨_, World.block_lt_of_cell? _ _ hm⟩
    obtain ⟨b0, hb0⟩ := hlt
    clear hS0 hx
    cases hB : eachB fP t.data.toList
    · have HR : Hid (∀ w', Below w.heap.size w w' → PRet t.data.toList w (.returned (.tuple #[.slice none 0 0, .int .i64 (eachI fP t.data.toList), .int .i64 9])) w') := by
        have e1 : rdE t.data.toList = 9 := by unfold rdE; rw [if_neg (by omega), if_pos hB]
        have e2 : rdI t.data.toList = eachI fP t.data.toList := by unfold rdI; rw [if_neg (by omega), if_pos hB]
        refine Lib.hid (fun w' hb => ?_)
        have := PRet.no (l := t.data.toList) (w := w) (w' := w') (by rw [e1]; decide) hb
        rw [e1, e2] at this
        exact this
      have HEB : Hid (Calls Tryz.prog 51 #[.string t, .func (.func 52) #[] #[.pointer (some ⟨w.heap.size, 0, none⟩)]] (w.alloc (.cells #[.slice none 0 0] 26)) (fun e w' => e = .returned (.tuple #[.int .i64 (eachI fP t.data.toList), .bool false]) ∧ Below w.heap.size w w')) := by
        refine Lib.hid (HEA.out.mono ?_)
        rintro e w' ⟨rfl, _, h3⟩
        rw [hB]
        exact ⟨rfl, h3⟩
      clear HEA hB htl hb0
      obtain ⟨ei, hei⟩ : ∃ ei : Int, ei = eachI fP t.data.toList := ⟨_, rfl⟩
      rw [← hei] at HR HEB
      clear hei
      go_enter Tryz.func12, Tryz.ntmps12
      go_wp2_with (first | (go_at_call 51; refine HEB.out.mono ?_; rintro e w1 ⟨rfl, hb1⟩))
      go_ret3
      exact HR.out _ hb1
    · obtain ⟨P, hP⟩ : ∃ P, P = (lnM t.data.toList).map vP := ⟨_, rfl⟩
      obtain ⟨n, hn⟩ : ∃ n, n = (lnM t.data.toList).length := ⟨_, rfl⟩
      have HEB : Hid (Calls Tryz.prog 51 #[.string t, .func (.func 52) #[] #[.pointer (some ⟨w.heap.size, 0, none⟩)]] (w.alloc (.cells #[.slice none 0 0] 26)) (fun e w' => e = .returned (.tuple #[.int .i64 (eachI fP t.data.toList), .bool true]) ∧ ∃ A c, Sq w w' [rOwn w.heap.size 39 2 (.slice A n c) n (P.flatMap pzC), rBlk w.heap.size 26 #[.slice A n c]])) := by
        refine Lib.hid (HEA.out.mono ?_)
        rintro e w' ⟨rfl, h2, _⟩
        refine ⟨by rw [hB], ?_⟩
        have h3 := StP.open_ (h2 hB)
        rw [← hP, ← hn] at h3
        exact h3
      obtain ⟨F, hF⟩ : ∃ F, F = prF P := ⟨_, rfl⟩
      have e1 : rdE t.data.toList = F := by unfold rdE; rw [if_neg (by omega), if_neg (by rw [hB]; decide), hF, hP]
      have e2 : rdI t.data.toList = 0 := by unfold rdI; rw [if_neg (by omega), if_neg (by rw [hB]; decide)]
      have hPn : P.length = n := by rw [hP, List.length_map, hn]
      have HR : Hid (F ≠ 0 → ∀ w', Below w.heap.size w w' → PRet t.data.toList w (.returned (.tuple #[.slice none 0 0, .int .i64 0, .int .i64 F])) w') := by
        refine Lib.hid (fun hF0 w' hb => ?_)
        have := PRet.no (l := t.data.toList) (w := w) (w' := w') (by rw [e1]; exact hF0) hb
        rw [e1, e2] at this
        exact this
      have HY : Hid (F = 0 → ∀ w' A c, Below w.heap.size w w' → w'.ownsRow w.heap.size 39 2 (.slice A n c) n (P.flatMap pzC) → PRet t.data.toList w (.returned (.tuple #[.slice A n c, .int .i64 0, .int .i64 F])) w') := by
        refine Lib.hid (fun hF0 w' A c hb ho => ⟨.slice A n c, by rw [e1, e2], ?_, hb⟩)
        unfold rdL
        rw [if_pos (by rw [e1]; exact hF0), ← hP, hPn]
        exact ho
      have HCK : Hid (∀ W A c, Rd W b0 2 (.slice A n c) n (P.flatMap pzC) → Calls Tryz.prog 41 #[.slice A n c] W (BRet (.int .i64 F) W)) := by
        refine Lib.hid (fun W A c h => ?_)
        have := checkPresses_calls b0 A n c P W h
        rw [← hF] at this
        exact this
      obtain ⟨ei, hei⟩ : ∃ ei : Int, ei = eachI fP t.data.toList := ⟨_, rfl⟩
      rw [← hei] at HEB
      clear HEA hB htl e1 e2 hF hPn hP hn hei
      by_cases hF0 : F = 0
      · have HY2 := Lib.hid (HY.out hF0)
        clear HR HY
        subst hF0
        go_enter Tryz.func12, Tryz.ntmps12
        go_wp2_with (first
          | (go_at_call 51; refine HEB.out.mono ?_; rintro e w1 ⟨rfl, A, c, hS1⟩; have c1 : w1.cell? ⟨w.heap.size, 0, none⟩ = some (.slice A n c) := (hS1.nth 1 rfl).cell 0; have hr1 : Rd w1 b0 2 (.slice A n c) n (P.flatMap pzC) := Rd.own hS1.head hb0)
          | (go_at_call 41; refine (HCK.out _ _ _ hr1).mono ?_; rintro e w2 ⟨rfl, hb2⟩; have c2 := below_cell hb2 c1; have hS2 := hS1.callB hb2))
        go_ret3
        exact HY2.out _ _ _ hS2.below hS2.head
      · have HR2 := Lib.hid (HR.out hF0)
        have hFb : (F == 0) = false := by simpa using hF0
        clear HR HY hF0
        go_enter Tryz.func12, Tryz.ntmps12
        go_wp2_with (first
          | (go_at_call 51; refine HEB.out.mono ?_; rintro e w1 ⟨rfl, A, c, hS1⟩; have c1 : w1.cell? ⟨w.heap.size, 0, none⟩ = some (.slice A n c) := (hS1.nth 1 rfl).cell 0; have hr1 : Rd w1 b0 2 (.slice A n c) n (P.flatMap pzC) := Rd.own hS1.head hb0)
          | (go_at_call 41; refine (HCK.out _ _ _ hr1).mono ?_; rintro e w2 ⟨rfl, hb2⟩; have c2 := below_cell hb2 c1; have hS2 := hS1.callB hb2))
        go_ret3
        exact HR2.out _ hS2.below

set_option maxRecDepth 100000 in
set_option maxHeartbeats 2000000 in
theorem pressesRead_calls (t : ByteArray) (w : World) (hx : MxL w) (ht : Tab w) : Calls Tryz.prog 13 #[.string t] w (PRet t.data.toList w) := by
  have htl : t.data.toList.length = t.size := by simp
  by_cases hbig : 200000 < t.size
  · have HR : Hid (PRet t.data.toList w (.returned (.tuple #[.slice none 0 0, .int .i64 0, .int .i64 2])) w) := by
      have e1 : rdE t.data.toList = 2 := by unfold rdE; rw [if_pos (by omega)]
      have e2 : rdI t.data.toList = 0 := by unfold rdI; rw [if_pos (by omega)]
      have := PRet.no (l := t.data.toList) (w := w) (w' := w) (by rw [e1]; decide) (Below.refl _ _)
      rw [e1, e2] at this
      exact Lib.hid this
    clear htl hx
    go_enter Tryz.func13, Tryz.ntmps13
    go_wp2
    go_ret3
    exact HR.out
  · have hS0 : StP w (QP w w.heap.size) [] (w.alloc (.cells #[.slice none 0 0] 26)) [] := by
      refine ⟨_, ⟨none, 0, rfl⟩, ?_⟩
      exact ((Sq.start w).add #[.slice none 0 0] 26).nil w.heap.size 39 2
    have HEA := Lib.hid (linesPress_calls w (QP w w.heap.size) fP w.heap.size t _ [] (by omega) hx hS0 (readQ_calls w w.heap.size t.size hx ht (by omega)))
    have hlt : ∃ b0, b0 < w.heap.size := by
      obtain ⟨m, hm⟩ := hx
      exact ⟨_, World.block_lt_of_cell? _ _ hm⟩
    obtain ⟨b0, hb0⟩ := hlt
    clear hS0 hx
    cases hB : eachB fP t.data.toList
    · have HR : Hid (∀ w', Below w.heap.size w w' → PRet t.data.toList w (.returned (.tuple #[.slice none 0 0, .int .i64 (eachI fP t.data.toList), .int .i64 9])) w') := by
        have e1 : rdE t.data.toList = 9 := by unfold rdE; rw [if_neg (by omega), if_pos hB]
        have e2 : rdI t.data.toList = eachI fP t.data.toList := by unfold rdI; rw [if_neg (by omega), if_pos hB]
        refine Lib.hid (fun w' hb => ?_)
        have := PRet.no (l := t.data.toList) (w := w) (w' := w') (by rw [e1]; decide) hb
        rw [e1, e2] at this
        exact this
      have HEB : Hid (Calls Tryz.prog 56 #[.string t, .func (.func 57) #[] #[.pointer (some ⟨w.heap.size, 0, none⟩)]] (w.alloc (.cells #[.slice none 0 0] 26)) (fun e w' => e = .returned (.tuple #[.int .i64 (eachI fP t.data.toList), .bool false]) ∧ Below w.heap.size w w')) := by
        refine Lib.hid (HEA.out.mono ?_)
        rintro e w' ⟨rfl, _, h3⟩
        rw [hB]
        exact ⟨rfl, h3⟩
      clear HEA hB htl hb0
      obtain ⟨ei, hei⟩ : ∃ ei : Int, ei = eachI fP t.data.toList := ⟨_, rfl⟩
      rw [← hei] at HR HEB
      clear hei
      go_enter Tryz.func13, Tryz.ntmps13
      go_wp2_with (first | (go_at_call 56; refine HEB.out.mono ?_; rintro e w1 ⟨rfl, hb1⟩))
      go_ret3
      exact HR.out _ hb1
    · obtain ⟨P, hP⟩ : ∃ P, P = (lnM t.data.toList).map vP := ⟨_, rfl⟩
      obtain ⟨n, hn⟩ : ∃ n, n = (lnM t.data.toList).length := ⟨_, rfl⟩
      have HEB : Hid (Calls Tryz.prog 56 #[.string t, .func (.func 57) #[] #[.pointer (some ⟨w.heap.size, 0, none⟩)]] (w.alloc (.cells #[.slice none 0 0] 26)) (fun e w' => e = .returned (.tuple #[.int .i64 (eachI fP t.data.toList), .bool true]) ∧ ∃ A c, Sq w w' [rOwn w.heap.size 39 2 (.slice A n c) n (P.flatMap pzC), rBlk w.heap.size 26 #[.slice A n c]])) := by
        refine Lib.hid (HEA.out.mono ?_)
        rintro e w' ⟨rfl, h2, _⟩
        refine ⟨by rw [hB], ?_⟩
        have h3 := StP.open_ (h2 hB)
        rw [← hP, ← hn] at h3
        exact h3
      obtain ⟨F, hF⟩ : ∃ F, F = prF P := ⟨_, rfl⟩
      have e1 : rdE t.data.toList = F := by unfold rdE; rw [if_neg (by omega), if_neg (by rw [hB]; decide), hF, hP]
      have e2 : rdI t.data.toList = 0 := by unfold rdI; rw [if_neg (by omega), if_neg (by rw [hB]; decide)]
      have hPn : P.length = n := by rw [hP, List.length_map, hn]
      have HR : Hid (F ≠ 0 → ∀ w', Below w.heap.size w w' → PRet t.data.toList w (.returned (.tuple #[.slice none 0 0, .int .i64 0, .int .i64 F])) w') := by
        refine Lib.hid (fun hF0 w' hb => ?_)
        have := PRet.no (l := t.data.toList) (w := w) (w' := w') (by rw [e1]; exact hF0) hb
        rw [e1, e2] at this
        exact this
      have HY : Hid (F = 0 → ∀ w' A c, Below w.heap.size w w' → w'.ownsRow w.heap.size 39 2 (.slice A n c) n (P.flatMap pzC) → PRet t.data.toList w (.returned (.tuple #[.slice A n c, .int .i64 0, .int .i64 F])) w') := by
        refine Lib.hid (fun hF0 w' A c hb ho => ⟨.slice A n c, by rw [e1, e2], ?_, hb⟩)
        unfold rdL
        rw [if_pos (by rw [e1]; exact hF0), ← hP, hPn]
        exact ho
      have HCK : Hid (∀ W A c, Rd W b0 2 (.slice A n c) n (P.flatMap pzC) → Calls Tryz.prog 10 #[.slice A n c] W (BRet (.int .i64 F) W)) := by
        refine Lib.hid (fun W A c h => ?_)
        have := pressesFault_calls b0 A n c P W h
        rw [← hF] at this
        exact this
      obtain ⟨ei, hei⟩ : ∃ ei : Int, ei = eachI fP t.data.toList := ⟨_, rfl⟩
      rw [← hei] at HEB
      clear HEA hB htl e1 e2 hF hPn hP hn hei
      by_cases hF0 : F = 0
      · have HY2 := Lib.hid (HY.out hF0)
        clear HR HY
        subst hF0
        go_enter Tryz.func13, Tryz.ntmps13
        go_wp2_with (first
          | (go_at_call 56; refine HEB.out.mono ?_; rintro e w1 ⟨rfl, A, c, hS1⟩; have c1 : w1.cell? ⟨w.heap.size, 0, none⟩ = some (.slice A n c) := (hS1.nth 1 rfl).cell 0; have hr1 : Rd w1 b0 2 (.slice A n c) n (P.flatMap pzC) := Rd.own hS1.head hb0)
          | (go_at_call 10; refine (HCK.out _ _ _ hr1).mono ?_; rintro e w2 ⟨rfl, hb2⟩; have c2 := below_cell hb2 c1; have hS2 := hS1.callB hb2))
        go_ret3
        exact HY2.out _ _ _ hS2.below hS2.head
      · have HR2 := Lib.hid (HR.out hF0)
        have hFb : (F == 0) = false := by simpa using hF0
        clear HR HY hF0
        go_enter Tryz.func13, Tryz.ntmps13
        go_wp2_with (first
          | (go_at_call 56; refine HEB.out.mono ?_; rintro e w1 ⟨rfl, A, c, hS1⟩; have c1 : w1.cell? ⟨w.heap.size, 0, none⟩ = some (.slice A n c) := (hS1.nth 1 rfl).cell 0; have hr1 : Rd w1 b0 2 (.slice A n c) n (P.flatMap pzC) := Rd.own hS1.head hb0)
          | (go_at_call 10; refine (HCK.out _ _ _ hr1).mono ?_; rintro e w2 ⟨rfl, hb2⟩; have c2 := below_cell hb2 c1; have hS2 := hS1.callB hb2))
        go_ret3
        exact HR2.out _ hS2.below
end Go.Proofs.YticbbehfphnbhaaGreatDoor
