/-
  Steps that are read: race.Read and splitref2.StepsRead by contracts: both answer alike. (Printed by gen_stp5.py.)
-/
import Derived.Test.YtaendemgkabdfaaGreatDoorZStp3
import Derived.Test.YtaendemgkabdfaaGreatDoorZEachRace
namespace Go.Proofs.YtaendemgkabdfaaGreatDoor
open Go Go.RowKit TxtP

/-- what a text reads as: its error, the line at fault, the steps -/
def srdE (l : List UInt8) : Int := if 200000 < l.length then 2 else if eachB fT l = false then 9 else stF ((lnM l).map vT)
def srdI (l : List UInt8) : Int := if 200000 < l.length then 0 else if eachB fT l = false then eachI fT l else 0
def srdL (l : List UInt8) : List Stp := if srdE l = 0 then (lnM l).map vT else []
def SRet (l : List UInt8) (w : World) (e : Ending) (w' : World) : Prop :=
  ∃ v, e = .returned (.tuple #[v, .int .i64 (srdI l), .int .i64 (srdE l)]) ∧ w'.ownsRow w.heap.size 39 3 v (srdL l).length ((srdL l).flatMap stC) ∧ Below w.heap.size w w'
theorem SRet.no {l : List UInt8} {w w' : World} (hE : srdE l ≠ 0) (hb : Below w.heap.size w w') : SRet l w (.returned (.tuple #[.slice none 0 0, .int .i64 (srdI l), .int .i64 (srdE l)])) w' := by
  refine ⟨_, rfl, ?_, hb⟩
  unfold srdL
  rw [if_neg hE]
  exact World.ownsRow_nil _ _ _ _
theorem vT3_who : ∀ p : List ByteArray, (vT3 p).who = ⟨#[]⟩ ∨ (vT3 p).who ∈ p
  | [] => .inl rfl
  | [_] => .inl rfl
  | [_, _] => .inl rfl
  | [_, _, c] => .inr (by show c ∈ _; simp)
  | _ :: _ :: _ :: _ :: _ => .inl rfl
theorem lnM_who (l : List UInt8) : ∀ x ∈ (lnM l).map vT, x.who.size ≤ l.length := by
  intro x hx
  rw [List.mem_map] at hx
  obtain ⟨p, hp, rfl⟩ := hx
  have h1 : p.length ≤ l.length := spl_le 10 l p (List.dropLast_subset _ hp)
  rcases vT3_who (pcs 32 ⟨p.toArray⟩) with h | h
  · have : (vT p).who = ⟨#[]⟩ := h
    rw [this]; exact Nat.zero_le _
  · have h2 := pcs_size h
    rw [ba_size] at h2
    have : (vT p).who.size ≤ p.length := h2
    omega

set_option maxRecDepth 100000 in
set_option maxHeartbeats 2000000 in
theorem stepRead_calls (t : ByteArray) (w : World) (hx : MxL w) : Calls Tryz.prog 11 #[.string t] w (SRet t.data.toList w) := by
  have htl : t.data.toList.length = t.size := by simp
  by_cases hbig : 200000 < t.size
  · have HR : Hid (SRet t.data.toList w (.returned (.tuple #[.slice none 0 0, .int .i64 0, .int .i64 2])) w) := by
      have e1 : srdE t.data.toList = 2 := by unfold srdE; rw [if_pos (by omega)]
      have e2 : srdI t.data.toList = 0 := by unfold srdI; rw [if_pos (by omega)]
      have := SRet.no (l := t.data.toList) (w := w) (w' := w) (by rw [e1]; decide) (Below.refl _ _)
      rw [e1, e2] at this
      exact Lib.hid this
    clear htl hx
    go_enter Tryz.func11, Tryz.ntmps11
    go_wp2
    go_ret3
    exact HR.out
  · have hS0 : StP w (QT w w.heap.size) [] (w.alloc (.cells #[.slice none 0 0] 26)) [] := by
      refine ⟨_, ⟨none, 0, rfl⟩, ?_⟩
      exact ((Sq.start w).add #[.slice none 0 0] 26).nil w.heap.size 39 3
    have HEA := Lib.hid (eachRace_calls w (QT w w.heap.size) fT w.heap.size t _ [] (by omega) hx hS0 (readT_calls w w.heap.size t.size hx (by omega)))
    have hlt : ∃ b0, b0 < w.heap.size := by
      obtain ⟨m, hm⟩ := hx
      exact ⟨_, World.block_lt_of_cell? _ _ hm⟩
    obtain ⟨b0, hb0⟩ := hlt
    clear hS0 hx
    cases hB : eachB fT t.data.toList
    · have HR : Hid (∀ w', Below w.heap.size w w' → SRet t.data.toList w (.returned (.tuple #[.slice none 0 0, .int .i64 (eachI fT t.data.toList), .int .i64 9])) w') := by
        have e1 : srdE t.data.toList = 9 := by unfold srdE; rw [if_neg (by omega), if_pos hB]
        have e2 : srdI t.data.toList = eachI fT t.data.toList := by unfold srdI; rw [if_neg (by omega), if_pos hB]
        refine Lib.hid (fun w' hb => ?_)
        have := SRet.no (l := t.data.toList) (w := w) (w' := w') (by rw [e1]; decide) hb
        rw [e1, e2] at this
        exact this
      have HEB : Hid (Calls Tryz.prog 43 #[.string t, .func (.func 44) #[] #[.pointer (some ⟨w.heap.size, 0, none⟩)]] (w.alloc (.cells #[.slice none 0 0] 26)) (fun e w' => e = .returned (.tuple #[.int .i64 (eachI fT t.data.toList), .bool false]) ∧ Below w.heap.size w w')) := by
        refine Lib.hid (HEA.out.mono ?_)
        rintro e w' ⟨rfl, _, h3⟩
        rw [hB]
        exact ⟨rfl, h3⟩
      clear HEA hB htl hb0
      obtain ⟨ei, hei⟩ : ∃ ei : Int, ei = eachI fT t.data.toList := ⟨_, rfl⟩
      rw [← hei] at HR HEB
      clear hei
      go_enter Tryz.func11, Tryz.ntmps11
      go_wp2_with (first | (go_at_call 43; refine HEB.out.mono ?_; rintro e w1 ⟨rfl, hb1⟩))
      go_ret3
      exact HR.out _ hb1
    · obtain ⟨P, hP⟩ : ∃ P, P = (lnM t.data.toList).map vT := ⟨_, rfl⟩
      obtain ⟨n, hn⟩ : ∃ n, n = (lnM t.data.toList).length := ⟨_, rfl⟩
      have HEB : Hid (Calls Tryz.prog 43 #[.string t, .func (.func 44) #[] #[.pointer (some ⟨w.heap.size, 0, none⟩)]] (w.alloc (.cells #[.slice none 0 0] 26)) (fun e w' => e = .returned (.tuple #[.int .i64 (eachI fT t.data.toList), .bool true]) ∧ ∃ A c, Sq w w' [rOwn w.heap.size 39 3 (.slice A n c) n (P.flatMap stC), rBlk w.heap.size 26 #[.slice A n c]])) := by
        refine Lib.hid (HEA.out.mono ?_)
        rintro e w' ⟨rfl, h2, _⟩
        refine ⟨by rw [hB], ?_⟩
        have h3 := StP.openT (h2 hB)
        rw [← hP, ← hn] at h3
        exact h3
      obtain ⟨F, hF⟩ : ∃ F, F = stF P := ⟨_, rfl⟩
      have e1 : srdE t.data.toList = F := by unfold srdE; rw [if_neg (by omega), if_neg (by rw [hB]; decide), hF, hP]
      have e2 : srdI t.data.toList = 0 := by unfold srdI; rw [if_neg (by omega), if_neg (by rw [hB]; decide)]
      have hPn : P.length = n := by rw [hP, List.length_map, hn]
      have HPZ : Hid (∀ x ∈ P, x.who.size ≤ 1000000) := Lib.hid (fun x hx => by have := lnM_who t.data.toList x (by rw [← hP]; exact hx); omega)
      have HR : Hid (F ≠ 0 → ∀ w', Below w.heap.size w w' → SRet t.data.toList w (.returned (.tuple #[.slice none 0 0, .int .i64 0, .int .i64 F])) w') := by
        refine Lib.hid (fun hF0 w' hb => ?_)
        have := SRet.no (l := t.data.toList) (w := w) (w' := w') (by rw [e1]; exact hF0) hb
        rw [e1, e2] at this
        exact this
      have HY : Hid (F = 0 → ∀ w' A c, Below w.heap.size w w' → w'.ownsRow w.heap.size 39 3 (.slice A n c) n (P.flatMap stC) → SRet t.data.toList w (.returned (.tuple #[.slice A n c, .int .i64 0, .int .i64 F])) w') := by
        refine Lib.hid (fun hF0 w' A c hb ho => ⟨.slice A n c, by rw [e1, e2], ?_, hb⟩)
        unfold srdL
        rw [if_pos (by rw [e1]; exact hF0), ← hP, hPn]
        exact ho
      have HCK : Hid (∀ W A c, Rd W b0 3 (.slice A n c) n (P.flatMap stC) → Calls Tryz.prog 32 #[.slice A n c] W (BRet (.int .i64 F) W)) := by
        refine Lib.hid (fun W A c h => ?_)
        have := checkSteps_calls b0 A n c P W h HPZ.out
        rw [← hF] at this
        exact this
      obtain ⟨ei, hei⟩ : ∃ ei : Int, ei = eachI fT t.data.toList := ⟨_, rfl⟩
      rw [← hei] at HEB
      clear HEA hB htl e1 e2 hF hPn hP hn hei
      by_cases hF0 : F = 0
      · have HY2 := Lib.hid (HY.out hF0)
        clear HR HY
        subst hF0
        go_enter Tryz.func11, Tryz.ntmps11
        go_wp2_with (first
          | (go_at_call 43; refine HEB.out.mono ?_; rintro e w1 ⟨rfl, A, c, hS1⟩; have c1 : w1.cell? ⟨w.heap.size, 0, none⟩ = some (.slice A n c) := (hS1.nth 1 rfl).cell 0; have hr1 : Rd w1 b0 3 (.slice A n c) n (P.flatMap stC) := Rd.own hS1.head hb0)
          | (go_at_call 32; refine (HCK.out _ _ _ hr1).mono ?_; rintro e w2 ⟨rfl, hb2⟩; have c2 := below_cell hb2 c1; have hS2 := hS1.callB hb2))
        go_ret3
        exact HY2.out _ _ _ hS2.below hS2.head
      · have HR2 := Lib.hid (HR.out hF0)
        have hFb : (F == 0) = false := by simpa using hF0
        clear HR HY hF0
        go_enter Tryz.func11, Tryz.ntmps11
        go_wp2_with (first
          | (go_at_call 43; refine HEB.out.mono ?_; rintro e w1 ⟨rfl, A, c, hS1⟩; have c1 : w1.cell? ⟨w.heap.size, 0, none⟩ = some (.slice A n c) := (hS1.nth 1 rfl).cell 0; have hr1 : Rd w1 b0 3 (.slice A n c) n (P.flatMap stC) := Rd.own hS1.head hb0)
          | (go_at_call 32; refine (HCK.out _ _ _ hr1).mono ?_; rintro e w2 ⟨rfl, hb2⟩; have c2 := below_cell hb2 c1; have hS2 := hS1.callB hb2))
        go_ret3
        exact HR2.out _ hS2.below

set_option maxRecDepth 100000 in
set_option maxHeartbeats 2000000 in
theorem stepsRead_calls (t : ByteArray) (w : World) (hx : MxL w) (ht : Tab w) : Calls Tryz.prog 12 #[.string t] w (SRet t.data.toList w) := by
  have htl : t.data.toList.length = t.size := by simp
  by_cases hbig : 200000 < t.size
  · have HR : Hid (SRet t.data.toList w (.returned (.tuple #[.slice none 0 0, .int .i64 0, .int .i64 2])) w) := by
      have e1 : srdE t.data.toList = 2 := by unfold srdE; rw [if_pos (by omega)]
      have e2 : srdI t.data.toList = 0 := by unfold srdI; rw [if_pos (by omega)]
      have := SRet.no (l := t.data.toList) (w := w) (w' := w) (by rw [e1]; decide) (Below.refl _ _)
      rw [e1, e2] at this
      exact Lib.hid this
    clear htl hx
    go_enter Tryz.func12, Tryz.ntmps12
    go_wp2
    go_ret3
    exact HR.out
  · have hS0 : StP w (QT w w.heap.size) [] (w.alloc (.cells #[.slice none 0 0] 26)) [] := by
      refine ⟨_, ⟨none, 0, rfl⟩, ?_⟩
      exact ((Sq.start w).add #[.slice none 0 0] 26).nil w.heap.size 39 3
    have HEA := Lib.hid (linesRace_calls w (QT w w.heap.size) fT w.heap.size t _ [] (by omega) hx hS0 (readTQ_calls w w.heap.size t.size hx ht (by omega)))
    have hlt : ∃ b0, b0 < w.heap.size := by
      obtain ⟨m, hm⟩ := hx
      exact ⟨_, World.block_lt_of_cell? _ _ hm⟩
    obtain ⟨b0, hb0⟩ := hlt
    clear hS0 hx
    cases hB : eachB fT t.data.toList
    · have HR : Hid (∀ w', Below w.heap.size w w' → SRet t.data.toList w (.returned (.tuple #[.slice none 0 0, .int .i64 (eachI fT t.data.toList), .int .i64 9])) w') := by
        have e1 : srdE t.data.toList = 9 := by unfold srdE; rw [if_neg (by omega), if_pos hB]
        have e2 : srdI t.data.toList = eachI fT t.data.toList := by unfold srdI; rw [if_neg (by omega), if_pos hB]
        refine Lib.hid (fun w' hb => ?_)
        have := SRet.no (l := t.data.toList) (w := w) (w' := w') (by rw [e1]; decide) hb
        rw [e1, e2] at this
        exact this
      have HEB : Hid (Calls Tryz.prog 46 #[.string t, .func (.func 47) #[] #[.pointer (some ⟨w.heap.size, 0, none⟩)]] (w.alloc (.cells #[.slice none 0 0] 26)) (fun e w' => e = .returned (.tuple #[.int .i64 (eachI fT t.data.toList), .bool false]) ∧ Below w.heap.size w w')) := by
        refine Lib.hid (HEA.out.mono ?_)
        rintro e w' ⟨rfl, _, h3⟩
        rw [hB]
        exact ⟨rfl, h3⟩
      clear HEA hB htl hb0
      obtain ⟨ei, hei⟩ : ∃ ei : Int, ei = eachI fT t.data.toList := ⟨_, rfl⟩
      rw [← hei] at HR HEB
      clear hei
      go_enter Tryz.func12, Tryz.ntmps12
      go_wp2_with (first | (go_at_call 46; refine HEB.out.mono ?_; rintro e w1 ⟨rfl, hb1⟩))
      go_ret3
      exact HR.out _ hb1
    · obtain ⟨P, hP⟩ : ∃ P, P = (lnM t.data.toList).map vT := ⟨_, rfl⟩
      obtain ⟨n, hn⟩ : ∃ n, n = (lnM t.data.toList).length := ⟨_, rfl⟩
      have HEB : Hid (Calls Tryz.prog 46 #[.string t, .func (.func 47) #[] #[.pointer (some ⟨w.heap.size, 0, none⟩)]] (w.alloc (.cells #[.slice none 0 0] 26)) (fun e w' => e = .returned (.tuple #[.int .i64 (eachI fT t.data.toList), .bool true]) ∧ ∃ A c, Sq w w' [rOwn w.heap.size 39 3 (.slice A n c) n (P.flatMap stC), rBlk w.heap.size 26 #[.slice A n c]])) := by
        refine Lib.hid (HEA.out.mono ?_)
        rintro e w' ⟨rfl, h2, _⟩
        refine ⟨by rw [hB], ?_⟩
        have h3 := StP.openT (h2 hB)
        rw [← hP, ← hn] at h3
        exact h3
      obtain ⟨F, hF⟩ : ∃ F, F = stF P := ⟨_, rfl⟩
      have e1 : srdE t.data.toList = F := by unfold srdE; rw [if_neg (by omega), if_neg (by rw [hB]; decide), hF, hP]
      have e2 : srdI t.data.toList = 0 := by unfold srdI; rw [if_neg (by omega), if_neg (by rw [hB]; decide)]
      have hPn : P.length = n := by rw [hP, List.length_map, hn]
      have HPZ : Hid (∀ x ∈ P, x.who.size ≤ 1000000) := Lib.hid (fun x hx => by have := lnM_who t.data.toList x (by rw [← hP]; exact hx); omega)
      have HR : Hid (F ≠ 0 → ∀ w', Below w.heap.size w w' → SRet t.data.toList w (.returned (.tuple #[.slice none 0 0, .int .i64 0, .int .i64 F])) w') := by
        refine Lib.hid (fun hF0 w' hb => ?_)
        have := SRet.no (l := t.data.toList) (w := w) (w' := w') (by rw [e1]; exact hF0) hb
        rw [e1, e2] at this
        exact this
      have HY : Hid (F = 0 → ∀ w' A c, Below w.heap.size w w' → w'.ownsRow w.heap.size 39 3 (.slice A n c) n (P.flatMap stC) → SRet t.data.toList w (.returned (.tuple #[.slice A n c, .int .i64 0, .int .i64 F])) w') := by
        refine Lib.hid (fun hF0 w' A c hb ho => ⟨.slice A n c, by rw [e1, e2], ?_, hb⟩)
        unfold srdL
        rw [if_pos (by rw [e1]; exact hF0), ← hP, hPn]
        exact ho
      have HCK : Hid (∀ W A c, Rd W b0 3 (.slice A n c) n (P.flatMap stC) → Calls Tryz.prog 9 #[.slice A n c] W (BRet (.int .i64 F) W)) := by
        refine Lib.hid (fun W A c h => ?_)
        have := stepsFault_calls b0 A n c P W h HPZ.out
        rw [← hF] at this
        exact this
      obtain ⟨ei, hei⟩ : ∃ ei : Int, ei = eachI fT t.data.toList := ⟨_, rfl⟩
      rw [← hei] at HEB
      clear HEA hB htl e1 e2 hF hPn hP hn hei
      by_cases hF0 : F = 0
      · have HY2 := Lib.hid (HY.out hF0)
        clear HR HY
        subst hF0
        go_enter Tryz.func12, Tryz.ntmps12
        go_wp2_with (first
          | (go_at_call 46; refine HEB.out.mono ?_; rintro e w1 ⟨rfl, A, c, hS1⟩; have c1 : w1.cell? ⟨w.heap.size, 0, none⟩ = some (.slice A n c) := (hS1.nth 1 rfl).cell 0; have hr1 : Rd w1 b0 3 (.slice A n c) n (P.flatMap stC) := Rd.own hS1.head hb0)
          | (go_at_call 9; refine (HCK.out _ _ _ hr1).mono ?_; rintro e w2 ⟨rfl, hb2⟩; have c2 := below_cell hb2 c1; have hS2 := hS1.callB hb2))
        go_ret3
        exact HY2.out _ _ _ hS2.below hS2.head
      · have HR2 := Lib.hid (HR.out hF0)
        have hFb : (F == 0) = false := by simpa using hF0
        clear HR HY hF0
        go_enter Tryz.func12, Tryz.ntmps12
        go_wp2_with (first
          | (go_at_call 46; refine HEB.out.mono ?_; rintro e w1 ⟨rfl, A, c, hS1⟩; have c1 : w1.cell? ⟨w.heap.size, 0, none⟩ = some (.slice A n c) := (hS1.nth 1 rfl).cell 0; have hr1 : Rd w1 b0 3 (.slice A n c) n (P.flatMap stC) := Rd.own hS1.head hb0)
          | (go_at_call 9; refine (HCK.out _ _ _ hr1).mono ?_; rintro e w2 ⟨rfl, hb2⟩; have c2 := below_cell hb2 c1; have hS2 := hS1.callB hb2))
        go_ret3
        exact HR2.out _ hS2.below
end Go.Proofs.YtaendemgkabdfaaGreatDoor
