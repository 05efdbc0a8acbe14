/-
  base.Each and splitref2.Lines at the closures of one law: both read the lines one by one. (Printed by gen_each.py.)
-/
import Derived.Test.YthbcogekfdllmaaGreatDoorZTxt2
import Derived.Deep.DeepCutAuto
import Derived.Deep.CutBlock
import Derived.Deep.RegionLaw
import Derived.BigQuiet
import Derived.Test.YthbcogekfdllmaaGreatDoorZRtx1
import Derived.Test.YthbcogekfdllmaaGreatDoorZRule2
namespace Go.Proofs.YthbcogekfdllmaaGreatDoor
open Go Go.RowKit TxtP

set_option maxRecDepth 100000 in
set_option maxHeartbeats 2000000 in
theorem eachRun_calls (w0 : World) (Q : List (List UInt8) → List Rsc → Prop) (f : List UInt8 → Bool) (gO : Nat) (text : ByteArray) (W : World) (L : List Rsc) (hs : text.size < 4294967281) (hx : MxL w0) (h : StP w0 Q [] W L)
    (HC0 : CloR w0 Q 106 (.pointer (some ⟨gO, 0, none⟩)) f text.size) :
    Calls Tryz.prog 105 #[.string text, .func (.func 106) #[] #[.pointer (some ⟨gO, 0, none⟩)]] W (EachR w0 Q f text.data.toList L) := by
  have HLN := Lib.hid (lines_calls text W hs (hx.below h.below))
  have HC := Lib.hid HC0
  obtain ⟨ls, hls⟩ : ∃ ls, ls = lnsP text := ⟨_, rfl⟩
  obtain ⟨B, hB⟩ : ∃ B, B = lneP text := ⟨_, rfl⟩
  obtain ⟨M, hM⟩ : ∃ M, M = lnM text.data.toList := ⟨_, rfl⟩
  have hcnt := lns_count text
  have HZ : Hid (∀ k (h : k < ls.length), ls[k].size ≤ text.size) := Lib.hid (fun k h => lns_size (by rw [← hls]; exact List.getElem_mem h))
  have HAT : Hid (∀ (k : Nat) W', k < M.length → (∀ j (h : j < M.length), j < k → f M[j] = true) → (∀ (h : k < M.length), f M[k] = false) → Below w0.heap.size w0 W' → EachR w0 Q f text.data.toList L (.returned (.tuple #[.int .i64 k, .bool false])) W') := by
    rw [hM]
    exact Lib.hid (fun k W' hk h1 h2 h3 => EachR.at_ k hk h1 (h2 hk) h3)
  have HNIL : Hid (ls = [] → EachR w0 Q f text.data.toList L (.returned (.tuple #[.int .i64 0, .bool true])) W → True) := Lib.hid (fun _ _ => trivial)
  clear HNIL
  have HYES : Hid (B = true → ls.map (·.data.toList) = M ∧ ∀ W', (∀ j (h : j < M.length), f M[j] = true) → StP w0 Q M W' L → EachR w0 Q f text.data.toList L (.returned (.tuple #[.int .i64 0, .bool true])) W') := by
    rw [hls, hB, hM]
    exact Lib.hid (fun hb => ⟨(lns_yes hb).1, fun W' h1 h2 => EachR.all_ (lns_yes hb).2 h1 h2⟩)
  have HNO : Hid (B = false → ∃ z, ls.map (·.data.toList) = M ++ [z] ∧ ∀ W', (∀ j (h : j < M.length), f M[j] = true) → Below w0.heap.size w0 W' → EachR w0 Q f text.data.toList L (.returned (.tuple #[.int .i64 M.length, .bool false])) W') := by
    rw [hls, hB, hM]
    refine Lib.hid (fun hb => ?_)
    obtain ⟨z, h1, h2⟩ := lns_no hb
    exact ⟨z, h1, fun W' h3 h4 => EachR.open_ h2 h3 h4⟩
  have HN0 : Hid (ls = [] → B = true) := by
    rw [hls, hB]; exact Lib.hid lns_nil
  have HLR : Hid (∀ e W', LnsR text W e W' → Below W.heap.size W W' ∧ ((ls = [] ∧ e = .returned (.tuple #[.slice none 0 0, .bool B])) ∨ (e = .returned (.tuple #[.slice (some ⟨W.heap.size, 0, none⟩) ls.length ls.length, .bool B]) ∧ Blk W' W.heap.size 9 (strCs ls)))) := by
    rw [hls, hB]
    exact Lib.hid (fun e W' h => h)
  rw [← hls] at hcnt
  clear hls hB hM HC0 hx
  have hgoal : Calls Tryz.prog 155 #[.string text] W (fun e W' => Below W.heap.size W W' ∧ ((ls = [] ∧ e = .returned (.tuple #[.slice none 0 0, .bool B])) ∨ (e = .returned (.tuple #[.slice (some ⟨W.heap.size, 0, none⟩) ls.length ls.length, .bool B]) ∧ Blk W' W.heap.size 9 (strCs ls)))) :=
    HLN.out.mono (fun e W' h => HLR.out e W' h)
  have HG := Lib.hid hgoal
  clear hgoal HLN HLR
  by_cases hnil : ls = []
  · have hb := HN0.out hnil
    obtain ⟨he, hy⟩ := HYES.out hb
    rw [hnil] at he HG
    have hM0 : M = [] := by rw [← he]; rfl
    have HY : Hid (∀ W', StP w0 Q [] W' L → EachR w0 Q f text.data.toList L (.returned (.tuple #[.int .i64 0, .bool true])) W') := by
      rw [hM0] at hy
      exact Lib.hid (fun W' h2 => hy W' (fun j h => by cases h) h2)
    subst hb
    have HG2 : Hid (Calls Tryz.prog 155 #[.string text] W (fun e W' => ∃ A c, e = .returned (.tuple #[.slice A 0 c, .bool true]) ∧ Below W.heap.size W W')) := by
      refine Lib.hid (HG.out.mono ?_)
      rintro e W' ⟨h1, ⟨_, rfl⟩ | ⟨rfl, _⟩⟩
      · exact ⟨_, _, rfl, h1⟩
      · exact ⟨_, _, rfl, h1⟩
    clear HG HYES HNO HN0 HAT HZ he hy hM0 hnil
    go_enter Tryz.func105, Tryz.ntmps105
    go_wp2_with (first | (go_at_call 155; refine HG2.out.mono ?_; rintro e w1 ⟨A1, c1, rfl, hb1⟩))
    go_loop [17] (fun i => i = .int .i64 0) (fun i => 0)
    case atStart => rfl
    case round =>
      subst hrel
      go_wp2
      go_ret2
      exact HY.out _ (h.callB hb1)
  · have hn0 : 0 < ls.length := List.length_pos_iff.2 hnil
    have HG2 : Hid (Calls Tryz.prog 155 #[.string text] W (fun e W' => e = .returned (.tuple #[.slice (some ⟨W.heap.size, 0, none⟩) ls.length ls.length, .bool B]) ∧ StP w0 Q [] W' (rBlk W.heap.size 9 (strCs ls) :: L))) := by
      refine Lib.hid (HG.out.mono ?_)
      rintro e W' ⟨h1, ⟨h2, rfl⟩ | ⟨rfl, h2⟩⟩
      · exact absurd h2 hnil
      · exact ⟨rfl, h.blk h1 h2 (Nat.le_refl _)⟩
    clear HG HN0 h
    obtain ⟨n, hn⟩ : ∃ n, n = ls.length := ⟨_, rfl⟩
    have HML : Hid (M.length ≤ n ∧ (B = true → n = M.length) ∧ (B = false → n = M.length + 1) ∧ ∀ k (h : k < ls.length) (h2 : k < M.length), ls[k].data.toList = M[k]) := by
      cases hBv : B
      · obtain ⟨z, h1, _⟩ := HNO.out hBv
        have h2 : n = M.length + 1 := by
          have h5 := congrArg List.length h1
          rw [List.length_map, List.length_append, List.length_singleton] at h5
          omega
        refine Lib.hid ⟨by omega, (by intro h; cases h), fun _ => h2, fun k h h3 => ?_⟩
        have h4 : (ls.map (·.data.toList))[k]? = some M[k] := by rw [h1, List.getElem?_append_left h3, List.getElem?_eq_getElem h3]
        rw [List.getElem?_map, List.getElem?_eq_getElem h] at h4
        exact Option.some.inj h4
      · obtain ⟨h1, _⟩ := HYES.out hBv
        have h2 : n = M.length := by
          have h5 := congrArg List.length h1
          rw [List.length_map] at h5
          omega
        refine Lib.hid ⟨by omega, fun _ => h2, (by intro h; cases h), fun k h h3 => ?_⟩
        have h4 : (ls.map (·.data.toList))[k]? = some M[k] := by rw [h1, List.getElem?_eq_getElem h3]
        rw [List.getElem?_map, List.getElem?_eq_getElem h] at h4
        exact Option.some.inj h4
    have HY : Hid (∀ W', B = true → (∀ j (h : j < M.length), f M[j] = true) → StP w0 Q M W' L → EachR w0 Q f text.data.toList L (.returned (.tuple #[.int .i64 0, .bool true])) W') := Lib.hid (fun W' hb => (HYES.out hb).2 W')
    have HO : Hid (∀ W', B = false → (∀ j (h : j < M.length), f M[j] = true) → Below w0.heap.size w0 W' → EachR w0 Q f text.data.toList L (.returned (.tuple #[.int .i64 M.length, .bool false])) W') := by
      refine Lib.hid (fun W' hb => ?_)
      obtain ⟨_, _, h⟩ := HNO.out hb
      exact h W'
    clear HYES HNO hnil
    rw [← hn] at HG2 hn0 hcnt
    have HN := Lib.hid hn
    obtain ⟨H, hH⟩ : ∃ H, H = W.heap.size := ⟨_, rfl⟩
    rw [← hH] at HG2
    clear hn hH
    go_enter Tryz.func105, Tryz.ntmps105
    go_wp2_with (first | (go_at_call 155; refine HG2.out.mono ?_; rintro e w1 ⟨rfl, hS1⟩))
    go_loopw [17] (fun i wr => ∃ k : Nat, k ≤ M.length ∧ i = .int .i64 k ∧ Hid (∀ j (h : j < M.length), j < k → f M[j] = true) ∧ StP w0 Q (M.take k) wr (rBlk H 9 (strCs ls) :: L)) (fun i _ => n - (intOf i).toNat)
    case atStart => exact ⟨0, Nat.zero_le _, rfl, Lib.hid (fun j h hj => by omega), by rw [List.take_zero]; exact hS1⟩
    case round =>
      clear hS1
      obtain ⟨k, hk, rfl, HF, hS⟩ := hrel
      obtain ⟨hmn, hmt, hmf, hme⟩ := HML.out
      by_cases hlt : k < n
      · have hkl : k < ls.length := by rw [← HN.out]; exact hlt
        have hc := (hS.head.cell k).trans (strCs_at hkl)
        have hz := HZ.out k hkl
        by_cases hkm : k < M.length
        · have hd := hme k hkl hkm
          obtain ⟨x, hx⟩ : ∃ x, x = ls[k] := ⟨_, rfl⟩
          rw [← hx] at hc hz hd
          have HK := Lib.hid (HC.out wr (M.take k) x _ hS hz (by rw [List.length_take]; omega))
          rw [hd, ← List.take_succ_eq_append_getElem hkm] at HK
          clear hx hd hz hme
          cases hfv : f M[k]
          · rw [hfv] at HK
            have HR : Hid (∀ W', Below w0.heap.size w0 W' → EachR w0 Q f text.data.toList L (.returned (.tuple #[.int .i64 k, .bool false])) W') := Lib.hid (fun W' h3 => HAT.out k W' hkm HF.out (fun _ => hfv) h3)
            clear hfv
            cases hBv : B
            · have hkn : ¬ ((k : Int) = (n : Int) - 1) := by have := hmf hBv; omega
              have hkb : ((k : Int) == (n : Int) - 1) = false := by simpa using hkn
              subst hBv
              clear hmt hmf
              go_wp2_with (first | (go_at_call 106; refine HK.out.mono ?_; rintro e w2 ⟨rfl, _, hb2⟩))
              go_ret2
              exact HR.out _ hb2
            · subst hBv
              clear hmt hmf
              go_wp2_with (first | (go_at_call 106; refine HK.out.mono ?_; rintro e w2 ⟨rfl, _, hb2⟩))
              go_ret2
              exact HR.out _ hb2
          · rw [hfv] at HK
            have HF2 : Hid (∀ j (h : j < M.length), j < k + 1 → f M[j] = true) := by
              refine Lib.hid (fun j h hj => ?_)
              by_cases hjk : j = k
              · subst hjk; exact hfv
              · exact HF.out j h (by omega)
            clear hfv
            cases hBv : B
            · have hkn : ¬ ((k : Int) = (n : Int) - 1) := by have := hmf hBv; omega
              have hkb : ((k : Int) == (n : Int) - 1) = false := by simpa using hkn
              subst hBv
              clear hmt hmf
              go_wp2_with (first | (go_at_call 106; refine HK.out.mono ?_; rintro e w2 ⟨rfl, hS2, _⟩))
              go_roundw
              case rel => exact ⟨k + 1, by omega, by go_num, HF2, hS2 (by trivial)⟩
              case measure => simp [intOf]; omega
            · subst hBv
              clear hmt hmf
              go_wp2_with (first | (go_at_call 106; refine HK.out.mono ?_; rintro e w2 ⟨rfl, hS2, _⟩))
              go_roundw
              case rel => exact ⟨k + 1, by omega, by go_num, HF2, hS2 (by trivial)⟩
              case measure => simp [intOf]; omega
        · have hBv : B = false := by
            cases hv : B with
            | false => rfl
            | true => have := hmt hv; omega
          have hkM : k = M.length := by omega
          have hkn : ((k : Int) = (n : Int) - 1) := by have := hmf hBv; omega
          have hkb : ((k : Int) == (n : Int) - 1) = true := by simpa using hkn
          have HR := Lib.hid (HO.out wr hBv (fun j h => HF.out j h (by omega)) hS.below)
          rw [← hkM] at HR
          subst hBv
          obtain ⟨x, hx⟩ : ∃ x, x = ls[k] := ⟨_, rfl⟩
          rw [← hx] at hc
          clear hx hme hmt hmf hz hkM hkn hkm
          go_wp2
          go_ret2
          exact HR.out
      · have hBv : B = true := by
          cases hv : B with
          | true => rfl
          | false => have := hmf hv; omega
        have HR := Lib.hid (HY.out wr hBv (fun j h => HF.out j h (by have := hmt hBv; omega)) (by
          rw [List.take_of_length_le (by have := hmt hBv; omega)] at hS
          exact hS.tail))
        subst hBv
        clear hmt hmf hme
        go_wp2
        go_ret2
        exact HR.out

end Go.Proofs.YthbcogekfdllmaaGreatDoor
/-
  Runs that are read: rule.Read and splitref2.RunsRead by contracts: both answer alike. (Printed by gen_rtx3.py out of XSlt3.)
-/
namespace Go.Proofs.YthbcogekfdllmaaGreatDoor
open Go Go.RowKit TxtP

structure CntRW (m : CntR) : Prop where
  hi : m.1.size ≤ 1000000
  hw : m.2.1.size ≤ 1000000
  hf : ∀ p ∈ m.2.2.2.2, p.1.size ≤ 1000000 ∧ p.2.size ≤ 1000000
  hn : m.2.2.2.2.length ≤ 1000000
theorem cntRW_all {l : List UInt8} (hl : l.length ≤ 200000) : ∀ m ∈ (lnM l).map vR, CntRW m := by
  intro m hm
  obtain ⟨p, hp, rfl⟩ := List.mem_map.1 hm
  obtain ⟨h1, h2, h3, h4⟩ := vR_le p (Nat.le_trans (spl_le 10 l p (List.dropLast_subset _ hp)) hl)
  exact ⟨by omega, by omega, fun q hq => by have := h3 q hq; omega, by omega⟩
theorem rns_of {w W : World} {b n c : Nat} {A : Option Addr} {xs : List Rn} {L : List Rsc} {r : Rsc} {ms : List CntR} (hS : Sq w W (rOwn w.heap.size 101 5 (.slice A n c) n (xs.flatMap rnC) :: r :: rAll (fldR w.heap.size) xs :: L)) (hb : b < w.heap.size) (hc : xs.map cntR = ms) (hm : ∀ m ∈ ms, CntRW m) : Rns W b A n c xs := by
  have ho : W.ownsRow w.heap.size 101 5 (.slice A n c) n (xs.flatMap rnC) := hS.head
  refine ⟨Rd.own ho hb, fun x hx => ?_⟩
  have hx2 : cntR x ∈ ms := by rw [← hc]; exact List.mem_map_of_mem hx
  obtain ⟨h1, h2, h3, h4⟩ := hm _ hx2
  have hr : W.ownsRow w.heap.size 75 2 (.slice x.fa x.fs.length x.fc) x.fs.length (x.fs.flatMap prC) := (hS.nth 2 rfl : ∀ a ∈ xs, (fldR w.heap.size a).P W) x hx
  exact ⟨Rd.own hr hb, h1, h2, h3, h4⟩

set_option maxRecDepth 100000 in
set_option maxHeartbeats 2000000 in
theorem runRead_calls (t : ByteArray) (w : World) (hx : MxL w) : Calls Tryz.prog 40 #[.string t] w (RRet t.data.toList w) := by
  have htl : t.data.toList.length = t.size := by simp
  by_cases hbig : 200000 < t.size
  · have HR : Hid (RRet t.data.toList w (.returned (.tuple #[.slice none 0 0, .int .i64 0, .int .i64 2])) w) := by
      have e1 : rrdE t.data.toList = 2 := by unfold rrdE; rw [if_pos (by omega)]
      have e2 : rrdI t.data.toList = 0 := by unfold rrdI; rw [if_pos (by omega)]
      have := RRet.no (l := t.data.toList) (w := w) (w' := w) (by rw [e1]; decide) (Below.refl _ _)
      rw [e1, e2] at this
      exact Lib.hid this
    clear htl hx
    go_enter Tryz.func40, Tryz.ntmps40
    go_wp2
    go_ret3
    exact HR.out
  · have hS0 : StP w (QR w w.heap.size) [] (w.alloc (.cells #[.slice none 0 0] 89)) [] := by
      refine ⟨_, ⟨none, 0, [], rfl, rfl⟩, ?_⟩
      exact ((((Sq.start w).allNil (fldR w.heap.size) (fldR_ok _)).add #[.slice none 0 0] 89).nil w.heap.size 101 5)
    have HEA := Lib.hid (eachRun_calls w (QR w w.heap.size) fR w.heap.size t _ [] (by omega) hx hS0 (readR_calls w w.heap.size t.size hx (by omega)))
    have hlt : ∃ b0, b0 < w.heap.size := by
      obtain ⟨m, hm⟩ := hx
      exact ⟨_, World.block_lt_of_cell? _ _ hm⟩
    obtain ⟨b0, hb0⟩ := hlt
    clear hS0 hx
    cases hB : eachB fR t.data.toList
    · have HR : Hid (∀ w', Below w.heap.size w w' → RRet t.data.toList w (.returned (.tuple #[.slice none 0 0, .int .i64 (eachI fR t.data.toList), .int .i64 9])) w') := by
        have e1 : rrdE t.data.toList = 9 := by unfold rrdE; rw [if_neg (by omega), if_pos hB]
        have e2 : rrdI t.data.toList = eachI fR t.data.toList := by unfold rrdI; rw [if_neg (by omega), if_pos hB]
        refine Lib.hid (fun w' hb => ?_)
        have := RRet.no (l := t.data.toList) (w := w) (w' := w') (by rw [e1]; decide) hb
        rw [e1, e2] at this
        exact this
      have HEB : Hid (Calls Tryz.prog 105 #[.string t, .func (.func 106) #[] #[.pointer (some ⟨w.heap.size, 0, none⟩)]] (w.alloc (.cells #[.slice none 0 0] 89)) (fun e w' => e = .returned (.tuple #[.int .i64 (eachI fR t.data.toList), .bool false]) ∧ Below w.heap.size w w')) := by
        refine Lib.hid (HEA.out.mono ?_)
        rintro e w' ⟨rfl, _, h3⟩
        rw [hB]
        exact ⟨rfl, h3⟩
      clear HEA hB htl hb0
      obtain ⟨ei, hei⟩ : ∃ ei : Int, ei = eachI fR t.data.toList := ⟨_, rfl⟩
      rw [← hei] at HR HEB
      clear hei
      go_enter Tryz.func40, Tryz.ntmps40
      go_wp2_with (first | (go_at_call 105; refine HEB.out.mono ?_; rintro e w1 ⟨rfl, hb1⟩))
      go_ret3
      exact HR.out _ hb1
    · obtain ⟨P, hP⟩ : ∃ P, P = (lnM t.data.toList).map vR := ⟨_, rfl⟩
      obtain ⟨n, hn⟩ : ∃ n, n = (lnM t.data.toList).length := ⟨_, rfl⟩
      have hcw := cntRW_all (l := t.data.toList) (by omega)
      rw [← hP] at hcw
      have hPn : P.length = n := by rw [hP, List.length_map, hn]
      obtain ⟨F, hF⟩ : ∃ F, F = runsF (P.map rOf) := ⟨_, rfl⟩
      have HEB : Hid (Calls Tryz.prog 105 #[.string t, .func (.func 106) #[] #[.pointer (some ⟨w.heap.size, 0, none⟩)]] (w.alloc (.cells #[.slice none 0 0] 89)) (fun e w' => e = .returned (.tuple #[.int .i64 (eachI fR t.data.toList), .bool true]) ∧ ∃ A c xs, Hid (xs.map cntR = P) ∧ Hid (runsF xs = F) ∧ Hid (Rns w' b0 A n c xs) ∧ Sq w w' [rOwn w.heap.size 101 5 (.slice A n c) n (xs.flatMap rnC), rBlk w.heap.size 89 #[.slice A n c], rAll (fldR w.heap.size) xs])) := by
        refine Lib.hid (HEA.out.mono ?_)
        rintro e w' ⟨rfl, h2, _⟩
        refine ⟨by rw [hB], ?_⟩
        obtain ⟨A, c, xs, h3, h4⟩ := StP.openR (h2 hB)
        rw [← hn] at h4
        rw [← hP] at h3
        exact ⟨A, c, xs, Lib.hid h3, Lib.hid (by rw [hF]; exact runsF_cnt (h3.trans (cnt_rOf P).symm)), Lib.hid (rns_of h4 hb0 h3 hcw), h4⟩
      have e1 : rrdE t.data.toList = F := by unfold rrdE; rw [if_neg (by omega), if_neg (by rw [hB]; decide), hF, hP]
      have e2 : rrdI t.data.toList = 0 := by unfold rrdI; rw [if_neg (by omega), if_neg (by rw [hB]; decide)]
      have HR : Hid (F ≠ 0 → ∀ w', Below w.heap.size w w' → RRet t.data.toList w (.returned (.tuple #[.slice none 0 0, .int .i64 0, .int .i64 F])) w') := by
        refine Lib.hid (fun hF0 w' hb => ?_)
        have := RRet.no (l := t.data.toList) (w := w) (w' := w') (by rw [e1]; exact hF0) hb
        rw [e1, e2] at this
        exact this
      have HY : Hid (F = 0 → ∀ w' A c xs, xs.map cntR = P → Sq w w' [rOwn w.heap.size 101 5 (.slice A n c) n (xs.flatMap rnC), rBlk w.heap.size 89 #[.slice A n c], rAll (fldR w.heap.size) xs] → RRet t.data.toList w (.returned (.tuple #[.slice A n c, .int .i64 0, .int .i64 F])) w') := by
        refine Lib.hid (fun hF0 w' A c xs hxs hS => ⟨.slice A n c, xs, by rw [e1, e2], ?_, ?_⟩)
        · unfold rrdL
          rw [if_pos (by rw [e1]; exact hF0), ← hP]
          exact hxs
        · have hl : xs.length = n := by rw [← hPn, ← hxs, List.length_map]
          rw [hl]
          exact hS.drop 1 rfl rfl
      have HCK : Hid (∀ W A c xs, runsF xs = F → b0 < W.heap.size → Rns W b0 A n c xs → Calls Tryz.prog 87 #[.slice A n c] W (BRet (.int .i64 F) W)) := by
        refine Lib.hid (fun W A c xs h hb h2 => ?_)
        have := checkRuns_calls b0 A n c xs W h2 hb
        rw [h] at this
        exact this
      obtain ⟨ei, hei⟩ : ∃ ei : Int, ei = eachI fR t.data.toList := ⟨_, rfl⟩
      rw [← hei] at HEB
      clear HEA hB htl e1 e2 hF hPn hP hn hei hcw
      by_cases hF0 : F = 0
      · have HY2 := Lib.hid (HY.out hF0)
        clear HR HY
        subst hF0
        go_enter Tryz.func40, Tryz.ntmps40
        go_wp2_with (first
          | (go_at_call 105; refine HEB.out.mono ?_; rintro e w1 ⟨rfl, A, c, xs, HX, HF, HW, hS1⟩; have c1 : w1.cell? ⟨w.heap.size, 0, none⟩ = some (.slice A n c) := (hS1.nth 1 rfl : Blk w1 w.heap.size _ _).cell 0; have hlt1 : b0 < w1.heap.size := Nat.lt_of_lt_of_le hb0 hS1.size)
          | (go_at_call 87; refine (HCK.out _ _ _ _ HF.out hlt1 HW.out).mono ?_; rintro e w2 ⟨rfl, hb2⟩; have c2 := below_cell hb2 c1; have hS2 := hS1.callB hb2))
        go_ret3
        exact HY2.out _ _ _ _ HX.out hS2
      · have HR2 := Lib.hid (HR.out hF0)
        have hFb : (F == 0) = false := by simpa using hF0
        clear HR HY hF0
        go_enter Tryz.func40, Tryz.ntmps40
        go_wp2_with (first
          | (go_at_call 105; refine HEB.out.mono ?_; rintro e w1 ⟨rfl, A, c, xs, HX, HF, HW, hS1⟩; have c1 : w1.cell? ⟨w.heap.size, 0, none⟩ = some (.slice A n c) := (hS1.nth 1 rfl : Blk w1 w.heap.size _ _).cell 0; have hlt1 : b0 < w1.heap.size := Nat.lt_of_lt_of_le hb0 hS1.size)
          | (go_at_call 87; refine (HCK.out _ _ _ _ HF.out hlt1 HW.out).mono ?_; rintro e w2 ⟨rfl, hb2⟩; have c2 := below_cell hb2 c1; have hS2 := hS1.callB hb2))
        go_ret3
        exact HR2.out _ hS2.below

end Go.Proofs.YthbcogekfdllmaaGreatDoor
