/-
  base.Each and splitref2.Lines at the closures of one law: both read the lines one by one. (Printed by gen_each.py.)
-/
import Derived.Test.YtmbeclcdpagjiaaGreatDoorZTxt2
import Derived.Deep.DeepCutAuto
import Derived.Deep.CutBlock
import Derived.Deep.RegionLaw
import Derived.BigQuiet
namespace Go.Proofs.YtmbeclcdpagjiaaGreatDoor
open Go Go.RowKit TxtP

set_option maxRecDepth 100000 in
set_option maxHeartbeats 2000000 in
theorem eachRun_calls (w0 : World) (Q : List (List UInt8) → List Rsc → Prop) (f : List UInt8 → Bool) (gO : Nat) (text : ByteArray) (W : World) (L : List Rsc) (hs : text.size < 4294967281) (hx : MxL w0) (h : StP w0 Q [] W L)
    (HC0 : CloR w0 Q 54 (.pointer (some ⟨gO, 0, none⟩)) f text.size) :
    Calls Tryz.prog 53 #[.string text, .func (.func 54) #[] #[.pointer (some ⟨gO, 0, none⟩)]] W (EachR w0 Q f text.data.toList L) := by
  have HLN := Lib.hid (lines_calls text W hs (hx.below h.below))
  have HC := Lib.hid HC0
  obtain ⟨ls, hls⟩ : ∃ ls, ls = lnsP text := ⟨_, rfl⟩
  obtain ⟨B, hB⟩ : ∃ B, B = lneP text := ⟨_, rfl⟩
  obtain ⟨M, hM⟩ : ∃ M, M = lnM text.data.toList := ⟨_, rfl⟩
  have hcnt := lns_count text
  have HZ : Hid (∀ k (h : k < ls.length), ls[k].size ≤ text.size) := Lib.hid (fun k h => lns_size (by rw [← hls]; exact List.getElem_mem h))
  have HAT : Hid (∀ (k : Nat) W', k < M.length → (∀ j (h : j < M.length), j < k → f M[j] = true) → (∀ (h : k < M.length), f M[k] = false) → Below w0.heap.size w0 W' → EachR w0 Q f text.data.toList L (.returned (.tuple #[.int .i64 k, .bool false])) W') := by
    rw [hM]
    exact Lib.hid (fun k W' hk h1 h2 h3 => EachR.at_ k hk h1 (h2 hk) h3)
  have HNIL : Hid (ls = [] → EachR w0 Q f text.data.toList L (.returned (.tuple #[.int .i64 0, .bool true])) W → True) := Lib.hid (fun _ _ => trivial)
  clear HNIL
  have HYES : Hid (B = true → ls.map (·.data.toList) = M ∧ ∀ W', (∀ j (h : j < M.length), f M[j] = true) → StP w0 Q M W' L → EachR w0 Q f text.data.toList L (.returned (.tuple #[.int .i64 0, .bool true])) W') := by
    rw [hls, hB, hM]
    exact Lib.hid (fun hb => ⟨(lns_yes hb).1, fun W' h1 h2 => EachR.all_ (lns_yes hb).2 h1 h2⟩)
  have HNO : Hid (B = false → ∃ z, ls.map (·.data.toList) = M ++ [z] ∧ ∀ W', (∀ j (h : j < M.length), f M[j] = true) → Below w0.heap.size w0 W' → EachR w0 Q f text.data.toList L (.returned (.tuple #[.int .i64 M.length, .bool false])) W') := by
    rw [hls, hB, hM]
    refine Lib.hid (fun hb => ?_)
    obtain ⟨z, h1, h2⟩ := lns_no hb
    exact ⟨z, h1, fun W' h3 h4 => EachR.open_ h2 h3 h4⟩
  have HN0 : Hid (ls = [] → B = true) := by
    rw [hls, hB]; exact Lib.hid lns_nil
  have HLR : Hid (∀ e W', LnsR text W e W' → Below W.heap.size W W' ∧ ((ls = [] ∧ e = .returned (.tuple #[.slice none 0 0, .bool B])) ∨ (e = .returned (.tuple #[.slice (some ⟨W.heap.size, 0, none⟩) ls.length ls.length, .bool B]) ∧ Blk W' W.heap.size 9 (strCs ls)))) := by
    rw [hls, hB]
    exact Lib.hid (fun e W' h => h)
  rw [← hls] at hcnt
  clear hls hB hM HC0 hx
  have hgoal : Calls Tryz.prog 91 #[.string text] W (fun e W' => Below W.heap.size W W' ∧ ((ls = [] ∧ e = .returned (.tuple #[.slice none 0 0, .bool B])) ∨ (e = .returned (.tuple #[.slice (some ⟨W.heap.size, 0, none⟩) ls.length ls.length, .bool B]) ∧ Blk W' W.heap.size 9 (strCs ls)))) :=
    HLN.out.mono (fun e W' h => HLR.out e W' h)
  have HG := Lib.hid hgoal
  clear hgoal HLN HLR
  by_cases hnil : ls = []
  · have hb := HN0.out hnil
    obtain ⟨he, hy⟩ := HYES.out hb
    rw [hnil] at he HG
    have hM0 : M = [] := by rw [← he]; rfl
    have HY : Hid (∀ W', StP w0 Q [] W' L → EachR w0 Q f text.data.toList L (.returned (.tuple #[.int .i64 0, .bool true])) W') := by
      rw [hM0] at hy
      exact Lib.hid (fun W' h2 => hy W' (fun j h => by cases h) h2)
    subst hb
    have HG2 : Hid (Calls Tryz.prog 91 #[.string text] W (fun e W' => ∃ A c, e = .returned (.tuple #[.slice A 0 c, .bool true]) ∧ Below W.heap.size W W')) := by
      refine Lib.hid (HG.out.mono ?_)
      rintro e W' ⟨h1, ⟨_, rfl⟩ | ⟨rfl, _⟩⟩
      · exact ⟨_, _, rfl, h1⟩
      · exact ⟨_, _, rfl, h1⟩
    clear HG HYES HNO HN0 HAT HZ he hy hM0 hnil
    go_enter Tryz.func53, Tryz.ntmps53
    go_wp2_with (first | (go_at_call 91; refine HG2.out.mono ?_; rintro e w1 ⟨A1, c1, rfl, hb1⟩))
    go_loop [17] (fun i => i = .int .i64 0) (fun i => 0)
    case atStart => rfl
    case round =>
      subst hrel
      go_wp2
      go_ret2
      exact HY.out _ (h.callB hb1)
  · have hn0 : 0 < ls.length := List.length_pos_iff.2 hnil
    have HG2 : Hid (Calls Tryz.prog 91 #[.string text] W (fun e W' => e = .returned (.tuple #[.slice (some ⟨W.heap.size, 0, none⟩) ls.length ls.length, .bool B]) ∧ StP w0 Q [] W' (rBlk W.heap.size 9 (strCs ls) :: L))) := by
      refine Lib.hid (HG.out.mono ?_)
      rintro e W' ⟨h1, ⟨h2, rfl⟩ | ⟨rfl, h2⟩⟩
      · exact absurd h2 hnil
      · exact ⟨rfl, h.blk h1 h2 (Nat.le_refl _)⟩
    clear HG HN0 h
    obtain ⟨n, hn⟩ : ∃ n, n = ls.length := ⟨_, rfl⟩
    have HML : Hid (M.length ≤ n ∧ (B = true → n = M.length) ∧ (B = false → n = M.length + 1) ∧ ∀ k (h : k < ls.length) (h2 : k < M.length), ls[k].data.toList = M[k]) := by
      cases hBv : B
      · obtain ⟨z, h1, _⟩ := HNO.out hBv
        have h2 : n = M.length + 1 := by
          have h5 := congrArg List.length h1
          rw [List.length_map, List.length_append, List.length_singleton] at h5
          omega
        refine Lib.hid ⟨by omega, (by intro h; cases h), fun _ => h2, fun k h h3 => ?_⟩
        have h4 : (ls.map (·.data.toList))[k]? = some M[k] := by rw [h1, List.getElem?_append_left h3, List.getElem?_eq_getElem h3]
        rw [List.getElem?_map, List.getElem?_eq_getElem h] at h4
        exact Option.some.inj h4
      · obtain ⟨h1, _⟩ := HYES.out hBv
        have h2 : n = M.length := by
          have h5 := congrArg List.length h1
          rw [List.length_map] at h5
          omega
        refine Lib.hid ⟨by omega, fun _ => h2, (by intro h; cases h), fun k h h3 => ?_⟩
        have h4 : (ls.map (·.data.toList))[k]? = some M[k] := by rw [h1, List.getElem?_eq_getElem h3]
        rw [List.getElem?_map, List.getElem?_eq_getElem h] at h4
        exact Option.some.inj h4
    have HY : Hid (∀ W', B = true → (∀ j (h : j < M.length), f M[j] = true) → StP w0 Q M W' L → EachR w0 Q f text.data.toList L (.returned (.tuple #[.int .i64 0, .bool true])) W') := Lib.hid (fun W' hb => (HYES.out hb).2 W')
    have HO : Hid (∀ W', B = false → (∀ j (h : j < M.length), f M[j] = true) → Below w0.heap.size w0 W' → EachR w0 Q f text.data.toList L (.returned (.tuple #[.int .i64 M.length, .bool false])) W') := by
      refine Lib.hid (fun W' hb => ?_)
      obtain ⟨_, _, h⟩ := HNO.out hb
      exact h W'
    clear HYES HNO hnil
    rw [← hn] at HG2 hn0 hcnt
    have HN := Lib.hid hn
    obtain ⟨H, hH⟩ : ∃ H, H = W.heap.size := ⟨_, rfl⟩
    rw [← hH] at HG2
    clear hn hH
    go_enter Tryz.func53, Tryz.ntmps53
    go_wp2_with (first | (go_at_call 91; refine HG2.out.mono ?_; rintro e w1 ⟨rfl, hS1⟩))
    go_loopw [17] (fun i wr => ∃ k : Nat, k ≤ M.length ∧ i = .int .i64 k ∧ Hid (∀ j (h : j < M.length), j < k → f M[j] = true) ∧ StP w0 Q (M.take k) wr (rBlk H 9 (strCs ls) :: L)) (fun i _ => n - (intOf i).toNat)
    case atStart => exact ⟨0, Nat.zero_le _, rfl, Lib.hid (fun j h hj => by omega), by rw [List.take_zero]; exact hS1⟩
    case round =>
      clear hS1
      obtain ⟨k, hk, rfl, HF, hS⟩ := hrel
      obtain ⟨hmn, hmt, hmf, hme⟩ := HML.out
      by_cases hlt : k < n
      · have hkl : k < ls.length := by rw [← HN.out]; exact hlt
        have hc := (hS.head.cell k).trans (strCs_at hkl)
        have hz := HZ.out k hkl
        by_cases hkm : k < M.length
        · have hd := hme k hkl hkm
          obtain ⟨x, hx⟩ : ∃ x, x = ls[k] := ⟨_, rfl⟩
          rw [← hx] at hc hz hd
          have HK := Lib.hid (HC.out wr (M.take k) x _ hS hz (by rw [List.length_take]; omega))
          rw [hd, ← List.take_succ_eq_append_getElem hkm] at HK
          clear hx hd hz hme
          cases hfv : f M[k]
          · rw [hfv] at HK
            have HR : Hid (∀ W', Below w0.heap.size w0 W' → EachR w0 Q f text.data.toList L (.returned (.tuple #[.int .i64 k, .bool false])) W') := Lib.hid (fun W' h3 => HAT.out k W' hkm HF.out (fun _ => hfv) h3)
            clear hfv
            cases hBv : B
            · have hkn : ¬ ((k : Int) = (n : Int) - 1) := by have := hmf hBv; omega
              have hkb : ((k : Int) == (n : Int) - 1) = false := by simpa using hkn
              subst hBv
              clear hmt hmf
              go_wp2_with (first | (go_at_call 54; refine HK.out.mono ?_; rintro e w2 ⟨rfl, _, hb2⟩))
              go_ret2
              exact HR.out _ hb2
            · subst hBv
              clear hmt hmf
              go_wp2_with (first | (go_at_call 54; refine HK.out.mono ?_; rintro e w2 ⟨rfl, _, hb2⟩))
              go_ret2
              exact HR.out _ hb2
          · rw [hfv] at HK
            have HF2 : Hid (∀ j (h : j < M.length), j < k + 1 → f M[j] = true) := by
              refine Lib.hid (fun j h hj => ?_)
              by_cases hjk : j = k
              · subst hjk; exact hfv
              · exact HF.out j h (by omega)
            clear hfv
            cases hBv : B
            · have hkn : ¬ ((k : Int) = (n : Int) - 1) := by have := hmf hBv; omega
              have hkb : ((k : Int) == (n : Int) - 1) = false := by simpa using hkn
              subst hBv
              clear hmt hmf
              go_wp2_with (first | (go_at_call 54; refine HK.out.mono ?_; rintro e w2 ⟨rfl, hS2, _⟩))
              go_roundw
              case rel => exact ⟨k + 1, by omega, by go_num, HF2, hS2 (by trivial)⟩
              case measure => simp [intOf]; omega
            · subst hBv
              clear hmt hmf
              go_wp2_with (first | (go_at_call 54; refine HK.out.mono ?_; rintro e w2 ⟨rfl, hS2, _⟩))
              go_roundw
              case rel => exact ⟨k + 1, by omega, by go_num, HF2, hS2 (by trivial)⟩
              case measure => simp [intOf]; omega
        · have hBv : B = false := by
            cases hv : B with
            | false => rfl
            | true => have := hmt hv; omega
          have hkM : k = M.length := by omega
          have hkn : ((k : Int) = (n : Int) - 1) := by have := hmf hBv; omega
          have hkb : ((k : Int) == (n : Int) - 1) = true := by simpa using hkn
          have HR := Lib.hid (HO.out wr hBv (fun j h => HF.out j h (by omega)) hS.below)
          rw [← hkM] at HR
          subst hBv
          obtain ⟨x, hx⟩ : ∃ x, x = ls[k] := ⟨_, rfl⟩
          rw [← hx] at hc
          clear hx hme hmt hmf hz hkM hkn hkm
          go_wp2
          go_ret2
          exact HR.out
      · have hBv : B = true := by
          cases hv : B with
          | true => rfl
          | false => have := hmf hv; omega
        have HR := Lib.hid (HY.out wr hBv (fun j h => HF.out j h (by have := hmt hBv; omega)) (by
          rw [List.take_of_length_le (by have := hmt hBv; omega)] at hS
          exact hS.tail))
        subst hBv
        clear hmt hmf hme
        go_wp2
        go_ret2
        exact HR.out

set_option maxRecDepth 100000 in
set_option maxHeartbeats 2000000 in
theorem linesRun_calls (w0 : World) (Q : List (List UInt8) → List Rsc → Prop) (f : List UInt8 → Bool) (gO : Nat) (text : ByteArray) (W : World) (L : List Rsc) (hs : text.size < 4294967281) (hx : MxL w0) (h : StP w0 Q [] W L)
    (HC0 : CloR w0 Q 57 (.pointer (some ⟨gO, 0, none⟩)) f text.size) :
    Calls Tryz.prog 56 #[.string text, .func (.func 57) #[] #[.pointer (some ⟨gO, 0, none⟩)]] W (EachR w0 Q f text.data.toList L) := by
  have HC := Lib.hid HC0
  obtain ⟨T, hT⟩ : ∃ T, T = text.data.toList := ⟨_, rfl⟩
  have HCUT : Hid (∀ (r : ByteArray) V, r.size ≤ text.size → MxL V → Calls Tryz.prog 95 #[.string r, .string ⟨#[10]⟩] V fun e w' => e = .returned (.tuple #[.string ⟨(Lib.cut r.data.toList [10]).1.toArray⟩, .string ⟨(Lib.cut r.data.toList [10]).2.1.toArray⟩, .bool (Lib.cut r.data.toList [10]).2.2]) ∧ ∃ n, w' = V.drewN n) := by
    refine Lib.hid (fun r V hr hm => ?_)
    obtain ⟨m, hm⟩ := hm
    exact Tryz.strings_Cut r ⟨#[10]⟩ m V (by omega) hm
  have HX := Lib.hid hx
  have HAT : Hid (∀ (k : Nat) W', k < (lnM T).length → (∀ j (h : j < (lnM T).length), j < k → f (lnM T)[j] = true) → (∀ (h : k < (lnM T).length), f (lnM T)[k] = false) → Below w0.heap.size w0 W' → EachR w0 Q f T L (.returned (.tuple #[.int .i64 k, .bool false])) W') :=
    Lib.hid (fun k W' hk h1 h2 h3 => EachR.at_ k hk h1 (h2 hk) h3)
  have hsz : text.size < 4294967281 := hs
  have hlt0 : (lnM T).length ≤ text.size := by
    have h1 : (spl 10 T).length = T.count 10 + 1 := spl_len 10 T
    have h2 := List.count_le_length (a := (10 : UInt8)) (l := T)
    have h3 : T.length = text.size := by rw [hT]; simp
    have h4 : (lnM T).length = (spl 10 T).length - 1 := by unfold lnM; rw [List.length_dropLast]
    omega
  rw [← hT]
  clear HC0 hx hs
  go_enter Tryz.func56, Tryz.ntmps56
  go_wp2
  go_loopw [0, 6] (fun r i wr => ∃ (k : Nat) (x : ByteArray), k ≤ (lnM T).length ∧ r = .string x ∧ i = .int .i64 k ∧ x.size ≤ text.size ∧ Hid (lnM T = (lnM T).take k ++ lnM x.data.toList ∧ lnE T = lnE x.data.toList) ∧ Hid (∀ j (h : j < (lnM T).length), j < k → f (lnM T)[j] = true) ∧ StP w0 Q ((lnM T).take k) wr L) (fun r _ _ => (match r with | .string x => x.size | _ => 0))
  case atStart => exact ⟨0, text, Nat.zero_le _, rfl, rfl, Nat.le_refl _, Lib.hid (by rw [hT]; exact ⟨by rw [List.take_zero, List.nil_append], rfl⟩), Lib.hid (fun j h hj => by omega), by rw [List.take_zero]; exact h⟩
  case round =>
    clear h
    obtain ⟨k, x, hk, rfl, rfl, hxs, HP, HF, hS⟩ := hrel
    have HM : Hid (MxL wr) := Lib.hid (HX.out.below hS.below)
    by_cases h0 : x.size = 0
    · have he : x.toList = [] := by rw [Lib.toList_data]; exact nil_data h0
      have HR : Hid (EachR w0 Q f T L (.returned (.tuple #[.int .i64 0, .bool true])) wr) := by
        obtain ⟨h1, h2⟩ := HP.out
        rw [nil_data h0] at h1 h2
        rw [lnM_nil, List.append_nil] at h1
        refine Lib.hid (EachR.all_ h2 (fun j h => HF.out j h (by rw [h1, List.length_take] at h; omega)) (by rw [h1]; exact hS))
      have hb : (x.toList == []) = true := by rw [he]; rfl
      clear h0
      go_wp2
      go_ret2
      exact HR.out
    · have he1 := isEmpty_f (s := x) (by omega)
      have he2 : (x.toList == []) = false := by rw [← he1]; cases x.toList <;> rfl
      have HCX := Lib.hid (HCUT.out x wr hxs HM.out)
      rcases parts 10 x.data.toList with hno | ⟨p, r, hpr, hpn⟩
      · rw [cut_no hno] at HCX
        have HR : Hid (∀ W', Below w0.heap.size w0 W' → EachR w0 Q f T L (.returned (.tuple #[.int .i64 k, .bool false])) W') := by
          obtain ⟨h1, h2⟩ := HP.out
          have hone := ln_one (l := x.data.toList) (by intro e; exact h0 (by have h3 : x.data.toList.length = 0 := by rw [e]; rfl
                                                                             simpa using h3)) hno
          rw [hone.1, List.append_nil] at h1
          have hkl : k = (lnM T).length := by
            have := congrArg List.length h1
            rw [List.length_take] at this
            omega
          refine Lib.hid (fun W' h3 => ?_)
          have := EachR.open_ (Q := Q) (f := f) (L := L) (h2.trans hone.2) (fun j h => HF.out j h (by omega)) h3
          rw [← hkl] at this
          exact this
        clear hno h0
        go_wp2_with (first | (go_at_call 95; refine HCX.out.mono ?_; rintro e w2 ⟨rfl, n2, rfl⟩))
        go_ret2
        exact HR.out _ (below_drewN hS.below n2)
      · rw [cut_at hpr hpn] at HCX
        obtain ⟨y, hy⟩ : ∃ y : ByteArray, y = ⟨p.toArray⟩ := ⟨_, rfl⟩
        obtain ⟨z, hz⟩ : ∃ z : ByteArray, z = ⟨r.toArray⟩ := ⟨_, rfl⟩
        have hyl : y.data.toList = p := by rw [hy]
        have hzl : z.data.toList = r := by rw [hz]
        have hxl : x.size = p.length + 1 + r.length := by
          have h3 : x.data.toList.length = x.size := by simp
          rw [hpr] at h3
          simp at h3
          omega
        have hys : y.size ≤ text.size := by rw [hy, ba_size]; omega
        have hzs : z.size < x.size := by rw [hz, ba_size]; omega
        have hzt : z.size ≤ text.size := by omega
        obtain ⟨h1, h2⟩ := HP.out
        have hlc := ln_cut hpr hpn
        rw [hlc.1] at h1
        have hkm : k < (lnM T).length := by
          have := congrArg List.length h1
          rw [List.length_append, List.length_take, List.length_cons] at this
          omega
        have hMk : (lnM T)[k] = p := by
          have h3 : (lnM T)[k]? = some p := by
            rw [h1, List.getElem?_append_right (by rw [List.length_take]; omega), List.length_take]
            have : k - min k (lnM T).length = 0 := by omega
            rw [this]; rfl
          rw [List.getElem?_eq_getElem hkm] at h3
          exact Option.some.inj h3
        have HP2 : Hid (lnM T = (lnM T).take (k + 1) ++ lnM z.data.toList ∧ lnE T = lnE z.data.toList) := by
          refine Lib.hid ⟨?_, ?_⟩
          · rw [List.take_succ_eq_append_getElem hkm, hMk, hzl, List.append_assoc]
            exact h1
          · rw [h2, hlc.2, hzl]
        have HK := Lib.hid (fun n => HC.out (wr.drewN n) ((lnM T).take k) y _ (hS.callB (below_drewN (Below.refl _ _) n)) hys (by rw [List.length_take]; omega))
        rw [hyl, ← hMk, ← List.take_succ_eq_append_getElem hkm] at HK
        rw [← hy, ← hz] at HCX
        clear hy hz hyl hzl hxl h1 h2 hlc hpr hpn
        cases hfv : f (lnM T)[k]
        · rw [hfv] at HK
          have HR : Hid (∀ W', Below w0.heap.size w0 W' → EachR w0 Q f T L (.returned (.tuple #[.int .i64 k, .bool false])) W') := Lib.hid (fun W' h3 => HAT.out k W' hkm HF.out (fun _ => hfv) h3)
          clear hfv hMk
          go_wp2_with (first | (go_at_call 95; refine HCX.out.mono ?_; rintro e w2 ⟨rfl, n2, rfl⟩) | (go_at_call 57; refine (HK.out _).mono ?_; rintro e w3 ⟨rfl, _, hb2⟩))
          go_ret2
          exact HR.out _ hb2
        · rw [hfv] at HK
          have HF2 : Hid (∀ j (h : j < (lnM T).length), j < k + 1 → f (lnM T)[j] = true) := by
            refine Lib.hid (fun j h hj => ?_)
            by_cases hjk : j = k
            · subst hjk; exact hfv
            · exact HF.out j h (by omega)
          clear hfv hMk
          go_wp2_with (first | (go_at_call 95; refine HCX.out.mono ?_; rintro e w2 ⟨rfl, n2, rfl⟩) | (go_at_call 57; refine (HK.out _).mono ?_; rintro e w3 ⟨rfl, hS2, _⟩))
          go_roundw
          case rel => exact ⟨k + 1, z, by omega, rfl, by go_num, hzt, HP2, HF2, hS2 (by trivial)⟩
          case measure => exact hzs
end Go.Proofs.YtmbeclcdpagjiaaGreatDoor
