/-
  board.Would, splitref2.WouldOf and splitref2.PlaceOn by contracts.
-/
import Derived.Test.YtebaaoacmmhppaaGreatZEvK
import Derived.Test.YtebaaoacmmhppaaGreatZBt4
namespace Go.Proofs.YtebaaoacmmhppaaGreat
open Go Go.RowKit Go.Sort
attribute [local go_sem ↓] Go.wp_at_zero Go.wp_at_succ

theorem wld_step (rs : List Brw) (k : Nat) (hk : k < rs.length) (t : Int) : wldB (rs.take (k + 1)) t = wldB (rs.take k) t + (if rs[k].time < t then 1 else 0) := by
  unfold wldB
  rw [List.take_succ_eq_append_getElem hk, List.filter_append, List.length_append]
  by_cases h : rs[k].time < t
  · rw [if_pos h, List.filter_cons_of_pos (by simpa using h)]
    simp
    omega
  · rw [if_neg h, List.filter_cons_of_neg (by simpa using h)]
    simp
/-- what is wrong with what Would is asked -/
def wouldF (l : List Bev) (cat : ByteArray) (t u : Int) : Int := if bevsF l = 0 then (if keyBv cat = true then (if outB t 1 864000000 = true then 1 else if momB u = true then 0 else 1) else 5) else bevsF l
theorem wouldF_ok {l : List Bev} {cat : ByteArray} {t u : Int} (h : wouldF l cat t u = 0) : bevsF l = 0 := by
  unfold wouldF at h
  split at h
  · assumption
  · rename_i h2; exact absurd h h2
/-- what Would answers -/
def WldR (l : List Bev) (cat : ByteArray) (t u F : Int) (w : World) (e : Ending) (w' : World) : Prop :=
  ∃ (rs : List Brw) (R : Int), RwIs l cat u F rs ∧ (F = 0 → R = wldB rs t) ∧ (F ≠ 0 → R = 0) ∧ e = .returned (.tuple #[.int .i64 R, .int .i64 F]) ∧ Below w.heap.size w w'
set_option maxRecDepth 100000 in
set_option maxHeartbeats 4000000 in
theorem would_calls (b : Nat) (A : Option Addr) (n c : Nat) (l : List Bev) (t u : Int) (cat : ByteArray) (w : World) (hr : Bevs w b A n c l) (hn : n ≤ 3000) (hc : cat.size ≤ 1000000) :
    Calls Tryz.prog 13 #[.slice A n c, .string cat, .int .i64 t, .int .i64 u] w (WldR l cat t u (wouldF l cat t u) w) := by
  have HA := Lib.hid (checkEvents_calls b A n c l w hr)
  have HK := Lib.hid (fun W => key_calls cat W (by unfold maxLen; omega))
  have HO := Lib.hid (fun W => out_calls t 1 864000000 W)
  have HM := Lib.hid (fun W => moment_calls u W)
  have HR := Lib.hid hr.rd
  obtain ⟨hl, _, _, _⟩ := hr.rd.cells bevC_len (by omega)
  have HL : Hid (l.length ≤ 3000) := Lib.hid (by omega)
  have HE : Hid (bevsF l = 0 → ∀ x ∈ l, EvK x) := Lib.hid (fun h => evK_all h)
  clear hl hr hc
  have hF : wouldF l cat t u = if bevsF l = 0 then (if keyBv cat = true then (if outB t 1 864000000 = true then 1 else if momB u = true then 0 else 1) else 5) else bevsF l := rfl
  have hkb : keyB cat.data.toList = keyBv cat := rfl
  rw [hkb] at HK
  obtain ⟨E, hE⟩ : ∃ E, bevsF l = E := ⟨_, rfl⟩
  obtain ⟨K, hK⟩ : ∃ K, keyBv cat = K := ⟨_, rfl⟩
  obtain ⟨O, hO⟩ : ∃ O, outB t 1 864000000 = O := ⟨_, rfl⟩
  obtain ⟨M, hM⟩ : ∃ M, momB u = M := ⟨_, rfl⟩
  rw [hE, hK, hO, hM] at hF
  rw [hE] at HA HE
  rw [hK] at HK
  rw [hO] at HO
  rw [hM] at HM
  rw [hF]
  clear hE hK hO hM hF hkb
  by_cases h0 : E = 0
  · subst h0
    have HE0 := Lib.hid (HE.out rfl)
    clear HE
    rw [if_pos rfl]
    cases K
    · rw [if_neg (by decide)]
      clear HO HM HR HL HE0
      go_enter Tryz.func13, Tryz.ntmps13
      go_wp2_with fail
      refine HA.out.mono ?_
      rintro e w1 ⟨rfl, h1⟩
      go_wp2_with fail
      refine (HK.out w1).mono ?_
      rintro e w2 ⟨rfl, rfl⟩
      go_wp2_with fail
      go_ret2
      exact ⟨[], 0, rwIs_no (by decide), fun h => absurd h (by decide), fun _ => rfl, rfl, h1⟩
    · rw [if_pos rfl]
      cases O
      · rw [if_neg (by decide)]
        cases M
        · rw [if_neg (by decide)]
          clear HR HL HE0
          go_enter Tryz.func13, Tryz.ntmps13
          go_wp2_with fail
          refine HA.out.mono ?_
          rintro e w1 ⟨rfl, h1⟩
          go_wp2_with fail
          refine (HK.out w1).mono ?_
          rintro e w2 ⟨rfl, rfl⟩
          go_wp2_with fail
          refine (HO.out w1).mono ?_
          rintro e w2 ⟨rfl, rfl⟩
          go_wp2_with fail
          refine (HM.out w1).mono ?_
          rintro e w2 ⟨rfl, rfl⟩
          go_wp2_with fail
          go_ret2
          exact ⟨[], 0, rwIs_no (by decide), fun h => absurd h (by decide), fun _ => rfl, rfl, h1⟩
        · rw [if_pos rfl]
          go_enter Tryz.func13, Tryz.ntmps13
          go_wp2_with fail
          refine HA.out.mono ?_
          rintro e w1 ⟨rfl, h1⟩
          go_wp2_with fail
          refine (HK.out w1).mono ?_
          rintro e w2 ⟨rfl, rfl⟩
          go_wp2_with fail
          refine (HO.out w1).mono ?_
          rintro e w2 ⟨rfl, rfl⟩
          go_wp2_with fail
          refine (HM.out w1).mono ?_
          rintro e w2 ⟨rfl, rfl⟩
          have hS1 := (Sq.start w).callB h1
          have HRA := Lib.hid (rowsAt_calls b A n c l u cat w1 (hS1.rd HR.out) HE0.out hn)
          have HS1 := Lib.hid hS1
          clear hS1 h1 HA HK HO HM HR HE0
          go_wp2_with fail
          refine HRA.out.mono ?_
          rintro e w2 ⟨gd, rfl, hb2, hcall⟩
          have HCL := Lib.hid hcall
          clear hcall hb2
          go_wp2_with fail
          refine HCL.out.mono ?_
          rintro e w3 ⟨A3, c3, ys, hY, rfl, hS3⟩
          have HRW := Lib.hid (rwIs_ok hY)
          obtain ⟨rs, hrs⟩ : ∃ rs, rowsB ys = rs := ⟨_, rfl⟩
          rw [hrs] at HRW hS3 ⊢
          have hS4 := (HS1.out.merge hS3).rebase HS1.out.size
          obtain ⟨q, hq⟩ : ∃ q, rs.length = q := ⟨_, rfl⟩
          rw [hq] at hS4 ⊢
          have HQ := Lib.hid hq
          have HAP : Hid (0 < q → ∃ g, A3 = some ⟨g, 0, none⟩) := Lib.hid (fun h0 => own_ptr (hS4.head : World.ownsRow _ _ _ _ _ _ _) h0)
          have HQZ : Hid (q ≤ 3000) := Lib.hid (by have := HL.out; have := sbd_len hY; have := rows_len ys; rw [hrs] at this; omega)
          clear hS3 hY hq hrs HCL HRA HS1 HL
          go_wp2_with fail
          go_loopw [11, 37] (fun s11 s37 wr => ∃ (k : Nat) (R : Int), k ≤ q ∧ s37 = .int .i64 k ∧ s11 = .int .i64 R ∧ 1 ≤ R ∧ R ≤ 1 + (k : Int) ∧ Hid (wldB (rs.take k) t = R) ∧ Sq w wr ([rOwn w.heap.size 37 5 (.slice A3 q c3) q (rs.flatMap brwC)] ++ [])) (fun _ s37 _ => q - (intOf s37).toNat)
          case atStart => exact ⟨0, 1, Nat.zero_le _, rfl, rfl, by omega, by omega, Lib.hid rfl, hS4⟩
          case round =>
            clear hS4
            obtain ⟨k, R, hk, rfl, rfl, hr1, hr2, HP, hS⟩ := hrel
            obtain ⟨wo, hwo⟩ : ∃ z, z = wr := ⟨_, rfl⟩
            subst hwo
            have hqz := HQZ.out
            by_cases hlt : k < q
            · obtain ⟨g, hg⟩ := HAP.out (by omega)
              subst hg
              have hkp : k < rs.length := by rw [HQ.out]; exact hlt
              obtain ⟨a0, a1, a2, a3, a4⟩ := rw_cells (hS.head : World.ownsRow _ _ _ _ _ _ _) k hkp hlt
              have HST := Lib.hid (wld_step rs k hkp t)
              obtain ⟨⟨xr, xt, xi, xw, xd⟩, hx⟩ : ∃ x, rs[k] = x := ⟨_, rfl⟩
              rw [hx, HP.out] at HST
              rw [hx] at a0 a1 a2 a3 a4
              simp only at a0 a1 a2 a3 a4 HST
              have HSE := Lib.hid ((hS.add #[.int .i64 xr, .int .i64 xt, .string xi, .string xw, .int .i64 xd] 37).drop 0 rfl rfl)
              have hk0 : (0 : Int) ≤ (k : Int) := by omega
              have hk2 : (k : Int) < (q : Int) := by omega
              clear hS hkp hx
              by_cases hc : xt < t
              · rw [if_pos hc] at HST
                go_wp2_with fail
                go_roundw
                case rel => exact ⟨k + 1, R + 1, by omega, by go_num, rfl, by omega, by omega, HST, HSE.out⟩
                case measure => simp [intOf]; omega
              · rw [if_neg hc, Int.add_zero] at HST
                go_wp2_with fail
                go_roundw
                case rel => exact ⟨k + 1, R, by omega, by go_num, rfl, by omega, by omega, HST, HSE.out⟩
                case measure => simp [intOf]; omega
            · obtain rfl : k = q := by omega
              have HN : Hid (R = wldB rs t) := Lib.hid (by
                have h := HP.out
                rw [List.take_of_length_le (by rw [HQ.out]; exact Nat.le_refl _)] at h
                exact h.symm)
              have HB := Lib.hid hS.below
              clear hS HP
              go_wp2_with fail
              go_ret2
              exact ⟨rs, R, HRW.out, fun _ => HN.out, fun h => absurd rfl h, rfl, HB.out⟩
      · rw [if_pos rfl]
        clear HR HL HE0
        go_enter Tryz.func13, Tryz.ntmps13
        go_wp2_with fail
        refine HA.out.mono ?_
        rintro e w1 ⟨rfl, h1⟩
        go_wp2_with fail
        refine (HK.out w1).mono ?_
        rintro e w2 ⟨rfl, rfl⟩
        go_wp2_with fail
        refine (HO.out w1).mono ?_
        rintro e w2 ⟨rfl, rfl⟩
        go_wp2_with fail
        go_ret2
        exact ⟨[], 0, rwIs_no (by decide), fun h => absurd h (by decide), fun _ => rfl, rfl, h1⟩
  · rw [if_neg h0]
    have hne : (E != 0) = true := by rw [bne_iff_ne]; exact h0
    clear HR HL HE HM HO HK
    go_enter Tryz.func13, Tryz.ntmps13
    go_wp2_with fail
    refine HA.out.mono ?_
    rintro e w1 ⟨rfl, h1⟩
    go_wp2_with fail
    go_ret2
    exact ⟨[], 0, rwIs_no h0, fun h => absurd h h0, fun _ => rfl, rfl, h1⟩
set_option maxRecDepth 100000 in
set_option maxHeartbeats 4000000 in
theorem wouldOf_calls (b : Nat) (A : Option Addr) (n c : Nat) (l : List Bev) (t u : Int) (cat : ByteArray) (w : World) (hb : b < w.heap.size) (hr : Rd w b 8 (.slice A n c) n (l.flatMap bevC)) (hk : ∀ x ∈ l, EvK x) (hn : n ≤ 3000) :
    Calls Tryz.prog 22 #[.slice A n c, .string cat, .int .i64 t, .int .i64 u] w (fun e w' => ∃ ys, SbdR (folE l u).1 cat ys ∧ e = .returned (.int .i64 (wldB (rowsB ys) t)) ∧ Below w.heap.size w w') := by
  obtain ⟨hl, _, _, _⟩ := hr.cells bevC_len (by omega)
  have HL : Hid (l.length ≤ 3000) := Lib.hid (by omega)
  have HC := Lib.hid (boardOf_calls b A n c l u cat w hb hr hk hn)
  clear hl hr hk
  go_enter Tryz.func22, Tryz.ntmps22
  go_wp2_with fail
  refine HC.out.mono ?_
  rintro e w3 ⟨A3, c3, ys, hY, rfl, hS4⟩
  have HY := Lib.hid hY
  obtain ⟨rs, hrs⟩ : ∃ rs, rowsB ys = rs := ⟨_, rfl⟩
  have HRS := Lib.hid hrs
  rw [hrs] at hS4 ⊢
  obtain ⟨q, hq⟩ : ∃ q, rs.length = q := ⟨_, rfl⟩
  rw [hq] at hS4 ⊢
  have HQ := Lib.hid hq
  have HAP : Hid (0 < q → ∃ g, A3 = some ⟨g, 0, none⟩) := Lib.hid (fun h0 => own_ptr (hS4.head : World.ownsRow _ _ _ _ _ _ _) h0)
  have HQZ : Hid (q ≤ 3000) := Lib.hid (by have := HL.out; have := sbd_len hY; have := rows_len ys; rw [hrs] at this; omega)
  clear hY hq hrs HC HL
  go_wp2_with fail
  go_loopw [9, 17] (fun s11 s37 wr => ∃ (k : Nat) (R : Int), k ≤ q ∧ s37 = .int .i64 k ∧ s11 = .int .i64 R ∧ 1 ≤ R ∧ R ≤ 1 + (k : Int) ∧ Hid (wldB (rs.take k) t = R) ∧ Sq w wr [rOwn w.heap.size 37 5 (.slice A3 q c3) q (rs.flatMap brwC)]) (fun _ s37 _ => q - (intOf s37).toNat)
  case atStart => exact ⟨0, 1, Nat.zero_le _, rfl, rfl, by omega, by omega, Lib.hid rfl, hS4⟩
  case round =>
    clear hS4
    obtain ⟨k, R, hk, rfl, rfl, hr1, hr2, HP, hS⟩ := hrel
    obtain ⟨wo, hwo⟩ : ∃ z, z = wr := ⟨_, rfl⟩
    subst hwo
    have hqz := HQZ.out
    by_cases hlt : k < q
    · obtain ⟨g, hg⟩ := HAP.out (by omega)
      subst hg
      have hkp : k < rs.length := by rw [HQ.out]; exact hlt
      obtain ⟨a0, a1, a2, a3, a4⟩ := rw_cells (hS.head : World.ownsRow _ _ _ _ _ _ _) k hkp hlt
      have HST := Lib.hid (wld_step rs k hkp t)
      obtain ⟨⟨xr, xt, xi, xw, xd⟩, hx⟩ : ∃ x, rs[k] = x := ⟨_, rfl⟩
      rw [hx, HP.out] at HST
      rw [hx] at a0 a1 a2 a3 a4
      simp only at a0 a1 a2 a3 a4 HST
      have HSE := Lib.hid ((hS.add #[.int .i64 xr, .int .i64 xt, .string xi, .string xw, .int .i64 xd] 37).drop 0 rfl rfl)
      have hk0 : (0 : Int) ≤ (k : Int) := by omega
      have hk2 : (k : Int) < (q : Int) := by omega
      clear hS hkp hx
      by_cases hc : xt < t
      · rw [if_pos hc] at HST
        go_wp2_with fail
        go_roundw
        case rel => exact ⟨k + 1, R + 1, by omega, by go_num, rfl, by omega, by omega, HST, HSE.out⟩
        case measure => simp [intOf]; omega
      · rw [if_neg hc, Int.add_zero] at HST
        go_wp2_with fail
        go_roundw
        case rel => exact ⟨k + 1, R, by omega, by go_num, rfl, by omega, by omega, HST, HSE.out⟩
        case measure => simp [intOf]; omega
    · obtain rfl : k = q := by omega
      have HN : Hid (wldB (rowsB ys) t = R) := Lib.hid (by
        have h := HP.out
        rw [List.take_of_length_le (by rw [HQ.out]; exact Nat.le_refl _)] at h
        rw [HRS.out]
        exact h)
      have HB := Lib.hid hS.below
      clear hS HP
      go_wp2_with fail
      go_ret
      exact ⟨ys, HY.out, by rw [HN.out]; rfl, HB.out⟩
/-- the two results of PlaceOn -/
theorem placeOn_res {tmps : Array Value} {W : World} {g : Nat} {v0 v1 v2 v3 v4 : Value} (h8 : tmps.getD 8 undef = .pointer (some ⟨g, 0, none⟩)) (hb : Blk W g 37 #[v0, v1, v2, v3, v4]) :
    (results Tryz.f20 tmps).run Tryz.prog W = .ok (.tuple #[.agg #[v0, v1, v2, v3, v4], tmps.getD 9 undef]) W := by
  have c0 := hb.cell 0
  have c1 := hb.cell 1
  have c2 := hb.cell 2
  have c3 := hb.cell 3
  have c4 := hb.cell 4
  clear hb
  rw [Array.getD_eq_getD_getElem?] at h8
  simp [results, Tryz.results20, go_sem, h8, c0, c1, c2, c3, c4]
set_option maxRecDepth 100000 in
set_option maxHeartbeats 4000000 in
theorem placeOn_calls (b : Nat) (A : Option Addr) (n c : Nat) (l : List Bev) (u : Int) (cat who : ByteArray) (w : World) (hb : b < w.heap.size) (hr : Rd w b 8 (.slice A n c) n (l.flatMap bevC)) (hk : ∀ x ∈ l, EvK x) (hn : n ≤ 3000) :
    Calls Tryz.prog 20 #[.slice A n c, .string cat, .string who, .int .i64 u] w (fun e w' => ∃ ys, SbdR (folE l u).1 cat ys ∧ e = .returned (.tuple #[plcV (plcB (rowsB ys) who), .bool (plcB (rowsB ys) who).isSome]) ∧ Below w.heap.size w w') := by
  obtain ⟨g8, hg8⟩ : ∃ z, z = w.heap.size := ⟨_, rfl⟩
  obtain ⟨W0, hW0, hS0⟩ : ∃ W, W = w.alloc (.cells #[.int .i64 0, .int .i64 0, .string ⟨#[]⟩, .string ⟨#[]⟩, .int .i64 0] 37) ∧ Sq w W [rBlk g8 37 #[.int .i64 0, .int .i64 0, .string ⟨#[]⟩, .string ⟨#[]⟩, .int .i64 0]] := ⟨_, rfl, by
    rw [hg8]
    exact (Sq.start w).add #[.int .i64 0, .int .i64 0, .string ⟨#[]⟩, .string ⟨#[]⟩, .int .i64 0] 37⟩
  obtain ⟨hl, _, _, _⟩ := hr.cells bevC_len (by omega)
  have HL : Hid (l.length ≤ 3000) := Lib.hid (by omega)
  have HC := Lib.hid (boardOf_calls b A n c l u cat W0 (by have := hS0.size; omega) (hS0.rd hr) hk hn)
  have HS0 := Lib.hid hS0
  clear hl hr hk hS0
  go_enter Tryz.func20, Tryz.ntmps20
  go_wp2_with fail
  rw [← hg8, ← hW0]
  clear hg8 hW0
  refine HC.out.mono ?_
  rintro e w3 ⟨A3, c3, ys, hY, rfl, hS3⟩
  have HY := Lib.hid hY
  obtain ⟨rs, hrs⟩ : ∃ rs, rowsB ys = rs := ⟨_, rfl⟩
  have HRS := Lib.hid hrs
  rw [hrs] at hS3 ⊢
  have hS4 := (HS0.out.merge hS3).rebase HS0.out.size
  obtain ⟨q, hq⟩ : ∃ q, rs.length = q := ⟨_, rfl⟩
  rw [hq] at hS4 ⊢
  have HQ := Lib.hid hq
  have HAP : Hid (0 < q → ∃ g, A3 = some ⟨g, 0, none⟩) := Lib.hid (fun h0 => own_ptr (hS4.head : World.ownsRow _ _ _ _ _ _ _) h0)
  have HQZ : Hid (q ≤ 3000) := Lib.hid (by have := HL.out; have := sbd_len hY; have := rows_len ys; rw [hrs] at this; omega)
  clear hS3 hY hq hrs HC HS0 HL
  go_wp2_with fail
  go_loopw [17] (fun s30 wr => ∃ k : Nat, k ≤ q ∧ s30 = .int .i64 k ∧ Hid (plcB (rs.take k) who = none) ∧ Sq w wr ([rOwn w.heap.size 37 5 (.slice A3 q c3) q (rs.flatMap brwC)] ++ [rBlk g8 37 #[.int .i64 0, .int .i64 0, .string ⟨#[]⟩, .string ⟨#[]⟩, .int .i64 0]])) (fun s30 _ => q - (intOf s30).toNat)
  case atStart => exact ⟨0, Nat.zero_le _, rfl, Lib.hid rfl, hS4⟩
  case round =>
    clear hS4
    obtain ⟨k, hk, rfl, HP, hS⟩ := hrel
    obtain ⟨wo, hwo⟩ : ∃ z, z = wr := ⟨_, rfl⟩
    subst hwo
    have hqz := HQZ.out
    by_cases hlt : k < q
    · obtain ⟨g, hg⟩ := HAP.out (by omega)
      subst hg
      have hkp : k < rs.length := by rw [HQ.out]; exact hlt
      obtain ⟨a0, a1, a2, a3, a4⟩ := rw_cells (hS.head : World.ownsRow _ _ _ _ _ _ _) k hkp hlt
      have HST := Lib.hid (plc_step rs k hkp who HP.out)
      have HAT := Lib.hid (plc_at rs k hkp who HP.out)
      obtain ⟨⟨xr, xt, xi, xw, xd⟩, hx⟩ : ∃ x, rs[k] = x := ⟨_, rfl⟩
      rw [hx] at a0 a1 a2 a3 a4 HST HAT
      simp only at a0 a1 a2 a3 a4 HST HAT
      have hSE := hS.add #[.int .i64 xr, .int .i64 xt, .string xi, .string xw, .int .i64 xd] 37
      have hk0 : (0 : Int) ≤ (k : Int) := by omega
      have hk2 : (k : Int) < (q : Int) := by omega
      obtain ⟨B, hB⟩ : ∃ B, (xw.toList == who.toList) = B := ⟨_, rfl⟩
      rw [hB] at HST HAT
      cases B
      · rw [if_neg (by decide)] at HST
        have hS5 := hSE.drop 0 rfl rfl
        clear hS hSE hkp hx
        go_wp2_with fail
        go_roundw
        case rel => exact ⟨k + 1, by omega, by go_num, HST, hS5⟩
        case measure => simp [intOf]; omega
      · have HAT2 := Lib.hid (HAT.out rfl)
        have hb8 := (hSE.nth 2 rfl : Blk _ g8 _ _)
        have e0 := hb8.cell 0
        have e1 := hb8.cell 1
        have e2 := hb8.cell 2
        have e3 := hb8.cell 3
        have e4 := hb8.cell 4
        have f0 := hb8.frozen 0
        have f1 := hb8.frozen 1
        have f2 := hb8.frozen 2
        have f3 := hb8.frozen 3
        have f4 := hb8.frozen 4
        have HSE := Lib.hid hSE
        have hne : g8 ≠ wo.heap.size := by have := (hS.nth 1 rfl : Blk _ g8 _ _).lt; omega
        clear hS hSE hkp hx hb8 HAT
        go_wp2_with fail
        have hSF := (((((HSE.out.front 2 rfl rfl).set_ 0 (.int .i64 xr)).set_ 1 (.int .i64 xt)).set_ 2 (.string xi)).set_ 3 (.string xw)).set_ 4 (.int .i64 xd)
        refine bodyPost_ret (placeOn_res rfl hSF.head) rfl ⟨ys, HY.out, ?_, hSF.below⟩
        rw [HRS.out, HAT2.out]
        rfl
    · obtain rfl : k = q := by omega
      have HN : Hid (plcB rs who = none) := Lib.hid (by
        have h := HP.out
        rwa [List.take_of_length_le (by rw [HQ.out]; exact Nat.le_refl _)] at h)
      have HSE := Lib.hid hS
      have hb8 := (hS.nth 1 rfl : Blk _ g8 _ _)
      have e0 := hb8.cell 0
      have e1 := hb8.cell 1
      have e2 := hb8.cell 2
      have e3 := hb8.cell 3
      have e4 := hb8.cell 4
      have f0 := hb8.frozen 0
      have f1 := hb8.frozen 1
      have f2 := hb8.frozen 2
      have f3 := hb8.frozen 3
      have f4 := hb8.frozen 4
      clear hS HP hb8
      go_wp2_with fail
      have hSF := (((((HSE.out.front 1 rfl rfl).set_ 0 (.int .i64 0)).set_ 1 (.int .i64 0)).set_ 2 (.string ⟨#[]⟩)).set_ 3 (.string ⟨#[]⟩)).set_ 4 (.int .i64 0)
      refine bodyPost_ret (placeOn_res rfl hSF.head) rfl ⟨ys, HY.out, ?_, hSF.below⟩
      rw [HRS.out, HN.out]
      rfl
end Go.Proofs.YtebaaoacmmhppaaGreat
